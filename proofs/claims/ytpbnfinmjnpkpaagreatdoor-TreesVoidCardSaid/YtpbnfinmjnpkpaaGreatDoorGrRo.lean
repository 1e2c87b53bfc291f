/-
  Checks: who goes on to whom, of rules that are no parser's (check.rounds): the walk.
-/
import Derived.Test.YtpbnfinmjnpkpaaGreatDoorGrRq
namespace Go.Proofs.YtpbnfinmjnpkpaaGreatDoor
open Go.RowKit
set_option maxRecDepth 100000
attribute [local go_sem] Oper.semAt_some
/-- a loop, what stands behind a round behind a name -/
theorem wpIn_loop2 {F : Fence} {n : Nat} {P : Program} {a : Act} {w : World} {Q : Exit → Act → World → Prop} {c : Code} (I : Act → World → Prop) (μ : Act → World → Nat) (h₀ : I a w)
    (round : ∀ a w, I a w → ∀ QL : Exit → Act → World → Prop, Hid (∀ a' w', I a' w' → μ a' w' < μ a w → QL .normal a' w') → Hid (∀ e a' w', e ≠ .normal → Q e a' w' → QL e a' w') → c.wpIn F n P QL a w) : (Code.loop c).wpIn F n P Q a w :=
  wpIn_loop I μ h₀ fun a w h => round a w h _ (hid fun _ _ h1 h2 => ⟨h1, h2⟩) (hid fun e a' w' h1 h2 => by
    cases e with
    | normal => exact absurd rfl h1
    | exit id => exact h2
    | goto l => exact h2
    | ret => exact h2
    | panic ch => exact h2
    | outgrown => exact h2)
/-- the marks of loops over functions that are over -/
def markD (D : Nat) : Deferred := { target := .collected D, args := #[] }
structure MarkL (n0 : Nat) (Ds : List Nat) (u : World) : Prop where
  d : ∀ D ∈ Ds, u.heap[D]? = some (.deferred (some [])) ∧ n0 ≤ D
  n : Ds.Nodup
theorem MarkL.nil (n0 : Nat) (u : World) : MarkL n0 [] u := ⟨fun _ h => absurd h List.not_mem_nil, List.nodup_nil⟩
theorem MarkL.keep {n0 : Nat} {Ds : List Nat} {u u' : World} (h : MarkL n0 Ds u) (hk : ∀ D : Nat, u.heap[D]? = some (Obj.deferred (some [])) → u'.heap[D]? = some (Obj.deferred (some []))) : MarkL n0 Ds u' :=
  ⟨fun D hD => ⟨hk D (h.d D hD).1, (h.d D hD).2⟩, h.n⟩
theorem MarkL.keepLt {n0 : Nat} {Ds : List Nat} {u u' : World} (h : MarkL n0 Ds u) (_h1 : ∀ D, D ∈ Ds → D ∈ Ds) (hk : ∀ D ∈ Ds, u'.heap[D]? = u.heap[D]?) : MarkL n0 Ds u' :=
  ⟨fun D hD => ⟨(hk D hD).trans (h.d D hD).1, (h.d D hD).2⟩, h.n⟩
theorem MatM.cells {Wb ob n i : Nat} {rb : Nat → Nat} {F : Nat → Nat → Bool} {u u' : World} (h : MatM Wb ob n i rb F u) (hc : ∀ (k : Nat) (cs : Array Value) (T : TypeId) (fr : Nat × Nat), u.heap[k]? = some (Obj.cells cs T fr) → u'.heap[k]? = some (Obj.cells cs T fr)) : MatM Wb ob n i rb F u' :=
  ⟨hc _ _ _ _ h.outer, fun j hj => ⟨hc _ _ _ _ (h.row j hj).1, (h.row j hj).2⟩, h.inj, h.le⟩
theorem MarkL.next {n0 : Nat} {Ds : List Nat} {u u' : World} (h : MarkL n0 Ds u) (hb : Below u.heap.size u u') : MarkL n0 Ds u' := h.keep fun D e => (hb.block D (heap_lt e)).trans e
theorem MarkL.others {n0 : Nat} {Ds : List Nat} {u u' : World} (h : MarkL n0 Ds u) (ho : KeepsOthers u u') : MarkL n0 Ds u' := h.keep fun D e => ho.same D _ e rfl
/-- behind a function's return its marks are taken, one by one -/
theorem leaves_marks {n n0 : Nat} {P : Program} {fn : Func} {tmps : Array Value} {R : Ending → World → Prop} (Pr : World → Prop) (hs : ∀ (u : World) (D : Nat), Pr u → u.heap[D]? = some (.deferred (some [])) → n0 ≤ D → Pr (u.putObj D (.deferred none)))
    (hd : ∀ u, Pr u → LeavesIn Fence.wide n P fn tmps R [] .returning u) : ∀ (Ds : List Nat) (u : World), MarkL n0 Ds u → Pr u → LeavesInM Fence.wide n P fn tmps R (Ds.map markD) .returning u
  | [], u, _, hp => hd u hp
  | D :: Ds, u, hm, hp => by
    obtain ⟨h1, h2⟩ := hm.d D List.mem_cons_self
    have hn := List.nodup_cons.1 hm.n
    refine ⟨by simp, .inl ⟨D, _, rfl, run_takeDeferred h1, leaves_marks Pr hs hd Ds _ ⟨fun D' hD' => ⟨?_, (hm.d D' (List.mem_cons_of_mem _ hD')).2⟩, hn.2⟩ (hs u D hp h1 h2)⟩⟩
    have h3 := (hm.d D' (List.mem_cons_of_mem _ hD')).1
    exact ((grownBy_putObj' u D (.deferred none)).block D' (heap_lt h3) (fun e => by cases e; exact hn.1 hD')).trans h3
/-- amid the first loop, in memory -/
structure RoI (W : World) (B cb ob n i : Nat) (G : List Value) (x4 x5 x7 : Value) (rb : Nat → Nat) (F : Nat → Nat → Bool) (Ds : List Nat) (u : World) : Prop where
  k : KpT B (fun k _ => k = cb) W u
  c : u.heap[cb]? = some (.cells (G ++ [x4, x5, .slice (some ⟨ob, 0, none⟩) n n, x7]).toArray 210 (0, 0))
  x : u.heap[W.heap.size]? = some (.cells #[.pointer (some ⟨cb, 0, none⟩)] 208 (0, 0))
  m : MatM W.heap.size ob n i rb F u
  d : MarkL W.heap.size Ds u
  o : W.heap.size < ob
theorem RoI.next {W : World} {B cb ob n i : Nat} {G : List Value} {x4 x5 x7 : Value} {rb : Nat → Nat} {F : Nat → Nat → Bool} {Ds : List Nat} {u u' : World} (h : RoI W B cb ob n i G x4 x5 x7 rb F Ds u) (hb : Below u.heap.size u u') (hB : B ≤ u.heap.size) : RoI W B cb ob n i G x4 x5 x7 rb F Ds u' :=
  ⟨h.k.trans (KpT.of hb hB), (hb.block _ (heap_lt h.c)).trans h.c, (hb.block _ (heap_lt h.x)).trans h.x, h.m.next hb, h.d.next hb, h.o⟩
/-- the rules that a rule goes on to, by some of its nodes -/
def goesTo (rs : List Gr.Ru) (r : Gr.Ru) (l : List Gr.Nd) : List Nat := l.filterMap fun x => match Gr.findR rs x.name with
  | none => none
  | some k => if Gr.names x && Gr.isTok r && Gr.isTok (Gr.ruAt rs k) then some k else none
def goX (rs : List Gr.Ru) (r : Gr.Ru) (x : Gr.Nd) : Option Nat := match Gr.findR rs x.name with
  | none => none
  | some k => if Gr.names x && Gr.isTok r && Gr.isTok (Gr.ruAt rs k) then some k else none
theorem goesTo_snoc (rs : List Gr.Ru) (r : Gr.Ru) (l : List Gr.Nd) (x : Gr.Nd) : goesTo rs r (l ++ [x]) = goesTo rs r l ++ (goX rs r x).toList := by
  unfold goesTo
  rw [List.filterMap_append]
  congr 1
  all_goals
    show List.filterMap (goX rs r) [x] = _
    cases h : goX rs r x <;> simp [h]
theorem goX_no (rs : List Gr.Ru) (r : Gr.Ru) (x : Gr.Nd) (h : Gr.names x = false ∨ Gr.isTok r = false ∨ Gr.findR rs x.name = none ∨ ∃ k, Gr.findR rs x.name = some k ∧ Gr.isTok (Gr.ruAt rs k) = false) : goX rs r x = none := by
  unfold goX
  rcases h with h | h | h | ⟨k, h, h2⟩
  · rw [h]; cases Gr.findR rs x.name <;> simp
  · rw [h]; cases Gr.findR rs x.name <;> simp
  · rw [h]
  · rw [h]; simp [h2]
theorem goX_yes (rs : List Gr.Ru) (r : Gr.Ru) (x : Gr.Nd) (k : Nat) (h1 : Gr.names x = true) (h2 : Gr.isTok r = true) (h3 : Gr.findR rs x.name = some k) (h4 : Gr.isTok (Gr.ruAt rs k) = true) : goX rs r x = some k := by
  unfold goX
  rw [h3]
  simp [h1, h2, h4]
theorem goesTo_all (rs : List Gr.Ru) (r : Gr.Ru) : Gr.roundOf rs r = goesTo rs r (Gr.ndT r.body) := by
  unfold Gr.roundOf goesTo
  rw [← Gr.ndT_pre r.body 1, List.filterMap_map]
  rfl
section
variable {w0 : World} {B : Nat} {rs : List Gr.Ru}
set_option maxHeartbeats 16000000 in
theorem rounds_any (cb : Nat) (gn : List UInt8) (bd sta : Int) (RA : Option Addr) (rc : Nat) (x4 x5 x6 x7 : Value) (W : World)
    (hC : W.heap[cb]? = some (.cells #[Gr.strV gn, .int .i64 bd, .int .i64 sta, .slice RA rs.length rc, x4, x5, x6, x7] 210 (0, 0))) (hbs : B ≤ W.heap.size) (hcb : B ≤ cb) (hr : RsAt w0 B RA rs) (hb : Below B w0 W) :
    Calls Tryz.prog 128 #[.pointer (some ⟨cb, 0, none⟩)] W fun e W' => (∃ v, e = .returned v) ∧ (∃ ob rb, W'.heap[cb]? = some (.cells #[Gr.strV gn, .int .i64 bd, .int .i64 sta, .slice RA rs.length rc, x4, x5, .slice (some ⟨ob, 0, none⟩) rs.length rs.length, x7] 210 (0, 0)) ∧
      MatM W.heap.size ob rs.length rs.length rb (Gr.roundF rs) W') ∧ KpT B (fun k _ => k = cb) W W' := by
  obtain ⟨n, hn⟩ : ∃ n, rs.length = n := ⟨_, rfl⟩
  have HN := hid hn
  have hn6 : n ≤ 1000000 := by have := hr.few; omega
  rw [hn] at hC ⊢
  unfold Gr.strV at *
  have hcl := heap_lt hC
  have hb1 := below_new W (.cells #[.pointer (some ⟨cb, 0, none⟩)] 208)
  have hx1 := heap_alloc_new W (.cells #[.pointer (some ⟨cb, 0, none⟩)] 208)
  obtain ⟨W1, hW1⟩ : ∃ W1, Hid (W.alloc (.cells #[.pointer (some ⟨cb, 0, none⟩)] 208) = W1) := ⟨_, hid rfl⟩
  rw [hW1.out] at hb1 hx1
  have hC1 := (hb1.block _ hcl).trans hC
  have hxl := heap_lt hx1
  have hcl1 : cb < W1.heap.size := heap_lt hC1
  have s0 : W1.cell? ⟨W.heap.size, 0, none⟩ = some (.pointer (some ⟨cb, 0, none⟩)) := by rw [Lib.cell_of_heap hx1]; rfl
  have s3 : W1.cell? ⟨cb, 3, none⟩ = some (.slice RA n rc) := by rw [Lib.cell_of_heap hC1]; rfl
  have s6 : W1.cell? ⟨cb, 6, none⟩ = some x6 := by rw [Lib.cell_of_heap hC1]; rfl
  have s7 := Lib.frozen_of_heap hC1 6
  have t0 := fun ob : Obj => ((below_new W1 ob).cell (p := ⟨W.heap.size, 0, none⟩) hxl).trans s0
  have t3 := fun ob : Obj => ((below_new W1 ob).cell (p := ⟨cb, 3, none⟩) hcl1).trans s3
  have t6 := fun ob : Obj => ((below_new W1 ob).cell (p := ⟨cb, 6, none⟩) hcl1).trans s6
  have t7 := fun ob : Obj => ((below_new W1 ob).frozen (p := ⟨cb, 6, none⟩) hcl1).trans s7
  have hmk := mkRows n hn6
  have HC1 := hid hC1
  have HX1 := hid hx1
  have HB1 := hid hb1
  have HCL := hid hC
  clear hb1 hx1 hC1 hC hn
  refine (callsIn_wide (n := 5)).1 ?_
  refine callsIn_of_wp_marks Tryz.func128 rfl trivial ?_ rfl
  simp only [Tryz.ntmps128, List.size_toArray, List.length_cons, List.length_nil, Nat.reduceAdd, Nat.reduceSub, Array.replicate_succ, Array.replicate_zero, List.push_toArray, List.append_toArray, List.nil_append, List.cons_append]
  gi_wp2_with fail
  rw [hW1.out]
  clear hW1
  refine wpIn_wide.2 ?_
  go_region
  clear s0 s3 s6 s7 t0 t3 t6 t7 hmk
  have hzs : (W1.setCell ⟨cb, 6, none⟩ (.slice (some ⟨W1.heap.size, 0, none⟩) n n)).heap.size = W1.heap.size := by simp
  have ho2 := Only.of_set W1 cb 6 (.slice (some ⟨W1.heap.size, 0, none⟩) n n)
  have hh2 := heap_setCell_same W1 cb 6 _ _ (.slice (some ⟨W1.heap.size, 0, none⟩) n n) HC1.out
  have hb2 := (below_new (W1.setCell ⟨cb, 6, none⟩ (.slice (some ⟨W1.heap.size, 0, none⟩) n n)) (.cells (Array.replicate n (Value.slice none 0 0)) 155)).drew
  have hr2 := heap_alloc_new (W1.setCell ⟨cb, 6, none⟩ (.slice (some ⟨W1.heap.size, 0, none⟩) n n)) (.cells (Array.replicate n (Value.slice none 0 0)) 155)
  rw [hzs] at hr2 hb2
  have hr3 : ((W1.setCell ⟨cb, 6, none⟩ (.slice (some ⟨W1.heap.size, 0, none⟩) n n)).alloc (.cells (Array.replicate n (Value.slice none 0 0)) 155)).drew.heap[W1.heap.size]? = some (.cells (Array.replicate n (Value.slice none 0 0)) 155 (0, 0)) := hr2
  generalize ((W1.setCell ⟨cb, 6, none⟩ (.slice (some ⟨W1.heap.size, 0, none⟩) n n)).alloc (.cells (Array.replicate n (Value.slice none 0 0)) 155)).drew = W2 at hb2 hr3 ⊢
  have hk5 : ∀ b, b < W1.heap.size → b ≠ cb → W2.heap[b]? = W1.heap[b]? := fun b h1 h2 => (hb2.block b h1).trans (ho2.block b h1 h2)
  have hxs : W.heap.size ≠ cb := by omega
  have H0 : Hid (RoI W B cb W1.heap.size n 0 [.string ⟨gn.toArray⟩, .int .i64 bd, .int .i64 sta, .slice RA n rc] x4 x5 x7 (fun _ => 0) (fun i k => (Gr.roundOf rs (Gr.ruAt rs i)).contains k) [] W2) := hid
    ⟨⟨(HB1.out.mono hbs).trans ((ho2.below (fun k e => by omega) (Below.refl _ _) (Nat.le_trans hbs HB1.out.size)).trans (hb2.mono (Nat.le_trans hbs HB1.out.size))), fun k cs T e hc => (hk5 k (by have := heap_lt e; have := HB1.out.size; omega) hc).trans ((HB1.out.block k (heap_lt e)).trans e)⟩,
      (hb2.block _ hcl1).trans hh2, (hk5 _ hxl hxs).trans HX1.out, MatM.start hr3 _ _, MarkL.nil _ _, hxl⟩
  have hob : W.heap.size < W1.heap.size := hxl
  generalize W1.heap.size = ob at H0 hob ⊢
  clear hzs ho2 hh2 hb2 hr2 hr3 hk5 hxs hxl hcl1 HC1 HX1 HB1 W1
  have c0 : W2.cell? ⟨W.heap.size, 0, none⟩ = some (.pointer (some ⟨cb, 0, none⟩)) := by rw [Lib.cell_of_heap H0.out.x]; rfl
  have c3 : W2.cell? ⟨cb, 3, none⟩ = some (.slice RA n rc) := by rw [Lib.cell_of_heap H0.out.c]; rfl
  gi_wp2_with fail
  clear c0 c3
  refine wpIn_loop2 (fun a' u => ∃ (i : Nat) (Ds : List Nat) (rb : Nat → Nat) (u2 u3 u4 u5 u26 u27 u28 u29 u30 u31 u32 u33 u34 u35 u36 u37 u38 u39 u40 u41 u42 u43 u44 u45 u46 u47 u48 u49 u50 u51 u52 u53 u54 u55 u56 u57 u58 u59 u60 u61 u62 u63 u64 u65 u66 u67 u68 u69 u70 u71 u72 u73 u74 u75 u76 u77 u78 u79 u80 u81 u82 u83 u84 u85 u86 : Value), i ≤ n ∧ a' = { tmps := #[.pointer (some ⟨cb, 0, none⟩), .pointer (some ⟨W.heap.size, 0, none⟩), u2, u3, u4, u5, undef, undef, undef, .pointer (some ⟨cb, 0, none⟩), .pointer (some ⟨cb, 0, none⟩), .pointer (some ⟨cb, 0, none⟩), .pointer (some ⟨cb, 0, none⟩), .pointer (some ⟨cb, 3, none⟩), .slice RA n rc, .int .i64 (n : Int), .slice (some ⟨ob, 0, none⟩) n n, .pointer (some ⟨cb, 0, none⟩), .pointer (some ⟨cb, 6, none⟩), .pointer (some ⟨cb, 0, none⟩), .pointer (some ⟨cb, 0, none⟩), .pointer (some ⟨cb, 0, none⟩), .pointer (some ⟨cb, 3, none⟩), .slice RA n rc, .int .i64 (n : Int), .int .i64 (i : Int), u26, u27, u28, u29, u30, u31, u32, u33, u34, u35, u36, u37, u38, u39, u40, u41, u42, u43, u44, u45, u46, u47, u48, u49, u50, u51, u52, u53, u54, u55, u56, u57, u58, u59, u60, u61, u62, u63, u64, u65, u66, u67, u68, u69, u70, u71, u72, u73, u74, u75, u76, u77, u78, u79, u80, u81, u82, u83, u84, u85, u86, undef, undef, undef, undef, undef, undef, undef, undef, undef, undef, undef, undef, undef, undef, undef, undef, undef, undef, undef, undef, undef, undef, undef, undef, undef, undef, undef, undef, undef, undef, undef, undef, undef, undef, undef, undef, undef, undef, undef, undef, undef, undef, undef, undef, undef, undef, undef, undef, undef, undef, undef, undef, undef, undef, undef, undef, undef, undef, undef, undef, undef, undef, undef, undef, undef, undef, undef, undef, undef, undef], defers := Ds.map markD } ∧ Hid (RoI W B cb ob n i [.string ⟨gn.toArray⟩, .int .i64 bd, .int .i64 sta, .slice RA n rc] x4 x5 x7 rb (fun i k => (Gr.roundOf rs (Gr.ruAt rs i)).contains k) Ds u)) (fun a' _ => n - (intOf (a'.tmps.getD 25 undef)).toNat) ⟨0, [], _, _, _, _, _, _, _, _, _, _, _, _, _, _, _, _, _, _, _, _, _, _, _, _, _, _, _, _, _, _, _, _, _, _, _, _, _, _, _, _, _, _, _, _, _, _, _, _, _, _, _, _, _, _, _, _, _, _, _, _, _, _, _, _, _, _, Nat.zero_le _, rfl, H0⟩ ?_
  intro a' u h QL HQN HQE
  obtain ⟨i, Ds, rb, h⟩ := h
  refine Exists.elim h ?_
  clear h
  intro u2 h
  refine Exists.elim h ?_
  clear h
  intro u3 h
  refine Exists.elim h ?_
  clear h
  intro u4 h
  refine Exists.elim h ?_
  clear h
  intro u5 h
  refine Exists.elim h ?_
  clear h
  intro u26 h
  refine Exists.elim h ?_
  clear h
  intro u27 h
  refine Exists.elim h ?_
  clear h
  intro u28 h
  refine Exists.elim h ?_
  clear h
  intro u29 h
  refine Exists.elim h ?_
  clear h
  intro u30 h
  refine Exists.elim h ?_
  clear h
  intro u31 h
  refine Exists.elim h ?_
  clear h
  intro u32 h
  refine Exists.elim h ?_
  clear h
  intro u33 h
  refine Exists.elim h ?_
  clear h
  intro u34 h
  refine Exists.elim h ?_
  clear h
  intro u35 h
  refine Exists.elim h ?_
  clear h
  intro u36 h
  refine Exists.elim h ?_
  clear h
  intro u37 h
  refine Exists.elim h ?_
  clear h
  intro u38 h
  refine Exists.elim h ?_
  clear h
  intro u39 h
  refine Exists.elim h ?_
  clear h
  intro u40 h
  refine Exists.elim h ?_
  clear h
  intro u41 h
  refine Exists.elim h ?_
  clear h
  intro u42 h
  refine Exists.elim h ?_
  clear h
  intro u43 h
  refine Exists.elim h ?_
  clear h
  intro u44 h
  refine Exists.elim h ?_
  clear h
  intro u45 h
  refine Exists.elim h ?_
  clear h
  intro u46 h
  refine Exists.elim h ?_
  clear h
  intro u47 h
  refine Exists.elim h ?_
  clear h
  intro u48 h
  refine Exists.elim h ?_
  clear h
  intro u49 h
  refine Exists.elim h ?_
  clear h
  intro u50 h
  refine Exists.elim h ?_
  clear h
  intro u51 h
  refine Exists.elim h ?_
  clear h
  intro u52 h
  refine Exists.elim h ?_
  clear h
  intro u53 h
  refine Exists.elim h ?_
  clear h
  intro u54 h
  refine Exists.elim h ?_
  clear h
  intro u55 h
  refine Exists.elim h ?_
  clear h
  intro u56 h
  refine Exists.elim h ?_
  clear h
  intro u57 h
  refine Exists.elim h ?_
  clear h
  intro u58 h
  refine Exists.elim h ?_
  clear h
  intro u59 h
  refine Exists.elim h ?_
  clear h
  intro u60 h
  refine Exists.elim h ?_
  clear h
  intro u61 h
  refine Exists.elim h ?_
  clear h
  intro u62 h
  refine Exists.elim h ?_
  clear h
  intro u63 h
  refine Exists.elim h ?_
  clear h
  intro u64 h
  refine Exists.elim h ?_
  clear h
  intro u65 h
  refine Exists.elim h ?_
  clear h
  intro u66 h
  refine Exists.elim h ?_
  clear h
  intro u67 h
  refine Exists.elim h ?_
  clear h
  intro u68 h
  refine Exists.elim h ?_
  clear h
  intro u69 h
  refine Exists.elim h ?_
  clear h
  intro u70 h
  refine Exists.elim h ?_
  clear h
  intro u71 h
  refine Exists.elim h ?_
  clear h
  intro u72 h
  refine Exists.elim h ?_
  clear h
  intro u73 h
  refine Exists.elim h ?_
  clear h
  intro u74 h
  refine Exists.elim h ?_
  clear h
  intro u75 h
  refine Exists.elim h ?_
  clear h
  intro u76 h
  refine Exists.elim h ?_
  clear h
  intro u77 h
  refine Exists.elim h ?_
  clear h
  intro u78 h
  refine Exists.elim h ?_
  clear h
  intro u79 h
  refine Exists.elim h ?_
  clear h
  intro u80 h
  refine Exists.elim h ?_
  clear h
  intro u81 h
  refine Exists.elim h ?_
  clear h
  intro u82 h
  refine Exists.elim h ?_
  clear h
  intro u83 h
  refine Exists.elim h ?_
  clear h
  intro u84 h
  refine Exists.elim h ?_
  clear h
  intro u85 h
  refine Exists.elim h ?_
  clear h
  intro u86 h
  obtain ⟨hi, ha, HI⟩ := h
  subst ha
  have hwi : IntKind.i64.wrap ((i : Int) + 1) = (i : Int) + 1 := w64 (by omega) (by omega)
  by_cases hlt : i < n
  · have hir : i < rs.length := by have := HN.out; omega
    have hltI : (i : Int) < (n : Int) := by omega
    have hi0 : (0 : Int) ≤ (i : Int) := by omega
    have hbu : Below B w0 u := hb.trans HI.out.k.1
    have hBu : B ≤ u.heap.size := Nat.le_trans hbs HI.out.k.1.size
    obtain ⟨xs, hr1, hr2⟩ := hr.r
    obtain ⟨b, o, v0, v1, v2, v3, v4, v5, v6, v7, v8, v9, hRA, hbB, hru, c0, c1, c2, c3, c4, c5, c6, c7, c8, c9⟩ := readsRu hr1 hr2 i hir
    obtain ⟨xk, xm, xt, xSA, xa, xsc, xUA, xb, xuc, z0, z1, z2, hv, hnd⟩ := hru.form
    have hokr := hr.ok rs[i] (List.getElem_mem hir)
    have hui : rs[i] = Gr.ruAt rs i := (ruAt_eq hir).symm
    injection hv with hv0 hv
    injection hv with hv1 hv
    injection hv with hv2 hv
    injection hv with hv3 hv
    injection hv with hv4 hv
    injection hv with hv5 hv
    injection hv with hv6 hv
    injection hv with hv7 hv
    injection hv with hv8 hv
    injection hv with hv9 hv
    subst hv0 hv1 hv2 hv3 hv4 hv5 hv6 hv7 hv8 hv9
    rw [hui] at hru hnd c0 c1 hokr
    have HUI := hid hui
    obtain ⟨ru, hrue⟩ : ∃ r, Gr.ruAt rs i = r := ⟨_, rfl⟩
    have HRUE := hid hrue
    rw [hrue] at hru hnd c0 c1 hokr
    obtain ⟨rnm, rk, rbd⟩ := ru
    dsimp only at *
    have HRU := hid hru
    have HND := hid hnd
    have HOK := hid hokr
    unfold Gr.strV at c0 HRU
    have e0 := (hbu.cell (p := ⟨b, o + i * 10, none⟩) hbB).trans c0
    have e1 := (hbu.cell (p := ⟨b, o + i * 10 + 1, none⟩) hbB).trans c1
    have e2 := (hbu.cell (p := ⟨b, o + i * 10 + 2, none⟩) hbB).trans c2
    have e3 := (hbu.cell (p := ⟨b, o + i * 10 + 3, none⟩) hbB).trans c3
    have e4 := (hbu.cell (p := ⟨b, o + i * 10 + 4, none⟩) hbB).trans c4
    have e5 := (hbu.cell (p := ⟨b, o + i * 10 + 5, none⟩) hbB).trans c5
    have e6 := (hbu.cell (p := ⟨b, o + i * 10 + 6, none⟩) hbB).trans c6
    have e7 := (hbu.cell (p := ⟨b, o + i * 10 + 7, none⟩) hbB).trans c7
    have e8 := (hbu.cell (p := ⟨b, o + i * 10 + 8, none⟩) hbB).trans c8
    have e9 := (hbu.cell (p := ⟨b, o + i * 10 + 9, none⟩) hbB).trans c9
    clear c0 c1 c2 c3 c4 c5 c6 c7 c8 c9 hr1 hr2 hru hnd hui hrue hv hokr
    subst hRA
    gi_wp2_with fail
    clear e0 e1 e2 e3 e4 e5 e6 e7 e8 e9
    have hzi : (u.alloc (.cells #[.int .i64 (i : Int)] 3)).heap.size = u.heap.size + 1 := by simp
    have hb4 : Below u.heap.size u ((u.alloc (.cells #[.int .i64 (i : Int)] 3)).alloc (.cells #[.string ⟨rnm.toArray⟩, .int .u8 (rk : Int), .int .u8 xk, .string xm, .string xt, .slice xSA xa xsc, .slice xUA xb xuc, .int .i64 z0, .int .i64 z1, .int .i64 z2] 80)) := (below_new _ _).alloc (by omega) _
    have hi4 : ((u.alloc (.cells #[.int .i64 (i : Int)] 3)).alloc (.cells #[.string ⟨rnm.toArray⟩, .int .u8 (rk : Int), .int .u8 xk, .string xm, .string xt, .slice xSA xa xsc, .slice xUA xb xuc, .int .i64 z0, .int .i64 z1, .int .i64 z2] 80)).heap[u.heap.size]? = some (.cells #[.int .i64 (i : Int)] 3 (0, 0)) := by rw [Below.heap_alloc _ _ _ (by omega)]; exact heap_alloc_new _ _
    have hr4 : ((u.alloc (.cells #[.int .i64 (i : Int)] 3)).alloc (.cells #[.string ⟨rnm.toArray⟩, .int .u8 (rk : Int), .int .u8 xk, .string xm, .string xt, .slice xSA xa xsc, .slice xUA xb xuc, .int .i64 z0, .int .i64 z1, .int .i64 z2] 80)).heap[u.heap.size + 1]? = some (.cells #[.string ⟨rnm.toArray⟩, .int .u8 (rk : Int), .int .u8 xk, .string xm, .string xt, .slice xSA xa xsc, .slice xUA xb xuc, .int .i64 z0, .int .i64 z1, .int .i64 z2] 80 (0, 0)) := by rw [← hzi]; exact heap_alloc_new _ _
    generalize ((u.alloc (.cells #[.int .i64 (i : Int)] 3)).alloc (.cells #[.string ⟨rnm.toArray⟩, .int .u8 (rk : Int), .int .u8 xk, .string xm, .string xt, .slice xSA xa xsc, .slice xUA xb xuc, .int .i64 z0, .int .i64 z1, .int .i64 z2] 80)) = W4 at hb4 hi4 hr4 ⊢
    have hm4 := HI.out.next hb4 hBu
    have s0 : W4.cell? ⟨W.heap.size, 0, none⟩ = some (.pointer (some ⟨cb, 0, none⟩)) := by rw [Lib.cell_of_heap hm4.x]; rfl
    have s1 : W4.cell? ⟨u.heap.size, 0, none⟩ = some (.int .i64 (i : Int)) := by rw [Lib.cell_of_heap hi4]; rfl
    have s3 : W4.cell? ⟨cb, 3, none⟩ = some (.slice (some ⟨b, o, none⟩) n rc) := by rw [Lib.cell_of_heap hm4.c]; rfl
    have s6 : W4.cell? ⟨cb, 6, none⟩ = some (.slice (some ⟨ob, 0, none⟩) n n) := by rw [Lib.cell_of_heap hm4.c]; rfl
    have hol : ob < W4.heap.size := heap_lt hm4.m.outer
    have hxl4 : W.heap.size < W4.heap.size := heap_lt hm4.x
    have hcl4 : cb < W4.heap.size := heap_lt hm4.c
    have hil4 : u.heap.size < W4.heap.size := heap_lt hi4
    obtain ⟨tv, t4⟩ : ∃ v, W4.cell? ⟨ob, i, none⟩ = some v := by
      rw [Lib.cell_of_heap hm4.m.outer]
      unfold Gr.rArr
      exact ⟨_, by simp [hlt]; rfl⟩
    have t5 : W4.frozen? ⟨ob, i, none⟩ = false := Lib.frozen_of_heap hm4.m.outer i
    have y0 := fun o' : Obj => ((below_new W4 o').cell (p := ⟨W.heap.size, 0, none⟩) hxl4).trans s0
    have y1 := fun o' : Obj => ((below_new W4 o').cell (p := ⟨u.heap.size, 0, none⟩) hil4).trans s1
    have y3 := fun o' : Obj => ((below_new W4 o').cell (p := ⟨cb, 3, none⟩) hcl4).trans s3
    have y6 := fun o' : Obj => ((below_new W4 o').cell (p := ⟨cb, 6, none⟩) hcl4).trans s6
    have y4 := fun o' : Obj => ((below_new W4 o').cell (p := ⟨ob, i, none⟩) hol).trans t4
    have y5 := fun o' : Obj => ((below_new W4 o').frozen (p := ⟨ob, i, none⟩) hol).trans t5
    have hS3 : ∀ o' : Obj, (W4.alloc o').drew.cell? ⟨W.heap.size, 0, none⟩ = some (.pointer (some ⟨cb, 0, none⟩)) ∧ (W4.alloc o').drew.cell? ⟨u.heap.size, 0, none⟩ = some (.int .i64 (i : Int)) ∧ (W4.alloc o').drew.cell? ⟨cb, 3, none⟩ = some (.slice (some ⟨b, o, none⟩) n rc) ∧ (W4.alloc o').drew.cell? ⟨cb, 6, none⟩ = some (.slice (some ⟨ob, 0, none⟩) n n) := fun o' => ⟨y0 o', y1 o', y3 o', y6 o'⟩
    have hobm0 := hm4.m.far hm4.c (by decide) (by decide)
    have hobx0 := hm4.m.far hm4.x (by decide) (by decide)
    have hobi0 := hm4.m.far hi4 (by decide) (by decide)
    have hS5 : ∀ (o' : Obj) (v : Value), ((W4.setCell ⟨ob, i, none⟩ v).alloc o').drew.cell? ⟨W.heap.size, 0, none⟩ = some (.pointer (some ⟨cb, 0, none⟩)) ∧ ((W4.setCell ⟨ob, i, none⟩ v).alloc o').drew.cell? ⟨u.heap.size, 0, none⟩ = some (.int .i64 (i : Int)) ∧ ((W4.setCell ⟨ob, i, none⟩ v).alloc o').drew.cell? ⟨cb, 3, none⟩ = some (.slice (some ⟨b, o, none⟩) n rc) ∧ ((W4.setCell ⟨ob, i, none⟩ v).alloc o').drew.cell? ⟨cb, 6, none⟩ = some (.slice (some ⟨ob, 0, none⟩) n n) := fun o' v => ⟨((below_new (W4.setCell ⟨ob, i, none⟩ v) o').cell (p := ⟨W.heap.size, 0, none⟩) (by simpa using hxl4)).trans (cell_set_far hobx0.1 s0), ((below_new (W4.setCell ⟨ob, i, none⟩ v) o').cell (p := ⟨u.heap.size, 0, none⟩) (by simpa using hil4)).trans (cell_set_far hobi0.1 s1), ((below_new (W4.setCell ⟨ob, i, none⟩ v) o').cell (p := ⟨cb, 3, none⟩) (by simpa using hcl4)).trans (cell_set_far hobm0.1 s3), ((below_new (W4.setCell ⟨ob, i, none⟩ v) o').cell (p := ⟨cb, 6, none⟩) (by simpa using hcl4)).trans (cell_set_far hobm0.1 s6)⟩
    have hmk := mkBools n hn6
    have HM4 := hid hm4
    have HI4 := hid hi4
    have HR4 := hid hr4
    have HB4 := hid hb4
    clear hzi hb4 hi4 hr4 hm4 hobm0 hobx0 hobi0
    refine wpIn_wide.2 ?_
    go_region_held3 (fun w' => w'.cell? ⟨W.heap.size, 0, none⟩ = some (.pointer (some ⟨cb, 0, none⟩)) ∧ w'.cell? ⟨u.heap.size, 0, none⟩ = some (.int .i64 (i : Int)) ∧ w'.cell? ⟨cb, 3, none⟩ = some (.slice (some ⟨b, o, none⟩) n rc) ∧ w'.cell? ⟨cb, 6, none⟩ = some (.slice (some ⟨ob, 0, none⟩) n n)) (first | assumption | exact ⟨s0, s1, s3, s6⟩ | exact hS3 _ | exact hS5 _ _) (fail)
    clear s0 s1 s3 s6 t4 t5 y0 y1 y3 y4 y5 y6 hmk hS3 hS5
    have hzs : (W4.setCell ⟨ob, i, none⟩ (.slice (some ⟨W4.heap.size, 0, none⟩) n n)).heap.size = W4.heap.size := by simp
    have ho4 := Only.of_set W4 ob i (.slice (some ⟨W4.heap.size, 0, none⟩) n n)
    have hh4 := heap_setCell_same W4 ob i _ _ (.slice (some ⟨W4.heap.size, 0, none⟩) n n) HM4.out.m.outer
    have hb5 := (below_new (W4.setCell ⟨ob, i, none⟩ (.slice (some ⟨W4.heap.size, 0, none⟩) n n)) (.cells (Array.replicate n (Value.bool false)) 4)).drew
    have hx5 := heap_alloc_new (W4.setCell ⟨ob, i, none⟩ (.slice (some ⟨W4.heap.size, 0, none⟩) n n)) (.cells (Array.replicate n (Value.bool false)) 4)
    rw [hzs] at hx5 hb5
    have hx6 : ((W4.setCell ⟨ob, i, none⟩ (.slice (some ⟨W4.heap.size, 0, none⟩) n n)).alloc (.cells (Array.replicate n (Value.bool false)) 4)).drew.heap[W4.heap.size]? = some (.cells (Array.replicate n (Value.bool false)) 4 (0, 0)) := hx5
    clear hx5
    generalize ((W4.setCell ⟨ob, i, none⟩ (.slice (some ⟨W4.heap.size, 0, none⟩) n n)).alloc (.cells (Array.replicate n (Value.bool false)) 4)).drew = W5 at hb5 hx6 ⊢
    have hk5 : ∀ k, k < W4.heap.size → k ≠ ob → W5.heap[k]? = W4.heap[k]? := fun k h1 h2 => (hb5.block k h1).trans (ho4.block k h1 h2)
    have hWob := HI.out.o
    have hobi1 : ob < u.heap.size := heap_lt HI.out.m.outer
    have hobm := HM4.out.m.far HM4.out.c (by decide) (by decide)
    have hr5 : RoI W B cb ob n (i + 1) [.string ⟨gn.toArray⟩, .int .i64 bd, .int .i64 sta, .slice (some ⟨b, o, none⟩) n rc] x4 x5 x7 (fun j => if j = i then W4.heap.size else rb j) (fun j c => if j = i then false else (Gr.roundOf rs (Gr.ruAt rs j)).contains c) Ds W5 :=
      ⟨⟨HM4.out.k.1.trans (ho4.below (fun k e => by omega) (Below.refl _ _) (Nat.le_trans hBu HB4.out.size) |>.trans (hb5.mono (Nat.le_trans hBu HB4.out.size))), fun k cs T e hc => (hk5 k (by have := heap_lt e; omega) (by have := heap_lt e; omega)).trans (HM4.out.k.2 k cs T e hc)⟩,
        (hk5 _ hcl4 (fun e => hobm.1 e.symm)).trans HM4.out.c, (hk5 _ hxl4 (by omega)).trans HM4.out.x,
        HM4.out.m.push2 hlt (Nat.le_trans HI.out.k.1.size HB4.out.size) W4.heap.size hx6 (Nat.le_refl _) ((hb5.block _ hol).trans hh4) (fun j hj => hk5 _ (heap_lt (HM4.out.m.row j hj).1) (HM4.out.m.ne hj)),
        HM4.out.d.keep (fun D e => (hk5 D (heap_lt e) (fun e2 => by rw [e2, HM4.out.m.outer] at e; cases e)).trans e), hWob⟩
    have hi5 := (hk5 _ hil4 (fun e => by have := hobi1; omega)).trans HI4.out
    have hl5 := (hk5 _ (heap_lt HR4.out) (fun e => by have := hobi1; omega)).trans HR4.out
    have hxw : W4.heap.size < W5.heap.size := heap_lt hx6
    have HX6 := hid hx6
    have H5 := hid hr5
    have b2 : W5.cell? ⟨u.heap.size + 1, 2, none⟩ = some (.int .u8 xk) := by rw [Lib.cell_of_heap hl5]; rfl
    have b3 : W5.cell? ⟨u.heap.size + 1, 3, none⟩ = some (.string xm) := by rw [Lib.cell_of_heap hl5]; rfl
    have b4 : W5.cell? ⟨u.heap.size + 1, 4, none⟩ = some (.string xt) := by rw [Lib.cell_of_heap hl5]; rfl
    have b5 : W5.cell? ⟨u.heap.size + 1, 5, none⟩ = some (.slice xSA xa xsc) := by rw [Lib.cell_of_heap hl5]; rfl
    have b6 : W5.cell? ⟨u.heap.size + 1, 6, none⟩ = some (.slice xUA xb xuc) := by rw [Lib.cell_of_heap hl5]; rfl
    have HIB := hid (And.intro hi5 hl5)
    have hux4 : u.heap.size + 1 < W4.heap.size := heap_lt HR4.out
    have hbs4 : B ≤ W4.heap.size := Nat.le_trans hBu HB4.out.size
    have hws4 : W.heap.size ≤ W4.heap.size := by have := HI.out.k.1.size; have := HB4.out.size; omega
    have HUS := hid (And.intro hux4 (And.intro hbs4 (And.intro hws4 hxw)))
    clear hzs ho4 hh4 hb5 hx6 hk5 hr5 hi5 hl5 HM4 HI4 HR4 HB4 hobi1 hobm hWob hux4 hbs4 hws4 hxw hol hxl4 hcl4 hil4
    generalize W4.heap.size = x5' at *
    gi_wp2_with fail
    refine ⟨trivial, (callsIn_wide.2 (checks_all _ _ _ _ _ _ rfl _)).mono ?_⟩
    rintro _ W6' ⟨rfl, rfl⟩
    have hb6 := below_new W5 (.cells #[.int .u8 xk, .string xm, .string xt, .slice xSA xa xsc, .slice xUA xb xuc] 74)
    have hh6 := heap_alloc_new W5 (.cells #[.int .u8 xk, .string xm, .string xt, .slice xSA xa xsc, .slice xUA xb xuc] 74)
    have hz6 : W5.heap.size < (W5.alloc (.cells #[.int .u8 xk, .string xm, .string xt, .slice xSA xa xsc, .slice xUA xb xuc] 74)).heap.size := by simp
    clear b2 b3 b4 b5 b6
    gi_wp2_with fail
    generalize W5.alloc (.cells #[.int .u8 xk, .string xm, .string xt, .slice xSA xa xsc, .slice xUA xb xuc] 74) = W6 at hb6 hh6 hz6 ⊢
    have hB5 : B ≤ W5.heap.size := by have := HUS.out; omega
    have h6 := H5.out.next hb6 hB5
    have hi6 := (hb6.block _ (heap_lt HIB.out.1)).trans HIB.out.1
    have hl6 := (hb6.block _ (heap_lt HIB.out.2)).trans HIB.out.2
    have hB6 : B ≤ W6.heap.size := Nat.le_trans hB5 hb6.size
    have hbw6 : Below B w0 W6 := hb.trans h6.k.1
    have HBF := hid (fun (v : World) (h : KpT B (fun k T => k = x5' ∧ T = 4) W6 v) => (show v.heap[W.heap.size]? = some (.cells #[.pointer (some ⟨cb, 0, none⟩)] 208 (0, 0)) ∧ v.heap[u.heap.size]? = some (.cells #[.int .i64 (i : Int)] 3 (0, 0)) ∧ v.heap[u.heap.size + 1]? = some (.cells #[.string ⟨rnm.toArray⟩, .int .u8 (rk : Int), .int .u8 xk, .string xm, .string xt, .slice xSA xa xsc, .slice xUA xb xuc, .int .i64 z0, .int .i64 z1, .int .i64 z2] 80 (0, 0)) ∧ v.heap[cb]? = some (.cells #[.string ⟨gn.toArray⟩, .int .i64 bd, .int .i64 sta, .slice (some ⟨b, o, none⟩) n rc, x4, x5, .slice (some ⟨ob, 0, none⟩) n n, x7] 210 (0, 0)) from
      ⟨h.2 _ _ _ h6.x (fun e => absurd e.2 (by decide)), h.2 _ _ _ hi6 (fun e => absurd e.2 (by decide)), h.2 _ _ _ hl6 (fun e => absurd e.2 (by decide)), h.2 _ _ _ h6.c (fun e => absurd e.2 (by decide))⟩))
    have H6 := hid h6
    have HB6 := hid (And.intro hB6 hbw6)
    refine wpIn_rangeFunc_ownH rfl (by omega) (gf := 181) (lb := #[.pointer (some ⟨W5.heap.size, 0, none⟩)]) rfl trivial (enters_of Tryz.func181 (by kernel_rfl) rfl)
      (allT_stops (w0 := w0) (B := B) (fun k T => k = x5' ∧ T = 4) rbd _ W6 W5.heap.size HND.out HOK.out.2.2 hbw6 hB6 hh6 (fun k T e => .inr (by rw [e.2]; exact ⟨by decide, by decide⟩))) KpT.trans (fun W l o o' hl h ho _ => kpT_b hB6 W l o o' hl h ho) (Below.refl _ _) (fun _ => rfl)
      (fun pre v => (KpT B (fun k T => k = x5' ∧ T = 4) W6 v ∧ MarkL W.heap.size Ds v) ∧ MatM W.heap.size ob n (i + 1) (fun j => if j = i then x5' else rb j) (fun j c => if j = i then (goesTo rs ⟨rnm, rk, rbd⟩ (projI pre)).contains c else (Gr.roundOf rs (Gr.ruAt rs j)).contains c) v)
      (fun _ _ _ => False)
      (ownFrom_of (n0 := W6.heap.size) (fun s v h => h.1.1.1.size) (Nat.le_refl _) (fun s v v' h hbv hcv => ⟨⟨⟨h.1.1.1.trans (hbv.mono hB6), fun k cs T e hc => hcv _ _ _ _ (h.1.1.2 k cs T e hc)⟩, h.1.2.keepLt (fun D e => e) (fun D hD => (hbv.block D (by have := (H6.out.d.d D hD).1; exact heap_lt this)))⟩, h.2.cells hcv⟩))
      (fun _ _ _ _ _ h _ _ => h.elim)
      ⟨⟨KpT.refl _ _ _, h6.d⟩, h6.m.congr (fun j c _ _ => by simp [goesTo, projI])⟩
      (fun x a' v => ∃ Bx, W6.heap.size ≤ Bx ∧ v.heap[Bx]? = some (.cells x.cs.toArray 74 (0, 0)) ∧ a' = { tmps := #[.pointer (some ⟨cb, 0, none⟩), .pointer (some ⟨W.heap.size, 0, none⟩), .pointer (some ⟨u.heap.size, 0, none⟩), .pointer (some ⟨u.heap.size + 1, 0, none⟩), .pointer (some ⟨Bx, 0, none⟩), u5, undef, undef, undef, .pointer (some ⟨cb, 0, none⟩), .pointer (some ⟨cb, 0, none⟩), .pointer (some ⟨cb, 0, none⟩), .pointer (some ⟨cb, 0, none⟩), .pointer (some ⟨cb, 3, none⟩), .slice (some ⟨b, o, none⟩) n rc, .int .i64 (n : Int), .slice (some ⟨ob, 0, none⟩) n n, .pointer (some ⟨cb, 0, none⟩), .pointer (some ⟨cb, 6, none⟩), .pointer (some ⟨cb, 0, none⟩), .pointer (some ⟨cb, 0, none⟩), .pointer (some ⟨cb, 0, none⟩), .pointer (some ⟨cb, 3, none⟩), .slice (some ⟨b, o, none⟩) n rc, .int .i64 (n : Int), .int .i64 (i : Int), .bool true, .int .i64 (i : Int), .pointer (some ⟨b, o + i * 10, none⟩), .agg #[.string ⟨rnm.toArray⟩, .int .u8 (rk : Int), .int .u8 xk, .string xm, .string xt, .slice xSA xa xsc, .slice xUA xb xuc, .int .i64 z0, .int .i64 z1, .int .i64 z2], .pointer (some ⟨cb, 0, none⟩), .pointer (some ⟨cb, 0, none⟩), .pointer (some ⟨cb, 6, none⟩), .slice (some ⟨ob, 0, none⟩) n n, .int .i64 (i : Int), .pointer (some ⟨cb, 0, none⟩), .pointer (some ⟨cb, 0, none⟩), .pointer (some ⟨cb, 0, none⟩), .pointer (some ⟨cb, 3, none⟩), .slice (some ⟨b, o, none⟩) n rc, .int .i64 (n : Int), .slice (some ⟨x5', 0, none⟩) n n, .pointer (some ⟨ob, i, none⟩), .pointer (some ⟨u.heap.size + 1, 2, none⟩), .agg #[.int .u8 xk, .string xm, .string xt, .slice xSA xa xsc, .slice xUA xb xuc], .func (.func 181) #[] #[.pointer (some ⟨W5.heap.size, 0, none⟩)], .agg x.cs.toArray, u47, u48, u49, u50, u51, u52, u53, u54, u55, u56, u57, u58, u59, u60, u61, u62, u63, u64, u65, u66, u67, u68, u69, u70, u71, u72, u73, u74, u75, u76, u77, u78, u79, u80, u81, u82, u83, u84, u85, u86, undef, undef, undef, undef, undef, undef, undef, undef, undef, undef, undef, undef, undef, undef, undef, undef, undef, undef, undef, undef, undef, undef, undef, undef, undef, undef, undef, undef, undef, undef, undef, undef, undef, undef, undef, undef, undef, undef, undef, undef, undef, undef, undef, undef, undef, undef, undef, undef, undef, undef, undef, undef, undef, undef, undef, undef, undef, undef, undef, undef, undef, undef, undef, undef, undef, undef, undef, undef, undef, undef], defers := [] })
      (fun x a' _ X Y row hs hg hr => by obtain ⟨Bx, e1, e2, e3⟩ := hs; exact ⟨Bx, e1, cells_own Bx (fun (_ : Unit) => x.cs.toArray) _ () X Y row e2 hg (fun r e => (hr r e).2), e3⟩)
      ?assign ?body ?done ?stop
    case assign =>
      rintro l pre ⟨xn, xcs, xh, xok⟩ v K ⟨⟨hk, hd⟩, hm⟩ hK
      obtain ⟨vk, vm, vt, vSA, va, vsc, vUA, vb, vuc, rfl⟩ := xh.form
      have HK := hid hK
      clear hK
      simp only [NdIt.enc]
      gi_wp2_with fail
      exact HK.out _ _ ((KeepsOthers.alloc _ _).from _) (KpT.of (below_new v _) (Nat.le_trans HB6.out.1 hk.1.size)) ⟨⟨hk.trans (KpT.of (below_new v _) (Nat.le_trans HB6.out.1 hk.1.size)), hd.next (below_new v _)⟩, hm.next (below_new v _)⟩ ⟨v.heap.size, hk.1.size, heap_alloc_new v _, rfl⟩
    case body =>
      rintro l pre ⟨xn, xcs, xh, xok⟩ a' v hl ⟨r, hrr⟩ ⟨⟨hk, hd⟩, hm⟩ ⟨Bx, hBx, bX, rfl⟩ hltN
      have HNM := hid (fun w' => names_any xn xcs w' xh)
      obtain ⟨vk, vm, vt, vSA, va, vsc, vUA, vb, vuc, rfl⟩ := xh.form
      obtain ⟨nm2, hnm, hxn⟩ : ∃ nm2 : List UInt8, vm = ⟨nm2.toArray⟩ ∧ xn.name = nm2 := by
        cases xn with
        | mk k nm2 t st L =>
          have h9 := xh
          unfold NdR at h9
          obtain ⟨_, _, _, _, _, h9, _⟩ := h9
          injection h9 with _ h9
          injection h9 with h9 _
          unfold Gr.strV at h9
          injection h9 with h9
          exact ⟨nm2, h9, rfl⟩
      subst hnm
      dsimp only at bX
      obtain ⟨h0, h1, h2, h3⟩ := HBF.out v hk
      have HKV := hid hk
      have HDV := hid hd
      have HMV := hid hm
      have HBX := hid bX
      have HXN := hid hxn
      have hbv : Below B w0 v := HB6.out.2.trans hk.1
      have hBv : B ≤ v.heap.size := Nat.le_trans HB6.out.1 hk.1.size
      have HBV := hid (And.intro hbv hBv)
      have c0 : v.cell? ⟨W.heap.size, 0, none⟩ = some (.pointer (some ⟨cb, 0, none⟩)) := by rw [Lib.cell_of_heap h0]; rfl
      have a0 : v.cell? ⟨cb, 0, none⟩ = some (.string ⟨gn.toArray⟩) := by rw [Lib.cell_of_heap h3]; rfl
      have a1 : v.cell? ⟨cb, 1, none⟩ = some (.int .i64 bd) := by rw [Lib.cell_of_heap h3]; rfl
      have a2 : v.cell? ⟨cb, 2, none⟩ = some (.int .i64 sta) := by rw [Lib.cell_of_heap h3]; rfl
      have a3 : v.cell? ⟨cb, 3, none⟩ = some (.slice (some ⟨b, o, none⟩) n rc) := by rw [Lib.cell_of_heap h3]; rfl
      obtain ⟨_, d1, _, _, _⟩ := (show _ from cells5' bX)
      have hfn := fun (d : Nat) (os : Array Obj) => Calls.regrown_of (find_any rs gn nm2 bd sta (some ⟨b, o, none⟩) rc (Sort.grow (redrawn v d) os) hr (hbv.trans ((below_regrown v d os).mono hBv)) (Nat.le_trans hBv (below_regrown v d os).size))
      obtain ⟨fr, hfr⟩ : ∃ fr, Gr.findR rs nm2 = fr := ⟨_, rfl⟩
      obtain ⟨iz, hiz⟩ : ∃ iz, idxAns fr = iz := ⟨_, rfl⟩
      rw [hfr, hiz, HN.out] at hfn
      unfold Gr.strV at hfn
      have HFN := hid hfn
      have HFR := hid hfr
      have HIZ := hid hiz
      have C0 := fun d os => cell_regrown c0 d os
      have A0 := fun d os => cell_regrown a0 d os
      have A1 := fun d os => cell_regrown a1 d os
      have A2 := fun d os => cell_regrown a2 d os
      have A3 := fun d os => cell_regrown a3 d os
      have D1 := fun d os => cell_regrown d1 d os
      dsimp only
      clear h0 h1 h2 h3 hk hd hm bX hbv hBv c0 a0 a1 a2 a3 d1 hfn hfr hiz hltN hxn
      gi_wp2_with fail
      refine wpIn_region_quietR (by kernel_rfl) (by kernel_rfl) (by kernel_rfl) ?_
      refine Boxd.out ?_
      repeat (refine wpQuiet_step4 (fun K hK => ?_); go_simp; (first | (refine hK _ ?_; clear hK K) | (apply Exists.intro; refine ⟨fun _ => ?_, hK _ ?_⟩; (with_reducible exact HFN.out _ _); clear hK K)))
      refine ⟨wpQuiet_nil ?_⟩
      rintro _ ⟨⟨dq, osq⟩, rfl⟩
      have hb2 := below_regrown v dq osq
      clear C0 A0 A1 A2 A3 D1 HFN
      generalize Sort.grow (redrawn v dq) osq = v2 at hb2 ⊢
      have hk2 : KpT B (fun k T => k = x5' ∧ T = 4) v v2 := KpT.of hb2 HBV.out.2
      have HK2 := hid hk2
      have HG2 := hid (grown_of hb2)
      have HD2 := hid (HDV.out.next hb2)
      have HM2 := hid (HMV.out.next hb2)
      have hx2 := (hb2.block _ (heap_lt HBX.out)).trans HBX.out
      have HX2 := hid hx2
      obtain ⟨d0, d1, d2, d3, d4⟩ := (show _ from cells5' hx2)
      obtain ⟨q1, hq1⟩ : ∃ q, Gr.names xn = q := ⟨_, rfl⟩
      have HQ1 := hid hq1
      have hnn := HNM.out v2
      rw [hq1] at hnn
      have HNN := hid (CallsIn.inRound l (callsIn_wide (n := 2) |>.2 hnn))
      clear hb2 hk2 hx2 hq1 hnn HNM
      gi_wp2_with fail
      refine ⟨trivial, HNN.out.mono ?_⟩
      rintro _ v3 ⟨rfl, hb3⟩
      have hk3 : KpT B (fun k T => k = x5' ∧ T = 4) v v3 := HK2.out.trans (KpT.of hb3 (Nat.le_trans HBV.out.2 HK2.out.1.size))
      have HK3 := hid hk3
      have HG3 := hid ((KeepsFrom.of_grownBy (B := W6.heap.size) HG2.out (fun j e => by cases e)).trans (KeepsFrom.of_grownBy (grown_of hb3) (fun j e => by cases e)))
      have HD3 := hid (HD2.out.next hb3)
      have HM3 := hid (HM2.out.next hb3)
      clear d0 d1 d2 d3 d4 hb3 HNN
      cases q1 with
      | false =>
        clear hk3
        gi_wp2_with fail
        refine ⟨trivial, ?_⟩
        gi_wp2_with fail
        refine ⟨trivial, ?_⟩
        gi_wp2_with fail
        refine ⟨HG3.out, HK3.out, ⟨⟨HKV.out.trans HK3.out, HD3.out⟩, ?_⟩⟩
        rw [projI_append, show projI [(⟨xn, _, xh, xok⟩ : NdIt w0 B)] = [xn] from rfl]
        refine HM3.out.congr (fun j c _ _ => ?_)
        rw [goesTo_snoc, goX_no rs ⟨rnm, rk, rbd⟩ xn (.inl HQ1.out)]
        simp
      | true =>
        obtain ⟨_, _, h2, _⟩ := HBF.out v3 (HKV.out.trans hk3)
        clear hk3
        have r0 : v3.cell? ⟨u.heap.size + 1, 0, none⟩ = some (.string ⟨rnm.toArray⟩) := by rw [Lib.cell_of_heap h2]; rfl
        have r1 : v3.cell? ⟨u.heap.size + 1, 1, none⟩ = some (.int .u8 (rk : Int)) := by rw [Lib.cell_of_heap h2]; rfl
        have r2 : v3.cell? ⟨u.heap.size + 1, 2, none⟩ = some (.int .u8 xk) := by rw [Lib.cell_of_heap h2]; rfl
        have r3 : v3.cell? ⟨u.heap.size + 1, 3, none⟩ = some (.string xm) := by rw [Lib.cell_of_heap h2]; rfl
        have r4 : v3.cell? ⟨u.heap.size + 1, 4, none⟩ = some (.string xt) := by rw [Lib.cell_of_heap h2]; rfl
        have r5 : v3.cell? ⟨u.heap.size + 1, 5, none⟩ = some (.slice xSA xa xsc) := by rw [Lib.cell_of_heap h2]; rfl
        have r6 : v3.cell? ⟨u.heap.size + 1, 6, none⟩ = some (.slice xUA xb xuc) := by rw [Lib.cell_of_heap h2]; rfl
        have r7 : v3.cell? ⟨u.heap.size + 1, 7, none⟩ = some (.int .i64 z0) := by rw [Lib.cell_of_heap h2]; rfl
        have r8 : v3.cell? ⟨u.heap.size + 1, 8, none⟩ = some (.int .i64 z1) := by rw [Lib.cell_of_heap h2]; rfl
        have r9 : v3.cell? ⟨u.heap.size + 1, 9, none⟩ = some (.int .i64 z2) := by rw [Lib.cell_of_heap h2]; rfl
        obtain ⟨tk, htk⟩ : ∃ t, Gr.isTok ⟨rnm, rk, rbd⟩ = t := ⟨_, rfl⟩
        have HTK := hid htk
        have hpa := parser_any ⟨rnm, rk, rbd⟩ _ v3 HRU.out
        rw [htk] at hpa
        have HPA := hid (CallsIn.inRound l (callsIn_wide (n := 2) |>.2 hpa))
        clear h2 htk hpa
        gi_wp2_with fail
        refine ⟨trivial, HPA.out.mono ?_⟩
        rintro _ v4 ⟨rfl, hb4⟩
        have hk4 : KpT B (fun k T => k = x5' ∧ T = 4) v v4 := HK3.out.trans (KpT.of hb4 (Nat.le_trans HBV.out.2 HK3.out.1.size))
        have HK4 := hid hk4
        have HG4 := hid (HG3.out.trans (KeepsFrom.of_grownBy (B := W6.heap.size) (grown_of hb4) (fun j e => by cases e)))
        have HD4 := hid (HD3.out.next hb4)
        have HM4 := hid (HM3.out.next hb4)
        clear hb4 HPA r0 r1 r2 r3 r4 r5 r6 r7 r8 r9
        clear hk4
        cases tk with
        | false =>
          gi_wp2_with fail
          refine ⟨trivial, ?_⟩
          gi_wp2_with fail
          refine ⟨HG4.out, HK4.out, ⟨⟨HKV.out.trans HK4.out, HD4.out⟩, ?_⟩⟩
          rw [projI_append, show projI [(⟨xn, _, xh, xok⟩ : NdIt w0 B)] = [xn] from rfl]
          refine HM4.out.congr (fun j c _ _ => ?_)
          rw [goesTo_snoc, goX_no rs ⟨rnm, rk, rbd⟩ xn (.inr (.inl HTK.out))]
          simp
        | true =>
          cases fr with
          | none =>
            obtain rfl : -1 = iz := HIZ.out
            gi_wp2_with fail
            refine ⟨trivial, ?_⟩
            gi_wp2_with fail
            refine ⟨HG4.out, HK4.out, ⟨⟨HKV.out.trans HK4.out, HD4.out⟩, ?_⟩⟩
            rw [projI_append, show projI [(⟨xn, _, xh, xok⟩ : NdIt w0 B)] = [xn] from rfl]
            refine HM4.out.congr (fun j c _ _ => ?_)
            rw [goesTo_snoc, goX_no rs ⟨rnm, rk, rbd⟩ xn (.inr (.inr (.inl (by rw [HXN.out]; exact HFR.out))))]
            simp
          | some kk =>
            obtain rfl : (kk : Int) = iz := HIZ.out
            have hkr : kk < rs.length := Gr.findR_lt HFR.out
            have hkn : kk < n := by have := HN.out; omega
            have hkI : (kk : Int) < (n : Int) := by omega
            have hk0 : (0 : Int) ≤ (kk : Int) := by omega
            obtain ⟨xs, hr1, hr2⟩ := hr.r
            obtain ⟨b', o', w0', w1', w2', w3', w4', w5', w6', w7', w8', w9', hRA', hbB', hru', g0, g1, g2, g3, g4, g5, g6, g7, g8, g9⟩ := readsRu hr1 hr2 kk hkr
            injection hRA' with hRA'
            injection hRA' with hq1 hq2 _
            subst hq1 hq2
            obtain ⟨yk, ym, yt, ySA, ya, ysc, yUA, yb, yuc, y0, y1, y2, hv', _⟩ := hru'.form
            rw [(ruAt_eq hkr).symm] at hru' hv'
            obtain ⟨rk2, hrk2⟩ : ∃ r, Gr.ruAt rs kk = r := ⟨_, rfl⟩
            rw [hrk2] at hru' hv'
            obtain ⟨r2n, r2k, r2b⟩ := rk2
            dsimp only at hv'
            injection hv' with hw0 hv'
            injection hv' with hw1 hv'
            injection hv' with hw2 hv'
            injection hv' with hw3 hv'
            injection hv' with hw4 hv'
            injection hv' with hw5 hv'
            injection hv' with hw6 hv'
            injection hv' with hw7 hv'
            injection hv' with hw8 hv'
            injection hv' with hw9 hv'
            subst hw0 hw1 hw2 hw3 hw4 hw5 hw6 hw7 hw8 hw9
            unfold Gr.strV at g0 hru'
            have hbv4 : Below B w0 v4 := HBV.out.1.trans HK4.out.1
            have f0 := (hbv4.cell (p := ⟨b, o + kk * 10, none⟩) hbB).trans g0
            have f1 := (hbv4.cell (p := ⟨b, o + kk * 10 + 1, none⟩) hbB).trans g1
            have f2 := (hbv4.cell (p := ⟨b, o + kk * 10 + 2, none⟩) hbB).trans g2
            have f3 := (hbv4.cell (p := ⟨b, o + kk * 10 + 3, none⟩) hbB).trans g3
            have f4 := (hbv4.cell (p := ⟨b, o + kk * 10 + 4, none⟩) hbB).trans g4
            have f5 := (hbv4.cell (p := ⟨b, o + kk * 10 + 5, none⟩) hbB).trans g5
            have f6 := (hbv4.cell (p := ⟨b, o + kk * 10 + 6, none⟩) hbB).trans g6
            have f7 := (hbv4.cell (p := ⟨b, o + kk * 10 + 7, none⟩) hbB).trans g7
            have f8 := (hbv4.cell (p := ⟨b, o + kk * 10 + 8, none⟩) hbB).trans g8
            have f9 := (hbv4.cell (p := ⟨b, o + kk * 10 + 9, none⟩) hbB).trans g9
            obtain ⟨h0, _, _, h3⟩ := HBF.out v4 (HKV.out.trans HK4.out)
            have c0 : v4.cell? ⟨W.heap.size, 0, none⟩ = some (.pointer (some ⟨cb, 0, none⟩)) := by rw [Lib.cell_of_heap h0]; rfl
            have a3 : v4.cell? ⟨cb, 3, none⟩ = some (.slice (some ⟨b, o, none⟩) n rc) := by rw [Lib.cell_of_heap h3]; rfl
            obtain ⟨tk2, htk2⟩ : ∃ t, Gr.isTok ⟨r2n, r2k, r2b⟩ = t := ⟨_, rfl⟩
            have hpa := parser_any ⟨r2n, r2k, r2b⟩ _ v4 hru'
            rw [htk2] at hpa
            have HPA := hid (CallsIn.inRound l (callsIn_wide (n := 2) |>.2 hpa))
            have HT2 := hid (show Gr.isTok (Gr.ruAt rs kk) = tk2 by rw [hrk2]; exact htk2)
            clear hpa htk2 hrk2 hru' hv' g0 g1 g2 g3 g4 g5 g6 g7 g8 g9 hr1 hr2 h0 h3 hbv4
            gi_wp2_with fail
            refine ⟨trivial, HPA.out.mono ?_⟩
            rintro _ v5 ⟨rfl, hb5⟩
            have hk5 : KpT B (fun k T => k = x5' ∧ T = 4) v v5 := HK4.out.trans (KpT.of hb5 (Nat.le_trans HBV.out.2 HK4.out.1.size))
            have HK5 := hid hk5
            have HG5 := hid (HG4.out.trans (KeepsFrom.of_grownBy (B := W6.heap.size) (grown_of hb5) (fun j e => by cases e)))
            have HD5 := hid (HD4.out.next hb5)
            have HM5 := hid (HM4.out.next hb5)
            clear hb5 HPA c0 a3 f0 f1 f2 f3 f4 f5 f6 f7 f8 f9
            cases tk2 with
            | false =>
              clear hk5
              gi_wp2_with fail
              refine ⟨HG5.out, HK5.out, ⟨⟨HKV.out.trans HK5.out, HD5.out⟩, ?_⟩⟩
              rw [projI_append, show projI [(⟨xn, _, xh, xok⟩ : NdIt w0 B)] = [xn] from rfl]
              refine HM5.out.congr (fun j c _ _ => ?_)
              rw [goesTo_snoc, goX_no rs ⟨rnm, rk, rbd⟩ xn (.inr (.inr (.inr ⟨kk, by rw [HXN.out]; exact HFR.out, HT2.out⟩)))]
              simp
            | true =>
              obtain ⟨h0, h1, _, h3⟩ := HBF.out v5 (HKV.out.trans hk5)
              have c0 : v5.cell? ⟨W.heap.size, 0, none⟩ = some (.pointer (some ⟨cb, 0, none⟩)) := by rw [Lib.cell_of_heap h0]; rfl
              have c1 : v5.cell? ⟨u.heap.size, 0, none⟩ = some (.int .i64 (i : Int)) := by rw [Lib.cell_of_heap h1]; rfl
              have a6 : v5.cell? ⟨cb, 6, none⟩ = some (.slice (some ⟨ob, 0, none⟩) n n) := by rw [Lib.cell_of_heap h3]; rfl
              have hbit := HM5.out.bit (show i < i + 1 by omega) hkn
              simp only [if_true] at hbit
              obtain ⟨m0, m1, m2⟩ := hbit
              have hst := HM5.out.set (show i < i + 1 by omega) kk true
              simp only [if_true] at hst
              have hro := (HM5.out.row i (by omega)).1
              simp only [if_true] at hro
              have HST := hid hst
              have HRO := hid hro
              clear h0 h1 h3 hst hro hk5
              have hkset : KpT B (fun k T => k = x5' ∧ T = 4) v5 (v5.setCell ⟨x5', kk, none⟩ (.bool true)).drew := by
                have ho9 := Only.of_set v5 x5' kk (.bool true)
                refine ⟨(ho9.below (fun k e => by have := HUS.out; omega) (Below.refl _ _) (Nat.le_trans HBV.out.2 HK5.out.1.size)).drew, fun k cs T e hc => ?_⟩
                show (v5.setCell ⟨x5', kk, none⟩ (.bool true)).heap[k]? = _
                refine (ho9.block k (heap_lt e) (fun e2 => hc ⟨e2, ?_⟩)).trans e
                rw [e2, HRO.out] at e
                cases e
                rfl
              have HFIN := hid (And.intro (HG5.out.trans (((KeepsOthers.setCell v5 ⟨x5', kk, none⟩ (.bool true)).trans (KeepsOthers.drew _)).from W6.heap.size)) (And.intro (HK5.out.trans hkset) (And.intro (HD5.out.others ((KeepsOthers.setCell v5 ⟨x5', kk, none⟩ (.bool true)).trans (KeepsOthers.drew _))) HST.out)))
              have HGX := hid (goX_yes rs ⟨rnm, rk, rbd⟩ xn kk HQ1.out HTK.out (by rw [HXN.out]; exact HFR.out) HT2.out)
              clear hkset
              gi_wp2_with fail
              have hmixO : Tryz.prog.follows Departure.mixedOrders = true := by kernel_rfl
              gi_region_with_o (fail)
              all_goals
                gi_wp2_with fail
                refine ⟨HFIN.out.1, HFIN.out.2.1, ⟨⟨HKV.out.trans HFIN.out.2.1, HFIN.out.2.2.1⟩, ?_⟩⟩
                rw [projI_append, show projI [(⟨xn, _, xh, xok⟩ : NdIt w0 B)] = [xn] from rfl]
                refine MatM.congr (show MatM _ _ _ _ _ _ (v5.setCell ⟨x5', kk, none⟩ (.bool true)).drew from ⟨HFIN.out.2.2.2.outer, HFIN.out.2.2.2.row, HFIN.out.2.2.2.inj, HFIN.out.2.2.2.le⟩) (fun j c _ _ => ?_)
                rw [goesTo_snoc, HGX.out]
                by_cases ej : j = i
                · subst ej
                  simp only [if_true, true_and]
                  by_cases ec : c = kk
                  · subst ec; simp
                  · simp [ec]
                · simp only [if_neg ej, show ¬ (j = i ∧ c = kk) from fun g => ej g.1, if_false]
    case done =>
      rintro D ys v hD hys ⟨⟨hk, hd⟩, hm⟩ hK
      have hys : projI ys = Gr.ndT rbd := hys
      have hh := HBF.out v hk
      have HR9 : Hid (RoI W B cb ob n (i + 1) [.string ⟨gn.toArray⟩, .int .i64 bd, .int .i64 sta, .slice (some ⟨b, o, none⟩) n rc] x4 x5 x7 (fun j => if j = i then x5' else rb j) (fun i k => (Gr.roundOf rs (Gr.ruAt rs i)).contains k) (D :: Ds) v) := hid
        ⟨⟨H6.out.k.1.trans hk.1, fun k cs T e hc => hk.2 k cs T (H6.out.k.2 k cs T e hc) (fun e2 => by have := heap_lt e; have := HUS.out; omega)⟩, hh.2.2.2, hh.1, hm.congr (fun j c _ _ => by
            by_cases ej : j = i
            · subst ej
              rw [if_pos rfl, hys, HRUE.out, goesTo_all]
            · rw [if_neg ej]), ⟨fun D' hD' => by
            rcases List.mem_cons.1 hD' with e | e
            · rw [e]; exact ⟨hK, by have := H6.out.k.1.size; have := HUS.out; omega⟩
            · exact hd.d D' e, List.nodup_cons.2 ⟨fun e => by have := heap_lt (H6.out.d.d D e).1; omega, hd.n⟩⟩, H6.out.o⟩
      clear hk hd hm hK hh hys
      gi_wp2_with fail
      rw [show (i : Int) + 1 = ((i + 1 : Nat) : Int) by omega]
      refine HQN.out _ _ ⟨i + 1, D :: Ds, _, _, _, _, _, _, _, _, _, _, _, _, _, _, _, _, _, _, _, _, _, _, _, _, _, _, _, _, _, _, _, _, _, _, _, _, _, _, _, _, _, _, _, _, _, _, _, _, _, _, _, _, _, _, _, _, _, _, _, _, _, _, _, _, _, _, hlt, rfl, HR9⟩ ?_
      show n - (intOf (.int .i64 ((i + 1 : Nat) : Int))).toNat < n - (intOf (.int .i64 (i : Int))).toNat
      simp only [intOf]
      omega
    case stop =>
      rintro D c pre v _ _ h _
      exact h.elim
  · have hie : i = n := by omega
    subst hie
    have HFI : Hid (RoI W B cb ob i i [.string ⟨gn.toArray⟩, .int .i64 bd, .int .i64 sta, .slice RA i rc] x4 x5 x7 rb (Gr.closeI (fun i k => (Gr.roundOf rs (Gr.ruAt rs i)).contains k) 0) Ds u) := HI
    have HCL : Hid (Gr.roundF rs = Gr.closeI (fun i k => (Gr.roundOf rs (Gr.ruAt rs i)).contains k) i) := hid (by unfold Gr.roundF; rw [Gr.closeF_eq, HN.out])
    clear HI hlt hwi HQN
    generalize (fun i k => (Gr.roundOf rs (Gr.ruAt rs i)).contains k) = F0 at HFI HCL
    gi_wp2_with fail
    refine HQE.out _ _ _ (by simp) ?_
    clear HQE
    have c0 : u.cell? ⟨W.heap.size, 0, none⟩ = some (.pointer (some ⟨cb, 0, none⟩)) := by rw [Lib.cell_of_heap HFI.out.x]; rfl
    have c6 : u.cell? ⟨cb, 6, none⟩ = some (.slice (some ⟨ob, 0, none⟩) i i) := by rw [Lib.cell_of_heap HFI.out.c]; rfl
    gi_wp2_with fail
    clear c0 c6
    refine wpIn_wide.2 ?_
    go_loopw [6, 92] (fun _ bv wa => ∃ (b : Nat), b ≤ i ∧ bv = .int .i64 (b : Int) ∧ Hid (RoI W B cb ob i i [.string ⟨gn.toArray⟩, .int .i64 bd, .int .i64 sta, .slice RA i rc] x4 x5 x7 rb (Gr.closeI F0 b) Ds wa)) (fun _ bv _ => i - (intOf bv).toNat)
    case atStart => exact ⟨0, Nat.zero_le _, rfl, HFI⟩
    case round =>
      rename World => wa
      clear HFI
      obtain ⟨b, hbb, rfl, HA⟩ := hrel
      have hwb : IntKind.i64.wrap ((b : Int) + 1) = (b : Int) + 1 := w64 (by omega) (by omega)
      have c0 : wa.cell? ⟨W.heap.size, 0, none⟩ = some (.pointer (some ⟨cb, 0, none⟩)) := by rw [Lib.cell_of_heap HA.out.x]; rfl
      have c6 : wa.cell? ⟨cb, 6, none⟩ = some (.slice (some ⟨ob, 0, none⟩) i i) := by rw [Lib.cell_of_heap HA.out.c]; rfl
      by_cases hbl : b < i
      · have hbI : (b : Int) < (i : Int) := by omega
        have hb0 : (0 : Int) ≤ (b : Int) := by omega
        have HB0 : Hid (RoI W B cb ob i i [.string ⟨gn.toArray⟩, .int .i64 bd, .int .i64 sta, .slice RA i rc] x4 x5 x7 rb (Gr.ovI (Gr.closeI F0 b) b 0 0) Ds wa) := by rw [Gr.ovI_start]; exact HA
        clear HA
        go_wp2_with fail
        clear c0 c6
        go_loopw [7, 100] (fun _ rv wb => ∃ (r : Nat), r ≤ i ∧ rv = .int .i64 (r : Int) ∧ Hid (RoI W B cb ob i i [.string ⟨gn.toArray⟩, .int .i64 bd, .int .i64 sta, .slice RA i rc] x4 x5 x7 rb (Gr.ovI (Gr.closeI F0 b) b r 0) Ds wb)) (fun _ rv _ => i - (intOf rv).toNat)
        case atStart => exact ⟨0, Nat.zero_le _, rfl, HB0⟩
        case round =>
          rename World => wb
          clear HB0
          obtain ⟨r, hrr, rfl, HB⟩ := hrel
          have hwr : IntKind.i64.wrap ((r : Int) + 1) = (r : Int) + 1 := w64 (by omega) (by omega)
          have c0 : wb.cell? ⟨W.heap.size, 0, none⟩ = some (.pointer (some ⟨cb, 0, none⟩)) := by rw [Lib.cell_of_heap HB.out.x]; rfl
          have c6 : wb.cell? ⟨cb, 6, none⟩ = some (.slice (some ⟨ob, 0, none⟩) i i) := by rw [Lib.cell_of_heap HB.out.c]; rfl
          by_cases hrl : r < i
          · have hrI : (r : Int) < (i : Int) := by omega
            have hr0 : (0 : Int) ≤ (r : Int) := by omega
            go_wp2_with fail
            clear c0 c6
            go_loopw [8, 108] (fun _ cv wc => ∃ (c : Nat), c ≤ i ∧ cv = .int .i64 (c : Int) ∧ Hid (RoI W B cb ob i i [.string ⟨gn.toArray⟩, .int .i64 bd, .int .i64 sta, .slice RA i rc] x4 x5 x7 rb (Gr.ovI (Gr.closeI F0 b) b r c) Ds wc)) (fun _ cv _ => i - (intOf cv).toNat)
            case atStart => exact ⟨0, Nat.zero_le _, rfl, HB⟩
            case round =>
              rename World => wc
              clear HB
              obtain ⟨c, hcc, rfl, HC⟩ := hrel
              have hwc : IntKind.i64.wrap ((c : Int) + 1) = (c : Int) + 1 := w64 (by omega) (by omega)
              by_cases hcl : c < i
              · have hcI : (c : Int) < (i : Int) := by omega
                have hc0 : (0 : Int) ≤ (c : Int) := by omega
                go_upto_region 21 with fail
                refine still_tail 43 (by kernel_rfl) (by kernel_rfl) ?_
                intro w6 HW6
                have ho6 : Below wc.heap.size wc w6 := by rw [HW6.out]; exact (Below.refl _ _).drew
                clear HW6
                have H6 := hid (HC.out.next ho6 (Nat.le_trans hbs HC.out.k.1.size))
                clear HC ho6
                have c0 : w6.cell? ⟨W.heap.size, 0, none⟩ = some (.pointer (some ⟨cb, 0, none⟩)) := by rw [Lib.cell_of_heap H6.out.x]; rfl
                have c6 : w6.cell? ⟨cb, 6, none⟩ = some (.slice (some ⟨ob, 0, none⟩) i i) := by rw [Lib.cell_of_heap H6.out.c]; rfl
                obtain ⟨b0, b1, bz⟩ := H6.out.m.bit hrl hcl
                obtain ⟨_, b2, _⟩ := H6.out.m.bit hrl hbl
                obtain ⟨b3, b4, _⟩ := H6.out.m.bit hbl hcl
                rw [Gr.ovI_at] at b1
                rw [Gr.ovI_col] at b2
                rw [Gr.ovI_row] at b4
                have HST := hid (fun v (hv : v = Gr.overF (Gr.closeI F0 b) b r c) => (show RoI W B cb ob i i [.string ⟨gn.toArray⟩, .int .i64 bd, .int .i64 sta, .slice RA i rc] x4 x5 x7 rb (Gr.ovI (Gr.closeI F0 b) b r (c + 1)) Ds (w6.setCell ⟨rb r, c, none⟩ (.bool v)) from by
                  have h9 := H6.out.m.set hrl c v
                  have ho9 := Only.of_set w6 (rb r) c (.bool v)
                  have hf1 := (H6.out.m.far H6.out.c (by decide) (by decide)).2 r hrl
                  have hf2 := (H6.out.m.far H6.out.x (by decide) (by decide)).2 r hrl
                  have hge := (H6.out.m.row r hrl).2
                  refine ⟨⟨H6.out.k.1.trans (ho9.below (fun k e => by omega) (Below.refl _ _) (Nat.le_trans hbs H6.out.k.1.size)), fun k cs T e hc => (ho9.block k (by have := heap_lt e; have := H6.out.k.1.size; omega) (fun e2 => by have := heap_lt e; omega)).trans (H6.out.k.2 k cs T e hc)⟩, (ho9.block _ (heap_lt H6.out.c) (fun e => hf1 e.symm)).trans H6.out.c, (ho9.block _ (heap_lt H6.out.x) (fun e => hf2 e.symm)).trans H6.out.x, h9.congr fun j d _ _ => ?_, H6.out.d.others (KeepsOthers.setCell _ _ _), H6.out.o⟩
                  rw [Gr.ovI_set, hv]))
                have HOV := hid (show Gr.overF (Gr.closeI F0 b) b r c = (Gr.closeI F0 b r c || (Gr.closeI F0 b r b && Gr.closeI F0 b b c)) from rfl)
                obtain ⟨m1, hm1⟩ : ∃ m, Gr.closeI F0 b r c = m := ⟨_, rfl⟩
                obtain ⟨m2, hm2⟩ : ∃ m, Gr.closeI F0 b r b = m := ⟨_, rfl⟩
                obtain ⟨m3, hm3⟩ : ∃ m, Gr.closeI F0 b b c = m := ⟨_, rfl⟩
                rw [hm1] at b1
                rw [hm2] at b2
                rw [hm3] at b4
                rw [hm1, hm2, hm3] at HOV
                clear hm1 hm2 hm3 H6
                generalize rb r = rr at *
                simp only [List.take_succ_cons, List.take_zero, List.drop_succ_cons, List.drop_zero]
                cases m1 with
                | true =>
                  have HN9 := hid (HST.out true (by rw [HOV.out]; rfl))
                  clear HST HOV
                  refine Boxd.out ?_
                  repeat (refine wpStill_step4 (fun K hK => ?_); go_simp; refine hK _ ?_; clear hK K)
                  refine ⟨wpStill_nil ?_⟩
                  go_wp2_with fail
                  go_roundw
                  case rel => exact ⟨c + 1, by omega, by go_num, HN9⟩
                  case measure => simp only [intOf]; omega
                | false =>
                  cases m2 with
                  | true =>
                    have HN9 := hid (HST.out m3 (by rw [HOV.out]; rfl))
                    clear HST HOV
                    refine Boxd.out ?_
                    repeat (refine wpStill_step4 (fun K hK => ?_); go_simp; refine hK _ ?_; clear hK K)
                    refine ⟨wpStill_nil ?_⟩
                    go_wp2_with fail
                    go_roundw
                    case rel => exact ⟨c + 1, by omega, by go_num, HN9⟩
                    case measure => simp only [intOf]; omega
                  | false =>
                    have HN9 := hid (HST.out false (by rw [HOV.out]; rfl))
                    clear HST HOV
                    refine Boxd.out ?_
                    repeat (refine wpStill_step4 (fun K hK => ?_); go_simp; refine hK _ ?_; clear hK K)
                    refine ⟨wpStill_nil ?_⟩
                    go_wp2_with fail
                    go_roundw
                    case rel => exact ⟨c + 1, by omega, by go_num, HN9⟩
                    case measure => simp only [intOf]; omega
              · have hce : i = c := by omega
                have HN9 : Hid (RoI W B cb ob i i [.string ⟨gn.toArray⟩, .int .i64 bd, .int .i64 sta, .slice RA i rc] x4 x5 x7 rb (Gr.ovI (Gr.closeI F0 b) b (r + 1) 0) Ds wc) := hid ⟨HC.out.k, HC.out.c, HC.out.x, HC.out.m.congr fun j d _ hd => by rw [← hce]; exact Gr.ovI_line _ b r i j d hd, HC.out.d, HC.out.o⟩
                have hcI : ¬ (c : Int) < (i : Int) := by omega
                clear HC hce hcl
                go_wp2_with fail
                go_roundw
                case rel => exact ⟨r + 1, by omega, by go_num, HN9⟩
                case measure => simp only [intOf]; omega
          · have hre : i = r := by omega
            have HN9 : Hid (RoI W B cb ob i i [.string ⟨gn.toArray⟩, .int .i64 bd, .int .i64 sta, .slice RA i rc] x4 x5 x7 rb (Gr.closeI F0 (b + 1)) Ds wb) := hid ⟨HB.out.k, HB.out.c, HB.out.x, HB.out.m.congr fun j d hj _ => by rw [Gr.closeI_succ, ← hre]; exact Gr.ovI_done _ b i j d hj, HB.out.d, HB.out.o⟩
            have hrI : ¬ (r : Int) < (i : Int) := by omega
            clear HB hre hrl c0 c6
            go_wp2_with fail
            go_roundw
            case rel => exact ⟨b + 1, by omega, by go_num, HN9⟩
            case measure => simp only [intOf]; omega
      · have hbe : b = i := by omega
        rw [hbe] at HA
        have hbI : ¬ (b : Int) < (i : Int) := by omega
        clear hbe hbl c0 c6
        go_wp2_with fail
        show LeavesInM _ _ _ _ _ _ _ _ _
        refine leaves_marks (n0 := W.heap.size) (fun v => RoI W B cb ob i i [.string ⟨gn.toArray⟩, .int .i64 bd, .int .i64 sta, .slice RA i rc] x4 x5 x7 rb (Gr.closeI F0 i) [] v) (fun v D hv hD hn0 => ?_) (fun v hv => ?_) Ds wa HA.out.d ⟨HA.out.k, HA.out.c, HA.out.x, HA.out.m, MarkL.nil _ _, HA.out.o⟩
        · have hcv : ∀ (k : Nat) (cs : Array Value) (T : TypeId) (fr : Nat × Nat), v.heap[k]? = some (Obj.cells cs T fr) → (v.putObj D (.deferred none)).heap[k]? = some (Obj.cells cs T fr) := fun k cs T fr e => ((grownBy_putObj' v D (.deferred none)).block k (heap_lt e) (fun e' => by cases e'; rw [e] at hD; cases hD)).trans e
          exact ⟨⟨hv.k.1.trans (kpT_b (w := W) (C := fun _ _ => False) hbs v D _ _ hn0 hD rfl).1, fun k cs T e hc => hcv _ _ _ _ (hv.k.2 k cs T e hc)⟩, hcv _ _ _ _ hv.c, hcv _ _ _ _ hv.x, hv.m.cells hcv, MarkL.nil _ _, hv.o⟩
        · exact ⟨_, results_none rfl _ _ _, ⟨_, rfl⟩, ⟨ob, hv.c, rb, by rw [HCL.out]; exact hv.m⟩, hv.k⟩
end
end Go.Proofs.YtpbnfinmjnpkpaaGreatDoor
