/-
  Which rules may be empty (nulls.known): the walk.
-/
import Derived.Test.YtpbnfinmjnpkpaaGreatDoorGrMy
import Derived.WalkMore
import Derived.ScopeJumps
namespace Go.Proofs.YtpbnfinmjnpkpaaGreatDoor
open Go.RowKit
set_option maxRecDepth 100000
theorem infoB : (Tryz.prog.info? 4).map (fun i => (i.zero, i.size, i.bytes)) = some (some (.bool false), 1, 1) := by kernel_rfl
theorem made_boolZ (n : Nat) : madeCells #[Value.bool false] n = (List.replicate n (Value.bool false)).toArray := by
  apply Array.ext
  · simp [madeCells]
  · intro i h1 h2
    simp [madeCells, Nat.mod_one]
theorem mkBools (n : Nat) (hn : n ≤ 1000000) (u : World) : (Instr.makeSlice 155 (.int .i64 (n : Int)) (.int .i64 (n : Int))).run Tryz.prog u =
      .ok (.slice (some ⟨u.heap.size, 0, none⟩) n n) (u.alloc (.cells (Array.replicate n (Value.bool false)) 4)) := by
  obtain ⟨i2, hi2, hz2, hs2, hy2⟩ := info_parts infoB
  have h := run_make (P := Tryz.prog) u 155 4 i2 (.bool false) Tryz.underlying155 hi2 hz2 .i64 .i64 (n : Int) (n : Int) (by omega) (Int.le_refl _) (by rw [hy2]; omega) (by omega)
  have e : (n : Int).toNat = n := by omega
  rw [e] at h
  rw [show Array.replicate n (Value.bool false) = madeCells #[Value.bool false] n by rw [made_boolZ]; simp]
  simpa [hs2, Value.cells] using h
theorem wp_scope_jumps2 {P : Program} {a : Act} {w : World} {Q : Exit → Act → World → Prop} {c X : Code} (l : Nat) (J : Act → World → Prop) (μ : Act → World → Nat) (hf : findLabel c l = some (Code.skip.seq X))
    (pass : ∀ a w, J a w → X.wp P (Exit.jump l (fun a' w' => J a' w' ∧ μ a' w' < μ a w) Q) a w)
    (first : (∀ a w, J a w → X.wp P (Exit.jump l J Q) a w) → c.wp P (Exit.jump l J Q) a w) : (Code.scope c).wp P Q a w :=
  wp_scope_jumps l J μ hf (first fun a w h => wp_mono (pass a w h) fun e a' w' hq => by
    cases e with
    | goto l' => exact ⟨hq.1, hq.2.1⟩
    | normal => exact hq
    | exit id => exact hq
    | ret => exact hq
    | panic ch => exact hq
    | outgrown => exact hq) fun a w h => wp_seq (wp_skip (pass a w h))
/-- how many are not known yet, as they lie in memory -/
def cntW (kb : Nat) (w : World) : Nat := match w.heap[kb]? with
  | some (.cells cs _ _) => cs.toList.countP fun v => match v with
    | .bool false => true
    | _ => false
  | _ => 0
theorem cntW_eq {kb : Nat} {w : World} {e : List Bool} {T : TypeId} (h : w.heap[kb]? = some (.cells (e.map Value.bool).toArray T (0, 0))) : cntW kb w = Gr.cntF e := by
  unfold cntW Gr.cntF
  rw [h]
  simp only [List.countP_map]
  congr 1
  funext b
  cases b <;> rfl
theorem reads_cells {u : World} {kb : Nat} {T : TypeId} {xs : List Value} {n : Nat} (h : u.heap[kb]? = some (.cells xs.toArray T (0, 0))) (hn : xs.length = n * 1) : Reads u u.heap.size 1 (some ⟨kb, 0, none⟩) n xs :=
  ⟨hn, fun _ => ⟨kb, 0, rfl, heap_lt h, fun j v hv => by
    rw [Nat.zero_add, Lib.cell_of_heap h]
    simpa using hv⟩⟩
section
variable {w0 : World} {B : Nat} {rs : List Gr.Ru}
/-- where what is known lies, in blocks of its own -/
def KnB (em : List Bool) (ab : Nat) (w : World) : Prop := ∃ (kb : Nat) (gn : List UInt8) (bd st : Int) (RA : Option Addr) (n rc : Nat), w.heap[ab]? = some (.cells #[Gr.strV gn, .int .i64 bd, .int .i64 st, .slice RA n rc, .slice (some ⟨kb, 0, none⟩) n n] 231 (0, 0)) ∧ w.heap[kb]? = some (.cells (em.map Value.bool).toArray 4 (0, 0)) ∧ em.length = n
def KnownP (w0 : World) (B : Nat) (rs : List Gr.Ru) (w : World) (e : Ending) (w' : World) : Prop := ∃ ab, e = .returned (.pointer (some ⟨ab, 0, none⟩)) ∧ AskAt w0 B rs (Gr.emptyR rs) ab w' ∧ (Below w.heap.size w w' ∧ KnB (Gr.emptyR rs) ab w')
/-- amid the passes, in memory -/
structure KnI (W : World) (G : Array Value) (n : Nat) (e : List Bool) (u : World) : Prop where
  b : Below W.heap.size W u
  g : u.heap[W.heap.size]? = some (.cells G 56 (0, 0))
  k : u.heap[W.heap.size + 1]? = some (.cells (e.map Value.bool).toArray 4 (0, 0))
  a : u.heap[W.heap.size + 1 + 1]? = some (.cells (G ++ #[.slice (some ⟨W.heap.size + 1, 0, none⟩) n n]) 231 (0, 0))
theorem KnI.next {W u u' : World} {G : Array Value} {n : Nat} {e : List Bool} (h : KnI W G n e u) (hb : Below u.heap.size u u') : KnI W G n e u' :=
  ⟨h.b.trans (hb.mono h.b.size), (hb.block _ (heap_lt h.g)).trans h.g, (hb.block _ (heap_lt h.k)).trans h.k, (hb.block _ (heap_lt h.a)).trans h.a⟩
theorem KnI.set {W u : World} {G : Array Value} {n : Nat} {e : List Bool} (h : KnI W G n e u) (i : Nat) : KnI W G n (e.set i true) (u.setCell ⟨W.heap.size + 1, i, none⟩ (.bool true)) := by
  have hO := Only.of_set u (W.heap.size + 1) i (.bool true)
  refine ⟨hO.below (fun j e => by rw [e]; omega) h.b h.b.size, (hO.block _ (heap_lt h.g) (by omega)).trans h.g, ?_, (hO.block _ (heap_lt h.a) (by omega)).trans h.a⟩
  rw [heap_setCell_same u _ i _ _ (.bool true) h.k, List.setIfInBounds_toArray, List.map_set]
theorem KnI.ask {W u : World} {gn : List UInt8} {bd st : Int} {RA : Option Addr} {rc : Nat} {e : List Bool} (h : KnI W #[Gr.strV gn, .int .i64 bd, .int .i64 st, .slice RA rs.length rc] rs.length e u) (hr : RsAt w0 B RA rs) (hb : Below B w0 W) (hB : B ≤ W.heap.size) (hl : e.length = rs.length) : AskAt w0 B rs e (W.heap.size + 1 + 1) u :=
  ⟨hb.trans (h.b.mono hB), Nat.le_trans hB h.b.size, ⟨gn, bd, st, RA, rc, _, _, hr, h.a, reads_cells h.k (by rw [List.length_map]; omega), Nat.le_refl _⟩, hl⟩
theorem token_any (r : Gr.Ru) (vs : List Value) (W : World) (hr : RuR w0 B r vs) : Calls Tryz.prog 157 #[.agg vs.toArray] W fun e W' => e = .returned (.bool (Gr.isTok r)) ∧ Below W.heap.size W W' := by
  obtain ⟨xk, xm, xt, xSA, xa, xsc, xUA, xb, xuc, z0, z1, z2, rfl, _⟩ := hr.form
  obtain ⟨nm, k, nd⟩ := r
  dsimp only
  have hb1 := below_new W (.cells #[Gr.strV nm, .int .u8 (k : Int), .int .u8 xk, .string xm, .string xt, .slice xSA xa xsc, .slice xUA xb xuc, .int .i64 z0, .int .i64 z1, .int .i64 z2] 80)
  have h1 := heap_alloc_new W (.cells #[Gr.strV nm, .int .u8 (k : Int), .int .u8 xk, .string xm, .string xt, .slice xSA xa xsc, .slice xUA xb xuc, .int .i64 z0, .int .i64 z1, .int .i64 z2] 80)
  obtain ⟨W1, hW1⟩ : ∃ W1, Hid (W.alloc (.cells #[Gr.strV nm, .int .u8 (k : Int), .int .u8 xk, .string xm, .string xt, .slice xSA xa xsc, .slice xUA xb xuc, .int .i64 z0, .int .i64 z1, .int .i64 z2] 80) = W1) := ⟨_, hid rfl⟩
  rw [hW1.out] at hb1 h1
  have c1 : W1.cell? ⟨W.heap.size, 1, none⟩ = some (.int .u8 (k : Int)) := by rw [Lib.cell_of_heap h1]; rfl
  have HB1 := hid hb1
  obtain ⟨kz, hkz⟩ : ∃ kz : Int, (k : Int) = kz := ⟨_, rfl⟩
  have HQ := hid (show Gr.isTok ⟨nm, k, nd⟩ = (kz != 0) by unfold Gr.isTok; rw [← hkz]; exact Bool.eq_iff_iff.2 (by simp))
  rw [hkz] at c1 hW1 ⊢
  unfold Gr.strV at *
  clear hr h1 hb1 hkz
  go_enter Tryz.func157, Tryz.ntmps157
  go_upto_region 1 with fail
  rw [hW1.out]
  clear hW1
  go_wp2_with fail
  go_ret
  exact ⟨by rw [HQ.out]; rfl, HB1.out⟩
set_option maxHeartbeats 8000000 in
theorem known_any (gn : List UInt8) (bd st : Int) (RA : Option Addr) (rc : Nat) (W : World) (hr : RsAt w0 B RA rs) (hb : Below B w0 W) (hB : B ≤ W.heap.size) :
    Calls Tryz.prog 155 #[.agg #[Gr.strV gn, .int .i64 bd, .int .i64 st, .slice RA rs.length rc]] W (KnownP w0 B rs W) := by
  obtain ⟨n, hn⟩ : ∃ n, rs.length = n := ⟨_, rfl⟩
  have hn6 : n ≤ 1000000 := by have := hr.few; omega
  have HN := hid hn
  have HR := hid hr
  have HBB := hid (And.intro hb hB)
  rw [hn]
  clear hn hr hb hB
  go_enter Tryz.func155, Tryz.ntmps155
  go_wp2_with fail
  refine wp_scope_jumps2 0 (fun a' w' => ∃ (e : List Bool) (u4 u5 u6 u7 u8 u9 u10 u11 u12 u13 u14 u15 u16 u17 u18 u19 u20 u21 u22 u23 u24 u25 u26 u27 u28 u29 u30 u31 u32 u33 u34 u35 u36 u37 u38 u39 u40 u41 u42 u43 u44 u45 u46 : Value), a' = { tmps := #[.agg #[Gr.strV gn, .int .i64 bd, .int .i64 st, .slice RA n rc], .pointer (some ⟨W.heap.size, 0, none⟩), .pointer none, .pointer (some ⟨W.heap.size + 1 + 1, 0, none⟩), u4, u5, u6, u7, u8, u9, u10, u11, u12, u13, u14, u15, u16, u17, u18, u19, u20, u21, u22, u23, u24, u25, u26, u27, u28, u29, u30, u31, u32, u33, u34, u35, u36, u37, u38, u39, u40, u41, u42, u43, u44, u45, u46], defers := [] } ∧ Hid (Gr.EmpI rs e ∧ KnI W #[Gr.strV gn, .int .i64 bd, .int .i64 st, .slice RA n rc] n e w')) (fun _ w' => cntW (W.heap.size + 1) w') rfl ?pass ?first
  case first =>
    intro hp
    have HP := hid hp
    clear hp
    have hmk := mkBools n hn6
    unfold Gr.strV at *
    go_wp2_with fail
    go_region
    go_wp2_with fail
    go_step3
    rename_i K ak
    refine ak _ _ (HP.out _ _ ⟨List.replicate n false, _, _, _, _, _, _, _, _, _, _, _, _, _, _, _, _, _, _, _, _, _, _, _, _, _, _, _, _, _, _, _, _, _, _, _, _, _, _, _, _, _, _, _, rfl, hid ⟨?_, ?_⟩⟩)
    · rw [← HN.out]
      exact Gr.EmpI.start rs
    · have z1 : (W.alloc (.cells #[.string ⟨gn.toArray⟩, .int .i64 bd, .int .i64 st, .slice RA n rc] 56)).heap.size = W.heap.size + 1 := by simp
      have z2 : ((W.alloc (.cells #[.string ⟨gn.toArray⟩, .int .i64 bd, .int .i64 st, .slice RA n rc] 56)).alloc (.cells (Array.replicate n (Value.bool false)) 4)).heap.size = W.heap.size + 2 := by simp
      refine ⟨(((below_new _ _).alloc (by omega) _).alloc (by omega) _).drew, ?_, ?_, ?_⟩
      · show (World.alloc _ _).heap[W.heap.size]? = _
        rw [Below.heap_alloc _ _ _ (by omega), Below.heap_alloc _ _ _ (by omega)]
        exact heap_alloc_new _ _
      · show (World.alloc _ _).heap[W.heap.size + 1]? = _
        rw [Below.heap_alloc _ _ _ (by omega), ← z1, heap_alloc_new]
        simp
      · show (World.alloc _ _).heap[W.heap.size + 1 + 1]? = _
        rw [show W.heap.size + 1 + 1 = W.heap.size + 2 from rfl, ← z2, heap_alloc_new]
        rfl
  case pass =>
    rintro a w' ⟨e, u4, u5, u6, u7, u8, u9, u10, u11, u12, u13, u14, u15, u16, u17, u18, u19, u20, u21, u22, u23, u24, u25, u26, u27, u28, u29, u30, u31, u32, u33, u34, u35, u36, u37, u38, u39, u40, u41, u42, u43, u44, u45, u46, rfl, HI⟩
    obtain ⟨w1, hw1⟩ : ∃ w1, w1 = w' := ⟨_, rfl⟩
    subst hw1
    have hg := HI.out.2.g
    have g3 : w1.cell? ⟨W.heap.size, 3, none⟩ = some (.slice RA n rc) := by rw [Lib.cell_of_heap hg]; rfl
    clear hg
    have HE := hid HI.out.1
    have HK1 := hid HI.out.2
    clear HI
    go_wp2_with fail
    clear g3
    go_loopw [4, 5, 6, 17] (fun ch _ _ iv wr => ∃ (i : Nat), i ≤ n ∧ iv = .int .i64 (i : Int) ∧ ch = .bool (Gr.chB rs e i) ∧ Hid (KnI W #[Gr.strV gn, .int .i64 bd, .int .i64 st, .slice RA n rc] n (Gr.passI rs e i) wr)) (fun _ _ _ iv _ => n - (intOf iv).toNat)
    case atStart => exact ⟨0, Nat.zero_le _, rfl, by rw [Gr.chB_zero], HK1⟩
    case round =>
      obtain ⟨i, hi, rfl, rfl, HI⟩ := hrel
      have hwi : IntKind.i64.wrap ((i : Int) + 1) = (i : Int) + 1 := w64 (by omega) (by omega)
      by_cases hlt : i < n
      · have hir : i < rs.length := by have := HN.out; omega
        have hltI : (i : Int) < (n : Int) := by omega
        obtain ⟨xs, hr1, hr2⟩ := HR.out.r
        obtain ⟨b, o, u0, u1, u2, u3, u4, u5, u6, u7, u8, u9, hRA, hbB, hru, c0, c1, c2, c3, c4, c5, c6, c7, c8, c9⟩ := readsRu hr1 hr2 i hir
        have hbw : Below B w0 wr := HBB.out.1.trans (HI.out.b.mono HBB.out.2)
        obtain ⟨xk, xm, xt, xSA, xa, xsc, xUA, xb, xuc, z0, z1, z2, hv, hnd⟩ := hru.form
        injection hv with hv0 hv
        injection hv with hv1 hv
        injection hv with hv2 hv
        injection hv with hv3 hv
        injection hv with hv4 hv
        injection hv with hv5 hv
        injection hv with hv6 hv
        injection hv with hv7 hv
        injection hv with hv8 hv
        injection hv with hv9 hv
        subst hv0 hv1 hv2 hv3 hv4 hv5 hv6 hv7 hv8 hv9 hRA
        have e0 := (hbw.cell (p := ⟨b, o + i * 10, none⟩) hbB).trans c0
        have e1 := (hbw.cell (p := ⟨b, o + i * 10 + 1, none⟩) hbB).trans c1
        have e2 := (hbw.cell (p := ⟨b, o + i * 10 + 2, none⟩) hbB).trans c2
        have e3 := (hbw.cell (p := ⟨b, o + i * 10 + 3, none⟩) hbB).trans c3
        have e4 := (hbw.cell (p := ⟨b, o + i * 10 + 4, none⟩) hbB).trans c4
        have e5 := (hbw.cell (p := ⟨b, o + i * 10 + 5, none⟩) hbB).trans c5
        have e6 := (hbw.cell (p := ⟨b, o + i * 10 + 6, none⟩) hbB).trans c6
        have e7 := (hbw.cell (p := ⟨b, o + i * 10 + 7, none⟩) hbB).trans c7
        have e8 := (hbw.cell (p := ⟨b, o + i * 10 + 8, none⟩) hbB).trans c8
        have e9 := (hbw.cell (p := ⟨b, o + i * 10 + 9, none⟩) hbB).trans c9
        have HRU := hid hru
        have HND := hid hnd
        clear c0 c1 c2 c3 c4 c5 c6 c7 c8 c9 hr1 hr2 hbw hru hnd hv
        unfold Gr.strV at *
        go_upto_region 6 with fail
        clear e0 e1 e2 e3 e4 e5 e6 e7 e8 e9
        have hb2 := below_new wr (.cells #[.string ⟨rs[i].name.toArray⟩, .int .u8 (rs[i].sort : Int), .int .u8 xk, .string xm, .string xt, .slice xSA xa xsc, .slice xUA xb xuc, .int .i64 z0, .int .i64 z1, .int .i64 z2] 80)
        have h2 := heap_alloc_new wr (.cells #[.string ⟨rs[i].name.toArray⟩, .int .u8 (rs[i].sort : Int), .int .u8 xk, .string xm, .string xt, .slice xSA xa xsc, .slice xUA xb xuc, .int .i64 z0, .int .i64 z1, .int .i64 z2] 80)
        have hrw : wr.heap.size < (wr.alloc (.cells #[.string ⟨rs[i].name.toArray⟩, .int .u8 (rs[i].sort : Int), .int .u8 xk, .string xm, .string xt, .slice xSA xa xsc, .slice xUA xb xuc, .int .i64 z0, .int .i64 z1, .int .i64 z2] 80)).heap.size := by simp
        generalize wr.alloc (.cells #[.string ⟨rs[i].name.toArray⟩, .int .u8 (rs[i].sort : Int), .int .u8 xk, .string xm, .string xt, .slice xSA xa xsc, .slice xUA xb xuc, .int .i64 z0, .int .i64 z1, .int .i64 z2] 80) = W2 at hb2 h2 hrw ⊢
        have hk2 := HI.out.next hb2
        have hkr : KnI W #[Gr.strV gn, .int .i64 bd, .int .i64 st, .slice (some ⟨b, o, none⟩) rs.length rc] rs.length (Gr.passI rs e i) W2 := by rw [HN.out]; exact hk2
        have hel : (Gr.passI rs e i).length = rs.length := by rw [Gr.passI_len, HE.out.1]
        have hask := hkr.ask HR.out HBB.out.1 HBB.out.2 hel
        have hok := HR.out.ok rs[i] (List.getElem_mem hir)
        obtain ⟨ui, hui⟩ : ∃ u, Gr.ruAt rs i = u := ⟨_, rfl⟩
        have hui2 : rs[i] = ui := by rw [← hui, ruAt_eq hir]
        have HUI := hid hui
        obtain ⟨tk, htk⟩ : ∃ tk, Gr.isTok ui = tk := ⟨_, rfl⟩
        obtain ⟨q, hq⟩ : ∃ q, Gr.mayN rs (Gr.passI rs e i) tk ui.body = q := ⟨_, rfl⟩
        have HTK := hid (And.intro htk hq)
        have HT : Hid (∀ d os, Calls Tryz.prog 157 #[.agg #[.string ⟨rs[i].name.toArray⟩, .int .u8 (rs[i].sort : Int), .int .u8 xk, .string xm, .string xt, .slice xSA xa xsc, .slice xUA xb xuc, .int .i64 z0, .int .i64 z1, .int .i64 z2]] (Sort.grow (redrawn W2 d) os) fun e w'' => e = .returned (.bool tk) ∧ ∃ p : Regrown, w'' = Sort.grow (redrawn W2 p.d) p.os) := hid fun d os => Calls.regrown_of (by have := token_any rs[i] _ (Sort.grow (redrawn W2 d) os) HRU.out; rw [show Gr.isTok rs[i] = tk by rw [hui2]; exact htk] at this; exact this)
        have HM : Hid (∀ d os, Calls Tryz.prog 179 #[.pointer (some ⟨W.heap.size + 1 + 1, 0, none⟩), .bool tk, .agg #[.int .u8 xk, .string xm, .string xt, .slice xSA xa xsc, .slice xUA xb xuc]] (Sort.grow (redrawn W2 d) os) fun e w'' => e = .returned (.bool q) ∧ ∃ p : Regrown, w'' = Sort.grow (redrawn W2 p.d) p.os) := hid fun d os => Calls.regrown_of (by have := may_any (token := tk) rs[i].body hok.2.2 _ (Sort.grow (redrawn W2 d) os) HND.out (hask.next (below_regrown W2 d os)); rw [show Gr.mayN rs (Gr.passI rs e i) tk rs[i].body = q by rw [hui2]; exact hq] at this; exact this)
        obtain ⟨kv, hkv⟩ : ∃ kv, (Gr.passI rs e i).getD i false = kv := ⟨_, rfl⟩
        have q4 : W2.cell? ⟨W.heap.size + 1 + 1, 4, none⟩ = some (.slice (some ⟨W.heap.size + 1, 0, none⟩) n n) := by rw [Lib.cell_of_heap hk2.a]; rfl
        have q5 : W2.cell? ⟨W.heap.size + 1, i, none⟩ = some (.bool kv) := by
          rw [Lib.cell_of_heap hk2.k, ← hkv]
          simp [List.getD_eq_getElem?_getD, List.getElem?_eq_getElem (show i < (Gr.passI rs e i).length by omega)]
        have r0 : W2.cell? ⟨wr.heap.size, 0, none⟩ = some (.string ⟨rs[i].name.toArray⟩) := by rw [Lib.cell_of_heap h2]; rfl
        have r1 : W2.cell? ⟨wr.heap.size, 1, none⟩ = some (.int .u8 (rs[i].sort : Int)) := by rw [Lib.cell_of_heap h2]; rfl
        have r2 : W2.cell? ⟨wr.heap.size, 2, none⟩ = some (.int .u8 xk) := by rw [Lib.cell_of_heap h2]; rfl
        have r3 : W2.cell? ⟨wr.heap.size, 3, none⟩ = some (.string xm) := by rw [Lib.cell_of_heap h2]; rfl
        have r4 : W2.cell? ⟨wr.heap.size, 4, none⟩ = some (.string xt) := by rw [Lib.cell_of_heap h2]; rfl
        have r5 : W2.cell? ⟨wr.heap.size, 5, none⟩ = some (.slice xSA xa xsc) := by rw [Lib.cell_of_heap h2]; rfl
        have r6 : W2.cell? ⟨wr.heap.size, 6, none⟩ = some (.slice xUA xb xuc) := by rw [Lib.cell_of_heap h2]; rfl
        have r7 : W2.cell? ⟨wr.heap.size, 7, none⟩ = some (.int .i64 z0) := by rw [Lib.cell_of_heap h2]; rfl
        have r8 : W2.cell? ⟨wr.heap.size, 8, none⟩ = some (.int .i64 z1) := by rw [Lib.cell_of_heap h2]; rfl
        have r9 : W2.cell? ⟨wr.heap.size, 9, none⟩ = some (.int .i64 z2) := by rw [Lib.cell_of_heap h2]; rfl
        have Q4 := fun d os => cell_regrown q4 d os
        have Q5 := fun d os => cell_regrown q5 d os
        have R0 := fun d os => cell_regrown r0 d os
        have R1 := fun d os => cell_regrown r1 d os
        have R2 := fun d os => cell_regrown r2 d os
        have R3 := fun d os => cell_regrown r3 d os
        have R4 := fun d os => cell_regrown r4 d os
        have R5 := fun d os => cell_regrown r5 d os
        have R6 := fun d os => cell_regrown r6 d os
        have R7 := fun d os => cell_regrown r7 d os
        have R8 := fun d os => cell_regrown r8 d os
        have R9 := fun d os => cell_regrown r9 d os
        have HK2 := hid hk2
        have HKV := hid hkv
        have HEL := hid hel
        have hi0 : (0 : Int) ≤ (i : Int) := by omega
        clear r0 r1 r2 r3 r4 r5 r6 r7 r8 r9 q4 q5 h2 hk2 hkr hask hok htk hq hkv hel hui hui2 hb2 HI HRU HND
        generalize rs[i].name = rnm at *
        generalize ((rs[i].sort : Nat) : Int) = rst at *
        cases kv with
        | true =>
          refine wp_region_quiet_below (by kernel_rfl) (by kernel_rfl) ?_
          repeat (quiet_step (fail))
          refine wpQuiet_nil ?_
          rintro _ ⟨⟨dq, osq⟩, rfl⟩
          have hb3 := below_regrown W2 dq osq
          clear Q4 Q5 R0 R1 R2 R3 R4 R5 R6 R7 R8 R9 HT HM
          generalize Sort.grow (redrawn W2 dq) osq = W3 at hb3 ⊢
          have HK3 := hid (HK2.out.next hb3)
          have HNT := hid (Gr.passI_not rs e i (.inl HKV.out))
          clear hb3
          go_wp2_with fail
          go_roundw
          case rel => exact ⟨i + 1, hlt, by go_num, by rw [HNT.out.2], by rw [HNT.out.1]; exact HK3⟩
          case measure => simp only [intOf]; omega
        | false =>
          refine wp_region_quiet_below (by kernel_rfl) (by kernel_rfl) ?_
          repeat (quiet_step (first | (with_reducible exact HT.out _ _) | (with_reducible exact HM.out _ _)))
          refine wpQuiet_nil ?_
          rintro _ ⟨⟨dq, osq⟩, rfl⟩
          have hb3 := below_regrown W2 dq osq
          clear Q4 Q5 R0 R1 R2 R3 R4 R5 R6 R7 R8 R9 HT HM
          generalize Sort.grow (redrawn W2 dq) osq = W3 at hb3 ⊢
          have hk3 := HK2.out.next hb3
          have q4 : W3.cell? ⟨W.heap.size + 1 + 1, 4, none⟩ = some (.slice (some ⟨W.heap.size + 1, 0, none⟩) n n) := by rw [Lib.cell_of_heap hk3.a]; rfl
          have q5 : W3.cell? ⟨W.heap.size + 1, i, none⟩ = some (.bool false) := by
            rw [Lib.cell_of_heap hk3.k, ← HKV.out]
            simp [List.getD_eq_getElem?_getD, List.getElem?_eq_getElem (show i < (Gr.passI rs e i).length by have := HEL.out; omega)]
          have q6 := fun j => Lib.frozen_of_heap hk3.k j
          have HK3 := hid hk3
          clear hb3 hk3
          cases q with
          | true =>
            have HNT := hid (Gr.chB_set rs e i (by have := HEL.out; omega) HKV.out (by rw [HUI.out, HTK.out.1]; exact HTK.out.2))
            have HS := hid (HK3.out.set i)
            go_wp2_with fail
            go_roundw
            case rel => exact ⟨i + 1, hlt, by go_num, by rw [HNT.out.2], by rw [HNT.out.1]; exact HS⟩
            case measure => simp only [intOf]; omega
          | false =>
            have HNT := hid (Gr.passI_not rs e i (.inr (by rw [HUI.out, HTK.out.1]; exact HTK.out.2)))
            clear q4 q5 q6
            go_wp2_with fail
            go_roundw
            case rel => exact ⟨i + 1, hlt, by go_num, by rw [HNT.out.2], by rw [HNT.out.1]; exact HK3⟩
            case measure => simp only [intOf]; omega
      · have hie : i = n := by omega
        subst hie
        clear hlt hwi
        have HEN : Hid (Gr.EmpI rs e ∧ rs.length = i) := hid ⟨HE.out, HN.out⟩
        obtain ⟨ch, hch⟩ : ∃ ch, Gr.chB rs e i = ch := ⟨_, rfl⟩
        have HCH := hid hch
        rw [hch]
        clear hch
        have HI2 := hid HI.out
        cases ch with
        | true =>
          clear HI
          go_wp2_with fail
          go_step3
          have hnx := HEN.out.1.next (by rw [HEN.out.2]; exact HCH.out)
          rw [HEN.out.2] at hnx
          refine And.intro rfl (And.intro ⟨Gr.passI rs e i, _, _, _, _, _, _, _, _, _, _, _, _, _, _, _, _, _, _, _, _, _, _, _, _, _, _, _, _, _, _, _, _, _, _, _, _, _, _, _, _, _, _, _, rfl, hid ⟨hnx.1, HI2.out⟩⟩ ?_)
          rw [cntW_eq HI2.out.k, cntW_eq HK1.out.k]
          exact hnx.2
        | false =>
          clear HI
          go_wp2_with fail
          show bodyPost _ _ _ Exit.ret _ _
          have hdn := HEN.out.1.done (by rw [HEN.out.2]; exact HCH.out)
          rw [HEN.out.2] at hdn
          have hki : KnI W #[Gr.strV gn, .int .i64 bd, .int .i64 st, .slice RA rs.length rc] rs.length e wr := by
            rw [HEN.out.2]
            have := HI2.out
            rw [hdn.2] at this
            exact this
          go_ret
          exact ⟨W.heap.size + 1 + 1, rfl, by rw [hdn.1]; exact hki.ask HR.out HBB.out.1 HBB.out.2 HEN.out.1.1, HI2.out.b, by rw [hdn.1]; exact ⟨W.heap.size + 1, gn, bd, st, RA, _, rc, hki.a, hki.k, HEN.out.1.1⟩⟩
end
end Go.Proofs.YtpbnfinmjnpkpaaGreatDoor
