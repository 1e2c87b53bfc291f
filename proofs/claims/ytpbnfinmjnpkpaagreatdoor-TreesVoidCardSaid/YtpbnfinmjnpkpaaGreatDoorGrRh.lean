/-
  Which rules each one reaches (nulls.Reach): the walk.
-/
import Derived.Test.YtpbnfinmjnpkpaaGreatDoorGrMat
import Derived.Deep.LoopGhost
import Derived.Deep.CutRange
namespace Go.Proofs.YtpbnfinmjnpkpaaGreatDoor
open Go.RowKit
set_option maxRecDepth 100000
/-- a proposition that is not looked into -/
structure Boxd (p : Prop) : Prop where
  out : p
/-- one operation: what follows is not looked into meanwhile -/
theorem wpStill_step4 {P : Program} {ops : Array Oper} {w : World} {Q : Act → Prop} {a : Act} {o : Oper} {rest : List Oper}
    (h : ∀ K : Act → Prop, (∀ a, Boxd (wpStill P ops w Q rest a) → K a) → if Region.wanted o (yielded ops a.tmps) then o.still P a w K else K (a.put o.dst undef)) : Boxd (wpStill P ops w Q (o :: rest) a) := ⟨h _ fun _ h => h.out⟩
/-- the square that is made -/
structure RhM (Wk : World) (n i : Nat) (rb : Nat → Nat) (F : Nat → Nat → Bool) (u : World) : Prop where
  b : Below Wk.heap.size Wk u
  x : u.heap[Wk.heap.size + 1]? = some (.cells #[.slice (some ⟨Wk.heap.size, 0, none⟩) n n] 179 (0, 0))
  m : MatM Wk.heap.size Wk.heap.size n i rb F u
theorem RhM.next {Wk u u' : World} {n i : Nat} {rb : Nat → Nat} {F : Nat → Nat → Bool} (h : RhM Wk n i rb F u) (hb : Below u.heap.size u u') : RhM Wk n i rb F u' :=
  ⟨h.b.trans (hb.mono h.b.size), (hb.block _ (heap_lt h.x)).trans h.x, h.m.next hb⟩
theorem RhM.set {Wk u : World} {n i : Nat} {rb : Nat → Nat} {F : Nat → Nat → Bool} (h : RhM Wk n i rb F u) {r : Nat} (hr : r < i) (q : Nat) (b : Bool) : RhM Wk n i rb (fun x y => if x = r ∧ y = q then b else F x y) (u.setCell ⟨rb r, q, none⟩ (.bool b)) := by
  have ho := Only.of_set u (rb r) q (.bool b)
  have hx := (h.m.far h.x (by decide) (by decide)).2 r hr
  exact ⟨ho.below (fun k e => by have := (h.m.row r hr).2; omega) h.b h.b.size, (ho.block _ (heap_lt h.x) fun e => hx e.symm).trans h.x, h.m.set hr q b⟩
/-- row i, as far as it is told -/
structure RhJ (Wk : World) (n i ib : Nat) (rb : Nat → Nat) (F : Nat → Nat → Bool) (pre : List Nat) (u : World) : Prop where
  h : RhM Wk n (i + 1) rb (fun j c => if j = i then pre.contains c else F j c) u
  i : u.heap[ib]? = some (.cells #[.int .i64 (i : Int)] 3 (0, 0))
theorem tell1_any (Wk : World) (n i ib : Nat) (rb : Nat → Nat) (F : Nat → Nat → Bool) (pre : List Nat) (k : Nat) (u : World) (h : RhJ Wk n i ib rb F pre u) (hk : k < n) :
    Calls Tryz.prog 158 #[.int .i64 (k : Int), .pointer (some ⟨Wk.heap.size + 1, 0, none⟩), .pointer (some ⟨ib, 0, none⟩)] u fun e u' => (∃ v, e = .returned v) ∧ RhJ Wk n i ib rb F (pre ++ [k]) u' ∧ KpT Wk.heap.size (fun b T => b = rb i ∧ T = 4) u u' := by
  have hin : i < n := h.h.m.le
  have hii : i < i + 1 := by omega
  have hs : RhJ Wk n i ib rb F (pre ++ [k]) (u.setCell ⟨rb i, k, none⟩ (.bool true)) := by
    have ho := Only.of_set u (rb i) k (.bool true)
    have hx := (h.h.m.far h.i (by decide) (by decide)).2 i hii
    have hm := h.h.set hii k true
    refine ⟨⟨hm.b, hm.x, hm.m.congr fun j c _ _ => ?_⟩, (ho.block _ (heap_lt h.i) fun e => hx e.symm).trans h.i⟩
    by_cases e : j = i
    · subst e
      simp only [if_true, true_and]
      by_cases e2 : c = k
      · subst e2; simp
      · simp [e2]
    · simp only [if_neg e, show ¬ (j = i ∧ c = k) from fun g => e g.1, if_false]
  have hkp : KpT Wk.heap.size (fun b T => b = rb i ∧ T = 4) u (u.setCell ⟨rb i, k, none⟩ (.bool true)) := by
    have ho := Only.of_set u (rb i) k (.bool true)
    refine ⟨ho.below (fun k e => by have := (h.h.m.row i hii).2; omega) (Below.refl _ _) h.h.b.size, fun b cs T e hc => (ho.block _ (heap_lt e) fun e2 => hc ⟨e2, ?_⟩).trans e⟩
    have h1 := (h.h.m.row i hii).1
    rw [← e2, e] at h1
    injection h1 with h1
    injection h1 with _ h1
  have c0 : u.cell? ⟨Wk.heap.size + 1, 0, none⟩ = some (.slice (some ⟨Wk.heap.size, 0, none⟩) n n) := by rw [Lib.cell_of_heap h.h.x]; rfl
  have c1 : u.cell? ⟨ib, 0, none⟩ = some (.int .i64 (i : Int)) := by rw [Lib.cell_of_heap h.i]; rfl
  obtain ⟨d0, d1, d2⟩ := h.h.m.bit hii hk
  have hiI : (i : Int) < (n : Int) := by omega
  have hkI : (k : Int) < (n : Int) := by omega
  have hi0 : (0 : Int) ≤ (i : Int) := by omega
  have hk0 : (0 : Int) ≤ (k : Int) := by omega
  have HF := hid (And.intro hs hkp)
  generalize rb i = ri at d0 d1 d2 HF
  clear hs hkp h
  go_enter Tryz.func158, Tryz.ntmps158
  go_wp2_with fail
  go_end0
  exact ⟨⟨_, rfl⟩, HF.out⟩
section
variable {w0 : World} {B : Nat} {rs : List Gr.Ru}
/-- who reaches whom, in memory -/
def SqP (n : Nat) (F : Nat → Nat → Bool) (w : World) (e : Ending) (w' : World) : Prop := ∃ ob rb, e = .returned (.slice (some ⟨ob, 0, none⟩) n n) ∧ MatM w.heap.size ob n n rb F w' ∧ Below w.heap.size w w'
set_option maxHeartbeats 8000000 in
theorem nreach_any (gn : List UInt8) (bd st : Int) (RA : Option Addr) (rc : Nat) (W : World) (hr : RsAt w0 B RA rs) (hb : Below B w0 W) (hB : B ≤ W.heap.size) :
    Calls Tryz.prog 127 #[.agg #[Gr.strV gn, .int .i64 bd, .int .i64 st, .slice RA rs.length rc]] W (SqP rs.length (Gr.reachF rs) W) := by
  have hb1 := below_new W (.cells #[.string ⟨gn.toArray⟩, .int .i64 bd, .int .i64 st, .slice RA rs.length rc] 56)
  have h1 := heap_alloc_new W (.cells #[.string ⟨gn.toArray⟩, .int .i64 bd, .int .i64 st, .slice RA rs.length rc] 56)
  obtain ⟨W1, hW1⟩ : ∃ W1, Hid (W.alloc (.cells #[.string ⟨gn.toArray⟩, .int .i64 bd, .int .i64 st, .slice RA rs.length rc] 56) = W1) := ⟨_, hid rfl⟩
  rw [hW1.out] at hb1 h1
  have H := hid (known_any gn bd st RA rc W1 hr (hb.trans (hb1.mono hB)) (Nat.le_trans hB hb1.size))
  have k0 : W1.cell? ⟨W.heap.size, 0, none⟩ = some (.string ⟨gn.toArray⟩) := by rw [Lib.cell_of_heap h1]; rfl
  have k1 : W1.cell? ⟨W.heap.size, 1, none⟩ = some (.int .i64 bd) := by rw [Lib.cell_of_heap h1]; rfl
  have k2 : W1.cell? ⟨W.heap.size, 2, none⟩ = some (.int .i64 st) := by rw [Lib.cell_of_heap h1]; rfl
  have k3 : W1.cell? ⟨W.heap.size, 3, none⟩ = some (.slice RA rs.length rc) := by rw [Lib.cell_of_heap h1]; rfl
  have HB1 := hid hb1
  have HH1 := hid h1
  have HR := hid hr
  have HBB := hid (And.intro hb hB)
  obtain ⟨n, hnn⟩ : ∃ n, rs.length = n := ⟨_, rfl⟩
  have hn6 : n ≤ 1000000 := by have := hr.few; omega
  have HN := hid hnn
  rw [hnn] at H k3 hW1 HH1 ⊢
  unfold Gr.strV at *
  clear hb1 h1 hr hb hB hnn
  go_enter Tryz.func127, Tryz.ntmps127
  go_upto_region 1 with fail
  rw [hW1.out]
  clear hW1
  go_wp2_with fail
  refine H.out.mono ?_
  rintro _ Wk ⟨ab, rfl, hask, hb2, _⟩
  have hk := (hb2.block _ (heap_lt HH1.out)).trans HH1.out
  have g3 : Wk.cell? ⟨W.heap.size, 3, none⟩ = some (.slice RA n rc) := by rw [Lib.cell_of_heap hk]; rfl
  have hmk := mkRows n hn6
  have HA := hid hask
  have HB2 := hid (HB1.out.trans (hb2.mono HB1.out.size))
  have HG := hid hk
  clear k0 k1 k2 k3 hb2 hk hask H HH1 HB1
  go_upto_region 3 with fail
  have hz1 : (Wk.alloc (.cells (Array.replicate n (Value.slice none 0 0)) 155)).heap.size = Wk.heap.size + 1 := by simp
  have hS0 : Hid (RhM Wk n 0 (fun _ => 0) (fun i k => (Gr.toldN rs (Gr.emptyR rs) (Gr.isTok (Gr.ruAt rs i)) (Gr.ruAt rs i).body).contains k) ((Wk.alloc (.cells (Array.replicate n (Value.slice none 0 0)) 155)).alloc (.cells #[.slice (some ⟨Wk.heap.size, 0, none⟩) n n] 179))) :=
    hid ⟨(below_new _ _).alloc (by omega) _, by rw [← hz1]; exact heap_alloc_new _ _, MatM.start (by rw [Below.heap_alloc _ _ _ (by omega)]; exact heap_alloc_new _ _) _ _⟩
  have hbz : Below Wk.heap.size Wk ((Wk.alloc (.cells (Array.replicate n (Value.slice none 0 0)) 155)).alloc (.cells #[.slice (some ⟨Wk.heap.size, 0, none⟩) n n] 179)) := hS0.out.b
  have hgl : W.heap.size < Wk.heap.size := heap_lt HG.out
  have g3 := (hbz.cell (p := ⟨W.heap.size, 3, none⟩) hgl).trans g3
  generalize ((Wk.alloc (.cells (Array.replicate n (Value.slice none 0 0)) 155)).alloc (.cells #[.slice (some ⟨Wk.heap.size, 0, none⟩) n n] 179)) = W3 at hS0 hbz g3 ⊢
  clear hz1 hmk hbz
  have hmk := mkBools n hn6
  go_wp2_with fail
  clear g3
  go_loopw [5, 6, 19] (fun _ _ iv wr => ∃ (i : Nat) (rb : Nat → Nat), i ≤ n ∧ iv = .int .i64 (i : Int) ∧ Hid (RhM Wk n i rb (fun i k => (Gr.toldN rs (Gr.emptyR rs) (Gr.isTok (Gr.ruAt rs i)) (Gr.ruAt rs i).body).contains k) wr)) (fun _ _ iv _ => n - (intOf iv).toNat)
  case atStart => exact ⟨0, _, Nat.zero_le _, rfl, hS0⟩
  case round =>
    clear hS0
    obtain ⟨i, rb, hi, rfl, HI⟩ := hrel
    have hwi : IntKind.i64.wrap ((i : Int) + 1) = (i : Int) + 1 := w64 (by omega) (by omega)
    by_cases hlt : i < n
    · have hir : i < rs.length := by have := HN.out; omega
      have hltI : (i : Int) < (n : Int) := by omega
      obtain ⟨xs, hr1, hr2⟩ := HR.out.r
      obtain ⟨b, o, u0, u1, u2, u3, u4, u5, u6, u7, u8, u9, hRA, hbB, hru, c0, c1, c2, c3, c4, c5, c6, c7, c8, c9⟩ := readsRu hr1 hr2 i hir
      have hbw : Below B w0 wr := HBB.out.1.trans ((HB2.out.trans (HI.out.b.mono HB2.out.size)).mono HBB.out.2)
      obtain ⟨xk, xm, xt, xSA, xa, xsc, xUA, xb, xuc, z0, z1, z2, hv, hnd⟩ := hru.form
      injection hv with hv0 hv
      injection hv with hv1 hv
      injection hv with hv2 hv
      injection hv with hv3 hv
      injection hv with hv4 hv
      injection hv with hv5 hv
      injection hv with hv6 hv
      injection hv with hv7 hv
      injection hv with hv8 hv
      injection hv with hv9 hv
      subst hv0 hv1 hv2 hv3 hv4 hv5 hv6 hv7 hv8 hv9 hRA
      have e0 := (hbw.cell (p := ⟨b, o + i * 10, none⟩) hbB).trans c0
      have e1 := (hbw.cell (p := ⟨b, o + i * 10 + 1, none⟩) hbB).trans c1
      have e2 := (hbw.cell (p := ⟨b, o + i * 10 + 2, none⟩) hbB).trans c2
      have e3 := (hbw.cell (p := ⟨b, o + i * 10 + 3, none⟩) hbB).trans c3
      have e4 := (hbw.cell (p := ⟨b, o + i * 10 + 4, none⟩) hbB).trans c4
      have e5 := (hbw.cell (p := ⟨b, o + i * 10 + 5, none⟩) hbB).trans c5
      have e6 := (hbw.cell (p := ⟨b, o + i * 10 + 6, none⟩) hbB).trans c6
      have e7 := (hbw.cell (p := ⟨b, o + i * 10 + 7, none⟩) hbB).trans c7
      have e8 := (hbw.cell (p := ⟨b, o + i * 10 + 8, none⟩) hbB).trans c8
      have e9 := (hbw.cell (p := ⟨b, o + i * 10 + 9, none⟩) hbB).trans c9
      have HRU := hid hru
      have HND := hid hnd
      clear c0 c1 c2 c3 c4 c5 c6 c7 c8 c9 hr1 hr2 hbw hru hnd hv
      unfold Gr.strV at *
      go_upto_region 6 with fail
      clear e0 e1 e2 e3 e4 e5 e6 e7 e8 e9
      have hzi : (wr.alloc (.cells #[.int .i64 (i : Int)] 3)).heap.size = wr.heap.size + 1 := by simp
      have hb4 : Below wr.heap.size wr ((wr.alloc (.cells #[.int .i64 (i : Int)] 3)).alloc (.cells #[.string ⟨rs[i].name.toArray⟩, .int .u8 (rs[i].sort : Int), .int .u8 xk, .string xm, .string xt, .slice xSA xa xsc, .slice xUA xb xuc, .int .i64 z0, .int .i64 z1, .int .i64 z2] 80)) := (below_new _ _).alloc (by omega) _
      have hi4 : ((wr.alloc (.cells #[.int .i64 (i : Int)] 3)).alloc (.cells #[.string ⟨rs[i].name.toArray⟩, .int .u8 (rs[i].sort : Int), .int .u8 xk, .string xm, .string xt, .slice xSA xa xsc, .slice xUA xb xuc, .int .i64 z0, .int .i64 z1, .int .i64 z2] 80)).heap[wr.heap.size]? = some (.cells #[.int .i64 (i : Int)] 3 (0, 0)) := by rw [Below.heap_alloc _ _ _ (by omega)]; exact heap_alloc_new _ _
      have hr4 : ((wr.alloc (.cells #[.int .i64 (i : Int)] 3)).alloc (.cells #[.string ⟨rs[i].name.toArray⟩, .int .u8 (rs[i].sort : Int), .int .u8 xk, .string xm, .string xt, .slice xSA xa xsc, .slice xUA xb xuc, .int .i64 z0, .int .i64 z1, .int .i64 z2] 80)).heap[wr.heap.size + 1]? = some (.cells #[.string ⟨rs[i].name.toArray⟩, .int .u8 (rs[i].sort : Int), .int .u8 xk, .string xm, .string xt, .slice xSA xa xsc, .slice xUA xb xuc, .int .i64 z0, .int .i64 z1, .int .i64 z2] 80 (0, 0)) := by rw [← hzi]; exact heap_alloc_new _ _
      generalize (wr.alloc (.cells #[.int .i64 (i : Int)] 3)).alloc (.cells #[.string ⟨rs[i].name.toArray⟩, .int .u8 (rs[i].sort : Int), .int .u8 xk, .string xm, .string xt, .slice xSA xa xsc, .slice xUA xb xuc, .int .i64 z0, .int .i64 z1, .int .i64 z2] 80) = W4 at hb4 hi4 hr4 ⊢
      have hm4 := HI.out.next hb4
      have s0 : W4.cell? ⟨Wk.heap.size + 1, 0, none⟩ = some (.slice (some ⟨Wk.heap.size, 0, none⟩) n n) := by rw [Lib.cell_of_heap hm4.x]; rfl
      have s1 : W4.cell? ⟨wr.heap.size, 0, none⟩ = some (.int .i64 (i : Int)) := by rw [Lib.cell_of_heap hi4]; rfl
      have s2 : W4.cell? ⟨W.heap.size, 3, none⟩ = some (.slice (some ⟨b, o, none⟩) n rc) := by rw [hm4.b.cell (p := ⟨W.heap.size, 3, none⟩) hgl, Lib.cell_of_heap HG.out]; rfl
      have hol : Wk.heap.size < W4.heap.size := heap_lt hm4.m.outer
      have t0 : ∃ v, W4.cell? ⟨Wk.heap.size, i, none⟩ = some v := by
        rw [Lib.cell_of_heap hm4.m.outer]
        unfold Gr.rArr
        exact ⟨_, by simp [hlt]; rfl⟩
      obtain ⟨tv, t0⟩ := t0
      have t1 : W4.frozen? ⟨Wk.heap.size, i, none⟩ = false := Lib.frozen_of_heap hm4.m.outer i
      have t2 : ∀ o, (W4.alloc o).cell? ⟨Wk.heap.size, i, none⟩ = some tv := fun o => by rw [← t0]; exact (below_new W4 o).cell (p := ⟨Wk.heap.size, i, none⟩) hol
      have t3 : ∀ o, (W4.alloc o).frozen? ⟨Wk.heap.size, i, none⟩ = false := fun o => by rw [← t1]; exact (below_new W4 o).frozen (p := ⟨Wk.heap.size, i, none⟩) hol
      have hxl : Wk.heap.size + 1 < W4.heap.size := heap_lt hm4.x
      have hil4 : wr.heap.size < W4.heap.size := heap_lt hi4
      have s3 : ∀ o, (W4.alloc o).cell? ⟨Wk.heap.size + 1, 0, none⟩ = some (.slice (some ⟨Wk.heap.size, 0, none⟩) n n) := fun o => by rw [← s0]; exact (below_new W4 o).cell (p := ⟨Wk.heap.size + 1, 0, none⟩) hxl
      have s4 : ∀ o, (W4.alloc o).cell? ⟨wr.heap.size, 0, none⟩ = some (.int .i64 (i : Int)) := fun o => by rw [← s1]; exact (below_new W4 o).cell (p := ⟨wr.heap.size, 0, none⟩) hil4
      have hi0 : (0 : Int) ≤ (i : Int) := by omega
      have HM4 := hid hm4
      have HI4 := hid hi4
      have HR4 := hid hr4
      clear hzi hb4 hi4 hr4 hm4
      go_region
      clear s0 s1 s2 s3 s4 t0 t1 t2 t3
      have hzs : (W4.setCell ⟨Wk.heap.size, i, none⟩ (.slice (some ⟨W4.heap.size, 0, none⟩) n n)).heap.size = W4.heap.size := by simp
      have ho4 := Only.of_set W4 Wk.heap.size i (.slice (some ⟨W4.heap.size, 0, none⟩) n n)
      have hh4 := heap_setCell_same W4 Wk.heap.size i _ _ (.slice (some ⟨W4.heap.size, 0, none⟩) n n) HM4.out.m.outer
      have hb5 : Below (W4.setCell ⟨Wk.heap.size, i, none⟩ (.slice (some ⟨W4.heap.size, 0, none⟩) n n)).heap.size (W4.setCell ⟨Wk.heap.size, i, none⟩ (.slice (some ⟨W4.heap.size, 0, none⟩) n n)) ((W4.setCell ⟨Wk.heap.size, i, none⟩ (.slice (some ⟨W4.heap.size, 0, none⟩) n n)).alloc (.cells (Array.replicate n (Value.bool false)) 4)).drew := (below_new _ _).drew
      have hx5 : ((W4.setCell ⟨Wk.heap.size, i, none⟩ (.slice (some ⟨W4.heap.size, 0, none⟩) n n)).alloc (.cells (Array.replicate n (Value.bool false)) 4)).drew.heap[W4.heap.size]? = some (.cells (Array.replicate n (Value.bool false)) 4 (0, 0)) := by
        show ((W4.setCell ⟨Wk.heap.size, i, none⟩ (.slice (some ⟨W4.heap.size, 0, none⟩) n n)).alloc (.cells (Array.replicate n (Value.bool false)) 4)).heap[W4.heap.size]? = _
        have h9 := heap_alloc_new (W4.setCell ⟨Wk.heap.size, i, none⟩ (.slice (some ⟨W4.heap.size, 0, none⟩) n n)) (.cells (Array.replicate n (Value.bool false)) 4)
        rw [hzs] at h9
        exact h9
      generalize ((W4.setCell ⟨Wk.heap.size, i, none⟩ (.slice (some ⟨W4.heap.size, 0, none⟩) n n)).alloc (.cells (Array.replicate n (Value.bool false)) 4)).drew = W5 at hb5 hx5 ⊢
      rw [hzs] at hb5
      have hk5 : ∀ b, b < W4.heap.size → b ≠ Wk.heap.size → W5.heap[b]? = W4.heap[b]? := fun b h1 h2 => (hb5.block b h1).trans (ho4.block b h1 h2)
      have hm5 : RhM Wk n (i + 1) (fun j => if j = i then W4.heap.size else rb j) (fun j c => if j = i then false else (Gr.toldN rs (Gr.emptyR rs) (Gr.isTok (Gr.ruAt rs j)) (Gr.ruAt rs j).body).contains c) W5 :=
        ⟨HM4.out.b.trans (ho4.below (fun k e => by omega) (Below.refl _ _) HM4.out.b.size |>.trans (hb5.mono HM4.out.b.size)), (hk5 _ hxl (by omega)).trans HM4.out.x,
          HM4.out.m.push2 hlt HM4.out.b.size W4.heap.size hx5 (Nat.le_refl _) ((hb5.block _ hol).trans hh4) fun j hj => hk5 _ (heap_lt (HM4.out.m.row j hj).1) (HM4.out.m.ne hj)⟩
      have hi5 : W5.heap[wr.heap.size]? = some (.cells #[.int .i64 (i : Int)] 3 (0, 0)) := (hk5 _ hil4 (by have := HI.out.b.size; have := heap_lt HI.out.x; omega)).trans HI4.out
      have hr5 : W5.heap[wr.heap.size + 1]? = some (.cells #[.string ⟨rs[i].name.toArray⟩, .int .u8 (rs[i].sort : Int), .int .u8 xk, .string xm, .string xt, .slice xSA xa xsc, .slice xUA xb xuc, .int .i64 z0, .int .i64 z1, .int .i64 z2] 80 (0, 0)) := (hk5 _ (heap_lt HR4.out) (by have := HI.out.b.size; omega)).trans HR4.out
      have hj5 : RhJ Wk n i wr.heap.size (fun j => if j = i then W4.heap.size else rb j) (fun j c => (Gr.toldN rs (Gr.emptyR rs) (Gr.isTok (Gr.ruAt rs j)) (Gr.ruAt rs j).body).contains c) [] W5 := by
        refine ⟨⟨hm5.b, hm5.x, hm5.m.congr fun j c _ _ => ?_⟩, hi5⟩
        by_cases e : j = i <;> simp [e]
      have hT : TellT rs Wk (fun b T => b = W4.heap.size ∧ T = 4) 158 #[.pointer (some ⟨Wk.heap.size + 1, 0, none⟩), .pointer (some ⟨wr.heap.size, 0, none⟩)] (RhJ Wk n i wr.heap.size (fun j => if j = i then W4.heap.size else rb j) (fun j c => (Gr.toldN rs (Gr.emptyR rs) (Gr.isTok (Gr.ruAt rs j)) (Gr.ruAt rs j).body).contains c)) :=
        ⟨fun _ _ => rfl, fun pre k u _ hj hk => by
          have := tell1_any Wk n i wr.heap.size _ _ pre k u hj (by have := HN.out; omega)
          simp only [if_true] at this
          exact this, fun s u u' hj hb => ⟨hj.h.next hb, (hb.block _ (heap_lt hj.i)).trans hj.i⟩, fun k T e => by rw [e.2]; decide⟩
      obtain ⟨ui, hui⟩ : ∃ u, Gr.ruAt rs i = u := ⟨_, rfl⟩
      have hui2 : rs[i] = ui := by rw [← hui, ruAt_eq hir]
      have hok := HR.out.ok rs[i] (List.getElem_mem hir)
      have HTK := hid (fun (u : World) => token_any rs[i] _ u HRU.out)
      have HRE := hid (fun (u : World) (hu : Below Wk.heap.size Wk u) hj => reach_any (token := Gr.isTok rs[i]) hT HA.out rs[i].body hok.2.2 _ [] u HND.out hu hj)
      have hSh : ∀ u : World, u.heap[wr.heap.size + 1]? = some (.cells #[.string ⟨rs[i].name.toArray⟩, .int .u8 (rs[i].sort : Int), .int .u8 xk, .string xm, .string xt, .slice xSA xa xsc, .slice xUA xb xuc, .int .i64 z0, .int .i64 z1, .int .i64 z2] 80 (0, 0)) → u.cell? ⟨wr.heap.size + 1, 0, none⟩ = some (.string ⟨rs[i].name.toArray⟩) ∧ u.cell? ⟨wr.heap.size + 1, 1, none⟩ = some (.int .u8 (rs[i].sort : Int)) ∧ u.cell? ⟨wr.heap.size + 1, 2, none⟩ = some (.int .u8 xk) ∧ u.cell? ⟨wr.heap.size + 1, 3, none⟩ = some (.string xm) ∧ u.cell? ⟨wr.heap.size + 1, 4, none⟩ = some (.string xt) ∧ u.cell? ⟨wr.heap.size + 1, 5, none⟩ = some (.slice xSA xa xsc) ∧ u.cell? ⟨wr.heap.size + 1, 6, none⟩ = some (.slice xUA xb xuc) ∧ u.cell? ⟨wr.heap.size + 1, 7, none⟩ = some (.int .i64 z0) ∧ u.cell? ⟨wr.heap.size + 1, 8, none⟩ = some (.int .i64 z1) ∧ u.cell? ⟨wr.heap.size + 1, 9, none⟩ = some (.int .i64 z2) := fun u h => ⟨by rw [Lib.cell_of_heap h]; rfl, by rw [Lib.cell_of_heap h]; rfl, by rw [Lib.cell_of_heap h]; rfl, by rw [Lib.cell_of_heap h]; rfl, by rw [Lib.cell_of_heap h]; rfl, by rw [Lib.cell_of_heap h]; rfl, by rw [Lib.cell_of_heap h]; rfl, by rw [Lib.cell_of_heap h]; rfl, by rw [Lib.cell_of_heap h]; rfl, by rw [Lib.cell_of_heap h]; rfl⟩
      obtain ⟨s0, s1, s2, s3, s4, s5, s6, s7, s8, s9⟩ := hSh W5 hr5
      have HSH := hid hSh
      have HJ5 := hid hj5
      have HR5 := hid hr5
      have HM5 := hid hm5
      have HW5 := hid hm5.b
      have HUI := hid (And.intro hui hui2)
      have HGG := hid hT.g
      clear hzs ho4 hh4 hb5 hx5 hk5 hm5 hi5 hr5 hj5 hT hok hui hui2 hSh
      go_wp2_with fail
      go_region_held3 (fun w' => w'.cell? ⟨wr.heap.size + 1, 0, none⟩ = some (.string ⟨rs[i].name.toArray⟩) ∧ w'.cell? ⟨wr.heap.size + 1, 1, none⟩ = some (.int .u8 (rs[i].sort : Int)) ∧ w'.cell? ⟨wr.heap.size + 1, 2, none⟩ = some (.int .u8 xk) ∧ w'.cell? ⟨wr.heap.size + 1, 3, none⟩ = some (.string xm) ∧ w'.cell? ⟨wr.heap.size + 1, 4, none⟩ = some (.string xt) ∧ w'.cell? ⟨wr.heap.size + 1, 5, none⟩ = some (.slice xSA xa xsc) ∧ w'.cell? ⟨wr.heap.size + 1, 6, none⟩ = some (.slice xUA xb xuc) ∧ w'.cell? ⟨wr.heap.size + 1, 7, none⟩ = some (.int .i64 z0) ∧ w'.cell? ⟨wr.heap.size + 1, 8, none⟩ = some (.int .i64 z1) ∧ w'.cell? ⟨wr.heap.size + 1, 9, none⟩ = some (.int .i64 z2)) (first | assumption | exact ⟨s0, s1, s2, s3, s4, s5, s6, s7, s8, s9⟩)
        (first
          | (go_simp; go_at_call 157; refine (HTK.out _).mono ?_; rintro _ w6 ⟨rfl, hb6⟩; have hb6 : Below W5.heap.size W5 w6 := ⟨hb6.os, hb6.tape, hb6.output, hb6.size, hb6.block⟩; have hr6 := (hb6.block _ (heap_lt HR5.out)).trans HR5.out; have p6 := HSH.out w6 hr6; have HR6 := hid hr6; have HJ6 := hid (HGG.out _ _ _ HJ5.out hb6); have HW6 := hid (HW5.out.trans (hb6.mono HW5.out.size)); clear hb6 hr6; dsimp only)
          | (go_simp; go_at_call 156; refine (HRE.out _ HW6.out HJ6.out).mono ?_; rintro _ w7 ⟨⟨rv, rfl⟩, hj7, hk7⟩; have hr7 := hk7.2 _ _ _ HR6.out (fun e => absurd e.2 (by decide)); have p7 := HSH.out w7 hr7; have HJ7 := hid hj7; clear hj7 hk7 hr7; dsimp only))
      all_goals
        clear s0 s1 s2 s3 s4 s5 s6 s7 s8 s9
        have HM7 : Hid (RhM Wk n (i + 1) (fun j => if j = i then W4.heap.size else rb j) (fun i k => (Gr.toldN rs (Gr.emptyR rs) (Gr.isTok (Gr.ruAt rs i)) (Gr.ruAt rs i).body).contains k) w7) := hid ⟨HJ7.out.h.b, HJ7.out.h.x, HJ7.out.h.m.congr fun j c _ _ => by
          by_cases e : j = i
          · subst e
            rw [if_pos rfl, List.nil_append, HUI.out.2, HUI.out.1]
          · rw [if_neg e]⟩
        clear HJ7
        go_wp2_with fail
        go_roundw
        case rel => exact ⟨i + 1, _, hlt, by go_num, HM7⟩
        case measure => simp only [intOf]; omega
    · have hie : i = n := by omega
      subst hie
      have HFI : Hid (RhM Wk i i rb (Gr.closeI (fun i k => (Gr.toldN rs (Gr.emptyR rs) (Gr.isTok (Gr.ruAt rs i)) (Gr.ruAt rs i).body).contains k) 0) wr) := HI
      clear HI hlt hwi
      have HCL : Hid (Gr.reachF rs = Gr.closeI (fun i k => (Gr.toldN rs (Gr.emptyR rs) (Gr.isTok (Gr.ruAt rs i)) (Gr.ruAt rs i).body).contains k) i) := hid (by unfold Gr.reachF; rw [Gr.closeF_eq, HN.out])
      generalize (fun i k => (Gr.toldN rs (Gr.emptyR rs) (Gr.isTok (Gr.ruAt rs i)) (Gr.ruAt rs i).body).contains k) = F0 at HFI HCL
      have x0 : wr.cell? ⟨Wk.heap.size + 1, 0, none⟩ = some (.slice (some ⟨Wk.heap.size, 0, none⟩) i i) := by rw [Lib.cell_of_heap HFI.out.x]; rfl
      go_wp2_with fail
      clear x0
      go_loopw [7, 41] (fun _ bv wa => ∃ (b : Nat), b ≤ i ∧ bv = .int .i64 (b : Int) ∧ Hid (RhM Wk i i rb (Gr.closeI F0 b) wa)) (fun _ bv _ => i - (intOf bv).toNat)
      case atStart => exact ⟨0, Nat.zero_le _, rfl, HFI⟩
      case round =>
        rename World => wa
        clear HFI
        obtain ⟨b, hb, rfl, HA⟩ := hrel
        have hwb : IntKind.i64.wrap ((b : Int) + 1) = (b : Int) + 1 := w64 (by omega) (by omega)
        have x0 : wa.cell? ⟨Wk.heap.size + 1, 0, none⟩ = some (.slice (some ⟨Wk.heap.size, 0, none⟩) i i) := by rw [Lib.cell_of_heap HA.out.x]; rfl
        by_cases hbl : b < i
        · have hbI : (b : Int) < (i : Int) := by omega
          have hb0 : (0 : Int) ≤ (b : Int) := by omega
          have HB0 : Hid (RhM Wk i i rb (Gr.ovI (Gr.closeI F0 b) b 0 0) wa) := by rw [Gr.ovI_start]; exact HA
          clear HA
          go_wp2_with fail
          clear x0
          go_loopw [8, 46] (fun _ rv wb => ∃ (r : Nat), r ≤ i ∧ rv = .int .i64 (r : Int) ∧ Hid (RhM Wk i i rb (Gr.ovI (Gr.closeI F0 b) b r 0) wb)) (fun _ rv _ => i - (intOf rv).toNat)
          case atStart => exact ⟨0, Nat.zero_le _, rfl, HB0⟩
          case round =>
            rename World => wb
            clear HB0
            obtain ⟨r, hr, rfl, HB⟩ := hrel
            have hwr : IntKind.i64.wrap ((r : Int) + 1) = (r : Int) + 1 := w64 (by omega) (by omega)
            have x0 : wb.cell? ⟨Wk.heap.size + 1, 0, none⟩ = some (.slice (some ⟨Wk.heap.size, 0, none⟩) i i) := by rw [Lib.cell_of_heap HB.out.x]; rfl
            by_cases hrl : r < i
            · have hrI : (r : Int) < (i : Int) := by omega
              have hr0 : (0 : Int) ≤ (r : Int) := by omega
              go_wp2_with fail
              clear x0
              go_loopw [9, 51] (fun _ cv wc => ∃ (c : Nat), c ≤ i ∧ cv = .int .i64 (c : Int) ∧ Hid (RhM Wk i i rb (Gr.ovI (Gr.closeI F0 b) b r c) wc)) (fun _ cv _ => i - (intOf cv).toNat)
              case atStart => exact ⟨0, Nat.zero_le _, rfl, HB⟩
              case round =>
                rename World => wc
                clear HB
                obtain ⟨c, hc, rfl, HC⟩ := hrel
                have hwc : IntKind.i64.wrap ((c : Int) + 1) = (c : Int) + 1 := w64 (by omega) (by omega)
                by_cases hcl : c < i
                · have hcI : (c : Int) < (i : Int) := by omega
                  have hc0 : (0 : Int) ≤ (c : Int) := by omega
                  go_upto_region 18 with fail
                  refine still_tail 31 (by kernel_rfl) (by kernel_rfl) ?_
                  intro w6 HW6
                  have ho6 : Below wc.heap.size wc w6 := by rw [HW6.out]; exact (Below.refl _ _).drew
                  clear HW6
                  have H6 := hid (HC.out.next ho6)
                  clear HC ho6
                  have x0 : w6.cell? ⟨Wk.heap.size + 1, 0, none⟩ = some (.slice (some ⟨Wk.heap.size, 0, none⟩) i i) := by rw [Lib.cell_of_heap H6.out.x]; rfl
                  obtain ⟨b0, b1, bz⟩ := H6.out.m.bit hrl hcl
                  obtain ⟨_, b2, _⟩ := H6.out.m.bit hrl hbl
                  obtain ⟨b3, b4, _⟩ := H6.out.m.bit hbl hcl
                  rw [Gr.ovI_at] at b1
                  rw [Gr.ovI_col] at b2
                  rw [Gr.ovI_row] at b4
                  have HST := hid (fun v (hv : v = Gr.overF (Gr.closeI F0 b) b r c) => (show RhM Wk i i rb (Gr.ovI (Gr.closeI F0 b) b r (c + 1)) (w6.setCell ⟨rb r, c, none⟩ (.bool v)) from by
                    have h9 := H6.out.set hrl c v
                    refine ⟨h9.b, h9.x, h9.m.congr fun j d _ _ => ?_⟩
                    rw [Gr.ovI_set, hv]))
                  have HOV := hid (show Gr.overF (Gr.closeI F0 b) b r c = (Gr.closeI F0 b r c || (Gr.closeI F0 b r b && Gr.closeI F0 b b c)) from rfl)
                  obtain ⟨m1, hm1⟩ : ∃ m, Gr.closeI F0 b r c = m := ⟨_, rfl⟩
                  obtain ⟨m2, hm2⟩ : ∃ m, Gr.closeI F0 b r b = m := ⟨_, rfl⟩
                  obtain ⟨m3, hm3⟩ : ∃ m, Gr.closeI F0 b b c = m := ⟨_, rfl⟩
                  rw [hm1] at b1
                  rw [hm2] at b2
                  rw [hm3] at b4
                  rw [hm1, hm2, hm3] at HOV
                  clear hm1 hm2 hm3 H6
                  generalize rb r = rr at *
                  simp only [List.take_succ_cons, List.take_zero, List.drop_succ_cons, List.drop_zero]
                  cases m1 with
                  | true =>
                    have HN9 := hid (HST.out true (by rw [HOV.out]; rfl))
                    clear HST HOV
                    refine Boxd.out ?_
                    repeat (refine wpStill_step4 (fun K hK => ?_); go_simp; refine hK _ ?_; clear hK K)
                    refine ⟨wpStill_nil ?_⟩
                    go_wp2_with fail
                    go_roundw
                    case rel => exact ⟨c + 1, by omega, by go_num, HN9⟩
                    case measure => simp only [intOf]; omega
                  | false =>
                    cases m2 with
                    | true =>
                      have HN9 := hid (HST.out m3 (by rw [HOV.out]; rfl))
                      clear HST HOV
                      refine Boxd.out ?_
                      repeat (refine wpStill_step4 (fun K hK => ?_); go_simp; refine hK _ ?_; clear hK K)
                      refine ⟨wpStill_nil ?_⟩
                      go_wp2_with fail
                      go_roundw
                      case rel => exact ⟨c + 1, by omega, by go_num, HN9⟩
                      case measure => simp only [intOf]; omega
                    | false =>
                      have HN9 := hid (HST.out false (by rw [HOV.out]; rfl))
                      clear HST HOV
                      refine Boxd.out ?_
                      repeat (refine wpStill_step4 (fun K hK => ?_); go_simp; refine hK _ ?_; clear hK K)
                      refine ⟨wpStill_nil ?_⟩
                      go_wp2_with fail
                      go_roundw
                      case rel => exact ⟨c + 1, by omega, by go_num, HN9⟩
                      case measure => simp only [intOf]; omega
                · have hce : i = c := by omega
                  have HN9 : Hid (RhM Wk i i rb (Gr.ovI (Gr.closeI F0 b) b (r + 1) 0) wc) := hid ⟨HC.out.b, HC.out.x, HC.out.m.congr fun j d _ hd => by rw [← hce]; exact Gr.ovI_line _ b r i j d hd⟩
                  have hcI : ¬ (c : Int) < (i : Int) := by omega
                  clear HC hce hcl
                  go_wp2_with fail
                  go_roundw
                  case rel => exact ⟨r + 1, by omega, by go_num, HN9⟩
                  case measure => simp only [intOf]; omega
            · have hre : i = r := by omega
              have HN9 : Hid (RhM Wk i i rb (Gr.closeI F0 (b + 1)) wb) := hid ⟨HB.out.b, HB.out.x, HB.out.m.congr fun j d hj _ => by rw [Gr.closeI_succ, ← hre]; exact Gr.ovI_done _ b i j d hj⟩
              have hrI : ¬ (r : Int) < (i : Int) := by omega
              clear HB hre hrl x0
              go_wp2_with fail
              go_roundw
              case rel => exact ⟨b + 1, by omega, by go_num, HN9⟩
              case measure => simp only [intOf]; omega
        · have hbe : b = i := by omega
          rw [hbe] at HA
          have hbI : ¬ (b : Int) < (i : Int) := by omega
          clear hbe hbl
          go_wp2_with fail
          go_ret
          exact ⟨Wk.heap.size, rb, rfl, by rw [HCL.out]; exact ⟨HA.out.m.outer, fun j hj => ⟨(HA.out.m.row j hj).1, by have := (HA.out.m.row j hj).2; have := HB2.out.size; omega⟩, HA.out.m.inj, HA.out.m.le⟩, HB2.out.trans (HA.out.b.mono HB2.out.size)⟩
end
end Go.Proofs.YtpbnfinmjnpkpaaGreatDoor
