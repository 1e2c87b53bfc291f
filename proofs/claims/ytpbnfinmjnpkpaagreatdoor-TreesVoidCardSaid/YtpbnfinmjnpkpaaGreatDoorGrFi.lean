/-
  All that is wrong with a grammar (checks.Check), is nothing (checks.Fine), the first parser's rule (checks.Start): the walks.
-/
import Derived.Test.YtpbnfinmjnpkpaaGreatDoorGrRo
namespace Go.Proofs.YtpbnfinmjnpkpaaGreatDoor
open Go.RowKit
set_option maxRecDepth 100000
theorem clipP_any (A : Option Addr) (n c : Nat) (w : World) (hc : n ≤ c) : Calls Tryz.prog 131 #[.slice A n c] w fun e w' => e = .returned (.slice A n n) ∧ w = w' := by
  go_enter Tryz.func131, Tryz.ntmps131
  go_wp2
  go_ret
  exact ⟨rfl, rfl⟩
section
variable {w0 : World} {B : Nat} {rs : List Gr.Ru}
def startZ (rs : List Gr.Ru) : Int := idxAns (rs.findIdx? fun r => !Gr.isTok r)
theorem start_any (gn : List UInt8) (bd st : Int) (RA : Option Addr) (rc : Nat) (W : World) (hr : RsAt w0 B RA rs) (hb : Below B w0 W) (hB : B ≤ W.heap.size) :
    Calls Tryz.prog 39 #[.agg #[Gr.strV gn, .int .i64 bd, .int .i64 st, .slice RA rs.length rc]] W fun e W' => e = .returned (.int .i64 (startZ rs)) ∧ Below W.heap.size W W' := by
  obtain ⟨xs, hr1, hr2⟩ := hr.r
  have hb1 := below_new W (.cells #[.string ⟨gn.toArray⟩, .int .i64 bd, .int .i64 st, .slice RA rs.length rc] 56)
  have h1 := heap_alloc_new W (.cells #[.string ⟨gn.toArray⟩, .int .i64 bd, .int .i64 st, .slice RA rs.length rc] 56)
  obtain ⟨W1, hW1⟩ : ∃ W1, Hid (W.alloc (.cells #[.string ⟨gn.toArray⟩, .int .i64 bd, .int .i64 st, .slice RA rs.length rc] 56) = W1) := ⟨_, hid rfl⟩
  rw [hW1.out] at hb1 h1
  have H := hid (idxRu_any rs (fun r => !Gr.isTok r) 79 #[] (fun _ _ => rfl) RA rc xs W1 hr1 hr2 (hb.trans (hb1.mono hB)) (Nat.le_trans hB hb1.size)
    (fun i hi cs W2 hcs _ => parser_any rs[i] cs W2 hcs) (by have := hr.few; omega))
  have c3 : W1.cell? ⟨W.heap.size, 3, none⟩ = some (.slice RA rs.length rc) := by rw [Lib.cell_of_heap h1]; rfl
  have HB1 := hid hb1
  unfold startZ
  generalize idxAns (rs.findIdx? fun r => !Gr.isTok r) = q at H ⊢
  generalize rs.length = n at *
  unfold Gr.strV at *
  clear h1 hb1 hr1 hr2 hr hb hB
  go_enter Tryz.func39, Tryz.ntmps39
  go_upto_region 1 with fail
  rw [hW1.out]
  clear hW1
  go_wp2_with fail
  refine H.out.mono ?_
  rintro _ W2 ⟨rfl, hb2⟩
  have HF := hid (HB1.out.trans (hb2.mono HB1.out.size))
  clear hb2 c3
  go_wp2_with fail
  go_ret
  exact ⟨rfl, HF.out⟩
theorem RuR.now {w w' : World} {B B' : Nat} (hb : Below B w w') (hB : B ≤ B') {r : Gr.Ru} {vs : List Value} (h : RuR w B r vs) : RuR w' B' r vs := by
  obtain ⟨cs, z0, z1, z2, e, hn⟩ := h
  exact ⟨cs, z0, z1, z2, e, NdR.keep hb hB _ _ hn⟩
theorem RsAt.now {W : World} {RA : Option Addr} (h : RsAt w0 B RA rs) (hb : Below B w0 W) (hB : B ≤ W.heap.size) : RsAt W W.heap.size RA rs := by
  obtain ⟨xs, h1, h2, h3⟩ := h.r
  exact ⟨⟨xs, (h1.below hb).more hB, h2, fun i hi => (h3 i hi).now hb hB⟩, h.ok, h.few⟩
theorem ruleP_len (rs : List Gr.Ru) (i : Nat) : (Gr.ruleP rs i).length ≤ 4 + 3 * (Gr.ndT (Gr.ruAt rs i).body).length := by
  rw [ruleP_eq, nodesP_eq, nodesP_eq, nodesP_eq]
  have h1 : (Gr.p1 rs i).length ≤ 1 := by unfold Gr.p1; split <;> simp
  have h4 : (Gr.p4 rs i).length ≤ 1 := by unfold Gr.p4; split <;> simp
  have h5 : (Gr.p5 rs i).length ≤ 1 := by unfold Gr.p5; split <;> simp
  have h7 : (Gr.p7 rs i).length ≤ 1 := by unfold Gr.p7; split <;> simp
  have a2 := pbsOf_len i 2 false (Gr.ruAt rs i).name (noneB rs) (Gr.ndT (Gr.ruAt rs i).body)
  have a3 := pbsOf_len i 3 false (Gr.ruAt rs i).name (sortB rs (Gr.ruAt rs i)) (Gr.ndT (Gr.ruAt rs i).body)
  have a6 := pbsOf_len i 6 true (Gr.ruAt rs i).name (loopB rs i) (Gr.ndT (Gr.ruAt rs i).body)
  simp only [List.length_append]
  omega
def upTo (rs : List Gr.Ru) (i : Nat) : List Gr.Pb := (List.range i).flatMap (Gr.ruleP rs)
theorem upTo_succ (rs : List Gr.Ru) (i : Nat) : upTo rs (i + 1) = upTo rs i ++ Gr.ruleP rs i := by
  unfold upTo
  rw [List.range_succ, List.flatMap_append]
  simp
theorem upTo_len (rs : List Gr.Ru) (hln : ∀ i, i < rs.length → (Gr.ndT (Gr.ruAt rs i).body).length ≤ 10000) : ∀ i, i ≤ rs.length → (upTo rs i).length ≤ i * 30004
  | 0, _ => by simp [upTo]
  | i + 1, h => by
    rw [upTo_succ, List.length_append]
    have := upTo_len rs hln i (by omega)
    have := ruleP_len rs i
    have := hln i (by omega)
    omega
/-- all that is wrong, in memory -/
def CheckP (rs : List Gr.Ru) (W : World) (e : Ending) (W' : World) : Prop := ∃ A k, e = .returned (.slice A k k) ∧ (Gr.checkR rs).length = k ∧ Reads W' W'.heap.size 3 A k (flat encPb (Gr.checkR rs)) ∧ Below W.heap.size W W'
set_option maxHeartbeats 8000000 in
theorem check_any (gn : List UInt8) (bd st : Int) (RA : Option Addr) (rc : Nat) (W : World) (hr0 : RsAt w0 B RA rs) (hb0 : Below B w0 W) (hB0 : B ≤ W.heap.size) (hn1 : rs.length ≤ 1000) (hln : ∀ i, i < rs.length → (Gr.ndT (Gr.ruAt rs i).body).length ≤ 10000) :
    Calls Tryz.prog 95 #[.agg #[Gr.strV gn, .int .i64 bd, .int .i64 st, .slice RA rs.length rc]] W (CheckP rs W) := by
  have hr : RsAt W W.heap.size RA rs := hr0.now hb0 hB0
  obtain ⟨n, hnn⟩ : ∃ n, rs.length = n := ⟨_, rfl⟩
  have HN := hid hnn
  have hlen := fun i h => upTo_len rs hln i h
  have HLEN := hid hlen
  have HLN := hid hln
  have HR := hid hr
  have HEM := hid (fun (u : World) (h : Below W.heap.size W u) => empty_any gn bd st RA rc u hr h h.size)
  have HRE := hid (fun (u : World) (h : Below W.heap.size W u) => nreach_any gn bd st RA rc u hr h h.size)
  have HSTA := hid (fun (u : World) (h : Below W.heap.size W u) => start_any gn bd st RA rc u hr h h.size)
  unfold Gr.strV at *
  rw [hnn] at HEM HRE HSTA hn1 ⊢
  have hb1 := below_new W (.cells #[.string ⟨gn.toArray⟩, .int .i64 bd, .int .i64 st, .slice RA n rc] 56)
  have h1 := heap_alloc_new W (.cells #[.string ⟨gn.toArray⟩, .int .i64 bd, .int .i64 st, .slice RA n rc] 56)
  obtain ⟨W1, hW1⟩ : ∃ W1, Hid (W.alloc (.cells #[.string ⟨gn.toArray⟩, .int .i64 bd, .int .i64 st, .slice RA n rc] 56) = W1) := ⟨_, hid rfl⟩
  rw [hW1.out] at hb1 h1
  have hS : ∀ u : World, Below W1.heap.size W1 u → u.cell? ⟨W.heap.size, 0, none⟩ = some (.string ⟨gn.toArray⟩) ∧ u.cell? ⟨W.heap.size, 1, none⟩ = some (.int .i64 bd) ∧ u.cell? ⟨W.heap.size, 2, none⟩ = some (.int .i64 st) ∧ u.cell? ⟨W.heap.size, 3, none⟩ = some (.slice RA n rc) := fun u h => by
    have g0 := (h.block _ (heap_lt h1)).trans h1
    exact ⟨by rw [Lib.cell_of_heap g0]; rfl, by rw [Lib.cell_of_heap g0]; rfl, by rw [Lib.cell_of_heap g0]; rfl, by rw [Lib.cell_of_heap g0]; rfl⟩
  obtain ⟨s0, s1, s2, s3⟩ := hS W1 (Below.refl _ _)
  have HS := hid hS
  have HB1 := hid hb1
  have HH1 := hid h1
  clear hb1 h1 hS hlen hln hr hr0 hb0 hB0 hnn
  go_enter Tryz.func95, Tryz.ntmps95
  go_upto_region 1 with fail
  rw [hW1.out]
  clear hW1
  have hS9 : ∀ (u : World) (o : Obj), Hid (Below W1.heap.size W1 u) → (u.alloc o).cell? ⟨W.heap.size, 0, none⟩ = some (.string ⟨gn.toArray⟩) ∧ (u.alloc o).cell? ⟨W.heap.size, 1, none⟩ = some (.int .i64 bd) ∧ (u.alloc o).cell? ⟨W.heap.size, 2, none⟩ = some (.int .i64 st) ∧ (u.alloc o).cell? ⟨W.heap.size, 3, none⟩ = some (.slice RA n rc) := fun u o h => HS.out _ (h.out.alloc h.out.size o)
  go_region_held3 (fun w' => w'.cell? ⟨W.heap.size, 0, none⟩ = some (.string ⟨gn.toArray⟩) ∧ w'.cell? ⟨W.heap.size, 1, none⟩ = some (.int .i64 bd) ∧ w'.cell? ⟨W.heap.size, 2, none⟩ = some (.int .i64 st) ∧ w'.cell? ⟨W.heap.size, 3, none⟩ = some (.slice RA n rc)) (first | assumption | exact ⟨s0, s1, s2, s3⟩ | exact hS9 _ _ HB4)
    (first
      | (go_simp; go_at_call 126; refine (HEM.out _ HB1.out.drew).mono ?_; rintro _ w3 ⟨kb, he3, hkb, hb3⟩; rw [Gr.emptyR_len, HN.out] at he3; subst he3; have hb3 : Below W1.heap.size W1 w3 := ⟨hb3.os, hb3.tape, hb3.output, hb3.size, hb3.block⟩; have p3 := HS.out w3 hb3; have HB3 := hid hb3; have HKB := hid hkb; clear hkb hb3; dsimp only)
      | (go_simp; go_at_call 127; refine (HRE.out _ (HB1.out.trans (HB3.out.mono HB1.out.size))).mono ?_; rintro _ w4 ⟨ob1, rb1, rfl, hm4, hb4⟩; have p4 := HS.out w4 (HB3.out.trans (hb4.mono HB3.out.size)); have HB4 := hid (HB3.out.trans (hb4.mono HB3.out.size)); have HKB4 := hid ((hb4.block _ (heap_lt HKB.out)).trans HKB.out); have HM4 := hid hm4; clear hm4 hb4; dsimp only))
  clear s0 s1 s2 s3 p3 p4 hS9
  have hC5 : (w4.alloc (.cells #[.string ⟨gn.toArray⟩, .int .i64 bd, .int .i64 st, .slice RA n rc, .slice (some ⟨kb, 0, none⟩) n n, .slice (some ⟨ob1, 0, none⟩) n n, .slice none 0 0, .slice none 0 0] 210)).heap[w4.heap.size]? = some (.cells #[.string ⟨gn.toArray⟩, .int .i64 bd, .int .i64 st, .slice RA n rc, .slice (some ⟨kb, 0, none⟩) n n, .slice (some ⟨ob1, 0, none⟩) n n, .slice none 0 0, .slice none 0 0] 210 (0, 0)) := heap_alloc_new _ _
  have hb5 := below_new w4 (.cells #[.string ⟨gn.toArray⟩, .int .i64 bd, .int .i64 st, .slice RA n rc, .slice (some ⟨kb, 0, none⟩) n n, .slice (some ⟨ob1, 0, none⟩) n n, .slice none 0 0, .slice none 0 0] 210)
  have hwb4 : Below W.heap.size W w4 := HB1.out.trans (HB4.out.mono HB1.out.size)
  have hgl : W.heap.size < w4.heap.size := by have := heap_lt HH1.out; have := HB4.out.size; omega
  have hg5 := (hb5.block _ hgl).trans ((HB4.out.block _ (heap_lt HH1.out)).trans HH1.out)
  have hk5 := (hb5.block _ (heap_lt HKB4.out)).trans HKB4.out
  have hm5 := HM4.out.next hb5
  generalize w4.alloc (.cells #[.string ⟨gn.toArray⟩, .int .i64 bd, .int .i64 st, .slice RA n rc, .slice (some ⟨kb, 0, none⟩) n n, .slice (some ⟨ob1, 0, none⟩) n n, .slice none 0 0, .slice none 0 0] 210) = W5 at hC5 hb5 hg5 hk5 hm5 ⊢
  have hwb5 : Below W.heap.size W W5 := hwb4.trans (hb5.mono hwb4.size)
  obtain ⟨cb, hcb⟩ : ∃ cb, w4.heap.size = cb := ⟨_, rfl⟩
  rw [hcb] at hC5 hgl ⊢
  have hwcb : W.heap.size ≤ cb := by omega
  have hro := rounds_any cb gn bd st RA rc (.slice (some ⟨kb, 0, none⟩) rs.length rs.length) (.slice (some ⟨ob1, 0, none⟩) rs.length rs.length) (.slice none 0 0) (.slice none 0 0) W5 (by rw [HN.out]; exact hC5) hwb5.size hwcb HR.out hwb5
  rw [HN.out] at hro
  unfold Gr.strV at hro
  have HRO := hid hro
  have HG5 := hid hg5
  have HK5 := hid hk5
  have HM5 := hid hm5
  have HC5 := hid hC5
  have HB5 := hid hwb5
  have HCB := hid (And.intro hcb hgl)
  clear hro hC5 hb5 hg5 hk5 hm5 hwb4 hwb5 hcb hgl HS HB4 HKB4 HM4 HB3 HKB
  go_wp2_with fail
  refine HRO.out.mono ?_
  rintro _ W6 ⟨⟨rv, rfl⟩, ⟨ob2, rb2, hC6, hm6⟩, hk6⟩
  have hne : ∀ (k : Nat) (cs : Array Value) (T : TypeId), W5.heap[k]? = some (.cells cs T (0, 0)) → T ≠ 210 → W6.heap[k]? = some (.cells cs T (0, 0)) := fun k cs T e hT => hk6.2 k cs T e (fun e2 => by
    rw [e2, HC5.out] at e
    injection e with e
    injection e with _ e
    exact hT e.symm)
  have hkn : KnoR rs w3.heap.size W5.heap.size kb ob1 ob2 rb1 rb2 W6 := ⟨hne _ _ _ HK5.out (by decide), by
    rw [HN.out]
    exact ⟨hne _ _ _ HM5.out.outer (by decide), fun j hj => ⟨hne _ _ _ (HM5.out.row j hj).1 (by decide), (HM5.out.row j hj).2⟩, HM5.out.inj, HM5.out.le⟩, by rw [HN.out]; exact hm6⟩
  have hout : OutR W.heap.size cb (Gr.strV gn) (.int .i64 bd) (.int .i64 st) (.slice RA rs.length rc) (.slice (some ⟨kb, 0, none⟩) rs.length rs.length) (.slice (some ⟨ob1, 0, none⟩) rs.length rs.length) (.slice (some ⟨ob2, 0, none⟩) rs.length rs.length) [] W6 := ⟨_, by rw [HN.out]; exact hC6, World.ownsRow_nil _ _ _ _⟩
  have hw6 : Below W.heap.size W W6 := HB5.out.trans hk6.1
  have hg6 := hne _ _ _ HG5.out (by decide)
  have H0 : Hid (RlI W.heap.size rs gn bd st RA rc cb kb ob1 ob2 W6 (upTo rs 0) W6) := hid ⟨hout, KpT.refl _ _ _⟩
  have HKN := hid hkn
  have HW6 := hid hw6
  have HG6 := hid hg6
  have HC6 := hid hC6
  have g3 : W6.cell? ⟨W.heap.size, 3, none⟩ = some (.slice RA n rc) := by rw [Lib.cell_of_heap hg6]; rfl
  clear hne hkn hout hw6 hg6 hC6 hm6 hk6 HRO HG5 HK5 HM5 HC5
  go_wp2_with fail
  clear g3
  go_loopw [4, 17] (fun _ iv wr => ∃ (i : Nat), i ≤ n ∧ iv = .int .i64 (i : Int) ∧ Hid (RlI W.heap.size rs gn bd st RA rc cb kb ob1 ob2 W6 (upTo rs i) wr)) (fun _ iv _ => n - (intOf iv).toNat)
  case atStart => exact ⟨0, Nat.zero_le _, rfl, H0⟩
  case round =>
    clear H0
    obtain ⟨i, hi, rfl, HI⟩ := hrel
    have hwi : IntKind.i64.wrap ((i : Int) + 1) = (i : Int) + 1 := w64 (by omega) (by omega)
    by_cases hlt : i < n
    · have hir : i < rs.length := by have := HN.out; omega
      have hru := rule_of kb ob1 ob2 _ _ rb1 rb2 (upTo rs i) i wr HI.out.1 (HKN.out.kpt HI.out.2 HC6.out) hwcb (HW6.out.trans HI.out.2.1).size HR.out (HW6.out.trans HI.out.2.1) hir (by have := HLEN.out i (by omega); have := HN.out; omega) (by have := HLN.out i hir; omega)
      rw [← upTo_succ] at hru
      have HRU := hid hru
      clear hru
      go_wp2_with fail
      refine HRU.out.mono ?_
      rintro _ w7 ⟨⟨rv2, rfl⟩, h7⟩
      have H7 : Hid (RlI W.heap.size rs gn bd st RA rc cb kb ob1 ob2 W6 (upTo rs (i + 1)) w7) := hid ⟨h7.1, HI.out.2.trans h7.2⟩
      clear h7
      go_wp2_with fail
      go_roundw
      case rel => exact ⟨i + 1, hlt, by go_num, H7⟩
      case measure => simp only [intOf]; omega
    · have hie : i = n := by omega
      subst hie
      have hwr : Below W.heap.size W wr := HW6.out.trans HI.out.2.1
      have hg7 := kpt_cells HI.out.2 HC6.out HG6.out (by decide) (by decide)
      have k0 : wr.cell? ⟨W.heap.size, 0, none⟩ = some (.string ⟨gn.toArray⟩) := by rw [Lib.cell_of_heap hg7]; rfl
      have k1 : wr.cell? ⟨W.heap.size, 1, none⟩ = some (.int .i64 bd) := by rw [Lib.cell_of_heap hg7]; rfl
      have k2 : wr.cell? ⟨W.heap.size, 2, none⟩ = some (.int .i64 st) := by rw [Lib.cell_of_heap hg7]; rfl
      have k3 : wr.cell? ⟨W.heap.size, 3, none⟩ = some (.slice RA i rc) := by rw [Lib.cell_of_heap hg7]; rfl
      have HST := hid (HSTA.out wr hwr)
      have HWR := hid hwr
      obtain ⟨fs, hfs⟩ : ∃ f, (rs.findIdx? fun r => !Gr.isTok r) = f := ⟨_, rfl⟩
      have hst : startZ rs = idxAns fs := by unfold startZ; rw [hfs]
      rw [hst] at HST
      have HCH := hid (show Gr.checkR rs = upTo rs i ++ (if fs.isSome then [] else [⟨8, -1, []⟩]) by
        unfold Gr.checkR upTo
        rw [HN.out, show (rs.any fun r => r.sort == 0) = fs.isSome by
          rw [← hfs, ← any_find]
          congr 1
          funext r
          unfold Gr.isTok
          cases h9 : (r.sort == 0) <;> simp_all])
      clear hlt hwi hwr hg7 hfs hst
      go_wp2_with fail
      refine HST.out.mono ?_
      rintro _ w8 ⟨rfl, hb8⟩
      have H8 : Hid (OutR W.heap.size cb (Gr.strV gn) (.int .i64 bd) (.int .i64 st) (.slice RA rs.length rc) (.slice (some ⟨kb, 0, none⟩) rs.length rs.length) (.slice (some ⟨ob1, 0, none⟩) rs.length rs.length) (.slice (some ⟨ob2, 0, none⟩) rs.length rs.length) (upTo rs i) w8) := hid (HI.out.1.next hb8)
      have HW8 := hid (HWR.out.trans (hb8.mono HWR.out.size))
      clear k0 k1 k2 k3 hb8
      cases fs with
      | some j =>
        unfold idxAns
        have hj0 : ¬ (j : Int) < 0 := by omega
        obtain ⟨ov, hC8, how⟩ := H8.out
        obtain ⟨A8, c8, rfl⟩ := row_form how
        have hlc : (upTo rs i).length ≤ c8 := by
          obtain ⟨A', c', hv, _, h9⟩ := Reads.own how
          injection hv with _ _ hv
          omega
        have hR := Reads.of_own how
        have c7 : w8.cell? ⟨cb, 7, none⟩ = some (.slice A8 (upTo rs i).length c8) := by rw [Lib.cell_of_heap hC8]; rfl
        have HRD := hid hR
        have HLU : Hid (Gr.checkR rs = upTo rs i) := hid (by rw [HCH.out]; simp)
        obtain ⟨m, hm⟩ : ∃ m, (upTo rs i).length = m := ⟨_, rfl⟩
        have HM := hid hm
        rw [hm] at c7 hlc HRD
        have HCL := hid (clipP_any A8 m c8 w8 hlc)
        clear hC8 how hR hm hlc
        go_wp2_with fail
        refine HCL.out.mono ?_
        rintro _ w9 ⟨rfl, rfl⟩
        clear c7
        go_wp2_with fail
        go_ret
        exact ⟨A8, m, rfl, by rw [HLU.out]; exact HM.out, by rw [HLU.out]; exact HRD.out, HW8.out⟩
      | none =>
        unfold idxAns
        have htl := tell_any W.heap.size cb _ _ _ _ _ _ _ (upTo rs i) 8 (-1) [] w8 H8.out hwcb HW8.out.size (by have := HLEN.out i (by have := HN.out; omega); omega)
        have HTL : Hid (Calls Tryz.prog 130 #[.pointer (some ⟨cb, 0, none⟩), .int .u8 8, .int .i64 (-1), .string ⟨#[]⟩] w8 _) := hid htl
        clear htl
        go_wp2_with fail
        refine HTL.out.mono ?_
        rintro _ w9 ⟨⟨rv3, rfl⟩, ho9, hk9, _⟩
        obtain ⟨ov, hC8, how⟩ := ho9
        obtain ⟨A8, c8, rfl⟩ := row_form how
        have hlc : (upTo rs i ++ [(⟨8, -1, []⟩ : Gr.Pb)]).length ≤ c8 := by
          obtain ⟨A', c', hv, _, h9⟩ := Reads.own how
          injection hv with _ _ hv
          omega
        have hR := Reads.of_own how
        have c7 : w9.cell? ⟨cb, 7, none⟩ = some (.slice A8 (upTo rs i ++ [(⟨8, -1, []⟩ : Gr.Pb)]).length c8) := by rw [Lib.cell_of_heap hC8]; rfl
        have HRD := hid hR
        have HLU : Hid (Gr.checkR rs = upTo rs i ++ [⟨8, -1, []⟩]) := hid (by rw [HCH.out]; simp)
        have HW9 := hid (HW8.out.trans hk9.1)
        obtain ⟨m, hm⟩ : ∃ m, (upTo rs i ++ [⟨8, -1, []⟩] : List Gr.Pb).length = m := ⟨_, rfl⟩
        have HM := hid hm
        rw [hm] at c7 hlc HRD
        have HCL := hid (clipP_any A8 m c8 w9 hlc)
        clear hC8 how hR hm hlc hk9 HTL
        go_wp2_with fail
        refine HCL.out.mono ?_
        rintro _ w10 ⟨rfl, rfl⟩
        clear c7
        go_wp2_with fail
        go_ret
        exact ⟨A8, m, rfl, by rw [HLU.out]; exact HM.out, by rw [HLU.out]; exact HRD.out, HW9.out⟩
theorem fine_any (gn : List UInt8) (bd st : Int) (RA : Option Addr) (rc : Nat) (W : World) (hr0 : RsAt w0 B RA rs) (hb0 : Below B w0 W) (hB0 : B ≤ W.heap.size) (hn1 : rs.length ≤ 1000) (hln : ∀ i, i < rs.length → (Gr.ndT (Gr.ruAt rs i).body).length ≤ 10000) :
    Calls Tryz.prog 59 #[.agg #[Gr.strV gn, .int .i64 bd, .int .i64 st, .slice RA rs.length rc]] W fun e W' => e = .returned (.bool (Gr.fineR rs)) ∧ Below W.heap.size W W' := by
  have hb1 := below_new W (.cells #[.string ⟨gn.toArray⟩, .int .i64 bd, .int .i64 st, .slice RA rs.length rc] 56)
  have h1 := heap_alloc_new W (.cells #[.string ⟨gn.toArray⟩, .int .i64 bd, .int .i64 st, .slice RA rs.length rc] 56)
  obtain ⟨W1, hW1⟩ : ∃ W1, Hid (W.alloc (.cells #[.string ⟨gn.toArray⟩, .int .i64 bd, .int .i64 st, .slice RA rs.length rc] 56) = W1) := ⟨_, hid rfl⟩
  rw [hW1.out] at hb1 h1
  have HC := hid (check_any gn bd st RA rc W1 hr0 (hb0.trans (hb1.mono hB0)) (Nat.le_trans hB0 hb1.size) hn1 hln)
  obtain ⟨k9, hk9⟩ : ∃ k, (Gr.checkR rs).length = k := ⟨_, rfl⟩
  have HF : Hid (Gr.fineR rs = decide ((k9 : Int) = 0)) := hid (by
    unfold Gr.fineR
    rw [← hk9]
    cases Gr.checkR rs with
    | nil => simp
    | cons x l => simp; omega)
  have HK := hid hk9
  have HB1 := hid hb1
  have g0 : W1.cell? ⟨W.heap.size, 0, none⟩ = some (.string ⟨gn.toArray⟩) := by rw [Lib.cell_of_heap h1]; rfl
  have g1 : W1.cell? ⟨W.heap.size, 1, none⟩ = some (.int .i64 bd) := by rw [Lib.cell_of_heap h1]; rfl
  have g2 : W1.cell? ⟨W.heap.size, 2, none⟩ = some (.int .i64 st) := by rw [Lib.cell_of_heap h1]; rfl
  have g3 : W1.cell? ⟨W.heap.size, 3, none⟩ = some (.slice RA rs.length rc) := by rw [Lib.cell_of_heap h1]; rfl
  unfold Gr.strV at *
  rw [HF.out]
  generalize rs.length = n at *
  clear h1 hb1 hb0 hB0 hr0 hln hn1 hk9
  go_enter Tryz.func59, Tryz.ntmps59
  go_upto_region 1 with fail
  rw [hW1.out]
  clear hW1
  go_wp2_with fail
  refine HC.out.mono ?_
  rintro _ W2 ⟨A, k, rfl, hk, _, hb2⟩
  have hkk : k = k9 := hk.symm.trans HK.out
  subst hkk
  have HB2 := hid (HB1.out.trans (hb2.mono HB1.out.size))
  clear hb2 hk g0 g1 g2 g3
  go_wp2_with fail
  go_ret
  refine ⟨?_, HB2.out⟩
  congr 2
end
end Go.Proofs.YtpbnfinmjnpkpaaGreatDoor
