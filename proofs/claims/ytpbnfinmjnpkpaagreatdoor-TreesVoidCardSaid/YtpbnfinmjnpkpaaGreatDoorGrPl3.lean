/-
  Is a node, its Subs let be (nodes.plain): the walk. (Printed by gen_grpl3.py.)
-/
import Derived.Test.YtpbnfinmjnpkpaaGreatDoorGrPl2
namespace Go.Proofs.YtpbnfinmjnpkpaaGreatDoor
open Go.RowKit
set_option maxRecDepth 100000
def plainK (k : Nat) (token : Bool) (n sn : Nat) (pr lo bi tx bd : Bool) : Bool := match k with
  | 0 => decide (2 ≤ n) && decide (n ≤ 32)
  | 1 => !decide (n = 1) && !pr
  | 2 => decide (n = 1)
  | 3 => decide (n = 1)
  | 4 => decide (n = 1)
  | 7 => decide (n = 1) && !token
  | 5 => decide (n = 0) && !token && lo
  | 6 => decide (n = 0) && bi
  | 8 => decide (n = 0) && token && tx
  | 9 => decide (n = 0) && token && decide (0 < sn) && !bd
  | _ => false
theorem plainK_eq (k : Nat) (nm t : List UInt8) (st : List (Int × Int)) (L : List Gr.Nd) (token : Bool) : Gr.plain Rp.good (.mk k nm t st L) token = (Gr.bare (.mk k nm t st L) && plainK k token L.length st.length ((L.drop 1).any fun s => s.kind == 7) (Gr.nameOk Gr.lowB nm) (Gr.nameOk Gr.bigB nm) (!t.isEmpty && Rp.good t) (st.any Gr.badR)) := by
  match k with
  | 0 | 1 | 2 | 3 | 4 | 5 | 6 | 7 | 8 | 9 => rfl
  | k + 10 => rfl
theorem cells5' {w : World} {b : Nat} {T : TypeId} {x0 x1 x2 x3 x4 : Value} (h : w.heap[b]? = some (.cells #[x0, x1, x2, x3, x4] T (0, 0))) : w.cell? ⟨b, 0, none⟩ = some x0 ∧ w.cell? ⟨b, 1, none⟩ = some x1 ∧ w.cell? ⟨b, 2, none⟩ = some x2 ∧ w.cell? ⟨b, 3, none⟩ = some x3 ∧ w.cell? ⟨b, 4, none⟩ = some x4 :=
  ⟨by rw [Lib.cell_of_heap h]; rfl, by rw [Lib.cell_of_heap h]; rfl, by rw [Lib.cell_of_heap h]; rfl, by rw [Lib.cell_of_heap h]; rfl, by rw [Lib.cell_of_heap h]; rfl⟩
theorem nds_drop {w : World} {B : Nat} {L : List Gr.Nd} {xs : List Value} (hv : NdsR w B L xs) : NdsR w B (L.drop 1) (xs.drop 5) := by
  cases L with
  | nil =>
    unfold NdsR at hv
    subst hv
    show NdsR w B [] []
    unfold NdsR
    rfl
  | cons x L =>
    unfold NdsR at hv
    obtain ⟨a, b, rfl, h1, h2⟩ := hv
    have := h1.len
    rw [List.drop_one, List.tail_cons, List.drop_append_of_le_length (by omega), List.drop_eq_nil_of_le (by omega), List.nil_append]
    exact h2
theorem reads_drop5 {w : World} {B n b o : Nat} {xs : List Value} (hr : Reads w B 5 (some ⟨b, o, none⟩) n xs) (h : 1 ≤ n) : Reads w B 5 (some ⟨b, o + 5, none⟩) (n - 1) (xs.drop 5) := by
  refine ⟨by rw [List.length_drop, hr.1]; omega, fun h2 => ?_⟩
  obtain ⟨b', o', e, hb, hc⟩ := hr.2 (by omega)
  injection e with e
  injection e with e1 e2 _
  subst e1 e2
  refine ⟨b, o + 5, rfl, hb, fun j u hu => ?_⟩
  rw [List.getElem?_drop] at hu
  have := hc (5 + j) u hu
  rwa [← Nat.add_assoc] at this
section
variable {w0 : World} {B : Nat}
set_option maxHeartbeats 16000000 in
theorem plain_any (nd : Gr.Nd) (token : Bool) (cs : List Value) (w : World) (hn : NdR w0 B nd cs) (hok : Gr.okN nd) (hb : Below B w0 w) (hB : B ≤ w.heap.size) (hT : UT w.heap.size w) :
    Calls Tryz.prog 125 #[.agg cs.toArray, .bool token] w fun e w' => e = .returned (.bool (Gr.plain Rp.good nd token)) ∧ Below w.heap.size w w' := by
  have HBA := hid (fun (u : World) => bare_any nd cs u hn hok)
  cases nd with
  | mk k nm t st L =>
    obtain ⟨hk, hnm, ht, hst, hsr, hLL, hoks⟩ := (show _ from (by unfold Gr.okN at hok; exact hok) : k < 256 ∧ nm.length ≤ Gr.bytesMax ∧ t.length ≤ Gr.bytesMax ∧ st.length ≤ 35184372088832 ∧ (∀ r ∈ st, (-2147483648 ≤ r.1 ∧ r.1 ≤ 2147483647) ∧ -2147483648 ≤ r.2 ∧ r.2 ≤ 2147483647) ∧ L.length ≤ 4398046511104 ∧ Gr.okNs L)
    unfold NdR at hn
    obtain ⟨SA, sc, UA, uc, xs, rfl, hset, hr, hv, huc⟩ := hn
    have hb1 := below_new w (.cells #[.int .u8 (k : Int), Gr.strV nm, Gr.strV t, .slice SA st.length sc, .slice UA L.length uc] 74)
    have h1 := heap_alloc_new w (.cells #[.int .u8 (k : Int), Gr.strV nm, Gr.strV t, .slice SA st.length sc, .slice UA L.length uc] 74)
    obtain ⟨ans, hans⟩ : ∃ ans, Gr.plain Rp.good (.mk k nm t st L) token = ans := ⟨_, rfl⟩
    have HA := hid (show ans = (Gr.bare (.mk k nm t st L) && plainK k token L.length st.length ((L.drop 1).any fun s => s.kind == 7) (Gr.nameOk Gr.lowB nm) (Gr.nameOk Gr.bigB nm) (!t.isEmpty && Rp.good t) (st.any Gr.badR)) by rw [← hans]; exact plainK_eq k nm t st L token)
    rw [hans]
    clear hans hok
    obtain ⟨w1, hw1⟩ : ∃ w1, Hid (w.alloc (.cells #[.int .u8 (k : Int), Gr.strV nm, Gr.strV t, .slice SA st.length sc, .slice UA L.length uc] 74) = w1) := ⟨_, hid rfl⟩
    rw [hw1.out] at hb1 h1
    have HB1 := hid hb1
    have HH1 := hid h1
    have hl1 := heap_lt h1
    have HNM1 := hid (fun (u : World) => name_any nm lowL u hnm)
    have HNM2 := hid (fun (u : World) => name_any nm bigL u hnm)
    rw [show (fun b => lowL.contains b) = Gr.lowB from funext lowL_eq] at HNM1
    rw [show (fun b => bigL.contains b) = Gr.bigB from funext bigL_eq] at HNM2
    have HTX := hid (fun (u : World) (h : Below w.heap.size w u) => text_any t u (hT.next h) ht)
    have HG := hid (fun (u : World) (h : Below w.heap.size w u) => hasG_any st Gr.badR 154 #[] (fun _ _ => rfl) SA sc u hset (hb.trans (h.mono hB)) (Nat.le_trans hB h.size) (fun i hi W1 _ => badR_any st[i].1 st[i].2 W1) hst)
    have HP0 := hid (fun (u : World) (h : Below w.heap.size w u) (UA' : Option Addr) (uc' : Nat) (hr' : Reads w0 B 5 UA' (L.drop 1).length (xs.drop 5)) => hasN_any (L.drop 1) (fun s => s.kind == 7) 150 #[] (fun _ _ => rfl) UA' uc' (xs.drop 5) u hr' (nds_drop hv) (hb.trans (h.mono hB)) (Nat.le_trans hB h.size) (fun i hi cs W1 hcs _ => predicts_any _ cs W1 hcs) (by rw [List.length_drop]; omega))
    have HR := hid hr
    unfold Gr.strV at *
    obtain ⟨bq, hbq⟩ : ∃ bq, Gr.bare (.mk k nm t st L) = bq := ⟨_, rfl⟩
    rw [hbq] at HA HBA
    obtain ⟨n, hn⟩ : ∃ n, L.length = n := ⟨_, rfl⟩
    obtain ⟨sn, hsn⟩ : ∃ sn, st.length = sn := ⟨_, rfl⟩
    have HN := hid hn
    rw [hn] at HA HBA HR hw1 h1 HH1 hLL huc ⊢
    rw [hsn] at HA HBA HG hw1 h1 HH1 hst ⊢
    have HDL := hid (show (L.drop 1).length = n - 1 by rw [List.length_drop, hn])
    obtain ⟨k0, k1, k2, k3, k4⟩ := (show _ from cells5' h1)
    obtain ⟨kz, hkz⟩ : ∃ kz : Int, (k : Int) = kz := ⟨_, rfl⟩
    rw [hkz] at HBA hw1 HH1 k0 ⊢
    clear hbq hb hT hnm ht hsr hoks hset hr hv hb1 h1 hn hsn
    have HKZ := hid hkz
    clear hkz
    cases bq with
    | false =>
      have HF := hid (show ans = false from HA.out)
      clear HA HNM1 HNM2 HTX HG HP0
      go_enter Tryz.func125, Tryz.ntmps125
      go_upto_region 1 with fail
      rw [hw1.out]
      clear hw1
      go_wp2_with fail
      go_at_call 149
      refine (HBA.out w1).mono ?_
      rintro _ w2 ⟨rfl, hb2⟩
      have HB2 := hid (HB1.out.trans (hb2.mono HB1.out.size))
      clear hb2 k0 k1 k2 k3 k4
      go_wp2_with fail
      go_ret
      exact ⟨by rw [HF.out]; rfl, HB2.out⟩
    | true =>
      have HA2 := hid HA.out
      rw [Bool.true_and] at HA2
      clear HA
      rcases (by omega : k = 0 ∨ k = 1 ∨ k = 2 ∨ k = 3 ∨ k = 4 ∨ k = 5 ∨ k = 6 ∨ k = 7 ∨ k = 8 ∨ k = 9 ∨ 10 ≤ k) with rfl | rfl | rfl | rfl | rfl | rfl | rfl | rfl | rfl | rfl | hk10
      · obtain rfl : kz = 0 := by have := HKZ.out; simpa using this.symm
        clear HKZ
        rcases (by omega : n < 2 ∨ (2 ≤ n ∧ 32 < n) ∨ (2 ≤ n ∧ n ≤ 32)) with h | h | h
        · have HF := hid (show ans = false by rw [HA2.out]; simp only [plainK]; simp; omega)
          clear HNM1 HNM2 HTX HG HP0 HA2
          have f1 : decide ((2 : Int) ≤ (n : Int)) = false := decide_eq_false (by omega)
          clear h
          go_enter Tryz.func125, Tryz.ntmps125
          go_upto_region 1 with fail
          rw [hw1.out]
          clear hw1
          go_wp2_with fail
          go_at_call 149
          refine (HBA.out w1).mono ?_
          rintro _ w2 ⟨rfl, hb2⟩
          have HB2 := hid (HB1.out.trans (hb2.mono HB1.out.size))
          have HH2 := hid ((hb2.block _ hl1).trans HH1.out)
          clear hb2 k0 k1 k2 k3 k4
          obtain ⟨k0, k1, k2, k3, k4⟩ := (show _ from cells5' HH2.out)
          go_wp2_with fail
          go_ret
          exact ⟨by rw [HF.out]; rfl, HB2.out⟩
        · have HF := hid (show ans = false by rw [HA2.out]; simp only [plainK]; simp; omega)
          clear HNM1 HNM2 HTX HG HP0 HA2
          have f1 : decide ((2 : Int) ≤ (n : Int)) = true := decide_eq_true (by omega)
          have f2 : decide ((n : Int) ≤ 32) = false := decide_eq_false (by omega)
          clear h
          go_enter Tryz.func125, Tryz.ntmps125
          go_upto_region 1 with fail
          rw [hw1.out]
          clear hw1
          go_wp2_with fail
          go_at_call 149
          refine (HBA.out w1).mono ?_
          rintro _ w2 ⟨rfl, hb2⟩
          have HB2 := hid (HB1.out.trans (hb2.mono HB1.out.size))
          have HH2 := hid ((hb2.block _ hl1).trans HH1.out)
          clear hb2 k0 k1 k2 k3 k4
          obtain ⟨k0, k1, k2, k3, k4⟩ := (show _ from cells5' HH2.out)
          go_wp2_with fail
          go_ret
          exact ⟨by rw [HF.out]; rfl, HB2.out⟩
        · have HF := hid (show ans = true by rw [HA2.out]; simp only [plainK]; simp; omega)
          clear HNM1 HNM2 HTX HG HP0 HA2
          have f1 : decide ((2 : Int) ≤ (n : Int)) = true := decide_eq_true (by omega)
          have f2 : decide ((n : Int) ≤ 32) = true := decide_eq_true (by omega)
          clear h
          go_enter Tryz.func125, Tryz.ntmps125
          go_upto_region 1 with fail
          rw [hw1.out]
          clear hw1
          go_wp2_with fail
          go_at_call 149
          refine (HBA.out w1).mono ?_
          rintro _ w2 ⟨rfl, hb2⟩
          have HB2 := hid (HB1.out.trans (hb2.mono HB1.out.size))
          have HH2 := hid ((hb2.block _ hl1).trans HH1.out)
          clear hb2 k0 k1 k2 k3 k4
          obtain ⟨k0, k1, k2, k3, k4⟩ := (show _ from cells5' HH2.out)
          go_wp2_with fail
          go_ret
          exact ⟨by rw [HF.out]; rfl, HB2.out⟩
      · obtain rfl : kz = 1 := by have := HKZ.out; simpa using this.symm
        clear HKZ
        rcases (by omega : n = 1 ∨ n = 0 ∨ 2 ≤ n) with h | h | h
        · subst h
          have HF := hid (show ans = false by rw [HA2.out]; rfl)
          clear HNM1 HNM2 HTX HG HP0 HA2
          go_enter Tryz.func125, Tryz.ntmps125
          go_upto_region 1 with fail
          rw [hw1.out]
          clear hw1
          go_wp2_with fail
          go_at_call 149
          refine (HBA.out w1).mono ?_
          rintro _ w2 ⟨rfl, hb2⟩
          have HB2 := hid (HB1.out.trans (hb2.mono HB1.out.size))
          have HH2 := hid ((hb2.block _ hl1).trans HH1.out)
          clear hb2 k0 k1 k2 k3 k4
          obtain ⟨k0, k1, k2, k3, k4⟩ := (show _ from cells5' HH2.out)
          go_wp2_with fail
          go_ret
          exact ⟨by rw [HF.out]; rfl, HB2.out⟩
        · have h1 : ¬ n = 1 := by omega
          subst h
          obtain ⟨q, hq⟩ : ∃ q, ((L.drop 1).any fun s => s.kind == 7) = q := ⟨_, rfl⟩
          rw [hq, HDL.out] at HP0
          have HF := hid (show ans = !q by rw [HA2.out, hq]; show (!decide ((0:Nat) = 1) && !q) = !q; rw [decide_eq_false h1]; cases q <;> rfl)
          have hm : min (1 : Int) 0 = 0 := by decide
          clear HA2 hq HNM1 HNM2 HTX HG h1
          go_enter Tryz.func125, Tryz.ntmps125
          go_upto_region 1 with fail
          rw [hw1.out]
          clear hw1
          go_wp2_with fail
          go_at_call 149
          refine (HBA.out w1).mono ?_
          rintro _ w2 ⟨rfl, hb2⟩
          have HB2 := hid (HB1.out.trans (hb2.mono HB1.out.size))
          have HH2 := hid ((hb2.block _ hl1).trans HH1.out)
          clear hb2 k0 k1 k2 k3 k4
          obtain ⟨k0, k1, k2, k3, k4⟩ := (show _ from cells5' HH2.out)
          go_wp2_with fail
          all_goals
            refine (HP0.out _ HB2.out _ _ ⟨by rw [List.length_drop, HR.out.1], fun h => absurd h (Nat.lt_irrefl 0)⟩).mono ?_
            rintro _ w3 ⟨rfl, hb3⟩
            have HB3 := hid (HB2.out.trans (hb3.mono HB2.out.size))
            clear hb3 k0 k1 k2 k3 k4
            cases q
            all_goals
              go_wp2_with fail
              go_ret
              exact ⟨by rw [HF.out]; rfl, HB3.out⟩
        · have h1 : ¬ n = 1 := by omega
          obtain ⟨b, o, hUA, _, _⟩ := HR.out.2 (by omega)
          subst hUA
          obtain ⟨q, hq⟩ : ∃ q, ((L.drop 1).any fun s => s.kind == 7) = q := ⟨_, rfl⟩
          rw [hq, HDL.out] at HP0
          have HF := hid (show ans = !q by rw [HA2.out, hq]; show (!decide ((n:Nat) = 1) && !q) = !q; rw [decide_eq_false h1]; cases q <;> rfl)
          have f1 : ((n : Int) != 1) = true := by rw [bne_iff_ne]; omega
          have hm : min (1 : Int) (n : Int) = 1 := by omega
          have hu1 : (1 : Int) ≤ (uc : Int) := by omega
          have hu2 : (n : Int) ≤ (uc : Int) := by omega
          have hu3 : (1 : Int) ≤ (n : Int) := by omega
          have hu4 : ¬ uc - 1 = 0 := by omega
          have hu5 : ¬ uc = (min (1 : Int) (n : Int)).toNat := by omega
          have hu6 : ¬ uc = 1 := by omega
          clear HA2 hq HNM1 HNM2 HTX HG h1
          go_enter Tryz.func125, Tryz.ntmps125
          go_upto_region 1 with fail
          rw [hw1.out]
          clear hw1
          go_wp2_with fail
          go_at_call 149
          refine (HBA.out w1).mono ?_
          rintro _ w2 ⟨rfl, hb2⟩
          have HB2 := hid (HB1.out.trans (hb2.mono HB1.out.size))
          have HH2 := hid ((hb2.block _ hl1).trans HH1.out)
          clear hb2 k0 k1 k2 k3 k4
          obtain ⟨k0, k1, k2, k3, k4⟩ := (show _ from cells5' HH2.out)
          go_wp2_with fail
          all_goals
            refine (HP0.out _ HB2.out _ _ (reads_drop5 HR.out (by omega))).mono ?_
            rintro _ w3 ⟨rfl, hb3⟩
            have HB3 := hid (HB2.out.trans (hb3.mono HB2.out.size))
            clear hb3 k0 k1 k2 k3 k4
            cases q
            all_goals
              go_wp2_with fail
              go_ret
              exact ⟨by rw [HF.out]; rfl, HB3.out⟩
      · obtain rfl : kz = 2 := by have := HKZ.out; simpa using this.symm
        clear HKZ
        by_cases h : n = 1
        · subst h
          have HF := hid (show ans = true by rw [HA2.out]; rfl)
          clear HNM1 HNM2 HTX HG HP0 HA2
          go_enter Tryz.func125, Tryz.ntmps125
          go_upto_region 1 with fail
          rw [hw1.out]
          clear hw1
          go_wp2_with fail
          go_at_call 149
          refine (HBA.out w1).mono ?_
          rintro _ w2 ⟨rfl, hb2⟩
          have HB2 := hid (HB1.out.trans (hb2.mono HB1.out.size))
          have HH2 := hid ((hb2.block _ hl1).trans HH1.out)
          clear hb2 k0 k1 k2 k3 k4
          obtain ⟨k0, k1, k2, k3, k4⟩ := (show _ from cells5' HH2.out)
          go_wp2_with fail
          go_ret
          exact ⟨by rw [HF.out]; rfl, HB2.out⟩
        · have HF := hid (show ans = false by rw [HA2.out]; simp [plainK, h])
          clear HNM1 HNM2 HTX HG HP0 HA2
          have f1 : ((n : Int) == 1) = false := by rw [beq_eq_false_iff_ne]; omega
          clear h
          go_enter Tryz.func125, Tryz.ntmps125
          go_upto_region 1 with fail
          rw [hw1.out]
          clear hw1
          go_wp2_with fail
          go_at_call 149
          refine (HBA.out w1).mono ?_
          rintro _ w2 ⟨rfl, hb2⟩
          have HB2 := hid (HB1.out.trans (hb2.mono HB1.out.size))
          have HH2 := hid ((hb2.block _ hl1).trans HH1.out)
          clear hb2 k0 k1 k2 k3 k4
          obtain ⟨k0, k1, k2, k3, k4⟩ := (show _ from cells5' HH2.out)
          go_wp2_with fail
          go_ret
          exact ⟨by rw [HF.out]; rfl, HB2.out⟩
      · obtain rfl : kz = 3 := by have := HKZ.out; simpa using this.symm
        clear HKZ
        by_cases h : n = 1
        · subst h
          have HF := hid (show ans = true by rw [HA2.out]; rfl)
          clear HNM1 HNM2 HTX HG HP0 HA2
          go_enter Tryz.func125, Tryz.ntmps125
          go_upto_region 1 with fail
          rw [hw1.out]
          clear hw1
          go_wp2_with fail
          go_at_call 149
          refine (HBA.out w1).mono ?_
          rintro _ w2 ⟨rfl, hb2⟩
          have HB2 := hid (HB1.out.trans (hb2.mono HB1.out.size))
          have HH2 := hid ((hb2.block _ hl1).trans HH1.out)
          clear hb2 k0 k1 k2 k3 k4
          obtain ⟨k0, k1, k2, k3, k4⟩ := (show _ from cells5' HH2.out)
          go_wp2_with fail
          go_ret
          exact ⟨by rw [HF.out]; rfl, HB2.out⟩
        · have HF := hid (show ans = false by rw [HA2.out]; simp [plainK, h])
          clear HNM1 HNM2 HTX HG HP0 HA2
          have f1 : ((n : Int) == 1) = false := by rw [beq_eq_false_iff_ne]; omega
          clear h
          go_enter Tryz.func125, Tryz.ntmps125
          go_upto_region 1 with fail
          rw [hw1.out]
          clear hw1
          go_wp2_with fail
          go_at_call 149
          refine (HBA.out w1).mono ?_
          rintro _ w2 ⟨rfl, hb2⟩
          have HB2 := hid (HB1.out.trans (hb2.mono HB1.out.size))
          have HH2 := hid ((hb2.block _ hl1).trans HH1.out)
          clear hb2 k0 k1 k2 k3 k4
          obtain ⟨k0, k1, k2, k3, k4⟩ := (show _ from cells5' HH2.out)
          go_wp2_with fail
          go_ret
          exact ⟨by rw [HF.out]; rfl, HB2.out⟩
      · obtain rfl : kz = 4 := by have := HKZ.out; simpa using this.symm
        clear HKZ
        by_cases h : n = 1
        · subst h
          have HF := hid (show ans = true by rw [HA2.out]; rfl)
          clear HNM1 HNM2 HTX HG HP0 HA2
          go_enter Tryz.func125, Tryz.ntmps125
          go_upto_region 1 with fail
          rw [hw1.out]
          clear hw1
          go_wp2_with fail
          go_at_call 149
          refine (HBA.out w1).mono ?_
          rintro _ w2 ⟨rfl, hb2⟩
          have HB2 := hid (HB1.out.trans (hb2.mono HB1.out.size))
          have HH2 := hid ((hb2.block _ hl1).trans HH1.out)
          clear hb2 k0 k1 k2 k3 k4
          obtain ⟨k0, k1, k2, k3, k4⟩ := (show _ from cells5' HH2.out)
          go_wp2_with fail
          go_ret
          exact ⟨by rw [HF.out]; rfl, HB2.out⟩
        · have HF := hid (show ans = false by rw [HA2.out]; simp [plainK, h])
          clear HNM1 HNM2 HTX HG HP0 HA2
          have f1 : ((n : Int) == 1) = false := by rw [beq_eq_false_iff_ne]; omega
          clear h
          go_enter Tryz.func125, Tryz.ntmps125
          go_upto_region 1 with fail
          rw [hw1.out]
          clear hw1
          go_wp2_with fail
          go_at_call 149
          refine (HBA.out w1).mono ?_
          rintro _ w2 ⟨rfl, hb2⟩
          have HB2 := hid (HB1.out.trans (hb2.mono HB1.out.size))
          have HH2 := hid ((hb2.block _ hl1).trans HH1.out)
          clear hb2 k0 k1 k2 k3 k4
          obtain ⟨k0, k1, k2, k3, k4⟩ := (show _ from cells5' HH2.out)
          go_wp2_with fail
          go_ret
          exact ⟨by rw [HF.out]; rfl, HB2.out⟩
      · obtain rfl : kz = 5 := by have := HKZ.out; simpa using this.symm
        clear HKZ
        by_cases h : n = 0
        · subst h
          cases token with
          | true =>
            have HF := hid (show ans = false by rw [HA2.out]; rfl)
            clear HNM1 HNM2 HTX HG HP0 HA2
            go_enter Tryz.func125, Tryz.ntmps125
            go_upto_region 1 with fail
            rw [hw1.out]
            clear hw1
            go_wp2_with fail
            go_at_call 149
            refine (HBA.out w1).mono ?_
            rintro _ w2 ⟨rfl, hb2⟩
            have HB2 := hid (HB1.out.trans (hb2.mono HB1.out.size))
            have HH2 := hid ((hb2.block _ hl1).trans HH1.out)
            clear hb2 k0 k1 k2 k3 k4
            obtain ⟨k0, k1, k2, k3, k4⟩ := (show _ from cells5' HH2.out)
            go_wp2_with fail
            go_ret
            exact ⟨by rw [HF.out]; rfl, HB2.out⟩
          | false =>
            obtain ⟨q, hq⟩ : ∃ q, Gr.nameOk Gr.lowB nm = q := ⟨_, rfl⟩
            rw [hq] at HNM1
            have HF := hid (show ans = q by rw [HA2.out, hq]; cases q <;> rfl)
            clear HA2 hq HTX HG HP0
            go_enter Tryz.func125, Tryz.ntmps125
            go_upto_region 1 with fail
            rw [hw1.out]
            clear hw1
            go_wp2_with fail
            go_at_call 149
            refine (HBA.out w1).mono ?_
            rintro _ w2 ⟨rfl, hb2⟩
            have HB2 := hid (HB1.out.trans (hb2.mono HB1.out.size))
            have HH2 := hid ((hb2.block _ hl1).trans HH1.out)
            clear hb2 k0 k1 k2 k3 k4
            obtain ⟨k0, k1, k2, k3, k4⟩ := (show _ from cells5' HH2.out)
            go_wp2_with fail
            go_at_call 151
            refine (HNM1.out _).mono ?_
            rintro _ w3 ⟨rfl, hb3⟩
            have HB3 := hid (HB2.out.trans (hb3.mono HB2.out.size))
            clear hb3 k0 k1 k2 k3 k4
            cases q
            all_goals
              go_wp2_with fail
              go_ret
              exact ⟨by rw [HF.out]; rfl, HB3.out⟩
        · have HF := hid (show ans = false by rw [HA2.out]; simp [plainK, h])
          clear HNM1 HNM2 HTX HG HP0 HA2
          have f1 : ((n : Int) == 0) = false := by rw [beq_eq_false_iff_ne]; omega
          clear h
          go_enter Tryz.func125, Tryz.ntmps125
          go_upto_region 1 with fail
          rw [hw1.out]
          clear hw1
          go_wp2_with fail
          go_at_call 149
          refine (HBA.out w1).mono ?_
          rintro _ w2 ⟨rfl, hb2⟩
          have HB2 := hid (HB1.out.trans (hb2.mono HB1.out.size))
          have HH2 := hid ((hb2.block _ hl1).trans HH1.out)
          clear hb2 k0 k1 k2 k3 k4
          obtain ⟨k0, k1, k2, k3, k4⟩ := (show _ from cells5' HH2.out)
          go_wp2_with fail
          go_ret
          exact ⟨by rw [HF.out]; rfl, HB2.out⟩
      · obtain rfl : kz = 6 := by have := HKZ.out; simpa using this.symm
        clear HKZ
        by_cases h : n = 0
        · subst h
          obtain ⟨q, hq⟩ : ∃ q, Gr.nameOk Gr.bigB nm = q := ⟨_, rfl⟩
          rw [hq] at HNM2
          have HF := hid (show ans = q by rw [HA2.out, hq]; cases q <;> rfl)
          clear HA2 hq HTX HG HP0
          go_enter Tryz.func125, Tryz.ntmps125
          go_upto_region 1 with fail
          rw [hw1.out]
          clear hw1
          go_wp2_with fail
          go_at_call 149
          refine (HBA.out w1).mono ?_
          rintro _ w2 ⟨rfl, hb2⟩
          have HB2 := hid (HB1.out.trans (hb2.mono HB1.out.size))
          have HH2 := hid ((hb2.block _ hl1).trans HH1.out)
          clear hb2 k0 k1 k2 k3 k4
          obtain ⟨k0, k1, k2, k3, k4⟩ := (show _ from cells5' HH2.out)
          go_wp2_with fail
          go_at_call 151
          refine (HNM2.out _).mono ?_
          rintro _ w3 ⟨rfl, hb3⟩
          have HB3 := hid (HB2.out.trans (hb3.mono HB2.out.size))
          clear hb3 k0 k1 k2 k3 k4
          cases q
          all_goals
            go_wp2_with fail
            go_ret
            exact ⟨by rw [HF.out]; rfl, HB3.out⟩
        · have HF := hid (show ans = false by rw [HA2.out]; simp [plainK, h])
          clear HNM1 HNM2 HTX HG HP0 HA2
          have f1 : ((n : Int) == 0) = false := by rw [beq_eq_false_iff_ne]; omega
          clear h
          go_enter Tryz.func125, Tryz.ntmps125
          go_upto_region 1 with fail
          rw [hw1.out]
          clear hw1
          go_wp2_with fail
          go_at_call 149
          refine (HBA.out w1).mono ?_
          rintro _ w2 ⟨rfl, hb2⟩
          have HB2 := hid (HB1.out.trans (hb2.mono HB1.out.size))
          have HH2 := hid ((hb2.block _ hl1).trans HH1.out)
          clear hb2 k0 k1 k2 k3 k4
          obtain ⟨k0, k1, k2, k3, k4⟩ := (show _ from cells5' HH2.out)
          go_wp2_with fail
          go_ret
          exact ⟨by rw [HF.out]; rfl, HB2.out⟩
      · obtain rfl : kz = 7 := by have := HKZ.out; simpa using this.symm
        clear HKZ
        by_cases h : n = 1
        · subst h
          cases token with
          | true =>
            have HF := hid (show ans = false by rw [HA2.out]; rfl)
            clear HNM1 HNM2 HTX HG HP0 HA2
            go_enter Tryz.func125, Tryz.ntmps125
            go_upto_region 1 with fail
            rw [hw1.out]
            clear hw1
            go_wp2_with fail
            go_at_call 149
            refine (HBA.out w1).mono ?_
            rintro _ w2 ⟨rfl, hb2⟩
            have HB2 := hid (HB1.out.trans (hb2.mono HB1.out.size))
            have HH2 := hid ((hb2.block _ hl1).trans HH1.out)
            clear hb2 k0 k1 k2 k3 k4
            obtain ⟨k0, k1, k2, k3, k4⟩ := (show _ from cells5' HH2.out)
            go_wp2_with fail
            go_ret
            exact ⟨by rw [HF.out]; rfl, HB2.out⟩
          | false =>
            have HF := hid (show ans = true by rw [HA2.out]; rfl)
            clear HNM1 HNM2 HTX HG HP0 HA2
            go_enter Tryz.func125, Tryz.ntmps125
            go_upto_region 1 with fail
            rw [hw1.out]
            clear hw1
            go_wp2_with fail
            go_at_call 149
            refine (HBA.out w1).mono ?_
            rintro _ w2 ⟨rfl, hb2⟩
            have HB2 := hid (HB1.out.trans (hb2.mono HB1.out.size))
            have HH2 := hid ((hb2.block _ hl1).trans HH1.out)
            clear hb2 k0 k1 k2 k3 k4
            obtain ⟨k0, k1, k2, k3, k4⟩ := (show _ from cells5' HH2.out)
            go_wp2_with fail
            go_ret
            exact ⟨by rw [HF.out]; rfl, HB2.out⟩
        · have HF := hid (show ans = false by rw [HA2.out]; simp [plainK, h])
          clear HNM1 HNM2 HTX HG HP0 HA2
          have f1 : ((n : Int) == 1) = false := by rw [beq_eq_false_iff_ne]; omega
          clear h
          go_enter Tryz.func125, Tryz.ntmps125
          go_upto_region 1 with fail
          rw [hw1.out]
          clear hw1
          go_wp2_with fail
          go_at_call 149
          refine (HBA.out w1).mono ?_
          rintro _ w2 ⟨rfl, hb2⟩
          have HB2 := hid (HB1.out.trans (hb2.mono HB1.out.size))
          have HH2 := hid ((hb2.block _ hl1).trans HH1.out)
          clear hb2 k0 k1 k2 k3 k4
          obtain ⟨k0, k1, k2, k3, k4⟩ := (show _ from cells5' HH2.out)
          go_wp2_with fail
          go_ret
          exact ⟨by rw [HF.out]; rfl, HB2.out⟩
      · obtain rfl : kz = 8 := by have := HKZ.out; simpa using this.symm
        clear HKZ
        by_cases h : n = 0
        · subst h
          cases token with
          | false =>
            have HF := hid (show ans = false by rw [HA2.out]; rfl)
            clear HNM1 HNM2 HTX HG HP0 HA2
            go_enter Tryz.func125, Tryz.ntmps125
            go_upto_region 1 with fail
            rw [hw1.out]
            clear hw1
            go_wp2_with fail
            go_at_call 149
            refine (HBA.out w1).mono ?_
            rintro _ w2 ⟨rfl, hb2⟩
            have HB2 := hid (HB1.out.trans (hb2.mono HB1.out.size))
            have HH2 := hid ((hb2.block _ hl1).trans HH1.out)
            clear hb2 k0 k1 k2 k3 k4
            obtain ⟨k0, k1, k2, k3, k4⟩ := (show _ from cells5' HH2.out)
            go_wp2_with fail
            go_ret
            exact ⟨by rw [HF.out]; rfl, HB2.out⟩
          | true =>
            obtain ⟨q, hq⟩ : ∃ q, (!t.isEmpty && Rp.good t) = q := ⟨_, rfl⟩
            rw [hq] at HTX
            have HF := hid (show ans = q by rw [HA2.out, hq]; cases q <;> rfl)
            clear HA2 hq HNM1 HNM2 HG HP0
            go_enter Tryz.func125, Tryz.ntmps125
            go_upto_region 1 with fail
            rw [hw1.out]
            clear hw1
            go_wp2_with fail
            go_at_call 149
            refine (HBA.out w1).mono ?_
            rintro _ w2 ⟨rfl, hb2⟩
            have HB2 := hid (HB1.out.trans (hb2.mono HB1.out.size))
            have HH2 := hid ((hb2.block _ hl1).trans HH1.out)
            clear hb2 k0 k1 k2 k3 k4
            obtain ⟨k0, k1, k2, k3, k4⟩ := (show _ from cells5' HH2.out)
            go_wp2_with fail
            go_at_call 152
            refine (HTX.out _ HB2.out).mono ?_
            rintro _ w3 ⟨rfl, hb3⟩
            have HB3 := hid (HB2.out.trans (hb3.mono HB2.out.size))
            clear hb3 k0 k1 k2 k3 k4
            cases q
            all_goals
              go_wp2_with fail
              go_ret
              exact ⟨by rw [HF.out]; rfl, HB3.out⟩
        · have HF := hid (show ans = false by rw [HA2.out]; simp [plainK, h])
          clear HNM1 HNM2 HTX HG HP0 HA2
          have f1 : ((n : Int) == 0) = false := by rw [beq_eq_false_iff_ne]; omega
          clear h
          go_enter Tryz.func125, Tryz.ntmps125
          go_upto_region 1 with fail
          rw [hw1.out]
          clear hw1
          go_wp2_with fail
          go_at_call 149
          refine (HBA.out w1).mono ?_
          rintro _ w2 ⟨rfl, hb2⟩
          have HB2 := hid (HB1.out.trans (hb2.mono HB1.out.size))
          have HH2 := hid ((hb2.block _ hl1).trans HH1.out)
          clear hb2 k0 k1 k2 k3 k4
          obtain ⟨k0, k1, k2, k3, k4⟩ := (show _ from cells5' HH2.out)
          go_wp2_with fail
          go_ret
          exact ⟨by rw [HF.out]; rfl, HB2.out⟩
      · obtain rfl : kz = 9 := by have := HKZ.out; simpa using this.symm
        clear HKZ
        by_cases h : n = 0
        · subst h
          cases token with
          | false =>
            have HF := hid (show ans = false by rw [HA2.out]; rfl)
            clear HNM1 HNM2 HTX HG HP0 HA2
            go_enter Tryz.func125, Tryz.ntmps125
            go_upto_region 1 with fail
            rw [hw1.out]
            clear hw1
            go_wp2_with fail
            go_at_call 149
            refine (HBA.out w1).mono ?_
            rintro _ w2 ⟨rfl, hb2⟩
            have HB2 := hid (HB1.out.trans (hb2.mono HB1.out.size))
            have HH2 := hid ((hb2.block _ hl1).trans HH1.out)
            clear hb2 k0 k1 k2 k3 k4
            obtain ⟨k0, k1, k2, k3, k4⟩ := (show _ from cells5' HH2.out)
            go_wp2_with fail
            go_ret
            exact ⟨by rw [HF.out]; rfl, HB2.out⟩
          | true =>
            by_cases hs : 0 < sn
            · obtain ⟨q, hq⟩ : ∃ q, st.any Gr.badR = q := ⟨_, rfl⟩
              rw [hq] at HG
              have HF := hid (show ans = !q by rw [HA2.out, hq]; show (decide (0 = 0) && true && decide (0 < sn) && !q) = !q; rw [decide_eq_true hs]; cases q <;> rfl)
              have f1 : (0 : Int) < (sn : Int) := by omega
              clear HA2 hq HNM1 HNM2 HTX HP0 hs
              go_enter Tryz.func125, Tryz.ntmps125
              go_upto_region 1 with fail
              rw [hw1.out]
              clear hw1
              go_wp2_with fail
              go_at_call 149
              refine (HBA.out w1).mono ?_
              rintro _ w2 ⟨rfl, hb2⟩
              have HB2 := hid (HB1.out.trans (hb2.mono HB1.out.size))
              have HH2 := hid ((hb2.block _ hl1).trans HH1.out)
              clear hb2 k0 k1 k2 k3 k4
              obtain ⟨k0, k1, k2, k3, k4⟩ := (show _ from cells5' HH2.out)
              go_wp2_with fail
              go_at_call 153
              refine (HG.out _ HB2.out).mono ?_
              rintro _ w3 ⟨rfl, hb3⟩
              have HB3 := hid (HB2.out.trans (hb3.mono HB2.out.size))
              clear hb3 k0 k1 k2 k3 k4
              cases q
              all_goals
                go_wp2_with fail
                go_ret
                exact ⟨by rw [HF.out]; rfl, HB3.out⟩
            · have HF := hid (show ans = false by rw [HA2.out]; show (decide (0 = 0) && true && decide (0 < sn) && _) = false; rw [decide_eq_false hs]; rfl)
              clear HNM1 HNM2 HTX HG HP0 HA2
              have f1 : ¬ (0 : Int) < (sn : Int) := by omega
              clear hs
              go_enter Tryz.func125, Tryz.ntmps125
              go_upto_region 1 with fail
              rw [hw1.out]
              clear hw1
              go_wp2_with fail
              go_at_call 149
              refine (HBA.out w1).mono ?_
              rintro _ w2 ⟨rfl, hb2⟩
              have HB2 := hid (HB1.out.trans (hb2.mono HB1.out.size))
              have HH2 := hid ((hb2.block _ hl1).trans HH1.out)
              clear hb2 k0 k1 k2 k3 k4
              obtain ⟨k0, k1, k2, k3, k4⟩ := (show _ from cells5' HH2.out)
              go_wp2_with fail
              go_ret
              exact ⟨by rw [HF.out]; rfl, HB2.out⟩
        · have HF := hid (show ans = false by rw [HA2.out]; simp [plainK, h])
          clear HNM1 HNM2 HTX HG HP0 HA2
          have f1 : ((n : Int) == 0) = false := by rw [beq_eq_false_iff_ne]; omega
          clear h
          go_enter Tryz.func125, Tryz.ntmps125
          go_upto_region 1 with fail
          rw [hw1.out]
          clear hw1
          go_wp2_with fail
          go_at_call 149
          refine (HBA.out w1).mono ?_
          rintro _ w2 ⟨rfl, hb2⟩
          have HB2 := hid (HB1.out.trans (hb2.mono HB1.out.size))
          have HH2 := hid ((hb2.block _ hl1).trans HH1.out)
          clear hb2 k0 k1 k2 k3 k4
          obtain ⟨k0, k1, k2, k3, k4⟩ := (show _ from cells5' HH2.out)
          go_wp2_with fail
          go_ret
          exact ⟨by rw [HF.out]; rfl, HB2.out⟩
      · have HF := hid (show ans = false by
          rw [HA2.out]
          match k, hk10 with
          | k + 10, _ => rfl)
        have hkz := HKZ.out
        have f0 : (kz == 0) = false := by rw [beq_eq_false_iff_ne]; omega
        have f1 : (kz == 1) = false := by rw [beq_eq_false_iff_ne]; omega
        have f2 : (kz == 2) = false := by rw [beq_eq_false_iff_ne]; omega
        have f3 : (kz == 3) = false := by rw [beq_eq_false_iff_ne]; omega
        have f4 : (kz == 4) = false := by rw [beq_eq_false_iff_ne]; omega
        have f5 : (kz == 5) = false := by rw [beq_eq_false_iff_ne]; omega
        have f6 : (kz == 6) = false := by rw [beq_eq_false_iff_ne]; omega
        have f7 : (kz == 7) = false := by rw [beq_eq_false_iff_ne]; omega
        have f8 : (kz == 8) = false := by rw [beq_eq_false_iff_ne]; omega
        have f9 : (kz == 9) = false := by rw [beq_eq_false_iff_ne]; omega
        clear HNM1 HNM2 HTX HG HP0 HA2 hk10 hk hkz HKZ
        go_enter Tryz.func125, Tryz.ntmps125
        go_upto_region 1 with fail
        rw [hw1.out]
        clear hw1
        go_wp2_with fail
        go_at_call 149
        refine (HBA.out w1).mono ?_
        rintro _ w2 ⟨rfl, hb2⟩
        have HB2 := hid (HB1.out.trans (hb2.mono HB1.out.size))
        have HH2 := hid ((hb2.block _ hl1).trans HH1.out)
        clear hb2 k0 k1 k2 k3 k4
        obtain ⟨k0, k1, k2, k3, k4⟩ := (show _ from cells5' HH2.out)
        go_wp2_with fail
        go_ret
        exact ⟨by rw [HF.out]; rfl, HB2.out⟩
end
end Go.Proofs.YtpbnfinmjnpkpaaGreatDoor
