/-
  Which rules a node reaches at once (asking.reaches): the walk, for whatever is told.
-/
import Derived.Test.YtpbnfinmjnpkpaaGreatDoorGrEm
namespace Go.Proofs.YtpbnfinmjnpkpaaGreatDoor
open Go.RowKit
set_option maxRecDepth 100000
section
variable (w0 : World) (B : Nat) (rs : List Gr.Ru) (em : List Bool) (ab : Nat) (Wk : World) (C : Nat → TypeId → Prop) (tf : Nat) (lb : Array Value) (J : List Nat → World → Prop)
def ReachP (token : Bool) (nd : Gr.Nd) : Prop := ∀ (cs : List Value) (pre : List Nat) (W : World), NdR w0 B nd cs → Below Wk.heap.size Wk W → J pre W →
  Calls Tryz.prog 156 #[.pointer (some ⟨ab, 0, none⟩), .bool token, .agg cs.toArray, .func (.func tf) #[] lb] W fun e W' => (∃ v, e = .returned v) ∧ J (pre ++ Gr.toldN rs em token nd) W' ∧ KpT Wk.heap.size C W W'
/-- what is told, and who is told -/
structure TellT : Prop where
  eg : ∀ args w, (callFunc tf args).run Tryz.prog w = .ok (.enter tf args) w
  t : ∀ (pre : List Nat) (k : Nat) (W : World), Below Wk.heap.size Wk W → J pre W → k < rs.length → Calls Tryz.prog tf (#[.int .i64 (k : Int)] ++ lb) W fun e W' => (∃ v, e = .returned v) ∧ J (pre ++ [k]) W' ∧ KpT Wk.heap.size C W W'
  g : ∀ s W W', J s W → Below W.heap.size W W' → J s W'
  c : ∀ k T, C k T → T ≠ 74
end
section
variable {w0 : World} {B : Nat} {rs : List Gr.Ru} {em : List Bool} {ab : Nat} {Wk : World} {C : Nat → TypeId → Prop} {tf : Nat} {lb : Array Value} {J : List Nat → World → Prop}
theorem flatMap_take {α β : Type} (f : α → List β) (l : List α) (i : Nat) (h : i < l.length) : (l.take (i + 1)).flatMap f = (l.take i).flatMap f ++ f l[i] := by
  rw [List.take_succ_eq_append_getElem h, List.flatMap_append]
  simp
set_option maxHeartbeats 8000000 in
theorem reach_at {token : Bool} (k nm t st) (L : List Gr.Nd) (hokn : Gr.okNs L) (hL : ∀ i (hi : i < L.length), ReachP w0 B rs em ab Wk C tf lb J token L[i]) (hLL : L.length ≤ 4398046511104) (hT : TellT rs Wk C tf lb J) (hA : AskAt w0 B rs em ab Wk) : ReachP w0 B rs em ab Wk C tf lb J token (.mk k nm t st L) := by
  intro cs pre W hn hw hJ
  have hn' := hn
  unfold NdR at hn'
  obtain ⟨SA, sc, UA, uc, xs, rfl, _, hr, hv, _⟩ := hn'
  have hb1 := below_new W (.cells #[.int .u8 (k : Int), Gr.strV nm, Gr.strV t, .slice SA st.length sc, .slice UA L.length uc] 74)
  have h1 := heap_alloc_new W (.cells #[.int .u8 (k : Int), Gr.strV nm, Gr.strV t, .slice SA st.length sc, .slice UA L.length uc] 74)
  obtain ⟨W1, hW1⟩ : ∃ W1, Hid (W.alloc (.cells #[.int .u8 (k : Int), Gr.strV nm, Gr.strV t, .slice SA st.length sc, .slice UA L.length uc] 74) = W1) := ⟨_, hid rfl⟩
  rw [hW1.out] at hb1 h1
  have hw1 : Below Wk.heap.size Wk W1 := hw.trans (hb1.mono hw.size)
  have HK1 := hid (KpT.of (C := C) hb1 hw.size)
  have HJ1 := hid (hT.g _ _ _ hJ hb1)
  have HN := hid (askNamed_any token (.mk k nm t st L) _ W1 hn (hA.next hw1))
  have HW1 := hid hw1
  have HW0 := hid hw
  have HLH := hid hL
  have HTT := hid hT
  have HAA := hid hA
  have HR := hid hr
  have HV := hid hv
  have HOK := hid hokn
  obtain ⟨k0, k1, k2, k3, k4⟩ := (show _ from cells5' h1)
  obtain ⟨no, hno⟩ : ∃ o, Gr.namedR rs token (.mk k nm t st L) = o := ⟨_, rfl⟩
  rw [hno] at HN
  have HNO := hid hno
  obtain ⟨n, hnn⟩ : ∃ n, L.length = n := ⟨_, rfl⟩
  obtain ⟨sn, hsn⟩ : ∃ sn, st.length = sn := ⟨_, rfl⟩
  obtain ⟨kz, hkz⟩ : ∃ kz : Int, (k : Int) = kz := ⟨_, rfl⟩
  have HLN := hid hnn
  rw [hnn] at HN k4 hW1 hLL ⊢
  rw [hsn] at HN k3 hW1 ⊢
  rw [hkz] at HN k0 hW1 ⊢
  clear h1 hb1 hw1 hr hv hL hT hA hokn hno hnn hsn hn hw hJ
  unfold Gr.strV at *
  rcases (by omega : (k = 1) ∨ (k = 0 ∨ k = 2 ∨ k = 3 ∨ k = 4 ∨ k = 7) ∨ (k = 5 ∨ k = 6) ∨ 8 ≤ k) with h | h | h | h
  · subst h
    obtain rfl : kz = 1 := by omega
    have HM := hid (Gr.toldN_seq rs em token nm t st L)
    clear hkz HN k1 k2 k3
    go_enter Tryz.func156, Tryz.ntmps156
    go_upto_region 1 with fail
    rw [hW1.out]
    clear hW1
    go_wp2_with fail
    clear k0 k4
    go_loopw [9, 20] (fun _ iv wr => ∃ (i : Nat), i ≤ n ∧ iv = .int .i64 (i : Int) ∧ Hid ((∀ j (hj : j < L.length), j < i → Gr.mayN rs em token L[j] = true) ∧ J (pre ++ (L.take i).flatMap (Gr.toldN rs em token)) wr ∧ KpT Wk.heap.size C W wr)) (fun _ iv _ => n - (intOf iv).toNat)
    case atStart => exact ⟨0, Nat.zero_le _, rfl, hid ⟨fun j _ h => absurd h (Nat.not_lt_zero _), by simpa using HJ1.out, HK1.out⟩⟩
    case round =>
      obtain ⟨i, hi, rfl, HI⟩ := hrel
      have hwi : IntKind.i64.wrap ((i : Int) + 1) = (i : Int) + 1 := w64 (by omega) (by omega)
      by_cases hlt : i < n
      · have hil : i < L.length := by have := HLN.out; omega
        have hltI : (i : Int) < (n : Int) := by omega
        have hwr : Below Wk.heap.size Wk wr := HW0.out.trans HI.out.2.2.1
        have hbw := (HAA.out.next hwr).b
        obtain ⟨b, o, v0, v1, v2, v3, v4, hUA, hb, hnd, c0, c1, c2, c3, c4⟩ := readsNd HR.out HV.out i hil
        have e0 := (hbw.cell (p := ⟨b, o + i * 5, none⟩) hb).trans c0
        have e1 := (hbw.cell (p := ⟨b, o + i * 5 + 1, none⟩) hb).trans c1
        have e2 := (hbw.cell (p := ⟨b, o + i * 5 + 2, none⟩) hb).trans c2
        have e3 := (hbw.cell (p := ⟨b, o + i * 5 + 3, none⟩) hb).trans c3
        have e4 := (hbw.cell (p := ⟨b, o + i * 5 + 4, none⟩) hb).trans c4
        obtain ⟨xk, xm, xt, xSA, xa, xsc, xUA, xb, xuc, hv⟩ := hnd.form
        injection hv with hv0 hv
        injection hv with hv1 hv
        injection hv with hv2 hv
        injection hv with hv3 hv
        injection hv with hv4 hv
        subst hv0 hv1 hv2 hv3 hv4 hUA
        have hb2 := below_new wr (.cells #[.int .u8 xk, .string xm, .string xt, .slice xSA xa xsc, .slice xUA xb xuc] 74)
        have h2 := heap_alloc_new wr (.cells #[.int .u8 xk, .string xm, .string xt, .slice xSA xa xsc, .slice xUA xb xuc] 74)
        obtain ⟨W2, hW2⟩ : ∃ W2, Hid (wr.alloc (.cells #[.int .u8 xk, .string xm, .string xt, .slice xSA xa xsc, .slice xUA xb xuc] 74) = W2) := ⟨_, hid rfl⟩
        rw [hW2.out] at hb2 h2
        have hw2 : Below Wk.heap.size Wk W2 := hwr.trans (hb2.mono hwr.size)
        have HP := hid (HLH.out i hil _ (pre ++ (L.take i).flatMap (Gr.toldN rs em token)) W2 hnd hw2 (HTT.out.g _ _ _ HI.out.2.1 hb2))
        have HMY := hid (fun (u : World) (h : Below Wk.heap.size Wk u) => may_any (token := token) L[i] (Gr.okNs_at L HOK.out i hil) _ u hnd (HAA.out.next h))
        have HK2 := hid (HI.out.2.2.trans (KpT.of (C := C) hb2 hwr.size))
        have HFM := hid (flatMap_take (Gr.toldN rs em token) L i hil)
        obtain ⟨b0, b1, b2, b3, b4⟩ := (show _ from cells5' h2)
        have HH2 := hid h2
        have HWW2 := hid hw2
        clear hbw c0 c1 c2 c3 c4 hb2 h2 hw2 hnd hwr hv
        go_upto_region 6 with fail
        rw [hW2.out]
        clear hW2 e0 e1 e2 e3 e4
        go_wp2_with fail
        refine HP.out.mono ?_
        rintro _ w3 ⟨⟨rv, rfl⟩, hJ3, hk3⟩
        rw [List.append_assoc, ← HFM.out] at hJ3
        have h3 := hk3.2 _ _ _ HH2.out (fun e => HTT.out.c _ _ e rfl)
        have hw3 := HWW2.out.trans hk3.1
        have HMM := hid (HMY.out w3 hw3)
        clear b0 b1 b2 b3 b4
        obtain ⟨b0, b1, b2, b3, b4⟩ := (show _ from cells5' h3)
        obtain ⟨q, hq⟩ : ∃ q, Gr.mayN rs em token L[i] = q := ⟨_, rfl⟩
        rw [hq] at HMM
        have HQ := hid hq
        have HJ3 := hid hJ3
        have HK3 := hid (HK2.out.trans hk3)
        have HW3 := hid hw3
        clear hJ3 hk3 h3 hq hw3
        go_wp2_with fail
        refine HMM.out.mono ?_
        rintro _ w4 ⟨rfl, hb4⟩
        have HJ4 := hid (HTT.out.g _ _ _ HJ3.out hb4)
        have HK4 := hid (HK3.out.trans (KpT.of (C := C) hb4 HW3.out.size))
        clear hb4 b0 b1 b2 b3 b4
        cases q with
        | true =>
          have HA2 : Hid (∀ j (hj : j < L.length), j < i + 1 → Gr.mayN rs em token L[j] = true) := hid fun j hj h => by
            rcases Nat.lt_or_ge j i with h' | h'
            · exact HI.out.1 j hj h'
            · obtain rfl : j = i := by omega
              exact HQ.out
          go_wp2_with fail
          go_roundw
          case rel => exact ⟨i + 1, hlt, by go_num, hid ⟨HA2.out, HJ4.out, HK4.out⟩⟩
          case measure => simp only [intOf]; omega
        | false =>
          have HST := hid (Gr.toldSeq_stop rs em token L i hil (fun j hj h => HI.out.1 j hj h) HQ.out)
          go_wp2_with fail
          refine bodyPost_ret (results_none rfl _ _ _) rfl ?_
          exact ⟨⟨_, rfl⟩, by rw [HM.out, HST.out, ← HFM.out]; exact HJ4.out, HK4.out⟩
      · have hie : i = n := by omega
        subst hie
        have HST := hid (Gr.toldSeq_all rs em token L (fun j hj => HI.out.1 j hj (by have := HLN.out; omega)))
        have HTK : Hid (L.take i = L) := hid (by rw [← HLN.out, List.take_length])
        have HJ4 := hid HI.out.2.1
        have HK4 := hid HI.out.2.2
        rw [HTK.out] at HJ4
        clear hlt hwi
        go_wp2_with fail
        go_end0
        exact ⟨⟨_, rfl⟩, by rw [HM.out, HST.out]; exact HJ4.out, HK4.out⟩
  · have HM := hid (Gr.toldN_all rs em token k nm t st L h)
    rcases h with h | h | h | h | h
    · subst h
      obtain rfl : kz = 0 := by omega
      clear hkz HN k1 k2 k3
      go_enter Tryz.func156, Tryz.ntmps156
      go_upto_region 1 with fail
      rw [hW1.out]
      clear hW1
      go_wp2_with fail
      clear k0 k4
      go_loopw [11, 44] (fun _ iv wr => ∃ (i : Nat), i ≤ n ∧ iv = .int .i64 (i : Int) ∧ Hid (J (pre ++ (L.take i).flatMap (Gr.toldN rs em token)) wr ∧ KpT Wk.heap.size C W wr)) (fun _ iv _ => n - (intOf iv).toNat)
      case atStart => exact ⟨0, Nat.zero_le _, rfl, hid ⟨by simpa using HJ1.out, HK1.out⟩⟩
      case round =>
        obtain ⟨i, hi, rfl, HI⟩ := hrel
        have hwi : IntKind.i64.wrap ((i : Int) + 1) = (i : Int) + 1 := w64 (by omega) (by omega)
        by_cases hlt : i < n
        · have hil : i < L.length := by have := HLN.out; omega
          have hltI : (i : Int) < (n : Int) := by omega
          have hwr : Below Wk.heap.size Wk wr := HW0.out.trans HI.out.2.1
          have hbw := (HAA.out.next hwr).b
          obtain ⟨b, o, v0, v1, v2, v3, v4, hUA, hb, hnd, c0, c1, c2, c3, c4⟩ := readsNd HR.out HV.out i hil
          have e0 := (hbw.cell (p := ⟨b, o + i * 5, none⟩) hb).trans c0
          have e1 := (hbw.cell (p := ⟨b, o + i * 5 + 1, none⟩) hb).trans c1
          have e2 := (hbw.cell (p := ⟨b, o + i * 5 + 2, none⟩) hb).trans c2
          have e3 := (hbw.cell (p := ⟨b, o + i * 5 + 3, none⟩) hb).trans c3
          have e4 := (hbw.cell (p := ⟨b, o + i * 5 + 4, none⟩) hb).trans c4
          obtain ⟨xk, xm, xt, xSA, xa, xsc, xUA, xb, xuc, hv⟩ := hnd.form
          injection hv with hv0 hv
          injection hv with hv1 hv
          injection hv with hv2 hv
          injection hv with hv3 hv
          injection hv with hv4 hv
          subst hv0 hv1 hv2 hv3 hv4 hUA
          have hb2 := below_new wr (.cells #[.int .u8 xk, .string xm, .string xt, .slice xSA xa xsc, .slice xUA xb xuc] 74)
          have h2 := heap_alloc_new wr (.cells #[.int .u8 xk, .string xm, .string xt, .slice xSA xa xsc, .slice xUA xb xuc] 74)
          obtain ⟨W2, hW2⟩ : ∃ W2, Hid (wr.alloc (.cells #[.int .u8 xk, .string xm, .string xt, .slice xSA xa xsc, .slice xUA xb xuc] 74) = W2) := ⟨_, hid rfl⟩
          rw [hW2.out] at hb2 h2
          have hw2 : Below Wk.heap.size Wk W2 := hwr.trans (hb2.mono hwr.size)
          have HP := hid (HLH.out i hil _ (pre ++ (L.take i).flatMap (Gr.toldN rs em token)) W2 hnd hw2 (HTT.out.g _ _ _ HI.out.1 hb2))
          have HMY := hid (fun (u : World) (h : Below Wk.heap.size Wk u) => may_any (token := token) L[i] (Gr.okNs_at L HOK.out i hil) _ u hnd (HAA.out.next h))
          have HK2 := hid (HI.out.2.trans (KpT.of (C := C) hb2 hwr.size))
          have HFM := hid (flatMap_take (Gr.toldN rs em token) L i hil)
          obtain ⟨b0, b1, b2, b3, b4⟩ := (show _ from cells5' h2)
          have HH2 := hid h2
          have HWW2 := hid hw2
          clear hbw c0 c1 c2 c3 c4 hb2 h2 hw2 hnd hwr hv
          go_upto_region 17 with fail
          rw [hW2.out]
          clear hW2 e0 e1 e2 e3 e4
          go_wp2_with fail
          refine HP.out.mono ?_
          rintro _ w3 ⟨⟨rv, rfl⟩, hJ3, hk3⟩
          rw [List.append_assoc, ← HFM.out] at hJ3
          have HJ4 := hid hJ3
          have HK4 := hid (HK2.out.trans hk3)
          clear b0 b1 b2 b3 b4 hJ3 hk3
          go_wp2_with fail
          go_roundw
          case rel => exact ⟨i + 1, hlt, by go_num, hid ⟨HJ4.out, HK4.out⟩⟩
          case measure => simp only [intOf]; omega
        · have hie : i = n := by omega
          subst hie
          have HTK : Hid (L.take i = L) := hid (by rw [← HLN.out, List.take_length])
          have HJ4 := hid HI.out.1
          have HK4 := hid HI.out.2
          rw [HTK.out] at HJ4
          clear hlt hwi
          go_wp2_with fail
          go_end0
          exact ⟨⟨_, rfl⟩, by rw [HM.out]; exact HJ4.out, HK4.out⟩
    · subst h
      obtain rfl : kz = 2 := by omega
      clear hkz HN k1 k2 k3
      go_enter Tryz.func156, Tryz.ntmps156
      go_upto_region 1 with fail
      rw [hW1.out]
      clear hW1
      go_wp2_with fail
      clear k0 k4
      go_loopw [11, 44] (fun _ iv wr => ∃ (i : Nat), i ≤ n ∧ iv = .int .i64 (i : Int) ∧ Hid (J (pre ++ (L.take i).flatMap (Gr.toldN rs em token)) wr ∧ KpT Wk.heap.size C W wr)) (fun _ iv _ => n - (intOf iv).toNat)
      case atStart => exact ⟨0, Nat.zero_le _, rfl, hid ⟨by simpa using HJ1.out, HK1.out⟩⟩
      case round =>
        obtain ⟨i, hi, rfl, HI⟩ := hrel
        have hwi : IntKind.i64.wrap ((i : Int) + 1) = (i : Int) + 1 := w64 (by omega) (by omega)
        by_cases hlt : i < n
        · have hil : i < L.length := by have := HLN.out; omega
          have hltI : (i : Int) < (n : Int) := by omega
          have hwr : Below Wk.heap.size Wk wr := HW0.out.trans HI.out.2.1
          have hbw := (HAA.out.next hwr).b
          obtain ⟨b, o, v0, v1, v2, v3, v4, hUA, hb, hnd, c0, c1, c2, c3, c4⟩ := readsNd HR.out HV.out i hil
          have e0 := (hbw.cell (p := ⟨b, o + i * 5, none⟩) hb).trans c0
          have e1 := (hbw.cell (p := ⟨b, o + i * 5 + 1, none⟩) hb).trans c1
          have e2 := (hbw.cell (p := ⟨b, o + i * 5 + 2, none⟩) hb).trans c2
          have e3 := (hbw.cell (p := ⟨b, o + i * 5 + 3, none⟩) hb).trans c3
          have e4 := (hbw.cell (p := ⟨b, o + i * 5 + 4, none⟩) hb).trans c4
          obtain ⟨xk, xm, xt, xSA, xa, xsc, xUA, xb, xuc, hv⟩ := hnd.form
          injection hv with hv0 hv
          injection hv with hv1 hv
          injection hv with hv2 hv
          injection hv with hv3 hv
          injection hv with hv4 hv
          subst hv0 hv1 hv2 hv3 hv4 hUA
          have hb2 := below_new wr (.cells #[.int .u8 xk, .string xm, .string xt, .slice xSA xa xsc, .slice xUA xb xuc] 74)
          have h2 := heap_alloc_new wr (.cells #[.int .u8 xk, .string xm, .string xt, .slice xSA xa xsc, .slice xUA xb xuc] 74)
          obtain ⟨W2, hW2⟩ : ∃ W2, Hid (wr.alloc (.cells #[.int .u8 xk, .string xm, .string xt, .slice xSA xa xsc, .slice xUA xb xuc] 74) = W2) := ⟨_, hid rfl⟩
          rw [hW2.out] at hb2 h2
          have hw2 : Below Wk.heap.size Wk W2 := hwr.trans (hb2.mono hwr.size)
          have HP := hid (HLH.out i hil _ (pre ++ (L.take i).flatMap (Gr.toldN rs em token)) W2 hnd hw2 (HTT.out.g _ _ _ HI.out.1 hb2))
          have HMY := hid (fun (u : World) (h : Below Wk.heap.size Wk u) => may_any (token := token) L[i] (Gr.okNs_at L HOK.out i hil) _ u hnd (HAA.out.next h))
          have HK2 := hid (HI.out.2.trans (KpT.of (C := C) hb2 hwr.size))
          have HFM := hid (flatMap_take (Gr.toldN rs em token) L i hil)
          obtain ⟨b0, b1, b2, b3, b4⟩ := (show _ from cells5' h2)
          have HH2 := hid h2
          have HWW2 := hid hw2
          clear hbw c0 c1 c2 c3 c4 hb2 h2 hw2 hnd hwr hv
          go_upto_region 17 with fail
          rw [hW2.out]
          clear hW2 e0 e1 e2 e3 e4
          go_wp2_with fail
          refine HP.out.mono ?_
          rintro _ w3 ⟨⟨rv, rfl⟩, hJ3, hk3⟩
          rw [List.append_assoc, ← HFM.out] at hJ3
          have HJ4 := hid hJ3
          have HK4 := hid (HK2.out.trans hk3)
          clear b0 b1 b2 b3 b4 hJ3 hk3
          go_wp2_with fail
          go_roundw
          case rel => exact ⟨i + 1, hlt, by go_num, hid ⟨HJ4.out, HK4.out⟩⟩
          case measure => simp only [intOf]; omega
        · have hie : i = n := by omega
          subst hie
          have HTK : Hid (L.take i = L) := hid (by rw [← HLN.out, List.take_length])
          have HJ4 := hid HI.out.1
          have HK4 := hid HI.out.2
          rw [HTK.out] at HJ4
          clear hlt hwi
          go_wp2_with fail
          go_end0
          exact ⟨⟨_, rfl⟩, by rw [HM.out]; exact HJ4.out, HK4.out⟩
    · subst h
      obtain rfl : kz = 3 := by omega
      clear hkz HN k1 k2 k3
      go_enter Tryz.func156, Tryz.ntmps156
      go_upto_region 1 with fail
      rw [hW1.out]
      clear hW1
      go_wp2_with fail
      clear k0 k4
      go_loopw [11, 44] (fun _ iv wr => ∃ (i : Nat), i ≤ n ∧ iv = .int .i64 (i : Int) ∧ Hid (J (pre ++ (L.take i).flatMap (Gr.toldN rs em token)) wr ∧ KpT Wk.heap.size C W wr)) (fun _ iv _ => n - (intOf iv).toNat)
      case atStart => exact ⟨0, Nat.zero_le _, rfl, hid ⟨by simpa using HJ1.out, HK1.out⟩⟩
      case round =>
        obtain ⟨i, hi, rfl, HI⟩ := hrel
        have hwi : IntKind.i64.wrap ((i : Int) + 1) = (i : Int) + 1 := w64 (by omega) (by omega)
        by_cases hlt : i < n
        · have hil : i < L.length := by have := HLN.out; omega
          have hltI : (i : Int) < (n : Int) := by omega
          have hwr : Below Wk.heap.size Wk wr := HW0.out.trans HI.out.2.1
          have hbw := (HAA.out.next hwr).b
          obtain ⟨b, o, v0, v1, v2, v3, v4, hUA, hb, hnd, c0, c1, c2, c3, c4⟩ := readsNd HR.out HV.out i hil
          have e0 := (hbw.cell (p := ⟨b, o + i * 5, none⟩) hb).trans c0
          have e1 := (hbw.cell (p := ⟨b, o + i * 5 + 1, none⟩) hb).trans c1
          have e2 := (hbw.cell (p := ⟨b, o + i * 5 + 2, none⟩) hb).trans c2
          have e3 := (hbw.cell (p := ⟨b, o + i * 5 + 3, none⟩) hb).trans c3
          have e4 := (hbw.cell (p := ⟨b, o + i * 5 + 4, none⟩) hb).trans c4
          obtain ⟨xk, xm, xt, xSA, xa, xsc, xUA, xb, xuc, hv⟩ := hnd.form
          injection hv with hv0 hv
          injection hv with hv1 hv
          injection hv with hv2 hv
          injection hv with hv3 hv
          injection hv with hv4 hv
          subst hv0 hv1 hv2 hv3 hv4 hUA
          have hb2 := below_new wr (.cells #[.int .u8 xk, .string xm, .string xt, .slice xSA xa xsc, .slice xUA xb xuc] 74)
          have h2 := heap_alloc_new wr (.cells #[.int .u8 xk, .string xm, .string xt, .slice xSA xa xsc, .slice xUA xb xuc] 74)
          obtain ⟨W2, hW2⟩ : ∃ W2, Hid (wr.alloc (.cells #[.int .u8 xk, .string xm, .string xt, .slice xSA xa xsc, .slice xUA xb xuc] 74) = W2) := ⟨_, hid rfl⟩
          rw [hW2.out] at hb2 h2
          have hw2 : Below Wk.heap.size Wk W2 := hwr.trans (hb2.mono hwr.size)
          have HP := hid (HLH.out i hil _ (pre ++ (L.take i).flatMap (Gr.toldN rs em token)) W2 hnd hw2 (HTT.out.g _ _ _ HI.out.1 hb2))
          have HMY := hid (fun (u : World) (h : Below Wk.heap.size Wk u) => may_any (token := token) L[i] (Gr.okNs_at L HOK.out i hil) _ u hnd (HAA.out.next h))
          have HK2 := hid (HI.out.2.trans (KpT.of (C := C) hb2 hwr.size))
          have HFM := hid (flatMap_take (Gr.toldN rs em token) L i hil)
          obtain ⟨b0, b1, b2, b3, b4⟩ := (show _ from cells5' h2)
          have HH2 := hid h2
          have HWW2 := hid hw2
          clear hbw c0 c1 c2 c3 c4 hb2 h2 hw2 hnd hwr hv
          go_upto_region 17 with fail
          rw [hW2.out]
          clear hW2 e0 e1 e2 e3 e4
          go_wp2_with fail
          refine HP.out.mono ?_
          rintro _ w3 ⟨⟨rv, rfl⟩, hJ3, hk3⟩
          rw [List.append_assoc, ← HFM.out] at hJ3
          have HJ4 := hid hJ3
          have HK4 := hid (HK2.out.trans hk3)
          clear b0 b1 b2 b3 b4 hJ3 hk3
          go_wp2_with fail
          go_roundw
          case rel => exact ⟨i + 1, hlt, by go_num, hid ⟨HJ4.out, HK4.out⟩⟩
          case measure => simp only [intOf]; omega
        · have hie : i = n := by omega
          subst hie
          have HTK : Hid (L.take i = L) := hid (by rw [← HLN.out, List.take_length])
          have HJ4 := hid HI.out.1
          have HK4 := hid HI.out.2
          rw [HTK.out] at HJ4
          clear hlt hwi
          go_wp2_with fail
          go_end0
          exact ⟨⟨_, rfl⟩, by rw [HM.out]; exact HJ4.out, HK4.out⟩
    · subst h
      obtain rfl : kz = 4 := by omega
      clear hkz HN k1 k2 k3
      go_enter Tryz.func156, Tryz.ntmps156
      go_upto_region 1 with fail
      rw [hW1.out]
      clear hW1
      go_wp2_with fail
      clear k0 k4
      go_loopw [11, 44] (fun _ iv wr => ∃ (i : Nat), i ≤ n ∧ iv = .int .i64 (i : Int) ∧ Hid (J (pre ++ (L.take i).flatMap (Gr.toldN rs em token)) wr ∧ KpT Wk.heap.size C W wr)) (fun _ iv _ => n - (intOf iv).toNat)
      case atStart => exact ⟨0, Nat.zero_le _, rfl, hid ⟨by simpa using HJ1.out, HK1.out⟩⟩
      case round =>
        obtain ⟨i, hi, rfl, HI⟩ := hrel
        have hwi : IntKind.i64.wrap ((i : Int) + 1) = (i : Int) + 1 := w64 (by omega) (by omega)
        by_cases hlt : i < n
        · have hil : i < L.length := by have := HLN.out; omega
          have hltI : (i : Int) < (n : Int) := by omega
          have hwr : Below Wk.heap.size Wk wr := HW0.out.trans HI.out.2.1
          have hbw := (HAA.out.next hwr).b
          obtain ⟨b, o, v0, v1, v2, v3, v4, hUA, hb, hnd, c0, c1, c2, c3, c4⟩ := readsNd HR.out HV.out i hil
          have e0 := (hbw.cell (p := ⟨b, o + i * 5, none⟩) hb).trans c0
          have e1 := (hbw.cell (p := ⟨b, o + i * 5 + 1, none⟩) hb).trans c1
          have e2 := (hbw.cell (p := ⟨b, o + i * 5 + 2, none⟩) hb).trans c2
          have e3 := (hbw.cell (p := ⟨b, o + i * 5 + 3, none⟩) hb).trans c3
          have e4 := (hbw.cell (p := ⟨b, o + i * 5 + 4, none⟩) hb).trans c4
          obtain ⟨xk, xm, xt, xSA, xa, xsc, xUA, xb, xuc, hv⟩ := hnd.form
          injection hv with hv0 hv
          injection hv with hv1 hv
          injection hv with hv2 hv
          injection hv with hv3 hv
          injection hv with hv4 hv
          subst hv0 hv1 hv2 hv3 hv4 hUA
          have hb2 := below_new wr (.cells #[.int .u8 xk, .string xm, .string xt, .slice xSA xa xsc, .slice xUA xb xuc] 74)
          have h2 := heap_alloc_new wr (.cells #[.int .u8 xk, .string xm, .string xt, .slice xSA xa xsc, .slice xUA xb xuc] 74)
          obtain ⟨W2, hW2⟩ : ∃ W2, Hid (wr.alloc (.cells #[.int .u8 xk, .string xm, .string xt, .slice xSA xa xsc, .slice xUA xb xuc] 74) = W2) := ⟨_, hid rfl⟩
          rw [hW2.out] at hb2 h2
          have hw2 : Below Wk.heap.size Wk W2 := hwr.trans (hb2.mono hwr.size)
          have HP := hid (HLH.out i hil _ (pre ++ (L.take i).flatMap (Gr.toldN rs em token)) W2 hnd hw2 (HTT.out.g _ _ _ HI.out.1 hb2))
          have HMY := hid (fun (u : World) (h : Below Wk.heap.size Wk u) => may_any (token := token) L[i] (Gr.okNs_at L HOK.out i hil) _ u hnd (HAA.out.next h))
          have HK2 := hid (HI.out.2.trans (KpT.of (C := C) hb2 hwr.size))
          have HFM := hid (flatMap_take (Gr.toldN rs em token) L i hil)
          obtain ⟨b0, b1, b2, b3, b4⟩ := (show _ from cells5' h2)
          have HH2 := hid h2
          have HWW2 := hid hw2
          clear hbw c0 c1 c2 c3 c4 hb2 h2 hw2 hnd hwr hv
          go_upto_region 17 with fail
          rw [hW2.out]
          clear hW2 e0 e1 e2 e3 e4
          go_wp2_with fail
          refine HP.out.mono ?_
          rintro _ w3 ⟨⟨rv, rfl⟩, hJ3, hk3⟩
          rw [List.append_assoc, ← HFM.out] at hJ3
          have HJ4 := hid hJ3
          have HK4 := hid (HK2.out.trans hk3)
          clear b0 b1 b2 b3 b4 hJ3 hk3
          go_wp2_with fail
          go_roundw
          case rel => exact ⟨i + 1, hlt, by go_num, hid ⟨HJ4.out, HK4.out⟩⟩
          case measure => simp only [intOf]; omega
        · have hie : i = n := by omega
          subst hie
          have HTK : Hid (L.take i = L) := hid (by rw [← HLN.out, List.take_length])
          have HJ4 := hid HI.out.1
          have HK4 := hid HI.out.2
          rw [HTK.out] at HJ4
          clear hlt hwi
          go_wp2_with fail
          go_end0
          exact ⟨⟨_, rfl⟩, by rw [HM.out]; exact HJ4.out, HK4.out⟩
    · subst h
      obtain rfl : kz = 7 := by omega
      clear hkz HN k1 k2 k3
      go_enter Tryz.func156, Tryz.ntmps156
      go_upto_region 1 with fail
      rw [hW1.out]
      clear hW1
      go_wp2_with fail
      clear k0 k4
      go_loopw [11, 44] (fun _ iv wr => ∃ (i : Nat), i ≤ n ∧ iv = .int .i64 (i : Int) ∧ Hid (J (pre ++ (L.take i).flatMap (Gr.toldN rs em token)) wr ∧ KpT Wk.heap.size C W wr)) (fun _ iv _ => n - (intOf iv).toNat)
      case atStart => exact ⟨0, Nat.zero_le _, rfl, hid ⟨by simpa using HJ1.out, HK1.out⟩⟩
      case round =>
        obtain ⟨i, hi, rfl, HI⟩ := hrel
        have hwi : IntKind.i64.wrap ((i : Int) + 1) = (i : Int) + 1 := w64 (by omega) (by omega)
        by_cases hlt : i < n
        · have hil : i < L.length := by have := HLN.out; omega
          have hltI : (i : Int) < (n : Int) := by omega
          have hwr : Below Wk.heap.size Wk wr := HW0.out.trans HI.out.2.1
          have hbw := (HAA.out.next hwr).b
          obtain ⟨b, o, v0, v1, v2, v3, v4, hUA, hb, hnd, c0, c1, c2, c3, c4⟩ := readsNd HR.out HV.out i hil
          have e0 := (hbw.cell (p := ⟨b, o + i * 5, none⟩) hb).trans c0
          have e1 := (hbw.cell (p := ⟨b, o + i * 5 + 1, none⟩) hb).trans c1
          have e2 := (hbw.cell (p := ⟨b, o + i * 5 + 2, none⟩) hb).trans c2
          have e3 := (hbw.cell (p := ⟨b, o + i * 5 + 3, none⟩) hb).trans c3
          have e4 := (hbw.cell (p := ⟨b, o + i * 5 + 4, none⟩) hb).trans c4
          obtain ⟨xk, xm, xt, xSA, xa, xsc, xUA, xb, xuc, hv⟩ := hnd.form
          injection hv with hv0 hv
          injection hv with hv1 hv
          injection hv with hv2 hv
          injection hv with hv3 hv
          injection hv with hv4 hv
          subst hv0 hv1 hv2 hv3 hv4 hUA
          have hb2 := below_new wr (.cells #[.int .u8 xk, .string xm, .string xt, .slice xSA xa xsc, .slice xUA xb xuc] 74)
          have h2 := heap_alloc_new wr (.cells #[.int .u8 xk, .string xm, .string xt, .slice xSA xa xsc, .slice xUA xb xuc] 74)
          obtain ⟨W2, hW2⟩ : ∃ W2, Hid (wr.alloc (.cells #[.int .u8 xk, .string xm, .string xt, .slice xSA xa xsc, .slice xUA xb xuc] 74) = W2) := ⟨_, hid rfl⟩
          rw [hW2.out] at hb2 h2
          have hw2 : Below Wk.heap.size Wk W2 := hwr.trans (hb2.mono hwr.size)
          have HP := hid (HLH.out i hil _ (pre ++ (L.take i).flatMap (Gr.toldN rs em token)) W2 hnd hw2 (HTT.out.g _ _ _ HI.out.1 hb2))
          have HMY := hid (fun (u : World) (h : Below Wk.heap.size Wk u) => may_any (token := token) L[i] (Gr.okNs_at L HOK.out i hil) _ u hnd (HAA.out.next h))
          have HK2 := hid (HI.out.2.trans (KpT.of (C := C) hb2 hwr.size))
          have HFM := hid (flatMap_take (Gr.toldN rs em token) L i hil)
          obtain ⟨b0, b1, b2, b3, b4⟩ := (show _ from cells5' h2)
          have HH2 := hid h2
          have HWW2 := hid hw2
          clear hbw c0 c1 c2 c3 c4 hb2 h2 hw2 hnd hwr hv
          go_upto_region 17 with fail
          rw [hW2.out]
          clear hW2 e0 e1 e2 e3 e4
          go_wp2_with fail
          refine HP.out.mono ?_
          rintro _ w3 ⟨⟨rv, rfl⟩, hJ3, hk3⟩
          rw [List.append_assoc, ← HFM.out] at hJ3
          have HJ4 := hid hJ3
          have HK4 := hid (HK2.out.trans hk3)
          clear b0 b1 b2 b3 b4 hJ3 hk3
          go_wp2_with fail
          go_roundw
          case rel => exact ⟨i + 1, hlt, by go_num, hid ⟨HJ4.out, HK4.out⟩⟩
          case measure => simp only [intOf]; omega
        · have hie : i = n := by omega
          subst hie
          have HTK : Hid (L.take i = L) := hid (by rw [← HLN.out, List.take_length])
          have HJ4 := hid HI.out.1
          have HK4 := hid HI.out.2
          rw [HTK.out] at HJ4
          clear hlt hwi
          go_wp2_with fail
          go_end0
          exact ⟨⟨_, rfl⟩, by rw [HM.out]; exact HJ4.out, HK4.out⟩
  · have HM := hid (Gr.toldN_name rs em token k nm t st L h)
    rcases h with h | h
    · subst h
      obtain rfl : kz = 5 := by omega
      clear hkz
      go_enter Tryz.func156, Tryz.ntmps156
      go_upto_region 1 with fail
      rw [hW1.out]
      clear hW1
      go_wp2_with fail
      refine HN.out.mono ?_
      rintro _ w2 ⟨rfl, hb2⟩
      have HJ2 := hid (HTT.out.g _ _ _ HJ1.out hb2)
      have HW2 := hid (HW1.out.trans (hb2.mono HW1.out.size))
      have HK2 := hid (HK1.out.trans (KpT.of (C := C) hb2 HW1.out.size))
      clear hb2 k0 k1 k2 k3 k4 HN
      cases no with
      | none =>
        unfold idxAns
        go_wp2_with fail
        go_end0
        exact ⟨⟨_, rfl⟩, by rw [HM.out, HNO.out]; simpa using HJ2.out, HK2.out⟩
      | some j =>
        have hj := Gr.namedR_lt HNO.out
        have eg := HTT.out.eg
        have HTL := hid (HTT.out.t pre j w2 HW2.out HJ2.out hj)
        have hj0 : (0 : Int) ≤ (j : Int) := by omega
        unfold idxAns
        clear hj
        go_wp2_with fail
        refine HTL.out.mono ?_
        rintro _ w3 ⟨⟨rv, rfl⟩, hJ3, hk3⟩
        have HJ3 := hid hJ3
        have HK3 := hid (HK2.out.trans hk3)
        clear hJ3 hk3
        go_wp2_with fail
        go_end0
        exact ⟨⟨_, rfl⟩, by rw [HM.out, HNO.out]; exact HJ3.out, HK3.out⟩
    · subst h
      obtain rfl : kz = 6 := by omega
      clear hkz
      go_enter Tryz.func156, Tryz.ntmps156
      go_upto_region 1 with fail
      rw [hW1.out]
      clear hW1
      go_wp2_with fail
      refine HN.out.mono ?_
      rintro _ w2 ⟨rfl, hb2⟩
      have HJ2 := hid (HTT.out.g _ _ _ HJ1.out hb2)
      have HW2 := hid (HW1.out.trans (hb2.mono HW1.out.size))
      have HK2 := hid (HK1.out.trans (KpT.of (C := C) hb2 HW1.out.size))
      clear hb2 k0 k1 k2 k3 k4 HN
      cases no with
      | none =>
        unfold idxAns
        go_wp2_with fail
        go_end0
        exact ⟨⟨_, rfl⟩, by rw [HM.out, HNO.out]; simpa using HJ2.out, HK2.out⟩
      | some j =>
        have hj := Gr.namedR_lt HNO.out
        have eg := HTT.out.eg
        have HTL := hid (HTT.out.t pre j w2 HW2.out HJ2.out hj)
        have hj0 : (0 : Int) ≤ (j : Int) := by omega
        unfold idxAns
        clear hj
        go_wp2_with fail
        refine HTL.out.mono ?_
        rintro _ w3 ⟨⟨rv, rfl⟩, hJ3, hk3⟩
        have HJ3 := hid hJ3
        have HK3 := hid (HK2.out.trans hk3)
        clear hJ3 hk3
        go_wp2_with fail
        go_end0
        exact ⟨⟨_, rfl⟩, by rw [HM.out, HNO.out]; exact HJ3.out, HK3.out⟩
  · have HM := hid (Gr.toldN_no rs em token k nm t st L h)
    have f0 : (kz == 0) = false := by rw [beq_eq_false_iff_ne]; omega
    have f1 : (kz == 1) = false := by rw [beq_eq_false_iff_ne]; omega
    have f2 : (kz == 2) = false := by rw [beq_eq_false_iff_ne]; omega
    have f3 : (kz == 3) = false := by rw [beq_eq_false_iff_ne]; omega
    have f4 : (kz == 4) = false := by rw [beq_eq_false_iff_ne]; omega
    have f5 : (kz == 5) = false := by rw [beq_eq_false_iff_ne]; omega
    have f6 : (kz == 6) = false := by rw [beq_eq_false_iff_ne]; omega
    have f7 : (kz == 7) = false := by rw [beq_eq_false_iff_ne]; omega
    clear hkz HN h k1 k2 k3
    go_enter Tryz.func156, Tryz.ntmps156
    go_upto_region 1 with fail
    rw [hW1.out]
    clear hW1
    go_wp2_with fail
    go_end0
    exact ⟨⟨_, rfl⟩, by rw [HM.out]; simpa using HJ1.out, HK1.out⟩
mutual
theorem reach_any {token : Bool} (hT : TellT rs Wk C tf lb J) (hA : AskAt w0 B rs em ab Wk) : ∀ nd : Gr.Nd, Gr.okN nd → ReachP w0 B rs em ab Wk C tf lb J token nd
  | .mk k nm t st L, h => by
    unfold Gr.okN at h
    exact reach_at k nm t st L h.2.2.2.2.2.2 (reach_subs hT hA L h.2.2.2.2.2.2) h.2.2.2.2.2.1 hT hA
theorem reach_subs {token : Bool} (hT : TellT rs Wk C tf lb J) (hA : AskAt w0 B rs em ab Wk) : ∀ L : List Gr.Nd, Gr.okNs L → ∀ i (hi : i < L.length), ReachP w0 B rs em ab Wk C tf lb J token L[i]
  | [], _, i, hi => absurd hi (Nat.not_lt_zero _)
  | x :: L, h, i, hi => by
    unfold Gr.okNs at h
    cases i with
    | zero => exact reach_any hT hA x h.1
    | succ i => exact reach_subs hT hA L h.2 i (by simpa using hi)
end
end
end Go.Proofs.YtpbnfinmjnpkpaaGreatDoor
