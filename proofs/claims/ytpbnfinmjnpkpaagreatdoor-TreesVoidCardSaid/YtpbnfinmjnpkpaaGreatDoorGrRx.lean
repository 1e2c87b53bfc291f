/-
  slices.IndexFunc and slices.ContainsFunc at rules.
-/
import Derived.Test.YtpbnfinmjnpkpaaGreatDoorGrRs
namespace Go.Proofs.YtpbnfinmjnpkpaaGreatDoor
open Go.RowKit
set_option maxRecDepth 100000
section
variable {w0 : World} {B : Nat}
set_option maxHeartbeats 4000000 in
theorem idxRu_any (L : List Gr.Ru) (p : Gr.Ru → Bool) (g : Nat) (lb : Array Value) (eg : ∀ args w, (callFunc g args).run Tryz.prog w = .ok (.enter g args) w) (UA : Option Addr) (uc : Nat) (xs : List Value) (W : World) (hr : Reads w0 B 10 UA L.length xs) (hv : RusR w0 B L xs) (hb : Below B w0 W) (hBW : B ≤ W.heap.size)
    (hg : ∀ i (hi : i < L.length) (cs : List Value) (W1 : World), RuR w0 B L[i] cs → Below W.heap.size W W1 → Calls Tryz.prog g (#[.agg cs.toArray] ++ lb) W1 fun e W2 => e = .returned (.bool (p L[i])) ∧ Below W1.heap.size W1 W2) (hLL : L.length ≤ 4398046511104) :
    Calls Tryz.prog 78 #[.slice UA L.length uc, .func (.func g) #[] lb] W fun e W' => e = .returned (.int .i64 (idxAns (L.findIdx? p))) ∧ Below W.heap.size W W' := by
  have HR := hid hr
  have HV := hid hv
  have HB := hid hb
  have HG := hid hg
  obtain ⟨n, hn⟩ : ∃ n, L.length = n := ⟨_, rfl⟩
  have HL := hid hn
  rw [hn] at hLL ⊢
  clear hr hv hb hg hn
  go_enter Tryz.func78, Tryz.ntmps78
  go_wp2_with fail
  go_loopw [5, 8] (fun _ iv wr => ∃ (i : Nat), i ≤ n ∧ iv = .int .i64 (i : Int) ∧ Hid (Below W.heap.size W wr ∧ ∀ k (hk : k < L.length), k < i → p L[k] = false)) (fun _ iv _ => n - (intOf iv).toNat)
  case atStart => exact ⟨0, Nat.zero_le _, rfl, hid ⟨Below.refl _ _, fun k _ h => absurd h (Nat.not_lt_zero _)⟩⟩
  case round =>
    obtain ⟨i, hi, rfl, HI⟩ := hrel
    have hwi : IntKind.i64.wrap ((i : Int) + 1) = (i : Int) + 1 := w64 (by omega) (by omega)
    by_cases hlt : i < n
    · have hil : i < L.length := by have := HL.out; omega
      have hltI : (i : Int) < (n : Int) := by omega
      have hbw := HB.out.trans (HI.out.1.mono hBW)
      obtain ⟨b, o, u0, u1, u2, u3, u4, u5, u6, u7, u8, u9, hUA, hbB, hnd, c0, c1, c2, c3, c4, c5, c6, c7, c8, c9⟩ := readsRu HR.out HV.out i hil
      have e0 := (hbw.cell (p := ⟨b, o + i * 10, none⟩) hbB).trans c0
      have e1 := (hbw.cell (p := ⟨b, o + i * 10 + 1, none⟩) hbB).trans c1
      have e2 := (hbw.cell (p := ⟨b, o + i * 10 + 2, none⟩) hbB).trans c2
      have e3 := (hbw.cell (p := ⟨b, o + i * 10 + 3, none⟩) hbB).trans c3
      have e4 := (hbw.cell (p := ⟨b, o + i * 10 + 4, none⟩) hbB).trans c4
      have e5 := (hbw.cell (p := ⟨b, o + i * 10 + 5, none⟩) hbB).trans c5
      have e6 := (hbw.cell (p := ⟨b, o + i * 10 + 6, none⟩) hbB).trans c6
      have e7 := (hbw.cell (p := ⟨b, o + i * 10 + 7, none⟩) hbB).trans c7
      have e8 := (hbw.cell (p := ⟨b, o + i * 10 + 8, none⟩) hbB).trans c8
      have e9 := (hbw.cell (p := ⟨b, o + i * 10 + 9, none⟩) hbB).trans c9
      have hgi := HG.out i hil [u0, u1, u2, u3, u4, u5, u6, u7, u8, u9] wr hnd HI.out.1
      obtain ⟨q, hq⟩ : ∃ q, p L[i] = q := ⟨_, rfl⟩
      rw [hq] at hgi
      have HQ := hid hq
      have HGI := hid hgi
      rw [hUA]
      clear hbw hUA hnd c0 c1 c2 c3 c4 c5 c6 c7 c8 c9 hgi hq
      go_wp2_with fail
      refine HGI.out.mono ?_
      rintro _ W2 ⟨rfl, hb2⟩
      have HF := hid (HI.out.1.trans (hb2.mono HI.out.1.size))
      clear hb2 e0 e1 e2 e3 e4 e5 e6 e7 e8 e9
      cases q with
      | true =>
        have HA := hid (findIdx_take p L i hil (fun k hk => HI.out.2 k (by omega) hk) HQ.out)
        go_wp2_with fail
        go_ret
        exact ⟨by rw [HA.out]; rfl, HF.out⟩
      | false =>
        go_wp2_with fail
        go_roundw
        case rel => exact ⟨i + 1, hlt, by go_num, hid ⟨HF.out, fun k hk hki => by
          rcases Nat.lt_or_ge k i with h1 | h1
          · exact HI.out.2 k hk h1
          · obtain rfl : k = i := by omega
            exact HQ.out⟩⟩
        case measure => simp only [intOf]; omega
    · have HA := hid (findIdx_none p L (fun k hk => HI.out.2 k hk (by have := HL.out; omega)))
      have hie : i = n := by omega
      subst hie
      clear hlt
      go_wp2_with fail
      go_ret
      exact ⟨by rw [HA.out]; rfl, HI.out.1⟩
set_option maxHeartbeats 4000000 in
theorem hasRu_any (L : List Gr.Ru) (p : Gr.Ru → Bool) (g : Nat) (lb : Array Value) (eg : ∀ args w, (callFunc g args).run Tryz.prog w = .ok (.enter g args) w) (UA : Option Addr) (uc : Nat) (xs : List Value) (W : World) (hr : Reads w0 B 10 UA L.length xs) (hv : RusR w0 B L xs) (hb : Below B w0 W) (hBW : B ≤ W.heap.size)
    (hg : ∀ i (hi : i < L.length) (cs : List Value) (W1 : World), RuR w0 B L[i] cs → Below W.heap.size W W1 → Calls Tryz.prog g (#[.agg cs.toArray] ++ lb) W1 fun e W2 => e = .returned (.bool (p L[i])) ∧ Below W1.heap.size W1 W2) (hLL : L.length ≤ 4398046511104) :
    Calls Tryz.prog 91 #[.slice UA L.length uc, .func (.func g) #[] lb] W fun e W' => e = .returned (.bool (L.any p)) ∧ Below W.heap.size W W' := by
  have H := hid (idxRu_any L p g lb eg UA uc xs W hr hv hb hBW hg hLL)
  have HA := hid (any_find p L)
  clear hr hv hb hg
  generalize L.length = n at *
  generalize L.findIdx? p = a at H HA
  go_enter Tryz.func91, Tryz.ntmps91
  go_wp2_with fail
  go_at_call 78
  refine H.out.mono ?_
  rintro _ W2 ⟨rfl, hb2⟩
  cases a with
  | none =>
    unfold idxAns
    go_wp2_with fail
    go_ret
    exact ⟨by rw [HA.out]; rfl, hb2⟩
  | some k =>
    unfold idxAns
    have hi : decide ((0 : Int) ≤ (k : Int)) = true := decide_eq_true (by omega)
    go_wp2_with fail
    go_ret
    exact ⟨by rw [HA.out]; rfl, hb2⟩
end
end Go.Proofs.YtpbnfinmjnpkpaaGreatDoor
