/-
  slices.IndexFunc, slices.ContainsFunc at nodes, at ranges: for whatever function that tells a bool: the walks.
-/
import Derived.Test.YtpbnfinmjnpkpaaGreatDoorGrAll
namespace Go.Proofs.YtpbnfinmjnpkpaaGreatDoor
open Go.RowKit
set_option maxRecDepth 100000
def idxAns (i : Option Nat) : Int := match i with
  | none => -1
  | some k => (k : Int)
theorem findIdx_take {α : Type} (p : α → Bool) (L : List α) (i : Nat) (h : i < L.length) (h0 : ∀ k (hk : k < i), p (L[k]'(by omega)) = false) (hp : p L[i] = true) : L.findIdx? p = some i := by
  rw [List.findIdx?_eq_some_iff_getElem]
  exact ⟨h, hp, fun j hj => by rw [h0 j hj]; decide⟩
theorem findIdx_none {α : Type} (p : α → Bool) (L : List α) (h0 : ∀ k (hk : k < L.length), p L[k] = false) : L.findIdx? p = none := by
  rw [List.findIdx?_eq_none_iff]
  intro x hx
  obtain ⟨k, hk, rfl⟩ := List.getElem_of_mem hx
  exact h0 k hk
theorem any_find {α : Type} (p : α → Bool) (L : List α) : L.any p = (L.findIdx? p).isSome := by
  rw [List.findIdx?_isSome]
section
variable {w0 : World} {B : Nat}
set_option maxHeartbeats 4000000 in
theorem idxN_any (L : List Gr.Nd) (p : Gr.Nd → Bool) (g : Nat) (lb : Array Value) (eg : ∀ args w, (callFunc g args).run Tryz.prog w = .ok (.enter g args) w) (UA : Option Addr) (uc : Nat) (xs : List Value) (W : World) (hr : Reads w0 B 5 UA L.length xs) (hv : NdsR w0 B L xs) (hb : Below B w0 W) (hBW : B ≤ W.heap.size)
    (hg : ∀ i (hi : i < L.length) (cs : List Value) (W1 : World), NdR w0 B L[i] cs → Below W.heap.size W W1 → Calls Tryz.prog g (#[.agg cs.toArray] ++ lb) W1 fun e W2 => e = .returned (.bool (p L[i])) ∧ Below W1.heap.size W1 W2) (hLL : L.length ≤ 4398046511104) :
    Calls Tryz.prog 173 #[.slice UA L.length uc, .func (.func g) #[] lb] W fun e W' => e = .returned (.int .i64 (idxAns (L.findIdx? p))) ∧ Below W.heap.size W W' := by
  have HR := hid hr
  have HV := hid hv
  have HB := hid hb
  have HG := hid hg
  obtain ⟨n, hn⟩ : ∃ n, L.length = n := ⟨_, rfl⟩
  have HL := hid hn
  rw [hn] at hLL ⊢
  clear hr hv hb hg hn
  go_enter Tryz.func173, Tryz.ntmps173
  go_wp2_with fail
  go_loopw [5, 8] (fun _ iv wr => ∃ (i : Nat), i ≤ n ∧ iv = .int .i64 (i : Int) ∧ Hid (Below W.heap.size W wr ∧ ∀ k (hk : k < L.length), k < i → p L[k] = false)) (fun _ iv _ => n - (intOf iv).toNat)
  case atStart => exact ⟨0, Nat.zero_le _, rfl, hid ⟨Below.refl _ _, fun k _ h => absurd h (Nat.not_lt_zero _)⟩⟩
  case round =>
    obtain ⟨i, hi, rfl, HI⟩ := hrel
    have hwi : IntKind.i64.wrap ((i : Int) + 1) = (i : Int) + 1 := w64 (by omega) (by omega)
    by_cases hlt : i < n
    · have hil : i < L.length := by have := HL.out; omega
      have hltI : (i : Int) < (n : Int) := by omega
      have hbw := HB.out.trans (HI.out.1.mono hBW)
      obtain ⟨b, o, u0, u1, u2, u3, u4, hUA, hbB, hnd, c0, c1, c2, c3, c4⟩ := readsNd HR.out HV.out i hil
      have e0 := (hbw.cell (p := ⟨b, o + i * 5, none⟩) hbB).trans c0
      have e1 := (hbw.cell (p := ⟨b, o + i * 5 + 1, none⟩) hbB).trans c1
      have e2 := (hbw.cell (p := ⟨b, o + i * 5 + 2, none⟩) hbB).trans c2
      have e3 := (hbw.cell (p := ⟨b, o + i * 5 + 3, none⟩) hbB).trans c3
      have e4 := (hbw.cell (p := ⟨b, o + i * 5 + 4, none⟩) hbB).trans c4
      have hgi := HG.out i hil [u0, u1, u2, u3, u4] wr hnd HI.out.1
      obtain ⟨q, hq⟩ : ∃ q, p L[i] = q := ⟨_, rfl⟩
      rw [hq] at hgi
      have HQ := hid hq
      have HGI := hid hgi
      rw [hUA]
      clear hbw hUA hnd c0 c1 c2 c3 c4 hgi hq
      go_wp2_with fail
      refine HGI.out.mono ?_
      rintro _ W2 ⟨rfl, hb2⟩
      have HF := hid (HI.out.1.trans (hb2.mono HI.out.1.size))
      clear hb2 e0 e1 e2 e3 e4
      cases q with
      | true =>
        have HA := hid (findIdx_take p L i hil (fun k hk => HI.out.2 k (by omega) hk) HQ.out)
        go_wp2_with fail
        go_ret
        exact ⟨by rw [HA.out]; rfl, HF.out⟩
      | false =>
        go_wp2_with fail
        go_roundw
        case rel => exact ⟨i + 1, hlt, by go_num, hid ⟨HF.out, fun k hk hki => by
          rcases Nat.lt_or_ge k i with h1 | h1
          · exact HI.out.2 k hk h1
          · obtain rfl : k = i := by omega
            exact HQ.out⟩⟩
        case measure => simp only [intOf]; omega
    · have HA := hid (findIdx_none p L (fun k hk => HI.out.2 k hk (by have := HL.out; omega)))
      have hie : i = n := by omega
      subst hie
      clear hlt
      go_wp2_with fail
      go_ret
      exact ⟨by rw [HA.out]; rfl, HI.out.1⟩
theorem hasN_any (L : List Gr.Nd) (p : Gr.Nd → Bool) (g : Nat) (lb : Array Value) (eg : ∀ args w, (callFunc g args).run Tryz.prog w = .ok (.enter g args) w) (UA : Option Addr) (uc : Nat) (xs : List Value) (W : World) (hr : Reads w0 B 5 UA L.length xs) (hv : NdsR w0 B L xs) (hb : Below B w0 W) (hBW : B ≤ W.heap.size)
    (hg : ∀ i (hi : i < L.length) (cs : List Value) (W1 : World), NdR w0 B L[i] cs → Below W.heap.size W W1 → Calls Tryz.prog g (#[.agg cs.toArray] ++ lb) W1 fun e W2 => e = .returned (.bool (p L[i])) ∧ Below W1.heap.size W1 W2) (hLL : L.length ≤ 4398046511104) :
    Calls Tryz.prog 147 #[.slice UA L.length uc, .func (.func g) #[] lb] W fun e W' => e = .returned (.bool (L.any p)) ∧ Below W.heap.size W W' := by
  have H := hid (idxN_any L p g lb eg UA uc xs W hr hv hb hBW hg hLL)
  have HA := hid (any_find p L)
  clear hr hv hb hg
  generalize L.length = n at *
  generalize L.findIdx? p = a at H HA
  go_enter Tryz.func147, Tryz.ntmps147
  go_wp2_with fail
  go_at_call 173
  refine H.out.mono ?_
  rintro _ W2 ⟨rfl, hb2⟩
  cases a with
  | none =>
    unfold idxAns
    go_wp2_with fail
    go_ret
    exact ⟨by rw [HA.out]; rfl, hb2⟩
  | some k =>
    unfold idxAns
    have hi : decide ((0 : Int) ≤ (k : Int)) = true := decide_eq_true (by omega)
    go_wp2_with fail
    go_ret
    exact ⟨by rw [HA.out]; rfl, hb2⟩
theorem range_at {w : World} {B : Nat} {A : Option Addr} {l : List (Int × Int)} (h : Reads w B 2 A l.length (flat Gr.encR2 l)) (i : Nat) (hi : i < l.length) : ∃ b o, A = some ⟨b, o, none⟩ ∧ b < B ∧ w.cell? ⟨b, o + i * 2, none⟩ = some (.int .i32 l[i].1) ∧ w.cell? ⟨b, o + i * 2 + 1, none⟩ = some (.int .i32 l[i].2) := by
  obtain ⟨b, o, hA, hb, hc⟩ := h.2 (by omega)
  refine ⟨b, o, hA, hb, ?_, ?_⟩
  · exact hc (i * 2) _ (by have := flat_get Gr.encR2 2 (fun _ => rfl) l i hi 0 (by omega); rw [Nat.add_zero] at this; rw [this]; rfl)
  · exact hc (i * 2 + 1) _ (by rw [flat_get Gr.encR2 2 (fun _ => rfl) l i hi 1 (by omega)]; rfl)
set_option maxHeartbeats 4000000 in
theorem idxG_any (L : List (Int × Int)) (p : Int × Int → Bool) (g : Nat) (lb : Array Value) (eg : ∀ args w, (callFunc g args).run Tryz.prog w = .ok (.enter g args) w) (UA : Option Addr) (uc : Nat) (W : World) (hr : Reads w0 B 2 UA L.length (flat Gr.encR2 L)) (hb : Below B w0 W) (hBW : B ≤ W.heap.size)
    (hg : ∀ i (hi : i < L.length) (W1 : World), Below W.heap.size W W1 → Calls Tryz.prog g (#[.agg #[.int .i32 L[i].1, .int .i32 L[i].2]] ++ lb) W1 fun e W2 => e = .returned (.bool (p L[i])) ∧ Below W1.heap.size W1 W2) (hLL : L.length ≤ 35184372088832) :
    Calls Tryz.prog 177 #[.slice UA L.length uc, .func (.func g) #[] lb] W fun e W' => e = .returned (.int .i64 (idxAns (L.findIdx? p))) ∧ Below W.heap.size W W' := by
  have HR := hid hr
  have HB := hid hb
  have HG := hid hg
  obtain ⟨n, hn⟩ : ∃ n, L.length = n := ⟨_, rfl⟩
  have HL := hid hn
  rw [hn] at hLL ⊢
  clear hr hb hg hn
  go_enter Tryz.func177, Tryz.ntmps177
  go_wp2_with fail
  go_loopw [5, 8] (fun _ iv wr => ∃ (i : Nat), i ≤ n ∧ iv = .int .i64 (i : Int) ∧ Hid (Below W.heap.size W wr ∧ ∀ k (hk : k < L.length), k < i → p L[k] = false)) (fun _ iv _ => n - (intOf iv).toNat)
  case atStart => exact ⟨0, Nat.zero_le _, rfl, hid ⟨Below.refl _ _, fun k _ h => absurd h (Nat.not_lt_zero _)⟩⟩
  case round =>
    obtain ⟨i, hi, rfl, HI⟩ := hrel
    have hwi : IntKind.i64.wrap ((i : Int) + 1) = (i : Int) + 1 := w64 (by omega) (by omega)
    by_cases hlt : i < n
    · have hil : i < L.length := by have := HL.out; omega
      have hltI : (i : Int) < (n : Int) := by omega
      have hbw := HB.out.trans (HI.out.1.mono hBW)
      obtain ⟨b, o, hUA, hbB, c0, c1⟩ := range_at HR.out i hil
      have e0 := (hbw.cell (p := ⟨b, o + i * 2, none⟩) hbB).trans c0
      have e1 := (hbw.cell (p := ⟨b, o + i * 2 + 1, none⟩) hbB).trans c1
      have hgi := HG.out i hil wr HI.out.1
      generalize L[i].1 = r1 at e0 hgi
      generalize L[i].2 = r2 at e1 hgi
      obtain ⟨q, hq⟩ : ∃ q, p L[i] = q := ⟨_, rfl⟩
      rw [hq] at hgi
      have HQ := hid hq
      have HGI := hid hgi
      rw [hUA]
      clear hbw hUA c0 c1 hgi hq
      go_wp2_with fail
      refine HGI.out.mono ?_
      rintro _ W2 ⟨rfl, hb2⟩
      have HF := hid (HI.out.1.trans (hb2.mono HI.out.1.size))
      clear hb2 e0 e1
      cases q with
      | true =>
        have HA := hid (findIdx_take p L i hil (fun k hk => HI.out.2 k (by omega) hk) HQ.out)
        go_wp2_with fail
        go_ret
        exact ⟨by rw [HA.out]; rfl, HF.out⟩
      | false =>
        go_wp2_with fail
        go_roundw
        case rel => exact ⟨i + 1, hlt, by go_num, hid ⟨HF.out, fun k hk hki => by
          rcases Nat.lt_or_ge k i with h1 | h1
          · exact HI.out.2 k hk h1
          · obtain rfl : k = i := by omega
            exact HQ.out⟩⟩
        case measure => simp only [intOf]; omega
    · have HA := hid (findIdx_none p L (fun k hk => HI.out.2 k hk (by have := HL.out; omega)))
      have hie : i = n := by omega
      subst hie
      clear hlt
      go_wp2_with fail
      go_ret
      exact ⟨by rw [HA.out]; rfl, HI.out.1⟩
theorem hasG_any (L : List (Int × Int)) (p : Int × Int → Bool) (g : Nat) (lb : Array Value) (eg : ∀ args w, (callFunc g args).run Tryz.prog w = .ok (.enter g args) w) (UA : Option Addr) (uc : Nat) (W : World) (hr : Reads w0 B 2 UA L.length (flat Gr.encR2 L)) (hb : Below B w0 W) (hBW : B ≤ W.heap.size)
    (hg : ∀ i (hi : i < L.length) (W1 : World), Below W.heap.size W W1 → Calls Tryz.prog g (#[.agg #[.int .i32 L[i].1, .int .i32 L[i].2]] ++ lb) W1 fun e W2 => e = .returned (.bool (p L[i])) ∧ Below W1.heap.size W1 W2) (hLL : L.length ≤ 35184372088832) :
    Calls Tryz.prog 153 #[.slice UA L.length uc, .func (.func g) #[] lb] W fun e W' => e = .returned (.bool (L.any p)) ∧ Below W.heap.size W W' := by
  have H := hid (idxG_any L p g lb eg UA uc W hr hb hBW hg hLL)
  have HA := hid (any_find p L)
  clear hr hb hg
  generalize L.length = n at *
  generalize L.findIdx? p = a at H HA
  go_enter Tryz.func153, Tryz.ntmps153
  go_wp2_with fail
  go_at_call 177
  refine H.out.mono ?_
  rintro _ W2 ⟨rfl, hb2⟩
  cases a with
  | none =>
    unfold idxAns
    go_wp2_with fail
    go_ret
    exact ⟨by rw [HA.out]; rfl, hb2⟩
  | some k =>
    unfold idxAns
    have hi : decide ((0 : Int) ≤ (k : Int)) = true := decide_eq_true (by omega)
    go_wp2_with fail
    go_ret
    exact ⟨by rw [HA.out]; rfl, hb2⟩
end
end Go.Proofs.YtpbnfinmjnpkpaaGreatDoor
