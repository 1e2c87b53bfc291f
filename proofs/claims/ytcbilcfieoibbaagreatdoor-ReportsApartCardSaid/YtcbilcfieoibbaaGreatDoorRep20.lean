/-
  What came in, opened: two lists of names, tokens.
-/
import Derived.Test.YtcbilcfieoibbaaGreatDoorRep15
namespace Go.Proofs.YtcbilcfieoibbaaGreatDoor
open Go.ChangeShapes Go.WideShapes Go.Deep Go.RowKit
set_option maxRecDepth 100000
theorem okWide_arr {P : Program} {w : World} {r : Reach} {base : Nat} {t e : TypeId} {n : Nat} {v : Value} (ht : P.underlying t = some (.array n e)) (h : Value.okWide P w r base t v) : ∃ cs, v = .agg cs ∧ cs.size = P.cellsOf t := by
  simp only [Value.okWide, ht] at h
  obtain ⟨cs, h1, h2, _⟩ := h
  exact ⟨cs, h1, h2⟩
theorem Fits.array {H : Type} {t e : TypeId} {n : Nat} {parts : List (DataW H)} (hu : Tryz.prog.underlying t = some (.array n e)) (h : Fits (.agg parts) t) : ∀ d ∈ parts, Fits d e := by
  unfold Fits at h
  simp only [DataW.weights, hu] at h
  intro d hd
  unfold Fits
  rw [List.all_eq_true] at h ⊢
  intro n hn
  exact h n (weightsAll_mem hd n hn)
theorem flat_of {α : Type} (enc : α → List Value) (size : Nat) : ∀ (l : List α) (vs : List Value), vs.length = l.length * size → (∀ i (hi : i < l.length), (vs.drop (i * size)).take size = enc l[i]) → vs = flat enc l
  | [], vs, hl, _ => by
    have : vs = [] := List.eq_nil_of_length_eq_zero (by simpa using hl)
    rw [this, flat_nil]
  | x :: r, vs, hl, h => by
    have h0 := h 0 (by simp)
    rw [Nat.zero_mul, List.drop_zero] at h0
    change vs.take size = enc x at h0
    have h1 : vs.drop size = flat enc r := flat_of enc size r (vs.drop size) (by rw [List.length_drop, hl, List.length_cons, Nat.succ_mul]; omega) (fun i hi => by
      have := h (i + 1) (by simpa using hi)
      rw [Nat.succ_mul, Nat.add_comm] at this
      rw [List.drop_drop]
      exact this)
    rw [flat_cons, ← h0, ← h1, List.take_append_drop]
theorem flat_strs : ∀ l : List Rp.By, flat (fun x : List UInt8 => [Value.string ⟨x.toArray⟩]) l = l.map fun x => Value.string ⟨x.toArray⟩
  | [] => rfl
  | x :: r => by rw [flat_cons, flat_strs r]; rfl
/-- a list of texts -/
theorem open_SS {H : Type} {enc : TypeId × Value → H} {W : World} {spare : Nat → Bool} {held : Bool} {fuel : Nat} {cs : List Value} {x : DataW H × List MemPlace}
    (h : DataW.trod enc Tryz.prog W 0 spare held fuel 41 cs = some x) (hfit : Fits x.1 41) :
    ∃ (l : List Rp.By) (A : Option Addr) (cap : Nat), cs = [.slice A l.length cap] ∧ SR W W.heap.size A l ∧ l.length ≤ 8796093022207 ∧ ∀ s ∈ l, s.length ≤ 140737488351232 := by
  have hb : Tryz.prog.bytesOf 9 = 16 := by kernel_rfl
  obtain ⟨l, A, cap, e, _, hby, vs, hr, hel⟩ := open_list 41 9 1 Tryz.underlying41 (by kernel_rfl) (by decide) (fun cs (n : List UInt8) => cs = [.string ⟨n.toArray⟩] ∧ n.length ≤ 140737488351232)
    (fun fuel cs x _ ht hf => open_str 9 Tryz.underlying9 ht hf) h hfit
  rw [hb] at hby
  have hv : vs = l.map fun x => Value.string ⟨x.toArray⟩ := by
    have := flat_of (fun x : List UInt8 => [Value.string ⟨x.toArray⟩]) 1 l vs hr.1 (fun i hi => (hel i hi).1)
    rw [this]
    exact flat_strs l
  refine ⟨l, A, cap, e, ?_, ?_, fun s hs => ?_⟩
  · unfold SR; rw [← hv]; exact hr
  · unfold reachBytes at hby; omega
  · obtain ⟨i, hi, rfl⟩ := List.getElem_of_mem hs
    exact (hel i hi).2
/-- two lists of names -/
theorem open_N2 {H : Type} {enc : TypeId × Value → H} {W : World} {spare : Nat → Bool} {held : Bool} {fuel : Nat} {cs : List Value} {x : DataW H × List MemPlace} (hcl : cs.length = 2)
    (h : DataW.trod enc Tryz.prog W 0 spare held fuel 42 cs = some x) (hfit : Fits x.1 42) :
    ∃ (n m : List Rp.By) (RA TA : Option Addr) (rc tc : Nat), cs = [.slice RA n.length rc, .slice TA m.length tc] ∧ SR W W.heap.size RA n ∧ SR W W.heap.size TA m ∧ n.length ≤ 8796093022207 ∧ m.length ≤ 8796093022207 ∧ (∀ s ∈ n, s.length ≤ 140737488351232) ∧ ∀ s ∈ m, s.length ≤ 140737488351232 := by
  obtain ⟨xs, k, _, hx, _, hxl, hf⟩ := DataW.trod_array Tryz.underlying42 h
  match cs, hcl with
  | [c0, c1], _ =>
    have h0 := hf 0 (by decide)
    have h1 := hf 1 (by decide)
    rw [show Tryz.prog.cellsOf 41 = 1 by kernel_rfl] at h0 h1
    change DataW.trod enc Tryz.prog W 0 spare held k 41 [c0] = xs[0]? at h0
    change DataW.trod enc Tryz.prog W 0 spare held k 41 [c1] = xs[1]? at h1
    match xs, hxl with
    | [y0, y1], _ =>
      have hff : Fits (.agg ([y0, y1].map (·.1))) 42 := by rw [hx] at hfit; exact hfit
      have hfa := Fits.array Tryz.underlying42 hff
      obtain ⟨n, RA, rc, e0, s0, l0, b0⟩ := open_SS h0 (hfa y0.1 (by simp))
      obtain ⟨m, TA, tc, e1, s1, l1, b1⟩ := open_SS h1 (hfa y1.1 (by simp))
      injection e0 with e0 _
      injection e1 with e1 _
      subst e0 e1
      exact ⟨n, m, RA, TA, rc, tc, rfl, s0, s1, l0, l1, b0, b1⟩
/-- tokens -/
theorem open_Tks {H : Type} {enc : TypeId × Value → H} {W : World} {spare : Nat → Bool} {held : Bool} {fuel : Nat} {cs : List Value} {x : DataW H × List MemPlace}
    (h : DataW.trod enc Tryz.prog W 0 spare held fuel 46 cs = some x) (hfit : Fits x.1 46) :
    ∃ (l : List Tk) (A : Option Addr) (cap : Nat), cs = [.slice A l.length cap] ∧ Reads W W.heap.size 3 A l.length (flat encTk l) ∧ l.length ≤ 4398046511103 ∧ ∀ s ∈ txs l, s.length ≤ 140737488351232 := by
  have hb : Tryz.prog.bytesOf 48 = 32 := by kernel_rfl
  obtain ⟨l, A, cap, e, _, hby, vs, hr, hel⟩ := open_list 46 48 3 Tryz.underlying46 (by kernel_rfl) (by decide) (fun cs (n : Tk) => cs = encTk n ∧ n.2.1.length ≤ 140737488351232)
    (fun fuel cs x hcl ht hf => by
      obtain ⟨k, _, hg⟩ := sp_at Tryz.underlying48 ht hf
      match cs, hcl with
      | [c0, c1, c2], _ =>
        obtain ⟨y0, g0, f0⟩ := hg 0 _ rfl
        change DataW.trod enc Tryz.prog W 0 spare held k 3 (([c0, c1, c2].drop 0).take (Tryz.prog.cellsOf 3)) = some y0 at g0
        rw [show Tryz.prog.cellsOf 3 = 1 by kernel_rfl] at g0
        change DataW.trod enc Tryz.prog W 0 spare held k 3 [c0] = some y0 at g0
        obtain ⟨y1, g1, f1⟩ := hg 1 _ rfl
        change DataW.trod enc Tryz.prog W 0 spare held k 9 (([c0, c1, c2].drop 1).take (Tryz.prog.cellsOf 9)) = some y1 at g1
        rw [show Tryz.prog.cellsOf 9 = 1 by kernel_rfl] at g1
        change DataW.trod enc Tryz.prog W 0 spare held k 9 [c1] = some y1 at g1
        obtain ⟨y2, g2, f2⟩ := hg 2 _ rfl
        change DataW.trod enc Tryz.prog W 0 spare held k 3 (([c0, c1, c2].drop 2).take (Tryz.prog.cellsOf 3)) = some y2 at g2
        rw [show Tryz.prog.cellsOf 3 = 1 by kernel_rfl] at g2
        change DataW.trod enc Tryz.prog W 0 spare held k 3 [c2] = some y2 at g2
        obtain ⟨a, e0, _⟩ := open_i64 3 Tryz.underlying3 g0
        obtain ⟨s, e1, o1⟩ := open_str 9 Tryz.underlying9 g1 f1
        obtain ⟨b, e2, _⟩ := open_i64 3 Tryz.underlying3 g2
        injection e0 with e0 _
        injection e1 with e1 _
        injection e2 with e2 _
        subst e0 e1 e2
        exact ⟨(a, s, b), rfl, o1⟩) h hfit
  rw [hb] at hby
  refine ⟨l, A, cap, e, ?_, ?_, fun s hs => ?_⟩
  · have hv := flat_of encTk 3 l vs hr.1 (fun i hi => (hel i hi).1)
    rw [← hv]; exact hr
  · unfold reachBytes at hby; omega
  · obtain ⟨t, ht, rfl⟩ := List.mem_map.1 hs
    obtain ⟨i, hi, rfl⟩ := List.getElem_of_mem ht
    exact (hel i hi).2
end Go.Proofs.YtcbilcfieoibbaaGreatDoor
