/-
  What came in, opened: nets, arrays of numbers. Printed by gen_cfop.py out of Opn.
-/
import Derived.Deep.Slices
import Derived.Deep.Fields
import Derived.ChangeSame
import Derived.ChangeOld
import Derived.OpenShut
import Derived.SizedLaws
import Derived.Test.YtnpcjbdolmmaeaaGreatDoorL18
namespace Go.Proofs.YtnpcjbdolmmaeaaGreatDoor
open Go.ChangeShapes Go.WideShapes Go.Deep Go.RowKit
set_option maxRecDepth 100000
theorem okWide_arr {P : Program} {w : World} {r : Reach} {base : Nat} {t e : TypeId} {n : Nat} {v : Value} (ht : P.underlying t = some (.array n e)) (h : Value.okWide P w r base t v) : ∃ cs, v = .agg cs ∧ cs.size = P.cellsOf t := by
  simp only [Value.okWide, ht] at h
  obtain ⟨cs, h1, h2, _⟩ := h
  exact ⟨cs, h1, h2⟩
theorem choose_list {α : Type} (n : Nat) (Q : Nat → α → Prop) (h : ∀ i, i < n → ∃ x, Q i x) : ∃ l : List α, l.length = n ∧ ∀ i (hi : i < l.length), Q i l[i] := by
  induction n with
  | zero => exact ⟨[], rfl, fun i hi => absurd hi (by simp)⟩
  | succ n ih =>
    obtain ⟨l, hl, hq⟩ := ih (fun i hi => h i (by omega))
    obtain ⟨x, hx⟩ := h n (by omega)
    refine ⟨l ++ [x], by simp [hl], fun i hi => ?_⟩
    by_cases e : i < l.length
    · rw [List.getElem_append_left e]; exact hq i e
    · have : i = n := by simp at hi; omega
      subst this
      rw [List.getElem_append_right (by omega)]
      simpa [hl] using hx
def Fits {H : Type} (d : DataW H) (t : TypeId) : Prop := (d.weights Tryz.prog t).all (· ≤ reachBytes) = true
theorem weightsAll_mem {H : Type} {P : Program} {e : TypeId} {ds : List (DataW H)} {d : DataW H} (h : d ∈ ds) : ∀ n ∈ d.weights P e, n ∈ DataW.weightsAll P e ds := by
  induction ds with
  | nil => cases h
  | cons x r ih =>
    intro n hn
    unfold DataW.weightsAll
    rcases List.mem_cons.1 h with rfl | h
    · exact List.mem_append_left _ hn
    · exact List.mem_append_right _ (ih h n hn)
theorem Fits.slice {H : Type} {t e : TypeId} {els sp : List (DataW H)} (hu : Tryz.prog.underlying t = some (.slice e)) (h : Fits (.slice els sp) t) : (els.length + sp.length) * Tryz.prog.bytesOf e ≤ reachBytes ∧ ∀ d ∈ els, Fits d e := by
  unfold Fits at h
  simp only [DataW.weights, hu, List.all_cons, Bool.and_eq_true, List.all_append, decide_eq_true_eq] at h
  refine ⟨h.1, fun d hd => ?_⟩
  unfold Fits
  rw [List.all_eq_true]
  intro n hn
  exact List.all_eq_true.1 h.2.1 n (weightsAll_mem hd n hn)
theorem Fits.struct {H : Type} {t : TypeId} {fs : Array Field} {parts : List (DataW H)} (hu : Tryz.prog.underlying t = some (.struct fs)) (h : Fits (.agg parts) t) (i : Nat) (f : Field) (d : DataW H) (hf : fs[i]? = some f) (hd : parts[i]? = some d) : Fits d f.type := by
  unfold Fits at h ⊢
  simp only [DataW.weights, hu] at h
  rw [List.all_eq_true]
  intro n hn
  exact List.all_eq_true.1 h n (DataW.weights_mem_each (j := i) (by simp [hf]) hd n hn)
theorem fits_of_each {H : Type} {ts : List TypeId} {ds : List (DataW H)} (h : (DataW.weightsEach Tryz.prog ts ds).all (· ≤ reachBytes) = true) {j : Nat} {t : TypeId} {d : DataW H} (ht : ts[j]? = some t) (hd : ds[j]? = some d) : Fits d t := by
  unfold Fits
  rw [List.all_eq_true]
  intro n hn
  exact List.all_eq_true.1 h n (DataW.weights_mem_each ht hd n hn)
theorem open_list {H α : Type} {enc : TypeId × Value → H} {W : World} {spare : Nat → Bool} {held : Bool} {fuel : Nat} {cs0 : List Value} {x : DataW H × List MemPlace} (t e : TypeId) (size : Nat)
    (hT : Tryz.prog.underlying t = some (.slice e)) (hC : Tryz.prog.cellsOf e = size) (hs : 0 < size) (El : List Value → α → Prop)
    (per : ∀ (fuel : Nat) (cs : List Value) (x : DataW H × List MemPlace), cs.length = size → DataW.trod enc Tryz.prog W 0 spare held fuel e cs = some x → Fits x.1 e → ∃ a, El cs a)
    (h : DataW.trod enc Tryz.prog W 0 spare held fuel t cs0 = some x) (hfit : Fits x.1 t) :
    ∃ (l : List α) (A : Option Addr) (cap : Nat), cs0 = [.slice A l.length cap] ∧ (l.length ≤ cap ∧ (A = none → cap = 0)) ∧ l.length ≤ maxLen ∧ l.length * Tryz.prog.bytesOf e ≤ reachBytes ∧ ∃ vs : List Value, Reads W W.heap.size size A l.length vs ∧ ∀ i (hi : i < l.length), El ((vs.drop (i * size)).take size) l[i] := by
  rcases open_slice hT h with ⟨hcs, _⟩ | ⟨a, len, cap, m, n, D, Pl, hcs, hb, hl, hm, hmm, hx, hi⟩
  · exact ⟨[], none, 0, hcs, ⟨by simp, fun _ => rfl⟩, by simp, by simp, [], ⟨by simp, fun h => absurd h (by simp)⟩, fun i hi => absurd hi (by simp)⟩
  · subst hcs hx
    rw [hC] at hi
    have hlm : len ≤ m := by rw [hmm]; split <;> omega
    have hsz := Fits.slice hT hfit
    have hall : ∀ i, i < len → ∃ y : α × List Value, El y.2 y.1 ∧ y.2.length = size ∧ ∀ j u, y.2[j]? = some u → W.cell? ((a.add (i * size)).add j) = some u := by
      intro i hil
      obtain ⟨cs', hc, ht⟩ := hi i (by omega)
      obtain ⟨_, hcl, hat⟩ := World.cells?_some hc
      have hfi : Fits (D i) e := hsz.2 _ (by simp only [List.mem_map, List.mem_range]; exact ⟨i, hil, rfl⟩)
      obtain ⟨b, hb⟩ := per n cs' _ hcl ht hfi
      refine ⟨(b, cs'), hb, hcl, fun j u hu => ?_⟩
      have hj : j < cs'.length := by
        rcases Nat.lt_or_ge j cs'.length with h | h
        · exact h
        · rw [List.getElem?_eq_none h] at hu; cases hu
      rw [hat j (by omega), hu]
    obtain ⟨l, hll, hq⟩ := choose_list len _ hall
    have hlen : ∀ z : List (α × List Value), (∀ y ∈ z, y.2.length = size) → (flat (fun y : α × List Value => y.2) z).length = z.length * size := by
      intro z
      induction z with
      | nil => intro _; simp [flat]
      | cons y r ih =>
        intro hz
        rw [flat_cons, List.length_append, hz y (by simp), ih (fun y hy => hz y (by simp [hy])), List.length_cons, Nat.succ_mul, Nat.add_comm]
    have hget : ∀ (z : List (α × List Value)), (∀ y ∈ z, y.2.length = size) → ∀ k (hk : k < z.length), ((flat (fun y : α × List Value => y.2) z).drop (k * size)).take size = z[k].2 := by
      intro z
      induction z with
      | nil => intro _ k hk; exact absurd hk (by simp)
      | cons y r ih =>
        intro hz k hk
        rw [flat_cons]
        have hy := hz y (by simp)
        cases k with
        | zero => rw [Nat.zero_mul, List.drop_zero, ← hy, List.take_left' rfl]; rfl
        | succ k =>
          have : (k + 1) * size = y.2.length + k * size := by rw [Nat.succ_mul, hy, Nat.add_comm]
          rw [this, ← List.drop_drop, List.drop_left' rfl]
          exact ih (fun y hy => hz y (by simp [hy])) k (by simpa using hk)
    have hsz2 : ∀ y ∈ l, y.2.length = size := by
      intro y hy
      obtain ⟨i, hi', rfl⟩ := List.getElem_of_mem hy
      exact (hq i hi').2.1
    have hbytes : len * Tryz.prog.bytesOf e ≤ reachBytes := by
      have := hsz.1
      simp only [List.length_map, List.length_range] at this
      exact Nat.le_trans (Nat.mul_le_mul_right _ (by omega)) this
    refine ⟨l.map (·.1), some a, cap, by simp [hll], ⟨by simp [hll]; exact hl, fun h => (by cases h)⟩, by simp [hll]; omega, by simpa [hll] using hbytes, flat (fun y : α × List Value => y.2) l, ⟨by rw [hlen l hsz2]; simp, fun hn => ?_⟩, fun i hi' => ?_⟩
    · have hn : 0 < len := by simpa [hll] using hn
      obtain ⟨b, off, spot⟩ := a
      have h0 := (hq 0 (by omega)).2.2 0
      have hz0 : ∃ u, (l[0]'(by omega)).2[0]? = some u := ⟨_, List.getElem?_eq_getElem (by rw [(hq 0 (by omega)).2.1]; exact hs)⟩
      obtain ⟨u0, hu0⟩ := hz0
      have hz := h0 u0 hu0
      have hspot : spot = none := by simpa [Addr.add] using World.cell?_spot hz
      subst hspot
      have hadd : ∀ k, (⟨b, off, none⟩ : Addr).add k = ⟨b, off + k, none⟩ := fun k => by
        unfold Addr.add; by_cases h : k = 0 <;> simp [h]
      have hadd2 : ∀ o k, (⟨b, o, none⟩ : Addr).add k = ⟨b, o + k, none⟩ := fun o k => by
        unfold Addr.add; by_cases h : k = 0 <;> simp [h]
      have hblk : b < W.heap.size := by
        simp only [hadd, hadd2] at hz
        rcases Nat.lt_or_ge b W.heap.size with h | h
        · exact h
        · simp only [World.cell?, Array.getElem?_eq_none h] at hz; cases hz
      refine ⟨b, off, rfl, hblk, fun j u hu => ?_⟩
      have hj : j < l.length * size := by
        rcases Nat.lt_or_ge j (l.length * size) with h | h
        · exact h
        · rw [List.getElem?_eq_none (by rw [hlen l hsz2]; exact h)] at hu; cases hu
      have hdm : j / size < l.length := (Nat.div_lt_iff_lt_mul hs).2 hj
      have hjm : j % size < size := Nat.mod_lt _ hs
      have hje : j / size * size + j % size = j := by rw [Nat.mul_comm]; exact Nat.div_add_mod j size
      have hg := hget l hsz2 (j / size) hdm
      have hu2 : (l[j / size]'hdm).2[j % size]? = some u := by
        rw [← hg, List.getElem?_take, if_pos hjm, List.getElem?_drop, hje]; exact hu
      have := (hq (j / size) hdm).2.2 _ _ hu2
      simp only [hadd, hadd2] at this
      rw [Nat.add_assoc, hje] at this
      exact this
    · have hil : i < l.length := by simpa using hi'
      rw [hget l hsz2 i hil]
      simpa using (hq i hil).1
theorem open_i64 {H : Type} {enc : TypeId × Value → H} {W : World} {spare : Nat → Bool} {held : Bool} {fuel : Nat} {cs : List Value} {x : DataW H × List MemPlace} (t : TypeId) (hT : Tryz.prog.underlying t = some (.int .i64))
    (h : DataW.trod enc Tryz.prog W 0 spare held fuel t cs = some x) : ∃ n : Int, cs = [.int .i64 n] ∧ -9223372036854775808 ≤ n ∧ n ≤ 9223372036854775807 := by
  obtain ⟨n, e, _, w⟩ := DataW.trod_int hT h
  exact ⟨n, e, by simp [Lit.wf, IntKind.min, IntKind.max, IntKind.signed, IntKind.bits] at w; exact w⟩
theorem open_u8 {H : Type} {enc : TypeId × Value → H} {W : World} {spare : Nat → Bool} {held : Bool} {fuel : Nat} {cs : List Value} {x : DataW H × List MemPlace} (t : TypeId) (hT : Tryz.prog.underlying t = some (.int .u8))
    (h : DataW.trod enc Tryz.prog W 0 spare held fuel t cs = some x) : ∃ n : Int, cs = [.int .u8 n] ∧ 0 ≤ n ∧ n ≤ 255 := by
  obtain ⟨n, e, _, w⟩ := DataW.trod_int hT h
  exact ⟨n, e, by simp [Lit.wf, IntKind.min, IntKind.max, IntKind.signed, IntKind.bits] at w; exact w⟩
theorem open_Z {H : Type} {enc : TypeId × Value → H} {W : World} {spare : Nat → Bool} {held : Bool} {fuel : Nat} {cs0 : List Value} {x : DataW H × List MemPlace}
    (h : DataW.trod enc Tryz.prog W 0 spare held fuel 23 cs0 = some x) (hfit : Fits x.1 23) :
    ∃ (l : List Int) (A : Option Addr) (cap : Nat), cs0 = [.slice A l.length cap] ∧ (l.length ≤ cap ∧ (A = none → cap = 0)) ∧ l.length * 8 ≤ reachBytes ∧ Reads W W.heap.size 1 A l.length (l.map (Value.int .i64)) ∧ ∀ n ∈ l, -9223372036854775808 ≤ n ∧ n ≤ 9223372036854775807 := by
  have hb : Tryz.prog.bytesOf 3 = 8 := by kernel_rfl
  obtain ⟨l, A, cap, e, hca, _, hby, vs, hr, hel⟩ := open_list 23 3 1 Tryz.underlying23 (by kernel_rfl) (by decide) (fun cs (n : Int) => cs = [.int .i64 n] ∧ -9223372036854775808 ≤ n ∧ n ≤ 9223372036854775807)
    (fun fuel cs x _ ht _ => open_i64 3 Tryz.underlying3 ht) h hfit
  rw [hb] at hby
  refine ⟨l, A, cap, e, hca, hby, ?_, fun n hn => ?_⟩
  · have : vs = l.map (Value.int .i64) := by
      refine List.ext_getElem? fun i => ?_
      have hvl := hr.1
      by_cases hi : i < l.length
      · have h1 := (hel i hi).1
        rw [Nat.mul_one] at h1
        have h2 : ((vs.drop i).take 1)[0]? = some (.int .i64 l[i]) := by rw [h1]; rfl
        rw [List.getElem?_take, if_pos (by decide), List.getElem?_drop, Nat.add_zero] at h2
        rw [h2]; simp [List.getElem?_eq_getElem hi]
      · rw [List.getElem?_eq_none (by omega), List.getElem?_eq_none (by simp; omega)]
    rw [← this]; exact hr
  · obtain ⟨i, hi, rfl⟩ := List.getElem_of_mem hn
    exact (hel i hi).2
theorem sp_edge {H : Type} {enc : TypeId × Value → H} {W : World} {spare : Nat → Bool} {held : Bool} {fuel : Nat} {cs : List Value} {x : DataW H × List MemPlace} (hcl : cs.length = 3)
    (ht : DataW.trod enc Tryz.prog W 0 spare held fuel 86 cs = some x) (hfit : Fits x.1 86) : ∃ (n' : Nat) (u0 u1 u2 : Value) (y0 y1 y2 : DataW H × List MemPlace), cs = [u0, u1, u2] ∧ (DataW.trod enc Tryz.prog W 0 spare held n' 84 [u0] = some y0 ∧ Fits y0.1 84) ∧ (DataW.trod enc Tryz.prog W 0 spare held n' 3 [u1] = some y1 ∧ Fits y1.1 3) ∧ (DataW.trod enc Tryz.prog W 0 spare held n' 3 [u2] = some y2 ∧ Fits y2.1 3) := by
  obtain ⟨ys, n', hn', hy, hlen, hyl, hf⟩ := DataW.trod_struct Tryz.underlying86 ht
  match cs, hcl with
  | [u0, u1, u2], _ =>
    have hyl4 : ys.length = 3 := hyl
    subst hy
    have h0 := hf 0 _ rfl
    change DataW.trod enc Tryz.prog W 0 spare held n' 84 (([u0, u1, u2].drop 0).take (Tryz.prog.cellsOf 84)) = _ at h0
    rw [show Tryz.prog.cellsOf 84 = 1 by kernel_rfl] at h0
    change DataW.trod enc Tryz.prog W 0 spare held n' 84 [u0] = _ at h0
    have q0 : ys[0]? = some (ys[0]'(by omega)) := List.getElem?_eq_getElem _
    have f0 : Fits (ys[0]'(by omega)).1 84 := Fits.struct Tryz.underlying86 hfit 0 _ _ rfl (by rw [List.getElem?_map, q0]; rfl)
    have h1 := hf 1 _ rfl
    change DataW.trod enc Tryz.prog W 0 spare held n' 3 (([u0, u1, u2].drop 1).take (Tryz.prog.cellsOf 3)) = _ at h1
    rw [show Tryz.prog.cellsOf 3 = 1 by kernel_rfl] at h1
    change DataW.trod enc Tryz.prog W 0 spare held n' 3 [u1] = _ at h1
    have q1 : ys[1]? = some (ys[1]'(by omega)) := List.getElem?_eq_getElem _
    have f1 : Fits (ys[1]'(by omega)).1 3 := Fits.struct Tryz.underlying86 hfit 1 _ _ rfl (by rw [List.getElem?_map, q1]; rfl)
    have h2 := hf 2 _ rfl
    change DataW.trod enc Tryz.prog W 0 spare held n' 3 (([u0, u1, u2].drop 2).take (Tryz.prog.cellsOf 3)) = _ at h2
    rw [show Tryz.prog.cellsOf 3 = 1 by kernel_rfl] at h2
    change DataW.trod enc Tryz.prog W 0 spare held n' 3 [u2] = _ at h2
    have q2 : ys[2]? = some (ys[2]'(by omega)) := List.getElem?_eq_getElem _
    have f2 : Fits (ys[2]'(by omega)).1 3 := Fits.struct Tryz.underlying86 hfit 2 _ _ rfl (by rw [List.getElem?_map, q2]; rfl)
    exact ⟨n', u0, u1, u2, _, _, _, rfl, ⟨h0.trans q0, f0⟩, ⟨h1.trans q1, f1⟩, ⟨h2.trans q2, f2⟩⟩
theorem sp_state {H : Type} {enc : TypeId × Value → H} {W : World} {spare : Nat → Bool} {held : Bool} {fuel : Nat} {cs : List Value} {x : DataW H × List MemPlace} (hcl : cs.length = 3)
    (ht : DataW.trod enc Tryz.prog W 0 spare held fuel 83 cs = some x) (hfit : Fits x.1 83) : ∃ (n' : Nat) (u0 u1 u2 : Value) (y0 y1 y2 : DataW H × List MemPlace), cs = [u0, u1, u2] ∧ (DataW.trod enc Tryz.prog W 0 spare held n' 3 [u0] = some y0 ∧ Fits y0.1 3) ∧ (DataW.trod enc Tryz.prog W 0 spare held n' 81 [u1] = some y1 ∧ Fits y1.1 81) ∧ (DataW.trod enc Tryz.prog W 0 spare held n' 23 [u2] = some y2 ∧ Fits y2.1 23) := by
  obtain ⟨ys, n', hn', hy, hlen, hyl, hf⟩ := DataW.trod_struct Tryz.underlying83 ht
  match cs, hcl with
  | [u0, u1, u2], _ =>
    have hyl4 : ys.length = 3 := hyl
    subst hy
    have h0 := hf 0 _ rfl
    change DataW.trod enc Tryz.prog W 0 spare held n' 3 (([u0, u1, u2].drop 0).take (Tryz.prog.cellsOf 3)) = _ at h0
    rw [show Tryz.prog.cellsOf 3 = 1 by kernel_rfl] at h0
    change DataW.trod enc Tryz.prog W 0 spare held n' 3 [u0] = _ at h0
    have q0 : ys[0]? = some (ys[0]'(by omega)) := List.getElem?_eq_getElem _
    have f0 : Fits (ys[0]'(by omega)).1 3 := Fits.struct Tryz.underlying83 hfit 0 _ _ rfl (by rw [List.getElem?_map, q0]; rfl)
    have h1 := hf 1 _ rfl
    change DataW.trod enc Tryz.prog W 0 spare held n' 81 (([u0, u1, u2].drop 1).take (Tryz.prog.cellsOf 81)) = _ at h1
    rw [show Tryz.prog.cellsOf 81 = 1 by kernel_rfl] at h1
    change DataW.trod enc Tryz.prog W 0 spare held n' 81 [u1] = _ at h1
    have q1 : ys[1]? = some (ys[1]'(by omega)) := List.getElem?_eq_getElem _
    have f1 : Fits (ys[1]'(by omega)).1 81 := Fits.struct Tryz.underlying83 hfit 1 _ _ rfl (by rw [List.getElem?_map, q1]; rfl)
    have h2 := hf 2 _ rfl
    change DataW.trod enc Tryz.prog W 0 spare held n' 23 (([u0, u1, u2].drop 2).take (Tryz.prog.cellsOf 23)) = _ at h2
    rw [show Tryz.prog.cellsOf 23 = 1 by kernel_rfl] at h2
    change DataW.trod enc Tryz.prog W 0 spare held n' 23 [u2] = _ at h2
    have q2 : ys[2]? = some (ys[2]'(by omega)) := List.getElem?_eq_getElem _
    have f2 : Fits (ys[2]'(by omega)).1 23 := Fits.struct Tryz.underlying83 hfit 2 _ _ rfl (by rw [List.getElem?_map, q2]; rfl)
    exact ⟨n', u0, u1, u2, _, _, _, rfl, ⟨h0.trans q0, f0⟩, ⟨h1.trans q1, f1⟩, ⟨h2.trans q2, f2⟩⟩
theorem sp_net {H : Type} {enc : TypeId × Value → H} {W : World} {spare : Nat → Bool} {held : Bool} {fuel : Nat} {cs : List Value} {x : DataW H × List MemPlace} (hcl : cs.length = 5)
    (ht : DataW.trod enc Tryz.prog W 0 spare held fuel 25 cs = some x) (hfit : Fits x.1 25) : ∃ (n' : Nat) (u0 u1 u2 u3 u4 : Value) (y0 y1 y2 y3 y4 : DataW H × List MemPlace), cs = [u0, u1, u2, u3, u4] ∧ (DataW.trod enc Tryz.prog W 0 spare held n' 22 [u0] = some y0 ∧ Fits y0.1 22) ∧ (DataW.trod enc Tryz.prog W 0 spare held n' 23 [u1] = some y1 ∧ Fits y1.1 23) ∧ (DataW.trod enc Tryz.prog W 0 spare held n' 23 [u2] = some y2 ∧ Fits y2.1 23) ∧ (DataW.trod enc Tryz.prog W 0 spare held n' 23 [u3] = some y3 ∧ Fits y3.1 23) ∧ (DataW.trod enc Tryz.prog W 0 spare held n' 23 [u4] = some y4 ∧ Fits y4.1 23) := by
  obtain ⟨ys, n', hn', hy, hlen, hyl, hf⟩ := DataW.trod_struct Tryz.underlying25 ht
  match cs, hcl with
  | [u0, u1, u2, u3, u4], _ =>
    have hyl4 : ys.length = 5 := hyl
    subst hy
    have h0 := hf 0 _ rfl
    change DataW.trod enc Tryz.prog W 0 spare held n' 22 (([u0, u1, u2, u3, u4].drop 0).take (Tryz.prog.cellsOf 22)) = _ at h0
    rw [show Tryz.prog.cellsOf 22 = 1 by kernel_rfl] at h0
    change DataW.trod enc Tryz.prog W 0 spare held n' 22 [u0] = _ at h0
    have q0 : ys[0]? = some (ys[0]'(by omega)) := List.getElem?_eq_getElem _
    have f0 : Fits (ys[0]'(by omega)).1 22 := Fits.struct Tryz.underlying25 hfit 0 _ _ rfl (by rw [List.getElem?_map, q0]; rfl)
    have h1 := hf 1 _ rfl
    change DataW.trod enc Tryz.prog W 0 spare held n' 23 (([u0, u1, u2, u3, u4].drop 1).take (Tryz.prog.cellsOf 23)) = _ at h1
    rw [show Tryz.prog.cellsOf 23 = 1 by kernel_rfl] at h1
    change DataW.trod enc Tryz.prog W 0 spare held n' 23 [u1] = _ at h1
    have q1 : ys[1]? = some (ys[1]'(by omega)) := List.getElem?_eq_getElem _
    have f1 : Fits (ys[1]'(by omega)).1 23 := Fits.struct Tryz.underlying25 hfit 1 _ _ rfl (by rw [List.getElem?_map, q1]; rfl)
    have h2 := hf 2 _ rfl
    change DataW.trod enc Tryz.prog W 0 spare held n' 23 (([u0, u1, u2, u3, u4].drop 2).take (Tryz.prog.cellsOf 23)) = _ at h2
    rw [show Tryz.prog.cellsOf 23 = 1 by kernel_rfl] at h2
    change DataW.trod enc Tryz.prog W 0 spare held n' 23 [u2] = _ at h2
    have q2 : ys[2]? = some (ys[2]'(by omega)) := List.getElem?_eq_getElem _
    have f2 : Fits (ys[2]'(by omega)).1 23 := Fits.struct Tryz.underlying25 hfit 2 _ _ rfl (by rw [List.getElem?_map, q2]; rfl)
    have h3 := hf 3 _ rfl
    change DataW.trod enc Tryz.prog W 0 spare held n' 23 (([u0, u1, u2, u3, u4].drop 3).take (Tryz.prog.cellsOf 23)) = _ at h3
    rw [show Tryz.prog.cellsOf 23 = 1 by kernel_rfl] at h3
    change DataW.trod enc Tryz.prog W 0 spare held n' 23 [u3] = _ at h3
    have q3 : ys[3]? = some (ys[3]'(by omega)) := List.getElem?_eq_getElem _
    have f3 : Fits (ys[3]'(by omega)).1 23 := Fits.struct Tryz.underlying25 hfit 3 _ _ rfl (by rw [List.getElem?_map, q3]; rfl)
    have h4 := hf 4 _ rfl
    change DataW.trod enc Tryz.prog W 0 spare held n' 23 (([u0, u1, u2, u3, u4].drop 4).take (Tryz.prog.cellsOf 23)) = _ at h4
    rw [show Tryz.prog.cellsOf 23 = 1 by kernel_rfl] at h4
    change DataW.trod enc Tryz.prog W 0 spare held n' 23 [u4] = _ at h4
    have q4 : ys[4]? = some (ys[4]'(by omega)) := List.getElem?_eq_getElem _
    have f4 : Fits (ys[4]'(by omega)).1 23 := Fits.struct Tryz.underlying25 hfit 4 _ _ rfl (by rw [List.getElem?_map, q4]; rfl)
    exact ⟨n', u0, u1, u2, u3, u4, _, _, _, _, _, rfl, ⟨h0.trans q0, f0⟩, ⟨h1.trans q1, f1⟩, ⟨h2.trans q2, f2⟩, ⟨h3.trans q3, f3⟩, ⟨h4.trans q4, f4⟩⟩
theorem open_Ed {H : Type} {enc : TypeId × Value → H} {W : World} {spare : Nat → Bool} {held : Bool} {fuel : Nat} {cs0 : List Value} {x : DataW H × List MemPlace}
    (h : DataW.trod enc Tryz.prog W 0 spare held fuel 81 cs0 = some x) (hfit : Fits x.1 81) :
    ∃ (l : List Drv.Ed) (A : Option Addr) (cap : Nat), cs0 = [.slice A l.length cap] ∧ l.length * 24 ≤ reachBytes ∧ Reads W W.heap.size 3 A l.length (flat encEd l) ∧ ∀ e ∈ l, 0 ≤ e.kind ∧ e.kind ≤ 255 := by
  have hb : Tryz.prog.bytesOf 86 = 24 := by kernel_rfl
  obtain ⟨l, A, cap, e, hca, _, hby, vs, hr, hel⟩ := open_list 81 86 3 Tryz.underlying81 (by kernel_rfl) (by decide) (fun cs (e : Drv.Ed) => cs = encEd e ∧ (0 ≤ e.kind ∧ e.kind ≤ 255))
    (fun fuel cs x hcl ht hf => by
      obtain ⟨n', u0, u1, u2, y0, y1, y2, rfl, h0, h1, h2⟩ := sp_edge hcl ht hf
      obtain ⟨a, e0, b0, b1⟩ := open_u8 84 Tryz.underlying84 h0.1
      obtain ⟨b, e1, _⟩ := open_i64 3 Tryz.underlying3 h1.1
      obtain ⟨c, e2, _⟩ := open_i64 3 Tryz.underlying3 h2.1
      injection e0 with e0 _
      injection e1 with e1 _
      injection e2 with e2 _
      subst e0 e1 e2
      exact ⟨⟨a, b, c⟩, rfl, b0, b1⟩) h hfit
  rw [hb] at hby
  refine ⟨l, A, cap, e, hby, ?_, fun n hn => ?_⟩
  · have : vs = flat encEd l := by
      refine List.ext_getElem? fun j => ?_
      have hvl := hr.1
      by_cases hj : j < l.length * 3
      · have hi : j / 3 < l.length := by omega
        have hje : j / 3 * 3 + j % 3 = j := by omega
        have h1 := (hel (j / 3) hi).1
        have h2 : ((vs.drop (j / 3 * 3)).take 3)[j % 3]? = (encEd l[j / 3])[j % 3]? := by rw [h1]
        rw [List.getElem?_take, if_pos (by omega), List.getElem?_drop, hje] at h2
        rw [h2, ← flat_get encEd 3 (fun _ => rfl) l (j / 3) hi (j % 3) (by omega), hje]
      · rw [List.getElem?_eq_none (by omega), List.getElem?_eq_none (by rw [flat_length encEd 3 (fun _ => rfl)]; omega)]
    rw [← this]; exact hr
  · obtain ⟨i, hi, rfl⟩ := List.getElem_of_mem hn
    exact (hel i hi).2
def StEl (W : World) (cs : List Value) (s : Drv.NSt) : Prop :=
  ∃ EA ec XA xc, cs = [.int .i64 s.rule, .slice EA s.edges.length ec, .slice XA s.ends.length xc] ∧ Reads W W.heap.size 3 EA s.edges.length (flat encEd s.edges) ∧ Reads W W.heap.size 1 XA s.ends.length (s.ends.map (Value.int .i64)) ∧ s.edges.length * 24 ≤ reachBytes ∧ s.ends.length * 8 ≤ reachBytes ∧ ∀ e ∈ s.edges, 0 ≤ e.kind ∧ e.kind ≤ 255
theorem open_Sts {H : Type} {enc : TypeId × Value → H} {W : World} {spare : Nat → Bool} {held : Bool} {fuel : Nat} {cs0 : List Value} {x : DataW H × List MemPlace}
    (h : DataW.trod enc Tryz.prog W 0 spare held fuel 22 cs0 = some x) (hfit : Fits x.1 22) :
    ∃ (l : List Drv.NSt) (A : Option Addr) (cap : Nat), cs0 = [.slice A l.length cap] ∧ l.length ≤ 100000000000000 ∧ StsR W W.heap.size A l ∧ ∀ s ∈ l, s.edges.length ≤ 100000000000000 ∧ s.ends.length ≤ 100000000000000 ∧ ∀ e ∈ s.edges, 0 ≤ e.kind ∧ e.kind ≤ 255 := by
  have hb : Tryz.prog.bytesOf 83 = 56 := by kernel_rfl
  obtain ⟨l, A, cap, e, _, _, hby, vs, hr, hel⟩ := open_list 22 83 3 Tryz.underlying22 (by kernel_rfl) (by decide) (StEl W) (fun fuel cs x hcl ht hf => by
    obtain ⟨n', u0, u1, u2, y0, y1, y2, rfl, h0, h1, h2⟩ := sp_state hcl ht hf
    obtain ⟨a, e0, _⟩ := open_i64 3 Tryz.underlying3 h0.1
    obtain ⟨l1, A1, k1, e1, b1, r1, w1⟩ := open_Ed h1.1 h1.2
    obtain ⟨l2, A2, k2, e2, _, b2, r2, _⟩ := open_Z h2.1 h2.2
    injection e0 with e0 _
    injection e1 with e1 _
    injection e2 with e2 _
    subst e0 e1 e2
    exact ⟨⟨a, l1, l2⟩, A1, k1, A2, k2, rfl, r1, r2, b1, b2, w1⟩) h hfit
  rw [hb] at hby
  unfold reachBytes at hby
  refine ⟨l, A, cap, e, by omega, ⟨vs, hr, fun i hi => ?_⟩, fun s hs => ?_⟩
  · obtain ⟨EA, ec, XA, xc, e, r0, r1, _⟩ := hel i hi
    have at' : ∀ j, j < 3 → vs[i * 3 + j]? = ([.int .i64 l[i].rule, .slice EA l[i].edges.length ec, .slice XA l[i].ends.length xc] : List Value)[j]? := by
      intro j hj
      rw [← e, List.getElem?_take, if_pos hj, List.getElem?_drop]
    exact ⟨EA, ec, XA, xc, at' 0 (by omega), at' 1 (by omega), at' 2 (by omega), r0, r1⟩
  · obtain ⟨i, hi, rfl⟩ := List.getElem_of_mem hs
    obtain ⟨_, _, _, _, _, _, _, b1, b2, w⟩ := hel i hi
    unfold reachBytes at b1 b2
    exact ⟨by omega, by omega, w⟩
theorem open_z3 {H : Type} {enc : TypeId × Value → H} {W : World} {spare : Nat → Bool} {held : Bool} {fuel : Nat} {cs : List Value} {x : DataW H × List MemPlace} (hcl : cs.length = 3)
    (h : DataW.trod enc Tryz.prog W 0 spare held fuel 73 cs = some x) : ∃ a b c : Int, cs = [.int .i64 a, .int .i64 b, .int .i64 c] := by
  obtain ⟨xs, k, _, hx, _, hxl, hf⟩ := DataW.trod_array Tryz.underlying73 h
  match cs, hcl with
  | [c0, c1, c2], _ =>
    have h0 := hf 0 (by decide)
    rw [show Tryz.prog.cellsOf 3 = 1 by kernel_rfl] at h0
    change DataW.trod enc Tryz.prog W 0 spare held k 3 [c0] = xs[0]? at h0
    have h1 := hf 1 (by decide)
    rw [show Tryz.prog.cellsOf 3 = 1 by kernel_rfl] at h1
    change DataW.trod enc Tryz.prog W 0 spare held k 3 [c1] = xs[1]? at h1
    have h2 := hf 2 (by decide)
    rw [show Tryz.prog.cellsOf 3 = 1 by kernel_rfl] at h2
    change DataW.trod enc Tryz.prog W 0 spare held k 3 [c2] = xs[2]? at h2
    match xs, hxl with
    | [y0, y1, y2], _ =>
      obtain ⟨a, e0, _⟩ := open_i64 3 Tryz.underlying3 h0
      injection e0 with e0 _
      subst e0
      obtain ⟨b, e1, _⟩ := open_i64 3 Tryz.underlying3 h1
      injection e1 with e1 _
      subst e1
      obtain ⟨c, e2, _⟩ := open_i64 3 Tryz.underlying3 h2
      injection e2 with e2 _
      subst e2
      exact ⟨a, b, c, rfl⟩
theorem open_z4 {H : Type} {enc : TypeId × Value → H} {W : World} {spare : Nat → Bool} {held : Bool} {fuel : Nat} {cs : List Value} {x : DataW H × List MemPlace} (hcl : cs.length = 4)
    (h : DataW.trod enc Tryz.prog W 0 spare held fuel 53 cs = some x) : ∃ a b c d : Int, cs = [.int .i64 a, .int .i64 b, .int .i64 c, .int .i64 d] := by
  obtain ⟨xs, k, _, hx, _, hxl, hf⟩ := DataW.trod_array Tryz.underlying53 h
  match cs, hcl with
  | [c0, c1, c2, c3], _ =>
    have h0 := hf 0 (by decide)
    rw [show Tryz.prog.cellsOf 3 = 1 by kernel_rfl] at h0
    change DataW.trod enc Tryz.prog W 0 spare held k 3 [c0] = xs[0]? at h0
    have h1 := hf 1 (by decide)
    rw [show Tryz.prog.cellsOf 3 = 1 by kernel_rfl] at h1
    change DataW.trod enc Tryz.prog W 0 spare held k 3 [c1] = xs[1]? at h1
    have h2 := hf 2 (by decide)
    rw [show Tryz.prog.cellsOf 3 = 1 by kernel_rfl] at h2
    change DataW.trod enc Tryz.prog W 0 spare held k 3 [c2] = xs[2]? at h2
    have h3 := hf 3 (by decide)
    rw [show Tryz.prog.cellsOf 3 = 1 by kernel_rfl] at h3
    change DataW.trod enc Tryz.prog W 0 spare held k 3 [c3] = xs[3]? at h3
    match xs, hxl with
    | [y0, y1, y2, y3], _ =>
      obtain ⟨a, e0, _⟩ := open_i64 3 Tryz.underlying3 h0
      injection e0 with e0 _
      subst e0
      obtain ⟨b, e1, _⟩ := open_i64 3 Tryz.underlying3 h1
      injection e1 with e1 _
      subst e1
      obtain ⟨c, e2, _⟩ := open_i64 3 Tryz.underlying3 h2
      injection e2 with e2 _
      subst e2
      obtain ⟨d, e3, _⟩ := open_i64 3 Tryz.underlying3 h3
      injection e3 with e3 _
      subst e3
      exact ⟨a, b, c, d, rfl⟩
end Go.Proofs.YtnpcjbdolmmaeaaGreatDoor
