/-
  What came in, opened: slices of whatever elements, structs field by field; the reach's bound on lengths. Plain lemmas.
-/
import Derived.Test.YtcbilcfieoibbaaGreatDoorLib
import Derived.Test.YtcbilcfieoibbaaGreatDoorChecked
import Derived.Deep.Slices
import Derived.Deep.Fields
import Derived.ChangeSame
import Derived.ChangeOld
import Derived.SizedLaws
namespace Go.Proofs.YtcbilcfieoibbaaGreatDoor
open Go.ChangeShapes Go.WideShapes Go.Deep Go.RowKit
set_option maxRecDepth 100000
theorem choose_list {α : Type} (n : Nat) (Q : Nat → α → Prop) (h : ∀ i, i < n → ∃ x, Q i x) : ∃ l : List α, l.length = n ∧ ∀ i (hi : i < l.length), Q i l[i] := by
  induction n with
  | zero => exact ⟨[], rfl, fun i hi => absurd hi (by simp)⟩
  | succ n ih =>
    obtain ⟨l, hl, hq⟩ := ih (fun i hi => h i (by omega))
    obtain ⟨x, hx⟩ := h n (by omega)
    refine ⟨l ++ [x], by simp [hl], fun i hi => ?_⟩
    by_cases e : i < l.length
    · rw [List.getElem_append_left e]; exact hq i e
    · have : i = n := by simp at hi; omega
      subst this
      rw [List.getElem_append_right (by omega)]
      simpa [hl] using hx
/-- is what weighs within the reach? -/
def Fits {H : Type} (d : DataW H) (t : TypeId) : Prop := (d.weights Tryz.prog t).all (· ≤ reachBytes) = true
theorem weightsAll_mem {H : Type} {P : Program} {e : TypeId} {ds : List (DataW H)} {d : DataW H} (h : d ∈ ds) : ∀ n ∈ d.weights P e, n ∈ DataW.weightsAll P e ds := by
  induction ds with
  | nil => cases h
  | cons x r ih =>
    intro n hn
    unfold DataW.weightsAll
    rcases List.mem_cons.1 h with rfl | h
    · exact List.mem_append_left _ hn
    · exact List.mem_append_right _ (ih h n hn)
theorem Fits.slice {H : Type} {t e : TypeId} {els sp : List (DataW H)} (hu : Tryz.prog.underlying t = some (.slice e)) (h : Fits (.slice els sp) t) : (els.length + sp.length) * Tryz.prog.bytesOf e ≤ reachBytes ∧ ∀ d ∈ els, Fits d e := by
  unfold Fits at h
  simp only [DataW.weights, hu, List.all_cons, Bool.and_eq_true, List.all_append, decide_eq_true_eq] at h
  refine ⟨h.1, fun d hd => ?_⟩
  unfold Fits
  rw [List.all_eq_true]
  intro n hn
  exact List.all_eq_true.1 h.2.1 n (weightsAll_mem hd n hn)
theorem Fits.struct {H : Type} {t : TypeId} {fs : Array Field} {parts : List (DataW H)} (hu : Tryz.prog.underlying t = some (.struct fs)) (h : Fits (.agg parts) t) (i : Nat) (f : Field) (d : DataW H) (hf : fs[i]? = some f) (hd : parts[i]? = some d) : Fits d f.type := by
  unfold Fits at h ⊢
  simp only [DataW.weights, hu] at h
  rw [List.all_eq_true]
  intro n hn
  exact List.all_eq_true.1 h n (DataW.weights_mem_each (j := i) (by simp [hf]) hd n hn)
theorem fits_of_each {H : Type} {ts : List TypeId} {ds : List (DataW H)} (h : (DataW.weightsEach Tryz.prog ts ds).all (· ≤ reachBytes) = true) {j : Nat} {t : TypeId} {d : DataW H} (ht : ts[j]? = some t) (hd : ds[j]? = some d) : Fits d t := by
  unfold Fits
  rw [List.all_eq_true]
  intro n hn
  exact List.all_eq_true.1 h n (DataW.weights_mem_each ht hd n hn)
/-- a slice that came in: what its elements are (each is of a lesser datum) -/
theorem open_listM {H α : Type} {enc : TypeId × Value → H} {W : World} {spare : Nat → Bool} {held : Bool} {fuel : Nat} {cs0 : List Value} {x : DataW H × List MemPlace} (t e : TypeId) (size : Nat)
    (hT : Tryz.prog.underlying t = some (.slice e)) (hC : Tryz.prog.cellsOf e = size) (hs : 0 < size) (El : List Value → α → Prop)
    (per : ∀ (fuel : Nat) (cs : List Value) (y : DataW H × List MemPlace), (∃ els sp, x.1 = .slice els sp ∧ y.1 ∈ els) → cs.length = size → DataW.trod enc Tryz.prog W 0 spare held fuel e cs = some y → Fits y.1 e → ∃ a, El cs a)
    (h : DataW.trod enc Tryz.prog W 0 spare held fuel t cs0 = some x) (hfit : Fits x.1 t) :
    ∃ (l : List α) (A : Option Addr) (cap : Nat), cs0 = [.slice A l.length cap] ∧ l.length ≤ maxLen ∧ l.length * Tryz.prog.bytesOf e ≤ reachBytes ∧ ∃ vs : List Value, Reads W W.heap.size size A l.length vs ∧ ∀ i (hi : i < l.length), El ((vs.drop (i * size)).take size) l[i] := by
  rcases open_slice hT h with ⟨hcs, _⟩ | ⟨a, len, cap, m, n, D, Pl, hcs, hb, hl, hm, hmm, hx, hi⟩
  · exact ⟨[], none, 0, hcs, by simp, by simp, [], ⟨by simp, fun h => absurd h (by simp)⟩, fun i hi => absurd hi (by simp)⟩
  · subst hcs hx
    rw [hC] at hi
    have hlm : len ≤ m := by rw [hmm]; split <;> omega
    have hsz := Fits.slice hT hfit
    have hall : ∀ i, i < len → ∃ y : α × List Value, El y.2 y.1 ∧ y.2.length = size ∧ ∀ j u, y.2[j]? = some u → W.cell? ((a.add (i * size)).add j) = some u := by
      intro i hil
      obtain ⟨cs', hc, ht⟩ := hi i (by omega)
      obtain ⟨_, hcl, hat⟩ := World.cells?_some hc
      have hfi : Fits (D i) e := hsz.2 _ (by simp only [List.mem_map, List.mem_range]; exact ⟨i, hil, rfl⟩)
      obtain ⟨b, hb⟩ := per n cs' _ ⟨_, _, rfl, by simp only [List.mem_map, List.mem_range]; exact ⟨i, hil, rfl⟩⟩ hcl ht hfi
      refine ⟨(b, cs'), hb, hcl, fun j u hu => ?_⟩
      have hj : j < cs'.length := by
        rcases Nat.lt_or_ge j cs'.length with h | h
        · exact h
        · rw [List.getElem?_eq_none h] at hu; cases hu
      rw [hat j (by omega), hu]
    obtain ⟨l, hll, hq⟩ := choose_list len _ hall
    have hlen : ∀ z : List (α × List Value), (∀ y ∈ z, y.2.length = size) → (flat (fun y : α × List Value => y.2) z).length = z.length * size := by
      intro z
      induction z with
      | nil => intro _; simp [flat]
      | cons y r ih =>
        intro hz
        rw [flat_cons, List.length_append, hz y (by simp), ih (fun y hy => hz y (by simp [hy])), List.length_cons, Nat.succ_mul, Nat.add_comm]
    have hget : ∀ (z : List (α × List Value)), (∀ y ∈ z, y.2.length = size) → ∀ k (hk : k < z.length), ((flat (fun y : α × List Value => y.2) z).drop (k * size)).take size = z[k].2 := by
      intro z
      induction z with
      | nil => intro _ k hk; exact absurd hk (by simp)
      | cons y r ih =>
        intro hz k hk
        rw [flat_cons]
        have hy := hz y (by simp)
        cases k with
        | zero => rw [Nat.zero_mul, List.drop_zero, ← hy, List.take_left' rfl]; rfl
        | succ k =>
          have : (k + 1) * size = y.2.length + k * size := by rw [Nat.succ_mul, hy, Nat.add_comm]
          rw [this, ← List.drop_drop, List.drop_left' rfl]
          exact ih (fun y hy => hz y (by simp [hy])) k (by simpa using hk)
    have hsz2 : ∀ y ∈ l, y.2.length = size := by
      intro y hy
      obtain ⟨i, hi', rfl⟩ := List.getElem_of_mem hy
      exact (hq i hi').2.1
    have hbytes : len * Tryz.prog.bytesOf e ≤ reachBytes := by
      have := hsz.1
      simp only [List.length_map, List.length_range] at this
      exact Nat.le_trans (Nat.mul_le_mul_right _ (by omega)) this
    refine ⟨l.map (·.1), some a, cap, by simp [hll], by simp [hll]; omega, by simpa [hll] using hbytes, flat (fun y : α × List Value => y.2) l, ⟨by rw [hlen l hsz2]; simp, fun hn => ?_⟩, fun i hi' => ?_⟩
    · have hn : 0 < len := by simpa [hll] using hn
      obtain ⟨b, off, spot⟩ := a
      have h0 := (hq 0 (by omega)).2.2 0
      have hz0 : ∃ u, (l[0]'(by omega)).2[0]? = some u := ⟨_, List.getElem?_eq_getElem (by rw [(hq 0 (by omega)).2.1]; exact hs)⟩
      obtain ⟨u0, hu0⟩ := hz0
      have hz := h0 u0 hu0
      have hspot : spot = none := by simpa [Addr.add] using World.cell?_spot hz
      subst hspot
      have hadd : ∀ k, (⟨b, off, none⟩ : Addr).add k = ⟨b, off + k, none⟩ := fun k => by
        unfold Addr.add; by_cases h : k = 0 <;> simp [h]
      have hadd2 : ∀ o k, (⟨b, o, none⟩ : Addr).add k = ⟨b, o + k, none⟩ := fun o k => by
        unfold Addr.add; by_cases h : k = 0 <;> simp [h]
      have hblk : b < W.heap.size := by
        simp only [hadd, hadd2] at hz
        rcases Nat.lt_or_ge b W.heap.size with h | h
        · exact h
        · simp only [World.cell?, Array.getElem?_eq_none h] at hz; cases hz
      refine ⟨b, off, rfl, hblk, fun j u hu => ?_⟩
      have hj : j < l.length * size := by
        rcases Nat.lt_or_ge j (l.length * size) with h | h
        · exact h
        · rw [List.getElem?_eq_none (by rw [hlen l hsz2]; exact h)] at hu; cases hu
      have hdm : j / size < l.length := (Nat.div_lt_iff_lt_mul hs).2 hj
      have hjm : j % size < size := Nat.mod_lt _ hs
      have hje : j / size * size + j % size = j := by rw [Nat.mul_comm]; exact Nat.div_add_mod j size
      have hg := hget l hsz2 (j / size) hdm
      have hu2 : (l[j / size]'hdm).2[j % size]? = some u := by
        rw [← hg, List.getElem?_take, if_pos hjm, List.getElem?_drop, hje]; exact hu
      have := (hq (j / size) hdm).2.2 _ _ hu2
      simp only [hadd, hadd2] at this
      rw [Nat.add_assoc, hje] at this
      exact this
    · have hil : i < l.length := by simpa using hi'
      rw [hget l hsz2 i hil]
      simpa using (hq i hil).1
/-- a slice that came in: what its elements are -/
theorem open_list {H α : Type} {enc : TypeId × Value → H} {W : World} {spare : Nat → Bool} {held : Bool} {fuel : Nat} {cs0 : List Value} {x : DataW H × List MemPlace} (t e : TypeId) (size : Nat)
    (hT : Tryz.prog.underlying t = some (.slice e)) (hC : Tryz.prog.cellsOf e = size) (hs : 0 < size) (El : List Value → α → Prop)
    (per : ∀ (fuel : Nat) (cs : List Value) (x : DataW H × List MemPlace), cs.length = size → DataW.trod enc Tryz.prog W 0 spare held fuel e cs = some x → Fits x.1 e → ∃ a, El cs a)
    (h : DataW.trod enc Tryz.prog W 0 spare held fuel t cs0 = some x) (hfit : Fits x.1 t) :
    ∃ (l : List α) (A : Option Addr) (cap : Nat), cs0 = [.slice A l.length cap] ∧ l.length ≤ maxLen ∧ l.length * Tryz.prog.bytesOf e ≤ reachBytes ∧ ∃ vs : List Value, Reads W W.heap.size size A l.length vs ∧ ∀ i (hi : i < l.length), El ((vs.drop (i * size)).take size) l[i] :=
  open_listM t e size hT hC hs El (fun fuel cs y _ => per fuel cs y) h hfit
/-- an int's cell -/
theorem open_i64 {H : Type} {enc : TypeId × Value → H} {W : World} {spare : Nat → Bool} {held : Bool} {fuel : Nat} {cs : List Value} {x : DataW H × List MemPlace} (t : TypeId) (hT : Tryz.prog.underlying t = some (.int .i64))
    (h : DataW.trod enc Tryz.prog W 0 spare held fuel t cs = some x) : ∃ n : Int, cs = [.int .i64 n] ∧ -9223372036854775808 ≤ n ∧ n ≤ 9223372036854775807 := by
  obtain ⟨n, e, _, w⟩ := DataW.trod_int hT h
  exact ⟨n, e, by simp [Lit.wf, IntKind.min, IntKind.max, IntKind.signed, IntKind.bits] at w; exact w⟩
/-- a slice of ints that came in -/
theorem open_Z {H : Type} {enc : TypeId × Value → H} {W : World} {spare : Nat → Bool} {held : Bool} {fuel : Nat} {cs0 : List Value} {x : DataW H × List MemPlace}
    (h : DataW.trod enc Tryz.prog W 0 spare held fuel 52 cs0 = some x) (hfit : Fits x.1 52) :
    ∃ (l : List Int) (A : Option Addr) (cap : Nat), cs0 = [.slice A l.length cap] ∧ l.length * 8 ≤ reachBytes ∧ Reads W W.heap.size 1 A l.length (l.map (Value.int .i64)) ∧ ∀ n ∈ l, -9223372036854775808 ≤ n ∧ n ≤ 9223372036854775807 := by
  have hb : Tryz.prog.bytesOf 3 = 8 := by kernel_rfl
  obtain ⟨l, A, cap, e, _, hby, vs, hr, hel⟩ := open_list 52 3 1 Tryz.underlying52 (by kernel_rfl) (by decide) (fun cs (n : Int) => cs = [.int .i64 n] ∧ -9223372036854775808 ≤ n ∧ n ≤ 9223372036854775807)
    (fun fuel cs x _ ht _ => open_i64 3 Tryz.underlying3 ht) h hfit
  rw [hb] at hby
  refine ⟨l, A, cap, e, hby, ?_, fun n hn => ?_⟩
  · have : vs = l.map (Value.int .i64) := by
      refine List.ext_getElem? fun i => ?_
      have hvl := hr.1
      by_cases hi : i < l.length
      · have h1 := (hel i hi).1
        rw [Nat.mul_one] at h1
        have h2 : ((vs.drop i).take 1)[0]? = some (.int .i64 l[i]) := by rw [h1]; rfl
        rw [List.getElem?_take, if_pos (by decide), List.getElem?_drop, Nat.add_zero] at h2
        rw [h2]; simp [List.getElem?_eq_getElem hi]
      · rw [List.getElem?_eq_none (by omega), List.getElem?_eq_none (by simp; omega)]
    rw [← this]; exact hr
  · obtain ⟨i, hi, rfl⟩ := List.getElem_of_mem hn
    exact (hel i hi).2
end Go.Proofs.YtcbilcfieoibbaaGreatDoor
