/-
  Joined texts: Opn0, Tr, TtLaw.
-/
import Derived.Test.YtpbnfinmjnpkpaaGreatDoorLib
import Derived.Test.YtpbnfinmjnpkpaaGreatDoorChecked
import Derived.Deep.Slices
import Derived.Deep.Fields
import Derived.ChangeSame
import Derived.ChangeOld
import Derived.SizedLaws
import Derived.Test.YtpbnfinmjnpkpaaGreatDoorGrPlain
/-
  What came in, opened: slices of whatever elements, structs field by field; the reach's bound on lengths. Plain lemmas.
-/
namespace Go.Proofs.YtpbnfinmjnpkpaaGreatDoor
open Go.ChangeShapes Go.WideShapes Go.Deep Go.RowKit
set_option maxRecDepth 100000
theorem choose_list {α : Type} (n : Nat) (Q : Nat → α → Prop) (h : ∀ i, i < n → ∃ x, Q i x) : ∃ l : List α, l.length = n ∧ ∀ i (hi : i < l.length), Q i l[i] := by
  induction n with
  | zero => exact ⟨[], rfl, fun i hi => absurd hi (by simp)⟩
  | succ n ih =>
    obtain ⟨l, hl, hq⟩ := ih (fun i hi => h i (by omega))
    obtain ⟨x, hx⟩ := h n (by omega)
    refine ⟨l ++ [x], by simp [hl], fun i hi => ?_⟩
    by_cases e : i < l.length
    · rw [List.getElem_append_left e]; exact hq i e
    · have : i = n := by simp at hi; omega
      subst this
      rw [List.getElem_append_right (by omega)]
      simpa [hl] using hx
/-- is what weighs within the reach? -/
def Fits {H : Type} (d : DataW H) (t : TypeId) : Prop := (d.weights Tryz.prog t).all (· ≤ reachBytes) = true
theorem weightsAll_mem {H : Type} {P : Program} {e : TypeId} {ds : List (DataW H)} {d : DataW H} (h : d ∈ ds) : ∀ n ∈ d.weights P e, n ∈ DataW.weightsAll P e ds := by
  induction ds with
  | nil => cases h
  | cons x r ih =>
    intro n hn
    unfold DataW.weightsAll
    rcases List.mem_cons.1 h with rfl | h
    · exact List.mem_append_left _ hn
    · exact List.mem_append_right _ (ih h n hn)
theorem Fits.slice {H : Type} {t e : TypeId} {els sp : List (DataW H)} (hu : Tryz.prog.underlying t = some (.slice e)) (h : Fits (.slice els sp) t) : (els.length + sp.length) * Tryz.prog.bytesOf e ≤ reachBytes ∧ ∀ d ∈ els, Fits d e := by
  unfold Fits at h
  simp only [DataW.weights, hu, List.all_cons, Bool.and_eq_true, List.all_append, decide_eq_true_eq] at h
  refine ⟨h.1, fun d hd => ?_⟩
  unfold Fits
  rw [List.all_eq_true]
  intro n hn
  exact List.all_eq_true.1 h.2.1 n (weightsAll_mem hd n hn)
theorem Fits.struct {H : Type} {t : TypeId} {fs : Array Field} {parts : List (DataW H)} (hu : Tryz.prog.underlying t = some (.struct fs)) (h : Fits (.agg parts) t) (i : Nat) (f : Field) (d : DataW H) (hf : fs[i]? = some f) (hd : parts[i]? = some d) : Fits d f.type := by
  unfold Fits at h ⊢
  simp only [DataW.weights, hu] at h
  rw [List.all_eq_true]
  intro n hn
  exact List.all_eq_true.1 h n (DataW.weights_mem_each (j := i) (by simp [hf]) hd n hn)
theorem fits_of_each {H : Type} {ts : List TypeId} {ds : List (DataW H)} (h : (DataW.weightsEach Tryz.prog ts ds).all (· ≤ reachBytes) = true) {j : Nat} {t : TypeId} {d : DataW H} (ht : ts[j]? = some t) (hd : ds[j]? = some d) : Fits d t := by
  unfold Fits
  rw [List.all_eq_true]
  intro n hn
  exact List.all_eq_true.1 h n (DataW.weights_mem_each ht hd n hn)
/-- a slice that came in: what its elements are (each is of a lesser datum) -/
theorem open_listM {H α : Type} {enc : TypeId × Value → H} {W : World} {spare : Nat → Bool} {held : Bool} {fuel : Nat} {cs0 : List Value} {x : DataW H × List MemPlace} (t e : TypeId) (size : Nat)
    (hT : Tryz.prog.underlying t = some (.slice e)) (hC : Tryz.prog.cellsOf e = size) (hs : 0 < size) (El : List Value → α → Prop)
    (per : ∀ (fuel : Nat) (cs : List Value) (y : DataW H × List MemPlace), (∃ els sp, x.1 = .slice els sp ∧ y.1 ∈ els) → cs.length = size → DataW.trod enc Tryz.prog W 0 spare held fuel e cs = some y → Fits y.1 e → ∃ a, El cs a)
    (h : DataW.trod enc Tryz.prog W 0 spare held fuel t cs0 = some x) (hfit : Fits x.1 t) :
    ∃ (l : List α) (A : Option Addr) (cap : Nat), cs0 = [.slice A l.length cap] ∧ l.length ≤ maxLen ∧ l.length * Tryz.prog.bytesOf e ≤ reachBytes ∧ ∃ vs : List Value, Reads W W.heap.size size A l.length vs ∧ ∀ i (hi : i < l.length), El ((vs.drop (i * size)).take size) l[i] := by
  rcases open_slice hT h with ⟨hcs, _⟩ | ⟨a, len, cap, m, n, D, Pl, hcs, hb, hl, hm, hmm, hx, hi⟩
  · exact ⟨[], none, 0, hcs, by simp, by simp, [], ⟨by simp, fun h => absurd h (by simp)⟩, fun i hi => absurd hi (by simp)⟩
  · subst hcs hx
    rw [hC] at hi
    have hlm : len ≤ m := by rw [hmm]; split <;> omega
    have hsz := Fits.slice hT hfit
    have hall : ∀ i, i < len → ∃ y : α × List Value, El y.2 y.1 ∧ y.2.length = size ∧ ∀ j u, y.2[j]? = some u → W.cell? ((a.add (i * size)).add j) = some u := by
      intro i hil
      obtain ⟨cs', hc, ht⟩ := hi i (by omega)
      obtain ⟨_, hcl, hat⟩ := World.cells?_some hc
      have hfi : Fits (D i) e := hsz.2 _ (by simp only [List.mem_map, List.mem_range]; exact ⟨i, hil, rfl⟩)
      obtain ⟨b, hb⟩ := per n cs' _ ⟨_, _, rfl, by simp only [List.mem_map, List.mem_range]; exact ⟨i, hil, rfl⟩⟩ hcl ht hfi
      refine ⟨(b, cs'), hb, hcl, fun j u hu => ?_⟩
      have hj : j < cs'.length := by
        rcases Nat.lt_or_ge j cs'.length with h | h
        · exact h
        · rw [List.getElem?_eq_none h] at hu; cases hu
      rw [hat j (by omega), hu]
    obtain ⟨l, hll, hq⟩ := choose_list len _ hall
    have hlen : ∀ z : List (α × List Value), (∀ y ∈ z, y.2.length = size) → (flat (fun y : α × List Value => y.2) z).length = z.length * size := by
      intro z
      induction z with
      | nil => intro _; simp [flat]
      | cons y r ih =>
        intro hz
        rw [flat_cons, List.length_append, hz y (by simp), ih (fun y hy => hz y (by simp [hy])), List.length_cons, Nat.succ_mul, Nat.add_comm]
    have hget : ∀ (z : List (α × List Value)), (∀ y ∈ z, y.2.length = size) → ∀ k (hk : k < z.length), ((flat (fun y : α × List Value => y.2) z).drop (k * size)).take size = z[k].2 := by
      intro z
      induction z with
      | nil => intro _ k hk; exact absurd hk (by simp)
      | cons y r ih =>
        intro hz k hk
        rw [flat_cons]
        have hy := hz y (by simp)
        cases k with
        | zero => rw [Nat.zero_mul, List.drop_zero, ← hy, List.take_left' rfl]; rfl
        | succ k =>
          have : (k + 1) * size = y.2.length + k * size := by rw [Nat.succ_mul, hy, Nat.add_comm]
          rw [this, ← List.drop_drop, List.drop_left' rfl]
          exact ih (fun y hy => hz y (by simp [hy])) k (by simpa using hk)
    have hsz2 : ∀ y ∈ l, y.2.length = size := by
      intro y hy
      obtain ⟨i, hi', rfl⟩ := List.getElem_of_mem hy
      exact (hq i hi').2.1
    have hbytes : len * Tryz.prog.bytesOf e ≤ reachBytes := by
      have := hsz.1
      simp only [List.length_map, List.length_range] at this
      exact Nat.le_trans (Nat.mul_le_mul_right _ (by omega)) this
    refine ⟨l.map (·.1), some a, cap, by simp [hll], by simp [hll]; omega, by simpa [hll] using hbytes, flat (fun y : α × List Value => y.2) l, ⟨by rw [hlen l hsz2]; simp, fun hn => ?_⟩, fun i hi' => ?_⟩
    · have hn : 0 < len := by simpa [hll] using hn
      obtain ⟨b, off, spot⟩ := a
      have h0 := (hq 0 (by omega)).2.2 0
      have hz0 : ∃ u, (l[0]'(by omega)).2[0]? = some u := ⟨_, List.getElem?_eq_getElem (by rw [(hq 0 (by omega)).2.1]; exact hs)⟩
      obtain ⟨u0, hu0⟩ := hz0
      have hz := h0 u0 hu0
      have hspot : spot = none := by simpa [Addr.add] using World.cell?_spot hz
      subst hspot
      have hadd : ∀ k, (⟨b, off, none⟩ : Addr).add k = ⟨b, off + k, none⟩ := fun k => by
        unfold Addr.add; by_cases h : k = 0 <;> simp [h]
      have hadd2 : ∀ o k, (⟨b, o, none⟩ : Addr).add k = ⟨b, o + k, none⟩ := fun o k => by
        unfold Addr.add; by_cases h : k = 0 <;> simp [h]
      have hblk : b < W.heap.size := by
        simp only [hadd, hadd2] at hz
        rcases Nat.lt_or_ge b W.heap.size with h | h
        · exact h
        · simp only [World.cell?, Array.getElem?_eq_none h] at hz; cases hz
      refine ⟨b, off, rfl, hblk, fun j u hu => ?_⟩
      have hj : j < l.length * size := by
        rcases Nat.lt_or_ge j (l.length * size) with h | h
        · exact h
        · rw [List.getElem?_eq_none (by rw [hlen l hsz2]; exact h)] at hu; cases hu
      have hdm : j / size < l.length := (Nat.div_lt_iff_lt_mul hs).2 hj
      have hjm : j % size < size := Nat.mod_lt _ hs
      have hje : j / size * size + j % size = j := by rw [Nat.mul_comm]; exact Nat.div_add_mod j size
      have hg := hget l hsz2 (j / size) hdm
      have hu2 : (l[j / size]'hdm).2[j % size]? = some u := by
        rw [← hg, List.getElem?_take, if_pos hjm, List.getElem?_drop, hje]; exact hu
      have := (hq (j / size) hdm).2.2 _ _ hu2
      simp only [hadd, hadd2] at this
      rw [Nat.add_assoc, hje] at this
      exact this
    · have hil : i < l.length := by simpa using hi'
      rw [hget l hsz2 i hil]
      simpa using (hq i hil).1
/-- a slice that came in: what its elements are -/
theorem open_list {H α : Type} {enc : TypeId × Value → H} {W : World} {spare : Nat → Bool} {held : Bool} {fuel : Nat} {cs0 : List Value} {x : DataW H × List MemPlace} (t e : TypeId) (size : Nat)
    (hT : Tryz.prog.underlying t = some (.slice e)) (hC : Tryz.prog.cellsOf e = size) (hs : 0 < size) (El : List Value → α → Prop)
    (per : ∀ (fuel : Nat) (cs : List Value) (x : DataW H × List MemPlace), cs.length = size → DataW.trod enc Tryz.prog W 0 spare held fuel e cs = some x → Fits x.1 e → ∃ a, El cs a)
    (h : DataW.trod enc Tryz.prog W 0 spare held fuel t cs0 = some x) (hfit : Fits x.1 t) :
    ∃ (l : List α) (A : Option Addr) (cap : Nat), cs0 = [.slice A l.length cap] ∧ l.length ≤ maxLen ∧ l.length * Tryz.prog.bytesOf e ≤ reachBytes ∧ ∃ vs : List Value, Reads W W.heap.size size A l.length vs ∧ ∀ i (hi : i < l.length), El ((vs.drop (i * size)).take size) l[i] :=
  open_listM t e size hT hC hs El (fun fuel cs y _ => per fuel cs y) h hfit
/-- an int's cell -/
theorem open_i64 {H : Type} {enc : TypeId × Value → H} {W : World} {spare : Nat → Bool} {held : Bool} {fuel : Nat} {cs : List Value} {x : DataW H × List MemPlace} (t : TypeId) (hT : Tryz.prog.underlying t = some (.int .i64))
    (h : DataW.trod enc Tryz.prog W 0 spare held fuel t cs = some x) : ∃ n : Int, cs = [.int .i64 n] ∧ -9223372036854775808 ≤ n ∧ n ≤ 9223372036854775807 := by
  obtain ⟨n, e, _, w⟩ := DataW.trod_int hT h
  exact ⟨n, e, by simp [Lit.wf, IntKind.min, IntKind.max, IntKind.signed, IntKind.bits] at w; exact w⟩
/-- a slice of ints that came in -/
theorem open_Z {H : Type} {enc : TypeId × Value → H} {W : World} {spare : Nat → Bool} {held : Bool} {fuel : Nat} {cs0 : List Value} {x : DataW H × List MemPlace}
    (h : DataW.trod enc Tryz.prog W 0 spare held fuel 25 cs0 = some x) (hfit : Fits x.1 25) :
    ∃ (l : List Int) (A : Option Addr) (cap : Nat), cs0 = [.slice A l.length cap] ∧ l.length * 8 ≤ reachBytes ∧ Reads W W.heap.size 1 A l.length (l.map (Value.int .i64)) ∧ ∀ n ∈ l, -9223372036854775808 ≤ n ∧ n ≤ 9223372036854775807 := by
  have hb : Tryz.prog.bytesOf 3 = 8 := by kernel_rfl
  obtain ⟨l, A, cap, e, _, hby, vs, hr, hel⟩ := open_list 25 3 1 Tryz.underlying25 (by kernel_rfl) (by decide) (fun cs (n : Int) => cs = [.int .i64 n] ∧ -9223372036854775808 ≤ n ∧ n ≤ 9223372036854775807)
    (fun fuel cs x _ ht _ => open_i64 3 Tryz.underlying3 ht) h hfit
  rw [hb] at hby
  refine ⟨l, A, cap, e, hby, ?_, fun n hn => ?_⟩
  · have : vs = l.map (Value.int .i64) := by
      refine List.ext_getElem? fun i => ?_
      have hvl := hr.1
      by_cases hi : i < l.length
      · have h1 := (hel i hi).1
        rw [Nat.mul_one] at h1
        have h2 : ((vs.drop i).take 1)[0]? = some (.int .i64 l[i]) := by rw [h1]; rfl
        rw [List.getElem?_take, if_pos (by decide), List.getElem?_drop, Nat.add_zero] at h2
        rw [h2]; simp [List.getElem?_eq_getElem hi]
      · rw [List.getElem?_eq_none (by omega), List.getElem?_eq_none (by simp; omega)]
    rw [← this]; exact hr
  · obtain ⟨i, hi, rfl⟩ := List.getElem_of_mem hn
    exact (hel i hi).2
end Go.Proofs.YtpbnfinmjnpkpaaGreatDoor
/-
  Trees that came in: as plain trees, as they lie in memory; how many parts they have.
-/
namespace Go.Proofs.YtpbnfinmjnpkpaaGreatDoor
open Go.RowKit Go.Deep Go.ChangeShapes Go.WideShapes
set_option maxRecDepth 100000
namespace Rp
inductive Tr where
  | node (rule tok kind : Int) (err : Bool) (subs : List Tr)
mutual
/-- how many parts a tree has -/
def szT : Tr → Nat
  | .node _ _ _ _ subs => 1 + szL subs
def szL : List Tr → Nat
  | [] => 0
  | t :: l => szT t + szL l
end
theorem szL_append (a b : List Tr) : szL (a ++ b) = szL a + szL b := by
  induction a with
  | nil => simp [szL]
  | cons x r ih => simp [szL, ih]; omega
theorem szT_pos (t : Tr) : 1 ≤ szT t := by
  cases t with
  | node r t k e s => unfold szT; omega
theorem szL_at (l : List Tr) (i : Nat) (h : i < l.length) : szL (l.take (i + 1)) = szL (l.take i) + szT l[i] := by
  rw [List.take_succ_eq_append_getElem h, szL_append]
  simp [szL]
theorem szL_take_le (l : List Tr) (i : Nat) : szL (l.take i) ≤ szL l := by
  have h : szL (l.take i) + szL (l.drop i) = szL l := by rw [← szL_append, List.take_append_drop]
  omega
/-- every number is an int -/
def i64 (n : Int) : Prop := -9223372036854775808 ≤ n ∧ n ≤ 9223372036854775807
mutual
def okT : Tr → Prop
  | .node r t k _ subs => i64 r ∧ i64 t ∧ i64 k ∧ subs.length ≤ 4398046511104 ∧ okL subs
def okL : List Tr → Prop
  | [] => True
  | t :: l => okT t ∧ okL l
end
theorem okL_at : ∀ (l : List Tr), okL l → ∀ (i : Nat) (h : i < l.length), okT l[i]
  | x :: l, hs, 0, _ => by unfold okL at hs; exact hs.1
  | x :: l, hs, i + 1, h => by unfold okL at hs; exact okL_at l hs.2 i (by simpa using h)
end Rp
/-! ## in memory -/
mutual
def TrR (w : World) (B : Nat) : Rp.Tr → List Value → Prop
  | .node r t k e subs, vs => ∃ A c xs, vs = [.int .i64 r, .int .i64 t, .int .i64 k, .bool e, .slice A subs.length c] ∧ Reads w B 5 A subs.length xs ∧ TrsR w B subs xs
def TrsR (w : World) (B : Nat) : List Rp.Tr → List Value → Prop
  | [], vs => vs = []
  | t :: l, vs => ∃ a b, vs = a ++ b ∧ TrR w B t a ∧ TrsR w B l b
end
mutual
theorem TrR.keep {w w' : World} {B B' : Nat} (hb : Below B w w') (hB : B ≤ B') : ∀ (t : Rp.Tr) (vs : List Value), TrR w B t vs → TrR w' B' t vs
  | .node _ _ _ _ subs, _, h => by
    unfold TrR at h ⊢
    obtain ⟨A, c, xs, h1, h2, h3⟩ := h
    exact ⟨A, c, xs, h1, (h2.below hb).more hB, TrsR.keep hb hB subs xs h3⟩
theorem TrsR.keep {w w' : World} {B B' : Nat} (hb : Below B w w') (hB : B ≤ B') : ∀ (l : List Rp.Tr) (vs : List Value), TrsR w B l vs → TrsR w' B' l vs
  | [], _, h => by unfold TrsR at h ⊢; exact h
  | t :: l, _, h => by
    unfold TrsR at h ⊢
    obtain ⟨a, b, h1, h2, h3⟩ := h
    exact ⟨a, b, h1, TrR.keep hb hB t a h2, TrsR.keep hb hB l b h3⟩
end
theorem TrR.len {w : World} {B : Nat} {t : Rp.Tr} {vs : List Value} (h : TrR w B t vs) : vs.length = 5 := by
  cases t with
  | node r t k e subs =>
    unfold TrR at h
    obtain ⟨A, c, xs, rfl, _⟩ := h
    rfl
theorem TrsR.at {w : World} {B : Nat} : ∀ {l : List Rp.Tr} {xs : List Value}, TrsR w B l xs → ∀ i (h : i < l.length), ∃ a b c, xs = a ++ b ++ c ∧ a.length = i * 5 ∧ TrR w B l[i] b
  | t :: l, _, h, 0, _ => by
    unfold TrsR at h
    obtain ⟨a, b, rfl, h2, h3⟩ := h
    exact ⟨[], a, b, by simp, by simp, h2⟩
  | t :: l, _, h, i + 1, hi => by
    unfold TrsR at h
    obtain ⟨a, b, rfl, h2, h3⟩ := h
    obtain ⟨p, q, r, rfl, e1, e2⟩ := TrsR.at h3 i (by simpa using hi)
    exact ⟨a ++ p, q, r, by simp, by rw [List.length_append, h2.len, e1]; omega, by simpa using e2⟩
/-- one tree of a readable list -/
theorem readsTr {w : World} {B : Nat} {A : Option Addr} {l : List Rp.Tr} {xs : List Value} (hr : Reads w B 5 A l.length xs) (hv : TrsR w B l xs) (i : Nat) (hi : i < l.length) :
    ∃ (b off : Nat) (u0 u1 u2 u3 u4 : Value), A = some ⟨b, off, none⟩ ∧ b < B ∧ TrR w B l[i] [u0, u1, u2, u3, u4] ∧ w.cell? ⟨b, off + i * 5, none⟩ = some u0 ∧ w.cell? ⟨b, off + i * 5 + 1, none⟩ = some u1 ∧ w.cell? ⟨b, off + i * 5 + 2, none⟩ = some u2 ∧ w.cell? ⟨b, off + i * 5 + 3, none⟩ = some u3 ∧ w.cell? ⟨b, off + i * 5 + 4, none⟩ = some u4 := by
  obtain ⟨b, off, hA, hbl, hcell⟩ := hr.2 (by omega)
  obtain ⟨p, q, r, rfl, e1, e2⟩ := hv.at i hi
  have hq := e2.len
  match q, hq with
  | [u0, u1, u2, u3, u4], _ =>
    have hx : ∀ j u, [u0, u1, u2, u3, u4][j]? = some u → w.cell? ⟨b, off + (i * 5 + j), none⟩ = some u := by
      intro j u hu
      have hj : j < 5 := by
        rcases Nat.lt_or_ge j 5 with h | h
        · exact h
        · rw [List.getElem?_eq_none (by simpa using h)] at hu; cases hu
      refine hcell _ _ ?_
      rw [List.getElem?_append_left (by simp; omega), List.getElem?_append_right (by omega), e1, Nat.add_sub_cancel_left]
      exact hu
    refine ⟨b, off, u0, u1, u2, u3, u4, hA, hbl, e2, ?_⟩
    have h0 := hx 0 _ rfl
    have h1 := hx 1 _ rfl
    have h2 := hx 2 _ rfl
    have h3 := hx 3 _ rfl
    have h4 := hx 4 _ rfl
    simp only [← Nat.add_assoc, Nat.add_zero] at h0 h1 h2 h3 h4
    exact ⟨h0, h1, h2, h3, h4⟩
theorem trsOf {W : World} {B : Nat} : ∀ (l : List Rp.Tr) (vs : List Value), vs.length = l.length * 5 → (∀ i (hi : i < l.length), TrR W B l[i] ((vs.drop (i * 5)).take 5)) → TrsR W B l vs
  | [], vs, hl, _ => by
    unfold TrsR
    exact List.length_eq_zero_iff.1 (by simpa using hl)
  | t :: l, vs, hl, h => by
    unfold TrsR
    have hl' : vs.length = l.length * 5 + 5 := by rw [hl, List.length_cons]; omega
    refine ⟨vs.take 5, vs.drop 5, (List.take_append_drop 5 vs).symm, h 0 (Nat.zero_lt_succ _), trsOf l _ (by rw [List.length_drop]; omega) fun i hi => ?_⟩
    have := h (i + 1) (Nat.succ_lt_succ hi)
    rw [List.drop_drop]
    have e : 5 + i * 5 = (i + 1) * 5 := by omega
    rw [e]
    exact this
theorem okL_of : ∀ (l : List Rp.Tr), (∀ i (hi : i < l.length), Rp.okT l[i]) → Rp.okL l
  | [], _ => by unfold Rp.okL; trivial
  | t :: l, h => by
    unfold Rp.okL
    exact ⟨h 0 (Nat.zero_lt_succ _), okL_of l fun i hi => h (i + 1) (Nat.succ_lt_succ hi)⟩
theorem open_Tr_aux {H : Type} {enc : TypeId × Value → H} {W : World} {spare : Nat → Bool} {held : Bool} : ∀ (k : Nat) (fuel : Nat) (cs : List Value) (x : DataW H × List MemPlace), SizeOf.sizeOf x.1 < k → cs.length = 5 → DataW.trod enc Tryz.prog W 0 spare held fuel 24 cs = some x → Fits x.1 24 → ∃ t : Rp.Tr, Rp.okT t ∧ TrR W W.heap.size t cs
  | 0, _, _, _, h, _, _, _ => absurd h (Nat.not_lt_zero _)
  | k + 1, fuel, cs, x, hk, hcl, ht, hfit => by
    obtain ⟨ys, n, hn, hy, hlen, hyl, hf⟩ := DataW.trod_struct Tryz.underlying24 ht
    have ci : Tryz.prog.cellsOf 3 = 1 := by kernel_rfl
    have cb : Tryz.prog.cellsOf 4 = 1 := by kernel_rfl
    have cl : Tryz.prog.cellsOf 22 = 1 := by kernel_rfl
    match cs, hcl with
    | [c0, c1, c2, c3, c4], _ =>
      have h0 := hf 0 _ rfl
      have h1 := hf 1 _ rfl
      have h2 := hf 2 _ rfl
      have h3 := hf 3 _ rfl
      have h4 := hf 4 _ rfl
      change DataW.trod enc Tryz.prog W 0 spare held n 3 (([c0, c1, c2, c3, c4].drop 0).take (Tryz.prog.cellsOf 3)) = _ at h0
      change DataW.trod enc Tryz.prog W 0 spare held n 3 (([c0, c1, c2, c3, c4].drop 1).take (Tryz.prog.cellsOf 3)) = _ at h1
      change DataW.trod enc Tryz.prog W 0 spare held n 3 (([c0, c1, c2, c3, c4].drop 2).take (Tryz.prog.cellsOf 3)) = _ at h2
      change DataW.trod enc Tryz.prog W 0 spare held n 4 (([c0, c1, c2, c3, c4].drop 3).take (Tryz.prog.cellsOf 4)) = _ at h3
      change DataW.trod enc Tryz.prog W 0 spare held n 22 (([c0, c1, c2, c3, c4].drop 4).take (Tryz.prog.cellsOf 22)) = _ at h4
      rw [ci] at h0 h1 h2
      rw [cb] at h3
      rw [cl] at h4
      change DataW.trod enc Tryz.prog W 0 spare held n 3 [c0] = _ at h0
      change DataW.trod enc Tryz.prog W 0 spare held n 3 [c1] = _ at h1
      change DataW.trod enc Tryz.prog W 0 spare held n 3 [c2] = _ at h2
      change DataW.trod enc Tryz.prog W 0 spare held n 4 [c3] = _ at h3
      change DataW.trod enc Tryz.prog W 0 spare held n 22 [c4] = _ at h4
      have q0 : ys[0]? = some (ys[0]'(by rw [hyl]; decide)) := List.getElem?_eq_getElem _
      have q1 : ys[1]? = some (ys[1]'(by rw [hyl]; decide)) := List.getElem?_eq_getElem _
      have q2 : ys[2]? = some (ys[2]'(by rw [hyl]; decide)) := List.getElem?_eq_getElem _
      have q3 : ys[3]? = some (ys[3]'(by rw [hyl]; decide)) := List.getElem?_eq_getElem _
      have q4 : ys[4]? = some (ys[4]'(by rw [hyl]; decide)) := List.getElem?_eq_getElem _
      obtain ⟨r, e0, o0⟩ := open_i64 3 Tryz.underlying3 (h0.trans q0)
      obtain ⟨tk, e1, o1⟩ := open_i64 3 Tryz.underlying3 (h1.trans q1)
      obtain ⟨kd, e2, o2⟩ := open_i64 3 Tryz.underlying3 (h2.trans q2)
      obtain ⟨er, e3, _⟩ := DataW.trod_bool Tryz.underlying4 (h3.trans q3)
      have hm4 : (ys[4]'(by rw [hyl]; decide)).1 ∈ ys.map (·.1) := List.mem_map.2 ⟨_, List.getElem_mem _, rfl⟩
      have hs4 : SizeOf.sizeOf (ys[4]'(by rw [hyl]; decide)).1 < k := by
        have h5 := List.sizeOf_lt_of_mem hm4
        have h6 : SizeOf.sizeOf x.1 = 1 + SizeOf.sizeOf (ys.map (·.1)) := by rw [hy]; simp
        omega
      have hfit4 : Fits (ys[4]'(by rw [hyl]; decide)).1 22 := by
        have hx : Fits (.agg (ys.map (·.1))) 24 := by rw [hy] at hfit; exact hfit
        exact Fits.struct Tryz.underlying24 hx 4 _ _ rfl (by rw [List.getElem?_map, q4]; rfl)
      obtain ⟨l, A, cap, e4, hlm, hby, vs, hrd, hel⟩ := open_listM 22 24 5 Tryz.underlying22 (by kernel_rfl) (by decide) (fun cs t => Rp.okT t ∧ TrR W W.heap.size t cs)
        (fun fuel' cs' y ⟨els, sp, he, hm⟩ hcl' ht' hf' => open_Tr_aux k fuel' cs' y (by
          have h7 := List.sizeOf_lt_of_mem hm
          have h8 : SizeOf.sizeOf (ys[4]'(by rw [hyl]; decide)).1 = 1 + SizeOf.sizeOf els + SizeOf.sizeOf sp := by rw [he]; simp
          omega) hcl' ht' hf') (h4.trans q4) hfit4
      injection e0 with e0 _
      injection e1 with e1 _
      injection e2 with e2 _
      injection e3 with e3 _
      injection e4 with e4 _
      subst e0 e1 e2 e3 e4
      have hb : Tryz.prog.bytesOf 24 = 56 := by kernel_rfl
      rw [hb] at hby
      unfold reachBytes at hby
      refine ⟨.node r tk kd er l, ?_, ?_⟩
      · unfold Rp.okT
        exact ⟨o0, o1, o2, by omega, okL_of l fun i hi => (hel i hi).1⟩
      · unfold TrR
        exact ⟨A, cap, vs, rfl, hrd, trsOf l vs hrd.1 fun i hi => (hel i hi).2⟩
/-- a tree that came in -/
theorem open_Tr {H : Type} {enc : TypeId × Value → H} {W : World} {spare : Nat → Bool} {held : Bool} (fuel : Nat) (cs : List Value) (x : DataW H × List MemPlace) (hc : cs.length = 5) (h : DataW.trod enc Tryz.prog W 0 spare held fuel 24 cs = some x) (hf : Fits x.1 24) : ∃ t : Rp.Tr, Rp.okT t ∧ TrR W W.heap.size t cs :=
  open_Tr_aux _ fuel cs x (Nat.lt_succ_self _) hc h hf
end Go.Proofs.YtpbnfinmjnpkpaaGreatDoor
/-
  Trees: plain law: all parts of one with the ways to them, its leaves, the ways to a token and to a rule's parts; is a part a leaf (trees.leaf): the walk.
-/
namespace Go.Proofs.YtpbnfinmjnpkpaaGreatDoor
open Go.RowKit
set_option maxRecDepth 100000
namespace Tt
open Rp (Tr)
mutual
/-- each part ahead of its Subs, with the way to it -/
def partsT (way : List Int) : Tr → List (List Int × Tr)
  | .node r t k e l => (way, .node r t k e l) :: partsL way 0 l
def partsL (way : List Int) (i : Int) : List Tr → List (List Int × Tr)
  | [] => []
  | x :: l => partsT (way ++ [i]) x ++ partsL way (i + 1) l
end
theorem partsT_eq (way : List Int) (r t k : Int) (e : Bool) (l : List Tr) : partsT way (.node r t k e l) = (way, .node r t k e l) :: partsL way 0 l := by rw [partsT]
theorem partsL_nil (way : List Int) (i : Int) : partsL way i [] = [] := by rw [partsL]
theorem partsL_cons (way : List Int) (i : Int) (x : Tr) (l : List Tr) : partsL way i (x :: l) = partsT (way ++ [i]) x ++ partsL way (i + 1) l := by rw [partsL]
theorem partsL_append (way : List Int) : ∀ (a b : List Tr) (i : Int), partsL way i (a ++ b) = partsL way i a ++ partsL way (i + a.length) b
  | [], b, i => by simp [partsL_nil]
  | x :: a, b, i => by
    rw [List.cons_append, partsL_cons, partsL_cons, partsL_append way a b (i + 1), List.append_assoc, List.length_cons]
    congr 3
    omega
/-- the parts of the first i Subs, and one more -/
theorem partsL_take (way : List Int) (l : List Tr) (i : Nat) (h : i < l.length) : partsL way 0 (l.take (i + 1)) = partsL way 0 (l.take i) ++ partsT (way ++ [(i : Int)]) l[i] := by
  rw [List.take_succ_eq_append_getElem h, partsL_append, partsL_cons, partsL_nil, List.append_nil, List.length_take, show min i l.length = i by omega]
  congr 3
  simp
def ruleT : Tr → Int | .node r _ _ _ _ => r
def tokT : Tr → Int | .node _ t _ _ _ => t
def kindT : Tr → Int | .node _ _ k _ _ => k
def errT : Tr → Bool | .node _ _ _ e _ => e
def subsT : Tr → List Tr | .node _ _ _ _ l => l
def leafB (t : Tr) : Bool := ruleT t == -1 && !errT t
def leavesT (t : Tr) : List Int := ((partsT [] t).filter fun x => leafB x.2).map fun x => tokT x.2
def toT (t : Tr) (n : Int) : Option (List Int) := ((partsT [] t).find? fun x => leafB x.2 && tokT x.2 == n).map (·.1)
def allT (t : Tr) (r : Int) : List (List Int) := ((partsT [] t).filter fun x => ruleT x.2 == r && decide (0 ≤ r)).map (·.1)
mutual
theorem partsT_len (way : List Int) : ∀ t : Tr, (partsT way t).length = Rp.szT t
  | .node r t k e l => by
    rw [partsT_eq, List.length_cons, partsL_len way l 0, Rp.szT]
    omega
theorem partsL_len (way : List Int) : ∀ (l : List Tr) (i : Int), (partsL way i l).length = Rp.szL l
  | [], i => by rw [partsL_nil]; simp [Rp.szL]
  | x :: l, i => by rw [partsL_cons, List.length_append, partsT_len (way ++ [i]) x, partsL_len way l (i + 1), Rp.szL]
end
end Tt
section
variable {w0 : World} {B : Nat}
theorem leafT_any (t : Rp.Tr) (vs : List Value) (W : World) (hr : TrR w0 B t vs) : Calls Tryz.prog 50 #[.agg vs.toArray] W fun e W' => e = .returned (.bool (Tt.leafB t)) ∧ Below W.heap.size W W' := by
  obtain ⟨r, tk, k, e, l⟩ := t
  unfold TrR at hr
  obtain ⟨A, c, xs, rfl, _⟩ := hr
  have hb1 := below_new W (.cells #[.int .i64 r, .int .i64 tk, .int .i64 k, .bool e, .slice A l.length c] 24)
  have h1 := heap_alloc_new W (.cells #[.int .i64 r, .int .i64 tk, .int .i64 k, .bool e, .slice A l.length c] 24)
  obtain ⟨W1, hW1⟩ : ∃ W1, Hid (W.alloc (.cells #[.int .i64 r, .int .i64 tk, .int .i64 k, .bool e, .slice A l.length c] 24) = W1) := ⟨_, hid rfl⟩
  rw [hW1.out] at hb1 h1
  have c0 : W1.cell? ⟨W.heap.size, 0, none⟩ = some (.int .i64 r) := by rw [Lib.cell_of_heap h1]; rfl
  have c3 : W1.cell? ⟨W.heap.size, 3, none⟩ = some (.bool e) := by rw [Lib.cell_of_heap h1]; rfl
  have HB1 := hid hb1
  generalize l.length = n at *
  have HQ := hid (show Tt.leafB (.node r tk k e l) = (r == -1 && !e) from rfl)
  rw [HQ.out]
  clear h1 hb1
  go_enter Tryz.func50, Tryz.ntmps50
  go_upto_region 1 with fail
  rw [hW1.out]
  clear hW1
  by_cases hr1 : r = -1
  · subst hr1
    go_wp2_with fail
    go_ret
    exact ⟨by simp, HB1.out⟩
  · go_wp2_with fail
    go_ret
    exact ⟨by simp [hr1], HB1.out⟩
end
end Go.Proofs.YtpbnfinmjnpkpaaGreatDoor
