/-
  Trees: are two the same: the walk.
-/
import Derived.Test.YtgflanlniejflaaPst18
import Derived.Lib.QuietBelow
namespace Go.Proofs.Ytgflanlniejflaa
open Go.RowKit Go.Sort
set_option maxRecDepth 100000
namespace Drv
mutual
def szTr : Tr → Nat
  | .node _ _ _ _ subs => 1 + szTrs subs
def szTrs : List Tr → Nat
  | [] => 0
  | t :: l => szTr t + szTrs l
end
mutual
def smTr : Tr → Prop
  | .node _ _ _ _ subs => subs.length ≤ 1000000000 ∧ smTrs subs
def smTrs : List Tr → Prop
  | [] => True
  | t :: l => smTr t ∧ smTrs l
end
mutual
def sameTr : Tr → Tr → Bool
  | .node r t k e s, .node r' t' k' e' s' => (r == r') && (t == t') && (k == k') && (e == e') && (s.length == s'.length) && sameTrs s s'
def sameTrs : List Tr → List Tr → Bool
  | x :: l, y :: m => sameTr x y && sameTrs l m
  | _, _ => true
end
mutual
theorem sameTr_iff : ∀ (x y : Tr), sameTr x y = true ↔ x = y
  | .node r t k e s, .node r' t' k' e' s' => by
    unfold sameTr
    simp only [Bool.and_eq_true, beq_iff_eq, Tr.node.injEq]
    constructor
    · rintro ⟨⟨⟨⟨⟨rfl, rfl⟩, rfl⟩, rfl⟩, hl⟩, h⟩
      exact ⟨rfl, rfl, rfl, rfl, (sameTrs_iff s s' hl).1 h⟩
    · rintro ⟨rfl, rfl, rfl, rfl, rfl⟩
      exact ⟨⟨⟨⟨⟨rfl, rfl⟩, rfl⟩, rfl⟩, rfl⟩, (sameTrs_iff s s rfl).2 rfl⟩
theorem sameTrs_iff : ∀ (l m : List Tr), l.length = m.length → (sameTrs l m = true ↔ l = m)
  | [], [], _ => by simp [sameTrs]
  | [], _ :: _, h => by simp at h
  | _ :: _, [], h => by simp at h
  | x :: l, y :: m, h => by
    unfold sameTrs
    rw [Bool.and_eq_true, sameTr_iff x y, sameTrs_iff l m (by simpa using h), List.cons.injEq]
end
theorem sameTrs_at : ∀ (l m : List Tr), sameTrs l m = true ↔ ∀ j (h : j < l.length) (h' : j < m.length), sameTr l[j] m[j] = true
  | [], m => by
    unfold sameTrs
    exact ⟨fun _ j h => absurd h (Nat.not_lt_zero _), fun _ => rfl⟩
  | x :: l, [] => by
    unfold sameTrs
    exact ⟨fun _ j _ h => absurd h (Nat.not_lt_zero _), fun _ => rfl⟩
  | x :: l, y :: m => by
    unfold sameTrs
    rw [Bool.and_eq_true, sameTrs_at l m]
    constructor
    · rintro ⟨h0, h1⟩ j h h'
      cases j with
      | zero => exact h0
      | succ j => exact h1 j (by simpa using h) (by simpa using h')
    · intro h
      exact ⟨h 0 (by simp) (by simp), fun j g g' => h (j + 1) (by simpa using g) (by simpa using g')⟩
theorem szTrs_at : ∀ (l : List Tr) (j : Nat) (h : j < l.length), szTr l[j] ≤ szTrs l
  | x :: l, 0, _ => by show szTr x ≤ szTr x + szTrs l; omega
  | x :: l, j + 1, h => by
    have hj : j < l.length := by simpa using h
    have := szTrs_at l j hj
    show szTr (l[j]'hj) ≤ szTr x + szTrs l
    omega
theorem smTrs_at : ∀ (l : List Tr), smTrs l → ∀ (j : Nat) (h : j < l.length), smTr l[j]
  | x :: l, hs, 0, _ => by unfold smTrs at hs; exact hs.1
  | x :: l, hs, j + 1, h => by unfold smTrs at hs; exact smTrs_at l hs.2 j (by simpa using h)
end Drv
theorem TrsV.at {w : World} {S : Nat → Prop} : ∀ {l : List Drv.Tr} {xs : List Value}, TrsV w S l xs → ∀ i (h : i < l.length), ∃ a b c, xs = a ++ b ++ c ∧ a.length = i * 5 ∧ TrV w S l[i] b
  | t :: l, _, h, 0, _ => by
    unfold TrsV at h
    obtain ⟨a, b, rfl, h2, h3⟩ := h
    exact ⟨[], a, b, rfl, by simp, h2⟩
  | t :: l, _, h, i + 1, hi => by
    unfold TrsV at h
    obtain ⟨a, b, rfl, h2, h3⟩ := h
    obtain ⟨p, q, r, rfl, g1, g2⟩ := TrsV.at h3 i (by simpa using hi)
    exact ⟨a ++ p, q, r, by simp, by rw [List.length_append, h2.len, g1]; omega, g2⟩
/-- a tree among trees in memory -/
theorem TrsV.cells {w : World} {S : Nat → Prop} {A : Option Addr} {l : List Drv.Tr} {xs : List Value} (hr : RO w S 5 A l.length xs) (h : TrsV w S l xs) (i : Nat) (hi : i < l.length) :
    ∃ b off r t k e As c, A = some ⟨b, off, none⟩ ∧ b < w.heap.size ∧ w.cell? ⟨b, off + i * 5, none⟩ = some (.int .i64 r) ∧ w.cell? ⟨b, off + i * 5 + 1, none⟩ = some (.int .i64 t) ∧ w.cell? ⟨b, off + i * 5 + 2, none⟩ = some (.int .i64 k) ∧ w.cell? ⟨b, off + i * 5 + 3, none⟩ = some (.bool e) ∧
      ∃ m, w.cell? ⟨b, off + i * 5 + 4, none⟩ = some (.slice As m c) ∧ TrV w S l[i] [.int .i64 r, .int .i64 t, .int .i64 k, .bool e, .slice As m c] := by
  obtain ⟨a, q, z, rfl, g1, g2⟩ := h.at i hi
  obtain ⟨b, off, hA, hb, _, hc⟩ := hr.2 (by omega)
  have g3 := g2
  generalize l[i] = x at g2 g3
  obtain ⟨r, t, k, e, subs⟩ := x
  unfold TrV at g2
  obtain ⟨As, c, ys, rfl, _, _⟩ := g2
  have hg : ∀ j (hj : j < 5), (a ++ [Value.int .i64 r, .int .i64 t, .int .i64 k, .bool e, .slice As subs.length c] ++ z)[i * 5 + j]? = [Value.int .i64 r, .int .i64 t, .int .i64 k, .bool e, .slice As subs.length c][j]? := fun j hj => by
    rw [List.append_assoc, List.getElem?_append_right (by omega), List.getElem?_append_left (by simp; omega), show i * 5 + j - a.length = j by omega]
  refine ⟨b, off, r, t, k, e, As, c, hA, hb, ?_, ?_, ?_, ?_, subs.length, ?_, g3⟩
  · exact hc (i * 5 + 0) _ (hg 0 (by omega))
  · exact hc (i * 5 + 1) _ (hg 1 (by omega))
  · exact hc (i * 5 + 2) _ (hg 2 (by omega))
  · exact hc (i * 5 + 3) _ (hg 3 (by omega))
  · exact hc (i * 5 + 4) _ (hg 4 (by omega))
/-- what SameTree leaves -/
def SamtP (x y : Drv.Tr) (w : World) (e : Ending) (w' : World) : Prop := e = .returned (.bool (Drv.sameTr x y)) ∧ Below w.heap.size w w'
theorem samt_ne {x y : Drv.Tr} {w w' : World} (h : Drv.sameTr x y = false) (hb : Below w.heap.size w w') : SamtP x y w (.returned (.bool false)) w' := ⟨by rw [h], hb⟩
set_option maxHeartbeats 12800000 in
theorem sameTree_any : ∀ (m : Nat) (x y : Drv.Tr) (w : World) (S S' : Nat → Prop) (vx vy : List Value), Drv.szTr x ≤ m → Drv.smTr x → TrV w S x vx → TrV w S' y vy →
    Calls Try.prog 16 #[.agg vx.toArray, .agg vy.toArray] w (SamtP x y w) := by
  intro m
  induction m with
  | zero =>
    intro x y w S S' vx vy h
    obtain ⟨r, t, k, e, s⟩ := x
    simp [Drv.szTr] at h
  | succ m ih =>
    intro x y w S S' vx vy hsz hsm hx hy
    obtain ⟨r, t, k, e, s⟩ := x
    obtain ⟨r', t', k', e', s'⟩ := y
    unfold Drv.szTr at hsz
    unfold Drv.smTr at hsm
    unfold TrV at hx hy
    obtain ⟨A, c, xs, rfl, hr, ht⟩ := hx
    obtain ⟨A', c', xs', rfl, hr', ht'⟩ := hy
    have hN : ∀ (b : Bool), ((r == r') && (t == t') && (k == k') && (e == e') && (s.length == s'.length)) = b → Drv.sameTr (.node r t k e s) (.node r' t' k' e' s') = (b && Drv.sameTrs s s') := fun b hb => by
      unfold Drv.sameTr; rw [hb]
    obtain ⟨n, hn⟩ : ∃ n, s.length = n := ⟨_, rfl⟩
    obtain ⟨n', hn'⟩ : ∃ n, s'.length = n := ⟨_, rfl⟩
    rw [hn, hn'] at hN
    have hsl := hsm.1
    rw [hn] at hsl
    have IH := hid ih
    have HSZ := hid hsz
    have HSM := hid hsm.2
    have HR := hid (And.intro hr ht)
    have HR' := hid (And.intro hr' ht')
    have HN := hid hN
    have HL := hid hn
    have HL' := hid hn'
    rw [hn, hn']
    obtain ⟨w1, hw1⟩ : ∃ x, x = w.alloc (.cells #[.int .i64 r, .int .i64 t, .int .i64 k, .bool e, .slice A n c] 65) := ⟨_, rfl⟩
    obtain ⟨w2, hw2⟩ : ∃ x, x = w1.alloc (.cells #[.int .i64 r', .int .i64 t', .int .i64 k', .bool e', .slice A' n' c'] 65) := ⟨_, rfl⟩
    have z1 : w1.heap.size = w.heap.size + 1 := by rw [hw1]; simp
    have b1 : Below w.heap.size w w1 := by rw [hw1]; exact below_new _ _
    have b2 : Below w.heap.size w w2 := by rw [hw2]; exact b1.alloc (by omega) _
    have T1 : w2.heap[w.heap.size]? = some (.cells #[.int .i64 r, .int .i64 t, .int .i64 k, .bool e, .slice A n c] 65 (0, 0)) := by rw [hw2, Below.heap_alloc _ _ _ (by omega), hw1]; exact heap_alloc_new _ _
    have T2 : w2.heap[w.heap.size + 1]? = some (.cells #[.int .i64 r', .int .i64 t', .int .i64 k', .bool e', .slice A' n' c'] 65 (0, 0)) := by rw [hw2, ← z1]; exact heap_alloc_new _ _
    have a0 : w2.cell? ⟨w.heap.size, 0, none⟩ = some (.int .i64 r) := by rw [Lib.cell_of_heap T1]; rfl
    have a1 : w2.cell? ⟨w.heap.size, 1, none⟩ = some (.int .i64 t) := by rw [Lib.cell_of_heap T1]; rfl
    have a2 : w2.cell? ⟨w.heap.size, 2, none⟩ = some (.int .i64 k) := by rw [Lib.cell_of_heap T1]; rfl
    have a3 : w2.cell? ⟨w.heap.size, 3, none⟩ = some (.bool e) := by rw [Lib.cell_of_heap T1]; rfl
    have a4 : w2.cell? ⟨w.heap.size, 4, none⟩ = some (.slice A n c) := by rw [Lib.cell_of_heap T1]; rfl
    have d0 : w2.cell? ⟨w.heap.size + 1, 0, none⟩ = some (.int .i64 r') := by rw [Lib.cell_of_heap T2]; rfl
    have d1 : w2.cell? ⟨w.heap.size + 1, 1, none⟩ = some (.int .i64 t') := by rw [Lib.cell_of_heap T2]; rfl
    have d2 : w2.cell? ⟨w.heap.size + 1, 2, none⟩ = some (.int .i64 k') := by rw [Lib.cell_of_heap T2]; rfl
    have d3 : w2.cell? ⟨w.heap.size + 1, 3, none⟩ = some (.bool e') := by rw [Lib.cell_of_heap T2]; rfl
    have d4 : w2.cell? ⟨w.heap.size + 1, 4, none⟩ = some (.slice A' n' c') := by rw [Lib.cell_of_heap T2]; rfl
    have HB2 := hid b2
    have HT1 := hid T1
    have HT2 := hid T2
    have hW := hid (show (w.alloc (.cells #[.int .i64 r, .int .i64 t, .int .i64 k, .bool e, .slice A n c] 65)).alloc (.cells #[.int .i64 r', .int .i64 t', .int .i64 k', .bool e', .slice A' n' c'] 65) = w2 by rw [hw2, hw1])
    clear ih hsz hsm hr ht hr' ht' hN hn hn' hw1 hw2 z1 b1 b2 T1 T2
    go_enter Try.func16, Try.ntmps16
    go_upto_region 1 with fail
    rw [hW.out]
    clear hW
    have NE := hid (fun (h : ((r == r') && (t == t') && (k == k') && (e == e') && (n == n')) = false) => samt_ne (w := w) (w' := w2) (HN.out false h) HB2.out)
    by_cases hr1 : r = r'
    · subst hr1
      by_cases ht1 : t = t'
      · subst ht1
        by_cases hk1 : k = k'
        · subst hk1
          by_cases he1 : e = e'
          · subst he1
            have he2 : (e == e) = true := by cases e <;> rfl
            by_cases hn1 : n = n'
            · subst hn1
              have hEQ : Hid (Drv.sameTr (.node r t k e s) (.node r t k e s') = Drv.sameTrs s s') := hid (by
                rw [HN.out true (by rw [he2]; simp)]; simp)
              clear NE HN
              go_wp2_with fail
              go_loopw [5] (fun i wx => ∃ j : Nat, j ≤ n ∧ i = .int .i64 j ∧ Hid (Below w.heap.size w wx ∧ wx.heap[w.heap.size]? = some (.cells #[.int .i64 r, .int .i64 t, .int .i64 k, .bool e, .slice A n c] 65 (0, 0)) ∧ wx.heap[w.heap.size + 1]? = some (.cells #[.int .i64 r, .int .i64 t, .int .i64 k, .bool e, .slice A' n c'] 65 (0, 0)) ∧ ∀ q, q < j → ∀ (h : q < s.length) (h' : q < s'.length), Drv.sameTr s[q] s'[q] = true)) (fun i _ => n - (intOf i).toNat)
              case atStart => exact ⟨0, Nat.zero_le _, rfl, hid ⟨HB2.out, HT1.out, HT2.out, fun q h => absurd h (Nat.not_lt_zero _)⟩⟩
              case round =>
                clear a0 a1 a2 a3 a4 d0 d1 d2 d3 d4 HB2 HT1 HT2 w2
                obtain ⟨j, hj, rfl, hJ⟩ := hrel
                obtain ⟨hb, t1, t2, hq⟩ := hJ.out
                have a4 : wr.cell? ⟨w.heap.size, 4, none⟩ = some (.slice A n c) := by rw [Lib.cell_of_heap t1]; rfl
                have d4 : wr.cell? ⟨w.heap.size + 1, 4, none⟩ = some (.slice A' n c') := by rw [Lib.cell_of_heap t2]; rfl
                have hw1l := heap_lt t1
                have hw2l := heap_lt t2
                have HB := hid hb
                have HT1 := hid t1
                have HT2 := hid t2
                have HQ := hid hq
                clear hJ hb t1 t2 hq
                by_cases hlt : j < n
                · have hjs : j < s.length := by rw [HL.out]; exact hlt
                  have hjs' : j < s'.length := by rw [HL'.out]; exact hlt
                  have hltI : (j : Int) < (n : Int) := by omega
                  obtain ⟨b, off, r1, k1, q1, e1, As, c1, hA, hbl, f0, f1, f2, f3, m1, f4, hTV⟩ := TrsV.cells HR.out.1 HR.out.2 j hjs
                  obtain ⟨b', off', r2, k2, q2, e2, As2, c2, hA', hbl', f0', f1', f2', f3', m2, f4', hTV'⟩ := TrsV.cells HR'.out.1 HR'.out.2 j hjs'
                  subst hA hA'
                  have hwr : w.heap.size ≤ wr.heap.size := HB.out.size
                  have ca9 := fun (d : Nat) (o : Array Obj) => Calls.regrown_of (IH.out s[j] s'[j] (grow (redrawn wr d) o) S S' _ _ (by have := Drv.szTrs_at s j hjs; have := HSZ.out; omega) (Drv.smTrs_at s HSM.out j hjs)
                    (TrV.only (Only.of_below ((HB.out).trans ((below_regrown wr d o).mono hwr))) (fun _ _ e => e) _ _ hTV) (TrV.only (Only.of_below ((HB.out).trans ((below_regrown wr d o).mono hwr))) (fun _ _ e => e) _ _ hTV'))
                  have x0 := fun d o => cell_regrown ((HB.out.cell (p := ⟨b, off + j * 5, none⟩) hbl).trans f0) d o
                  have x1 := fun d o => cell_regrown ((HB.out.cell (p := ⟨b, off + j * 5 + 1, none⟩) hbl).trans f1) d o
                  have x2 := fun d o => cell_regrown ((HB.out.cell (p := ⟨b, off + j * 5 + 2, none⟩) hbl).trans f2) d o
                  have x3 := fun d o => cell_regrown ((HB.out.cell (p := ⟨b, off + j * 5 + 3, none⟩) hbl).trans f3) d o
                  have x4 := fun d o => cell_regrown ((HB.out.cell (p := ⟨b, off + j * 5 + 4, none⟩) hbl).trans f4) d o
                  have y0 := fun d o => cell_regrown ((HB.out.cell (p := ⟨b', off' + j * 5, none⟩) hbl').trans f0') d o
                  have y1 := fun d o => cell_regrown ((HB.out.cell (p := ⟨b', off' + j * 5 + 1, none⟩) hbl').trans f1') d o
                  have y2 := fun d o => cell_regrown ((HB.out.cell (p := ⟨b', off' + j * 5 + 2, none⟩) hbl').trans f2') d o
                  have y3 := fun d o => cell_regrown ((HB.out.cell (p := ⟨b', off' + j * 5 + 3, none⟩) hbl').trans f3') d o
                  have y4 := fun d o => cell_regrown ((HB.out.cell (p := ⟨b', off' + j * 5 + 4, none⟩) hbl').trans f4') d o
                  have a4r := fun d o => cell_regrown a4 d o
                  have d4r := fun d o => cell_regrown d4 d o
                  generalize hsb : Drv.sameTr s[j] s'[j] = sb at ca9
                  have HSB := hid hsb
                  clear hsb hTV hTV' f0 f1 f2 f3 f4 f0' f1' f2' f3' f4'
                  have ca : ∀ (d : Nat) (o : Array Obj), Calls Try.prog 16 #[.agg #[.int .i64 r1, .int .i64 k1, .int .i64 q1, .bool e1, .slice As m1 c1], .agg #[.int .i64 r2, .int .i64 k2, .int .i64 q2, .bool e2, .slice As2 m2 c2]] (grow (redrawn wr d) o) fun e w'' => e = .returned (.bool sb) ∧ ∃ p : Regrown, w'' = grow (redrawn wr p.d) p.os := ca9
                  clear ca9
                  cases sb with
                  | true =>
                    go_wp2_with fail
                    refine wp_region_quiet_below (by kernel_rfl) (by kernel_rfl) ?_
                    repeat (quiet_step (exact ca _ _))
                    refine wpQuiet_nil ?_
                    rintro _ ⟨⟨dq, osq⟩, rfl⟩
                    have hb6 := below_regrown wr dq osq
                    generalize grow (redrawn wr dq) osq = w6 at hb6 ⊢
                    have h1 := HB.out.trans (hb6.mono hwr)
                    have h2 := (hb6.block _ hw1l).trans HT1.out
                    have h3 := (hb6.block _ hw2l).trans HT2.out
                    have h4 : ∀ q, q < j + 1 → ∀ (h : q < s.length) (h' : q < s'.length), Drv.sameTr s[q] s'[q] = true := fun q hq h h' => by
                      rcases Nat.lt_succ_iff_lt_or_eq.1 hq with g | rfl
                      · exact HQ.out q g h h'
                      · exact HSB.out
                    have HF := hid (And.intro h1 (And.intro h2 (And.intro h3 h4)))
                    clear h1 h2 h3 h4 hb6 x0 x1 x2 x3 x4 y0 y1 y2 y3 y4 a4r d4r ca a4 d4
                    go_wp2_with fail
                    go_roundw
                    case rel => exact ⟨j + 1, by omega, by go_num, HF⟩
                    case measure => simp [intOf]; omega
                  | false =>
                    have HF : Hid (Drv.sameTr (.node r t k e s) (.node r t k e s') = false) := hid (by
                      rw [hEQ.out]
                      cases g : Drv.sameTrs s s' with
                      | false => rfl
                      | true =>
                        have h9 := (Drv.sameTrs_at s s').1 g j hjs hjs'
                        rw [HSB.out] at h9
                        cases h9)
                    go_wp2_with fail
                    refine wp_region_quiet_below (by kernel_rfl) (by kernel_rfl) ?_
                    repeat (quiet_step (exact ca _ _))
                    refine wpQuiet_nil ?_
                    rintro _ ⟨⟨dq, osq⟩, rfl⟩
                    have hb6 := below_regrown wr dq osq
                    generalize grow (redrawn wr dq) osq = w6 at hb6 ⊢
                    have HE := hid (samt_ne HF.out (HB.out.trans (hb6.mono hwr)))
                    clear hb6 x0 x1 x2 x3 x4 y0 y1 y2 y3 y4 a4r d4r ca a4 d4
                    go_wp2_with fail
                    go_ret
                    exact HE.out
                · have hjn : j = n := by omega
                  subst hjn
                  have HE : Hid (SamtP (.node r t k e s) (.node r t k e s') w (.returned (.bool true)) wr) := hid ⟨(by
                    rw [hEQ.out, (Drv.sameTrs_at s s').2 fun q h h' => HQ.out q (by rw [← HL.out]; exact h) h h']), HB.out⟩
                  go_wp2_with fail
                  go_ret
                  exact HE.out
            · have g1 : ((n : Int) != (n' : Int)) = true := by rw [bne_iff_ne]; omega
              have HF := hid (NE.out (by rw [show (n == n') = false by rw [beq_eq_false_iff_ne]; exact hn1]; simp))
              clear hn1
              go_wp2_with fail
              go_ret
              exact HF.out
          · have g1 : (e == e') = false := by rw [beq_eq_false_iff_ne]; exact he1
            have HF := hid (NE.out (by rw [g1]; simp))
            clear he1
            go_wp2_with fail
            go_ret
            exact HF.out
        · have g1 : (k != k') = true := by rw [bne_iff_ne]; exact hk1
          have HF := hid (NE.out (by rw [show (k == k') = false by rw [beq_eq_false_iff_ne]; exact hk1]; simp))
          clear hk1
          go_wp2_with fail
          go_ret
          exact HF.out
      · have g1 : (t != t') = true := by rw [bne_iff_ne]; exact ht1
        have HF := hid (NE.out (by rw [show (t == t') = false by rw [beq_eq_false_iff_ne]; exact ht1]; simp))
        clear ht1
        go_wp2_with fail
        go_ret
        exact HF.out
    · have g1 : (r != r') = true := by rw [bne_iff_ne]; exact hr1
      have HF := hid (NE.out (by rw [show (r == r') = false by rw [beq_eq_false_iff_ne]; exact hr1]; rfl))
      clear hr1
      go_wp2_with fail
      go_ret
      exact HF.out
end Go.Proofs.Ytgflanlniejflaa
