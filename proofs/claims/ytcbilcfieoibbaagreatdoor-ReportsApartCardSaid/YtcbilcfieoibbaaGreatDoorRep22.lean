/-
  harbingerlaw25.ReportsTree: the walk.
-/
import Derived.Test.YtcbilcfieoibbaaGreatDoorRep21
import Derived.Test.YtcbilcfieoibbaaGreatDoorRep14
import Derived.Lib.QuietBelow
namespace Go.Proofs.YtcbilcfieoibbaaGreatDoor
open Go.RowKit
open Go.Sort (grow)
set_option maxRecDepth 100000
/-- how long texts are together -/
def sumL (l : List Rp.By) : Nat := (l.map List.length).sum
theorem sumL_snoc (l : List Rp.By) (i : Nat) (h : i < l.length) : sumL (l.take (i + 1)) = sumL (l.take i) + l[i].length := by
  unfold sumL
  rw [List.take_succ_eq_append_getElem h, List.map_append, List.sum_append]
  simp
theorem sumL_le {K : Nat} {l : List Rp.By} (h : ∀ x ∈ l, x.length ≤ K) : sumL l ≤ l.length * K := by
  induction l with
  | nil => simp [sumL]
  | cons x r ih =>
    have h1 := ih fun y hy => h y (by simp [hy])
    have h2 := h x (by simp)
    unfold sumL at h1 ⊢
    rw [List.map_cons, List.sum_cons, List.length_cons, Nat.succ_mul]
    omega
theorem sumL_mem {l : List Rp.By} {x : Rp.By} (h : x ∈ l) : x.length ≤ sumL l := by
  induction l with
  | nil => cases h
  | cons y r ih =>
    unfold sumL at ih ⊢
    rw [List.map_cons, List.sum_cons]
    rcases List.mem_cons.1 h with rfl | h
    · omega
    · have := ih h; omega
theorem sumL_take {K : Nat} {l : List Rp.By} (h : ∀ x ∈ l, x.length ≤ K) (i : Nat) (hi : i ≤ 100) : sumL (l.take i) ≤ 100 * K := by
  have h1 := sumL_le (K := K) (l := l.take i) fun x hx => h x (List.mem_of_mem_take hx)
  have h2 : (l.take i).length ≤ 100 := by rw [List.length_take]; omega
  exact Nat.le_trans h1 (Nat.mul_le_mul_right _ h2)
/-- one of two lists of names, as it lies in memory -/
structure NmAt (W : World) (B b k : Nat) (l : List Rp.By) (A : Option Addr) (c : Nat) : Prop where
  cell : W.cell? ⟨b, k, none⟩ = some (.slice A l.length c)
  sr : SR W B A l
  len : l.length ≤ 8796093022207
  bd : ∀ s ∈ l, s.length ≤ 140737488351232
def nm (n m : List Rp.By) (k : Nat) : List Rp.By := if k = 0 then n else m
def sumN (n m : List Rp.By) (k : Nat) : Nat := if k = 0 then 0 else if k = 1 then sumL (n.take 100) else sumL (n.take 100) + sumL (m.take 100)
theorem sumN_step (n m : List Rp.By) (k : Nat) (h : k < 2) : sumN n m (k + 1) = sumN n m k + sumL ((nm n m k).take 100) := by
  obtain rfl | rfl : k = 0 ∨ k = 1 := by omega
  · simp [sumN, nm]
  · simp [sumN, nm]
theorem sumN_le {n m : List Rp.By} {K : Nat} (hn : ∀ x ∈ n, x.length ≤ K) (hm : ∀ x ∈ m, x.length ≤ K) (k : Nat) : sumN n m k ≤ 200 * K := by
  have h1 := sumL_take hn 100 (by omega)
  have h2 := sumL_take hm 100 (by omega)
  unfold sumN
  repeat' split
  all_goals omega
def TkOK (tk : List Tk) : Prop := ∀ s ∈ txs tk, s.length ≤ 140737488351232
/-- what the law knows of what came in -/
structure TwIn (W : World) (D : WrD) (T : Rp.Tr) (vs : List Value) : Prop where
  tb : TB W.heap.size W
  sr : SR W W.heap.size D.RA D.n
  st : SR W W.heap.size D.TA D.m
  sw : Reads W W.heap.size 3 D.WA D.tk.length (flat encTk D.tk)
  tr : TrR W W.heap.size T vs
theorem SR.next {w w' : World} {A : Option Addr} {l : List Rp.By} (h : SR w w.heap.size A l) (hb : Below w.heap.size w w') : SR w' w'.heap.size A l := Reads.next h hb
theorem TwIn.next {w w' : World} {D : WrD} {T : Rp.Tr} {vs : List Value} (h : TwIn w D T vs) (hb : Below w.heap.size w w') : TwIn w' D T vs :=
  ⟨h.tb.next hb, h.sr.next hb, h.st.next hb, h.sw.next hb, TrR.keep hb hb.size _ _ h.tr⟩
theorem treeQ (D : WrD) (hn : Rp.Short 2000 D.n) (hm : Rp.Short 2000 D.m) (hw : Rp.Short 2000 (txs D.tk)) (T : Rp.Tr) (vs : List Value) (w1 : World) (d : Nat) (os : Array Obj) (hI : TwIn w1 D T vs) (hsz : Rp.szT T ≤ 500) :
    Calls Tryz.prog 12 #[tabV (.slice D.RA D.n.length D.rc) (.slice D.TA D.m.length D.tc), .agg vs.toArray, .slice D.WA D.tk.length D.wc] (grow (redrawn w1 d) os) fun e w'' => e = .returned (.string ⟨(Rp.treeT D.n D.m (txs D.tk) T).toArray⟩) ∧ ∃ p : Regrown, w'' = grow (redrawn w1 p.d) p.os := by
  have hI' := hI.next (below_regrown w1 d os)
  exact Calls.regrown_of (tree_any D 2000 hn hm hw (by omega) (by omega) T vs _ hI'.tb hI'.sr hI'.st hI'.sw hI'.tr (by omega))
theorem refTreeQ (D : WrD) (hn : Rp.Short 2000 D.n) (hm : Rp.Short 2000 D.m) (hw : Rp.Short 2000 (txs D.tk)) (T : Rp.Tr) (vs : List Value) (w1 : World) (d : Nat) (os : Array Obj) (hI : TwIn w1 D T vs) (hsz : Rp.szT T ≤ 500) :
    Calls Tryz.prog 13 #[.agg (tabC (.slice D.RA D.n.length D.rc) (.slice D.TA D.m.length D.tc)), .agg vs.toArray, .slice D.WA D.tk.length D.wc] (grow (redrawn w1 d) os) fun e w'' => e = .returned (.string ⟨(Rp.treeT D.n D.m (txs D.tk) T).toArray⟩) ∧ ∃ p : Regrown, w'' = grow (redrawn w1 p.d) p.os := by
  have hI' := hI.next (below_regrown w1 d os)
  exact Calls.regrown_of (refTree_any _ D 2000 hn hm hw (by omega) (by omega) _ T _ vs (Nat.le_refl _) ⟨hI'.sr, hI'.st, hI'.sw⟩ hI'.tr (by omega) (Nat.le_refl _))
theorem otherQ (RA TA : Option Addr) (rn rc tn tc : Nat) (w1 : World) (d : Nat) (os : Array Obj) : Calls Tryz.prog 14 #[tabV (.slice RA rn rc) (.slice TA tn tc)] (grow (redrawn w1 d) os) fun e w'' => e = .returned (.agg (tabC (.slice RA rn rc) (.slice TA tn tc))) ∧ ∃ p : Regrown, w'' = grow (redrawn w1 p.d) p.os :=
  Calls.regrown_of (other_nil RA TA rn rc tn tc _)
def TwP (w : World) (e : Ending) (w' : World) : Prop := e = .returned (.bool true) ∧ Below w.heap.size w w'
theorem TwP.of {w w' : World} (h : Below w.heap.size w w') : TwP w (.returned (.bool true)) w' := ⟨rfl, h⟩
set_option maxHeartbeats 8000000 in
theorem treeW_big (D : WrD) (r t k : Int) (e0 : Bool) (subs : List Rp.Tr) (A : Option Addr) (ca : Nat) (w : World) (hI : TwIn w D (.node r t k e0 subs) [.int .i64 r, .int .i64 t, .int .i64 k, .bool e0, .slice A subs.length ca])
    (ln : D.n.length ≤ 8796093022207) (lm : D.m.length ≤ 8796093022207) (ltk : D.tk.length ≤ 4398046511103) (bn : ∀ s ∈ D.n, s.length ≤ 140737488351232) (bm : ∀ s ∈ D.m, s.length ≤ 140737488351232) (hbig : 100 < D.tk.length) :
    Calls Tryz.prog 4 #[.agg #[.slice D.RA D.n.length D.rc, .slice D.TA D.m.length D.tc], .agg #[.int .i64 r, .int .i64 t, .int .i64 k, .bool e0, .slice A subs.length ca], .slice D.WA D.tk.length D.wc] w (TwP w) := by
  obtain ⟨W, hW⟩ : ∃ W, W = (w.alloc (.cells #[.slice D.RA D.n.length D.rc, .slice D.TA D.m.length D.tc] 42)).alloc (.cells #[.int .i64 r, .int .i64 t, .int .i64 k, .bool e0, .slice A subs.length ca] 45) := ⟨_, rfl⟩
  have hWo : W = [Obj.cells #[.slice D.RA D.n.length D.rc, .slice D.TA D.m.length D.tc] 42, .cells #[.int .i64 r, .int .i64 t, .int .i64 k, .bool e0, .slice A subs.length ca] 45].foldl World.alloc w := hW
  have hx1 : W.heap[w.heap.size]? = some (.cells #[.slice D.RA D.n.length D.rc, .slice D.TA D.m.length D.tc] 42 (0, 0)) := by rw [hWo]; exact al_at _ _ 0 _ rfl
  have hx2 : W.heap[w.heap.size + 1]? = some (.cells #[.int .i64 r, .int .i64 t, .int .i64 k, .bool e0, .slice A subs.length ca] 45 (0, 0)) := by rw [hWo]; exact al_at _ _ 1 _ rfl
  have hbW : Below w.heap.size w W := by rw [hWo]; exact al_below _ _
  have hWs : w.heap.size + 1 < W.heap.size := by rw [hWo, al_size]; simp
  have hIW := hI.next hbW
  have n0 : W.cell? ⟨w.heap.size, 0, none⟩ = some (.slice D.RA D.n.length D.rc) := by rw [Lib.cell_of_heap hx1]; rfl
  have n1 : W.cell? ⟨w.heap.size, 1, none⟩ = some (.slice D.TA D.m.length D.tc) := by rw [Lib.cell_of_heap hx1]; rfl
  have hN : Hid (∀ j, j < 2 → ∃ A c, NmAt W W.heap.size w.heap.size j (nm D.n D.m j) A c) := hid fun j hj => by
    obtain rfl | rfl : j = 0 ∨ j = 1 := by omega
    · exact ⟨_, _, ⟨n0, hIW.sr, ln, bn⟩⟩
    · exact ⟨_, _, ⟨n1, hIW.st, lm, bm⟩⟩
  have HN0 := hid n0
  have HN1 := hid n1
  have HX2 := hid hx2
  have HBW := hid hbW
  have HI := hid hIW
  clear hx1 hx2 hbW hWo hI hIW n0 n1
  go_enter Tryz.func4, Tryz.ntmps4
  go_wp2_with fail
  rw [← hW]
  clear hW
  go_loop [7, 8] (fun v i => ∃ (j : Nat) (x : Int), j ≤ D.tk.length ∧ i = .int .i64 j ∧ v = .int .i64 x) (fun _ i => D.tk.length - (intOf i).toNat)
  case atStart => exact ⟨0, 0, Nat.zero_le _, rfl, rfl⟩
  case round =>
    obtain ⟨j, x, hj, rfl, rfl⟩ := hrel
    by_cases hlt : j < D.tk.length
    · have f1 : decide ((j : Int) < (D.tk.length : Int)) = true := decide_eq_true (by omega)
      have f1' : decide (j < D.tk.length) = true := decide_eq_true hlt
      obtain ⟨wb, off, hWA, hwb, hcell⟩ := HI.out.sw.2 (by omega)
      have hcx : W.cell? ⟨wb, off + j * 3 + 1, none⟩ = some (.string ⟨(D.tk[j]).2.1.toArray⟩) := by
        have := hcell (j * 3 + 1) _ (by rw [flat_get encTk 3 encTk_len D.tk j hlt 1 (by decide)]; rfl)
        rw [← Nat.add_assoc] at this
        exact this
      rw [hWA]
      have hjt : j < (txs D.tk).length := by unfold txs; simpa using hlt
      have hge : (txs D.tk)[j] = (D.tk[j]).2.1 := by simp [txs]
      clear hge hcell
      generalize (D.tk[j]).2.1 = sx at *
      go_wp2_with fail
      go_round
      case rel => exact ⟨j + 1, _, by omega, by go_num, rfl⟩
      case measure => simp [intOf]; omega
    · obtain rfl : j = D.tk.length := by omega
      have f1 : decide ((D.tk.length : Int) < (D.tk.length : Int)) = false := decide_eq_false (by omega)
      go_wp2_with fail
      go_loop [7, 9] (fun v i => ∃ (q : Nat) (x : Int), q ≤ 2 ∧ i = .int .i64 q ∧ v = .int .i64 x) (fun _ i => 2 - (intOf i).toNat)
      case atStart => exact ⟨0, _, by omega, rfl, rfl⟩
      case round =>
        obtain ⟨q, x, hq, rfl, rfl⟩ := hrel
        by_cases hq2 : q < 2
        · obtain ⟨NA, nc, hNA⟩ := hN.out q hq2
          have k0 := hNA.cell
          have hlen := hNA.len
          have f2 : decide ((q : Int) < 2) = true := decide_eq_true (by omega)
          have f2' : decide (q < 2) = true := decide_eq_true hq2
          go_wp2_with fail
          go_loop [7, 10] (fun v i => ∃ (p : Nat) (x : Int), p ≤ (nm D.n D.m q).length ∧ p ≤ 100 ∧ i = .int .i64 p ∧ v = .int .i64 x) (fun _ i => 100 - (intOf i).toNat)
          case atStart => exact ⟨0, _, Nat.zero_le _, by omega, rfl, rfl⟩
          case round =>
            obtain ⟨p, y, hp, hp1, rfl, rfl⟩ := hrel
            by_cases hlp : p < (nm D.n D.m q).length
            · have f3 : decide ((p : Int) < ((nm D.n D.m q).length : Int)) = true := decide_eq_true (by omega)
              have f3' : decide (p < (nm D.n D.m q).length) = true := decide_eq_true hlp
              by_cases hp2 : p < 100
              · have f4 : decide ((p : Int) < 100) = true := decide_eq_true (by omega)
                have f4' : decide (p < 100) = true := decide_eq_true hp2
                obtain ⟨nb, noff, hnA, hnb, kc⟩ := hNA.sr.at p hlp
                subst hnA
                generalize (nm D.n D.m q)[p] = sx at *
                go_wp2_with fail
                go_round
                case rel => exact ⟨p + 1, _, by omega, by omega, by go_num, rfl⟩
                case measure => simp [intOf]; omega
              · obtain rfl : p = 100 := by omega
                have f4 : decide ((100 : Int) < 100) = false := rfl
                go_wp2_with fail
                go_round
                case rel => exact ⟨q + 1, _, by omega, by go_num, rfl⟩
                case measure => simp [intOf]; omega
            · obtain rfl : p = (nm D.n D.m q).length := by omega
              have f3 : decide (((nm D.n D.m q).length : Int) < ((nm D.n D.m q).length : Int)) = false := decide_eq_false (by omega)
              go_wp2_with fail
              go_round
              case rel => exact ⟨q + 1, _, by omega, by go_num, rfl⟩
              case measure => simp [intOf]; omega
        · obtain rfl : q = 2 := by omega
          have k0 := HN0.out
          have HLV := hid (lives_any W HI.out.tb)
          have ft : decide ((100 : Int) < (D.tk.length : Int)) = true := decide_eq_true (by omega)
          have ft' : decide (100 < D.tk.length) = true := decide_eq_true (by omega)
          by_cases hx : 2000 < x
          · have f5 : decide (2000 < x) = true := decide_eq_true hx
            go_wp2_with fail
            refine HLV.out.mono ?_
            rintro e w2 ⟨rfl, hb2⟩
            go_wp2_with fail
            go_ret
            exact TwP.of (HBW.out.trans (hb2.mono HBW.out.size))
          · have f5 : decide (2000 < x) = false := decide_eq_false hx
            go_wp2_with fail
            refine HLV.out.mono ?_
            rintro e w2 ⟨rfl, hb2⟩
            go_wp2_with fail
            go_ret
            exact TwP.of (HBW.out.trans (hb2.mono HBW.out.size))
set_option maxHeartbeats 8000000 in
theorem treeW_few (D : WrD) (r t k : Int) (e0 : Bool) (subs : List Rp.Tr) (A : Option Addr) (ca : Nat) (w : World) (hI : TwIn w D (.node r t k e0 subs) [.int .i64 r, .int .i64 t, .int .i64 k, .bool e0, .slice A subs.length ca])
    (ln : D.n.length ≤ 8796093022207) (lm : D.m.length ≤ 8796093022207) (ltk : D.tk.length ≤ 4398046511103) (bn : ∀ s ∈ D.n, s.length ≤ 140737488351232) (bm : ∀ s ∈ D.m, s.length ≤ 140737488351232) (bt : ∀ s ∈ txs D.tk, s.length ≤ 140737488351232) (hok : Rp.okT (.node r t k e0 subs)) (hsm : D.tk.length ≤ 100) :
    Calls Tryz.prog 4 #[.agg #[.slice D.RA D.n.length D.rc, .slice D.TA D.m.length D.tc], .agg #[.int .i64 r, .int .i64 t, .int .i64 k, .bool e0, .slice A subs.length ca], .slice D.WA D.tk.length D.wc] w (TwP w) := by
  obtain ⟨W, hW⟩ : ∃ W, W = (w.alloc (.cells #[.slice D.RA D.n.length D.rc, .slice D.TA D.m.length D.tc] 42)).alloc (.cells #[.int .i64 r, .int .i64 t, .int .i64 k, .bool e0, .slice A subs.length ca] 45) := ⟨_, rfl⟩
  have hWo : W = [Obj.cells #[.slice D.RA D.n.length D.rc, .slice D.TA D.m.length D.tc] 42, .cells #[.int .i64 r, .int .i64 t, .int .i64 k, .bool e0, .slice A subs.length ca] 45].foldl World.alloc w := hW
  have hx1 : W.heap[w.heap.size]? = some (.cells #[.slice D.RA D.n.length D.rc, .slice D.TA D.m.length D.tc] 42 (0, 0)) := by rw [hWo]; exact al_at _ _ 0 _ rfl
  have hx2 : W.heap[w.heap.size + 1]? = some (.cells #[.int .i64 r, .int .i64 t, .int .i64 k, .bool e0, .slice A subs.length ca] 45 (0, 0)) := by rw [hWo]; exact al_at _ _ 1 _ rfl
  have hbW : Below w.heap.size w W := by rw [hWo]; exact al_below _ _
  have hWs : w.heap.size + 1 < W.heap.size := by rw [hWo, al_size]; simp
  have hIW := hI.next hbW
  have n0 : W.cell? ⟨w.heap.size, 0, none⟩ = some (.slice D.RA D.n.length D.rc) := by rw [Lib.cell_of_heap hx1]; rfl
  have n1 : W.cell? ⟨w.heap.size, 1, none⟩ = some (.slice D.TA D.m.length D.tc) := by rw [Lib.cell_of_heap hx1]; rfl
  have hN : Hid (∀ j, j < 2 → ∃ A c, NmAt W W.heap.size w.heap.size j (nm D.n D.m j) A c) := hid fun j hj => by
    obtain rfl | rfl : j = 0 ∨ j = 1 := by omega
    · exact ⟨_, _, ⟨n0, hIW.sr, ln, bn⟩⟩
    · exact ⟨_, _, ⟨n1, hIW.st, lm, bm⟩⟩
  have HN0 := hid n0
  have HN1 := hid n1
  have HX2 := hid hx2
  have HBW := hid hbW
  have HI := hid hIW
  clear hx1 hx2 hbW hWo hI hIW n0 n1
  go_enter Tryz.func4, Tryz.ntmps4
  go_wp2_with fail
  rw [← hW]
  clear hW
  go_loop [7, 8] (fun v i => ∃ j : Nat, j ≤ D.tk.length ∧ i = .int .i64 j ∧ v = .int .i64 ((sumL ((txs D.tk).take j) : Nat) : Int)) (fun _ i => D.tk.length - (intOf i).toNat)
  case atStart => exact ⟨0, Nat.zero_le _, rfl, rfl⟩
  case round =>
    obtain ⟨j, hj, rfl, rfl⟩ := hrel
    by_cases hlt : j < D.tk.length
    · have f1 : decide ((j : Int) < (D.tk.length : Int)) = true := decide_eq_true (by omega)
      have f1' : decide (j < D.tk.length) = true := decide_eq_true hlt
      obtain ⟨wb, off, hWA, hwb, hcell⟩ := HI.out.sw.2 (by omega)
      have hcx : W.cell? ⟨wb, off + j * 3 + 1, none⟩ = some (.string ⟨(D.tk[j]).2.1.toArray⟩) := by
        have := hcell (j * 3 + 1) _ (by rw [flat_get encTk 3 encTk_len D.tk j hlt 1 (by decide)]; rfl)
        rw [← Nat.add_assoc] at this
        exact this
      rw [hWA]
      have hjt : j < (txs D.tk).length := by unfold txs; simpa using hlt
      have hge : (txs D.tk)[j] = (D.tk[j]).2.1 := by simp [txs]
      have hst := sumL_snoc (txs D.tk) j hjt
      have hle := sumL_le (K := 140737488351232) (l := (txs D.tk).take j) fun y hy => bt y (List.mem_of_mem_take hy)
      have htl : ((txs D.tk).take j).length ≤ 100 := by rw [List.length_take]; omega
      have hmul : ((txs D.tk).take j).length * 140737488351232 ≤ 100 * 140737488351232 := Nat.mul_le_mul_right _ htl
      have hsl : (D.tk[j]).2.1.length ≤ 140737488351232 := by rw [← hge]; exact bt _ (List.getElem_mem hjt)
      rw [hge] at hst
      have HST := hid hst
      clear hst htl
      have hle : sumL ((txs D.tk).take j) ≤ 14073748835123200 := by omega
      clear hmul
      generalize sumL ((txs D.tk).take j) = s0 at HST hle ⊢
      clear hge hcell
      generalize (D.tk[j]).2.1 = sx at *
      go_wp2_with fail
      go_round
      case rel => exact ⟨j + 1, by omega, by go_num, by rw [HST.out]; go_num⟩
      case measure => simp [intOf]; omega
    · obtain rfl : j = D.tk.length := by omega
      have f1 : decide ((D.tk.length : Int) < (D.tk.length : Int)) = false := decide_eq_false (by omega)
      have hall : (txs D.tk).take D.tk.length = txs D.tk := by rw [← List.length_map (f := fun x : Tk => x.2.1)]; exact List.take_length
      rw [hall]
      have hs0 : sumL (txs D.tk) ≤ 14073748835123200 := by
        have h1 := sumL_le bt
        have h2 : (txs D.tk).length ≤ 100 := by unfold txs; simpa using hsm
        have h3 : (txs D.tk).length * 140737488351232 ≤ 100 * 140737488351232 := Nat.mul_le_mul_right _ h2
        omega
      have HS0 := hid hs0
      clear hs0 hall
      go_wp2_with fail
      go_loop [7, 9] (fun v i => ∃ q : Nat, q ≤ 2 ∧ i = .int .i64 q ∧ v = .int .i64 ((sumL (txs D.tk) + sumN D.n D.m q : Nat) : Int)) (fun _ i => 2 - (intOf i).toNat)
      case atStart => exact ⟨0, by omega, rfl, by simp [sumN]⟩
      case round =>
        obtain ⟨q, hq, rfl, rfl⟩ := hrel
        by_cases hq2 : q < 2
        · obtain ⟨NA, nc, hNA⟩ := hN.out q hq2
          have k0 := hNA.cell
          have hlen := hNA.len
          have hsn := sumN_step D.n D.m q hq2
          have hsq := sumN_le bn bm q
          have HSN := hid hsn
          clear hsn
          have f2 : decide ((q : Int) < 2) = true := decide_eq_true (by omega)
          have f2' : decide (q < 2) = true := decide_eq_true hq2
          go_wp2_with fail
          go_loop [7, 10] (fun v i => ∃ p : Nat, p ≤ (nm D.n D.m q).length ∧ p ≤ 100 ∧ i = .int .i64 p ∧ v = .int .i64 ((sumL (txs D.tk) + sumN D.n D.m q + sumL ((nm D.n D.m q).take p) : Nat) : Int)) (fun _ i => 100 - (intOf i).toNat)
          case atStart => exact ⟨0, Nat.zero_le _, by omega, rfl, by simp [sumL]⟩
          case round =>
            obtain ⟨p, hp, hp1, rfl, rfl⟩ := hrel
            by_cases hlp : p < (nm D.n D.m q).length
            · have f3 : decide ((p : Int) < ((nm D.n D.m q).length : Int)) = true := decide_eq_true (by omega)
              have f3' : decide (p < (nm D.n D.m q).length) = true := decide_eq_true hlp
              by_cases hp2 : p < 100
              · have f4 : decide ((p : Int) < 100) = true := decide_eq_true (by omega)
                have f4' : decide (p < 100) = true := decide_eq_true hp2
                obtain ⟨nb, noff, hnA, hnb, kc⟩ := hNA.sr.at p hlp
                subst hnA
                have hst := sumL_snoc (nm D.n D.m q) p hlp
                have hle := sumL_take hNA.bd p (by omega)
                have hsl := hNA.bd _ (List.getElem_mem hlp)
                have HST := hid hst
                clear hst
                have hs0 := HS0.out
                generalize sumL ((nm D.n D.m q).take p) = s1 at HST hle ⊢
                have hsq' : sumL (txs D.tk) + sumN D.n D.m q ≤ 42221246505369600 := by omega
                generalize sumL (txs D.tk) + sumN D.n D.m q = s2 at hsq' ⊢
                clear hs0
                generalize (nm D.n D.m q)[p] = sx at *
                go_wp2_with fail
                go_round
                case rel => exact ⟨p + 1, by omega, by omega, by go_num, by rw [HST.out]; go_num⟩
                case measure => simp [intOf]; omega
              · obtain rfl : p = 100 := by omega
                have f4 : decide ((100 : Int) < 100) = false := rfl
                rw [Nat.add_assoc, ← HSN.out]
                go_wp2_with fail
                go_round
                case rel => exact ⟨q + 1, by omega, by go_num, by go_num⟩
                case measure => simp [intOf]; omega
            · obtain rfl : p = (nm D.n D.m q).length := by omega
              have f3 : decide (((nm D.n D.m q).length : Int) < ((nm D.n D.m q).length : Int)) = false := decide_eq_false (by omega)
              have hta : (nm D.n D.m q).take (nm D.n D.m q).length = (nm D.n D.m q).take 100 := by rw [List.take_length, List.take_of_length_le hp1]
              rw [hta, Nat.add_assoc, ← HSN.out]
              clear hta
              go_wp2_with fail
              go_round
              case rel => exact ⟨q + 1, by omega, by go_num, by go_num⟩
              case measure => simp [intOf]; omega
        · obtain rfl : q = 2 := by omega
          have k0 := HN0.out
          have HLV := hid (lives_any W HI.out.tb)
          have ft : decide ((100 : Int) < (D.tk.length : Int)) = false := decide_eq_false (by omega)
          have ft' : decide (100 < D.tk.length) = false := decide_eq_false (by omega)
          have hsq := sumN_le bn bm 2
          have hs0 := HS0.out
          obtain ⟨s3, hs3⟩ : ∃ s3, s3 = sumL (txs D.tk) + sumN D.n D.m 2 := ⟨_, rfl⟩
          rw [← hs3]
          have HS3 := hid hs3
          clear hs3 hsq hs0
          by_cases hx : 2000 < s3
          · have f5 : decide ((2000 : Int) < (s3 : Int)) = true := decide_eq_true (by omega)
            have f5' : decide (2000 < s3) = true := decide_eq_true hx
            go_wp2_with fail
            refine HLV.out.mono ?_
            rintro e w2 ⟨rfl, hb2⟩
            go_wp2_with fail
            go_ret
            exact TwP.of (HBW.out.trans (hb2.mono HBW.out.size))
          · have f5 : decide ((2000 : Int) < (s3 : Int)) = false := decide_eq_false (by omega)
            have f5' : decide (2000 < s3) = false := decide_eq_false hx
            have k1 := HN1.out
            by_cases hnm : 100 < D.n.length + D.m.length
            · have f6 : decide ((100 : Int) < (D.n.length : Int) + (D.m.length : Int)) = true := decide_eq_true (by omega)
              have f6' : decide (100 < D.n.length + D.m.length) = true := decide_eq_true hnm
              go_wp2_with fail
              refine HLV.out.mono ?_
              rintro e w2 ⟨rfl, hb2⟩
              go_wp2_with fail
              go_ret
              exact TwP.of (HBW.out.trans (hb2.mono HBW.out.size))
            · have f6 : decide ((100 : Int) < (D.n.length : Int) + (D.m.length : Int)) = false := decide_eq_false (by omega)
              have f6' : decide (100 < D.n.length + D.m.length) = false := decide_eq_false hnm
              have x0 : W.cell? ⟨w.heap.size + 1, 0, none⟩ = some (.int .i64 r) := by rw [Lib.cell_of_heap HX2.out]; rfl
              have x1 : W.cell? ⟨w.heap.size + 1, 1, none⟩ = some (.int .i64 t) := by rw [Lib.cell_of_heap HX2.out]; rfl
              have x2 : W.cell? ⟨w.heap.size + 1, 2, none⟩ = some (.int .i64 k) := by rw [Lib.cell_of_heap HX2.out]; rfl
              have x3 : W.cell? ⟨w.heap.size + 1, 3, none⟩ = some (.bool e0) := by rw [Lib.cell_of_heap HX2.out]; rfl
              have x4 : W.cell? ⟨w.heap.size + 1, 4, none⟩ = some (.slice A subs.length ca) := by rw [Lib.cell_of_heap HX2.out]; rfl
              have HC : Hid (Calls Tryz.prog 11 #[.agg #[.int .i64 r, .int .i64 t, .int .i64 k, .bool e0, .slice A subs.length ca], .int .i64 500] W (CntP (.node r t k e0 subs) 500 W)) := hid (count_any W.heap.size 500 (.node r t k e0 subs) W _ (by omega) HI.out.tr (Nat.le_refl _) hok)
              unfold CntP at HC
              have hcn : Rp.cnt (.node r t k e0 subs) 500 = min (Rp.szT (.node r t k e0 subs)) 501 := rfl
              obtain ⟨c, hc⟩ : ∃ c, c = Rp.cnt (.node r t k e0 subs) 500 := ⟨_, rfl⟩
              rw [← hc] at HC hcn
              have HCN := hid hcn
              clear hc hcn
              by_cases hcc : 500 < c
              · have f7 : decide ((500 : Int) < (c : Int)) = true := decide_eq_true (by omega)
                have f7' : decide (500 < c) = true := decide_eq_true hcc
                go_wp2_with fail
                refine HC.out.mono ?_
                rintro e w2 ⟨rfl, hb2⟩
                have HL2 := hid (lives_any w2 (HI.out.tb.next hb2))
                go_wp2_with fail
                refine HL2.out.mono ?_
                rintro e w3 ⟨rfl, hb3⟩
                go_wp2_with fail
                go_ret
                exact TwP.of (HBW.out.trans ((hb2.trans (hb3.mono hb2.size)).mono HBW.out.size))
              · have f7 : decide ((500 : Int) < (c : Int)) = false := decide_eq_false (by omega)
                have f7' : decide (500 < c) = false := decide_eq_false hcc
                have hsz : Rp.szT (.node r t k e0 subs) ≤ 500 := by have := HCN.out; omega
                have hall : sumL (txs D.tk) ≤ 2000 ∧ sumL D.n ≤ 2000 ∧ sumL D.m ≤ 2000 := by
                  have h1 := HS3.out
                  have h2 : sumN D.n D.m 2 = sumL (D.n.take 100) + sumL (D.m.take 100) := rfl
                  rw [List.take_of_length_le (show D.n.length ≤ 100 by omega), List.take_of_length_le (show D.m.length ≤ 100 by omega)] at h2
                  omega
                have sn : Rp.Short 2000 D.n := fun y hy => Nat.le_trans (sumL_mem hy) hall.2.1
                have sm : Rp.Short 2000 D.m := fun y hy => Nat.le_trans (sumL_mem hy) hall.2.2
                have st : Rp.Short 2000 (txs D.tk) := fun y hy => Nat.le_trans (sumL_mem hy) hall.1
                clear hall
                go_wp2_with fail
                refine HC.out.mono ?_
                rintro e w2 ⟨rfl, hb2⟩
                have hs2 := hb2.size
                have y0 := (hb2.cell (p := ⟨w.heap.size, 0, none⟩) (show w.heap.size < W.heap.size by omega)).trans k0
                have y1 := (hb2.cell (p := ⟨w.heap.size, 1, none⟩) (show w.heap.size < W.heap.size by omega)).trans k1
                go_upto_region 16 with fail
                obtain ⟨w3, hw3⟩ : ∃ w3, w3 = w2.alloc (.cells (tabC (.slice D.RA D.n.length D.rc) (.slice D.TA D.m.length D.tc)) 61) := ⟨_, rfl⟩
                have hx3 : w3.heap[w2.heap.size]? = some (.cells (tabC (.slice D.RA D.n.length D.rc) (.slice D.TA D.m.length D.tc)) 61 (0, 0)) := by rw [hw3]; exact heap_alloc_new _ _
                have hb3 : Below w2.heap.size w2 w3 := by rw [hw3]; exact below_new _ _
                unfold tabC at hw3
                rw [← hw3]
                have hbW3 := hb2.trans (hb3.mono hs2)
                have F0 := fun d os => cell_regrown ((hbW3.cell (p := ⟨w.heap.size + 1, 0, none⟩) hWs).trans x0) d os
                have F1 := fun d os => cell_regrown ((hbW3.cell (p := ⟨w.heap.size + 1, 1, none⟩) hWs).trans x1) d os
                have F2 := fun d os => cell_regrown ((hbW3.cell (p := ⟨w.heap.size + 1, 2, none⟩) hWs).trans x2) d os
                have F3 := fun d os => cell_regrown ((hbW3.cell (p := ⟨w.heap.size + 1, 3, none⟩) hWs).trans x3) d os
                have F4 := fun d os => cell_regrown ((hbW3.cell (p := ⟨w.heap.size + 1, 4, none⟩) hWs).trans x4) d os
                have t0 : w3.cell? ⟨w2.heap.size, 0, none⟩ = some (.slice D.RA D.n.length D.rc) := by rw [Lib.cell_of_heap hx3]; rfl
                have T0 := fun d os => cell_regrown t0 d os
                have t1 : w3.cell? ⟨w2.heap.size, 1, none⟩ = some (.slice D.TA D.m.length D.tc) := by rw [Lib.cell_of_heap hx3]; rfl
                have T1 := fun d os => cell_regrown t1 d os
                have t2 : w3.cell? ⟨w2.heap.size, 2, none⟩ = some (.slice none 0 0) := by rw [Lib.cell_of_heap hx3]; rfl
                have T2 := fun d os => cell_regrown t2 d os
                have t3 : w3.cell? ⟨w2.heap.size, 3, none⟩ = some (.slice none 0 0) := by rw [Lib.cell_of_heap hx3]; rfl
                have T3 := fun d os => cell_regrown t3 d os
                have t4 : w3.cell? ⟨w2.heap.size, 4, none⟩ = some (.slice none 0 0) := by rw [Lib.cell_of_heap hx3]; rfl
                have T4 := fun d os => cell_regrown t4 d os
                have t5 : w3.cell? ⟨w2.heap.size, 5, none⟩ = some (.slice none 0 0) := by rw [Lib.cell_of_heap hx3]; rfl
                have T5 := fun d os => cell_regrown t5 d os
                have t6 : w3.cell? ⟨w2.heap.size, 6, none⟩ = some (.slice none 0 0) := by rw [Lib.cell_of_heap hx3]; rfl
                have T6 := fun d os => cell_regrown t6 d os
                have t7 : w3.cell? ⟨w2.heap.size, 7, none⟩ = some (.slice none 0 0) := by rw [Lib.cell_of_heap hx3]; rfl
                have T7 := fun d os => cell_regrown t7 d os
                have t8 : w3.cell? ⟨w2.heap.size, 8, none⟩ = some (.slice none 0 0) := by rw [Lib.cell_of_heap hx3]; rfl
                have T8 := fun d os => cell_regrown t8 d os
                have t9 : w3.cell? ⟨w2.heap.size, 9, none⟩ = some (.slice none 0 0) := by rw [Lib.cell_of_heap hx3]; rfl
                have T9 := fun d os => cell_regrown t9 d os
                have t10 : w3.cell? ⟨w2.heap.size, 10, none⟩ = some (.slice none 0 0) := by rw [Lib.cell_of_heap hx3]; rfl
                have T10 := fun d os => cell_regrown t10 d os
                have t11 : w3.cell? ⟨w2.heap.size, 11, none⟩ = some (.slice none 0 0) := by rw [Lib.cell_of_heap hx3]; rfl
                have T11 := fun d os => cell_regrown t11 d os
                have t12 : w3.cell? ⟨w2.heap.size, 12, none⟩ = some (.slice none 0 0) := by rw [Lib.cell_of_heap hx3]; rfl
                have T12 := fun d os => cell_regrown t12 d os
                have hI3 := (HI.out.next hb2).next hb3
                have c1 := fun d os => treeQ D sn sm st (.node r t k e0 subs) _ w3 d os hI3 hsz
                have c2 := fun d os => otherQ D.RA D.TA D.n.length D.rc D.m.length D.tc w3 d os
                have c3 := fun d os => refTreeQ D sn sm st (.node r t k e0 subs) _ w3 d os hI3 hsz
                have c5 := fun d os => lives_quiet w3 d os hI3.tb
                generalize Rp.treeT D.n D.m (txs D.tk) (.node r t k e0 subs) = TT at c1 c3
                have HB3 := hid hbW3
                clear hw3 hx3 hb3 hbW3 hI3 sn sm st hsz HCN t0 t1 t2 t3 t4 t5 t6 t7 t8 t9 t10 t11 t12 y0 y1 x0 x1 x2 x3 x4 k0 k1
                unfold tabV at c1 c2
                unfold tabC at c2 c3
                refine wp_region_quiet_below (by kernel_rfl) (by kernel_rfl) ?_
                repeat (quiet_step (first | with_reducible exact c1 _ _ | with_reducible exact c2 _ _ | with_reducible exact c3 _ _ | with_reducible exact c5 _ _))
                refine wpQuiet_nil ?_
                intro _ hw'
                obtain ⟨⟨dq, osq⟩, hw''⟩ := hw'
                subst hw''
                go_wp2_with fail
                go_ret
                exact TwP.of (HBW.out.trans ((HB3.out.trans ((below_regrown w3 dq osq).mono HB3.out.size)).mono HBW.out.size))
end Go.Proofs.YtcbilcfieoibbaaGreatDoor
