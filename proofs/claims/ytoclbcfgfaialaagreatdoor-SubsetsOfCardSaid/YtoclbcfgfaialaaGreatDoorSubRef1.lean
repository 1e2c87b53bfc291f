/-
  Subsets: the document's rising, MayPlaces, like, End: the walks.
-/
import Derived.Test.YtoclbcfgfaialaaGreatDoorSubRefL
import Derived.Test.YtoclbcfgfaialaaGreatDoorSub1
import Derived.Test.YtoclbcfgfaialaaGreatDoorIdx
namespace Go.Proofs.YtoclbcfgfaialaaGreatDoor
open Go.RowKit
set_option maxRecDepth 100000
theorem readsM {α : Type} {f : α → Value} {w w' : World} {B : Nat} {A : Option Addr} {l : List α} (hr : Reads w B 1 A l.length (l.map f)) (hb : Below B w w') (k : Nat) (hk : k < l.length) :
    ∃ b off, A = some ⟨b, off, none⟩ ∧ b < B ∧ w'.cell? ⟨b, off + k, none⟩ = some (f l[k]) := by
  obtain ⟨b, off, rfl, hbl, hcell⟩ := hr.2 (by omega)
  exact ⟨b, off, rfl, hbl, (hb.cell (p := ⟨b, off + k, none⟩) hbl).trans (hcell k _ (by simp [List.getElem?_eq_getElem hk]))⟩
set_option maxHeartbeats 3200000 in
theorem refRising_any (A : Option Addr) (c : Nat) (l : List Int) (many : Int) (w : World) (hm : l.length ≤ 1000000000000) (hr : Reads w w.heap.size 1 A l.length (l.map (Value.int .i64))) :
    Calls Tryz.prog 50 #[.slice A l.length c, .int .i64 many] w fun e w' => e = .returned (.bool (risesB l many)) ∧ Below w.heap.size w w' := by
  go_enter Tryz.func50, Tryz.ntmps50
  go_wp2
  go_loopw [5] (fun i wr => ∃ k : Nat, k ≤ l.length ∧ i = .int .i64 k ∧ Hid (∀ j, j < k → okAt l many j) ∧ Below w.heap.size w wr) (fun i _ => l.length - (intOf i).toNat)
  case atStart => exact ⟨0, Nat.zero_le _, rfl, fun j hj => absurd hj (by omega), Below.refl _ _⟩
  case round =>
    obtain ⟨k, hk, rfl, HN, hb⟩ := hrel
    have HB := hid hb
    by_cases hlt : k < l.length
    · have hgk : l.getD k 0 = l[k] := by rw [List.getD_eq_getElem?_getD, List.getElem?_eq_getElem hlt]; rfl
      have HS : Hid (okAt l many k → ∀ j, j < k + 1 → okAt l many j) := fun h j hj => by
        by_cases e : j = k
        · subst e; exact h
        · exact HN.out j (by omega)
      have HF : Hid (¬ okAt l many k → risesB l many = false) := fun h => decide_eq_false fun h2 => h (h2 k hlt)
      clear HN
      obtain ⟨b, off, rfl, hbl, c0⟩ := readsZ hr hb k hlt
      unfold okAt at HS HF
      rw [hgk] at HS HF
      generalize l[k] = p at c0 HS HF
      clear hgk
      have fails : ∀ (wq : World), Below w.heap.size w wq → risesB l many = false → (Ending.returned (.bool false) = .returned (.bool (risesB l many)) ∧ Below w.heap.size w wq) := fun wq h1 h2 => ⟨by rw [h2], h1⟩
      have FAILS := hid fails
      clear fails
      by_cases h1 : 0 ≤ p
      · have e1 : decide (p < 0) = false := decide_eq_false (by omega)
        by_cases h2 : p < many
        · have e2 : decide (many ≤ p) = false := decide_eq_false (by omega)
          by_cases hk0 : 0 < k
          · have e3 : decide (0 < k) = true := decide_eq_true hk0
            obtain ⟨b', off', hA', _, c1⟩ := readsZ hr hb (k - 1) (by omega)
            injection hA' with hA'
            injection hA' with hA1 hA2 _
            subst hA1 hA2
            have hgj : l.getD (k - 1) 0 = l[k - 1]'(by omega) := by rw [List.getD_eq_getElem?_getD, List.getElem?_eq_getElem (by omega)]; rfl
            rw [hgj] at HS HF
            generalize l[k - 1]'(by omega) = q at c1 HS HF
            clear hgj
            have w1 : IntKind.i64.wrap ((k : Int) - 1) = (k : Int) - 1 := w64 (by omega) (by omega)
            have w2 : ((k : Int) - 1).toNat = k - 1 := by omega
            have w3 : (k : Int) - 1 < (l.length : Int) := by omega
            have w4 : (1 : Int) ≤ (k : Int) := by omega
            by_cases h3 : q < p
            · have e4 : decide (p ≤ q) = false := decide_eq_false (by omega)
              have HS2 := hid (HS.out ⟨h1, h2, fun _ => h3⟩)
              clear HS HF FAILS
              go_wp2_with fail
              go_quiet (fail)
              clear w1 w2 w3 w4
              go_wp2
              go_roundw
              case rel => exact ⟨k + 1, by omega, by go_num, HS2, below_drewN HB.out _⟩
              case measure => simp [intOf]; omega
            · have e4 : decide (p ≤ q) = true := decide_eq_true (by omega)
              have HF2 := hid (HF.out (fun h => h3 (h.2.2 hk0)))
              clear HS HF
              go_wp2_with fail
              go_quiet (fail)
              clear w1 w2 w3 w4
              go_wp2
              go_ret
              exact FAILS.out _ (below_drewN HB.out _) HF2.out
          · have e3 : decide (0 < k) = false := decide_eq_false hk0
            have HS2 := hid (HS.out ⟨h1, h2, fun h => absurd h hk0⟩)
            clear HS HF FAILS
            go_wp2_with fail
            go_quiet (fail)
            go_wp2
            go_roundw
            case rel => exact ⟨k + 1, by omega, by go_num, HS2, below_drewN HB.out _⟩
            case measure => simp [intOf]; omega
        · have e2 : decide (many ≤ p) = true := decide_eq_true (by omega)
          have HF2 := hid (HF.out (fun h => h2 h.2.1))
          clear HS HF
          go_wp2_with fail
          go_quiet (fail)
          go_wp2
          go_ret
          exact FAILS.out _ (below_drewN HB.out _) HF2.out
      · have e1 : decide (p < 0) = true := decide_eq_true (by omega)
        have HF2 := hid (HF.out (fun h => h1 h.1))
        clear HS HF
        go_wp2_with fail
        go_quiet (fail)
        go_wp2
        go_ret
        exact FAILS.out _ (below_drewN HB.out _) HF2.out
    · have HM : Hid (risesB l many = true) := decide_eq_true fun j hj => HN.out j (by omega)
      go_wp2
      go_ret
      exact ⟨ret_bool HM.out.symm, HB.out⟩
set_option maxHeartbeats 1600000 in
theorem like_any (A B : Option Addr) (c d : Nat) (x y : List Bool) (w : World) (hl : Hid (x.length = y.length)) (hm : x.length ≤ 1000000000000) (hra : Reads w w.heap.size 1 A x.length (x.map Value.bool)) (hrb : Reads w w.heap.size 1 B y.length (y.map Value.bool)) :
    Calls Tryz.prog 25 #[.slice A x.length c, .slice B y.length d] w fun e w' => e = .returned (.bool (decide (x = y))) ∧ Below w.heap.size w w' := by
  go_enter Tryz.func25, Tryz.ntmps25
  go_wp2
  go_loopw [5] (fun i wr => ∃ k : Nat, k ≤ x.length ∧ i = .int .i64 k ∧ Hid (∀ j, j < k → x[j]? = y[j]?) ∧ Below w.heap.size w wr) (fun i _ => x.length - (intOf i).toNat)
  case atStart => exact ⟨0, Nat.zero_le _, rfl, fun j hj => absurd hj (by omega), Below.refl _ _⟩
  case round =>
    obtain ⟨k, hk, rfl, HN, hb⟩ := hrel
    have HB := hid hb
    by_cases hlt : k < x.length
    · have hlt2 : k < y.length := by rw [← hl.out]; exact hlt
      obtain ⟨b, off, rfl, hbl, c0⟩ := readsM hra hb k hlt
      obtain ⟨b', off', rfl, hbl', c1⟩ := readsM hrb hb k hlt2
      have HX : Hid (x[k]? = some x[k]) := hid (List.getElem?_eq_getElem hlt)
      have HY : Hid (y[k]? = some y[k]) := hid (List.getElem?_eq_getElem hlt2)
      have hyl : (k : Int) < (y.length : Int) := by omega
      generalize x[k] = p at c0 HX
      generalize y[k] = q at c1 HY
      by_cases e : p = q
      · subst e
        have HS : Hid (∀ j, j < k + 1 → x[j]? = y[j]?) := hid fun j hj => by
          by_cases e : j = k
          · subst e; rw [HX.out, HY.out]
          · exact HN.out j (by omega)
        clear HX HY HN
        cases p <;>
        (go_wp2_with fail
         go_quiet (fail)
         clear hyl
         go_wp2
         go_roundw
         case rel => exact ⟨k + 1, by omega, by go_num, HS, below_drewN HB.out _⟩
         case measure => simp [intOf]; omega)
      · have hne : x ≠ y := fun h => by
          have h1 := HX.out
          rw [h, HY.out] at h1
          injection h1 with h1
          exact e h1.symm
        have HNE := hid hne
        clear hne HX HY HN
        cases p <;> cases q <;> first
          | exact absurd rfl e
          | (clear e
             go_wp2_with fail
             go_quiet (fail)
             clear hyl
             go_wp2
             go_ret
             exact ⟨ret_bool (decide_eq_false HNE.out).symm, below_drewN HB.out _⟩)
    · have heq : x = y := by
        refine List.ext_getElem? fun j => ?_
        by_cases hj : j < k
        · exact HN.out j hj
        · rw [List.getElem?_eq_none (by omega), List.getElem?_eq_none (by rw [← hl.out]; omega)]
      have HEQ := hid heq
      clear heq
      go_wp2
      go_ret
      exact ⟨ret_bool (decide_eq_true HEQ.out).symm, HB.out⟩
theorem badP_step {a : Au} (k : Nat) (h : k < a.places.length) (hN : ∀ j (hj : j < a.places.length), j < k → badP a.places.length a.kinds a.places[j] = false) (hb : badP a.places.length a.kinds a.places[k] = false) :
    ∀ j (hj : j < a.places.length), j < k + 1 → badP a.places.length a.kinds a.places[j] = false := fun j hj hjk => by
  by_cases e : j = k
  · subst e; exact hb
  · exact hN j hj (by omega)
theorem any_false {α : Type} {p : α → Bool} {l : List α} (h : ∀ j (hj : j < l.length), p l[j] = false) : l.any p = false := by
  rw [List.any_eq_false]
  intro x hx
  obtain ⟨j, hj, rfl⟩ := List.getElem_of_mem hx
  simp [h j hj]
theorem any_true {α : Type} {p : α → Bool} {l : List α} (j : Nat) (hj : j < l.length) (h : p l[j] = true) : l.any p = true := List.any_eq_true.2 ⟨_, List.getElem_mem hj, h⟩
set_option maxHeartbeats 3200000 in
theorem mayPlaces_any (a : Au) (PA FA : Option Addr) (cp cf : Nat) (v : Bool) (w : World) (hn : a.places.length ≤ 1000000000) (hf : a.first.length ≤ 1000000000) (hpf : Hid (∀ p ∈ a.places, p.follow.length ≤ 1000000000))
    (hp : PlsR w w.heap.size PA a.places) (hr : Reads w w.heap.size 1 FA a.first.length (a.first.map (Value.int .i64))) (hv : Hid (mayB a = v)) :
    Calls Tryz.prog 22 #[.agg #[.slice PA a.places.length cp, .slice FA a.first.length cf, .int .i64 a.kinds]] w fun e w' => e = .returned (.bool v) ∧ Below w.heap.size w w' := by
  obtain ⟨wx, hwx⟩ : ∃ wx, Hid (w.alloc (.cells #[.slice PA a.places.length cp, .slice FA a.first.length cf, .int .i64 a.kinds] 37) = wx) := ⟨_, rfl⟩
  have hb : Below w.heap.size w wx := by rw [← hwx.out]; exact below_new _ _
  have hs : w.heap.size < wx.heap.size := by rw [← hwx.out]; simp
  have c0 : wx.cell? ⟨w.heap.size, 0, none⟩ = some (.slice PA a.places.length cp) := by rw [← hwx.out, cell_new]; rfl
  have c1 : wx.cell? ⟨w.heap.size, 1, none⟩ = some (.slice FA a.first.length cf) := by rw [← hwx.out, cell_new]; rfl
  have c2 : wx.cell? ⟨w.heap.size, 2, none⟩ = some (.int .i64 a.kinds) := by rw [← hwx.out, cell_new]; rfl
  have hp1 : PlsR wx wx.heap.size PA a.places := (hp.below hb).more hb.size
  have hr1 := hr.next hb
  clear hp hr
  have hV := hv.out
  unfold mayB at hV
  generalize hq1 : risesB a.first a.places.length = q1 at hV
  have HQ1 := hid hq1
  have HV := hid hV
  clear hq1 hV hv
  go_enter Tryz.func22, Tryz.ntmps22
  go_wp2_with fail
  rw [hwx.out]
  clear hwx
  refine (refRising_any FA cf a.first a.places.length _ (by omega) hr1).mono ?_
  rw [HQ1.out]
  rintro e w1 ⟨rfl, hb1⟩
  have hbw := hb.trans (hb1.mono hb.size)
  cases q1 with
  | false =>
    have hv0 : v = false := by rw [← HV.out]; rfl
    subst hv0
    go_wp2
    go_ret
    exact ⟨rfl, hbw⟩
  | true =>
    have d0 := (hb1.cell (p := ⟨w.heap.size, 0, none⟩) hs).trans c0
    have d2 := (hb1.cell (p := ⟨w.heap.size, 2, none⟩) hs).trans c2
    have hs1 := Nat.lt_of_lt_of_le hs hb1.size
    have hp2 : PlsR w1 w1.heap.size PA a.places := (hp1.below hb1).more hb1.size
    clear c0 c1 c2 hp1 hr1
    go_wp2_with fail
    go_loopw [3] (fun i wr => ∃ k : Nat, k ≤ a.places.length ∧ i = .int .i64 k ∧ Hid (∀ j (hj : j < a.places.length), j < k → badP a.places.length a.kinds a.places[j] = false) ∧ Below w1.heap.size w1 wr) (fun i _ => a.places.length - (intOf i).toNat)
    case atStart => exact ⟨0, Nat.zero_le _, rfl, fun j _ hj => absurd hj (by omega), Below.refl _ _⟩
    case round =>
      obtain ⟨k, hk, rfl, HN, hbr⟩ := hrel
      have e0 := (hbr.cell (p := ⟨w.heap.size, 0, none⟩) hs1).trans d0
      have e2 := (hbr.cell (p := ⟨w.heap.size, 2, none⟩) hs1).trans d2
      by_cases hlt : k < a.places.length
      · obtain ⟨b, off, SA, cs, FA', cf', rfl, hbl, z0, z1, z2, z3, _, r1⟩ := (hp2.below hbr).at k hlt
        have hfk := hpf.out _ (List.getElem_mem hlt)
        have HS : Hid (badP a.places.length a.kinds a.places[k] = false → ∀ j (hj : j < a.places.length), j < k + 1 → badP a.places.length a.kinds a.places[j] = false) := hid fun h => badP_step k hlt HN.out h
        have HF : Hid (badP a.places.length a.kinds a.places[k] = true → v = false) := hid fun h => by rw [← HV.out, any_true k hlt h]; rfl
        unfold badP at HS HF
        generalize a.places[k].follow = fol at z3 r1 hfk HS HF
        generalize a.places[k].kind = kd at z1 HS HF
        generalize a.places[k].last = la at z2
        generalize a.places[k].set.length = sl at z0
        generalize hq2 : risesB fol a.places.length = q2 at HS HF
        have HQ2 := hid hq2
        clear hq2
        have hbw2 : Below w.heap.size w wr := hbw.trans (hbr.mono hbw.size)
        obtain ⟨wa, hwa⟩ : ∃ wa, Hid (wr.alloc (.cells #[.slice SA sl cs, .int .i64 kd, .bool la, .slice FA' fol.length cf'] 61) = wa) := ⟨_, rfl⟩
        have hba : Below wr.heap.size wr wa := by rw [← hwa.out]; exact below_new _ _
        have y1 : wa.cell? ⟨wr.heap.size, 1, none⟩ = some (.int .i64 kd) := by rw [← hwa.out, cell_new]; rfl
        have y3 : wa.cell? ⟨wr.heap.size, 3, none⟩ = some (.slice FA' fol.length cf') := by rw [← hwa.out, cell_new]; rfl
        have hsr : w.heap.size < wr.heap.size := Nat.lt_of_lt_of_le hs1 hbr.size
        have g0 := (hba.cell (p := ⟨w.heap.size, 0, none⟩) hsr).trans e0
        have g2 := (hba.cell (p := ⟨w.heap.size, 2, none⟩) hsr).trans e2
        have hbwa : Below w.heap.size w wa := hbw2.trans (hba.mono hbw2.size)
        have hbra : Below w1.heap.size w1 wa := hbr.trans (hba.mono hbr.size)
        by_cases h1 : 0 ≤ kd
        · by_cases h2 : kd < a.kinds
          · have h1' : ¬ kd < 0 := by omega
            have h2' : ¬ a.kinds ≤ kd := by omega
            rw [decide_eq_true h1, decide_eq_true h2] at HS HF
            go_wp2_with fail
            rw [hwa.out]
            refine (refRising_any FA' cf' fol a.places.length _ (by omega) ((r1.below (hba.mono hbr.size)).more (Nat.le_trans hbr.size hba.size))).mono ?_
            rw [HQ2.out]
            rintro e w5 ⟨rfl, hb5⟩
            cases q2 with
            | true =>
              go_wp2_with fail
              go_wp2
              go_roundw
              case rel => exact ⟨k + 1, by omega, by go_num, hid (HS.out rfl), hbra.trans (hb5.mono hbra.size)⟩
              case measure => simp [intOf]; omega
            | false =>
              have hv0 : v = false := HF.out rfl
              subst hv0
              go_wp2
              go_ret
              exact ⟨rfl, hbwa.trans (hb5.mono hbwa.size)⟩
          · have h1' : ¬ kd < 0 := by omega
            have h2' : a.kinds ≤ kd := by omega
            rw [decide_eq_true h1, decide_eq_false h2] at HF
            have hv0 : v = false := HF.out rfl
            subst hv0
            clear HS HF
            go_wp2
            go_ret
            exact ⟨rfl, by rw [hwa.out]; exact hbwa⟩
        · have h1' : kd < 0 := by omega
          rw [decide_eq_false h1] at HF
          have hv0 : v = false := HF.out rfl
          subst hv0
          clear HS HF
          go_wp2
          go_ret
          exact ⟨rfl, by rw [hwa.out]; exact hbwa⟩
      · have hv0 : v = true := by rw [← HV.out, any_false fun j hj => HN.out j hj (by omega)]; rfl
        subst hv0
        clear HN
        go_wp2
        go_ret
        exact ⟨rfl, hbw.trans (hbr.mono hbw.size)⟩
end Go.Proofs.YtoclbcfgfaialaaGreatDoor

/-
  Subsets: the document's End: the walk.
-/
namespace Go.Proofs.YtoclbcfgfaialaaGreatDoor
open Go.RowKit
set_option maxRecDepth 100000
theorem at_get {a : Au} {k : Nat} (h : k < a.places.length) : a.at (k : Int) = a.places[k] := by
  unfold Au.at
  rw [show ((k : Int)).toNat = k by omega, List.getD_eq_getElem?_getD, List.getElem?_eq_getElem h]; rfl
theorem endB_ge {a : Au} (hk : ∀ p ∈ a.places, 0 ≤ p.kind) (bs : List Bool) : ∀ k, -1 ≤ endB a bs k
  | 0 => by show (-1 : Int) ≤ -1; omega
  | k + 1 => by
    rw [endB_succ]
    split
    · exact endStep_ge hk _ _ (endB_ge hk bs k)
    · exact endB_ge hk bs k
set_option maxHeartbeats 3200000 in
theorem end_any (a : Au) (PA FA A : Option Addr) (cp cf c : Nat) (bs : List Bool) (v : Int) (w : World) (hl : Hid (bs.length = a.places.length)) (hn : a.places.length ≤ 1000000000)
    (hp : PlsR w w.heap.size PA a.places) (hr : Reads w w.heap.size 1 A bs.length (bs.map Value.bool)) (hv : Hid (endB a bs bs.length = v)) :
    Calls Tryz.prog 26 #[.agg #[.slice PA a.places.length cp, .slice FA a.first.length cf, .int .i64 a.kinds], .slice A bs.length c] w fun e w' => e = .returned (.int .i64 v) ∧ Below w.heap.size w w' := by
  obtain ⟨wx, hwx⟩ : ∃ wx, Hid (w.alloc (.cells #[.slice PA a.places.length cp, .slice FA a.first.length cf, .int .i64 a.kinds] 37) = wx) := ⟨_, rfl⟩
  have hb : Below w.heap.size w wx := by rw [← hwx.out]; exact below_new _ _
  have hs : w.heap.size < wx.heap.size := by rw [← hwx.out]; simp
  have c0 : wx.cell? ⟨w.heap.size, 0, none⟩ = some (.slice PA a.places.length cp) := by rw [← hwx.out, cell_new]; rfl
  have hp1 : PlsR wx wx.heap.size PA a.places := (hp.below hb).more hb.size
  have hr1 := hr.next hb
  have hbl0 : bs.length ≤ 1000000000 := by rw [hl.out]; exact hn
  clear hp hr
  go_enter Tryz.func26, Tryz.ntmps26
  go_wp2_with fail
  rw [hwx.out]
  clear hwx
  go_loopw [5, 6] (fun t i wr => ∃ (k : Nat) (e : Int), k ≤ bs.length ∧ i = .int .i64 k ∧ t = .int .i64 e ∧ Hid (e = endB a bs k) ∧ Below wx.heap.size wx wr) (fun _ i _ => bs.length - (intOf i).toNat)
  case atStart => exact ⟨0, -1, Nat.zero_le _, rfl, rfl, hid rfl, Below.refl _ _⟩
  case round =>
    obtain ⟨k, e, hk, rfl, rfl, HE, hbr⟩ := hrel
    have d0 := (hbr.cell (p := ⟨w.heap.size, 0, none⟩) hs).trans c0
    by_cases hlt : k < bs.length
    · have hlp : k < a.places.length := by rw [← hl.out]; exact hlt
      obtain ⟨b, off, SA, cs, FA', cf', rfl, hbl, z0, z1, z2, z3, _, _⟩ := (hp1.below hbr).at k hlp
      obtain ⟨b2, off2, rfl, hbl2, y0⟩ := readsM hr1 hbr k hlt
      have HS : Hid (endB a bs (k + 1) = if bs[k] = true then (if a.places[k].last = true ∧ (e < 0 ∨ a.places[k].kind < e) then a.places[k].kind else e) else e) := hid (by
        rw [endB_succ, ← HE.out]
        have : bs.getD k false = bs[k] := by rw [List.getD_eq_getElem?_getD, List.getElem?_eq_getElem hlt]; rfl
        rw [this]
        unfold endStep
        rw [at_get hlp])
      generalize bs[k] = o at y0 HS
      generalize a.places[k].last = la at z2 HS
      generalize a.places[k].kind = kd at z1 HS
      generalize a.places[k].follow.length = fl at z3
      generalize a.places[k].set.length = sl at z0
      obtain ⟨wa, hwa⟩ : ∃ wa, Hid (wr.alloc (.cells #[.slice SA sl cs, .int .i64 kd, .bool la, .slice FA' fl cf'] 61) = wa) := ⟨_, rfl⟩
      have hba : Below wr.heap.size wr wa := by rw [← hwa.out]; exact below_new _ _
      have hbra : Below wx.heap.size wx wa := hbr.trans (hba.mono hbr.size)
      have hlp' : (k : Int) < (a.places.length : Int) := by omega
      have y0' : ∀ q, (wr.alloc q).cell? ⟨b2, off2 + k, none⟩ = some (.bool o) := fun q => (World.cell?_alloc_lt wr q _ (Nat.lt_of_lt_of_le hbl2 hbr.size)).trans y0
      clear y0
      cases o with
      | false =>
        have HS2 : Hid (e = endB a bs (k + 1)) := hid (by rw [HS.out]; rfl)
        clear HS
        go_wp2
        go_roundw
        case rel => exact ⟨k + 1, e, by omega, by go_num, rfl, HS2, by rw [hwa.out]; exact hbra⟩
        case measure => simp [intOf]; omega
      | true =>
        cases la with
        | false =>
          have HS2 : Hid (e = endB a bs (k + 1)) := hid (by rw [HS.out]; simp)
          clear HS
          go_wp2
          go_roundw
          case rel => exact ⟨k + 1, e, by omega, by go_num, rfl, HS2, by rw [hwa.out]; exact hbra⟩
          case measure => simp [intOf]; omega
        | true =>
          by_cases h1 : e < 0
          · have HS2 : Hid (kd = endB a bs (k + 1)) := hid (by rw [HS.out]; simp [h1])
            clear HS
            go_wp2
            go_roundw
            case rel => exact ⟨k + 1, kd, by omega, by go_num, rfl, HS2, by rw [hwa.out]; exact hbra⟩
            case measure => simp [intOf]; omega
          · by_cases h2 : kd < e
            · have HS2 : Hid (kd = endB a bs (k + 1)) := hid (by rw [HS.out]; simp [h2])
              clear HS
              go_wp2
              go_roundw
              case rel => exact ⟨k + 1, kd, by omega, by go_num, rfl, HS2, by rw [hwa.out]; exact hbra⟩
              case measure => simp [intOf]; omega
            · have HS2 : Hid (e = endB a bs (k + 1)) := hid (by rw [HS.out]; simp [h1, h2])
              clear HS
              go_wp2
              go_roundw
              case rel => exact ⟨k + 1, e, by omega, by go_num, rfl, HS2, by rw [hwa.out]; exact hbra⟩
              case measure => simp [intOf]; omega
    · obtain rfl : k = bs.length := by omega
      have hev : e = v := by rw [HE.out]; exact hv.out
      subst hev
      clear HE
      go_wp2
      go_ret
      exact ⟨rfl, hb.trans (hbr.mono hb.size)⟩
end Go.Proofs.YtoclbcfgfaialaaGreatDoor
