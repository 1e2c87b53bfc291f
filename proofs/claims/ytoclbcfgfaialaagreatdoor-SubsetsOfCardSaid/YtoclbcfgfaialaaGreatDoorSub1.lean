/-
  Subsets: places that are readable; rising, may: the walks.
-/
import Derived.Test.YtoclbcfgfaialaaGreatDoorBld
namespace Go.Proofs.YtoclbcfgfaialaaGreatDoor
open Go.RowKit
set_option maxRecDepth 100000
/-- the four cells of place i, and what they lead to -/
def PlV (w : World) (B : Nat) (vs : List Value) (i : Nat) (p : Pl) : Prop :=
  ∃ SA cs FA cf, vs[i*4]? = some (.slice SA p.set.length cs) ∧ vs[i*4+1]? = some (.int .i64 p.kind) ∧ vs[i*4+2]? = some (.bool p.last) ∧ vs[i*4+3]? = some (.slice FA p.follow.length cf) ∧
    Reads w B 2 SA p.set.length (flat encR p.set) ∧ Reads w B 1 FA p.follow.length (p.follow.map (Value.int .i64))
/-- a slice of places, readable, below block B -/
def PlsR (w : World) (B : Nat) (A : Option Addr) (ps : List Pl) : Prop :=
  ∃ vs : List Value, Reads w B 4 A ps.length vs ∧ ∀ i (h : i < ps.length), PlV w B vs i ps[i]
theorem PlsR.below {w w' : World} {B : Nat} {A : Option Addr} {ps : List Pl} (h : PlsR w B A ps) (hb : Below B w w') : PlsR w' B A ps := by
  obtain ⟨vs, h1, h2⟩ := h
  refine ⟨vs, h1.below hb, fun i hi => ?_⟩
  obtain ⟨SA, cs, FA, cf, e0, e1, e2, e3, r0, r1⟩ := h2 i hi
  exact ⟨SA, cs, FA, cf, e0, e1, e2, e3, r0.below hb, r1.below hb⟩
theorem PlsR.more {w : World} {B B' : Nat} {A : Option Addr} {ps : List Pl} (h : PlsR w B A ps) (hB : B ≤ B') : PlsR w B' A ps := by
  obtain ⟨vs, h1, h2⟩ := h
  refine ⟨vs, h1.more hB, fun i hi => ?_⟩
  obtain ⟨SA, cs, FA, cf, e0, e1, e2, e3, r0, r1⟩ := h2 i hi
  exact ⟨SA, cs, FA, cf, e0, e1, e2, e3, r0.more hB, r1.more hB⟩
theorem PlsR.at {w : World} {B : Nat} {A : Option Addr} {ps : List Pl} (h : PlsR w B A ps) (i : Nat) (hi : i < ps.length) :
    ∃ b off SA cs FA cf, A = some ⟨b, off, none⟩ ∧ b < B ∧ w.cell? ⟨b, off + i*4, none⟩ = some (.slice SA ps[i].set.length cs) ∧ w.cell? ⟨b, off + i*4 + 1, none⟩ = some (.int .i64 ps[i].kind) ∧
      w.cell? ⟨b, off + i*4 + 2, none⟩ = some (.bool ps[i].last) ∧ w.cell? ⟨b, off + i*4 + 3, none⟩ = some (.slice FA ps[i].follow.length cf) ∧ Reads w B 2 SA ps[i].set.length (flat encR ps[i].set) ∧ Reads w B 1 FA ps[i].follow.length (ps[i].follow.map (Value.int .i64)) := by
  obtain ⟨vs, h1, h2⟩ := h
  obtain ⟨SA, cs, FA, cf, e0, e1, e2, e3, r0, r1⟩ := h2 i hi
  obtain ⟨b, off, rfl, hb, hc⟩ := h1.2 (by omega)
  exact ⟨b, off, SA, cs, FA, cf, rfl, hb, hc _ _ e0, by rw [Nat.add_assoc]; exact hc _ _ e1, by rw [Nat.add_assoc]; exact hc _ _ e2, by rw [Nat.add_assoc]; exact hc _ _ e3, r0, r1⟩
set_option maxHeartbeats 1600000 in
theorem rising_any (A : Option Addr) (c : Nat) (l : List Int) (many : Int) (w : World) (hm : l.length ≤ 1000000000000) (hr : Reads w w.heap.size 1 A l.length (l.map (Value.int .i64))) :
    Calls Tryz.prog 54 #[.slice A l.length c, .int .i64 many] w fun e w' => e = .returned (.bool (risesB l many)) ∧ w = w' := by
  go_enter Tryz.func54, Tryz.ntmps54
  go_wp2
  go_loop [9] (fun i => ∃ k : Nat, k ≤ l.length ∧ i = .int .i64 k ∧ Hid (∀ j, j < k → okAt l many j)) (fun i => l.length - (intOf i).toNat)
  case atStart => exact ⟨0, Nat.zero_le _, rfl, fun j hj => absurd hj (by omega)⟩
  case round =>
    obtain ⟨k, hk, rfl, HN⟩ := hrel
    by_cases hlt : k < l.length
    · have hgk : l.getD k 0 = l[k] := by rw [List.getD_eq_getElem?_getD, List.getElem?_eq_getElem hlt]; rfl
      have HS : Hid (okAt l many k → ∀ j, j < k + 1 → okAt l many j) := fun h j hj => by
        by_cases e : j = k
        · subst e; exact h
        · exact HN.out j (by omega)
      have HF : Hid (¬ okAt l many k → risesB l many = false) := fun h => decide_eq_false fun h2 => h (h2 k hlt)
      clear HN
      cases k with
      | zero =>
        obtain ⟨b, off, rfl, hbl, c0⟩ := readsI hr (Below.refl _ _) 0 hlt
        unfold okAt at HS HF
        rw [hgk] at HS HF
        generalize l[0] = p at c0 HS HF
        clear hgk
        rw [Nat.add_zero] at c0
        by_cases h1 : 0 ≤ p
        · by_cases h2 : p < many
          · have HS2 := hid (HS.out ⟨h1, h2, fun h => absurd h (by omega)⟩)
            clear HS HF
            have h1' : ¬ p < 0 := by omega
            have h2' : ¬ many ≤ p := by omega
            go_wp2
            go_round
            case rel => exact ⟨1, by omega, by simp, HS2⟩
            case measure => simp [intOf]; omega
          · have HF2 := hid (HF.out (fun h => h2 h.2.1))
            clear HS HF
            go_wp2
            go_ret
            exact ⟨ret_bool HF2.out.symm, rfl⟩
        · have HF2 := hid (HF.out (fun h => h1 h.1))
          clear HS HF
          go_wp2
          go_ret
          exact ⟨ret_bool HF2.out.symm, rfl⟩
      | succ j =>
        obtain ⟨b, off, rfl, hbl, c0⟩ := readsI hr (Below.refl _ _) (j + 1) hlt
        obtain ⟨b', off', hA', _, c1⟩ := readsI hr (Below.refl _ _) j (by omega)
        injection hA' with hA'
        injection hA' with hA1 hA2 _
        subst hA1 hA2
        have hgj : l.getD j 0 = l[j]'(by omega) := by rw [List.getD_eq_getElem?_getD, List.getElem?_eq_getElem (by omega)]; rfl
        unfold okAt at HS HF
        rw [hgk, Nat.add_sub_cancel, hgj] at HS HF
        generalize l[j + 1] = p at c0 HS HF
        generalize l[j]'(by omega) = q at c1 HS HF
        clear hgk hgj
        by_cases h1 : 0 ≤ p
        · by_cases h2 : p < many
          · by_cases h3 : q < p
            · have HS2 := hid (HS.out ⟨h1, h2, fun _ => h3⟩)
              clear HS HF
              have h1' : ¬ p < 0 := by omega
              have h2' : ¬ many ≤ p := by omega
              have h3' : ¬ p ≤ q := by omega
              go_wp2
              go_round
              case rel => exact ⟨j + 1 + 1, by omega, by go_num, HS2⟩
              case measure => simp [intOf]; omega
            · have HF2 := hid (HF.out (fun h => h3 (h.2.2 (by omega))))
              clear HS HF
              go_wp2
              go_ret
              exact ⟨ret_bool HF2.out.symm, rfl⟩
          · have HF2 := hid (HF.out (fun h => h2 h.2.1))
            clear HS HF
            go_wp2
            go_ret
            exact ⟨ret_bool HF2.out.symm, rfl⟩
        · have HF2 := hid (HF.out (fun h => h1 h.1))
          clear HS HF
          go_wp2
          go_ret
          exact ⟨ret_bool HF2.out.symm, rfl⟩
    · have HM : Hid (risesB l many = true) := decide_eq_true fun j hj => HN.out j (by omega)
      go_wp2
      go_ret
      exact ⟨ret_bool HM.out.symm, rfl⟩
def plVal (p : Pl) (SA : Option Addr) (cs : Nat) (FA : Option Addr) (cf : Nat) : Value := .agg #[.slice SA p.set.length cs, .int .i64 p.kind, .bool p.last, .slice FA p.follow.length cf]
set_option maxHeartbeats 800000 in
theorem may1_any (p : Pl) (n : Nat) (kk : Int) (PA FA : Option Addr) (SA : Option Addr) (cs cf cp ra : Nat) (w : World) (_hn : n ≤ 1000000000) (hf : p.follow.length ≤ 1000000000)
    (c0 : w.cell? ⟨ra, 0, none⟩ = some (.slice PA n cp)) (c2 : w.cell? ⟨ra, 2, none⟩ = some (.int .i64 kk)) (hra : ra < w.heap.size) (hr : Reads w w.heap.size 1 FA p.follow.length (p.follow.map (Value.int .i64))) :
    Calls Tryz.prog 53 #[plVal p SA cs FA cf, .pointer (some ⟨ra, 0, none⟩)] w fun e w' => e = .returned (.bool (badP n kk p)) ∧ Below w.heap.size w w' := by
  have d0 : ∀ o, (w.alloc o).cell? ⟨ra, 0, none⟩ = some (.slice PA n cp) := fun o => (World.cell?_alloc_lt w o _ hra).trans c0
  have d2 : ∀ o, (w.alloc o).cell? ⟨ra, 2, none⟩ = some (.int .i64 kk) := fun o => (World.cell?_alloc_lt w o _ hra).trans c2
  have hr1 : ∀ o, Reads (w.alloc o) (w.alloc o).heap.size 1 FA p.follow.length (p.follow.map (Value.int .i64)) := fun o => hr.next (below_new _ _)
  have HR := hid hr1
  clear hr1 c0 c2
  unfold plVal badP
  by_cases h1 : 0 ≤ p.kind
  · by_cases h2 : p.kind < kk
    · have h1' : ¬ p.kind < 0 := by omega
      have h2' : ¬ kk ≤ p.kind := by omega
      rw [decide_eq_true h1, decide_eq_true h2]
      generalize hq : risesB p.follow n = q
      have HQ := hid hq
      clear hq
      go_enter Tryz.func53, Tryz.ntmps53
      go_wp2_with fail
      refine (rising_any FA cf p.follow n _ (by omega) (HR.out _)).mono ?_
      rw [HQ.out]
      rintro e w1 ⟨rfl, rfl⟩
      cases q <;>
      (go_wp2_with fail
       go_ret
       exact ⟨rfl, below_new _ _⟩)
    · have h1' : ¬ p.kind < 0 := by omega
      have h2' : kk ≤ p.kind := by omega
      rw [decide_eq_true h1, decide_eq_false h2]
      go_enter Tryz.func53, Tryz.ntmps53
      go_wp2_with fail
      go_ret
      exact ⟨rfl, below_new _ _⟩
  · have h1' : p.kind < 0 := by omega
    rw [decide_eq_false h1]
    go_enter Tryz.func53, Tryz.ntmps53
    go_wp2_with fail
    go_ret
    exact ⟨ret_bool (by simp), below_new _ _⟩
/-- what is asked of a predicate on places -/
def PredP (g : Nat) (cb : Array Value) (q : Pl → Bool) (ps : List Pl) (w : World) : Prop :=
  ∀ (wr : World) (p : Pl) (SA FA : Option Addr) (cs cf : Nat), p ∈ ps → Below w.heap.size w wr → Reads wr wr.heap.size 1 FA p.follow.length (p.follow.map (Value.int .i64)) →
    Calls Tryz.prog g (#[plVal p SA cs FA cf] ++ cb) wr fun e w' => e = .returned (.bool (q p)) ∧ Below wr.heap.size wr w'
set_option maxHeartbeats 800000 in
theorem indexP_any (g : Nat) (cb : Array Value) (q : Pl → Bool) (eg : ∀ args w, (callFunc g args).run Tryz.prog w = .ok (.enter g args) w)
   (A : Option Addr) (c : Nat) (ps : List Pl) (w : World) (hm : ps.length ≤ 1000000000) (hr : PlsR w w.heap.size A ps) (hp : PredP g cb q ps w) :
   Calls Tryz.prog 73 #[.slice A ps.length c, .func (.func g) #[] cb] w fun e w' => e = .returned (.int .i64 (idxI q ps)) ∧ Below w.heap.size w w' := by
  go_enter Tryz.func73, Tryz.ntmps73
  go_wp2
  go_loopw [5, 8] (fun _ i wr => ∃ k : Nat, k ≤ ps.length ∧ i = .int .i64 k ∧ Hid (∀ j (hj : j < ps.length), j < k → q ps[j] = false) ∧ Below w.heap.size w wr) (fun _ i _ => ps.length - (intOf i).toNat)
  case atStart => exact ⟨0, Nat.zero_le _, rfl, fun j _ hj => absurd hj (by omega), Below.refl _ _⟩
  case round =>
    obtain ⟨k, hk, rfl, HN, hb⟩ := hrel
    by_cases hlt : k < ps.length
    · obtain ⟨b, off, SA, cs, FA, cf, rfl, hbl, c0, c1, c2, c3, _, rF⟩ := (hr.below hb).at k hlt
      have rF := rF.more hb.size
      have hmem := List.getElem_mem hlt
      have HQ : Hid (∀ v, q ps[k] = v → q (ps[k]'hlt) = v) := fun v h => h
      generalize hx : ps[k] = x at c0 c1 c2 c3 rF hmem
      have HX := hid hx
      clear hx HQ
      go_wp2_with fail
      refine (hp _ x SA FA cs cf hmem hb rF).mono ?_
      rintro e w1 ⟨rfl, hb1⟩
      have hbw : Below w.heap.size w w1 := hb.trans (hb1.mono hb.size)
      cases hpq : q x with
      | false =>
        go_wp2
        go_roundw
        case rel =>
          refine ⟨k + 1, by omega, by go_num, ?_, hbw⟩
          intro j hj hjk
          by_cases e : j = k
          · subst e; rw [HX.out]; exact hpq
          · exact HN.out j hj (by omega)
        case measure => simp [intOf]; omega
      | true =>
        have hfin : idxI q ps = k := idxI_hit q ps k hlt (by rw [HX.out]; exact hpq) (fun j hj => HN.out j (by omega) hj)
        have HF := hid hfin
        clear hfin
        go_wp2
        go_ret
        exact ⟨ret_int HF.out.symm, hbw⟩
    · go_wp2
      go_ret
      exact ⟨ret_int (idxI_miss q ps fun j hj => HN.out j hj (by omega)).symm, hb⟩
theorem containsP_any (g : Nat) (cb : Array Value) (q : Pl → Bool) (eg : ∀ args w, (callFunc g args).run Tryz.prog w = .ok (.enter g args) w)
   (A : Option Addr) (c : Nat) (ps : List Pl) (w : World) (hm : ps.length ≤ 1000000000) (hr : PlsR w w.heap.size A ps) (hp : PredP g cb q ps w) :
   Calls Tryz.prog 55 #[.slice A ps.length c, .func (.func g) #[] cb] w fun e w' => e = .returned (.bool (ps.any q)) ∧ Below w.heap.size w w' := by
  rw [← idxI_any]
  go_enter Tryz.func55, Tryz.ntmps55
  go_wp2_with (go_at_call 73; refine (indexP_any g cb q eg A c ps _ hm hr hp).mono ?_; rintro e w' ⟨rfl, hb1⟩)
  go_ret
  exact ⟨rfl, hb1⟩
theorem may1_enters : ∀ args w, (callFunc 53 args).run Tryz.prog w = .ok (.enter 53 args) w := fun _ _ => by kernel_rfl
set_option maxHeartbeats 800000 in
theorem may_any (a : Au) (PA FA : Option Addr) (cp cf : Nat) (w : World) (hn : a.places.length ≤ 1000000000) (hf : a.first.length ≤ 1000000000) (hpf : ∀ p ∈ a.places, p.follow.length ≤ 1000000000)
    (hp : PlsR w w.heap.size PA a.places) (hr : Reads w w.heap.size 1 FA a.first.length (a.first.map (Value.int .i64))) :
    Calls Tryz.prog 29 #[.agg #[.slice PA a.places.length cp, .slice FA a.first.length cf, .int .i64 a.kinds]] w fun e w' => e = .returned (.bool (mayB a)) ∧ Below w.heap.size w w' := by
  obtain ⟨wx, hwx⟩ : ∃ wx, Hid (w.alloc (.cells #[.slice PA a.places.length cp, .slice FA a.first.length cf, .int .i64 a.kinds] 25) = wx) := ⟨_, rfl⟩
  have hb : Below w.heap.size w wx := by rw [← hwx.out]; exact below_new _ _
  have hs : w.heap.size < wx.heap.size := by rw [← hwx.out]; simp
  have c0 : wx.cell? ⟨w.heap.size, 0, none⟩ = some (.slice PA a.places.length cp) := by rw [← hwx.out, cell_new]; rfl
  have c1 : wx.cell? ⟨w.heap.size, 1, none⟩ = some (.slice FA a.first.length cf) := by rw [← hwx.out, cell_new]; rfl
  have c2 : wx.cell? ⟨w.heap.size, 2, none⟩ = some (.int .i64 a.kinds) := by rw [← hwx.out, cell_new]; rfl
  have hp1 : PlsR wx wx.heap.size PA a.places := (hp.below hb).more hb.size
  have hr1 := hr.next hb
  have hpred : PredP 53 #[.pointer (some ⟨w.heap.size, 0, none⟩)] (badP a.places.length a.kinds) a.places wx := by
    intro wr p SA FA cs cf hmem hbr hrr
    exact may1_any p a.places.length a.kinds PA FA SA cs cf cp w.heap.size wr hn (hpf p hmem) ((hbr.cell (p := ⟨w.heap.size, 0, none⟩) hs).trans c0) ((hbr.cell (p := ⟨w.heap.size, 2, none⟩) hs).trans c2) (Nat.lt_of_lt_of_le hs hbr.size) hrr
  have HPR := hid hpred
  clear hpred hp hr hpf
  unfold mayB
  generalize hq : risesB a.first a.places.length = q1
  generalize hq2 : a.places.any (badP a.places.length a.kinds) = q2
  have HQ1 := hid hq
  have HQ2 := hid hq2
  clear hq hq2
  go_enter Tryz.func29, Tryz.ntmps29
  go_wp2_with fail
  rw [hwx.out]
  clear hwx
  refine (rising_any FA cf a.first a.places.length _ (by omega) hr1).mono ?_
  rw [HQ1.out]
  rintro e w1 ⟨rfl, rfl⟩
  cases q1 with
  | false =>
    go_wp2_with fail
    go_ret
    exact ⟨rfl, hb⟩
  | true =>
    go_wp2_with fail
    refine (containsP_any 53 _ _ may1_enters PA cp a.places _ hn hp1 HPR.out).mono ?_
    rw [HQ2.out]
    rintro e w2 ⟨rfl, hb2⟩
    cases q2 <;>
    (go_wp2_with fail
     go_ret
     exact ⟨rfl, hb.trans (hb2.mono hb.size)⟩)
end Go.Proofs.YtoclbcfgfaialaaGreatDoor
