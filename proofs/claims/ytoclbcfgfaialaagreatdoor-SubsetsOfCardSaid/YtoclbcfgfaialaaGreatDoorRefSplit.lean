/-
  The document's answer for ranges: Split: the walk.
-/
import Derived.Test.YtoclbcfgfaialaaGreatDoorRefKeptL
import Derived.Test.YtoclbcfgfaialaaGreatDoorLaw
namespace Go.Proofs.YtoclbcfgfaialaaGreatDoor
open Go.RowKit
set_option maxRecDepth 100000
/-- what Split has, so far -/
def SplitI (lls : List (List Rg)) (a : Int) (o : List Rg) : Prop :=
  ∃ ps, Folded lls ps o ∧ (∀ x, Holds1 ps x ↔ low32 ≤ x ∧ x < a ∧ ∃ l ∈ lls, Holds1 l x) ∧ (∀ q ∈ o, q.2 < a) ∧ WfL o
theorem SplitI.nil (lls : List (List Rg)) : SplitI lls low32 [] :=
  ⟨[], ⟨by simp, by simp, by simp, by simp, by simp⟩, fun x => ⟨fun ⟨_, h, _⟩ => absurd h (by simp), fun h => by omega⟩, fun _ h => absurd h (by simp), WfL.nil⟩
theorem held_any (lls : List (List Rg)) (x : Int) : (lls.any fun l => hasB l x) = true ↔ ∃ l ∈ lls, Holds1 l x := by
  rw [List.any_eq_true]
  constructor
  · rintro ⟨l, hl, h⟩; exact ⟨l, hl, (hasB_holds l _).1 h⟩
  · rintro ⟨l, hl, h⟩; exact ⟨l, hl, (hasB_holds l _).2 h⟩
theorem SplitI.skip {lls : List (List Rg)} {a b : Int} {o : List Rg} (h : SplitI lls a o) (hab : a < b) (hw : ∀ x, a ≤ x → x < b → (lls.any fun l => hasB l x) = false) : SplitI lls b o := by
  obtain ⟨ps, h1, h2, h3, h4⟩ := h
  refine ⟨ps, h1, fun x => ?_, fun q hq => by have := h3 q hq; omega, h4⟩
  rw [h2]
  constructor
  · rintro ⟨h5, h6, h7⟩; exact ⟨h5, by omega, h7⟩
  · rintro ⟨h5, h6, h7⟩
    refine ⟨h5, ?_, h7⟩
    rcases Int.lt_or_le x a with h8 | h8
    · exact h8
    · have := hw x h8 h6
      rw [(held_any lls x).2 h7] at this
      cases this
theorem SplitI.take {lls : List (List Rg)} {a b : Int} {o : List Rg} (h : SplitI lls a o) (hab : a < b) (ha : low32 ≤ a) (hb : b ≤ top32) (hc : ∀ x, a ≤ x → x < b → ∀ l ∈ lls, hasB l x = hasB l a) (hw : (lls.any fun l => hasB l a) = true) : SplitI lls b (addS lls o (a, b - 1)) := by
  obtain ⟨ps, h1, h2, h3, h4⟩ := h
  have hal : ∀ x, a ≤ x → x < b → Alike lls a x := fun x h5 h6 l hl => by rw [← hasB_holds, ← hasB_holds, hc x h5 h6 l hl]
  have hF := addS_law lls ps o (a, b - 1) h1 (by simp only; omega) (fun x h5 h6 => hal x h5 (by simp only at h6; omega)) (fun z hz => h3 z hz)
  have hold : ∀ x, Holds1 (ps ++ [(a, b - 1)]) x ↔ low32 ≤ x ∧ x < b ∧ ∃ l ∈ lls, Holds1 l x := by
    intro x
    constructor
    · rintro ⟨z, hz, hx⟩
      rcases List.mem_append.1 hz with e | e
      · have := (h2 x).1 ⟨z, e, hx⟩
        exact ⟨this.1, by omega, this.2.2⟩
      · simp at e; subst e
        simp only at hx
        obtain ⟨l, hl, h5⟩ := (held_any lls a).1 hw
        exact ⟨by omega, by omega, l, hl, (hal x hx.1 (by omega) l hl).1 h5⟩
    · rintro ⟨h5, h6, h7⟩
      rcases Int.lt_or_le x a with h8 | h8
      · obtain ⟨z, hz, hx⟩ := (h2 x).2 ⟨h5, h8, h7⟩
        exact ⟨z, List.mem_append_left _ hz, hx⟩
      · exact ⟨(a, b - 1), by simp, h8, by simp only; omega⟩
  refine ⟨_, hF, hold, fun q hq => ?_, WfL.addS h4 (by unfold Wf low32 top32 at *; simp only; omega)⟩
  have hq1 := hF.some q hq
  have := (hold q.2).1 ((hF.held q.2).1 ⟨q, hq, hq1, Int.le_refl _⟩)
  exact this.2.1
theorem SplitI.last {lls : List (List Rg)} {o : List Rg} (h : SplitI lls top32 o) (hwf : WfL lls.flatten) : SplitP lls (-2147483649) o := by
  obtain ⟨ps, h1, h2, h3, h4⟩ := h
  refine ⟨h1.some, h1.rise, h1.alike, fun x => ?_, h1.apart⟩
  rw [h1.held, h2]
  unfold low32 top32
  constructor
  · rintro ⟨h5, h6, h7⟩; exact ⟨by omega, h7⟩
  · rintro ⟨h5, l, hl, r, hr, h6⟩
    have := hwf r (List.mem_flatten.2 ⟨l, hl, hr⟩)
    unfold Wf at this
    exact ⟨by omega, by omega, l, hl, r, hr, h6⟩
theorem alikeB_all {lls : List (List Rg)} {zz : Rg} {a b : Int} (h : zz.2 + 1 = a) : alikeB lls zz (a, b) = lls.all fun l => hasB l a == hasB l zz.1 := by
  unfold alikeB
  rw [show (zz.2 + 1 == (a, b).1) = true by simpa using h, Bool.true_and, Bool.eq_iff_iff]
  simp only [Bool.not_eq_true', List.any_eq_false, List.all_eq_true, bne_iff_ne, ne_eq, Decidable.not_not, beq_iff_eq]
  exact ⟨fun h l hl => (h l hl).symm, fun h l hl => (h l hl).symm⟩
theorem all_take_false {α : Type} (l : List α) (f : α → Bool) (t : Nat) (h : (l.take t).all f = false) : l.all f = false := by
  rw [List.all_eq_false] at h ⊢
  obtain ⟨x, hx, h⟩ := h
  exact ⟨x, List.mem_of_mem_take hx, h⟩
theorem Reads.drewN {w : World} {B size n : Nat} {A : Option Addr} {xs : List Value} (h : Reads w B size A n xs) (k : Nat) : Reads (w.drewN k) B size A n xs := h
theorem refHas_q (A : Option Addr) (c : Nat) (l : List Rg) (x : Int) (w : World) (hm : l.length ≤ 100000) (hr : Reads w w.heap.size 2 A l.length (flat encR l)) :
    Calls Tryz.prog 52 #[.slice A l.length c, .int .i32 x] w fun e w' => e = .returned (.bool (hasB l x)) ∧ w' = w :=
  (refHas_any A c l x w (by omega) hr).mono fun _ _ ⟨h1, h2⟩ => ⟨h1, h2.symm⟩
/-- a call that leaves the world alone, in a quiet region behind draws -/
theorem quietMore {P : Program} {f : FuncId} {ag : Array Value} {w : World} {i j : Nat} {v : Value} (h : Calls P f ag (w.drewN (i + j)) fun e w' => e = .returned v ∧ w' = w.drewN (i + j)) :
    Calls P f ag (w.drewN (i + j)) fun e w' => e = .returned v ∧ ∃ m, w' = w.drewN (i + m) :=
  h.mono fun _ _ ⟨h1, h2⟩ => ⟨h1, j, h2⟩
theorem addr0 (g k : Nat) : (⟨g, 0, none⟩ : Addr).add k = ⟨g, k, none⟩ := by
  unfold Addr.add; by_cases h : k = 0 <;> simp [h]
set_option maxHeartbeats 16000000 in
theorem refSplit_any (A : Option Addr) (c : Nat) (lls : List (List Rg)) (m : List Rg) (w : World) (hl : lls.length ≤ 1000) (hm : lls.flatten.length ≤ 100000) (hwf : WfL lls.flatten)
    (hmm : Hid (splitOf (lls.map neatOf) = m)) (h : LL w A lls) :
    Calls Tryz.prog 23 #[.slice A lls.length c] w (ReadR w m) := by
  obtain ⟨i0, hi, hz0, hz1, hz2⟩ := info_parts infoR
  obtain ⟨pts, hpts⟩ : ∃ pts, Hid (ptsOf lls.flatten = pts) := ⟨_, rfl⟩
  have hpl : pts.length ≤ 200000 := by rw [← hpts.out, ptsOf_len]; omega
  have HM : Hid (∀ o, SplitI lls top32 o → o = m) := fun o ho => by
    rw [← hmm.out]
    exact split_unique lls _ _ _ (ho.last hwf) (splitOf_law lls _ fun l hl x ⟨r, hr, hx⟩ => by
      have := hwf r (List.mem_flatten.2 ⟨l, hl, hr⟩)
      unfold Wf at this
      omega)
  clear hmm
  go_enter Tryz.func23, Tryz.ntmps23
  go_wp2_with fail
  refine (changes_any A c lls pts w hl hpts hm hwf h).mono ?_
  rintro e w1 ⟨v, z, rfl, hgap, hlast, hzl, hzown, hb1⟩
  obtain ⟨Az, cz, rfl, hzr, _⟩ := Reads.own hzown
  have hll := h.next hb1
  have HL := hid hlast
  have hz1l : 1 ≤ z.length := by cases z with | nil => cases hlast | cons _ _ => simp
  have HG := hid hgap
  clear hlast hgap hzown h
  go_wp2_with fail
  go_loopw [3, 5] (fun v i wr => ∃ (k : Nat) (o : List Rg), k + 1 ≤ z.length ∧ i = .int .i64 k ∧ Hid (SplitI lls (z.getD k 0) o) ∧ wr.ownsRow w1.heap.size 66 2 v o.length (flat encR o) ∧ o.length ≤ k ∧ Below w1.heap.size w1 wr) (fun _ i _ => z.length - (intOf i).toNat)
  case atStart => exact ⟨0, [], by omega, rfl, by rw [HG.out.start hz1l]; exact SplitI.nil _, World.ownsRow_nil w1 _ _ _, Nat.zero_le _, Below.refl _ _⟩
  case round =>
    obtain ⟨k, o, hk, rfl, HI, hown, hol, hb⟩ := hrel
    by_cases hlt : k + 1 < z.length
    · obtain ⟨hab, hlo, hhi, hgp⟩ := HG.out.at k hlt
      obtain ⟨bz, oz, rfl, hbz, hcz, hcz1⟩ := readsI2 hzr hb k hlt
      have hll := hll.next hb
      have HT : Hid ((lls.any fun l => hasB l (z.getD k 0)) = true → SplitI lls (z.getD (k+1) 0) (addS lls o (z.getD k 0, z.getD (k+1) 0 - 1))) := fun hw =>
        HI.out.take hab hlo hhi (fun x h1 h2 => has_const hpts.out hgp h1 h2) hw
      have HF : Hid ((lls.any fun l => hasB l (z.getD k 0)) = false → SplitI lls (z.getD (k+1) 0) o) := fun hw =>
        HI.out.skip hab fun x h1 h2 => (want_const 0 hpts.out hgp h1 h2).trans hw
      have HZ : Hid (WfL o) := by obtain ⟨_, _, _, _, h9⟩ := HI.out; exact h9
      clear HI hgp
      generalize z.getD k 0 = a at hab hlo hcz HT HF
      generalize hb9 : z.getD (k+1) 0 = b at hab hhi hcz1 HT HF
      have HB9 := hid hb9
      clear hb9
      unfold low32 at hlo
      unfold top32 at hhi
      have e1 : (0 : Int) ≤ (k : Int) := by omega
      have e2 : (k : Int) < (z.length : Int) := by omega
      have e3 : (k : Int).toNat = k := by omega
      have e4 : (k : Int) + 1 < (z.length : Int) := by omega
      go_wp2_with fail
      go_loop [7, 8] (fun n i => ∃ j : Nat, j ≤ lls.length ∧ i = .int .i64 j ∧ n = .bool ((lls.take j).any fun l => hasB l a)) (fun _ i => lls.length - (intOf i).toNat)
      case atStart => exact ⟨0, Nat.zero_le _, rfl, rfl⟩
      case round =>
        obtain ⟨j, hj, rfl, rfl⟩ := hrel
        by_cases hlj : j < lls.length
        · obtain ⟨b3, off3, Ai, ci, rfl, hbl3, hc3, hri⟩ := hll.at j hlj
          have HS : Hid (((lls.take (j+1)).any fun l => hasB l a) = (((lls.take j).any fun l => hasB l a) || hasB lls[j] a)) := by
            rw [List.take_succ_eq_append_getElem hlj, List.any_append]; simp; exact hid trivial
          have hql : lls[j].length ≤ 100000 := by
            have := flatten_take_len lls j hlj
            have := flatten_take_le lls (j+1)
            omega
          generalize lls[j] = q at hc3 hri HS hql
          generalize ((lls.take j).any fun l => hasB l a) = p1 at HS
          clear e1 e2 e3 e4
          cases p1 with
          | true =>
            go_wp2
            go_round
            case rel => exact ⟨j + 1, by omega, by go_num, by rw [HS.out]; rfl⟩
            case measure => simp [intOf]; omega
          | false =>
            go_wp2_with fail
            refine (refHas_any Ai ci q a wr (by omega) hri).mono ?_
            rintro e w9 ⟨rfl, rfl⟩
            go_wp2
            go_round
            case rel => exact ⟨j + 1, by omega, by go_num, by rw [HS.out]; rfl⟩
            case measure => simp [intOf]; omega
        · have hjl : j = lls.length := by omega
          subst hjl
          rw [List.take_length]
          rcases Bool.eq_false_or_eq_true (lls.any fun l => hasB l a) with hany | hany
          · have HU : Hid (SplitI lls b (addS lls o (a, b - 1))) := HT.out hany
            have hll0 : (0 : Int) < (lls.length : Int) := by
              rcases Nat.eq_zero_or_pos lls.length with h9 | h9
              · rw [List.eq_nil_of_length_eq_zero h9] at hany; cases hany
              · omega
            rw [hany]
            clear HT HF hany
            rcases List.eq_nil_or_concat o with h0 | ⟨m0, zz, h0⟩
            · subst h0
              simp only [List.length_nil] at hown hol
              obtain ⟨A3, c3, rfl, _, _⟩ := Reads.own hown
              go_wp2_with fail
              go_quiet (fail)
              clear e1 e2 e3 e4
              go_wp2_with fail
              go_loop [10, 11] (fun n i => n = .bool false ∧ i = .int .i64 0) (fun _ _ => 0)
              case atStart => exact ⟨rfl, rfl⟩
              case round =>
                obtain ⟨rfl, rfl⟩ := hrel

                go_wp2_with (at_builtin; go_must (refine wpList_push _ rfl _ _ 28 rfl w1.heap.size 66 i0 _ 2 8 Tryz.underlying28 hi hz0 hz1 hz2 rfl (by omega) _ _ _ rfl (own_drewN hown _) [.int .i32 a, .int .i32 (b - 1)] 1 _ rfl (by simp) rfl (by simp [Value.oneCell']) (by simp only [maxLen]; omega) (by omega) (below_drewN hb _).size ?_); intro v' w' hown' hsz' hB')
                go_roundw
                case rel => exact ⟨k + 1, addS lls [] (a, b - 1), by omega, by go_num, by rw [HB9.out]; exact HU, by simpa [flat, encR, addS] using hown', by simp [addS], hB' _ (below_drewN hb _)⟩
                case measure => simp [intOf]; omega
            · rw [List.concat_eq_append] at h0
              obtain ⟨j, hj⟩ : ∃ j, m0.length = j := ⟨_, rfl⟩
              have hmj : o.length = j + 1 := by rw [h0]; simp [hj]
              rw [hmj, h0] at hown
              have hown' := hown
              obtain ⟨_, h2⟩ := hown'
              rcases h2 with ⟨_, h2⟩ | ⟨g, cap, cur, rfl, hg, hh, hnc, _⟩
              · exact absurd h2 (by omega)
              have hz := HZ.out zz (by rw [h0]; simp)
              obtain ⟨⟨z1, z2⟩, ⟨z3, z4⟩⟩ := hz
              have hgl := (hown.lt g rfl).2
              have d01 : wr.cell? ⟨g, j*2, none⟩ = some (.int .i32 zz.1) ∧ wr.cell? ⟨g, j*2+1, none⟩ = some (.int .i32 zz.2) := by
                have hgt := flatR_get (m0 ++ [zz]) j (by simp [hj])
                rw [show (m0 ++ [zz])[j]'(by simp [hj]) = zz by simp [← hj]] at hgt
                exact ⟨by have h9 := hown.cells (g := g) rfl (j*2) _ hgt.1; rwa [addr0] at h9, by have h9 := hown.cells (g := g) rfl (j*2+1) _ hgt.2; rwa [addr0] at h9⟩
              obtain ⟨d0, d1⟩ := d01
              have d2 : wr.frozen? ⟨g, j*2+1, none⟩ = false := own_frozen hown _
              rw [hmj] at hol
              have HO := hid hown
              clear hown hh hnc hmj HZ
              have H0 := hid h0
              clear h0
              have f1 : IntKind.i64.wrap (j : Int) = j := w64 (by omega) (by omega)
              have f3 : IntKind.i64.wrap zz.2 = zz.2 := w64 (by omega) (by omega)
              have f4 : IntKind.i64.wrap (zz.2 + 1) = zz.2 + 1 := w64 (by omega) (by omega)
              have f5 : (j : Int) < (j : Int) + 1 := by omega
              have f6 : (0 : Int) ≤ (j : Int) := by omega
              have f7 : (j : Int).toNat = j := by omega
              by_cases hle : zz.2 + 1 = a
              · have HAL : Hid (alikeB lls zz (a, b - 1) = lls.all fun l => hasB l a == hasB l zz.1) := alikeB_all hle
                have HE1 : Hid ((lls.all fun l => hasB l a == hasB l zz.1) = true → addS lls o (a, b - 1) = m0 ++ [(zz.1, b - 1)]) := fun h9 => by
                  rw [H0.out]; unfold addS; rw [List.getLast?_concat]; simp only; rw [HAL.out, if_pos h9, List.dropLast_concat]
                have HE2 : Hid ((lls.all fun l => hasB l a == hasB l zz.1) = false → addS lls o (a, b - 1) = m0 ++ [zz] ++ [(a, b - 1)]) := fun h9 => by
                  rw [H0.out]; unfold addS; rw [List.getLast?_concat]; simp only; rw [HAL.out, if_neg (by rw [h9]; decide)]
                have hle2 : (zz.2 + 1 == a) = true := by simpa using hle
                clear hle HAL
                go_wp2_with fail
                go_quiet (fail)
                clear e1 e2 e3 f1 f3 f4
                obtain ⟨wd, hwd⟩ : ∃ wd, Hid (wr.drewN nq = wd) := ⟨_, rfl⟩
                go_wp2_with fail
                go_loopw [10, 11] (fun n i w5 => ∃ t : Nat, t ≤ lls.length ∧ i = .int .i64 t ∧ n = .bool ((lls.take t).all fun l => hasB l a == hasB l zz.1) ∧ Hid (∃ q, w5 = wr.drewN q)) (fun _ i _ => lls.length - (intOf i).toNat)
                case atStart => exact ⟨0, Nat.zero_le _, rfl, by simp, nq, rfl⟩
                case round =>
                  obtain ⟨t, ht, rfl, rfl, HW⟩ := hrel
                  obtain ⟨nq2, rfl⟩ := HW.out
                  clear HW
                  by_cases htl : t < lls.length
                  · obtain ⟨b3, off3, Ai, ci, rfl, hbl3, hc3, hri⟩ := hll.at t htl
                    have HS : Hid (((lls.take (t+1)).all fun l => hasB l a == hasB l zz.1) = (((lls.take t).all fun l => hasB l a == hasB l zz.1) && (hasB lls[t] a == hasB lls[t] zz.1))) := by
                      rw [List.take_succ_eq_append_getElem htl, List.all_append]; simp only [List.all_cons, List.all_nil, Bool.and_true]; exact hid trivial
                    have HX : Hid (((lls.take t).all fun l => hasB l a == hasB l zz.1) = false → (lls.all fun l => hasB l a == hasB l zz.1) = false) := all_take_false _ _ t
                    have hql : lls[t].length ≤ 100000 := Nat.le_trans (flatten_mem_le (List.getElem_mem _)) hm
                    generalize lls[t] = q at hc3 hri HS hql
                    generalize ((lls.take t).all fun l => hasB l a == hasB l zz.1) = p4 at HS HX ⊢
                    cases p4 with
                    | true =>
                      have g1 : (0 : Int) ≤ (t : Int) := by omega
                      have g2 : (t : Int) < (lls.length : Int) := by omega
                      have g3 : (t : Int).toNat = t := by omega
                      have f1 : IntKind.i64.wrap (j : Int) = j := w64 (by omega) (by omega)
                      clear HX e4
                      go_wp2_with fail
                      go_quiet ((go_at_call 52; exact quietMore (refHas_q Ai ci q _ _ hql (hri.drewN _))))
                      clear f1 g2 g3
                      go_wp2
                      go_roundw
                      case rel => exact ⟨t + 1, by omega, by go_num, by rw [HS.out]; rfl, _, rfl⟩
                      case measure => simp [intOf]; omega
                    | false =>
                      have HA := hid (HE2.out (HX.out rfl))
                      clear HX HE1 HE2 HS
                      go_wp2_with (at_builtin; go_must (refine wpList_push _ rfl _ _ 28 rfl w1.heap.size 66 i0 _ 2 8 Tryz.underlying28 hi hz0 hz1 hz2 rfl (by omega) _ _ _ rfl (own_drewN HO.out _) [.int .i32 a, .int .i32 (b - 1)] 1 _ rfl (by simp) rfl (by simp [Value.oneCell']) (by simp only [maxLen]; omega) (by omega) (below_drewN hb _).size ?_); intro v' w' hown' hsz' hB')
                      go_roundw
                      case rel =>
                        refine ⟨k + 1, addS lls o (a, b - 1), by omega, by go_num, by rw [HB9.out]; exact HU, ?_, ?_, hB' _ (below_drewN hb _)⟩
                        · rw [HA.out, show (m0 ++ [zz] ++ [(a, b - 1)]).length = j + 1 + 1 by simp [hj], flat_snoc]
                          exact hown'
                        · rw [HA.out]; simp; omega
                      case measure => simp [intOf]; omega
                  · have htl2 : t = lls.length := by omega
                    subst htl2
                    rw [List.take_length]
                    generalize (lls.all fun l => hasB l a == hasB l zz.1) = p5 at HE1 HE2 ⊢
                    cases p5 with
                    | true =>
                      have HA := hid (HE1.out rfl)
                      clear HE1 HE2 htl
                      go_wp2
                      go_roundw
                      case rel =>
                        refine ⟨k + 1, addS lls o (a, b - 1), by omega, by go_num, by rw [HB9.out]; exact HU, ?_, ?_, ?_⟩
                        · rw [HA.out, show (m0 ++ [(zz.1, b - 1)]).length = j + 1 by simp [hj]]
                          exact ownsRow_setLast hj (own_drewN HO.out _)
                        · rw [HA.out]; simp; omega
                        · exact Below.setCell (below_drewN hb _) hg _
                      case measure => simp [intOf]; omega
                    | false =>
                      have HA := hid (HE2.out rfl)
                      clear HE1 HE2 htl
                      go_wp2_with (at_builtin; go_must (refine wpList_push _ rfl _ _ 28 rfl w1.heap.size 66 i0 _ 2 8 Tryz.underlying28 hi hz0 hz1 hz2 rfl (by omega) _ _ _ rfl (own_drewN HO.out _) [.int .i32 a, .int .i32 (b - 1)] 1 _ rfl (by simp) rfl (by simp [Value.oneCell']) (by simp only [maxLen]; omega) (by omega) (below_drewN hb _).size ?_); intro v' w' hown' hsz' hB')
                      go_roundw
                      case rel =>
                        refine ⟨k + 1, addS lls o (a, b - 1), by omega, by go_num, by rw [HB9.out]; exact HU, ?_, ?_, hB' _ (below_drewN hb _)⟩
                        · rw [HA.out, show (m0 ++ [zz] ++ [(a, b - 1)]).length = j + 1 + 1 by simp [hj], flat_snoc]
                          exact hown'
                        · rw [HA.out]; simp; omega
                      case measure => simp [intOf]; omega
              · have hle2 : (zz.2 + 1 == a) = false := by simpa using hle
                have HA : Hid (addS lls o (a, b - 1) = m0 ++ [zz] ++ [(a, b - 1)]) := by
                  rw [H0.out]; unfold addS; rw [List.getLast?_concat]; simp only
                  rw [if_neg (by unfold alikeB; simp [hle])]
                  exact hid rfl
                clear hle
                go_wp2_with fail
                go_quiet (fail)
                clear e1 e2 e3 e4 f1 f3 f4
                go_wp2_with fail
                go_loop [10, 11] (fun n i => n = .bool false ∧ i = .int .i64 0) (fun _ _ => 0)
                case atStart => exact ⟨rfl, rfl⟩
                case round =>
                  obtain ⟨rfl, rfl⟩ := hrel

                  go_wp2_with (at_builtin; go_must (refine wpList_push _ rfl _ _ 28 rfl w1.heap.size 66 i0 _ 2 8 Tryz.underlying28 hi hz0 hz1 hz2 rfl (by omega) _ _ _ rfl (own_drewN HO.out _) [.int .i32 a, .int .i32 (b - 1)] 1 _ rfl (by simp) rfl (by simp [Value.oneCell']) (by simp only [maxLen]; omega) (by omega) (below_drewN hb _).size ?_); intro v' w' hown' hsz' hB')
                  go_roundw
                  case rel =>
                    refine ⟨k + 1, addS lls o (a, b - 1), by omega, by go_num, by rw [HB9.out]; exact HU, ?_, ?_, hB' _ (below_drewN hb _)⟩
                    · rw [HA.out, show (m0 ++ [zz] ++ [(a, b - 1)]).length = j + 1 + 1 by simp [hj], flat_snoc]
                      exact hown'
                    · rw [HA.out]; simp; omega
                  case measure => simp [intOf]; omega
          · have HU : Hid (SplitI lls b o) := HF.out hany
            rw [hany]
            clear HT HF hany e1 e2 e3 e4 HZ
            go_wp2
            go_roundw
            case rel => exact ⟨k + 1, o, by omega, by go_num, by rw [HB9.out]; exact HU, hown, by omega, hb⟩
            case measure => simp [intOf]; omega
    · have hkl : k + 1 = z.length := by omega
      have hm1 : o = m := HM.out o (by have := HI.out; rwa [gap_last HL.out (show k = z.length - 1 by omega)] at this)
      subst hm1
      obtain ⟨A3, c3, rfl, hr3, hc3⟩ := Reads.own hown
      clear HI
      have hkl2 : ¬ ((k : Int) + 1 < (z.length : Int)) := by omega
      clear hkl
      go_wp2
      go_ret
      exact ⟨A3, c3, rfl, hr3, hb1.trans (hb.mono hb1.size)⟩
end Go.Proofs.YtoclbcfgfaialaaGreatDoor
