/-
  The document's answer for ranges: Kept: the walks, way by way.
-/
import Derived.Test.YtaoipffekmhioaaRef
import Derived.Test.YtaoipffekmhioaaSet
namespace Go.Proofs.Ytaoipffekmhioaa
open Go.RowKit
set_option maxRecDepth 100000
def wantB : Nat → List (List Rg) → Int → Bool
  | 1, lls, x => hasB (lls.getD 0 []) x && !hasB (lls.getD 1 []) x
  | 2, lls, x => hasB (lls.getD 0 []) x && hasB (lls.getD 1 []) x
  | _, lls, x => lls.any fun l => hasB l x
theorem hasB_holds1 (l : List Rg) (x : Int) : hasB l x = true ↔ Holds1 l x := by rw [hasB_iff, any_iff]
theorem bool_eq {a b : Bool} (h : a = true ↔ b = true) : a = b := by cases a <;> cases b <;> simp_all
theorem has_const {lls : List (List Rg)} {pts : List Int} {a b x : Int} (hp : ptsOf lls.flatten = pts) (hn : ∀ p ∈ pts, ¬ (a < p ∧ p < b)) (h1 : a ≤ x) (h2 : x < b) : ∀ l ∈ lls, hasB l x = hasB l a := by
  intro l hl
  refine bool_eq ?_
  rw [hasB_holds1, hasB_holds1]
  refine gap_const (fun p hpp => hn p ?_) h1 h2
  rw [← hp]
  obtain ⟨r, hr, h3⟩ := List.mem_flatMap.1 hpp
  exact List.mem_flatMap.2 ⟨r, List.mem_flatten.2 ⟨l, hl, hr⟩, h3⟩
theorem has_getD {lls : List (List Rg)} {a x : Int} (h : ∀ l ∈ lls, hasB l x = hasB l a) (i : Nat) : hasB (lls.getD i []) x = hasB (lls.getD i []) a := by
  by_cases hi : i < lls.length
  · rw [List.getD_eq_getElem?_getD, List.getElem?_eq_getElem hi]; exact h _ (List.getElem_mem hi)
  · rw [List.getD_eq_getElem?_getD, List.getElem?_eq_none (by omega)]; rfl
theorem want_const {lls : List (List Rg)} {pts : List Int} {a b x : Int} (way : Nat) (hp : ptsOf lls.flatten = pts) (hn : ∀ p ∈ pts, ¬ (a < p ∧ p < b)) (h1 : a ≤ x) (h2 : x < b) : wantB way lls x = wantB way lls a := by
  have h := has_const hp hn h1 h2
  unfold wantB
  split
  · rw [has_getD h, has_getD h]
  · rw [has_getD h, has_getD h]
  · rw [Bool.eq_iff_iff]
    simp only [List.any_eq_true]
    constructor
    · rintro ⟨l, hl, h3⟩; exact ⟨l, hl, by rw [← h l hl]; exact h3⟩
    · rintro ⟨l, hl, h3⟩; exact ⟨l, hl, by rw [h l hl]; exact h3⟩
theorem flatten_mem_le {lls : List (List Rg)} {l : List Rg} (h : l ∈ lls) : l.length ≤ lls.flatten.length := by
  induction lls with
  | nil => cases h
  | cons x r ih =>
    rw [List.flatten_cons, List.length_append]
    rcases List.mem_cons.1 h with e | e
    · subst e; omega
    · have := ih e; omega
theorem Gap.start {pts z : List Int} (h : Gap pts z) (hz : 1 ≤ z.length) : z.getD 0 0 = low32 := by
  rw [List.getD_eq_getElem?_getD, List.getElem?_eq_getElem (by omega)]
  exact h.first (by omega)
theorem Gap.at {pts z : List Int} (h : Gap pts z) (k : Nat) (hk : k + 1 < z.length) : z.getD k 0 < z.getD (k+1) 0 ∧ low32 ≤ z.getD k 0 ∧ z.getD (k+1) 0 ≤ top32 ∧ ∀ p ∈ pts, ¬ (z.getD k 0 < p ∧ p < z.getD (k+1) 0) := by
  simp only [List.getD_eq_getElem?_getD, List.getElem?_eq_getElem (show k < z.length by omega), List.getElem?_eq_getElem hk, Option.getD_some]
  exact ⟨h.rise k hk, (h.in32 _ (List.getElem_mem _)).1, (h.in32 _ (List.getElem_mem _)).2, h.none k hk⟩
theorem gap_last {z : List Int} (h : z.getLast? = some top32) {k : Nat} (hk : k = z.length - 1) : z.getD k 0 = top32 := by
  rw [List.getLast?_eq_getElem?] at h
  rw [List.getD_eq_getElem?_getD, hk, h]
  rfl
/-- two numbers of a readable list, side by side -/
theorem readsI2 {w w' : World} {B : Nat} {A : Option Addr} {z : List Int} (hr : Reads w B 1 A z.length (z.map (Value.int .i64))) (hb : Below B w w') (k : Nat) (hk : k + 1 < z.length) :
    ∃ b off, A = some ⟨b, off, none⟩ ∧ b < B ∧ w'.cell? ⟨b, off + k, none⟩ = some (.int .i64 (z.getD k 0)) ∧ w'.cell? ⟨b, off + (k + 1), none⟩ = some (.int .i64 (z.getD (k+1) 0)) := by
  obtain ⟨b, off, rfl, hbl, hcell⟩ := hr.2 (by omega)
  have g : ∀ j, j < z.length → w'.cell? ⟨b, off + j, none⟩ = some (.int .i64 (z.getD j 0)) := fun j hj =>
    (hb.cell (p := ⟨b, off + j, none⟩) hbl).trans (hcell j _ (by simp [List.getElem?_eq_getElem hj, List.getD_eq_getElem?_getD]))
  exact ⟨b, off, rfl, hbl, g k (by omega), g (k+1) hk⟩
/-- a list of ranges is answered -/
def ReadR (w : World) (m : List Rg) (e : Ending) (w' : World) : Prop :=
  ∃ A' c', e = .returned (.slice A' m.length c') ∧ Reads w' w'.heap.size 2 A' m.length (flat encR m) ∧ Below w.heap.size w w'
set_option maxHeartbeats 8000000 in
theorem refKept0_any (A : Option Addr) (c : Nat) (lls : List (List Rg)) (m : List Rg) (w : World) (hl : lls.length ≤ 1000) (hm : lls.flatten.length ≤ 100000) (hwf : WfL lls.flatten)
    (hmm : Hid (∀ o, KeptI (wantB 0 lls) top32 o → o = m)) (h : LL w A lls) :
    Calls Try.prog 23 #[.slice A lls.length c, .int .i64 0] w (ReadR w m) := by
  obtain ⟨i0, hi, hz0, hz1, hz2⟩ := info_parts infoR
  obtain ⟨pts, hpts⟩ : ∃ pts, Hid (ptsOf lls.flatten = pts) := ⟨_, rfl⟩
  have hpl : pts.length ≤ 200000 := by rw [← hpts.out, ptsOf_len]; omega
  go_enter Try.func23, Try.ntmps23
  go_wp2_with fail
  refine (changes_any A c lls pts w hl hpts hm hwf h).mono ?_
  rintro e w1 ⟨v, z, rfl, hgap, hlast, hzl, hzown, hb1⟩
  obtain ⟨Az, cz, rfl, hzr, _⟩ := Reads.own hzown
  have hll := h.next hb1
  have HL := hid hlast
  have hz1l : 1 ≤ z.length := by cases z with | nil => cases hlast | cons _ _ => simp
  have HG := hid hgap
  clear hlast hgap hzown h
  go_wp2_with fail
  go_loopw [5, 7] (fun v i wr => ∃ (k : Nat) (o : List Rg), k + 1 ≤ z.length ∧ i = .int .i64 k ∧ Hid (KeptI (wantB 0 lls) (z.getD k 0) o) ∧ wr.ownsRow w1.heap.size 42 2 v o.length (flat encR o) ∧ o.length ≤ k ∧ Below w1.heap.size w1 wr) (fun _ i _ => z.length - (intOf i).toNat)
  case atStart => exact ⟨0, [], by omega, rfl, by rw [HG.out.start hz1l]; exact KeptI.nil _, World.ownsRow_nil w1 _ _ _, Nat.zero_le _, Below.refl _ _⟩
  case round =>
    obtain ⟨k, o, hk, rfl, HI, hown, hol, hb⟩ := hrel
    by_cases hlt : k + 1 < z.length
    · obtain ⟨hab, hlo, hhi, hgp⟩ := HG.out.at k hlt
      obtain ⟨bz, oz, rfl, hbz, hcz, hcz1⟩ := readsI2 hzr hb k hlt
      have hll := hll.next hb
      have HT : Hid (wantB 0 lls (z.getD k 0) = true → KeptI (wantB 0 lls) (z.getD (k+1) 0) (addK o (z.getD k 0, z.getD (k+1) 0 - 1))) := fun hw =>
        HI.out.take hab hlo hhi fun x h1 h2 => (want_const _ hpts.out hgp h1 h2).trans hw
      have HF : Hid (wantB 0 lls (z.getD k 0) = false → KeptI (wantB 0 lls) (z.getD (k+1) 0) o) := fun hw =>
        HI.out.skip hab fun x h1 h2 => (want_const _ hpts.out hgp h1 h2).trans hw
      have HZ := hid HI.out.wf
      clear HI hgp
      generalize z.getD k 0 = a at hab hlo hcz HT HF
      generalize hb9 : z.getD (k+1) 0 = b at hab hhi hcz1 HT HF
      have HB9 := hid hb9
      clear hb9
      simp only [wantB] at HT HF
      unfold low32 at hlo
      unfold top32 at hhi
      have e1 : (0 : Int) ≤ (k : Int) := by omega
      have e2 : (k : Int) < (z.length : Int) := by omega
      have e3 : (k : Int).toNat = k := by omega
      have e4 : (k : Int) + 1 < (z.length : Int) := by omega
      have e5 : True := trivial
      go_wp2_with fail
      go_loop [9, 10] (fun n i => ∃ j : Nat, j ≤ lls.length ∧ i = .int .i64 j ∧ n = .bool ((lls.take j).any fun l => hasB l a)) (fun _ i => lls.length - (intOf i).toNat)
      case atStart => exact ⟨0, Nat.zero_le _, rfl, rfl⟩
      case round =>
        obtain ⟨j, hj, rfl, rfl⟩ := hrel
        by_cases hlj : j < lls.length
        · obtain ⟨b3, off3, Ai, ci, rfl, hbl3, hc3, hri⟩ := hll.at j hlj
          have HS : Hid (((lls.take (j+1)).any fun l => hasB l a) = (((lls.take j).any fun l => hasB l a) || hasB lls[j] a)) := by
            rw [List.take_succ_eq_append_getElem hlj, List.any_append]; simp; exact hid trivial
          have hql : lls[j].length ≤ 100000 := by
            have := flatten_take_len lls j hlj
            have := flatten_take_le lls (j+1)
            omega
          generalize lls[j] = q at hc3 hri HS hql
          generalize ((lls.take j).any fun l => hasB l a) = p1 at HS
          clear e1 e2 e3 e4
          cases p1 with
          | true =>
            go_wp2
            go_round
            case rel => exact ⟨j + 1, by omega, by go_num, by rw [HS.out]; rfl⟩
            case measure => simp [intOf]; omega
          | false =>
            go_wp2_with fail
            refine (refHas_any Ai ci q a wr (by omega) hri).mono ?_
            rintro e w9 ⟨rfl, rfl⟩
            go_wp2
            go_round
            case rel => exact ⟨j + 1, by omega, by go_num, by rw [HS.out]; rfl⟩
            case measure => simp [intOf]; omega
        · have hjl : j = lls.length := by omega
          subst hjl
          rw [List.take_length]
          generalize (lls.any fun l => hasB l a) = p1 at HT HF ⊢
          cases p1 with
          | true =>
            have HU : Hid (KeptI (wantB 0 lls) b (addK o (a, b - 1))) := HT.out rfl
            clear HT
            clear HF
            rcases List.eq_nil_or_concat o with h0 | ⟨m0, zz, h0⟩
            · subst h0
              simp only [List.length_nil] at hown hol
              obtain ⟨A3, c3, rfl, _, _⟩ := Reads.own hown
              go_wp2_with fail
              go_quiet (fail)
              clear e1 e2 e3 e4 e5
              go_wp2_with (at_builtin; go_must (refine wpList_push _ rfl _ _ 22 rfl w1.heap.size 42 i0 _ 2 8 Try.underlying22 hi hz0 hz1 hz2 rfl (by omega) _ _ _ rfl (own_drewN hown _) [.int .i32 a, .int .i32 (b - 1)] 1 _ rfl (by simp) rfl (by simp [Value.oneCell']) (by simp only [maxLen]; omega) (by omega) (below_drewN hb _).size ?_); intro v' w' hown' hsz' hB')
              go_roundw
              case rel => exact ⟨k + 1, addK [] (a, b - 1), by omega, by go_num, by rw [HB9.out]; exact HU, by simpa [flat, encR, addK] using hown', by simp [addK], hB' _ (below_drewN hb _)⟩
              case measure => simp [intOf]; omega
            · rw [List.concat_eq_append] at h0
              obtain ⟨j, hj⟩ : ∃ j, m0.length = j := ⟨_, rfl⟩
              have hmj : o.length = j + 1 := by rw [h0]; simp [hj]
              rw [hmj, h0] at hown
              have hown' := hown
              obtain ⟨_, h2⟩ := hown'
              rcases h2 with ⟨_, h2⟩ | ⟨g, cap, cur, rfl, hg, hh, hnc, _⟩
              · exact absurd h2 (by omega)
              have hz := HZ.out zz (by rw [h0]; simp)
              obtain ⟨⟨z1, z2⟩, ⟨z3, z4⟩⟩ := hz
              have hgl := (hown.lt g rfl).2
              have d1 : wr.cell? ⟨g, j*2+1, none⟩ = some (.int .i32 zz.2) := by
                have hgt := (flatR_get (m0 ++ [zz]) j (by simp [hj])).2
                have hgc := hown.cells (g := g) rfl (j*2+1) _ hgt
                rw [show (m0 ++ [zz])[j]'(by simp [hj]) = zz by simp [← hj]] at hgc
                simpa [Addr.add] using hgc
              have d2 : wr.frozen? ⟨g, j*2+1, none⟩ = false := own_frozen hown _
              rw [hmj] at hol
              have HO := hid hown
              clear hown hh hnc hmj HZ
              have H0 := hid h0
              clear h0
              have f1 : IntKind.i64.wrap (j : Int) = j := w64 (by omega) (by omega)
              have f3 : IntKind.i64.wrap zz.2 = zz.2 := w64 (by omega) (by omega)
              have f4 : IntKind.i64.wrap (zz.2 + 1) = zz.2 + 1 := w64 (by omega) (by omega)
              have f5 : (j : Int) < (j : Int) + 1 := by omega
              have f6 : (0 : Int) ≤ (j : Int) := by omega
              have f7 : (j : Int).toNat = j := by omega
              by_cases hle : zz.2 + 1 = a
              · have HLE := hid hle
                have hle2 : (zz.2 + 1 == a) = true := by simpa using hle
                have ea : Hid (addK o (a, b - 1) = m0 ++ [(zz.1, b - 1)]) := by rw [H0.out]; exact hid (by simp [addK, hle])
                clear hle
                go_wp2_with fail
                go_quiet (fail)
                clear e1 e2 e3 e4 e5 f1 f3 f4
                go_wp2
                go_roundw
                case rel =>
                  refine ⟨k + 1, addK o (a, b - 1), by omega, by go_num, by rw [HB9.out]; exact HU, ?_, ?_, ?_⟩
                  · rw [ea.out, show (m0 ++ [(zz.1, b - 1)]).length = j + 1 by simp [hj]]
                    exact ownsRow_setLast hj (own_drewN HO.out _)
                  · rw [ea.out]; simp; omega
                  · exact Below.setCell (below_drewN hb _) hg _
                case measure => simp [intOf]; omega
              · have hle2 : (zz.2 + 1 == a) = false := by simpa using hle
                have ea : Hid (addK o (a, b - 1) = m0 ++ [zz] ++ [(a, b - 1)]) := by rw [H0.out]; exact hid (by simp [addK, hle])
                clear hle
                go_wp2_with fail
                go_quiet (fail)
                clear e1 e2 e3 e4 e5 f1 f3 f4
                go_wp2_with (at_builtin; go_must (refine wpList_push _ rfl _ _ 22 rfl w1.heap.size 42 i0 _ 2 8 Try.underlying22 hi hz0 hz1 hz2 rfl (by omega) _ _ _ rfl (own_drewN HO.out _) [.int .i32 a, .int .i32 (b - 1)] 1 _ rfl (by simp) rfl (by simp [Value.oneCell']) (by simp only [maxLen]; omega) (by omega) (below_drewN hb _).size ?_); intro v' w' hown' hsz' hB')
                go_roundw
                case rel =>
                  refine ⟨k + 1, addK o (a, b - 1), by omega, by go_num, by rw [HB9.out]; exact HU, ?_, ?_, hB' _ (below_drewN hb _)⟩
                  · rw [ea.out, show (m0 ++ [zz] ++ [(a, b - 1)]).length = j + 1 + 1 by simp [hj], flat_snoc]
                    exact hown'
                  · rw [ea.out]; simp; omega
                case measure => simp [intOf]; omega
          | false =>
            have HU : Hid (KeptI (wantB 0 lls) b o) := HF.out rfl
            clear HF
            clear HT e1 e2 e3 e4 HZ
            go_wp2
            go_roundw
            case rel => exact ⟨k + 1, o, by omega, by go_num, by rw [HB9.out]; exact HU, hown, by omega, hb⟩
            case measure => simp [intOf]; omega
    · have hkl : k + 1 = z.length := by omega
      have hm1 : o = m := hmm.out o (by have := HI.out; rwa [gap_last HL.out (show k = z.length - 1 by omega)] at this)
      subst hm1
      obtain ⟨A3, c3, rfl, hr3, hc3⟩ := Reads.own hown
      clear HI
      have hkl2 : ¬ ((k : Int) + 1 < (z.length : Int)) := by omega
      clear hkl
      go_wp2
      go_ret
      exact ⟨A3, c3, rfl, hr3, hb1.trans (hb.mono hb1.size)⟩
end Go.Proofs.Ytaoipffekmhioaa
