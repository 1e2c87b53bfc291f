/-
  RangesHold: the walk over the contracts.
-/
import Derived.Test.YtaoipffekmhioaaLives
namespace Go.Proofs.Ytaoipffekmhioaa
open Go.RowKit
set_option maxRecDepth 100000
theorem partOf_len (a b : List Rg) (held : Bool) : (partOf a b held).length ≤ 2 * (a.length + b.length) := by
  unfold partOf
  have h1 := neatOf_len ((pairs (placesOf (endsOf [neatOf a, neatOf b]))).filter (partB (neatOf a) (neatOf b) held))
  have h2 := List.length_filter_le (partB (neatOf a) (neatOf b) held) (pairs (placesOf (endsOf [neatOf a, neatOf b])))
  have h3 := pairs_len (placesOf (endsOf [neatOf a, neatOf b]))
  have h4 := placesOf_len (endsOf [neatOf a, neatOf b])
  have h5 := endsOf_len [neatOf a, neatOf b]
  have h6 := neatOf_len a
  have h7 := neatOf_len b
  simp at h5
  omega
theorem partOf_wf {a b : List Rg} (ha : WfL a) (hb : WfL b) (held : Bool) : WfL (partOf a b held) := by
  refine WfL.neatOf fun r hr => ?_
  exact pairs_wf (lls := [neatOf a, neatOf b]) (by simpa using ha.neatOf.append hb.neatOf) r (List.mem_filter.1 hr).1
theorem holds_append (a b : List Rg) (x : Int) : Holds1 (a ++ b) x ↔ Holds1 a x ∨ Holds1 b x := by
  constructor
  · rintro ⟨r, hr, hx⟩
    rcases List.mem_append.1 hr with h | h
    · exact .inl ⟨r, h, hx⟩
    · exact .inr ⟨r, h, hx⟩
  · rintro (⟨r, hr, hx⟩ | ⟨r, hr, hx⟩)
    · exact ⟨r, List.mem_append_left _ hr, hx⟩
    · exact ⟨r, List.mem_append_right _ hr, hx⟩
theorem bool_ext {a b : Bool} (h : a = true ↔ b = true) : a = b := by cases a <;> cases b <;> simp_all
set_option maxHeartbeats 8000000 in
theorem hold_walk (a b u m n o : List Rg) (A B : Option Addr) (c d : Nat) (x : Int) (p q : Bool) (w : World) (hla : a.length ≤ 60) (hlb : b.length ≤ 60) (hwa : WfL a) (hwb : WfL b)
    (hu : Hid (neatOf (a ++ b) = u)) (hm : Hid (partOf a b false = m)) (hn : Hid (partOf b a false = n)) (ho : Hid (partOf b a true = o)) (hp : Hid (hasB a x = p)) (hq : Hid (hasB b x = q))
    (ra : Reads w w.heap.size 2 A a.length (flat encR a)) (rb : Reads w w.heap.size 2 B b.length (flat encR b)) :
    Calls Try.prog 5 #[.slice A a.length c, .slice B b.length d, .int .i32 x] w fun e w' => e = .returned (.bool true) ∧ Below w.heap.size w w' := by
  have nu : NeatP u := by rw [← hu.out]; exact (neatOf_law _).1
  have nm : NeatP m := by rw [← hm.out]; exact (partOf_law _ _ _).1
  have no_ : NeatP o := by rw [← ho.out]; exact (partOf_law _ _ _).1
  have wu : WfL u := by rw [← hu.out]; exact (hwa.append hwb).neatOf
  have wm : WfL m := by rw [← hm.out]; exact partOf_wf hwa hwb _
  have wn : WfL n := by rw [← hn.out]; exact partOf_wf hwb hwa _
  have wo : WfL o := by rw [← ho.out]; exact partOf_wf hwb hwa _
  have lu : u.length ≤ 1000 := by have := neatOf_len (a ++ b); rw [hu.out] at this; simp at this; omega
  have lm : m.length ≤ 1000 := by have := partOf_len a b false; rw [hm.out] at this; omega
  have ln : n.length ≤ 1000 := by have := partOf_len b a false; rw [hn.out] at this; omega
  have lo : o.length ≤ 1000 := by have := partOf_len b a true; rw [ho.out] at this; omega
  have xu : ∀ y, Holds1 u y ↔ Holds1 a y ∨ Holds1 b y := fun y => by rw [← hu.out, holds_neat, holds_append]
  have xm : ∀ y, Holds1 m y ↔ Holds1 a y ∧ ¬ Holds1 b y := fun y => by rw [← hm.out, (partOf_law a b false).2]; simp
  have xn : ∀ y, Holds1 n y ↔ Holds1 b y ∧ ¬ Holds1 a y := fun y => by rw [← hn.out, (partOf_law b a false).2]; simp
  have xo : ∀ y, Holds1 o y ↔ Holds1 b y ∧ Holds1 a y := fun y => by rw [← ho.out, (partOf_law b a true).2]; simp
  have hu2 : Hid (neatOf (m ++ (n ++ o)) = u) := neat_unique _ _ (neatOf_law _).1 nu fun y => by
    rw [holds_neat, holds_append, holds_append, xu, xm, xn, xo]
    by_cases h1 : Holds1 a y <;> by_cases h2 : Holds1 b y <;> simp [h1, h2]
  have he : Hid (partOf m b true = []) := neat_unique _ _ (partOf_law _ _ _).1 NeatP.nil fun y => by
    rw [(partOf_law m b true).2, xm]
    by_cases h1 : Holds1 a y <;> by_cases h2 : Holds1 b y <;> simp [h1, h2, holds_nil]
  have hpa : p = true ↔ Holds1 a x := by rw [← hp.out, hasB_holds]
  have hqb : q = true ↔ Holds1 b x := by rw [← hq.out, hasB_holds]
  have hpu : Hid (hasB u x = (p || q)) := bool_ext (by rw [hasB_holds, xu, Bool.or_eq_true, hpa, hqb])
  have hpm : Hid (hasB m x = (p && !q)) := bool_ext (by rw [hasB_holds, xm, Bool.and_eq_true, hpa, Bool.not_eq_true', ← Bool.not_eq_true, hqb])
  have hpo : Hid (hasB o x = (p && q)) := bool_ext (by rw [hasB_holds, xo, Bool.and_eq_true, hpa, hqb, and_comm])
  clear xu xm xn xo hpa hqb
  have hB : Below w.heap.size w w := Below.refl _ _
  cases p <;> cases q <;>
    (go_enter Try.func5, Try.ntmps5
     go_wp2_with fail
     refine (union_at _ 2 [a, b] (a ++ b) u _ (by simp) (hid (by simp)) hu (by simp; omega) (hwa.append hwb) (LL.moved (LL.two 22 ra rb) (by simp))).mono ?_
     rintro e w1 ⟨A1, c1, rfl, o1, hb1⟩
     have hb1 := below_drop hb1
     have ra := ra.next hb1
     have rb := rb.next hb1
     have hB := hB.trans (hb1.mono hB.size)
     have ru := o1.reads
     clear o1
     go_wp2_with fail
     refine (minus_at a b m A B c d _ (by omega) (by omega) hwa hwb hm ra rb).mono ?_
     rintro e w2 ⟨A2, c2, rfl, o2, hb2⟩
     have ra := ra.next hb2
     have rb := rb.next hb2
     have ru := ru.next hb2
     have hB := hB.trans (hb2.mono hB.size)
     have rm := o2.reads
     clear o2
     go_wp2_with fail
     refine (minus_at b a n B A d c _ (by omega) (by omega) hwb hwa hn rb ra).mono ?_
     rintro e w3 ⟨A3, c3, rfl, o3, hb3⟩
     have ra := ra.next hb3
     have rb := rb.next hb3
     have ru := ru.next hb3
     have rm := rm.next hb3
     have hB := hB.trans (hb3.mono hB.size)
     have rn := o3.reads
     clear o3
     go_wp2_with fail
     refine (both_at b a o B A d c _ (by omega) (by omega) hwb hwa ho rb ra).mono ?_
     rintro e w4 ⟨A4, c4, rfl, o4, hb4⟩
     have ra := ra.next hb4
     have rb := rb.next hb4
     have ru := ru.next hb4
     have rm := rm.next hb4
     have rn := rn.next hb4
     have hB := hB.trans (hb4.mono hB.size)
     have ro := o4.reads
     clear o4
     go_wp2_with fail
     refine (has_any A c a x _ (by omega) ra).mono ?_
     rw [hp.out]
     rintro e w5 ⟨rfl, hb5⟩
     have ra := ra.next hb5
     have rb := rb.next hb5
     have ru := ru.next hb5
     have rm := rm.next hb5
     have rn := rn.next hb5
     have ro := ro.next hb5
     have hB := hB.trans (hb5.mono hB.size)
     go_wp2_with fail
     refine (has_any B d b x _ (by omega) rb).mono ?_
     rw [hq.out]
     rintro e w6 ⟨rfl, hb6⟩
     have ra := ra.next hb6
     have rb := rb.next hb6
     have ru := ru.next hb6
     have rm := rm.next hb6
     have rn := rn.next hb6
     have ro := ro.next hb6
     have hB := hB.trans (hb6.mono hB.size)
     go_wp2_with fail
     refine (neatB_any A1 c1 u _ (by omega) wu nu ru).mono ?_
     rintro e w7 ⟨rfl, hb7⟩
     have ra := ra.next hb7
     have rb := rb.next hb7
     have ru := ru.next hb7
     have rm := rm.next hb7
     have rn := rn.next hb7
     have ro := ro.next hb7
     have hB := hB.trans (hb7.mono hB.size)
     go_wp2_with fail
     refine (neatB_any A2 c2 m _ (by omega) wm nm rm).mono ?_
     rintro e w8 ⟨rfl, hb8⟩
     have ra := ra.next hb8
     have rb := rb.next hb8
     have ru := ru.next hb8
     have rm := rm.next hb8
     have rn := rn.next hb8
     have ro := ro.next hb8
     have hB := hB.trans (hb8.mono hB.size)
     go_wp2_with fail
     refine (neatB_any A4 c4 o _ (by omega) wo no_ ro).mono ?_
     rintro e w9 ⟨rfl, hb9⟩
     have ra := ra.next hb9
     have rb := rb.next hb9
     have ru := ru.next hb9
     have rm := rm.next hb9
     have rn := rn.next hb9
     have ro := ro.next hb9
     have hB := hB.trans (hb9.mono hB.size)
     go_wp2_with fail
     refine (has_any A1 c1 u x _ (by omega) ru).mono ?_
     rw [hpu.out]
     rintro e w10 ⟨rfl, hb10⟩
     have ra := ra.next hb10
     have rb := rb.next hb10
     have ru := ru.next hb10
     have rm := rm.next hb10
     have rn := rn.next hb10
     have ro := ro.next hb10
     have hB := hB.trans (hb10.mono hB.size)
     go_wp2_with fail
     refine (has_any A2 c2 m x _ (by omega) rm).mono ?_
     rw [hpm.out]
     rintro e w11 ⟨rfl, hb11⟩
     have ra := ra.next hb11
     have rb := rb.next hb11
     have ru := ru.next hb11
     have rm := rm.next hb11
     have rn := rn.next hb11
     have ro := ro.next hb11
     have hB := hB.trans (hb11.mono hB.size)
     go_wp2_with fail
     refine (has_any A4 c4 o x _ (by omega) ro).mono ?_
     rw [hpo.out]
     rintro e w12 ⟨rfl, hb12⟩
     have ra := ra.next hb12
     have rb := rb.next hb12
     have ru := ru.next hb12
     have rm := rm.next hb12
     have rn := rn.next hb12
     have ro := ro.next hb12
     have hB := hB.trans (hb12.mono hB.size)
     go_wp2_with fail
     refine (neat_any A1 c1 u _ (by omega) wu ru).mono ?_
     rw [neatOf_self nu]
     rintro e w13 ⟨A5, c5, rfl, o5, hb13⟩
     have ra := ra.next hb13
     have rb := rb.next hb13
     have ru := ru.next hb13
     have rm := rm.next hb13
     have rn := rn.next hb13
     have ro := ro.next hb13
     have hB := hB.trans (hb13.mono hB.size)
     have ru2 := o5.reads
     clear o5
     go_wp2_with fail
     refine (sameR_any A5 A1 c5 c1 u u _ (by omega) ru2 ru).mono ?_
     rw [decide_eq_true rfl]
     rintro e w14 ⟨rfl, hb14⟩
     have ra := ra.next hb14
     have rb := rb.next hb14
     have ru := ru.next hb14
     have rm := rm.next hb14
     have rn := rn.next hb14
     have ro := ro.next hb14
     have ru2 := ru2.next hb14
     have hB := hB.trans (hb14.mono hB.size)
     go_wp2_with fail
     refine (union_at _ 3 [m, n, o] (m ++ (n ++ o)) u _ (by simp) (hid (by simp)) hu2 (by simp; omega) (wm.append (wn.append wo)) (LL.moved (LL.three 22 rm rn ro) (by simp))).mono ?_
     rintro e w15 ⟨A6, c6, rfl, o6, hb15⟩
     have hb15 := below_drop hb15
     have ra := ra.next hb15
     have rb := rb.next hb15
     have ru := ru.next hb15
     have rm := rm.next hb15
     have rn := rn.next hb15
     have ro := ro.next hb15
     have ru2 := ru2.next hb15
     have hB := hB.trans (hb15.mono hB.size)
     have ru3 := o6.reads
     clear o6
     go_wp2_with fail
     refine (sameR_any A6 A1 c6 c1 u u _ (by omega) ru3 ru).mono ?_
     rw [decide_eq_true rfl]
     rintro e w16 ⟨rfl, hb16⟩
     have ra := ra.next hb16
     have rb := rb.next hb16
     have ru := ru.next hb16
     have rm := rm.next hb16
     have rn := rn.next hb16
     have ro := ro.next hb16
     have ru2 := ru2.next hb16
     have ru3 := ru3.next hb16
     have hB := hB.trans (hb16.mono hB.size)
     go_wp2_with fail
     refine (both_at m b [] A2 B c2 d _ (by omega) (by omega) wm hwb he rm rb).mono ?_
     rintro e w17 ⟨A7, c7, rfl, o7, hb17⟩
     have ra := ra.next hb17
     have rb := rb.next hb17
     have ru := ru.next hb17
     have rm := rm.next hb17
     have rn := rn.next hb17
     have ro := ro.next hb17
     have ru2 := ru2.next hb17
     have ru3 := ru3.next hb17
     have hB := hB.trans (hb17.mono hB.size)
     clear o7
     go_wp2_with fail
     refine (lives_any _).mono ?_
     rintro e w18 ⟨rfl, hb18⟩
     have ra := ra.next hb18
     have rb := rb.next hb18
     have ru := ru.next hb18
     have rm := rm.next hb18
     have rn := rn.next hb18
     have ro := ro.next hb18
     have ru2 := ru2.next hb18
     have ru3 := ru3.next hb18
     have hB := hB.trans (hb18.mono hB.size)
     go_wp2_with fail
     go_ret
     exact ⟨rfl, hB⟩)
end Go.Proofs.Ytaoipffekmhioaa
