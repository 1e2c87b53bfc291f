/-
  RangesParts: the walk over the contracts.
-/
import Derived.Test.YtaoipffekmhioaaPartsLaw
namespace Go.Proofs.Ytaoipffekmhioaa
open Go.RowKit
open Go.Sort (grow)
set_option maxRecDepth 100000
/-- a goal that whnf does not look into -/
structure Box (p : Prop) : Prop where
  out : p
theorem boxStart {P : Program} {id : Nat} {Q : Exit → Act → World → Prop} {a : Act} {w : World} {l : List Oper} (hm : P.follows .mixedOrders = true) (hB : Region.lexB .any l.toArray = true)
    (h : Box (wpQuiet P l.toArray (fun w' => ∃ p : Regrown, w' = grow (redrawn w p.d) p.os) (fun a' => ∀ w', (∃ p : Regrown, w' = grow (redrawn w p.d) p.os) → Q .normal a' w') l a)) : (Code.region id l.toArray true).wp P Q a w :=
  wp_region_quiet_below hm hB h.out
theorem boxStep {P : Program} {ops : Array Oper} {C : World → Prop} {Q : Act → Prop} {a : Act} {o : Oper} {rest : List Oper}
    (h : ∀ K : Act → Prop, (∀ a, Box (wpQuiet P ops C Q rest a) → K a) → if Region.wanted o (yielded ops a.tmps) then o.quiet P a C K else K (a.put o.dst undef)) : Box (wpQuiet P ops C Q (o :: rest) a) :=
  ⟨wpQuiet_step fun K hK => h K fun a hb => hK a hb.out⟩
theorem boxNil {P : Program} {ops : Array Oper} {C : World → Prop} {Q : Act → Prop} {a : Act} (h : Q a) : Box (wpQuiet P ops C Q [] a) := ⟨wpQuiet_nil h⟩
theorem reads_build {w : World} (r : Rg) (t : TypeId) : Reads (w.alloc (.cells #[.int .i32 r.1, .int .i32 r.2] t)) (w.alloc (.cells #[.int .i32 r.1, .int .i32 r.2] t)).heap.size 2 (some ⟨w.heap.size, 0, none⟩) 1 (flat encR [r]) := reads_new encR 2 encR_len w [r] t
theorem two_held {a b s : List Rg} (hwa : WfL a) (hwb : WfL b) (h : SplitP [a, b] (-2147483649) s) (x : Int) : hasB s x = (hasB a x || hasB b x) := by
  refine bool_ext ?_
  rw [hasB_holds, h.held x, Bool.or_eq_true, hasB_holds, hasB_holds]
  simp only [List.mem_cons, List.not_mem_nil, or_false, exists_eq_or_imp, exists_eq_left]
  constructor
  · exact fun h => h.2
  · intro h
    exact ⟨by rcases h with h | h; exact wf_lo hwa x h; exact wf_lo hwb x h, h⟩
set_option maxHeartbeats 8000000 in
theorem parts_walk (a b s u : List Rg) (A B : Option Addr) (c d : Nat) (x : Int) (p q : Bool) (w : World) (hla : a.length ≤ 60) (hlb : b.length ≤ 60) (hwa : WfL a) (hwb : WfL b)
    (hs : Hid (splitOf ([a, b].map neatOf) = s)) (hu : Hid (neatOf (a ++ b) = u)) (hp : Hid (hasB a x = p)) (hq : Hid (hasB b x = q))
    (ra : Reads w w.heap.size 2 A a.length (flat encR a)) (rb : Reads w w.heap.size 2 B b.length (flat encR b)) :
    Calls Try.prog 6 #[.slice A a.length c, .slice B b.length d, .int .i32 x] w fun e w' => e = .returned (.bool true) ∧ Below w.heap.size w w' := by
  have HS : Hid (SplitP [a, b] (-2147483649) s) := by have := split_two hwa hwb; rw [hs.out] at this; exact this
  have hws : WfL s := by
    rw [← hs.out]
    exact splitOf_wf (neats_wf (by simpa using hwa.append hwb))
  have hls : s.length ≤ 1000 := by
    have h1 := splitOf_len ([a, b].map neatOf)
    have h2 := neats_len [a, b]
    rw [hs.out] at h1
    simp at h2
    simp only [List.map_cons, List.map_nil, List.flatten_cons, List.flatten_nil, List.append_nil, List.length_append] at h1 h2
    omega
  have hns : Hid (neatOf s = u) := neat_unique _ _ (neatOf_law _).1 (by rw [← hu.out]; exact (neatOf_law _).1) fun y => by
    rw [holds_neat, ← hu.out, holds_neat, HS.out.held y, holds_append]
    simp only [List.mem_cons, List.not_mem_nil, or_false, exists_eq_or_imp, exists_eq_left]
    constructor
    · exact fun h => h.2
    · intro h
      exact ⟨by rcases h with h | h; exact wf_lo hwa y h; exact wf_lo hwb y h, h⟩
  have hlu : u.length ≤ 1000 := by have := neatOf_len (a ++ b); rw [hu.out] at this; simp at this; omega
  have hB : Below w.heap.size w w := Below.refl _ _
  go_enter Try.func6, Try.ntmps6
  go_wp2_with fail
  refine (split_at _ 2 [a, b] _ _ s _ (by simp) (by simp; omega) (by simpa using hwa.append hwb) (LL.two 22 ra rb) (hid rfl) (hid rfl) hs).mono ?_
  rintro e w1 ⟨A1, c1, rfl, o1, hb1⟩
  have hb1 := below_drop hb1
  have ra := ra.next hb1
  have rb := rb.next hb1
  have rs := o1.reads
  have hB := hB.trans (hb1.mono hB.size)
  clear o1 hb1
  go_wp2_with fail
  go_loopw [8] (fun i wr => ∃ k : Nat, k ≤ s.length ∧ i = .int .i64 k ∧ Below w1.heap.size w1 wr) (fun i _ => s.length - (intOf i).toNat)
  case atStart => exact ⟨0, Nat.zero_le _, rfl, Below.refl _ _⟩
  case round =>
    obtain ⟨k, hk, rfl, hb⟩ := hrel
    by_cases hlt : k < s.length
    · obtain ⟨g, off, rfl, hbl, c0, c1'⟩ := readsR rs hb k hlt
      have hrr := HS.out.some _ (List.getElem_mem hlt)
      have hwr : Wf s[k] := hws _ (List.getElem_mem hlt)
      have hpa := hid (piece_part s[k] a hrr (fun y h1 h2 => HS.out.alike _ (List.getElem_mem hlt) y h1 h2 a (by simp)))
      have hpb := hid (piece_part s[k] b hrr (fun y h1 h2 => HS.out.alike _ (List.getElem_mem hlt) y h1 h2 b (by simp)))
      generalize hr : s[k] = r at c0 c1' hrr hwr hpa hpb
      have HR := hid hr
      clear hr
      obtain ⟨wy, hwy⟩ : ∃ wy, Hid (wy = wr.alloc (.cells #[.int .i32 r.1, .int .i32 r.2] 42)) := ⟨_, rfl⟩
      have hby : Below wr.heap.size wr wy := by rw [hwy.out]; exact below_new _ _
      have ry : Reads wy wy.heap.size 2 (some ⟨wr.heap.size, 0, none⟩) 1 (flat encR [r]) := by rw [hwy.out]; exact reads_build r _
      have hb1y : Below w1.heap.size w1 wy := hb.trans (hby.mono hb.size)
      go_wp2_with fail
      rw [← hwy.out]
      go_loopw [10] (fun i wr => ∃ j : Nat, j ≤ 2 ∧ i = .int .i64 j ∧ Below wy.heap.size wy wr) (fun i _ => 2 - (intOf i).toNat)
      case atStart => exact ⟨0, by omega, rfl, Below.refl _ _⟩
      case round =>
        obtain ⟨j, hj, rfl, hby2⟩ := hrel
        obtain rfl | rfl | rfl : j = 0 ∨ j = 1 ∨ j = 2 := by omega
        · skip
          have hb2 := hb1y.trans (hby2.mono hb1y.size)
          have ra2 := ra.next hb2
          have ry2 := ry.next hby2
          rcases hpa.out with hz | hz
          · have HZ := hid hz
            clear hz
            go_wp2_with fail
            refine (both_at [r] a [] _ A 1 c _ (by simp) (by omega) (by simpa [WfL] using hwr) hwa HZ (ry2.next (below_new _ _)) (ra2.next (below_new _ _))).mono ?_
            rintro e w2 ⟨A2, c2, rfl, o2, hb3⟩
            have hb3 := below_drop hb3
            clear o2
            go_wp2_with fail
            go_roundw
            case rel => exact ⟨1, by omega, by go_num, hby2.trans (hb3.mono hby2.size)⟩
            case measure => simp [intOf]
          · have HZ := hid hz
            clear hz
            go_wp2_with fail
            refine (both_at [r] a [r] _ A 1 c _ (by simp) (by omega) (by simpa [WfL] using hwr) hwa HZ (ry2.next (below_new _ _)) (ra2.next (below_new _ _))).mono ?_
            rintro e w2 ⟨A2, c2, rfl, o2, hb3⟩
            have hb3 := below_drop hb3
            have rz := o2.reads
            clear o2
            go_wp2_with fail
            refine (sameR_any A2 _ c2 1 [r] [r] _ (by simp) rz (ry2.next hb3)).mono ?_
            rw [decide_eq_true rfl]
            rintro e w3 ⟨rfl, hb4⟩
            go_wp2_with fail
            go_roundw
            case rel => exact ⟨1, by omega, by go_num, (hby2.trans (hb3.mono hby2.size)).trans (hb4.mono (hby2.trans (hb3.mono hby2.size)).size)⟩
            case measure => simp [intOf]
        · skip
          have hb2 := hb1y.trans (hby2.mono hb1y.size)
          have rb2 := rb.next hb2
          have ry2 := ry.next hby2
          rcases hpb.out with hz | hz
          · have HZ := hid hz
            clear hz
            go_wp2_with fail
            refine (both_at [r] b [] _ B 1 d _ (by simp) (by omega) (by simpa [WfL] using hwr) hwb HZ (ry2.next (below_new _ _)) (rb2.next (below_new _ _))).mono ?_
            rintro e w2 ⟨A2, c2, rfl, o2, hb3⟩
            have hb3 := below_drop hb3
            clear o2
            go_wp2_with fail
            go_roundw
            case rel => exact ⟨2, by omega, by go_num, hby2.trans (hb3.mono hby2.size)⟩
            case measure => simp [intOf]
          · have HZ := hid hz
            clear hz
            go_wp2_with fail
            refine (both_at [r] b [r] _ B 1 d _ (by simp) (by omega) (by simpa [WfL] using hwr) hwb HZ (ry2.next (below_new _ _)) (rb2.next (below_new _ _))).mono ?_
            rintro e w2 ⟨A2, c2, rfl, o2, hb3⟩
            have hb3 := below_drop hb3
            have rz := o2.reads
            clear o2
            go_wp2_with fail
            refine (sameR_any A2 _ c2 1 [r] [r] _ (by simp) rz (ry2.next hb3)).mono ?_
            rw [decide_eq_true rfl]
            rintro e w3 ⟨rfl, hb4⟩
            go_wp2_with fail
            go_roundw
            case rel => exact ⟨2, by omega, by go_num, (hby2.trans (hb3.mono hby2.size)).trans (hb4.mono (hby2.trans (hb3.mono hby2.size)).size)⟩
            case measure => simp [intOf]
        · have hbX := hb1y.trans (hby2.mono hb1y.size)
          obtain ⟨g2, off2, hA, _, x0, x1⟩ := readsR rs hbX k hlt
          injection hA with hA
          injection hA with hA1 hA2 _
          subst hA1 hA2
          rw [HR.out] at x0 x1
          clear c0 c1' hpa hpb hby ry hby2 hj hb
          by_cases hk0 : 0 < k
          · obtain ⟨j, hkj⟩ : ∃ j, k = j + 1 := ⟨k - 1, by omega⟩
            obtain ⟨g3, off3, hA, _, y0, y1⟩ := readsR rs hbX j (by omega)
            injection hA with hA
            injection hA with hA1 hA2 _
            subst hA1 hA2
            have hwz := hws _ (List.getElem_mem (show j < s.length by omega))
            have hsb : s[j].2 + 1 = r.1 → hasB a s[j].2 ≠ hasB a r.1 ∨ hasB b s[j].2 ≠ hasB b r.1 := fun h => side_by_side HS.out (List.getElem_mem (show j < s.length by omega)) (by rw [← HR.out]; exact List.getElem_mem hlt) h
            generalize s[j] = z at y0 y1 hwz hsb
            obtain ⟨⟨r1, r2⟩, ⟨r3, r4⟩⟩ := hwr
            obtain ⟨⟨z1, z2⟩, ⟨z3, z4⟩⟩ := hwz
            have HKJ := hid hkj
            have HSB := hid hsb
            have t0 : decide (0 < k) = true := decide_eq_true hk0
            have f1 : IntKind.i64.wrap ((k : Int) - 1) = (j : Int) := by rw [w64 (by omega) (by omega)]; omega
            have f2 : IntKind.i64.wrap r.1 = r.1 := w64 (by omega) (by omega)
            have f3 : IntKind.i64.wrap z.2 = z.2 := w64 (by omega) (by omega)
            have f4 : IntKind.i64.wrap (z.2 + 1) = z.2 + 1 := w64 (by omega) (by omega)
            have f5 : (j : Int) < (s.length : Int) := by omega
            have f6 : (0 : Int) ≤ (j : Int) := by omega
            have f7 : (j : Int).toNat = j := by omega
            have f8 : (0 : Int) ≤ (k : Int) := by omega
            have f9 : (k : Int).toNat = k := by omega
            have f10 : (k : Int) < (s.length : Int) := by omega
            clear hkj hsb hk0
            by_cases hze : z.2 + 1 = r.1
            · have hs2 := HSB.out hze
              have t1 : ((z.2 + 1) == r.1) = true := by simpa using hze
              have HZE := hid hze
              clear hze
              have hb5A : Below w1.heap.size w1 wr := hbX
              have raX := ra.next hbX
              have rbX := rb.next hbX
              have q1 := fun d os => has_quiet A c a z.2 wr d os (by omega) raX
              have q2 := fun d os => has_quiet A c a r.1 wr d os (by omega) raX
              have q3 := fun e os => has_quiet B d b z.2 wr e os (by omega) rbX
              have q4 := fun e os => has_quiet B d b r.1 wr e os (by omega) rbX
              have l0 := fun d os => cell_regrown x0 d os
              have l1 := fun d os => cell_regrown y1 d os
              generalize hasB a z.2 = pa at q1 hs2
              generalize hasB a r.1 = ca at q2 hs2
              generalize hasB b z.2 = pb at q3 hs2
              generalize hasB b r.1 = cb at q4 hs2
              clear x0 x1 y0 y1
              by_cases hpc : pa = ca
              · subst hpc
                have hpb : ¬ pb = cb := by
                  rcases hs2 with h | h
                  · exact absurd rfl h
                  · exact h
                have t2 : (pb == cb) = false := by simpa using hpb
                clear hs2 hpb
                go_wp2_with fail
                refine boxStart (by kernel_rfl) (by kernel_rfl) ?_
                repeat (refine boxStep (fun K hK => ?_); go_simp; first | (refine hK _ ?_; clear hK K) | (apply Exists.intro; refine ⟨fun _ => ?_, hK _ ?_⟩; (first | (with_reducible exact q1 _ _) | (with_reducible exact q2 _ _) | (with_reducible exact q3 _ _) | (with_reducible exact q4 _ _)); clear hK K))
                refine boxNil ?_
                intro w5 hw'
                obtain ⟨p5, hw5⟩ := hw'
                have hb5 : Below wr.heap.size wr w5 := by rw [hw5]; exact below_regrown wr _ _
                clear hw5 p5
                clear q1 q2 q3 q4 l0 l1 f1 f2 f3 f4 f5 f6 f7 f8 f9 f10 t0 t1 t2
                go_wp2
                go_roundw
                case rel => exact ⟨k + 1, by omega, by go_num, hbX.trans (hb5.mono hbX.size)⟩
                case measure => simp [intOf]; omega
              · have t2 : (pa == ca) = false := by simpa using hpc
                clear hs2 hpc
                go_wp2_with fail
                refine boxStart (by kernel_rfl) (by kernel_rfl) ?_
                repeat (refine boxStep (fun K hK => ?_); go_simp; first | (refine hK _ ?_; clear hK K) | (apply Exists.intro; refine ⟨fun _ => ?_, hK _ ?_⟩; (first | (with_reducible exact q1 _ _) | (with_reducible exact q2 _ _) | (with_reducible exact q3 _ _) | (with_reducible exact q4 _ _)); clear hK K))
                refine boxNil ?_
                intro w5 hw'
                obtain ⟨p5, hw5⟩ := hw'
                have hb5 : Below wr.heap.size wr w5 := by rw [hw5]; exact below_regrown wr _ _
                clear hw5 p5
                clear q1 q2 q3 q4 l0 l1 f1 f2 f3 f4 f5 f6 f7 f8 f9 f10 t0 t1 t2
                go_wp2
                go_roundw
                case rel => exact ⟨k + 1, by omega, by go_num, hbX.trans (hb5.mono hbX.size)⟩
                case measure => simp [intOf]; omega
            · have t1 : ((z.2 + 1) == r.1) = false := by simpa using hze
              clear hze
              go_wp2_with fail
              go_quiet (fail)
              clear f1 f2 f3 f4 f5 f6 f7 f8 f9 f10 t0 t1
              go_wp2
              go_roundw
              case rel => exact ⟨k + 1, by omega, by go_num, below_drewN hbX _⟩
              case measure => simp [intOf]; omega
          · have t0 : decide (0 < k) = false := decide_eq_false hk0
            clear hk0
            go_wp2_with fail
            go_quiet (fail)
            clear t0
            go_wp2
            go_roundw
            case rel => exact ⟨k + 1, by omega, by go_num, below_drewN hbX _⟩
            case measure => simp [intOf]; omega
    · have hkl : k = s.length := by omega
      subst hkl
      have ra := ra.next hb
      have rb := rb.next hb
      have rs := rs.next hb
      have hB := hB.trans (hb.mono hB.size)
      have hxs : hasB s x = (p || q) := by rw [two_held hwa hwb HS.out x, hp.out, hq.out]
      obtain ⟨ix, hix⟩ : ∃ ix, Hid (idxI (inB x) s = ix) := ⟨_, rfl⟩
      have hxi : decide (0 ≤ ix) = (p || q) := by rw [← hxs, ← hix.out]; rfl
      clear hxs hb
      cases p with
      | true =>
        have hv : 0 ≤ ix := by simpa using hxi
        clear hxi
        go_wp2_with fail
        refine (neat_any _ c1 s _ (by omega) hws rs).mono ?_
        rw [hns.out]
        rintro e w11 ⟨A5, c5, rfl, o5, hb11⟩
        have rs := rs.next hb11
        have ra := ra.next hb11
        have rb := rb.next hb11
        have hB := hB.trans (hb11.mono hB.size)
        have rn := o5.reads
        clear o5
        go_wp2_with fail
        refine (union_at _ 2 [a, b] (a ++ b) u _ (by simp) (hid (by simp)) hu (by simp; omega) (hwa.append hwb) (LL.moved (LL.two 22 ra rb) (by simp))).mono ?_
        rintro e w12 ⟨A6, c6, rfl, o6, hb12⟩
        have hb12 := below_drop hb12
        have rs := rs.next hb12
        have ra := ra.next hb12
        have rb := rb.next hb12
        have rn := rn.next hb12
        have hB := hB.trans (hb12.mono hB.size)
        have ru := o6.reads
        clear o6
        go_wp2_with fail
        refine (sameR_any A5 A6 c5 c6 u u _ (by omega) rn ru).mono ?_
        rw [decide_eq_true rfl]
        rintro e w13 ⟨rfl, hb13⟩
        have rs := rs.next hb13
        have ra := ra.next hb13
        have rb := rb.next hb13
        have rn := rn.next hb13
        have ru := ru.next hb13
        have hB := hB.trans (hb13.mono hB.size)
        go_wp2_with fail
        refine (class_any _ c1 s x _ (by omega) rs).mono ?_
        rw [hix.out]
        rintro e w14 ⟨rfl, hb14⟩
        have rs := rs.next hb14
        have ra := ra.next hb14
        have rb := rb.next hb14
        have rn := rn.next hb14
        have ru := ru.next hb14
        have hB := hB.trans (hb14.mono hB.size)
        go_wp2_with fail
        refine (has_any A c a x _ (by omega) ra).mono ?_
        rw [hp.out]
        rintro e w15 ⟨rfl, hb15⟩
        have rs := rs.next hb15
        have ra := ra.next hb15
        have rb := rb.next hb15
        have rn := rn.next hb15
        have ru := ru.next hb15
        have hB := hB.trans (hb15.mono hB.size)
        go_wp2_with fail
        refine (lives_any _).mono ?_
        rintro e w16 ⟨rfl, hb16⟩
        have rs := rs.next hb16
        have ra := ra.next hb16
        have rb := rb.next hb16
        have rn := rn.next hb16
        have ru := ru.next hb16
        have hB := hB.trans (hb16.mono hB.size)
        go_wp2_with fail
        go_ret
        exact ⟨rfl, hB⟩
      | false =>
        cases q with
        | true =>
          have hv : 0 ≤ ix := by simpa using hxi
          clear hxi
          go_wp2_with fail
          refine (neat_any _ c1 s _ (by omega) hws rs).mono ?_
          rw [hns.out]
          rintro e w11 ⟨A5, c5, rfl, o5, hb11⟩
          have rs := rs.next hb11
          have ra := ra.next hb11
          have rb := rb.next hb11
          have hB := hB.trans (hb11.mono hB.size)
          have rn := o5.reads
          clear o5
          go_wp2_with fail
          refine (union_at _ 2 [a, b] (a ++ b) u _ (by simp) (hid (by simp)) hu (by simp; omega) (hwa.append hwb) (LL.moved (LL.two 22 ra rb) (by simp))).mono ?_
          rintro e w12 ⟨A6, c6, rfl, o6, hb12⟩
          have hb12 := below_drop hb12
          have rs := rs.next hb12
          have ra := ra.next hb12
          have rb := rb.next hb12
          have rn := rn.next hb12
          have hB := hB.trans (hb12.mono hB.size)
          have ru := o6.reads
          clear o6
          go_wp2_with fail
          refine (sameR_any A5 A6 c5 c6 u u _ (by omega) rn ru).mono ?_
          rw [decide_eq_true rfl]
          rintro e w13 ⟨rfl, hb13⟩
          have rs := rs.next hb13
          have ra := ra.next hb13
          have rb := rb.next hb13
          have rn := rn.next hb13
          have ru := ru.next hb13
          have hB := hB.trans (hb13.mono hB.size)
          go_wp2_with fail
          refine (class_any _ c1 s x _ (by omega) rs).mono ?_
          rw [hix.out]
          rintro e w14 ⟨rfl, hb14⟩
          have rs := rs.next hb14
          have ra := ra.next hb14
          have rb := rb.next hb14
          have rn := rn.next hb14
          have ru := ru.next hb14
          have hB := hB.trans (hb14.mono hB.size)
          go_wp2_with fail
          refine (has_any A c a x _ (by omega) ra).mono ?_
          rw [hp.out]
          rintro e w15 ⟨rfl, hb15⟩
          have rs := rs.next hb15
          have ra := ra.next hb15
          have rb := rb.next hb15
          have rn := rn.next hb15
          have ru := ru.next hb15
          have hB := hB.trans (hb15.mono hB.size)
          go_wp2_with fail
          refine (has_any B d b x _ (by omega) rb).mono ?_
          rw [hq.out]
          rintro e w16 ⟨rfl, hb16⟩
          have rs := rs.next hb16
          have ra := ra.next hb16
          have rb := rb.next hb16
          have rn := rn.next hb16
          have ru := ru.next hb16
          have hB := hB.trans (hb16.mono hB.size)
          go_wp2_with fail
          refine (lives_any _).mono ?_
          rintro e w17 ⟨rfl, hb17⟩
          have rs := rs.next hb17
          have ra := ra.next hb17
          have rb := rb.next hb17
          have rn := rn.next hb17
          have ru := ru.next hb17
          have hB := hB.trans (hb17.mono hB.size)
          go_wp2_with fail
          go_ret
          exact ⟨rfl, hB⟩
        | false =>
          have hv2 : decide (0 ≤ ix) = false := hxi
          have hv : ix < 0 := by simpa using hxi
          clear hxi
          go_wp2_with fail
          refine (neat_any _ c1 s _ (by omega) hws rs).mono ?_
          rw [hns.out]
          rintro e w11 ⟨A5, c5, rfl, o5, hb11⟩
          have rs := rs.next hb11
          have ra := ra.next hb11
          have rb := rb.next hb11
          have hB := hB.trans (hb11.mono hB.size)
          have rn := o5.reads
          clear o5
          go_wp2_with fail
          refine (union_at _ 2 [a, b] (a ++ b) u _ (by simp) (hid (by simp)) hu (by simp; omega) (hwa.append hwb) (LL.moved (LL.two 22 ra rb) (by simp))).mono ?_
          rintro e w12 ⟨A6, c6, rfl, o6, hb12⟩
          have hb12 := below_drop hb12
          have rs := rs.next hb12
          have ra := ra.next hb12
          have rb := rb.next hb12
          have rn := rn.next hb12
          have hB := hB.trans (hb12.mono hB.size)
          have ru := o6.reads
          clear o6
          go_wp2_with fail
          refine (sameR_any A5 A6 c5 c6 u u _ (by omega) rn ru).mono ?_
          rw [decide_eq_true rfl]
          rintro e w13 ⟨rfl, hb13⟩
          have rs := rs.next hb13
          have ra := ra.next hb13
          have rb := rb.next hb13
          have rn := rn.next hb13
          have ru := ru.next hb13
          have hB := hB.trans (hb13.mono hB.size)
          go_wp2_with fail
          refine (class_any _ c1 s x _ (by omega) rs).mono ?_
          rw [hix.out]
          rintro e w14 ⟨rfl, hb14⟩
          have rs := rs.next hb14
          have ra := ra.next hb14
          have rb := rb.next hb14
          have rn := rn.next hb14
          have ru := ru.next hb14
          have hB := hB.trans (hb14.mono hB.size)
          go_wp2_with fail
          refine (has_any A c a x _ (by omega) ra).mono ?_
          rw [hp.out]
          rintro e w15 ⟨rfl, hb15⟩
          have rs := rs.next hb15
          have ra := ra.next hb15
          have rb := rb.next hb15
          have rn := rn.next hb15
          have ru := ru.next hb15
          have hB := hB.trans (hb15.mono hB.size)
          go_wp2_with fail
          refine (has_any B d b x _ (by omega) rb).mono ?_
          rw [hq.out]
          rintro e w16 ⟨rfl, hb16⟩
          have rs := rs.next hb16
          have ra := ra.next hb16
          have rb := rb.next hb16
          have rn := rn.next hb16
          have ru := ru.next hb16
          have hB := hB.trans (hb16.mono hB.size)
          go_wp2_with fail
          refine (lives_any _).mono ?_
          rintro e w17 ⟨rfl, hb17⟩
          have rs := rs.next hb17
          have ra := ra.next hb17
          have rb := rb.next hb17
          have rn := rn.next hb17
          have ru := ru.next hb17
          have hB := hB.trans (hb17.mono hB.size)
          go_wp2_with fail
          go_ret
          exact ⟨rfl, hB⟩
end Go.Proofs.Ytaoipffekmhioaa
