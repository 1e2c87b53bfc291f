/-
  What a closing keeps, when it keeps one more.
-/
import Derived.Test.YtnpcjbdolmmaeaaGreatDoorL05
import Derived.Test.YtnpcjbdolmmaeaaGreatDoorL07
namespace Go.Proofs.YtnpcjbdolmmaeaaGreatDoor
open Go.RowKit Go.Maps
set_option maxRecDepth 100000
theorem keyL_like {x y : Cf.Cfg} (h : Cf.Like x y) (e : Bool) : keyL x e = keyL y e := by unfold keyL; rw [Cf.key_of_like h e]
theorem KepIs.same {w : World} {S : Nat → Prop} {D : DataW Value} {K : List Cf.Cfg} (h : KepIs w S D K) {x y0 : Cf.Cfg} (hy : y0 ∈ K) (hl : Cf.Like x y0) (he : x.exact = true → ∃ z ∈ K, Cf.Like x z ∧ z.exact = true) : KepIs w S D (K ++ [x]) := by
  refine ⟨h.tidy, fun z => ?_, fun kl hk => ?_, fun z hz => ?_⟩
  · rw [h.has z]
    constructor
    · rintro ⟨y, hy, hl⟩; exact ⟨y, List.mem_append_left _ hy, hl⟩
    · rintro ⟨y, hy', hl'⟩
      rcases List.mem_append.1 hy' with hy' | hy'
      · exact ⟨y, hy', hl'⟩
      · rw [List.mem_singleton.1 hy'] at hl'
        exact ⟨y0, hy, hl'.trans hl⟩
  · obtain ⟨z, hz, e⟩ := h.keys kl hk
    exact ⟨z, List.mem_append_left _ hz, e⟩
  · have key : ∀ z0 ∈ K, Cf.Like z0 z → ∃ (y : Cf.Cfg) (A : Option Addr) (c : Nat), (∀ zd, D.atKey (keyL z false) zd = .held (.agg (cfC y A c).toArray)) ∧ Cf.Like y z ∧ (y.exact = true ↔ ∃ q ∈ K ++ [x], Cf.Like z q ∧ q.exact = true) ∧ RO w S 1 A y.stack.length (y.stack.map (Value.int .i64)) := by
      intro z0 hz0 hzz
      obtain ⟨y, A, c, h1, h2, h3, h4⟩ := h.elem z0 hz0
      refine ⟨y, A, c, by rw [← keyL_like hzz false]; exact h1, h2.trans hzz, h3.trans ⟨?_, ?_⟩, h4⟩
      · rintro ⟨q, hq, hlq, heq⟩
        exact ⟨q, List.mem_append_left _ hq, hzz.symm.trans hlq, heq⟩
      · rintro ⟨q, hq, hlq, heq⟩
        rcases List.mem_append.1 hq with hq | hq
        · exact ⟨q, hq, hzz.trans hlq, heq⟩
        · rw [List.mem_singleton.1 hq] at hlq heq
          obtain ⟨r, hr, hlr, her⟩ := he heq
          exact ⟨r, hr, (hzz.trans hlq).trans hlr, her⟩
    rcases List.mem_append.1 hz with hz | hz
    · exact key z hz (Cf.Like.refl z)
    · rw [List.mem_singleton.1 hz] at key ⊢
      exact key y0 hy hl.symm
theorem KepIs.put {w : World} {S : Nat → Prop} {D : DataW Value} {K : List Cf.Cfg} (h : KepIs w S D K) {x : Cf.Cfg} {A : Option Addr} {c : Nat} (hr : RO w S 1 A x.stack.length (x.stack.map (Value.int .i64)))
    (he : x.exact = true ∨ ¬ ∃ y ∈ K, Cf.Like x y) : KepIs w S (D.put (keyL x false) (.held (.agg (cfC x A c).toArray))) (K ++ [x]) := by
  refine ⟨h.tidy.put (by trivial) _, fun z => ?_, fun kl hk => ?_, fun z hz => ?_⟩
  · by_cases e : keyL z false = keyL x false
    · rw [e, has_put_same h.tidy.isMap (by trivial)]
      exact ⟨fun _ => ⟨x, by simp, (keyL_inj e).1⟩, fun _ => rfl⟩
    · rw [has_put_other e, h.has z]
      constructor
      · rintro ⟨y, hy, hl⟩; exact ⟨y, List.mem_append_left _ hy, hl⟩
      · rintro ⟨y, hy, hl⟩
        rcases List.mem_append.1 hy with hy | hy
        · exact ⟨y, hy, hl⟩
        · rw [List.mem_singleton.1 hy] at hl
          exact absurd (keyL_like hl false) e
  · by_cases e : kl = keyL x false
    · exact ⟨x, by simp, e⟩
    · rw [has_put_other e] at hk
      obtain ⟨z, hz, e⟩ := h.keys kl hk
      exact ⟨z, List.mem_append_left _ hz, e⟩
  · by_cases e : keyL z false = keyL x false
    · have hzx := (keyL_inj e).1
      refine ⟨x, A, c, fun zd => by rw [e, atKey_put_same h.tidy.isMap (by trivial)], hzx.symm, ⟨fun hx => ⟨x, by simp, hzx, hx⟩, ?_⟩, hr⟩
      rintro ⟨q, hq, hlq, heq⟩
      rcases he with he | he
      · exact he
      · rcases List.mem_append.1 hq with hq | hq
        · exact absurd ⟨q, hq, hzx.symm.trans hlq⟩ he
        · rw [List.mem_singleton.1 hq] at heq; exact heq
    · have hzK : z ∈ K := by
        rcases List.mem_append.1 hz with hz | hz
        · exact hz
        · rw [List.mem_singleton.1 hz] at e; exact absurd rfl e
      obtain ⟨y, A', c', h1, h2, h3, h4⟩ := h.elem z hzK
      refine ⟨y, A', c', fun zd => by rw [atKey_put_other e]; exact h1 zd, h2, h3.trans ⟨?_, ?_⟩, h4⟩
      · rintro ⟨q, hq, hlq, heq⟩
        exact ⟨q, List.mem_append_left _ hq, hlq, heq⟩
      · rintro ⟨q, hq, hlq, heq⟩
        rcases List.mem_append.1 hq with hq | hq
        · exact ⟨q, hq, hlq, heq⟩
        · rw [List.mem_singleton.1 hq] at hlq
          exact absurd (keyL_like hlq false) e
theorem ClAt.ltK {w : World} {f : ClF} {c : Cf.Cl} (h : ClAt w f c) : f.K < w.heap.size := by
  obtain ⟨nm, D, _, hm, _⟩ := h.kept
  exact hm.lt
theorem ClAt.kept1 {w w' : World} {f : ClF} {c : Cf.Cl} {K' : List Cf.Cfg} {nk : Nat} {D : DataW Value} (h : ClAt w f c) (ho : Only (fun k => k = f.K) w w')
    (hm : w'.ownsMap Tryz.prog 9 asIs f.K nk D) (hn : nk ≤ K'.length) (hk : KepIs w' (ClS w' f) D K') : ClAt w' f ⟨c.wait, K', c.over⟩ ∧ Steps f w w' := by
  obtain ⟨n1, n2, n3⟩ := h.ne
  obtain ⟨u, vs, h1, h2, h3⟩ := h.row
  have hu : w.cell? ⟨f.C, 2, none⟩ = some u := by rw [Lib.cell_of_heap h1]; rfl
  have hS : Steps f w w' := ⟨ho.more (fun b _ e => by rw [show b = f.K from e]; exact .inr (.inr (.inl rfl))), fun b _ hk => (cls_of_cell (ho.cell (o := 2) h.lt n2) b).1 hk⟩
  have hb := h.stay hS
  obtain ⟨nm, D0, m1, m2, m3⟩ := h.met
  exact ⟨⟨⟨u, vs, (ho.block f.C h.lt n2).trans h1, ownsRow_only h2 ho (fun k hk e => (h.row_ne hu hk).2.2.1 e), h3.only hS.only hS.same⟩, h.view.below hb, ⟨nm, D0, m1, ownsMap_onlyH m2 ho (fun e => n3 e), m3⟩, ⟨nk, D, hn, hm, hk⟩, h.pt.on hb, h.ge, h.ne, Nat.le_trans h.hw ho.size⟩, hS⟩
end Go.Proofs.YtnpcjbdolmmaeaaGreatDoor
namespace Go.Proofs.YtnpcjbdolmmaeaaGreatDoor
open Go.RowKit Go.Maps
open Go.Sort (grow)
set_option maxRecDepth 100000
theorem zeroCfg (w : World) : (zeroValue 89).run Tryz.prog w = .ok (.agg #[.int .i64 0, .int .i64 0, .slice none 0 0, .bool false, .bool false]) w := by kernel_rfl
theorem kept_same {w : World} {f : ClF} {c : Cf.Cl} {x z : Cf.Cfg} (h : ClAt w f c) (hz : z ∈ c.kept) (hl : Cf.Like x z) (he : x.exact = true → ∃ z ∈ c.kept, Cf.Like x z ∧ z.exact = true) : ClAt w f (Cf.keep c x) := by
  obtain ⟨nk, D, k1, k2, k3⟩ := h.kept
  exact ⟨h.row, h.view, h.met, ⟨nk, D, by unfold Cf.keep; simp; omega, k2, k3.same hz hl he⟩, h.pt, h.ge, h.ne, h.hw⟩
set_option maxHeartbeats 4000000 in
theorem keep_any (f : ClF) (c : Cf.Cl) (x : Cf.Cfg) (A : Option Addr) (cx : Nat) (w : World) (h : ClAt w f c) (hs : ClSz c) (hx : OkC x) (hr : RO w (ClS w f) 1 A x.stack.length (x.stack.map (Value.int .i64))) :
    Calls Tryz.prog 79 #[.pointer (some ⟨f.C, 0, none⟩), .agg #[.int .i64 x.alt, .int .i64 x.state, .slice A x.stack.length cx, .bool x.exact, .bool x.ended]] w (MtP f (Cf.keep c x) w) := by
  obtain ⟨w1, hw1⟩ : ∃ w1, Hid (w.alloc (.cells #[.int .i64 x.alt, .int .i64 x.state, .slice A x.stack.length cx, .bool x.exact, .bool x.ended] 89) = w1) := ⟨_, hid rfl⟩
  have hb1 : Below w.heap.size w w1 := by rw [← hw1.out]; exact below_new _ _
  have h1 : w1.heap[w.heap.size]? = some (.cells #[.int .i64 x.alt, .int .i64 x.state, .slice A x.stack.length cx, .bool x.exact, .bool x.ended] 89 (0, 0)) := by rw [← hw1.out]; exact heap_alloc_new _ _
  have s0 : w1.cell? ⟨w.heap.size, 0, none⟩ = some (.int .i64 x.alt) := by rw [Lib.cell_of_heap h1]; rfl
  have s1 : w1.cell? ⟨w.heap.size, 1, none⟩ = some (.int .i64 x.state) := by rw [Lib.cell_of_heap h1]; rfl
  have s2 : w1.cell? ⟨w.heap.size, 2, none⟩ = some (.slice A x.stack.length cx) := by rw [Lib.cell_of_heap h1]; rfl
  have s3 : w1.cell? ⟨w.heap.size, 3, none⟩ = some (.bool x.exact) := by rw [Lib.cell_of_heap h1]; rfl
  have s4 : w1.cell? ⟨w.heap.size, 4, none⟩ = some (.bool x.ended) := by rw [Lib.cell_of_heap h1]; rfl
  have hcl1 := h.below hb1
  have hsg := sign_any x A cx w1 hx (hr.only (Only.of_below (S := ClS w f) hb1) (fun _ _ e => e)).reads hcl1.pt.here
  have HCL1 := hid hcl1
  have HB1 := hid hb1
  have HR := hid hr
  have HS := hid hs
  have HX := hid hx
  have HLT := hid h.lt
  have HLK := hid (ClAt.ltK h)
  clear hcl1 hr hs hx h hb1
  go_enter Tryz.func79, Tryz.ntmps79
  go_wp2_with fail
  rw [hw1.out]
  clear hw1
  go_at_call 78
  refine (hsg).mono ?_
  rintro e w2 ⟨rfl, hb2⟩
  clear hsg
  have s0 := (hb2.cell (p := ⟨w.heap.size, 0, none⟩) (heap_lt h1)).trans s0
  have s1 := (hb2.cell (p := ⟨w.heap.size, 1, none⟩) (heap_lt h1)).trans s1
  have s2 := (hb2.cell (p := ⟨w.heap.size, 2, none⟩) (heap_lt h1)).trans s2
  have s3 := (hb2.cell (p := ⟨w.heap.size, 3, none⟩) (heap_lt h1)).trans s3
  have s4 := (hb2.cell (p := ⟨w.heap.size, 4, none⟩) (heap_lt h1)).trans s4
  have h2 := (hb2.block _ (heap_lt h1)).trans h1
  have HB2 := hid (HB1.out.trans (hb2.mono HB1.out.size))
  have HCL2 := hid (HCL1.out.below hb2)
  clear hb2 h1 HB1 HCL1
  obtain ⟨u, vs, c0, c1, c2, c3, c4, hfz, hown, hcv⟩ := HCL2.out.cells
  obtain ⟨nk, D, hnk, hmap, hkep⟩ := HCL2.out.kept
  have hky := key_of x false (key_len HX.out false)
  rw [show Cf.keyT x false = Cf.signT x from rfl] at hky
  obtain ⟨el, elp, hlk, hlr⟩ := hmap.look_ok lawStr Tryz.underlying126 (zeroCfg w2) (show asIs (.agg #[.int .i64 0, .int .i64 0, .slice none 0 0, .bool false, .bool false]) = some (.held (.agg #[.int .i64 0, .int .i64 0, .slice none 0 0, .bool false, .bool false]), []) from rfl) hky
  have hel : ∃ (y : Cf.Cfg) (B : Option Addr) (cy : Nat), el = .agg #[.int .i64 y.alt, .int .i64 y.state, .slice B y.stack.length cy, .bool y.exact, .bool y.ended] ∧
      ((has D (keyL x false) = false ∧ ¬ ∃ z ∈ c.kept, Cf.Like x z) ∨ (has D (keyL x false) = true ∧ (∃ z ∈ c.kept, Cf.Like x z) ∧ (y.exact = true ↔ ∃ z ∈ c.kept, Cf.Like x z ∧ z.exact = true))) := by
    have hlr' : DataW.held el = D.atKey (keyL x false) (.held (.agg #[.int .i64 0, .int .i64 0, .slice none 0 0, .bool false, .bool false])) := by
      unfold asIs at hlr
      injection hlr with hlr
      injection hlr
    cases hh : has D (keyL x false) with
    | false =>
      have h2 := hlr'
      rw [atKey_of_not_has hh] at h2
      injection h2 with h2
      refine ⟨⟨0, 0, [], false, false⟩, none, 0, h2, .inl ⟨rfl, fun hz => ?_⟩⟩
      rw [(hkep.has x).2 hz] at hh
      cases hh
    | true =>
      obtain ⟨z, hz, hl⟩ := (hkep.has x).1 hh
      obtain ⟨y, A', c', e1, e2, e3, e4⟩ := hkep.elem z hz
      have h2 := hlr'
      rw [keyL_like hl false, e1] at h2
      injection h2 with h2
      refine ⟨y, A', c', h2, .inr ⟨rfl, ⟨z, hz, hl⟩, e3.trans ⟨?_, ?_⟩⟩⟩
      · rintro ⟨q, hq, hlq, heq⟩; exact ⟨q, hq, hl.trans hlq, heq⟩
      · rintro ⟨q, hq, hlq, heq⟩; exact ⟨q, hq, hl.symm.trans hlq, heq⟩
  obtain ⟨y, B, cy, rfl, hcase⟩ := hel
  clear hlr elp
  obtain ⟨b0, hb0⟩ : ∃ b0, has D (keyL x false) = b0 := ⟨_, rfl⟩
  rw [hb0] at hlk hcase
  have HCASE := hid hcase
  have HMAP := hid hmap
  have HKEP := hid hkep
  have HH2 := hid h2
  have HKY := hid hky
  clear hmap hkep hcase hb0 h2 hfz hown hcv hky c0 c1 c2 c4 vs u
  have hw2l := heap_lt HH2.out
  have q0 := ((below_new w2 (.cells #[.int .i64 y.alt, .int .i64 y.state, .slice B y.stack.length cy, .bool y.exact, .bool y.ended] 89)).cell (p := ⟨w.heap.size, 0, none⟩) hw2l).trans s0
  have q1 := ((below_new w2 (.cells #[.int .i64 y.alt, .int .i64 y.state, .slice B y.stack.length cy, .bool y.exact, .bool y.ended] 89)).cell (p := ⟨w.heap.size, 1, none⟩) hw2l).trans s1
  have q2 := ((below_new w2 (.cells #[.int .i64 y.alt, .int .i64 y.state, .slice B y.stack.length cy, .bool y.exact, .bool y.ended] 89)).cell (p := ⟨w.heap.size, 2, none⟩) hw2l).trans s2
  have q3 := ((below_new w2 (.cells #[.int .i64 y.alt, .int .i64 y.state, .slice B y.stack.length cy, .bool y.exact, .bool y.ended] 89)).cell (p := ⟨w.heap.size, 3, none⟩) hw2l).trans s3
  have q4 := ((below_new w2 (.cells #[.int .i64 y.alt, .int .i64 y.state, .slice B y.stack.length cy, .bool y.exact, .bool y.ended] 89)).cell (p := ⟨w.heap.size, 4, none⟩) hw2l).trans s4
  have r3 : (w2.alloc (.cells #[.int .i64 y.alt, .int .i64 y.state, .slice B y.stack.length cy, .bool y.exact, .bool y.ended] 89)).cell? ⟨w2.heap.size, 3, none⟩ = some (.bool y.exact) := by rw [cell_new]; rfl
  have c3 := ((below_new w2 (.cells #[.int .i64 y.alt, .int .i64 y.state, .slice B y.stack.length cy, .bool y.exact, .bool y.ended] 89)).cell (p := ⟨f.C, 3, none⟩) HCL2.out.lt).trans c3
  have hb3 := below_new w2 (.cells #[.int .i64 y.alt, .int .i64 y.state, .slice B y.stack.length cy, .bool y.exact, .bool y.ended] 89)
  obtain ⟨w3, hw3⟩ : ∃ w3, Hid ((w2.alloc (.cells #[.int .i64 y.alt, .int .i64 y.state, .slice B y.stack.length cy, .bool y.exact, .bool y.ended] 89)) = w3) := ⟨_, hid rfl⟩
  have p3 := q3
  have r3a := r3
  rw [hw3.out] at q0 q1 q2 q3 q4 r3 c3 hb3
  have hmap3 := ownsMap_onlyH HMAP.out (Only.of_below (S := fun _ => False) hb3) (fun e => e)
  have hkep3 := HKEP.out.only (S' := ClS w3 f) (Only.of_below hb3) (fun b _ hk => (cls_of_cell (hb3.cell (p := ⟨f.C, 2, none⟩) HCL2.out.lt) b).1 hk)
  have HCL3 := hid (HCL2.out.below hb3)
  have HB3 := hid (HB2.out.trans (hb3.mono HB2.out.size))
  have HM3 := hid hmap3
  have HK3 := hid hkep3
  clear hb3 hmap3 hkep3 s0 s1 s2 s3 s4 HMAP HKEP HB2 HCL2 hw2l HH2
  cases b0 with
  | false =>
    go_wp2_with fail
    rw [hw3.out]
    clear hlk hw3 p3 r3a
    refine still_tail 6 (by kernel_rfl) (by kernel_rfl) ?_
    intro w4 HW4
    have ho4 : Only (fun _ => False) w3 w4 := by rw [HW4.out]; exact ⟨rfl, rfl, rfl, Nat.le_refl _, fun _ _ _ => rfl⟩
    clear HW4
    have hlw3 : w.heap.size < w3.heap.size := World.block_lt_of_cell? w3 _ q0
    have hC3 := HCL3.out.lt
    have c3 := (ho4.cell (o := 3) hC3 (fun e => e)).trans c3
    have q0 := (ho4.cell (o := 0) hlw3 (fun e => e)).trans q0
    have q1 := (ho4.cell (o := 1) hlw3 (fun e => e)).trans q1
    have q2 := (ho4.cell (o := 2) hlw3 (fun e => e)).trans q2
    have q3 := (ho4.cell (o := 3) hlw3 (fun e => e)).trans q3
    have q4 := (ho4.cell (o := 4) hlw3 (fun e => e)).trans q4
    have hmap4 := ownsMap_onlyH HM3.out ho4 (fun e => e)
    have hmx : nk < maxLen := by have := HS.out.kept; simp only [maxLen]; omega
    have HKY2 := hid HKY.out
    have hky := HKY.out
    clear HKY
    simp only [List.take_succ_cons, List.take_zero, List.drop_succ_cons, List.drop_zero]
    repeat still_step
    refine wpStill_nil ?_
    refine wpList_mapUpdate_own _ rfl _ _ _ 126 rfl 9 89 lawStr Tryz.underlying126 asIs f.K nk D rfl hmap4 hmx _ _ _ rfl rfl hky _ [] rfl ?_
    intro w5 hmap5 hg5
    have hmap5 : w5.ownsMap Tryz.prog 9 asIs f.K (nk + 1) (D.put (keyL x false) (.held (.agg (cfC x A cx).toArray))) := hmap5
    have ho5 : Only (fun k => k = f.K) w3 w5 := (ho4.more (fun _ _ e => e.elim)).trans (Only.of_grown hg5) (fun b _ e => by injection e)
    have hn2 := HCL3.out.ne.2.1
    have hsm : ∀ b, b < w3.heap.size → ClS w5 f b → ClS w3 f b := fun b _ hk => (cls_of_cell (ho5.cell (o := 2) hC3 hn2) b).1 hk
    have hoS : Only (ClS w3 f) w3 w5 := ho5.more (fun b _ e => by rw [show b = f.K from e]; exact .inr (.inr (.inl rfl)))
    have hrx := (HR.out.only (S' := ClS w3 f) (Only.of_below HB3.out) (fun b _ hk => (cls_of_cell (HB3.out.cell (p := ⟨f.C, 2, none⟩) HLT.out) b).1 hk)).only hoS hsm
    have hkp := (HK3.out.only hoS hsm).put (c := cx) hrx (.inr (by rcases HCASE.out with h | h; exact h.2; cases h.1))
    have HF := hid (HCL3.out.kept1 ho5 hmap5 (by simp; omega) hkp)
    clear hmap5 hg5 hkp hrx hmap4
    go_wp2_with fail
    go_end0
    exact ⟨rfl, HF.out.1, (Steps.of_below HLT.out HB3.out).trans HF.out.2⟩
  | true =>
    cases hxe : x.exact with
    | false =>
      rw [hxe] at q3 p3
      go_wp2
      go_end0
      have hcs := HCASE.out
      rcases hcs with h | ⟨_, ⟨z, hz, hl⟩, _⟩
      · cases h.1
      · rw [hw3.out]
        exact ⟨rfl, kept_same HCL3.out hz hl (fun e => by rw [hxe] at e; cases e), Steps.of_below HLT.out HB3.out⟩
    | true =>
      rw [hxe] at q3 p3
      cases hye : y.exact with
      | true =>
        rw [hye] at r3 r3a hw3 hlk p3
        go_wp2
        go_end0
        have hcs := HCASE.out
        rcases hcs with h | ⟨_, ⟨z, hz, hl⟩, hiff⟩
        · cases h.1
        · rw [hw3.out]
          exact ⟨rfl, kept_same HCL3.out hz hl (fun _ => hiff.1 hye), Steps.of_below HLT.out HB3.out⟩
      | false =>
        rw [hye] at r3 r3a hw3 hlk p3
        go_wp2_with fail
        rw [hw3.out]
        clear hlk hw3 p3 r3a
        refine still_tail 6 (by kernel_rfl) (by kernel_rfl) ?_
        intro w4 HW4
        have ho4 : Only (fun _ => False) w3 w4 := by rw [HW4.out]; exact ⟨rfl, rfl, rfl, Nat.le_refl _, fun _ _ _ => rfl⟩
        clear HW4
        have hlw3 : w.heap.size < w3.heap.size := World.block_lt_of_cell? w3 _ q0
        have hC3 := HCL3.out.lt
        have c3 := (ho4.cell (o := 3) hC3 (fun e => e)).trans c3
        have q0 := (ho4.cell (o := 0) hlw3 (fun e => e)).trans q0
        have q1 := (ho4.cell (o := 1) hlw3 (fun e => e)).trans q1
        have q2 := (ho4.cell (o := 2) hlw3 (fun e => e)).trans q2
        have q3 := (ho4.cell (o := 3) hlw3 (fun e => e)).trans q3
        have q4 := (ho4.cell (o := 4) hlw3 (fun e => e)).trans q4
        have hmap4 := ownsMap_onlyH HM3.out ho4 (fun e => e)
        have hmx : nk < maxLen := by have := HS.out.kept; simp only [maxLen]; omega
        have HKY2 := hid HKY.out
        have hky := HKY.out
        clear HKY
        simp only [List.take_succ_cons, List.take_zero, List.drop_succ_cons, List.drop_zero]
        repeat still_step
        refine wpStill_nil ?_
        refine wpList_mapUpdate_own _ rfl _ _ _ 126 rfl 9 89 lawStr Tryz.underlying126 asIs f.K nk D rfl hmap4 hmx _ _ _ rfl rfl hky _ [] rfl ?_
        intro w5 hmap5 hg5
        have hmap5 : w5.ownsMap Tryz.prog 9 asIs f.K (nk + 1) (D.put (keyL x false) (.held (.agg (cfC x A cx).toArray))) := by unfold cfC; rw [hxe]; exact hmap5
        have ho5 : Only (fun k => k = f.K) w3 w5 := (ho4.more (fun _ _ e => e.elim)).trans (Only.of_grown hg5) (fun b _ e => by injection e)
        have hn2 := HCL3.out.ne.2.1
        have hsm : ∀ b, b < w3.heap.size → ClS w5 f b → ClS w3 f b := fun b _ hk => (cls_of_cell (ho5.cell (o := 2) hC3 hn2) b).1 hk
        have hoS : Only (ClS w3 f) w3 w5 := ho5.more (fun b _ e => by rw [show b = f.K from e]; exact .inr (.inr (.inl rfl)))
        have hrx := (HR.out.only (S' := ClS w3 f) (Only.of_below HB3.out) (fun b _ hk => (cls_of_cell (HB3.out.cell (p := ⟨f.C, 2, none⟩) HLT.out) b).1 hk)).only hoS hsm
        have hkp := (HK3.out.only hoS hsm).put (c := cx) hrx (.inl hxe)
        have HF := hid (HCL3.out.kept1 ho5 hmap5 (by simp; omega) hkp)
        clear hmap5 hg5 hkp hrx hmap4
        go_wp2_with fail
        go_end0
        exact ⟨rfl, HF.out.1, (Steps.of_below HLT.out HB3.out).trans HF.out.2⟩
end Go.Proofs.YtnpcjbdolmmaeaaGreatDoor
