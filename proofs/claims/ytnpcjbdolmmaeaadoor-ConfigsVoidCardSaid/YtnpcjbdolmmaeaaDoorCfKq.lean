/-
  What a closing keeps, when it keeps one more.
-/
import Derived.Test.YtnpcjbdolmmaeaaDoorCfPu
namespace Go.Proofs.YtnpcjbdolmmaeaaDoor
open Go.RowKit Go.Maps
set_option maxRecDepth 100000
theorem keyL_like {x y : Cf.Cfg} (h : Cf.Like x y) (e : Bool) : keyL x e = keyL y e := by unfold keyL; rw [Cf.key_of_like h e]
/-- it stays as it is: one like it is kept, and that one is exact, or the new one is not -/
theorem KepIs.same {w : World} {S : Nat → Prop} {D : DataW Value} {K : List Cf.Cfg} (h : KepIs w S D K) {x y0 : Cf.Cfg} (hy : y0 ∈ K) (hl : Cf.Like x y0) (he : x.exact = true → ∃ z ∈ K, Cf.Like x z ∧ z.exact = true) : KepIs w S D (K ++ [x]) := by
  refine ⟨h.tidy, fun z => ?_, fun kl hk => ?_, fun z hz => ?_⟩
  · rw [h.has z]
    constructor
    · rintro ⟨y, hy, hl⟩; exact ⟨y, List.mem_append_left _ hy, hl⟩
    · rintro ⟨y, hy', hl'⟩
      rcases List.mem_append.1 hy' with hy' | hy'
      · exact ⟨y, hy', hl'⟩
      · rw [List.mem_singleton.1 hy'] at hl'
        exact ⟨y0, hy, hl'.trans hl⟩
  · obtain ⟨z, hz, e⟩ := h.keys kl hk
    exact ⟨z, List.mem_append_left _ hz, e⟩
  · have key : ∀ z0 ∈ K, Cf.Like z0 z → ∃ (y : Cf.Cfg) (A : Option Addr) (c : Nat), (∀ zd, D.atKey (keyL z false) zd = .held (.agg (cfC y A c).toArray)) ∧ Cf.Like y z ∧ (y.exact = true ↔ ∃ q ∈ K ++ [x], Cf.Like z q ∧ q.exact = true) ∧ RO w S 1 A y.stack.length (y.stack.map (Value.int .i64)) := by
      intro z0 hz0 hzz
      obtain ⟨y, A, c, h1, h2, h3, h4⟩ := h.elem z0 hz0
      refine ⟨y, A, c, by rw [← keyL_like hzz false]; exact h1, h2.trans hzz, h3.trans ⟨?_, ?_⟩, h4⟩
      · rintro ⟨q, hq, hlq, heq⟩
        exact ⟨q, List.mem_append_left _ hq, hzz.symm.trans hlq, heq⟩
      · rintro ⟨q, hq, hlq, heq⟩
        rcases List.mem_append.1 hq with hq | hq
        · exact ⟨q, hq, hzz.trans hlq, heq⟩
        · rw [List.mem_singleton.1 hq] at hlq heq
          obtain ⟨r, hr, hlr, her⟩ := he heq
          exact ⟨r, hr, (hzz.trans hlq).trans hlr, her⟩
    rcases List.mem_append.1 hz with hz | hz
    · exact key z hz (Cf.Like.refl z)
    · rw [List.mem_singleton.1 hz] at key ⊢
      exact key y0 hy hl.symm
/-- it is put -/
theorem KepIs.put {w : World} {S : Nat → Prop} {D : DataW Value} {K : List Cf.Cfg} (h : KepIs w S D K) {x : Cf.Cfg} {A : Option Addr} {c : Nat} (hr : RO w S 1 A x.stack.length (x.stack.map (Value.int .i64)))
    (he : x.exact = true ∨ ¬ ∃ y ∈ K, Cf.Like x y) : KepIs w S (D.put (keyL x false) (.held (.agg (cfC x A c).toArray))) (K ++ [x]) := by
  refine ⟨h.tidy.put (by trivial) _, fun z => ?_, fun kl hk => ?_, fun z hz => ?_⟩
  · by_cases e : keyL z false = keyL x false
    · rw [e, has_put_same h.tidy.isMap (by trivial)]
      exact ⟨fun _ => ⟨x, by simp, (keyL_inj e).1⟩, fun _ => rfl⟩
    · rw [has_put_other e, h.has z]
      constructor
      · rintro ⟨y, hy, hl⟩; exact ⟨y, List.mem_append_left _ hy, hl⟩
      · rintro ⟨y, hy, hl⟩
        rcases List.mem_append.1 hy with hy | hy
        · exact ⟨y, hy, hl⟩
        · rw [List.mem_singleton.1 hy] at hl
          exact absurd (keyL_like hl false) e
  · by_cases e : kl = keyL x false
    · exact ⟨x, by simp, e⟩
    · rw [has_put_other e] at hk
      obtain ⟨z, hz, e⟩ := h.keys kl hk
      exact ⟨z, List.mem_append_left _ hz, e⟩
  · by_cases e : keyL z false = keyL x false
    · have hzx := (keyL_inj e).1
      refine ⟨x, A, c, fun zd => by rw [e, atKey_put_same h.tidy.isMap (by trivial)], hzx.symm, ⟨fun hx => ⟨x, by simp, hzx, hx⟩, ?_⟩, hr⟩
      rintro ⟨q, hq, hlq, heq⟩
      rcases he with he | he
      · exact he
      · rcases List.mem_append.1 hq with hq | hq
        · exact absurd ⟨q, hq, hzx.symm.trans hlq⟩ he
        · rw [List.mem_singleton.1 hq] at heq; exact heq
    · have hzK : z ∈ K := by
        rcases List.mem_append.1 hz with hz | hz
        · exact hz
        · rw [List.mem_singleton.1 hz] at e; exact absurd rfl e
      obtain ⟨y, A', c', h1, h2, h3, h4⟩ := h.elem z hzK
      refine ⟨y, A', c', fun zd => by rw [atKey_put_other e]; exact h1 zd, h2, h3.trans ⟨?_, ?_⟩, h4⟩
      · rintro ⟨q, hq, hlq, heq⟩
        exact ⟨q, List.mem_append_left _ hq, hlq, heq⟩
      · rintro ⟨q, hq, hlq, heq⟩
        rcases List.mem_append.1 hq with hq | hq
        · exact ⟨q, hq, hlq, heq⟩
        · rw [List.mem_singleton.1 hq] at hlq
          exact absurd (keyL_like hlq false) e
theorem ClAt.ltK {w : World} {f : ClF} {c : Cf.Cl} (h : ClAt w f c) : f.K < w.heap.size := by
  obtain ⟨nm, D, _, hm, _⟩ := h.kept
  exact hm.lt
/-- a closing that keeps one more, when its map alone has turned -/
theorem ClAt.kept1 {w w' : World} {f : ClF} {c : Cf.Cl} {K' : List Cf.Cfg} {nk : Nat} {D : DataW Value} (h : ClAt w f c) (ho : Only (fun k => k = f.K) w w')
    (hm : w'.ownsMap Tryd.prog 9 asIs f.K nk D) (hn : nk ≤ K'.length) (hk : KepIs w' (ClS w' f) D K') : ClAt w' f ⟨c.wait, K', c.over⟩ ∧ Steps f w w' := by
  obtain ⟨n1, n2, n3⟩ := h.ne
  obtain ⟨u, vs, h1, h2, h3⟩ := h.row
  have hu : w.cell? ⟨f.C, 2, none⟩ = some u := by rw [Lib.cell_of_heap h1]; rfl
  have hS : Steps f w w' := ⟨ho.more (fun b _ e => by rw [show b = f.K from e]; exact .inr (.inr (.inl rfl))), fun b _ hk => (cls_of_cell (ho.cell (o := 2) h.lt n2) b).1 hk⟩
  have hb := h.stay hS
  obtain ⟨nm, D0, m1, m2, m3⟩ := h.met
  exact ⟨⟨⟨u, vs, (ho.block f.C h.lt n2).trans h1, ownsRow_only h2 ho (fun k hk e => (h.row_ne hu hk).2.2.1 e), h3.only hS.only hS.same⟩, h.view.below hb, ⟨nm, D0, m1, ownsMap_onlyH m2 ho (fun e => n3 e), m3⟩, ⟨nk, D, hn, hm, hk⟩, h.pt.on hb, h.ge, h.ne, Nat.le_trans h.hw ho.size⟩, hS⟩
end Go.Proofs.YtnpcjbdolmmaeaaDoor
