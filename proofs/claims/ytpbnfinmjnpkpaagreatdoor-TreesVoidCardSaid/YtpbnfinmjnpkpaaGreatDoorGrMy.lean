/-
  May a node be empty (asking.may): the walk.
-/
import Derived.Test.YtpbnfinmjnpkpaaGreatDoorGrNu
import Derived.Laws.EntriesVeiled
namespace Go.Proofs.YtpbnfinmjnpkpaaGreatDoor
open Go.RowKit
set_option maxRecDepth 100000
section
variable {w0 : World} {B : Nat} {rs : List Gr.Ru} {em : List Bool} {ab : Nat}
def MayP (w0 : World) (B : Nat) (rs : List Gr.Ru) (em : List Bool) (ab : Nat) (token : Bool) (nd : Gr.Nd) : Prop := ∀ (cs : List Value) (W : World), NdR w0 B nd cs → AskAt w0 B rs em ab W →
  Calls Tryz.prog 179 #[.pointer (some ⟨ab, 0, none⟩), .bool token, .agg cs.toArray] W fun e W' => e = .returned (.bool (Gr.mayN rs em token nd)) ∧ Below W.heap.size W W'
/-- the boxes of a call -/
structure MyBx (ab : Nat) (token : Bool) (a3 a4 : Nat) (W : World) : Prop where
  a : W.heap[a3]? = some (.cells #[.pointer (some ⟨ab, 0, none⟩)] 232 (0, 0))
  t : W.heap[a4]? = some (.cells #[.bool token] 4 (0, 0))
theorem MyBx.next {token : Bool} {a3 a4 : Nat} {W W' : World} (h : MyBx ab token a3 a4 W) (hb : Below W.heap.size W W') : MyBx ab token a3 a4 W' := ⟨(hb.block _ (heap_lt h.a)).trans h.a, (hb.block _ (heap_lt h.t)).trans h.t⟩
theorem my1_any {token : Bool} {nd : Gr.Nd} (hP : MayP w0 B rs em ab token nd) (cs : List Value) (W : World) (a3 a4 : Nat) (hn : NdR w0 B nd cs) (ha : AskAt w0 B rs em ab W) (hx : MyBx ab token a3 a4 W) :
    Calls Tryz.prog 196 #[.agg cs.toArray, .pointer (some ⟨a3, 0, none⟩), .pointer (some ⟨a4, 0, none⟩)] W fun e W' => e = .returned (.bool (Gr.mayN rs em token nd)) ∧ Below W.heap.size W W' := by
  obtain ⟨xk, xm, xt, xSA, xa, xsc, xUA, xb, xuc, rfl⟩ := hn.form
  have hb1 := below_new W (.cells #[.int .u8 xk, .string xm, .string xt, .slice xSA xa xsc, .slice xUA xb xuc] 74)
  have h1 := heap_alloc_new W (.cells #[.int .u8 xk, .string xm, .string xt, .slice xSA xa xsc, .slice xUA xb xuc] 74)
  obtain ⟨W1, hW1⟩ : ∃ W1, Hid (W.alloc (.cells #[.int .u8 xk, .string xm, .string xt, .slice xSA xa xsc, .slice xUA xb xuc] 74) = W1) := ⟨_, hid rfl⟩
  rw [hW1.out] at hb1 h1
  have H := hid (hP _ W1 hn (ha.next hb1))
  have hx1 := hx.next hb1
  have c0 : W1.cell? ⟨a3, 0, none⟩ = some (.pointer (some ⟨ab, 0, none⟩)) := by rw [Lib.cell_of_heap hx1.a]; rfl
  have c1 : W1.cell? ⟨a4, 0, none⟩ = some (.bool token) := by rw [Lib.cell_of_heap hx1.t]; rfl
  obtain ⟨k0, k1, k2, k3, k4⟩ := (show _ from cells5' h1)
  have HB1 := hid hb1
  generalize Gr.mayN rs em token nd = q at H ⊢
  clear h1 hb1 hx1 hx ha hn hP
  go_enter Tryz.func196, Tryz.ntmps196
  go_upto_region 1 with fail
  rw [hW1.out]
  clear hW1
  go_wp2_with fail
  refine H.out.mono ?_
  rintro _ W2 ⟨rfl, hb2⟩
  have HF := hid (HB1.out.trans (hb2.mono HB1.out.size))
  clear hb2 c0 c1 k0 k1 k2 k3 k4
  go_wp2_with fail
  go_ret
  exact ⟨rfl, HF.out⟩
theorem my2_any {token : Bool} {nd : Gr.Nd} (hP : MayP w0 B rs em ab token nd) (cs : List Value) (W : World) (a3 a4 sb : Nat) (hn : NdR w0 B nd cs) (ha : AskAt w0 B rs em ab W) (hx : MyBx ab token a3 a4 W) (hs : W.heap[sb]? = some (.cells #[.func (.func 196) #[] #[.pointer (some ⟨a3, 0, none⟩), .pointer (some ⟨a4, 0, none⟩)]] 185 (0, 0))) :
    Calls Tryz.prog 197 #[.agg cs.toArray, .pointer (some ⟨sb, 0, none⟩)] W fun e W' => e = .returned (.bool (!Gr.mayN rs em token nd)) ∧ Below W.heap.size W W' := by
  obtain ⟨xk, xm, xt, xSA, xa, xsc, xUA, xb, xuc, rfl⟩ := hn.form
  have hb1 := below_new W (.cells #[.int .u8 xk, .string xm, .string xt, .slice xSA xa xsc, .slice xUA xb xuc] 74)
  have h1 := heap_alloc_new W (.cells #[.int .u8 xk, .string xm, .string xt, .slice xSA xa xsc, .slice xUA xb xuc] 74)
  obtain ⟨W1, hW1⟩ : ∃ W1, Hid (W.alloc (.cells #[.int .u8 xk, .string xm, .string xt, .slice xSA xa xsc, .slice xUA xb xuc] 74) = W1) := ⟨_, hid rfl⟩
  rw [hW1.out] at hb1 h1
  have H := hid (my1_any hP _ W1 a3 a4 hn (ha.next hb1) (hx.next hb1))
  have hs1 := (hb1.block _ (heap_lt hs)).trans hs
  have c0 : W1.cell? ⟨sb, 0, none⟩ = some (.func (.func 196) #[] #[.pointer (some ⟨a3, 0, none⟩), .pointer (some ⟨a4, 0, none⟩)]) := by rw [Lib.cell_of_heap hs1]; rfl
  obtain ⟨k0, k1, k2, k3, k4⟩ := (show _ from cells5' h1)
  have HB1 := hid hb1
  generalize Gr.mayN rs em token nd = q at H ⊢
  clear h1 hb1 hs1 hs hx ha hn hP
  go_enter Tryz.func197, Tryz.ntmps197
  go_upto_region 1 with fail
  rw [hW1.out]
  clear hW1
  go_wp2_with fail
  refine H.out.mono ?_
  rintro _ W2 ⟨rfl, hb2⟩
  have HF := hid (HB1.out.trans (hb2.mono HB1.out.size))
  clear hb2 c0 k0 k1 k2 k3 k4
  go_wp2_with fail
  go_ret
  exact ⟨rfl, HF.out⟩
theorem any_not {α : Type} (p : α → Bool) (l : List α) : (!l.any fun x => !p x) = l.all p := by
  induction l with
  | nil => rfl
  | cons x l ih => rw [List.any_cons, List.all_cons, ← ih]; cases p x <;> simp
theorem reads_bool {W : World} {n : Nat} {EA : Option Addr} (h : Reads W W.heap.size 1 EA n (em.map fun b => Value.bool b)) (i : Nat) (hi : i < n) : ∃ b o, EA = some ⟨b, o, none⟩ ∧ b < W.heap.size ∧ W.cell? ⟨b, o + i, none⟩ = some (.bool (em.getD i false)) := by
  obtain ⟨b, o, e, hb, hc⟩ := h.2 (by omega)
  have hl := h.1
  rw [List.length_map] at hl
  refine ⟨b, o, e, hb, hc i _ ?_⟩
  rw [List.getElem?_map, List.getElem?_eq_getElem (by omega), List.getD_eq_getElem?_getD, List.getElem?_eq_getElem (by omega)]
  rfl
set_option maxHeartbeats 8000000 in
theorem may_at {token : Bool} (k nm t st) (L : List Gr.Nd) (hL : ∀ i (hi : i < L.length), MayP w0 B rs em ab token L[i]) (hLL : L.length ≤ 4398046511104) : MayP w0 B rs em ab token (.mk k nm t st L) := by
  intro cs W hn ha
  have hn' := hn
  unfold NdR at hn'
  obtain ⟨SA, sc, UA, uc, xs, rfl, _, hr, hv, _⟩ := hn'
  have z1 : (W.alloc (.cells #[.pointer (some ⟨ab, 0, none⟩)] 232)).heap.size = W.heap.size + 1 := by simp
  have z2 : ((W.alloc (.cells #[.pointer (some ⟨ab, 0, none⟩)] 232)).alloc (.cells #[.bool token] 4)).heap.size = W.heap.size + 2 := by simp
  have z3 : (((W.alloc (.cells #[.pointer (some ⟨ab, 0, none⟩)] 232)).alloc (.cells #[.bool token] 4)).alloc (.cells #[.int .u8 (k : Int), Gr.strV nm, Gr.strV t, .slice SA st.length sc, .slice UA L.length uc] 74)).heap.size = W.heap.size + 3 := by simp
  obtain ⟨W1, hW1⟩ : ∃ W1, Hid ((((W.alloc (.cells #[.pointer (some ⟨ab, 0, none⟩)] 232)).alloc (.cells #[.bool token] 4)).alloc (.cells #[.int .u8 (k : Int), Gr.strV nm, Gr.strV t, .slice SA st.length sc, .slice UA L.length uc] 74)).alloc (.cells #[.func (.func 196) #[] #[.pointer (some ⟨W.heap.size, 0, none⟩), .pointer (some ⟨W.heap.size + 1, 0, none⟩)]] 185) = W1) := ⟨_, hid rfl⟩
  have hb1 : Below W.heap.size W W1 := by rw [← hW1.out]; exact (((below_new _ _).alloc (by omega) _).alloc (by omega) _).alloc (by omega) _
  have h0 : W1.heap[W.heap.size]? = some (.cells #[.pointer (some ⟨ab, 0, none⟩)] 232 (0, 0)) := by rw [← hW1.out, Below.heap_alloc _ _ _ (by omega), Below.heap_alloc _ _ _ (by omega), Below.heap_alloc _ _ _ (by omega)]; exact heap_alloc_new _ _
  have h1 : W1.heap[W.heap.size + 1]? = some (.cells #[.bool token] 4 (0, 0)) := by rw [← hW1.out, Below.heap_alloc _ _ _ (by omega), Below.heap_alloc _ _ _ (by omega), ← z1]; exact heap_alloc_new _ _
  have h2 : W1.heap[W.heap.size + 2]? = some (.cells #[.int .u8 (k : Int), Gr.strV nm, Gr.strV t, .slice SA st.length sc, .slice UA L.length uc] 74 (0, 0)) := by rw [← hW1.out, Below.heap_alloc _ _ _ (by omega), ← z2]; exact heap_alloc_new _ _
  have h3 : W1.heap[W.heap.size + 3]? = some (.cells #[.func (.func 196) #[] #[.pointer (some ⟨W.heap.size, 0, none⟩), .pointer (some ⟨W.heap.size + 1, 0, none⟩)]] 185 (0, 0)) := by rw [← hW1.out, ← z3]; exact heap_alloc_new _ _
  have ha1 := ha.next hb1
  have hx1 : MyBx ab token W.heap.size (W.heap.size + 1) W1 := ⟨h0, h1⟩
  have HS := hid (hasN_any L (fun x => !Gr.mayN rs em token x) 197 #[.pointer (some ⟨W.heap.size + 3, 0, none⟩)] (fun _ _ => rfl) UA uc xs W1 hr hv ha1.b ha1.hB
    (fun i hi cs W2 hcs hb2 => my2_any (hL i hi) cs W2 _ _ _ hcs (ha1.next hb2) (hx1.next hb2) ((hb2.block _ (heap_lt h3)).trans h3)) hLL)
  have HA := hid (hasN_any L (Gr.mayN rs em token) 196 #[.pointer (some ⟨W.heap.size, 0, none⟩), .pointer (some ⟨W.heap.size + 1, 0, none⟩)] (fun _ _ => rfl) UA uc xs W1 hr hv ha1.b ha1.hB
    (fun i hi cs W2 hcs hb2 => my1_any (hL i hi) cs W2 _ _ hcs (ha1.next hb2) (hx1.next hb2)) hLL)
  have HN := hid (askNamed_any token (.mk k nm t st L) _ W1 hn ha1)
  obtain ⟨q1, hq1⟩ : ∃ q, L.all (Gr.mayN rs em token) = q := ⟨_, rfl⟩
  obtain ⟨q2, hq2⟩ : ∃ q, L.any (Gr.mayN rs em token) = q := ⟨_, rfl⟩
  have HS2 : Hid (L.any (fun x => !Gr.mayN rs em token x) = !q1) := hid (by rw [← hq1, ← any_not]; simp)
  rw [HS2.out] at HS
  rw [hq2] at HA
  have HQ1 := hid hq1
  have HQ2 := hid hq2
  obtain ⟨no, hno⟩ : ∃ o, Gr.namedR rs token (.mk k nm t st L) = o := ⟨_, rfl⟩
  rw [hno] at HN
  have HNO := hid hno
  obtain ⟨c0, c1⟩ : W1.cell? ⟨W.heap.size, 0, none⟩ = some (.pointer (some ⟨ab, 0, none⟩)) ∧ W1.cell? ⟨W.heap.size + 1, 0, none⟩ = some (.bool token) := ⟨by rw [Lib.cell_of_heap h0]; rfl, by rw [Lib.cell_of_heap h1]; rfl⟩
  have c3 : W1.cell? ⟨W.heap.size + 3, 0, none⟩ = some (.func (.func 196) #[] #[.pointer (some ⟨W.heap.size, 0, none⟩), .pointer (some ⟨W.heap.size + 1, 0, none⟩)]) := by rw [Lib.cell_of_heap h3]; rfl
  obtain ⟨k0, k1, k2, k3, k4⟩ := (show _ from cells5' h2)
  have HH0 := hid h0
  have HA1 := hid ha1
  have HB1 := hid hb1
  obtain ⟨n, hn⟩ : ∃ n, L.length = n := ⟨_, rfl⟩
  obtain ⟨sn, hsn⟩ : ∃ sn, st.length = sn := ⟨_, rfl⟩
  obtain ⟨kz, hkz⟩ : ∃ kz : Int, (k : Int) = kz := ⟨_, rfl⟩
  rw [hn] at HS HA HN k4 hW1 ⊢
  rw [hsn] at HN k3 hW1 ⊢
  rw [hkz] at HN k0 hW1 ⊢
  clear h0 h1 h2 h3 hx1 ha1 ha hb1 hr hv hL z1 z2 z3 hq1 hq2 hno hn hsn
  unfold Gr.strV at *
  have HT : Hid (t.isEmpty = (t == [])) := hid (by cases t <;> rfl)
  rcases (by omega : k = 0 ∨ k = 1 ∨ k = 2 ∨ k = 3 ∨ k = 4 ∨ k = 5 ∨ k = 6 ∨ k = 7 ∨ k = 8 ∨ 9 ≤ k) with h | h | h | h | h | h | h | h | h | h
  · subst h
    obtain rfl : kz = 0 := by omega
    have HM := hid (Gr.mayN_alts rs em token nm t st L)
    clear hkz HN HS c0 c1 k1 k2 k3
    go_enter Tryz.func179, Tryz.ntmps179
    go_upto_region 2 with fail
    rw [hW1.out]
    clear hW1
    go_wp2_with fail
    refine HA.out.mono ?_
    rintro _ W2 ⟨rfl, hb2⟩
    have HF := hid (HB1.out.trans (hb2.mono HB1.out.size))
    clear hb2 c3 k0 k4
    go_wp2_with fail
    go_ret
    exact ⟨by rw [HM.out, HQ2.out]; rfl, HF.out⟩
  · subst h
    obtain rfl : kz = 1 := by omega
    have HM := hid (Gr.mayN_seq rs em token nm t st L)
    clear hkz HN HA c0 c1 k1 k2 k3
    go_enter Tryz.func179, Tryz.ntmps179
    go_upto_region 2 with fail
    rw [hW1.out]
    clear hW1
    go_wp2_with fail
    refine HS.out.mono ?_
    rintro _ W2 ⟨rfl, hb2⟩
    have HF := hid (HB1.out.trans (hb2.mono HB1.out.size))
    clear hb2 c3 k0 k4
    go_wp2_with fail
    go_ret
    exact ⟨by rw [HM.out, HQ1.out]; simp [go_sem], HF.out⟩
  · subst h
    obtain rfl : kz = 2 := by omega
    have HM := hid (Gr.mayN_yes rs em token 2 nm t st L (by omega))
    clear hkz HN HS HA c0 c1 k1 k2 k3
    go_enter Tryz.func179, Tryz.ntmps179
    go_upto_region 2 with fail
    rw [hW1.out]
    clear hW1
    go_wp2_with fail
    go_ret
    exact ⟨by rw [HM.out]; rfl, HB1.out⟩
  · subst h
    obtain rfl : kz = 3 := by omega
    have HM := hid (Gr.mayN_yes rs em token 3 nm t st L (by omega))
    clear hkz HN HS HA c0 c1 k1 k2 k3
    go_enter Tryz.func179, Tryz.ntmps179
    go_upto_region 2 with fail
    rw [hW1.out]
    clear hW1
    go_wp2_with fail
    go_ret
    exact ⟨by rw [HM.out]; rfl, HB1.out⟩
  · subst h
    obtain rfl : kz = 4 := by omega
    have HM := hid (Gr.mayN_plus rs em token nm t st L)
    clear hkz HN HS c0 c1 k1 k2 k3
    go_enter Tryz.func179, Tryz.ntmps179
    go_upto_region 2 with fail
    rw [hW1.out]
    clear hW1
    go_wp2_with fail
    refine HA.out.mono ?_
    rintro _ W2 ⟨rfl, hb2⟩
    have HF := hid (HB1.out.trans (hb2.mono HB1.out.size))
    clear hb2 c3 k0 k4
    go_wp2_with fail
    go_ret
    exact ⟨by rw [HM.out, HQ2.out]; rfl, HF.out⟩
  · subst h
    obtain rfl : kz = 5 := by omega
    have HM := hid (Gr.mayN_name rs em token 5 nm t st L (by omega))
    clear hkz HS HA
    go_enter Tryz.func179, Tryz.ntmps179
    go_upto_region 2 with fail
    rw [hW1.out]
    clear hW1
    go_wp2_with fail
    refine HN.out.mono ?_
    rintro _ W2 ⟨rfl, hb2⟩
    have HF := hid (HB1.out.trans (hb2.mono HB1.out.size))
    have h02 := (hb2.block _ (heap_lt HH0.out)).trans HH0.out
    obtain ⟨_, _, ⟨gn, bd, sta, RA, rc, EA, ec, _, hA, hE, _⟩, _⟩ := HA1.out.next hb2
    clear hb2 c0 c1 c3 k0 k1 k2 k3 k4
    cases no with
    | none =>
      unfold idxAns
      clear hA hE h02
      go_wp2_with fail
      go_ret
      exact ⟨by rw [HM.out, HNO.out]; rfl, HF.out⟩
    | some i =>
      have hir : i < rs.length := Gr.namedR_lt HNO.out
      obtain ⟨ri, hri⟩ : ∃ ri, rs.length = ri := ⟨_, rfl⟩
      rw [hri] at hir hA hE
      obtain ⟨b, o, rfl, hb, e1⟩ := reads_bool hE i hir
      have c0 : W2.cell? ⟨W.heap.size, 0, none⟩ = some (.pointer (some ⟨ab, 0, none⟩)) := by rw [Lib.cell_of_heap h02]; rfl
      have a4 : W2.cell? ⟨ab, 4, none⟩ = some (.slice (some ⟨b, o, none⟩) ri ec) := by rw [Lib.cell_of_heap hA]; rfl
      have hiI : (i : Int) < (ri : Int) := by omega
      have hi0 : (0 : Int) ≤ (i : Int) := by omega
      have HGO := hid (show Gr.getO em (some i) = em.getD i false from rfl)
      generalize em.getD i false = bv at e1 HGO
      unfold idxAns
      clear hA hE h02 hri
      go_wp2_with fail
      go_ret
      exact ⟨by rw [HM.out, HNO.out, HGO.out]; rfl, HF.out⟩
  · subst h
    obtain rfl : kz = 6 := by omega
    have HM := hid (Gr.mayN_name rs em token 6 nm t st L (by omega))
    clear hkz HS HA
    go_enter Tryz.func179, Tryz.ntmps179
    go_upto_region 2 with fail
    rw [hW1.out]
    clear hW1
    go_wp2_with fail
    refine HN.out.mono ?_
    rintro _ W2 ⟨rfl, hb2⟩
    have HF := hid (HB1.out.trans (hb2.mono HB1.out.size))
    have h02 := (hb2.block _ (heap_lt HH0.out)).trans HH0.out
    obtain ⟨_, _, ⟨gn, bd, sta, RA, rc, EA, ec, _, hA, hE, _⟩, _⟩ := HA1.out.next hb2
    clear hb2 c0 c1 c3 k0 k1 k2 k3 k4
    cases no with
    | none =>
      unfold idxAns
      clear hA hE h02
      go_wp2_with fail
      go_ret
      exact ⟨by rw [HM.out, HNO.out]; rfl, HF.out⟩
    | some i =>
      have hir : i < rs.length := Gr.namedR_lt HNO.out
      obtain ⟨ri, hri⟩ : ∃ ri, rs.length = ri := ⟨_, rfl⟩
      rw [hri] at hir hA hE
      obtain ⟨b, o, rfl, hb, e1⟩ := reads_bool hE i hir
      have c0 : W2.cell? ⟨W.heap.size, 0, none⟩ = some (.pointer (some ⟨ab, 0, none⟩)) := by rw [Lib.cell_of_heap h02]; rfl
      have a4 : W2.cell? ⟨ab, 4, none⟩ = some (.slice (some ⟨b, o, none⟩) ri ec) := by rw [Lib.cell_of_heap hA]; rfl
      have hiI : (i : Int) < (ri : Int) := by omega
      have hi0 : (0 : Int) ≤ (i : Int) := by omega
      have HGO := hid (show Gr.getO em (some i) = em.getD i false from rfl)
      generalize em.getD i false = bv at e1 HGO
      unfold idxAns
      clear hA hE h02 hri
      go_wp2_with fail
      go_ret
      exact ⟨by rw [HM.out, HNO.out, HGO.out]; rfl, HF.out⟩
  · subst h
    obtain rfl : kz = 7 := by omega
    have HM := hid (Gr.mayN_yes rs em token 7 nm t st L (by omega))
    clear hkz HN HS HA c0 c1 k1 k2 k3
    go_enter Tryz.func179, Tryz.ntmps179
    go_upto_region 2 with fail
    rw [hW1.out]
    clear hW1
    go_wp2_with fail
    go_ret
    exact ⟨by rw [HM.out]; rfl, HB1.out⟩
  · subst h
    obtain rfl : kz = 8 := by omega
    have HM := hid (Gr.mayN_lit rs em token nm t st L)
    clear hkz HN HS HA c0 c1 k1 k3
    go_enter Tryz.func179, Tryz.ntmps179
    go_upto_region 2 with fail
    rw [hW1.out]
    clear hW1
    go_wp2_with fail
    go_ret
    exact ⟨by rw [HM.out, HT.out]; rfl, HB1.out⟩
  · have HM := hid (Gr.mayN_no rs em token k nm t st L h)
    have f0 : (kz == 0) = false := by rw [beq_eq_false_iff_ne]; omega
    have f1 : (kz == 1) = false := by rw [beq_eq_false_iff_ne]; omega
    have f2 : (kz == 2) = false := by rw [beq_eq_false_iff_ne]; omega
    have f3 : (kz == 3) = false := by rw [beq_eq_false_iff_ne]; omega
    have f4 : (kz == 4) = false := by rw [beq_eq_false_iff_ne]; omega
    have f5 : (kz == 5) = false := by rw [beq_eq_false_iff_ne]; omega
    have f6 : (kz == 6) = false := by rw [beq_eq_false_iff_ne]; omega
    have f7 : (kz == 7) = false := by rw [beq_eq_false_iff_ne]; omega
    have f8 : (kz == 8) = false := by rw [beq_eq_false_iff_ne]; omega
    clear hkz HN HS HA c0 c1 k1 k2 k3 h
    go_enter Tryz.func179, Tryz.ntmps179
    go_upto_region 2 with fail
    rw [hW1.out]
    clear hW1
    go_wp2_with fail
    go_ret
    exact ⟨by rw [HM.out]; rfl, HB1.out⟩
mutual
theorem may_any {token : Bool} : ∀ nd : Gr.Nd, Gr.okN nd → MayP w0 B rs em ab token nd
  | .mk k nm t st L, h => by
    unfold Gr.okN at h
    exact may_at k nm t st L (may_subs L h.2.2.2.2.2.2) h.2.2.2.2.2.1
theorem may_subs {token : Bool} : ∀ L : List Gr.Nd, Gr.okNs L → ∀ i (hi : i < L.length), MayP w0 B rs em ab token L[i]
  | [], _, i, hi => absurd hi (Nat.not_lt_zero _)
  | x :: L, h, i, hi => by
    unfold Gr.okNs at h
    cases i with
    | zero => exact may_any x h.1
    | succ i => exact may_subs L h.2 i (by simpa using hi)
end
end
end Go.Proofs.YtpbnfinmjnpkpaaGreatDoor
