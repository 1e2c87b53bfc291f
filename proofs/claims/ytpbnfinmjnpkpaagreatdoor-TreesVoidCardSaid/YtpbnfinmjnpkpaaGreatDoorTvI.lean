/-
  Joined texts: TtNw.
-/
import Derived.Test.YtpbnfinmjnpkpaaGreatDoorTvE
import Derived.Test.YtpbnfinmjnpkpaaGreatDoorGrLv
import Derived.Test.YtpbnfinmjnpkpaaGreatDoorGrSnd
import Derived.Test.YtpbnfinmjnpkpaaGreatDoorTvB
/-
  A checker of a grammar (trees.New): the walk.
-/
namespace Go.Proofs.YtpbnfinmjnpkpaaGreatDoor
open Go.RowKit Go.Maps
set_option maxRecDepth 100000
namespace Tt
/-- names of these rules, told their places among them -/
def namT (rs : List Gr.Ru) (l : List Nat) : Nat → List UInt8 → Option Int
  | 0 => fun _ => none
  | n + 1 => upN (namT rs l n) (Gr.ruAt rs (l.getD n 0)).name (n : Int)
def toks (rs : List Gr.Ru) : List Nat := ofL rs [1, 3] rs.length
def pars (rs : List Gr.Ru) : List Nat := ofL rs [0] rs.length
def tokF (rs : List Gr.Ru) : List UInt8 → Option Int := namT rs (toks rs) (toks rs).length
def rulF (rs : List Gr.Ru) : List UInt8 → Option Int := namT rs (pars rs) (pars rs).length
def bodiesF (rs : List Gr.Ru) : List Gr.Nd := (pars rs).map fun i => (Gr.ruAt rs i).body
end Tt
theorem ofL_lt (rs : List Gr.Ru) (ks : List Nat) (i : Nat) (h : i < (ofL rs ks rs.length).length) : (ofL rs ks rs.length)[i] < rs.length := by
  have h1 := List.getElem_mem h
  unfold ofL at h1
  exact List.mem_range.1 (List.mem_filter.1 h1).1
/-- what is written are blocks in which no numbers lie -/
theorem reads_noint {w w' : World} {Bd n : Nat} {A : Option Addr} {l : List Nat} {S : Nat → Prop} (h : Reads w Bd 1 A n (numsV l)) (hBd : Bd ≤ w.heap.size) (ho : Only S w w') (hS : ∀ k, k < Bd → S k → ∀ o z, w.cell? ⟨k, o, none⟩ ≠ some (.int .i64 z)) : Reads w' Bd 1 A n (numsV l) := by
  refine ⟨h.1, fun hn => ?_⟩
  obtain ⟨b, off, hA, hb, hc⟩ := h.2 hn
  refine ⟨b, off, hA, hb, fun j u hu => ?_⟩
  have h1 := hc j u hu
  refine (ho.cell (Nat.lt_of_lt_of_le hb hBd) fun hs => ?_).trans h1
  have hm : u ∈ numsV l := List.mem_of_getElem? hu
  unfold numsV at hm
  obtain ⟨k, _, rfl⟩ := List.mem_map.1 hm
  exact hS b hb hs _ _ h1
theorem NamM.noint {W : World} {b n : Nat} {f : List UInt8 → Option Int} (h : NamM W b n f) (o : Nat) (z : Int) : W.cell? ⟨b, o, none⟩ ≠ some (.int .i64 z) := by
  obtain ⟨D, ⟨es, cl, hb, _⟩, _⟩ := h
  unfold World.cell?
  rw [show W.heap[(⟨b, o, none⟩ : Addr).block]? = _ from hb]
  simp
theorem chk_noint {W : World} {cb : Nat} {a b : Option Nat} {A : Option Addr} {n c : Nat} (h : W.heap[cb]? = some (.cells #[.map a, .map b, .slice A n c] 33 (0, 0))) (o : Nat) (z : Int) : W.cell? ⟨cb, o, none⟩ ≠ some (.int .i64 z) := by
  rw [Lib.cell_of_heap h]
  rcases o with _ | _ | _ | o <;> simp
def NewP (rs : List Gr.Ru) (w : World) (e : Ending) (W' : World) : Prop := ∃ cb br bt BA bc xs, e = .returned (.tuple #[.pointer (some ⟨cb, 0, none⟩), .int .i64 0]) ∧ ChkAt W' cb br bt BA bc (Tt.tokF rs) (Tt.rulF rs) (Tt.bodiesF rs) xs ∧ Below w.heap.size w W'
/-- a checker that is being made -/
structure NwI (w : World) (GC : Array Value) (br i j : Nat) (fr ft : List UInt8 → Option Int) (v : Value) (Bd : Nat) (A : Option Addr) (k : Nat) (l : List Nat) (u : World) : Prop where
  gb : u.heap[w.heap.size]? = some (.cells GC 56 (0, 0))
  mr : ∃ n, n ≤ i ∧ NamM u br n fr
  mt : ∃ n, n ≤ j ∧ NamM u (br + 1) n ft
  cb : u.heap[br + 2]? = some (.cells #[.map (some br), .map (some (br + 1)), v] 33 (0, 0))
  of : Reads u Bd 1 A k (numsV l)
  bd : Bd ≤ u.heap.size
  below : Below w.heap.size w u
  lt : w.heap.size < br
theorem NwI.drew {w u : World} {GC : Array Value} {br i j Bd k : Nat} {fr ft : List UInt8 → Option Int} {v : Value} {A : Option Addr} {l : List Nat} (h : NwI w GC br i j fr ft v Bd A k l u) : NwI w GC br i j fr ft v Bd A k l u.drew :=
  ⟨h.gb, h.mr, h.mt, h.cb, h.of, h.bd, h.below.drew, h.lt⟩
theorem NwI.tok {w u u5 : World} {GC : Array Value} {br i j m Bd k : Nat} {fr ft ft' : List UInt8 → Option Int} {v : Value} {A : Option Addr} {l : List Nat} {D : DataW Value} (h : NwI w GC br i j fr ft v Bd A k l u) (hg : u.grownBy u5 (some (br + 1))) (hm : u5.ownsMap Tryz.prog 9 asV (br + 1) m D) (hD : NamI D ft') (hmj : m ≤ j + 1) :
    NwI w GC br i (j + 1) fr ft' v Bd A k l u5 := by
  have ho : Only (fun k => k = br + 1) u u5 := (Only.of_grown hg).more fun b _ e => by injection e
  obtain ⟨nt, _, hmt⟩ := h.mt
  refine ⟨(ho.block _ (heap_lt h.gb) (by have := h.lt; omega)).trans h.gb, ?_, ⟨m, hmj, D, hm, hD⟩, (ho.block _ (heap_lt h.cb) (by omega)).trans h.cb, reads_noint h.of h.bd ho (fun k _ e o z => by subst e; exact hmt.noint o z), Nat.le_trans h.bd ho.size, ho.below (fun b e => by have := h.lt; omega) h.below h.below.size, h.lt⟩
  obtain ⟨n, hn, hm⟩ := h.mr
  exact ⟨n, hn, hm.only ho (fun e => by omega)⟩
theorem NwI.rul {w u u5 : World} {GC : Array Value} {br i j m Bd k : Nat} {fr ft fr' : List UInt8 → Option Int} {v : Value} {A : Option Addr} {l : List Nat} {D : DataW Value} (h : NwI w GC br i j fr ft v Bd A k l u) (hg : u.grownBy u5 (some br)) (hm : u5.ownsMap Tryz.prog 9 asV br m D) (hD : NamI D fr') (hmi : m ≤ i + 1) :
    NwI w GC br (i + 1) j fr' ft v Bd A k l u5 := by
  have ho : Only (fun k => k = br) u u5 := (Only.of_grown hg).more fun b _ e => by injection e
  obtain ⟨nt, _, hmr⟩ := h.mr
  refine ⟨(ho.block _ (heap_lt h.gb) (by have := h.lt; omega)).trans h.gb, ⟨m, hmi, D, hm, hD⟩, ?_, (ho.block _ (heap_lt h.cb) (by omega)).trans h.cb, reads_noint h.of h.bd ho (fun k _ e o z => by subst e; exact hmr.noint o z), Nat.le_trans h.bd ho.size, ho.below (fun b e => by have := h.lt; omega) h.below h.below.size, h.lt⟩
  obtain ⟨n, hn, hm⟩ := h.mt
  exact ⟨n, hn, hm.only ho (fun e => by omega)⟩
/-- the bodies that were copied, as they lie -/
def NwR (Bd i : Nat) (l : List Gr.Nd) (v : Value) (u : World) : Prop := ∃ xs, u.ownsRow Bd 74 5 v i xs ∧ NdsO u (fun b => b < Bd ∨ v.ownBlock = some b) l xs
theorem NwR.only {Bd i : Nat} {l : List Gr.Nd} {v : Value} {u u' : World} {S : Nat → Prop} (h : NwR Bd i l v u) (ho : Only S u u') (hS : ∀ b, b < u.heap.size → S b → b < Bd) : NwR Bd i l v u' := by
  obtain ⟨xs, h1, h2⟩ := h
  exact ⟨xs, ownsRow_only h1 ho (fun k e hs => by have := h1.lt k e; have := hS k this.2 hs; omega), NdsO.only (ho.more fun b hb e => (.inl (hS b hb e) : b < Bd ∨ _)) (fun _ _ e => e) _ _ h2⟩
theorem nw_push {w w7 w8 wf : World} {GC : Array Value} {br i j Bd k n g c m8 : Nat} {fr ft : List UInt8 → Option Int} {v : Value} {A : Option Addr} {l : List Nat} {L : List Gr.Nd} {nd : Gr.Nd} {cs9 xs : List Value} (h : NwI w GC br i j fr ft v Bd A k l w7) (hbb : br + 2 < Bd)
    (hrow : w7.ownsRow Bd 74 5 v n xs) (hnds : NdsO w7 (fun b => b < Bd ∨ v.ownBlock = some b) L xs) (h78 : Below w7.heap.size w7 w8) (hn9 : NdO w8 (fun b => b < m8) nd cs9) (hm8 : w7.heap.size ≤ m8) (hgg : v.ownBlock = some g ∨ w8.heap.size ≤ g)
    (ho : Only (fun b => b = br + 2 ∨ v.ownBlock = some b ∨ b = g) w8 wf) (hown : wf.ownsRow Bd 74 5 (.slice (some ⟨g, 0, none⟩) (n + 1) c) (n + 1) (xs ++ cs9)) (hcb : wf.heap[br + 2]? = some (.cells #[.map (some br), .map (some (br + 1)), .slice (some ⟨g, 0, none⟩) (n + 1) c] 33 (0, 0))) :
    NwI w GC br i j fr ft (.slice (some ⟨g, 0, none⟩) (n + 1) c) Bd A k l wf ∧ NwR Bd (n + 1) (L ++ [nd]) (.slice (some ⟨g, 0, none⟩) (n + 1) c) wf := by
  have hgb : Bd ≤ g := (hown.lt g rfl).1
  have hvb : ∀ b, v.ownBlock = some b → Bd ≤ b ∧ b < w7.heap.size := fun b e => hrow.lt b e
  have hlt := h.lt
  have hwl := heap_lt h.gb
  have hcl := heap_lt h.cb
  have hs8 := h78.size
  have hno : ∀ b, b < Bd → b ≠ br + 2 → ¬ (b = br + 2 ∨ v.ownBlock = some b ∨ b = g) := fun b hb hn e => by
    rcases e with e | e | e
    · exact hn e
    · have := (hvb b e).1; omega
    · omega
  have keep : ∀ b, b < Bd → b ≠ br + 2 → b < w7.heap.size → wf.heap[b]? = w7.heap[b]? := fun b hb hn hl => (ho.block b (by omega) (hno b hb hn)).trans (h78.block b hl)
  obtain ⟨nr, hnr, hmr⟩ := h.mr
  obtain ⟨nt, hnt, hmt⟩ := h.mt
  have hb7 := (Only.of_below (S := fun b => b = br + 2 ∨ v.ownBlock = some b ∨ b = g) h78).trans ho fun _ _ e => e
  refine ⟨⟨(keep _ (by omega) (by omega) hwl).trans h.gb, ⟨nr, hnr, hmr.only hb7 (hno _ (by omega) (by omega))⟩, ⟨nt, hnt, hmt.only hb7 (hno _ (by omega) (by omega))⟩, hcb, ?_, Nat.le_trans h.bd hb7.size, ?_, hlt⟩, ⟨xs ++ cs9, hown, ?_⟩⟩
  · refine reads_noint h.of h.bd hb7 fun b hb e o z => ?_
    by_cases hn : b = br + 2
    · subst hn
      obtain ⟨_, _, hvs⟩ := row_form hrow
      have hcb7 := h.cb
      rw [hvs] at hcb7
      exact chk_noint hcb7 o z
    · exact absurd e (hno b hb hn)
  · refine hb7.below (fun b e => ?_) h.below h.below.size
    rcases e with e | e | e
    · omega
    · have := (hvb b e).1; omega
    · omega
  · have hSS : ∀ b, b < w7.heap.size → (b < Bd ∨ (Value.slice (some ⟨g, 0, none⟩) (n + 1) c).ownBlock = some b) → (b < Bd ∨ v.ownBlock = some b) := by
      rintro b hb (e | e)
      · exact .inl e
      · have e : some g = some b := e
        injection e with e
        rcases hgg with h | h
        · exact .inr (e ▸ h)
        · omega
    have hb78 : Only (fun b => b < Bd ∨ v.ownBlock = some b) w7 wf := by
      refine hb7.more fun b hb e => ?_
      rcases e with e | e | e
      · exact .inl (by omega)
      · exact .inr e
      · rcases hgg with h | h
        · exact .inr (e ▸ h)
        · omega
    refine NdsO.snoc ?_ _ _ (NdsO.only hb78 hSS _ _ hnds)
    have hb8 : Only (fun b => b < m8) w8 wf := by
      refine ho.more fun b hb e => ?_
      rcases e with e | e | e
      · show b < m8; omega
      · have := (hvb b e).2; show b < m8; omega
      · rcases hgg with h | h
        · have := (hvb g h).2; show b < m8; omega
        · omega
    refine NdO.only hb8 ?_ _ _ hn9
    rintro b hb (e | e)
    · have := h.bd; show b < m8; omega
    · have e : some g = some b := e
      injection e with e
      rcases hgg with h | h
      · have := (hvb g h).2; show b < m8; omega
      · omega
theorem own_last {w : World} {base n c g : Nat} {e : TypeId} {xs : List Value} {z0 z1 z2 z3 z4 : Value} (h : w.ownsRow base e 5 (.slice (some ⟨g, 0, none⟩) (n + 1) c) (n + 1) (xs ++ [z0, z1, z2, z3, z4])) :
    xs.length = n * 5 ∧ (w.cell? ⟨g, n * 5, none⟩ = some z0 ∧ w.cell? ⟨g, n * 5 + 1, none⟩ = some z1 ∧ w.cell? ⟨g, n * 5 + 2, none⟩ = some z2 ∧ w.cell? ⟨g, n * 5 + 3, none⟩ = some z3 ∧ w.cell? ⟨g, n * 5 + 4, none⟩ = some z4) ∧ ∀ o, w.frozen? ⟨g, o, none⟩ = false := by
  have hl : xs.length = n * 5 := by have := h.1; rw [List.length_append] at this; simp at this; omega
  obtain ⟨b, off, hA, hb, hc⟩ := (Reads.of_own h).2 (by omega)
  injection hA with hA
  injection hA with hA1 hA2
  subst hA1 hA2
  refine ⟨hl, ⟨?_, ?_, ?_, ?_, ?_⟩, fun o => ?_⟩
  · have := hc (n * 5) z0 (by rw [List.getElem?_append_right (by omega), hl, Nat.sub_self]; rfl)
    rwa [Nat.zero_add] at this
  · have := hc (n * 5 + 1) z1 (by rw [List.getElem?_append_right (by omega), hl, Nat.add_sub_cancel_left]; rfl)
    rwa [Nat.zero_add] at this
  · have := hc (n * 5 + 2) z2 (by rw [List.getElem?_append_right (by omega), hl, Nat.add_sub_cancel_left]; rfl)
    rwa [Nat.zero_add] at this
  · have := hc (n * 5 + 3) z3 (by rw [List.getElem?_append_right (by omega), hl, Nat.add_sub_cancel_left]; rfl)
    rwa [Nat.zero_add] at this
  · have := hc (n * 5 + 4) z4 (by rw [List.getElem?_append_right (by omega), hl, Nat.add_sub_cancel_left]; rfl)
    rwa [Nat.zero_add] at this
  · rcases h.2 with ⟨h0, _⟩ | ⟨g', c', cur, hv, _, hh, _⟩
    · cases h0
    · injection hv with hv
      injection hv with hv
      injection hv with hv
      subst hv
      exact Lib.frozen_of_heap hh o
theorem own_put5 {w : World} {base n c g : Nat} {e : TypeId} {xs : List Value} {z0 z1 z2 z3 z4 : Value} (h : w.ownsRow base e 5 (.slice (some ⟨g, 0, none⟩) (n + 1) c) (n + 1) (xs ++ [z0, z1, z2, z3, z4])) (a0 a1 a2 a3 a4 : Value) :
    (((((w.setCell ⟨g, n * 5, none⟩ a0).setCell ⟨g, n * 5 + 1, none⟩ a1).setCell ⟨g, n * 5 + 2, none⟩ a2).setCell ⟨g, n * 5 + 3, none⟩ a3).setCell ⟨g, n * 5 + 4, none⟩ a4).ownsRow base e 5 (.slice (some ⟨g, 0, none⟩) (n + 1) c) (n + 1) (xs ++ [a0, a1, a2, a3, a4]) ∧ Only (fun j => j = g) w (((((w.setCell ⟨g, n * 5, none⟩ a0).setCell ⟨g, n * 5 + 1, none⟩ a1).setCell ⟨g, n * 5 + 2, none⟩ a2).setCell ⟨g, n * 5 + 3, none⟩ a3).setCell ⟨g, n * 5 + 4, none⟩ a4) := by
  obtain ⟨hl, _⟩ := own_last h
  have h1 := (h.stored (n * 5) a0).1
  have h2 := (h1.stored (n * 5 + 1) a1).1
  have h3 := (h2.stored (n * 5 + 2) a2).1
  have h4 := (h3.stored (n * 5 + 3) a3).1
  have h5 := (h4.stored (n * 5 + 4) a4).1
  refine ⟨?_, ((((Only.of_set w g _ a0).trans (Only.of_set _ g _ a1) fun _ _ e => e).trans (Only.of_set _ g _ a2) fun _ _ e => e).trans (Only.of_set _ g _ a3) fun _ _ e => e).trans (Only.of_set _ g _ a4) fun _ _ e => e⟩
  have he : (((((xs ++ [z0, z1, z2, z3, z4]).set (n * 5) a0).set (n * 5 + 1) a1).set (n * 5 + 2) a2).set (n * 5 + 3) a3).set (n * 5 + 4) a4 = xs ++ [a0, a1, a2, a3, a4] := by
    rw [← hl]
    simp
  rw [he] at h5
  exact h5
set_option maxHeartbeats 1000000 in
theorem nw_fin {w : World} {br base n c g : Nat} {xs : List Value} {z0 z1 z2 z3 z4 v x y : Value} (h : w.ownsRow base 74 5 (.slice (some ⟨g, 0, none⟩) (n + 1) c) (n + 1) (xs ++ [z0, z1, z2, z3, z4])) (hcb : w.heap[br + 2]? = some (.cells #[x, y, v] 33 (0, 0))) (hne : g ≠ br + 2) (a0 a1 a2 a3 a4 : Value) :
    (((((((w.setCell ⟨g, n * 5, none⟩ a0).setCell ⟨g, n * 5 + 1, none⟩ a1).setCell ⟨g, n * 5 + 2, none⟩ a2).setCell ⟨g, n * 5 + 3, none⟩ a3).setCell ⟨g, n * 5 + 4, none⟩ a4).setCell ⟨br + 2, 2, none⟩ (.slice (some ⟨g, 0, none⟩) (n + 1) c)).ownsRow base 74 5 (.slice (some ⟨g, 0, none⟩) (n + 1) c) (n + 1) (xs ++ [a0, a1, a2, a3, a4]) ∧ ((((((w.setCell ⟨g, n * 5, none⟩ a0).setCell ⟨g, n * 5 + 1, none⟩ a1).setCell ⟨g, n * 5 + 2, none⟩ a2).setCell ⟨g, n * 5 + 3, none⟩ a3).setCell ⟨g, n * 5 + 4, none⟩ a4).setCell ⟨br + 2, 2, none⟩ (.slice (some ⟨g, 0, none⟩) (n + 1) c)).heap[br + 2]? = some (.cells #[x, y, .slice (some ⟨g, 0, none⟩) (n + 1) c] 33 (0, 0)) ∧ Only (fun b => b = br + 2 ∨ b = g) w ((((((w.setCell ⟨g, n * 5, none⟩ a0).setCell ⟨g, n * 5 + 1, none⟩ a1).setCell ⟨g, n * 5 + 2, none⟩ a2).setCell ⟨g, n * 5 + 3, none⟩ a3).setCell ⟨g, n * 5 + 4, none⟩ a4).setCell ⟨br + 2, 2, none⟩ (.slice (some ⟨g, 0, none⟩) (n + 1) c))) ∧
    (((((((w.setCell ⟨br + 2, 2, none⟩ (.slice (some ⟨g, 0, none⟩) (n + 1) c)).setCell ⟨g, n * 5, none⟩ a0).setCell ⟨g, n * 5 + 1, none⟩ a1).setCell ⟨g, n * 5 + 2, none⟩ a2).setCell ⟨g, n * 5 + 3, none⟩ a3).setCell ⟨g, n * 5 + 4, none⟩ a4).ownsRow base 74 5 (.slice (some ⟨g, 0, none⟩) (n + 1) c) (n + 1) (xs ++ [a0, a1, a2, a3, a4]) ∧ ((((((w.setCell ⟨br + 2, 2, none⟩ (.slice (some ⟨g, 0, none⟩) (n + 1) c)).setCell ⟨g, n * 5, none⟩ a0).setCell ⟨g, n * 5 + 1, none⟩ a1).setCell ⟨g, n * 5 + 2, none⟩ a2).setCell ⟨g, n * 5 + 3, none⟩ a3).setCell ⟨g, n * 5 + 4, none⟩ a4).heap[br + 2]? = some (.cells #[x, y, .slice (some ⟨g, 0, none⟩) (n + 1) c] 33 (0, 0)) ∧ Only (fun b => b = br + 2 ∨ b = g) w ((((((w.setCell ⟨br + 2, 2, none⟩ (.slice (some ⟨g, 0, none⟩) (n + 1) c)).setCell ⟨g, n * 5, none⟩ a0).setCell ⟨g, n * 5 + 1, none⟩ a1).setCell ⟨g, n * 5 + 2, none⟩ a2).setCell ⟨g, n * 5 + 3, none⟩ a3).setCell ⟨g, n * 5 + 4, none⟩ a4)) := by
  have hnb : ∀ k, (Value.slice (some ⟨g, 0, none⟩) (n + 1) c).ownBlock = some k → ¬ k = br + 2 := fun k e e2 => hne (by have : some g = some k := e; injection this with this; omega)
  have h5 := own_put5 h a0 a1 a2 a3 a4
  have hc5 := (h5.2.block _ (heap_lt hcb) (fun e => hne e.symm)).trans hcb
  constructor
  · obtain ⟨h51, h52⟩ := h5
    generalize (((((w.setCell ⟨g, n * 5, none⟩ a0).setCell ⟨g, n * 5 + 1, none⟩ a1).setCell ⟨g, n * 5 + 2, none⟩ a2).setCell ⟨g, n * 5 + 3, none⟩ a3).setCell ⟨g, n * 5 + 4, none⟩ a4) = u at h51 h52 hc5 ⊢
    have hs := heap_setCell_same u (br + 2) 2 _ _ (.slice (some ⟨g, 0, none⟩) (n + 1) c) hc5
    simp only [List.setIfInBounds_toArray, List.set_cons_succ, List.set_cons_zero] at hs
    have ho := Only.of_set u (br + 2) 2 (.slice (some ⟨g, 0, none⟩) (n + 1) c)
    exact ⟨ownsRow_only h51 ho hnb, hs, (h52.more fun b _ e => (.inr e : b = br + 2 ∨ b = g)).trans (ho.more fun b _ e => (.inl e : b = br + 2 ∨ b = g)) fun _ _ e => e⟩
  · have hs2 := heap_setCell_same w (br + 2) 2 _ _ (.slice (some ⟨g, 0, none⟩) (n + 1) c) hcb
    simp only [List.setIfInBounds_toArray, List.set_cons_succ, List.set_cons_zero] at hs2
    have ho2 := Only.of_set w (br + 2) 2 (.slice (some ⟨g, 0, none⟩) (n + 1) c)
    have hw2 := ownsRow_only h ho2 hnb
    generalize w.setCell ⟨br + 2, 2, none⟩ (.slice (some ⟨g, 0, none⟩) (n + 1) c) = u at hs2 ho2 hw2 ⊢
    obtain ⟨h61, h62⟩ := own_put5 hw2 a0 a1 a2 a3 a4
    exact ⟨h61, (h62.block _ (heap_lt hs2) (fun e => hne e.symm)).trans hs2, (ho2.more fun b _ e => (.inl e : b = br + 2 ∨ b = g)).trans (h62.more fun b _ e => (.inr e : b = br + 2 ∨ b = g)) fun _ _ e => e⟩
section
variable {w0 : World} {B : Nat}
set_option maxHeartbeats 16000000 in
theorem newC_any (gm : Gr.Gm) (RA : Option Addr) (rc : Nat) (w : World) (hr0 : RsAt w0 B RA gm.rules) (hnm : gm.name.length ≤ Gr.bytesMax) (hb : Below B w0 w) (hB : B ≤ w.heap.size) (hT : UT w.heap.size w)
    (hn1 : gm.rules.length ≤ 1000) (hln : ∀ i, i < gm.rules.length → (Gr.ndT (Gr.ruAt gm.rules i).body).length ≤ 10000) (hsm : ∀ i, i < gm.rules.length → Gr.smN (Gr.ruAt gm.rules i).body) (hnl : ∀ i, i < gm.rules.length → (Gr.ruAt gm.rules i).name.length ≤ maxLen) (hs : Gr.sound Rp.good gm = true) (hf : Gr.fineR gm.rules = true) :
    Calls Tryz.prog 43 #[.agg #[Gr.strV gm.name, .int .i64 gm.bound, .int .i64 gm.states, .slice RA gm.rules.length rc]] w (NewP gm.rules w) := by
  obtain ⟨xs, hr1, hv1⟩ := hr0.r
  obtain ⟨gn, bd, st, rs⟩ := gm
  dsimp only at *
  unfold Gr.strV
  obtain ⟨w1, hw1⟩ : ∃ w1, Hid (w.alloc (.cells #[.string ⟨gn.toArray⟩, .int .i64 bd, .int .i64 st, .slice RA rs.length rc] 56) = w1) := ⟨_, hid rfl⟩
  have h1 := heap_alloc_new w (.cells #[.string ⟨gn.toArray⟩, .int .i64 bd, .int .i64 st, .slice RA rs.length rc] 56)
  have hb1 := below_new w (.cells #[.string ⟨gn.toArray⟩, .int .i64 bd, .int .i64 st, .slice RA rs.length rc] 56)
  rw [hw1.out] at h1 hb1
  have hbw1 := hb.trans (hb1.mono hB)
  have hsnd := sound_any (w0 := w0) (B := B) ⟨gn, bd, st, rs⟩ RA rc xs w1 hr1 hv1 hr0.ok hnm (by dsimp only; omega) hbw1 (Nat.le_trans hB hb1.size) (hT.next hb1)
  rw [hs] at hsnd
  have HFI := hid (fun (u : World) (hu : Below w1.heap.size w1 u) => fine_any (w0 := w0) (B := B) (rs := rs) gn bd st RA rc u hr0 (hbw1.trans (hu.mono (Nat.le_trans hB hb1.size))) (Nat.le_trans (Nat.le_trans hB hb1.size) hu.size) hn1 hln)
  rw [hf] at HFI
  obtain ⟨n, hn⟩ : ∃ n, rs.length = n := ⟨_, rfl⟩
  unfold Gr.strV at hsnd HFI
  dsimp only at hsnd
  rw [hn] at hw1 h1 hsnd HFI ⊢
  have HSN := hid hsnd
  have HN := hid hn
  have HH1 := hid h1
  have HB1 := hid hb1
  have HBW := hid hbw1
  have HB := hid hB
  have HB00 := hid hb
  have HR0 := hid hr0
  have HLN := hid hln
  have HSM := hid hsm
  have HNL := hid hnl
  have HN1 := hid hn1
  have c0 : w1.cell? ⟨w.heap.size, 0, none⟩ = some (.string ⟨gn.toArray⟩) := by rw [Lib.cell_of_heap h1]; rfl
  have c1 : w1.cell? ⟨w.heap.size, 1, none⟩ = some (.int .i64 bd) := by rw [Lib.cell_of_heap h1]; rfl
  have c2 : w1.cell? ⟨w.heap.size, 2, none⟩ = some (.int .i64 st) := by rw [Lib.cell_of_heap h1]; rfl
  have c3 : w1.cell? ⟨w.heap.size, 3, none⟩ = some (.slice RA n rc) := by rw [Lib.cell_of_heap h1]; rfl
  clear hr0 hnm hb hB hT hln hsm hnl hs hf hr1 hv1 h1 hb1 hbw1 hsnd hn
  go_enter Tryz.func43, Tryz.ntmps43
  go_upto_region 1 with fail
  rw [hw1.out]
  clear hw1
  go_upto_region 3 with (first
    | (go_at_call 58; refine HSN.out.mono ?_; rintro _ w2 ⟨rfl, hb2⟩; have HB2 := hid hb2; have hg2 := (hb2.block _ (heap_lt HH1.out)).trans HH1.out; have c0 : w2.cell? ⟨w.heap.size, 0, none⟩ = some (.string ⟨gn.toArray⟩) := (by rw [Lib.cell_of_heap hg2]; rfl); have c1 : w2.cell? ⟨w.heap.size, 1, none⟩ = some (.int .i64 bd) := (by rw [Lib.cell_of_heap hg2]; rfl); have c2 : w2.cell? ⟨w.heap.size, 2, none⟩ = some (.int .i64 st) := (by rw [Lib.cell_of_heap hg2]; rfl); have c3 : w2.cell? ⟨w.heap.size, 3, none⟩ = some (.slice RA n rc) := (by rw [Lib.cell_of_heap hg2]; rfl); have HFI2 := hid (HFI.out w2 hb2); clear hb2 hg2 HFI)
    | (go_at_call 59; refine HFI2.out.mono ?_; rintro _ w3 ⟨rfl, hb3⟩; have HB3 := hid (HB2.out.trans (hb3.mono HB2.out.size)); clear hb3 c0 c1 c2 c3))
  have hmm : ∀ u : World, (Instr.makeMap 30 none).run Tryz.prog u = .ok (.map (some u.heap.size)) (u.alloc (.map #[] 0)) := fun u => by kernel_rfl
  go_upto_region 4 with fail
  clear hmm
  have hz1 : (w3.alloc (.map #[] 0)).heap.size = w3.heap.size + 1 := by simp
  have hz2 : ((w3.alloc (.map #[] 0)).alloc (.map #[] 0)).heap.size = w3.heap.size + 2 := by simp
  have hmr : NamM (((w3.alloc (.map #[] 0)).alloc (.map #[] 0)).alloc (.cells #[.map (some w3.heap.size), .map (some (w3.heap.size + 1)), .slice none 0 0] 33)) w3.heap.size 0 (fun _ => none) := ⟨_, ((World.ownsMap_made w3 Tryz.prog 9 asV).alloc _).alloc _, NamI.start⟩
  have hmt : NamM (((w3.alloc (.map #[] 0)).alloc (.map #[] 0)).alloc (.cells #[.map (some w3.heap.size), .map (some (w3.heap.size + 1)), .slice none 0 0] 33)) (w3.heap.size + 1) 0 (fun _ => none) := by
    have h := (World.ownsMap_made (w3.alloc (.map #[] 0)) Tryz.prog 9 asV).alloc (.cells #[.map (some w3.heap.size), .map (some (w3.heap.size + 1)), .slice none 0 0] 33)
    rw [hz1] at h
    exact ⟨_, h, NamI.start⟩
  have hcb := heap_alloc_new ((w3.alloc (.map #[] 0)).alloc (.map #[] 0)) (.cells #[.map (some w3.heap.size), .map (some (w3.heap.size + 1)), .slice none 0 0] 33)
  rw [hz2] at hcb
  have hb4 : Below w3.heap.size w3 (((w3.alloc (.map #[] 0)).alloc (.map #[] 0)).alloc (.cells #[.map (some w3.heap.size), .map (some (w3.heap.size + 1)), .slice none 0 0] 33)) := (((Below.refl _ w3).alloc (Nat.le_refl _) _).alloc (by simp) _).alloc (by simp; omega) _
  have hz4 : (((w3.alloc (.map #[] 0)).alloc (.map #[] 0)).alloc (.cells #[.map (some w3.heap.size), .map (some (w3.heap.size + 1)), .slice none 0 0] 33)).heap.size = w3.heap.size + 3 := by simp
  generalize ((w3.alloc (.map #[] 0)).alloc (.map #[] 0)).alloc (.cells #[.map (some w3.heap.size), .map (some (w3.heap.size + 1)), .slice none 0 0] 33) = w4 at hmr hmt hcb hb4 hz4 ⊢
  have h14 := HB3.out.trans (hb4.mono HB3.out.size)
  have hg4 := (h14.block _ (heap_lt HH1.out)).trans HH1.out
  have d0 : w4.cell? ⟨w.heap.size, 0, none⟩ = some (.string ⟨gn.toArray⟩) := by rw [Lib.cell_of_heap hg4]; rfl
  have d1 : w4.cell? ⟨w.heap.size, 1, none⟩ = some (.int .i64 bd) := by rw [Lib.cell_of_heap hg4]; rfl
  have d2 : w4.cell? ⟨w.heap.size, 2, none⟩ = some (.int .i64 st) := by rw [Lib.cell_of_heap hg4]; rfl
  have d3 : w4.cell? ⟨w.heap.size, 3, none⟩ = some (.slice RA n rc) := by rw [Lib.cell_of_heap hg4]; rfl
  have hsz := HB3.out.size
  have hsz1 := HB1.out.size
  have hwl := heap_lt HH1.out
  obtain ⟨br, hbr⟩ : ∃ q, w3.heap.size = q := ⟨_, rfl⟩
  rw [hbr] at hmr hmt hcb hz4 hb4 ⊢
  have HMR := hid hmr
  have HMT := hid hmt
  have HCB := hid hcb
  have H14 := hid h14
  have HG4 := hid hg4
  have HBR := hid (show w1.heap.size ≤ br ∧ br + 3 = w4.heap.size by rw [← hbr]; exact ⟨hsz, by omega⟩)
  have hks : ∀ u : World, Reads (u.alloc (.cells #[.int .u8 1, .int .u8 3] 76)) (u.alloc (.cells #[.int .u8 1, .int .u8 3] 76)).heap.size 1 (some ⟨u.heap.size, 0, none⟩) 2 (([1, 3] : List Nat).map fun (k : Nat) => Value.int .u8 (k : Int)) := fun u => by
    refine ⟨rfl, fun _ => ⟨u.heap.size, 0, rfl, by simp, fun j v hj => ?_⟩⟩
    rw [Nat.zero_add, Lib.cell_of_heap (heap_alloc_new u _)]
    rcases j with _ | _ | j
    · exact hj
    · exact hj
    · simp at hj
  have hof := of_any (w0 := w0) (B := B) (rs := rs) gn bd st RA rc (some ⟨w4.heap.size, 0, none⟩) 2 [1, 3] (w4.alloc (.cells #[.int .u8 1, .int .u8 3] 76)) HR0.out (HBW.out.trans ((h14.trans ((below_new w4 _).mono h14.size)).mono (Nat.le_trans HB.out hsz1))) (Nat.le_trans HB.out (Nat.le_trans hsz1 (Nat.le_trans h14.size (below_new w4 _).size))) (by decide) (hks w4)
  unfold Gr.strV at hof
  rw [HN.out] at hof
  have HOF := hid hof
  clear hmr hmt hcb h14 hg4 hbr hz1 hz2 hz4 hb4 hks hof hsz hsz1 hwl
  go_wp2_with (go_at_call 60; refine HOF.out.mono ?_; rintro _ w5 ⟨A5, k5, rfl, hk5, hr5, hb5⟩; have HK5 := hid hk5; have HR5 := hid hr5; have HB5 := hid ((below_new w4 _).trans (hb5.mono (below_new w4 _).size)); clear hk5 hr5 hb5 HOF d0 d1 d2 d3)
  have hnw : NwI w #[.string ⟨gn.toArray⟩, .int .i64 bd, .int .i64 st, .slice RA n rc] br 0 0 (fun _ => none) (fun _ => none) (.slice none 0 0) w5.heap.size A5 k5 (Tt.toks rs) w5 :=
    ⟨(HB5.out.block _ (heap_lt HG4.out)).trans HG4.out, ⟨0, Nat.le_refl _, HMR.out.next HB5.out⟩, ⟨0, Nat.le_refl _, HMT.out.next HB5.out⟩, (HB5.out.block _ (heap_lt HCB.out)).trans HCB.out, HR5.out, Nat.le_refl _, HB1.out.trans ((H14.out.trans (HB5.out.mono H14.out.size)).mono HB1.out.size), by have := HBR.out.1; have := heap_lt HH1.out; omega⟩
  have HNW := hid hnw
  have hk5n : k5 ≤ n := by
    have h := ofL_len rs [1, 3] rs.length
    have h2 := HK5.out
    have h3 := HN.out
    omega
  obtain ⟨Bd5, hBd5⟩ : ∃ q, w5.heap.size = q := ⟨_, rfl⟩
  rw [hBd5] at HNW
  have hn1k : n ≤ 1000 := by have := HN1.out; have := HN.out; omega
  clear hnw HB5 HR5 HMR HMT HCB H14 HG4 hBd5
  go_loopw [5, 6, 25] (fun _ _ iv wr => ∃ (i : Nat), i ≤ k5 ∧ iv = .int .i64 (i : Int) ∧ Hid (NwI w #[.string ⟨gn.toArray⟩, .int .i64 bd, .int .i64 st, .slice RA n rc] br 0 i (fun _ => none) (Tt.namT rs (Tt.toks rs) i) (.slice none 0 0) Bd5 A5 k5 (Tt.toks rs) wr)) (fun _ _ iv _ => k5 - (intOf iv).toNat)
  case atStart => exact ⟨0, Nat.zero_le _, rfl, HNW⟩
  case round =>
    clear HNW
    obtain ⟨i, hi, rfl, HI⟩ := hrel
    have hwi : IntKind.i64.wrap ((i : Int) + 1) = (i : Int) + 1 := w64 (by omega) (by omega)
    by_cases hlt : i < k5
    · have hil : i < (Tt.toks rs).length := by have h := HK5.out; unfold Tt.toks; omega
      have hltI : (i : Int) < (k5 : Int) := by omega
      obtain ⟨ab, ao, hA5, hab, hac⟩ := HI.out.of.2 (by omega)
      have ca := hac i (.int .i64 (((Tt.toks rs)[i] : Nat) : Int)) (by unfold numsV; rw [List.getElem?_map, List.getElem?_eq_getElem hil]; rfl)
      have hql0 := ofL_lt rs [1, 3] i hil
      obtain ⟨q, hq⟩ : ∃ q, (Tt.toks rs)[i] = q := ⟨_, rfl⟩
      have hql : q < rs.length := by rw [← hq]; exact hql0
      rw [hq] at ca
      have hgd : (Tt.toks rs).getD i 0 = q := by rw [List.getD_eq_getElem?_getD, List.getElem?_eq_getElem hil, hq]; rfl
      have HGD := hid hgd
      obtain ⟨xs2, hr1, hv1⟩ := HR0.out.r
      obtain ⟨rb, ro, v0, v1, v2, v3, v4, v5, v6, v7, v8, v9, hRA, hrb, hru, e0, e1, e2, e3, e4, e5, e6, e7, e8, e9⟩ := readsRu hr1 hv1 q hql
      obtain ⟨xk, xm, xt, xSA, xa, xsc, xUA, xb, xuc, z0, z1, z2, hvv, hnd⟩ := hru.form
      unfold Gr.strV at hvv
      cases hvv
      have hnm : (Gr.ruAt rs q).name = rs[q].name := by rw [ruAt_eq hql]
      have HNM := hid hnm
      have hqn : q < n := by have := HN.out; omega
      have hqI : (q : Int) < (n : Int) := by omega
      have hq0 : (0 : Int) ≤ (q : Int) := by omega
      have hbr0 : Below B w0 wr := HB00.out.trans (HI.out.below.mono HB.out)
      have r0 := (hbr0.cell (p := ⟨rb, ro + q * 10, none⟩) hrb).trans e0
      have g3 : wr.cell? ⟨w.heap.size, 3, none⟩ = some (.slice RA n rc) := by rw [Lib.cell_of_heap HI.out.gb]; rfl
      have cm : wr.cell? ⟨br + 2, 1, none⟩ = some (.map (some (br + 1))) := by rw [Lib.cell_of_heap HI.out.cb]; rfl
      have HKY := hid (keyTs rs[q].name (by have := HNL.out q hql; rw [hnm] at this; exact this))
      subst hRA
      subst hA5
      clear e0 e1 e2 e3 e4 e5 e6 e7 e8 e9 hql0 hq hil hgd hnm hac hab hr1 hv1 hru hnd hbr0 hrb
      have HRL := hid (World.block_lt_of_cell? wr _ r0)
      go_upto_region 7 with fail
      refine still_tail 11 (by kernel_rfl) (by kernel_rfl) ?_
      intro w6 HW6
      have h6 : NwI w #[.string ⟨gn.toArray⟩, .int .i64 bd, .int .i64 st, .slice (some ⟨rb, ro, none⟩) n rc] br 0 i (fun _ => none) (Tt.namT rs (Tt.toks rs) i) (.slice none 0 0) Bd5 (some ⟨ab, ao, none⟩) k5 (Tt.toks rs) w6 := by rw [HW6.out]; exact HI.out.drew
      have r0 : w6.cell? ⟨rb, ro + q * 10, none⟩ = some (.string ⟨rs[q].name.toArray⟩) := by rw [HW6.out]; exact r0
      have g3 : w6.cell? ⟨w.heap.size, 3, none⟩ = some (.slice (some ⟨rb, ro, none⟩) n rc) := by rw [Lib.cell_of_heap h6.gb]; rfl
      have cm : w6.cell? ⟨br + 2, 1, none⟩ = some (.map (some (br + 1))) := by rw [Lib.cell_of_heap h6.cb]; rfl
      have H6 := hid h6
      clear HW6 h6 ca
      obtain ⟨nt, hnt, D, hmap, hD⟩ := H6.out.mt
      have HD := hid hD
      have hmx : nt < maxLen := by simp only [maxLen]; omega
      have hky := HKY.out
      have HNT := hid hnt
      clear hD hnt
      simp only [List.take_succ_cons, List.take_zero, List.drop_succ_cons, List.drop_zero]
      repeat still_step
      refine wpStill_nil ?_
      refine wpList_mapUpdate_own _ rfl _ _ _ 30 rfl 9 3 lawTs Tryz.underlying30 asV (br + 1) nt D rfl hmap hmx _ _ _ rfl rfl hky _ [] rfl ?_
      intro w7 hmap7 hg7
      have hfin := H6.out.tok hg7 hmap7 (HD.out.put rs[q].name (i : Int)) (by have := HNT.out; omega)
      rw [← HNM.out, show Tt.namT rs (Tt.toks rs) i = Tt.namT rs (Tt.toks rs) i from rfl] at hfin
      have HFIN := hid hfin
      clear hfin hmap hmap7 hg7 hky r0 g3 cm hmx
      go_wp2_with fail
      go_roundw
      case rel => exact ⟨i + 1, hlt, by go_num, hid (by rw [Tt.namT, HGD.out]; exact HFIN.out)⟩
      case measure => simp only [intOf]; omega
    · have hie : i = k5 := by omega
      subst hie
      clear hlt
      have d0 : wr.cell? ⟨w.heap.size, 0, none⟩ = some (.string ⟨gn.toArray⟩) := by rw [Lib.cell_of_heap HI.out.gb]; rfl
      have d1 : wr.cell? ⟨w.heap.size, 1, none⟩ = some (.int .i64 bd) := by rw [Lib.cell_of_heap HI.out.gb]; rfl
      have d2 : wr.cell? ⟨w.heap.size, 2, none⟩ = some (.int .i64 st) := by rw [Lib.cell_of_heap HI.out.gb]; rfl
      have d3 : wr.cell? ⟨w.heap.size, 3, none⟩ = some (.slice RA n rc) := by rw [Lib.cell_of_heap HI.out.gb]; rfl
      have hks : ∀ u : World, Reads (u.alloc (.cells #[.int .u8 0] 76)) (u.alloc (.cells #[.int .u8 0] 76)).heap.size 1 (some ⟨u.heap.size, 0, none⟩) 1 (([0] : List Nat).map fun (k : Nat) => Value.int .u8 (k : Int)) := fun u => by
        refine ⟨rfl, fun _ => ⟨u.heap.size, 0, rfl, by simp, fun j v hj => ?_⟩⟩
        rw [Nat.zero_add, Lib.cell_of_heap (heap_alloc_new u _)]
        rcases j with _ | j
        · exact hj
        · simp at hj
      have hb0r := HB00.out.trans (HI.out.below.mono HB.out)
      have hof := of_any (w0 := w0) (B := B) (rs := rs) gn bd st RA rc (some ⟨wr.heap.size, 0, none⟩) 1 [0] (wr.alloc (.cells #[.int .u8 0] 76)) HR0.out (hb0r.trans ((below_new wr _).mono (Nat.le_trans HB.out HI.out.below.size))) (Nat.le_trans HB.out (Nat.le_trans HI.out.below.size (below_new wr _).size)) (by decide) (hks wr)
      unfold Gr.strV at hof
      rw [HN.out] at hof
      have HOF := hid hof
      clear hks hof hb0r
      go_wp2_with (go_at_call 60; refine HOF.out.mono ?_; rintro _ w8 ⟨A8, k8, rfl, hk8, hr8, hb8⟩; have HK8 := hid hk8; have HR8 := hid hr8; have HB8 := hid ((below_new wr _).trans (hb8.mono (below_new wr _).size)); clear hk8 hr8 hb8 HOF d0 d1 d2 d3)
      have htk : Tt.namT rs (Tt.toks rs) i = Tt.tokF rs := by unfold Tt.tokF; rw [show (Tt.toks rs).length = i from HK5.out]
      have hnw : NwI w #[.string ⟨gn.toArray⟩, .int .i64 bd, .int .i64 st, .slice RA n rc] br 0 i (fun _ => none) (Tt.tokF rs) (.slice none 0 0) w8.heap.size A8 k8 (Tt.pars rs) w8 := by
        have h := HI.out
        rw [htk] at h
        exact ⟨(HB8.out.block _ (heap_lt h.gb)).trans h.gb, h.mr.imp fun _ q => ⟨q.1, q.2.next HB8.out⟩, h.mt.imp fun _ q => ⟨q.1, q.2.next HB8.out⟩, (HB8.out.block _ (heap_lt h.cb)).trans h.cb, HR8.out, Nat.le_refl _, h.below.trans (HB8.out.mono h.below.size), h.lt⟩
      have HBC := hid (show br + 2 < w8.heap.size from heap_lt hnw.cb)
      have HNW := hid hnw
      have hk8n : k8 ≤ n := by
        have h := ofL_len rs [0] rs.length
        have h2 := HK8.out
        have h3 := HN.out
        omega
      have HNR : Hid (NwR w8.heap.size 0 [] (.slice none 0 0) w8) := hid ⟨[], World.ownsRow_nil _ _ _ _, by rw [NdsO]⟩
      obtain ⟨Bd8, hBd8⟩ : ∃ q, w8.heap.size = q := ⟨_, rfl⟩
      rw [hBd8] at HNW HNR HBC
      clear hnw htk HB8 HR8 hBd8 HI
      go_loopw [7, 8, 46] (fun _ _ iv wr => ∃ (i8 : Nat) (v : Value), i8 ≤ k8 ∧ iv = .int .i64 (i8 : Int) ∧ Hid (NwI w #[.string ⟨gn.toArray⟩, .int .i64 bd, .int .i64 st, .slice RA n rc] br i8 i (Tt.namT rs (Tt.pars rs) i8) (Tt.tokF rs) v Bd8 A8 k8 (Tt.pars rs) wr) ∧ Hid (NwR Bd8 i8 ((Tt.bodiesF rs).take i8) v wr)) (fun _ _ iv _ => k8 - (intOf iv).toNat)
      case atStart => exact ⟨0, _, Nat.zero_le _, rfl, HNW, HNR⟩
      case round =>
        clear HNW HNR
        obtain ⟨i8, v, hi8, rfl, HI, HJ⟩ := hrel
        have hwi : IntKind.i64.wrap ((i8 : Int) + 1) = (i8 : Int) + 1 := w64 (by omega) (by omega)
        by_cases hlt : i8 < k8
        · have hil : i8 < (Tt.pars rs).length := by have h := HK8.out; unfold Tt.pars; omega
          have hltI : (i8 : Int) < (k8 : Int) := by omega
          obtain ⟨ab, ao, hA5, hab, hac⟩ := HI.out.of.2 (by omega)
          have ca := hac i8 (.int .i64 (((Tt.pars rs)[i8] : Nat) : Int)) (by unfold numsV; rw [List.getElem?_map, List.getElem?_eq_getElem hil]; rfl)
          have hql0 := ofL_lt rs [0] i8 hil
          obtain ⟨q, hq⟩ : ∃ q, (Tt.pars rs)[i8] = q := ⟨_, rfl⟩
          have hql : q < rs.length := by rw [← hq]; exact hql0
          rw [hq] at ca
          have hgd : (Tt.pars rs).getD i8 0 = q := by rw [List.getD_eq_getElem?_getD, List.getElem?_eq_getElem hil, hq]; rfl
          have HGD := hid hgd
          have HTK : Hid ((Tt.bodiesF rs).take (i8 + 1) = (Tt.bodiesF rs).take i8 ++ [rs[q].body]) := hid (by
            rw [List.take_succ_eq_append_getElem (by unfold Tt.bodiesF; simpa using hil)]
            congr 2
            unfold Tt.bodiesF
            rw [List.getElem_map, hq, ruAt_eq hql])
          obtain ⟨xs2, hr1, hv1⟩ := HR0.out.r
          obtain ⟨rb, ro, v0, v1, v2, v3, v4, v5, v6, v7, v8, v9, hRA, hrb, hru, e0, e1, e2, e3, e4, e5, e6, e7, e8, e9⟩ := readsRu hr1 hv1 q hql
          obtain ⟨xk, xm, xt, xSA, xa, xsc, xUA, xb, xuc, z0, z1, z2, hvv, hnd⟩ := hru.form
          unfold Gr.strV at hvv
          cases hvv
          have HND := hid hnd
          have HNM := hid (show (Gr.ruAt rs q).name = rs[q].name by rw [ruAt_eq hql])
          have HSQ := hid (show Gr.smN rs[q].body by rw [← ruAt_eq hql]; exact HSM.out q hql)
          have hqn : q < n := by have := HN.out; omega
          have hqI : (q : Int) < (n : Int) := by omega
          have hq0 : (0 : Int) ≤ (q : Int) := by omega
          have HC8 := hid (fun (u : World) (hu : Below w.heap.size w u) => (show u.cell? ⟨rb, ro + q * 10, none⟩ = some (.string ⟨rs[q].name.toArray⟩) ∧ u.cell? ⟨rb, ro + q * 10 + 2, none⟩ = some (.int .u8 xk) ∧ u.cell? ⟨rb, ro + q * 10 + 3, none⟩ = some (.string xm) ∧ u.cell? ⟨rb, ro + q * 10 + 4, none⟩ = some (.string xt) ∧ u.cell? ⟨rb, ro + q * 10 + 5, none⟩ = some (.slice xSA xa xsc) ∧ u.cell? ⟨rb, ro + q * 10 + 6, none⟩ = some (.slice xUA xb xuc) from
            have h := HB00.out.trans (hu.mono HB.out)
            ⟨(h.cell (p := ⟨rb, ro + q * 10, none⟩) hrb).trans e0, (h.cell (p := ⟨rb, ro + q * 10 + 2, none⟩) hrb).trans e2, (h.cell (p := ⟨rb, ro + q * 10 + 3, none⟩) hrb).trans e3, (h.cell (p := ⟨rb, ro + q * 10 + 4, none⟩) hrb).trans e4, (h.cell (p := ⟨rb, ro + q * 10 + 5, none⟩) hrb).trans e5, (h.cell (p := ⟨rb, ro + q * 10 + 6, none⟩) hrb).trans e6⟩))
          have HKY := hid (keyTs rs[q].name (by have := HNL.out q hql; rw [ruAt_eq hql] at this; exact this))
          subst hRA
          subst hA5
          clear e0 e1 e2 e3 e4 e5 e6 e7 e8 e9 hql0 hq hil hgd hac hab hr1 hv1 hru hnd hrb
          go_upto_region 12 with fail
          refine still_tail 11 (by kernel_rfl) (by kernel_rfl) ?_
          intro w6 HW6
          have h6 : NwI w #[.string ⟨gn.toArray⟩, .int .i64 bd, .int .i64 st, .slice (some ⟨rb, ro, none⟩) n rc] br i8 i (Tt.namT rs (Tt.pars rs) i8) (Tt.tokF rs) v Bd8 (some ⟨ab, ao, none⟩) k8 (Tt.pars rs) w6 := by rw [HW6.out]; exact HI.out.drew
          have hj6 : NwR Bd8 i8 ((Tt.bodiesF rs).take i8) v w6 := by rw [HW6.out]; exact HJ.out.only (S := fun _ => False) ⟨rfl, rfl, rfl, Nat.le_refl _, fun _ _ _ => rfl⟩ (fun _ _ e => e.elim)
          have r0 := (HC8.out w6 h6.below).1
          have g3 : w6.cell? ⟨w.heap.size, 3, none⟩ = some (.slice (some ⟨rb, ro, none⟩) n rc) := by rw [Lib.cell_of_heap h6.gb]; rfl
          have cm : w6.cell? ⟨br + 2, 0, none⟩ = some (.map (some br)) := by rw [Lib.cell_of_heap h6.cb]; rfl
          have H6 := hid h6
          have HJ6 := hid hj6
          clear HW6 h6 hj6 ca
          obtain ⟨nt, hnt, D, hmap, hD⟩ := H6.out.mr
          have HD := hid hD
          have hmx : nt < maxLen := by simp only [maxLen]; omega
          have hky := HKY.out
          have HNT := hid hnt
          clear hD hnt
          simp only [List.take_succ_cons, List.take_zero, List.drop_succ_cons, List.drop_zero]
          repeat still_step
          refine wpStill_nil ?_
          refine wpList_mapUpdate_own _ rfl _ _ _ 30 rfl 9 3 lawTs Tryz.underlying30 asV br nt D rfl hmap hmx _ _ _ rfl rfl hky _ [] rfl ?_
          intro w7 hmap7 hg7
          have hfin := H6.out.rul hg7 hmap7 (HD.out.put rs[q].name (i8 : Int)) (by have := HNT.out; omega)
          rw [← HNM.out] at hfin
          have hfin2 : NwI w #[.string ⟨gn.toArray⟩, .int .i64 bd, .int .i64 st, .slice (some ⟨rb, ro, none⟩) n rc] br (i8 + 1) i (Tt.namT rs (Tt.pars rs) (i8 + 1)) (Tt.tokF rs) v Bd8 (some ⟨ab, ao, none⟩) k8 (Tt.pars rs) w7 := by rw [Tt.namT, HGD.out]; exact hfin
          have hj7 := HJ6.out.only (S := fun k => k = br) ((Only.of_grown hg7).more fun b _ e => by injection e) (fun b _ e => by have := HBC.out; omega)
          obtain ⟨xs7, hrow7, hnds7⟩ := hj7
          obtain ⟨A9, c9, rfl⟩ := row_form hrow7
          have H7 := hid hfin2
          have HROW := hid hrow7
          have HNDS := hid hnds7
          clear hfin hfin2 hrow7 hnds7 hmap hmap7 hg7 hky r0 g3 cm hmx H6 HJ6 HI HJ HD
          go_upto_region 13 with fail
          have HST := hid (fun (u : World) (hu : Below w7.heap.size w7 u) => (show u.cell? ⟨br + 2, 2, none⟩ = some (.slice A9 i8 c9) ∧ u.cell? ⟨w.heap.size, 3, none⟩ = some (.slice (some ⟨rb, ro, none⟩) n rc) ∧ u.cell? ⟨rb, ro + q * 10 + 2, none⟩ = some (.int .u8 xk) ∧ u.cell? ⟨rb, ro + q * 10 + 3, none⟩ = some (.string xm) ∧ u.cell? ⟨rb, ro + q * 10 + 4, none⟩ = some (.string xt) ∧ u.cell? ⟨rb, ro + q * 10 + 5, none⟩ = some (.slice xSA xa xsc) ∧ u.cell? ⟨rb, ro + q * 10 + 6, none⟩ = some (.slice xUA xb xuc) from by
            have h7 := H7.out
            have hwu : Below w.heap.size w u := h7.below.trans (hu.mono h7.below.size)
            obtain ⟨_, q2, q3, q4, q5, q6⟩ := HC8.out u hwu
            refine ⟨?_, ?_, q2, q3, q4, q5, q6⟩
            · rw [Lib.cell_of_heap ((hu.block _ (heap_lt h7.cb)).trans h7.cb)]; rfl
            · rw [Lib.cell_of_heap ((hu.block _ (heap_lt h7.gb)).trans h7.gb)]; rfl))
          have HCOPY := hid (fun (u : World) (hu : Below w7.heap.size w7 u) => copy_any (w0 := w0) (B := B) rs[q].body _ u HSQ.out HND.out (HB00.out.trans ((H7.out.below.trans (hu.mono H7.out.below.size)).mono HB.out)) (Nat.le_trans HB.out (Nat.le_trans H7.out.below.size hu.size)))
          obtain ⟨i0, hi0, hz0, hsz0, hy0⟩ := info_of infoNd
          have hmx : i8 + 1 ≤ maxLen := by simp only [maxLen]; omega
          have hmy : (i8 + 1) * 88 ≤ 140737488355328 := by omega
          have hi80 : (0 : Int) ≤ (i8 : Int) := by omega
          have hi81 : (i8 : Int) < (i8 : Int) + 1 := by omega
          refine wp_region_late (l := 13) (S := fun w' => w'.cell? ⟨br + 2, 2, none⟩ = some (.slice A9 i8 c9) ∧ w'.cell? ⟨w.heap.size, 3, none⟩ = some (.slice (some ⟨rb, ro, none⟩) n rc) ∧ w'.cell? ⟨rb, ro + q * 10 + 2, none⟩ = some (.int .u8 xk) ∧ w'.cell? ⟨rb, ro + q * 10 + 3, none⟩ = some (.string xm) ∧ w'.cell? ⟨rb, ro + q * 10 + 4, none⟩ = some (.string xt) ∧ w'.cell? ⟨rb, ro + q * 10 + 5, none⟩ = some (.slice xSA xa xsc) ∧ w'.cell? ⟨rb, ro + q * 10 + 6, none⟩ = some (.slice xUA xb xuc)) (by kernel_rfl) (HST.out _ (Below.refl _ _).drew) (fun hHeld => ?_)
          refine wpAnyF_take (i := 0) (.pointer (some ⟨br + 2, 0, none⟩)) rfl (by kernel_rfl) (by kernel_rfl) (by kernel_rfl) (by kernel_rfl) (fun _ _ _ h => h) hHeld (by rfl) (fun w' hSw => ?_) ?_
          · obtain ⟨s0, s1, s2, s3, s4, s5, s6⟩ := hSw; go_simp
          try simp only [Act.put, List.getElem_toArray, List.getElem_cons_zero, List.setIfInBounds_toArray, List.set_cons_zero, List.set_cons_succ]
          refine wpAnyF_take (i := 1) (.pointer (some ⟨br + 2, 0, none⟩)) rfl (by kernel_rfl) (by kernel_rfl) (by kernel_rfl) (by kernel_rfl) (fun _ _ _ h => h) hHeld (by rfl) (fun w' hSw => ?_) ?_
          · obtain ⟨s0, s1, s2, s3, s4, s5, s6⟩ := hSw; go_simp
          try simp only [Act.put, List.getElem_toArray, List.getElem_cons_zero, List.getElem_cons_succ, List.setIfInBounds_toArray, List.set_cons_zero, List.set_cons_succ]
          refine wpAnyF_take (i := 2) (.pointer (some ⟨br + 2, 2, none⟩)) rfl (by kernel_rfl) (by kernel_rfl) (by kernel_rfl) (by kernel_rfl) (fun _ _ _ h => h) hHeld (by rfl) (fun w' hSw => ?_) ?_
          · obtain ⟨s0, s1, s2, s3, s4, s5, s6⟩ := hSw; go_simp
          try simp only [Act.put, List.getElem_toArray, List.getElem_cons_zero, List.getElem_cons_succ, List.setIfInBounds_toArray, List.set_cons_zero, List.set_cons_succ]
          refine wpAnyF_take (i := 3) (.slice A9 i8 c9) rfl (by kernel_rfl) (by kernel_rfl) (by kernel_rfl) (by kernel_rfl) (fun _ _ _ h => h) hHeld (by rfl) (fun w' hSw => ?_) ?_
          · obtain ⟨s0, s1, s2, s3, s4, s5, s6⟩ := hSw; go_simp
          try simp only [Act.put, List.getElem_toArray, List.getElem_cons_zero, List.getElem_cons_succ, List.setIfInBounds_toArray, List.set_cons_zero, List.set_cons_succ]
          refine wpAnyF_take (i := 4) (.pointer (some ⟨w.heap.size, 3, none⟩)) rfl (by kernel_rfl) (by kernel_rfl) (by kernel_rfl) (by kernel_rfl) (fun _ _ _ h => h) hHeld (by rfl) (fun w' hSw => ?_) ?_
          · obtain ⟨s0, s1, s2, s3, s4, s5, s6⟩ := hSw; go_simp
          try simp only [Act.put, List.getElem_toArray, List.getElem_cons_zero, List.getElem_cons_succ, List.setIfInBounds_toArray, List.set_cons_zero, List.set_cons_succ]
          refine wpAnyF_take (i := 5) (.slice (some ⟨rb, ro, none⟩) n rc) rfl (by kernel_rfl) (by kernel_rfl) (by kernel_rfl) (by kernel_rfl) (fun _ _ _ h => h) hHeld (by rfl) (fun w' hSw => ?_) ?_
          · obtain ⟨s0, s1, s2, s3, s4, s5, s6⟩ := hSw; go_simp
          try simp only [Act.put, List.getElem_toArray, List.getElem_cons_zero, List.getElem_cons_succ, List.setIfInBounds_toArray, List.set_cons_zero, List.set_cons_succ]
          refine wpAnyF_take (i := 6) (.int .i64 (q : Int)) rfl (by kernel_rfl) (by kernel_rfl) (by kernel_rfl) (by kernel_rfl) (fun _ _ _ h => h) hHeld (by rfl) (fun w' hSw => ?_) ?_
          · obtain ⟨s0, s1, s2, s3, s4, s5, s6⟩ := hSw; go_simp
          try simp only [Act.put, List.getElem_toArray, List.getElem_cons_zero, List.getElem_cons_succ, List.setIfInBounds_toArray, List.set_cons_zero, List.set_cons_succ]
          refine wpAnyF_take (i := 7) (.pointer (some ⟨rb, ro + q * 10, none⟩)) rfl (by kernel_rfl) (by kernel_rfl) (by kernel_rfl) (by kernel_rfl) (fun _ _ _ h => h) hHeld (by rfl) (fun w' hSw => ?_) ?_
          · obtain ⟨s0, s1, s2, s3, s4, s5, s6⟩ := hSw; go_simp
          try simp only [Act.put, List.getElem_toArray, List.getElem_cons_zero, List.getElem_cons_succ, List.setIfInBounds_toArray, List.set_cons_zero, List.set_cons_succ]
          refine wpAnyF_take (i := 8) (.pointer (some ⟨rb, ro + q * 10 + 2, none⟩)) rfl (by kernel_rfl) (by kernel_rfl) (by kernel_rfl) (by kernel_rfl) (fun _ _ _ h => h) hHeld (by rfl) (fun w' hSw => ?_) ?_
          · obtain ⟨s0, s1, s2, s3, s4, s5, s6⟩ := hSw; go_simp
          try simp only [Act.put, List.getElem_toArray, List.getElem_cons_zero, List.getElem_cons_succ, List.setIfInBounds_toArray, List.set_cons_zero, List.set_cons_succ]
          refine wpAnyF_take (i := 9) (.agg #[.int .u8 xk, .string xm, .string xt, .slice xSA xa xsc, .slice xUA xb xuc]) rfl (by kernel_rfl) (by kernel_rfl) (by kernel_rfl) (by kernel_rfl) (fun _ _ _ h => h) hHeld (by rfl) (fun w' hSw => ?_) ?_
          · obtain ⟨s0, s1, s2, s3, s4, s5, s6⟩ := hSw; go_simp
          try simp only [Act.put, List.getElem_toArray, List.getElem_cons_zero, List.getElem_cons_succ, List.setIfInBounds_toArray, List.set_cons_zero, List.set_cons_succ]
          refine wpAnyF_take (i := 11) (.int .i64 (i8 : Int)) rfl (by kernel_rfl) (by kernel_rfl) (by kernel_rfl) (by kernel_rfl) (fun _ _ _ h => h) hHeld (by rfl) (fun w' hSw => ?_) ?_
          · obtain ⟨s0, s1, s2, s3, s4, s5, s6⟩ := hSw; go_simp
          try simp only [Act.put, List.getElem_toArray, List.getElem_cons_zero, List.getElem_cons_succ, List.setIfInBounds_toArray, List.set_cons_zero, List.set_cons_succ]
          clear hHeld
          refine wpAnyF_two 10 12 (by kernel_rfl) rfl rfl (fun K hK => ?_) (fun K hK => ?_)
          · -- the copy first
            go_simp
            go_at_call 81
            refine (HCOPY.out _ (Below.refl _ _).drew).mono ?_
            rintro _ w8 ⟨cs9, rfl, hn9, hb9⟩
            obtain ⟨yk, ym, yt, ySA, ya, ysc, yUA, yb, yuc, hv9⟩ := (NdO.toNd _ _ hn9).form
            obtain rfl : cs9 = #[.int .u8 yk, .string ym, .string yt, .slice ySA ya ysc, .slice yUA yb yuc] := (Array.toList_inj.1 hv9)
            clear hv9
            have hb78 : Below w7.heap.size w7 w8 := ⟨hb9.os, hb9.tape, hb9.output, hb9.size, hb9.block⟩
            have hbz := below_new w8 (.cells #[.int .u8 0, .string ⟨#[]⟩, .string ⟨#[]⟩, .slice none 0 0, .slice none 0 0] 74)
            have HUB := hid (hb78.trans (hbz.mono hb78.size))
            have HNU := hid (NdO.only (Only.of_below hbz) (fun _ _ e => e) _ _ hn9)
            have HM8 := hid (show w7.heap.size ≤ w7.drew.heap.size from Nat.le_refl _)
            have HOU := hid (ownsRow_below HROW.out HUB.out (Nat.le_refl _))
            have HZC := hid (fun (j : Nat) (u : Value) (hj : ([.int .u8 0, .string ⟨#[]⟩, .string ⟨#[]⟩, .slice none 0 0, .slice none 0 0] : List Value)[j]? = some u) => (show (w8.alloc (.cells #[.int .u8 0, .string ⟨#[]⟩, .string ⟨#[]⟩, .slice none 0 0, .slice none 0 0] 74)).cell? ((⟨w8.heap.size, 0, none⟩ : Addr).add j) = some u from by rw [addr0, cell_new]; simpa using hj))
            have HS8 := hid (HST.out _ hb78)
            go_simp
            refine hK _ _ HS8.out (fun hHeld => ?_)
            clear hK K hn9 hb9 hHeld
            try simp only [Act.put, List.getElem_toArray, List.getElem_cons_zero, List.getElem_cons_succ, List.setIfInBounds_toArray, List.set_cons_zero, List.set_cons_succ]
            refine wpAnyF_step 12 (by kernel_rfl) rfl (fun K hK => ?_)
            go_simp
            refine hK _ _ (HST.out _ HUB.out) (fun hHeld => ?_)
            clear hK K hHeld hb78 hbz
            try simp only [Act.put, List.getElem_toArray, List.getElem_cons_zero, List.getElem_cons_succ, List.setIfInBounds_toArray, List.set_cons_zero, List.set_cons_succ]
            refine wpAnyF_of _ _ _ _ (by decide) ?_
            refine wpAny_of_late (S := fun _ => True) (l := 19) _ _ _ _ ?_
            refine wpAnyF_step 13 (by kernel_rfl) rfl (fun K hK => ?_)
            refine step_pushO _ rfl _ _ 31 rfl Bd8 74 i0 _ 5 88 Tryz.underlying31 hi0 hz0 hsz0 hy0 rfl (by omega) (.slice A9 i8 c9) i8 xs7 rfl (.inl HOU.out) [.int .u8 0, .string ⟨#[]⟩, .string ⟨#[]⟩, .slice none 0 0, .slice none 0 0] 1 w8.heap.size rfl rfl HZC.out (by simp [Value.oneCell']) Nat.zero_lt_one hmx hmy (Nat.le_trans H7.out.bd HUB.out.size) ?_
            intro gg cg w10 own10 hgg ho10
            have HGG := hid hgg
            have HO10 := hid ho10
            have hgb := (own10.lt gg rfl).1
            have hcb10 := (ho10.block _ (heap_lt ((HUB.out.block _ (heap_lt H7.out.cb)).trans H7.out.cb)) (fun e => by have := (HROW.out.lt _ e).1; have := HBC.out; omega)).trans ((HUB.out.block _ (heap_lt H7.out.cb)).trans H7.out.cb)
            obtain ⟨_, ⟨x0, x1, x2, x3, x4⟩, xf⟩ := own_last own10
            have HFI := hid (nw_fin own10 hcb10 (by have := HBC.out; omega) (.int .u8 yk) (.string ym) (.string yt) (.slice ySA ya ysc) (.slice yUA yb yuc))
            have hcc : w10.cell? ⟨br + 2, 2, none⟩ = some (.slice A9 i8 c9) := by rw [Lib.cell_of_heap hcb10]; rfl
            have hcf := Lib.frozen_of_heap hcb10 2
            have HNE := hid (show gg ≠ br + 2 by have := HBC.out; omega)
            have hs10 := heap_setCell_same w10 (br + 2) 2 _ _ (.slice (some ⟨gg, 0, none⟩) (i8 + 1) cg) hcb10
            have own11 := ownsRow_only own10 (Only.of_set w10 (br + 2) 2 (.slice (some ⟨gg, 0, none⟩) (i8 + 1) cg)) (fun k e e2 => HNE.out (by have : some gg = some k := e; injection this with this; omega))
            obtain ⟨_, ⟨y0, y1, y2, y3, y4⟩, yf⟩ := own_last own11
            have hc5 := ((own_put5 own10 (.int .u8 yk) (.string ym) (.string yt) (.slice ySA ya ysc) (.slice yUA yb yuc)).2.block _ (heap_lt hcb10) (fun e => HNE.out e.symm)).trans hcb10
            have hcc5 : (((((w10.setCell ⟨gg, i8 * 5, none⟩ (.int .u8 yk)).setCell ⟨gg, i8 * 5 + 1, none⟩ (.string ym)).setCell ⟨gg, i8 * 5 + 2, none⟩ (.string yt)).setCell ⟨gg, i8 * 5 + 3, none⟩ (.slice ySA ya ysc)).setCell ⟨gg, i8 * 5 + 4, none⟩ (.slice yUA yb yuc)).cell? ⟨br + 2, 2, none⟩ = some (.slice A9 i8 c9) := by rw [Lib.cell_of_heap hc5]; rfl
            have hcf5 := Lib.frozen_of_heap hc5 2
            refine hK _ _ trivial (fun hHeld => ?_)
            clear hK K own10 hgg ho10 hcb10 hs10 own11 hc5
            try simp only [Act.put, List.getElem_toArray, List.getElem_cons_zero, List.getElem_cons_succ, List.setIfInBounds_toArray, List.set_cons_zero, List.set_cons_succ]
            refine wpAnyF_take (i := 14) (.pointer (some ⟨gg, i8 * 5, none⟩)) rfl (by kernel_rfl) (by kernel_rfl) (by kernel_rfl) (by kernel_rfl) (fun _ _ _ h => h) hHeld (by rfl) (fun w' hSw => ?_) ?_
            · go_simp
            try simp only [Act.put, List.getElem_toArray, List.getElem_cons_zero, List.getElem_cons_succ, List.setIfInBounds_toArray, List.set_cons_zero, List.set_cons_succ]
            refine wpAnyF_take (i := 16) (.pointer (some ⟨br + 2, 0, none⟩)) rfl (by kernel_rfl) (by kernel_rfl) (by kernel_rfl) (by kernel_rfl) (fun _ _ _ h => h) hHeld (by rfl) (fun w' hSw => ?_) ?_
            · go_simp
            try simp only [Act.put, List.getElem_toArray, List.getElem_cons_zero, List.getElem_cons_succ, List.setIfInBounds_toArray, List.set_cons_zero, List.set_cons_succ]
            refine wpAnyF_take (i := 17) (.pointer (some ⟨br + 2, 2, none⟩)) rfl (by kernel_rfl) (by kernel_rfl) (by kernel_rfl) (by kernel_rfl) (fun _ _ _ h => h) hHeld (by rfl) (fun w' hSw => ?_) ?_
            · go_simp
            try simp only [Act.put, List.getElem_toArray, List.getElem_cons_zero, List.getElem_cons_succ, List.setIfInBounds_toArray, List.set_cons_zero, List.set_cons_succ]
            clear hHeld
            refine wpAnyF_two 15 18 (by kernel_rfl) rfl rfl (fun K hK => ?_) (fun K hK => ?_)
            · go_simp
              refine hK _ _ trivial (fun hHeld => ?_)
              clear hK K hHeld
              try simp only [Act.put, List.getElem_toArray, List.getElem_cons_zero, List.getElem_cons_succ, List.setIfInBounds_toArray, List.set_cons_zero, List.set_cons_succ]
              refine wpAnyF_step 18 (by kernel_rfl) rfl (fun K hK => ?_)
              go_simp
              refine hK _ _ trivial (fun hHeld => ?_)
              clear hK K
              try simp only [Act.put, List.getElem_toArray, List.getElem_cons_zero, List.getElem_cons_succ, List.setIfInBounds_toArray, List.set_cons_zero, List.set_cons_succ]
              refine ⟨by kernel_rfl, ?_⟩
              clear hHeld
              have hpush := nw_push H7.out HBC.out HROW.out HNDS.out HUB.out HNU.out HM8.out HGG.out ((HO10.out.more fun b _ e => (.inr (.inl e) : b = br + 2 ∨ (Value.slice A9 i8 c9).ownBlock = some b ∨ b = gg)).trans (HFI.out.1.2.2.more fun b _ e => (e.elim .inl (fun e => .inr (.inr e)) : b = br + 2 ∨ (Value.slice A9 i8 c9).ownBlock = some b ∨ b = gg)) fun _ _ e => e) HFI.out.1.1 HFI.out.1.2.1
              have HPU := hid hpush
              clear hpush
              go_wp2
              go_roundw
              case rel => exact ⟨i8 + 1, _, hlt, by go_num, hid HPU.out.1, hid (by rw [HTK.out]; exact HPU.out.2)⟩
              case measure => simp only [intOf]; omega
            · go_simp
              refine hK _ _ trivial (fun hHeld => ?_)
              clear hK K hHeld
              try simp only [Act.put, List.getElem_toArray, List.getElem_cons_zero, List.getElem_cons_succ, List.setIfInBounds_toArray, List.set_cons_zero, List.set_cons_succ]
              refine wpAnyF_step 15 (by kernel_rfl) rfl (fun K hK => ?_)
              go_simp
              refine hK _ _ trivial (fun hHeld => ?_)
              clear hK K
              try simp only [Act.put, List.getElem_toArray, List.getElem_cons_zero, List.getElem_cons_succ, List.setIfInBounds_toArray, List.set_cons_zero, List.set_cons_succ]
              refine ⟨by kernel_rfl, ?_⟩
              clear hHeld
              have hpush := nw_push H7.out HBC.out HROW.out HNDS.out HUB.out HNU.out HM8.out HGG.out ((HO10.out.more fun b _ e => (.inr (.inl e) : b = br + 2 ∨ (Value.slice A9 i8 c9).ownBlock = some b ∨ b = gg)).trans (HFI.out.2.2.2.more fun b _ e => (e.elim .inl (fun e => .inr (.inr e)) : b = br + 2 ∨ (Value.slice A9 i8 c9).ownBlock = some b ∨ b = gg)) fun _ _ e => e) HFI.out.2.1 HFI.out.2.2.1
              have HPU := hid hpush
              clear hpush
              go_wp2
              go_roundw
              case rel => exact ⟨i8 + 1, _, hlt, by go_num, hid HPU.out.1, hid (by rw [HTK.out]; exact HPU.out.2)⟩
              case measure => simp only [intOf]; omega
          · -- the room first
            have hbz : Below w7.heap.size w7 (w7.drew.alloc (.cells #[.int .u8 0, .string ⟨#[]⟩, .string ⟨#[]⟩, .slice none 0 0, .slice none 0 0] 74)) := (Below.refl _ _).drew.trans ((below_new w7.drew _).mono (Nat.le_refl _))
            have HBZ := hid hbz
            go_simp
            refine hK _ _ (HST.out _ HBZ.out) (fun hHeld => ?_)
            clear hK K hHeld hbz
            try simp only [Act.put, List.getElem_toArray, List.getElem_cons_zero, List.getElem_cons_succ, List.setIfInBounds_toArray, List.set_cons_zero, List.set_cons_succ]
            refine wpAnyF_step 10 (by kernel_rfl) rfl (fun K hK => ?_)
            go_simp
            go_at_call 81
            refine (HCOPY.out _ HBZ.out).mono ?_
            rintro _ w8 ⟨cs9, rfl, hn9, hb9⟩
            obtain ⟨yk, ym, yt, ySA, ya, ysc, yUA, yb, yuc, hv9⟩ := (NdO.toNd _ _ hn9).form
            obtain rfl : cs9 = #[.int .u8 yk, .string ym, .string yt, .slice ySA ya ysc, .slice yUA yb yuc] := (Array.toList_inj.1 hv9)
            clear hv9
            have HUB := hid (HBZ.out.trans (hb9.mono HBZ.out.size))
            have HNU := hid hn9
            have HM8 := hid HBZ.out.size
            have HOU := hid (ownsRow_below HROW.out HUB.out (Nat.le_refl _))
            have HZC := hid (fun (j : Nat) (u : Value) (hj : ([.int .u8 0, .string ⟨#[]⟩, .string ⟨#[]⟩, .slice none 0 0, .slice none 0 0] : List Value)[j]? = some u) => (show w8.cell? ((⟨w7.heap.size, 0, none⟩ : Addr).add j) = some u from by
              rw [addr0]
              refine (hb9.cell (p := ⟨w7.heap.size, j, none⟩) (show w7.heap.size < (w7.drew.alloc _).heap.size by rw [World.size_alloc]; exact Nat.lt_succ_self _)).trans ?_
              have hcn := cell_new w7.drew #[.int .u8 0, .string ⟨#[]⟩, .string ⟨#[]⟩, .slice none 0 0, .slice none 0 0] 74 j
              exact hcn.trans (by simpa using hj)))
            go_simp
            refine hK _ _ (HST.out _ HUB.out) (fun hHeld => ?_)
            clear hK K hn9 hb9 hHeld
            try simp only [Act.put, List.getElem_toArray, List.getElem_cons_zero, List.getElem_cons_succ, List.setIfInBounds_toArray, List.set_cons_zero, List.set_cons_succ]
            refine wpAnyF_of _ _ _ _ (by decide) ?_
            refine wpAny_of_late (S := fun _ => True) (l := 19) _ _ _ _ ?_
            refine wpAnyF_step 13 (by kernel_rfl) rfl (fun K hK => ?_)
            refine step_pushO _ rfl _ _ 31 rfl Bd8 74 i0 _ 5 88 Tryz.underlying31 hi0 hz0 hsz0 hy0 rfl (by omega) (.slice A9 i8 c9) i8 xs7 rfl (.inl HOU.out) [.int .u8 0, .string ⟨#[]⟩, .string ⟨#[]⟩, .slice none 0 0, .slice none 0 0] 1 w7.heap.size rfl rfl HZC.out (by simp [Value.oneCell']) Nat.zero_lt_one hmx hmy (Nat.le_trans H7.out.bd HUB.out.size) ?_
            intro gg cg w10 own10 hgg ho10
            have HGG := hid hgg
            have HO10 := hid ho10
            have hgb := (own10.lt gg rfl).1
            have hcb10 := (ho10.block _ (heap_lt ((HUB.out.block _ (heap_lt H7.out.cb)).trans H7.out.cb)) (fun e => by have := (HROW.out.lt _ e).1; have := HBC.out; omega)).trans ((HUB.out.block _ (heap_lt H7.out.cb)).trans H7.out.cb)
            obtain ⟨_, ⟨x0, x1, x2, x3, x4⟩, xf⟩ := own_last own10
            have HFI := hid (nw_fin own10 hcb10 (by have := HBC.out; omega) (.int .u8 yk) (.string ym) (.string yt) (.slice ySA ya ysc) (.slice yUA yb yuc))
            have hcc : w10.cell? ⟨br + 2, 2, none⟩ = some (.slice A9 i8 c9) := by rw [Lib.cell_of_heap hcb10]; rfl
            have hcf := Lib.frozen_of_heap hcb10 2
            have HNE := hid (show gg ≠ br + 2 by have := HBC.out; omega)
            have hs10 := heap_setCell_same w10 (br + 2) 2 _ _ (.slice (some ⟨gg, 0, none⟩) (i8 + 1) cg) hcb10
            have own11 := ownsRow_only own10 (Only.of_set w10 (br + 2) 2 (.slice (some ⟨gg, 0, none⟩) (i8 + 1) cg)) (fun k e e2 => HNE.out (by have : some gg = some k := e; injection this with this; omega))
            obtain ⟨_, ⟨y0, y1, y2, y3, y4⟩, yf⟩ := own_last own11
            have hc5 := ((own_put5 own10 (.int .u8 yk) (.string ym) (.string yt) (.slice ySA ya ysc) (.slice yUA yb yuc)).2.block _ (heap_lt hcb10) (fun e => HNE.out e.symm)).trans hcb10
            have hcc5 : (((((w10.setCell ⟨gg, i8 * 5, none⟩ (.int .u8 yk)).setCell ⟨gg, i8 * 5 + 1, none⟩ (.string ym)).setCell ⟨gg, i8 * 5 + 2, none⟩ (.string yt)).setCell ⟨gg, i8 * 5 + 3, none⟩ (.slice ySA ya ysc)).setCell ⟨gg, i8 * 5 + 4, none⟩ (.slice yUA yb yuc)).cell? ⟨br + 2, 2, none⟩ = some (.slice A9 i8 c9) := by rw [Lib.cell_of_heap hc5]; rfl
            have hcf5 := Lib.frozen_of_heap hc5 2
            refine hK _ _ trivial (fun hHeld => ?_)
            clear hK K own10 hgg ho10 hcb10 hs10 own11 hc5
            try simp only [Act.put, List.getElem_toArray, List.getElem_cons_zero, List.getElem_cons_succ, List.setIfInBounds_toArray, List.set_cons_zero, List.set_cons_succ]
            refine wpAnyF_take (i := 14) (.pointer (some ⟨gg, i8 * 5, none⟩)) rfl (by kernel_rfl) (by kernel_rfl) (by kernel_rfl) (by kernel_rfl) (fun _ _ _ h => h) hHeld (by rfl) (fun w' hSw => ?_) ?_
            · go_simp
            try simp only [Act.put, List.getElem_toArray, List.getElem_cons_zero, List.getElem_cons_succ, List.setIfInBounds_toArray, List.set_cons_zero, List.set_cons_succ]
            refine wpAnyF_take (i := 16) (.pointer (some ⟨br + 2, 0, none⟩)) rfl (by kernel_rfl) (by kernel_rfl) (by kernel_rfl) (by kernel_rfl) (fun _ _ _ h => h) hHeld (by rfl) (fun w' hSw => ?_) ?_
            · go_simp
            try simp only [Act.put, List.getElem_toArray, List.getElem_cons_zero, List.getElem_cons_succ, List.setIfInBounds_toArray, List.set_cons_zero, List.set_cons_succ]
            refine wpAnyF_take (i := 17) (.pointer (some ⟨br + 2, 2, none⟩)) rfl (by kernel_rfl) (by kernel_rfl) (by kernel_rfl) (by kernel_rfl) (fun _ _ _ h => h) hHeld (by rfl) (fun w' hSw => ?_) ?_
            · go_simp
            try simp only [Act.put, List.getElem_toArray, List.getElem_cons_zero, List.getElem_cons_succ, List.setIfInBounds_toArray, List.set_cons_zero, List.set_cons_succ]
            clear hHeld
            refine wpAnyF_two 15 18 (by kernel_rfl) rfl rfl (fun K hK => ?_) (fun K hK => ?_)
            · go_simp
              refine hK _ _ trivial (fun hHeld => ?_)
              clear hK K hHeld
              try simp only [Act.put, List.getElem_toArray, List.getElem_cons_zero, List.getElem_cons_succ, List.setIfInBounds_toArray, List.set_cons_zero, List.set_cons_succ]
              refine wpAnyF_step 18 (by kernel_rfl) rfl (fun K hK => ?_)
              go_simp
              refine hK _ _ trivial (fun hHeld => ?_)
              clear hK K
              try simp only [Act.put, List.getElem_toArray, List.getElem_cons_zero, List.getElem_cons_succ, List.setIfInBounds_toArray, List.set_cons_zero, List.set_cons_succ]
              refine ⟨by kernel_rfl, ?_⟩
              clear hHeld
              have hpush := nw_push H7.out HBC.out HROW.out HNDS.out HUB.out HNU.out HM8.out HGG.out ((HO10.out.more fun b _ e => (.inr (.inl e) : b = br + 2 ∨ (Value.slice A9 i8 c9).ownBlock = some b ∨ b = gg)).trans (HFI.out.1.2.2.more fun b _ e => (e.elim .inl (fun e => .inr (.inr e)) : b = br + 2 ∨ (Value.slice A9 i8 c9).ownBlock = some b ∨ b = gg)) fun _ _ e => e) HFI.out.1.1 HFI.out.1.2.1
              have HPU := hid hpush
              clear hpush
              go_wp2
              go_roundw
              case rel => exact ⟨i8 + 1, _, hlt, by go_num, hid HPU.out.1, hid (by rw [HTK.out]; exact HPU.out.2)⟩
              case measure => simp only [intOf]; omega
            · go_simp
              refine hK _ _ trivial (fun hHeld => ?_)
              clear hK K hHeld
              try simp only [Act.put, List.getElem_toArray, List.getElem_cons_zero, List.getElem_cons_succ, List.setIfInBounds_toArray, List.set_cons_zero, List.set_cons_succ]
              refine wpAnyF_step 15 (by kernel_rfl) rfl (fun K hK => ?_)
              go_simp
              refine hK _ _ trivial (fun hHeld => ?_)
              clear hK K
              try simp only [Act.put, List.getElem_toArray, List.getElem_cons_zero, List.getElem_cons_succ, List.setIfInBounds_toArray, List.set_cons_zero, List.set_cons_succ]
              refine ⟨by kernel_rfl, ?_⟩
              clear hHeld
              have hpush := nw_push H7.out HBC.out HROW.out HNDS.out HUB.out HNU.out HM8.out HGG.out ((HO10.out.more fun b _ e => (.inr (.inl e) : b = br + 2 ∨ (Value.slice A9 i8 c9).ownBlock = some b ∨ b = gg)).trans (HFI.out.2.2.2.more fun b _ e => (e.elim .inl (fun e => .inr (.inr e)) : b = br + 2 ∨ (Value.slice A9 i8 c9).ownBlock = some b ∨ b = gg)) fun _ _ e => e) HFI.out.2.1 HFI.out.2.2.1
              have HPU := hid hpush
              clear hpush
              go_wp2
              go_roundw
              case rel => exact ⟨i8 + 1, _, hlt, by go_num, hid HPU.out.1, hid (by rw [HTK.out]; exact HPU.out.2)⟩
              case measure => simp only [intOf]; omega
        · have hie : i8 = k8 := by omega
          subst hie
          clear hlt
          have hpl : (Tt.pars rs).length = i8 := HK8.out
          have hrl : Tt.namT rs (Tt.pars rs) i8 = Tt.rulF rs := by unfold Tt.rulF; rw [hpl]
          have hbl : (Tt.bodiesF rs).length = i8 := by unfold Tt.bodiesF; rw [List.length_map, hpl]
          have hI := HI.out
          obtain ⟨xs7, hrow, hnds⟩ := HJ.out
          obtain ⟨A9, c9, rfl⟩ := row_form hrow
          rw [hrl] at hI
          rw [show (Tt.bodiesF rs).take i8 = Tt.bodiesF rs by rw [← hbl, List.take_length]] at hnds
          have hfin : NewP rs w (.returned (.tuple #[.pointer (some ⟨br + 2, 0, none⟩), .int .i64 0])) wr := by
            refine ⟨br + 2, br, br + 1, A9, c9, xs7, rfl, ⟨?_, hI.mr.imp fun _ q => q.2, hI.mt.imp fun _ q => q.2, ?_, NdsO.toNds _ _ hnds⟩, hI.below⟩
            · rw [hbl]; exact hI.cb
            · rw [hbl]
              obtain ⟨A', c', hv, hrd, _⟩ := Reads.own hrow
              injection hv with hv1 hv2 hv3
              rw [hv1]
              exact hrd
          have HFIN := hid hfin
          clear hfin hI hrow hnds hpl hrl hbl
          go_wp2_with fail
          go_ret2
          exact HFIN.out
end
end Go.Proofs.YtpbnfinmjnpkpaaGreatDoor
