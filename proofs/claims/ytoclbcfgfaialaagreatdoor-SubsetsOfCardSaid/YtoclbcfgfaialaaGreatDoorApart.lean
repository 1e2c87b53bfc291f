/-
  (*Book).Apart for whatever pages, each of which can be written over by itself: the walk.
-/
import Derived.Test.YtoclbcfgfaialaaGreatDoorBook
namespace Go.Proofs.YtoclbcfgfaialaaGreatDoor
open Go.RowKit
set_option maxRecDepth 100000
/-- nothing but the block that is named, if one is, has turned -/
structure OnlyO (b : Option Nat) (w w' : World) : Prop where
  os : w'.os = w.os
  tape : w'.tape = w.tape
  output : w'.output = w.output
  size : w.heap.size ≤ w'.heap.size
  block : ∀ k, k < w.heap.size → b ≠ some k → w'.heap[k]? = w.heap[k]?
theorem OnlyO.of_below {b : Option Nat} {w w' : World} (h : Below w.heap.size w w') : OnlyO b w w' := ⟨h.os, h.tape, h.output, h.size, fun k hk _ => h.block k hk⟩
theorem OnlyO.of_b {g : Nat} {w w' : World} (h : OnlyB g w w') : OnlyO (some g) w w' := ⟨h.os, h.tape, h.output, h.size, fun k hk hne => h.block k hk fun e => hne (by rw [e])⟩
/-- a page: its dynamic type, its value, the block that it writes, its methods -/
structure Pg where
  T : TypeId
  v : Value
  blk : Option Nat
  fW : FuncId
  fB : FuncId
  fS : FuncId
  st : Nat → World → Prop
/-- a page keeps by itself -/
structure PgOk (p : Pg) : Prop where
  frame : ∀ i w w' b, p.st i w → OnlyO b w w' → (p.blk = none ∨ p.blk ≠ b) → p.st i w'
  w : ∀ w, p.st 0 w → Calls Tryz.prog p.fW #[p.v] w fun e w' => e = .returned (.tuple #[]) ∧ p.st 1 w' ∧ OnlyO p.blk w w'
  b : ∀ w, p.st 1 w → Calls Tryz.prog p.fB #[p.v] w fun e w' => e = .returned (.tuple #[]) ∧ p.st 2 w' ∧ OnlyO p.blk w w'
  mW : ∀ n w, (method (n + 1) p.T p.v "harbinger/harbingerlaw01.write").run Tryz.prog w = .ok (p.fW, p.v) w
  mB : ∀ n w, (method (n + 1) p.T p.v "harbinger/harbingerlaw01.writeBehind").run Tryz.prog w = .ok (p.fB, p.v) w
  mS : ∀ n w, (method (n + 1) p.T p.v "harbinger/harbingerlaw01.stands").run Tryz.prog w = .ok (p.fS, p.v) w
  eW : ∀ l w, (callFunc p.fW l).run Tryz.prog w = .ok (.enter p.fW l) w
  eB : ∀ l w, (callFunc p.fB l).run Tryz.prog w = .ok (.enter p.fB l) w
  eS : ∀ l w, (callFunc p.fS l).run Tryz.prog w = .ok (.enter p.fS l) w
  s : ∀ w, p.st 2 w → Calls Tryz.prog p.fS #[p.v] w fun e w' => e = .returned (.bool true) ∧ Below w.heap.size w w'
/-- nothing but the pages' blocks has turned -/
structure OnlyL (ps : List Pg) (w w' : World) : Prop where
  os : w'.os = w.os
  tape : w'.tape = w.tape
  output : w'.output = w.output
  size : w.heap.size ≤ w'.heap.size
  block : ∀ k, k < w.heap.size → (∀ p ∈ ps, p.blk ≠ some k) → w'.heap[k]? = w.heap[k]?
theorem OnlyL.refl (ps : List Pg) (w : World) : OnlyL ps w w := ⟨rfl, rfl, rfl, Nat.le_refl _, fun _ _ _ => rfl⟩
theorem OnlyL.step {ps : List Pg} {p : Pg} (hp : p ∈ ps) {w w1 w2 : World} (h : OnlyL ps w w1) (k : OnlyO p.blk w1 w2) : OnlyL ps w w2 :=
  ⟨k.os.trans h.os, k.tape.trans h.tape, k.output.trans h.output, Nat.le_trans h.size k.size, fun i hi hne => (k.block i (Nat.lt_of_lt_of_le hi h.size) (hne p hp)).trans (h.block i hi hne)⟩
theorem OnlyL.below {ps : List Pg} {B : Nat} {W w w' : World} (h : OnlyL ps w w') (hg : ∀ p ∈ ps, ∀ g, p.blk = some g → B ≤ g) (hW : Below B W w) (hB : B ≤ w.heap.size) : Below B W w' :=
  ⟨h.os.trans hW.os, h.tape.trans hW.tape, h.output.trans hW.output, Nat.le_trans hW.size h.size, fun k hk => (h.block k (by omega) fun p hp e => by have := hg p hp k e; omega).trans (hW.block k hk)⟩
theorem OnlyL.cell {ps : List Pg} {w w' : World} (h : OnlyL ps w w') {b o : Nat} (hb : b < w.heap.size) (hne : ∀ p ∈ ps, p.blk ≠ some b) : w'.cell? ⟨b, o, none⟩ = w.cell? ⟨b, o, none⟩ := by
  simp only [World.cell?, h.block b hb hne]
/-- all pages, those ahead of i one stage on -/
def Stages (ps : List Pg) (s i : Nat) (w : World) : Prop := ∀ j (hj : j < ps.length), ps[j].st (if j < i then s + 1 else s) w
def Apart2 (ps : List Pg) : Prop := ∀ i j (hi : i < ps.length) (hj : j < ps.length), i ≠ j → ps[i].blk = none ∨ ps[i].blk ≠ ps[j].blk
theorem Stages.step {ps : List Pg} {s i : Nat} {w w' : World} (hok : ∀ p ∈ ps, PgOk p) (ha : Apart2 ps) (hi : i < ps.length) (h : Stages ps s i w) (ho : OnlyO ps[i].blk w w') (hn : ps[i].st (s + 1) w') : Stages ps s (i + 1) w' := by
  intro j hj
  by_cases e : j = i
  · subst e; rw [if_pos (by omega)]; exact hn
  · have h1 := h j hj
    have : (if j < i + 1 then s + 1 else s) = (if j < i then s + 1 else s) := by
      by_cases h2 : j < i
      · rw [if_pos h2, if_pos (by omega)]
      · rw [if_neg h2, if_neg (by omega)]
    rw [this]
    exact (hok _ (List.getElem_mem hj)).frame _ _ _ _ h1 ho (ha j i hj hi e)
theorem OnlyL.step2 {ps : List Pg} {b : Option Nat} {w w1 w2 : World} (h : OnlyL ps w w1) (k : OnlyO b w1 w2) (hb : b = none) : OnlyL ps w w2 := by
  subst hb
  exact ⟨k.os.trans h.os, k.tape.trans h.tape, k.output.trans h.output, Nat.le_trans h.size k.size, fun i hi hne => (k.block i (Nat.lt_of_lt_of_le hi h.size) (by simp)).trans (h.block i hi hne)⟩
theorem Stages.below {ps : List Pg} {s i : Nat} {w w' : World} (hok : ∀ p ∈ ps, PgOk p) (h : Stages ps s i w) (hb : Below w.heap.size w w') : Stages ps s i w' := fun j hj =>
  (hok _ (List.getElem_mem hj)).frame _ _ _ none (h j hj) (OnlyO.of_below hb) (by cases ps[j].blk <;> simp)
theorem Stages.next {ps : List Pg} {s : Nat} {w : World} (h : Stages ps s ps.length w) : Stages ps (s + 1) 0 w := by
  intro j hj
  have := h j hj
  rw [if_pos hj] at this
  rw [if_neg (by omega)]
  exact this
set_option maxHeartbeats 3200000 in
theorem apart_any (bb cp : Nat) (Ap : Option Addr) (ps : List Pg) (w : World) (hl : ps.length ≤ 120) (hbb : bb < w.heap.size) (hok : ∀ p ∈ ps, PgOk p) (ha : Apart2 ps)
    (hst : Stages ps 0 0 w) (hc : w.cell? ⟨bb, 0, none⟩ = some (.slice Ap ps.length cp)) (hr : Reads w w.heap.size 1 Ap ps.length (ps.map fun p => .iface p.T p.v))
    (hfix : ∀ p ∈ ps, p.blk ≠ some bb ∧ ∀ b o, Ap = some ⟨b, o, none⟩ → p.blk ≠ some b) :
    Calls Tryz.prog 17 #[.pointer (some ⟨bb, 0, none⟩)] w fun e w' => e = .returned (.bool true) ∧ OnlyL ps w w' := by
  have HC : Hid (∀ wr, OnlyL ps w wr → wr.cell? ⟨bb, 0, none⟩ = some (.slice Ap ps.length cp)) := fun wr h => (h.cell hbb fun p hp => (hfix p hp).1).trans hc
  have HR : Hid (∀ wr, OnlyL ps w wr → ∀ k (hk : k < ps.length), ∃ b o, Ap = some ⟨b, o, none⟩ ∧ wr.cell? ⟨b, o + k, none⟩ = some (.iface ps[k].T ps[k].v)) := fun wr h k hk => by
    obtain ⟨b, o, rfl, hb, hcell⟩ := hr.2 (by omega)
    refine ⟨b, o, rfl, (h.cell hb fun p hp => (hfix p hp).2 b o rfl).trans (hcell k _ ?_)⟩
    simp [List.getElem?_eq_getElem hk]
  have HO := hid hok
  have HA := hid ha
  have HS := hid hst
  clear hok ha hst hfix hr
  go_enter Tryz.func17, Tryz.ntmps17
  go_wp2
  have HW0 : Hid (OnlyL ps w w ∧ Stages ps 0 0 w) := ⟨OnlyL.refl _ _, HS.out⟩
  clear HS
  go_loopw [3] (fun i wr => ∃ k : Nat, k ≤ ps.length ∧ i = .int .i64 k ∧ Hid (OnlyL ps w wr ∧ Stages ps 0 k wr)) (fun i _ => ps.length - (intOf i).toNat)
  case atStart => exact ⟨0, Nat.zero_le _, rfl, HW0.out⟩
  case round =>
    clear HW0
    obtain ⟨k, hk, rfl, HW⟩ := hrel
    have c0 := HC.out wr HW.out.1
    by_cases hlt : k < ps.length
    · obtain ⟨b, o, rfl, c1⟩ := HR.out wr HW.out.1 k hlt
      have hpk := HO.out _ (List.getElem_mem hlt)
      have HP : Hid (∀ w', OnlyO ps[k].blk wr w' → ps[k].st (0 + 1) w' → OnlyL ps w w' ∧ Stages ps 0 (k + 1) w') := fun w' h1 h2 => ⟨HW.out.1.step (List.getElem_mem hlt) h1, Stages.step HO.out HA.out hlt HW.out.2 h1 h2⟩
      have HT := hid (HW.out.2 k hlt)
      rw [if_neg (by omega)] at HT
      generalize ps[k] = p at c1 hpk HP HT
      have hm := hpk.mW
      have hen := hpk.eW
      have HPK := hid hpk
      clear hpk
      go_wp2_with fail
      refine (HPK.out.w _ HT.out).mono ?_
      rintro e w1 ⟨rfl, hs1, ho1⟩
      have HQ := hid (HP.out w1 ho1 hs1)
      clear hm hen HP HT HPK hs1 ho1 c1
      go_wp2
      go_roundw
      case rel => exact ⟨k + 1, by omega, by go_num, HQ⟩
      case measure => simp [intOf]; omega
    · have hkn : k = ps.length := by omega
      subst hkn
      have HW0 : Hid (OnlyL ps w wr ∧ Stages ps 1 0 wr) := ⟨HW.out.1, HW.out.2.next⟩
      clear HW
      go_wp2_with fail
      obtain ⟨wo, rfl⟩ : ∃ wo : World, wo = wr := ⟨_, rfl⟩
      go_loopw [4] (fun i wr => ∃ k : Nat, k ≤ ps.length ∧ i = .int .i64 k ∧ Hid (OnlyL ps w wr ∧ Stages ps 1 k wr)) (fun i _ => ps.length - (intOf i).toNat)
      case atStart => exact ⟨0, Nat.zero_le _, rfl, HW0.out⟩
      case round =>
        clear HW0
        obtain ⟨k, hk, rfl, HW⟩ := hrel
        have c0 := HC.out wr HW.out.1
        by_cases hlt : k < ps.length
        · obtain ⟨b, o, rfl, c1⟩ := HR.out wr HW.out.1 k hlt
          have hpk := HO.out _ (List.getElem_mem hlt)
          have HP : Hid (∀ w', OnlyO ps[k].blk wr w' → ps[k].st (1 + 1) w' → OnlyL ps w w' ∧ Stages ps 1 (k + 1) w') := fun w' h1 h2 => ⟨HW.out.1.step (List.getElem_mem hlt) h1, Stages.step HO.out HA.out hlt HW.out.2 h1 h2⟩
          have HT := hid (HW.out.2 k hlt)
          rw [if_neg (by omega)] at HT
          generalize ps[k] = p at c1 hpk HP HT
          have hm := hpk.mB
          have hen := hpk.eB
          have HPK := hid hpk
          clear hpk
          go_wp2_with fail
          refine (HPK.out.b _ HT.out).mono ?_
          rintro e w1 ⟨rfl, hs1, ho1⟩
          have HQ := hid (HP.out w1 ho1 hs1)
          clear hm hen HP HT HPK hs1 ho1 c1
          go_wp2
          go_roundw
          case rel => exact ⟨k + 1, by omega, by go_num, HQ⟩
          case measure => simp [intOf]; omega
        · have hkn : k = ps.length := by omega
          subst hkn
          have HW0 : Hid (OnlyL ps w wr ∧ Stages ps 2 0 wr) := ⟨HW.out.1, HW.out.2.next⟩
          clear HW
          go_wp2_with fail
          obtain ⟨wo, rfl⟩ : ∃ wo : World, wo = wr := ⟨_, rfl⟩
          go_loopw [5] (fun i wr => ∃ k : Nat, k ≤ ps.length ∧ i = .int .i64 k ∧ Hid (OnlyL ps w wr ∧ Stages ps 2 0 wr)) (fun i _ => ps.length - (intOf i).toNat)
          case atStart => exact ⟨0, Nat.zero_le _, rfl, HW0.out⟩
          case round =>
            clear HW0
            obtain ⟨k, hk, rfl, HW⟩ := hrel
            have c0 := HC.out wr HW.out.1
            by_cases hlt : k < ps.length
            · obtain ⟨b, o, rfl, c1⟩ := HR.out wr HW.out.1 k hlt
              have hpk := HO.out _ (List.getElem_mem hlt)
              have HT := hid (HW.out.2 k hlt)
              rw [if_neg (by omega)] at HT
              generalize ps[k] = p at c1 hpk HT
              have hm := hpk.mS
              have hen := hpk.eS
              have HPK := hid hpk
              clear hpk
              go_wp2_with fail
              refine (HPK.out.s _ HT.out).mono ?_
              rintro e w1 ⟨rfl, hb1⟩
              have HQ : Hid (OnlyL ps w w1 ∧ Stages ps 2 0 w1) := by
                have h9 := HW.out.1.step2 (OnlyO.of_below (b := none) hb1) rfl
                exact ⟨h9, HW.out.2.below HO.out hb1⟩
              clear hm hen HT HPK hb1 c1
              go_wp2
              go_roundw
              case rel => exact ⟨k + 1, by omega, by go_num, HQ⟩
              case measure => simp [intOf]; omega
            · have hkn : k = ps.length := by omega
              subst hkn
              go_wp2
              go_ret
              exact ⟨rfl, HW.out.1⟩
end Go.Proofs.YtoclbcfgfaialaaGreatDoor
