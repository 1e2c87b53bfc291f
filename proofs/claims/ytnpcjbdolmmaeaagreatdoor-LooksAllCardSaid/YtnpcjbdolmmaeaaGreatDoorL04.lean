/-
  A configuration's sign: the walk.
-/
import Derived.Lib.ItoaLen
import Derived.Lib.AppendIntMem
import Derived.Lib.OthersKept
import Derived.Deep.DeepCutAuto
import Derived.Deep.CutRange
import Derived.Test.YtnpcjbdolmmaeaaGreatDoorL01
import Derived.Test.YtnpcjbdolmmaeaaGreatDoorL02
import Derived.Test.YtnpcjbdolmmaeaaGreatDoorL03
namespace Go.Proofs.YtnpcjbdolmmaeaaGreatDoor
open Go.RowKit
set_option maxRecDepth 100000
def PT (w : World) : Prop := Lib.TabIs Tryz.prog w "internal/strconv.uint64pow10" .u64 Lib.pow10Tab
theorem PT.next {w w' : World} (h : PT w) (hb : Below w.heap.size w w') : PT w' := Lib.tabBelow_of_tabIs h w' hb
def i64 (n : Int) : Prop := -9223372036854775808 ≤ n ∧ n ≤ 9223372036854775807
structure OkC (x : Cf.Cfg) : Prop where
  alt : i64 x.alt
  state : i64 x.state
  stack : ∀ n ∈ x.stack, i64 n
  len : x.stack.length ≤ 1000000
theorem ownsRow_others {w w' : World} {base : Nat} {e u : TypeId} {size n : Nat} {v : Value} {xs : List Value} (h : w.ownsRow base e size v n xs) (hk : Lib.OthersKept u none w w') (hne : e ≠ u) : w'.ownsRow base e size v n xs := by
  refine ⟨h.1, ?_⟩
  rcases h.2 with h2 | ⟨g, cap, cur, hv, hg, hh, r⟩
  · exact .inl h2
  · exact .inr ⟨g, cap, cur, hv, hg, hk g _ hh (by simp) (fun c fz e1 => by injection e1 with _ e2 _; exact hne e2), r⟩
theorem conv_own {w : World} {base n : Nat} {l : List UInt8} {v : Value} (h : w.ownsRow base 5 1 v n (Lib.byteCells l)) (hn : 0 < n) : (convert 167 9 v).run Tryz.prog w = .ok (.string ⟨l.toArray⟩) w := by
  have hl : l.length = n := by have := h.1; simpa [Lib.byteCells] using this
  rcases h.2 with ⟨_, h2⟩ | ⟨g, cap, cur, hv, _⟩
  · omega
  · subst hv
    have hc := h.cells (g := g) rfl
    have := run_convert_bytes_back w 167 9 5 ⟨g, 0, none⟩ cap l Tryz.underlying167 Tryz.underlying5 Tryz.underlying9 fun j hj => hc j _ (by simp [Lib.byteCells, List.getElem?_eq_getElem hj])
    rw [hl] at this
    exact this
theorem infoU8 : (Tryz.prog.info? 5).map (fun i => (i.zero, i.size, i.bytes)) = some (some (.int .u8 0), 1, 1) := by kernel_rfl
theorem infoI : (Tryz.prog.info? 3).map (fun i => (i.zero, i.size, i.bytes)) = some (some (.int .i64 0), 1, 8) := by kernel_rfl
def SgP (x : Cf.Cfg) (w : World) (e : Ending) (w' : World) : Prop := e = .returned (.string ⟨(Cf.signT x).toArray⟩) ∧ Below w.heap.size w w'
def sgN (l : List Int) (j : Nat) : List UInt8 := (l.take j).flatMap fun n => 32 :: Lib.itoa n
def sgB (x : Cf.Cfg) (j : Nat) : List UInt8 := (if x.ended = true then 1 else 0) :: (Lib.itoa x.alt ++ sgN (x.state :: x.stack) j)
theorem sgB_next (x : Cf.Cfg) (j : Nat) (h : j < (x.state :: x.stack).length) : sgB x (j + 1) = sgB x j ++ (32 :: Lib.itoa (x.state :: x.stack)[j]) := by
  unfold sgB sgN
  rw [Cf.sign_take _ j h]
  simp
theorem sgB_all (x : Cf.Cfg) : sgB x (x.state :: x.stack).length = Cf.signT x := by
  unfold sgB sgN Cf.signT Cf.keyT Cf.tailT
  rw [List.take_length]
  simp
theorem sgN_len {l : List Int} (h : ∀ n ∈ l, i64 n) (j : Nat) (hj : j ≤ l.length) : (sgN l j).length ≤ j * 22 := by
  induction j with
  | zero => simp [sgN]
  | succ j ih =>
    have := ih (by omega)
    have h1 := Lib.itoa_length_le l[j] (h _ (List.getElem_mem hj)).1 (h _ (List.getElem_mem hj)).2
    unfold sgN at this ⊢
    rw [Cf.sign_take l j hj, List.length_append, List.length_cons]
    omega
set_option maxHeartbeats 4000000 in
theorem sign_any (x : Cf.Cfg) (A : Option Addr) (c : Nat) (w : World) (hx : OkC x) (hr : Reads w w.heap.size 1 A x.stack.length (x.stack.map (Value.int .i64))) (hT : PT w) :
    Calls Tryz.prog 78 #[.agg #[.int .i64 x.alt, .int .i64 x.state, .slice A x.stack.length c, .bool x.exact, .bool x.ended]] w (SgP x w) := by
  obtain ⟨j0, hj, hz0, hz1, hz2⟩ := info_parts infoU8
  obtain ⟨i0, hi, gz0, gz1, gz2⟩ := info_parts infoI
  obtain ⟨alt, state, stack, exact, ended⟩ := x
  dsimp only at hr ⊢
  obtain ⟨hx1, hx2, hx3, hx4⟩ := hx
  dsimp only at hx1 hx2 hx3 hx4
  have hall : ∀ n ∈ state :: stack, i64 n := fun n hn => by
    rcases List.mem_cons.1 hn with rfl | hn
    · exact hx2
    · exact hx3 n hn
  obtain ⟨fl, hfl⟩ : ∃ fl : UInt8, fl = (if ended = true then 1 else 0) := ⟨_, rfl⟩
  obtain ⟨w0, hw0⟩ : ∃ w0, w0 = w.alloc (.cells #[.int .i64 alt, .int .i64 state, .slice A stack.length c, .bool exact, .bool ended] 89) := ⟨_, rfl⟩
  obtain ⟨W, hW⟩ : ∃ W, W = w0.alloc (.cells #[.int .u8 fl.toNat] 5) := ⟨_, rfl⟩
  have hb0 : Below w.heap.size w w0 := by rw [hw0]; exact below_new _ _
  have hs0 : w0.heap.size = w.heap.size + 1 := by rw [hw0]; simp
  have hsW : W.heap.size = w.heap.size + 1 + 1 := by rw [hW]; simp; exact hs0
  have hbW : Below w.heap.size w W := by rw [hW]; exact hb0.alloc hb0.size _
  have hx0 : W.heap[w.heap.size]? = some (.cells #[.int .i64 alt, .int .i64 state, .slice A stack.length c, .bool exact, .bool ended] 89 (0, 0)) := by
    rw [hW, Below.heap_alloc w0 _ _ (by omega), hw0]; exact heap_alloc_new w _
  have k0 : W.cell? ⟨w.heap.size, 0, none⟩ = some (.int .i64 alt) := by rw [Lib.cell_of_heap hx0]; rfl
  have hown : W.ownsRow w.heap.size 5 1 (.slice (some ⟨w.heap.size + 1, 0, none⟩) 1 1) 1 (Lib.byteCells [fl]) := by
    rw [hW, ← hs0]
    exact World.ownsRow_lit w0 #[.int .u8 fl.toNat] 1 (by omega) (by decide) rfl
  have HAI := hid (Tryz.strconv_AppendInt_10 w.heap.size 1 alt hx1.1 hx1.2 _ _ W hown hbW.size (by omega) ((Lib.tabBelow_of_tabIs hT).on hbW))
  have HX0 := hid hx0
  have HBW := hid hbW
  have HR := hid hr
  have HALL := hid hall
  have HT := hid (Lib.tabBelow_of_tabIs hT)
  have hla := Lib.itoa_length_le alt hx1.1 hx1.2
  clear hx0 hbW hr hall hT hown hb0 hx3
  have HSG := hid (sgB_next ⟨alt, state, stack, exact, ended⟩)
  have HSA := hid (sgB_all ⟨alt, state, stack, exact, ended⟩)
  have HS0 : Hid (sgB ⟨alt, state, stack, exact, ended⟩ 0 = [fl] ++ Lib.itoa alt) := hid (by rw [hfl]; simp [sgB, sgN])
  have HSL : Hid (∀ j, j ≤ (state :: stack).length → (sgB ⟨alt, state, stack, exact, ended⟩ j).length ≤ 22 + j * 22) := hid fun j hj => by
    have := sgN_len HALL.out j hj
    unfold sgB
    dsimp only
    rw [List.length_cons, List.length_append]; omega
  have HFL := hid hfl
  have hgo : ∀ (u : World) (Q : Exit → Act → World → Prop) (a : Act) (cd : Code), u = W → cd.wp Tryz.prog Q a W → cd.wp Tryz.prog Q a u := fun u Q a cd e h => by rw [e]; exact h
  have hlit : Hid (W = (w.alloc (.cells #[.int .i64 alt, .int .i64 state, .slice A stack.length c, .bool exact, .bool ended] 89)).alloc (.cells #[.int .u8 fl.toNat] 5)) := hid (by rw [hW, hw0])
  clear hW hw0 hs0
  cases ended
  all_goals
    subst hfl
    go_enter Tryz.func78, Tryz.ntmps78
    go_upto_region 4 with fail
    refine hgo _ _ _ _ (by rw [hlit.out]; simp) ?_
    clear hgo hlit
    go_wp2_with fail
    refine HAI.out.mono ?_
    rintro e w1 ⟨v1, rfl, hown1, hb1, hk1⟩
    have hx1 := hk1 _ _ HX0.out (by simp) (fun c fz e1 => by injection e1 with _ e2 _; exact absurd e2 (by decide))
    have k1 : w1.cell? ⟨w.heap.size, 1, none⟩ = some (.int .i64 state) := by rw [Lib.cell_of_heap hx1]; rfl
    have k2 : (w1.alloc (.cells #[.int .i64 state] 3)).cell? ⟨w.heap.size, 2, none⟩ = some (.slice A stack.length c) := ((below_new w1 _).cell (p := ⟨w.heap.size, 2, none⟩) (show w.heap.size < w1.heap.size by have := hb1.size; omega)).trans (by rw [Lib.cell_of_heap hx1]; rfl)
    have HB1 := hid (HBW.out.trans hb1)
    have HO1 := hid hown1
    have hrd := (HR.out.below HB1.out).more HB1.out.size
    have hrd := hrd.below (below_new w1 (.cells #[.int .i64 state] 3))
    have hlit := World.ownsRow_lit (base := w1.heap.size) (size := 1) (e := 3) w1 #[.int .i64 state] 1 (Nat.le_refl _) (by decide) rfl
    clear hx1 hown1 hb1 hk1 HAI k0
    go_wp2_with (at_builtin; refine wpList_append_reads _ rfl _ _ 23 rfl w1.heap.size 3 i0 _ 1 8 Tryz.underlying23 hi gz0 gz1 gz2 rfl (by omega) _ _ _ rfl hlit _ _ _ _ _ rfl hrd (by simp [Value.oneCell']) (by simp only [maxLen]; omega) (by omega) (by simp) ?_; intro v2 w2 hown2 hsz2 hB2; rw [Nat.add_comm 1 stack.length] at hown2; obtain ⟨A2, c2, rfl⟩ := row_form hown2)
    have hb2 := hB2 _ (below_new w1 (.cells #[.int .i64 state] 3))
    have hbb := ownsRow_below HO1.out hb2 (Nat.le_refl _)
    have hrow : w2.ownsRow w1.heap.size 3 1 (.slice A2 (stack.length + 1) c2) (stack.length + 1) ((state :: stack).map (Value.int .i64)) := hown2
    have HROW := hid hrow
    have HB2 := hid (HB1.out.trans (hb2.mono HB1.out.size))
    have HBB : Hid (w2.ownsRow w.heap.size 5 1 v1 (sgB ⟨alt, state, stack, exact, _⟩ 0).length (Lib.byteCells (sgB ⟨alt, state, stack, exact, _⟩ 0))) := hid (by rw [HS0.out]; simpa [Lib.byteCells, Nat.add_comm] using hbb)
    clear hb2 hbb hrow hown2 hsz2 hB2 hlit hrd k1 k2 HO1
    go_wp2_with fail
    go_loopw [3, 22] (fun v i wr => ∃ j : Nat, j ≤ stack.length + 1 ∧ i = .int .i64 j ∧ Hid (wr.ownsRow w.heap.size 5 1 v (sgB ⟨alt, state, stack, exact, _⟩ j).length (Lib.byteCells (sgB ⟨alt, state, stack, exact, _⟩ j)) ∧ wr.ownsRow w1.heap.size 3 1 (.slice A2 (stack.length + 1) c2) (stack.length + 1) ((state :: stack).map (Value.int .i64)) ∧ Below w.heap.size w wr)) (fun _ i _ => stack.length + 1 - (intOf i).toNat)
    case atStart => exact ⟨0, Nat.zero_le _, rfl, hid ⟨HBB.out, HROW.out, HB2.out⟩⟩
    case round =>
      obtain ⟨j, hj1, rfl, hI⟩ := hrel
      obtain ⟨hbo, hro, hbr⟩ := hI.out
      have hsl := HSL.out j (by simpa using hj1)
      by_cases hlt : j < stack.length + 1
      · have f1 : decide ((j : Int) < ((stack.length + 1 : Nat) : Int)) = true := decide_eq_true (by omega)
        have f1' : decide (j < stack.length + 1) = true := decide_eq_true hlt
        have hlt' : j < (state :: stack).length := by simpa using hlt
        obtain ⟨b, off, hA2, hbl, hcell⟩ := (Reads.of_own hro).2 (by omega)
        have kc := hcell j (.int .i64 (state :: stack)[j]) (by rw [List.getElem?_map, List.getElem?_eq_getElem hlt']; rfl)
        have hgo2 := HSG.out j hlt'
        have hok := HALL.out _ (List.getElem_mem hlt')
        have hln := Lib.itoa_length_le _ hok.1 hok.2
        have HGO := hid hgo2
        have HBO := hid hbo
        have HRO := hid hro
        have HBR := hid hbr
        subst hA2
        clear hcell hgo2 hbo hro hbr hI
        generalize (state :: stack)[j] = nm at kc hok hln HGO
        generalize hsb : sgB ⟨alt, state, stack, exact, _⟩ j = sb at HGO HBO hsl
        clear hsb
        have hbo := HBO.out
        go_wp2_with (at_builtin; refine wpList_push2 _ rfl _ _ 167 rfl w.heap.size 5 j0 _ 1 1 Tryz.underlying167 hj hz0 hz1 hz2 rfl (by omega) _ _ _ rfl hbo [.int .u8 32] 1 _ rfl (by simp) rfl (by simp [Value.oneCell']) (by simp only [maxLen]; omega) (by omega) HBR.out.size ?_; intro v3 w3 hown3 hsz3 hB3 hK3)
        have hb3 := hB3 _ HBR.out
        have hr3 := hK3 _ _ _ _ _ _ HRO.out (own_ne HRO.out HBO.out (by decide))
        have HB3 := hid hb3
        have HR3 := hid hr3
        have hap := Tryz.strconv_AppendInt_10 w.heap.size _ nm hok.1 hok.2 v3 _ w3 hown3 hb3.size (by omega) (HT.out.on hb3)
        clear hb3 hr3 hB3 hK3 hbo hown3 hsz3
        refine hap.mono ?_
        rintro e w4 ⟨v4, rfl, hown4, hb4, hk4⟩
        have HO4 := hid hown4
        have HB4 := hid hb4
        have HK4 := hid hk4
        clear hown4 hb4 hk4 hap kc
        go_wp2_with fail
        go_roundw
        case rel =>
          refine ⟨j + 1, by omega, by go_num, hid ⟨?_, ownsRow_others HR3.out HK4.out (by decide), HB3.out.trans HB4.out⟩⟩
          rw [HGO.out]
          simpa [Lib.byteCells, Nat.add_assoc, Nat.add_comm 1] using HO4.out
        case measure => simp [intOf]; omega
      · obtain rfl : j = stack.length + 1 := by omega
        have f1 : decide (((stack.length + 1 : Nat) : Int) < ((stack.length + 1 : Nat) : Int)) = false := decide_eq_false (by omega)
        have hsa := HSA.out
        change sgB _ (stack.length + 1) = _ at hsa
        rw [hsa] at hbo
        have hne : ∀ e, 0 < (Cf.signT ⟨alt, state, stack, exact, e⟩).length := fun e => by unfold Cf.signT Cf.keyT; rw [List.length_cons]; omega
        have hcv := conv_own hbo (hne _)
        have HBR := hid hbr
        clear hbo hro hbr hI hsa hne
        go_wp2_with fail
        go_ret
        exact ⟨rfl, HBR.out⟩
end Go.Proofs.YtnpcjbdolmmaeaaGreatDoor
