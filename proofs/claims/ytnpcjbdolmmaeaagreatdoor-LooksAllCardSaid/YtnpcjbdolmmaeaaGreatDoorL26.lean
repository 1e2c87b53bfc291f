/-
  Looks: LkKi, LkNu, LkSg (texts joined).
-/
import Derived.Test.YtnpcjbdolmmaeaaGreatDoorL01
import Derived.Test.YtnpcjbdolmmaeaaGreatDoorL04
import Derived.Test.YtnpcjbdolmmaeaaGreatDoorL06
import Derived.Test.YtnpcjbdolmmaeaaGreatDoorL07
import Derived.Test.YtnpcjbdolmmaeaaGreatDoorL15
import Derived.Test.YtnpcjbdolmmaeaaGreatDoorL25
namespace Go.Proofs.YtnpcjbdolmmaeaaGreatDoor
open Go.RowKit
set_option maxRecDepth 100000
theorem kind_2 {s : Cf.St} (h : s.alts.length = 0) : Cf.kindS s = 2 := by unfold Cf.kindS; rw [if_pos h]
theorem kind_1 {s : Cf.St} (h : s.alts.length = 1) : Cf.kindS s = 1 := by unfold Cf.kindS; rw [if_neg (by omega), if_pos h]
theorem kind_3 {s : Cf.St} (h0 : ¬ s.alts.length = 0) (h1 : ¬ s.alts.length = 1) (h : s.over = true ∨ Cf.doneS s = true) : Cf.kindS s = 3 := by unfold Cf.kindS; rw [if_neg h0, if_neg h1, if_pos h]
theorem kind_0 {s : Cf.St} (h0 : ¬ s.alts.length = 0) (h1 : ¬ s.alts.length = 1) (h : s.over = false) (h2 : Cf.doneS s = false) : Cf.kindS s = 0 := by unfold Cf.kindS; rw [if_neg h0, if_neg h1, if_neg (by rw [h, h2]; decide)]
def KiP (k : Value) (w : World) (e : Ending) (w' : World) : Prop := e = .returned k ∧ Below w.heap.size w w'
set_option maxHeartbeats 2000000 in
theorem kind_any (s : Cf.St) (CA AA : Option Addr) (w : World) (hr : CfR w (fun _ => False) CA s.configs) (hl : s.configs.length ≤ 1000000) :
    Calls Tryz.prog 90 #[setAgg CA AA s] w (KiP (.int .u8 (Cf.kindS s)) w) := by
  have hbn := below_new w (.cells #[.slice CA s.configs.length s.configs.length, .slice AA s.alts.length s.alts.length, .bool s.over] 43)
  have hxn := heap_alloc_new w (.cells #[.slice CA s.configs.length s.configs.length, .slice AA s.alts.length s.alts.length, .bool s.over] 43)
  obtain ⟨w1, hw1⟩ : ∃ w1, Hid (w.alloc (.cells #[.slice CA s.configs.length s.configs.length, .slice AA s.alts.length s.alts.length, .bool s.over] 43) = w1) := ⟨_, hid rfl⟩
  rw [hw1.out] at hbn hxn
  have hdn := done_any s CA AA w1 (hr.below hbn) hl
  unfold setAgg at hdn ⊢
  have HD := hid hdn
  have HB := hid hbn
  obtain ⟨p0, p1, p2⟩ := cells3 hxn
  clear hbn hxn hr hl hdn
  obtain ⟨n, hn⟩ : ∃ n, s.alts.length = n := ⟨_, rfl⟩
  rw [hn] at p1 hw1 HD ⊢
  by_cases h0 : n = 0
  · subst h0
    rw [kind_2 hn]
    clear hn
    go_enter Tryz.func90, Tryz.ntmps90
    go_wp2_with fail
    rw [hw1.out]
    go_wp2_with fail
    go_ret
    exact ⟨rfl, HB.out⟩
  · have f0 : ((n : Int) == 0) = false := by rw [beq_eq_false_iff_ne]; omega
    have f0n : (n == 0) = false := by rw [beq_eq_false_iff_ne]; exact h0
    by_cases h1 : n = 1
    · subst h1
      rw [kind_1 hn]
      clear hn
      go_enter Tryz.func90, Tryz.ntmps90
      go_wp2_with fail
      rw [hw1.out]
      go_wp2_with fail
      go_ret
      exact ⟨rfl, HB.out⟩
    · have f1 : ((n : Int) == 1) = false := by rw [beq_eq_false_iff_ne]; omega
      have f1n : (n == 1) = false := by rw [beq_eq_false_iff_ne]; exact h1
      have HK3 := hid (fun h => kind_3 (s := s) (by omega) (by omega) h)
      have HK0 := hid (fun h => kind_0 (s := s) (by omega) (by omega) h)
      rcases Bool.eq_false_or_eq_true s.over with ho | ho
      · rw [HK3.out (.inl ho)]
        rw [ho] at p2 hw1 HD
        rw [ho]
        clear ho hn h0 h1 HK0 HK3
        go_enter Tryz.func90, Tryz.ntmps90
        go_wp2_with fail
        rw [hw1.out]
        go_wp2_with fail
        go_ret
        exact ⟨rfl, HB.out⟩
      · obtain ⟨d, hd⟩ : ∃ d, Cf.doneS s = d := ⟨_, rfl⟩
        rw [hd] at HD
        have HKK : Hid (Cf.kindS s = if d = true then 3 else 0) := hid (by
          cases d
          · exact HK0.out ho hd
          · exact HK3.out (.inr hd))
        rw [HKK.out]
        rw [ho] at p2 hw1 HD
        rw [ho]
        clear ho hn h0 h1 HK0 HK3 hd HKK
        cases d
        all_goals (
          go_enter Tryz.func90, Tryz.ntmps90
          go_wp2_with fail
          rw [hw1.out]
          go_wp2_with fail
          go_at_call 15
          refine HD.out.mono ?_
          rintro _ w2 ⟨rfl, hb2⟩
          go_wp2_with fail
          go_ret
          exact ⟨rfl, HB.out.trans (hb2.mono HB.out.size)⟩)
set_option maxHeartbeats 2000000 in
theorem rkind_any (s : Cf.St) (CA AA : Option Addr) (ca aa : Nat) (w : World) (hr : CfR w (fun _ => False) CA s.configs) (hl : s.configs.length ≤ 1000000) :
    Calls Tryz.prog 41 #[setAggR CA ca AA aa s] w (KiP (.int .i64 (Cf.kindS s)) w) := by
  have hbn := below_new w (.cells #[.slice CA s.configs.length ca, .slice AA s.alts.length aa, .bool s.over] 47)
  have hxn := heap_alloc_new w (.cells #[.slice CA s.configs.length ca, .slice AA s.alts.length aa, .bool s.over] 47)
  obtain ⟨w1, hw1⟩ : ∃ w1, Hid (w.alloc (.cells #[.slice CA s.configs.length ca, .slice AA s.alts.length aa, .bool s.over] 47) = w1) := ⟨_, hid rfl⟩
  rw [hw1.out] at hbn hxn
  have hdn := rdone_any s CA AA ca aa w1 (hr.below hbn) hl
  unfold setAggR at hdn ⊢
  have HD := hid hdn
  have HB := hid hbn
  obtain ⟨p0, p1, p2⟩ := cells3 hxn
  clear hbn hxn hr hl hdn
  obtain ⟨n, hn⟩ : ∃ n, s.alts.length = n := ⟨_, rfl⟩
  rw [hn] at p1 hw1 HD ⊢
  by_cases h0 : n = 0
  · subst h0
    rw [kind_2 hn]
    clear hn
    go_enter Tryz.func41, Tryz.ntmps41
    go_wp2_with fail
    rw [hw1.out]
    go_wp2_with fail
    go_ret
    exact ⟨rfl, HB.out⟩
  · have f0 : ((n : Int) == 0) = false := by rw [beq_eq_false_iff_ne]; omega
    have f0n : (n == 0) = false := by rw [beq_eq_false_iff_ne]; exact h0
    by_cases h1 : n = 1
    · subst h1
      rw [kind_1 hn]
      clear hn
      go_enter Tryz.func41, Tryz.ntmps41
      go_wp2_with fail
      rw [hw1.out]
      go_wp2_with fail
      go_ret
      exact ⟨rfl, HB.out⟩
    · have f1 : ((n : Int) == 1) = false := by rw [beq_eq_false_iff_ne]; omega
      have f1n : (n == 1) = false := by rw [beq_eq_false_iff_ne]; exact h1
      have HK3 := hid (fun h => kind_3 (s := s) (by omega) (by omega) h)
      have HK0 := hid (fun h => kind_0 (s := s) (by omega) (by omega) h)
      rcases Bool.eq_false_or_eq_true s.over with ho | ho
      · rw [HK3.out (.inl ho)]
        rw [ho] at p2 hw1 HD
        rw [ho]
        clear ho hn h0 h1 HK0 HK3
        go_enter Tryz.func41, Tryz.ntmps41
        go_wp2_with fail
        rw [hw1.out]
        go_wp2_with fail
        go_ret
        exact ⟨rfl, HB.out⟩
      · obtain ⟨d, hd⟩ : ∃ d, Cf.doneS s = d := ⟨_, rfl⟩
        rw [hd] at HD
        have HKK : Hid (Cf.kindS s = if d = true then 3 else 0) := hid (by
          cases d
          · exact HK0.out ho hd
          · exact HK3.out (.inr hd))
        rw [HKK.out]
        rw [ho] at p2 hw1 HD
        rw [ho]
        clear ho hn h0 h1 HK0 HK3 hd HKK
        cases d
        all_goals (
          go_enter Tryz.func41, Tryz.ntmps41
          go_wp2_with fail
          rw [hw1.out]
          go_wp2_with fail
          go_at_call 16
          refine HD.out.mono ?_
          rintro _ w2 ⟨rfl, hb2⟩
          go_wp2_with fail
          go_ret
          exact ⟨rfl, HB.out.trans (hb2.mono HB.out.size)⟩)
set_option maxHeartbeats 2000000 in
theorem nums_any (l m : List Int) (A B : Option Addr) (ac bc : Nat) (w : World) (hl : l.length ≤ 1000000000000) (hml : m.length ≤ 1000000000000) (ha : Reads w w.heap.size 1 A l.length (l.map (Value.int .i64))) (hb : Reads w w.heap.size 1 B m.length (m.map (Value.int .i64))) :
    Calls Tryz.prog 70 #[.slice A l.length ac, .slice B m.length bc] w (KiP (.bool (decide (l = m))) w) := by
  have HA := hid ha
  have HB := hid hb
  clear ha hb
  by_cases hn : l.length = m.length
  · have HALL : ∀ j, j ≤ l.length → (∀ i (h : i < l.length) (h2 : i < m.length), i < j → l[i] = m[i]) → j = l.length → decide (l = m) = true := fun j hj h e => by
      subst e
      exact decide_eq_true (List.ext_getElem hn fun i h1 h2 => h i h1 h2 h1)
    have HAL := hid HALL
    have HNO : Hid (∀ i (h : i < l.length) (h2 : i < m.length), l[i] ≠ m[i] → decide (l = m) = false) := hid fun i h h2 hne => decide_eq_false fun e => by subst e; exact hne rfl
    have HN := hid hn
    rw [← hn]
    clear HALL hn
    go_enter Tryz.func70, Tryz.ntmps70
    go_wp2_with fail
    go_loopw [5] (fun i wr => ∃ j : Nat, j ≤ l.length ∧ i = .int .i64 (j : Int) ∧ Hid ((∀ i (h : i < l.length) (h2 : i < m.length), i < j → l[i] = m[i]) ∧ Below w.heap.size w wr)) (fun i _ => l.length - (intOf i).toNat)
    case atStart => exact ⟨0, Nat.zero_le _, rfl, hid ⟨fun _ _ _ h => absurd h (Nat.not_lt_zero _), Below.refl _ _⟩⟩
    case round =>
      obtain ⟨j, hj, rfl, HI⟩ := hrel
      by_cases hlt : j < l.length
      · have hlm : j < m.length := by rw [← HN.out]; exact hlt
        obtain ⟨b, off, hA, hbl, hc⟩ := (HA.out.below HI.out.2).2 (by omega)
        obtain ⟨b', off', hB', hbl', hc'⟩ := (HB.out.below HI.out.2).2 (by omega)
        have c0 := hc j (.int .i64 l[j]) (by rw [List.getElem?_map, List.getElem?_eq_getElem hlt]; rfl)
        have c1 := hc' j (.int .i64 m[j]) (by rw [List.getElem?_map, List.getElem?_eq_getElem hlm]; rfl)
        have HX : Hid (l[j] = m[j] → ∀ i (h : i < l.length) (h2 : i < m.length), i < j + 1 → l[i] = m[i]) := hid fun e i h h2 hi => by
          rcases Nat.lt_succ_iff_lt_or_eq.1 hi with h' | rfl
          · exact HI.out.1 i h h2 h'
          · exact e
        have HY := hid (HNO.out j hlt hlm)
        generalize l[j] = x at c0 HX HY
        generalize m[j] = y at c1 HX HY
        have HBW := hid HI.out.2
        rw [hA, hB']
        clear hA hB' hc hc'
        by_cases he : x = y
        · have f1 : (x != y) = false := by simp [he]
          have f2 : (y != y) = false := by simp
          have HE := hid he
          clear he
          go_upto_region 6 with fail
          go_quiet (fail)
          go_wp2_with fail
          go_roundw
          case rel => exact ⟨j + 1, hlt, by go_num, hid ⟨HX.out HE.out, below_drewN HBW.out _⟩⟩
          case measure => simp [intOf]; omega
        · have f1 : (x != y) = true := by simp [he]
          have HF := hid (HY.out he)
          clear he
          go_upto_region 6 with fail
          go_quiet (fail)
          go_wp2_with fail
          go_ret
          exact ⟨by rw [HF.out]; rfl, below_drewN HBW.out _⟩
      · have hje : j = l.length := by omega
        subst hje
        have HF := hid (HAL.out _ (Nat.le_refl _) HI.out.1 rfl)
        go_wp2_with fail
        go_ret
        exact ⟨by rw [HF.out]; rfl, HI.out.2⟩
  · have f1 : ((l.length : Int) != (m.length : Int)) = true := by
      rw [bne_iff_ne]; omega
    have f2 : (l.length != m.length) = true := by rw [bne_iff_ne]; exact hn
    have HF : Hid (decide (l = m) = false) := hid (decide_eq_false fun e => hn (by rw [e]))
    clear hn
    go_enter Tryz.func70, Tryz.ntmps70
    go_wp2_with fail
    go_ret
    exact ⟨by rw [HF.out]; rfl, Below.refl _ _⟩
end Go.Proofs.YtnpcjbdolmmaeaaGreatDoor
namespace Go.Proofs.YtnpcjbdolmmaeaaGreatDoor
open Go.RowKit
set_option maxRecDepth 100000
theorem kept_push {w w' : World} {base n : Nat} {v : Value} {xs : List Value} (hown : w.ownsRow base 5 1 v n xs) (ho : Only (fun k => v.ownBlock = some k) w w') : Lib.OthersKept 5 none w w' := fun k o hk _ hne =>
  (ho.block k (heap_lt hk) (fun e => by
    obtain ⟨cs, hc⟩ := ownC_cells (OwnC.of hown) e
    rw [hk] at hc
    injection hc with hc
    exact hne cs (0, 0) hc)).trans hk
def TxA (w : World) (base : Nat) (v : Value) (l : List UInt8) : Prop := w.ownsRow base 5 1 v l.length (Lib.byteCells l)
def NuP (base : Nat) (l : List UInt8) (w : World) (e : Ending) (w' : World) : Prop := ∃ v', e = .returned v' ∧ TxA w' base v' l ∧ Below base w w' ∧ Lib.OthersKept 5 none w w'
abbrev TabB (base : Nat) (w : World) : Prop := Lib.TabBelow Tryz.prog base w "internal/strconv.uint64pow10" .u64 Lib.pow10Tab
set_option maxHeartbeats 2000000 in
theorem number_any (base : Nat) (l : List UInt8) (n : Int) (v : Value) (w : World) (hown : TxA w base v l) (hb : base ≤ w.heap.size) (hn : i64 n) (hl : l.length ≤ 10000000000) (hT : TabB base w) :
    Calls Tryz.prog 106 #[v, .int .i64 n] w (NuP base (l ++ Cf.numT n) w) := by
  obtain ⟨j0, hj, hz0, hz1, hz2⟩ := info_parts infoU8
  have HAI := hid (Tryz.strconv_AppendInt_10 base l.length n hn.1 hn.2 v _ w hown hb (by omega) hT)
  have hla := Lib.itoa_length_le n hn.1 hn.2
  obtain ⟨A0, c0, rfl⟩ := row_form hown
  clear hown hT
  go_enter Tryz.func106, Tryz.ntmps106
  go_wp2_with fail
  go_at_call 93
  refine HAI.out.mono ?_
  rintro e w1 ⟨v1, rfl, hown1, hb1, hk1⟩
  obtain ⟨A1, c1, rfl⟩ := row_form hown1
  have hsz := hb1.size
  have HB1 := hid hb1
  have HK1 := hid hk1
  have HO1 := hid hown1
  have hle : (Lib.itoa n).length ≤ 21 := by omega
  generalize hm : l.length + (Lib.itoa n).length = m at hown1 HO1
  have HM := hid hm
  have hmle : m ≤ 20000000000 := by omega
  clear hb1 hk1 HAI hm hla
  go_wp2_with (at_builtin; refine wpList_push4 w1 rfl _ _ 167 rfl base 5 j0 _ 1 1 Tryz.underlying167 hj hz0 hz1 hz2 rfl (by omega) (.slice A1 m c1) m _ rfl hown1 [.int .u8 32] 1 w1.heap.size rfl rfl rfl (by simp [Value.oneCell']) Nat.zero_lt_one (by simp only [maxLen]; omega) (by omega) (by omega) ?_; intro g cg w2 hown2 hg2 ho2)
  go_ret
  refine ⟨_, rfl, ?_, HB1.out.trans (ho2.below' (fun k hk => (HO1.out.lt k hk).1) (by omega)), HK1.out.trans (kept_push HO1.out ho2)⟩
  unfold TxA
  have e1 : (l ++ Cf.numT n).length = m + 1 := by unfold Cf.numT; rw [List.length_append, List.length_append, ← HM.out]; rfl
  have e2 : Lib.byteCells (l ++ Cf.numT n) = Lib.byteCells l ++ Lib.byteCells (Lib.itoa n) ++ [.int .u8 32] := by unfold Cf.numT Lib.byteCells; simp
  rw [e1, e2]
  exact hown2
end Go.Proofs.YtnpcjbdolmmaeaaGreatDoor
namespace Go.Proofs.YtnpcjbdolmmaeaaGreatDoor
open Go.RowKit
set_option maxRecDepth 100000
theorem nums_take (l : List Int) (j : Nat) (h : j < l.length) : Cf.numsT (l.take (j + 1)) = Cf.numsT (l.take j) ++ Cf.numT l[j] := by
  unfold Cf.numsT
  rw [List.take_succ_eq_append_getElem h, List.flatMap_append]; simp
theorem num_len {n : Int} (h : i64 n) : (Cf.numT n).length ≤ 22 := by
  have := Lib.itoa_length_le n h.1 h.2
  unfold Cf.numT
  rw [List.length_append]
  simp
  omega
theorem nums_len {l : List Int} (h : ∀ n ∈ l, i64 n) : (Cf.numsT l).length ≤ l.length * 22 := Cf.flatMap_len Cf.numT 22 l fun n hn => num_len (h n hn)
theorem flags_64 (x : Cf.Cfg) : i64 (Cf.flagsC x) := by
  unfold Cf.flagsC i64
  cases x.exact <;> cases x.ended <;> simp
theorem cfg_len {x : Cf.Cfg} (h0 : i64 x.alt) (h1 : i64 x.state) (h2 : ∀ n ∈ x.stack, i64 n) (h3 : x.stack.length ≤ 10000) : (Cf.cfgT x).length ≤ 300000 := by
  have a0 := num_len (flags_64 x)
  have a1 := num_len h0
  have a2 := num_len h1
  have a3 := nums_len h2
  unfold Cf.cfgT
  simp only [List.length_append, List.length_cons, List.length_nil]
  omega
structure SgOk (s : Cf.St) : Prop where
  alts : ∀ a ∈ s.alts, i64 a
  alen : s.alts.length ≤ 1000000
  clen : s.configs.length ≤ 4000
  cfg : ∀ x ∈ s.configs, i64 x.alt ∧ i64 x.state ∧ (∀ n ∈ x.stack, i64 n) ∧ x.stack.length ≤ 10000
def SsP (s : Cf.St) (w : World) (e : Ending) (w' : World) : Prop := e = .returned (.string ⟨(Cf.signS s).toArray⟩) ∧ Below w.heap.size w w'
set_option maxHeartbeats 8000000 in
theorem signS_any (s : Cf.St) (CA AA : Option Addr) (w : World) (hr : CfR w (fun _ => False) CA s.configs) (ha : Reads w w.heap.size 1 AA s.alts.length (s.alts.map (Value.int .i64))) (K : SgOk s) (hT : PT w) :
    Calls Tryz.prog 89 #[setAgg CA AA s] w (SsP s w) := by
  obtain ⟨j0, hij, hz0, hz1, hz2⟩ := info_parts infoU8
  have hbn := below_new w (.cells #[.slice CA s.configs.length s.configs.length, .slice AA s.alts.length s.alts.length, .bool s.over] 43)
  have hxn := heap_alloc_new w (.cells #[.slice CA s.configs.length s.configs.length, .slice AA s.alts.length s.alts.length, .bool s.over] 43)
  obtain ⟨w1, hw1⟩ : ∃ w1, Hid (w.alloc (.cells #[.slice CA s.configs.length s.configs.length, .slice AA s.alts.length s.alts.length, .bool s.over] 43) = w1) := ⟨_, hid rfl⟩
  rw [hw1.out] at hbn hxn
  have hki := kind_any s CA AA w1 (hr.below hbn) (by have := K.clen; omega)
  unfold setAgg at hki ⊢
  have HKI := hid hki
  have HK := hid K
  have HR := hid hr
  have HA := hid ha
  have HB := hid hbn
  have HX := hid hxn
  have HT := hid (Lib.tabBelow_of_tabIs hT)
  have hkl := Cf.kindS_le s
  obtain ⟨p0, p1, p2⟩ := cells3 hxn
  clear hki K hr ha hbn hxn hT
  obtain ⟨k, hk⟩ : ∃ k : Nat, Cf.kindS s = (k : Int) := ⟨(Cf.kindS s).toNat, by omega⟩
  have hk3 : k ≤ 3 := by omega
  have hkr : (UInt8.ofNat k).toNat = k := by simp [UInt8.toNat_ofNat']; omega
  have HSG : Hid (Cf.signS s = UInt8.ofNat k :: (if k = 0 then s.configs.flatMap Cf.cfgT else Cf.numsT s.alts)) := hid (by
    unfold Cf.signS
    rw [hk, Int.toNat_natCast]
    by_cases h0 : k = 0
    · rw [if_pos (by omega), if_pos h0]
    · rw [if_neg (by omega), if_neg h0])
  rw [hk] at HKI
  have HKR := hid hkr
  clear hk hkl hkr
  by_cases h0 : k = 0
  · subst h0
    rw [if_pos rfl] at HSG
    go_enter Tryz.func89, Tryz.ntmps89
    go_wp2_with fail
    rw [hw1.out]
    clear hw1
    go_wp2_with fail
    go_at_call 90
    refine HKI.out.mono ?_
    rintro _ w2 ⟨rfl, hb2⟩
    have hx2 := (hb2.block w.heap.size (heap_lt HX.out)).trans HX.out
    have HB2 := hid (HB.out.trans (hb2.mono HB.out.size))
    clear hb2 p0 p1 p2
    have hxl := heap_lt hx2
    have q0 : (w2.alloc (.cells #[.int .u8 0] 5)).cell? ⟨w.heap.size, 0, none⟩ = some (.slice CA s.configs.length s.configs.length) := ((below_new w2 _).cell (p := ⟨w.heap.size, 0, none⟩) hxl).trans (by rw [Lib.cell_of_heap hx2]; rfl)
    have hown := World.ownsRow_lit (base := w.heap.size) (size := 1) (e := 5) w2 #[.int .u8 0] 1 HB2.out.size (by decide) rfl
    have hb3 := HB2.out.trans ((below_new w2 (.cells #[.int .u8 0] 5)).mono HB2.out.size)
    have HI0 := hid (And.intro (show TxA (w2.alloc (.cells #[.int .u8 0] 5)) w.heap.size (.slice (some ⟨w2.heap.size, 0, none⟩) 1 1) [0] from hown) hb3)
    clear hown hb3 hx2
    go_upto_block 1 with fail
    have hcl := HK.out.clen
    go_wp2_with fail
    go_loopw [4, 34] (fun o i wr => ∃ (j : Nat) (v : Value), v = o ∧ j ≤ s.configs.length ∧ i = .int .i64 (j : Int) ∧ Hid (TxA wr w.heap.size v (0 :: (s.configs.take j).flatMap Cf.cfgT) ∧ Below w.heap.size w wr)) (fun _ i _ => s.configs.length - (intOf i).toNat)
    case atStart => exact ⟨0, _, rfl, Nat.zero_le _, rfl, hid ⟨HI0.out.1, HI0.out.2⟩⟩
    case round =>
      clear HI0 q0
      obtain ⟨j, v, rfl, hj, rfl, HI⟩ := hrel
      by_cases hlt : j < s.configs.length
      · have HLN := hid (show ((s.configs.take j).flatMap Cf.cfgT).length ≤ 1200000000 by
          have h1 := Cf.flatMap_len Cf.cfgT 300000 (s.configs.take j) (fun x hx => by
            obtain ⟨c0, c1, c2, c3⟩ := HK.out.cfg x (List.mem_of_mem_take hx)
            exact cfg_len c0 c1 c2 c3)
          rw [List.length_take] at h1
          have := Nat.min_le_right j s.configs.length
          have h2 : min j s.configs.length * 300000 ≤ 4000 * 300000 := Nat.mul_le_mul_right _ (by omega)
          omega)
        have HTK := hid (show (s.configs.take (j + 1)).flatMap Cf.cfgT = (s.configs.take j).flatMap Cf.cfgT ++ Cf.cfgT s.configs[j] by
          rw [List.take_succ_eq_append_getElem hlt, List.flatMap_append]; simp)
        generalize (s.configs.take j).flatMap Cf.cfgT = L at HI HLN HTK
        have HCX := hid (HK.out.cfg _ (List.getElem_mem hlt))
        obtain ⟨b, off, B, cb, hA, hbl, hcap, hfar⟩ := HR.out.far j hlt
        generalize s.configs[j] = x at hcap hfar HTK HCX
        obtain ⟨hro, r0, r1, r2, r3, r4⟩ := hfar wr HI.out.2
        have HFAR := hid hfar
        have hbx := below_new wr (.cells #[.int .i64 x.alt, .int .i64 x.state, .slice B x.stack.length cb, .bool x.exact, .bool x.ended] 89)
        have hxx := heap_alloc_new wr (.cells #[.int .i64 x.alt, .int .i64 x.state, .slice B x.stack.length cb, .bool x.exact, .bool x.ended] 89)
        obtain ⟨wa, hwa⟩ : ∃ wa, Hid (wr.alloc (.cells #[.int .i64 x.alt, .int .i64 x.state, .slice B x.stack.length cb, .bool x.exact, .bool x.ended] 89) = wa) := ⟨_, hid rfl⟩
        rw [hwa.out] at hbx hxx
        have HBX := hid (HI.out.2.trans (hbx.mono HI.out.2.size))
        have HXX := hid hxx
        have HTX := hid (show TxA wa w.heap.size v (0 :: L) from ownsRow_below HI.out.1 hbx (Nat.le_refl _))
        have HA2 := hid hA
        rw [hA]
        clear hro hfar hcap hbx hxx hA
        go_upto_region 13 with fail
        rw [hwa.out]
        clear hwa r0 r1 r2 r3 r4
        have k3 : wa.cell? ⟨wr.heap.size, 3, none⟩ = some (.bool x.exact) := by rw [Lib.cell_of_heap HXX.out]; rfl
        have k4 : wa.cell? ⟨wr.heap.size, 4, none⟩ = some (.bool x.ended) := by rw [Lib.cell_of_heap HXX.out]; rfl
        have HFL : Hid (Cf.flagsC x = (if x.exact = true then 1 else 0) + (if x.ended = true then 2 else 0)) := hid rfl
        go_upto_region 14 with fail
        go_cut [39] from 38 to 45 (fun c wx => ∃ ce, c = .bool ce ∧ Hid (ce = x.exact ∧ wx = wa))
        case first =>
          go_wp2_with fail
          go_meet
          exact ⟨x.exact, rfl, hid ⟨rfl, rfl⟩⟩
        case rest =>
          obtain ⟨ce, rfl, hw⟩ := hcut
          rw [hw.out.2]
          have HCE := hid hw.out.1
          clear hw
          go_upto_if 39 with fail
          go_cut [9] from 38 to 45 (fun c wx => c = .int .i64 (if ce = true then 1 else 0) ∧ Hid (wx = wa))
          case first =>
            cases ce
            all_goals (
              go_wp2_with fail
              go_meet
              exact ⟨by simp, hid rfl⟩)
          case rest =>
          obtain ⟨rfl, hw⟩ := hcut
          rw [hw.out]
          rw [← HCE.out] at HFL
          clear hw
          generalize hfe : (if ce = true then (1 : Int) else 0) = fe at HFL
          have HFE := hid (show 0 ≤ fe ∧ fe ≤ 1 by rw [← hfe]; split <;> omega)
          have hwrap : IntKind.i64.wrap (fe + 2) = fe + 2 := w64 (by have := HFE.out; omega) (by have := HFE.out; omega)
          clear hfe
          go_upto_region 16 with fail
          go_cut [43] from 38 to 45 (fun c wx => ∃ ce, c = .bool ce ∧ Hid (ce = x.ended ∧ wx = wa))
          case first =>
            go_wp2_with fail
            go_meet
            exact ⟨x.ended, rfl, hid ⟨rfl, rfl⟩⟩
          case rest =>
          obtain ⟨cd, rfl, hw⟩ := hcut
          rw [hw.out.2]
          have HCD := hid hw.out.1
          clear hw
          go_upto_if 43 with fail
          go_cut [9] from 38 to 45 (fun c wx => c = .int .i64 (fe + (if cd = true then 2 else 0)) ∧ Hid (wx = wa))
          case first =>
            cases cd
            all_goals (
              go_wp2_with fail
              go_meet
              exact ⟨by simp, hid rfl⟩)
          case rest =>
          obtain ⟨rfl, hw⟩ := hcut
          rw [← HCD.out] at HFL
          rw [hw.out, ← HFL.out]
          clear hw hwrap
          obtain ⟨fl, hfl⟩ : ∃ fl, Cf.flagsC x = fl := ⟨_, rfl⟩
          have HFV := hid hfl
          have hnf := num_len (flags_64 x)
          have hna := num_len HCX.out.1
          have hns := num_len HCX.out.2.1
          rw [hfl] at hnf
          go_upto_region 18 with fail
          rw [hfl]
          clear hfl k3 k4
          obtain ⟨wo, hwo⟩ : ∃ wo, wo = wr := ⟨_, rfl⟩
          subst hwo
          obtain ⟨ws, hws⟩ : ∃ ws, Hid (wa.drew = ws) := ⟨_, hid rfl⟩
          have hbs : Below wa.heap.size wa ws := by rw [← hws.out]; exact (Below.refl _ _).drew
          have HXS := hid ((hbs.block _ (heap_lt HXX.out)).trans HXX.out)
          have HTS := hid (show TxA ws w.heap.size v (0 :: L) from ownsRow_below HTX.out hbs (Nat.le_refl _))
          have HBS := hid (HBX.out.trans (hbs.mono HBX.out.size))
          have HSK := hid (fun (u : World) (h : u.heap[wo.heap.size]? = some (.cells #[.int .i64 x.alt, .int .i64 x.state, .slice B x.stack.length cb, .bool x.exact, .bool x.ended] 89)) => (show u.cell? ⟨wo.heap.size, 0, none⟩ = some (.int .i64 x.alt) ∧ u.cell? ⟨wo.heap.size, 1, none⟩ = some (.int .i64 x.state) from ⟨by rw [Lib.cell_of_heap h]; rfl, by rw [Lib.cell_of_heap h]; rfl⟩))
          have fl64 : i64 fl := by rw [← HFV.out]; exact flags_64 x
          clear hbs
          refine wp_region_late (l := 10) (S := fun w' => w'.cell? ⟨wo.heap.size, 0, none⟩ = some (.int .i64 x.alt) ∧ w'.cell? ⟨wo.heap.size, 1, none⟩ = some (.int .i64 x.state)) (by kernel_rfl) (by rw [hws.out]; exact HSK.out ws HXS.out) (fun hHeld => ?_)
          rw [hws.out] at hHeld ⊢
          refine wpAnyF_take (i := 0) (v) rfl (by kernel_rfl) (by kernel_rfl) (by kernel_rfl) (by kernel_rfl) (fun _ _ _ h => h) hHeld (by rfl) (fun w' hSw => ?_) ?_
          · obtain ⟨p0, p1⟩ := hSw; go_simp
          simp only [Act.put, List.getElem_toArray, List.getElem_cons_zero, List.setIfInBounds_toArray, List.set_cons_zero, List.set_cons_succ]
          refine wpAnyF_take (i := 1) (.int .i64 fl) rfl (by kernel_rfl) (by kernel_rfl) (by kernel_rfl) (by kernel_rfl) (fun _ _ _ h => h) hHeld (by rfl) (fun w' hSw => ?_) ?_
          · obtain ⟨p0, p1⟩ := hSw; go_simp
          try simp only [Act.put, List.getElem_toArray, List.getElem_cons_zero, List.getElem_cons_succ, List.setIfInBounds_toArray, List.set_cons_zero, List.set_cons_succ]
          refine wpAnyF_take (i := 3) (.pointer (some ⟨wo.heap.size, 0, none⟩)) rfl (by kernel_rfl) (by kernel_rfl) (by kernel_rfl) (by kernel_rfl) (fun _ _ _ h => h) hHeld (by rfl) (fun w' hSw => ?_) ?_
          · obtain ⟨p0, p1⟩ := hSw; go_simp
          try simp only [Act.put, List.getElem_toArray, List.getElem_cons_zero, List.getElem_cons_succ, List.setIfInBounds_toArray, List.set_cons_zero, List.set_cons_succ]
          refine wpAnyF_take (i := 4) (.int .i64 x.alt) rfl (by kernel_rfl) (by kernel_rfl) (by kernel_rfl) (by kernel_rfl) (fun _ _ _ h => h) hHeld (by rfl) (fun w' hSw => ?_) ?_
          · obtain ⟨p0, p1⟩ := hSw; go_simp
          try simp only [Act.put, List.getElem_toArray, List.getElem_cons_zero, List.getElem_cons_succ, List.setIfInBounds_toArray, List.set_cons_zero, List.set_cons_succ]
          refine wpAnyF_take (i := 6) (.pointer (some ⟨wo.heap.size, 1, none⟩)) rfl (by kernel_rfl) (by kernel_rfl) (by kernel_rfl) (by kernel_rfl) (fun _ _ _ h => h) hHeld (by rfl) (fun w' hSw => ?_) ?_
          · obtain ⟨p0, p1⟩ := hSw; go_simp
          try simp only [Act.put, List.getElem_toArray, List.getElem_cons_zero, List.getElem_cons_succ, List.setIfInBounds_toArray, List.set_cons_zero, List.set_cons_succ]
          refine wpAnyF_take (i := 7) (.int .i64 x.state) rfl (by kernel_rfl) (by kernel_rfl) (by kernel_rfl) (by kernel_rfl) (fun _ _ _ h => h) hHeld (by rfl) (fun w' hSw => ?_) ?_
          · obtain ⟨p0, p1⟩ := hSw; go_simp
          try simp only [Act.put, List.getElem_toArray, List.getElem_cons_zero, List.getElem_cons_succ, List.setIfInBounds_toArray, List.set_cons_zero, List.set_cons_succ]
          refine wpAnyF_step 2 (by kernel_rfl) rfl (fun K hK => ?_)
          go_simp
          go_at_call 106
          refine (number_any w.heap.size (0 :: L) fl v ws HTS.out HBS.out.size (by first | exact fl64 | exact HCX.out.1 | exact HCX.out.2.1) (by have := HLN.out; rw [List.length_cons]; omega) (HT.out.on HBS.out)).mono ?_
          rintro _ w1s ⟨v1, rfl, ht1, hb1, hk1⟩
          have HT1 := hid ht1
          have HB1 := hid (HBS.out.trans hb1)
          have HX1 := hid (hk1 _ _ HXS.out (by simp) (fun c fz e => by injection e with _ e2 _; exact absurd e2 (by decide)))
          clear ht1 hb1 hk1
          refine hK _ _ (HSK.out _ HX1.out) (fun hHeld => ?_)
          clear hK
          clear K
          try simp only [Act.put, List.getElem_toArray, List.getElem_cons_zero, List.getElem_cons_succ, List.setIfInBounds_toArray, List.set_cons_zero, List.set_cons_succ]
          refine wpAnyF_step 5 (by kernel_rfl) rfl (fun K hK => ?_)
          go_simp
          go_at_call 106
          refine (number_any w.heap.size ((0 :: L) ++ Cf.numT fl) x.alt v1 w1s HT1.out HB1.out.size (by first | exact fl64 | exact HCX.out.1 | exact HCX.out.2.1) (by have := HLN.out; simp only [List.length_append, List.length_cons]; omega) (HT.out.on HB1.out)).mono ?_
          rintro _ w2s ⟨v2, rfl, ht2, hb2, hk2⟩
          have HT2 := hid ht2
          have HB2 := hid (HB1.out.trans hb2)
          have HX2 := hid (hk2 _ _ HX1.out (by simp) (fun c fz e => by injection e with _ e2 _; exact absurd e2 (by decide)))
          clear ht2 hb2 hk2
          refine hK _ _ (HSK.out _ HX2.out) (fun hHeld => ?_)
          clear hK
          clear K
          try simp only [Act.put, List.getElem_toArray, List.getElem_cons_zero, List.getElem_cons_succ, List.setIfInBounds_toArray, List.set_cons_zero, List.set_cons_succ]
          refine wpAnyF_step 8 (by kernel_rfl) rfl (fun K hK => ?_)
          go_simp
          go_at_call 106
          refine (number_any w.heap.size (((0 :: L) ++ Cf.numT fl) ++ Cf.numT x.alt) x.state v2 w2s HT2.out HB2.out.size (by first | exact fl64 | exact HCX.out.1 | exact HCX.out.2.1) (by have := HLN.out; simp only [List.length_append, List.length_cons]; omega) (HT.out.on HB2.out)).mono ?_
          rintro _ w3 ⟨v3, rfl, ht3, hb3, hk3⟩
          have HT3 := hid ht3
          have HB3 := hid (HB2.out.trans hb3)
          have HX3 := hid (hk3 _ _ HX2.out (by simp) (fun c fz e => by injection e with _ e2 _; exact absurd e2 (by decide)))
          clear ht3 hb3 hk3
          refine hK _ _ (HSK.out _ HX3.out) (fun hHeld => ?_)
          clear hK
          clear K
          try simp only [Act.put, List.getElem_toArray, List.getElem_cons_zero, List.getElem_cons_succ, List.setIfInBounds_toArray, List.set_cons_zero, List.set_cons_succ]
          refine wpAnyF_take (i := 9) (v3) rfl (by kernel_rfl) (by kernel_rfl) (by kernel_rfl) (by kernel_rfl) (fun _ _ _ h => h) hHeld (by rfl) (fun w' hSw => ?_) ?_
          · obtain ⟨p0, p1⟩ := hSw; go_simp
          try simp only [Act.put, List.getElem_toArray, List.getElem_cons_zero, List.getElem_cons_succ, List.setIfInBounds_toArray, List.set_cons_zero, List.set_cons_succ]
          refine ⟨by kernel_rfl, ?_⟩
          clear hHeld
          have k2 : w3.cell? ⟨wo.heap.size, 2, none⟩ = some (.slice B x.stack.length cb) := by rw [Lib.cell_of_heap HX3.out]; rfl
          have hstl := HCX.out.2.2.2
          obtain ⟨HD, hhd⟩ : ∃ HD, HD = (((0 :: L) ++ Cf.numT fl) ++ Cf.numT x.alt) ++ Cf.numT x.state := ⟨_, rfl⟩
          have hdl : HD.length ≤ 1200000100 := by
            have := HLN.out
            rw [hhd]
            simp only [List.length_append, List.length_cons]
            omega
          have HHD := hid hhd
          rw [← hhd] at HT3
          clear hhd
          have HI3 := hid (And.intro HT3.out HB3.out)
          go_wp2_with fail
          clear k2
          go_loopw [4, 58] (fun o i wi => ∃ (q : Nat) (u : Value), u = o ∧ q ≤ x.stack.length ∧ i = .int .i64 (q : Int) ∧ Hid (TxA wi w.heap.size u (HD ++ Cf.numsT (x.stack.take q)) ∧ Below w.heap.size w wi)) (fun _ i _ => x.stack.length - (intOf i).toNat)
          case atStart => exact ⟨0, _, rfl, Nat.zero_le _, rfl, hid ⟨by rw [List.take_zero]; show TxA w3 w.heap.size v3 (HD ++ []); rw [List.append_nil]; exact HI3.out.1, HI3.out.2⟩⟩
          case round =>
            rename World => wi
            obtain ⟨q, u, rfl, hq, rfl, HJ⟩ := hrel
            have HQL := hid (show (HD ++ Cf.numsT (x.stack.take q)).length ≤ 1300000000 by
              have h1 := nums_len (l := x.stack.take q) (fun n hn => HCX.out.2.2.1 n (List.mem_of_mem_take hn))
              rw [List.length_take] at h1
              rw [List.length_append]
              omega)
            by_cases hql : q < x.stack.length
            · obtain ⟨hro, _⟩ := HFAR.out wi HJ.out.2
              obtain ⟨sb, so, hB, hsl, _, hsc⟩ := hro.2 (by omega)
              have c0 := hsc q (.int .i64 x.stack[q]) (by rw [List.getElem?_map, List.getElem?_eq_getElem hql]; rfl)
              have HNT := hid (nums_take x.stack q hql)
              have hn64 := HCX.out.2.2.1 _ (List.getElem_mem hql)
              generalize x.stack[q] = nn at c0 HNT hn64
              rw [hB]
              clear hro hsc hB
              go_wp2_with fail
              go_at_call 106
              refine (number_any w.heap.size _ nn u wi HJ.out.1 HJ.out.2.size hn64 (by have := HQL.out; omega) (HT.out.on HJ.out.2)).mono ?_
              rintro _ wj ⟨u2, rfl, ht, hb, hk⟩
              have HFIN := hid (And.intro ht (HJ.out.2.trans hb))
              clear ht hb hk c0
              go_wp2_with fail
              go_roundw
              case rel => exact ⟨q + 1, _, rfl, hql, by go_num, hid ⟨by rw [HNT.out, ← List.append_assoc]; exact HFIN.out.1, HFIN.out.2⟩⟩
              case measure => simp [intOf]; omega
            · have hqe : q = x.stack.length := by omega
              subst hqe
              rw [List.take_length] at HJ HQL
              have hown := HJ.out.1
              have hwz := HJ.out.2.size
              have hll := HQL.out
              unfold TxA at hown
              obtain ⟨A5, c5, rfl⟩ := row_form hown
              generalize hM : HD ++ Cf.numsT x.stack = M at hown hll
              have HM := hid hM
              have HJB := hid HJ.out.2
              have HOW := hid hown
              clear HJ HQL hM
              go_wp2_with (at_builtin; refine wpList_push4 wi rfl _ _ 167 rfl w.heap.size 5 j0 _ 1 1 Tryz.underlying167 hij hz0 hz1 hz2 rfl (by omega) (.slice A5 M.length c5) M.length _ rfl hown [.int .u8 59] 1 wi.heap.size rfl rfl rfl (by simp [Value.oneCell']) Nat.zero_lt_one (by simp only [maxLen]; omega) (by omega) (by omega) ?_; intro g cg w9 hown9 hg9 ho9)
              go_roundw
              case rel =>
                refine ⟨j + 1, _, rfl, hlt, by go_num, hid ⟨?_, HJB.out.trans (ho9.below' (fun k hk => (HOW.out.lt k hk).1) hwz)⟩⟩
                rw [HTK.out]
                have e1 : 0 :: (L ++ Cf.cfgT x) = M ++ [59] := by
                  rw [← HM.out, HHD.out, ← HFV.out]
                  unfold Cf.cfgT
                  simp only [List.append_assoc, List.cons_append]
                unfold TxA
                rw [e1, List.length_append]
                have e2 : Lib.byteCells (M ++ [59]) = Lib.byteCells M ++ [.int .u8 59] := by unfold Lib.byteCells; simp
                rw [e2]
                exact hown9
              case measure => simp [intOf]; omega
      · have hje : j = s.configs.length := by omega
        subst hje
        rw [List.take_length] at HI
        have hcv := conv_own HI.out.1 (by rw [List.length_cons]; omega)
        have HBF := hid HI.out.2
        have HSF : Hid (Cf.signS s = 0 :: s.configs.flatMap Cf.cfgT) := hid HSG.out
        clear HI
        go_wp2_with fail
        go_ret
        exact ⟨by rw [HSF.out]; rfl, HBF.out⟩
  · rw [if_neg h0] at HSG
    have f1 : ((k : Int) != 0) = true := by rw [bne_iff_ne]; omega
    have f1n : (k != 0) = true := by rw [bne_iff_ne]; exact h0
    have hal := HK.out.alen
    clear h0
    go_enter Tryz.func89, Tryz.ntmps89
    go_wp2_with fail
    rw [hw1.out]
    clear hw1
    go_wp2_with fail
    go_at_call 90
    refine HKI.out.mono ?_
    rintro _ w2 ⟨rfl, hb2⟩
    have hx2 := (hb2.block w.heap.size (heap_lt HX.out)).trans HX.out
    have HB2 := hid (HB.out.trans (hb2.mono HB.out.size))
    clear hb2 p0 p1 p2
    have hxl := heap_lt hx2
    have q1 : (w2.alloc (.cells #[.int .u8 (k : Int)] 5)).cell? ⟨w.heap.size, 1, none⟩ = some (.slice AA s.alts.length s.alts.length) := ((below_new w2 _).cell (p := ⟨w.heap.size, 1, none⟩) hxl).trans (by rw [Lib.cell_of_heap hx2]; rfl)
    have hown := World.ownsRow_lit (base := w.heap.size) (size := 1) (e := 5) w2 #[.int .u8 (k : Int)] 1 HB2.out.size (by decide) rfl
    have hb3 := HB2.out.trans ((below_new w2 (.cells #[.int .u8 (k : Int)] 5)).mono HB2.out.size)
    have HI0 := hid (And.intro (show TxA (w2.alloc (.cells #[.int .u8 (k : Int)] 5)) w.heap.size (.slice (some ⟨w2.heap.size, 0, none⟩) 1 1) [UInt8.ofNat k] by
      unfold TxA
      rw [show Lib.byteCells [UInt8.ofNat k] = [.int .u8 (k : Int)] by show [Value.int .u8 ((UInt8.ofNat k).toNat : Int)] = _; rw [HKR.out]]
      exact hown) hb3)
    clear hown hb3 hx2
    go_upto_block 0 with fail
    go_wp2_with fail
    go_loopw [4, 21] (fun o i wr => ∃ (j : Nat) (v : Value), v = o ∧ j ≤ s.alts.length ∧ i = .int .i64 (j : Int) ∧ Hid (TxA wr w.heap.size v (UInt8.ofNat k :: Cf.numsT (s.alts.take j)) ∧ Below w.heap.size w wr)) (fun _ i _ => s.alts.length - (intOf i).toNat)
    case atStart => exact ⟨0, _, rfl, Nat.zero_le _, rfl, hid ⟨HI0.out.1, HI0.out.2⟩⟩
    case round =>
      clear HI0 q1
      obtain ⟨j, v, rfl, hj, rfl, HI⟩ := hrel
      by_cases hlt : j < s.alts.length
      · obtain ⟨ab, ao, hA, habl, hac⟩ := (HA.out.below HI.out.2).2 (by omega)
        have c0 := hac j (.int .i64 s.alts[j]) (by rw [List.getElem?_map, List.getElem?_eq_getElem hlt]; rfl)
        have HNT := hid (nums_take s.alts j hlt)
        have hn64 := HK.out.alts _ (List.getElem_mem hlt)
        have HQL := hid (show (UInt8.ofNat k :: Cf.numsT (s.alts.take j)).length ≤ 30000000 by
          have h1 := nums_len (l := s.alts.take j) (fun n hn => HK.out.alts n (List.mem_of_mem_take hn))
          rw [List.length_take] at h1
          rw [List.length_cons]
          omega)
        generalize s.alts[j] = nn at c0 HNT hn64
        rw [hA]
        clear hac hA
        go_wp2_with fail
        go_at_call 106
        refine (number_any w.heap.size _ nn v wr HI.out.1 HI.out.2.size hn64 (by have := HQL.out; omega) (HT.out.on HI.out.2)).mono ?_
        rintro _ wj ⟨u2, rfl, ht, hb, hk⟩
        have HFIN := hid (And.intro ht (HI.out.2.trans hb))
        clear ht hb hk c0
        go_wp2_with fail
        go_roundw
        case rel => exact ⟨j + 1, _, rfl, hlt, by go_num, hid ⟨by rw [HNT.out, ← List.cons_append]; exact HFIN.out.1, HFIN.out.2⟩⟩
        case measure => simp [intOf]; omega
      · have hje : j = s.alts.length := by omega
        subst hje
        rw [List.take_length] at HI
        have hcv := conv_own HI.out.1 (by rw [List.length_cons]; omega)
        have HBF := hid HI.out.2
        clear HI
        go_wp2_with fail
        go_ret
        exact ⟨by rw [HSG.out]; rfl, HBF.out⟩
end Go.Proofs.YtnpcjbdolmmaeaaGreatDoor
