/-
  Looks: LkBc, LkBd, LkBu (texts joined).
-/
import Derived.Tactics
import Derived.Tactics2
import Derived.Defers
import Derived.Recover
import Derived.Laws.Pointers
import Derived.Test.YtnpcjbdolmmaeaaGreatDoorL18
import Derived.Test.YtnpcjbdolmmaeaaGreatDoorL19
import Derived.Test.YtnpcjbdolmmaeaaGreatDoorL32
import Derived.Test.YtnpcjbdolmmaeaaGreatDoorL34
namespace Go.Proofs.YtnpcjbdolmmaeaaGreatDoor
open Go.RowKit Go.Maps
set_option maxRecDepth 100000
theorem ta_full (w : World) : (Instr.typeAssert (.iface 144 (.agg #[])) 20 144 true).run Tryz.prog w = .ok (.tuple #[.agg #[], .bool true]) w := by simp [Instr.typeAssert, run_underlying Tryz.underlying144, go_sem, Result.andThen]
theorem ta_nil (w : World) : (Instr.typeAssert .nilIface 20 144 true).run Tryz.prog w = .ok (.tuple #[.agg #[], .bool false]) w := by simp [Instr.typeAssert, run_underlying Tryz.underlying144, go_sem, Result.andThen]
theorem eq_full (w : World) : (binOp .eql 20 (.iface 144 (.agg #[])) .nilIface).run Tryz.prog w = .ok (.bool false) w := by
  have h : ∀ d : Nat, (Op.equalIn (d + 1) 20 (.iface 144 (.agg #[])) .nilIface).run Tryz.prog w = .ok false w := fun d => by simp [Op.equalIn, run_underlying Tryz.underlying20]
  simp only [binOp]
  simp [Op.equal, Op.maxDepth, h 9999]
theorem ne_full (w : World) : (binOp .neq 20 (.iface 144 (.agg #[])) .nilIface).run Tryz.prog w = .ok (.bool true) w := by
  have h : ∀ d : Nat, (Op.equalIn (d + 1) 20 (.iface 144 (.agg #[])) .nilIface).run Tryz.prog w = .ok false w := fun d => by simp [Op.equalIn, run_underlying Tryz.underlying20]
  simp only [binOp]
  simp [Op.equal, Op.maxDepth, h 9999]
theorem eq_nil (w : World) : (binOp .eql 20 .nilIface .nilIface).run Tryz.prog w = .ok (.bool true) w := by
  have h : ∀ d : Nat, (Op.equalIn (d + 1) 20 .nilIface .nilIface).run Tryz.prog w = .ok true w := fun d => by simp [Op.equalIn, run_underlying Tryz.underlying20]
  simp only [binOp]
  simp [Op.equal, Op.maxDepth, h 9999]
theorem ne_nil (w : World) : (binOp .neq 20 .nilIface .nilIface).run Tryz.prog w = .ok (.bool false) w := by
  have h : ∀ d : Nat, (Op.equalIn (d + 1) 20 .nilIface .nilIface).run Tryz.prog w = .ok true w := fun d => by simp [Op.equalIn, run_underlying Tryz.underlying20]
  simp only [binOp]
  simp [Op.equal, Op.maxDepth, h 9999]
set_option maxHeartbeats 2000000 in
theorem catch_panic (p : Nat) (x : Bool) (older : List PanicEntry) (w : World) (hb : w.heap[p]? = some (.cells #[.bool x] 4 (0, 0))) :
    CallsD Tryz.prog 67 #[.pointer (some ⟨p, 0, none⟩)] (.panicking ({ v := .iface 144 (.agg #[]), recovered := false } :: older)) w fun e u' w' =>
      e = .returned (.tuple #[]) ∧ u' = .panicking ({ v := .iface 144 (.agg #[]), recovered := true } :: older) ∧ w' = (w.alloc (.cells #[] 144)).setCell ⟨p, 0, none⟩ (.bool false) := by
  have hb1 := (Below.heap_alloc w (.cells #[] 144) p (heap_lt hb)).trans hb
  have hc : (w.alloc (.cells #[] 144)).cell? ⟨p, 0, none⟩ = some (.bool x) := by rw [Lib.cell_of_heap hb1]; rfl
  have hz : (w.alloc (.cells #[] 144)).frozen? ⟨p, 0, none⟩ = false := Lib.frozen_of_heap hb1 0
  refine callsD_of_wpS Tryz.func67 rfl fun c₀ cs hu => ?_
  apply wpS_seq
  apply wpS_region
  simp [wpOpsS, go_sem, recoverD, hu, Tryz.ntmps67, Exit.thenS]
  refine wpS_of_wp ?_
  have ta := ta_full
  have te := eq_full
  have tn := ne_full
  change Code.wp _ _ _ { tmps := #[.pointer (some ⟨p, 0, none⟩), .iface 144 (.agg #[]), undef, undef, .iface 144 (.agg #[]), undef, undef, undef, undef, undef, undef, undef, undef, undef, undef, undef, undef, undef, undef], defers := [] } w
  go_wp2_with fail
  simp [bodyPostS, results, Tryz.results67, go_sem]
set_option maxHeartbeats 2000000 in
theorem catch_idle (p : Nat) (x : Bool) (w : World) (hb : w.heap[p]? = some (.cells #[.bool x] 4 (0, 0))) :
    CallsD Tryz.prog 67 #[.pointer (some ⟨p, 0, none⟩)] .returning w fun e u' w' =>
      e = .returned (.tuple #[]) ∧ u' = .returning ∧ w' = (w.alloc (.cells #[] 144)).setCell ⟨p, 0, none⟩ (.bool true) := by
  have hb1 := (Below.heap_alloc w (.cells #[] 144) p (heap_lt hb)).trans hb
  have hc : (w.alloc (.cells #[] 144)).cell? ⟨p, 0, none⟩ = some (.bool x) := by rw [Lib.cell_of_heap hb1]; rfl
  have hz : (w.alloc (.cells #[] 144)).frozen? ⟨p, 0, none⟩ = false := Lib.frozen_of_heap hb1 0
  refine callsD_of_wpS Tryz.func67 rfl fun c₀ cs hu => ?_
  apply wpS_seq
  apply wpS_region
  simp [wpOpsS, go_sem, recoverD, hu, Tryz.ntmps67, Exit.thenS]
  refine wpS_of_wp ?_
  have ta := ta_nil
  have te := eq_nil
  have tn := ne_nil
  change Code.wp _ _ _ { tmps := #[.pointer (some ⟨p, 0, none⟩), .nilIface, undef, undef, .nilIface, undef, undef, undef, undef, undef, undef, undef, undef, undef, undef, undef, undef, undef, undef], defers := [] } w
  go_wp2_with fail
  cases c₀
  simp_all [bodyPostS, results, Tryz.results67, go_sem]
end Go.Proofs.YtnpcjbdolmmaeaaGreatDoor
namespace Go.Proofs.YtnpcjbdolmmaeaaGreatDoor
open Go.RowKit Go.Maps
set_option maxRecDepth 100000
def BdP (f : LkF) (w : World) (e : Ending) (w' : World) : Prop :=
  match Cf.buildF f.v f.budget (Cf.toks f.tokens) (f.budget + 1) 0 [Cf.startF f.v] [] with
  | none => e = .returned (.bool false) ∧ Below f.B0 w w' ∧ LkKept w w'
  | some done => e = .returned (.bool true) ∧ (∃ sets, BlAt w' f w'.heap.size sets sets done) ∧ done.length ≤ f.budget ∧ Below f.B0 w w' ∧ LkKept w w'
structure BdI (f : LkF) (w : World) (i : Nat) (sets : List Cf.St) (done : List Drv.LSt) (wr : World) : Prop where
  run : Cf.buildF f.v f.budget (Cf.toks f.tokens) (f.budget + 1) 0 [Cf.startF f.v] [] = Cf.buildF f.v f.budget (Cf.toks f.tokens) (f.budget + 1 - i) i sets done
  at_ : BlAt wr f wr.heap.size sets sets (Cf.midA done sets i)
  dl : done.length = i
  le : i ≤ sets.length
  len : sets.length ≤ f.budget
  ok : ∀ s ∈ sets, Cf.OkS f.v s
  below : Below f.B0 w wr
  kept : LkKept w wr
theorem BdI.next0 {f : LkF} {w wr w' : World} {i : Nat} {sets sets' : List Cf.St} {done : List Drv.LSt} {out : List (Int × Int)} (h : BdI f w i sets done wr) (hi : i < sets.length) (hk : Cf.kindS sets[i] = 0) (he : Cf.edgesF f.v sets[i] f.budget (Cf.toks f.tokens) sets [] = some (sets', out)) (h1 : BlAt w' f w'.heap.size sets' sets' (Cf.midA (done ++ [⟨0, [], out⟩]) sets' (i + 1))) (h2 : Below f.B0 wr w') (h3 : ∀ s ∈ sets', Cf.OkS f.v s) (h4 : LkKept wr w') : BdI f w (i + 1) sets' (done ++ [⟨0, [], out⟩]) w' := by
  obtain ⟨⟨r, hr⟩, hl⟩ := Cf.edgesF_more _ he h.len
  have hlen := h.len
  refine ⟨?_, h1, by rw [List.length_append, h.dl]; rfl, by rw [hr, List.length_append]; omega, hl, h3, h.below.trans h2, h.kept.trans h4⟩
  rw [h.run, show f.budget + 1 - i = (f.budget + 1 - (i + 1)) + 1 by omega, Cf.buildF_at (List.getElem?_eq_getElem hi), if_pos hk, he]
theorem BdI.nextS {f : LkF} {w wr w' : World} {i : Nat} {sets : List Cf.St} {done : List Drv.LSt} (h : BdI f w i sets done wr) (hi : i < sets.length) (hk : ¬ Cf.kindS sets[i] = 0) (h2 : Below wr.heap.size wr w') : BdI f w (i + 1) sets (done ++ [Cf.freshL sets[i]]) w' := by
  have hlen := h.len
  refine ⟨?_, ?_, by rw [List.length_append, h.dl]; rfl, hi, hlen, h.ok, h.below.trans (h2.mono h.at_.hw), h.kept.trans (.below h2)⟩
  · rw [h.run, show f.budget + 1 - i = (f.budget + 1 - (i + 1)) + 1 by omega, Cf.buildF_at (List.getElem?_eq_getElem hi), if_neg hk]
  · rw [← Cf.midA_skip hi]
    exact (h.at_.below h2).own
theorem BdI.none {f : LkF} {w wr : World} {i : Nat} {sets : List Cf.St} {done : List Drv.LSt} (h : BdI f w i sets done wr) (hi : i < sets.length) (hk : Cf.kindS sets[i] = 0) (he : Cf.edgesF f.v sets[i] f.budget (Cf.toks f.tokens) sets [] = none) : Cf.buildF f.v f.budget (Cf.toks f.tokens) (f.budget + 1) 0 [Cf.startF f.v] [] = none := by
  have hlen := h.len
  rw [h.run, show f.budget + 1 - i = (f.budget + 1 - (i + 1)) + 1 by omega, Cf.buildF_at (List.getElem?_eq_getElem hi), if_pos hk, he]
theorem BdI.done {f : LkF} {w wr : World} {i : Nat} {sets : List Cf.St} {done : List Drv.LSt} (h : BdI f w i sets done wr) (hi : ¬ i < sets.length) : Cf.buildF f.v f.budget (Cf.toks f.tokens) (f.budget + 1) 0 [Cf.startF f.v] [] = some done ∧ BlAt wr f wr.heap.size sets sets done ∧ done.length ≤ f.budget := by
  have hl : i = sets.length := by have := h.le; omega
  refine ⟨by rw [h.run]; exact Cf.buildF_end (by omega), ?_, by have := h.dl; have := h.len; omega⟩
  have := h.at_
  rw [hl, Cf.midA_end] at this
  exact this
theorem BlAt.setB {w w' : World} {f : LkF} {E : Nat} {km sets : List Cf.St} {aut : List Drv.LSt} {x : Nat} {cs : Array Value} (h : BlAt w f E km sets aut) (hx : w.heap[x]? = some (.cells cs 4 (0, 0))) (ho : Only (fun k => k = x) w w') (hge : f.B0 ≤ x) : BlAt w' f E km sets aut ∧ Below f.B0 w w' := by
  obtain ⟨sv, av, ss, rs, r⟩ := h.rows
  have hB0 : Below f.B0 w w' := ho.below' (fun k e => by omega) h.hw
  obtain ⟨nm, D, m1, m2, m3⟩ := h.map
  have m5 := ownsMap_onlyH m2 ho (fun e => by
    obtain ⟨es, cl, hb, _⟩ := m2
    rw [e, hx] at hb
    cases hb)
  have hset : ∀ {l : List Cf.St} {vs : List Value}, StVs w f.B0 l vs → StVs w' f.B0 l vs := by
    intro l
    induction l with
    | nil => intro vs h; exact h
    | cons s l ih =>
      intro vs h
      obtain ⟨CA, AA, b, e, h1, h2⟩ := h
      exact ⟨CA, AA, b, e, h1.still ho (fun k hk cs => by
        rw [hk, hx]
        constructor
        · intro e; injection e with e; injection e with _ e; exact absurd e (by decide)
        · intro e; injection e with e; injection e with _ e; exact absurd e (by decide)), ih h2⟩
  have hls : ∀ {l : List Drv.LSt} {vs : List Value}, LsVs w f.B0 E l vs → LsVs w' f.B0 E l vs := by
    intro l
    induction l with
    | nil => intro vs h; exact h
    | cons s l ih =>
      intro vs h
      obtain ⟨a, b, e, ⟨AA, ac, EA, ec, ea, h1, h2, h3⟩, h4⟩ := h
      refine ⟨a, b, e, ⟨AA, ac, EA, ec, ea, ownC_only h1 ho (fun k hk hs => ?_), ownC_only h2 ho (fun k hk hs => ?_), h3⟩, ih h4⟩
      · obtain ⟨c1, e1⟩ := ownC_cells h1 hk
        rw [hs] at e1
        exact absurd (type_eq e1 hx) (by decide)
      · obtain ⟨c1, e1⟩ := ownC_cells h2 hk
        rw [hs] at e1
        exact absurd (type_eq e1 hx) (by decide)
  refine ⟨⟨⟨sv, av, ss, rs, (ho.block _ (heap_lt r.blk) (fun e => ?_)).trans r.blk, ownsRow_only r.sown ho (fun k hk e => ?_), hset r.sset, ownsRow_only r.aown ho (fun k hk e => ?_), hls r.aset⟩, h.view.below hB0, ⟨nm, D, m1, m5, m3⟩, h.pt.on hB0, h.ge, h.ne, Nat.le_trans h.hw ho.size⟩, hB0⟩
  · have := r.blk
    rw [e] at this
    exact absurd (type_eq this hx) (by decide)
  · obtain ⟨c1, h1⟩ := own_type r.sown hk
    rw [e] at h1
    exact absurd (type_eq h1 hx) (by decide)
  · obtain ⟨c1, h1⟩ := own_type r.aown hk
    rw [e] at h1
    exact absurd (type_eq h1 hx) (by decide)
theorem door_box {w w1 : World} {p : Nat} {x : Bool} (y : Bool) (h : w1.heap[p]? = some (.cells #[.bool x] 4 (0, 0))) (hp : w.heap.size ≤ p) (hk : LkKept w w1) {B : Nat} (hB : B ≤ w.heap.size) (hbl : Below B w w1) :
    ∃ wz, Hid ((w1.alloc (.cells #[] 144)).setCell ⟨p, 0, none⟩ (.bool y) = wz) ∧ wz.cell? ⟨p, 0, none⟩ = some (.bool y) ∧ Below B w wz ∧ LkKept w wz ∧ (∀ {f : LkF} {E : Nat} {km sets : List Cf.St} {aut : List Drv.LSt}, BlAt w1 f E km sets aut → f.B0 ≤ p → BlAt wz f E km sets aut) := by
  have hb := below_new w1 (.cells #[] 144)
  have h1 := (hb.block _ (heap_lt h)).trans h
  have ho := Only.of_set (w1.alloc (.cells #[] 144)) p 0 (.bool y)
  have h2 := (heap_setCell_same (w1.alloc (.cells #[] 144)) p 0 _ _ _ h1 : ((w1.alloc (.cells #[] 144)).setCell ⟨p, 0, none⟩ (.bool y)).heap[p]? = _)
  refine ⟨_, hid rfl, by rw [Lib.cell_of_heap h2]; rfl, (hbl.trans (hb.mono (Nat.le_trans hB hbl.size))).trans (ho.below' (fun k e => by omega) (Nat.le_trans hB (Nat.le_trans hbl.size hb.size))), (hk.trans (.below hb)).newer ho (fun k e => by omega), fun hbt hg => ((hbt.below hb).setB h1 ho hg).1⟩
set_option maxHeartbeats 8000000 in
theorem build_any (f : LkF) (K : LkOk f) (hd : f.v.d ∈ f.v.n.states) (he : f.v.d.edges.length = f.v.d.ends.length) (hb1 : 1 ≤ f.budget) (w : World) (E : Nat) (h : BlAt w f E [] [] []) :
    Calls Tryz.prog 39 #[.pointer (some ⟨f.B, 0, none⟩)] w (BdP f w) := by
  have hmf : ∀ (fn : Fn) (first cap : Array Value) (w : World), (Instr.makeFunc fn first cap).run Tryz.prog w = .ok (.func fn first cap) w := fun _ _ _ _ => rfl
  have hby := below_new w (.cells #[.bool false] 4)
  have hpx := heap_alloc_new w (.cells #[.bool false] 4)
  obtain ⟨w1, hw1⟩ : ∃ w1, Hid (w.alloc (.cells #[.bool false] 4) = w1) := ⟨_, hid rfl⟩
  rw [hw1.out] at hby hpx
  have h1 := h.below hby
  have hst := start_any f.v f.a f.V w1 (h1.view.more h1.hw) K.W hd he h1.pt.here
  have HST := hid hst
  have H1 := hid h1
  have HBY := hid hby
  have HPX := hid hpx
  have HW0 := hid h.hw
  obtain ⟨sv, av, ss, rs, hr⟩ := h1.rows
  obtain ⟨b0, b1, b2, b3, b4, b5, bz⟩ := hr.cells
  obtain ⟨p, hp⟩ : ∃ p, w.heap.size = p := ⟨_, rfl⟩
  rw [hp] at HPX
  have HPP := hid hp
  have HK := hid K
  have hbud := K.budget
  clear hst h1 hby hpx hr h K hd he
  go_enter_defers Tryz.func39, Tryz.ntmps39
  rw [← hw1.out] at b0
  go_wp2_with fail
  rw [hw1.out]
  go_at_call 12
  refine HST.out.mono ?_
  rintro _ w2 ⟨s, CA, AA, rfl, his, hsb, hsin, hb2⟩
  have h2 := H1.out.below hb2
  have HSF := hid (show Cf.startF f.v = s from Cf.setF_eq his)
  have HOS := hid (Cf.OkS.of his hsb)
  have hpl := place_any f [] [] s CA AA w2 E h2 (hsin.base H1.out.hw) (HOS.out.sg HK.out.W HK.out.ends) (by simp) (by simp)
  have HP2 := hid ((hb2.block _ (heap_lt HPX.out)).trans HPX.out)
  have HB2 := hid ((HBY.out.mono HW0.out).trans (hb2.mono H1.out.hw))
  have HK2 := hid ((LkKept.below HBY.out).trans (.below hb2))
  unfold setAgg at hpl ⊢
  have HPL := hid hpl
  clear h2 hpl his hsb hsin hb2 b0 b1 b2 b3 b4 b5 bz HST H1
  dsimp only
  go_wp2_with fail
  go_at_call 68
  refine HPL.out.mono ?_
  intro e3 w3 hP
  unfold PlcP at hP
  rw [show Cf.findS [] s = none from rfl] at hP
  simp only at hP
  rw [if_neg (by simp; omega)] at hP
  obtain ⟨rfl, h3, hb3, hk3⟩ := hP
  have HI0 := hid (show BdI f w 0 [s] [] w3 from ⟨by rw [HSF.out]; rfl, h3.own, rfl, Nat.zero_le _, hb1, fun x hx => by rw [List.mem_singleton.1 hx]; exact HOS.out, HB2.out.trans hb3, HK2.out.trans hk3⟩)
  have HP3 := hid (hk3 p _ _ HP2.out (by decide) (by decide) (by decide))
  clear h3 hb3 hk3 HPL HB2 HK2 HP2 HSF HOS HPX
  go_wp2_with fail
  go_loopw [3] (fun iv wr => ∃ (i : Nat) (sets : List Cf.St) (done : List Drv.LSt), iv = .int .i64 (i : Int) ∧ Hid (BdI f w i sets done wr) ∧ Hid (wr.heap[p]? = some (.cells #[.bool false] 4 (0, 0)))) (fun iv _ => f.budget + 1 - (intOf iv).toNat)
  case atStart => exact ⟨0, [s], [], rfl, HI0, HP3⟩
  case round =>
    clear HI0 HP3
    obtain ⟨i, sets, done, rfl, HI, HP⟩ := hrel
    have hlen := HI.out.len
    have hle := HI.out.le
    obtain ⟨sv2, av2, ss2, rs2, hr⟩ := HI.out.at_.rows
    obtain ⟨c0, c1, c2, c3, c4, c5, cz⟩ := hr.cells
    obtain ⟨AS, cs, rfl⟩ := row_form hr.sown
    generalize hn : sets.length = n at c4 hlen hle
    have HN := hid hn
    clear hr hn
    by_cases hin : i < n
    · have hin' : i < sets.length := by rw [HN.out]; exact hin
      have hi1 : (i : Int) < (n : Int) := by omega
      by_cases hk : Cf.kindS sets[i] = 0
      · have hed := edges_any f HK.out sets done i _ _ hin' HI.out.dl HI.out.at_ hk HI.out.ok HI.out.len
        have HED := hid hed
        have HKK := hid hk
        clear hed hk
        go_wp2_with fail
        go_at_call 69
        refine HED.out.mono ?_
        intro e6 w6 hP
        unfold EdP at hP
        cases hef : Cf.edgesF f.v sets[i] f.budget (Cf.toks f.tokens) sets [] with
        | none =>
          rw [hef] at hP
          simp only at hP
          obtain ⟨rfl, hb6, hk6⟩ := hP
          have HP6 := hid (hk6 p _ _ HP.out (by decide) (by decide) (by decide))
          obtain ⟨wz, HZ, hz1, hz2, hz3, _⟩ := door_box false HP6.out (by omega) (HI.out.kept.trans hk6) HW0.out (HI.out.below.trans hb6)
          have HFIN : Hid (BdP f w (.returned (.bool false)) wz) := hid (by
            unfold BdP
            rw [HI.out.none hin' HKK.out hef]
            exact ⟨rfl, hz2, hz3⟩)
          clear hz2 hz3 hb6 hk6 hef
          go_wp2_with fail
          refine leaves_cons (f := 67) (args := #[.pointer (some ⟨p, 0, none⟩)]) (by simp) (by simp [go_sem]) ?_
          refine (catch_panic p false [] w6 HP6.out).mono ?_
          rintro e u' w'' ⟨rfl, rfl, hw''⟩
          rw [HZ.out] at hw''
          subst hw''
          simp [Leaves, settle, results, Tryz.results39, go_sem, hz1]
          exact HFIN.out
        | some q =>
          obtain ⟨sets', out⟩ := q
          rw [hef] at hP
          simp only at hP
          obtain ⟨rfl, h6, hb6, hok6, hk6⟩ := hP
          have HI6 := hid (HI.out.next0 hin' HKK.out hef h6 hb6 hok6 hk6)
          have HP6 := hid (hk6 p _ _ HP.out (by decide) (by decide) (by decide))
          clear h6 hb6 hok6 hk6 hef
          go_wp2_with fail
          go_roundw
          case rel => exact ⟨i + 1, sets', _, by congr 1, HI6, HP6⟩
          case measure => simp only [intOf]; omega
      · have hed := edges_skip f sets done i _ _ hin' HI.out.dl HI.out.at_ hk
        have HED := hid hed
        have HKK := hid hk
        clear hed hk
        go_wp2_with fail
        go_at_call 69
        refine HED.out.mono ?_
        rintro _ w6 ⟨rfl, hb6⟩
        have HI6 := hid (HI.out.nextS hin' HKK.out hb6)
        have HP6 := hid ((hb6.block _ (heap_lt HP.out)).trans HP.out)
        clear hb6
        go_wp2_with fail
        go_roundw
        case rel => exact ⟨i + 1, sets, _, by congr 1, HI6, HP6⟩
        case measure => simp only [intOf]; omega
    · have hi1 : ¬ (i : Int) < (n : Int) := by omega
      obtain ⟨hrun, hat, hdl⟩ := HI.out.done (by rw [HN.out]; exact hin)
      have hz0 := Lib.frozen_of_heap HP.out 0
      have hc0 : wr.cell? ⟨p, 0, none⟩ = some (Value.bool false) := by rw [Lib.cell_of_heap HP.out]; rfl
      have ho := Only.of_set wr p 0 (.bool true)
      have hpb : f.B0 ≤ p := by have := HPP.out; have := HW0.out; omega
      have hset := hat.setB HP.out ho hpb
      have hps : (wr.setCell ⟨p, 0, none⟩ (.bool true)).heap[p]? = some (.cells #[.bool true] 4 (0, 0)) := heap_setCell_same wr p 0 _ _ _ HP.out
      obtain ⟨wv, hwv⟩ : ∃ wv, Hid (wr.setCell ⟨p, 0, none⟩ (.bool true) = wv) := ⟨_, hid rfl⟩
      rw [hwv.out] at ho hset hps
      have hat := hset.1
      obtain ⟨wz, HZ, hz1, hz2, hz3, hz4⟩ := door_box true hps (by omega) (HI.out.kept.newer ho (fun k e => by omega)) HW0.out (HI.out.below.trans hset.2)
      have HFIN : Hid (BdP f w (.returned (.bool true)) wz) := hid (by
        unfold BdP
        rw [hrun]
        exact ⟨rfl, ⟨sets, (hz4 hat hpb).own⟩, hdl, hz2, hz3⟩)
      have HPS := hid hps
      clear hz2 hz3 hz4 ho hset hps hpb
      have HAT := hid hat
      have HRUN := hid hrun
      have HDL := hid hdl
      clear hat hrun hdl
      go_wp2_with fail
      rw [hwv.out]
      refine leaves_cons (f := 67) (args := #[.pointer (some ⟨p, 0, none⟩)]) (by simp) (by simp [go_sem]) ?_
      refine (catch_idle p true wv HPS.out).mono ?_
      rintro e u' w'' ⟨rfl, rfl, hw''⟩
      rw [HZ.out] at hw''
      subst hw''
      simp [Leaves, settle, results, Tryz.results39, go_sem, hz1]
      exact HFIN.out
end Go.Proofs.YtnpcjbdolmmaeaaGreatDoor
namespace Go.Proofs.YtnpcjbdolmmaeaaGreatDoor
open Go.RowKit Go.Maps
set_option maxRecDepth 100000
namespace Cf
noncomputable def autoQ (n : Drv.NNet) (d b budget tokens : Int) : Option (List Drv.LSt) := match newV n d b with
  | none => none
  | some v => if 1 ≤ budget ∧ budget ≤ 4096 ∧ 0 ≤ tokens ∧ tokens ≤ 64 then some (autoF v budget.toNat tokens.toNat) else none
end Cf
def AutIn (w : World) (B : Nat) (A : Option Addr) (l : List Drv.LSt) : Prop := ∃ vs E, OwnC w B 69 3 (.slice A l.length l.length) l.length vs ∧ LsVs w B E l vs
def BuP (n : Drv.NNet) (d b budget tokens : Int) (w : World) (e : Ending) (w' : World) : Prop :=
  (Cf.autoQ n d b budget tokens = none ∧ e = .returned (.tuple #[.agg #[.slice none 0 0], .int .i64 1]) ∧ Below w.heap.size w w') ∨
  ∃ l A, Cf.autoQ n d b budget tokens = some l ∧ e = .returned (.tuple #[.agg #[.slice A l.length l.length], .int .i64 0]) ∧ AutIn w' w.heap.size A l ∧ l.length ≤ 4096 ∧ Below w.heap.size w w'
theorem clipS_any (A : Option Addr) (n c : Nat) (w : World) (hc : n ≤ c) : Calls Tryz.prog 40 #[.slice A n c] w fun e w' => e = .returned (.slice A n n) ∧ w' = w := by
  go_enter Tryz.func40, Tryz.ntmps40
  go_wp2
  go_ret
  exact ⟨rfl, rfl⟩
theorem made_intsL (n : Nat) : madeCells #[Value.int .i64 0] n = ((List.replicate n (0 : Int)).map (Value.int .i64)).toArray := by
  apply Array.ext
  · simp [madeCells]
  · intro i h1 h2
    simp [madeCells, Nat.mod_one]
theorem mkIntsL (n : Nat) (hn : n ≤ 1000000) (u : World) : (Instr.makeSlice 23 (.int .i64 (n : Int)) (.int .i64 (n : Int))).run Tryz.prog u =
      .ok (.slice (some ⟨u.heap.size, 0, none⟩) n n) (u.alloc (.cells ((List.replicate n (0 : Int)).map (Value.int .i64)).toArray 3)) := by
  obtain ⟨i2, hi2, hz2, hs2, hy2⟩ := info_of infoZ
  have h := run_make (P := Tryz.prog) u 23 3 i2 (.int .i64 0) Tryz.underlying23 hi2 hz2 .i64 .i64 (n : Int) (n : Int) (by omega) (Int.le_refl _) (by rw [hy2]; omega) (by omega)
  have e : (n : Int).toNat = n := by omega
  rw [e] at h
  rw [← made_intsL]
  simpa [hs2, Value.cells] using h
theorem bl_start {w : World} {V : Nat} {a : VwA} {v : Cf.Vw} (hv : VwAt w w.heap.size V a v) (hT : PT w) (budget tokens : Nat) :
    BlAt ((w.alloc (.map #[] 0)).alloc (.cells #[.pointer (some ⟨V, 0, none⟩), .int .i64 (budget : Int), .int .i64 (tokens : Int), .slice none 0 0, .slice none 0 0, .map (some w.heap.size)] 113)) ⟨w.heap.size + 1, V, w.heap.size, w.heap.size, a, v, budget, tokens⟩ 0 [] [] [] ∧
    Below w.heap.size w ((w.alloc (.map #[] 0)).alloc (.cells #[.pointer (some ⟨V, 0, none⟩), .int .i64 (budget : Int), .int .i64 (tokens : Int), .slice none 0 0, .slice none 0 0, .map (some w.heap.size)] 113)) := by
  have z2 : (w.alloc (.map #[] 0)).heap.size = w.heap.size + 1 := by simp
  have hb : Below w.heap.size w ((w.alloc (.map #[] 0)).alloc (.cells #[.pointer (some ⟨V, 0, none⟩), .int .i64 (budget : Int), .int .i64 (tokens : Int), .slice none 0 0, .slice none 0 0, .map (some w.heap.size)] 113)) := (below_new w _).alloc (by omega) _
  refine ⟨⟨⟨.slice none 0 0, .slice none 0 0, [], [], ?_, World.ownsRow_nil _ _ _ _, rfl, World.ownsRow_nil _ _ _ _, rfl⟩, hv.below hb, ⟨0, .map [], Nat.le_refl _, (World.ownsMap_made w Tryz.prog 9 _).alloc _, PlIs.start⟩, (Lib.tabBelow_of_tabIs hT).on hb, ⟨by show w.heap.size ≤ w.heap.size + 1; omega, Nat.le_refl _⟩, by show w.heap.size + 1 ≠ w.heap.size; omega, hb.size⟩, hb⟩
  rw [← z2]; exact heap_alloc_new _ _
theorem LsVs.other {w w' : World} {B E x : Nat} {cs : Array Value} {T : TypeId} (hx : w.heap[x]? = some (.cells cs T (0, 0))) (h1 : 3 ≠ T) (h2 : 71 ≠ T) (ho : Only (fun k => k = x) w w') : ∀ {l : List Drv.LSt} {vs : List Value}, LsVs w B E l vs → LsVs w' B E l vs
  | [], _, h => h
  | _ :: _, _, h => by
    obtain ⟨a, b, e, ⟨AA, ac, EA, ec, ea, k1, k2, k3⟩, h4⟩ := h
    exact ⟨a, b, e, ⟨AA, ac, EA, ec, ea, ownC_only k1 ho (fun k hk e => ownC_not k1 hx h1 (by rw [← e]; exact hk)), ownC_only k2 ho (fun k hk e => ownC_not k2 hx h2 (by rw [← e]; exact hk)), k3⟩, LsVs.other hx h1 h2 ho h4⟩
theorem LsVs.base {w : World} {B B' E : Nat} (hB : B' ≤ B) : ∀ {l : List Drv.LSt} {vs : List Value}, LsVs w B E l vs → LsVs w B' E l vs
  | [], _, h => h
  | _ :: _, _, h => by
    obtain ⟨a, b, e, ⟨AA, ac, EA, ec, ea, k1, k2, k3⟩, h4⟩ := h
    exact ⟨a, b, e, ⟨AA, ac, EA, ec, ea, k1.base hB, k2.base hB, k3⟩, LsVs.base hB h4⟩
theorem Cf.newV_at {n : Drv.NNet} {d b : Int} {v : Cf.Vw} (h : Cf.newV n d b = some v) : ∃ (dn k : Nat) (hk : k < n.states.length), d = (dn : Int) ∧ n.decs[dn]? = some (k : Int) ∧ v.d = n.states[k] ∧ dn < n.decs.length := by
  unfold Cf.newV at h
  split at h
  · next hc =>
    injection h with h
    subst h
    obtain ⟨h1, h2, h3, _⟩ := hc
    have hdl : d.toNat < n.decs.length := by omega
    obtain ⟨k, hk, e1, e2, e3⟩ := Cf.dec_at (Cf.mayF h1) hdl
    refine ⟨d.toNat, k, hk, by omega, ?_, e3, hdl⟩
    rw [← e1, List.getD_eq_getElem?_getD, List.getElem?_eq_getElem hdl]; rfl
  · cases h
def fillL (j m : Nat) : List Int := (List.range m).map fun i : Nat => if i < j then (i : Int) else 0
theorem fillL_nil (m : Nat) : Array.replicate m (Value.int .i64 0) = ((fillL 0 m).map (Value.int .i64)).toArray := by
  unfold fillL
  apply Array.ext
  · simp
  · intro i h1 h2
    simp
theorem fillL_set (j m : Nat) : ((fillL j m).map (Value.int .i64)).toArray.setIfInBounds j (.int .i64 (j : Int)) = ((fillL (j + 1) m).map (Value.int .i64)).toArray := by
  unfold fillL
  apply Array.ext
  · simp
  · intro i h1 h2
    have hi : i < m := by simpa using h1
    by_cases e : j = i
    · subst e
      simp
    · rw [Array.getElem_setIfInBounds (by simpa using hi), if_neg e]
      simp only [List.map_map, List.getElem_toArray, List.getElem_map, List.getElem_range, Function.comp]
      congr 1
      by_cases h : i < j
      · rw [if_pos h, if_pos (by omega)]
      · rw [if_neg h, if_neg (by omega)]
theorem fillL_all (m : Nat) : fillL m m = (List.range m).map fun i : Nat => (i : Int) := by
  unfold fillL
  apply List.map_congr_left
  intro i hi
  rw [if_pos (List.mem_range.1 hi)]
theorem tryAll_in {wr w6 w7 : World} {B g x en : Nat} {cs : Array Value} (hB : B ≤ g) (hr : wr.heap[g]? = some (.cells (((List.range en).map fun i : Nat => (i : Int)).map (Value.int .i64)).toArray 3 (0, 0))) (hen : en ≤ 1000000) (h6 : wr.alloc (.cells #[.int .u8 3, .slice (some ⟨g, 0, none⟩) en en, .slice none 0 0] 69) = w6) (hx : w6.heap[x]? = some (.cells cs 57 (0, 0))) (ho : Only (fun k => k = x) w6 w7) (hBr : B ≤ wr.heap.size) :
    AutIn w7 B (some ⟨wr.heap.size, 0, none⟩) [⟨3, (List.range en).map fun i : Nat => (i : Int), []⟩] := by
  have h1 : w6.heap[wr.heap.size]? = some (.cells #[.int .u8 3, .slice (some ⟨g, 0, none⟩) en en, .slice none 0 0] 69 (0, 0)) := by rw [← h6]; exact heap_alloc_new _ _
  have hb6 : Below wr.heap.size wr w6 := by rw [← h6]; exact below_new _ _
  have h2 := (hb6.block g (heap_lt hr)).trans hr
  have e1 : ¬ wr.heap.size = x := fun e => by rw [← e] at hx; exact absurd (type_eq h1 hx) (by decide)
  have e2 : ¬ g = x := fun e => by rw [← e] at hx; exact absurd (type_eq h2 hx) (by decide)
  have h17 := (ho.block _ (heap_lt h1) e1).trans h1
  have h27 := (ho.block _ (heap_lt h2) e2).trans h2
  refine ⟨[.int .u8 3, .slice (some ⟨g, 0, none⟩) en en, .slice none 0 0], 0, ⟨rfl, .inr ⟨_, _, _, rfl, hBr, h17, Nat.le_refl _, by simp [maxLen], by simp, rfl⟩⟩, ⟨[.int .u8 3, .slice (some ⟨g, 0, none⟩) en en, .slice none 0 0], [], rfl, ⟨some ⟨g, 0, none⟩, en, none, 0, by simp, ?_, ⟨rfl, .inl ⟨rfl, rfl⟩⟩, fun k hk => by cases hk⟩, rfl⟩⟩
  simp only [List.length_map, List.length_range]
  exact ⟨by simp, .inr ⟨_, _, _, rfl, hB, h27, Nat.le_refl _, by simp only [maxLen]; omega, by simp, List.take_of_length_le (by simp)⟩⟩
theorem bad_cases (budget tokens : Int) (h : ¬ (1 ≤ budget ∧ budget ≤ 4096 ∧ 0 ≤ tokens ∧ tokens ≤ 64)) : (decide (budget < 1) = true) ∨ (decide (budget < 1) = false ∧ decide (4096 < budget) = true) ∨ (decide (budget < 1) = false ∧ decide (4096 < budget) = false ∧ decide (tokens < 0) = true) ∨ (decide (budget < 1) = false ∧ decide (4096 < budget) = false ∧ decide (tokens < 0) = false ∧ decide (64 < tokens) = true) := by
  simp only [decide_eq_true_eq, decide_eq_false_iff_not]
  omega
set_option maxHeartbeats 16000000 in
theorem build_all (n : Drv.NNet) (d b budget tokens : Int) (SA TA UA QA DA : Option Addr) (sc tc uc qc dc : Nat) (w : World) (h : NetR w w.heap.size SA TA UA QA DA n) (hs : NetS n) (hf : Cf.fewN n) (hT : PT w) :
    Calls Tryz.prog 21 #[netAgg SA TA UA QA DA sc tc uc qc dc n, .int .i64 d, .int .i64 b, .int .i64 budget, .int .i64 tokens] w (BuP n d b budget tokens w) := by
  have z1 : (w.alloc (.cells #[.slice SA n.states.length sc, .slice TA n.starts.length tc, .slice UA n.stops.length uc, .slice QA n.preds.length qc, .slice DA n.decs.length dc] 25)).heap.size = w.heap.size + 1 := by simp
  obtain ⟨w1, hw1⟩ : ∃ w1, Hid ((w.alloc (.cells #[.slice SA n.states.length sc, .slice TA n.starts.length tc, .slice UA n.stops.length uc, .slice QA n.preds.length qc, .slice DA n.decs.length dc] 25)).alloc (.cells #[.slice none 0 0] 57) = w1) := ⟨_, hid rfl⟩
  have hb1 : Below w.heap.size w w1 := by rw [← hw1.out]; exact (below_new _ _).alloc (by omega) _
  have h0 : w1.heap[w.heap.size]? = some (.cells #[.slice SA n.states.length sc, .slice TA n.starts.length tc, .slice UA n.stops.length uc, .slice QA n.preds.length qc, .slice DA n.decs.length dc] 25 (0, 0)) := by
    rw [← hw1.out, Below.heap_alloc _ _ _ (by omega)]; exact heap_alloc_new _ _
  have h1 : w1.heap[w.heap.size + 1]? = some (.cells #[.slice none 0 0] 57 (0, 0)) := by rw [← hw1.out, ← z1]; exact heap_alloc_new _ _
  have n0 : w1.cell? ⟨w.heap.size, 0, none⟩ = some (.slice SA n.states.length sc) := by rw [Lib.cell_of_heap h0]; rfl
  have n1 : w1.cell? ⟨w.heap.size, 1, none⟩ = some (.slice TA n.starts.length tc) := by rw [Lib.cell_of_heap h0]; rfl
  have n2 : w1.cell? ⟨w.heap.size, 2, none⟩ = some (.slice UA n.stops.length uc) := by rw [Lib.cell_of_heap h0]; rfl
  have n3 : w1.cell? ⟨w.heap.size, 3, none⟩ = some (.slice QA n.preds.length qc) := by rw [Lib.cell_of_heap h0]; rfl
  have n4 : w1.cell? ⟨w.heap.size, 4, none⟩ = some (.slice DA n.decs.length dc) := by rw [Lib.cell_of_heap h0]; rfl
  have hnw := new_any n d b SA TA UA QA DA sc tc uc qc dc w1 ⟨(h.below hb1).sts.more hb1.size, (h.below hb1).starts.more hb1.size, (h.below hb1).stops.more hb1.size, (h.below hb1).preds.more hb1.size, (h.below hb1).decs.more hb1.size⟩ hs hf
  have HN := hid h
  have HNW := hid hnw
  have HF := hid hf
  have HS := hid hs
  have HB1 := hid hb1
  have HH0 := hid h0
  have HH1 := hid h1
  have HPT := hid hT
  have hwl1 := heap_lt h1
  clear h hnw hs hf hb1 h0 h1 hT z1
  unfold netAgg at HNW ⊢
  go_enter Tryz.func21, Tryz.ntmps21
  go_wp2_with fail
  rw [hw1.out]
  go_wp2_with fail
  go_at_call 8
  refine HNW.out.mono ?_
  rintro e2 w2 (⟨hnv, rfl, hb2⟩ | ⟨v, V, a, hnv, rfl, hva, hV, hb2⟩)
  · have HB2 := hid (HB1.out.trans (hb2.mono HB1.out.size))
    have HQ := hid (show Cf.autoQ n d b budget tokens = none by unfold Cf.autoQ; rw [hnv])
    have q1 := (hb2.block _ (heap_lt HH1.out)).trans HH1.out
    have qc : w2.cell? ⟨w.heap.size + 1, 0, none⟩ = some (.slice none 0 0) := by rw [Lib.cell_of_heap q1]; rfl
    have qz : w2.frozen? ⟨w.heap.size + 1, 0, none⟩ = false := Lib.frozen_of_heap q1 0
    have ho := Only.of_set w2 (w.heap.size + 1) 0 (.slice none 0 0)
    have HBo := hid (HB2.out.trans (ho.below' (fun k e => by omega) HB2.out.size))
    have ec : (w2.setCell ⟨w.heap.size + 1, 0, none⟩ (.slice none 0 0)).cell? ⟨w.heap.size + 1, 0, none⟩ = some (.slice none 0 0) := by
      rw [Lib.cell_of_heap (heap_setCell_same w2 (w.heap.size + 1) 0 _ _ _ q1)]; rfl
    clear hb2 hnv q1 ho
    go_wp2_with fail
    simp [bodyPost, results, Tryz.results21, go_sem, ec]
    exact .inl ⟨HQ.out, rfl, HBo.out⟩
  · have HB2 := hid (HB1.out.trans (hb2.mono HB1.out.size))
    have q1 := (hb2.block _ (heap_lt HH1.out)).trans HH1.out
    have HB12 := hid hb2
    have hsz12 := hb2.size
    have hl01 := heap_lt HH0.out
    by_cases hgood : 1 ≤ budget ∧ budget ≤ 4096 ∧ 0 ≤ tokens ∧ tokens ≤ 64
    · have HQ := hid (show Cf.autoQ n d b budget tokens = some (Cf.autoF v budget.toNat tokens.toNat) by unfold Cf.autoQ; rw [hnv]; dsimp only; rw [if_pos hgood])
      obtain ⟨bn, rfl⟩ : ∃ bn : Nat, budget = (bn : Int) := ⟨budget.toNat, by omega⟩
      obtain ⟨tn, rfl⟩ : ∃ tn : Nat, tokens = (tn : Int) := ⟨tokens.toNat, by omega⟩
      rw [Int.toNat_natCast, Int.toNat_natCast] at HQ
      have hbn : bn ≤ 4096 := by omega
      have f1 : decide ((bn : Int) < 1) = false := decide_eq_false (by omega)
      have f2 : decide ((4096 : Int) < (bn : Int)) = false := decide_eq_false (by omega)
      have f2' : decide (4096 < bn) = false := decide_eq_false (by omega)
      have f3 : decide ((tn : Int) < 0) = false := decide_eq_false (by omega)
      have f4 : decide ((64 : Int) < (tn : Int)) = false := decide_eq_false (by omega)
      have f4' : decide (64 < tn) = false := decide_eq_false (by omega)
      obtain ⟨hW, hdm, hvn, hee⟩ := Cf.newV_ok hnv HF.out
      have hdl : v.d.ends.length ≤ 700 := by rw [hvn] at hdm; exact (HF.out.2.2.2.2.2 _ hdm).2
      have hst := bl_start hva (Lib.tabBelow_of_tabIs HPT.out w2 HB2.out) bn tn
      obtain ⟨w3, hw3⟩ : ∃ w3, Hid ((w2.alloc (.map #[] 0)).alloc (.cells #[.pointer (some ⟨V, 0, none⟩), .int .i64 (bn : Int), .int .i64 (tn : Int), .slice none 0 0, .slice none 0 0, .map (some w2.heap.size)] 113) = w3) := ⟨_, hid rfl⟩
      rw [hw3.out] at hst
      have hba := build_any ⟨w2.heap.size + 1, V, w2.heap.size, w2.heap.size, a, v, bn, tn⟩ ⟨hW, by show v.d.ends.length ≤ 1000000; omega, by show bn ≤ 4096; omega, by show tn ≤ 64; omega⟩ hdm hee (by show 1 ≤ bn; omega) w3 0 hst.1
      unfold BdP at hba
      dsimp only at hba
      have HBA := hid hba
      have HB3 := hid (HB2.out.trans (hst.2.mono HB2.out.size))
      have HB23 := hid hst.2
      have HX3 := hid ((hst.2.block _ (heap_lt q1)).trans q1)
      have HNV := hid hnv
      have hsz2 := HB2.out.size
      have hsz3 := hst.2.size
      have hxl := heap_lt q1
      clear hst hba hb2 hnv q1 hW hdm hvn hee hgood hva
      have hmm : ∀ u : World, (Instr.makeMap 110 none).run Tryz.prog u = .ok (.map (some u.heap.size)) (u.alloc (.map #[] 0)) := fun _ => rfl
      go_wp2_with fail
      rw [hw3.out]
      clear f1 f2 f2' f3 f4 f4' hmm
      go_at_call 39
      refine HBA.out.mono ?_
      intro e4 w4 hP
      cases hrun : Cf.buildF v bn (Cf.toks tn) (bn + 1) 0 [Cf.startF v] [] with
      | some done =>
        rw [hrun] at hP
        obtain ⟨rfl, ⟨sets, hbl⟩, hdn, hb4, hk4⟩ := hP
        have HQ2 := hid (show Cf.autoF v bn tn = done by unfold Cf.autoF; rw [hrun]; rfl)
        obtain ⟨sv, av, ss, rs, hr⟩ := hbl.rows
        obtain ⟨AV, avc, rfl⟩ := row_form hr.aown
        have hblk := hr.blk
        have haw := OwnC.of hr.aown
        have hset := hr.aset
        dsimp only at hblk haw hset hb4 hdn
        have hcap : done.length ≤ avc := by
          obtain ⟨A7, c7, e7, h7⟩ := haw.form
          injection e7 with _ _ e7
          omega
        have hx4 := hk4 (w.heap.size + 1) _ _ HX3.out (by decide) (by decide) (by decide)
        have b3 : w4.cell? ⟨w2.heap.size + 1, 3, none⟩ = some (.slice AV done.length avc) := by rw [Lib.cell_of_heap hblk]; rfl
        have bz : w4.frozen? ⟨w2.heap.size + 1, 3, none⟩ = false := Lib.frozen_of_heap hblk 3
        have ho5 := Only.of_set w4 (w2.heap.size + 1) 3 (.slice AV done.length done.length)
        have hb5 := heap_setCell_same w4 (w2.heap.size + 1) 3 _ _ (.slice AV done.length done.length) hblk
        have hx5 := (ho5.block (w.heap.size + 1) (heap_lt hx4) (by omega)).trans hx4
        have c5 : (w4.setCell ⟨w2.heap.size + 1, 3, none⟩ (.slice AV done.length done.length)).cell? ⟨w2.heap.size + 1, 3, none⟩ = some (.slice AV done.length done.length) := by rw [Lib.cell_of_heap hb5]; rfl
        have x5 : (w4.setCell ⟨w2.heap.size + 1, 3, none⟩ (.slice AV done.length done.length)).cell? ⟨w.heap.size + 1, 0, none⟩ = some (.slice none 0 0) := by rw [Lib.cell_of_heap hx5]; rfl
        have z5 : (w4.setCell ⟨w2.heap.size + 1, 3, none⟩ (.slice AV done.length done.length)).frozen? ⟨w.heap.size + 1, 0, none⟩ = false := Lib.frozen_of_heap hx5 0
        obtain ⟨w5, hw5⟩ : ∃ w5, Hid (w4.setCell ⟨w2.heap.size + 1, 3, none⟩ (.slice AV done.length done.length) = w5) := ⟨_, hid rfl⟩
        rw [hw5.out] at ho5 hb5 hx5 c5 x5 z5
        have ho6 := Only.of_set w5 (w.heap.size + 1) 0 (.slice AV done.length done.length)
        have hx6 := heap_setCell_same w5 (w.heap.size + 1) 0 _ _ (.slice AV done.length done.length) hx5
        have c6 : (w5.setCell ⟨w.heap.size + 1, 0, none⟩ (.slice AV done.length done.length)).cell? ⟨w.heap.size + 1, 0, none⟩ = some (.slice AV done.length done.length) := by rw [Lib.cell_of_heap hx6]; rfl
        have hbb : Below w.heap.size w (w5.setCell ⟨w.heap.size + 1, 0, none⟩ (.slice AV done.length done.length)) :=
          ((HB3.out.trans (hb4.mono hsz2)).trans (ho5.below' (fun k e => by omega) (by have := hb4.size; omega))).trans (ho6.below' (fun k e => by omega) (by have := hb4.size; have := ho5.size; omega))
        have hown5 := ownC_only haw.clip ho5 (fun k hk e => ownC_not haw.clip hblk (by decide) (by rw [← e]; exact hk))
        have hown6 := ownC_only hown5 ho6 (fun k hk e => ownC_not hown5 hx5 (by decide) (by rw [← e]; exact hk))
        have HFIN := hid (show BuP n d b bn tn w (.returned (.tuple #[.agg #[.slice AV done.length done.length], .int .i64 0])) (w5.setCell ⟨w.heap.size + 1, 0, none⟩ (.slice AV done.length done.length)) from
          .inr ⟨done, AV, by rw [HQ.out, HQ2.out], rfl, ⟨rs, _, hown6.base hsz2, ((hset.other hblk (by decide) (by decide) ho5).other hx5 (by decide) (by decide) ho6).base hsz2⟩, by omega, hbb⟩)
        clear ho5 hb5 hx5 ho6 hx6 hbb hown5 hown6 hset haw hblk hx4 hb4 hk4 hr hbl hrun HBA
        generalize done.length = m at *
        go_wp2_with fail
        go_at_call 40
        refine (clipS_any AV m avc w4 hcap).mono ?_
        rintro _ wz ⟨rfl, hwz⟩
        rw [hwz]
        clear hwz
        rw [← hw5.out] at x5 z5 c5 c6
        go_wp2_with fail
        simp [bodyPost, results, Tryz.results21, go_sem, c6]
        rw [hw5.out]
        exact HFIN.out
      | none =>
        rw [hrun] at hP
        obtain ⟨rfl, hb4, hk4⟩ := hP
        have HQ2 := hid (show Cf.autoF v bn tn = Cf.tryAll v by unfold Cf.autoF; rw [hrun]; rfl)
        obtain ⟨dn, k, hk, rfl, hde, hvd, hdn⟩ := Cf.newV_at HNV.out
        have hvl : v.d.ends.length = (n.states[k]).ends.length := by rw [hvd]
        obtain ⟨s, hsk⟩ : ∃ s, n.states[k] = s := ⟨_, rfl⟩
        rw [hsk] at hvl
        have hb24 := HB23.out.trans hb4
        have hb04 := HB2.out.trans (hb24.mono hsz2)
        have hx4 := hk4 (w.heap.size + 1) _ _ HX3.out (by decide) (by decide) (by decide)
        have hh4 := (hb24.block w.heap.size (by omega)).trans ((HB12.out.block w.heap.size (by omega)).trans HH0.out)
        have hn4 := HN.out.below hb04
        obtain ⟨sb, so, EA, ec, XA, xc, hSA, hsl, m0, m1, m2, rE, rX⟩ := hn4.sts.at hk
        rw [hsk] at m0 m1 m2 rE rX
        obtain ⟨db, dof, hDA, hdb, hdc⟩ := hn4.decs.2 (by omega)
        have md := hdc dn (.int .i64 (k : Int)) (by rw [List.getElem?_map, hde]; rfl)
        have g0 : w4.cell? ⟨w.heap.size, 0, none⟩ = some (.slice SA n.states.length sc) := by rw [Lib.cell_of_heap hh4]; rfl
        have g4 : w4.cell? ⟨w.heap.size, 4, none⟩ = some (.slice DA n.decs.length dc) := by rw [Lib.cell_of_heap hh4]; rfl
        obtain ⟨en, hen⟩ : ∃ en, s.ends.length = en := ⟨_, rfl⟩
        rw [hen] at m2 hvl
        have hmk := mkIntsL en (by omega)
        rw [hSA] at g0
        rw [hDA] at g4
        have hw4 : w2.heap.size ≤ w4.heap.size := hb24.size
        have hS3 : ∀ o : Obj, (w4.alloc o).drew.cell? ⟨w.heap.size, 0, none⟩ = some (.slice (some ⟨sb, so, none⟩) n.states.length sc) ∧ (w4.alloc o).drew.cell? ⟨w.heap.size, 4, none⟩ = some (.slice (some ⟨db, dof, none⟩) n.decs.length dc) ∧ (w4.alloc o).drew.cell? ⟨db, dof + dn, none⟩ = some (.int .i64 (k : Int)) ∧ (w4.alloc o).drew.cell? ⟨sb, so + k * 3 + 2, none⟩ = some (.slice XA en xc) := fun o => by
          have hn : ∀ (b i : Nat), b < w4.heap.size → (w4.alloc o).drew.cell? ⟨b, i, none⟩ = w4.cell? ⟨b, i, none⟩ := fun b i hb => (below_new w4 o).drew.cell (p := ⟨b, i, none⟩) hb
          exact ⟨(hn _ _ (by omega)).trans g0, (hn _ _ (by omega)).trans g4, (hn _ _ (by omega)).trans md, (hn _ _ (by omega)).trans m2⟩
        have HB04 := hid hb04
        have HX4 := hid hx4
        have HVL := hid hvl
        have hen7 : en ≤ 700 := by omega
        clear hb4 hk4 hrun HBA hh4 hn4 hSA hDA m0 m1 rE rX hdc hde hvd hsk hb24 hb04 hx4 hen hvl
        go_upto_region 8 with fail
        go_region_held3 (fun w' => w'.cell? ⟨w.heap.size, 0, none⟩ = some (.slice (some ⟨sb, so, none⟩) n.states.length sc) ∧ w'.cell? ⟨w.heap.size, 4, none⟩ = some (.slice (some ⟨db, dof, none⟩) n.decs.length dc) ∧ w'.cell? ⟨db, dof + dn, none⟩ = some (.int .i64 (k : Int)) ∧ w'.cell? ⟨sb, so + k * 3 + 2, none⟩ = some (.slice XA en xc)) (first | assumption | exact ⟨g0, g4, md, m2⟩ | exact hS3 _) (fail)
        have hb5 : Below w4.heap.size w4 (w4.alloc (.cells (Array.replicate en (Value.int .i64 0)) 3)).drew := (below_new w4 _).drew
        have h5 : (w4.alloc (.cells (Array.replicate en (Value.int .i64 0)) 3)).drew.heap[w4.heap.size]? = some (.cells (Array.replicate en (Value.int .i64 0)) 3 (0, 0)) := heap_alloc_new w4 _
        rw [fillL_nil] at h5 hb5 ⊢
        obtain ⟨w5, hw5⟩ : ∃ w5, (w4.alloc (.cells ((fillL 0 en).map (Value.int .i64)).toArray 3)).drew = w5 := ⟨_, rfl⟩
        rw [hw5] at h5 hb5 ⊢
        have HB5 := hid hb5
        have H5 := hid h5
        have hl45 := heap_lt h5
        clear hw5 hS3 hmk g0 g4 md m2 hb5 h5
        go_wp2_with fail
        go_loopw [16, 79] (fun _ i wr => ∃ j : Nat, j ≤ en ∧ i = .int .i64 (j : Int) ∧ Hid (wr.heap[w4.heap.size]? = some (.cells ((fillL j en).map (Value.int .i64)).toArray 3 (0, 0)) ∧ Only (fun k => k = w4.heap.size) w5 wr)) (fun _ i _ => en - (intOf i).toNat)
        case atStart => exact ⟨0, Nat.zero_le _, rfl, hid ⟨H5.out, Only.refl _ _⟩⟩
        case round =>
          obtain ⟨j, hj, rfl, HI⟩ := hrel
          by_cases hlt : j < en
          · have zb : wr.frozen? ⟨w4.heap.size, j, none⟩ = false := Lib.frozen_of_heap HI.out.1 j
            have cb : wr.cell? ⟨w4.heap.size, j, none⟩ = some (.int .i64 ((fillL j en)[j]'(by unfold fillL; simpa using hlt))) := by
              rw [Lib.cell_of_heap HI.out.1]
              simp [fillL, hlt]
            generalize (fillL j en)[j]'(by unfold fillL; simpa using hlt) = old at cb
            have hset := heap_setCell_same wr w4.heap.size j _ _ (.int .i64 (j : Int)) HI.out.1
            rw [fillL_set] at hset
            have HSET := hid hset
            clear hset
            go_wp2
            go_roundw
            case rel => exact ⟨j + 1, hlt, by go_num, hid ⟨HSET.out, HI.out.2.trans (Only.of_set wr w4.heap.size j (.int .i64 (j : Int))) (fun _ _ e => e)⟩⟩
            case measure => simp [intOf]; omega
          · have hje : j = en := by omega
            subst hje
            have hh := HI.out.1
            rw [fillL_all] at hh
            have hb4r : Below w4.heap.size w4 wr := HI.out.2.below (fun b e => by rw [e]; omega) HB5.out (by omega)
            have hxr := (hb4r.block _ (heap_lt HX4.out)).trans HX4.out
            have hbn6 := below_new wr (.cells #[.int .u8 3, .slice (some ⟨w4.heap.size, 0, none⟩) j j, .slice none 0 0] 69)
            have hx6 := (hbn6.block _ (heap_lt hxr)).trans hxr
            have ho7 := Only.of_set (wr.alloc (.cells #[.int .u8 3, .slice (some ⟨w4.heap.size, 0, none⟩) j j, .slice none 0 0] 69)) (w.heap.size + 1) 0 (.slice (some ⟨wr.heap.size, 0, none⟩) 1 1)
            have hx7 := heap_setCell_same (wr.alloc (.cells #[.int .u8 3, .slice (some ⟨w4.heap.size, 0, none⟩) j j, .slice none 0 0] 69)) (w.heap.size + 1) 0 _ _ (.slice (some ⟨wr.heap.size, 0, none⟩) 1 1) hx6
            have x6 : (wr.alloc (.cells #[.int .u8 3, .slice (some ⟨w4.heap.size, 0, none⟩) j j, .slice none 0 0] 69)).cell? ⟨w.heap.size + 1, 0, none⟩ = some (.slice none 0 0) := by rw [Lib.cell_of_heap hx6]; rfl
            have z6 : (wr.alloc (.cells #[.int .u8 3, .slice (some ⟨w4.heap.size, 0, none⟩) j j, .slice none 0 0] 69)).frozen? ⟨w.heap.size + 1, 0, none⟩ = false := Lib.frozen_of_heap hx6 0
            have c7 : ((wr.alloc (.cells #[.int .u8 3, .slice (some ⟨w4.heap.size, 0, none⟩) j j, .slice none 0 0] 69)).setCell ⟨w.heap.size + 1, 0, none⟩ (.slice (some ⟨wr.heap.size, 0, none⟩) 1 1)).cell? ⟨w.heap.size + 1, 0, none⟩ = some (.slice (some ⟨wr.heap.size, 0, none⟩) 1 1) := by rw [Lib.cell_of_heap hx7]; rfl
            have hsz4 := HB04.out.size
            have hszr := hb4r.size
            have haut := tryAll_in (B := w.heap.size) hsz4 hh (by omega) rfl hx6 ho7 (by omega)
            have hbr := (((HB04.out.trans (hb4r.mono hsz4)).trans (hbn6.mono (by omega))).trans (ho7.below' (B := w.heap.size) (fun k e => by omega) (by have := hbn6.size; omega)))
            have HFIN := hid (show BuP n (dn : Int) b bn tn w (.returned (.tuple #[.agg #[.slice (some ⟨wr.heap.size, 0, none⟩) 1 1], .int .i64 0])) _ from
              .inr ⟨_, _, by rw [HQ.out, HQ2.out]; unfold Cf.tryAll; rw [HVL.out], rfl, haut, by simp, hbr⟩)
            obtain ⟨iL, hiL, hzL, hsL, hyL⟩ := info_of infoLS
            clear hh hb4r hxr hbn6 hx6 ho7 hx7 haut hbr
            go_wp2_with fail
            simp [bodyPost, results, Tryz.results21, go_sem, c7]
            exact HFIN.out
    · have HQ := hid (show Cf.autoQ n d b budget tokens = none by unfold Cf.autoQ; rw [hnv]; dsimp only; rw [if_neg hgood])
      have qc : w2.cell? ⟨w.heap.size + 1, 0, none⟩ = some (.slice none 0 0) := by rw [Lib.cell_of_heap q1]; rfl
      have qz : w2.frozen? ⟨w.heap.size + 1, 0, none⟩ = false := Lib.frozen_of_heap q1 0
      have ho := Only.of_set w2 (w.heap.size + 1) 0 (.slice none 0 0)
      have HBo := hid (HB2.out.trans (ho.below' (fun k e => by omega) HB2.out.size))
      have ec : (w2.setCell ⟨w.heap.size + 1, 0, none⟩ (.slice none 0 0)).cell? ⟨w.heap.size + 1, 0, none⟩ = some (.slice none 0 0) := by
        rw [Lib.cell_of_heap (heap_setCell_same w2 (w.heap.size + 1) 0 _ _ _ q1)]; rfl
      clear hb2 hnv q1 ho hva
      rcases bad_cases budget tokens hgood with f1 | ⟨f1, f2⟩ | ⟨f1, f2, f3⟩ | ⟨f1, f2, f3, f4⟩
      all_goals
        clear hgood
        go_wp2_with fail
        simp [bodyPost, results, Tryz.results21, go_sem, ec]
        exact .inl ⟨HQ.out, rfl, HBo.out⟩
end Go.Proofs.YtnpcjbdolmmaeaaGreatDoor
