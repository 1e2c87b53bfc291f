/-
  Looks: LkLaw2, LkEd (texts joined).
-/
import Derived.Deep.CutRange
import Derived.Test.YtnpcjbdolmmaeaaGreatDoorL06
import Derived.Test.YtnpcjbdolmmaeaaGreatDoorL32
import Derived.Test.YtnpcjbdolmmaeaaGreatDoorL33
namespace Go.Proofs.YtnpcjbdolmmaeaaGreatDoor
namespace Cf
open Drv
structure OkS (v : Vw) (s : St) : Prop where
  b : SetB v s
  alt : ∀ a ∈ s.alts, 0 ≤ a ∧ a < (v.d.ends.length : Int)
  few : s.alts.length ≤ v.d.ends.length
theorem OkS.of {v : Vw} {l : List Cfg} {s : St} (h : IsSet v l s) (k : SetB v s) : OkS v s := by
  refine ⟨k, ?_, alts_few h k⟩
  unfold IsSet at h
  split at h
  · intro a ha
    obtain ⟨x, hx, rfl⟩ := (h.2.2.mem a).1 ha
    have := has_state (List.mem_filter.1 hx).2
    exact ⟨this.1, this.2.1⟩
  · intro a ha
    obtain ⟨x, hx, rfl⟩ := (h.2.2.mem a).1 ha
    have := has_state (k.ok x hx).2
    exact ⟨this.1, this.2.1⟩
theorem OkS.move {v : Vw} {s t : St} {tok : Int} (h : if s.over = true then t = ⟨[], [], false⟩ else IsSet v (moveL v s tok) t) (k : SetB v t) : OkS v t := by
  split at h
  · subst h; exact ⟨k, fun a ha => (by cases ha), Nat.zero_le _⟩
  · exact OkS.of h k
theorem OkS.sg {v : Vw} {s : St} (W : OkW v) (he : v.d.ends.length ≤ 1000000) (h : OkS v s) : SgOk s := by
  refine ⟨fun a ha => ?_, Nat.le_trans h.few he, h.b.few, fun x hx => ?_⟩
  · have := h.alt a ha
    constructor <;> omega
  · obtain ⟨hb, _⟩ := h.b.ok x hx
    have h1 := hb.len W
    refine ⟨hb.alt, hb.state, fun n hn => ?_, by omega⟩
    have := hb.stk n hn
    have := W.states
    constructor <;> omega
def midA (done : List LSt) (sets : List St) (i : Nat) : List LSt := done ++ (sets.drop i).map freshL
theorem midA_push (done : List LSt) (sets : List St) (i : Nat) (s : St) (h : i ≤ sets.length) : midA done sets i ++ [freshL s] = midA done (sets ++ [s]) i := by
  unfold midA
  rw [List.drop_append_of_le_length h, List.map_append, List.append_assoc]; rfl
theorem midA_at {done : List LSt} {sets : List St} {i : Nat} (hd : done.length = i) (h : i < sets.length) : ∃ hi : i < (midA done sets i).length, (midA done sets i)[i] = freshL sets[i] := by
  refine ⟨by unfold midA; rw [List.length_append, List.length_map, List.length_drop]; omega, ?_⟩
  unfold midA
  rw [List.getElem_append_right (by omega)]
  simp [hd]
theorem midA_len {done : List LSt} {sets : List St} {i : Nat} (hd : done.length = i) (h : i ≤ sets.length) : (midA done sets i).length = sets.length := by
  unfold midA
  rw [List.length_append, List.length_map, List.length_drop]; omega
theorem midA_set {done : List LSt} {sets : List St} {i : Nat} (hd : done.length = i) (h : i < sets.length) (x : LSt) : (midA done sets i).set i x = midA (done ++ [x]) sets (i + 1) := by
  unfold midA
  rw [List.set_append_right _ _ (by omega), hd, Nat.sub_self, List.drop_eq_getElem_cons h, List.map_cons, List.set_cons_zero, List.append_assoc]
  rfl
theorem midA_skip {done : List LSt} {sets : List St} {i : Nat} (h : i < sets.length) : midA done sets i = midA (done ++ [freshL sets[i]]) sets (i + 1) := by
  unfold midA
  rw [List.drop_eq_getElem_cons h, List.map_cons, List.append_assoc]
  rfl
theorem midA_end (done : List LSt) (sets : List St) : midA done sets sets.length = done := by
  unfold midA
  simp
theorem toks_len (n : Nat) : (toks n).length = n + 1 := by unfold toks; simp
theorem toks_at (n j : Nat) (h : j < n + 1) : (toks n).drop j = ((j : Int) - 1) :: (toks n).drop (j + 1) := by
  have hl : j < (toks n).length := by rw [toks_len]; exact h
  have e : (toks n)[j] = (j : Int) - 1 := by simp [toks]
  rw [List.drop_eq_getElem_cons hl, e]
theorem toks_end (n : Nat) : (toks n).drop (n + 1) = [] := List.drop_eq_nil_of_le (by rw [toks_len]; exact Nat.le_refl _)
end Cf
end Go.Proofs.YtnpcjbdolmmaeaaGreatDoor
namespace Go.Proofs.YtnpcjbdolmmaeaaGreatDoor
open Go.RowKit Go.Maps
set_option maxRecDepth 100000
theorem clipE_any (A : Option Addr) (n c : Nat) (w : World) (hc : n ≤ c) : Calls Tryz.prog 91 #[.slice A n c] w fun e w' => e = .returned (.slice A n n) ∧ w' = w := by
  go_enter Tryz.func91, Tryz.ntmps91
  go_wp2
  go_ret
  exact ⟨rfl, rfl⟩
theorem infoLE : (Tryz.prog.info? 71).map (fun i => (i.zero, i.size, i.bytes)) = some (some (.agg #[.int .i64 0, .int .i64 0]), 2, 16) := by kernel_rfl
structure LkOk (f : LkF) : Prop where
  W : Cf.OkW f.v
  ends : f.v.d.ends.length ≤ 1000000
  budget : f.budget ≤ 4096
  tokens : f.tokens ≤ 64
structure EdI (f : LkF) (w : World) (sets : List Cf.St) (done : List Drv.LSt) (i j : Nat) (sj : List Cf.St) (oj : List (Int × Int)) (ov : Value) (wr : World) : Prop where
  run : ∀ s, sets[i]? = some s → Cf.edgesF f.v s f.budget (Cf.toks f.tokens) sets [] = Cf.edgesF f.v s f.budget ((Cf.toks f.tokens).drop j) sj oj
  at_ : BlAt wr f w.heap.size sj sj (Cf.midA done sj i)
  row : wr.ownsRow w.heap.size 71 2 ov oj.length (flat encL2 oj)
  below : Below f.B0 w wr
  pre : ∃ r, sj = sets ++ r
  len : sj.length ≤ f.budget
  ok : ∀ s ∈ sj, Cf.OkS f.v s
  few : oj.length ≤ j
  kept : LkKept w wr
theorem LkKept.newer {w w1 w2 : World} {S : Nat → Prop} (h : LkKept w w1) (ho : Only S w1 w2) (hS : ∀ k, S k → w.heap.size ≤ k) : LkKept w w2 := fun k cs T e h1 h2 h3 => by
  have e1 := h k cs T e h1 h2 h3
  exact (ho.block k (heap_lt e1) (fun hk => by have := hS k hk; have := heap_lt e; omega)).trans e1
def EdP (f : LkF) (sets : List Cf.St) (done : List Drv.LSt) (i : Nat) (s : Cf.St) (w : World) (e : Ending) (w' : World) : Prop :=
  match Cf.edgesF f.v s f.budget (Cf.toks f.tokens) sets [] with
  | none => e = .panicked [{ v := .iface 144 (.agg #[]), recovered := false }] ∧ Below f.B0 w w' ∧ LkKept w w'
  | some (sets', out) => e = .returned (.tuple #[]) ∧ BlAt w' f w'.heap.size sets' sets' (Cf.midA (done ++ [⟨0, [], out⟩]) sets' (i + 1)) ∧ Below f.B0 w w' ∧ (∀ s ∈ sets', Cf.OkS f.v s) ∧ LkKept w w'
theorem flatL2_snoc (l : List (Int × Int)) (a b : Int) : flat encL2 (l ++ [(a, b)]) = flat encL2 l ++ [.int .i64 a, .int .i64 b] := by rw [flat_snoc]; rfl
set_option maxHeartbeats 8000000 in
theorem edges_skip (f : LkF) (sets : List Cf.St) (done : List Drv.LSt) (i : Nat) (w : World) (E : Nat) (hi : i < sets.length) (hd : done.length = i) (h : BlAt w f E sets sets (Cf.midA done sets i)) (hk : ¬ Cf.kindS sets[i] = 0) :
    Calls Tryz.prog 69 #[.pointer (some ⟨f.B, 0, none⟩), .int .i64 (i : Int)] w fun e w' => e = .returned (.tuple #[]) ∧ Below w.heap.size w w' := by
  obtain ⟨sv, av, ss, ass, hr⟩ := h.rows
  obtain ⟨him, hat⟩ := Cf.midA_at hd hi
  obtain ⟨AV, avc, rfl⟩ := row_form hr.aown
  obtain ⟨vx, hlx, hlk⟩ := hr.aset.at i him
  rw [hat] at hlx
  obtain ⟨AA, ac, EA, ec, rfl, _, _⟩ := hlx
  obtain ⟨ga, hga⟩ : ∃ g, AV = some ⟨g, 0, none⟩ := by
    rcases hr.aown.2 with ⟨_, h0⟩ | ⟨g, c, cur, hv, _⟩
    · omega
    · injection hv with hv _ _
      exact ⟨g, hv⟩
  subst hga
  have hcell := hr.aown.cells (g := ga) rfl (i * 3) (.int .u8 (Cf.freshL sets[i]).kind) (by have := hlk 0 (by omega); rw [Nat.add_zero] at this; rw [this]; rfl)
  rw [addr_off, Nat.zero_add] at hcell
  obtain ⟨b0, b1, b2, b3, b4, b5, bz⟩ := hr.cells
  have hkk : (Cf.freshL sets[i]).kind = Cf.kindS sets[i] := rfl
  rw [hkk] at hcell
  have f1 : (Cf.kindS sets[i] != 0) = true := by rw [bne_iff_ne]; exact hk
  generalize Cf.kindS sets[i] = k at hcell f1
  generalize hm : (Cf.midA done sets i).length = m at b3
  have hil : (i : Int) < (m : Int) := by omega
  clear hr hlk h hat hk hkk hd
  go_enter Tryz.func69, Tryz.ntmps69
  go_wp2_with fail
  refine bodyPost_ret (results_none rfl _ _ _) rfl ?_
  exact ⟨rfl, Below.refl _ _⟩
set_option maxHeartbeats 16000000 in
theorem edges_any (f : LkF) (K : LkOk f) (sets : List Cf.St) (done : List Drv.LSt) (i : Nat) (w : World) (E : Nat) (hi : i < sets.length) (hd : done.length = i) (h : BlAt w f E sets sets (Cf.midA done sets i)) (hk : Cf.kindS sets[i] = 0) (hok : ∀ s ∈ sets, Cf.OkS f.v s) (hlen : sets.length ≤ f.budget) :
    Calls Tryz.prog 69 #[.pointer (some ⟨f.B, 0, none⟩), .int .i64 (i : Int)] w (EdP f sets done i sets[i] w) := by
  obtain ⟨sv, av, ss, ass, hr⟩ := h.rows
  obtain ⟨him, hat⟩ := Cf.midA_at hd hi
  obtain ⟨AV, avc, rfl⟩ := row_form hr.aown
  obtain ⟨vx, hlx, hlk⟩ := hr.aset.at i him
  rw [hat] at hlx
  obtain ⟨AA, ac, EA, ec, rfl, _, _⟩ := hlx
  obtain ⟨ga, hga⟩ : ∃ g, AV = some ⟨g, 0, none⟩ := by
    rcases hr.aown.2 with ⟨_, h0⟩ | ⟨g, c, cur, hv, _⟩
    · omega
    · injection hv with hv _ _
      exact ⟨g, hv⟩
  subst hga
  have hcell := hr.aown.cells (g := ga) rfl (i * 3) (.int .u8 (Cf.freshL sets[i]).kind) (by have := hlk 0 (by omega); rw [Nat.add_zero] at this; rw [this]; rfl)
  rw [addr_off, Nat.zero_add] at hcell
  obtain ⟨b0, b1, b2, b3, b4, b5, bz⟩ := hr.cells
  have hkk : (Cf.freshL sets[i]).kind = Cf.kindS sets[i] := rfl
  rw [hkk, hk] at hcell
  obtain ⟨s, hs⟩ : ∃ s, sets[i] = s := ⟨_, rfl⟩
  have hsi : sets[i]? = some s := by rw [List.getElem?_eq_getElem hi, hs]
  rw [hs] at hk ⊢
  generalize hm : (Cf.midA done sets i).length = m at b3
  have hil : (i : Int) < (m : Int) := by omega
  have HI0 : Hid (EdI f w sets done i 0 sets [] (.slice none 0 0) w) := hid ⟨fun s' e => by rw [List.drop_zero], h.own, World.ownsRow_nil _ _ _ _, Below.refl _ _, ⟨[], by simp⟩, hlen, hok, Nat.zero_le _, .refl _⟩
  have HK := hid K
  have HSI := hid hsi
  have HKS := hid hk
  have HD := hid hd
  have htk := K.tokens
  have HW0 := hid h.hw
  have hbud := K.budget
  clear hr hlk h hat hk hkk hok hlen hm hs hsi K hd
  go_enter Tryz.func69, Tryz.ntmps69
  go_wp2_with fail
  clear b0 b1 b2 b3 b4 b5 bz hcell hil
  go_loopw [4, 5] (fun o tv wr => ∃ (j : Nat) (t : Int) (sj : List Cf.St) (oj : List (Int × Int)) (ov : Value), ov = o ∧ tv = .int .i64 t ∧ Hid (t = (j : Int) - 1 ∧ j ≤ f.tokens + 1) ∧ Hid (EdI f w sets done i j sj oj ov wr)) (fun _ tv _ => f.tokens + 2 - (intOf tv + 1).toNat)
  case atStart => exact ⟨0, -1, sets, [], _, rfl, rfl, hid ⟨by omega, by omega⟩, HI0⟩
  case round =>
    clear HI0
    obtain ⟨j, t, sj, oj, ov, rfl, rfl, HJ, HI⟩ := hrel
    have hj65 : j ≤ 65 := by have := HJ.out; omega
    have ht1 : -1 ≤ t := by have := HJ.out.1; omega
    have ht2 : t ≤ (f.tokens : Int) := by have := HJ.out; omega
    have hwr : IntKind.i64.wrap (t + 1) = t + 1 := w64 (by omega) (by omega)
    obtain ⟨sv, av, ss, ass, hr⟩ := HI.out.at_.rows
    obtain ⟨b0, b1, b2, b3, b4, b5, bz⟩ := hr.cells
    by_cases hlt : t < (f.tokens : Int)
    · have hin : i < sj.length := by
        obtain ⟨r, hr'⟩ := HI.out.pre
        rw [hr', List.length_append]; omega
      have hsj : sj[i] = s := by
        obtain ⟨r, hr'⟩ := HI.out.pre
        have : sj[i]? = some s := by rw [hr', List.getElem?_append_left (by omega)]; exact HSI.out
        rw [List.getElem?_eq_getElem hin] at this
        injection this
      obtain ⟨CA, AA, hsin, e0, e1, e2⟩ := hr.sset.at i hin
      rw [hsj] at hsin e0 e1 e2
      obtain ⟨SV, cs, rfl⟩ := row_form hr.sown
      obtain ⟨gs, hgs⟩ : ∃ g, SV = some ⟨g, 0, none⟩ := by
        rcases hr.sown.2 with ⟨_, h0⟩ | ⟨g, c, cur, hv, _⟩
        · omega
        · injection hv with hv _ _
          exact ⟨g, hv⟩
      subst hgs
      have d0 := hr.sown.cells (g := gs) rfl (i * 3) _ e0
      have d1 := hr.sown.cells (g := gs) rfl (i * 3 + 1) _ e1
      have d2 := hr.sown.cells (g := gs) rfl (i * 3 + 2) _ e2
      rw [addr_off, Nat.zero_add] at d0 d1 d2
      have hgsl := (World.ownsRow.lt hr.sown gs rfl).2
      have hBl := heap_lt hr.blk
      have HOK := hid (HI.out.ok s (by rw [← hsj]; exact List.getElem_mem hin))
      have HTD := hid (Cf.toks_at f.tokens j (by have := HJ.out; omega))
      have HSIN := hid hsin
      generalize hnn : sj.length = n at b4 hr
      have hinn : (i : Int) < (n : Int) := by omega
      have hinn2 : i < n := by omega
      have HNN := hid hnn
      clear hr hsin e0 e1 e2 hnn
      go_upto_region 5 with fail
      go_cut [6] from 17 to 49 (fun p wx => ∃ (b : Nat) (x : Cf.St) (CX AX : Option Addr), p = .pointer (some ⟨b, 0, none⟩) ∧ Hid (Below wr.heap.size wr wx ∧ wx.heap[b]? = some (.cells #[.slice CX x.configs.length x.configs.length, .slice AX x.alts.length x.alts.length, .bool x.over] 43 (0, 0)) ∧ wr.heap.size ≤ b ∧ SetIn wx f.B0 CX AX x ∧ Cf.OkS f.v x ∧ Cf.moveF f.v s t = x))
      case first =>
        obtain ⟨ws, hws⟩ : ∃ ws, Hid (wr.drew = ws) := ⟨_, hid rfl⟩
        have hbs : Below wr.heap.size wr ws := by rw [← hws.out]; exact (Below.refl _ _).drew
        have HBS := hid hbs
        have HST := hid (fun (uu : World) (hb : Below wr.heap.size wr uu) => (show uu.cell? ⟨f.B, 0, none⟩ = some (.pointer (some ⟨f.V, 0, none⟩)) ∧ uu.cell? ⟨f.B, 4, none⟩ = some (.slice (some ⟨gs, 0, none⟩) n cs) ∧ uu.cell? ⟨gs, i * 3, none⟩ = some (.slice CA s.configs.length s.configs.length) ∧ uu.cell? ⟨gs, i * 3 + 1, none⟩ = some (.slice AA s.alts.length s.alts.length) ∧ uu.cell? ⟨gs, i * 3 + 2, none⟩ = some (.bool s.over) from
          ⟨(hb.cell (p := ⟨f.B, 0, none⟩) hBl).trans b0, (hb.cell (p := ⟨f.B, 4, none⟩) hBl).trans b4, (hb.cell (p := ⟨gs, i * 3, none⟩) hgsl).trans d0, (hb.cell (p := ⟨gs, i * 3 + 1, none⟩) hgsl).trans d1, (hb.cell (p := ⟨gs, i * 3 + 2, none⟩) hgsl).trans d2⟩))
        have HMV := hid (fun (u : World) (hb : Below wr.heap.size wr u) => move_any f.v f.a f.V s t CA AA u ((HI.out.at_.below hb).view.more (HI.out.at_.below hb).hw) HK.out.W HOK.out.b (HSIN.out.below hb).cfr (HI.out.at_.below hb).pt.here)
        unfold setAgg at HMV
        have hB0r := HI.out.at_.hw
        clear hbs
        refine wp_region_late (l := 15) (S := fun w' => w'.cell? ⟨f.B, 0, none⟩ = some (.pointer (some ⟨f.V, 0, none⟩)) ∧ w'.cell? ⟨f.B, 4, none⟩ = some (.slice (some ⟨gs, 0, none⟩) n cs) ∧ w'.cell? ⟨gs, i * 3, none⟩ = some (.slice CA s.configs.length s.configs.length) ∧ w'.cell? ⟨gs, i * 3 + 1, none⟩ = some (.slice AA s.alts.length s.alts.length) ∧ w'.cell? ⟨gs, i * 3 + 2, none⟩ = some (.bool s.over)) (by kernel_rfl) (by rw [hws.out]; exact HST.out ws HBS.out) (fun hHeld => ?_)
        rw [hws.out] at hHeld ⊢
        clear b0 b1 b2 b3 b4 b5 bz d0 d1 d2
        refine wpAnyF_take (i := 0) (.pointer (some ⟨f.B, 0, none⟩)) rfl (by kernel_rfl) (by kernel_rfl) (by kernel_rfl) (by kernel_rfl) (fun _ _ _ h => h) hHeld (by rfl) (fun w' hSw => ?_) ?_
        · obtain ⟨p0, p4, q0, q1, q2⟩ := hSw; go_simp
        simp only [Act.put, List.getElem_toArray, List.getElem_cons_zero, List.setIfInBounds_toArray, List.set_cons_zero, List.set_cons_succ]
        refine wpAnyF_take (i := 1) (.pointer (some ⟨f.B, 0, none⟩)) rfl (by kernel_rfl) (by kernel_rfl) (by kernel_rfl) (by kernel_rfl) (fun _ _ _ h => h) hHeld (by rfl) (fun w' hSw => ?_) ?_
        · obtain ⟨p0, p4, q0, q1, q2⟩ := hSw; go_simp
        try simp only [Act.put, List.getElem_toArray, List.getElem_cons_zero, List.getElem_cons_succ, List.setIfInBounds_toArray, List.set_cons_zero, List.set_cons_succ]
        refine wpAnyF_take (i := 2) (.pointer (some ⟨f.B, 0, none⟩)) rfl (by kernel_rfl) (by kernel_rfl) (by kernel_rfl) (by kernel_rfl) (fun _ _ _ h => h) hHeld (by rfl) (fun w' hSw => ?_) ?_
        · obtain ⟨p0, p4, q0, q1, q2⟩ := hSw; go_simp
        try simp only [Act.put, List.getElem_toArray, List.getElem_cons_zero, List.getElem_cons_succ, List.setIfInBounds_toArray, List.set_cons_zero, List.set_cons_succ]
        refine wpAnyF_take (i := 3) (.pointer (some ⟨f.V, 0, none⟩)) rfl (by kernel_rfl) (by kernel_rfl) (by kernel_rfl) (by kernel_rfl) (fun _ _ _ h => h) hHeld (by rfl) (fun w' hSw => ?_) ?_
        · obtain ⟨p0, p4, q0, q1, q2⟩ := hSw; go_simp
        try simp only [Act.put, List.getElem_toArray, List.getElem_cons_zero, List.getElem_cons_succ, List.setIfInBounds_toArray, List.set_cons_zero, List.set_cons_succ]
        refine wpAnyF_take (i := 4) (.pointer (some ⟨f.B, 0, none⟩)) rfl (by kernel_rfl) (by kernel_rfl) (by kernel_rfl) (by kernel_rfl) (fun _ _ _ h => h) hHeld (by rfl) (fun w' hSw => ?_) ?_
        · obtain ⟨p0, p4, q0, q1, q2⟩ := hSw; go_simp
        try simp only [Act.put, List.getElem_toArray, List.getElem_cons_zero, List.getElem_cons_succ, List.setIfInBounds_toArray, List.set_cons_zero, List.set_cons_succ]
        refine wpAnyF_take (i := 5) (.pointer (some ⟨f.B, 0, none⟩)) rfl (by kernel_rfl) (by kernel_rfl) (by kernel_rfl) (by kernel_rfl) (fun _ _ _ h => h) hHeld (by rfl) (fun w' hSw => ?_) ?_
        · obtain ⟨p0, p4, q0, q1, q2⟩ := hSw; go_simp
        try simp only [Act.put, List.getElem_toArray, List.getElem_cons_zero, List.getElem_cons_succ, List.setIfInBounds_toArray, List.set_cons_zero, List.set_cons_succ]
        refine wpAnyF_take (i := 6) (.pointer (some ⟨f.B, 4, none⟩)) rfl (by kernel_rfl) (by kernel_rfl) (by kernel_rfl) (by kernel_rfl) (fun _ _ _ h => h) hHeld (by rfl) (fun w' hSw => ?_) ?_
        · obtain ⟨p0, p4, q0, q1, q2⟩ := hSw; go_simp
        try simp only [Act.put, List.getElem_toArray, List.getElem_cons_zero, List.getElem_cons_succ, List.setIfInBounds_toArray, List.set_cons_zero, List.set_cons_succ]
        refine wpAnyF_take (i := 7) (.slice (some ⟨gs, 0, none⟩) n cs) rfl (by kernel_rfl) (by kernel_rfl) (by kernel_rfl) (by kernel_rfl) (fun _ _ _ h => h) hHeld (by rfl) (fun w' hSw => ?_) ?_
        · obtain ⟨p0, p4, q0, q1, q2⟩ := hSw; go_simp
        try simp only [Act.put, List.getElem_toArray, List.getElem_cons_zero, List.getElem_cons_succ, List.setIfInBounds_toArray, List.set_cons_zero, List.set_cons_succ]
        refine wpAnyF_take (i := 8) (.int .i64 (i : Int)) rfl (by kernel_rfl) (by kernel_rfl) (by kernel_rfl) (by kernel_rfl) (fun _ _ _ h => h) hHeld (by rfl) (fun w' hSw => ?_) ?_
        · obtain ⟨p0, p4, q0, q1, q2⟩ := hSw; go_simp
        try simp only [Act.put, List.getElem_toArray, List.getElem_cons_zero, List.getElem_cons_succ, List.setIfInBounds_toArray, List.set_cons_zero, List.set_cons_succ]
        refine wpAnyF_take (i := 9) (.pointer (some ⟨gs, i * 3, none⟩)) rfl (by kernel_rfl) (by kernel_rfl) (by kernel_rfl) (by kernel_rfl) (fun _ _ _ h => h) hHeld (by rfl) (fun w' hSw => ?_) ?_
        · obtain ⟨p0, p4, q0, q1, q2⟩ := hSw; go_simp
        try simp only [Act.put, List.getElem_toArray, List.getElem_cons_zero, List.getElem_cons_succ, List.setIfInBounds_toArray, List.set_cons_zero, List.set_cons_succ]
        refine wpAnyF_take (i := 10) (.agg #[.slice CA s.configs.length s.configs.length, .slice AA s.alts.length s.alts.length, .bool s.over]) rfl (by kernel_rfl) (by kernel_rfl) (by kernel_rfl) (by kernel_rfl) (fun _ _ _ h => h) hHeld (by rfl) (fun w' hSw => ?_) ?_
        · obtain ⟨p0, p4, q0, q1, q2⟩ := hSw; go_simp
        try simp only [Act.put, List.getElem_toArray, List.getElem_cons_zero, List.getElem_cons_succ, List.setIfInBounds_toArray, List.set_cons_zero, List.set_cons_succ]
        refine wpAnyF_take (i := 11) (.int .i64 t) rfl (by kernel_rfl) (by kernel_rfl) (by kernel_rfl) (by kernel_rfl) (fun _ _ _ h => h) hHeld (by rfl) (fun w' hSw => ?_) ?_
        · obtain ⟨p0, p4, q0, q1, q2⟩ := hSw; go_simp
        try simp only [Act.put, List.getElem_toArray, List.getElem_cons_zero, List.getElem_cons_succ, List.setIfInBounds_toArray, List.set_cons_zero, List.set_cons_succ]
        refine wpAnyF_two 12 13 (by kernel_rfl) rfl rfl (fun K hK => ?_) (fun K hK => ?_)
        · go_simp
          go_at_call 17
          refine (HMV.out ws HBS.out).mono ?_
          rintro _ wa ⟨x, CX, AX, rfl, hif, hsb, hxin, hba⟩
          have hrba := HBS.out.trans (hba.mono HBS.out.size)
          have hby := below_new wa (.cells #[.slice none 0 0, .slice none 0 0, .bool false] 43)
          have hxy := heap_alloc_new wa (.cells #[.slice none 0 0, .slice none 0 0, .bool false] 43)
          have HF := hid (And.intro (Cf.OkS.move hif hsb) (Cf.moveF_eq hif))
          have HXI := hid (hxin.base (Nat.le_trans hB0r HBS.out.size))
          have HRB := hid hrba
          have hsza := hrba.size
          unfold setAgg
          dsimp only
          refine hK _ _ (HST.out _ hrba) (fun hHeld => ?_)
          clear hK hif hsb hxin hba hrba
          clear K
          try simp only [Act.put, List.getElem_toArray, List.getElem_cons_zero, List.getElem_cons_succ, List.setIfInBounds_toArray, List.set_cons_zero, List.set_cons_succ]
          refine wpAnyF_step 13 (by kernel_rfl) rfl (fun K hK => ?_)
          go_simp
          obtain ⟨wy, hwy⟩ : ∃ wy, Hid (wa.alloc (.cells #[.slice none 0 0, .slice none 0 0, .bool false] 43) = wy) := ⟨_, hid rfl⟩
          rw [hwy.out] at hby hxy ⊢
          have HBY := hid (HRB.out.trans (hby.mono HRB.out.size))
          have HXY := hid (HXI.out.below hby)
          refine hK _ _ (HST.out _ HBY.out) (fun hHeld => ?_)
          clear hK
          clear K
          try simp only [Act.put, List.getElem_toArray, List.getElem_cons_zero, List.getElem_cons_succ, List.setIfInBounds_toArray, List.set_cons_zero, List.set_cons_succ]
          obtain ⟨hq, ho⟩ := set3 hxy (.slice CX x.configs.length x.configs.length) (.slice AX x.alts.length x.alts.length) (.bool x.over)
          obtain ⟨y0, y1, y2⟩ := cells3 hxy
          have yz : ∀ i, wy.frozen? ⟨wa.heap.size, i, none⟩ = false := fun i => Lib.frozen_of_heap hxy i
          obtain ⟨we, hwe⟩ : ∃ we, Hid (((wy.setCell ⟨wa.heap.size, 0, none⟩ (.slice CX x.configs.length x.configs.length)).setCell ⟨wa.heap.size, 1, none⟩ (.slice AX x.alts.length x.alts.length)).setCell ⟨wa.heap.size, 2, none⟩ (.bool x.over) = we) := ⟨_, hid rfl⟩
          rw [hwe.out] at hq ho
          have HBE := hid (HBY.out.trans (ho.below' (fun k e => by omega) HBY.out.size))
          have HXE := hid (HXY.out.still ho (fun k hk cs => by rw [hk]; exact notP hxy cs))
          have HQE := hid hq
          clear hq ho hxy hby
          refine wpAnyF_step 14 (by kernel_rfl) rfl (fun K hK => ?_)
          go_simp
          rw [hwe.out]
          refine hK _ _ (HST.out _ HBE.out) (fun hHeld => ?_)
          clear hK y0 y1 y2 yz
          clear K
          refine ⟨by kernel_rfl, ?_⟩
          clear hHeld
          go_wp2_with fail
          go_meet
          exact ⟨_, x, CX, AX, rfl, hid ⟨HBE.out, HQE.out, hsza, HXE.out, HF.out.1, HF.out.2⟩⟩
        · go_simp
          have hby := below_new ws (.cells #[.slice none 0 0, .slice none 0 0, .bool false] 43)
          have hxy := heap_alloc_new ws (.cells #[.slice none 0 0, .slice none 0 0, .bool false] 43)
          obtain ⟨wy, hwy⟩ : ∃ wy, Hid (ws.alloc (.cells #[.slice none 0 0, .slice none 0 0, .bool false] 43) = wy) := ⟨_, hid rfl⟩
          rw [hwy.out] at hby hxy ⊢
          have HBY := hid (HBS.out.trans (hby.mono HBS.out.size))
          have HXY := hid hxy
          have hsza := HBS.out.size
          refine hK _ _ (HST.out _ HBY.out) (fun hHeld => ?_)
          clear hK hby hxy
          clear K
          try simp only [Act.put, List.getElem_toArray, List.getElem_cons_zero, List.getElem_cons_succ, List.setIfInBounds_toArray, List.set_cons_zero, List.set_cons_succ]
          refine wpAnyF_step 12 (by kernel_rfl) rfl (fun K hK => ?_)
          go_simp
          go_at_call 17
          refine (HMV.out wy HBY.out).mono ?_
          rintro _ wa ⟨x, CX, AX, rfl, hif, hsb, hxin, hba⟩
          have hrba := HBY.out.trans (hba.mono HBY.out.size)
          have HF := hid (And.intro (Cf.OkS.move hif hsb) (Cf.moveF_eq hif))
          have HXI := hid (hxin.base (Nat.le_trans hB0r HBY.out.size))
          have HRB := hid hrba
          have hxy := (hba.block _ (heap_lt HXY.out)).trans HXY.out
          unfold setAgg
          dsimp only
          refine hK _ _ (HST.out _ hrba) (fun hHeld => ?_)
          clear hK hif hsb hxin hba hrba
          clear K
          try simp only [Act.put, List.getElem_toArray, List.getElem_cons_zero, List.getElem_cons_succ, List.setIfInBounds_toArray, List.set_cons_zero, List.set_cons_succ]
          obtain ⟨hq, ho⟩ := set3 hxy (.slice CX x.configs.length x.configs.length) (.slice AX x.alts.length x.alts.length) (.bool x.over)
          obtain ⟨y0, y1, y2⟩ := cells3 hxy
          have yz : ∀ i, wa.frozen? ⟨ws.heap.size, i, none⟩ = false := fun i => Lib.frozen_of_heap hxy i
          obtain ⟨we, hwe⟩ : ∃ we, Hid (((wa.setCell ⟨ws.heap.size, 0, none⟩ (.slice CX x.configs.length x.configs.length)).setCell ⟨ws.heap.size, 1, none⟩ (.slice AX x.alts.length x.alts.length)).setCell ⟨ws.heap.size, 2, none⟩ (.bool x.over) = we) := ⟨_, hid rfl⟩
          rw [hwe.out] at hq ho
          have HBE := hid (HRB.out.trans (ho.below' (fun k e => by omega) HRB.out.size))
          have HXE := hid (HXI.out.still ho (fun k hk cs => by rw [hk]; exact notP hxy cs))
          have HQE := hid hq
          clear hq ho hxy
          refine wpAnyF_step 14 (by kernel_rfl) rfl (fun K hK => ?_)
          go_simp
          rw [hwe.out]
          refine hK _ _ (HST.out _ HBE.out) (fun hHeld => ?_)
          clear hK y0 y1 y2 yz
          clear K
          refine ⟨by kernel_rfl, ?_⟩
          clear hHeld
          go_wp2_with fail
          go_meet
          exact ⟨_, x, CX, AX, rfl, hid ⟨HBE.out, HQE.out, hsza, HXE.out, HF.out.1, HF.out.2⟩⟩
      case rest =>
        rename World => wx
        obtain ⟨b, x, CX, AX, rfl, HC⟩ := hcut
        obtain ⟨x0, x1, x2⟩ := cells3 HC.out.2.1
        have HIX := hid (show EdI f w sets done i j sj oj ov wx from ⟨HI.out.run, HI.out.at_.below HC.out.1, ownsRow_below HI.out.row HC.out.1 (Nat.le_refl _), HI.out.below.trans (HC.out.1.mono HI.out.at_.hw), HI.out.pre, HI.out.len, HI.out.ok, HI.out.few, HI.out.kept.trans (.below HC.out.1)⟩)
        have hxal : x.alts.length ≤ 1000000 := Nat.le_trans HC.out.2.2.2.2.1.few HK.out.ends
        obtain ⟨na, hna⟩ : ∃ na, x.alts.length = na := ⟨_, rfl⟩
        have HNA := hid hna
        rw [hna] at x1 hxal
        clear b0 b1 b2 b3 b4 b5 bz d0 d1 d2 hna
        by_cases h0 : na = 0
        · have HR2 := hid (show ∀ s', sets[i]? = some s' → Cf.edgesF f.v s' f.budget (Cf.toks f.tokens) sets [] = Cf.edgesF f.v s' f.budget ((Cf.toks f.tokens).drop (j + 1)) sj oj from fun s' e => by
            obtain rfl : s = s' := Option.some.inj (HSI.out.symm.trans e)
            rw [HIX.out.run s e, HTD.out, Cf.edgesF_cons, ← HJ.out.1, HC.out.2.2.2.2.2, if_pos (by rw [HNA.out]; exact h0)])
          subst h0
          go_wp2_with fail
          go_roundw
          case rel => exact ⟨j + 1, t + 1, sj, oj, _, rfl, rfl, hid ⟨by have := HJ.out; omega, by have := HJ.out; omega⟩, hid ⟨HR2.out, HIX.out.at_, HIX.out.row, HIX.out.below, HIX.out.pre, HIX.out.len, HIX.out.ok, Nat.le_succ_of_le HIX.out.few, HIX.out.kept⟩⟩
          case measure => simp only [intOf]; omega
        · have f1 : decide ((0 : Int) < (na : Int)) = true := decide_eq_true (by omega)
          have f2 : decide (0 < na) = true := decide_eq_true (by omega)
          have hsl : sj.length ≤ 4096 := by have := HIX.out.len; omega
          have hpl := place_any f sj (Cf.midA done sj i) x CX AX wx w.heap.size HIX.out.at_ HC.out.2.2.2.1 (HC.out.2.2.2.2.1.sg HK.out.W HK.out.ends) (by omega) (by rw [Cf.midA_len HD.out (by omega)]; omega)
          unfold setAgg at hpl
          rw [HNA.out] at hpl
          have HPLC := hid hpl
          have HR2 := hid (show ∀ s', sets[i]? = some s' → Cf.edgesF f.v s' f.budget (Cf.toks f.tokens) sets [] = (match Cf.findS sj x with
              | some k => Cf.edgesF f.v s' f.budget ((Cf.toks f.tokens).drop (j + 1)) sj (oj ++ [(t, (k : Int))])
              | none => if f.budget ≤ sj.length then none else Cf.edgesF f.v s' f.budget ((Cf.toks f.tokens).drop (j + 1)) (sj ++ [x]) (oj ++ [(t, (sj.length : Int))])) from fun s' e => by
            obtain rfl : s = s' := Option.some.inj (HSI.out.symm.trans e)
            rw [HIX.out.run s e, HTD.out, Cf.edgesF_cons, ← HJ.out.1, HC.out.2.2.2.2.2, if_neg (by rw [HNA.out]; exact h0)]
            cases Cf.findS sj x <;> rfl)
          clear hpl h0
          go_wp2_with fail
          go_at_call 68
          refine HPLC.out.mono ?_
          intro e6 w6 hP
          unfold PlcP at hP
          obtain ⟨EV, evc, rfl⟩ := row_form HIX.out.row
          have hfew := HIX.out.few
          have hwsz := HIX.out.below.size
          obtain ⟨iE, hiE, hzE, hsE, hyE⟩ := info_of infoLE
          cases hfs : Cf.findS sj x with
          | some k =>
            rw [hfs] at hP HR2
            obtain ⟨rfl, hb6⟩ := hP
            have H6 := hid (HIX.out.at_.below hb6)
            have hrow6 := ownsRow_below HIX.out.row hb6 (Nat.le_refl _)
            have hb06 := HIX.out.below.trans (hb6.mono HIX.out.at_.hw)
            have HB06 := hid hb06
            have HK06 := hid (HIX.out.kept.trans (LkKept.below hb6))
            have HRW := hid hrow6
            have hB6 := H6.out.hw
            have hw6sz := hb6.size
            clear hb6 hb06 hfs x0 x1 x2
            generalize hol : oj.length = ol at hrow6 hfew HRW
            have HOL := hid hol
            have hB0s : w.heap.size ≤ w6.heap.size := Nat.le_trans hwsz hw6sz
            clear hol
            go_wp2_with (at_builtin; refine wpList_push4 w6 rfl _ _ 67 rfl w.heap.size 71 iE _ 2 16 Tryz.underlying67 hiE hzE hsE hyE rfl (by omega) (.slice EV ol evc) ol _ rfl hrow6 [.int .i64 t, .int .i64 (k : Int)] 1 w6.heap.size rfl rfl rfl (by simp [Value.oneCell']) Nat.zero_lt_one (by simp only [maxLen]; omega) (by omega) hB0s ?_; intro g9 c9 w9 hown9 hg9 ho9)
            go_roundw
            case rel =>
              have hlt9 := fun k' hk' => World.ownsRow.lt HRW.out k' hk'
              refine ⟨j + 1, t + 1, sj, oj ++ [(t, (k : Int))], _, rfl, rfl, hid ⟨by have := HJ.out; omega, by have := HJ.out; omega⟩, hid ⟨HR2.out, H6.out.edge ho9 (fun k' hk' => ⟨(hlt9 k' hk').1, own_type HRW.out hk'⟩) HW0.out, ?_, HB06.out.trans (ho9.below' (fun k' hk' => Nat.le_trans HW0.out (hlt9 k' hk').1) hB6), HIX.out.pre, HIX.out.len, HIX.out.ok, by rw [List.length_append, HOL.out]; simp; omega, HK06.out.newer ho9 (fun k' hk' => (hlt9 k' hk').1)⟩⟩
              rw [List.length_append, HOL.out, flatL2_snoc]
              exact hown9
            case measure => simp only [intOf]; omega
          | none =>
            rw [hfs] at hP HR2
            simp only at hP HR2
            by_cases hg : f.budget ≤ sj.length
            · rw [if_pos hg] at hP
              obtain ⟨rfl, hb6⟩ := hP
              have HFIN : Hid (EdP f sets done i s w (.panicked [{ v := .iface 144 (.agg #[]), recovered := false }]) w6) := hid (by
                unfold EdP
                rw [HR2.out s HSI.out, if_pos hg]
                exact ⟨rfl, HIX.out.below.trans (hb6.mono HIX.out.at_.hw), HIX.out.kept.trans (LkKept.below hb6)⟩)
              clear hb6 hg hfs
              go_wp2_with fail
              exact ⟨rfl, HFIN.out⟩
            · rw [if_neg hg] at hP
              obtain ⟨rfl, h6, hb6, hk6⟩ := hP
              rw [Cf.midA_push done sj i x (by omega)] at h6
              have H6 := hid h6
              have hrow6 := row_kept HIX.out.row hk6 (by decide) (by decide) (by decide)
              have HB06 := hid (HIX.out.below.trans hb6)
              have HK06 := hid (HIX.out.kept.trans hk6)
              have HRW := hid hrow6
              have hB6 := H6.out.hw
              have hw6sz := hb6.size
              have HR3 := hid (show ∀ s', sets[i]? = some s' → Cf.edgesF f.v s' f.budget (Cf.toks f.tokens) sets [] = Cf.edgesF f.v s' f.budget ((Cf.toks f.tokens).drop (j + 1)) (sj ++ [x]) (oj ++ [(t, (sj.length : Int))]) from fun s' e => by rw [HR2.out s' e, if_neg hg])
              have hlen' : (sj ++ [x]).length ≤ f.budget := by rw [List.length_append]; simp; omega
              have HLEN := hid hlen'
              have HPRE := hid (show ∃ r, sj ++ [x] = sets ++ r by
                obtain ⟨r, hr'⟩ := HIX.out.pre
                exact ⟨r ++ [x], by rw [hr', List.append_assoc]⟩)
              have HOKX := hid (show ∀ s' ∈ sj ++ [x], Cf.OkS f.v s' from fun s' hs' => by
                rcases List.mem_append.1 hs' with hs' | hs'
                · exact HIX.out.ok s' hs'
                · rw [List.mem_singleton.1 hs']; exact HC.out.2.2.2.2.1)
              generalize hsjn : sj.length = nj at HR3
              have HSJN := hid hsjn
              clear h6 hb6 hk6 hg hfs x0 x1 x2 hsjn hlen'
              generalize hol : oj.length = ol at hrow6 hfew HRW
              have HOL := hid hol
              have hB0s : w.heap.size ≤ w6.heap.size := Nat.le_trans hwsz hw6sz
              clear hol
              go_wp2_with (at_builtin; refine wpList_push4 w6 rfl _ _ 67 rfl w.heap.size 71 iE _ 2 16 Tryz.underlying67 hiE hzE hsE hyE rfl (by omega) (.slice EV ol evc) ol _ rfl hrow6 [.int .i64 t, .int .i64 (nj : Int)] 1 w6.heap.size rfl rfl rfl (by simp [Value.oneCell']) Nat.zero_lt_one (by simp only [maxLen]; omega) (by omega) hB0s ?_; intro g9 c9 w9 hown9 hg9 ho9)
              go_roundw
              case rel =>
                have hlt9 := fun k' hk' => World.ownsRow.lt HRW.out k' hk'
                refine ⟨j + 1, t + 1, sj ++ [x], oj ++ [(t, (nj : Int))], _, rfl, rfl, hid ⟨by have := HJ.out; omega, by have := HJ.out; omega⟩, hid ⟨HR3.out, H6.out.edge ho9 (fun k' hk' => ⟨(hlt9 k' hk').1, own_type HRW.out hk'⟩) HW0.out, ?_, HB06.out.trans (ho9.below' (fun k' hk' => Nat.le_trans HW0.out (hlt9 k' hk').1) hB6), HPRE.out, HLEN.out, HOKX.out, by rw [List.length_append, HOL.out]; simp; omega, HK06.out.newer ho9 (fun k' hk' => (hlt9 k' hk').1)⟩⟩
                rw [List.length_append, HOL.out, flatL2_snoc]
                exact hown9
              case measure => simp only [intOf]; omega
    · have hjt : j = f.tokens + 1 := by have := HJ.out; omega
      have HRF := hid (show Cf.edgesF f.v s f.budget (Cf.toks f.tokens) sets [] = some (sj, oj) by
        rw [HI.out.run s HSI.out, hjt, Cf.toks_end]; rfl)
      have hin : i < sj.length := by
        obtain ⟨r, hr'⟩ := HI.out.pre
        rw [hr', List.length_append]; omega
      have hsj : sj[i] = s := by
        obtain ⟨r, hr'⟩ := HI.out.pre
        have : sj[i]? = some s := by rw [hr', List.getElem?_append_left (by omega)]; exact HSI.out
        rw [List.getElem?_eq_getElem hin] at this
        injection this
      obtain ⟨him2, hat2⟩ := Cf.midA_at HD.out hin
      rw [hsj] at hat2
      obtain ⟨AV2, avc2, rfl⟩ := row_form hr.aown
      obtain ⟨vx, hlx, hlk⟩ := hr.aset.at i him2
      rw [hat2] at hlx
      obtain ⟨A3, c3, E3, c4, rfl, _, _⟩ := hlx
      obtain ⟨ga2, hga2⟩ : ∃ g, AV2 = some ⟨g, 0, none⟩ := by
        rcases hr.aown.2 with ⟨_, h0⟩ | ⟨g, c, cur, hv, _⟩
        · omega
        · injection hv with hv _ _
          exact ⟨g, hv⟩
      subst hga2
      obtain ⟨EA2, ec2, rfl⟩ := row_form HI.out.row
      have hcell := hr.aown.cells (g := ga2) rfl (i * 3 + 2) (.slice E3 (Cf.freshL s).edges.length c4) (by rw [hlk 2 (by omega)]; rfl)
      rw [addr_off, Nat.zero_add] at hcell
      obtain ⟨b0, b1, b2, b3, b4, b5, bz⟩ := hr.cells
      have hBl := heap_lt hr.blk
      have hgl := (World.ownsRow.lt hr.aown ga2 rfl).2
      have hrow := HI.out.row
      have hoc : OwnC wr f.B0 71 2 (.slice EA2 oj.length oj.length) oj.length (flat encL2 oj) := ((OwnC.of hrow).clip).base HW0.out
      obtain ⟨ws, hws⟩ : ∃ ws, Hid (wr.drew = ws) := ⟨_, hid rfl⟩
      have hbs : Below wr.heap.size wr ws := by rw [← hws.out]; exact (Below.refl _ _).drew
      have hrs := hr.below hbs
      have hocs := hoc.kept (.below hbs) (by decide) (by decide) (by decide)
      have hats := HI.out.at_.below hbs
      have hse := hats.setE (E' := ws.heap.size) (Nat.le_trans HI.out.below.size hbs.size) hrs hocs (fun k hk => (ownC_lt hocs k hk).2) i him2
      have c3 : ws.cell? ⟨f.B, 3, none⟩ = some (.slice (some ⟨ga2, 0, none⟩) (Cf.midA done sj i).length avc2) := (hbs.cell (p := ⟨f.B, 3, none⟩) hBl).trans b3
      have cg : ws.cell? ⟨ga2, i * 3 + 2, none⟩ = some (.slice E3 (Cf.freshL s).edges.length c4) := (hbs.cell (p := ⟨ga2, i * 3 + 2, none⟩) hgl).trans hcell
      have hfz := hrs.aown.frozenAt (i * 3 + 2)
      have hcap : oj.length ≤ ec2 := by
        obtain ⟨A7, c7, e7, h7⟩ := (OwnC.of hrow).form
        injection e7 with _ _ e7
        omega
      have hk2 : (Cf.midA done sj i).set i ⟨(Cf.midA done sj i)[i].kind, (Cf.midA done sj i)[i].alts, oj⟩ = Cf.midA (done ++ [⟨0, [], oj⟩]) sj (i + 1) := by
        rw [hat2]
        unfold Cf.freshL
        dsimp only
        rw [HKS.out, if_pos rfl]
        exact Cf.midA_set HD.out hin _
      rw [hk2] at hse
      obtain ⟨wf, hwf⟩ : ∃ wf, Hid (ws.setCell ⟨ga2, i * 3 + 2, none⟩ (.slice EA2 oj.length oj.length) = wf) := ⟨_, hid rfl⟩
      rw [hwf.out] at hse
      have hBf := (HI.out.below.trans (hbs.mono HI.out.at_.hw)).trans hse.2.2
      have HFIN : Hid (EdP f sets done i s w (.returned (.tuple #[])) wf) := hid (by
        unfold EdP
        rw [HRF.out]
        exact ⟨rfl, hse.1.own, hBf, HI.out.ok, (HI.out.kept.trans (LkKept.below hbs)).trans hse.2.1⟩)
      have hil2 : (i : Int) < ((Cf.midA done sj i).length : Int) := by omega
      clear hse hBf hk2 hats hocs hrs hoc hrow hbs hr hlk hat2 hcell b0 b1 b2 b3 b4 b5 bz hsj hjt
      generalize (Cf.midA done sj i).length = m2 at c3 hil2 him2
      go_upto_region 8 with fail
      refine wp_region_late (l := 10) (S := fun w' => w'.cell? ⟨f.B, 3, none⟩ = some (.slice (some ⟨ga2, 0, none⟩) m2 avc2)) (by kernel_rfl) (by rw [hws.out]; exact c3) (fun hHeld => ?_)
      rw [hws.out] at hHeld ⊢
      refine wpAnyF_take2 (i := 0) (.pointer (some ⟨f.B, 0, none⟩)) (by kernel_rfl) rfl (by decide) (by kernel_rfl) (by kernel_rfl) (by kernel_rfl) (by kernel_rfl) (fun _ _ _ h => h) hHeld (by rfl) (fun w' hSw => ?_) ?_
      · go_simp
      simp only [Act.put, List.getElem_toArray, List.getElem_cons_zero, List.setIfInBounds_toArray, List.set_cons_zero, List.set_cons_succ]
      refine wpAnyF_take2 (i := 1) (.pointer (some ⟨f.B, 0, none⟩)) (by kernel_rfl) rfl (by decide) (by kernel_rfl) (by kernel_rfl) (by kernel_rfl) (by kernel_rfl) (fun _ _ _ h => h) hHeld (by rfl) (fun w' hSw => ?_) ?_
      · go_simp
      try simp only [Act.put, List.getElem_toArray, List.getElem_cons_zero, List.getElem_cons_succ, List.setIfInBounds_toArray, List.set_cons_zero, List.set_cons_succ]
      refine wpAnyF_take2 (i := 2) (.pointer (some ⟨f.B, 3, none⟩)) (by kernel_rfl) rfl (by decide) (by kernel_rfl) (by kernel_rfl) (by kernel_rfl) (by kernel_rfl) (fun _ _ _ h => h) hHeld (by rfl) (fun w' hSw => ?_) ?_
      · go_simp
      try simp only [Act.put, List.getElem_toArray, List.getElem_cons_zero, List.getElem_cons_succ, List.setIfInBounds_toArray, List.set_cons_zero, List.set_cons_succ]
      refine wpAnyF_take2 (i := 3) (.pointer (some ⟨f.B, 3, none⟩)) (by kernel_rfl) rfl (by decide) (by kernel_rfl) (by kernel_rfl) (by kernel_rfl) (by kernel_rfl) (fun _ _ _ h => h) hHeld (by rfl) (fun w' hSw => ?_) ?_
      · go_simp
      try simp only [Act.put, List.getElem_toArray, List.getElem_cons_zero, List.getElem_cons_succ, List.setIfInBounds_toArray, List.set_cons_zero, List.set_cons_succ]
      refine wpAnyF_take2 (i := 4) (.slice (some ⟨ga2, 0, none⟩) m2 avc2) (by kernel_rfl) rfl (by decide) (by kernel_rfl) (by kernel_rfl) (by kernel_rfl) (by kernel_rfl) (fun _ _ _ h => h) hHeld (by rfl) (fun w' hSw => ?_) ?_
      · go_simp
      try simp only [Act.put, List.getElem_toArray, List.getElem_cons_zero, List.getElem_cons_succ, List.setIfInBounds_toArray, List.set_cons_zero, List.set_cons_succ]
      refine wpAnyF_take2 (i := 5) (.int .i64 (i : Int)) (by kernel_rfl) rfl (by decide) (by kernel_rfl) (by kernel_rfl) (by kernel_rfl) (by kernel_rfl) (fun _ _ _ h => h) hHeld (by rfl) (fun w' hSw => ?_) ?_
      · go_simp
      try simp only [Act.put, List.getElem_toArray, List.getElem_cons_zero, List.getElem_cons_succ, List.setIfInBounds_toArray, List.set_cons_zero, List.set_cons_succ]
      refine wpAnyF_take2 (i := 6) (.slice EA2 oj.length ec2) (by kernel_rfl) rfl (by decide) (by kernel_rfl) (by kernel_rfl) (by kernel_rfl) (by kernel_rfl) (fun _ _ _ h => h) hHeld (by rfl) (fun w' hSw => ?_) ?_
      · go_simp
      try simp only [Act.put, List.getElem_toArray, List.getElem_cons_zero, List.getElem_cons_succ, List.setIfInBounds_toArray, List.set_cons_zero, List.set_cons_succ]
      refine wpAnyF_step 7 (by kernel_rfl) rfl (fun K hK => ?_)
      go_simp
      go_at_call 91
      refine (clipE_any EA2 oj.length ec2 ws hcap).mono ?_
      rintro _ wz ⟨rfl, hwz⟩
      rw [hwz]
      clear hwz
      refine hK _ _ c3 (fun hHeld => ?_)
      clear hK
      clear K
      try simp only [Act.put, List.getElem_toArray, List.getElem_cons_zero, List.getElem_cons_succ, List.setIfInBounds_toArray, List.set_cons_zero, List.set_cons_succ]
      refine wpAnyF_take2 (i := 8) (.pointer (some ⟨ga2, i * 3, none⟩)) (by kernel_rfl) rfl (by decide) (by kernel_rfl) (by kernel_rfl) (by kernel_rfl) (by kernel_rfl) (fun _ _ _ h => h) hHeld (by rfl) (fun w' hSw => ?_) ?_
      · go_simp
      try simp only [Act.put, List.getElem_toArray, List.getElem_cons_zero, List.getElem_cons_succ, List.setIfInBounds_toArray, List.set_cons_zero, List.set_cons_succ]
      refine wpAnyF_take2 (i := 9) (.pointer (some ⟨ga2, i * 3 + 2, none⟩)) (by kernel_rfl) rfl (by decide) (by kernel_rfl) (by kernel_rfl) (by kernel_rfl) (by kernel_rfl) (fun _ _ _ h => h) hHeld (by rfl) (fun w' hSw => ?_) ?_
      · go_simp
      try simp only [Act.put, List.getElem_toArray, List.getElem_cons_zero, List.getElem_cons_succ, List.setIfInBounds_toArray, List.set_cons_zero, List.set_cons_succ]
      clear hHeld
      refine wpAnyF_turn 10 (by kernel_rfl) rfl (by decide) (by decide) (fun K hK => ?_)
      go_simp
      rw [hwf.out]
      refine hK _ _ ?_
      clear hK
      clear K
      refine ⟨by kernel_rfl, ?_⟩
      go_wp2_with fail
      go_end0
      exact HFIN.out
end Go.Proofs.YtnpcjbdolmmaeaaGreatDoor
