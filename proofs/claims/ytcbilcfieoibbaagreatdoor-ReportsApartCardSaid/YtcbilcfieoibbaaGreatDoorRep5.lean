/-
  strings.Replacer by bytes: Replace.
-/
import Derived.Test.YtcbilcfieoibbaaGreatDoorRep4
namespace Go.Proofs.YtcbilcfieoibbaaGreatDoor
open Go.RowKit
set_option maxRecDepth 100000
/-- what a replacer of R and N answers -/
def fillT (x y s : List UInt8) : List UInt8 := s.flatMap fun b => if b = 82 then x else if b = 78 then y else [b]
def g1 (x y b : UInt8) : UInt8 := if b = 82 then x else if b = 78 then y else b
theorem fillT_one (x y : UInt8) (s : List UInt8) : fillT [x] [y] s = s.map (g1 x y) := by
  induction s with
  | nil => rfl
  | cons a s ih =>
    have : fillT [x] [y] (a :: s) = (if a = 82 then [x] else if a = 78 then [y] else [a]) ++ fillT [x] [y] s := rfl
    rw [this, ih, List.map_cons]
    unfold g1
    split
    · rfl
    · split <;> rfl
theorem u8_eq (b : UInt8) (n : Nat) (h : n < 256) : b = UInt8.ofNat n ↔ b.toNat = n := by
  constructor
  · rintro rfl; simp; omega
  · intro e; subst e; simp
theorem g1_nat (x y b : UInt8) : fA x.toNat y.toNat b.toNat = (g1 x y b).toNat := by
  unfold fA g1
  have h1 : (b = 82) ↔ b.toNat = 82 := u8_eq b 82 (by decide)
  have h2 : (b = 78) ↔ b.toNat = 78 := u8_eq b 78 (by decide)
  by_cases e1 : b = 82
  · rw [if_pos (h1.1 e1), if_pos e1]
  · rw [if_neg (fun q => e1 (h1.2 q)), if_neg e1]
    by_cases e2 : b = 78
    · rw [if_pos (h2.1 e2), if_pos e2]
    · rw [if_neg (fun q => e2 (h2.2 q)), if_neg e2]
theorem q_step (g : UInt8 → UInt8) (s : List UInt8) (k : Nat) (h : k < s.length) : (s.take (k + 1)).map g ++ s.drop (k + 1) = ((s.take k).map g ++ s.drop k).set k (g s[k]) := by
  rw [List.drop_eq_getElem_cons h, List.set_append_right _ _ (by simp; omega), List.take_succ_eq_append_getElem h, List.length_map, List.length_take, Nat.min_eq_left (Nat.le_of_lt h), Nat.sub_self, List.set_cons_zero, List.map_append, List.append_assoc]
  rfl
theorem q_len (g : UInt8 → UInt8) (s : List UInt8) (k : Nat) : ((s.take k).map g ++ s.drop k).length = s.length := by simp; omega
/-- a row of bytes that is being written -/
def RW (w : World) (bb : Nat) (q : List UInt8) : Prop := ∃ C fr, w.heap[bb]? = some (.cells C 5 fr) ∧ q.length ≤ fr.1 ∧ ∀ j, j < q.length → C[j]? = some (.int .u8 (q.getD j 0).toNat)
theorem RW.cell {w : World} {bb : Nat} {q : List UInt8} (h : RW w bb q) (j : Nat) (hj : j < q.length) : w.cell? ⟨bb, j, none⟩ = some (.int .u8 (q.getD j 0).toNat) ∧ w.frozen? ⟨bb, j, none⟩ = false := by
  obtain ⟨C, fr, h1, h2, h3⟩ := h
  refine ⟨by rw [Lib.cell_of_heap h1]; exact h3 j hj, ?_⟩
  simp only [World.frozen?, h1]
  simp
  omega
theorem RW.set {w : World} {bb : Nat} {q : List UInt8} (h : RW w bb q) (o : Nat) (b : UInt8) (ho : o < q.length) : RW (w.setCell ⟨bb, o, none⟩ (.int .u8 b.toNat)) bb (q.set o b) := by
  obtain ⟨C, fr, h1, h2, h3⟩ := h
  have hC : o < C.size := (Array.getElem?_eq_some_iff.1 (h3 o ho)).1
  refine ⟨C.setIfInBounds o (.int .u8 b.toNat), fr, by simp [World.setCell, Array.getElem?_modify, h1], by simpa using h2, fun j hj => ?_⟩
  rw [List.length_set] at hj
  rw [Array.getElem?_setIfInBounds]
  by_cases e : o = j
  · subst e; simp [hC, ho]
  · rw [if_neg e, h3 j hj]
    simp [List.getD, List.getElem?_set_ne e]
theorem RW.heap {w w' : World} {bb : Nat} {q : List UInt8} (h : RW w bb q) (he : w'.heap[bb]? = w.heap[bb]?) : RW w' bb q := by
  obtain ⟨C, fr, h1, h2⟩ := h
  exact ⟨C, fr, he.trans h1, h2⟩
theorem RW.lt {w : World} {bb : Nat} {q : List UInt8} (h : RW w bb q) : bb < w.heap.size := by
  obtain ⟨C, fr, h1, h2⟩ := h
  exact (Array.getElem?_eq_some_iff.1 h1).1
theorem RW.new (w : World) (s : List UInt8) (c : Nat) : RW (w.drew.alloc (.cells (bytesRow ⟨s.toArray⟩ c) 5 ((bytesRow ⟨s.toArray⟩ c).size, (bytesRow ⟨s.toArray⟩ c).size + 1))) w.heap.size s :=
  ⟨_, _, heap_alloc_new w.drew _, by simp [bytesRow, ByteArray.size], fun j hj => bytes_at s c j hj⟩
theorem RW.back {w : World} {bb : Nat} {q : List UInt8} (h : RW w bb q) (n c : Nat) (hn : n = q.length) : (convert 96 9 (.slice (some ⟨bb, 0, none⟩) n c)).run Tryz.prog w = .ok (.string ⟨q.toArray⟩) w := by
  subst hn
  refine run_convert_bytes_back w 96 9 5 ⟨bb, 0, none⟩ c q Tryz.underlying96 Tryz.underlying5 Tryz.underlying9 (fun j hj => ?_)
  have := (h.cell j hj).1
  rw [Addr.add_lit, Nat.zero_add, this]
  simp [List.getD, hj]
set_option maxHeartbeats 4000000 in
theorem repA_any (rb : Nat) (x y : UInt8) (s : List UInt8) (w : World) (h : BR w rb (fA x.toNat y.toNat)) (hs : s.length < 140737488355328) :
    Calls Tryz.prog 193 #[.pointer (some ⟨rb, 0, none⟩), .string ⟨s.toArray⟩] w fun e w' => e = .returned (.string ⟨(fillT [x] [y] s).toArray⟩) ∧ Below w.heap.size w w' := by
  rw [fillT_one]
  have hcb := fun w s => run_bytes_of_string (P := Tryz.prog) w 9 96 5 s Tryz.underlying9 Tryz.underlying96 Tryz.underlying5
  have hen := fun w a n c => Lib.run_eql_slice_nil (P := Tryz.prog) w 96 5 a n c 0 0 Tryz.underlying96
  have hsz : (⟨s.toArray⟩ : ByteArray).size = s.length := by simp [ByteArray.size]
  go_enter Tryz.func193, Tryz.ntmps193
  go_wp2_with fail
  go_loopw [5, 6] (fun buf i wr => ∃ k : Nat, i = .int .i64 k ∧ k ≤ s.length ∧ Hid (Below w.heap.size w wr) ∧ ((buf = .slice none 0 0 ∧ Hid ((s.take k).map (g1 x y) = s.take k)) ∨ ∃ bb c, buf = .slice (some ⟨bb, 0, none⟩) s.length c ∧ Hid (w.heap.size ≤ bb) ∧ Hid (RW wr bb ((s.take k).map (g1 x y) ++ s.drop k)))) (fun _ i _ => s.length - (intOf i).toNat)
  case atStart => exact ⟨0, rfl, Nat.zero_le _, hid (Below.refl _ _), .inl ⟨rfl, hid rfl⟩⟩
  case round =>
    obtain ⟨k, rfl, hk, hb, hbuf⟩ := hrel
    by_cases hlt : k < s.length
    · have hi : (⟨s.toArray⟩ : ByteArray)[k]'(by rw [hsz]; exact hlt) = s[k] := rfl
      have hbt : s[k].toNat < 256 := s[k].toNat_lt
      have hBR := h.below hb.out
      have c0 := (hBR.cell s[k].toNat hbt).1
      rw [g1_nat] at c0
      rcases hbuf with ⟨rfl, hq⟩ | ⟨bb, c, rfl, hbb, hq⟩
      · by_cases he : g1 x y s[k] = s[k]
        · rw [he] at c0
          go_wp2_with fail
          go_roundw
          case rel => exact ⟨k + 1, by go_num, hlt, hb, .inl ⟨rfl, hid (by rw [List.take_succ_eq_append_getElem hlt, List.map_append, hq.out]; simp [he])⟩⟩
          case measure => simp [intOf]; omega
        · have hne : (((g1 x y s[k]).toNat : Int) != (s[k].toNat : Int)) = true := by
            simp only [bne_iff_ne, ne_eq]
            intro e
            exact he (UInt8.toNat_inj.1 (Int.ofNat_inj.1 e))
          have hlrb : rb < wr.heap.size := by
            obtain ⟨C, h1, _⟩ := hBR
            exact (Array.getElem?_eq_some_iff.1 h1).1
          have d0 : ∀ o, (wr.alloc o).cell? ⟨rb, s[k].toNat, none⟩ = some (.int .u8 (g1 x y s[k]).toNat) := fun o =>
            (World.cell?_of_block (w := wr) (a := ⟨rb, _, none⟩) (Below.heap_alloc _ _ _ hlrb)).trans c0
          have hn := fun c => RW.new wr s c
          have d1 : ∀ c, (wr.alloc (.cells (bytesRow ⟨s.toArray⟩ c) 5 ((bytesRow ⟨s.toArray⟩ c).size, (bytesRow ⟨s.toArray⟩ c).size + 1))).cell? ⟨wr.heap.size, k, none⟩ = some (.int .u8 (s.getD k 0).toNat) := fun c => ((hn c).cell k hlt).1
          have d2 : ∀ c, (wr.alloc (.cells (bytesRow ⟨s.toArray⟩ c) 5 ((bytesRow ⟨s.toArray⟩ c).size, (bytesRow ⟨s.toArray⟩ c).size + 1))).frozen? ⟨wr.heap.size, k, none⟩ = false := fun c => ((hn c).cell k hlt).2
          have HN := hid hn
          have hle := hb.out.size
          clear hn
          go_wp2_with fail
          go_roundw
          case rel =>
            have hq2 : ((s.take (k + 1)).map (g1 x y) ++ s.drop (k + 1)) = s.set k (g1 x y s[k]) := by
              rw [q_step _ _ _ hlt, hq.out, List.take_append_drop]
            refine ⟨k + 1, by go_num, hlt, hid (((hb.out.alloc (by omega) _).drew).setCell (p := ⟨wr.heap.size, _, none⟩) (by omega) _), .inr ⟨_, _, rfl, hid hle, hid ?_⟩⟩
            rw [hq2]
            exact ((HN.out _).heap rfl).set k _ hlt
          case measure => simp [intOf]; omega
      · have hql := q_len (g1 x y) s k
        have hR := hq.out.cell k (by omega)
        have d1 := hR.1
        have d2 := hR.2
        have e0 : ((s.take k).map (g1 x y) ++ s.drop k).getD k 0 = s[k] := by
          rw [List.getD, List.getElem?_append_right (by simp; omega)]
          simp [hlt, Nat.min_eq_left (Nat.le_of_lt hlt)]
        by_cases he : g1 x y s[k] = s[k]
        · rw [he] at c0
          go_wp2_with fail
          go_roundw
          case rel =>
            refine ⟨k + 1, by go_num, hlt, hb, .inr ⟨_, _, rfl, hbb, hid ?_⟩⟩
            rw [q_step _ _ _ hlt, he]
            have e1 : ((s.take k).map (g1 x y) ++ s.drop k).set k s[k] = ((s.take k).map (g1 x y) ++ s.drop k) := by
              rw [List.drop_eq_getElem_cons hlt, List.set_append_right _ _ (by simp; omega)]
              rw [List.length_map, List.length_take, Nat.min_eq_left (Nat.le_of_lt hlt), Nat.sub_self, List.set_cons_zero]
            rw [e1]
            exact hq.out
          case measure => simp [intOf]; omega
        · have hne : (((g1 x y s[k]).toNat : Int) != (s[k].toNat : Int)) = true := by
            simp only [bne_iff_ne, ne_eq]
            intro e
            exact he (UInt8.toNat_inj.1 (Int.ofNat_inj.1 e))
          clear hR
          go_wp2_with fail
          go_roundw
          case rel =>
            refine ⟨k + 1, by go_num, hlt, hid (hb.out.setCell (p := ⟨bb, _, none⟩) hbb.out _), .inr ⟨_, _, rfl, hbb, hid ?_⟩⟩
            rw [q_step _ _ _ hlt]
            exact hq.out.set k _ (by omega)
          case measure => simp [intOf]; omega
    · obtain rfl : k = s.length := by omega
      rcases hbuf with ⟨rfl, hq⟩ | ⟨bb, c, rfl, hbb, hq⟩
      · go_wp2_with fail
        go_ret
        have h1 := hq.out
        rw [List.take_length] at h1
        exact ⟨by rw [h1]; rfl, hb.out⟩
      · have hbk := hq.out.back s.length c (q_len _ _ _).symm
        go_wp2_with fail
        go_ret
        refine ⟨?_, hb.out⟩
        first | rfl | (rw [List.take_length, List.drop_length, List.append_nil]; rfl)
end Go.Proofs.YtcbilcfieoibbaaGreatDoor
