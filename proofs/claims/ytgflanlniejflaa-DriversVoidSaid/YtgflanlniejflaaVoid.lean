/-
  DriversVoid: the walk.
-/
import Derived.Test.YtgflanlniejflaaLivM
import Derived.Test.YtgflanlniejflaaLast
import Derived.Test.YtgflanlniejflaaEno
import Derived.Lib.QuietBelow
namespace Go.Proofs.Ytgflanlniejflaa
open Go.RowKit Go.Sort
set_option maxRecDepth 100000
set_option maxHeartbeats 12800000 in
theorem void_any (w : World) (WA : Option Addr) (nW wcp : Nat) (fu de tk : Int) :
    Calls Try.prog 5 #[.agg #[.slice WA nW wcp, .int .i64 fu, .int .i64 de, .int .i64 tk]] w fun e w' => e = .returned (.bool true) ∧ Below w.heap.size w w' := by
  obtain ⟨w1, hw1⟩ : ∃ x, x = w.alloc (.cells #[.slice WA nW wcp, .int .i64 fu, .int .i64 de, .int .i64 tk] 28) := ⟨_, rfl⟩
  obtain ⟨w2, hw2⟩ : ∃ x, x = w1.alloc (.cells #[.slice none 0 0, .slice none 0 0, .slice none 0 0, .slice none 0 0, .slice none 0 0, .slice none 0 0, .slice none 0 0, .int .i64 0] 80) := ⟨_, rfl⟩
  obtain ⟨w3, hw3⟩ : ∃ x, x = w2.alloc (.cells #[.pointer none, .pointer (some ⟨w.heap.size + 1, 0, none⟩)] 55) := ⟨_, rfl⟩
  have z1 : w1.heap.size = w.heap.size + 1 := by rw [hw1]; simp
  have z2 : w2.heap.size = w.heap.size + 1 + 1 := by rw [hw2]; simp [z1]
  have b3 : Below w.heap.size w w3 := by rw [hw3, hw2, hw1]; exact ((below_new _ _).alloc (by simp) _).alloc (by simp; omega) _
  have T1 : w3.heap[w.heap.size]? = some (.cells #[.slice WA nW wcp, .int .i64 fu, .int .i64 de, .int .i64 tk] 28 (0, 0)) := by rw [hw3, Below.heap_alloc _ _ _ (by omega), hw2, Below.heap_alloc _ _ _ (by omega), hw1]; exact heap_alloc_new _ _
  have T2 : w3.heap[w.heap.size + 1]? = some (.cells #[.slice none 0 0, .slice none 0 0, .slice none 0 0, .slice none 0 0, .slice none 0 0, .slice none 0 0, .slice none 0 0, .int .i64 0] 80 (0, 0)) := by rw [hw3, Below.heap_alloc _ _ _ (by omega), hw2, ← z1]; exact heap_alloc_new _ _
  have T3 : w3.heap[w.heap.size + 1 + 1]? = some (.cells #[.pointer none, .pointer (some ⟨w.heap.size + 1, 0, none⟩)] 55 (0, 0)) := by rw [hw3, ← z2]; exact heap_alloc_new _ _
  have HW := hid (show ((w.alloc (.cells #[.slice WA nW wcp, .int .i64 fu, .int .i64 de, .int .i64 tk] 28)).alloc (.cells #[.slice none 0 0, .slice none 0 0, .slice none 0 0, .slice none 0 0, .slice none 0 0, .slice none 0 0, .slice none 0 0, .int .i64 0] 80)).alloc (.cells #[.pointer none, .pointer (some ⟨w.heap.size + 1, 0, none⟩)] 55) = w3 by rw [hw3, hw2, hw1])
  have HI := hid (And.intro b3 (And.intro T1 (And.intro T2 T3)))
  clear hw1 hw2 hw3 z1 z2 b3 T1 T2 T3
  go_enter Try.func5, Try.ntmps5
  go_upto_region 3 with fail
  rw [HW.out]
  clear HW
  generalize hlb : w.heap.size + 1 + 1 = lb at HI ⊢
  go_wp2_with fail
  go_loopw [5] (fun i wx => ∃ j : Nat, j ≤ 2 ∧ i = .int .i64 j ∧ Hid (Below w.heap.size w wx ∧ wx.heap[w.heap.size]? = some (.cells #[.slice WA nW wcp, .int .i64 fu, .int .i64 de, .int .i64 tk] 28 (0, 0)) ∧ wx.heap[w.heap.size + 1]? = some (.cells #[.slice none 0 0, .slice none 0 0, .slice none 0 0, .slice none 0 0, .slice none 0 0, .slice none 0 0, .slice none 0 0, .int .i64 0] 80 (0, 0)) ∧ wx.heap[lb]? = some (.cells #[.pointer none, .pointer (some ⟨w.heap.size + 1, 0, none⟩)] 55 (0, 0)))) (fun i _ => 2 - (intOf i).toNat)
  case atStart => exact ⟨0, by omega, rfl, HI⟩
  case round =>
    clear HI
    obtain ⟨j, hj, rfl, hI⟩ := hrel
    obtain ⟨hb, t1, t2, t3⟩ := hI.out
    by_cases hlt : j < 2
    · have hltI : (j : Int) < 2 := by omega
      have hd : ∃ d : Option Addr, wr.cell? ⟨lb, j, none⟩ = some (.pointer d) ∧ (d = none ∨ d = some ⟨w.heap.size + 1, 0, none⟩) := by
        rcases (by omega : j = 0 ∨ j = 1) with rfl | rfl
        · exact ⟨none, by rw [Lib.cell_of_heap t3]; rfl, .inl rfl⟩
        · exact ⟨_, by rw [Lib.cell_of_heap t3]; rfl, .inr rfl⟩
      obtain ⟨d, c0, hdd⟩ := hd
      have b0 : wr.cell? ⟨w.heap.size, 0, none⟩ = some (.slice WA nW wcp) := by rw [Lib.cell_of_heap t1]; rfl
      have b1 : wr.cell? ⟨w.heap.size, 1, none⟩ = some (.int .i64 fu) := by rw [Lib.cell_of_heap t1]; rfl
      have b2 : wr.cell? ⟨w.heap.size, 2, none⟩ = some (.int .i64 de) := by rw [Lib.cell_of_heap t1]; rfl
      have b3 : wr.cell? ⟨w.heap.size, 3, none⟩ = some (.int .i64 tk) := by rw [Lib.cell_of_heap t1]; rfl
      have d6 : wr.cell? ⟨w.heap.size + 1, 6, none⟩ = some (.slice none 0 0) := by rw [Lib.cell_of_heap t2]; rfl
      have l1 := heap_lt t1
      have l2 := heap_lt t2
      have l3 := heap_lt t3
      have HI := hid (And.intro hb (And.intro t1 (And.intro t2 t3)))
      have CP := hid (fun (u : World) (hbu : Below wr.heap.size wr u) => parseNone_any u d WA nW wcp fu de 2 (by
        rcases hdd with rfl | rfl
        · exact .inl ⟨rfl, rfl⟩
        · exact .inr ⟨_, none, 0, 0, rfl, Nat.lt_of_lt_of_le l2 hbu.size, (hbu.cell (p := ⟨w.heap.size + 1, 6, none⟩) l2).trans d6, .inl ⟨rfl, rfl⟩⟩))
      have CE := hid (fun (u : World) (hbu : Below wr.heap.size wr u) => enoughNone_any u d tk (by
        rcases hdd with rfl | rfl
        · exact .inl rfl
        · exact .inr ⟨_, none, 0, 0, rfl, Nat.lt_of_lt_of_le l2 hbu.size, (hbu.cell (p := ⟨w.heap.size + 1, 6, none⟩) l2).trans d6, .inl rfl⟩))
      have ST := hid (fun (u : World) (hbu : Below wr.heap.size wr u) => (show u.cell? ⟨lb, j, none⟩ = some (.pointer d) ∧ u.cell? ⟨w.heap.size, 0, none⟩ = some (.slice WA nW wcp) ∧ u.cell? ⟨w.heap.size, 1, none⟩ = some (.int .i64 fu) ∧ u.cell? ⟨w.heap.size, 2, none⟩ = some (.int .i64 de) from
        ⟨(hbu.cell (p := ⟨lb, j, none⟩) l3).trans c0, (hbu.cell (p := ⟨w.heap.size, 0, none⟩) l1).trans b0, (hbu.cell (p := ⟨w.heap.size, 1, none⟩) l1).trans b1, (hbu.cell (p := ⟨w.heap.size, 2, none⟩) l1).trans b2⟩))
      have ST2 := hid (fun (u : World) (hbu : Below wr.heap.size wr u) => (show u.cell? ⟨lb, j, none⟩ = some (.pointer d) ∧ u.cell? ⟨w.heap.size, 3, none⟩ = some (.int .i64 tk) from
        ⟨(hbu.cell (p := ⟨lb, j, none⟩) l3).trans c0, (hbu.cell (p := ⟨w.heap.size, 3, none⟩) l1).trans b3⟩))
      clear hI hb t1 t2 t3 hdd b3 d6
      go_upto_region 6 with fail
      go_cut [6, 7, 8] from 12 to 30 (fun t6 t7 t8 wx => ∃ gtree gstat : Nat, t6 = .pointer (some ⟨gtree, 0, none⟩) ∧ t7 = .pointer (some ⟨gstat, 0, none⟩) ∧ t8 = .int .i64 2 ∧ Hid (Below wr.heap.size wr wx ∧ wx.heap[gtree]? = some (.cells #[.int .i64 0, .int .i64 0, .int .i64 0, .bool false, .slice none 0 0] 65 (0, 0)) ∧ wx.heap[gstat]? = some (.cells #[.int .i64 0, .int .i64 0, .int .i64 0] 70 (0, 0)) ∧ wr.heap.size ≤ gtree ∧ wr.heap.size ≤ gstat))
      case first =>
        refine wp_region_late (l := 20) (S := (fun w' => w'.cell? ⟨lb, j, none⟩ = some (.pointer d) ∧ w'.cell? ⟨w.heap.size, 0, none⟩ = some (.slice WA nW wcp) ∧ w'.cell? ⟨w.heap.size, 1, none⟩ = some (.int .i64 fu) ∧ w'.cell? ⟨w.heap.size, 2, none⟩ = some (.int .i64 de))) (by kernel_rfl) ⟨c0, b0, b1, b2⟩ (fun hHeld => ?_)
        have HLwd : Below wr.heap.size wr wr.drew := ⟨rfl, rfl, rfl, Nat.le_refl _, fun _ _ => rfl⟩
        generalize wr.drew = wd at hHeld HLwd ⊢
        clear c0 b0 b1 b2
        refine wpAnyF_take (i := 0) (.slice (some ⟨lb, 0, none⟩) 2 2) rfl (by kernel_rfl) (by kernel_rfl) (by kernel_rfl) (by kernel_rfl) (fun _ _ _ h => h) hHeld (by rfl) (fun w' hSw => ?_) ?_
        · obtain ⟨l0, b0, b1, b2⟩ := hSw; go_simp
        try simp only [Act.put, List.getElem_toArray, List.getElem_cons_zero, List.setIfInBounds_toArray, List.set_cons_zero, List.set_cons_succ]
        refine wpAnyF_take (i := 1) (.int .i64 j) rfl (by kernel_rfl) (by kernel_rfl) (by kernel_rfl) (by kernel_rfl) (fun _ _ _ h => h) hHeld (by rfl) (fun w' hSw => ?_) ?_
        · obtain ⟨l0, b0, b1, b2⟩ := hSw; go_simp
        try simp only [Act.put, List.getElem_toArray, List.getElem_cons_zero, List.getElem_cons_succ, List.setIfInBounds_toArray, List.set_cons_zero, List.set_cons_succ]
        refine wpAnyF_take (i := 2) (.pointer (some ⟨lb, j, none⟩)) rfl (by kernel_rfl) (by kernel_rfl) (by kernel_rfl) (by kernel_rfl) (fun _ _ _ h => h) hHeld (by rfl) (fun w' hSw => ?_) ?_
        · obtain ⟨l0, b0, b1, b2⟩ := hSw; go_simp
        try simp only [Act.put, List.getElem_toArray, List.getElem_cons_zero, List.getElem_cons_succ, List.setIfInBounds_toArray, List.set_cons_zero, List.set_cons_succ]
        refine wpAnyF_take (i := 3) (.pointer d) rfl (by kernel_rfl) (by kernel_rfl) (by kernel_rfl) (by kernel_rfl) (fun _ _ _ h => h) hHeld (by rfl) (fun w' hSw => ?_) ?_
        · obtain ⟨l0, b0, b1, b2⟩ := hSw; go_simp
        try simp only [Act.put, List.getElem_toArray, List.getElem_cons_zero, List.getElem_cons_succ, List.setIfInBounds_toArray, List.set_cons_zero, List.set_cons_succ]
        refine wpAnyF_take (i := 4) (.pointer (some ⟨w.heap.size, 0, none⟩)) rfl (by kernel_rfl) (by kernel_rfl) (by kernel_rfl) (by kernel_rfl) (fun _ _ _ h => h) hHeld (by rfl) (fun w' hSw => ?_) ?_
        · obtain ⟨l0, b0, b1, b2⟩ := hSw; go_simp
        try simp only [Act.put, List.getElem_toArray, List.getElem_cons_zero, List.getElem_cons_succ, List.setIfInBounds_toArray, List.set_cons_zero, List.set_cons_succ]
        refine wpAnyF_take (i := 5) (.slice WA nW wcp) rfl (by kernel_rfl) (by kernel_rfl) (by kernel_rfl) (by kernel_rfl) (fun _ _ _ h => h) hHeld (by rfl) (fun w' hSw => ?_) ?_
        · obtain ⟨l0, b0, b1, b2⟩ := hSw; go_simp
        try simp only [Act.put, List.getElem_toArray, List.getElem_cons_zero, List.getElem_cons_succ, List.setIfInBounds_toArray, List.set_cons_zero, List.set_cons_succ]
        refine wpAnyF_take (i := 6) (.pointer (some ⟨w.heap.size, 1, none⟩)) rfl (by kernel_rfl) (by kernel_rfl) (by kernel_rfl) (by kernel_rfl) (fun _ _ _ h => h) hHeld (by rfl) (fun w' hSw => ?_) ?_
        · obtain ⟨l0, b0, b1, b2⟩ := hSw; go_simp
        try simp only [Act.put, List.getElem_toArray, List.getElem_cons_zero, List.getElem_cons_succ, List.setIfInBounds_toArray, List.set_cons_zero, List.set_cons_succ]
        refine wpAnyF_take (i := 7) (.int .i64 fu) rfl (by kernel_rfl) (by kernel_rfl) (by kernel_rfl) (by kernel_rfl) (fun _ _ _ h => h) hHeld (by rfl) (fun w' hSw => ?_) ?_
        · obtain ⟨l0, b0, b1, b2⟩ := hSw; go_simp
        try simp only [Act.put, List.getElem_toArray, List.getElem_cons_zero, List.getElem_cons_succ, List.setIfInBounds_toArray, List.set_cons_zero, List.set_cons_succ]
        refine wpAnyF_take (i := 8) (.pointer (some ⟨w.heap.size, 2, none⟩)) rfl (by kernel_rfl) (by kernel_rfl) (by kernel_rfl) (by kernel_rfl) (fun _ _ _ h => h) hHeld (by rfl) (fun w' hSw => ?_) ?_
        · obtain ⟨l0, b0, b1, b2⟩ := hSw; go_simp
        try simp only [Act.put, List.getElem_toArray, List.getElem_cons_zero, List.getElem_cons_succ, List.setIfInBounds_toArray, List.set_cons_zero, List.set_cons_succ]
        refine wpAnyF_take (i := 9) (.int .i64 de) rfl (by kernel_rfl) (by kernel_rfl) (by kernel_rfl) (by kernel_rfl) (fun _ _ _ h => h) hHeld (by rfl) (fun w' hSw => ?_) ?_
        · obtain ⟨l0, b0, b1, b2⟩ := hSw; go_simp
        try simp only [Act.put, List.getElem_toArray, List.getElem_cons_zero, List.getElem_cons_succ, List.setIfInBounds_toArray, List.set_cons_zero, List.set_cons_succ]
        refine wpAnyF_three 10 15 16 (by kernel_rfl) rfl rfl rfl (fun K hK => ?_) (fun K hK => ?_) (fun K hK => ?_)
        · go_simp
          go_at_call 14
          refine (CP.out wd HLwd).mono ?_
          rintro e wa ⟨rfl, hbwa⟩
          dsimp only
          have HLwa := HLwd.trans (hbwa.mono HLwd.size)
          refine hK _ _ (ST.out _ HLwa) (fun hHeld => ?_)
          clear hK
          clear K
          try simp only [Act.put, List.getElem_toArray, List.getElem_cons_zero, List.getElem_cons_succ, List.setIfInBounds_toArray, List.set_cons_zero, List.set_cons_succ]
          refine wpAnyF_take (i := 11) (.tuple #[.agg #[.int .i64 0, .int .i64 0, .int .i64 0, .bool false, .slice none 0 0], .agg #[.int .i64 0, .int .i64 0, .int .i64 0], .int .i64 2]) rfl (by kernel_rfl) (by kernel_rfl) (by kernel_rfl) (by kernel_rfl) (fun _ _ _ h => h) hHeld (by rfl) (fun w' hSw => ?_) ?_
          · obtain ⟨l0, b0, b1, b2⟩ := hSw; go_simp
          try simp only [Act.put, List.getElem_toArray, List.getElem_cons_zero, List.getElem_cons_succ, List.setIfInBounds_toArray, List.set_cons_zero, List.set_cons_succ]
          refine wpAnyF_take (i := 12) (.agg #[.int .i64 0, .int .i64 0, .int .i64 0, .bool false, .slice none 0 0]) rfl (by kernel_rfl) (by kernel_rfl) (by kernel_rfl) (by kernel_rfl) (fun _ _ _ h => h) hHeld (by rfl) (fun w' hSw => ?_) ?_
          · obtain ⟨l0, b0, b1, b2⟩ := hSw; go_simp
          try simp only [Act.put, List.getElem_toArray, List.getElem_cons_zero, List.getElem_cons_succ, List.setIfInBounds_toArray, List.set_cons_zero, List.set_cons_succ]
          refine wpAnyF_take (i := 13) (.agg #[.int .i64 0, .int .i64 0, .int .i64 0]) rfl (by kernel_rfl) (by kernel_rfl) (by kernel_rfl) (by kernel_rfl) (fun _ _ _ h => h) hHeld (by rfl) (fun w' hSw => ?_) ?_
          · obtain ⟨l0, b0, b1, b2⟩ := hSw; go_simp
          try simp only [Act.put, List.getElem_toArray, List.getElem_cons_zero, List.getElem_cons_succ, List.setIfInBounds_toArray, List.set_cons_zero, List.set_cons_succ]
          refine wpAnyF_take (i := 14) (.int .i64 2) rfl (by kernel_rfl) (by kernel_rfl) (by kernel_rfl) (by kernel_rfl) (fun _ _ _ h => h) hHeld (by rfl) (fun w' hSw => ?_) ?_
          · obtain ⟨l0, b0, b1, b2⟩ := hSw; go_simp
          try simp only [Act.put, List.getElem_toArray, List.getElem_cons_zero, List.getElem_cons_succ, List.setIfInBounds_toArray, List.set_cons_zero, List.set_cons_succ]
          refine wpAnyF_two 15 16 (by kernel_rfl) rfl rfl (fun K hK => ?_) (fun K hK => ?_)
          · go_simp
            have hbwaa : Below wa.heap.size wa (wa.alloc (.cells #[.int .i64 0, .int .i64 0, .int .i64 0, .bool false, .slice none 0 0] 65)) := below_new _ _
            have Ttree := heap_alloc_new wa (.cells #[.int .i64 0, .int .i64 0, .int .i64 0, .bool false, .slice none 0 0] 65)
            have HLwaa := HLwa.trans (hbwaa.mono HLwa.size)
            have hgetree := HLwa.size
            refine hK _ _ (ST.out _ HLwaa) (fun hHeld => ?_)
            clear hK
            clear K
            generalize wa.alloc (.cells #[.int .i64 0, .int .i64 0, .int .i64 0, .bool false, .slice none 0 0] 65) = waa at hbwaa Ttree HLwaa hHeld ⊢
            generalize hgtree : wa.heap.size = gtree at Ttree hgetree ⊢
            try simp only [Act.put, List.getElem_toArray, List.getElem_cons_zero, List.getElem_cons_succ, List.setIfInBounds_toArray, List.set_cons_zero, List.set_cons_succ]
            refine wpAnyF_step 16 (by kernel_rfl) rfl (fun K hK => ?_)
            go_simp
            have hbwaaa : Below waa.heap.size waa (waa.alloc (.cells #[.int .i64 0, .int .i64 0, .int .i64 0] 70)) := below_new _ _
            have Tstat := heap_alloc_new waa (.cells #[.int .i64 0, .int .i64 0, .int .i64 0] 70)
            have HLwaaa := HLwaa.trans (hbwaaa.mono HLwaa.size)
            have hgestat := HLwaa.size
            refine hK _ _ (ST.out _ HLwaaa) (fun hHeld => ?_)
            clear hK
            clear K
            generalize waa.alloc (.cells #[.int .i64 0, .int .i64 0, .int .i64 0] 70) = waaa at hbwaaa Tstat HLwaaa hHeld ⊢
            generalize hgstat : waa.heap.size = gstat at Tstat hgestat ⊢
            have Ttree := (hbwaaa.block _ (heap_lt Ttree)).trans Ttree
            try simp only [Act.put, List.getElem_toArray, List.getElem_cons_zero, List.getElem_cons_succ, List.setIfInBounds_toArray, List.set_cons_zero, List.set_cons_succ]
            obtain ⟨⟨a0, a1, a2, a3, a4⟩, za⟩ := cells5z Ttree
            obtain ⟨⟨s0, s1, s2⟩, zs⟩ := cells3z Tstat
            have i0 := set_same (j := 0) (x := .int .i64 0) Ttree rfl
            have i1 := set_same (j := 1) (x := .int .i64 0) Ttree rfl
            have i2 := set_same (j := 2) (x := .int .i64 0) Ttree rfl
            have i3 := set_same (j := 3) (x := .bool false) Ttree rfl
            have i4 := set_same (j := 4) (x := .slice none 0 0) Ttree rfl
            have j0 := set_same (j := 0) (x := .int .i64 0) Tstat rfl
            have j1 := set_same (j := 1) (x := .int .i64 0) Tstat rfl
            have j2 := set_same (j := 2) (x := .int .i64 0) Tstat rfl
            refine wpAnyF_step 17 (by kernel_rfl) rfl (fun K hK => ?_)
            go_simp
            refine hK _ _ (ST.out _ HLwaaa) (fun hHeld => ?_)
            clear hK
            clear K
            try simp only [Act.put, List.getElem_toArray, List.getElem_cons_zero, List.getElem_cons_succ, List.setIfInBounds_toArray, List.set_cons_zero, List.set_cons_succ]
            refine wpAnyF_step 18 (by kernel_rfl) rfl (fun K hK => ?_)
            go_simp
            refine hK _ _ (ST.out _ HLwaaa) (fun hHeld => ?_)
            clear hK
            clear K
            try simp only [Act.put, List.getElem_toArray, List.getElem_cons_zero, List.getElem_cons_succ, List.setIfInBounds_toArray, List.set_cons_zero, List.set_cons_succ]
            refine wpAnyF_step 19 (by kernel_rfl) rfl (fun K hK => ?_)
            go_simp
            refine hK _ _ (ST.out _ HLwaaa) (fun hHeld => ?_)
            clear hK
            clear K
            try simp only [Act.put, List.getElem_toArray, List.getElem_cons_zero, List.getElem_cons_succ, List.setIfInBounds_toArray, List.set_cons_zero, List.set_cons_succ]
            refine ⟨by kernel_rfl, ?_⟩
            have HF := hid (And.intro (HLwaaa) (And.intro Ttree (And.intro Tstat (And.intro hgetree hgestat))))
            clear a0 a1 a2 a3 a4 za s0 s1 s2 zs i0 i1 i2 i3 i4 j0 j1 j2 hHeld
            go_wp2_with fail
            go_meet
            exact ⟨gtree, gstat, rfl, rfl, rfl, HF⟩
          · go_simp
            have hbwab : Below wa.heap.size wa (wa.alloc (.cells #[.int .i64 0, .int .i64 0, .int .i64 0] 70)) := below_new _ _
            have Tstat := heap_alloc_new wa (.cells #[.int .i64 0, .int .i64 0, .int .i64 0] 70)
            have HLwab := HLwa.trans (hbwab.mono HLwa.size)
            have hgestat := HLwa.size
            refine hK _ _ (ST.out _ HLwab) (fun hHeld => ?_)
            clear hK
            clear K
            generalize wa.alloc (.cells #[.int .i64 0, .int .i64 0, .int .i64 0] 70) = wab at hbwab Tstat HLwab hHeld ⊢
            generalize hgstat : wa.heap.size = gstat at Tstat hgestat ⊢
            try simp only [Act.put, List.getElem_toArray, List.getElem_cons_zero, List.getElem_cons_succ, List.setIfInBounds_toArray, List.set_cons_zero, List.set_cons_succ]
            refine wpAnyF_step 15 (by kernel_rfl) rfl (fun K hK => ?_)
            go_simp
            have hbwaba : Below wab.heap.size wab (wab.alloc (.cells #[.int .i64 0, .int .i64 0, .int .i64 0, .bool false, .slice none 0 0] 65)) := below_new _ _
            have Ttree := heap_alloc_new wab (.cells #[.int .i64 0, .int .i64 0, .int .i64 0, .bool false, .slice none 0 0] 65)
            have HLwaba := HLwab.trans (hbwaba.mono HLwab.size)
            have hgetree := HLwab.size
            refine hK _ _ (ST.out _ HLwaba) (fun hHeld => ?_)
            clear hK
            clear K
            generalize wab.alloc (.cells #[.int .i64 0, .int .i64 0, .int .i64 0, .bool false, .slice none 0 0] 65) = waba at hbwaba Ttree HLwaba hHeld ⊢
            generalize hgtree : wab.heap.size = gtree at Ttree hgetree ⊢
            have Tstat := (hbwaba.block _ (heap_lt Tstat)).trans Tstat
            try simp only [Act.put, List.getElem_toArray, List.getElem_cons_zero, List.getElem_cons_succ, List.setIfInBounds_toArray, List.set_cons_zero, List.set_cons_succ]
            obtain ⟨⟨a0, a1, a2, a3, a4⟩, za⟩ := cells5z Ttree
            obtain ⟨⟨s0, s1, s2⟩, zs⟩ := cells3z Tstat
            have i0 := set_same (j := 0) (x := .int .i64 0) Ttree rfl
            have i1 := set_same (j := 1) (x := .int .i64 0) Ttree rfl
            have i2 := set_same (j := 2) (x := .int .i64 0) Ttree rfl
            have i3 := set_same (j := 3) (x := .bool false) Ttree rfl
            have i4 := set_same (j := 4) (x := .slice none 0 0) Ttree rfl
            have j0 := set_same (j := 0) (x := .int .i64 0) Tstat rfl
            have j1 := set_same (j := 1) (x := .int .i64 0) Tstat rfl
            have j2 := set_same (j := 2) (x := .int .i64 0) Tstat rfl
            refine wpAnyF_step 17 (by kernel_rfl) rfl (fun K hK => ?_)
            go_simp
            refine hK _ _ (ST.out _ HLwaba) (fun hHeld => ?_)
            clear hK
            clear K
            try simp only [Act.put, List.getElem_toArray, List.getElem_cons_zero, List.getElem_cons_succ, List.setIfInBounds_toArray, List.set_cons_zero, List.set_cons_succ]
            refine wpAnyF_step 18 (by kernel_rfl) rfl (fun K hK => ?_)
            go_simp
            refine hK _ _ (ST.out _ HLwaba) (fun hHeld => ?_)
            clear hK
            clear K
            try simp only [Act.put, List.getElem_toArray, List.getElem_cons_zero, List.getElem_cons_succ, List.setIfInBounds_toArray, List.set_cons_zero, List.set_cons_succ]
            refine wpAnyF_step 19 (by kernel_rfl) rfl (fun K hK => ?_)
            go_simp
            refine hK _ _ (ST.out _ HLwaba) (fun hHeld => ?_)
            clear hK
            clear K
            try simp only [Act.put, List.getElem_toArray, List.getElem_cons_zero, List.getElem_cons_succ, List.setIfInBounds_toArray, List.set_cons_zero, List.set_cons_succ]
            refine ⟨by kernel_rfl, ?_⟩
            have HF := hid (And.intro (HLwaba) (And.intro Ttree (And.intro Tstat (And.intro hgetree hgestat))))
            clear a0 a1 a2 a3 a4 za s0 s1 s2 zs i0 i1 i2 i3 i4 j0 j1 j2 hHeld
            go_wp2_with fail
            go_meet
            exact ⟨gtree, gstat, rfl, rfl, rfl, HF⟩
        · go_simp
          have hbwb : Below wd.heap.size wd (wd.alloc (.cells #[.int .i64 0, .int .i64 0, .int .i64 0, .bool false, .slice none 0 0] 65)) := below_new _ _
          have Ttree := heap_alloc_new wd (.cells #[.int .i64 0, .int .i64 0, .int .i64 0, .bool false, .slice none 0 0] 65)
          have HLwb := HLwd.trans (hbwb.mono HLwd.size)
          have hgetree := HLwd.size
          refine hK _ _ (ST.out _ HLwb) (fun hHeld => ?_)
          clear hK
          clear K
          generalize wd.alloc (.cells #[.int .i64 0, .int .i64 0, .int .i64 0, .bool false, .slice none 0 0] 65) = wb at hbwb Ttree HLwb hHeld ⊢
          generalize hgtree : wd.heap.size = gtree at Ttree hgetree ⊢
          try simp only [Act.put, List.getElem_toArray, List.getElem_cons_zero, List.getElem_cons_succ, List.setIfInBounds_toArray, List.set_cons_zero, List.set_cons_succ]
          refine wpAnyF_two 10 16 (by kernel_rfl) rfl rfl (fun K hK => ?_) (fun K hK => ?_)
          · go_simp
            go_at_call 14
            refine (CP.out wb HLwb).mono ?_
            rintro e wba ⟨rfl, hbwba⟩
            dsimp only
            have HLwba := HLwb.trans (hbwba.mono HLwb.size)
            refine hK _ _ (ST.out _ HLwba) (fun hHeld => ?_)
            clear hK
            clear K
            have Ttree := (hbwba.block _ (heap_lt Ttree)).trans Ttree
            try simp only [Act.put, List.getElem_toArray, List.getElem_cons_zero, List.getElem_cons_succ, List.setIfInBounds_toArray, List.set_cons_zero, List.set_cons_succ]
            refine wpAnyF_take (i := 11) (.tuple #[.agg #[.int .i64 0, .int .i64 0, .int .i64 0, .bool false, .slice none 0 0], .agg #[.int .i64 0, .int .i64 0, .int .i64 0], .int .i64 2]) rfl (by kernel_rfl) (by kernel_rfl) (by kernel_rfl) (by kernel_rfl) (fun _ _ _ h => h) hHeld (by rfl) (fun w' hSw => ?_) ?_
            · obtain ⟨l0, b0, b1, b2⟩ := hSw; go_simp
            try simp only [Act.put, List.getElem_toArray, List.getElem_cons_zero, List.getElem_cons_succ, List.setIfInBounds_toArray, List.set_cons_zero, List.set_cons_succ]
            refine wpAnyF_take (i := 12) (.agg #[.int .i64 0, .int .i64 0, .int .i64 0, .bool false, .slice none 0 0]) rfl (by kernel_rfl) (by kernel_rfl) (by kernel_rfl) (by kernel_rfl) (fun _ _ _ h => h) hHeld (by rfl) (fun w' hSw => ?_) ?_
            · obtain ⟨l0, b0, b1, b2⟩ := hSw; go_simp
            try simp only [Act.put, List.getElem_toArray, List.getElem_cons_zero, List.getElem_cons_succ, List.setIfInBounds_toArray, List.set_cons_zero, List.set_cons_succ]
            refine wpAnyF_take (i := 13) (.agg #[.int .i64 0, .int .i64 0, .int .i64 0]) rfl (by kernel_rfl) (by kernel_rfl) (by kernel_rfl) (by kernel_rfl) (fun _ _ _ h => h) hHeld (by rfl) (fun w' hSw => ?_) ?_
            · obtain ⟨l0, b0, b1, b2⟩ := hSw; go_simp
            try simp only [Act.put, List.getElem_toArray, List.getElem_cons_zero, List.getElem_cons_succ, List.setIfInBounds_toArray, List.set_cons_zero, List.set_cons_succ]
            refine wpAnyF_take (i := 14) (.int .i64 2) rfl (by kernel_rfl) (by kernel_rfl) (by kernel_rfl) (by kernel_rfl) (fun _ _ _ h => h) hHeld (by rfl) (fun w' hSw => ?_) ?_
            · obtain ⟨l0, b0, b1, b2⟩ := hSw; go_simp
            try simp only [Act.put, List.getElem_toArray, List.getElem_cons_zero, List.getElem_cons_succ, List.setIfInBounds_toArray, List.set_cons_zero, List.set_cons_succ]
            refine wpAnyF_step 16 (by kernel_rfl) rfl (fun K hK => ?_)
            go_simp
            have hbwbaa : Below wba.heap.size wba (wba.alloc (.cells #[.int .i64 0, .int .i64 0, .int .i64 0] 70)) := below_new _ _
            have Tstat := heap_alloc_new wba (.cells #[.int .i64 0, .int .i64 0, .int .i64 0] 70)
            have HLwbaa := HLwba.trans (hbwbaa.mono HLwba.size)
            have hgestat := HLwba.size
            refine hK _ _ (ST.out _ HLwbaa) (fun hHeld => ?_)
            clear hK
            clear K
            generalize wba.alloc (.cells #[.int .i64 0, .int .i64 0, .int .i64 0] 70) = wbaa at hbwbaa Tstat HLwbaa hHeld ⊢
            generalize hgstat : wba.heap.size = gstat at Tstat hgestat ⊢
            have Ttree := (hbwbaa.block _ (heap_lt Ttree)).trans Ttree
            try simp only [Act.put, List.getElem_toArray, List.getElem_cons_zero, List.getElem_cons_succ, List.setIfInBounds_toArray, List.set_cons_zero, List.set_cons_succ]
            obtain ⟨⟨a0, a1, a2, a3, a4⟩, za⟩ := cells5z Ttree
            obtain ⟨⟨s0, s1, s2⟩, zs⟩ := cells3z Tstat
            have i0 := set_same (j := 0) (x := .int .i64 0) Ttree rfl
            have i1 := set_same (j := 1) (x := .int .i64 0) Ttree rfl
            have i2 := set_same (j := 2) (x := .int .i64 0) Ttree rfl
            have i3 := set_same (j := 3) (x := .bool false) Ttree rfl
            have i4 := set_same (j := 4) (x := .slice none 0 0) Ttree rfl
            have j0 := set_same (j := 0) (x := .int .i64 0) Tstat rfl
            have j1 := set_same (j := 1) (x := .int .i64 0) Tstat rfl
            have j2 := set_same (j := 2) (x := .int .i64 0) Tstat rfl
            refine wpAnyF_step 17 (by kernel_rfl) rfl (fun K hK => ?_)
            go_simp
            refine hK _ _ (ST.out _ HLwbaa) (fun hHeld => ?_)
            clear hK
            clear K
            try simp only [Act.put, List.getElem_toArray, List.getElem_cons_zero, List.getElem_cons_succ, List.setIfInBounds_toArray, List.set_cons_zero, List.set_cons_succ]
            refine wpAnyF_step 18 (by kernel_rfl) rfl (fun K hK => ?_)
            go_simp
            refine hK _ _ (ST.out _ HLwbaa) (fun hHeld => ?_)
            clear hK
            clear K
            try simp only [Act.put, List.getElem_toArray, List.getElem_cons_zero, List.getElem_cons_succ, List.setIfInBounds_toArray, List.set_cons_zero, List.set_cons_succ]
            refine wpAnyF_step 19 (by kernel_rfl) rfl (fun K hK => ?_)
            go_simp
            refine hK _ _ (ST.out _ HLwbaa) (fun hHeld => ?_)
            clear hK
            clear K
            try simp only [Act.put, List.getElem_toArray, List.getElem_cons_zero, List.getElem_cons_succ, List.setIfInBounds_toArray, List.set_cons_zero, List.set_cons_succ]
            refine ⟨by kernel_rfl, ?_⟩
            have HF := hid (And.intro (HLwbaa) (And.intro Ttree (And.intro Tstat (And.intro hgetree hgestat))))
            clear a0 a1 a2 a3 a4 za s0 s1 s2 zs i0 i1 i2 i3 i4 j0 j1 j2 hHeld
            go_wp2_with fail
            go_meet
            exact ⟨gtree, gstat, rfl, rfl, rfl, HF⟩
          · go_simp
            have hbwbb : Below wb.heap.size wb (wb.alloc (.cells #[.int .i64 0, .int .i64 0, .int .i64 0] 70)) := below_new _ _
            have Tstat := heap_alloc_new wb (.cells #[.int .i64 0, .int .i64 0, .int .i64 0] 70)
            have HLwbb := HLwb.trans (hbwbb.mono HLwb.size)
            have hgestat := HLwb.size
            refine hK _ _ (ST.out _ HLwbb) (fun hHeld => ?_)
            clear hK
            clear K
            generalize wb.alloc (.cells #[.int .i64 0, .int .i64 0, .int .i64 0] 70) = wbb at hbwbb Tstat HLwbb hHeld ⊢
            generalize hgstat : wb.heap.size = gstat at Tstat hgestat ⊢
            have Ttree := (hbwbb.block _ (heap_lt Ttree)).trans Ttree
            try simp only [Act.put, List.getElem_toArray, List.getElem_cons_zero, List.getElem_cons_succ, List.setIfInBounds_toArray, List.set_cons_zero, List.set_cons_succ]
            refine wpAnyF_step 10 (by kernel_rfl) rfl (fun K hK => ?_)
            go_simp
            go_at_call 14
            refine (CP.out wbb HLwbb).mono ?_
            rintro e wbba ⟨rfl, hbwbba⟩
            dsimp only
            have HLwbba := HLwbb.trans (hbwbba.mono HLwbb.size)
            refine hK _ _ (ST.out _ HLwbba) (fun hHeld => ?_)
            clear hK
            clear K
            have Ttree := (hbwbba.block _ (heap_lt Ttree)).trans Ttree
            have Tstat := (hbwbba.block _ (heap_lt Tstat)).trans Tstat
            try simp only [Act.put, List.getElem_toArray, List.getElem_cons_zero, List.getElem_cons_succ, List.setIfInBounds_toArray, List.set_cons_zero, List.set_cons_succ]
            refine wpAnyF_take (i := 11) (.tuple #[.agg #[.int .i64 0, .int .i64 0, .int .i64 0, .bool false, .slice none 0 0], .agg #[.int .i64 0, .int .i64 0, .int .i64 0], .int .i64 2]) rfl (by kernel_rfl) (by kernel_rfl) (by kernel_rfl) (by kernel_rfl) (fun _ _ _ h => h) hHeld (by rfl) (fun w' hSw => ?_) ?_
            · obtain ⟨l0, b0, b1, b2⟩ := hSw; go_simp
            try simp only [Act.put, List.getElem_toArray, List.getElem_cons_zero, List.getElem_cons_succ, List.setIfInBounds_toArray, List.set_cons_zero, List.set_cons_succ]
            refine wpAnyF_take (i := 12) (.agg #[.int .i64 0, .int .i64 0, .int .i64 0, .bool false, .slice none 0 0]) rfl (by kernel_rfl) (by kernel_rfl) (by kernel_rfl) (by kernel_rfl) (fun _ _ _ h => h) hHeld (by rfl) (fun w' hSw => ?_) ?_
            · obtain ⟨l0, b0, b1, b2⟩ := hSw; go_simp
            try simp only [Act.put, List.getElem_toArray, List.getElem_cons_zero, List.getElem_cons_succ, List.setIfInBounds_toArray, List.set_cons_zero, List.set_cons_succ]
            refine wpAnyF_take (i := 13) (.agg #[.int .i64 0, .int .i64 0, .int .i64 0]) rfl (by kernel_rfl) (by kernel_rfl) (by kernel_rfl) (by kernel_rfl) (fun _ _ _ h => h) hHeld (by rfl) (fun w' hSw => ?_) ?_
            · obtain ⟨l0, b0, b1, b2⟩ := hSw; go_simp
            try simp only [Act.put, List.getElem_toArray, List.getElem_cons_zero, List.getElem_cons_succ, List.setIfInBounds_toArray, List.set_cons_zero, List.set_cons_succ]
            refine wpAnyF_take (i := 14) (.int .i64 2) rfl (by kernel_rfl) (by kernel_rfl) (by kernel_rfl) (by kernel_rfl) (fun _ _ _ h => h) hHeld (by rfl) (fun w' hSw => ?_) ?_
            · obtain ⟨l0, b0, b1, b2⟩ := hSw; go_simp
            try simp only [Act.put, List.getElem_toArray, List.getElem_cons_zero, List.getElem_cons_succ, List.setIfInBounds_toArray, List.set_cons_zero, List.set_cons_succ]
            obtain ⟨⟨a0, a1, a2, a3, a4⟩, za⟩ := cells5z Ttree
            obtain ⟨⟨s0, s1, s2⟩, zs⟩ := cells3z Tstat
            have i0 := set_same (j := 0) (x := .int .i64 0) Ttree rfl
            have i1 := set_same (j := 1) (x := .int .i64 0) Ttree rfl
            have i2 := set_same (j := 2) (x := .int .i64 0) Ttree rfl
            have i3 := set_same (j := 3) (x := .bool false) Ttree rfl
            have i4 := set_same (j := 4) (x := .slice none 0 0) Ttree rfl
            have j0 := set_same (j := 0) (x := .int .i64 0) Tstat rfl
            have j1 := set_same (j := 1) (x := .int .i64 0) Tstat rfl
            have j2 := set_same (j := 2) (x := .int .i64 0) Tstat rfl
            refine wpAnyF_step 17 (by kernel_rfl) rfl (fun K hK => ?_)
            go_simp
            refine hK _ _ (ST.out _ HLwbba) (fun hHeld => ?_)
            clear hK
            clear K
            try simp only [Act.put, List.getElem_toArray, List.getElem_cons_zero, List.getElem_cons_succ, List.setIfInBounds_toArray, List.set_cons_zero, List.set_cons_succ]
            refine wpAnyF_step 18 (by kernel_rfl) rfl (fun K hK => ?_)
            go_simp
            refine hK _ _ (ST.out _ HLwbba) (fun hHeld => ?_)
            clear hK
            clear K
            try simp only [Act.put, List.getElem_toArray, List.getElem_cons_zero, List.getElem_cons_succ, List.setIfInBounds_toArray, List.set_cons_zero, List.set_cons_succ]
            refine wpAnyF_step 19 (by kernel_rfl) rfl (fun K hK => ?_)
            go_simp
            refine hK _ _ (ST.out _ HLwbba) (fun hHeld => ?_)
            clear hK
            clear K
            try simp only [Act.put, List.getElem_toArray, List.getElem_cons_zero, List.getElem_cons_succ, List.setIfInBounds_toArray, List.set_cons_zero, List.set_cons_succ]
            refine ⟨by kernel_rfl, ?_⟩
            have HF := hid (And.intro (HLwbba) (And.intro Ttree (And.intro Tstat (And.intro hgetree hgestat))))
            clear a0 a1 a2 a3 a4 za s0 s1 s2 zs i0 i1 i2 i3 i4 j0 j1 j2 hHeld
            go_wp2_with fail
            go_meet
            exact ⟨gtree, gstat, rfl, rfl, rfl, HF⟩
        · go_simp
          have hbwc : Below wd.heap.size wd (wd.alloc (.cells #[.int .i64 0, .int .i64 0, .int .i64 0] 70)) := below_new _ _
          have Tstat := heap_alloc_new wd (.cells #[.int .i64 0, .int .i64 0, .int .i64 0] 70)
          have HLwc := HLwd.trans (hbwc.mono HLwd.size)
          have hgestat := HLwd.size
          refine hK _ _ (ST.out _ HLwc) (fun hHeld => ?_)
          clear hK
          clear K
          generalize wd.alloc (.cells #[.int .i64 0, .int .i64 0, .int .i64 0] 70) = wc at hbwc Tstat HLwc hHeld ⊢
          generalize hgstat : wd.heap.size = gstat at Tstat hgestat ⊢
          try simp only [Act.put, List.getElem_toArray, List.getElem_cons_zero, List.getElem_cons_succ, List.setIfInBounds_toArray, List.set_cons_zero, List.set_cons_succ]
          refine wpAnyF_two 10 15 (by kernel_rfl) rfl rfl (fun K hK => ?_) (fun K hK => ?_)
          · go_simp
            go_at_call 14
            refine (CP.out wc HLwc).mono ?_
            rintro e wca ⟨rfl, hbwca⟩
            dsimp only
            have HLwca := HLwc.trans (hbwca.mono HLwc.size)
            refine hK _ _ (ST.out _ HLwca) (fun hHeld => ?_)
            clear hK
            clear K
            have Tstat := (hbwca.block _ (heap_lt Tstat)).trans Tstat
            try simp only [Act.put, List.getElem_toArray, List.getElem_cons_zero, List.getElem_cons_succ, List.setIfInBounds_toArray, List.set_cons_zero, List.set_cons_succ]
            refine wpAnyF_take (i := 11) (.tuple #[.agg #[.int .i64 0, .int .i64 0, .int .i64 0, .bool false, .slice none 0 0], .agg #[.int .i64 0, .int .i64 0, .int .i64 0], .int .i64 2]) rfl (by kernel_rfl) (by kernel_rfl) (by kernel_rfl) (by kernel_rfl) (fun _ _ _ h => h) hHeld (by rfl) (fun w' hSw => ?_) ?_
            · obtain ⟨l0, b0, b1, b2⟩ := hSw; go_simp
            try simp only [Act.put, List.getElem_toArray, List.getElem_cons_zero, List.getElem_cons_succ, List.setIfInBounds_toArray, List.set_cons_zero, List.set_cons_succ]
            refine wpAnyF_take (i := 12) (.agg #[.int .i64 0, .int .i64 0, .int .i64 0, .bool false, .slice none 0 0]) rfl (by kernel_rfl) (by kernel_rfl) (by kernel_rfl) (by kernel_rfl) (fun _ _ _ h => h) hHeld (by rfl) (fun w' hSw => ?_) ?_
            · obtain ⟨l0, b0, b1, b2⟩ := hSw; go_simp
            try simp only [Act.put, List.getElem_toArray, List.getElem_cons_zero, List.getElem_cons_succ, List.setIfInBounds_toArray, List.set_cons_zero, List.set_cons_succ]
            refine wpAnyF_take (i := 13) (.agg #[.int .i64 0, .int .i64 0, .int .i64 0]) rfl (by kernel_rfl) (by kernel_rfl) (by kernel_rfl) (by kernel_rfl) (fun _ _ _ h => h) hHeld (by rfl) (fun w' hSw => ?_) ?_
            · obtain ⟨l0, b0, b1, b2⟩ := hSw; go_simp
            try simp only [Act.put, List.getElem_toArray, List.getElem_cons_zero, List.getElem_cons_succ, List.setIfInBounds_toArray, List.set_cons_zero, List.set_cons_succ]
            refine wpAnyF_take (i := 14) (.int .i64 2) rfl (by kernel_rfl) (by kernel_rfl) (by kernel_rfl) (by kernel_rfl) (fun _ _ _ h => h) hHeld (by rfl) (fun w' hSw => ?_) ?_
            · obtain ⟨l0, b0, b1, b2⟩ := hSw; go_simp
            try simp only [Act.put, List.getElem_toArray, List.getElem_cons_zero, List.getElem_cons_succ, List.setIfInBounds_toArray, List.set_cons_zero, List.set_cons_succ]
            refine wpAnyF_step 15 (by kernel_rfl) rfl (fun K hK => ?_)
            go_simp
            have hbwcaa : Below wca.heap.size wca (wca.alloc (.cells #[.int .i64 0, .int .i64 0, .int .i64 0, .bool false, .slice none 0 0] 65)) := below_new _ _
            have Ttree := heap_alloc_new wca (.cells #[.int .i64 0, .int .i64 0, .int .i64 0, .bool false, .slice none 0 0] 65)
            have HLwcaa := HLwca.trans (hbwcaa.mono HLwca.size)
            have hgetree := HLwca.size
            refine hK _ _ (ST.out _ HLwcaa) (fun hHeld => ?_)
            clear hK
            clear K
            generalize wca.alloc (.cells #[.int .i64 0, .int .i64 0, .int .i64 0, .bool false, .slice none 0 0] 65) = wcaa at hbwcaa Ttree HLwcaa hHeld ⊢
            generalize hgtree : wca.heap.size = gtree at Ttree hgetree ⊢
            have Tstat := (hbwcaa.block _ (heap_lt Tstat)).trans Tstat
            try simp only [Act.put, List.getElem_toArray, List.getElem_cons_zero, List.getElem_cons_succ, List.setIfInBounds_toArray, List.set_cons_zero, List.set_cons_succ]
            obtain ⟨⟨a0, a1, a2, a3, a4⟩, za⟩ := cells5z Ttree
            obtain ⟨⟨s0, s1, s2⟩, zs⟩ := cells3z Tstat
            have i0 := set_same (j := 0) (x := .int .i64 0) Ttree rfl
            have i1 := set_same (j := 1) (x := .int .i64 0) Ttree rfl
            have i2 := set_same (j := 2) (x := .int .i64 0) Ttree rfl
            have i3 := set_same (j := 3) (x := .bool false) Ttree rfl
            have i4 := set_same (j := 4) (x := .slice none 0 0) Ttree rfl
            have j0 := set_same (j := 0) (x := .int .i64 0) Tstat rfl
            have j1 := set_same (j := 1) (x := .int .i64 0) Tstat rfl
            have j2 := set_same (j := 2) (x := .int .i64 0) Tstat rfl
            refine wpAnyF_step 17 (by kernel_rfl) rfl (fun K hK => ?_)
            go_simp
            refine hK _ _ (ST.out _ HLwcaa) (fun hHeld => ?_)
            clear hK
            clear K
            try simp only [Act.put, List.getElem_toArray, List.getElem_cons_zero, List.getElem_cons_succ, List.setIfInBounds_toArray, List.set_cons_zero, List.set_cons_succ]
            refine wpAnyF_step 18 (by kernel_rfl) rfl (fun K hK => ?_)
            go_simp
            refine hK _ _ (ST.out _ HLwcaa) (fun hHeld => ?_)
            clear hK
            clear K
            try simp only [Act.put, List.getElem_toArray, List.getElem_cons_zero, List.getElem_cons_succ, List.setIfInBounds_toArray, List.set_cons_zero, List.set_cons_succ]
            refine wpAnyF_step 19 (by kernel_rfl) rfl (fun K hK => ?_)
            go_simp
            refine hK _ _ (ST.out _ HLwcaa) (fun hHeld => ?_)
            clear hK
            clear K
            try simp only [Act.put, List.getElem_toArray, List.getElem_cons_zero, List.getElem_cons_succ, List.setIfInBounds_toArray, List.set_cons_zero, List.set_cons_succ]
            refine ⟨by kernel_rfl, ?_⟩
            have HF := hid (And.intro (HLwcaa) (And.intro Ttree (And.intro Tstat (And.intro hgetree hgestat))))
            clear a0 a1 a2 a3 a4 za s0 s1 s2 zs i0 i1 i2 i3 i4 j0 j1 j2 hHeld
            go_wp2_with fail
            go_meet
            exact ⟨gtree, gstat, rfl, rfl, rfl, HF⟩
          · go_simp
            have hbwcb : Below wc.heap.size wc (wc.alloc (.cells #[.int .i64 0, .int .i64 0, .int .i64 0, .bool false, .slice none 0 0] 65)) := below_new _ _
            have Ttree := heap_alloc_new wc (.cells #[.int .i64 0, .int .i64 0, .int .i64 0, .bool false, .slice none 0 0] 65)
            have HLwcb := HLwc.trans (hbwcb.mono HLwc.size)
            have hgetree := HLwc.size
            refine hK _ _ (ST.out _ HLwcb) (fun hHeld => ?_)
            clear hK
            clear K
            generalize wc.alloc (.cells #[.int .i64 0, .int .i64 0, .int .i64 0, .bool false, .slice none 0 0] 65) = wcb at hbwcb Ttree HLwcb hHeld ⊢
            generalize hgtree : wc.heap.size = gtree at Ttree hgetree ⊢
            have Tstat := (hbwcb.block _ (heap_lt Tstat)).trans Tstat
            try simp only [Act.put, List.getElem_toArray, List.getElem_cons_zero, List.getElem_cons_succ, List.setIfInBounds_toArray, List.set_cons_zero, List.set_cons_succ]
            refine wpAnyF_step 10 (by kernel_rfl) rfl (fun K hK => ?_)
            go_simp
            go_at_call 14
            refine (CP.out wcb HLwcb).mono ?_
            rintro e wcba ⟨rfl, hbwcba⟩
            dsimp only
            have HLwcba := HLwcb.trans (hbwcba.mono HLwcb.size)
            refine hK _ _ (ST.out _ HLwcba) (fun hHeld => ?_)
            clear hK
            clear K
            have Tstat := (hbwcba.block _ (heap_lt Tstat)).trans Tstat
            have Ttree := (hbwcba.block _ (heap_lt Ttree)).trans Ttree
            try simp only [Act.put, List.getElem_toArray, List.getElem_cons_zero, List.getElem_cons_succ, List.setIfInBounds_toArray, List.set_cons_zero, List.set_cons_succ]
            refine wpAnyF_take (i := 11) (.tuple #[.agg #[.int .i64 0, .int .i64 0, .int .i64 0, .bool false, .slice none 0 0], .agg #[.int .i64 0, .int .i64 0, .int .i64 0], .int .i64 2]) rfl (by kernel_rfl) (by kernel_rfl) (by kernel_rfl) (by kernel_rfl) (fun _ _ _ h => h) hHeld (by rfl) (fun w' hSw => ?_) ?_
            · obtain ⟨l0, b0, b1, b2⟩ := hSw; go_simp
            try simp only [Act.put, List.getElem_toArray, List.getElem_cons_zero, List.getElem_cons_succ, List.setIfInBounds_toArray, List.set_cons_zero, List.set_cons_succ]
            refine wpAnyF_take (i := 12) (.agg #[.int .i64 0, .int .i64 0, .int .i64 0, .bool false, .slice none 0 0]) rfl (by kernel_rfl) (by kernel_rfl) (by kernel_rfl) (by kernel_rfl) (fun _ _ _ h => h) hHeld (by rfl) (fun w' hSw => ?_) ?_
            · obtain ⟨l0, b0, b1, b2⟩ := hSw; go_simp
            try simp only [Act.put, List.getElem_toArray, List.getElem_cons_zero, List.getElem_cons_succ, List.setIfInBounds_toArray, List.set_cons_zero, List.set_cons_succ]
            refine wpAnyF_take (i := 13) (.agg #[.int .i64 0, .int .i64 0, .int .i64 0]) rfl (by kernel_rfl) (by kernel_rfl) (by kernel_rfl) (by kernel_rfl) (fun _ _ _ h => h) hHeld (by rfl) (fun w' hSw => ?_) ?_
            · obtain ⟨l0, b0, b1, b2⟩ := hSw; go_simp
            try simp only [Act.put, List.getElem_toArray, List.getElem_cons_zero, List.getElem_cons_succ, List.setIfInBounds_toArray, List.set_cons_zero, List.set_cons_succ]
            refine wpAnyF_take (i := 14) (.int .i64 2) rfl (by kernel_rfl) (by kernel_rfl) (by kernel_rfl) (by kernel_rfl) (fun _ _ _ h => h) hHeld (by rfl) (fun w' hSw => ?_) ?_
            · obtain ⟨l0, b0, b1, b2⟩ := hSw; go_simp
            try simp only [Act.put, List.getElem_toArray, List.getElem_cons_zero, List.getElem_cons_succ, List.setIfInBounds_toArray, List.set_cons_zero, List.set_cons_succ]
            obtain ⟨⟨a0, a1, a2, a3, a4⟩, za⟩ := cells5z Ttree
            obtain ⟨⟨s0, s1, s2⟩, zs⟩ := cells3z Tstat
            have i0 := set_same (j := 0) (x := .int .i64 0) Ttree rfl
            have i1 := set_same (j := 1) (x := .int .i64 0) Ttree rfl
            have i2 := set_same (j := 2) (x := .int .i64 0) Ttree rfl
            have i3 := set_same (j := 3) (x := .bool false) Ttree rfl
            have i4 := set_same (j := 4) (x := .slice none 0 0) Ttree rfl
            have j0 := set_same (j := 0) (x := .int .i64 0) Tstat rfl
            have j1 := set_same (j := 1) (x := .int .i64 0) Tstat rfl
            have j2 := set_same (j := 2) (x := .int .i64 0) Tstat rfl
            refine wpAnyF_step 17 (by kernel_rfl) rfl (fun K hK => ?_)
            go_simp
            refine hK _ _ (ST.out _ HLwcba) (fun hHeld => ?_)
            clear hK
            clear K
            try simp only [Act.put, List.getElem_toArray, List.getElem_cons_zero, List.getElem_cons_succ, List.setIfInBounds_toArray, List.set_cons_zero, List.set_cons_succ]
            refine wpAnyF_step 18 (by kernel_rfl) rfl (fun K hK => ?_)
            go_simp
            refine hK _ _ (ST.out _ HLwcba) (fun hHeld => ?_)
            clear hK
            clear K
            try simp only [Act.put, List.getElem_toArray, List.getElem_cons_zero, List.getElem_cons_succ, List.setIfInBounds_toArray, List.set_cons_zero, List.set_cons_succ]
            refine wpAnyF_step 19 (by kernel_rfl) rfl (fun K hK => ?_)
            go_simp
            refine hK _ _ (ST.out _ HLwcba) (fun hHeld => ?_)
            clear hK
            clear K
            try simp only [Act.put, List.getElem_toArray, List.getElem_cons_zero, List.getElem_cons_succ, List.setIfInBounds_toArray, List.set_cons_zero, List.set_cons_succ]
            refine ⟨by kernel_rfl, ?_⟩
            have HF := hid (And.intro (HLwcba) (And.intro Ttree (And.intro Tstat (And.intro hgetree hgestat))))
            clear a0 a1 a2 a3 a4 za s0 s1 s2 zs i0 i1 i2 i3 i4 j0 j1 j2 hHeld
            go_wp2_with fail
            go_meet
            exact ⟨gtree, gstat, rfl, rfl, rfl, HF⟩
      case rest =>
        obtain ⟨gtree, gstat, rfl, rfl, rfl, HF⟩ := hcut
        obtain ⟨hbc, tT, tS, gT, gS⟩ := HF.out
        have q0 := fun d9 o => cell_regrown ((ST2.out wc hbc).1) d9 o
        have q1 := fun d9 o => cell_regrown ((ST2.out wc hbc).2) d9 o
        have ce := fun (d9 : Nat) (o : Array Obj) => Calls.regrown_of (CE.out (grow (redrawn wc d9) o) (hbc.trans ((below_regrown wc d9 o).mono hbc.size)))
        have HBC := hid hbc
        have HTT := hid tT
        have HTS := hid tS
        clear hbc tT tS gT gS HF c0 b0 b1 b2 CP ST ST2
        go_wp2_with fail
        refine wp_region_quiet_below (by kernel_rfl) (by kernel_rfl) ?_
        repeat (quiet_step (exact ce _ _))
        refine wpQuiet_nil ?_
        rintro _ ⟨⟨dq, osq⟩, rfl⟩
        have hb6 := below_regrown wc dq osq
        generalize grow (redrawn wc dq) osq = w6 at hb6 ⊢
        have t6 := (hb6.block _ (heap_lt HTT.out)).trans HTT.out
        have s6 := (hb6.block _ (heap_lt HTS.out)).trans HTS.out
        have HB6 := hid (HBC.out.trans (hb6.mono HBC.out.size))
        obtain ⟨⟨a0, a1, a2, a3, a4⟩, za⟩ := cells5z t6
        obtain ⟨⟨s0, s1, s2⟩, zs⟩ := cells3z s6
        have CS := hid (sameTree_any 1 (.node 0 0 0 false []) (.node 0 0 0 false []) w6 (fun _ => False) (fun _ => False) _ _ (by decide) (by simp [Drv.smTr, Drv.smTrs]) (tr_leaf w6 (fun _ => False) 0 0 0 false) (tr_leaf w6 (fun _ => False) 0 0 0 false))
        clear q0 q1 ce t6 s6 hb6 za zs
        go_wp2_with fail
        refine CS.out.mono ?_
        rintro e w7 ⟨rfl, hb7⟩
        rw [(Drv.sameTr_iff _ _).2 rfl]
        have HB7 := hid (HB6.out.trans (hb7.mono HB6.out.size))
        clear hb7 CS a0 a1 a2 a3 a4 s0 s1 s2
        dsimp only
        have HFIN := hid (And.intro (HI.out.1.trans (HB7.out.mono HI.out.1.size)) (And.intro ((HB7.out.block _ l1).trans HI.out.2.1) (And.intro ((HB7.out.block _ l2).trans HI.out.2.2.1) ((HB7.out.block _ l3).trans HI.out.2.2.2))))
        clear HB7 HB6 HBC HTT HTS CE HI
        go_wp2_with fail
        go_roundw
        case rel => exact ⟨j + 1, by omega, by go_num, HFIN⟩
        case measure => simp [intOf]; omega
    · have hj2 : j = 2 := by omega
      subst hj2
      have HB := hid hb
      clear hI hb t1 t2 t3
      go_wp2_with fail
      refine (lives_any wr).mono ?_
      rintro e w7 ⟨rfl, hb7⟩
      have HB7 := hid (HB.out.trans (hb7.mono HB.out.size))
      clear hb7
      dsimp only
      go_wp2_with fail
      go_ret
      exact ⟨rfl, HB7.out⟩
end Go.Proofs.Ytgflanlniejflaa
