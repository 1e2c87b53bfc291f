/-
  SubsetsOf: Lists of the statements: the walk.
-/
import Derived.Test.YtoclbcfgfaialaaGreatDoorSubOf1
import Derived.Test.YtoclbcfgfaialaaGreatDoorBook2
namespace Go.Proofs.YtoclbcfgfaialaaGreatDoor
open Go.RowKit
set_option maxRecDepth 100000
theorem book_step {bb tB : Nat} {Ap : Option Addr} {cp : Nat} {xs : List Value} {pg : Value} {w w' : World} {e : Ending} {o : Obj} (h : BookAt w bb Ap cp xs) (hp : BookPost bb Ap cp xs pg w e w') (hn : ¬ BkS bb Ap xs.length cp tB) (ht : w.heap[tB]? = some o) :
    e = .returned (.tuple #[]) ∧ ∃ A' c', BookAt w' bb A' c' (xs ++ [pg]) ∧ ¬ BkS bb A' (xs.length + 1) c' tB ∧ w'.heap[tB]? = some o ∧ Below bb w w' := by
  obtain ⟨he, A', c', h1, ho, hf⟩ := hp
  exact ⟨he, A', c', h1, fun e => hn (hf tB (heap_lt ht) e), (ho.block tB (heap_lt ht) hn).trans ht, ho.below' (fun j e => (h.ge e).1) (Nat.le_of_lt (heap_ltB h.blk))⟩
theorem BookAt.alloc {w : World} {bb : Nat} {A : Option Addr} {c : Nat} {xs : List Value} (h : BookAt w bb A c xs) (o : Obj) : BookAt (w.alloc o) bb A c xs := ⟨(Below.heap_alloc w o bb (heap_ltB h.blk)).trans h.blk, h.own.alloc o⟩
def rowPages (L nr : Nat) (gs : List Nat) (j : Nat) : List Value := (List.range j).map fun i => zPage (some ⟨gs.getD i 0, 0, none⟩) nr nr (L + i + 1)
theorem rowPages_len (L nr : Nat) (gs : List Nat) (j : Nat) : (rowPages L nr gs j).length = j := by simp [rowPages]
theorem rowPages_snoc (L nr : Nat) (gs : List Nat) (j : Nat) : rowPages L nr gs (j + 1) = rowPages L nr gs j ++ [zPage (some ⟨gs.getD j 0, 0, none⟩) nr nr (L + j + 1)] := by simp [rowPages, List.range_succ]
def ListsPost (bb : Nat) (ys : List Value) (w : World) (e : Ending) (w' : World) : Prop :=
  e = .returned (.tuple #[]) ∧ Below bb w w' ∧ ∃ A' c', BookAt w' bb A' c' ys
set_option maxHeartbeats 6400000 in
theorem lists_any (bb n k q nr : Nat) (Ap RA CA NA EA : Option Addr) (cp rc cc nc ec : Nat) (xs ys : List Value) (gs : List Nat) (w : World) (hx : xs.length ≤ 500) (h : BookAt w bb Ap cp xs) (hk : Hid (gs.length = k)) (hk1 : k ≤ 1000000) (hN : Reads w bb 1 NA k (gs.map (rowV nr)))
    (hys : Hid (ys = xs ++ [rgPage RA n rc (xs.length + 1)] ++ [zPage CA n cc (xs.length + 2)] ++ [zPage EA q ec (xs.length + 3)] ++ rowPages (xs.length + 3) nr gs (min k 60))) :
    Calls Tryz.prog 16 #[.pointer (some ⟨bb, 0, none⟩), .agg #[.slice RA n rc, .slice CA n cc, .slice NA k nc, .slice EA q ec]] w fun e w' => ListsPost bb ys w e w' := by
  obtain ⟨wx, hwx⟩ : ∃ wx, Hid (w.alloc (.cells #[.slice RA n rc, .slice CA n cc, .slice NA k nc, .slice EA q ec] 43) = wx) := ⟨_, hid rfl⟩
  have hbk : BookAt wx bb Ap cp xs := by rw [← hwx.out]; exact h.alloc _
  have hbbw := heap_ltB h.blk
  have hb0 : Below bb w wx := by rw [← hwx.out]; exact (below_new _ _).mono (Nat.le_of_lt hbbw)
  have ht : wx.heap[w.heap.size]? = some (.cells #[.slice RA n rc, .slice CA n cc, .slice NA k nc, .slice EA q ec] 43 (0, 0)) := by rw [← hwx.out, heap_alloc_new]
  have hnb : ¬ BkS bb Ap xs.length cp w.heap.size := fun e => by have := (h.ge e).2; omega
  obtain ⟨p0, _⟩ := cells4 ht
  go_enter Tryz.func16, Tryz.ntmps16
  go_wp2_with fail
  rw [hwx.out]
  clear hwx h
  go_wp2_with fail
  refine (bookR2_any bb n rc RA Ap cp xs wx (by omega) hbk).mono ?_
  intro e w1 hp1
  obtain ⟨rfl, A1, c1, hbk1, hnb1, ht1, hb1⟩ := book_step hbk hp1 hnb ht
  obtain ⟨_, p1, _⟩ := cells4 ht1
  clear hbk hp1 hnb ht p0
  have hl1 : (xs ++ [rgPage RA n rc (xs.length + 1)]).length = xs.length + 1 := by simp
  have hb01 := hb0.trans hb1
  clear hb0 hb1
  have hZ1 := bookZ2_any bb n cc CA A1 c1 _ w1 (by rw [hl1]; omega) hbk1
  rw [hl1] at hZ1
  have HZ1 := hid hZ1
  clear hZ1
  go_wp2_with fail
  refine HZ1.out.mono ?_
  intro e w2 hp2
  obtain ⟨rfl, A2, c2, hbk2, hnb2, ht2, hb2⟩ := book_step hbk1 hp2 (by rw [hl1]; exact hnb1) ht1
  obtain ⟨_, _, _, p3, _⟩ := cells4 ht2
  clear hbk1 hp2 hnb1 ht1 p1 HZ1
  have hl2 : (xs ++ [rgPage RA n rc (xs.length + 1)] ++ [zPage CA n cc (xs.length + 2)]).length = xs.length + 2 := by simp
  have hb02 := hb01.trans hb2
  clear hb01 hb2
  have hZ2 := bookZ2_any bb q ec EA A2 c2 _ w2 (by rw [hl2]; omega) hbk2
  rw [hl2] at hZ2
  have HZ2 := hid hZ2
  clear hZ2
  go_wp2_with fail
  refine HZ2.out.mono ?_
  intro e w3 hp3
  obtain ⟨rfl, A3, c3, hbk3, hnb3, ht3, hb3⟩ := book_step hbk2 hp3 (by rw [hl2]; rw [hl1] at hnb2; exact hnb2) ht2
  clear hbk2 hp3 hnb2 ht2 p3 HZ2
  have hb03 := hb02.trans hb3
  rw [hl2] at hnb3
  clear hb02 hb3 hl1 hl2
  have hys' := hys.out
  generalize hzs : xs ++ [rgPage RA n rc (xs.length + 1)] ++ [zPage CA n cc (xs.length + 2)] ++ [zPage EA q ec (xs.length + 3)] = zs at hbk3 hys'
  have hzl : zs.length = xs.length + 3 := by rw [← hzs]; simp
  clear hzs hys
  have HYS := hid hys'
  have HZL := hid hzl
  have HK := hid hk.out
  have hlt3 := heap_lt ht3
  have hnb3' : ¬ BkS bb A3 zs.length c3 w.heap.size := by rw [hzl]; exact hnb3
  clear hys' hzl hk hnb3
  go_wp2_with fail
  go_loopw [4] (fun i wr => ∃ j : Nat, j ≤ k ∧ j ≤ 60 ∧ i = .int .i64 j ∧ ∃ A c, BookAt wr bb A c (zs ++ rowPages (xs.length + 3) nr gs j) ∧ ¬ BkS bb A (zs ++ rowPages (xs.length + 3) nr gs j).length c w.heap.size ∧ wr.heap[w.heap.size]? = some (.cells #[.slice RA n rc, .slice CA n cc, .slice NA k nc, .slice EA q ec] 43 (0, 0)) ∧ Below bb w wr) (fun i _ => k - (intOf i).toNat)
  case atStart => exact ⟨0, Nat.zero_le _, by omega, rfl, A3, c3, by simpa [rowPages] using hbk3, by simpa [rowPages] using hnb3', ht3, hb03⟩
  case round =>
    clear hbk3 ht3 hb03 hlt3 hnb3'
    obtain ⟨j, hj, hj6, rfl, A, c, hbk, hnb, ht, hb⟩ := hrel
    obtain ⟨_, _, p2, _⟩ := cells4 ht
    by_cases hlt : j < k
    · by_cases hl6 : j < 60
      · have hgl : j < gs.length := by rw [HK.out]; exact hlt
        obtain ⟨b, off, rfl, hbl, hc⟩ := (hN.below hb).2 (by omega)
        have z0 := hc j (rowV nr (gs.getD j 0)) (by rw [List.getElem?_map, List.getElem?_eq_getElem hgl, List.getD_eq_getElem?_getD, List.getElem?_eq_getElem hgl]; rfl)
        have hlen : (zs ++ rowPages (xs.length + 3) nr gs j).length = xs.length + 3 + j := by rw [List.length_append, rowPages_len, HZL.out]
        have hZ := bookZ2_any bb nr nr (some ⟨gs.getD j 0, 0, none⟩) A c _ wr (by rw [hlen]; omega) hbk
        rw [hlen] at hZ
        unfold rowV at z0
        generalize hgj : gs.getD j 0 = gj at z0 hZ
        have HGJ := hid hgj
        have HZ := hid hZ
        have HB := hid hb
        have HBK := hid hbk
        have HNB := hid hnb
        have HT := hid ht
        clear hZ hc hb hlen hgj hgl hbk hnb ht
        have hd6 : (j : Int) < 60 := by omega
        go_wp2_with fail
        refine HZ.out.mono ?_
        intro e w5 hp5
        obtain ⟨rfl, A5, c5, hbk5, hnb5, ht5, hb5⟩ := book_step HBK.out hp5 HNB.out HT.out
        have HBK5 := hid hbk5
        have HNB5 := hid hnb5
        clear HZ HBK hp5 HNB HT p2 z0 hbk5 hnb5
        go_wp2
        go_roundw
        case rel =>
          refine ⟨j + 1, by omega, by omega, by go_num, A5, c5, ?_, ?_, ht5, HB.out.trans hb5⟩
          · rw [rowPages_snoc, ← List.append_assoc, HGJ.out]; exact HBK5.out
          · rw [rowPages_snoc, ← List.append_assoc, List.length_append, HGJ.out]; exact HNB5.out
        case measure => simp [intOf]; omega
      · have hm : min k 60 = j := by omega
        rw [hm] at HYS
        have hd6 : ¬ (j : Int) < 60 := by omega
        have HB := hid hb
        have HBK := hid hbk
        clear hnb hb hbk hm
        go_wp2
        go_end0
        exact ⟨rfl, HB.out, A, c, by rw [HYS.out]; exact HBK.out⟩
    · have hm : min k 60 = j := by omega
      rw [hm] at HYS
      have HB := hid hb
      have HBK := hid hbk
      clear hnb hb hbk hm
      go_wp2
      go_end0
      exact ⟨rfl, HB.out, A, c, by rw [HYS.out]; exact HBK.out⟩
end Go.Proofs.YtoclbcfgfaialaaGreatDoor
