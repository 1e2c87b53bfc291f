/-
  The laid tables: what a call finds in memory.
-/
import Derived.Test.YtcbilcfieoibbaaGreatDoorRep15
import Derived.Test.YtcbilcfieoibbaaGreatDoorRows
import Derived.Lib.LaidU8
import Derived.Lib.LaidTab
import Derived.MakeChecks
namespace Go.Proofs.YtcbilcfieoibbaaGreatDoor
open Go.ChangeShapes Go.WideShapes Go.RowKit
open Go.Lib (VarReads)
set_option maxRecDepth 100000
theorem tab_reads {w : World} {n : String} {k : IntKind} {zs : List Int} {g : Nat} {t e : TypeId} {m : Nat} (hg : Tryz.prog.globalNamed n = some g) (hty : (Tryz.prog.globals[g]?).map (·.type) = some t) (ht : Tryz.prog.underlying t = some (.array m e)) (he : Tryz.prog.underlying e = some (.int k)) (hce : Tryz.prog.cellsOf e = 1) (hct : Tryz.prog.cellsOf t = m)
    (h : VarReads Tryz.prog w n (Lib.tabData k zs)) : Lib.TabIs Tryz.prog w n k zs := by
  obtain ⟨g', t', cs, fuel, p, hg', ht', hvar, hd⟩ := h
  obtain rfl := Option.some.inj (hg.symm.trans hg')
  obtain rfl := Option.some.inj (hty.symm.trans ht')
  unfold Lib.TabIs
  rw [hvar, ← Lib.cells_of_tab ht he hce hct hd]
theorem strs_read {w : World} {n : String} {ds : List (DataW Unit)} {l : List (List UInt8)} {g : Nat} {t e : TypeId} {m : Nat} (hg : Tryz.prog.globalNamed n = some g) (hty : (Tryz.prog.globals[g]?).map (·.type) = some t) (ht : Tryz.prog.underlying t = some (.array m e)) (he : Tryz.prog.underlying e = some .string) (hce : Tryz.prog.cellsOf e = 1)
    (hds : ds = l.map fun s => .lit (.string s)) (hl : l.length = m) (h : VarReads Tryz.prog w n (.agg ds)) : ∀ i (hi : i < l.length), w.cell? ⟨g, i, none⟩ = some (.string ⟨l[i].toArray⟩) := by
  obtain ⟨g', t', cs, fuel, p, hg', ht', hvar, hd⟩ := h
  obtain rfl := Option.some.inj (hg.symm.trans hg')
  obtain rfl := Option.some.inj (hty.symm.trans ht')
  intro i hi
  obtain ⟨fuel', d, q, hdi, hes⟩ := Lib.array_elem ht hd i (by omega)
  subst hds
  rw [List.getElem?_map, List.getElem?_eq_getElem hi] at hdi
  have hdi' : DataW.lit (.string l[i]) = d := by simpa using hdi
  rw [hce, Nat.mul_one] at hes
  obtain ⟨s, hs, hx, _⟩ := DataW.trod_string he hes
  have hd2 : d = .lit (.string s.data.toList) := congrArg Prod.fst hx
  rw [← hdi'] at hd2
  have hs3 : l[i] = s.data.toList := by injection hd2 with hd2; injection hd2
  have h1 : cs.toList[i]? = some (.string s) := by
    have := congrArg (·[0]?) hs
    simpa [List.getElem?_take, List.getElem?_drop] using this
  rw [World.var?_cell hg hvar i, ← Array.getElem?_toList, h1, hs3]
def db64 : List Int := [0, 1, 56, 2, 57, 49, 28, 3, 61, 58, 42, 50, 38, 29, 17, 4, 62, 47, 59, 36, 45, 43, 51, 22, 53, 39, 33, 30, 24, 18, 12, 5, 63, 55, 48, 27, 60, 41, 37, 16, 46, 35, 44, 21, 52, 32, 23, 11, 54, 26, 40, 15, 34, 20, 31, 10, 25, 14, 19, 9, 13, 8, 7, 6]
theorem tb_of {W : World} (h : laidMetH Tryz.prog Rows.reportsTextRow.laid W) : TB W.heap.size W := by
  rw [MakeChecks.laidMetH_plain _ _ _ (by kernel_rfl)] at h
  have r1 : VarReads Tryz.prog W "math/bits.deBruijn64tab" (Lib.tabData .u8 db64) := by
    have e : (Lib.tabData .u8 db64 : DataW Unit) = Rows.laid_math_bits_deBruijn64tab := by kernel_rfl
    rw [e]; exact Lib.laidMet.reads h (.tail _ (.head _))
  have r2 : VarReads Tryz.prog W "internal/strconv.uint64pow10" (Lib.tabData .u64 Lib.pow10Tab) := by
    have e : (Lib.tabData .u64 Lib.pow10Tab : DataW Unit) = Rows.laid_internal_strconv_uint64pow10 := by kernel_rfl
    rw [e]; exact Lib.laidMet.reads h (.tail _ (.tail _ (.head _)))
  have r3 : VarReads Tryz.prog W "unicode/utf8.acceptRanges" Lib.acceptData := by
    have e : (Lib.acceptData : DataW Unit) = Rows.laid_unicode_utf8_acceptRanges := by kernel_rfl
    rw [e]; exact Lib.laidMet.reads h (.tail _ (.tail _ (.tail _ (.head _))))
  have r4 : VarReads Tryz.prog W "harbinger/reports.texts" (.agg (texts.map fun s => .lit (.string s))) := by
    have e : (.agg (texts.map fun s => .lit (.string s)) : DataW Unit) = Rows.laid_harbinger_reports_texts := by kernel_rfl
    rw [e]; exact Lib.laidMet.reads h (.tail _ (.tail _ (.tail _ (.tail _ (.head _)))))
  have r5 : VarReads Tryz.prog W "unicode/utf8.first" Lib.firstData := by
    have e : (Lib.firstData : DataW Unit) = Rows.laid_unicode_utf8_first := by kernel_rfl
    rw [e]; exact Lib.laidMet.reads h (.tail _ (.tail _ (.tail _ (.tail _ (.tail _ (.head _))))))
  have hu := utf8Tabs_of_reads Tryz.lays260 ⟨by kernel_rfl, by kernel_rfl, by kernel_rfl, by kernel_rfl, by kernel_rfl, by kernel_rfl, by kernel_rfl⟩ r5 r3
  have hd := tab_reads (g := 6) (by kernel_rfl) (by kernel_rfl) (Tryz.underlying295) Tryz.underlying5 (by kernel_rfl) (by kernel_rfl) r1
  have hp := tab_reads (g := 3) (by kernel_rfl) (by kernel_rfl) (Tryz.underlying242) Tryz.underlying208 (by kernel_rfl) (by kernel_rfl) r2
  have ht := strs_read (g := 0) (l := texts) (by kernel_rfl) (by kernel_rfl) (Tryz.underlying90) Tryz.underlying9 (by kernel_rfl) rfl rfl r4
  refine ⟨hu, hp, ?_, ht, ?_⟩
  · exact Lib.TabIs.cell hd (by kernel_rfl) 15 (by decide)
  · exact World.block_lt_of_cell? W ⟨6, 15, none⟩ (Lib.TabIs.cell hd (by kernel_rfl) 15 (by decide))
end Go.Proofs.YtcbilcfieoibbaaGreatDoor
