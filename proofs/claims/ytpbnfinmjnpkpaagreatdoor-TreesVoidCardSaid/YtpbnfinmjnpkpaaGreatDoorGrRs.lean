/-
  Rules in memory, one behind the other.
-/
import Derived.Test.YtpbnfinmjnpkpaaGreatDoorGrRu
namespace Go.Proofs.YtpbnfinmjnpkpaaGreatDoor
open Go.RowKit
set_option maxRecDepth 100000
/-- rules in memory -/
def RusR (w : World) (B : Nat) (l : List Gr.Ru) (xs : List Value) : Prop := xs.length = l.length * 10 ∧ ∀ i (hi : i < l.length), RuR w B l[i] ((xs.drop (i * 10)).take 10)
theorem readsRu {w : World} {B : Nat} {A : Option Addr} {l : List Gr.Ru} {xs : List Value} (hr : Reads w B 10 A l.length xs) (hv : RusR w B l xs) (i : Nat) (hi : i < l.length) :
    ∃ b o u0 u1 u2 u3 u4 u5 u6 u7 u8 u9, A = some ⟨b, o, none⟩ ∧ b < B ∧ RuR w B l[i] [u0, u1, u2, u3, u4, u5, u6, u7, u8, u9] ∧ w.cell? ⟨b, o + i * 10, none⟩ = some u0 ∧ w.cell? ⟨b, o + i * 10 + 1, none⟩ = some u1 ∧ w.cell? ⟨b, o + i * 10 + 2, none⟩ = some u2 ∧ w.cell? ⟨b, o + i * 10 + 3, none⟩ = some u3 ∧ w.cell? ⟨b, o + i * 10 + 4, none⟩ = some u4 ∧ w.cell? ⟨b, o + i * 10 + 5, none⟩ = some u5 ∧ w.cell? ⟨b, o + i * 10 + 6, none⟩ = some u6 ∧ w.cell? ⟨b, o + i * 10 + 7, none⟩ = some u7 ∧ w.cell? ⟨b, o + i * 10 + 8, none⟩ = some u8 ∧ w.cell? ⟨b, o + i * 10 + 9, none⟩ = some u9 := by
  obtain ⟨b, o, e, hb, hc⟩ := hr.2 (by omega)
  have hl := hv.1
  have h := hv.2 i hi
  have hlen : ((xs.drop (i * 10)).take 10).length = 10 := by rw [List.length_take, List.length_drop]; omega
  obtain ⟨ys, hys⟩ : ∃ ys, (xs.drop (i * 10)).take 10 = ys := ⟨_, rfl⟩
  rw [hys] at h hlen
  match ys, hlen with
  | [u0, u1, u2, u3, u4, u5, u6, u7, u8, u9], _ =>
    have hat : ∀ j u, ([u0, u1, u2, u3, u4, u5, u6, u7, u8, u9] : List Value)[j]? = some u → w.cell? ⟨b, o + (i * 10 + j), none⟩ = some u := by
      intro j u hu
      refine hc (i * 10 + j) u ?_
      rw [← hys, List.getElem?_take] at hu
      split at hu
      · rw [List.getElem?_drop] at hu; exact hu
      · cases hu
    refine ⟨b, o, u0, u1, u2, u3, u4, u5, u6, u7, u8, u9, e, hb, h, hat 0 _ rfl, ?_, ?_, ?_, ?_, ?_, ?_, ?_, ?_, ?_⟩
    · exact hat 1 _ rfl
    · exact hat 2 _ rfl
    · exact hat 3 _ rfl
    · exact hat 4 _ rfl
    · exact hat 5 _ rfl
    · exact hat 6 _ rfl
    · exact hat 7 _ rfl
    · exact hat 8 _ rfl
    · exact hat 9 _ rfl
end Go.Proofs.YtpbnfinmjnpkpaaGreatDoor
