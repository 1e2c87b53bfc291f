/-
  The chapter's example of trees (harbingerlaw29.lives): its grammar is sound and fine (plain).
-/
import Derived.Test.YtpbnfinmjnpkpaaGreatDoorGrFi
import Derived.Test.YtpbnfinmjnpkpaaGreatDoorGrOf
namespace Go.Proofs.YtpbnfinmjnpkpaaGreatDoor
open Go.RowKit
set_option maxRecDepth 100000
namespace Gr
def lvA : Ru := ⟨[97], 0, .mk 0 [] [] [] [.mk 1 [] [] [] [.mk 6 [66] [] [] [], .mk 5 [97] [] [] []], .mk 1 [] [] [] []]⟩
def lvB : Ru := ⟨[66], 1, .mk 8 [] [98] [] []⟩
def lvRs : List Ru := [lvA, lvB]
def lvG : Gm := ⟨[71], 1, 9, lvRs⟩
theorem lv_sound : sound Rp.good lvG = true := by kernel_rfl
theorem lv_fine : fineR lvRs = true := by decide
end Gr
theorem lv_of1 : ofL Gr.lvRs [1, 3] 2 = [1] := by decide
theorem lv_of0 : ofL Gr.lvRs [0] 2 = [0] := by decide
end Go.Proofs.YtpbnfinmjnpkpaaGreatDoor
