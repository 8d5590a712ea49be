/- What the row's condition gives a walk: the table of blanks; a start that meets the condition. -/
import Derived.Test.YtopmnpkjhaabcaaGreatDoorRa
import Derived.Test.YtopmnpkjhaabcaaGreatDoorRows
import Derived.Test.YtopmnpkjhaabcaaGreatDoorj
import Derived.LaidMore
import Derived.Stop.Joined
import Derived.Stop.LaidErr
import Derived.MakeChecks
import Derived.Carry
import Derived.Lib.LaidTab
set_option linter.unusedVariables false
set_option linter.unusedSimpArgs false
namespace Go.Proofs.YtopmnpkjhaabcaaGreatDoor
open Go.ChangeShapes Go.WideShapes Go.ChangeAt Go.RowKit

theorem own : ownKnob Tryz.prog.godebug = none := by kernel_rfl
theorem laidOut : laidOutB Tryz.prog = true := by kernel_rfl
def laidL : List (String × DataW Unit) := [("unicode.White_Space", Rows.laid_unicode_White_Space), ("strings.asciiSpace", Rows.laid_strings_asciiSpace)]
theorem space_data : (Rows.laid_strings_asciiSpace : DataW Unit) = Lib.tabData .u8 Lib.asciiSpaceTab := by kernel_rfl
set_option maxRecDepth 100000 in
theorem space_of_laid {W : World} (h : laidMetH Tryz.prog laidL W) : SpaceTab W := by
  rw [MakeChecks.laidMetH_plain _ _ _ (by kernel_rfl)] at h
  have h2 := h.tail
  rw [space_data] at h2
  obtain ⟨g, hg⟩ : ∃ g, Tryz.prog.globalNamed "strings.asciiSpace" = some g := ⟨1, by kernel_rfl⟩
  exact Lib.tabIs_of_head (g := 1) (by kernel_rfl) (t := 116) (by kernel_rfl) (e := 5) (n := 256) (by kernel_rfl) (by kernel_rfl) (by kernel_rfl) (by kernel_rfl) h2
set_option maxRecDepth 100000 in
/-- The door's own heap meets the condition. -/
theorem door_met (os : Os) (args : Array Value) : laidMetH Tryz.prog laidL ((World.doorLaid Tryz.prog 4000 os).forCall (fun _ _ => 0) ⟨#[], args, []⟩).memory :=
  laidMetH_of_parts3 (fuel := 12) (laidMet_of_run' 12 (by kernel_rfl) (by kernel_rfl)) (by kernel_rfl) (by kernel_rfl)
theorem come_ucb {ts : List Task} (h : Come ts) : ∀ k, k < ts.length → 0 ≤ (gT ts k).ucb ∧ (gT ts k).ucb < 18446744073709551616 := fun k hk => h.ucb _ (by rw [gT_at hk]; exact List.getElem_mem hk)
theorem come_ecb {ts : List Task} (h : Come ts) : ∀ k, k < ts.length → 0 ≤ (gT ts k).ecb ∧ (gT ts k).ecb < 18446744073709551616 := fun k hk => h.ecb _ (by rw [gT_at hk]; exact List.getElem_mem hk)
end Go.Proofs.YtopmnpkjhaabcaaGreatDoor
