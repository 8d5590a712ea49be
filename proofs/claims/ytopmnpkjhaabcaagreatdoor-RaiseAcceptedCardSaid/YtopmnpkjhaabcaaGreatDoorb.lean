/- lex.Words, lex.gap, lex.name walked. -/
import Derived.Test.YtopmnpkjhaabcaaGreatDoora
import Derived.Test.YtopmnpkjhaabcaaGreatDoorShelf
import Derived.Lib.AppendIntMem
set_option linter.unusedVariables false
set_option linter.unusedSimpArgs false
namespace Go.Proofs.YtopmnpkjhaabcaaGreatDoor
open Go.RowKit

def str (l : List UInt8) : ByteArray := ⟨l.toArray⟩
/-- The words of the language. -/
def wordsL : List (List UInt8) := [[114, 101, 108, 111, 97, 100], [116, 97, 115, 107], [112, 101, 114, 105, 111, 100], [100, 101, 97, 100, 108, 105, 110, 101], [102, 105, 120, 101, 100], [102, 108, 111, 97, 116], [116, 104, 114, 101, 115, 104], [114, 101, 103, 105, 111, 110, 115], [101, 99, 98], [117, 99, 98]]
abbrev SpaceTab (w : World) : Prop := Lib.TabIs Tryz.prog w "strings.asciiSpace" .u8 Lib.asciiSpaceTab
theorem SpaceTab.below {w w' : World} (h : SpaceTab w) (hb : Below w.heap.size w w') : SpaceTab w' := Lib.tabBelow_of_tabIs h w' hb

theorem ascii_of {l : List UInt8} (h : ∀ b ∈ l, b.toNat < 128) : ∀ (j : Nat) b, l[j]? = some b → b.toNat < 128 := fun j b hb => h b (List.mem_of_getElem? hb)
def wordsS : ByteArray := ⟨#[114, 101, 108, 111, 97, 100, 32, 116, 97, 115, 107, 32, 112, 101, 114, 105, 111, 100, 32, 100, 101, 97, 100, 108, 105, 110, 101, 32, 102, 105, 120, 101, 100, 32, 102, 108, 111, 97, 116, 32, 116, 104, 114, 101, 115, 104, 32, 114, 101, 103, 105, 111, 110, 115, 32, 101, 99, 98, 32, 117, 99, 98]⟩
theorem wordsS_fields : Lib.fields wordsS.data.toList = wordsL := by decide
theorem wordsS_ascii : ∀ (j : Nat) b, wordsS.data.toList[j]? = some b → b.toNat < 128 := ascii_of (by decide)
theorem fields_words (w : World) (hT : SpaceTab w) : Calls Tryz.prog 104 #[.string wordsS] w fun e w' => e = .returned (.slice (some ⟨w.heap.size, 0, none⟩) 10 10) ∧ w' = w.alloc (.cells (wordsL.map fun l => Value.string ⟨l.toArray⟩).toArray 9) := by
  have h := Tryz.strings_Fields wordsS w (by decide) wordsS_ascii hT
  rw [wordsS_fields] at h
  exact h
theorem words_any (w : World) (hT : SpaceTab w) : Calls Tryz.prog 98 #[] w fun e w' => e = .returned (.slice (some ⟨w.heap.size, 0, none⟩) 10 10) ∧ w' = w.alloc (.cells (wordsL.map fun l => Value.string ⟨l.toArray⟩).toArray 9) := by
  go_enter Tryz.func98, Tryz.ntmps98
  go_wp2_with (go_at_call 104; refine (fields_words _ hT).mono ?_; rintro e w' ⟨rfl, rfl⟩)
  go_ret
  exact ⟨rfl, rfl⟩
end Go.Proofs.YtopmnpkjhaabcaaGreatDoor
