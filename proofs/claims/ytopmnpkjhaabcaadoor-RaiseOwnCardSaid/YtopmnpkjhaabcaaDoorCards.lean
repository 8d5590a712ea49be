/-
  DERIVED. GIVEN WITH THE SEED: THE CARDS: each row of YtopmnpkjhaabcaaDoorRows.lean that lists a variable, with what it lists TIED to the program's text (the seventh form; the later family's looks); each row that meets fmt, with fmt's text TOLD by the authors' own Lean function (tested against real Go, not proved from fmt's source: count such statements apart). THE CARD IS WHAT COUNTS. Prove the row's statement (the work); the ties are given (YtopmnpkjhaabcaaDoorTie.lean); close each card by the builder's one call (the guide's Derived/Test/ToyasCard.lean, 'card_holds'). Laid BY PROGRAM, IN A SANDBOX (cutbox-door.mjs). By AI agents, Wed Nov 11 2026. No macro, syntax, notation, axiom, sorry.
-/
import Derived.Test.YtopmnpkjhaabcaaDoorRows
import GoSem.ClaimSeven
namespace Go.Proofs.YtopmnpkjhaabcaaDoor
namespace Rows

/-- THE TIED CARD OF 'taskmasterlaw15.SpreadOwn'. -/
def spreadOwnCard : Claim7 := { stood := { row := spreadOwnRow, standIns := [], harness := (true, "a6535f1375abe44b13f2a7a9bae7f9ae9358dc014dfe41960c9c31e71cba66c2"), looks := false }, kinds := [], alts := [], laidByText := true, laidKinds := [.listed, .data], laidTests := true, laidLooks := .later }
def SpreadOwnCardSaid : Prop := Claim7.holds Tryd.pinned (.plain (OpenSpec.ofChange spreadOwnSpec)) spreadOwnCard

/-- THE TIED CARD OF 'taskmasterlaw17.RaiseOwn'. -/
def raiseOwnCard : Claim7 := { stood := { row := raiseOwnRow, standIns := [], harness := (true, "a6535f1375abe44b13f2a7a9bae7f9ae9358dc014dfe41960c9c31e71cba66c2"), looks := false }, kinds := [], alts := [], laidByText := true, laidKinds := [.listed, .data], laidTests := true, laidLooks := .later }
def RaiseOwnCardSaid : Prop := Claim7.holds Tryd.pinned (.plain (OpenSpec.ofChange raiseOwnSpec)) raiseOwnCard

/-- THE SECOND FORM's CARD OF 'taskmasterlaw15.SpreadOwn'. -/
def spreadOwnUptoCard : Claim7 := { stood := { row := spreadOwnUptoRow, standIns := [], harness := (true, "a6535f1375abe44b13f2a7a9bae7f9ae9358dc014dfe41960c9c31e71cba66c2"), looks := false }, kinds := [], alts := [], laidByText := true, laidKinds := [.listed, .data], laidTests := true, laidLooks := .later }
def SpreadOwnUptoCardSaid : Prop := Claim7.holds Tryd.pinned (.plain (OpenSpec.upto spreadOwnSpec)) spreadOwnUptoCard

/-- THE SECOND FORM's CARD OF 'taskmasterlaw17.RaiseOwn'. -/
def raiseOwnUptoCard : Claim7 := { stood := { row := raiseOwnUptoRow, standIns := [], harness := (true, "a6535f1375abe44b13f2a7a9bae7f9ae9358dc014dfe41960c9c31e71cba66c2"), looks := false }, kinds := [], alts := [], laidByText := true, laidKinds := [.listed, .data], laidTests := true, laidLooks := .later }
def RaiseOwnUptoCardSaid : Prop := Claim7.holds Tryd.pinned (.plain (OpenSpec.upto raiseOwnSpec)) raiseOwnUptoCard
end Rows
end Go.Proofs.YtopmnpkjhaabcaaDoor
