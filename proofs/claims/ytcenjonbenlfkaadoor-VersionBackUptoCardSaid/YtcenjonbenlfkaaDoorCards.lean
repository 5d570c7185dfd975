/-
  DERIVED. GIVEN WITH THE SEED: THE CARDS: each row of YtcenjonbenlfkaaDoorRows.lean that lists a variable, with what it lists TIED to the program's text (the seventh form; the later family's looks); each row that meets fmt, with fmt's text TOLD by the authors' own Lean function (tested against real Go, not proved from fmt's source: count such statements apart). THE CARD IS WHAT COUNTS. Prove the row's statement (the work); the ties are given (YtcenjonbenlfkaaDoorTie.lean); close each card by the builder's one call (the guide's Derived/Test/ToyasCard.lean, 'card_holds'). Laid BY PROGRAM, IN A SANDBOX (cutbox-door.mjs). By AI agents, Wed Nov 11 2026. No macro, syntax, notation, axiom, sorry.
-/
import Derived.Test.YtcenjonbenlfkaaDoorRows
import GoSem.ClaimSeven
namespace Go.Proofs.YtcenjonbenlfkaaDoor
namespace Rows

/-- THE TIED CARD OF 'roadkeep5.VersionBack'. -/
def versionBackCard : Claim7 := { stood := { row := versionBackRow, standIns := [], harness := (true, "e9cdb0aa58acad72ed0d6dc6015f4a31067ef884fcde27c17dc803fa3c5afee4"), looks := true }, kinds := [], alts := [], laidByText := true, laidKinds := [.data, .data, .data, .data, .sentinel, .sentinel, .pinned], laidTests := true, laidLooks := .later }
def VersionBackCardSaid : Prop := Claim7.holds Tryd.pinned (.plain (OpenSpec.ofChange versionBackSpec)) versionBackCard

/-- THE TIED CARD OF 'roadkeep5.LayoutWords'. -/
def layoutWordsCard : Claim7 := { stood := { row := layoutWordsRow, standIns := [], harness := (true, "e9cdb0aa58acad72ed0d6dc6015f4a31067ef884fcde27c17dc803fa3c5afee4"), looks := true }, kinds := [], alts := [], laidByText := true, laidKinds := [.data, .pinned], laidTests := true, laidLooks := .later }
def LayoutWordsCardSaid : Prop := Claim7.holds Tryd.pinned (.plain (OpenSpec.ofChange layoutWordsSpec)) layoutWordsCard

/-- THE SECOND FORM's CARD OF 'roadkeep5.VersionBack'. -/
def versionBackUptoCard : Claim7 := { stood := { row := versionBackUptoRow, standIns := [], harness := (true, "e9cdb0aa58acad72ed0d6dc6015f4a31067ef884fcde27c17dc803fa3c5afee4"), looks := true }, kinds := [], alts := [], laidByText := true, laidKinds := [.data, .data, .data, .data, .sentinel, .sentinel, .pinned], laidTests := true, laidLooks := .later }
def VersionBackUptoCardSaid : Prop := Claim7.holds Tryd.pinned (.plain (OpenSpec.upto versionBackSpec)) versionBackUptoCard

/-- THE SECOND FORM's CARD OF 'roadkeep5.LayoutWords'. -/
def layoutWordsUptoCard : Claim7 := { stood := { row := layoutWordsUptoRow, standIns := [], harness := (true, "e9cdb0aa58acad72ed0d6dc6015f4a31067ef884fcde27c17dc803fa3c5afee4"), looks := true }, kinds := [], alts := [], laidByText := true, laidKinds := [.data, .pinned], laidTests := true, laidLooks := .later }
def LayoutWordsUptoCardSaid : Prop := Claim7.holds Tryd.pinned (.plain (OpenSpec.upto layoutWordsSpec)) layoutWordsUptoCard
end Rows
end Go.Proofs.YtcenjonbenlfkaaDoor
