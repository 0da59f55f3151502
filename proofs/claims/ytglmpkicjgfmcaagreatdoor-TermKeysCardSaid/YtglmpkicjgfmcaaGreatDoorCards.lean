/-
  DERIVED. GIVEN WITH THE SEED: THE CARDS: each row of YtglmpkicjgfmcaaGreatDoorRows.lean that lists a variable, with what it lists TIED to the program's text (the seventh form; the later family's looks); each row that meets fmt, with fmt's text TOLD by the authors' own Lean function (tested against real Go, not proved from fmt's source: count such statements apart). THE CARD IS WHAT COUNTS. Prove the row's statement (the work); the ties are given (YtglmpkicjgfmcaaGreatDoorTie.lean); close each card by the builder's one call (the guide's Derived/Test/ToyasCard.lean, 'card_holds'). Laid BY PROGRAM, IN A SANDBOX (cutbox-door.mjs). By AI agents, Wed Nov 11 2026. No macro, syntax, notation, axiom, sorry.
-/
import Derived.Test.YtglmpkicjgfmcaaGreatDoorRows
import GoSem.ClaimSeven
namespace Go.Proofs.YtglmpkicjgfmcaaGreatDoor
namespace Rows

/-- THE TIED CARD OF 'whetstonelaw04.TermKeys'. -/
def termKeysCard : Claim7 := { stood := { row := termKeysRow, standIns := [], harness := (true, "365d44f5e46eb44c1e3ea1af0427ff3c7e0a3ae5e9f8759050fefaba080bae56"), looks := true }, kinds := [], alts := [], laidByText := true, laidKinds := [.data, .data, .data, .sentinel, .sentinel], laidTests := true, laidLooks := .later }
def TermKeysCardSaid : Prop := Claim7.holds Tryz.pinned (.plain (OpenSpec.ofChange termKeysSpec)) termKeysCard

/-- THE SECOND FORM's CARD OF 'whetstonelaw04.TermKeys'. -/
def termKeysUptoCard : Claim7 := { stood := { row := termKeysUptoRow, standIns := [], harness := (true, "365d44f5e46eb44c1e3ea1af0427ff3c7e0a3ae5e9f8759050fefaba080bae56"), looks := true }, kinds := [], alts := [], laidByText := true, laidKinds := [.data, .data, .data, .sentinel, .sentinel], laidTests := true, laidLooks := .later }
def TermKeysUptoCardSaid : Prop := Claim7.holds Tryz.pinned (.plain (OpenSpec.upto termKeysSpec)) termKeysUptoCard
end Rows
end Go.Proofs.YtglmpkicjgfmcaaGreatDoor
