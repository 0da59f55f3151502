/-
  DERIVED. GIVEN WITH THE SEED: THE CARDS: each row of YtlacfgnjljjdiaaDoorRows.lean that lists a variable, with what it lists TIED to the program's text (the seventh form; the later family's looks); each row that meets fmt, with fmt's text TOLD by the authors' own Lean function (tested against real Go, not proved from fmt's source: count such statements apart). THE CARD IS WHAT COUNTS. Prove the row's statement (the work); the ties are given (YtlacfgnjljjdiaaDoorTie.lean); close each card by the builder's one call (the guide's Derived/Test/ToyasCard.lean, 'card_holds'). Laid BY PROGRAM, IN A SANDBOX (cutbox-door.mjs). By AI agents, Wed Nov 11 2026. No macro, syntax, notation, axiom, sorry.
-/
import Derived.Test.YtlacfgnjljjdiaaDoorRows
import GoSem.ClaimSeven
namespace Go.Proofs.YtlacfgnjljjdiaaDoor
namespace Rows

/-- THE TIED CARD OF 'whetstonelaw04.TermReads'. -/
def termReadsCard : Claim7 := { stood := { row := termReadsRow, standIns := [], harness := (true, "77e18ba96b8138d92980a4cc2e73772e01a2a80df00ca358c9d8e79ac1678995"), looks := true }, kinds := [], alts := [], laidByText := true, laidKinds := [.data, .data, .data, .sentinel, .sentinel], laidTests := true, laidLooks := .later }
def TermReadsCardSaid : Prop := Claim7.holds Tryd.pinned (.plain (OpenSpec.ofChange termReadsSpec)) termReadsCard

/-- THE TIED CARD OF 'whetstonelaw04.TermSubst'. -/
def termSubstCard : Claim7 := { stood := { row := termSubstRow, standIns := [], harness := (true, "77e18ba96b8138d92980a4cc2e73772e01a2a80df00ca358c9d8e79ac1678995"), looks := true }, kinds := [], alts := [], laidByText := true, laidKinds := [.data, .data, .data], laidTests := true, laidLooks := .later }
def TermSubstCardSaid : Prop := Claim7.holds Tryd.pinned (.plain (OpenSpec.ofChange termSubstSpec)) termSubstCard

/-- THE SECOND FORM's CARD OF 'whetstonelaw04.TermReads'. -/
def termReadsUptoCard : Claim7 := { stood := { row := termReadsUptoRow, standIns := [], harness := (true, "77e18ba96b8138d92980a4cc2e73772e01a2a80df00ca358c9d8e79ac1678995"), looks := true }, kinds := [], alts := [], laidByText := true, laidKinds := [.data, .data, .data, .sentinel, .sentinel], laidTests := true, laidLooks := .later }
def TermReadsUptoCardSaid : Prop := Claim7.holds Tryd.pinned (.plain (OpenSpec.upto termReadsSpec)) termReadsUptoCard

/-- THE SECOND FORM's CARD OF 'whetstonelaw04.TermSubst'. -/
def termSubstUptoCard : Claim7 := { stood := { row := termSubstUptoRow, standIns := [], harness := (true, "77e18ba96b8138d92980a4cc2e73772e01a2a80df00ca358c9d8e79ac1678995"), looks := true }, kinds := [], alts := [], laidByText := true, laidKinds := [.data, .data, .data], laidTests := true, laidLooks := .later }
def TermSubstUptoCardSaid : Prop := Claim7.holds Tryd.pinned (.plain (OpenSpec.upto termSubstSpec)) termSubstUptoCard
end Rows
end Go.Proofs.YtlacfgnjljjdiaaDoor
