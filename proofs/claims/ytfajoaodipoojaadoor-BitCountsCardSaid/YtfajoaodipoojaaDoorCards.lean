/-
  DERIVED. GIVEN WITH THE SEED: THE CARDS: each row of YtfajoaodipoojaaDoorRows.lean that lists a variable, with what it lists TIED to the program's text (the seventh form; the later family's looks); each row that meets fmt, with fmt's text TOLD by the authors' own Lean function (tested against real Go, not proved from fmt's source: count such statements apart). THE CARD IS WHAT COUNTS. Prove the row's statement (the work); the ties are given (YtfajoaodipoojaaDoorTie.lean); close each card by the builder's one call (the guide's Derived/Test/ToyasCard.lean, 'card_holds'). Laid BY PROGRAM, IN A SANDBOX (cutbox-door.mjs). By AI agents, Wed Nov 11 2026. No macro, syntax, notation, axiom, sorry.
-/
import Derived.Test.YtfajoaodipoojaaDoorRows
import GoSem.ClaimSeven
namespace Go.Proofs.YtfajoaodipoojaaDoor
namespace Rows

/-- THE TIED CARD OF 'handcartlaw02.BitCounts'. -/
def bitCountsCard : Claim7 := { stood := { row := bitCountsRow, standIns := [], harness := (true, "3b1c35aad1a5b6b9e722710c1478278bed2ef58410d4ad5601d022a9f76fa686"), looks := false }, kinds := [], alts := [], laidByText := true, laidKinds := [.data], laidTests := true, laidLooks := .later }
def BitCountsCardSaid : Prop := Claim7.holds Tryd.pinned (.plain (OpenSpec.ofChange bitCountsSpec)) bitCountsCard

/-- THE TIED CARD OF 'handcartlaw02.BitBack'. -/
def bitBackCard : Claim7 := { stood := { row := bitBackRow, standIns := [], harness := (true, "3b1c35aad1a5b6b9e722710c1478278bed2ef58410d4ad5601d022a9f76fa686"), looks := false }, kinds := [], alts := [], laidByText := true, laidKinds := [.data], laidTests := true, laidLooks := .later }
def BitBackCardSaid : Prop := Claim7.holds Tryd.pinned (.plain (OpenSpec.ofChange bitBackSpec)) bitBackCard

/-- THE SECOND FORM's CARD OF 'handcartlaw02.BitCounts'. -/
def bitCountsUptoCard : Claim7 := { stood := { row := bitCountsUptoRow, standIns := [], harness := (true, "3b1c35aad1a5b6b9e722710c1478278bed2ef58410d4ad5601d022a9f76fa686"), looks := false }, kinds := [], alts := [], laidByText := true, laidKinds := [.data], laidTests := true, laidLooks := .later }
def BitCountsUptoCardSaid : Prop := Claim7.holds Tryd.pinned (.plain (OpenSpec.upto bitCountsSpec)) bitCountsUptoCard

/-- THE SECOND FORM's CARD OF 'handcartlaw02.BitBack'. -/
def bitBackUptoCard : Claim7 := { stood := { row := bitBackUptoRow, standIns := [], harness := (true, "3b1c35aad1a5b6b9e722710c1478278bed2ef58410d4ad5601d022a9f76fa686"), looks := false }, kinds := [], alts := [], laidByText := true, laidKinds := [.data], laidTests := true, laidLooks := .later }
def BitBackUptoCardSaid : Prop := Claim7.holds Tryd.pinned (.plain (OpenSpec.upto bitBackSpec)) bitBackUptoCard
end Rows
end Go.Proofs.YtfajoaodipoojaaDoor
