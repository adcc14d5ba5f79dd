/-
  DERIVED. GIVEN WITH THE SEED: THE CARDS: each row of YthodfkfgdoolnaaGreatDoorRows.lean that lists a variable, with what it lists TIED to the program's text (the seventh form; the later family's looks); each row that meets fmt, with fmt's text TOLD by the authors' own Lean function (tested against real Go, not proved from fmt's source: count such statements apart). THE CARD IS WHAT COUNTS. Prove the row's statement (the work); the ties are given (YthodfkfgdoolnaaGreatDoorTie.lean); close each card by the builder's one call (the guide's Derived/Test/ToyasCard.lean, 'card_holds'). Laid BY PROGRAM, IN A SANDBOX (cutbox-door.mjs). By AI agents, Wed Nov 11 2026. No macro, syntax, notation, axiom, sorry.
-/
import Derived.Test.YthodfkfgdoolnaaGreatDoorRows
import GoSem.ClaimSeven
namespace Go.Proofs.YthodfkfgdoolnaaGreatDoor
namespace Rows

/-- THE TIED CARD OF 'typeballlaw04.DeciShows'. -/
def deciShowsCard : Claim7 := { stood := { row := deciShowsRow, standIns := [], harness := (true, "c5bb2ce7228c831a0c6df185f268886494311e4b98afd99983a42ef82779922a"), looks := false }, kinds := [], alts := [], laidByText := true, laidKinds := [.data, .pinned], laidTests := true, laidLooks := .later }
def DeciShowsCardSaid : Prop := Claim7.holds Tryz.pinned (.plain (OpenSpec.ofChange deciShowsSpec)) deciShowsCard

/-- THE TIED CARD OF 'typeballlaw04.DeciReads'. -/
def deciReadsCard : Claim7 := { stood := { row := deciReadsRow, standIns := [], harness := (true, "c5bb2ce7228c831a0c6df185f268886494311e4b98afd99983a42ef82779922a"), looks := false }, kinds := [], alts := [], laidByText := true, laidKinds := [.data, .pinned], laidTests := true, laidLooks := .later }
def DeciReadsCardSaid : Prop := Claim7.holds Tryz.pinned (.plain (OpenSpec.ofChange deciReadsSpec)) deciReadsCard

/-- THE TIED CARD OF 'typeballlaw04.DeciBack'. -/
def deciBackCard : Claim7 := { stood := { row := deciBackRow, standIns := [], harness := (true, "c5bb2ce7228c831a0c6df185f268886494311e4b98afd99983a42ef82779922a"), looks := false }, kinds := [], alts := [], laidByText := true, laidKinds := [.data, .pinned], laidTests := true, laidLooks := .later }
def DeciBackCardSaid : Prop := Claim7.holds Tryz.pinned (.plain (OpenSpec.ofChange deciBackSpec)) deciBackCard

/-- THE SECOND FORM's CARD OF 'typeballlaw04.DeciShows'. -/
def deciShowsUptoCard : Claim7 := { stood := { row := deciShowsUptoRow, standIns := [], harness := (true, "c5bb2ce7228c831a0c6df185f268886494311e4b98afd99983a42ef82779922a"), looks := false }, kinds := [], alts := [], laidByText := true, laidKinds := [.data, .pinned], laidTests := true, laidLooks := .later }
def DeciShowsUptoCardSaid : Prop := Claim7.holds Tryz.pinned (.plain (OpenSpec.upto deciShowsSpec)) deciShowsUptoCard

/-- THE SECOND FORM's CARD OF 'typeballlaw04.DeciReads'. -/
def deciReadsUptoCard : Claim7 := { stood := { row := deciReadsUptoRow, standIns := [], harness := (true, "c5bb2ce7228c831a0c6df185f268886494311e4b98afd99983a42ef82779922a"), looks := false }, kinds := [], alts := [], laidByText := true, laidKinds := [.data, .pinned], laidTests := true, laidLooks := .later }
def DeciReadsUptoCardSaid : Prop := Claim7.holds Tryz.pinned (.plain (OpenSpec.upto deciReadsSpec)) deciReadsUptoCard

/-- THE SECOND FORM's CARD OF 'typeballlaw04.DeciBack'. -/
def deciBackUptoCard : Claim7 := { stood := { row := deciBackUptoRow, standIns := [], harness := (true, "c5bb2ce7228c831a0c6df185f268886494311e4b98afd99983a42ef82779922a"), looks := false }, kinds := [], alts := [], laidByText := true, laidKinds := [.data, .pinned], laidTests := true, laidLooks := .later }
def DeciBackUptoCardSaid : Prop := Claim7.holds Tryz.pinned (.plain (OpenSpec.upto deciBackSpec)) deciBackUptoCard
end Rows
end Go.Proofs.YthodfkfgdoolnaaGreatDoor
