/-
  DERIVED. GIVEN WITH THE SEED: THE CARDS: each row of YtbjkdnbmgoibiaaGreatDoorRows.lean that lists a variable, with what it lists TIED to the program's text (the seventh form; the later family's looks); each row that meets fmt, with fmt's text TOLD by the authors' own Lean function (tested against real Go, not proved from fmt's source: count such statements apart). THE CARD IS WHAT COUNTS. Prove the row's statement (the work); the ties are given (YtbjkdnbmgoibiaaGreatDoorTie.lean); close each card by the builder's one call (the guide's Derived/Test/ToyasCard.lean, 'card_holds'). Laid BY PROGRAM, IN A SANDBOX (cutbox-door.mjs). By AI agents, Wed Nov 11 2026. No macro, syntax, notation, axiom, sorry.
-/
import Derived.Test.YtbjkdnbmgoibiaaGreatDoorRows
import GoSem.ClaimSeven
namespace Go.Proofs.YtbjkdnbmgoibiaaGreatDoor
namespace Rows

/-- THE TIED CARD OF 'stithylaw10.WorldMoves'. -/
def worldMovesCard : Claim7 := { stood := { row := worldMovesRow, standIns := [], harness := (true, "6bcbc36cd3c753e4ad70b3a06aa8f617b69c2328542439a7d0becfe7c4064b74"), looks := true }, kinds := [], alts := [], laidByText := true, laidKinds := [.data, .pinned], laidTests := true, laidLooks := .later }
def WorldMovesCardSaid : Prop := Claim7.holds Tryz.pinned (.plain (OpenSpec.ofChange worldMovesSpec)) worldMovesCard

/-- THE TIED CARD OF 'stithylaw10.WorldFar'. -/
def worldFarCard : Claim7 := { stood := { row := worldFarRow, standIns := [], harness := (true, "6bcbc36cd3c753e4ad70b3a06aa8f617b69c2328542439a7d0becfe7c4064b74"), looks := true }, kinds := [], alts := [], laidByText := true, laidKinds := [.data, .pinned], laidTests := true, laidLooks := .later }
def WorldFarCardSaid : Prop := Claim7.holds Tryz.pinned (.plain (OpenSpec.ofChange worldFarSpec)) worldFarCard

/-- THE TIED CARD OF 'stithylaw10.WorldSlots'. -/
def worldSlotsCard : Claim7 := { stood := { row := worldSlotsRow, standIns := [], harness := (true, "6bcbc36cd3c753e4ad70b3a06aa8f617b69c2328542439a7d0becfe7c4064b74"), looks := true }, kinds := [], alts := [], laidByText := true, laidKinds := [.data, .pinned], laidTests := true, laidLooks := .later }
def WorldSlotsCardSaid : Prop := Claim7.holds Tryz.pinned (.plain (OpenSpec.ofChange worldSlotsSpec)) worldSlotsCard

/-- THE TIED CARD OF 'stithylaw10.WorldLoads'. -/
def worldLoadsCard : Claim7 := { stood := { row := worldLoadsRow, standIns := [], harness := (true, "6bcbc36cd3c753e4ad70b3a06aa8f617b69c2328542439a7d0becfe7c4064b74"), looks := true }, kinds := [], alts := [], laidByText := true, laidKinds := [.data, .pinned], laidTests := true, laidLooks := .later }
def WorldLoadsCardSaid : Prop := Claim7.holds Tryz.pinned (.plain (OpenSpec.ofChange worldLoadsSpec)) worldLoadsCard

/-- THE TIED CARD OF 'stithylaw10.WorldBack'. -/
def worldBackCard : Claim7 := { stood := { row := worldBackRow, standIns := [], harness := (true, "6bcbc36cd3c753e4ad70b3a06aa8f617b69c2328542439a7d0becfe7c4064b74"), looks := true }, kinds := [], alts := [], laidByText := true, laidKinds := [.data, .pinned], laidTests := true, laidLooks := .later }
def WorldBackCardSaid : Prop := Claim7.holds Tryz.pinned (.plain (OpenSpec.ofChange worldBackSpec)) worldBackCard

/-- THE TIED CARD OF 'stithylaw10.WorldPlays'. -/
def worldPlaysCard : Claim7 := { stood := { row := worldPlaysRow, standIns := [], harness := (true, "6bcbc36cd3c753e4ad70b3a06aa8f617b69c2328542439a7d0becfe7c4064b74"), looks := true }, kinds := [], alts := [], laidByText := true, laidKinds := [.data, .pinned], laidTests := true, laidLooks := .later }
def WorldPlaysCardSaid : Prop := Claim7.holds Tryz.pinned (.plain (OpenSpec.ofChange worldPlaysSpec)) worldPlaysCard

/-- THE SECOND FORM's CARD OF 'stithylaw10.WorldMoves'. -/
def worldMovesUptoCard : Claim7 := { stood := { row := worldMovesUptoRow, standIns := [], harness := (true, "6bcbc36cd3c753e4ad70b3a06aa8f617b69c2328542439a7d0becfe7c4064b74"), looks := true }, kinds := [], alts := [], laidByText := true, laidKinds := [.data, .pinned], laidTests := true, laidLooks := .later }
def WorldMovesUptoCardSaid : Prop := Claim7.holds Tryz.pinned (.plain (OpenSpec.upto worldMovesSpec)) worldMovesUptoCard

/-- THE SECOND FORM's CARD OF 'stithylaw10.WorldFar'. -/
def worldFarUptoCard : Claim7 := { stood := { row := worldFarUptoRow, standIns := [], harness := (true, "6bcbc36cd3c753e4ad70b3a06aa8f617b69c2328542439a7d0becfe7c4064b74"), looks := true }, kinds := [], alts := [], laidByText := true, laidKinds := [.data, .pinned], laidTests := true, laidLooks := .later }
def WorldFarUptoCardSaid : Prop := Claim7.holds Tryz.pinned (.plain (OpenSpec.upto worldFarSpec)) worldFarUptoCard

/-- THE SECOND FORM's CARD OF 'stithylaw10.WorldSlots'. -/
def worldSlotsUptoCard : Claim7 := { stood := { row := worldSlotsUptoRow, standIns := [], harness := (true, "6bcbc36cd3c753e4ad70b3a06aa8f617b69c2328542439a7d0becfe7c4064b74"), looks := true }, kinds := [], alts := [], laidByText := true, laidKinds := [.data, .pinned], laidTests := true, laidLooks := .later }
def WorldSlotsUptoCardSaid : Prop := Claim7.holds Tryz.pinned (.plain (OpenSpec.upto worldSlotsSpec)) worldSlotsUptoCard

/-- THE SECOND FORM's CARD OF 'stithylaw10.WorldLoads'. -/
def worldLoadsUptoCard : Claim7 := { stood := { row := worldLoadsUptoRow, standIns := [], harness := (true, "6bcbc36cd3c753e4ad70b3a06aa8f617b69c2328542439a7d0becfe7c4064b74"), looks := true }, kinds := [], alts := [], laidByText := true, laidKinds := [.data, .pinned], laidTests := true, laidLooks := .later }
def WorldLoadsUptoCardSaid : Prop := Claim7.holds Tryz.pinned (.plain (OpenSpec.upto worldLoadsSpec)) worldLoadsUptoCard

/-- THE SECOND FORM's CARD OF 'stithylaw10.WorldBack'. -/
def worldBackUptoCard : Claim7 := { stood := { row := worldBackUptoRow, standIns := [], harness := (true, "6bcbc36cd3c753e4ad70b3a06aa8f617b69c2328542439a7d0becfe7c4064b74"), looks := true }, kinds := [], alts := [], laidByText := true, laidKinds := [.data, .pinned], laidTests := true, laidLooks := .later }
def WorldBackUptoCardSaid : Prop := Claim7.holds Tryz.pinned (.plain (OpenSpec.upto worldBackSpec)) worldBackUptoCard

/-- THE SECOND FORM's CARD OF 'stithylaw10.WorldPlays'. -/
def worldPlaysUptoCard : Claim7 := { stood := { row := worldPlaysUptoRow, standIns := [], harness := (true, "6bcbc36cd3c753e4ad70b3a06aa8f617b69c2328542439a7d0becfe7c4064b74"), looks := true }, kinds := [], alts := [], laidByText := true, laidKinds := [.data, .pinned], laidTests := true, laidLooks := .later }
def WorldPlaysUptoCardSaid : Prop := Claim7.holds Tryz.pinned (.plain (OpenSpec.upto worldPlaysSpec)) worldPlaysUptoCard
end Rows
end Go.Proofs.YtbjkdnbmgoibiaaGreatDoor
