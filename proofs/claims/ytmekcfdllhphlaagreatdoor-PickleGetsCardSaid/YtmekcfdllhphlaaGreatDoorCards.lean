/-
  DERIVED. GIVEN WITH THE SEED: THE CARDS: each row of YtmekcfdllhphlaaGreatDoorRows.lean that lists a variable, with what it lists TIED to the program's text (the seventh form; the later family's looks); each row that meets fmt, with fmt's text TOLD by the authors' own Lean function (tested against real Go, not proved from fmt's source: count such statements apart). THE CARD IS WHAT COUNTS. Prove the row's statement (the work); the ties are given (YtmekcfdllhphlaaGreatDoorTie.lean); close each card by the builder's one call (the guide's Derived/Test/ToyasCard.lean, 'card_holds'). Laid BY PROGRAM, IN A SANDBOX (cutbox-door.mjs). By AI agents, Wed Nov 11 2026. No macro, syntax, notation, axiom, sorry.
-/
import Derived.Test.YtmekcfdllhphlaaGreatDoorRows
import GoSem.ClaimSeven
namespace Go.Proofs.YtmekcfdllhphlaaGreatDoor
namespace Rows

/-- THE TIED CARD OF 'leatworklaw20.PickleGets'. -/
def pickleGetsCard : Claim7 := { stood := { row := pickleGetsRow, standIns := [], harness := (true, "233d5cb09f35338beff55d9ba1d2540cb935c410677bbf5e41afbc10d9e64e62"), looks := false }, kinds := [], alts := [], laidByText := true, laidKinds := [.sentinel], laidTests := true, laidLooks := .later }
def PickleGetsCardSaid : Prop := Claim7.holds Tryz.pinned (.plain (OpenSpec.ofChange pickleGetsSpec)) pickleGetsCard

/-- THE TIED CARD OF 'leatworklaw20.PickleCaught'. -/
def pickleCaughtCard : Claim7 := { stood := { row := pickleCaughtRow, standIns := [], harness := (true, "233d5cb09f35338beff55d9ba1d2540cb935c410677bbf5e41afbc10d9e64e62"), looks := false }, kinds := [], alts := [], laidByText := true, laidKinds := [.sentinel], laidTests := true, laidLooks := .later }
def PickleCaughtCardSaid : Prop := Claim7.holds Tryz.pinned (.plain (OpenSpec.ofChange pickleCaughtSpec)) pickleCaughtCard

/-- THE SECOND FORM's CARD OF 'leatworklaw20.PickleGets'. -/
def pickleGetsUptoCard : Claim7 := { stood := { row := pickleGetsUptoRow, standIns := [], harness := (true, "233d5cb09f35338beff55d9ba1d2540cb935c410677bbf5e41afbc10d9e64e62"), looks := false }, kinds := [], alts := [], laidByText := true, laidKinds := [.sentinel], laidTests := true, laidLooks := .later }
def PickleGetsUptoCardSaid : Prop := Claim7.holds Tryz.pinned (.plain (OpenSpec.upto pickleGetsSpec)) pickleGetsUptoCard

/-- THE SECOND FORM's CARD OF 'leatworklaw20.PickleCaught'. -/
def pickleCaughtUptoCard : Claim7 := { stood := { row := pickleCaughtUptoRow, standIns := [], harness := (true, "233d5cb09f35338beff55d9ba1d2540cb935c410677bbf5e41afbc10d9e64e62"), looks := false }, kinds := [], alts := [], laidByText := true, laidKinds := [.sentinel], laidTests := true, laidLooks := .later }
def PickleCaughtUptoCardSaid : Prop := Claim7.holds Tryz.pinned (.plain (OpenSpec.upto pickleCaughtSpec)) pickleCaughtUptoCard
end Rows
end Go.Proofs.YtmekcfdllhphlaaGreatDoor
