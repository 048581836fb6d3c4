/-
  DERIVED. GIVEN WITH THE SEED: THE CARDS: each row of YtmekcfdllhphlaaDoorRows.lean that lists a variable, with what it lists TIED to the program's text (the seventh form; the later family's looks); each row that meets fmt, with fmt's text TOLD by the authors' own Lean function (tested against real Go, not proved from fmt's source: count such statements apart). THE CARD IS WHAT COUNTS. Prove the row's statement (the work); the ties are given (YtmekcfdllhphlaaDoorTie.lean); close each card by the builder's one call (the guide's Derived/Test/ToyasCard.lean, 'card_holds'). Laid BY PROGRAM, IN A SANDBOX (cutbox-door.mjs). By AI agents, Wed Nov 11 2026. No macro, syntax, notation, axiom, sorry.
-/
import Derived.Test.YtmekcfdllhphlaaDoorRows
import GoSem.ClaimSeven
namespace Go.Proofs.YtmekcfdllhphlaaDoor
namespace Rows

/-- THE TIED CARD OF 'leatworklaw20.PicklePuts'. -/
def picklePutsCard : Claim7 := { stood := { row := picklePutsRow, standIns := [], harness := (true, "5c7c24f3f163267658839de8cc9f4545a02ccfedb2900f3b8e61d73ca287aaae"), looks := false }, kinds := [], alts := [], laidByText := true, laidKinds := [.sentinel], laidTests := true, laidLooks := .later }
def PicklePutsCardSaid : Prop := Claim7.holds Tryd.pinned (.plain (OpenSpec.ofChange picklePutsSpec)) picklePutsCard

/-- THE TIED CARD OF 'leatworklaw20.PickleRead'. -/
def pickleReadCard : Claim7 := { stood := { row := pickleReadRow, standIns := [], harness := (true, "5c7c24f3f163267658839de8cc9f4545a02ccfedb2900f3b8e61d73ca287aaae"), looks := false }, kinds := [], alts := [], laidByText := true, laidKinds := [.sentinel], laidTests := true, laidLooks := .later }
def PickleReadCardSaid : Prop := Claim7.holds Tryd.pinned (.plain (OpenSpec.ofChange pickleReadSpec)) pickleReadCard

/-- THE TIED CARD OF 'leatworklaw20.PickleMany'. -/
def pickleManyCard : Claim7 := { stood := { row := pickleManyRow, standIns := [], harness := (true, "5c7c24f3f163267658839de8cc9f4545a02ccfedb2900f3b8e61d73ca287aaae"), looks := false }, kinds := [], alts := [], laidByText := true, laidKinds := [.sentinel], laidTests := true, laidLooks := .later }
def PickleManyCardSaid : Prop := Claim7.holds Tryd.pinned (.plain (OpenSpec.ofChange pickleManySpec)) pickleManyCard

/-- THE TIED CARD OF 'leatworklaw20.PickleSums'. -/
def pickleSumsCard : Claim7 := { stood := { row := pickleSumsRow, standIns := [], harness := (true, "5c7c24f3f163267658839de8cc9f4545a02ccfedb2900f3b8e61d73ca287aaae"), looks := false }, kinds := [], alts := [], laidByText := true, laidKinds := [.sentinel], laidTests := true, laidLooks := .later }
def PickleSumsCardSaid : Prop := Claim7.holds Tryd.pinned (.plain (OpenSpec.ofChange pickleSumsSpec)) pickleSumsCard

/-- THE TIED CARD OF 'leatworklaw20.PickleBack'. -/
def pickleBackCard : Claim7 := { stood := { row := pickleBackRow, standIns := [], harness := (true, "5c7c24f3f163267658839de8cc9f4545a02ccfedb2900f3b8e61d73ca287aaae"), looks := false }, kinds := [], alts := [], laidByText := true, laidKinds := [.sentinel], laidTests := true, laidLooks := .later }
def PickleBackCardSaid : Prop := Claim7.holds Tryd.pinned (.plain (OpenSpec.ofChange pickleBackSpec)) pickleBackCard

/-- THE TIED CARD OF 'leatworklaw20.PickleLeast'. -/
def pickleLeastCard : Claim7 := { stood := { row := pickleLeastRow, standIns := [], harness := (true, "5c7c24f3f163267658839de8cc9f4545a02ccfedb2900f3b8e61d73ca287aaae"), looks := false }, kinds := [], alts := [], laidByText := true, laidKinds := [.sentinel], laidTests := true, laidLooks := .later }
def PickleLeastCardSaid : Prop := Claim7.holds Tryd.pinned (.plain (OpenSpec.ofChange pickleLeastSpec)) pickleLeastCard

/-- THE TIED CARD OF 'leatworklaw20.PickleOne'. -/
def pickleOneCard : Claim7 := { stood := { row := pickleOneRow, standIns := [], harness := (true, "5c7c24f3f163267658839de8cc9f4545a02ccfedb2900f3b8e61d73ca287aaae"), looks := false }, kinds := [], alts := [], laidByText := true, laidKinds := [.sentinel], laidTests := true, laidLooks := .later }
def PickleOneCardSaid : Prop := Claim7.holds Tryd.pinned (.plain (OpenSpec.ofChange pickleOneSpec)) pickleOneCard

/-- THE TIED CARD OF 'leatworklaw20.PickleOpens'. -/
def pickleOpensCard : Claim7 := { stood := { row := pickleOpensRow, standIns := [], harness := (true, "5c7c24f3f163267658839de8cc9f4545a02ccfedb2900f3b8e61d73ca287aaae"), looks := false }, kinds := [], alts := [], laidByText := true, laidKinds := [.sentinel], laidTests := true, laidLooks := .later }
def PickleOpensCardSaid : Prop := Claim7.holds Tryd.pinned (.plain (OpenSpec.ofChange pickleOpensSpec)) pickleOpensCard

/-- THE TIED CARD OF 'leatworklaw20.PickleLong'. -/
def pickleLongCard : Claim7 := { stood := { row := pickleLongRow, standIns := [], harness := (true, "5c7c24f3f163267658839de8cc9f4545a02ccfedb2900f3b8e61d73ca287aaae"), looks := false }, kinds := [], alts := [], laidByText := true, laidKinds := [.sentinel], laidTests := true, laidLooks := .later }
def PickleLongCardSaid : Prop := Claim7.holds Tryd.pinned (.plain (OpenSpec.ofChange pickleLongSpec)) pickleLongCard

/-- THE SECOND FORM's CARD OF 'leatworklaw20.PicklePuts'. -/
def picklePutsUptoCard : Claim7 := { stood := { row := picklePutsUptoRow, standIns := [], harness := (true, "5c7c24f3f163267658839de8cc9f4545a02ccfedb2900f3b8e61d73ca287aaae"), looks := false }, kinds := [], alts := [], laidByText := true, laidKinds := [.sentinel], laidTests := true, laidLooks := .later }
def PicklePutsUptoCardSaid : Prop := Claim7.holds Tryd.pinned (.plain (OpenSpec.upto picklePutsSpec)) picklePutsUptoCard

/-- THE SECOND FORM's CARD OF 'leatworklaw20.PickleRead'. -/
def pickleReadUptoCard : Claim7 := { stood := { row := pickleReadUptoRow, standIns := [], harness := (true, "5c7c24f3f163267658839de8cc9f4545a02ccfedb2900f3b8e61d73ca287aaae"), looks := false }, kinds := [], alts := [], laidByText := true, laidKinds := [.sentinel], laidTests := true, laidLooks := .later }
def PickleReadUptoCardSaid : Prop := Claim7.holds Tryd.pinned (.plain (OpenSpec.upto pickleReadSpec)) pickleReadUptoCard

/-- THE SECOND FORM's CARD OF 'leatworklaw20.PickleMany'. -/
def pickleManyUptoCard : Claim7 := { stood := { row := pickleManyUptoRow, standIns := [], harness := (true, "5c7c24f3f163267658839de8cc9f4545a02ccfedb2900f3b8e61d73ca287aaae"), looks := false }, kinds := [], alts := [], laidByText := true, laidKinds := [.sentinel], laidTests := true, laidLooks := .later }
def PickleManyUptoCardSaid : Prop := Claim7.holds Tryd.pinned (.plain (OpenSpec.upto pickleManySpec)) pickleManyUptoCard

/-- THE SECOND FORM's CARD OF 'leatworklaw20.PickleSums'. -/
def pickleSumsUptoCard : Claim7 := { stood := { row := pickleSumsUptoRow, standIns := [], harness := (true, "5c7c24f3f163267658839de8cc9f4545a02ccfedb2900f3b8e61d73ca287aaae"), looks := false }, kinds := [], alts := [], laidByText := true, laidKinds := [.sentinel], laidTests := true, laidLooks := .later }
def PickleSumsUptoCardSaid : Prop := Claim7.holds Tryd.pinned (.plain (OpenSpec.upto pickleSumsSpec)) pickleSumsUptoCard

/-- THE SECOND FORM's CARD OF 'leatworklaw20.PickleBack'. -/
def pickleBackUptoCard : Claim7 := { stood := { row := pickleBackUptoRow, standIns := [], harness := (true, "5c7c24f3f163267658839de8cc9f4545a02ccfedb2900f3b8e61d73ca287aaae"), looks := false }, kinds := [], alts := [], laidByText := true, laidKinds := [.sentinel], laidTests := true, laidLooks := .later }
def PickleBackUptoCardSaid : Prop := Claim7.holds Tryd.pinned (.plain (OpenSpec.upto pickleBackSpec)) pickleBackUptoCard

/-- THE SECOND FORM's CARD OF 'leatworklaw20.PickleLeast'. -/
def pickleLeastUptoCard : Claim7 := { stood := { row := pickleLeastUptoRow, standIns := [], harness := (true, "5c7c24f3f163267658839de8cc9f4545a02ccfedb2900f3b8e61d73ca287aaae"), looks := false }, kinds := [], alts := [], laidByText := true, laidKinds := [.sentinel], laidTests := true, laidLooks := .later }
def PickleLeastUptoCardSaid : Prop := Claim7.holds Tryd.pinned (.plain (OpenSpec.upto pickleLeastSpec)) pickleLeastUptoCard

/-- THE SECOND FORM's CARD OF 'leatworklaw20.PickleOne'. -/
def pickleOneUptoCard : Claim7 := { stood := { row := pickleOneUptoRow, standIns := [], harness := (true, "5c7c24f3f163267658839de8cc9f4545a02ccfedb2900f3b8e61d73ca287aaae"), looks := false }, kinds := [], alts := [], laidByText := true, laidKinds := [.sentinel], laidTests := true, laidLooks := .later }
def PickleOneUptoCardSaid : Prop := Claim7.holds Tryd.pinned (.plain (OpenSpec.upto pickleOneSpec)) pickleOneUptoCard

/-- THE SECOND FORM's CARD OF 'leatworklaw20.PickleOpens'. -/
def pickleOpensUptoCard : Claim7 := { stood := { row := pickleOpensUptoRow, standIns := [], harness := (true, "5c7c24f3f163267658839de8cc9f4545a02ccfedb2900f3b8e61d73ca287aaae"), looks := false }, kinds := [], alts := [], laidByText := true, laidKinds := [.sentinel], laidTests := true, laidLooks := .later }
def PickleOpensUptoCardSaid : Prop := Claim7.holds Tryd.pinned (.plain (OpenSpec.upto pickleOpensSpec)) pickleOpensUptoCard

/-- THE SECOND FORM's CARD OF 'leatworklaw20.PickleLong'. -/
def pickleLongUptoCard : Claim7 := { stood := { row := pickleLongUptoRow, standIns := [], harness := (true, "5c7c24f3f163267658839de8cc9f4545a02ccfedb2900f3b8e61d73ca287aaae"), looks := false }, kinds := [], alts := [], laidByText := true, laidKinds := [.sentinel], laidTests := true, laidLooks := .later }
def PickleLongUptoCardSaid : Prop := Claim7.holds Tryd.pinned (.plain (OpenSpec.upto pickleLongSpec)) pickleLongUptoCard
end Rows
end Go.Proofs.YtmekcfdllhphlaaDoor
