/-
  NARROWER THAN 'FOR EVERY INPUT', by the rows' own cells (each row's printed sentence says how): PicklePuts: laid · PickleRead: laid · PickleMany: laid · PickleSums: laid · PickleBack: laid · PickleLeast: laid · PickleOne: laid · PickleOpens: laid · PickleLong: laid.
  DERIVED. THE GIVEN ROWS OF THIS SEAT. 9 by the template 'for every input the law returns true; each argument reads behind the call as it read before'; 0 by the template 'total and deterministic' (their statements: YtmekcfdllhphlaaDoorTotals.lean).
  GIVEN WITH THE SEED: the statements are not yours to turn. If you find one false, say at which input.
  Laid BY PROGRAM, IN A SANDBOX (cutbox-rows.mjs): the forced cells as the released guide's own fill.sh prints them over the translation 9a747b321d2e74e9… (all of the seat's roots in one cut). By AI agents, Wed Nov 11 2026. No macro, syntax, notation, axiom, sorry.
-/
import Derived.Test.YtmekcfdllhphlaaDoorChecked
import GoSem.Claim
import GoSem.ClaimJoined
import GoSem.ClaimMapViews
import Derived.JoinedTies
import Derived.KernelRfl
namespace Go.Proofs.YtmekcfdllhphlaaDoor
/- THE CELL 'sum', in the pinned program and in every row, IS THE sha256 OF THE DUMP (.gsa) THAT YtmekcfdllhphlaaDoorProg.lean LOADS. Nothing in Lean hashes anything: it is a label: what it is worth is what the hold of that sum in a sandbox is worth. -/
noncomputable def Tryd.pinned : Pinned := { name := "ytmekcfdllhphlaadoor", sum := "9a747b321d2e74e9b1ee089917bb44630ba44037a230534b32cfd66b36c50fed", checked := Tryd.checked }
namespace Rows
def none {H : Type} : Left H := { results := [], args := [] }

/- WHAT THE LISTED PACKAGE-LEVEL VARIABLES READ AS WHEN THE CALL BEGINS. Each datum BY PROGRAM (the guide's laid-datum.mjs) off the statement by which the dump's own 'gosem.cut.vars' lays the variable. In a bare row this is a premise. The card (YtmekcfdllhphlaaDoorCards.lean) ties it to the program's text. -/
def laid_bytes_ErrTooLarge {H : Type} : DataW H := .iface "*errors.errorString" (.ptr (.agg [.lit (.string [98, 121, 116, 101, 115, 46, 66, 117, 102, 102, 101, 114, 58, 32, 116, 111, 111, 32, 108, 97, 114, 103, 101])]))

/-- 'leatworklaw20.PicklePuts': WHATEVER THE INPUT: true; the input reads as it did. -/
def picklePutsSpec : ChangeSpec := { name := "picklePuts", fn := fun _ => fun
  | [d] => { results := [.lit (.bool true)], args := [d] }
  | _ => none }
def picklePutsRow : OpenClaim := { program := "ytmekcfdllhphlaadoor", sum := "9a747b321d2e74e9b1ee089917bb44630ba44037a230534b32cfd66b36c50fed", func := "leatwork/leatworklaw20.PicklePuts", spec := "picklePuts", unfollowed := true, recurses := true, named := ["bytes.ErrTooLarge"], plainKeys := false, apart := false, laid := [("bytes.ErrTooLarge", laid_bytes_ErrTooLarge)] }
def PicklePutsSaid : Prop := picklePutsRow.holds Tryd.pinned (OpenSpec.ofChange picklePutsSpec)

/-- ITS FALSE NEIGHBOUR: 'it returns false'. Refute it at one input. -/
def picklePutsWrong : ChangeSpec := { name := "picklePuts", fn := fun _ => fun
  | [d] => { results := [.lit (.bool false)], args := [d] }
  | _ => none }
def PicklePutsWrongFalsely : Prop := picklePutsRow.holds Tryd.pinned (OpenSpec.ofChange picklePutsWrong)

/-- 'leatworklaw20.PickleRead': WHATEVER THE INPUT: true; the input reads as it did. -/
def pickleReadSpec : ChangeSpec := { name := "pickleRead", fn := fun _ => fun
  | [d] => { results := [.lit (.bool true)], args := [d] }
  | _ => none }
def pickleReadRow : OpenClaim := { program := "ytmekcfdllhphlaadoor", sum := "9a747b321d2e74e9b1ee089917bb44630ba44037a230534b32cfd66b36c50fed", func := "leatwork/leatworklaw20.PickleRead", spec := "pickleRead", unfollowed := true, recurses := true, named := ["bytes.ErrTooLarge"], plainKeys := false, apart := false, laid := [("bytes.ErrTooLarge", laid_bytes_ErrTooLarge)] }
def PickleReadSaid : Prop := pickleReadRow.holds Tryd.pinned (OpenSpec.ofChange pickleReadSpec)

/-- ITS FALSE NEIGHBOUR: 'it returns false'. Refute it at one input. -/
def pickleReadWrong : ChangeSpec := { name := "pickleRead", fn := fun _ => fun
  | [d] => { results := [.lit (.bool false)], args := [d] }
  | _ => none }
def PickleReadWrongFalsely : Prop := pickleReadRow.holds Tryd.pinned (OpenSpec.ofChange pickleReadWrong)

/-- 'leatworklaw20.PickleMany': WHATEVER THE INPUT: true; the input reads as it did. -/
def pickleManySpec : ChangeSpec := { name := "pickleMany", fn := fun _ => fun
  | [d] => { results := [.lit (.bool true)], args := [d] }
  | _ => none }
def pickleManyRow : OpenClaim := { program := "ytmekcfdllhphlaadoor", sum := "9a747b321d2e74e9b1ee089917bb44630ba44037a230534b32cfd66b36c50fed", func := "leatwork/leatworklaw20.PickleMany", spec := "pickleMany", unfollowed := true, recurses := true, named := ["bytes.ErrTooLarge"], plainKeys := false, apart := false, laid := [("bytes.ErrTooLarge", laid_bytes_ErrTooLarge)] }
def PickleManySaid : Prop := pickleManyRow.holds Tryd.pinned (OpenSpec.ofChange pickleManySpec)

/-- ITS FALSE NEIGHBOUR: 'it returns false'. Refute it at one input. -/
def pickleManyWrong : ChangeSpec := { name := "pickleMany", fn := fun _ => fun
  | [d] => { results := [.lit (.bool false)], args := [d] }
  | _ => none }
def PickleManyWrongFalsely : Prop := pickleManyRow.holds Tryd.pinned (OpenSpec.ofChange pickleManyWrong)

/-- 'leatworklaw20.PickleSums': WHATEVER THE INPUT: true; the input reads as it did. -/
def pickleSumsSpec : ChangeSpec := { name := "pickleSums", fn := fun _ => fun
  | [d1, d2, d3] => { results := [.lit (.bool true)], args := [d1, d2, d3] }
  | _ => none }
def pickleSumsRow : OpenClaim := { program := "ytmekcfdllhphlaadoor", sum := "9a747b321d2e74e9b1ee089917bb44630ba44037a230534b32cfd66b36c50fed", func := "leatwork/leatworklaw20.PickleSums", spec := "pickleSums", unfollowed := true, recurses := true, named := ["bytes.ErrTooLarge"], plainKeys := false, apart := false, laid := [("bytes.ErrTooLarge", laid_bytes_ErrTooLarge)] }
def PickleSumsSaid : Prop := pickleSumsRow.holds Tryd.pinned (OpenSpec.ofChange pickleSumsSpec)

/-- ITS FALSE NEIGHBOUR: 'it returns false'. Refute it at one input. -/
def pickleSumsWrong : ChangeSpec := { name := "pickleSums", fn := fun _ => fun
  | [d1, d2, d3] => { results := [.lit (.bool false)], args := [d1, d2, d3] }
  | _ => none }
def PickleSumsWrongFalsely : Prop := pickleSumsRow.holds Tryd.pinned (OpenSpec.ofChange pickleSumsWrong)

/-- 'leatworklaw20.PickleBack': WHATEVER THE INPUT: true; the input reads as it did. -/
def pickleBackSpec : ChangeSpec := { name := "pickleBack", fn := fun _ => fun
  | [d] => { results := [.lit (.bool true)], args := [d] }
  | _ => none }
def pickleBackRow : OpenClaim := { program := "ytmekcfdllhphlaadoor", sum := "9a747b321d2e74e9b1ee089917bb44630ba44037a230534b32cfd66b36c50fed", func := "leatwork/leatworklaw20.PickleBack", spec := "pickleBack", unfollowed := true, recurses := true, named := ["bytes.ErrTooLarge"], plainKeys := false, apart := false, laid := [("bytes.ErrTooLarge", laid_bytes_ErrTooLarge)] }
def PickleBackSaid : Prop := pickleBackRow.holds Tryd.pinned (OpenSpec.ofChange pickleBackSpec)

/-- ITS FALSE NEIGHBOUR: 'it returns false'. Refute it at one input. -/
def pickleBackWrong : ChangeSpec := { name := "pickleBack", fn := fun _ => fun
  | [d] => { results := [.lit (.bool false)], args := [d] }
  | _ => none }
def PickleBackWrongFalsely : Prop := pickleBackRow.holds Tryd.pinned (OpenSpec.ofChange pickleBackWrong)

/-- 'leatworklaw20.PickleLeast': WHATEVER THE INPUT: true; the input reads as it did. -/
def pickleLeastSpec : ChangeSpec := { name := "pickleLeast", fn := fun _ => fun
  | [d1, d2] => { results := [.lit (.bool true)], args := [d1, d2] }
  | _ => none }
def pickleLeastRow : OpenClaim := { program := "ytmekcfdllhphlaadoor", sum := "9a747b321d2e74e9b1ee089917bb44630ba44037a230534b32cfd66b36c50fed", func := "leatwork/leatworklaw20.PickleLeast", spec := "pickleLeast", unfollowed := true, recurses := true, named := ["bytes.ErrTooLarge"], plainKeys := false, apart := false, laid := [("bytes.ErrTooLarge", laid_bytes_ErrTooLarge)] }
def PickleLeastSaid : Prop := pickleLeastRow.holds Tryd.pinned (OpenSpec.ofChange pickleLeastSpec)

/-- ITS FALSE NEIGHBOUR: 'it returns false'. Refute it at one input. -/
def pickleLeastWrong : ChangeSpec := { name := "pickleLeast", fn := fun _ => fun
  | [d1, d2] => { results := [.lit (.bool false)], args := [d1, d2] }
  | _ => none }
def PickleLeastWrongFalsely : Prop := pickleLeastRow.holds Tryd.pinned (OpenSpec.ofChange pickleLeastWrong)

/-- 'leatworklaw20.PickleOne': WHATEVER THE INPUT: true; the input reads as it did. -/
def pickleOneSpec : ChangeSpec := { name := "pickleOne", fn := fun _ => fun
  | [d1, d2] => { results := [.lit (.bool true)], args := [d1, d2] }
  | _ => none }
def pickleOneRow : OpenClaim := { program := "ytmekcfdllhphlaadoor", sum := "9a747b321d2e74e9b1ee089917bb44630ba44037a230534b32cfd66b36c50fed", func := "leatwork/leatworklaw20.PickleOne", spec := "pickleOne", unfollowed := true, recurses := true, named := ["bytes.ErrTooLarge"], plainKeys := false, apart := false, laid := [("bytes.ErrTooLarge", laid_bytes_ErrTooLarge)] }
def PickleOneSaid : Prop := pickleOneRow.holds Tryd.pinned (OpenSpec.ofChange pickleOneSpec)

/-- ITS FALSE NEIGHBOUR: 'it returns false'. Refute it at one input. -/
def pickleOneWrong : ChangeSpec := { name := "pickleOne", fn := fun _ => fun
  | [d1, d2] => { results := [.lit (.bool false)], args := [d1, d2] }
  | _ => none }
def PickleOneWrongFalsely : Prop := pickleOneRow.holds Tryd.pinned (OpenSpec.ofChange pickleOneWrong)

/-- 'leatworklaw20.PickleOpens': WHATEVER THE INPUT: true; the input reads as it did. -/
def pickleOpensSpec : ChangeSpec := { name := "pickleOpens", fn := fun _ => fun
  | [d] => { results := [.lit (.bool true)], args := [d] }
  | _ => none }
def pickleOpensRow : OpenClaim := { program := "ytmekcfdllhphlaadoor", sum := "9a747b321d2e74e9b1ee089917bb44630ba44037a230534b32cfd66b36c50fed", func := "leatwork/leatworklaw20.PickleOpens", spec := "pickleOpens", unfollowed := true, recurses := true, named := ["bytes.ErrTooLarge"], plainKeys := false, apart := false, laid := [("bytes.ErrTooLarge", laid_bytes_ErrTooLarge)] }
def PickleOpensSaid : Prop := pickleOpensRow.holds Tryd.pinned (OpenSpec.ofChange pickleOpensSpec)

/-- ITS FALSE NEIGHBOUR: 'it returns false'. Refute it at one input. -/
def pickleOpensWrong : ChangeSpec := { name := "pickleOpens", fn := fun _ => fun
  | [d] => { results := [.lit (.bool false)], args := [d] }
  | _ => none }
def PickleOpensWrongFalsely : Prop := pickleOpensRow.holds Tryd.pinned (OpenSpec.ofChange pickleOpensWrong)

/-- 'leatworklaw20.PickleLong': WHATEVER THE INPUT: true; the input reads as it did. -/
def pickleLongSpec : ChangeSpec := { name := "pickleLong", fn := fun _ => fun
  | [] => { results := [.lit (.bool true)], args := [] }
  | _ => none }
def pickleLongRow : OpenClaim := { program := "ytmekcfdllhphlaadoor", sum := "9a747b321d2e74e9b1ee089917bb44630ba44037a230534b32cfd66b36c50fed", func := "leatwork/leatworklaw20.PickleLong", spec := "pickleLong", unfollowed := true, recurses := true, named := ["bytes.ErrTooLarge"], plainKeys := false, apart := false, laid := [("bytes.ErrTooLarge", laid_bytes_ErrTooLarge)] }
def PickleLongSaid : Prop := pickleLongRow.holds Tryd.pinned (OpenSpec.ofChange pickleLongSpec)

/-- ITS FALSE NEIGHBOUR: 'it returns false'. Refute it at one input. -/
def pickleLongWrong : ChangeSpec := { name := "pickleLong", fn := fun _ => fun
  | [] => { results := [.lit (.bool false)], args := [] }
  | _ => none }
def PickleLongWrongFalsely : Prop := pickleLongRow.holds Tryd.pinned (OpenSpec.ofChange pickleLongWrong)

/- THE SECOND FORM. 'bulk': how many values and letters a reading holds, each counted each time it is reached (what is shared counts as often as it is met; a slice's spare places count too). A statement '..UptoSaid' is the law's where the arguments, and the package variables that the reading takes, are together of bulk at most 1048576: NARROWER than '..Said'. Prove '..Said' where nothing that the law and all that it calls make is longer than what came in: it says more and counts as full. Else prove '..UptoSaid'. A law counts once. -/
mutual
def uptoBulk {H : Type} : DataW H → Nat
  | .lit (.string bytes) => bytes.length + 1
  | .lit _ => 1
  | .nil => 1
  | .ptr d => uptoBulk d + 1
  | .slice elems spare => uptoBulkAll elems + uptoBulkAll spare + 1
  | .agg parts => uptoBulkAll parts + 1
  | .iface _ d => uptoBulk d + 1
  | .map entries => uptoBulkEntries entries + 1
  | .held _ => 1
def uptoBulkAll {H : Type} : List (DataW H) → Nat
  | [] => 0
  | d :: r => uptoBulk d + uptoBulkAll r
def uptoBulkEntries {H : Type} : List (Lit × DataW H) → Nat
  | [] => 0
  | x :: r => uptoBulkEntry x + uptoBulkEntries r
def uptoBulkEntry {H : Type} : Lit × DataW H → Nat
  | (.string bytes, d) => bytes.length + uptoBulk d + 1
  | (_, d) => uptoBulk d + 1
 end
def uptoSmall : (H : Type) → List (DataW H) → Bool := fun _ ds => decide (uptoBulkAll ds ≤ 1048576)
def OpenSpec.upto (s : _root_.Go.ChangeSpec) : _root_.Go.OpenSpec := { _root_.Go.OpenSpec.ofChange s with cond := some uptoSmall }

/-- 'leatworklaw20.PicklePuts', WHERE WHAT IT READS IS OF BULK AT MOST 1048576: true; the input reads as it did. -/
def picklePutsUptoRow : OpenClaim := { program := "ytmekcfdllhphlaadoor", sum := "9a747b321d2e74e9b1ee089917bb44630ba44037a230534b32cfd66b36c50fed", func := "leatwork/leatworklaw20.PicklePuts", spec := "picklePuts", unfollowed := true, recurses := true, named := ["bytes.ErrTooLarge"], plainKeys := false, apart := false, laid := [("bytes.ErrTooLarge", laid_bytes_ErrTooLarge)], narrowed := true }
def PicklePutsUptoSaid : Prop := picklePutsUptoRow.holds Tryd.pinned (OpenSpec.upto picklePutsSpec)

/-- 'leatworklaw20.PickleRead', WHERE WHAT IT READS IS OF BULK AT MOST 1048576: true; the input reads as it did. -/
def pickleReadUptoRow : OpenClaim := { program := "ytmekcfdllhphlaadoor", sum := "9a747b321d2e74e9b1ee089917bb44630ba44037a230534b32cfd66b36c50fed", func := "leatwork/leatworklaw20.PickleRead", spec := "pickleRead", unfollowed := true, recurses := true, named := ["bytes.ErrTooLarge"], plainKeys := false, apart := false, laid := [("bytes.ErrTooLarge", laid_bytes_ErrTooLarge)], narrowed := true }
def PickleReadUptoSaid : Prop := pickleReadUptoRow.holds Tryd.pinned (OpenSpec.upto pickleReadSpec)

/-- 'leatworklaw20.PickleMany', WHERE WHAT IT READS IS OF BULK AT MOST 1048576: true; the input reads as it did. -/
def pickleManyUptoRow : OpenClaim := { program := "ytmekcfdllhphlaadoor", sum := "9a747b321d2e74e9b1ee089917bb44630ba44037a230534b32cfd66b36c50fed", func := "leatwork/leatworklaw20.PickleMany", spec := "pickleMany", unfollowed := true, recurses := true, named := ["bytes.ErrTooLarge"], plainKeys := false, apart := false, laid := [("bytes.ErrTooLarge", laid_bytes_ErrTooLarge)], narrowed := true }
def PickleManyUptoSaid : Prop := pickleManyUptoRow.holds Tryd.pinned (OpenSpec.upto pickleManySpec)

/-- 'leatworklaw20.PickleSums', WHERE WHAT IT READS IS OF BULK AT MOST 1048576: true; the input reads as it did. -/
def pickleSumsUptoRow : OpenClaim := { program := "ytmekcfdllhphlaadoor", sum := "9a747b321d2e74e9b1ee089917bb44630ba44037a230534b32cfd66b36c50fed", func := "leatwork/leatworklaw20.PickleSums", spec := "pickleSums", unfollowed := true, recurses := true, named := ["bytes.ErrTooLarge"], plainKeys := false, apart := false, laid := [("bytes.ErrTooLarge", laid_bytes_ErrTooLarge)], narrowed := true }
def PickleSumsUptoSaid : Prop := pickleSumsUptoRow.holds Tryd.pinned (OpenSpec.upto pickleSumsSpec)

/-- 'leatworklaw20.PickleBack', WHERE WHAT IT READS IS OF BULK AT MOST 1048576: true; the input reads as it did. -/
def pickleBackUptoRow : OpenClaim := { program := "ytmekcfdllhphlaadoor", sum := "9a747b321d2e74e9b1ee089917bb44630ba44037a230534b32cfd66b36c50fed", func := "leatwork/leatworklaw20.PickleBack", spec := "pickleBack", unfollowed := true, recurses := true, named := ["bytes.ErrTooLarge"], plainKeys := false, apart := false, laid := [("bytes.ErrTooLarge", laid_bytes_ErrTooLarge)], narrowed := true }
def PickleBackUptoSaid : Prop := pickleBackUptoRow.holds Tryd.pinned (OpenSpec.upto pickleBackSpec)

/-- 'leatworklaw20.PickleLeast', WHERE WHAT IT READS IS OF BULK AT MOST 1048576: true; the input reads as it did. -/
def pickleLeastUptoRow : OpenClaim := { program := "ytmekcfdllhphlaadoor", sum := "9a747b321d2e74e9b1ee089917bb44630ba44037a230534b32cfd66b36c50fed", func := "leatwork/leatworklaw20.PickleLeast", spec := "pickleLeast", unfollowed := true, recurses := true, named := ["bytes.ErrTooLarge"], plainKeys := false, apart := false, laid := [("bytes.ErrTooLarge", laid_bytes_ErrTooLarge)], narrowed := true }
def PickleLeastUptoSaid : Prop := pickleLeastUptoRow.holds Tryd.pinned (OpenSpec.upto pickleLeastSpec)

/-- 'leatworklaw20.PickleOne', WHERE WHAT IT READS IS OF BULK AT MOST 1048576: true; the input reads as it did. -/
def pickleOneUptoRow : OpenClaim := { program := "ytmekcfdllhphlaadoor", sum := "9a747b321d2e74e9b1ee089917bb44630ba44037a230534b32cfd66b36c50fed", func := "leatwork/leatworklaw20.PickleOne", spec := "pickleOne", unfollowed := true, recurses := true, named := ["bytes.ErrTooLarge"], plainKeys := false, apart := false, laid := [("bytes.ErrTooLarge", laid_bytes_ErrTooLarge)], narrowed := true }
def PickleOneUptoSaid : Prop := pickleOneUptoRow.holds Tryd.pinned (OpenSpec.upto pickleOneSpec)

/-- 'leatworklaw20.PickleOpens', WHERE WHAT IT READS IS OF BULK AT MOST 1048576: true; the input reads as it did. -/
def pickleOpensUptoRow : OpenClaim := { program := "ytmekcfdllhphlaadoor", sum := "9a747b321d2e74e9b1ee089917bb44630ba44037a230534b32cfd66b36c50fed", func := "leatwork/leatworklaw20.PickleOpens", spec := "pickleOpens", unfollowed := true, recurses := true, named := ["bytes.ErrTooLarge"], plainKeys := false, apart := false, laid := [("bytes.ErrTooLarge", laid_bytes_ErrTooLarge)], narrowed := true }
def PickleOpensUptoSaid : Prop := pickleOpensUptoRow.holds Tryd.pinned (OpenSpec.upto pickleOpensSpec)

/-- 'leatworklaw20.PickleLong', WHERE WHAT IT READS IS OF BULK AT MOST 1048576: true; the input reads as it did. -/
def pickleLongUptoRow : OpenClaim := { program := "ytmekcfdllhphlaadoor", sum := "9a747b321d2e74e9b1ee089917bb44630ba44037a230534b32cfd66b36c50fed", func := "leatwork/leatworklaw20.PickleLong", spec := "pickleLong", unfollowed := true, recurses := true, named := ["bytes.ErrTooLarge"], plainKeys := false, apart := false, laid := [("bytes.ErrTooLarge", laid_bytes_ErrTooLarge)], narrowed := true }
def PickleLongUptoSaid : Prop := pickleLongUptoRow.holds Tryd.pinned (OpenSpec.upto pickleLongSpec)

end Rows
end Go.Proofs.YtmekcfdllhphlaaDoor
