/-
  No cell of these rows narrows 'for every input' (looked for: loops, veiled, ifaces, maps, wideKeys, modest, calm, conditions, laid).
  DERIVED. THE GIVEN ROWS OF THIS SEAT. 5 by the template 'for every input the law returns true; each argument reads behind the call as it read before'; 0 by the template 'total and deterministic' (their statements: YtifafejidnjckaaGreatTotals.lean).
  GIVEN WITH THE SEED: the statements are not yours to turn. If you find one false, say at which input.
  Laid BY PROGRAM, IN A SANDBOX (cutbox-rows.mjs): the forced cells as the released guide's own fill.sh prints them over the translation d408dd896bf137cf… (all of the seat's roots in one cut). By AI agents, Wed Nov 11 2026. No macro, syntax, notation, axiom, sorry.
-/
import Derived.Test.YtifafejidnjckaaGreatChecked
import GoSem.Claim
import GoSem.ClaimJoined
import GoSem.ClaimMapViews
import Derived.JoinedTies
import Derived.KernelRfl
namespace Go.Proofs.YtifafejidnjckaaGreat
/- THE CELL 'sum', in the pinned program and in every row, IS THE sha256 OF THE DUMP (.gsa) THAT YtifafejidnjckaaGreatProg.lean LOADS. Nothing in Lean hashes anything: it is a label: what it is worth is what the hold of that sum in a sandbox is worth. -/
noncomputable def Tryz.pinned : Pinned := { name := "ytifafejidnjckaagreat", sum := "d408dd896bf137cf989d186e8ff56c4404c3b6e3c69fdc62b4d5752311a3d21b", checked := Tryz.checked }
namespace Rows
def none {H : Type} : Left H := { results := [], args := [] }

/-- 'leatworklaw02.StoreFull': WHATEVER THE INPUT: true; the input reads as it did. -/
def storeFullSpec : ChangeSpec := { name := "storeFull", fn := fun _ => fun
  | [d1, d2] => { results := [.lit (.bool true)], args := [d1, d2] }
  | _ => none }
def storeFullRow : OpenClaim := { program := "ytifafejidnjckaagreat", sum := "d408dd896bf137cf989d186e8ff56c4404c3b6e3c69fdc62b4d5752311a3d21b", func := "leatwork/leatworklaw02.StoreFull", spec := "storeFull", unfollowed := true, recurses := true, plainKeys := false, apart := false }
def StoreFullSaid : Prop := storeFullRow.holds Tryz.pinned (OpenSpec.ofChange storeFullSpec)

/-- ITS FALSE NEIGHBOUR: 'it returns false'. Refute it at one input. -/
def storeFullWrong : ChangeSpec := { name := "storeFull", fn := fun _ => fun
  | [d1, d2] => { results := [.lit (.bool false)], args := [d1, d2] }
  | _ => none }
def StoreFullWrongFalsely : Prop := storeFullRow.holds Tryz.pinned (OpenSpec.ofChange storeFullWrong)

/-- 'leatworklaw02.StoreBuilds': WHATEVER THE INPUT: true; the input reads as it did. -/
def storeBuildsSpec : ChangeSpec := { name := "storeBuilds", fn := fun _ => fun
  | [d] => { results := [.lit (.bool true)], args := [d] }
  | _ => none }
def storeBuildsRow : OpenClaim := { program := "ytifafejidnjckaagreat", sum := "d408dd896bf137cf989d186e8ff56c4404c3b6e3c69fdc62b4d5752311a3d21b", func := "leatwork/leatworklaw02.StoreBuilds", spec := "storeBuilds", unfollowed := true, recurses := true, plainKeys := false, apart := false }
def StoreBuildsSaid : Prop := storeBuildsRow.holds Tryz.pinned (OpenSpec.ofChange storeBuildsSpec)

/-- ITS FALSE NEIGHBOUR: 'it returns false'. Refute it at one input. -/
def storeBuildsWrong : ChangeSpec := { name := "storeBuilds", fn := fun _ => fun
  | [d] => { results := [.lit (.bool false)], args := [d] }
  | _ => none }
def StoreBuildsWrongFalsely : Prop := storeBuildsRow.holds Tryz.pinned (OpenSpec.ofChange storeBuildsWrong)

/-- 'leatworklaw02.StorePlays': WHATEVER THE INPUT: true; the input reads as it did. -/
def storePlaysSpec : ChangeSpec := { name := "storePlays", fn := fun _ => fun
  | [d] => { results := [.lit (.bool true)], args := [d] }
  | _ => none }
def storePlaysRow : OpenClaim := { program := "ytifafejidnjckaagreat", sum := "d408dd896bf137cf989d186e8ff56c4404c3b6e3c69fdc62b4d5752311a3d21b", func := "leatwork/leatworklaw02.StorePlays", spec := "storePlays", unfollowed := true, recurses := true, plainKeys := false, apart := false }
def StorePlaysSaid : Prop := storePlaysRow.holds Tryz.pinned (OpenSpec.ofChange storePlaysSpec)

/-- ITS FALSE NEIGHBOUR: 'it returns false'. Refute it at one input. -/
def storePlaysWrong : ChangeSpec := { name := "storePlays", fn := fun _ => fun
  | [d] => { results := [.lit (.bool false)], args := [d] }
  | _ => none }
def StorePlaysWrongFalsely : Prop := storePlaysRow.holds Tryz.pinned (OpenSpec.ofChange storePlaysWrong)

/-- 'leatworklaw02.StoreNone': WHATEVER THE INPUT: true; the input reads as it did. -/
def storeNoneSpec : ChangeSpec := { name := "storeNone", fn := fun _ => fun
  | [d] => { results := [.lit (.bool true)], args := [d] }
  | _ => none }
def storeNoneRow : OpenClaim := { program := "ytifafejidnjckaagreat", sum := "d408dd896bf137cf989d186e8ff56c4404c3b6e3c69fdc62b4d5752311a3d21b", func := "leatwork/leatworklaw02.StoreNone", spec := "storeNone", unfollowed := true, recurses := true, plainKeys := false, apart := false }
def StoreNoneSaid : Prop := storeNoneRow.holds Tryz.pinned (OpenSpec.ofChange storeNoneSpec)

/-- ITS FALSE NEIGHBOUR: 'it returns false'. Refute it at one input. -/
def storeNoneWrong : ChangeSpec := { name := "storeNone", fn := fun _ => fun
  | [d] => { results := [.lit (.bool false)], args := [d] }
  | _ => none }
def StoreNoneWrongFalsely : Prop := storeNoneRow.holds Tryz.pinned (OpenSpec.ofChange storeNoneWrong)

/-- 'leatworklaw02.StoreTrees': WHATEVER THE INPUT: true; the input reads as it did. -/
def storeTreesSpec : ChangeSpec := { name := "storeTrees", fn := fun _ => fun
  | [d1, d2, d3] => { results := [.lit (.bool true)], args := [d1, d2, d3] }
  | _ => none }
def storeTreesRow : OpenClaim := { program := "ytifafejidnjckaagreat", sum := "d408dd896bf137cf989d186e8ff56c4404c3b6e3c69fdc62b4d5752311a3d21b", func := "leatwork/leatworklaw02.StoreTrees", spec := "storeTrees", unfollowed := true, recurses := true, plainKeys := false, apart := false }
def StoreTreesSaid : Prop := storeTreesRow.holds Tryz.pinned (OpenSpec.ofChange storeTreesSpec)

/-- ITS FALSE NEIGHBOUR: 'it returns false'. Refute it at one input. -/
def storeTreesWrong : ChangeSpec := { name := "storeTrees", fn := fun _ => fun
  | [d1, d2, d3] => { results := [.lit (.bool false)], args := [d1, d2, d3] }
  | _ => none }
def StoreTreesWrongFalsely : Prop := storeTreesRow.holds Tryz.pinned (OpenSpec.ofChange storeTreesWrong)

/- THE SECOND FORM. 'bulk': how many values and letters a reading holds, each counted each time it is reached (what is shared counts as often as it is met; a slice's spare places count too). A statement '..UptoSaid' is the law's where the arguments, and the package variables that the reading takes, are together of bulk at most 1048576: NARROWER than '..Said'. Prove '..Said' where nothing that the law and all that it calls make is longer than what came in: it says more and counts as full. Else prove '..UptoSaid'. A law counts once. -/
mutual
def uptoBulk {H : Type} : DataW H → Nat
  | .lit (.string bytes) => bytes.length + 1
  | .lit _ => 1
  | .nil => 1
  | .ptr d => uptoBulk d + 1
  | .slice elems spare => uptoBulkAll elems + uptoBulkAll spare + 1
  | .agg parts => uptoBulkAll parts + 1
  | .iface _ d => uptoBulk d + 1
  | .map entries => uptoBulkEntries entries + 1
  | .held _ => 1
def uptoBulkAll {H : Type} : List (DataW H) → Nat
  | [] => 0
  | d :: r => uptoBulk d + uptoBulkAll r
def uptoBulkEntries {H : Type} : List (Lit × DataW H) → Nat
  | [] => 0
  | x :: r => uptoBulkEntry x + uptoBulkEntries r
def uptoBulkEntry {H : Type} : Lit × DataW H → Nat
  | (.string bytes, d) => bytes.length + uptoBulk d + 1
  | (_, d) => uptoBulk d + 1
 end
def uptoSmall : (H : Type) → List (DataW H) → Bool := fun _ ds => decide (uptoBulkAll ds ≤ 1048576)
def OpenSpec.upto (s : _root_.Go.ChangeSpec) : _root_.Go.OpenSpec := { _root_.Go.OpenSpec.ofChange s with cond := some uptoSmall }

/-- 'leatworklaw02.StoreFull', WHERE WHAT IT READS IS OF BULK AT MOST 1048576: true; the input reads as it did. -/
def storeFullUptoRow : OpenClaim := { program := "ytifafejidnjckaagreat", sum := "d408dd896bf137cf989d186e8ff56c4404c3b6e3c69fdc62b4d5752311a3d21b", func := "leatwork/leatworklaw02.StoreFull", spec := "storeFull", unfollowed := true, recurses := true, plainKeys := false, apart := false, narrowed := true }
def StoreFullUptoSaid : Prop := storeFullUptoRow.holds Tryz.pinned (OpenSpec.upto storeFullSpec)

/-- 'leatworklaw02.StoreBuilds', WHERE WHAT IT READS IS OF BULK AT MOST 1048576: true; the input reads as it did. -/
def storeBuildsUptoRow : OpenClaim := { program := "ytifafejidnjckaagreat", sum := "d408dd896bf137cf989d186e8ff56c4404c3b6e3c69fdc62b4d5752311a3d21b", func := "leatwork/leatworklaw02.StoreBuilds", spec := "storeBuilds", unfollowed := true, recurses := true, plainKeys := false, apart := false, narrowed := true }
def StoreBuildsUptoSaid : Prop := storeBuildsUptoRow.holds Tryz.pinned (OpenSpec.upto storeBuildsSpec)

/-- 'leatworklaw02.StorePlays', WHERE WHAT IT READS IS OF BULK AT MOST 1048576: true; the input reads as it did. -/
def storePlaysUptoRow : OpenClaim := { program := "ytifafejidnjckaagreat", sum := "d408dd896bf137cf989d186e8ff56c4404c3b6e3c69fdc62b4d5752311a3d21b", func := "leatwork/leatworklaw02.StorePlays", spec := "storePlays", unfollowed := true, recurses := true, plainKeys := false, apart := false, narrowed := true }
def StorePlaysUptoSaid : Prop := storePlaysUptoRow.holds Tryz.pinned (OpenSpec.upto storePlaysSpec)

/-- 'leatworklaw02.StoreNone', WHERE WHAT IT READS IS OF BULK AT MOST 1048576: true; the input reads as it did. -/
def storeNoneUptoRow : OpenClaim := { program := "ytifafejidnjckaagreat", sum := "d408dd896bf137cf989d186e8ff56c4404c3b6e3c69fdc62b4d5752311a3d21b", func := "leatwork/leatworklaw02.StoreNone", spec := "storeNone", unfollowed := true, recurses := true, plainKeys := false, apart := false, narrowed := true }
def StoreNoneUptoSaid : Prop := storeNoneUptoRow.holds Tryz.pinned (OpenSpec.upto storeNoneSpec)

/-- 'leatworklaw02.StoreTrees', WHERE WHAT IT READS IS OF BULK AT MOST 1048576: true; the input reads as it did. -/
def storeTreesUptoRow : OpenClaim := { program := "ytifafejidnjckaagreat", sum := "d408dd896bf137cf989d186e8ff56c4404c3b6e3c69fdc62b4d5752311a3d21b", func := "leatwork/leatworklaw02.StoreTrees", spec := "storeTrees", unfollowed := true, recurses := true, plainKeys := false, apart := false, narrowed := true }
def StoreTreesUptoSaid : Prop := storeTreesUptoRow.holds Tryz.pinned (OpenSpec.upto storeTreesSpec)

end Rows
end Go.Proofs.YtifafejidnjckaaGreat
