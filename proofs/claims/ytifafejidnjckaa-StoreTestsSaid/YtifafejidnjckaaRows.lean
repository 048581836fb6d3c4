/-
  No cell of these rows narrows 'for every input' (looked for: loops, veiled, ifaces, maps, wideKeys, modest, calm, conditions, laid).
  DERIVED. THE GIVEN ROWS OF THIS SEAT. 7 by the template 'for every input the law returns true; each argument reads behind the call as it read before'; 0 by the template 'total and deterministic' (their statements: YtifafejidnjckaaTotals.lean).
  GIVEN WITH THE SEED: the statements are not yours to turn. If you find one false, say at which input.
  Laid BY PROGRAM, IN A SANDBOX (cutbox-rows.mjs): the forced cells as the released guide's own fill.sh prints them over the translation 0fdd4217bce32547… (all of the seat's roots in one cut). By AI agents, Wed Nov 11 2026. No macro, syntax, notation, axiom, sorry.
-/
import Derived.Test.YtifafejidnjckaaChecked
import GoSem.Claim
import GoSem.ClaimJoined
import GoSem.ClaimMapViews
import Derived.JoinedTies
import Derived.KernelRfl
namespace Go.Proofs.Ytifafejidnjckaa
/- THE CELL 'sum', in the pinned program and in every row, IS THE sha256 OF THE DUMP (.gsa) THAT YtifafejidnjckaaProg.lean LOADS. Nothing in Lean hashes anything: it is a label: what it is worth is what the hold of that sum in a sandbox is worth. -/
noncomputable def Try.pinned : Pinned := { name := "ytifafejidnjckaa", sum := "0fdd4217bce32547772f878f24d7c877fb0440757801c59387e7e3155f9c37c7", checked := Try.checked }
namespace Rows
def none {H : Type} : Left H := { results := [], args := [] }

/-- 'leatworklaw02.StoreOrder': WHATEVER THE INPUT: true; the input reads as it did. -/
def storeOrderSpec : ChangeSpec := { name := "storeOrder", fn := fun _ => fun
  | [d1, d2, d3, d4] => { results := [.lit (.bool true)], args := [d1, d2, d3, d4] }
  | _ => none }
def storeOrderRow : OpenClaim := { program := "ytifafejidnjckaa", sum := "0fdd4217bce32547772f878f24d7c877fb0440757801c59387e7e3155f9c37c7", func := "leatwork/leatworklaw02.StoreOrder", spec := "storeOrder", unfollowed := true, recurses := true, plainKeys := false, apart := false }
def StoreOrderSaid : Prop := storeOrderRow.holds Try.pinned (OpenSpec.ofChange storeOrderSpec)

/-- ITS FALSE NEIGHBOUR: 'it returns false'. Refute it at one input. -/
def storeOrderWrong : ChangeSpec := { name := "storeOrder", fn := fun _ => fun
  | [d1, d2, d3, d4] => { results := [.lit (.bool false)], args := [d1, d2, d3, d4] }
  | _ => none }
def StoreOrderWrongFalsely : Prop := storeOrderRow.holds Try.pinned (OpenSpec.ofChange storeOrderWrong)

/-- 'leatworklaw02.StoreLeast': WHATEVER THE INPUT: true; the input reads as it did. -/
def storeLeastSpec : ChangeSpec := { name := "storeLeast", fn := fun _ => fun
  | [d1, d2, d3, d4] => { results := [.lit (.bool true)], args := [d1, d2, d3, d4] }
  | _ => none }
def storeLeastRow : OpenClaim := { program := "ytifafejidnjckaa", sum := "0fdd4217bce32547772f878f24d7c877fb0440757801c59387e7e3155f9c37c7", func := "leatwork/leatworklaw02.StoreLeast", spec := "storeLeast", unfollowed := true, recurses := true, plainKeys := false, apart := false }
def StoreLeastSaid : Prop := storeLeastRow.holds Try.pinned (OpenSpec.ofChange storeLeastSpec)

/-- ITS FALSE NEIGHBOUR: 'it returns false'. Refute it at one input. -/
def storeLeastWrong : ChangeSpec := { name := "storeLeast", fn := fun _ => fun
  | [d1, d2, d3, d4] => { results := [.lit (.bool false)], args := [d1, d2, d3, d4] }
  | _ => none }
def StoreLeastWrongFalsely : Prop := storeLeastRow.holds Try.pinned (OpenSpec.ofChange storeLeastWrong)

/-- 'leatworklaw02.StoreFailed': WHATEVER THE INPUT: true; the input reads as it did. -/
def storeFailedSpec : ChangeSpec := { name := "storeFailed", fn := fun _ => fun
  | [d1, d2] => { results := [.lit (.bool true)], args := [d1, d2] }
  | _ => none }
def storeFailedRow : OpenClaim := { program := "ytifafejidnjckaa", sum := "0fdd4217bce32547772f878f24d7c877fb0440757801c59387e7e3155f9c37c7", func := "leatwork/leatworklaw02.StoreFailed", spec := "storeFailed", unfollowed := true, recurses := true, plainKeys := false, apart := false }
def StoreFailedSaid : Prop := storeFailedRow.holds Try.pinned (OpenSpec.ofChange storeFailedSpec)

/-- ITS FALSE NEIGHBOUR: 'it returns false'. Refute it at one input. -/
def storeFailedWrong : ChangeSpec := { name := "storeFailed", fn := fun _ => fun
  | [d1, d2] => { results := [.lit (.bool false)], args := [d1, d2] }
  | _ => none }
def StoreFailedWrongFalsely : Prop := storeFailedRow.holds Try.pinned (OpenSpec.ofChange storeFailedWrong)

/-- 'leatworklaw02.StoreClones': WHATEVER THE INPUT: true; the input reads as it did. -/
def storeClonesSpec : ChangeSpec := { name := "storeClones", fn := fun _ => fun
  | [d1, d2, d3] => { results := [.lit (.bool true)], args := [d1, d2, d3] }
  | _ => none }
def storeClonesRow : OpenClaim := { program := "ytifafejidnjckaa", sum := "0fdd4217bce32547772f878f24d7c877fb0440757801c59387e7e3155f9c37c7", func := "leatwork/leatworklaw02.StoreClones", spec := "storeClones", unfollowed := true, recurses := true, plainKeys := false, apart := false }
def StoreClonesSaid : Prop := storeClonesRow.holds Try.pinned (OpenSpec.ofChange storeClonesSpec)

/-- ITS FALSE NEIGHBOUR: 'it returns false'. Refute it at one input. -/
def storeClonesWrong : ChangeSpec := { name := "storeClones", fn := fun _ => fun
  | [d1, d2, d3] => { results := [.lit (.bool false)], args := [d1, d2, d3] }
  | _ => none }
def StoreClonesWrongFalsely : Prop := storeClonesRow.holds Try.pinned (OpenSpec.ofChange storeClonesWrong)

/-- 'leatworklaw02.StoreOnce': WHATEVER THE INPUT: true; the input reads as it did. -/
def storeOnceSpec : ChangeSpec := { name := "storeOnce", fn := fun _ => fun
  | [d1, d2, d3] => { results := [.lit (.bool true)], args := [d1, d2, d3] }
  | _ => none }
def storeOnceRow : OpenClaim := { program := "ytifafejidnjckaa", sum := "0fdd4217bce32547772f878f24d7c877fb0440757801c59387e7e3155f9c37c7", func := "leatwork/leatworklaw02.StoreOnce", spec := "storeOnce", unfollowed := true, recurses := true, plainKeys := false, apart := false }
def StoreOnceSaid : Prop := storeOnceRow.holds Try.pinned (OpenSpec.ofChange storeOnceSpec)

/-- ITS FALSE NEIGHBOUR: 'it returns false'. Refute it at one input. -/
def storeOnceWrong : ChangeSpec := { name := "storeOnce", fn := fun _ => fun
  | [d1, d2, d3] => { results := [.lit (.bool false)], args := [d1, d2, d3] }
  | _ => none }
def StoreOnceWrongFalsely : Prop := storeOnceRow.holds Try.pinned (OpenSpec.ofChange storeOnceWrong)

/-- 'leatworklaw02.StoreEqual': WHATEVER THE INPUT: true; the input reads as it did. -/
def storeEqualSpec : ChangeSpec := { name := "storeEqual", fn := fun _ => fun
  | [d1, d2, d3] => { results := [.lit (.bool true)], args := [d1, d2, d3] }
  | _ => none }
def storeEqualRow : OpenClaim := { program := "ytifafejidnjckaa", sum := "0fdd4217bce32547772f878f24d7c877fb0440757801c59387e7e3155f9c37c7", func := "leatwork/leatworklaw02.StoreEqual", spec := "storeEqual", unfollowed := true, recurses := true, plainKeys := false, apart := false }
def StoreEqualSaid : Prop := storeEqualRow.holds Try.pinned (OpenSpec.ofChange storeEqualSpec)

/-- ITS FALSE NEIGHBOUR: 'it returns false'. Refute it at one input. -/
def storeEqualWrong : ChangeSpec := { name := "storeEqual", fn := fun _ => fun
  | [d1, d2, d3] => { results := [.lit (.bool false)], args := [d1, d2, d3] }
  | _ => none }
def StoreEqualWrongFalsely : Prop := storeEqualRow.holds Try.pinned (OpenSpec.ofChange storeEqualWrong)

/-- 'leatworklaw02.StoreTests': WHATEVER THE INPUT: true; the input reads as it did. -/
def storeTestsSpec : ChangeSpec := { name := "storeTests", fn := fun _ => fun
  | [d1, d2, d3, d4] => { results := [.lit (.bool true)], args := [d1, d2, d3, d4] }
  | _ => none }
def storeTestsRow : OpenClaim := { program := "ytifafejidnjckaa", sum := "0fdd4217bce32547772f878f24d7c877fb0440757801c59387e7e3155f9c37c7", func := "leatwork/leatworklaw02.StoreTests", spec := "storeTests", unfollowed := true, recurses := true, plainKeys := false, apart := false }
def StoreTestsSaid : Prop := storeTestsRow.holds Try.pinned (OpenSpec.ofChange storeTestsSpec)

/-- ITS FALSE NEIGHBOUR: 'it returns false'. Refute it at one input. -/
def storeTestsWrong : ChangeSpec := { name := "storeTests", fn := fun _ => fun
  | [d1, d2, d3, d4] => { results := [.lit (.bool false)], args := [d1, d2, d3, d4] }
  | _ => none }
def StoreTestsWrongFalsely : Prop := storeTestsRow.holds Try.pinned (OpenSpec.ofChange storeTestsWrong)

/- THE SECOND FORM. 'bulk': how many values and letters a reading holds, each counted each time it is reached (what is shared counts as often as it is met; a slice's spare places count too). A statement '..UptoSaid' is the law's where the arguments, and the package variables that the reading takes, are together of bulk at most 1048576: NARROWER than '..Said'. Prove '..Said' where nothing that the law and all that it calls make is longer than what came in: it says more and counts as full. Else prove '..UptoSaid'. A law counts once. -/
mutual
def uptoBulk {H : Type} : DataW H → Nat
  | .lit (.string bytes) => bytes.length + 1
  | .lit _ => 1
  | .nil => 1
  | .ptr d => uptoBulk d + 1
  | .slice elems spare => uptoBulkAll elems + uptoBulkAll spare + 1
  | .agg parts => uptoBulkAll parts + 1
  | .iface _ d => uptoBulk d + 1
  | .map entries => uptoBulkEntries entries + 1
  | .held _ => 1
def uptoBulkAll {H : Type} : List (DataW H) → Nat
  | [] => 0
  | d :: r => uptoBulk d + uptoBulkAll r
def uptoBulkEntries {H : Type} : List (Lit × DataW H) → Nat
  | [] => 0
  | x :: r => uptoBulkEntry x + uptoBulkEntries r
def uptoBulkEntry {H : Type} : Lit × DataW H → Nat
  | (.string bytes, d) => bytes.length + uptoBulk d + 1
  | (_, d) => uptoBulk d + 1
 end
def uptoSmall : (H : Type) → List (DataW H) → Bool := fun _ ds => decide (uptoBulkAll ds ≤ 1048576)
def OpenSpec.upto (s : _root_.Go.ChangeSpec) : _root_.Go.OpenSpec := { _root_.Go.OpenSpec.ofChange s with cond := some uptoSmall }

/-- 'leatworklaw02.StoreOrder', WHERE WHAT IT READS IS OF BULK AT MOST 1048576: true; the input reads as it did. -/
def storeOrderUptoRow : OpenClaim := { program := "ytifafejidnjckaa", sum := "0fdd4217bce32547772f878f24d7c877fb0440757801c59387e7e3155f9c37c7", func := "leatwork/leatworklaw02.StoreOrder", spec := "storeOrder", unfollowed := true, recurses := true, plainKeys := false, apart := false, narrowed := true }
def StoreOrderUptoSaid : Prop := storeOrderUptoRow.holds Try.pinned (OpenSpec.upto storeOrderSpec)

/-- 'leatworklaw02.StoreLeast', WHERE WHAT IT READS IS OF BULK AT MOST 1048576: true; the input reads as it did. -/
def storeLeastUptoRow : OpenClaim := { program := "ytifafejidnjckaa", sum := "0fdd4217bce32547772f878f24d7c877fb0440757801c59387e7e3155f9c37c7", func := "leatwork/leatworklaw02.StoreLeast", spec := "storeLeast", unfollowed := true, recurses := true, plainKeys := false, apart := false, narrowed := true }
def StoreLeastUptoSaid : Prop := storeLeastUptoRow.holds Try.pinned (OpenSpec.upto storeLeastSpec)

/-- 'leatworklaw02.StoreFailed', WHERE WHAT IT READS IS OF BULK AT MOST 1048576: true; the input reads as it did. -/
def storeFailedUptoRow : OpenClaim := { program := "ytifafejidnjckaa", sum := "0fdd4217bce32547772f878f24d7c877fb0440757801c59387e7e3155f9c37c7", func := "leatwork/leatworklaw02.StoreFailed", spec := "storeFailed", unfollowed := true, recurses := true, plainKeys := false, apart := false, narrowed := true }
def StoreFailedUptoSaid : Prop := storeFailedUptoRow.holds Try.pinned (OpenSpec.upto storeFailedSpec)

/-- 'leatworklaw02.StoreClones', WHERE WHAT IT READS IS OF BULK AT MOST 1048576: true; the input reads as it did. -/
def storeClonesUptoRow : OpenClaim := { program := "ytifafejidnjckaa", sum := "0fdd4217bce32547772f878f24d7c877fb0440757801c59387e7e3155f9c37c7", func := "leatwork/leatworklaw02.StoreClones", spec := "storeClones", unfollowed := true, recurses := true, plainKeys := false, apart := false, narrowed := true }
def StoreClonesUptoSaid : Prop := storeClonesUptoRow.holds Try.pinned (OpenSpec.upto storeClonesSpec)

/-- 'leatworklaw02.StoreOnce', WHERE WHAT IT READS IS OF BULK AT MOST 1048576: true; the input reads as it did. -/
def storeOnceUptoRow : OpenClaim := { program := "ytifafejidnjckaa", sum := "0fdd4217bce32547772f878f24d7c877fb0440757801c59387e7e3155f9c37c7", func := "leatwork/leatworklaw02.StoreOnce", spec := "storeOnce", unfollowed := true, recurses := true, plainKeys := false, apart := false, narrowed := true }
def StoreOnceUptoSaid : Prop := storeOnceUptoRow.holds Try.pinned (OpenSpec.upto storeOnceSpec)

/-- 'leatworklaw02.StoreEqual', WHERE WHAT IT READS IS OF BULK AT MOST 1048576: true; the input reads as it did. -/
def storeEqualUptoRow : OpenClaim := { program := "ytifafejidnjckaa", sum := "0fdd4217bce32547772f878f24d7c877fb0440757801c59387e7e3155f9c37c7", func := "leatwork/leatworklaw02.StoreEqual", spec := "storeEqual", unfollowed := true, recurses := true, plainKeys := false, apart := false, narrowed := true }
def StoreEqualUptoSaid : Prop := storeEqualUptoRow.holds Try.pinned (OpenSpec.upto storeEqualSpec)

/-- 'leatworklaw02.StoreTests', WHERE WHAT IT READS IS OF BULK AT MOST 1048576: true; the input reads as it did. -/
def storeTestsUptoRow : OpenClaim := { program := "ytifafejidnjckaa", sum := "0fdd4217bce32547772f878f24d7c877fb0440757801c59387e7e3155f9c37c7", func := "leatwork/leatworklaw02.StoreTests", spec := "storeTests", unfollowed := true, recurses := true, plainKeys := false, apart := false, narrowed := true }
def StoreTestsUptoSaid : Prop := storeTestsUptoRow.holds Try.pinned (OpenSpec.upto storeTestsSpec)

end Rows
end Go.Proofs.Ytifafejidnjckaa
