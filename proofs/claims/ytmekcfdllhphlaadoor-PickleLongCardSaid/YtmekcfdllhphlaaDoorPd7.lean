/- The listed variable: a world that meets the condition. -/
import Derived.Test.YtmekcfdllhphlaaDoorPdBase
import Derived.Test.YtmekcfdllhphlaaDoorRows
import Derived.Test.YtmekcfdllhphlaaDoorCards
import Derived.Test.YtmekcfdllhphlaaDoorTie
import Derived.ChangeSame
import Derived.ChangeVars
import Derived.JoinedOf
import Derived.LaidLaws
import Derived.LaidHandle
import Derived.Lay
import Derived.Stop.Joined
import Derived.SevenTiedAt
set_option linter.unusedVariables false
set_option linter.unusedSimpArgs false
namespace Go.Proofs.YtmekcfdllhphlaaDoor
open Go Go.R Go.Proofs Go.RowKit Go.ChangeShapes Go.WideShapes
set_option maxRecDepth 100000

/-- What the row lists. -/
noncomputable def laidL : List (String × DataW Unit) := [("bytes.ErrTooLarge", Rows.laid_bytes_ErrTooLarge)]
theorem own : ownKnob Tryd.prog.godebug = none := by kernel_rfl
noncomputable def laidWorld (os : Os) : World := World.laidAll Tryd.prog os laidL
theorem laidWorld_met (os : Os) (args : Array Value) : laidMetH Tryd.prog laidL ((laidWorld os).forCall (fun _ _ => 0) ⟨#[], args, []⟩).memory := by
  refine laidMetH_of_parts ?_ (by kernel_rfl)
  rw [show (laidL.filter fun x => x.2.handleName?.isNone) = laidL from by kernel_rfl]
  exact laidMet_laidAll args (by kernel_rfl) (by kernel_rfl)

end Go.Proofs.YtmekcfdllhphlaaDoor
