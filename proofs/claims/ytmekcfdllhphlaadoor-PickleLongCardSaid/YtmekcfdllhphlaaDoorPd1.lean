/- The examples of the chapter. -/
import Derived.Test.YtmekcfdllhphlaaDoorPdBase
namespace Go.Proofs.YtmekcfdllhphlaaDoor
open Go Go.R
set_option maxRecDepth 100000
theorem awake0' (h : AHeap) : callA Tryd.prog toldC 10000 99 13 [] h = some (.bool true, h) := by kernel_rfl
end Go.Proofs.YtmekcfdllhphlaaDoor
