/-
  ShardLow: awake, walked by the kernel.
-/
import Derived.Test.YteikmdigmjlmdaaGreatDoorLowExt
namespace Go.Proofs.YteikmdigmjlmdaaGreatDoor
open Go Go.Ev
set_option linter.unusedVariables false
set_option maxRecDepth 1000000
theorem awake_run : isT (callN awkT cntX 100 false (.func 12 [] []) [] ⟨3, .nil⟩) = true := by decide +kernel
end Go.Proofs.YteikmdigmjlmdaaGreatDoor
