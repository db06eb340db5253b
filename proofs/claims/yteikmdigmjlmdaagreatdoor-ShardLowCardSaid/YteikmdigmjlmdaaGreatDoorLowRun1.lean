/-
  ShardLow: four of its regions, walked by the kernel over codes.
-/
import Derived.Test.YteikmdigmjlmdaaGreatDoorLowReg
namespace Go.Proofs.YteikmdigmjlmdaaGreatDoor
open Go Go.Ev
set_option linter.unusedVariables false
set_option maxRecDepth 1000000
theorem run4 : isT (sN R4 lowT lowX 100 false (.func 6 [] []) [.int .i64 (syI 6 symH), .int .i64 (syI 7 symH), .int .i64 (syI 8 symH)] ⟨3, .nil⟩) = true := by decide +kernel
theorem run5 : isT (sN R5 lowT lowX 100 false (.func 6 [] []) [.int .i64 (syI 6 symH), .int .i64 (syI 7 symH), .int .i64 (syI 8 symH)] ⟨3, .nil⟩) = true := by decide +kernel
theorem run6 : isT (sN R6 lowT lowX 100 false (.func 6 [] []) [.int .i64 (syI 6 symH), .int .i64 (syI 7 symH), .int .i64 (syI 8 symH)] ⟨3, .nil⟩) = true := by decide +kernel
theorem run7 : isT (sN R7 lowT lowX 100 false (.func 6 [] []) [.int .i64 (syI 6 symH), .int .i64 (syI 7 symH), .int .i64 (syI 8 symH)] ⟨3, .nil⟩) = true := by decide +kernel
end Go.Proofs.YteikmdigmjlmdaaGreatDoor
