/-
  ShardLow: four of its regions, walked by the kernel over codes.
-/
import Derived.Test.YteikmdigmjlmdaaGreatDoorLowReg
namespace Go.Proofs.YteikmdigmjlmdaaGreatDoor
open Go Go.Ev
set_option linter.unusedVariables false
set_option maxRecDepth 1000000
theorem run0 : isT (sN R0 lowT lowX 100 false (.func 6 [] []) [.int .i64 (syI 6 symH), .int .i64 (syI 7 symH), .int .i64 (syI 8 symH)] ⟨3, .nil⟩) = true := by decide +kernel
theorem run1 : isT (sN R1 lowT lowX 100 false (.func 6 [] []) [.int .i64 (syI 6 symH), .int .i64 (syI 7 symH), .int .i64 (syI 8 symH)] ⟨3, .nil⟩) = true := by decide +kernel
theorem run2 : isT (sN R2 lowT lowX 100 false (.func 6 [] []) [.int .i64 (syI 6 symH), .int .i64 (syI 7 symH), .int .i64 (syI 8 symH)] ⟨3, .nil⟩) = true := by decide +kernel
theorem run3 : isT (sN R3 lowT lowX 100 false (.func 6 [] []) [.int .i64 (syI 6 symH), .int .i64 (syI 7 symH), .int .i64 (syI 8 symH)] ⟨3, .nil⟩) = true := by decide +kernel
end Go.Proofs.YteikmdigmjlmdaaGreatDoor
