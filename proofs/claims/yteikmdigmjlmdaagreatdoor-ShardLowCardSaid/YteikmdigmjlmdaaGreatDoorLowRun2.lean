/-
  ShardLow: four of its regions, walked by the kernel over codes.
-/
import Derived.Test.YteikmdigmjlmdaaGreatDoorLowReg
namespace Go.Proofs.YteikmdigmjlmdaaGreatDoor
open Go Go.Ev
set_option linter.unusedVariables false
set_option maxRecDepth 1000000
theorem run8 : isT (sN R8 lowT lowX 100 false (.func 6 [] []) [.int .i64 (syI 6 symH), .int .i64 (syI 7 symH), .int .i64 (syI 8 symH)] ⟨3, .nil⟩) = true := by decide +kernel
theorem run9 : isT (sN R9 lowT lowX 100 false (.func 6 [] []) [.int .i64 (syI 6 symH), .int .i64 (syI 7 symH), .int .i64 (syI 8 symH)] ⟨3, .nil⟩) = true := by decide +kernel
theorem run10 : isT (sN R10 lowT lowX 100 false (.func 6 [] []) [.int .i64 (syI 6 symH), .int .i64 (syI 7 symH), .int .i64 (syI 8 symH)] ⟨3, .nil⟩) = true := by decide +kernel
theorem run11 : isT (sN R11 lowT lowX 100 false (.func 6 [] []) [.int .i64 (syI 6 symH), .int .i64 (syI 7 symH), .int .i64 (syI 8 symH)] ⟨3, .nil⟩) = true := by decide +kernel
end Go.Proofs.YteikmdigmjlmdaaGreatDoor
