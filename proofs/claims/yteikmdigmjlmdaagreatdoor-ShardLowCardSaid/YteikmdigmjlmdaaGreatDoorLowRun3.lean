/-
  ShardLow: four of its regions, walked by the kernel over codes.
-/
import Derived.Test.YteikmdigmjlmdaaGreatDoorLowReg
namespace Go.Proofs.YteikmdigmjlmdaaGreatDoor
open Go Go.Ev
set_option linter.unusedVariables false
set_option maxRecDepth 1000000
theorem run12 : isT (sN R12 lowT lowX 100 false (.func 6 [] []) [.int .i64 (syI 6 symH), .int .i64 (syI 7 symH), .int .i64 (syI 8 symH)] ⟨3, .nil⟩) = true := by decide +kernel
theorem run13 : isT (sN R13 lowT lowX 100 false (.func 6 [] []) [.int .i64 (syI 6 symH), .int .i64 (syI 7 symH), .int .i64 (syI 8 symH)] ⟨3, .nil⟩) = true := by decide +kernel
theorem run14 : isT (sN R14 lowT lowX 100 false (.func 6 [] []) [.int .i64 (syI 6 symH), .int .i64 (syI 7 symH), .int .i64 (syI 8 symH)] ⟨3, .nil⟩) = true := by decide +kernel
theorem run15 : isT (sN R15 lowT lowX 100 false (.func 6 [] []) [.int .i64 (syI 6 symH), .int .i64 (syI 7 symH), .int .i64 (syI 8 symH)] ⟨3, .nil⟩) = true := by decide +kernel
end Go.Proofs.YteikmdigmjlmdaaGreatDoor
