/- The evaluator's code of some functions of the program (part 3), and that it is what the program's code compiles to. -/
import Derived.Test.YteikmdigmjlmdaaGreatDoorEvComp
import Derived.Test.YteikmdigmjlmdaaGreatDoorProg
import Derived.KernelRfl
namespace Go.Proofs.YteikmdigmjlmdaaGreatDoor
open Go Go.Ev
set_option maxRecDepth 100000
def e137 : EFunc := ⟨9, [(.cell 2 2 true)], (.seq (.region [⟨(some 1), .box 12 (.t 0), none⟩, ⟨(some 2), .alloc 2 [(.int .i64 0), (.int .i64 0)], none⟩])
 (.seq (.region [⟨(some 3), .fieldAddr 4 (.t 1), none⟩, ⟨(some 4), .load 2 true (.t 3), none⟩, ⟨(some 5), .fieldAddr 8 (.t 1), none⟩, ⟨(some 6), .load 2 true (.t 5), none⟩, ⟨(some 7), .buildSlice 2 2 [(.int .i64 0), (.int .i64 0)] [(0, 2, (.t 4)), (2, 2, (.t 6))], none⟩, ⟨(some 8), .call (.c (.func 103 [] [])) [(.t 7)], none⟩, ⟨none, .store 2 (.t 2) (.t 8), none⟩])
 .ret))⟩
theorem c137 : compF Tryz.prog Tryz.f137 = some e137 := by kernel_rfl
def e138 : EFunc := ⟨37, [(.cell 4 9 true), (.tmp 5)], (.seq (.region [⟨(some 4), .alloc 9 [(.int .i64 0), (.int .i64 0), (.int .i64 0), (.str []), (.int .i64 0), (.int .i64 0), (.int .i64 0), (.int .i64 0), .nilSlice], none⟩, ⟨(some 5), .mov (.c (.bool false)), none⟩])
 (.seq (.region [⟨(some 13), .mov (.t 1), none⟩, ⟨(some 14), .call (.c (.func 156 [] [])) [(.t 13)], none⟩, ⟨(some 12), .mov (.t 14), none⟩, ⟨(some 15), .extract (.t 12) 0, none⟩, ⟨(some 16), .extract (.t 12) 1, none⟩, ⟨(some 6), .mov (.t 15), none⟩, ⟨(some 7), .mov (.t 16), none⟩])
 (.seq (.region [⟨(some 18), .mov (.t 0), none⟩, ⟨(some 19), .nilCheck (.t 18), none⟩, ⟨(some 20), .fieldAddr 0 (.t 19), none⟩, ⟨(some 21), .load 1 false (.t 20), none⟩, ⟨(some 22), .mov (.t 6), none⟩, ⟨(some 23), .call (.c (.func 14 [] [])) [(.t 21), (.t 22)], none⟩, ⟨(some 17), .mov (.t 23), none⟩, ⟨(some 24), .extract (.t 17) 0, none⟩, ⟨(some 25), .extract (.t 17) 1, none⟩, ⟨(some 8), .mov (.t 24), none⟩, ⟨(some 9), .mov (.t 25), none⟩])
 (.seq (.region [⟨(some 27), .mov (.t 8), none⟩, ⟨(some 28), .call (.c (.func 157 [] [])) [(.t 27)], none⟩, ⟨(some 26), .mov (.t 28), none⟩, ⟨(some 29), .extract (.t 26) 0, none⟩, ⟨(some 30), .extract (.t 26) 1, none⟩, ⟨(some 10), .alloc 9 [(.int .i64 0), (.int .i64 0), (.int .i64 0), (.str []), (.int .i64 0), (.int .i64 0), (.int .i64 0), (.int .i64 0), .nilSlice], none⟩, ⟨none, .store 9 (.t 10) (.t 29), none⟩, ⟨(some 11), .mov (.t 30), none⟩])
 (.seq (.region [⟨(some 31), .load 9 true (.t 10), none⟩, ⟨(some 32), .mov (.t 9), none⟩, ⟨(some 33), .mov (.t 32), none⟩, ⟨(some 34), .mov (.t 11), (some (33, true))⟩, ⟨(some 35), .arith .eql (.t 34) (.c (.int .i64 0)), (some (33, true))⟩, ⟨(some 36), .pick (.t 33) (.t 35) (.c (.bool false)), none⟩, ⟨none, .store 9 (.t 4) (.t 31), none⟩, ⟨(some 5), .mov (.t 36), none⟩])
 .ret)))))⟩
theorem c138 : compF Tryz.prog Tryz.f138 = some e138 := by kernel_rfl
def e139 : EFunc := ⟨68, [(.cell 4 15 true), (.cell 5 1 false)], (.seq (.region [⟨(some 3), .box 1 (.t 1), none⟩, ⟨(some 4), .alloc 15 [(.str []), (.str []), (.bool false), (.bool false), (.int .i64 0), (.int .i64 0), (.int .i64 0), (.int .i64 0), (.int .i64 0), (.str []), (.int .i64 0), (.int .i64 0), (.int .i64 0), (.int .i64 0), .nilSlice], none⟩, ⟨(some 5), .alloc 1 [(.bool false)], none⟩])
 (.seq (.draw [⟨(some 19), .load 1 false (.t 3), none⟩, ⟨(some 20), .mov (.t 0), none⟩, ⟨(some 21), .nilCheck (.t 20), none⟩, ⟨(some 22), .fieldAddr 13 (.t 21), none⟩, ⟨(some 23), .load 2 true (.t 22), none⟩, ⟨(some 24), .call (.c (.func 192 [] [])) [(.t 19), (.t 23)], none⟩, ⟨(some 18), .mov (.t 24), none⟩, ⟨(some 25), .extract (.t 18) 0, none⟩, ⟨(some 26), .extract (.t 18) 1, none⟩, ⟨(some 6), .mov (.t 25), none⟩, ⟨(some 7), .mov (.t 26), none⟩] [])
 (.seq (.region [⟨(some 28), .load 1 false (.t 3), none⟩, ⟨(some 29), .build [(.int .i64 0), (.int .i64 0)] [], none⟩, ⟨(some 30), .call (.c (.func 192 [] [])) [(.t 28), (.t 29)], none⟩, ⟨(some 27), .mov (.t 30), none⟩, ⟨(some 31), .extract (.t 27) 0, none⟩, ⟨(some 32), .extract (.t 27) 1, none⟩, ⟨(some 8), .mov (.t 31), none⟩, ⟨(some 9), .mov (.t 32), none⟩])
 (.seq (.seq (.region [⟨(some 33), .mov (.t 0), none⟩, ⟨(some 34), .nilCheck (.t 33), none⟩, ⟨(some 35), .fieldAddr 0 (.t 34), none⟩, ⟨(some 36), .load 1 false (.t 35), none⟩, ⟨(some 37), .mov (.t 6), none⟩, ⟨(some 38), .mov (.t 8), none⟩, ⟨(some 39), .arith .add (.t 38) (.c (.str [0])), none⟩, ⟨(some 40), .call (.c (.func 50 [] [])) [(.t 36), (.t 37), (.t 39)], none⟩])
 (.block 0 (.rangeFunc (.t 40) [41, 42] (.seq (.region [⟨(some 10), .mov (.t 41), none⟩])
 (.region [⟨(some 11), .mov (.t 42), none⟩])) (.block 1 (.seq (.region [⟨(some 44), .mov (.t 10), none⟩, ⟨(some 45), .call (.c (.func 126 [] [])) [(.t 44)], none⟩, ⟨(some 43), .mov (.t 45), none⟩, ⟨(some 46), .extract (.t 43) 0, none⟩, ⟨(some 47), .extract (.t 43) 1, none⟩, ⟨(some 48), .extract (.t 43) 2, none⟩, ⟨(some 13), .alloc 2 [(.int .i64 0), (.int .i64 0)], none⟩, ⟨(some 12), .mov (.t 46), none⟩, ⟨none, .store 2 (.t 13) (.t 47), none⟩, ⟨(some 14), .mov (.t 48), none⟩])
 (.seq (.region [⟨(some 50), .mov (.t 11), none⟩, ⟨(some 51), .call (.c (.func 127 [] [])) [(.t 50)], none⟩, ⟨(some 49), .mov (.t 51), none⟩, ⟨(some 52), .extract (.t 49) 0, none⟩, ⟨(some 53), .extract (.t 49) 1, none⟩, ⟨(some 54), .extract (.t 49) 2, none⟩, ⟨(some 15), .mov (.t 52), none⟩, ⟨(some 16), .mov (.t 53), none⟩, ⟨(some 17), .mov (.t 54), none⟩])
 (.seq (.region [⟨(some 55), .mov (.t 14), none⟩, ⟨(some 56), .arith .eql (.t 55) (.c (.int .i64 0)), none⟩, ⟨(some 57), .mov (.t 56), none⟩, ⟨(some 58), .mov (.t 17), (some (57, true))⟩, ⟨(some 59), .arith .eql (.t 58) (.c (.int .i64 0)), (some (57, true))⟩, ⟨(some 60), .pick (.t 57) (.t 59) (.c (.bool false)), none⟩])
 (.cond (.t 60)
 (.seq (.region [⟨(some 61), .load 1 false (.t 3), none⟩, ⟨(some 62), .mov (.t 15), none⟩, ⟨(some 63), .mov (.t 16), none⟩, ⟨(some 64), .load 2 true (.t 13), none⟩, ⟨(some 65), .build [(.str []), (.str []), (.bool false), (.bool false), (.int .i64 0), (.int .i64 0), (.int .i64 0), (.int .i64 0), (.int .i64 0), (.str []), (.int .i64 0), (.int .i64 0), (.int .i64 0), (.int .i64 0), .nilSlice] [(0, 1, (.t 61)), (1, 1, (.t 62)), (2, 1, (.t 63)), (4, 2, (.t 64))], none⟩, ⟨none, .store 15 (.t 4) (.t 65), none⟩, ⟨none, .store 1 (.t 5) (.c (.bool true)), none⟩])
 .ret)
 .skip))))))))
 (.seq (.region [⟨(some 66), .load 1 false (.t 3), none⟩, ⟨(some 67), .build [(.str []), (.str []), (.bool false), (.bool false), (.int .i64 0), (.int .i64 0), (.int .i64 0), (.int .i64 0), (.int .i64 0), (.str []), (.int .i64 0), (.int .i64 0), (.int .i64 0), (.int .i64 0), .nilSlice] [(0, 1, (.t 66))], none⟩, ⟨none, .store 15 (.t 4) (.t 67), none⟩, ⟨none, .store 1 (.t 5) (.c (.bool false)), none⟩])
 .ret)))))⟩
theorem c139 : compF Tryz.prog Tryz.f139 = some e139 := by kernel_rfl
def e142 : EFunc := ⟨57, [(.tmp 4)], (.seq (.region [⟨(some 2), .box 12 (.t 0), none⟩, ⟨(some 3), .box 2 (.t 1), none⟩, ⟨(some 4), .mov (.c (.bool false)), none⟩])
 (.seq (.region [⟨(some 6), .fieldAddr 0 (.t 2), none⟩, ⟨(some 7), .load 1 false (.t 6), none⟩, ⟨(some 8), .call (.c (.func 95 [] [])) [(.t 7)], none⟩, ⟨(some 9), .mov (.t 8), none⟩, ⟨(some 10), .fieldAddr 1 (.t 2), (some (9, true))⟩, ⟨(some 11), .load 1 false (.t 10), (some (9, true))⟩, ⟨(some 12), .arith .leq (.c (.int .i64 0)) (.t 11), (some (9, true))⟩, ⟨(some 13), .pick (.t 9) (.t 12) (.c (.bool false)), none⟩, ⟨(some 14), .mov (.t 13), none⟩, ⟨(some 15), .fieldAddr 1 (.t 2), (some (14, true))⟩, ⟨(some 16), .load 1 false (.t 15), (some (14, true))⟩, ⟨(some 17), .arith .leq (.t 16) (.c (.int .i64 9007199254740991)), (some (14, true))⟩, ⟨(some 18), .pick (.t 14) (.t 17) (.c (.bool false)), none⟩, ⟨(some 19), .mov (.t 18), none⟩, ⟨(some 20), .fieldAddr 2 (.t 2), (some (19, true))⟩, ⟨(some 21), .load 1 false (.t 20), (some (19, true))⟩, ⟨(some 22), .arith .leq (.c (.int .i64 1)) (.t 21), (some (19, true))⟩, ⟨(some 23), .pick (.t 19) (.t 22) (.c (.bool false)), none⟩, ⟨(some 24), .mov (.t 23), none⟩, ⟨(some 25), .fieldAddr 2 (.t 2), (some (24, true))⟩, ⟨(some 26), .load 1 false (.t 25), (some (24, true))⟩, ⟨(some 27), .arith .leq (.t 26) (.c (.int .i64 1000)), (some (24, true))⟩, ⟨(some 28), .pick (.t 24) (.t 27) (.c (.bool false)), none⟩, ⟨(some 5), .mov (.t 28), none⟩])
 (.seq (.region [⟨(some 29), .mov (.t 5), none⟩, ⟨(some 30), .mov (.t 29), none⟩, ⟨(some 31), .fieldAddr 3 (.t 2), (some (30, true))⟩, ⟨(some 32), .load 1 false (.t 31), (some (30, true))⟩, ⟨(some 33), .arith .eql (.t 32) (.c (.str [])), (some (30, true))⟩, ⟨(some 34), .mov (.t 33), (some (30, true))⟩, ⟨(some 35), .fieldAddr 3 (.t 2), (some (34, false))⟩, ⟨(some 36), .load 1 false (.t 35), (some (34, false))⟩, ⟨(some 37), .call (.c (.func 143 [] [])) [(.t 36)], (some (34, false))⟩, ⟨(some 38), .pick (.t 34) (.c (.bool true)) (.t 37), (some (30, true))⟩, ⟨(some 39), .pick (.t 30) (.t 38) (.c (.bool false)), none⟩, ⟨(some 40), .mov (.t 39), none⟩, ⟨(some 41), .fieldAddr 8 (.t 2), (some (40, true))⟩, ⟨(some 42), .load 2 true (.t 41), (some (40, true))⟩, ⟨(some 43), .call (.c (.func 53 [] [])) [(.t 42)], (some (40, true))⟩, ⟨(some 44), .arith .eql (.t 43) (.c (.int .i64 0)), (some (40, true))⟩, ⟨(some 45), .pick (.t 40) (.t 44) (.c (.bool false)), none⟩, ⟨(some 46), .mov (.t 45), none⟩, ⟨(some 47), .load 2 true (.t 3), (some (46, true))⟩, ⟨(some 48), .fieldAddr 4 (.t 2), (some (46, true))⟩, ⟨(some 49), .load 2 true (.t 48), (some (46, true))⟩, ⟨(some 50), .fieldAddr 6 (.t 2), (some (46, true))⟩, ⟨(some 51), .load 2 true (.t 50), (some (46, true))⟩, ⟨(some 52), .fieldAddr 10 (.t 2), (some (46, true))⟩, ⟨(some 53), .load 2 true (.t 52), (some (46, true))⟩, ⟨(some 54), .buildSlice 3 2 [(.int .i64 0), (.int .i64 0)] [(0, 2, (.t 49)), (2, 2, (.t 51)), (4, 2, (.t 53))], (some (46, true))⟩, ⟨(some 55), .call (.c (.func 146 [] [])) [(.t 47), (.t 54)], (some (46, true))⟩, ⟨(some 56), .pick (.t 46) (.t 55) (.c (.bool false)), none⟩, ⟨(some 4), .mov (.t 56), none⟩])
 .ret)))⟩
theorem c142 : compF Tryz.prog Tryz.f142 = some e142 := by kernel_rfl
def e143 : EFunc := ⟨6, [(.tmp 2)], (.seq (.region [⟨(some 2), .mov (.c (.bool false)), none⟩])
 (.seq (.region [⟨(some 3), .mov (.t 0), none⟩, ⟨(some 4), .call (.c (.func 83 [] [])) [(.t 3)], none⟩, ⟨(some 5), .arith .eql (.t 4) (.c (.int .i64 0)), none⟩, ⟨(some 2), .mov (.t 5), none⟩])
 .ret))⟩
theorem c143 : compF Tryz.prog Tryz.f143 = some e143 := by kernel_rfl
def e145 : EFunc := ⟨13, [(.tmp 4)], (.seq (.region [⟨(some 2), .box 12 (.t 0), none⟩, ⟨(some 3), .box 2 (.t 1), none⟩, ⟨(some 4), .mov (.c (.bool false)), none⟩])
 (.seq (.region [⟨(some 5), .fieldAddr 3 (.t 2), none⟩, ⟨(some 6), .load 1 false (.t 5), none⟩, ⟨(some 7), .arith .neq (.t 6) (.c (.str [])), none⟩, ⟨(some 8), .mov (.t 7), none⟩, ⟨(some 9), .load 12 true (.t 2), (some (8, true))⟩, ⟨(some 10), .load 2 true (.t 3), (some (8, true))⟩, ⟨(some 11), .call (.c (.func 142 [] [])) [(.t 9), (.t 10)], (some (8, true))⟩, ⟨(some 12), .pick (.t 8) (.t 11) (.c (.bool false)), none⟩, ⟨(some 4), .mov (.t 12), none⟩])
 .ret))⟩
theorem c145 : compF Tryz.prog Tryz.f145 = some e145 := by kernel_rfl
def e146 : EFunc := ⟨9, [(.tmp 4)], (.seq (.region [⟨(some 2), .box 2 (.t 0), none⟩, ⟨(some 4), .mov (.c (.bool false)), none⟩])
 (.seq (.region [⟨(some 5), .mov (.t 1), none⟩, ⟨(some 6), .mkFunc 193 [] [(.t 2)], none⟩, ⟨(some 7), .call (.c (.func 135 [] [])) [(.t 5), (.t 6)], none⟩, ⟨(some 8), .unop .not (.t 7), none⟩, ⟨(some 4), .mov (.t 8), none⟩])
 .ret))⟩
theorem c146 : compF Tryz.prog Tryz.f146 = some e146 := by kernel_rfl
def e147 : EFunc := ⟨25, [(.tmp 6)], (.seq (.region [⟨(some 3), .box 10 (.t 0), none⟩, ⟨(some 4), .box 2 (.t 1), none⟩, ⟨(some 6), .mov (.c (.bool false)), none⟩])
 (.seq (.region [⟨(some 7), .load 10 true (.t 3), none⟩, ⟨(some 8), .call (.c (.func 172 [] [])) [(.t 7)], none⟩, ⟨(some 9), .arith .eql (.t 8) (.c (.int .i64 0)), none⟩, ⟨(some 10), .mov (.t 9), none⟩, ⟨(some 11), .load 2 true (.t 4), (some (10, true))⟩, ⟨(some 12), .fieldAddr 5 (.t 3), (some (10, true))⟩, ⟨(some 13), .load 2 true (.t 12), (some (10, true))⟩, ⟨(some 14), .fieldAddr 7 (.t 3), (some (10, true))⟩, ⟨(some 15), .load 2 true (.t 14), (some (10, true))⟩, ⟨(some 16), .buildSlice 2 2 [(.int .i64 0), (.int .i64 0)] [(0, 2, (.t 13)), (2, 2, (.t 15))], (some (10, true))⟩, ⟨(some 17), .call (.c (.func 146 [] [])) [(.t 11), (.t 16)], (some (10, true))⟩, ⟨(some 18), .pick (.t 10) (.t 17) (.c (.bool false)), none⟩, ⟨(some 19), .mov (.t 18), none⟩, ⟨(some 20), .mov (.t 2), (some (19, true))⟩, ⟨(some 21), .fieldAddr 2 (.t 3), (some (19, true))⟩, ⟨(some 22), .load 1 false (.t 21), (some (19, true))⟩, ⟨(some 23), .call (.c (.func 194 [] [])) [(.t 20), (.t 22)], (some (19, true))⟩, ⟨(some 24), .pick (.t 19) (.t 23) (.c (.bool false)), none⟩, ⟨(some 6), .mov (.t 24), none⟩])
 .ret))⟩
theorem c147 : compF Tryz.prog Tryz.f147 = some e147 := by kernel_rfl
def e148 : EFunc := ⟨139, [(.cell 4 37 true), (.tmp 5)], (.seq (.region [⟨(some 2), .box 37 (.t 0), none⟩, ⟨(some 3), .box 37 (.t 1), none⟩, ⟨(some 4), .alloc 37 [(.int .i64 0), (.int .i64 0), (.int .i64 0), (.int .i64 0), (.int .i64 0), (.int .i64 0), (.int .i64 0), (.int .i64 0), (.int .i64 0), (.str []), (.int .i64 0), (.int .i64 0), (.int .i64 0), (.int .i64 0), (.int .i64 0), (.int .i64 0), (.int .i64 0), (.int .i64 0), (.str []), (.str []), (.str []), (.str []), (.int .i64 0), (.int .i64 0), (.int .i64 0), (.int .i64 0), .nilSlice, (.int .i64 0), (.int .i64 0), (.int .i64 0), (.int .i64 0), (.str []), (.int .i64 0), (.int .i64 0), (.int .i64 0), (.int .i64 0), .nilSlice], none⟩, ⟨(some 5), .mov (.c (.bool false)), none⟩])
 (.seq (.region [⟨(some 8), .fieldAddr 27 (.t 2), none⟩, ⟨(some 9), .load 10 true (.t 8), none⟩, ⟨(some 10), .fieldAddr 27 (.t 3), none⟩, ⟨none, .store 10 (.t 10) (.t 9), none⟩])
 (.seq (.seq (.region [⟨(some 11), .fieldAddr 0 (.t 2), none⟩, ⟨(some 12), .load 1 false (.t 11), none⟩])
 (.block 0 (.seq (.region [⟨(some 14), .arith .eql (.t 12) (.c (.int .i64 8)), none⟩, ⟨(some 13), .mov (.t 14), none⟩])
 (.cond (.t 13)
 (.seq (.region [⟨(some 15), .fieldAddr 6 (.t 2), none⟩, ⟨(some 16), .fieldAddr 0 (.t 15), none⟩, ⟨(some 17), .load 1 false (.t 16), none⟩, ⟨(some 18), .fieldAddr 6 (.t 2), none⟩, ⟨(some 19), .fieldAddr 2 (.t 18), none⟩, ⟨(some 20), .load 1 false (.t 19), none⟩, ⟨(some 21), .build [(.int .i64 0), (.int .i64 0), (.int .i64 0), (.str []), (.int .i64 0), (.int .i64 0), (.int .i64 0), (.int .i64 0), (.int .i64 0), (.int .i64 0), (.int .i64 0), (.int .i64 0)] [(0, 1, (.t 17)), (2, 1, (.t 20))], none⟩, ⟨(some 22), .fieldAddr 6 (.t 3), none⟩, ⟨none, .store 12 (.t 22) (.t 21), none⟩])
 (.seq (.draw [⟨(some 23), .fieldAddr 23 (.t 2), none⟩, ⟨(some 24), .load 1 false (.t 23), none⟩, ⟨(some 25), .fieldAddr 24 (.t 2), none⟩, ⟨(some 26), .load 2 true (.t 25), none⟩, ⟨(some 27), .fieldAddr 23 (.t 3), none⟩, ⟨none, .store 1 (.t 27) (.t 24), none⟩, ⟨(some 28), .fieldAddr 24 (.t 3), none⟩, ⟨none, .store 2 (.t 28) (.t 26), none⟩] [(3, 5)])
 (.seq (.region [⟨(some 29), .fieldAddr 6 (.t 2), none⟩, ⟨(some 30), .fieldAddr 0 (.t 29), none⟩, ⟨(some 31), .load 1 false (.t 30), none⟩, ⟨(some 32), .call (.c (.func 95 [] [])) [(.t 31)], none⟩, ⟨(some 33), .mov (.t 32), none⟩, ⟨(some 34), .fieldAddr 6 (.t 2), (some (33, true))⟩, ⟨(some 35), .fieldAddr 2 (.t 34), (some (33, true))⟩, ⟨(some 36), .load 1 false (.t 35), (some (33, true))⟩, ⟨(some 37), .arith .leq (.c (.int .i64 1)) (.t 36), (some (33, true))⟩, ⟨(some 38), .pick (.t 33) (.t 37) (.c (.bool false)), none⟩, ⟨(some 39), .mov (.t 38), none⟩, ⟨(some 40), .fieldAddr 6 (.t 2), (some (39, true))⟩, ⟨(some 41), .fieldAddr 2 (.t 40), (some (39, true))⟩, ⟨(some 42), .load 1 false (.t 41), (some (39, true))⟩, ⟨(some 43), .arith .leq (.t 42) (.c (.int .i64 1001)), (some (39, true))⟩, ⟨(some 44), .pick (.t 39) (.t 43) (.c (.bool false)), none⟩, ⟨(some 6), .mov (.t 44), none⟩])
 (.seq (.region [⟨(some 45), .fieldAddr 23 (.t 2), none⟩, ⟨(some 46), .load 1 false (.t 45), none⟩, ⟨(some 47), .arith .eql (.t 46) (.c (.int .i64 0)), none⟩, ⟨(some 48), .mov (.t 47), none⟩, ⟨(some 49), .fieldAddr 23 (.t 2), (some (48, false))⟩, ⟨(some 50), .load 1 false (.t 49), (some (48, false))⟩, ⟨(some 51), .arith .eql (.t 50) (.c (.int .i64 4)), (some (48, false))⟩, ⟨(some 52), .pick (.t 48) (.c (.bool true)) (.t 51), none⟩, ⟨(some 7), .mov (.t 52), none⟩])
 (.seq (.draw [⟨(some 53), .load 37 true (.t 3), none⟩, ⟨(some 54), .mov (.t 6), none⟩, ⟨(some 55), .mov (.t 54), none⟩, ⟨(some 56), .mov (.t 7), (some (55, true))⟩, ⟨(some 57), .pick (.t 55) (.t 56) (.c (.bool false)), none⟩, ⟨(some 58), .mov (.t 57), none⟩, ⟨(some 59), .fieldAddr 27 (.t 2), (some (58, true))⟩, ⟨(some 60), .load 10 true (.t 59), (some (58, true))⟩, ⟨(some 61), .fieldAddr 4 (.t 2), (some (58, true))⟩, ⟨(some 62), .load 2 true (.t 61), (some (58, true))⟩, ⟨(some 63), .buildSlice 1 1 [(.int .i64 0)] [(0, 1, (.c (.int .i64 1)))], (some (58, true))⟩, ⟨(some 64), .call (.c (.func 147 [] [])) [(.t 60), (.t 62), (.t 63)], (some (58, true))⟩, ⟨(some 65), .pick (.t 58) (.t 64) (.c (.bool false)), none⟩, ⟨(some 66), .mov (.t 65), none⟩, ⟨(some 67), .fieldAddr 4 (.t 2), (some (66, true))⟩, ⟨(some 68), .load 2 true (.t 67), (some (66, true))⟩, ⟨(some 69), .fieldAddr 24 (.t 2), (some (66, true))⟩, ⟨(some 70), .load 2 true (.t 69), (some (66, true))⟩, ⟨(some 71), .buildSlice 1 2 [(.int .i64 0), (.int .i64 0)] [(0, 2, (.t 70))], (some (66, true))⟩, ⟨(some 72), .call (.c (.func 146 [] [])) [(.t 68), (.t 71)], (some (66, true))⟩, ⟨(some 73), .pick (.t 66) (.t 72) (.c (.bool false)), none⟩, ⟨none, .store 37 (.t 4) (.t 53), none⟩, ⟨(some 5), .mov (.t 73), none⟩] [(0, 11), (0, 19)])
 .ret)))))
 (.seq (.region [⟨(some 75), .arith .eql (.t 12) (.c (.int .i64 9)), none⟩, ⟨(some 74), .mov (.t 75), none⟩])
 (.cond (.t 74)
 (.seq (.draw [⟨(some 76), .fieldAddr 18 (.t 2), none⟩, ⟨(some 77), .load 1 false (.t 76), none⟩, ⟨(some 78), .fieldAddr 22 (.t 2), none⟩, ⟨(some 79), .load 1 false (.t 78), none⟩, ⟨(some 80), .fieldAddr 18 (.t 3), none⟩, ⟨none, .store 1 (.t 80) (.t 77), none⟩, ⟨(some 81), .fieldAddr 22 (.t 3), none⟩, ⟨none, .store 1 (.t 81) (.t 79), none⟩] [(3, 5)])
 (.seq (.draw [⟨(some 82), .load 37 true (.t 3), none⟩, ⟨(some 83), .fieldAddr 18 (.t 2), none⟩, ⟨(some 84), .load 1 false (.t 83), none⟩, ⟨(some 85), .call (.c (.func 143 [] [])) [(.t 84)], none⟩, ⟨(some 86), .mov (.t 85), none⟩, ⟨(some 87), .fieldAddr 22 (.t 2), (some (86, true))⟩, ⟨(some 88), .load 1 false (.t 87), (some (86, true))⟩, ⟨(some 89), .call (.c (.func 95 [] [])) [(.t 88)], (some (86, true))⟩, ⟨(some 90), .pick (.t 86) (.t 89) (.c (.bool false)), none⟩, ⟨(some 91), .mov (.t 90), none⟩, ⟨(some 92), .fieldAddr 27 (.t 2), (some (91, true))⟩, ⟨(some 93), .load 10 true (.t 92), (some (91, true))⟩, ⟨(some 94), .fieldAddr 4 (.t 2), (some (91, true))⟩, ⟨(some 95), .load 2 true (.t 94), (some (91, true))⟩, ⟨(some 96), .buildSlice 1 1 [(.int .i64 0)] [(0, 1, (.c (.int .i64 2)))], (some (91, true))⟩, ⟨(some 97), .call (.c (.func 147 [] [])) [(.t 93), (.t 95), (.t 96)], (some (91, true))⟩, ⟨(some 98), .pick (.t 91) (.t 97) (.c (.bool false)), none⟩, ⟨none, .store 37 (.t 4) (.t 82), none⟩, ⟨(some 5), .mov (.t 98), none⟩] [(0, 3), (0, 7), (0, 15)])
 .ret))
 (.seq (.region [⟨(some 100), .arith .eql (.t 12) (.c (.int .i64 10)), none⟩, ⟨(some 99), .mov (.t 100), none⟩])
 (.cond (.t 99)
 (.seq (.region [⟨(some 101), .fieldAddr 23 (.t 2), none⟩, ⟨(some 102), .load 1 false (.t 101), none⟩, ⟨(some 103), .fieldAddr 23 (.t 3), none⟩, ⟨none, .store 1 (.t 103) (.t 102), none⟩])
 (.seq (.draw [⟨(some 104), .load 37 true (.t 3), none⟩, ⟨(some 105), .fieldAddr 27 (.t 2), none⟩, ⟨(some 106), .load 10 true (.t 105), none⟩, ⟨(some 107), .fieldAddr 4 (.t 2), none⟩, ⟨(some 108), .load 2 true (.t 107), none⟩, ⟨(some 109), .buildSlice 1 1 [(.int .i64 0)] [(0, 1, (.c (.int .i64 2)))], none⟩, ⟨(some 110), .call (.c (.func 147 [] [])) [(.t 106), (.t 108), (.t 109)], none⟩, ⟨(some 111), .mov (.t 110), none⟩, ⟨(some 112), .fieldAddr 23 (.t 2), (some (111, true))⟩, ⟨(some 113), .load 1 false (.t 112), (some (111, true))⟩, ⟨(some 114), .arith .eql (.t 113) (.c (.int .i64 3)), (some (111, true))⟩, ⟨(some 115), .mov (.t 114), (some (111, true))⟩, ⟨(some 116), .fieldAddr 23 (.t 2), (some (115, false))⟩, ⟨(some 117), .load 1 false (.t 116), (some (115, false))⟩, ⟨(some 118), .arith .eql (.t 117) (.c (.int .i64 4)), (some (115, false))⟩, ⟨(some 119), .pick (.t 115) (.c (.bool true)) (.t 118), (some (111, true))⟩, ⟨(some 120), .pick (.t 111) (.t 119) (.c (.bool false)), none⟩, ⟨none, .store 37 (.t 4) (.t 104), none⟩, ⟨(some 5), .mov (.t 120), none⟩] [(0, 6), (13, 17)])
 .ret))
 (.seq (.region [⟨(some 122), .arith .eql (.t 12) (.c (.int .i64 11)), none⟩, ⟨(some 121), .mov (.t 122), none⟩])
 (.cond (.t 121)
 (.seq (.region [⟨(some 123), .fieldAddr 18 (.t 2), none⟩, ⟨(some 124), .load 1 false (.t 123), none⟩, ⟨(some 125), .fieldAddr 18 (.t 3), none⟩, ⟨none, .store 1 (.t 125) (.t 124), none⟩])
 (.seq (.draw [⟨(some 126), .load 37 true (.t 3), none⟩, ⟨(some 127), .fieldAddr 18 (.t 2), none⟩, ⟨(some 128), .load 1 false (.t 127), none⟩, ⟨(some 129), .call (.c (.func 143 [] [])) [(.t 128)], none⟩, ⟨(some 130), .mov (.t 129), none⟩, ⟨(some 131), .fieldAddr 27 (.t 2), (some (130, true))⟩, ⟨(some 132), .load 10 true (.t 131), (some (130, true))⟩, ⟨(some 133), .fieldAddr 4 (.t 2), (some (130, true))⟩, ⟨(some 134), .load 2 true (.t 133), (some (130, true))⟩, ⟨(some 135), .buildSlice 3 1 [(.int .i64 0)] [(0, 1, (.c (.int .i64 1))), (1, 1, (.c (.int .i64 3))), (2, 1, (.c (.int .i64 4)))], (some (130, true))⟩, ⟨(some 136), .call (.c (.func 147 [] [])) [(.t 132), (.t 134), (.t 135)], (some (130, true))⟩, ⟨(some 137), .pick (.t 130) (.t 136) (.c (.bool false)), none⟩, ⟨none, .store 37 (.t 4) (.t 126), none⟩, ⟨(some 5), .mov (.t 137), none⟩] [(0, 3), (0, 10)])
 .ret))
 .skip))))))))))
 (.seq (.region [⟨(some 138), .load 37 true (.t 3), none⟩, ⟨none, .store 37 (.t 4) (.t 138), none⟩, ⟨(some 5), .mov (.c (.bool false)), none⟩])
 .ret))))⟩
theorem c148 : compF Tryz.prog Tryz.f148 = some e148 := by kernel_rfl
def e149 : EFunc := ⟨26, [(.tmp 4)], (.seq (.region [⟨(some 4), .mov (.c (.bool false)), none⟩])
 (.seq (.seq (.region [⟨(some 6), .mov (.t 0), none⟩, ⟨(some 7), .lenSl (.t 6), none⟩, ⟨(some 8), .mov (.t 1), none⟩, ⟨(some 9), .lenSl (.t 8), none⟩, ⟨(some 10), .arith .neq (.t 7) (.t 9), none⟩])
 (.cond (.t 10)
 (.seq (.region [⟨(some 4), .mov (.c (.bool false)), none⟩])
 .ret)
 .skip))
 (.seq (.seq (.region [⟨(some 11), .mov (.t 0), none⟩, ⟨(some 12), .lenSl (.t 11), none⟩, ⟨(some 13), .mov (.c (.int .i64 0)), none⟩])
 (.block 0 (.loop (.seq (.region [⟨(some 14), .arith .lss (.t 13) (.t 12), none⟩])
 (.seq (.cond (.t 14)
 .skip
 (.exit 0))
 (.seq (.block 1 (.seq (.region [⟨(some 15), .mov (.t 13), none⟩, ⟨(some 5), .mov (.t 15), none⟩])
 (.seq (.draw [⟨(some 16), .mov (.t 0), none⟩, ⟨(some 17), .mov (.t 5), none⟩, ⟨(some 18), .idxAddr 2 (.t 16) (.t 17), none⟩, ⟨(some 19), .load 2 true (.t 18), none⟩, ⟨(some 20), .mov (.t 1), none⟩, ⟨(some 21), .mov (.t 5), none⟩, ⟨(some 22), .idxAddr 2 (.t 20) (.t 21), none⟩, ⟨(some 23), .load 2 true (.t 22), none⟩, ⟨(some 24), .eqv true (.struct [(0, 1, false, .str), (1, 1, false, .int)]) (.t 19) (.t 23), none⟩] [])
 (.cond (.t 24)
 (.seq (.region [⟨(some 4), .mov (.c (.bool false)), none⟩])
 .ret)
 .skip))))
 (.region [⟨(some 25), .arith .add (.t 13) (.c (.int .i64 1)), none⟩, ⟨(some 13), .mov (.t 25), none⟩])))))))
 (.seq (.region [⟨(some 4), .mov (.c (.bool true)), none⟩])
 .ret))))⟩
theorem c149 : compF Tryz.prog Tryz.f149 = some e149 := by kernel_rfl
def e151 : EFunc := ⟨12, [(.tmp 2)], (.seq (.region [⟨(some 2), .mov (.c (.bool false)), none⟩])
 (.seq (.region [⟨(some 3), .mov (.t 0), none⟩, ⟨(some 4), .eqv false .ptr (.t 3) (.c .nilPtr), none⟩, ⟨(some 5), .mov (.t 4), none⟩, ⟨(some 6), .mov (.t 0), (some (5, false))⟩, ⟨(some 7), .nilCheck (.t 6), (some (5, false))⟩, ⟨(some 8), .fieldAddr 0 (.t 7), (some (5, false))⟩, ⟨(some 9), .load 1 false (.t 8), (some (5, false))⟩, ⟨(some 10), .unop .not (.t 9), (some (5, false))⟩, ⟨(some 11), .pick (.t 5) (.c (.bool true)) (.t 10), none⟩, ⟨(some 2), .mov (.t 11), none⟩])
 .ret))⟩
theorem c151 : compF Tryz.prog Tryz.f151 = some e151 := by kernel_rfl
def e152 : EFunc := ⟨9, [(.tmp 2)], (.seq (.region [⟨(some 2), .mov (.c (.bool false)), none⟩])
 (.seq (.region [⟨(some 3), .mov (.t 0), none⟩, ⟨(some 4), .arith .geq (.t 3) (.c (.int .i64 0)), none⟩, ⟨(some 5), .mov (.t 4), none⟩, ⟨(some 6), .mov (.t 0), (some (5, true))⟩, ⟨(some 7), .arith .leq (.t 6) (.c (.int .i64 9007199254740991)), (some (5, true))⟩, ⟨(some 8), .pick (.t 5) (.t 7) (.c (.bool false)), none⟩, ⟨(some 2), .mov (.t 8), none⟩])
 .ret))⟩
theorem c152 : compF Tryz.prog Tryz.f152 = some e152 := by kernel_rfl
def e153 : EFunc := ⟨16, [(.tmp 4)], (.seq (.region [⟨(some 2), .box 2 (.t 0), none⟩, ⟨(some 3), .box 2 (.t 1), none⟩, ⟨(some 4), .mov (.c (.bool false)), none⟩])
 (.seq (.region [⟨(some 5), .fieldAddr 0 (.t 2), none⟩, ⟨(some 6), .load 1 false (.t 5), none⟩, ⟨(some 7), .fieldAddr 0 (.t 3), none⟩, ⟨(some 8), .load 1 false (.t 7), none⟩, ⟨(some 9), .minmax true [(.t 6), (.t 8)], none⟩, ⟨(some 10), .fieldAddr 1 (.t 2), none⟩, ⟨(some 11), .load 1 false (.t 10), none⟩, ⟨(some 12), .fieldAddr 1 (.t 3), none⟩, ⟨(some 13), .load 1 false (.t 12), none⟩, ⟨(some 14), .minmax false [(.t 11), (.t 13)], none⟩, ⟨(some 15), .arith .lss (.t 9) (.t 14), none⟩, ⟨(some 4), .mov (.t 15), none⟩])
 .ret))⟩
theorem c153 : compF Tryz.prog Tryz.f153 = some e153 := by kernel_rfl
def e154 : EFunc := ⟨27, [(.tmp 2)], (.seq (.region [⟨(some 1), .box 3 (.t 0), none⟩, ⟨(some 2), .mov (.c (.bool false)), none⟩])
 (.seq (.region [⟨(some 3), .fieldAddr 0 (.t 1), none⟩, ⟨(some 4), .load 1 false (.t 3), none⟩, ⟨(some 5), .arith .leq (.c (.int .i64 1)) (.t 4), none⟩, ⟨(some 6), .mov (.t 5), none⟩, ⟨(some 7), .fieldAddr 0 (.t 1), (some (6, true))⟩, ⟨(some 8), .load 1 false (.t 7), (some (6, true))⟩, ⟨(some 9), .arith .leq (.t 8) (.c (.int .i64 9007199254740991)), (some (6, true))⟩, ⟨(some 10), .pick (.t 6) (.t 9) (.c (.bool false)), none⟩, ⟨(some 11), .mov (.t 10), none⟩, ⟨(some 12), .fieldAddr 1 (.t 1), (some (11, true))⟩, ⟨(some 13), .load 1 false (.t 12), (some (11, true))⟩, ⟨(some 14), .lenStr (.t 13), (some (11, true))⟩, ⟨(some 15), .arith .leq (.t 14) (.c (.int .i64 64)), (some (11, true))⟩, ⟨(some 16), .pick (.t 11) (.t 15) (.c (.bool false)), none⟩, ⟨(some 17), .mov (.t 16), none⟩, ⟨(some 18), .fieldAddr 2 (.t 1), (some (17, true))⟩, ⟨(some 19), .load 1 false (.t 18), (some (17, true))⟩, ⟨(some 20), .mov (.t 19), (some (17, true))⟩, ⟨(some 21), .fieldAddr 1 (.t 1), (some (20, true))⟩, ⟨(some 22), .load 1 false (.t 21), (some (20, true))⟩, ⟨(some 23), .arith .neq (.t 22) (.c (.str [])), (some (20, true))⟩, ⟨(some 24), .pick (.t 20) (.t 23) (.c (.bool false)), (some (17, true))⟩, ⟨(some 25), .unop .not (.t 24), (some (17, true))⟩, ⟨(some 26), .pick (.t 17) (.t 25) (.c (.bool false)), none⟩, ⟨(some 2), .mov (.t 26), none⟩])
 .ret))⟩
theorem c154 : compF Tryz.prog Tryz.f154 = some e154 := by kernel_rfl
def e155 : EFunc := ⟨57, [(.tmp 4)], (.seq (.region [⟨(some 2), .box 12 (.t 0), none⟩, ⟨(some 3), .box 2 (.t 1), none⟩, ⟨(some 4), .mov (.c (.bool false)), none⟩])
 (.seq (.region [⟨(some 7), .fieldAddr 0 (.t 2), none⟩, ⟨(some 8), .load 1 false (.t 7), none⟩, ⟨(some 9), .arith .leq (.c (.int .i64 1)) (.t 8), none⟩, ⟨(some 10), .mov (.t 9), none⟩, ⟨(some 11), .fieldAddr 0 (.t 2), (some (10, true))⟩, ⟨(some 12), .load 1 false (.t 11), (some (10, true))⟩, ⟨(some 13), .arith .leq (.t 12) (.c (.int .i64 9007199254740991)), (some (10, true))⟩, ⟨(some 14), .pick (.t 10) (.t 13) (.c (.bool false)), none⟩, ⟨(some 15), .mov (.t 14), none⟩, ⟨(some 16), .fieldAddr 1 (.t 2), (some (15, true))⟩, ⟨(some 17), .load 1 false (.t 16), (some (15, true))⟩, ⟨(some 18), .arith .leq (.c (.int .i64 0)) (.t 17), (some (15, true))⟩, ⟨(some 19), .pick (.t 15) (.t 18) (.c (.bool false)), none⟩, ⟨(some 20), .mov (.t 19), none⟩, ⟨(some 21), .fieldAddr 1 (.t 2), (some (20, true))⟩, ⟨(some 22), .load 1 false (.t 21), (some (20, true))⟩, ⟨(some 23), .arith .leq (.t 22) (.c (.int .i64 9007199254740991)), (some (20, true))⟩, ⟨(some 24), .pick (.t 20) (.t 23) (.c (.bool false)), none⟩, ⟨(some 25), .mov (.t 24), none⟩, ⟨(some 26), .fieldAddr 2 (.t 2), (some (25, true))⟩, ⟨(some 27), .load 1 false (.t 26), (some (25, true))⟩, ⟨(some 28), .arith .leq (.c (.int .i64 1)) (.t 27), (some (25, true))⟩, ⟨(some 29), .pick (.t 25) (.t 28) (.c (.bool false)), none⟩, ⟨(some 30), .mov (.t 29), none⟩, ⟨(some 31), .fieldAddr 2 (.t 2), (some (30, true))⟩, ⟨(some 32), .load 1 false (.t 31), (some (30, true))⟩, ⟨(some 33), .arith .leq (.t 32) (.c (.int .i64 1000)), (some (30, true))⟩, ⟨(some 34), .pick (.t 30) (.t 33) (.c (.bool false)), none⟩, ⟨(some 5), .mov (.t 34), none⟩])
 (.seq (.region [⟨(some 35), .fieldAddr 4 (.t 2), none⟩, ⟨(some 36), .load 2 true (.t 35), none⟩, ⟨(some 37), .fieldAddr 6 (.t 2), none⟩, ⟨(some 38), .load 2 true (.t 37), none⟩, ⟨(some 39), .fieldAddr 8 (.t 2), none⟩, ⟨(some 40), .load 2 true (.t 39), none⟩, ⟨(some 41), .fieldAddr 10 (.t 2), none⟩, ⟨(some 42), .load 2 true (.t 41), none⟩, ⟨(some 43), .load 2 true (.t 3), none⟩, ⟨(some 44), .buildSlice 5 2 [(.int .i64 0), (.int .i64 0)] [(0, 2, (.t 36)), (2, 2, (.t 38)), (4, 2, (.t 40)), (6, 2, (.t 42)), (8, 2, (.t 43))], none⟩, ⟨(some 6), .mov (.t 44), none⟩])
 (.seq (.region [⟨(some 45), .mov (.t 5), none⟩, ⟨(some 46), .mov (.t 45), none⟩, ⟨(some 47), .fieldAddr 3 (.t 2), (some (46, true))⟩, ⟨(some 48), .load 1 false (.t 47), (some (46, true))⟩, ⟨(some 49), .call (.c (.func 83 [] [])) [(.t 48)], (some (46, true))⟩, ⟨(some 50), .arith .eql (.t 49) (.c (.int .i64 0)), (some (46, true))⟩, ⟨(some 51), .pick (.t 46) (.t 50) (.c (.bool false)), none⟩, ⟨(some 52), .mov (.t 51), none⟩, ⟨(some 53), .mov (.t 6), (some (52, true))⟩, ⟨(some 54), .call (.c (.func 135 [] [])) [(.t 53), (.c (.func 197 [] []))], (some (52, true))⟩, ⟨(some 55), .unop .not (.t 54), (some (52, true))⟩, ⟨(some 56), .pick (.t 52) (.t 55) (.c (.bool false)), none⟩, ⟨(some 4), .mov (.t 56), none⟩])
 .ret))))⟩
theorem c155 : compF Tryz.prog Tryz.f155 = some e155 := by kernel_rfl
def e156 : EFunc := ⟨15, [(.tmp 2), (.tmp 3)], (.seq (.region [⟨(some 2), .mov (.c (.str [])), none⟩, ⟨(some 3), .mov (.c (.int .i64 0)), none⟩])
 (.seq (.region [⟨(some 7), .mov (.t 0), none⟩, ⟨(some 8), .call (.c (.func 198 [] [])) [(.t 7)], none⟩, ⟨(some 6), .mov (.t 8), none⟩, ⟨(some 9), .extract (.t 6) 0, none⟩, ⟨(some 10), .extract (.t 6) 1, none⟩, ⟨(some 4), .mov (.t 9), none⟩, ⟨(some 5), .mov (.t 10), none⟩])
 (.seq (.seq (.region [⟨(some 11), .mov (.t 5), none⟩, ⟨(some 12), .arith .neq (.t 11) (.c (.int .i64 0)), none⟩])
 (.cond (.t 12)
 (.seq (.region [⟨(some 2), .mov (.c (.str [])), none⟩, ⟨(some 3), .mov (.c (.int .i64 2)), none⟩])
 .ret)
 .skip))
 (.seq (.region [⟨(some 13), .mov (.t 4), none⟩, ⟨(some 14), .arith .add (.c (.str [105])) (.t 13), none⟩, ⟨(some 2), .mov (.t 14), none⟩, ⟨(some 3), .mov (.c (.int .i64 0)), none⟩])
 .ret))))⟩
theorem c156 : compF Tryz.prog Tryz.f156 = some e156 := by kernel_rfl
def e157 : EFunc := ⟨40, [(.cell 2 9 true), (.tmp 3)], (.seq (.region [⟨(some 2), .alloc 9 [(.int .i64 0), (.int .i64 0), (.int .i64 0), (.str []), (.int .i64 0), (.int .i64 0), (.int .i64 0), (.int .i64 0), .nilSlice], none⟩, ⟨(some 3), .mov (.c (.int .i64 0)), none⟩])
 (.seq (.region [⟨(some 6), .mov (.t 0), none⟩, ⟨(some 7), .conv .strBytes (.t 6), none⟩, ⟨(some 8), .build [.nilSlice, (.bool false)] [(0, 1, (.t 7))], none⟩, ⟨(some 9), .box 2 (.t 8), none⟩, ⟨(some 4), .alloc 1 [.nilPtr], none⟩, ⟨none, .store 1 (.t 4) (.t 9), none⟩])
 (.seq (.draw [⟨(some 10), .load 1 false (.t 4), none⟩, ⟨(some 12), .load 1 false (.t 4), none⟩, ⟨(some 14), .load 1 false (.t 4), none⟩, ⟨(some 11), .call (.c (.func 189 [] [])) [(.t 10)], none⟩, ⟨(some 16), .fieldAddr 0 (.t 2), none⟩, ⟨(some 13), .call (.c (.func 189 [] [])) [(.t 12)], none⟩, ⟨(some 15), .call (.c (.func 189 [] [])) [(.t 14)], none⟩, ⟨none, .store 1 (.t 16) (.t 11), none⟩, ⟨(some 17), .fieldAddr 1 (.t 2), none⟩, ⟨none, .store 1 (.t 17) (.t 13), none⟩, ⟨(some 18), .fieldAddr 2 (.t 2), none⟩, ⟨none, .store 1 (.t 18) (.t 15), none⟩] [(1, 3), (2, 3), (2, 5)])
 (.seq (.region [⟨(some 19), .load 1 false (.t 4), none⟩, ⟨(some 20), .call (.c (.func 188 [] [])) [(.t 19)], none⟩, ⟨(some 21), .fieldAddr 3 (.t 2), none⟩, ⟨none, .store 1 (.t 21) (.t 20), none⟩])
 (.seq (.draw [⟨(some 22), .load 1 false (.t 4), none⟩, ⟨(some 24), .load 1 false (.t 4), none⟩, ⟨(some 23), .call (.c (.func 128 [] [])) [(.t 22)], none⟩, ⟨(some 26), .fieldAddr 4 (.t 2), none⟩, ⟨(some 25), .call (.c (.func 128 [] [])) [(.t 24)], none⟩, ⟨none, .store 2 (.t 26) (.t 23), none⟩, ⟨(some 27), .fieldAddr 6 (.t 2), none⟩, ⟨none, .store 2 (.t 27) (.t 25), none⟩] [(1, 2)])
 (.seq (.region [⟨(some 28), .load 1 false (.t 4), none⟩, ⟨(some 29), .mkFunc 200 [] [(.t 2), (.t 4)], none⟩, ⟨(some 30), .call (.c (.func 199 [] [])) [(.t 28), (.t 29)], none⟩])
 (.seq (.seq (.draw [⟨(some 31), .load 1 false (.t 4), none⟩, ⟨(some 32), .load 9 true (.t 2), none⟩, ⟨(some 33), .call (.c (.func 201 [] [])) [(.t 32)], none⟩, ⟨(some 34), .call (.c (.func 129 [] [])) [(.t 31), (.t 33)], none⟩, ⟨(some 5), .mov (.t 34), none⟩] [(0, 2)])
 (.seq (.region [⟨(some 35), .mov (.t 5), none⟩, ⟨(some 36), .arith .neq (.t 35) (.c (.int .i64 0)), none⟩])
 (.cond (.t 36)
 (.seq (.region [⟨(some 37), .build [(.int .i64 0), (.int .i64 0), (.int .i64 0), (.str []), (.int .i64 0), (.int .i64 0), (.int .i64 0), (.int .i64 0), .nilSlice] [], none⟩, ⟨(some 38), .mov (.t 5), none⟩, ⟨none, .store 9 (.t 2) (.t 37), none⟩, ⟨(some 3), .mov (.t 38), none⟩])
 .ret)
 .skip)))
 (.seq (.region [⟨(some 39), .load 9 true (.t 2), none⟩, ⟨none, .store 9 (.t 2) (.t 39), none⟩, ⟨(some 3), .mov (.c (.int .i64 0)), none⟩])
 .ret))))))))⟩
theorem c157 : compF Tryz.prog Tryz.f157 = some e157 := by kernel_rfl
def e159 : EFunc := ⟨43, [(.cell 8 2 true), (.tmp 9)], (.seq (.region [⟨(some 6), .box 12 (.t 2), none⟩, ⟨(some 7), .box 2 (.t 3), none⟩, ⟨(some 8), .alloc 2 [(.int .i64 0), (.int .i64 0)], none⟩, ⟨(some 9), .mov (.c (.int .i64 0)), none⟩])
 (.seq (.region [⟨(some 15), .load 2 true (.t 7), none⟩, ⟨(some 16), .buildSlice 1 2 [(.int .i64 0), (.int .i64 0)] [(0, 2, (.t 15))], none⟩, ⟨(some 10), .mov (.t 16), none⟩])
 (.seq (.seq (.region [⟨(some 18), .mov (.t 0), none⟩, ⟨(some 19), .mov (.t 1), none⟩, ⟨(some 20), .call (.c (.func 204 [] [])) [(.t 18), (.t 19)], none⟩, ⟨(some 17), .mov (.t 20), none⟩, ⟨(some 21), .extract (.t 17) 0, none⟩, ⟨(some 22), .extract (.t 17) 1, none⟩, ⟨(some 11), .alloc 2 [(.int .i64 0), (.int .i64 0)], none⟩, ⟨none, .store 2 (.t 11) (.t 21), none⟩, ⟨(some 12), .mov (.t 22), none⟩])
 (.seq (.region [⟨(some 23), .mov (.t 12), none⟩])
 (.cond (.t 23)
 (.region [⟨(some 24), .mov (.t 10), none⟩, ⟨(some 25), .load 2 true (.t 11), none⟩, ⟨(some 26), .buildSlice 1 2 [(.int .i64 0), (.int .i64 0)] [(0, 2, (.t 25))], none⟩, ⟨(some 27), .append 2 16 (.t 24) (.t 26), none⟩, ⟨(some 10), .mov (.t 27), none⟩])
 .skip)))
 (.seq (.region [⟨(some 29), .mov (.t 10), none⟩, ⟨(some 30), .call (.c (.func 103 [] [])) [(.t 29)], none⟩, ⟨(some 31), .call (.c (.func 177 [] [])) [(.t 30)], none⟩, ⟨(some 28), .mov (.t 31), none⟩, ⟨(some 32), .extract (.t 28) 0, none⟩, ⟨(some 33), .extract (.t 28) 1, none⟩, ⟨(some 13), .alloc 2 [(.int .i64 0), (.int .i64 0)], none⟩, ⟨none, .store 2 (.t 13) (.t 32), none⟩, ⟨(some 14), .mov (.t 33), none⟩])
 (.seq (.seq (.region [⟨(some 34), .mov (.t 14), none⟩, ⟨(some 35), .arith .neq (.t 34) (.c (.int .i64 0)), none⟩])
 (.cond (.t 35)
 (.seq (.region [⟨(some 36), .build [(.int .i64 0), (.int .i64 0)] [], none⟩, ⟨(some 37), .mov (.t 14), none⟩, ⟨none, .store 2 (.t 8) (.t 36), none⟩, ⟨(some 9), .mov (.t 37), none⟩])
 .ret)
 .skip))
 (.seq (.region [⟨(some 38), .fieldAddr 6 (.t 6), none⟩, ⟨(some 39), .load 2 true (.t 38), none⟩, ⟨(some 40), .load 2 true (.t 13), none⟩, ⟨(some 41), .buildSlice 2 2 [(.int .i64 0), (.int .i64 0)] [(0, 2, (.t 39)), (2, 2, (.t 40))], none⟩, ⟨(some 42), .call (.c (.func 103 [] [])) [(.t 41)], none⟩, ⟨none, .store 2 (.t 8) (.t 42), none⟩, ⟨(some 9), .mov (.c (.int .i64 0)), none⟩])
 .ret))))))⟩
theorem c159 : compF Tryz.prog Tryz.f159 = some e159 := by kernel_rfl
def e160 : EFunc := ⟨52, [(.tmp 2), (.tmp 3)], (.seq (.region [⟨(some 1), .box 9 (.t 0), none⟩, ⟨(some 2), .mov (.c (.str [])), none⟩, ⟨(some 3), .mov (.c (.int .i64 0)), none⟩])
 (.seq (.region [⟨(some 4), .alloc 1 [.nilSlice], none⟩])
 (.seq (.region [⟨(some 7), .fieldAddr 0 (.t 1), none⟩, ⟨(some 8), .load 1 false (.t 7), none⟩, ⟨(some 9), .fieldAddr 1 (.t 1), none⟩, ⟨(some 10), .load 1 false (.t 9), none⟩, ⟨(some 11), .fieldAddr 2 (.t 1), none⟩, ⟨(some 12), .load 1 false (.t 11), none⟩, ⟨(some 13), .buildSlice 3 1 [(.int .i64 0)] [(0, 1, (.t 8)), (1, 1, (.t 10)), (2, 1, (.t 12))], none⟩, ⟨(some 14), .call (.c (.func 184 [] [])) [(.t 4), (.t 13)], none⟩])
 (.seq (.region [⟨(some 15), .fieldAddr 3 (.t 1), none⟩, ⟨(some 16), .load 1 false (.t 15), none⟩, ⟨(some 17), .call (.c (.func 205 [] [])) [(.t 4), (.t 16)], none⟩])
 (.seq (.region [⟨(some 18), .fieldAddr 4 (.t 1), none⟩, ⟨(some 19), .load 2 true (.t 18), none⟩, ⟨(some 20), .fieldAddr 6 (.t 1), none⟩, ⟨(some 21), .load 2 true (.t 20), none⟩, ⟨(some 22), .buildSlice 2 2 [(.int .i64 0), (.int .i64 0)] [(0, 2, (.t 19)), (2, 2, (.t 21))], none⟩, ⟨(some 23), .call (.c (.func 122 [] [])) [(.t 4), (.t 22)], none⟩])
 (.seq (.region [⟨(some 24), .fieldAddr 8 (.t 1), none⟩, ⟨(some 25), .load 1 false (.t 24), none⟩, ⟨(some 26), .lenSl (.t 25), none⟩, ⟨(some 27), .buildSlice 1 1 [(.int .i64 0)] [(0, 1, (.t 26))], none⟩, ⟨(some 28), .call (.c (.func 184 [] [])) [(.t 4), (.t 27)], none⟩])
 (.seq (.seq (.region [⟨(some 29), .fieldAddr 8 (.t 1), none⟩, ⟨(some 30), .load 1 false (.t 29), none⟩, ⟨(some 31), .lenSl (.t 30), none⟩, ⟨(some 32), .mov (.c (.int .i64 0)), none⟩])
 (.block 0 (.loop (.seq (.region [⟨(some 33), .arith .lss (.t 32) (.t 31), none⟩])
 (.seq (.cond (.t 33)
 .skip
 (.exit 0))
 (.seq (.block 1 (.seq (.region [⟨(some 34), .idxAddr 3 (.t 30) (.t 32), none⟩, ⟨(some 35), .load 3 true (.t 34), none⟩, ⟨(some 6), .alloc 3 [(.int .i64 0), (.str []), (.bool false)], none⟩, ⟨none, .store 3 (.t 6) (.t 35), none⟩])
 (.seq (.region [⟨(some 36), .fieldAddr 0 (.t 6), none⟩, ⟨(some 37), .load 1 false (.t 36), none⟩, ⟨(some 38), .buildSlice 1 1 [(.int .i64 0)] [(0, 1, (.t 37))], none⟩, ⟨(some 39), .call (.c (.func 184 [] [])) [(.t 4), (.t 38)], none⟩])
 (.seq (.region [⟨(some 40), .fieldAddr 2 (.t 6), none⟩, ⟨(some 41), .load 1 false (.t 40), none⟩, ⟨(some 42), .call (.c (.func 206 [] [])) [(.t 4), (.t 41)], none⟩])
 (.region [⟨(some 43), .fieldAddr 1 (.t 6), none⟩, ⟨(some 44), .load 1 false (.t 43), none⟩, ⟨(some 45), .call (.c (.func 205 [] [])) [(.t 4), (.t 44)], none⟩])))))
 (.region [⟨(some 46), .arith .add (.t 32) (.c (.int .i64 1)), none⟩, ⟨(some 32), .mov (.t 46), none⟩])))))))
 (.seq (.region [⟨(some 47), .load 9 true (.t 1), none⟩, ⟨(some 48), .call (.c (.func 201 [] [])) [(.t 47)], none⟩, ⟨(some 49), .call (.c (.func 123 [] [])) [(.t 4), (.t 48)], none⟩, ⟨(some 50), .extract (.t 49) 0, none⟩, ⟨(some 51), .extract (.t 49) 1, none⟩, ⟨(some 2), .mov (.t 50), none⟩, ⟨(some 3), .mov (.t 51), none⟩])
 .ret))))))))⟩
theorem c160 : compF Tryz.prog Tryz.f160 = some e160 := by kernel_rfl
def e161 : EFunc := ⟨33, [(.cell 4 2 true)], (.seq (.region [⟨(some 4), .alloc 2 [(.int .i64 0), (.int .i64 0)], none⟩])
 (.seq (.seq (.region [⟨(some 7), .mov (.t 0), none⟩, ⟨(some 8), .lenSl (.t 7), none⟩, ⟨(some 9), .arith .lss (.t 8) (.c (.int .i64 1)), none⟩])
 (.cond (.t 9)
 (.region [⟨(some 10), .mkIface 9 (.c (.str [115, 108, 105, 99, 101, 115, 46, 77, 97, 120, 70, 117, 110, 99, 58, 32, 101, 109, 112, 116, 121, 32, 108, 105, 115, 116])), none⟩, ⟨none, .bad, none⟩])
 .skip))
 (.seq (.region [⟨(some 11), .mov (.t 0), none⟩, ⟨(some 12), .idxAddr 2 (.t 11) (.c (.int .i64 0)), none⟩, ⟨(some 13), .load 2 true (.t 12), none⟩, ⟨(some 5), .alloc 2 [(.int .i64 0), (.int .i64 0)], none⟩, ⟨none, .store 2 (.t 5) (.t 13), none⟩])
 (.seq (.seq (.region [⟨(some 6), .mov (.c (.int .i64 1)), none⟩])
 (.block 0 (.loop (.seq (.seq (.region [⟨(some 14), .mov (.t 6), none⟩, ⟨(some 15), .mov (.t 0), none⟩, ⟨(some 16), .lenSl (.t 15), none⟩, ⟨(some 17), .arith .lss (.t 14) (.t 16), none⟩])
 (.cond (.t 17)
 .skip
 (.exit 0)))
 (.seq (.block 1 (.seq (.draw [⟨(some 20), .mov (.t 1), none⟩, ⟨(some 21), .mov (.t 0), none⟩, ⟨(some 22), .mov (.t 6), none⟩, ⟨(some 23), .idxAddr 2 (.t 21) (.t 22), none⟩, ⟨(some 24), .load 2 true (.t 23), none⟩, ⟨(some 25), .load 2 true (.t 5), none⟩, ⟨(some 26), .call (.t 20) [(.t 24), (.t 25)], none⟩, ⟨(some 27), .arith .gtr (.t 26) (.c (.int .i64 0)), none⟩] [])
 (.cond (.t 27)
 (.region [⟨(some 28), .mov (.t 0), none⟩, ⟨(some 29), .mov (.t 6), none⟩, ⟨(some 30), .idxAddr 2 (.t 28) (.t 29), none⟩, ⟨(some 31), .load 2 true (.t 30), none⟩, ⟨none, .store 2 (.t 5) (.t 31), none⟩])
 .skip)))
 (.region [⟨(some 18), .mov (.t 6), none⟩, ⟨(some 19), .arith .add (.t 18) (.c (.int .i64 1)), none⟩, ⟨(some 6), .mov (.t 19), none⟩]))))))
 (.seq (.region [⟨(some 32), .load 2 true (.t 5), none⟩, ⟨none, .store 2 (.t 4) (.t 32), none⟩])
 .ret)))))⟩
theorem c161 : compF Tryz.prog Tryz.f161 = some e161 := by kernel_rfl
def e164 : EFunc := ⟨19, [(.tmp 4)], (.seq (.region [⟨(some 4), .mov (.c (.int .i64 0)), none⟩])
 (.seq (.seq (.region [⟨(some 6), .mov (.t 0), none⟩, ⟨(some 7), .lenSl (.t 6), none⟩, ⟨(some 8), .mov (.c (.int .i64 0)), none⟩])
 (.block 0 (.loop (.seq (.region [⟨(some 9), .arith .lss (.t 8) (.t 7), none⟩])
 (.seq (.cond (.t 9)
 .skip
 (.exit 0))
 (.seq (.block 1 (.seq (.region [⟨(some 10), .mov (.t 8), none⟩, ⟨(some 5), .mov (.t 10), none⟩])
 (.seq (.region [⟨(some 11), .mov (.t 1), none⟩, ⟨(some 12), .mov (.t 0), none⟩, ⟨(some 13), .mov (.t 5), none⟩, ⟨(some 14), .idxAddr 5 (.t 12) (.t 13), none⟩, ⟨(some 15), .load 5 true (.t 14), none⟩, ⟨(some 16), .call (.t 11) [(.t 15)], none⟩])
 (.cond (.t 16)
 (.seq (.region [⟨(some 17), .mov (.t 5), none⟩, ⟨(some 4), .mov (.t 17), none⟩])
 .ret)
 .skip))))
 (.region [⟨(some 18), .arith .add (.t 8) (.c (.int .i64 1)), none⟩, ⟨(some 8), .mov (.t 18), none⟩])))))))
 (.seq (.region [⟨(some 4), .mov (.c (.int .i64 (-1))), none⟩])
 .ret)))⟩
theorem c164 : compF Tryz.prog Tryz.f164 = some e164 := by kernel_rfl
def e165 : EFunc := ⟨15, [(.tmp 4)], (.seq (.region [⟨(some 3), .box 5 (.t 0), none⟩, ⟨(some 4), .mov (.c (.bool false)), none⟩])
 (.seq (.region [⟨(some 5), .fieldAddr 0 (.t 3), none⟩, ⟨(some 6), .load 2 true (.t 5), none⟩, ⟨(some 7), .load 2 true (.t 1), none⟩, ⟨(some 8), .eqv false (.struct [(0, 1, false, .str), (1, 1, false, .str)]) (.t 6) (.t 7), none⟩, ⟨(some 9), .mov (.t 8), none⟩, ⟨(some 10), .fieldAddr 4 (.t 3), (some (9, true))⟩, ⟨(some 11), .load 1 false (.t 10), (some (9, true))⟩, ⟨(some 12), .load 1 false (.t 2), (some (9, true))⟩, ⟨(some 13), .arith .eql (.t 11) (.t 12), (some (9, true))⟩, ⟨(some 14), .pick (.t 9) (.t 13) (.c (.bool false)), none⟩, ⟨(some 4), .mov (.t 14), none⟩])
 .ret))⟩
theorem c165 : compF Tryz.prog Tryz.f165 = some e165 := by kernel_rfl
def e167 : EFunc := ⟨39, [(.tmp 4), (.tmp 5)], (.seq (.region [⟨(some 4), .mov (.c (.str [])), none⟩, ⟨(some 5), .mov (.c (.int .i64 0)), none⟩])
 (.seq (.region [⟨(some 11), .mov (.t 0), none⟩, ⟨(some 12), .call (.c (.func 198 [] [])) [(.t 11)], none⟩, ⟨(some 10), .mov (.t 12), none⟩, ⟨(some 13), .extract (.t 10) 0, none⟩, ⟨(some 14), .extract (.t 10) 1, none⟩, ⟨(some 6), .mov (.t 13), none⟩, ⟨(some 7), .mov (.t 14), none⟩])
 (.seq (.seq (.region [⟨(some 15), .mov (.t 7), none⟩, ⟨(some 16), .arith .neq (.t 15) (.c (.int .i64 0)), none⟩, ⟨(some 17), .mov (.t 16), none⟩, ⟨(some 18), .mov (.t 1), (some (17, false))⟩, ⟨(some 19), .call (.c (.func 209 [] [])) [(.t 18)], (some (17, false))⟩, ⟨(some 20), .unop .not (.t 19), (some (17, false))⟩, ⟨(some 21), .pick (.t 17) (.c (.bool true)) (.t 20), none⟩])
 (.cond (.t 21)
 (.seq (.region [⟨(some 4), .mov (.c (.str [])), none⟩, ⟨(some 5), .mov (.c (.int .i64 2)), none⟩])
 .ret)
 .skip))
 (.seq (.region [⟨(some 8), .alloc 8 [(.int .u8 0), (.int .u8 0), (.int .u8 0), (.int .u8 0), (.int .u8 0), (.int .u8 0), (.int .u8 0), (.int .u8 0)], none⟩])
 (.seq (.seq (.region [⟨(some 22), .mov (.c (.int .i64 0)), none⟩])
 (.block 0 (.loop (.seq (.region [⟨(some 23), .arith .lss (.t 22) (.c (.int .i64 8)), none⟩])
 (.seq (.cond (.t 23)
 .skip
 (.exit 0))
 (.seq (.block 1 (.seq (.region [⟨(some 24), .mov (.t 22), none⟩, ⟨(some 9), .mov (.t 24), none⟩])
 (.region [⟨(some 25), .mov (.t 9), none⟩, ⟨(some 26), .mov (.t 1), none⟩, ⟨(some 27), .mov (.t 9), none⟩, ⟨(some 28), .arith .sub (.c (.int .i64 7)) (.t 27), none⟩, ⟨(some 29), .arith .mul (.c (.int .i64 8)) (.t 28), none⟩, ⟨(some 30), .arith .shr (.t 26) (.t 29), none⟩, ⟨(some 31), .conv (.int .u8) (.t 30), none⟩, ⟨(some 32), .idxAddrArr 8 1 (.t 8) (.t 25), none⟩, ⟨none, .store 1 (.t 32) (.t 31), none⟩])))
 (.region [⟨(some 33), .arith .add (.t 22) (.c (.int .i64 1)), none⟩, ⟨(some 22), .mov (.t 33), none⟩])))))))
 (.seq (.region [⟨(some 34), .mov (.t 6), none⟩, ⟨(some 35), .arith .add (.c (.str [116])) (.t 34), none⟩, ⟨(some 36), .sliceArr 8 1 (.t 8) none none none, none⟩, ⟨(some 37), .conv .bytesStr (.t 36), none⟩, ⟨(some 38), .arith .add (.t 35) (.t 37), none⟩, ⟨(some 4), .mov (.t 38), none⟩, ⟨(some 5), .mov (.c (.int .i64 0)), none⟩])
 .ret))))))⟩
theorem c167 : compF Tryz.prog Tryz.f167 = some e167 := by kernel_rfl
def e168 : EFunc := ⟨43, [(.cell 2 10 true), (.tmp 3)], (.seq (.region [⟨(some 2), .alloc 10 [(.int .i64 0), (.int .i64 0), (.int .i64 0), (.int .i64 0), (.str []), (.int .i64 0), (.int .i64 0), (.int .i64 0), (.int .i64 0), .nilSlice], none⟩, ⟨(some 3), .mov (.c (.int .i64 0)), none⟩])
 (.seq (.region [⟨(some 6), .mov (.t 0), none⟩, ⟨(some 7), .conv .strBytes (.t 6), none⟩, ⟨(some 8), .build [.nilSlice, (.bool false)] [(0, 1, (.t 7))], none⟩, ⟨(some 9), .box 2 (.t 8), none⟩, ⟨(some 4), .alloc 1 [.nilPtr], none⟩, ⟨none, .store 1 (.t 4) (.t 9), none⟩])
 (.seq (.draw [⟨(some 10), .load 1 false (.t 4), none⟩, ⟨(some 12), .load 1 false (.t 4), none⟩, ⟨(some 14), .load 1 false (.t 4), none⟩, ⟨(some 16), .load 1 false (.t 4), none⟩, ⟨(some 11), .call (.c (.func 189 [] [])) [(.t 10)], none⟩, ⟨(some 18), .fieldAddr 0 (.t 2), none⟩, ⟨(some 13), .call (.c (.func 189 [] [])) [(.t 12)], none⟩, ⟨(some 15), .call (.c (.func 189 [] [])) [(.t 14)], none⟩, ⟨(some 17), .call (.c (.func 189 [] [])) [(.t 16)], none⟩, ⟨none, .store 1 (.t 18) (.t 11), none⟩, ⟨(some 19), .fieldAddr 1 (.t 2), none⟩, ⟨none, .store 1 (.t 19) (.t 13), none⟩, ⟨(some 20), .fieldAddr 2 (.t 2), none⟩, ⟨none, .store 1 (.t 20) (.t 15), none⟩, ⟨(some 21), .fieldAddr 3 (.t 2), none⟩, ⟨none, .store 1 (.t 21) (.t 17), none⟩] [(1, 4), (2, 4), (3, 4), (2, 6), (3, 6), (3, 7)])
 (.seq (.region [⟨(some 22), .load 1 false (.t 4), none⟩, ⟨(some 23), .call (.c (.func 188 [] [])) [(.t 22)], none⟩, ⟨(some 24), .fieldAddr 4 (.t 2), none⟩, ⟨none, .store 1 (.t 24) (.t 23), none⟩])
 (.seq (.draw [⟨(some 25), .load 1 false (.t 4), none⟩, ⟨(some 27), .load 1 false (.t 4), none⟩, ⟨(some 26), .call (.c (.func 128 [] [])) [(.t 25)], none⟩, ⟨(some 29), .fieldAddr 5 (.t 2), none⟩, ⟨(some 28), .call (.c (.func 128 [] [])) [(.t 27)], none⟩, ⟨none, .store 2 (.t 29) (.t 26), none⟩, ⟨(some 30), .fieldAddr 7 (.t 2), none⟩, ⟨none, .store 2 (.t 30) (.t 28), none⟩] [(1, 2)])
 (.seq (.region [⟨(some 31), .load 1 false (.t 4), none⟩, ⟨(some 32), .mkFunc 210 [] [(.t 2), (.t 4)], none⟩, ⟨(some 33), .call (.c (.func 199 [] [])) [(.t 31), (.t 32)], none⟩])
 (.seq (.seq (.draw [⟨(some 34), .load 1 false (.t 4), none⟩, ⟨(some 35), .load 10 true (.t 2), none⟩, ⟨(some 36), .call (.c (.func 172 [] [])) [(.t 35)], none⟩, ⟨(some 37), .call (.c (.func 129 [] [])) [(.t 34), (.t 36)], none⟩, ⟨(some 5), .mov (.t 37), none⟩] [(0, 2)])
 (.seq (.region [⟨(some 38), .mov (.t 5), none⟩, ⟨(some 39), .arith .neq (.t 38) (.c (.int .i64 0)), none⟩])
 (.cond (.t 39)
 (.seq (.region [⟨(some 40), .build [(.int .i64 0), (.int .i64 0), (.int .i64 0), (.int .i64 0), (.str []), (.int .i64 0), (.int .i64 0), (.int .i64 0), (.int .i64 0), .nilSlice] [], none⟩, ⟨(some 41), .mov (.t 5), none⟩, ⟨none, .store 10 (.t 2) (.t 40), none⟩, ⟨(some 3), .mov (.t 41), none⟩])
 .ret)
 .skip)))
 (.seq (.region [⟨(some 42), .load 10 true (.t 2), none⟩, ⟨none, .store 10 (.t 2) (.t 42), none⟩, ⟨(some 3), .mov (.c (.int .i64 0)), none⟩])
 .ret))))))))⟩
theorem c168 : compF Tryz.prog Tryz.f168 = some e168 := by kernel_rfl
end Go.Proofs.YteikmdigmjlmdaaGreatDoor
