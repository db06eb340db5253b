/- The evaluator's code of some functions of the program (part 4), and that it is what the program's code compiles to. -/
import Derived.Test.YteikmdigmjlmdaaGreatDoorEvComp
import Derived.Test.YteikmdigmjlmdaaGreatDoorProg
import Derived.KernelRfl
namespace Go.Proofs.YteikmdigmjlmdaaGreatDoor
open Go Go.Ev
set_option maxRecDepth 100000
def e171 : EFunc := ⟨31, [(.tmp 8), (.tmp 9)], (.seq (.region [⟨(some 4), .box 10 (.t 0), none⟩, ⟨(some 8), .mov (.c .nilPtr), none⟩, ⟨(some 9), .mov (.c (.bool false)), none⟩])
 (.seq (.seq (.region [⟨(some 10), .mov (.t 1), none⟩, ⟨(some 11), .unop .not (.t 10), none⟩])
 (.cond (.t 11)
 (.seq (.region [⟨(some 8), .mov (.c .nilPtr), none⟩, ⟨(some 9), .mov (.c (.bool true)), none⟩])
 .ret)
 .skip))
 (.seq (.region [⟨(some 12), .fieldAddr 9 (.t 4), none⟩, ⟨(some 13), .load 1 false (.t 12), none⟩, ⟨(some 14), .call (.c (.func 170 [] [])) [(.t 13)], none⟩, ⟨(some 15), .fieldAddr 9 (.t 4), none⟩, ⟨none, .store 1 (.t 15) (.t 14), none⟩])
 (.seq (.draw [⟨(some 16), .load 10 true (.t 4), none⟩, ⟨(some 17), .call (.c (.func 172 [] [])) [(.t 16)], none⟩, ⟨(some 18), .arith .eql (.t 17) (.c (.int .i64 0)), none⟩, ⟨(some 19), .mov (.t 18), none⟩, ⟨(some 20), .fieldAddr 0 (.t 4), (some (19, true))⟩, ⟨(some 21), .load 1 false (.t 20), (some (19, true))⟩, ⟨(some 22), .mov (.t 2), (some (19, true))⟩, ⟨(some 23), .arith .eql (.t 21) (.t 22), (some (19, true))⟩, ⟨(some 24), .pick (.t 19) (.t 23) (.c (.bool false)), none⟩, ⟨(some 25), .mov (.t 24), none⟩, ⟨(some 26), .fieldAddr 4 (.t 4), (some (25, true))⟩, ⟨(some 27), .load 1 false (.t 26), (some (25, true))⟩, ⟨(some 28), .mov (.t 3), (some (25, true))⟩, ⟨(some 29), .arith .eql (.t 27) (.t 28), (some (25, true))⟩, ⟨(some 30), .pick (.t 25) (.t 29) (.c (.bool false)), none⟩, ⟨(some 8), .mov (.t 4), none⟩, ⟨(some 9), .mov (.t 30), none⟩] [])
 .ret))))⟩
theorem c171 : compF Tryz.prog Tryz.f171 = some e171 := by kernel_rfl
def e172 : EFunc := ⟨79, [(.tmp 2)], (.seq (.region [⟨(some 1), .box 10 (.t 0), none⟩, ⟨(some 2), .mov (.c (.int .i64 0)), none⟩])
 (.seq (.region [⟨(some 7), .fieldAddr 0 (.t 1), none⟩, ⟨(some 8), .load 1 false (.t 7), none⟩, ⟨(some 9), .fieldAddr 1 (.t 1), none⟩, ⟨(some 10), .load 1 false (.t 9), none⟩, ⟨(some 11), .fieldAddr 3 (.t 1), none⟩, ⟨(some 12), .load 1 false (.t 11), none⟩, ⟨(some 13), .fieldAddr 4 (.t 1), none⟩, ⟨(some 14), .load 1 false (.t 13), none⟩, ⟨(some 15), .fieldAddr 5 (.t 1), none⟩, ⟨(some 16), .load 2 true (.t 15), none⟩, ⟨(some 17), .fieldAddr 7 (.t 1), none⟩, ⟨(some 18), .load 2 true (.t 17), none⟩, ⟨(some 19), .buildSlice 2 2 [(.int .i64 0), (.int .i64 0)] [(0, 2, (.t 16)), (2, 2, (.t 18))], none⟩, ⟨(some 20), .call (.c (.func 211 [] [])) [(.t 8), (.t 10), (.t 12), (.t 14), (.t 19)], none⟩, ⟨(some 21), .mov (.t 20), none⟩, ⟨(some 22), .fieldAddr 2 (.t 1), (some (21, true))⟩, ⟨(some 23), .load 1 false (.t 22), (some (21, true))⟩, ⟨(some 24), .arith .leq (.c (.int .i64 1)) (.t 23), (some (21, true))⟩, ⟨(some 25), .pick (.t 21) (.t 24) (.c (.bool false)), none⟩, ⟨(some 26), .mov (.t 25), none⟩, ⟨(some 27), .fieldAddr 2 (.t 1), (some (26, true))⟩, ⟨(some 28), .load 1 false (.t 27), (some (26, true))⟩, ⟨(some 29), .arith .leq (.t 28) (.c (.int .i64 4)), (some (26, true))⟩, ⟨(some 30), .pick (.t 26) (.t 29) (.c (.bool false)), none⟩, ⟨(some 3), .mov (.t 30), none⟩])
 (.seq (.region [⟨(some 31), .mov (.t 3), none⟩, ⟨(some 32), .mov (.t 31), none⟩, ⟨(some 33), .fieldAddr 9 (.t 1), (some (32, true))⟩, ⟨(some 34), .load 1 false (.t 33), (some (32, true))⟩, ⟨(some 35), .lenSl (.t 34), (some (32, true))⟩, ⟨(some 36), .arith .leq (.t 35) (.c (.int .i64 32)), (some (32, true))⟩, ⟨(some 37), .pick (.t 32) (.t 36) (.c (.bool false)), none⟩, ⟨(some 38), .mov (.t 37), none⟩, ⟨(some 39), .fieldAddr 2 (.t 1), (some (38, true))⟩, ⟨(some 40), .load 1 false (.t 39), (some (38, true))⟩, ⟨(some 41), .arith .eql (.t 40) (.c (.int .i64 2)), (some (38, true))⟩, ⟨(some 42), .mov (.t 41), (some (38, true))⟩, ⟨(some 43), .fieldAddr 9 (.t 1), (some (42, false))⟩, ⟨(some 44), .load 1 false (.t 43), (some (42, false))⟩, ⟨(some 45), .lenSl (.t 44), (some (42, false))⟩, ⟨(some 46), .arith .eql (.t 45) (.c (.int .i64 0)), (some (42, false))⟩, ⟨(some 47), .pick (.t 42) (.c (.bool true)) (.t 46), (some (38, true))⟩, ⟨(some 48), .pick (.t 38) (.t 47) (.c (.bool false)), none⟩, ⟨(some 3), .mov (.t 48), none⟩])
 (.seq (.region [⟨(some 4), .mov (.c (.str [])), none⟩])
 (.seq (.seq (.region [⟨(some 49), .fieldAddr 9 (.t 1), none⟩, ⟨(some 50), .load 1 false (.t 49), none⟩, ⟨(some 51), .lenSl (.t 50), none⟩, ⟨(some 52), .mov (.c (.int .i64 0)), none⟩])
 (.block 0 (.loop (.seq (.region [⟨(some 53), .arith .lss (.t 52) (.t 51), none⟩])
 (.seq (.cond (.t 53)
 .skip
 (.exit 0))
 (.seq (.block 1 (.seq (.region [⟨(some 54), .idxAddr 2 (.t 50) (.t 52), none⟩, ⟨(some 55), .load 2 true (.t 54), none⟩, ⟨(some 6), .alloc 2 [(.str []), (.int .i64 0)], none⟩, ⟨none, .store 2 (.t 6) (.t 55), none⟩])
 (.seq (.region [⟨(some 56), .mov (.t 3), none⟩, ⟨(some 57), .mov (.t 56), none⟩, ⟨(some 58), .fieldAddr 0 (.t 6), (some (57, true))⟩, ⟨(some 59), .load 1 false (.t 58), (some (57, true))⟩, ⟨(some 60), .call (.c (.func 83 [] [])) [(.t 59)], (some (57, true))⟩, ⟨(some 61), .arith .eql (.t 60) (.c (.int .i64 0)), (some (57, true))⟩, ⟨(some 62), .pick (.t 57) (.t 61) (.c (.bool false)), none⟩, ⟨(some 63), .mov (.t 62), none⟩, ⟨(some 64), .fieldAddr 0 (.t 6), (some (63, true))⟩, ⟨(some 65), .load 1 false (.t 64), (some (63, true))⟩, ⟨(some 66), .mov (.t 4), (some (63, true))⟩, ⟨(some 67), .arith .gtr (.t 65) (.t 66), (some (63, true))⟩, ⟨(some 68), .pick (.t 63) (.t 67) (.c (.bool false)), none⟩, ⟨(some 69), .mov (.t 68), none⟩, ⟨(some 70), .fieldAddr 1 (.t 6), (some (69, true))⟩, ⟨(some 71), .load 1 false (.t 70), (some (69, true))⟩, ⟨(some 72), .call (.c (.func 209 [] [])) [(.t 71)], (some (69, true))⟩, ⟨(some 73), .pick (.t 69) (.t 72) (.c (.bool false)), none⟩, ⟨(some 3), .mov (.t 73), none⟩])
 (.region [⟨(some 74), .fieldAddr 0 (.t 6), none⟩, ⟨(some 75), .load 1 false (.t 74), none⟩, ⟨(some 4), .mov (.t 75), none⟩]))))
 (.region [⟨(some 76), .arith .add (.t 52) (.c (.int .i64 1)), none⟩, ⟨(some 52), .mov (.t 76), none⟩])))))))
 (.seq (.region [⟨(some 77), .mov (.t 3), none⟩, ⟨(some 78), .call (.c (.func 124 [] [])) [(.t 77)], none⟩, ⟨(some 2), .mov (.t 78), none⟩])
 .ret))))))⟩
theorem c172 : compF Tryz.prog Tryz.f172 = some e172 := by kernel_rfl
def e173 : EFunc := ⟨9, [(.tmp 2)], (.seq (.region [⟨(some 2), .mov (.c (.int .i64 0)), none⟩])
 (.seq (.seq (.region [⟨(some 3), .mov (.t 0), none⟩, ⟨(some 4), .eqv false .ptr (.t 3) (.c .nilPtr), none⟩])
 (.cond (.t 4)
 (.seq (.region [⟨(some 2), .mov (.c (.int .i64 0)), none⟩])
 .ret)
 .skip))
 (.seq (.region [⟨(some 5), .mov (.t 0), none⟩, ⟨(some 6), .nilCheck (.t 5), none⟩, ⟨(some 7), .fieldAddr 2 (.t 6), none⟩, ⟨(some 8), .load 1 false (.t 7), none⟩, ⟨(some 2), .mov (.t 8), none⟩])
 .ret)))⟩
theorem c173 : compF Tryz.prog Tryz.f173 = some e173 := by kernel_rfl
def e174 : EFunc := ⟨14, [(.cell 4 10 true), (.tmp 5)], (.seq (.region [⟨(some 4), .alloc 10 [(.int .i64 0), (.int .i64 0), (.int .i64 0), (.int .i64 0), (.str []), (.int .i64 0), (.int .i64 0), (.int .i64 0), (.int .i64 0), .nilSlice], none⟩, ⟨(some 5), .mov (.c (.int .i64 0)), none⟩])
 (.seq (.seq (.region [⟨(some 6), .mov (.t 0), none⟩, ⟨(some 7), .eqv false .ptr (.t 6) (.c .nilPtr), none⟩])
 (.cond (.t 7)
 (.seq (.region [⟨(some 8), .build [(.int .i64 0), (.int .i64 0), (.int .i64 0), (.int .i64 0), (.str []), (.int .i64 0), (.int .i64 0), (.int .i64 0), (.int .i64 0), .nilSlice] [], none⟩, ⟨(some 9), .mov (.t 1), none⟩, ⟨none, .store 10 (.t 4) (.t 8), none⟩, ⟨(some 5), .mov (.t 9), none⟩])
 .ret)
 .skip))
 (.seq (.region [⟨(some 10), .mov (.t 0), none⟩, ⟨(some 11), .nilCheck (.t 10), none⟩, ⟨(some 12), .load 10 true (.t 11), none⟩, ⟨(some 13), .mov (.t 1), none⟩, ⟨none, .store 10 (.t 4) (.t 12), none⟩, ⟨(some 5), .mov (.t 13), none⟩])
 .ret)))⟩
theorem c174 : compF Tryz.prog Tryz.f174 = some e174 := by kernel_rfl
def e175 : EFunc := ⟨51, [(.tmp 2), (.tmp 3)], (.seq (.region [⟨(some 1), .box 10 (.t 0), none⟩, ⟨(some 2), .mov (.c (.str [])), none⟩, ⟨(some 3), .mov (.c (.int .i64 0)), none⟩])
 (.seq (.region [⟨(some 4), .alloc 1 [.nilSlice], none⟩])
 (.seq (.region [⟨(some 7), .fieldAddr 0 (.t 1), none⟩, ⟨(some 8), .load 1 false (.t 7), none⟩, ⟨(some 9), .fieldAddr 1 (.t 1), none⟩, ⟨(some 10), .load 1 false (.t 9), none⟩, ⟨(some 11), .fieldAddr 2 (.t 1), none⟩, ⟨(some 12), .load 1 false (.t 11), none⟩, ⟨(some 13), .fieldAddr 3 (.t 1), none⟩, ⟨(some 14), .load 1 false (.t 13), none⟩, ⟨(some 15), .buildSlice 4 1 [(.int .i64 0)] [(0, 1, (.t 8)), (1, 1, (.t 10)), (2, 1, (.t 12)), (3, 1, (.t 14))], none⟩, ⟨(some 16), .call (.c (.func 184 [] [])) [(.t 4), (.t 15)], none⟩])
 (.seq (.region [⟨(some 17), .fieldAddr 4 (.t 1), none⟩, ⟨(some 18), .load 1 false (.t 17), none⟩, ⟨(some 19), .call (.c (.func 205 [] [])) [(.t 4), (.t 18)], none⟩])
 (.seq (.region [⟨(some 20), .fieldAddr 5 (.t 1), none⟩, ⟨(some 21), .load 2 true (.t 20), none⟩, ⟨(some 22), .fieldAddr 7 (.t 1), none⟩, ⟨(some 23), .load 2 true (.t 22), none⟩, ⟨(some 24), .buildSlice 2 2 [(.int .i64 0), (.int .i64 0)] [(0, 2, (.t 21)), (2, 2, (.t 23))], none⟩, ⟨(some 25), .call (.c (.func 122 [] [])) [(.t 4), (.t 24)], none⟩])
 (.seq (.region [⟨(some 26), .fieldAddr 9 (.t 1), none⟩, ⟨(some 27), .load 1 false (.t 26), none⟩, ⟨(some 28), .lenSl (.t 27), none⟩, ⟨(some 29), .buildSlice 1 1 [(.int .i64 0)] [(0, 1, (.t 28))], none⟩, ⟨(some 30), .call (.c (.func 184 [] [])) [(.t 4), (.t 29)], none⟩])
 (.seq (.seq (.region [⟨(some 31), .fieldAddr 9 (.t 1), none⟩, ⟨(some 32), .load 1 false (.t 31), none⟩, ⟨(some 33), .lenSl (.t 32), none⟩, ⟨(some 34), .mov (.c (.int .i64 0)), none⟩])
 (.block 0 (.loop (.seq (.region [⟨(some 35), .arith .lss (.t 34) (.t 33), none⟩])
 (.seq (.cond (.t 35)
 .skip
 (.exit 0))
 (.seq (.block 1 (.seq (.region [⟨(some 36), .idxAddr 2 (.t 32) (.t 34), none⟩, ⟨(some 37), .load 2 true (.t 36), none⟩, ⟨(some 6), .alloc 2 [(.str []), (.int .i64 0)], none⟩, ⟨none, .store 2 (.t 6) (.t 37), none⟩])
 (.seq (.region [⟨(some 38), .fieldAddr 0 (.t 6), none⟩, ⟨(some 39), .load 1 false (.t 38), none⟩, ⟨(some 40), .call (.c (.func 205 [] [])) [(.t 4), (.t 39)], none⟩])
 (.region [⟨(some 41), .fieldAddr 1 (.t 6), none⟩, ⟨(some 42), .load 1 false (.t 41), none⟩, ⟨(some 43), .buildSlice 1 1 [(.int .i64 0)] [(0, 1, (.t 42))], none⟩, ⟨(some 44), .call (.c (.func 184 [] [])) [(.t 4), (.t 43)], none⟩]))))
 (.region [⟨(some 45), .arith .add (.t 34) (.c (.int .i64 1)), none⟩, ⟨(some 34), .mov (.t 45), none⟩])))))))
 (.seq (.region [⟨(some 46), .load 10 true (.t 1), none⟩, ⟨(some 47), .call (.c (.func 172 [] [])) [(.t 46)], none⟩, ⟨(some 48), .call (.c (.func 123 [] [])) [(.t 4), (.t 47)], none⟩, ⟨(some 49), .extract (.t 48) 0, none⟩, ⟨(some 50), .extract (.t 48) 1, none⟩, ⟨(some 2), .mov (.t 49), none⟩, ⟨(some 3), .mov (.t 50), none⟩])
 .ret))))))))⟩
theorem c175 : compF Tryz.prog Tryz.f175 = some e175 := by kernel_rfl
def e176 : EFunc := ⟨11, [(.tmp 4)], (.seq (.region [⟨(some 2), .box 2 (.t 0), none⟩, ⟨(some 3), .box 2 (.t 1), none⟩, ⟨(some 4), .mov (.c (.bool false)), none⟩])
 (.seq (.region [⟨(some 5), .fieldAddr 0 (.t 3), none⟩, ⟨(some 6), .load 1 false (.t 5), none⟩, ⟨(some 7), .fieldAddr 0 (.t 2), none⟩, ⟨(some 8), .load 1 false (.t 7), none⟩, ⟨(some 9), .arith .sub (.t 6) (.t 8), none⟩, ⟨(some 10), .arith .gtr (.t 9) (.c (.int .i64 50)), none⟩, ⟨(some 4), .mov (.t 10), none⟩])
 .ret))⟩
theorem c176 : compF Tryz.prog Tryz.f176 = some e176 := by kernel_rfl
def e177 : EFunc := ⟨30, [(.cell 2 2 true), (.tmp 3)], (.seq (.region [⟨(some 1), .box 2 (.t 0), none⟩, ⟨(some 2), .alloc 2 [(.int .i64 0), (.int .i64 0)], none⟩, ⟨(some 3), .mov (.c (.int .i64 0)), none⟩])
 (.seq (.region [⟨(some 5), .load 2 true (.t 1), none⟩, ⟨(some 6), .call (.c (.func 53 [] [])) [(.t 5)], none⟩, ⟨(some 4), .mov (.t 6), none⟩])
 (.seq (.block 0 (.seq (.region [⟨(some 8), .mov (.t 4), none⟩, ⟨(some 9), .arith .neq (.t 8) (.c (.int .i64 0)), none⟩, ⟨(some 7), .mov (.t 9), none⟩])
 (.cond (.t 7)
 (.seq (.region [⟨(some 10), .build [(.int .i64 0), (.int .i64 0)] [], none⟩, ⟨(some 11), .mov (.t 4), none⟩, ⟨none, .store 2 (.t 2) (.t 10), none⟩, ⟨(some 3), .mov (.t 11), none⟩])
 .ret)
 (.seq (.region [⟨(some 13), .load 2 true (.t 1), none⟩, ⟨(some 14), .build [(.int .i64 0), (.int .i64 0)] [(0, 1, (.c (.int .i64 1099511627776))), (1, 1, (.c (.int .i64 1048575)))], none⟩, ⟨(some 15), .eqv false (.struct [(0, 1, false, .int), (1, 1, false, .int)]) (.t 13) (.t 14), none⟩, ⟨(some 12), .mov (.t 15), none⟩])
 (.cond (.t 12)
 (.seq (.region [⟨(some 16), .build [(.int .i64 0), (.int .i64 0)] [], none⟩, ⟨none, .store 2 (.t 2) (.t 16), none⟩, ⟨(some 3), .mov (.c (.int .i64 5)), none⟩])
 .ret)
 (.seq (.region [⟨(some 18), .fieldAddr 1 (.t 1), none⟩, ⟨(some 19), .load 1 false (.t 18), none⟩, ⟨(some 20), .arith .eql (.t 19) (.c (.int .i64 1048575)), none⟩, ⟨(some 17), .mov (.t 20), none⟩])
 (.cond (.t 17)
 (.seq (.region [⟨(some 21), .fieldAddr 0 (.t 1), none⟩, ⟨(some 22), .load 1 false (.t 21), none⟩, ⟨(some 23), .arith .add (.t 22) (.c (.int .i64 1)), none⟩, ⟨(some 24), .build [(.int .i64 0), (.int .i64 0)] [(0, 1, (.t 23))], none⟩, ⟨none, .store 2 (.t 2) (.t 24), none⟩, ⟨(some 3), .mov (.c (.int .i64 0)), none⟩])
 .ret)
 .skip)))))))
 (.seq (.region [⟨(some 25), .fieldAddr 1 (.t 1), none⟩, ⟨(some 26), .load 1 false (.t 25), none⟩, ⟨(some 27), .arith .add (.t 26) (.c (.int .i64 1)), none⟩, ⟨(some 28), .fieldAddr 1 (.t 1), none⟩, ⟨none, .store 1 (.t 28) (.t 27), none⟩])
 (.seq (.region [⟨(some 29), .load 2 true (.t 1), none⟩, ⟨none, .store 2 (.t 2) (.t 29), none⟩, ⟨(some 3), .mov (.c (.int .i64 0)), none⟩])
 .ret)))))⟩
theorem c177 : compF Tryz.prog Tryz.f177 = some e177 := by kernel_rfl
def e178 : EFunc := ⟨19, [(.tmp 6)], (.seq (.region [⟨(some 5), .box 10 (.t 2), none⟩, ⟨(some 6), .mov (.c (.int .i64 0)), none⟩])
 (.seq (.block 0 (.seq (.region [⟨(some 8), .mov (.t 0), none⟩, ⟨(some 9), .eqv false .ptr (.t 8) (.c .nilPtr), none⟩, ⟨(some 7), .mov (.t 9), none⟩])
 (.cond (.t 7)
 (.seq (.region [⟨(some 6), .mov (.c (.int .i64 1)), none⟩])
 .ret)
 (.seq (.region [⟨(some 11), .mov (.t 1), none⟩, ⟨(some 12), .call (.c (.func 83 [] [])) [(.t 11)], none⟩, ⟨(some 13), .arith .neq (.t 12) (.c (.int .i64 0)), none⟩, ⟨(some 14), .mov (.t 13), none⟩, ⟨(some 15), .load 10 true (.t 5), (some (14, false))⟩, ⟨(some 16), .call (.c (.func 172 [] [])) [(.t 15)], (some (14, false))⟩, ⟨(some 17), .arith .neq (.t 16) (.c (.int .i64 0)), (some (14, false))⟩, ⟨(some 18), .pick (.t 14) (.c (.bool true)) (.t 17), none⟩, ⟨(some 10), .mov (.t 18), none⟩])
 (.cond (.t 10)
 (.seq (.region [⟨(some 6), .mov (.c (.int .i64 2)), none⟩])
 .ret)
 .skip)))))
 (.seq (.region [⟨(some 6), .mov (.c (.int .i64 0)), none⟩])
 .ret)))⟩
theorem c178 : compF Tryz.prog Tryz.f178 = some e178 := by kernel_rfl
def e179 : EFunc := ⟨34, [(.cell 4 9 true), (.tmp 5)], (.seq (.region [⟨(some 4), .alloc 9 [(.int .i64 0), (.int .i64 0), (.int .i64 0), (.str []), (.int .i64 0), (.int .i64 0), (.int .i64 0), (.int .i64 0), .nilSlice], none⟩, ⟨(some 5), .mov (.c (.bool false)), none⟩])
 (.seq (.region [⟨(some 13), .mov (.t 1), none⟩, ⟨(some 14), .call (.c (.func 156 [] [])) [(.t 13)], none⟩, ⟨(some 12), .mov (.t 14), none⟩, ⟨(some 15), .extract (.t 12) 0, none⟩, ⟨(some 16), .extract (.t 12) 1, none⟩, ⟨(some 6), .mov (.t 15), none⟩, ⟨(some 7), .mov (.t 16), none⟩])
 (.seq (.region [⟨(some 18), .mov (.t 0), none⟩, ⟨(some 19), .mov (.t 6), none⟩, ⟨(some 20), .call (.c (.func 14 [] [])) [(.t 18), (.t 19)], none⟩, ⟨(some 17), .mov (.t 20), none⟩, ⟨(some 21), .extract (.t 17) 0, none⟩, ⟨(some 22), .extract (.t 17) 1, none⟩, ⟨(some 8), .mov (.t 21), none⟩, ⟨(some 9), .mov (.t 22), none⟩])
 (.seq (.region [⟨(some 24), .mov (.t 8), none⟩, ⟨(some 25), .call (.c (.func 157 [] [])) [(.t 24)], none⟩, ⟨(some 23), .mov (.t 25), none⟩, ⟨(some 26), .extract (.t 23) 0, none⟩, ⟨(some 27), .extract (.t 23) 1, none⟩, ⟨(some 10), .alloc 9 [(.int .i64 0), (.int .i64 0), (.int .i64 0), (.str []), (.int .i64 0), (.int .i64 0), (.int .i64 0), (.int .i64 0), .nilSlice], none⟩, ⟨none, .store 9 (.t 10) (.t 26), none⟩, ⟨(some 11), .mov (.t 27), none⟩])
 (.seq (.region [⟨(some 28), .load 9 true (.t 10), none⟩, ⟨(some 29), .mov (.t 9), none⟩, ⟨(some 30), .mov (.t 29), none⟩, ⟨(some 31), .mov (.t 11), (some (30, true))⟩, ⟨(some 32), .arith .eql (.t 31) (.c (.int .i64 0)), (some (30, true))⟩, ⟨(some 33), .pick (.t 30) (.t 32) (.c (.bool false)), none⟩, ⟨none, .store 9 (.t 4) (.t 28), none⟩, ⟨(some 5), .mov (.t 33), none⟩])
 .ret)))))⟩
theorem c179 : compF Tryz.prog Tryz.f179 = some e179 := by kernel_rfl
def e184 : EFunc := ⟨29, [], (.seq (.region [⟨(some 8), .mov (.t 1), none⟩, ⟨(some 9), .lenSl (.t 8), none⟩, ⟨(some 10), .mov (.c (.int .i64 0)), none⟩])
 (.block 0 (.loop (.seq (.region [⟨(some 11), .arith .lss (.t 10) (.t 9), none⟩])
 (.seq (.cond (.t 11)
 .skip
 (.exit 0))
 (.seq (.block 1 (.seq (.region [⟨(some 12), .idxAddr 1 (.t 8) (.t 10), none⟩, ⟨(some 13), .load 1 false (.t 12), none⟩, ⟨(some 5), .mov (.t 13), none⟩])
 (.seq (.region [⟨(some 15), .mov (.t 5), none⟩, ⟨(some 16), .call (.c (.func 213 [] [])) [(.t 15)], none⟩, ⟨(some 14), .mov (.t 16), none⟩, ⟨(some 17), .extract (.t 14) 0, none⟩, ⟨(some 18), .extract (.t 14) 1, none⟩, ⟨(some 6), .mov (.t 17), none⟩, ⟨(some 7), .mov (.t 18), none⟩])
 (.region [⟨(some 19), .mov (.t 0), none⟩, ⟨(some 20), .mov (.t 0), none⟩, ⟨(some 21), .nilCheck (.t 20), none⟩, ⟨(some 22), .fieldAddr 0 (.t 21), none⟩, ⟨(some 23), .load 1 false (.t 22), none⟩, ⟨(some 24), .mov (.t 6), none⟩, ⟨(some 25), .append 1 1 (.t 23) (.t 24), none⟩, ⟨(some 26), .nilCheck (.t 19), none⟩, ⟨(some 27), .fieldAddr 0 (.t 26), none⟩, ⟨none, .store 1 (.t 27) (.t 25), none⟩]))))
 (.region [⟨(some 28), .arith .add (.t 10) (.c (.int .i64 1)), none⟩, ⟨(some 10), .mov (.t 28), none⟩])))))))⟩
theorem c184 : compF Tryz.prog Tryz.f184 = some e184 := by kernel_rfl
def e187 : EFunc := ⟨19, [(.tmp 2)], (.seq (.region [⟨(some 2), .mov (.c (.bool false)), none⟩])
 (.seq (.region [⟨(some 4), .mov (.t 0), none⟩, ⟨(some 5), .call (.c (.func 189 [] [])) [(.t 4)], none⟩, ⟨(some 3), .mov (.t 5), none⟩])
 (.seq (.region [⟨(some 6), .mov (.t 0), none⟩, ⟨(some 7), .mov (.t 0), none⟩, ⟨(some 8), .nilCheck (.t 7), none⟩, ⟨(some 9), .fieldAddr 1 (.t 8), none⟩, ⟨(some 10), .load 1 false (.t 9), none⟩, ⟨(some 11), .mov (.t 10), none⟩, ⟨(some 12), .mov (.t 3), (some (11, false))⟩, ⟨(some 13), .arith .gtr (.t 12) (.c (.int .i64 1)), (some (11, false))⟩, ⟨(some 14), .pick (.t 11) (.c (.bool true)) (.t 13), none⟩, ⟨(some 15), .nilCheck (.t 6), none⟩, ⟨(some 16), .fieldAddr 1 (.t 15), none⟩, ⟨none, .store 1 (.t 16) (.t 14), none⟩])
 (.seq (.region [⟨(some 17), .mov (.t 3), none⟩, ⟨(some 18), .arith .eql (.t 17) (.c (.int .i64 1)), none⟩, ⟨(some 2), .mov (.t 18), none⟩])
 .ret))))⟩
theorem c187 : compF Tryz.prog Tryz.f187 = some e187 := by kernel_rfl
def e188 : EFunc := ⟨22, [(.tmp 2)], (.seq (.region [⟨(some 2), .mov (.c (.str [])), none⟩])
 (.seq (.region [⟨(some 3), .mov (.c (.int .i64 0)), none⟩])
 (.seq (.seq (.region [⟨(some 5), .mov (.t 0), none⟩, ⟨(some 6), .mov (.t 0), none⟩, ⟨(some 7), .nilCheck (.t 6), none⟩, ⟨(some 8), .fieldAddr 0 (.t 7), none⟩, ⟨(some 9), .load 1 false (.t 8), none⟩, ⟨(some 10), .call (.c (.func 217 [] [])) [(.t 9), (.c (.int .i64 64))], none⟩, ⟨(some 4), .mov (.t 10), none⟩, ⟨(some 11), .extract (.t 4) 0, none⟩, ⟨(some 12), .extract (.t 4) 1, none⟩, ⟨(some 13), .extract (.t 4) 2, none⟩, ⟨(some 2), .mov (.t 11), none⟩, ⟨(some 14), .nilCheck (.t 5), none⟩, ⟨(some 15), .fieldAddr 0 (.t 14), none⟩, ⟨none, .store 1 (.t 15) (.t 12), none⟩, ⟨(some 3), .mov (.t 13), none⟩])
 (.seq (.region [⟨(some 16), .mov (.t 3), none⟩, ⟨(some 17), .arith .neq (.t 16) (.c (.int .i64 0)), none⟩])
 (.cond (.t 17)
 (.region [⟨(some 18), .mov (.t 0), none⟩, ⟨(some 19), .nilCheck (.t 18), none⟩, ⟨(some 20), .fieldAddr 1 (.t 19), none⟩, ⟨none, .store 1 (.t 20) (.c (.bool true)), none⟩])
 .skip)))
 (.seq (.region [⟨(some 21), .mov (.t 2), none⟩, ⟨(some 2), .mov (.t 21), none⟩])
 .ret))))⟩
theorem c188 : compF Tryz.prog Tryz.f188 = some e188 := by kernel_rfl
def e189 : EFunc := ⟨22, [(.tmp 2)], (.seq (.region [⟨(some 2), .mov (.c (.int .i64 0)), none⟩])
 (.seq (.region [⟨(some 3), .mov (.c (.int .i64 0)), none⟩])
 (.seq (.seq (.region [⟨(some 5), .mov (.t 0), none⟩, ⟨(some 6), .mov (.t 0), none⟩, ⟨(some 7), .nilCheck (.t 6), none⟩, ⟨(some 8), .fieldAddr 0 (.t 7), none⟩, ⟨(some 9), .load 1 false (.t 8), none⟩, ⟨(some 10), .call (.c (.func 218 [] [])) [(.t 9)], none⟩, ⟨(some 4), .mov (.t 10), none⟩, ⟨(some 11), .extract (.t 4) 0, none⟩, ⟨(some 12), .extract (.t 4) 1, none⟩, ⟨(some 13), .extract (.t 4) 2, none⟩, ⟨(some 2), .mov (.t 11), none⟩, ⟨(some 14), .nilCheck (.t 5), none⟩, ⟨(some 15), .fieldAddr 0 (.t 14), none⟩, ⟨none, .store 1 (.t 15) (.t 12), none⟩, ⟨(some 3), .mov (.t 13), none⟩])
 (.seq (.region [⟨(some 16), .mov (.t 3), none⟩, ⟨(some 17), .arith .neq (.t 16) (.c (.int .i64 0)), none⟩])
 (.cond (.t 17)
 (.region [⟨(some 18), .mov (.t 0), none⟩, ⟨(some 19), .nilCheck (.t 18), none⟩, ⟨(some 20), .fieldAddr 1 (.t 19), none⟩, ⟨none, .store 1 (.t 20) (.c (.bool true)), none⟩])
 .skip)))
 (.seq (.region [⟨(some 21), .mov (.t 2), none⟩, ⟨(some 2), .mov (.t 21), none⟩])
 .ret))))⟩
theorem c189 : compF Tryz.prog Tryz.f189 = some e189 := by kernel_rfl
def e190 : EFunc := ⟨6, [(.tmp 2)], (.seq (.region [⟨(some 2), .mov (.c (.bool false)), none⟩])
 (.seq (.region [⟨(some 3), .mov (.t 0), none⟩, ⟨(some 4), .mov (.t 0), none⟩, ⟨(some 5), .arith .neq (.t 3) (.t 4), none⟩, ⟨(some 2), .mov (.t 5), none⟩])
 .ret))⟩
theorem c190 : compF Tryz.prog Tryz.f190 = some e190 := by kernel_rfl
def e191 : EFunc := ⟨19, [(.tmp 4)], (.seq (.region [⟨(some 4), .mov (.c (.int .i64 0)), none⟩])
 (.seq (.seq (.region [⟨(some 6), .mov (.t 0), none⟩, ⟨(some 7), .lenSl (.t 6), none⟩, ⟨(some 8), .mov (.c (.int .i64 0)), none⟩])
 (.block 0 (.loop (.seq (.region [⟨(some 9), .arith .lss (.t 8) (.t 7), none⟩])
 (.seq (.cond (.t 9)
 .skip
 (.exit 0))
 (.seq (.block 1 (.seq (.region [⟨(some 10), .mov (.t 8), none⟩, ⟨(some 5), .mov (.t 10), none⟩])
 (.seq (.region [⟨(some 11), .mov (.t 1), none⟩, ⟨(some 12), .mov (.t 0), none⟩, ⟨(some 13), .mov (.t 5), none⟩, ⟨(some 14), .idxAddr 2 (.t 12) (.t 13), none⟩, ⟨(some 15), .load 2 true (.t 14), none⟩, ⟨(some 16), .call (.t 11) [(.t 15)], none⟩])
 (.cond (.t 16)
 (.seq (.region [⟨(some 17), .mov (.t 5), none⟩, ⟨(some 4), .mov (.t 17), none⟩])
 .ret)
 .skip))))
 (.region [⟨(some 18), .arith .add (.t 8) (.c (.int .i64 1)), none⟩, ⟨(some 8), .mov (.t 18), none⟩])))))))
 (.seq (.region [⟨(some 4), .mov (.c (.int .i64 (-1))), none⟩])
 .ret)))⟩
theorem c191 : compF Tryz.prog Tryz.f191 = some e191 := by kernel_rfl
def e192 : EFunc := ⟨30, [(.tmp 4), (.tmp 5)], (.seq (.region [⟨(some 3), .box 2 (.t 1), none⟩, ⟨(some 4), .mov (.c (.str [])), none⟩, ⟨(some 5), .mov (.c (.int .i64 0)), none⟩])
 (.seq (.region [⟨(some 11), .mov (.t 0), none⟩, ⟨(some 12), .call (.c (.func 198 [] [])) [(.t 11)], none⟩, ⟨(some 10), .mov (.t 12), none⟩, ⟨(some 13), .extract (.t 10) 0, none⟩, ⟨(some 14), .extract (.t 10) 1, none⟩, ⟨(some 6), .mov (.t 13), none⟩, ⟨(some 7), .mov (.t 14), none⟩])
 (.seq (.region [⟨(some 16), .load 2 true (.t 3), none⟩, ⟨(some 17), .call (.c (.func 219 [] [])) [(.t 16)], none⟩, ⟨(some 15), .mov (.t 17), none⟩, ⟨(some 18), .extract (.t 15) 0, none⟩, ⟨(some 19), .extract (.t 15) 1, none⟩, ⟨(some 8), .mov (.t 18), none⟩, ⟨(some 9), .mov (.t 19), none⟩])
 (.seq (.seq (.region [⟨(some 20), .mov (.t 7), none⟩, ⟨(some 21), .arith .neq (.t 20) (.c (.int .i64 0)), none⟩, ⟨(some 22), .mov (.t 21), none⟩, ⟨(some 23), .mov (.t 9), (some (22, false))⟩, ⟨(some 24), .arith .neq (.t 23) (.c (.int .i64 0)), (some (22, false))⟩, ⟨(some 25), .pick (.t 22) (.c (.bool true)) (.t 24), none⟩])
 (.cond (.t 25)
 (.seq (.region [⟨(some 4), .mov (.c (.str [])), none⟩, ⟨(some 5), .mov (.c (.int .i64 2)), none⟩])
 .ret)
 .skip))
 (.seq (.region [⟨(some 26), .mov (.t 6), none⟩, ⟨(some 27), .arith .add (.c (.str [118])) (.t 26), none⟩, ⟨(some 28), .mov (.t 8), none⟩, ⟨(some 29), .arith .add (.t 27) (.t 28), none⟩, ⟨(some 4), .mov (.t 29), none⟩, ⟨(some 5), .mov (.c (.int .i64 0)), none⟩])
 .ret)))))⟩
theorem c192 : compF Tryz.prog Tryz.f192 = some e192 := by kernel_rfl
def e193 : EFunc := ⟨12, [(.tmp 3)], (.seq (.region [⟨(some 2), .box 2 (.t 0), none⟩, ⟨(some 3), .mov (.c (.bool false)), none⟩])
 (.seq (.region [⟨(some 4), .load 2 true (.t 2), none⟩, ⟨(some 5), .call (.c (.func 53 [] [])) [(.t 4)], none⟩, ⟨(some 6), .arith .neq (.t 5) (.c (.int .i64 0)), none⟩, ⟨(some 7), .mov (.t 6), none⟩, ⟨(some 8), .load 2 true (.t 1), (some (7, false))⟩, ⟨(some 9), .load 2 true (.t 2), (some (7, false))⟩, ⟨(some 10), .call (.c (.func 31 [] [])) [(.t 8), (.t 9)], (some (7, false))⟩, ⟨(some 11), .pick (.t 7) (.c (.bool true)) (.t 10), none⟩, ⟨(some 3), .mov (.t 11), none⟩])
 .ret))⟩
theorem c193 : compF Tryz.prog Tryz.f193 = some e193 := by kernel_rfl
def e194 : EFunc := ⟨9, [(.tmp 4)], (.seq (.region [⟨(some 4), .mov (.c (.bool false)), none⟩])
 (.seq (.region [⟨(some 5), .mov (.t 0), none⟩, ⟨(some 6), .mov (.t 1), none⟩, ⟨(some 7), .call (.c (.func 220 [] [])) [(.t 5), (.t 6)], none⟩, ⟨(some 8), .arith .geq (.t 7) (.c (.int .i64 0)), none⟩, ⟨(some 4), .mov (.t 8), none⟩])
 .ret))⟩
theorem c194 : compF Tryz.prog Tryz.f194 = some e194 := by kernel_rfl
def e197 : EFunc := ⟨6, [(.tmp 2)], (.seq (.region [⟨(some 1), .box 2 (.t 0), none⟩, ⟨(some 2), .mov (.c (.bool false)), none⟩])
 (.seq (.region [⟨(some 3), .load 2 true (.t 1), none⟩, ⟨(some 4), .call (.c (.func 53 [] [])) [(.t 3)], none⟩, ⟨(some 5), .arith .neq (.t 4) (.c (.int .i64 0)), none⟩, ⟨(some 2), .mov (.t 5), none⟩])
 .ret))⟩
theorem c197 : compF Tryz.prog Tryz.f197 = some e197 := by kernel_rfl
def e198 : EFunc := ⟨10, [(.tmp 2), (.tmp 3)], (.seq (.region [⟨(some 2), .mov (.c (.str [])), none⟩, ⟨(some 3), .mov (.c (.int .i64 0)), none⟩])
 (.seq (.seq (.region [⟨(some 4), .mov (.t 0), none⟩, ⟨(some 5), .lenStr (.t 4), none⟩, ⟨(some 6), .arith .gtr (.t 5) (.c (.int .i64 1000)), none⟩])
 (.cond (.t 6)
 (.seq (.region [⟨(some 2), .mov (.c (.str [])), none⟩, ⟨(some 3), .mov (.c (.int .i64 5)), none⟩])
 .ret)
 .skip))
 (.seq (.region [⟨(some 7), .mov (.t 0), none⟩, ⟨(some 8), .call (.c (.func 223 [] [])) [(.t 7), (.c (.str [0])), (.c (.str [0, 1]))], none⟩, ⟨(some 9), .arith .add (.t 8) (.c (.str [0, 0])), none⟩, ⟨(some 2), .mov (.t 9), none⟩, ⟨(some 3), .mov (.c (.int .i64 0)), none⟩])
 .ret)))⟩
theorem c198 : compF Tryz.prog Tryz.f198 = some e198 := by kernel_rfl
def e199 : EFunc := ⟨20, [], (.seq (.region [⟨(some 5), .mov (.t 0), none⟩, ⟨(some 6), .call (.c (.func 189 [] [])) [(.t 5)], none⟩, ⟨(some 4), .mov (.t 6), none⟩])
 (.block 0 (.loop (.seq (.seq (.region [⟨(some 7), .mov (.t 4), none⟩, ⟨(some 8), .arith .gtr (.t 7) (.c (.int .i64 0)), none⟩, ⟨(some 9), .mov (.t 8), none⟩, ⟨(some 10), .mov (.t 0), (some (9, true))⟩, ⟨(some 11), .nilCheck (.t 10), (some (9, true))⟩, ⟨(some 12), .fieldAddr 1 (.t 11), (some (9, true))⟩, ⟨(some 13), .load 1 false (.t 12), (some (9, true))⟩, ⟨(some 14), .unop .not (.t 13), (some (9, true))⟩, ⟨(some 15), .pick (.t 9) (.t 14) (.c (.bool false)), none⟩])
 (.cond (.t 15)
 .skip
 (.exit 0)))
 (.seq (.block 1 (.region [⟨(some 18), .mov (.t 1), none⟩, ⟨(some 19), .call (.t 18) [], none⟩]))
 (.region [⟨(some 16), .mov (.t 4), none⟩, ⟨(some 17), .arith .sub (.t 16) (.c (.int .i64 1)), none⟩, ⟨(some 4), .mov (.t 17), none⟩]))))))⟩
theorem c199 : compF Tryz.prog Tryz.f199 = some e199 := by kernel_rfl
def e200 : EFunc := ⟨14, [], (.draw [⟨(some 2), .fieldAddr 8 (.t 0), none⟩, ⟨(some 3), .load 1 false (.t 2), none⟩, ⟨(some 4), .load 1 false (.t 1), none⟩, ⟨(some 6), .load 1 false (.t 1), none⟩, ⟨(some 8), .load 1 false (.t 1), none⟩, ⟨(some 5), .call (.c (.func 189 [] [])) [(.t 4)], none⟩, ⟨(some 7), .call (.c (.func 187 [] [])) [(.t 6)], none⟩, ⟨(some 9), .call (.c (.func 188 [] [])) [(.t 8)], none⟩, ⟨(some 10), .build [(.int .i64 0), (.str []), (.bool false)] [(0, 1, (.t 5)), (2, 1, (.t 7)), (1, 1, (.t 9))], none⟩, ⟨(some 11), .buildSlice 1 3 [(.int .i64 0), (.str []), (.bool false)] [(0, 3, (.t 10))], none⟩, ⟨(some 12), .append 3 32 (.t 3) (.t 11), none⟩, ⟨(some 13), .fieldAddr 8 (.t 0), none⟩, ⟨none, .store 1 (.t 13) (.t 12), none⟩] [(1, 5), (3, 5), (4, 5), (1, 6), (4, 6), (1, 7)])⟩
theorem c200 : compF Tryz.prog Tryz.f200 = some e200 := by kernel_rfl
def e201 : EFunc := ⟨73, [(.tmp 2)], (.seq (.region [⟨(some 1), .box 9 (.t 0), none⟩, ⟨(some 2), .mov (.c (.int .i64 0)), none⟩])
 (.seq (.region [⟨(some 7), .fieldAddr 0 (.t 1), none⟩, ⟨(some 8), .load 1 false (.t 7), none⟩, ⟨(some 9), .fieldAddr 1 (.t 1), none⟩, ⟨(some 10), .load 1 false (.t 9), none⟩, ⟨(some 11), .fieldAddr 2 (.t 1), none⟩, ⟨(some 12), .load 1 false (.t 11), none⟩, ⟨(some 13), .fieldAddr 3 (.t 1), none⟩, ⟨(some 14), .load 1 false (.t 13), none⟩, ⟨(some 15), .fieldAddr 4 (.t 1), none⟩, ⟨(some 16), .load 2 true (.t 15), none⟩, ⟨(some 17), .fieldAddr 6 (.t 1), none⟩, ⟨(some 18), .load 2 true (.t 17), none⟩, ⟨(some 19), .buildSlice 2 2 [(.int .i64 0), (.int .i64 0)] [(0, 2, (.t 16)), (2, 2, (.t 18))], none⟩, ⟨(some 20), .call (.c (.func 211 [] [])) [(.t 8), (.t 10), (.t 12), (.t 14), (.t 19)], none⟩, ⟨(some 21), .mov (.t 20), none⟩, ⟨(some 22), .fieldAddr 8 (.t 1), (some (21, true))⟩, ⟨(some 23), .load 1 false (.t 22), (some (21, true))⟩, ⟨(some 24), .lenSl (.t 23), (some (21, true))⟩, ⟨(some 25), .arith .leq (.c (.int .i64 1)) (.t 24), (some (21, true))⟩, ⟨(some 26), .pick (.t 21) (.t 25) (.c (.bool false)), none⟩, ⟨(some 27), .mov (.t 26), none⟩, ⟨(some 28), .fieldAddr 8 (.t 1), (some (27, true))⟩, ⟨(some 29), .load 1 false (.t 28), (some (27, true))⟩, ⟨(some 30), .lenSl (.t 29), (some (27, true))⟩, ⟨(some 31), .arith .leq (.t 30) (.c (.int .i64 16)), (some (27, true))⟩, ⟨(some 32), .pick (.t 27) (.t 31) (.c (.bool false)), none⟩, ⟨(some 3), .mov (.t 32), none⟩])
 (.seq (.region [⟨(some 4), .mov (.c (.int .i64 0)), none⟩])
 (.seq (.seq (.region [⟨(some 33), .fieldAddr 8 (.t 1), none⟩, ⟨(some 34), .load 1 false (.t 33), none⟩, ⟨(some 35), .lenSl (.t 34), none⟩, ⟨(some 36), .mov (.c (.int .i64 0)), none⟩])
 (.block 0 (.loop (.seq (.region [⟨(some 37), .arith .lss (.t 36) (.t 35), none⟩])
 (.seq (.cond (.t 37)
 .skip
 (.exit 0))
 (.seq (.block 1 (.seq (.region [⟨(some 38), .idxAddr 3 (.t 34) (.t 36), none⟩, ⟨(some 39), .load 3 true (.t 38), none⟩, ⟨(some 6), .alloc 3 [(.int .i64 0), (.str []), (.bool false)], none⟩, ⟨none, .store 3 (.t 6) (.t 39), none⟩])
 (.seq (.region [⟨(some 40), .mov (.t 3), none⟩, ⟨(some 41), .mov (.t 40), none⟩, ⟨(some 42), .fieldAddr 0 (.t 6), (some (41, true))⟩, ⟨(some 43), .load 1 false (.t 42), (some (41, true))⟩, ⟨(some 44), .mov (.t 4), (some (41, true))⟩, ⟨(some 45), .arith .gtr (.t 43) (.t 44), (some (41, true))⟩, ⟨(some 46), .pick (.t 41) (.t 45) (.c (.bool false)), none⟩, ⟨(some 47), .mov (.t 46), none⟩, ⟨(some 48), .fieldAddr 0 (.t 6), (some (47, true))⟩, ⟨(some 49), .load 1 false (.t 48), (some (47, true))⟩, ⟨(some 50), .arith .leq (.t 49) (.c (.int .i64 9007199254740991)), (some (47, true))⟩, ⟨(some 51), .pick (.t 47) (.t 50) (.c (.bool false)), none⟩, ⟨(some 52), .mov (.t 51), none⟩, ⟨(some 53), .fieldAddr 1 (.t 6), (some (52, true))⟩, ⟨(some 54), .load 1 false (.t 53), (some (52, true))⟩, ⟨(some 55), .lenStr (.t 54), (some (52, true))⟩, ⟨(some 56), .arith .leq (.t 55) (.c (.int .i64 64)), (some (52, true))⟩, ⟨(some 57), .pick (.t 52) (.t 56) (.c (.bool false)), none⟩, ⟨(some 58), .mov (.t 57), none⟩, ⟨(some 59), .fieldAddr 2 (.t 6), (some (58, true))⟩, ⟨(some 60), .load 1 false (.t 59), (some (58, true))⟩, ⟨(some 61), .mov (.t 60), (some (58, true))⟩, ⟨(some 62), .fieldAddr 1 (.t 6), (some (61, true))⟩, ⟨(some 63), .load 1 false (.t 62), (some (61, true))⟩, ⟨(some 64), .arith .neq (.t 63) (.c (.str [])), (some (61, true))⟩, ⟨(some 65), .pick (.t 61) (.t 64) (.c (.bool false)), (some (58, true))⟩, ⟨(some 66), .unop .not (.t 65), (some (58, true))⟩, ⟨(some 67), .pick (.t 58) (.t 66) (.c (.bool false)), none⟩, ⟨(some 3), .mov (.t 67), none⟩])
 (.region [⟨(some 68), .fieldAddr 0 (.t 6), none⟩, ⟨(some 69), .load 1 false (.t 68), none⟩, ⟨(some 4), .mov (.t 69), none⟩]))))
 (.region [⟨(some 70), .arith .add (.t 36) (.c (.int .i64 1)), none⟩, ⟨(some 36), .mov (.t 70), none⟩])))))))
 (.seq (.region [⟨(some 71), .mov (.t 3), none⟩, ⟨(some 72), .call (.c (.func 124 [] [])) [(.t 71)], none⟩, ⟨(some 2), .mov (.t 72), none⟩])
 .ret)))))⟩
theorem c201 : compF Tryz.prog Tryz.f201 = some e201 := by kernel_rfl
def e204 : EFunc := ⟨57, [(.cell 4 2 true), (.cell 5 1 false)], (.seq (.region [⟨(some 4), .alloc 2 [(.int .i64 0), (.int .i64 0)], none⟩, ⟨(some 5), .alloc 1 [(.bool false)], none⟩])
 (.seq (.region [⟨(some 19), .mov (.t 1), none⟩, ⟨(some 20), .build [(.int .i64 0), (.int .i64 0)] [(0, 1, (.c (.int .i64 1099511627776))), (1, 1, (.c (.int .i64 1048575)))], none⟩, ⟨(some 21), .call (.c (.func 192 [] [])) [(.t 19), (.t 20)], none⟩, ⟨(some 18), .mov (.t 21), none⟩, ⟨(some 22), .extract (.t 18) 0, none⟩, ⟨(some 23), .extract (.t 18) 1, none⟩, ⟨(some 6), .mov (.t 22), none⟩, ⟨(some 7), .mov (.t 23), none⟩])
 (.seq (.region [⟨(some 25), .mov (.t 1), none⟩, ⟨(some 26), .build [(.int .i64 0), (.int .i64 0)] [], none⟩, ⟨(some 27), .call (.c (.func 192 [] [])) [(.t 25), (.t 26)], none⟩, ⟨(some 24), .mov (.t 27), none⟩, ⟨(some 28), .extract (.t 24) 0, none⟩, ⟨(some 29), .extract (.t 24) 1, none⟩, ⟨(some 8), .mov (.t 28), none⟩, ⟨(some 9), .mov (.t 29), none⟩])
 (.seq (.seq (.region [⟨(some 30), .mov (.t 0), none⟩, ⟨(some 31), .mov (.t 6), none⟩, ⟨(some 32), .mov (.t 8), none⟩, ⟨(some 33), .arith .add (.t 32) (.c (.str [0])), none⟩, ⟨(some 34), .call (.c (.func 50 [] [])) [(.t 30), (.t 31), (.t 33)], none⟩])
 (.block 0 (.rangeFunc (.t 34) [35, 36] (.seq (.region [⟨(some 10), .mov (.t 35), none⟩])
 (.region [⟨(some 11), .mov (.t 36), none⟩])) (.block 1 (.seq (.region [⟨(some 38), .mov (.t 10), none⟩, ⟨(some 39), .call (.c (.func 126 [] [])) [(.t 38)], none⟩, ⟨(some 37), .mov (.t 39), none⟩, ⟨(some 40), .extract (.t 37) 0, none⟩, ⟨(some 41), .extract (.t 37) 1, none⟩, ⟨(some 42), .extract (.t 37) 2, none⟩, ⟨(some 13), .alloc 2 [(.int .i64 0), (.int .i64 0)], none⟩, ⟨(some 12), .mov (.t 40), none⟩, ⟨none, .store 2 (.t 13) (.t 41), none⟩, ⟨(some 14), .mov (.t 42), none⟩])
 (.seq (.region [⟨(some 44), .mov (.t 11), none⟩, ⟨(some 45), .call (.c (.func 127 [] [])) [(.t 44)], none⟩, ⟨(some 43), .mov (.t 45), none⟩, ⟨(some 46), .extract (.t 43) 0, none⟩, ⟨(some 47), .extract (.t 43) 1, none⟩, ⟨(some 48), .extract (.t 43) 2, none⟩, ⟨(some 15), .mov (.t 46), none⟩, ⟨(some 16), .mov (.t 47), none⟩, ⟨(some 17), .mov (.t 48), none⟩])
 (.seq (.region [⟨(some 49), .mov (.t 14), none⟩, ⟨(some 50), .arith .eql (.t 49) (.c (.int .i64 0)), none⟩, ⟨(some 51), .mov (.t 50), none⟩, ⟨(some 52), .mov (.t 17), (some (51, true))⟩, ⟨(some 53), .arith .eql (.t 52) (.c (.int .i64 0)), (some (51, true))⟩, ⟨(some 54), .pick (.t 51) (.t 53) (.c (.bool false)), none⟩])
 (.cond (.t 54)
 (.seq (.region [⟨(some 55), .load 2 true (.t 13), none⟩, ⟨none, .store 2 (.t 4) (.t 55), none⟩, ⟨none, .store 1 (.t 5) (.c (.bool true)), none⟩])
 .ret)
 .skip))))))))
 (.seq (.region [⟨(some 56), .build [(.int .i64 0), (.int .i64 0)] [], none⟩, ⟨none, .store 2 (.t 4) (.t 56), none⟩, ⟨none, .store 1 (.t 5) (.c (.bool false)), none⟩])
 .ret)))))⟩
theorem c204 : compF Tryz.prog Tryz.f204 = some e204 := by kernel_rfl
end Go.Proofs.YteikmdigmjlmdaaGreatDoor
