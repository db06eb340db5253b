/- The evaluator's code of some functions of the program (part 5), and that it is what the program's code compiles to. -/
import Derived.Test.YteikmdigmjlmdaaGreatDoorEvComp
import Derived.Test.YteikmdigmjlmdaaGreatDoorProg
import Derived.KernelRfl
namespace Go.Proofs.YteikmdigmjlmdaaGreatDoor
open Go Go.Ev
set_option maxRecDepth 100000
def e205 : EFunc := ⟨20, [], (.seq (.region [⟨(some 7), .mov (.t 1), none⟩, ⟨(some 8), .call (.c (.func 224 [] [])) [(.t 7), (.c (.int .i64 64))], none⟩, ⟨(some 6), .mov (.t 8), none⟩, ⟨(some 9), .extract (.t 6) 0, none⟩, ⟨(some 10), .extract (.t 6) 1, none⟩, ⟨(some 4), .mov (.t 9), none⟩, ⟨(some 5), .mov (.t 10), none⟩])
 (.region [⟨(some 11), .mov (.t 0), none⟩, ⟨(some 12), .mov (.t 0), none⟩, ⟨(some 13), .nilCheck (.t 12), none⟩, ⟨(some 14), .fieldAddr 0 (.t 13), none⟩, ⟨(some 15), .load 1 false (.t 14), none⟩, ⟨(some 16), .mov (.t 4), none⟩, ⟨(some 17), .append 1 1 (.t 15) (.t 16), none⟩, ⟨(some 18), .nilCheck (.t 11), none⟩, ⟨(some 19), .fieldAddr 0 (.t 18), none⟩, ⟨none, .store 1 (.t 19) (.t 17), none⟩]))⟩
theorem c205 : compF Tryz.prog Tryz.f205 = some e205 := by kernel_rfl
def e206 : EFunc := ⟨11, [], (.seq (.seq (.region [⟨(some 4), .mov (.t 1), none⟩])
 (.cond (.t 4)
 (.seq (.region [⟨(some 5), .mov (.t 0), none⟩, ⟨(some 6), .buildSlice 1 1 [(.int .i64 0)] [(0, 1, (.c (.int .i64 1)))], none⟩, ⟨(some 7), .call (.c (.func 184 [] [])) [(.t 5), (.t 6)], none⟩])
 .ret)
 .skip))
 (.region [⟨(some 8), .mov (.t 0), none⟩, ⟨(some 9), .buildSlice 1 1 [(.int .i64 0)] [(0, 1, (.c (.int .i64 0)))], none⟩, ⟨(some 10), .call (.c (.func 184 [] [])) [(.t 8), (.t 9)], none⟩]))⟩
theorem c206 : compF Tryz.prog Tryz.f206 = some e206 := by kernel_rfl
def e209 : EFunc := ⟨9, [(.tmp 2)], (.seq (.region [⟨(some 2), .mov (.c (.bool false)), none⟩])
 (.seq (.region [⟨(some 3), .mov (.t 0), none⟩, ⟨(some 4), .arith .leq (.c (.int .i64 1)) (.t 3), none⟩, ⟨(some 5), .mov (.t 4), none⟩, ⟨(some 6), .mov (.t 0), (some (5, true))⟩, ⟨(some 7), .arith .leq (.t 6) (.c (.int .i64 9007199254740991)), (some (5, true))⟩, ⟨(some 8), .pick (.t 5) (.t 7) (.c (.bool false)), none⟩, ⟨(some 2), .mov (.t 8), none⟩])
 .ret))⟩
theorem c209 : compF Tryz.prog Tryz.f209 = some e209 := by kernel_rfl
def e211 : EFunc := ⟨41, [(.tmp 10)], (.seq (.region [⟨(some 10), .mov (.c (.bool false)), none⟩])
 (.seq (.region [⟨(some 12), .mov (.t 0), none⟩, ⟨(some 13), .call (.c (.func 209 [] [])) [(.t 12)], none⟩, ⟨(some 14), .mov (.t 13), none⟩, ⟨(some 15), .mov (.t 1), (some (14, true))⟩, ⟨(some 16), .arith .leq (.c (.int .i64 0)) (.t 15), (some (14, true))⟩, ⟨(some 17), .pick (.t 14) (.t 16) (.c (.bool false)), none⟩, ⟨(some 18), .mov (.t 17), none⟩, ⟨(some 19), .mov (.t 1), (some (18, true))⟩, ⟨(some 20), .arith .leq (.t 19) (.c (.int .i64 9007199254740991)), (some (18, true))⟩, ⟨(some 21), .pick (.t 18) (.t 20) (.c (.bool false)), none⟩, ⟨(some 22), .mov (.t 21), none⟩, ⟨(some 23), .mov (.t 2), (some (22, true))⟩, ⟨(some 24), .arith .leq (.c (.int .i64 1)) (.t 23), (some (22, true))⟩, ⟨(some 25), .pick (.t 22) (.t 24) (.c (.bool false)), none⟩, ⟨(some 26), .mov (.t 25), none⟩, ⟨(some 27), .mov (.t 2), (some (26, true))⟩, ⟨(some 28), .arith .leq (.t 27) (.c (.int .i64 1000)), (some (26, true))⟩, ⟨(some 29), .pick (.t 26) (.t 28) (.c (.bool false)), none⟩, ⟨(some 11), .mov (.t 29), none⟩])
 (.seq (.region [⟨(some 30), .mov (.t 11), none⟩, ⟨(some 31), .mov (.t 30), none⟩, ⟨(some 32), .mov (.t 3), (some (31, true))⟩, ⟨(some 33), .call (.c (.func 83 [] [])) [(.t 32)], (some (31, true))⟩, ⟨(some 34), .arith .eql (.t 33) (.c (.int .i64 0)), (some (31, true))⟩, ⟨(some 35), .pick (.t 31) (.t 34) (.c (.bool false)), none⟩, ⟨(some 36), .mov (.t 35), none⟩, ⟨(some 37), .mov (.t 4), (some (36, true))⟩, ⟨(some 38), .call (.c (.func 135 [] [])) [(.t 37), (.c (.func 225 [] []))], (some (36, true))⟩, ⟨(some 39), .unop .not (.t 38), (some (36, true))⟩, ⟨(some 40), .pick (.t 36) (.t 39) (.c (.bool false)), none⟩, ⟨(some 10), .mov (.t 40), none⟩])
 .ret)))⟩
theorem c211 : compF Tryz.prog Tryz.f211 = some e211 := by kernel_rfl
def e213 : EFunc := ⟨28, [(.tmp 2), (.tmp 3)], (.seq (.region [⟨(some 2), .mov (.c .nilSlice), none⟩, ⟨(some 3), .mov (.c (.int .i64 0)), none⟩])
 (.seq (.seq (.region [⟨(some 5), .mov (.t 0), none⟩, ⟨(some 6), .arith .lss (.t 5) (.c (.int .i64 0)), none⟩, ⟨(some 7), .mov (.t 6), none⟩, ⟨(some 8), .mov (.t 0), (some (7, false))⟩, ⟨(some 9), .arith .gtr (.t 8) (.c (.int .i64 9007199254740991)), (some (7, false))⟩, ⟨(some 10), .pick (.t 7) (.c (.bool true)) (.t 9), none⟩])
 (.cond (.t 10)
 (.seq (.region [⟨(some 2), .mov (.c .nilSlice), none⟩, ⟨(some 3), .mov (.c (.int .i64 2)), none⟩])
 .ret)
 .skip))
 (.seq (.region [⟨(some 4), .mov (.c .nilSlice), none⟩])
 (.seq (.block 0 (.loop (.seq (.seq (.region [⟨(some 11), .mov (.t 0), none⟩, ⟨(some 12), .arith .gtr (.t 11) (.c (.int .i64 0)), none⟩])
 (.cond (.t 12)
 .skip
 (.exit 0)))
 (.seq (.block 1 (.region [⟨(some 15), .mov (.t 4), none⟩, ⟨(some 16), .mov (.t 0), none⟩, ⟨(some 17), .conv (.int .u8) (.t 16), none⟩, ⟨(some 18), .buildSlice 1 1 [(.int .u8 0)] [(0, 1, (.t 17))], none⟩, ⟨(some 19), .append 1 1 (.t 15) (.t 18), none⟩, ⟨(some 4), .mov (.t 19), none⟩]))
 (.region [⟨(some 13), .mov (.t 0), none⟩, ⟨(some 14), .arith .shr (.t 13) (.c (.int .u64 8)), none⟩, ⟨(some 0), .mov (.t 14), none⟩])))))
 (.seq (.region [⟨(some 20), .mov (.t 4), none⟩, ⟨(some 21), .call (.c (.func 226 [] [])) [(.t 20)], none⟩])
 (.seq (.region [⟨(some 22), .mov (.t 4), none⟩, ⟨(some 23), .lenSl (.t 22), none⟩, ⟨(some 24), .conv (.int .u8) (.t 23), none⟩, ⟨(some 25), .buildSlice 1 1 [(.int .u8 0)] [(0, 1, (.t 24))], none⟩, ⟨(some 26), .mov (.t 4), none⟩, ⟨(some 27), .append 1 1 (.t 25) (.t 26), none⟩, ⟨(some 2), .mov (.t 27), none⟩, ⟨(some 3), .mov (.c (.int .i64 0)), none⟩])
 .ret))))))⟩
theorem c213 : compF Tryz.prog Tryz.f213 = some e213 := by kernel_rfl
def e216 : EFunc := ⟨21, [(.tmp 2)], (.seq (.region [⟨(some 1), .box 2 (.t 0), none⟩, ⟨(some 2), .mov (.c (.bool false)), none⟩])
 (.seq (.region [⟨(some 3), .fieldAddr 0 (.t 1), none⟩, ⟨(some 4), .load 1 false (.t 3), none⟩, ⟨(some 5), .arith .geq (.t 4) (.c (.int .i64 0)), none⟩, ⟨(some 6), .mov (.t 5), none⟩, ⟨(some 7), .fieldAddr 0 (.t 1), (some (6, true))⟩, ⟨(some 8), .load 1 false (.t 7), (some (6, true))⟩, ⟨(some 9), .arith .leq (.t 8) (.c (.int .i64 1099511627776)), (some (6, true))⟩, ⟨(some 10), .pick (.t 6) (.t 9) (.c (.bool false)), none⟩, ⟨(some 11), .mov (.t 10), none⟩, ⟨(some 12), .fieldAddr 1 (.t 1), (some (11, true))⟩, ⟨(some 13), .load 1 false (.t 12), (some (11, true))⟩, ⟨(some 14), .arith .geq (.t 13) (.c (.int .i64 0)), (some (11, true))⟩, ⟨(some 15), .pick (.t 11) (.t 14) (.c (.bool false)), none⟩, ⟨(some 16), .mov (.t 15), none⟩, ⟨(some 17), .fieldAddr 1 (.t 1), (some (16, true))⟩, ⟨(some 18), .load 1 false (.t 17), (some (16, true))⟩, ⟨(some 19), .arith .leq (.t 18) (.c (.int .i64 1048575)), (some (16, true))⟩, ⟨(some 20), .pick (.t 16) (.t 19) (.c (.bool false)), none⟩, ⟨(some 2), .mov (.t 20), none⟩])
 .ret))⟩
theorem c216 : compF Tryz.prog Tryz.f216 = some e216 := by kernel_rfl
def e217 : EFunc := ⟨37, [(.tmp 4), (.tmp 5), (.tmp 6)], (.seq (.region [⟨(some 4), .mov (.c (.str [])), none⟩, ⟨(some 5), .mov (.c .nilSlice), none⟩, ⟨(some 6), .mov (.c (.int .i64 0)), none⟩])
 (.seq (.seq (.region [⟨(some 8), .mov (.t 1), none⟩, ⟨(some 9), .arith .lss (.t 8) (.c (.int .i64 0)), none⟩])
 (.cond (.t 9)
 (.seq (.region [⟨(some 4), .mov (.c (.str [])), none⟩, ⟨(some 5), .mov (.c .nilSlice), none⟩, ⟨(some 6), .mov (.c (.int .i64 2)), none⟩])
 .ret)
 .skip))
 (.seq (.region [⟨(some 11), .mov (.t 0), none⟩, ⟨(some 12), .call (.c (.func 227 [] [])) [(.t 11)], none⟩, ⟨(some 10), .mov (.t 12), none⟩, ⟨(some 13), .extract (.t 10) 0, none⟩, ⟨(some 14), .extract (.t 10) 1, none⟩, ⟨(some 15), .extract (.t 10) 2, none⟩, ⟨(some 7), .mov (.t 13), none⟩, ⟨(some 5), .mov (.t 14), none⟩, ⟨(some 6), .mov (.t 15), none⟩])
 (.seq (.block 0 (.seq (.region [⟨(some 17), .mov (.t 6), none⟩, ⟨(some 18), .arith .neq (.t 17) (.c (.int .i64 0)), none⟩, ⟨(some 16), .mov (.t 18), none⟩])
 (.cond (.t 16)
 (.seq (.region [⟨(some 19), .mov (.t 6), none⟩, ⟨(some 4), .mov (.c (.str [])), none⟩, ⟨(some 5), .mov (.c .nilSlice), none⟩, ⟨(some 6), .mov (.t 19), none⟩])
 .ret)
 (.seq (.region [⟨(some 21), .mov (.t 7), none⟩, ⟨(some 22), .mov (.t 1), none⟩, ⟨(some 23), .arith .gtr (.t 21) (.t 22), none⟩, ⟨(some 20), .mov (.t 23), none⟩])
 (.cond (.t 20)
 (.seq (.region [⟨(some 4), .mov (.c (.str [])), none⟩, ⟨(some 5), .mov (.c .nilSlice), none⟩, ⟨(some 6), .mov (.c (.int .i64 5)), none⟩])
 .ret)
 (.seq (.region [⟨(some 25), .mov (.t 7), none⟩, ⟨(some 26), .mov (.t 5), none⟩, ⟨(some 27), .lenSl (.t 26), none⟩, ⟨(some 28), .arith .gtr (.t 25) (.t 27), none⟩, ⟨(some 24), .mov (.t 28), none⟩])
 (.cond (.t 24)
 (.seq (.region [⟨(some 4), .mov (.c (.str [])), none⟩, ⟨(some 5), .mov (.c .nilSlice), none⟩, ⟨(some 6), .mov (.c (.int .i64 3)), none⟩])
 .ret)
 .skip)))))))
 (.seq (.draw [⟨(some 29), .mov (.t 5), none⟩, ⟨(some 30), .mov (.t 7), none⟩, ⟨(some 31), .slice 1 (.t 29) none (some (.t 30)) none, none⟩, ⟨(some 32), .conv .bytesStr (.t 31), none⟩, ⟨(some 33), .mov (.t 5), none⟩, ⟨(some 34), .mov (.t 7), none⟩, ⟨(some 35), .slice 1 (.t 33) (some (.t 34)) none none, none⟩, ⟨(some 36), .call (.c (.func 228 [] [])) [(.t 35)], none⟩, ⟨(some 4), .mov (.t 32), none⟩, ⟨(some 5), .mov (.t 36), none⟩, ⟨(some 6), .mov (.c (.int .i64 0)), none⟩] [(3, 7)])
 .ret)))))⟩
theorem c217 : compF Tryz.prog Tryz.f217 = some e217 := by kernel_rfl
def e218 : EFunc := ⟨15, [(.tmp 2), (.tmp 3), (.tmp 4)], (.seq (.region [⟨(some 2), .mov (.c (.int .i64 0)), none⟩, ⟨(some 3), .mov (.c .nilSlice), none⟩, ⟨(some 4), .mov (.c (.int .i64 0)), none⟩])
 (.seq (.region [⟨(some 6), .mov (.t 0), none⟩, ⟨(some 7), .call (.c (.func 227 [] [])) [(.t 6)], none⟩, ⟨(some 5), .mov (.t 7), none⟩, ⟨(some 8), .extract (.t 5) 0, none⟩, ⟨(some 9), .extract (.t 5) 1, none⟩, ⟨(some 10), .extract (.t 5) 2, none⟩, ⟨(some 2), .mov (.t 8), none⟩, ⟨(some 3), .mov (.t 9), none⟩, ⟨(some 4), .mov (.t 10), none⟩])
 (.seq (.region [⟨(some 11), .mov (.t 2), none⟩, ⟨(some 12), .mov (.t 3), none⟩, ⟨(some 13), .call (.c (.func 228 [] [])) [(.t 12)], none⟩, ⟨(some 14), .mov (.t 4), none⟩, ⟨(some 2), .mov (.t 11), none⟩, ⟨(some 3), .mov (.t 13), none⟩, ⟨(some 4), .mov (.t 14), none⟩])
 .ret)))⟩
theorem c218 : compF Tryz.prog Tryz.f218 = some e218 := by kernel_rfl
def e219 : EFunc := ⟨20, [(.tmp 2), (.tmp 3)], (.seq (.region [⟨(some 1), .box 2 (.t 0), none⟩, ⟨(some 2), .mov (.c (.str [])), none⟩, ⟨(some 3), .mov (.c (.int .i64 0)), none⟩])
 (.seq (.seq (.region [⟨(some 5), .load 2 true (.t 1), none⟩, ⟨(some 6), .call (.c (.func 216 [] [])) [(.t 5)], none⟩, ⟨(some 7), .unop .not (.t 6), none⟩])
 (.cond (.t 7)
 (.seq (.region [⟨(some 2), .mov (.c (.str [])), none⟩, ⟨(some 3), .mov (.c (.int .i64 2)), none⟩])
 .ret)
 .skip))
 (.seq (.region [⟨(some 4), .alloc 9 [(.int .u8 0), (.int .u8 0), (.int .u8 0), (.int .u8 0), (.int .u8 0), (.int .u8 0), (.int .u8 0), (.int .u8 0), (.int .u8 0)], none⟩])
 (.seq (.draw [⟨(some 8), .sliceArr 9 1 (.t 4) none (some (.c (.int .i64 6))) none, none⟩, ⟨(some 9), .fieldAddr 0 (.t 1), none⟩, ⟨(some 10), .load 1 false (.t 9), none⟩, ⟨(some 11), .arith .sub (.c (.int .i64 1099511627776)) (.t 10), none⟩, ⟨(some 12), .call (.c (.func 229 [] [])) [(.t 8), (.t 11)], none⟩] [])
 (.seq (.draw [⟨(some 13), .sliceArr 9 1 (.t 4) (some (.c (.int .i64 6))) none none, none⟩, ⟨(some 14), .fieldAddr 1 (.t 1), none⟩, ⟨(some 15), .load 1 false (.t 14), none⟩, ⟨(some 16), .arith .sub (.c (.int .i64 1048575)) (.t 15), none⟩, ⟨(some 17), .call (.c (.func 229 [] [])) [(.t 13), (.t 16)], none⟩] [])
 (.seq (.region [⟨(some 18), .sliceArr 9 1 (.t 4) none none none, none⟩, ⟨(some 19), .conv .bytesStr (.t 18), none⟩, ⟨(some 2), .mov (.t 19), none⟩, ⟨(some 3), .mov (.c (.int .i64 0)), none⟩])
 .ret))))))⟩
theorem c219 : compF Tryz.prog Tryz.f219 = some e219 := by kernel_rfl
def e220 : EFunc := ⟨19, [(.tmp 4)], (.seq (.region [⟨(some 4), .mov (.c (.int .i64 0)), none⟩])
 (.seq (.seq (.region [⟨(some 6), .mov (.t 0), none⟩, ⟨(some 7), .lenSl (.t 6), none⟩, ⟨(some 8), .mov (.c (.int .i64 0)), none⟩])
 (.block 0 (.loop (.seq (.region [⟨(some 9), .arith .lss (.t 8) (.t 7), none⟩])
 (.seq (.cond (.t 9)
 .skip
 (.exit 0))
 (.seq (.block 1 (.seq (.region [⟨(some 10), .mov (.t 8), none⟩, ⟨(some 5), .mov (.t 10), none⟩])
 (.seq (.region [⟨(some 11), .mov (.t 1), none⟩, ⟨(some 12), .mov (.t 0), none⟩, ⟨(some 13), .mov (.t 5), none⟩, ⟨(some 14), .idxAddr 1 (.t 12) (.t 13), none⟩, ⟨(some 15), .load 1 false (.t 14), none⟩, ⟨(some 16), .arith .eql (.t 11) (.t 15), none⟩])
 (.cond (.t 16)
 (.seq (.region [⟨(some 17), .mov (.t 5), none⟩, ⟨(some 4), .mov (.t 17), none⟩])
 .ret)
 .skip))))
 (.region [⟨(some 18), .arith .add (.t 8) (.c (.int .i64 1)), none⟩, ⟨(some 8), .mov (.t 18), none⟩])))))))
 (.seq (.region [⟨(some 4), .mov (.c (.int .i64 (-1))), none⟩])
 .ret)))⟩
theorem c220 : compF Tryz.prog Tryz.f220 = some e220 := by kernel_rfl
def e223 : EFunc := ⟨11, [(.tmp 6)], (.seq (.region [⟨(some 6), .mov (.c (.str [])), none⟩])
 (.seq (.region [⟨(some 7), .mov (.t 0), none⟩, ⟨(some 8), .mov (.t 1), none⟩, ⟨(some 9), .mov (.t 2), none⟩, ⟨(some 10), .call (.c (.func 241 [] [])) [(.t 7), (.t 8), (.t 9), (.c (.int .i64 (-1)))], none⟩, ⟨(some 6), .mov (.t 10), none⟩])
 .ret))⟩
theorem c223 : compF Tryz.prog Tryz.f223 = some e223 := by kernel_rfl
def e224 : EFunc := ⟨28, [(.tmp 4), (.tmp 5)], (.seq (.region [⟨(some 4), .mov (.c .nilSlice), none⟩, ⟨(some 5), .mov (.c (.int .i64 0)), none⟩])
 (.seq (.block 0 (.seq (.region [⟨(some 9), .mov (.t 1), none⟩, ⟨(some 10), .arith .lss (.t 9) (.c (.int .i64 0)), none⟩, ⟨(some 8), .mov (.t 10), none⟩])
 (.cond (.t 8)
 (.seq (.region [⟨(some 4), .mov (.c .nilSlice), none⟩, ⟨(some 5), .mov (.c (.int .i64 2)), none⟩])
 .ret)
 (.seq (.region [⟨(some 12), .mov (.t 0), none⟩, ⟨(some 13), .lenStr (.t 12), none⟩, ⟨(some 14), .mov (.t 1), none⟩, ⟨(some 15), .arith .gtr (.t 13) (.t 14), none⟩, ⟨(some 11), .mov (.t 15), none⟩])
 (.cond (.t 11)
 (.seq (.region [⟨(some 4), .mov (.c .nilSlice), none⟩, ⟨(some 5), .mov (.c (.int .i64 5)), none⟩])
 .ret)
 .skip)))))
 (.seq (.region [⟨(some 17), .mov (.t 0), none⟩, ⟨(some 18), .lenStr (.t 17), none⟩, ⟨(some 19), .call (.c (.func 213 [] [])) [(.t 18)], none⟩, ⟨(some 16), .mov (.t 19), none⟩, ⟨(some 20), .extract (.t 16) 0, none⟩, ⟨(some 21), .extract (.t 16) 1, none⟩, ⟨(some 6), .mov (.t 20), none⟩, ⟨(some 7), .mov (.t 21), none⟩])
 (.seq (.seq (.region [⟨(some 22), .mov (.t 7), none⟩, ⟨(some 23), .arith .neq (.t 22) (.c (.int .i64 0)), none⟩])
 (.cond (.t 23)
 (.seq (.region [⟨(some 24), .mov (.t 7), none⟩, ⟨(some 4), .mov (.c .nilSlice), none⟩, ⟨(some 5), .mov (.t 24), none⟩])
 .ret)
 .skip))
 (.seq (.region [⟨(some 25), .mov (.t 6), none⟩, ⟨(some 26), .mov (.t 0), none⟩, ⟨(some 27), .append 1 1 (.t 25) (.t 26), none⟩, ⟨(some 4), .mov (.t 27), none⟩, ⟨(some 5), .mov (.c (.int .i64 0)), none⟩])
 .ret)))))⟩
theorem c224 : compF Tryz.prog Tryz.f224 = some e224 := by kernel_rfl
def e225 : EFunc := ⟨6, [(.tmp 2)], (.seq (.region [⟨(some 1), .box 2 (.t 0), none⟩, ⟨(some 2), .mov (.c (.bool false)), none⟩])
 (.seq (.region [⟨(some 3), .load 2 true (.t 1), none⟩, ⟨(some 4), .call (.c (.func 53 [] [])) [(.t 3)], none⟩, ⟨(some 5), .arith .neq (.t 4) (.c (.int .i64 0)), none⟩, ⟨(some 2), .mov (.t 5), none⟩])
 .ret))⟩
theorem c225 : compF Tryz.prog Tryz.f225 = some e225 := by kernel_rfl
def e226 : EFunc := ⟨28, [], (.seq (.region [⟨(some 4), .mov (.t 0), none⟩, ⟨(some 5), .lenSl (.t 4), none⟩, ⟨(some 6), .arith .sub (.t 5) (.c (.int .i64 1)), none⟩, ⟨(some 2), .mov (.c (.int .i64 0)), none⟩, ⟨(some 3), .mov (.t 6), none⟩])
 (.block 0 (.loop (.seq (.seq (.region [⟨(some 7), .mov (.t 2), none⟩, ⟨(some 8), .mov (.t 3), none⟩, ⟨(some 9), .arith .lss (.t 7) (.t 8), none⟩])
 (.cond (.t 9)
 .skip
 (.exit 0)))
 (.seq (.block 1 (.draw [⟨(some 14), .mov (.t 0), none⟩, ⟨(some 15), .mov (.t 2), none⟩, ⟨(some 16), .mov (.t 0), none⟩, ⟨(some 17), .mov (.t 3), none⟩, ⟨(some 18), .mov (.t 0), none⟩, ⟨(some 19), .mov (.t 3), none⟩, ⟨(some 20), .idxAddr 1 (.t 18) (.t 19), none⟩, ⟨(some 21), .load 1 false (.t 20), none⟩, ⟨(some 22), .mov (.t 0), none⟩, ⟨(some 23), .mov (.t 2), none⟩, ⟨(some 24), .idxAddr 1 (.t 22) (.t 23), none⟩, ⟨(some 25), .load 1 false (.t 24), none⟩, ⟨(some 26), .idxAddr 1 (.t 14) (.t 15), none⟩, ⟨none, .store 1 (.t 26) (.t 21), none⟩, ⟨(some 27), .idxAddr 1 (.t 16) (.t 17), none⟩, ⟨none, .store 1 (.t 27) (.t 25), none⟩] []))
 (.region [⟨(some 10), .mov (.t 2), none⟩, ⟨(some 11), .arith .add (.t 10) (.c (.int .i64 1)), none⟩, ⟨(some 12), .mov (.t 3), none⟩, ⟨(some 13), .arith .sub (.t 12) (.c (.int .i64 1)), none⟩, ⟨(some 2), .mov (.t 11), none⟩, ⟨(some 3), .mov (.t 13), none⟩]))))))⟩
theorem c226 : compF Tryz.prog Tryz.f226 = some e226 := by kernel_rfl
def e227 : EFunc := ⟨65, [(.tmp 2), (.tmp 3), (.tmp 4)], (.seq (.region [⟨(some 2), .mov (.c (.int .i64 0)), none⟩, ⟨(some 3), .mov (.c .nilSlice), none⟩, ⟨(some 4), .mov (.c (.int .i64 0)), none⟩])
 (.seq (.block 0 (.seq (.region [⟨(some 10), .mov (.t 0), none⟩, ⟨(some 11), .lenSl (.t 10), none⟩, ⟨(some 12), .arith .eql (.t 11) (.c (.int .i64 0)), none⟩, ⟨(some 9), .mov (.t 12), none⟩])
 (.cond (.t 9)
 (.seq (.region [⟨(some 2), .mov (.c (.int .i64 0)), none⟩, ⟨(some 3), .mov (.c .nilSlice), none⟩, ⟨(some 4), .mov (.c (.int .i64 3)), none⟩])
 .ret)
 (.seq (.region [⟨(some 14), .mov (.t 0), none⟩, ⟨(some 15), .idxAddr 1 (.t 14) (.c (.int .i64 0)), none⟩, ⟨(some 16), .load 1 false (.t 15), none⟩, ⟨(some 17), .arith .gtr (.t 16) (.c (.int .u8 7)), none⟩, ⟨(some 13), .mov (.t 17), none⟩])
 (.cond (.t 13)
 (.seq (.region [⟨(some 2), .mov (.c (.int .i64 0)), none⟩, ⟨(some 3), .mov (.c .nilSlice), none⟩, ⟨(some 4), .mov (.c (.int .i64 4)), none⟩])
 .ret)
 (.seq (.region [⟨(some 19), .mov (.t 0), none⟩, ⟨(some 20), .lenSl (.t 19), none⟩, ⟨(some 21), .arith .sub (.t 20) (.c (.int .i64 1)), none⟩, ⟨(some 22), .mov (.t 0), none⟩, ⟨(some 23), .idxAddr 1 (.t 22) (.c (.int .i64 0)), none⟩, ⟨(some 24), .load 1 false (.t 23), none⟩, ⟨(some 25), .conv (.int .i64) (.t 24), none⟩, ⟨(some 26), .arith .lss (.t 21) (.t 25), none⟩, ⟨(some 18), .mov (.t 26), none⟩])
 (.cond (.t 18)
 (.seq (.region [⟨(some 2), .mov (.c (.int .i64 0)), none⟩, ⟨(some 3), .mov (.c .nilSlice), none⟩, ⟨(some 4), .mov (.c (.int .i64 3)), none⟩])
 .ret)
 .skip)))))))
 (.seq (.region [⟨(some 27), .mov (.t 0), none⟩, ⟨(some 28), .idxAddr 1 (.t 27) (.c (.int .i64 0)), none⟩, ⟨(some 29), .load 1 false (.t 28), none⟩, ⟨(some 30), .conv (.int .i64) (.t 29), none⟩, ⟨(some 31), .arith .add (.c (.int .i64 1)) (.t 30), none⟩, ⟨(some 5), .mov (.t 31), none⟩])
 (.seq (.region [⟨(some 32), .mov (.t 0), none⟩, ⟨(some 33), .mov (.t 5), none⟩, ⟨(some 34), .mov (.t 5), none⟩, ⟨(some 35), .slice 1 (.t 32) (some (.c (.int .i64 1))) (some (.t 33)) (some (.t 34)), none⟩, ⟨(some 6), .mov (.t 35), none⟩])
 (.seq (.seq (.region [⟨(some 36), .mov (.t 6), none⟩, ⟨(some 37), .lenSl (.t 36), none⟩, ⟨(some 38), .mov (.c (.int .i64 0)), none⟩])
 (.block 1 (.loop (.seq (.region [⟨(some 39), .arith .lss (.t 38) (.t 37), none⟩])
 (.seq (.cond (.t 39)
 .skip
 (.exit 1))
 (.seq (.block 2 (.seq (.region [⟨(some 40), .idxAddr 1 (.t 36) (.t 38), none⟩, ⟨(some 41), .load 1 false (.t 40), none⟩, ⟨(some 8), .mov (.t 41), none⟩])
 (.region [⟨(some 42), .mov (.t 2), none⟩, ⟨(some 43), .arith .shl (.t 42) (.c (.int .u64 8)), none⟩, ⟨(some 44), .mov (.t 8), none⟩, ⟨(some 45), .conv (.int .i64) (.t 44), none⟩, ⟨(some 46), .arith .or (.t 43) (.t 45), none⟩, ⟨(some 2), .mov (.t 46), none⟩])))
 (.region [⟨(some 47), .arith .add (.t 38) (.c (.int .i64 1)), none⟩, ⟨(some 38), .mov (.t 47), none⟩])))))))
 (.seq (.seq (.region [⟨(some 48), .mov (.t 6), none⟩, ⟨(some 49), .lenSl (.t 48), none⟩, ⟨(some 50), .arith .gtr (.t 49) (.c (.int .i64 0)), none⟩, ⟨(some 51), .mov (.t 50), none⟩, ⟨(some 52), .mov (.t 6), (some (51, true))⟩, ⟨(some 53), .idxAddr 1 (.t 52) (.c (.int .i64 0)), (some (51, true))⟩, ⟨(some 54), .load 1 false (.t 53), (some (51, true))⟩, ⟨(some 55), .arith .eql (.t 54) (.c (.int .u8 0)), (some (51, true))⟩, ⟨(some 56), .pick (.t 51) (.t 55) (.c (.bool false)), none⟩, ⟨(some 57), .mov (.t 56), none⟩, ⟨(some 58), .mov (.t 2), (some (57, false))⟩, ⟨(some 59), .arith .gtr (.t 58) (.c (.int .i64 9007199254740991)), (some (57, false))⟩, ⟨(some 60), .pick (.t 57) (.c (.bool true)) (.t 59), none⟩])
 (.cond (.t 60)
 (.seq (.region [⟨(some 2), .mov (.c (.int .i64 0)), none⟩, ⟨(some 3), .mov (.c .nilSlice), none⟩, ⟨(some 4), .mov (.c (.int .i64 4)), none⟩])
 .ret)
 .skip))
 (.seq (.draw [⟨(some 61), .mov (.t 2), none⟩, ⟨(some 62), .mov (.t 0), none⟩, ⟨(some 63), .mov (.t 5), none⟩, ⟨(some 64), .slice 1 (.t 62) (some (.t 63)) none none, none⟩, ⟨(some 2), .mov (.t 61), none⟩, ⟨(some 3), .mov (.t 64), none⟩, ⟨(some 4), .mov (.c (.int .i64 0)), none⟩] [])
 .ret)))))))⟩
theorem c227 : compF Tryz.prog Tryz.f227 = some e227 := by kernel_rfl
def e228 : EFunc := ⟨8, [(.tmp 2)], (.seq (.region [⟨(some 2), .mov (.c .nilSlice), none⟩])
 (.seq (.seq (.region [⟨(some 3), .mov (.t 0), none⟩, ⟨(some 4), .eqv false .sl (.t 3) (.c .nilSlice), none⟩])
 (.cond (.t 4)
 (.seq (.region [⟨(some 2), .mov (.c .nilSlice), none⟩])
 .ret)
 .skip))
 (.seq (.region [⟨(some 5), .buildSlice 0 1 [(.int .u8 0)] [], none⟩, ⟨(some 6), .mov (.t 0), none⟩, ⟨(some 7), .append 1 1 (.t 5) (.t 6), none⟩, ⟨(some 2), .mov (.t 7), none⟩])
 .ret)))⟩
theorem c228 : compF Tryz.prog Tryz.f228 = some e228 := by kernel_rfl
def e229 : EFunc := ⟨23, [], (.seq (.region [⟨(some 5), .mov (.t 0), none⟩, ⟨(some 6), .lenSl (.t 5), none⟩, ⟨(some 7), .mov (.c (.int .i64 0)), none⟩])
 (.block 0 (.loop (.seq (.region [⟨(some 8), .arith .lss (.t 7) (.t 6), none⟩])
 (.seq (.cond (.t 8)
 .skip
 (.exit 0))
 (.seq (.block 1 (.seq (.region [⟨(some 9), .mov (.t 7), none⟩, ⟨(some 4), .mov (.t 9), none⟩])
 (.region [⟨(some 10), .mov (.t 0), none⟩, ⟨(some 11), .mov (.t 0), none⟩, ⟨(some 12), .lenSl (.t 11), none⟩, ⟨(some 13), .arith .sub (.t 12) (.c (.int .i64 1)), none⟩, ⟨(some 14), .mov (.t 4), none⟩, ⟨(some 15), .arith .sub (.t 13) (.t 14), none⟩, ⟨(some 16), .mov (.t 1), none⟩, ⟨(some 17), .mov (.t 4), none⟩, ⟨(some 18), .arith .mul (.t 17) (.c (.int .i64 8)), none⟩, ⟨(some 19), .arith .shr (.t 16) (.t 18), none⟩, ⟨(some 20), .conv (.int .u8) (.t 19), none⟩, ⟨(some 21), .idxAddr 1 (.t 10) (.t 15), none⟩, ⟨none, .store 1 (.t 21) (.t 20), none⟩])))
 (.region [⟨(some 22), .arith .add (.t 7) (.c (.int .i64 1)), none⟩, ⟨(some 7), .mov (.t 22), none⟩])))))))⟩
theorem c229 : compF Tryz.prog Tryz.f229 = some e229 := by kernel_rfl
def e241 : EFunc := ⟨104, [(.tmp 8)], (.seq (.region [⟨(some 8), .mov (.c (.str [])), none⟩])
 (.seq (.seq (.region [⟨(some 16), .mov (.t 1), none⟩, ⟨(some 17), .mov (.t 2), none⟩, ⟨(some 18), .arith .eql (.t 16) (.t 17), none⟩, ⟨(some 19), .mov (.t 18), none⟩, ⟨(some 20), .mov (.t 3), (some (19, false))⟩, ⟨(some 21), .arith .eql (.t 20) (.c (.int .i64 0)), (some (19, false))⟩, ⟨(some 22), .pick (.t 19) (.c (.bool true)) (.t 21), none⟩])
 (.cond (.t 22)
 (.seq (.region [⟨(some 23), .mov (.t 0), none⟩, ⟨(some 8), .mov (.t 23), none⟩])
 .ret)
 .skip))
 (.seq (.seq (.region [⟨(some 24), .mov (.t 0), none⟩, ⟨(some 25), .mov (.t 1), none⟩, ⟨(some 26), .call (.c (.func 248 [] [])) [(.t 24), (.t 25)], none⟩, ⟨(some 9), .mov (.t 26), none⟩])
 (.seq (.region [⟨(some 27), .mov (.t 9), none⟩, ⟨(some 28), .arith .eql (.t 27) (.c (.int .i64 0)), none⟩])
 (.cond (.t 28)
 (.seq (.region [⟨(some 29), .mov (.t 0), none⟩, ⟨(some 8), .mov (.t 29), none⟩])
 .ret)
 (.seq (.region [⟨(some 30), .mov (.t 3), none⟩, ⟨(some 31), .arith .lss (.t 30) (.c (.int .i64 0)), none⟩, ⟨(some 32), .mov (.t 31), none⟩, ⟨(some 33), .mov (.t 9), (some (32, false))⟩, ⟨(some 34), .mov (.t 3), (some (32, false))⟩, ⟨(some 35), .arith .lss (.t 33) (.t 34), (some (32, false))⟩, ⟨(some 36), .pick (.t 32) (.c (.bool true)) (.t 35), none⟩])
 (.cond (.t 36)
 (.region [⟨(some 37), .mov (.t 9), none⟩, ⟨(some 3), .mov (.t 37), none⟩])
 .skip)))))
 (.seq (.region [⟨(some 10), .alloc 2 [.nilPtr, .nilSlice], none⟩])
 (.seq (.region [⟨(some 38), .mov (.t 0), none⟩, ⟨(some 39), .lenStr (.t 38), none⟩, ⟨(some 40), .mov (.t 3), none⟩, ⟨(some 41), .mov (.t 2), none⟩, ⟨(some 42), .lenStr (.t 41), none⟩, ⟨(some 43), .mov (.t 1), none⟩, ⟨(some 44), .lenStr (.t 43), none⟩, ⟨(some 45), .arith .sub (.t 42) (.t 44), none⟩, ⟨(some 46), .arith .mul (.t 40) (.t 45), none⟩, ⟨(some 47), .arith .add (.t 39) (.t 46), none⟩, ⟨(some 48), .call (.c (.func 249 [] [])) [(.t 10), (.t 47)], none⟩])
 (.seq (.region [⟨(some 11), .mov (.c (.int .i64 0)), none⟩])
 (.seq (.seq (.region [⟨(some 49), .mov (.t 1), none⟩, ⟨(some 50), .lenStr (.t 49), none⟩, ⟨(some 51), .arith .gtr (.t 50) (.c (.int .i64 0)), none⟩])
 (.cond (.t 51)
 (.seq (.region [⟨(some 52), .mov (.t 3), none⟩, ⟨(some 53), .mov (.c (.int .i64 0)), none⟩])
 (.block 0 (.loop (.seq (.region [⟨(some 54), .arith .lss (.t 53) (.t 52), none⟩])
 (.seq (.cond (.t 54)
 .skip
 (.exit 0))
 (.seq (.block 1 (.seq (.region [⟨(some 55), .mov (.t 11), none⟩, ⟨(some 56), .mov (.t 0), none⟩, ⟨(some 57), .mov (.t 11), none⟩, ⟨(some 58), .sliceStr (.t 56) (some (.t 57)) none, none⟩, ⟨(some 59), .mov (.t 1), none⟩, ⟨(some 60), .call (.c (.func 250 [] [])) [(.t 58), (.t 59)], none⟩, ⟨(some 61), .arith .add (.t 55) (.t 60), none⟩, ⟨(some 12), .mov (.t 61), none⟩])
 (.seq (.region [⟨(some 62), .mov (.t 0), none⟩, ⟨(some 63), .mov (.t 11), none⟩, ⟨(some 64), .mov (.t 12), none⟩, ⟨(some 65), .sliceStr (.t 62) (some (.t 63)) (some (.t 64)), none⟩, ⟨(some 66), .call (.c (.func 251 [] [])) [(.t 10), (.t 65)], none⟩])
 (.seq (.region [⟨(some 67), .mov (.t 2), none⟩, ⟨(some 68), .call (.c (.func 251 [] [])) [(.t 10), (.t 67)], none⟩])
 (.region [⟨(some 69), .mov (.t 12), none⟩, ⟨(some 70), .mov (.t 1), none⟩, ⟨(some 71), .lenStr (.t 70), none⟩, ⟨(some 72), .arith .add (.t 69) (.t 71), none⟩, ⟨(some 11), .mov (.t 72), none⟩])))))
 (.region [⟨(some 73), .arith .add (.t 53) (.c (.int .i64 1)), none⟩, ⟨(some 53), .mov (.t 73), none⟩])))))))
 (.seq (.region [⟨(some 74), .mov (.t 2), none⟩, ⟨(some 75), .call (.c (.func 251 [] [])) [(.t 10), (.t 74)], none⟩])
 (.seq (.region [⟨(some 76), .mov (.t 3), none⟩, ⟨(some 77), .arith .sub (.t 76) (.c (.int .i64 1)), none⟩, ⟨(some 78), .mov (.c (.int .i64 0)), none⟩])
 (.block 2 (.loop (.seq (.region [⟨(some 79), .arith .lss (.t 78) (.t 77), none⟩])
 (.seq (.cond (.t 79)
 .skip
 (.exit 2))
 (.seq (.block 3 (.seq (.region [⟨(some 81), .mov (.t 0), none⟩, ⟨(some 82), .mov (.t 11), none⟩, ⟨(some 83), .sliceStr (.t 81) (some (.t 82)) none, none⟩, ⟨(some 84), .call (.c (.func 252 [] [])) [(.t 83)], none⟩, ⟨(some 80), .mov (.t 84), none⟩, ⟨(some 85), .extract (.t 80) 0, none⟩, ⟨(some 86), .extract (.t 80) 1, none⟩, ⟨(some 13), .mov (.t 85), none⟩, ⟨(some 14), .mov (.t 86), none⟩])
 (.seq (.region [⟨(some 87), .mov (.t 11), none⟩, ⟨(some 88), .mov (.t 14), none⟩, ⟨(some 89), .arith .add (.t 87) (.t 88), none⟩, ⟨(some 15), .mov (.t 89), none⟩])
 (.seq (.region [⟨(some 90), .mov (.t 0), none⟩, ⟨(some 91), .mov (.t 11), none⟩, ⟨(some 92), .mov (.t 15), none⟩, ⟨(some 93), .sliceStr (.t 90) (some (.t 91)) (some (.t 92)), none⟩, ⟨(some 94), .call (.c (.func 251 [] [])) [(.t 10), (.t 93)], none⟩])
 (.seq (.region [⟨(some 95), .mov (.t 2), none⟩, ⟨(some 96), .call (.c (.func 251 [] [])) [(.t 10), (.t 95)], none⟩])
 (.region [⟨(some 97), .mov (.t 15), none⟩, ⟨(some 11), .mov (.t 97), none⟩]))))))
 (.region [⟨(some 98), .arith .add (.t 78) (.c (.int .i64 1)), none⟩, ⟨(some 78), .mov (.t 98), none⟩]))))))))))
 (.seq (.region [⟨(some 99), .mov (.t 0), none⟩, ⟨(some 100), .mov (.t 11), none⟩, ⟨(some 101), .sliceStr (.t 99) (some (.t 100)) none, none⟩, ⟨(some 102), .call (.c (.func 251 [] [])) [(.t 10), (.t 101)], none⟩])
 (.seq (.region [⟨(some 103), .call (.c (.func 253 [] [])) [(.t 10)], none⟩, ⟨(some 8), .mov (.t 103), none⟩])
 .ret)))))))))⟩
theorem c241 : compF Tryz.prog Tryz.f241 = some e241 := by kernel_rfl
def e248 : EFunc := ⟨34, [(.tmp 4)], (.seq (.region [⟨(some 4), .mov (.c (.int .i64 0)), none⟩])
 (.seq (.seq (.region [⟨(some 7), .mov (.t 1), none⟩, ⟨(some 8), .lenStr (.t 7), none⟩, ⟨(some 9), .arith .eql (.t 8) (.c (.int .i64 0)), none⟩])
 (.cond (.t 9)
 (.seq (.region [⟨(some 10), .mov (.t 0), none⟩, ⟨(some 11), .call (.c (.func 255 [] [])) [(.t 10)], none⟩, ⟨(some 12), .arith .add (.t 11) (.c (.int .i64 1)), none⟩, ⟨(some 4), .mov (.t 12), none⟩])
 .ret)
 .skip))
 (.seq (.seq (.region [⟨(some 13), .mov (.t 1), none⟩, ⟨(some 14), .lenStr (.t 13), none⟩, ⟨(some 15), .arith .eql (.t 14) (.c (.int .i64 1)), none⟩])
 (.cond (.t 15)
 (.seq (.region [⟨(some 16), .mov (.t 0), none⟩, ⟨(some 17), .mov (.t 1), none⟩, ⟨(some 18), .idxStr (.t 17) (.c (.int .i64 0)), none⟩, ⟨(some 19), .call (.c (.func 256 [] [])) [(.t 16), (.t 18)], none⟩, ⟨(some 4), .mov (.t 19), none⟩])
 .ret)
 .skip))
 (.seq (.region [⟨(some 5), .mov (.c (.int .i64 0)), none⟩])
 (.block 0 (.loop (.block 1 (.seq (.region [⟨(some 20), .mov (.t 0), none⟩, ⟨(some 21), .mov (.t 1), none⟩, ⟨(some 22), .call (.c (.func 250 [] [])) [(.t 20), (.t 21)], none⟩, ⟨(some 6), .mov (.t 22), none⟩])
 (.seq (.seq (.region [⟨(some 23), .mov (.t 6), none⟩, ⟨(some 24), .arith .eql (.t 23) (.c (.int .i64 (-1))), none⟩])
 (.cond (.t 24)
 (.seq (.region [⟨(some 25), .mov (.t 5), none⟩, ⟨(some 4), .mov (.t 25), none⟩])
 .ret)
 .skip))
 (.seq (.region [⟨(some 26), .mov (.t 5), none⟩, ⟨(some 27), .arith .add (.t 26) (.c (.int .i64 1)), none⟩, ⟨(some 5), .mov (.t 27), none⟩])
 (.region [⟨(some 28), .mov (.t 0), none⟩, ⟨(some 29), .mov (.t 6), none⟩, ⟨(some 30), .mov (.t 1), none⟩, ⟨(some 31), .lenStr (.t 30), none⟩, ⟨(some 32), .arith .add (.t 29) (.t 31), none⟩, ⟨(some 33), .sliceStr (.t 28) (some (.t 32)) none, none⟩, ⟨(some 0), .mov (.t 33), none⟩])))))))))))⟩
theorem c248 : compF Tryz.prog Tryz.f248 = some e248 := by kernel_rfl
end Go.Proofs.YteikmdigmjlmdaaGreatDoor
