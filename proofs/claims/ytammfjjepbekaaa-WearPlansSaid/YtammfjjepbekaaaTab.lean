/- The own layer under the proofs of this seat, part Tab: what calls of the program come to on an abstract heap. No condition. -/
import Derived.Test.YtammfjjepbekaaaF
import Derived.Test.YtammfjjepbekaaaChecked
import Derived.KernelRfl
set_option linter.unusedSimpArgs false
set_option linter.unusedVariables false
namespace Go.Proofs.Ab
open Go
def codeAt : Code → List Nat → Code
  | .seq a b, i :: r => if i = 0 then codeAt a r else codeAt b r
  | .cond _ a b, i :: r => if i = 0 then codeAt a r else codeAt b r
  | .block _ a, _ :: r => codeAt a r
  | .loop a, _ :: r => codeAt a r
  | .scope a, _ :: r => codeAt a r
  | .rangeFunc _ _ a b, i :: r => if i = 0 then codeAt a r else codeAt b r
  | c, _ => c
noncomputable def bodyOf (f : Nat) : Code := ((Go.Proofs.Try.prog.funcs[f]?).bind (·.body)).getD .skip
theorem hmix : Go.Proofs.Try.prog.follows .mixedOrders = true := by kernel_rfl
noncomputable section
def mf6 : SF := ⟨56, [(.t 2)],
 (.seq (.reg [.op (some 1) none (.box (.t 0) 6), .op (some 2) none (.mov (.k (.bool false)))])
 (.seq (.seq (.reg [.op (some 7) none (.load (.t 1) (some 6)), .call (some 8) none (.k (.fn (.func 31) [] [])) [(.t 7), (.k (.int .i64 3)), (.k (.int .i64 7))], .op (some 9) none (.un .not (.t 8))])
 (.cond (.t 9) (.seq (.reg [.call (some 10) none (.k (.fn (.func 17) [] [])) [], .op (some 2) none (.mov (.t 10))])
 .ret)
 .skip))
 (.seq (.reg [.op (some 12) none (.load (.t 1) (some 6)), .call (some 13) none (.k (.fn (.func 32) [] [])) [(.t 12)], .op (some 11) none (.mov (.t 13)), .op (some 14) none (.ext (.t 11) 0), .op (some 15) none (.ext (.t 11) 1), .op (some 3) none (.mov (.t 14)), .op (some 4) none (.mov (.t 15))])
 (.seq (.seq (.reg [.op (some 16) none (.load (.t 1) (some 6)), .call (some 17) none (.k (.fn (.func 22) [] [])) [(.t 16)], .op (some 18) none (.un .not (.t 17))])
 (.cond (.t 18) (.seq (.reg [.op (some 19) none (.mov (.t 4)), .op (some 20) none (.bin .eql (.t 19) (.k (.int .i64 2))), .op (some 21) none (.mov (.t 20)), .op (some 22) (some (21, true)) (.mov (.t 3)), .op (some 23) (some (21, true)) (.len (.t 22)), .op (some 24) (some (21, true)) (.bin .eql (.t 23) (.k (.int .i64 0))), .op (some 25) none (.pick (.t 21) (.t 24) (.k (.bool false))), .op (some 26) none (.mov (.t 25)), .call (some 27) (some (26, true)) (.k (.fn (.func 17) [] [])) [], .op (some 28) none (.pick (.t 26) (.t 27) (.k (.bool false))), .op (some 2) none (.mov (.t 28))])
 .ret)
 .skip))
 (.seq (.reg [.op (some 30) none (.load (.t 1) (some 6)), .call (some 31) none (.k (.fn (.func 33) [] [])) [(.t 30)], .op (some 29) none (.mov (.t 31)), .op (some 32) none (.ext (.t 29) 0), .op (some 33) none (.ext (.t 29) 1), .op (some 5) none (.mov (.t 32)), .op (some 6) none (.mov (.t 33))])
 (.seq (.seq (.reg [.op (some 34) none (.mov (.t 6)), .op (some 35) none (.un .not (.t 34))])
 (.cond (.t 35) (.seq (.reg [.op (some 36) none (.mov (.t 4)), .op (some 37) none (.bin .eql (.t 36) (.k (.int .i64 5))), .op (some 38) none (.mov (.t 37)), .op (some 39) (some (38, true)) (.mov (.t 3)), .op (some 40) (some (38, true)) (.len (.t 39)), .op (some 41) (some (38, true)) (.bin .eql (.t 40) (.k (.int .i64 0))), .op (some 42) none (.pick (.t 38) (.t 41) (.k (.bool false))), .op (some 43) none (.mov (.t 42)), .call (some 44) (some (43, true)) (.k (.fn (.func 17) [] [])) [], .op (some 45) none (.pick (.t 43) (.t 44) (.k (.bool false))), .op (some 2) none (.mov (.t 45))])
 .ret)
 .skip))
 (.seq (.reg [.op (some 46) none (.mov (.t 4)), .op (some 47) none (.bin .eql (.t 46) (.k (.int .i64 0))), .op (some 48) none (.mov (.t 47)), .op (some 49) (some (48, true)) (.mov (.t 3)), .op (some 50) (some (48, true)) (.mov (.t 5)), .call (some 51) (some (48, true)) (.k (.fn (.func 34) [] [])) [(.t 49), (.t 50)], .op (some 52) none (.pick (.t 48) (.t 51) (.k (.bool false))), .op (some 53) none (.mov (.t 52)), .call (some 54) (some (53, true)) (.k (.fn (.func 17) [] [])) [], .op (some 55) none (.pick (.t 53) (.t 54) (.k (.bool false))), .op (some 2) none (.mov (.t 55))])
 .ret)))))))⟩
def mf13 : SF := ⟨26, [(.c 6 (some 6)), (.t 7)],
 (.seq (.reg [.op (some 3) none (.box (.t 0) 8), .op (some 4) none (.box (.t 1) 6), .op (some 5) none (.box (.t 2) 7), .op (some 6) none (.alloc [(.int .i64 0), (.int .i64 0), (.int .i64 0), (.int .i64 0), (.int .i64 0), (.int .i64 0)]), .op (some 7) none (.mov (.k (.int .i64 0)))])
 (.seq (.seq (.reg [.op (some 8) none (.load (.t 3) (some 8)), .call (some 9) none (.k (.fn (.func 54) [] [])) [(.t 8)], .op (some 10) none (.un .not (.t 9)), .op (some 11) none (.mov (.t 10)), .op (some 12) (some (11, false)) (.load (.t 4) (some 6)), .call (some 13) (some (11, false)) (.k (.fn (.func 55) [] [])) [(.t 12)], .op (some 14) (some (11, false)) (.un .not (.t 13)), .op (some 15) none (.pick (.t 11) (.k (.bool true)) (.t 14)), .op (some 16) none (.mov (.t 15)), .op (some 17) (some (16, false)) (.load (.t 5) (some 7)), .call (some 18) (some (16, false)) (.k (.fn (.func 56) [] [])) [(.t 17)], .op (some 19) (some (16, false)) (.un .not (.t 18)), .op (some 20) none (.pick (.t 16) (.k (.bool true)) (.t 19))])
 (.cond (.t 20) (.seq (.reg [.op (some 21) none (.build [(.int .i64 0), (.int .i64 0), (.int .i64 0), (.int .i64 0), (.int .i64 0), (.int .i64 0)] []), .op none none (.store (.t 6) (.t 21) 6), .op (some 7) none (.mov (.k (.int .i64 2)))])
 .ret)
 .skip))
 (.seq (.reg [.op (some 22) none (.load (.t 3) (some 8)), .op (some 23) none (.load (.t 4) (some 6)), .op (some 24) none (.load (.t 5) (some 7)), .call (some 25) none (.k (.fn (.func 57) [] [])) [(.t 22), (.t 23), (.t 24)], .op none none (.store (.t 6) (.t 25) 6), .op (some 7) none (.mov (.k (.int .i64 0)))])
 .ret)))⟩
def mf14 : SF := ⟨31, [(.t 2)],
 (.seq (.reg [.op (some 1) none (.box (.t 0) 8), .op (some 2) none (.mov (.k (.bool false)))])
 (.seq (.reg [.op (some 3) none (.addr (.t 1) 0), .op (some 4) none (.load (.t 3) none), .call (some 5) none (.k (.fn (.func 58) [] [])) [(.t 4), (.k (.int .i64 0)), (.k (.int .i64 10000000))], .op (some 6) none (.mov (.t 5)), .op (some 7) (some (6, true)) (.addr (.t 1) 1), .op (some 8) (some (6, true)) (.load (.t 7) none), .call (some 9) (some (6, true)) (.k (.fn (.func 58) [] [])) [(.t 8), (.k (.int .i64 0)), (.k (.int .i64 10000000))], .op (some 10) none (.pick (.t 6) (.t 9) (.k (.bool false))), .op (some 11) none (.mov (.t 10)), .op (some 12) (some (11, true)) (.addr (.t 1) 2), .op (some 13) (some (11, true)) (.load (.t 12) none), .call (some 14) (some (11, true)) (.k (.fn (.func 58) [] [])) [(.t 13), (.k (.int .i64 0)), (.k (.int .i64 10000000))], .op (some 15) none (.pick (.t 11) (.t 14) (.k (.bool false))), .op (some 16) none (.mov (.t 15)), .op (some 17) (some (16, true)) (.addr (.t 1) 3), .op (some 18) (some (16, true)) (.load (.t 17) (some 2)), .call (some 19) (some (16, true)) (.k (.fn (.func 59) [] [])) [(.t 18), (.k (.int .i64 10000))], .op (some 20) none (.pick (.t 16) (.t 19) (.k (.bool false))), .op (some 21) none (.mov (.t 20)), .op (some 22) (some (21, true)) (.addr (.t 1) 5), .op (some 23) (some (21, true)) (.load (.t 22) (some 2)), .call (some 24) (some (21, true)) (.k (.fn (.func 59) [] [])) [(.t 23), (.k (.int .i64 10000))], .op (some 25) none (.pick (.t 21) (.t 24) (.k (.bool false))), .op (some 26) none (.mov (.t 25)), .op (some 27) (some (26, true)) (.addr (.t 1) 7), .op (some 28) (some (26, true)) (.load (.t 27) none), .call (some 29) (some (26, true)) (.k (.fn (.func 58) [] [])) [(.t 28), (.k (.int .i64 0)), (.k (.int .i64 1000))], .op (some 30) none (.pick (.t 26) (.t 29) (.k (.bool false))), .op (some 2) none (.mov (.t 30))])
 .ret))⟩
def mf15 : SF := ⟨16, [(.t 2)],
 (.seq (.reg [.op (some 1) none (.box (.t 0) 6), .op (some 2) none (.mov (.k (.bool false)))])
 (.seq (.reg [.op (some 3) none (.addr (.t 1) 0), .op (some 4) none (.load (.t 3) (some 2)), .call (some 5) none (.k (.fn (.func 59) [] [])) [(.t 4), (.k (.int .i64 10000000))], .op (some 6) none (.mov (.t 5)), .op (some 7) (some (6, true)) (.addr (.t 1) 2), .op (some 8) (some (6, true)) (.load (.t 7) (some 2)), .call (some 9) (some (6, true)) (.k (.fn (.func 59) [] [])) [(.t 8), (.k (.int .i64 10000000))], .op (some 10) none (.pick (.t 6) (.t 9) (.k (.bool false))), .op (some 11) none (.mov (.t 10)), .op (some 12) (some (11, true)) (.addr (.t 1) 4), .op (some 13) (some (11, true)) (.load (.t 12) (some 2)), .call (some 14) (some (11, true)) (.k (.fn (.func 59) [] [])) [(.t 13), (.k (.int .i64 10000000))], .op (some 15) none (.pick (.t 11) (.t 14) (.k (.bool false))), .op (some 2) none (.mov (.t 15))])
 .ret))⟩
def mf16 : SF := ⟨19, [(.t 2)],
 (.seq (.reg [.op (some 1) none (.box (.t 0) 7), .op (some 2) none (.mov (.k (.bool false)))])
 (.seq (.reg [.op (some 3) none (.addr (.t 1) 0), .op (some 4) none (.load (.t 3) (some 2)), .call (some 5) none (.k (.fn (.func 59) [] [])) [(.t 4), (.k (.int .i64 1440))], .op (some 6) none (.mov (.t 5)), .op (some 7) (some (6, true)) (.addr (.t 1) 2), .op (some 8) (some (6, true)) (.load (.t 7) (some 2)), .call (some 9) (some (6, true)) (.k (.fn (.func 59) [] [])) [(.t 8), (.k (.int .i64 200))], .op (some 10) none (.pick (.t 6) (.t 9) (.k (.bool false))), .op (some 11) none (.mov (.t 10)), .op (some 12) (some (11, true)) (.addr (.t 1) 4), .op (some 13) (some (11, true)) (.load (.t 12) (some 2)), .op (some 14) (some (11, true)) (.addr (.t 1) 2), .op (some 15) (some (11, true)) (.addr (.t 14) 1), .op (some 16) (some (11, true)) (.load (.t 15) none), .call (some 17) (some (11, true)) (.k (.fn (.func 59) [] [])) [(.t 13), (.t 16)], .op (some 18) none (.pick (.t 11) (.t 17) (.k (.bool false))), .op (some 2) none (.mov (.t 18))])
 .ret))⟩
def mf17 : SF := ⟨90, [(.t 0)],
 (.seq (.reg [.op (some 0) none (.mov (.k (.bool false)))])
 (.seq (.reg [.call (some 13) none (.k (.fn (.func 60) [] [])) [], .op (some 14) none (.build [(.int .i64 0), (.int .i64 0), (.int .i64 0), (.int .i64 0), (.int .i64 0), (.int .i64 0)] []), .call (some 15) none (.k (.fn (.func 61) [] [])) [(.k (.bool true))], .call (some 16) none (.k (.fn (.func 13) [] [])) [(.t 13), (.t 14), (.t 15)], .op (some 12) none (.mov (.t 16)), .op (some 17) none (.ext (.t 12) 0), .op (some 18) none (.ext (.t 12) 1), .op (some 1) none (.alloc [(.int .i64 0), (.int .i64 0), (.int .i64 0), (.int .i64 0), (.int .i64 0), (.int .i64 0)]), .op none none (.store (.t 1) (.t 17) 6), .op (some 2) none (.mov (.t 18))])
 (.seq (.reg [.call (some 20) none (.k (.fn (.func 62) [] [])) [], .call (some 21) none (.k (.fn (.func 43) [] [])) [(.t 20), (.k (.int .i64 0)), (.k (.int .i64 (-1)))], .op (some 19) none (.mov (.t 21)), .op (some 22) none (.ext (.t 19) 0), .op (some 23) none (.ext (.t 19) 1), .op (some 24) none (.ext (.t 19) 2), .op (some 3) none (.mov (.t 22)), .op (some 4) none (.mov (.t 23)), .op (some 5) none (.mov (.t 24))])
 (.seq (.reg [.call (some 26) none (.k (.fn (.func 62) [] [])) [], .call (some 27) none (.k (.fn (.func 32) [] [])) [(.t 26)], .op (some 25) none (.mov (.t 27)), .op (some 28) none (.ext (.t 25) 0), .op (some 29) none (.ext (.t 25) 1), .op (some 6) none (.mov (.t 28)), .op (some 7) none (.mov (.t 29))])
 (.seq (.reg [.call (some 31) none (.k (.fn (.func 62) [] [])) [], .op (some 32) none (.bslice 1 [(.int .i64 0)] 1 [(0, 1, (.k (.int .i64 0)))]), .op (some 33) none (.bslice 1 [.nilS] 6 [(0, 1, (.k .nilS)), (1, 1, (.t 32)), (2, 1, (.k .nilS)), (3, 1, (.k .nilS)), (4, 1, (.k .nilS)), (5, 1, (.k .nilS))]), .call (some 34) none (.k (.fn (.func 21) [] [])) [(.t 31), (.t 33)], .op (some 30) none (.mov (.t 34)), .op (some 35) none (.ext (.t 30) 0), .op (some 36) none (.ext (.t 30) 1), .op (some 8) none (.alloc [(.int .i64 0), (.int .i64 0), (.int .i64 0)]), .op none none (.store (.t 8) (.t 35) 3), .op (some 9) none (.mov (.t 36))])
 (.seq (.reg [.call (some 38) none (.k (.fn (.func 62) [] [])) [], .call (some 39) none (.k (.fn (.func 36) [] [])) [(.t 38)], .op (some 37) none (.mov (.t 39)), .op (some 40) none (.ext (.t 37) 0), .op (some 41) none (.ext (.t 37) 1), .op (some 10) none (.mov (.t 40)), .op (some 11) none (.mov (.t 41))])
 (.seq (.seq (.reg [.op (some 42) none (.mov (.t 2)), .op (some 43) none (.bin .neq (.t 42) (.k (.int .i64 0))), .op (some 44) none (.mov (.t 43)), .op (some 45) (some (44, false)) (.mov (.t 5)), .op (some 46) (some (44, false)) (.bin .neq (.t 45) (.k (.int .i64 0))), .op (some 47) none (.pick (.t 44) (.k (.bool true)) (.t 46)), .op (some 48) none (.mov (.t 47)), .op (some 49) (some (48, false)) (.mov (.t 7)), .op (some 50) (some (48, false)) (.bin .neq (.t 49) (.k (.int .i64 0))), .op (some 51) none (.pick (.t 48) (.k (.bool true)) (.t 50)), .op (some 52) none (.mov (.t 51)), .op (some 53) (some (52, false)) (.mov (.t 9)), .op (some 54) (some (52, false)) (.bin .neq (.t 53) (.k (.int .i64 0))), .op (some 55) none (.pick (.t 52) (.k (.bool true)) (.t 54)), .op (some 56) none (.mov (.t 55)), .op (some 57) (some (56, false)) (.mov (.t 11)), .op (some 58) (some (56, false)) (.bin .neq (.t 57) (.k (.int .i64 0))), .op (some 59) none (.pick (.t 56) (.k (.bool true)) (.t 58))])
 (.cond (.t 59) (.seq (.reg [.op (some 0) none (.mov (.k (.bool false)))])
 .ret)
 .skip))
 (.seq (.reg [.op (some 60) none (.addr (.t 1) 4), .op (some 61) none (.load (.t 60) (some 2)), .op (some 62) none (.build [(.int .i64 0), (.int .i64 0)] [(0, 1, (.k (.int .i64 4))), (1, 1, (.k (.int .i64 12)))]), .op (some 63) none (.eqag [true, true] false (.t 61) (.t 62)), .op (some 64) none (.mov (.t 63)), .op (some 65) (some (64, true)) (.mov (.t 3)), .op (some 66) (some (64, true)) (.bin .eql (.t 65) (.k (.int .i64 1))), .op (some 67) none (.pick (.t 64) (.t 66) (.k (.bool false))), .op (some 68) none (.mov (.t 67)), .op (some 69) (some (68, true)) (.mov (.t 4)), .op (some 70) (some (68, true)) (.bin .eql (.t 69) (.k (.int .i64 2))), .op (some 71) none (.pick (.t 68) (.t 70) (.k (.bool false))), .op (some 72) none (.mov (.t 71)), .op (some 73) (some (72, true)) (.mov (.t 6)), .op (some 74) (some (72, true)) (.bslice 1 [(.int .i64 0)] 1 [(0, 1, (.k (.int .i64 0)))]), .op (some 75) (some (72, true)) (.bslice 1 [(.int .i64 0)] 1 [(0, 1, (.k (.int .i64 1)))]), .op (some 76) (some (72, true)) (.bslice 1 [.nilS] 6 [(0, 1, (.k .nilS)), (1, 1, (.t 74)), (2, 1, (.k .nilS)), (3, 1, (.t 75)), (4, 1, (.k .nilS)), (5, 1, (.k .nilS))]), .call (some 77) (some (72, true)) (.k (.fn (.func 34) [] [])) [(.t 73), (.t 76)], .op (some 78) none (.pick (.t 72) (.t 77) (.k (.bool false))), .op (some 79) none (.mov (.t 78)), .op (some 80) (some (79, true)) (.load (.t 8) (some 3)), .op (some 81) (some (79, true)) (.build [(.int .i64 0), (.int .i64 0), (.int .i64 0)] [(0, 1, (.k (.int .i64 3))), (1, 1, (.k (.int .i64 5)))]), .op (some 82) (some (79, true)) (.eqag [true, true, true] false (.t 80) (.t 81)), .op (some 83) none (.pick (.t 79) (.t 82) (.k (.bool false))), .op (some 84) none (.mov (.t 83)), .op (some 85) (some (84, true)) (.mov (.t 10)), .op (some 86) (some (84, true)) (.build [(.int .i64 0), (.int .i64 0)] [(0, 1, (.k (.int .i64 0))), (1, 1, (.k (.int .i64 1)))]), .op (some 87) (some (84, true)) (.bslice 2 [(.int .i64 0), (.int .i64 0)] 1 [(0, 2, (.t 86))]), .call (some 88) (some (84, true)) (.k (.fn (.func 40) [] [])) [(.t 85), (.t 87)], .op (some 89) none (.pick (.t 84) (.t 88) (.k (.bool false))), .op (some 0) none (.mov (.t 89))])
 .ret))))))))⟩
def mf18 : SF := ⟨62, [(.c 6 (some 6))],
 (.seq (.reg [.op (some 3) none (.box (.t 0) 8), .op (some 4) none (.box (.t 1) 6), .op (some 5) none (.box (.t 2) 7), .op (some 6) none (.alloc [(.int .i64 0), (.int .i64 0), (.int .i64 0), (.int .i64 0), (.int .i64 0), (.int .i64 0)])])
 (.seq (.reg [.op (some 8) none (.addr (.t 3) 3), .op (some 9) none (.addr (.t 8) 0), .op (some 10) none (.load (.t 9) none), .op (some 11) none (.addr (.t 5) 4), .op (some 12) none (.addr (.t 11) 0), .op (some 13) none (.load (.t 12) none), .op (some 14) none (.bin .mul (.t 10) (.t 13)), .op (some 15) none (.addr (.t 3) 5), .op (some 16) none (.addr (.t 15) 0), .op (some 17) none (.load (.t 16) none), .op (some 18) none (.bin .add (.t 14) (.t 17)), .op (some 19) none (.addr (.t 3) 3), .op (some 20) none (.addr (.t 19) 1), .op (some 21) none (.load (.t 20) none), .op (some 22) none (.addr (.t 5) 4), .op (some 23) none (.addr (.t 22) 1), .op (some 24) none (.load (.t 23) none), .op (some 25) none (.bin .mul (.t 21) (.t 24)), .op (some 26) none (.addr (.t 3) 5), .op (some 27) none (.addr (.t 26) 1), .op (some 28) none (.load (.t 27) none), .op (some 29) none (.bin .add (.t 25) (.t 28)), .op (some 30) none (.build [(.int .i64 0), (.int .i64 0)] [(0, 1, (.t 18)), (1, 1, (.t 29))]), .op (some 7) none (.alloc [(.int .i64 0), (.int .i64 0)]), .op none none (.store (.t 7) (.t 30) 2)])
 (.seq (.seq (.reg [.op (some 31) none (.addr (.t 5) 6), .op (some 32) none (.load (.t 31) none)])
 (.cond (.t 32) (.reg [.op (some 33) none (.addr (.t 7) 0), .op (some 34) none (.load (.t 33) none), .op (some 35) none (.addr (.t 3) 7), .op (some 36) none (.load (.t 35) none), .op (some 37) none (.bin .mul (.t 34) (.t 36)), .op (some 38) none (.bin .quo (.t 37) (.k (.int .i64 1000))), .op (some 39) none (.addr (.t 7) 1), .op (some 40) none (.load (.t 39) none), .op (some 41) none (.addr (.t 3) 7), .op (some 42) none (.load (.t 41) none), .op (some 43) none (.bin .mul (.t 40) (.t 42)), .op (some 44) none (.bin .add (.t 43) (.k (.int .i64 999))), .op (some 45) none (.bin .quo (.t 44) (.k (.int .i64 1000))), .op (some 46) none (.build [(.int .i64 0), (.int .i64 0)] [(0, 1, (.t 38)), (1, 1, (.t 45))]), .op none none (.store (.t 7) (.t 46) 2)])
 .skip))
 (.seq (.draw [false, false, false, false, false, false, false, false, false, false, false, false, false, true, true, true] [.op (some 47) none (.addr (.t 4) 0), .op (some 48) none (.load (.t 47) (some 2)), .op (some 49) none (.addr (.t 5) 0), .op (some 50) none (.load (.t 49) (some 2)), .call (some 51) none (.k (.fn (.func 63) [] [])) [(.t 48), (.t 50)], .op (some 52) none (.addr (.t 4) 2), .op (some 53) none (.load (.t 52) (some 2)), .op (some 54) none (.addr (.t 5) 2), .op (some 55) none (.load (.t 54) (some 2)), .call (some 56) none (.k (.fn (.func 63) [] [])) [(.t 53), (.t 55)], .op (some 57) none (.addr (.t 4) 4), .op (some 58) none (.load (.t 57) (some 2)), .op (some 59) none (.load (.t 7) (some 2)), .call (some 60) none (.k (.fn (.func 63) [] [])) [(.t 58), (.t 59)], .op (some 61) none (.build [(.int .i64 0), (.int .i64 0), (.int .i64 0), (.int .i64 0), (.int .i64 0), (.int .i64 0)] [(0, 2, (.t 51)), (2, 2, (.t 56)), (4, 2, (.t 60))]), .op none none (.store (.t 6) (.t 61) 6)] [[], [0], [], [2], [1, 0, 3, 2], [], [5], [], [7], [6, 5, 8, 7, 4, 1, 0, 3, 2], [], [10], [], [11, 10, 12, 9, 6, 5, 8, 7, 4, 1, 0, 3, 2], [4, 1, 0, 3, 2, 9, 6, 5, 8, 7, 13, 11, 10, 12], [14, 4, 1, 0, 3, 2, 9, 6, 5, 8, 7, 13, 11, 10, 12]])
 .ret))))⟩
def mf19 : SF := ⟨31, [(.t 2)],
 (.seq (.reg [.op (some 1) none (.box (.t 0) 6), .op (some 2) none (.mov (.k (.bool false)))])
 (.seq (.reg [.op (some 3) none (.addr (.t 1) 0), .op (some 4) none (.load (.t 3) none), .op (some 5) none (.len (.t 4)), .op (some 6) none (.bin .leq (.t 5) (.k (.int .i64 12))), .op (some 7) none (.mov (.t 6)), .op (some 8) (some (7, true)) (.addr (.t 1) 1), .op (some 9) (some (7, true)) (.load (.t 8) none), .op (some 10) (some (7, true)) (.len (.t 9)), .op (some 11) (some (7, true)) (.bin .leq (.t 10) (.k (.int .i64 8))), .op (some 12) none (.pick (.t 7) (.t 11) (.k (.bool false))), .op (some 13) none (.mov (.t 12)), .op (some 14) (some (13, true)) (.addr (.t 1) 2), .op (some 15) (some (13, true)) (.load (.t 14) none), .op (some 16) (some (13, true)) (.len (.t 15)), .op (some 17) (some (13, true)) (.bin .leq (.t 16) (.k (.int .i64 40))), .op (some 18) none (.pick (.t 13) (.t 17) (.k (.bool false))), .op (some 19) none (.mov (.t 18)), .op (some 20) (some (19, true)) (.addr (.t 1) 3), .op (some 21) (some (19, true)) (.load (.t 20) none), .op (some 22) (some (19, true)) (.len (.t 21)), .op (some 23) (some (19, true)) (.bin .leq (.t 22) (.k (.int .i64 40))), .op (some 24) none (.pick (.t 19) (.t 23) (.k (.bool false))), .op (some 25) none (.mov (.t 24)), .op (some 26) (some (25, true)) (.addr (.t 1) 5), .op (some 27) (some (25, true)) (.load (.t 26) none), .op (some 28) (some (25, true)) (.len (.t 27)), .op (some 29) (some (25, true)) (.bin .leq (.t 28) (.k (.int .i64 12))), .op (some 30) none (.pick (.t 25) (.t 29) (.k (.bool false))), .op (some 2) none (.mov (.t 30))])
 .ret))⟩
def L21_0 : SC := (.seq (.reg [.op (some 39) none (.bin .lss (.t 38) (.t 37))])
 (.seq (.cond (.t 39) .skip
 (.exit 2))
 (.seq (.blk 3 (.seq (.reg [.op (some 40) none (.mov (.t 38)), .op (some 41) none (.idxs 1 (.t 36) (.t 38)), .op (some 42) none (.load (.t 41) none), .op (some 8) none (.mov (.t 40)), .op (some 9) none (.mov (.t 42))])
 (.seq (.reg [.op (some 43) none (.mov (.t 9)), .op (some 44) none (.addr (.t 2) 1), .op (some 45) none (.load (.t 44) none), .op (some 46) none (.len (.t 45)), .op (some 47) none (.bin .sub (.t 46) (.k (.int .i64 1))), .call (some 48) none (.k (.fn (.func 65) [] [])) [(.t 43), (.k (.int .i64 0)), (.t 47)], .op (some 49) none (.un .not (.t 48)), .op (some 50) none (.mov (.t 49)), .op (some 51) (some (50, false)) (.mov (.t 8)), .op (some 52) (some (50, false)) (.bin .gtr (.t 51) (.k (.int .i64 0))), .op (some 53) (some (50, false)) (.mov (.t 52)), .op (some 54) (some (53, true)) (.mov (.t 9)), .op (some 55) (some (53, true)) (.mov (.t 7)), .op (some 56) (some (53, true)) (.mov (.t 8)), .op (some 57) (some (53, true)) (.bin .sub (.t 56) (.k (.int .i64 1))), .op (some 58) (some (53, true)) (.idxs 1 (.t 55) (.t 57)), .op (some 59) (some (53, true)) (.load (.t 58) none), .op (some 60) (some (53, true)) (.bin .leq (.t 54) (.t 59)), .op (some 61) (some (50, false)) (.pick (.t 53) (.t 60) (.k (.bool false))), .op (some 62) none (.pick (.t 50) (.k (.bool true)) (.t 61))])
 (.cond (.t 62) (.seq (.reg [.op (some 63) none (.build [(.int .i64 0), (.int .i64 0), (.int .i64 0)] []), .op none none (.store (.t 4) (.t 63) 3), .op (some 5) none (.mov (.k (.int .i64 2)))])
 .ret)
 .skip))))
 (.reg [.op (some 64) none (.bin .add (.t 38) (.k (.int .i64 1))), .op (some 38) none (.mov (.t 64))]))))
def L21_1 : SC := (.seq (.reg [.op (some 33) none (.bin .lss (.t 32) (.t 31))])
 (.seq (.cond (.t 33) .skip
 (.exit 0))
 (.seq (.blk 1 (.seq (.reg [.op (some 34) none (.idxs 1 (.t 30) (.t 32)), .op (some 35) none (.load (.t 34) none), .op (some 7) none (.mov (.t 35))])
 (.seq (.reg [.op (some 36) none (.mov (.t 7)), .op (some 37) none (.len (.t 36)), .op (some 38) none (.mov (.k (.int .i64 0)))])
 (.blk 2 (.loop [1, 2, 4, 7, 30, 31, 32, 36, 37, 38] L21_0)))))
 (.reg [.op (some 65) none (.bin .add (.t 32) (.k (.int .i64 1))), .op (some 32) none (.mov (.t 65))]))))
def L21_2 : SC := (.seq (.reg [.op (some 73) none (.bin .lss (.t 72) (.t 71))])
 (.seq (.cond (.t 73) .skip
 (.exit 4))
 (.seq (.blk 5 (.seq (.reg [.op (some 74) none (.mov (.t 72)), .op (some 75) none (.idxs 1 (.t 70) (.t 72)), .op (some 76) none (.load (.t 75) none), .op (some 13) none (.mov (.t 74)), .op (some 14) none (.mov (.t 76))])
 (.seq (.reg [.op (some 77) none (.mov (.t 10)), .op (some 78) none (.mov (.t 13)), .op (some 79) none (.load (.t 11) (some 5)), .op (some 80) none (.load (.t 12) (some 5)), .op (some 81) none (.mov (.t 14)), .call (some 82) none (.k (.fn (.func 67) [] [])) [(.t 77), (.t 78), (.t 79), (.t 80), (.t 81)], .op (some 15) none (.mov (.t 82))])
 (.seq (.seq (.reg [.op (some 84) none (.mov (.t 15)), .call (some 85) none (.k (.fn (.func 68) [] [])) [(.t 84)], .op (some 83) none (.mov (.t 85)), .op (some 86) none (.ext (.t 83) 0), .op (some 87) none (.ext (.t 83) 1), .op (some 16) none (.alloc [(.int .i64 0), (.int .i64 0), (.int .i64 0)]), .op none none (.store (.t 16) (.t 86) 3), .op (some 17) none (.mov (.t 87))])
 (.seq (.reg [.op (some 88) none (.mov (.t 17))])
 (.cond (.t 88) (.seq (.reg [.op (some 89) none (.load (.t 16) (some 3)), .op none none (.store (.t 4) (.t 89) 3), .op (some 5) none (.mov (.k (.int .i64 0)))])
 .ret)
 .skip)))
 (.reg [.op (some 91) none (.mov (.t 15)), .call (some 92) none (.k (.fn (.func 69) [] [])) [(.t 91)], .op (some 90) none (.mov (.t 92)), .op (some 93) none (.ext (.t 90) 0), .op (some 94) none (.ext (.t 90) 1), .op none none (.store (.t 11) (.t 93) 5), .op none none (.store (.t 12) (.t 94) 5)])))))
 (.reg [.op (some 95) none (.bin .add (.t 72) (.k (.int .i64 1))), .op (some 72) none (.mov (.t 95))]))))
def mf21 : SF := ⟨97, [(.c 4 (some 3)), (.t 5)],
 (.seq (.reg [.op (some 2) none (.box (.t 0) 6), .op (some 4) none (.alloc [(.int .i64 0), (.int .i64 0), (.int .i64 0)]), .op (some 5) none (.mov (.k (.int .i64 0)))])
 (.seq (.seq (.reg [.op (some 18) none (.load (.t 2) (some 6)), .call (some 19) none (.k (.fn (.func 64) [] [])) [(.t 18)], .op (some 20) none (.un .not (.t 19)), .op (some 21) none (.mov (.t 20)), .op (some 22) (some (21, false)) (.mov (.t 1)), .op (some 23) (some (21, false)) (.len (.t 22)), .op (some 24) (some (21, false)) (.addr (.t 2) 2), .op (some 25) (some (21, false)) (.load (.t 24) none), .op (some 26) (some (21, false)) (.len (.t 25)), .op (some 27) (some (21, false)) (.bin .neq (.t 23) (.t 26)), .op (some 28) none (.pick (.t 21) (.k (.bool true)) (.t 27))])
 (.cond (.t 28) (.seq (.reg [.op (some 29) none (.build [(.int .i64 0), (.int .i64 0), (.int .i64 0)] []), .op none none (.store (.t 4) (.t 29) 3), .op (some 5) none (.mov (.k (.int .i64 2)))])
 .ret)
 .skip))
 (.seq (.seq (.reg [.op (some 30) none (.mov (.t 1)), .op (some 31) none (.len (.t 30)), .op (some 32) none (.mov (.k (.int .i64 0)))])
 (.blk 0 (.loop [1, 2, 4, 30, 31, 32] L21_1)))
 (.seq (.reg [.op (some 66) none (.load (.t 2) (some 6)), .op (some 67) none (.build [.nilS, .nilS, .nilS, .nilS, (.int .i64 0), .nilS] [(0, 6, (.t 66))]), .op (some 68) none (.box (.t 67) 6), .op (some 10) none (.mov (.t 68))])
 (.seq (.reg [.call (some 69) none (.k (.fn (.func 66) [] [])) [], .op (some 11) none (.alloc [(.int .i64 0), (.int .i64 0), (.int .i64 0), (.int .i64 0), (.int .i64 0)]), .op none none (.store (.t 11) (.t 69) 5)])
 (.seq (.reg [.op (some 12) none (.alloc [(.int .i64 0), (.int .i64 0), (.int .i64 0), (.int .i64 0), (.int .i64 0)])])
 (.seq (.seq (.reg [.op (some 70) none (.mov (.t 1)), .op (some 71) none (.len (.t 70)), .op (some 72) none (.mov (.k (.int .i64 0)))])
 (.blk 4 (.loop [4, 10, 11, 12, 70, 71, 72] L21_2)))
 (.seq (.reg [.op (some 96) none (.build [(.int .i64 0), (.int .i64 0), (.int .i64 0)] [(1, 1, (.k (.int .i64 1)))]), .op none none (.store (.t 4) (.t 96) 3), .op (some 5) none (.mov (.k (.int .i64 0)))])
 .ret))))))))⟩
def L22_0 : SC := (.seq (.seq (.reg [.op (some 47) none (.mov (.t 3)), .op (some 48) none (.addr (.t 1) 0), .op (some 49) none (.load (.t 48) none), .op (some 50) none (.len (.t 49)), .op (some 51) none (.bin .lss (.t 47) (.t 50))])
 (.cond (.t 51) .skip
 (.exit 0)))
 (.seq (.blk 1 (.seq (.reg [.op (some 54) none (.addr (.t 1) 0), .op (some 55) none (.load (.t 54) none), .op (some 56) none (.mov (.t 3)), .op (some 57) none (.idxs 8 (.t 55) (.t 56)), .op (some 58) none (.load (.t 57) (some 8)), .call (some 59) none (.k (.fn (.func 14) [] [])) [(.t 58)], .op (some 60) none (.un .not (.t 59))])
 (.cond (.t 60) (.seq (.reg [.op (some 2) none (.mov (.k (.bool false)))])
 .ret)
 .skip)))
 (.reg [.op (some 52) none (.mov (.t 3)), .op (some 53) none (.bin .add (.t 52) (.k (.int .i64 1))), .op (some 3) none (.mov (.t 53))])))
def L22_1 : SC := (.seq (.seq (.reg [.op (some 61) none (.mov (.t 4)), .op (some 62) none (.addr (.t 1) 1), .op (some 63) none (.load (.t 62) none), .op (some 64) none (.len (.t 63)), .op (some 65) none (.bin .lss (.t 61) (.t 64))])
 (.cond (.t 65) .skip
 (.exit 2)))
 (.seq (.blk 3 (.seq (.draw [false, false, false, false, false, false, false, false, false, false, true, true, true, false, false, false, true, true, true, true, true, true] [.op (some 68) none (.addr (.t 1) 1), .op (some 69) none (.load (.t 68) none), .op (some 70) none (.mov (.t 4)), .op (some 71) none (.idxs 7 (.t 69) (.t 70)), .op (some 72) none (.addr (.t 71) 0), .op (some 73) none (.load (.t 72) none), .op (some 74) none (.addr (.t 1) 0), .op (some 75) none (.load (.t 74) none), .op (some 76) none (.len (.t 75)), .op (some 77) none (.bin .sub (.t 76) (.k (.int .i64 1))), .call (some 78) none (.k (.fn (.func 58) [] [])) [(.t 73), (.k (.int .i64 0)), (.t 77)], .op (some 79) none (.un .not (.t 78)), .op (some 80) none (.mov (.t 79)), .op (some 81) (some (80, false)) (.addr (.t 1) 1), .op (some 82) (some (80, false)) (.load (.t 81) none), .op (some 83) (some (80, false)) (.mov (.t 4)), .op (some 84) (some (80, false)) (.idxs 7 (.t 82) (.t 83)), .op (some 85) (some (80, false)) (.addr (.t 84) 1), .op (some 86) (some (80, false)) (.load (.t 85) (some 6)), .call (some 87) (some (80, false)) (.k (.fn (.func 15) [] [])) [(.t 86)], .op (some 88) (some (80, false)) (.un .not (.t 87)), .op (some 89) none (.pick (.t 80) (.k (.bool true)) (.t 88))] [[], [0], [], [1, 0, 2], [3, 1, 0, 2], [4, 3, 1, 0, 2], [], [6], [7, 6], [8, 7, 6], [5, 4, 3, 1, 0, 2, 9, 8, 7, 6], [10, 5, 4, 3, 1, 0, 2, 9, 8, 7, 6], [11, 10, 5, 4, 3, 1, 0, 2, 9, 8, 7, 6], [12, 11, 10, 5, 4, 3, 1, 0, 2, 9, 8, 7, 6], [13, 12, 11, 10, 5, 4, 3, 1, 0, 2, 9, 8, 7, 6], [12, 11, 10, 5, 4, 3, 1, 0, 2, 9, 8, 7, 6], [14, 13, 12, 11, 10, 5, 4, 3, 1, 0, 2, 9, 8, 7, 6, 15], [16, 14, 13, 12, 11, 10, 5, 4, 3, 1, 0, 2, 9, 8, 7, 6, 15], [17, 16, 14, 13, 12, 11, 10, 5, 4, 3, 1, 0, 2, 9, 8, 7, 6, 15], [18, 17, 16, 14, 13, 12, 11, 10, 5, 4, 3, 1, 0, 2, 9, 8, 7, 6, 15], [19, 18, 17, 16, 14, 13, 12, 11, 10, 5, 4, 3, 1, 0, 2, 9, 8, 7, 6, 15], [12, 11, 10, 5, 4, 3, 1, 0, 2, 9, 8, 7, 6, 20, 19, 18, 17, 16, 14, 13, 15]])
 (.cond (.t 89) (.seq (.reg [.op (some 2) none (.mov (.k (.bool false)))])
 .ret)
 .skip)))
 (.reg [.op (some 66) none (.mov (.t 4)), .op (some 67) none (.bin .add (.t 66) (.k (.int .i64 1))), .op (some 4) none (.mov (.t 67))])))
def L22_2 : SC := (.seq (.seq (.reg [.op (some 90) none (.mov (.t 5)), .op (some 91) none (.addr (.t 1) 2), .op (some 92) none (.load (.t 91) none), .op (some 93) none (.len (.t 92)), .op (some 94) none (.bin .lss (.t 90) (.t 93))])
 (.cond (.t 94) .skip
 (.exit 4)))
 (.seq (.blk 5 (.seq (.reg [.op (some 97) none (.addr (.t 1) 2), .op (some 98) none (.load (.t 97) none), .op (some 99) none (.mov (.t 5)), .op (some 100) none (.idxs 7 (.t 98) (.t 99)), .op (some 101) none (.load (.t 100) (some 7)), .call (some 102) none (.k (.fn (.func 16) [] [])) [(.t 101)], .op (some 103) none (.un .not (.t 102))])
 (.cond (.t 103) (.seq (.reg [.op (some 2) none (.mov (.k (.bool false)))])
 .ret)
 .skip)))
 (.reg [.op (some 95) none (.mov (.t 5)), .op (some 96) none (.bin .add (.t 95) (.k (.int .i64 1))), .op (some 5) none (.mov (.t 96))])))
def L22_3 : SC := (.seq (.seq (.reg [.op (some 104) none (.mov (.t 6)), .op (some 105) none (.addr (.t 1) 5), .op (some 106) none (.load (.t 105) none), .op (some 107) none (.len (.t 106)), .op (some 108) none (.bin .lss (.t 104) (.t 107))])
 (.cond (.t 108) .skip
 (.exit 6)))
 (.seq (.blk 7 (.seq (.draw [false, false, false, false, false, false, false, false, false, false, true, true, true, false, false, false, false, false, false, false, false, false, false, true, true, true] [.op (some 111) none (.addr (.t 1) 5), .op (some 112) none (.load (.t 111) none), .op (some 113) none (.mov (.t 6)), .op (some 114) none (.idxs 3 (.t 112) (.t 113)), .op (some 115) none (.addr (.t 114) 0), .op (some 116) none (.load (.t 115) none), .op (some 117) none (.addr (.t 1) 1), .op (some 118) none (.load (.t 117) none), .op (some 119) none (.len (.t 118)), .op (some 120) none (.bin .sub (.t 119) (.k (.int .i64 1))), .call (some 121) none (.k (.fn (.func 58) [] [])) [(.t 116), (.k (.int .i64 0)), (.t 120)], .op (some 122) none (.un .not (.t 121)), .op (some 123) none (.mov (.t 122)), .op (some 124) (some (123, false)) (.addr (.t 1) 5), .op (some 125) (some (123, false)) (.load (.t 124) none), .op (some 126) (some (123, false)) (.mov (.t 6)), .op (some 127) (some (123, false)) (.idxs 3 (.t 125) (.t 126)), .op (some 128) (some (123, false)) (.addr (.t 127) 1), .op (some 129) (some (123, false)) (.load (.t 128) (some 2)), .op (some 130) (some (123, false)) (.addr (.t 1) 2), .op (some 131) (some (123, false)) (.load (.t 130) none), .op (some 132) (some (123, false)) (.len (.t 131)), .op (some 133) (some (123, false)) (.bin .sub (.t 132) (.k (.int .i64 1))), .call (some 134) (some (123, false)) (.k (.fn (.func 59) [] [])) [(.t 129), (.t 133)], .op (some 135) (some (123, false)) (.un .not (.t 134)), .op (some 136) none (.pick (.t 123) (.k (.bool true)) (.t 135))] [[], [0], [], [1, 0, 2], [3, 1, 0, 2], [4, 3, 1, 0, 2], [], [6], [7, 6], [8, 7, 6], [5, 4, 3, 1, 0, 2, 9, 8, 7, 6], [10, 5, 4, 3, 1, 0, 2, 9, 8, 7, 6], [11, 10, 5, 4, 3, 1, 0, 2, 9, 8, 7, 6], [12, 11, 10, 5, 4, 3, 1, 0, 2, 9, 8, 7, 6], [13, 12, 11, 10, 5, 4, 3, 1, 0, 2, 9, 8, 7, 6], [12, 11, 10, 5, 4, 3, 1, 0, 2, 9, 8, 7, 6], [14, 13, 12, 11, 10, 5, 4, 3, 1, 0, 2, 9, 8, 7, 6, 15], [16, 14, 13, 12, 11, 10, 5, 4, 3, 1, 0, 2, 9, 8, 7, 6, 15], [17, 16, 14, 13, 12, 11, 10, 5, 4, 3, 1, 0, 2, 9, 8, 7, 6, 15], [12, 11, 10, 5, 4, 3, 1, 0, 2, 9, 8, 7, 6], [19, 12, 11, 10, 5, 4, 3, 1, 0, 2, 9, 8, 7, 6], [20, 19, 12, 11, 10, 5, 4, 3, 1, 0, 2, 9, 8, 7, 6], [21, 20, 19, 12, 11, 10, 5, 4, 3, 1, 0, 2, 9, 8, 7, 6], [18, 17, 16, 14, 13, 12, 11, 10, 5, 4, 3, 1, 0, 2, 9, 8, 7, 6, 15, 22, 21, 20, 19], [23, 18, 17, 16, 14, 13, 12, 11, 10, 5, 4, 3, 1, 0, 2, 9, 8, 7, 6, 15, 22, 21, 20, 19], [12, 11, 10, 5, 4, 3, 1, 0, 2, 9, 8, 7, 6, 24, 23, 18, 17, 16, 14, 13, 15, 22, 21, 20, 19]])
 (.cond (.t 136) (.seq (.reg [.op (some 2) none (.mov (.k (.bool false)))])
 .ret)
 .skip)))
 (.reg [.op (some 109) none (.mov (.t 6)), .op (some 110) none (.bin .add (.t 109) (.k (.int .i64 1))), .op (some 6) none (.mov (.t 110))])))
def mf22 : SF := ⟨137, [(.t 2)],
 (.seq (.reg [.op (some 1) none (.box (.t 0) 6), .op (some 2) none (.mov (.k (.bool false)))])
 (.seq (.seq (.reg [.op (some 7) none (.addr (.t 1) 0), .op (some 8) none (.load (.t 7) none), .op (some 9) none (.len (.t 8)), .call (some 10) none (.k (.fn (.func 58) [] [])) [(.t 9), (.k (.int .i64 1)), (.k (.int .i64 8))], .op (some 11) none (.un .not (.t 10)), .op (some 12) none (.mov (.t 11)), .op (some 13) (some (12, false)) (.addr (.t 1) 1), .op (some 14) (some (12, false)) (.load (.t 13) none), .op (some 15) (some (12, false)) (.len (.t 14)), .call (some 16) (some (12, false)) (.k (.fn (.func 58) [] [])) [(.t 15), (.k (.int .i64 1)), (.k (.int .i64 5))], .op (some 17) (some (12, false)) (.un .not (.t 16)), .op (some 18) none (.pick (.t 12) (.k (.bool true)) (.t 17)), .op (some 19) none (.mov (.t 18)), .op (some 20) (some (19, false)) (.addr (.t 1) 2), .op (some 21) (some (19, false)) (.load (.t 20) none), .op (some 22) (some (19, false)) (.len (.t 21)), .call (some 23) (some (19, false)) (.k (.fn (.func 58) [] [])) [(.t 22), (.k (.int .i64 1)), (.k (.int .i64 30))], .op (some 24) (some (19, false)) (.un .not (.t 23)), .op (some 25) none (.pick (.t 19) (.k (.bool true)) (.t 24)), .op (some 26) none (.mov (.t 25)), .op (some 27) (some (26, false)) (.addr (.t 1) 3), .op (some 28) (some (26, false)) (.load (.t 27) none), .op (some 29) (some (26, false)) (.len (.t 28)), .op (some 30) (some (26, false)) (.addr (.t 1) 2), .op (some 31) (some (26, false)) (.load (.t 30) none), .op (some 32) (some (26, false)) (.len (.t 31)), .op (some 33) (some (26, false)) (.bin .neq (.t 29) (.t 32)), .op (some 34) none (.pick (.t 26) (.k (.bool true)) (.t 33)), .op (some 35) none (.mov (.t 34)), .op (some 36) (some (35, false)) (.addr (.t 1) 4), .op (some 37) (some (35, false)) (.load (.t 36) none), .call (some 38) (some (35, false)) (.k (.fn (.func 58) [] [])) [(.t 37), (.k (.int .i64 1)), (.k (.int .i64 5))], .op (some 39) (some (35, false)) (.un .not (.t 38)), .op (some 40) none (.pick (.t 35) (.k (.bool true)) (.t 39)), .op (some 41) none (.mov (.t 40)), .op (some 42) (some (41, false)) (.addr (.t 1) 5), .op (some 43) (some (41, false)) (.load (.t 42) none), .op (some 44) (some (41, false)) (.len (.t 43)), .op (some 45) (some (41, false)) (.bin .gtr (.t 44) (.k (.int .i64 8))), .op (some 46) none (.pick (.t 41) (.k (.bool true)) (.t 45))])
 (.cond (.t 46) (.seq (.reg [.op (some 2) none (.mov (.k (.bool false)))])
 .ret)
 .skip))
 (.seq (.seq (.reg [.op (some 3) none (.mov (.k (.int .i64 0)))])
 (.blk 0 (.loop [1, 3] L22_0)))
 (.seq (.seq (.reg [.op (some 4) none (.mov (.k (.int .i64 0)))])
 (.blk 2 (.loop [1, 4] L22_1)))
 (.seq (.seq (.reg [.op (some 5) none (.mov (.k (.int .i64 0)))])
 (.blk 4 (.loop [1, 5] L22_2)))
 (.seq (.seq (.reg [.op (some 6) none (.mov (.k (.int .i64 0)))])
 (.blk 6 (.loop [1, 6] L22_3)))
 (.seq (.reg [.op (some 2) none (.mov (.k (.bool true)))])
 .ret)))))))⟩
def mf28 : SF := ⟨15, [(.c 4 (some 8))],
 (.seq (.reg [.op (some 2) none (.box (.t 0) 6), .op (some 4) none (.alloc [(.int .i64 0), (.int .i64 0), (.int .i64 0), (.int .i64 0), (.int .i64 0), (.int .i64 0), (.int .i64 0), (.int .i64 0)])])
 (.seq (.draw [false, false, false, false, false, false, false, false, true, true, true] [.op (some 5) none (.addr (.t 2) 0), .op (some 6) none (.load (.t 5) none), .op (some 7) none (.addr (.t 2) 1), .op (some 8) none (.load (.t 7) none), .op (some 9) none (.mov (.t 1)), .op (some 10) none (.idxs 7 (.t 8) (.t 9)), .op (some 11) none (.addr (.t 10) 0), .op (some 12) none (.load (.t 11) none), .op (some 13) none (.idxs 8 (.t 6) (.t 12)), .op (some 14) none (.load (.t 13) (some 8)), .op none none (.store (.t 4) (.t 14) 8)] [[], [0], [], [2], [], [3, 2, 4], [5, 3, 2, 4], [6, 5, 3, 2, 4], [1, 0, 7, 6, 5, 3, 2, 4], [8, 1, 0, 7, 6, 5, 3, 2, 4], [9, 8, 1, 0, 7, 6, 5, 3, 2, 4]])
 .ret))⟩
def mf31 : SF := ⟨28, [(.t 6)],
 (.seq (.reg [.op (some 3) none (.box (.t 0) 6), .op (some 6) none (.mov (.k (.bool false)))])
 (.seq (.reg [.op (some 7) none (.load (.t 3) (some 6)), .call (some 8) none (.k (.fn (.func 19) [] [])) [(.t 7)], .op (some 9) none (.mov (.t 8)), .op (some 10) (some (9, true)) (.load (.t 3) (some 6)), .call (some 11) (some (9, true)) (.k (.fn (.func 22) [] [])) [(.t 10)], .op (some 12) (some (9, true)) (.un .not (.t 11)), .op (some 13) (some (9, true)) (.mov (.t 12)), .op (some 14) (some (13, false)) (.addr (.t 3) 1), .op (some 15) (some (13, false)) (.load (.t 14) none), .op (some 16) (some (13, false)) (.len (.t 15)), .op (some 17) (some (13, false)) (.mov (.t 1)), .op (some 18) (some (13, false)) (.bin .leq (.t 16) (.t 17)), .op (some 19) (some (13, false)) (.mov (.t 18)), .op (some 20) (some (19, true)) (.addr (.t 3) 2), .op (some 21) (some (19, true)) (.load (.t 20) none), .op (some 22) (some (19, true)) (.len (.t 21)), .op (some 23) (some (19, true)) (.mov (.t 2)), .op (some 24) (some (19, true)) (.bin .leq (.t 22) (.t 23)), .op (some 25) (some (13, false)) (.pick (.t 19) (.t 24) (.k (.bool false))), .op (some 26) (some (9, true)) (.pick (.t 13) (.k (.bool true)) (.t 25)), .op (some 27) none (.pick (.t 9) (.t 26) (.k (.bool false))), .op (some 6) none (.mov (.t 27))])
 .ret))⟩
def L32_0 : SC := (.seq (.reg [.op (some 49) none (.bin .lss (.t 48) (.t 47))])
 (.seq (.cond (.t 49) .skip
 (.exit 2))
 (.seq (.blk 3 (.seq (.reg [.op (some 50) none (.idxs 1 (.t 46) (.t 48)), .op (some 51) none (.load (.t 50) none), .op (some 13) none (.mov (.t 51))])
 (.reg [.op (some 52) none (.mov (.t 13)), .op (some 53) none (.addr (.t 9) 0), .op (some 54) none (.load (.t 53) none), .op (some 55) none (.addr (.t 9) 1), .op (some 56) none (.idxa 5 1 (.t 55) (.t 52)), .op none none (.store (.t 56) (.t 54) 1)])))
 (.reg [.op (some 57) none (.bin .add (.t 48) (.k (.int .i64 1))), .op (some 48) none (.mov (.t 57))]))))
def L32_1 : SC := (.seq (.seq (.reg [.op (some 32) none (.addr (.t 9) 0), .op (some 33) none (.load (.t 32) none), .op (some 34) none (.addr (.t 1) 2), .op (some 35) none (.load (.t 34) none), .op (some 36) none (.len (.t 35)), .op (some 37) none (.bin .lss (.t 33) (.t 36))])
 (.cond (.t 37) .skip
 (.exit 0)))
 (.blk 1 (.seq (.reg [.op (some 38) none (.load (.t 8) none), .op (some 39) none (.load (.t 9) (some 6)), .call (some 40) none (.t 38) [(.t 39)], .op (some 41) none (.fld (.t 40) 2 none), .op (some 11) none (.mov (.t 41))])
 (.seq (.reg [.op (some 42) none (.mov (.t 10)), .op (some 43) none (.mov (.t 11)), .op (some 44) none (.bslice 1 [.nilS] 1 [(0, 1, (.t 43))]), .op (some 45) none (.app 1 [.nilS] 24 (.t 42) (.t 44)), .op (some 10) none (.mov (.t 45))])
 (.seq (.seq (.reg [.op (some 46) none (.mov (.t 11)), .op (some 47) none (.len (.t 46)), .op (some 48) none (.mov (.k (.int .i64 0)))])
 (.blk 2 (.loop [1, 8, 9, 10, 46, 47, 48] L32_0)))
 (.reg [.op (some 58) none (.addr (.t 9) 0), .op (some 59) none (.load (.t 58) none), .op (some 60) none (.bin .add (.t 59) (.k (.int .i64 1))), .op (some 61) none (.addr (.t 9) 0), .op none none (.store (.t 61) (.t 60) 1)]))))))
def mf32 : SF := ⟨63, [(.t 2), (.t 3)],
 (.seq (.reg [.op (some 1) none (.box (.t 0) 6), .op (some 2) none (.mov (.k .nilS)), .op (some 3) none (.mov (.k (.int .i64 0)))])
 (.seq (.seq (.reg [.op (some 14) none (.load (.t 1) (some 6)), .call (some 15) none (.k (.fn (.func 64) [] [])) [(.t 14)], .op (some 16) none (.un .not (.t 15))])
 (.cond (.t 16) (.seq (.reg [.op (some 2) none (.mov (.k .nilS)), .op (some 3) none (.mov (.k (.int .i64 2)))])
 .ret)
 .skip))
 (.seq (.reg [.op (some 17) none (.load (.t 1) (some 6)), .op (some 18) none (.build [.nilS, .nilS, .nilS, .nilS, (.int .i64 0), .nilS] [(0, 6, (.t 17))]), .op (some 19) none (.box (.t 18) 6), .op (some 4) none (.mov (.t 19))])
 (.seq (.reg [.op (some 20) none (.mov (.t 4)), .call (some 21) none (.k (.fn (.func 73) [] [])) [(.t 20)], .op (some 5) none (.alloc [.nilS]), .op none none (.store (.t 5) (.t 21) 1)])
 (.seq (.reg [.op (some 22) none .mkmap, .op (some 6) none (.alloc [.nilM]), .op none none (.store (.t 6) (.t 22) 1)])
 (.seq (.reg [.op (some 23) none (.mkfn (.func 74) [] [(.t 1), (.t 5)]), .op (some 7) none (.alloc [.nilF]), .op none none (.store (.t 7) (.t 23) 1)])
 (.seq (.reg [.op (some 8) none (.alloc [.nilF])])
 (.seq (.reg [.op (some 24) none (.mkfn (.func 76) [] [(.t 1), (.t 6), (.t 7), (.t 8)]), .op none none (.store (.t 8) (.t 24) 1)])
 (.seq (.reg [.call (some 25) none (.k (.fn (.func 66) [] [])) [], .op (some 26) none (.build [(.int .i64 0), (.int .i64 0), (.int .i64 0), (.int .i64 0), (.int .i64 0), (.int .i64 0)] [(0, 1, (.k (.int .i64 0))), (1, 5, (.t 25))]), .op (some 9) none (.alloc [(.int .i64 0), (.int .i64 0), (.int .i64 0), (.int .i64 0), (.int .i64 0), (.int .i64 0)]), .op none none (.store (.t 9) (.t 26) 6)])
 (.seq (.seq (.reg [.op (some 27) none (.load (.t 8) none), .op (some 28) none (.load (.t 9) (some 6)), .call (some 29) none (.t 27) [(.t 28)], .op (some 30) none (.fld (.t 29) 3 none), .op (some 31) none (.un .not (.t 30))])
 (.cond (.t 31) (.seq (.reg [.op (some 2) none (.mov (.k .nilS)), .op (some 3) none (.mov (.k (.int .i64 5)))])
 .ret)
 .skip))
 (.seq (.reg [.op (some 10) none (.mov (.k .nilS))])
 (.seq (.blk 0 (.loop [1, 8, 9, 10] L32_1))
 (.seq (.reg [.op (some 62) none (.mov (.t 10)), .op (some 2) none (.mov (.t 62)), .op (some 3) none (.mov (.k (.int .i64 0)))])
 .ret)))))))))))))⟩
def L33_0 : SC := (.seq (.seq (.reg [.op (some 27) none (.mov (.t 7)), .op (some 28) none (.addr (.t 1) 1), .op (some 29) none (.load (.t 28) none), .op (some 30) none (.len (.t 29)), .op (some 31) none (.bin .lss (.t 27) (.t 30))])
 (.cond (.t 31) .skip
 (.exit 0)))
 (.seq (.blk 1 (.reg [.op (some 34) none (.mov (.t 6)), .op (some 35) none (.addr (.t 1) 2), .op (some 36) none (.load (.t 35) none), .op (some 37) none (.len (.t 36)), .op (some 38) none (.bin .add (.t 37) (.k (.int .i64 1))), .op (some 39) none (.bin .mul (.t 34) (.t 38)), .op (some 6) none (.mov (.t 39))]))
 (.reg [.op (some 32) none (.mov (.t 7)), .op (some 33) none (.bin .add (.t 32) (.k (.int .i64 1))), .op (some 7) none (.mov (.t 33))])))
def D33_0 : List MIx := [.op (some 45) none (.mov (.t 8)), .op (some 46) none (.addr (.t 1) 2), .op (some 47) none (.load (.t 46) none), .op (some 48) none (.len (.t 47)), .op (some 49) none (.mov (.t 6)), .op (some 50) none (.mksl 3 [(.int .i64 0), (.int .i64 0), (.int .i64 0)] 24 (.t 49) (.t 49)), .op (some 51) none (.idxs 1 (.t 45) (.t 48)), .op none none (.store (.t 51) (.t 50) 1)]
def B33_0 : List (List Nat) := [[], [], [1], [2, 1], [], [4], [0, 3, 2, 1, 4, 5], [6, 0, 3, 2, 1, 4, 5]]
def D33_1 : List MIx := [.op (some 101) none (.mov (.t 13)), .op (some 102) none (.mov (.t 8)), .op (some 103) none (.mov (.t 9)), .op (some 104) none (.bin .add (.t 103) (.k (.int .i64 1))), .op (some 105) none (.idxs 1 (.t 102) (.t 104)), .op (some 106) none (.load (.t 105) none), .op (some 107) none (.mov (.t 14)), .op (some 108) none (.idxs 3 (.t 106) (.t 107)), .op (some 109) none (.addr (.t 108) 1), .op (some 110) none (.load (.t 109) none), .op (some 111) none (.mov (.t 5)), .op (some 112) none (.mov (.t 13)), .op (some 113) none (.idxs 1 (.t 111) (.t 112)), .op (some 114) none (.load (.t 113) none), .op (some 115) none (.len (.t 114)), .op (some 116) none (.minmax true [(.k (.int .i64 1)), (.t 115)]), .op (some 117) none (.bin .add (.t 110) (.t 116)), .op (some 118) none (.mov (.t 8)), .op (some 119) none (.mov (.t 9)), .op (some 120) none (.bin .add (.t 119) (.k (.int .i64 1))), .op (some 121) none (.idxs 1 (.t 118) (.t 120)), .op (some 122) none (.load (.t 121) none), .op (some 123) none (.mov (.t 14)), .op (some 124) none (.idxs 3 (.t 122) (.t 123)), .op (some 125) none (.addr (.t 124) 2), .op (some 126) none (.load (.t 125) none), .op (some 127) none (.mov (.t 5)), .op (some 128) none (.mov (.t 13)), .op (some 129) none (.idxs 1 (.t 127) (.t 128)), .op (some 130) none (.load (.t 129) none), .op (some 131) none (.len (.t 130)), .op (some 132) none (.bin .add (.t 126) (.t 131)), .op (some 133) none (.build [(.int .i64 0), (.int .i64 0), (.int .i64 0)] [(0, 1, (.t 101)), (1, 1, (.t 117)), (2, 1, (.t 132))]), .op (some 15) none (.alloc [(.int .i64 0), (.int .i64 0), (.int .i64 0)]), .op none none (.store (.t 15) (.t 133) 3)]
def B33_1 : List (List Nat) := [[], [], [], [2], [1, 3, 2], [4, 1, 3, 2], [], [5, 4, 1, 3, 2, 6], [7, 5, 4, 1, 3, 2, 6], [8, 7, 5, 4, 1, 3, 2, 6], [], [], [10, 11], [12, 10, 11], [13, 12, 10, 11], [14, 13, 12, 10, 11], [9, 8, 7, 5, 4, 1, 3, 2, 6, 15, 14, 13, 12, 10, 11], [], [], [18], [17, 19, 18], [20, 17, 19, 18], [], [21, 20, 17, 19, 18, 22], [23, 21, 20, 17, 19, 18, 22], [24, 23, 21, 20, 17, 19, 18, 22], [], [], [26, 27], [28, 26, 27], [29, 28, 26, 27], [25, 24, 23, 21, 20, 17, 19, 18, 22, 30, 29, 28, 26, 27], [0, 16, 9, 8, 7, 5, 4, 1, 3, 2, 6, 15, 14, 13, 12, 10, 11, 31, 25, 24, 23, 21, 20, 17, 19, 18, 22, 30, 29, 28, 26, 27], [], [33, 32, 0, 16, 9, 8, 7, 5, 4, 1, 3, 2, 6, 15, 14, 13, 12, 10, 11, 31, 25, 24, 23, 21, 20, 17, 19, 18, 22, 30, 29, 28, 26, 27]]
def L33_1 : SC := (.seq (.seq (.reg [.op (some 69) none (.mov (.t 13)), .op (some 70) none (.mov (.t 5)), .op (some 71) none (.len (.t 70)), .op (some 72) none (.bin .lss (.t 69) (.t 71))])
 (.cond (.t 72) .skip
 (.exit 6)))
 (.seq (.blk 7 (.seq (.reg [.op (some 14) none (.mov (.k (.int .i64 (-1))))])
 (.seq (.seq (.reg [.op (some 75) none (.mov (.t 11)), .op (some 76) none (.mov (.t 9)), .call (some 77) none (.k (.fn (.func 83) [] [])) [(.t 75), (.t 76)]])
 (.cond (.t 77) (.draw [false, false, false, false, false, false, false, false, true, true] [.op (some 78) none (.load (.t 1) (some 6)), .op (some 79) none (.mov (.t 4)), .op (some 80) none (.mov (.t 11)), .op (some 81) none (.mov (.t 9)), .op (some 82) none (.mov (.t 5)), .op (some 83) none (.mov (.t 13)), .op (some 84) none (.idxs 1 (.t 82) (.t 83)), .op (some 85) none (.load (.t 84) none), .call (some 86) none (.k (.fn (.func 84) [] [])) [(.t 78), (.t 79), (.t 80), (.t 81), (.t 85)], .op (some 14) none (.mov (.t 86))] [[], [], [], [], [], [], [4, 5], [6, 4, 5], [0, 1, 2, 3, 7, 6, 4, 5], [8, 0, 1, 2, 3, 7, 6, 4, 5]])
 .skip))
 (.seq (.seq (.reg [.op (some 87) none (.mov (.t 14)), .op (some 88) none (.bin .lss (.t 87) (.k (.int .i64 0))), .op (some 89) none (.mov (.t 88)), .op (some 90) (some (89, false)) (.mov (.t 8)), .op (some 91) (some (89, false)) (.mov (.t 9)), .op (some 92) (some (89, false)) (.bin .add (.t 91) (.k (.int .i64 1))), .op (some 93) (some (89, false)) (.idxs 1 (.t 90) (.t 92)), .op (some 94) (some (89, false)) (.load (.t 93) none), .op (some 95) (some (89, false)) (.mov (.t 14)), .op (some 96) (some (89, false)) (.idxs 3 (.t 94) (.t 95)), .op (some 97) (some (89, false)) (.addr (.t 96) 0), .op (some 98) (some (89, false)) (.load (.t 97) none), .op (some 99) (some (89, false)) (.bin .lss (.t 98) (.k (.int .i64 0))), .op (some 100) none (.pick (.t 89) (.k (.bool true)) (.t 99))])
 (.cond (.t 100) (.exit 7)
 .skip))
 (.seq (.draw [] D33_1 B33_1)
 (.seq (.reg [.op (some 134) none (.addr (.t 12) 0), .op (some 135) none (.load (.t 134) none), .op (some 136) none (.bin .lss (.t 135) (.k (.int .i64 0))), .op (some 137) none (.mov (.t 136)), .op (some 138) (some (137, false)) (.addr (.t 15) 1), .op (some 139) (some (137, false)) (.load (.t 138) none), .op (some 140) (some (137, false)) (.addr (.t 12) 1), .op (some 141) (some (137, false)) (.load (.t 140) none), .op (some 142) (some (137, false)) (.bin .lss (.t 139) (.t 141)), .op (some 143) none (.pick (.t 137) (.k (.bool true)) (.t 142)), .op (some 144) none (.mov (.t 143)), .op (some 145) (some (144, false)) (.addr (.t 15) 1), .op (some 146) (some (144, false)) (.load (.t 145) none), .op (some 147) (some (144, false)) (.addr (.t 12) 1), .op (some 148) (some (144, false)) (.load (.t 147) none), .op (some 149) (some (144, false)) (.bin .eql (.t 146) (.t 148)), .op (some 150) (some (144, false)) (.mov (.t 149)), .op (some 151) (some (150, true)) (.addr (.t 15) 2), .op (some 152) (some (150, true)) (.load (.t 151) none), .op (some 153) (some (150, true)) (.addr (.t 12) 2), .op (some 154) (some (150, true)) (.load (.t 153) none), .op (some 155) (some (150, true)) (.bin .lss (.t 152) (.t 154)), .op (some 156) (some (144, false)) (.pick (.t 150) (.t 155) (.k (.bool false))), .op (some 157) none (.pick (.t 144) (.k (.bool true)) (.t 156))])
 (.cond (.t 157) (.reg [.op (some 158) none (.load (.t 15) (some 3)), .op none none (.store (.t 12) (.t 158) 3)])
 .skip)))))))
 (.reg [.op (some 73) none (.mov (.t 13)), .op (some 74) none (.bin .add (.t 73) (.k (.int .i64 1))), .op (some 13) none (.mov (.t 74))])))
def D33_2 : List MIx := [.op (some 159) none (.mov (.t 8)), .op (some 160) none (.mov (.t 9)), .op (some 161) none (.mov (.t 8)), .op (some 162) none (.mov (.t 9)), .op (some 163) none (.idxs 1 (.t 161) (.t 162)), .op (some 164) none (.load (.t 163) none), .op (some 165) none (.load (.t 12) (some 3)), .op (some 166) none (.bslice 3 [(.int .i64 0), (.int .i64 0), (.int .i64 0)] 1 [(0, 3, (.t 165))]), .op (some 167) none (.app 3 [(.int .i64 0), (.int .i64 0), (.int .i64 0)] 24 (.t 164) (.t 166)), .op (some 168) none (.idxs 1 (.t 159) (.t 160)), .op none none (.store (.t 168) (.t 167) 1)]
def B33_2 : List (List Nat) := [[], [], [], [], [2, 3], [4, 2, 3], [], [6], [5, 4, 2, 3, 7, 6], [0, 1, 2, 3, 4, 5, 6, 7, 8], [9, 0, 1, 2, 3, 4, 5, 6, 7, 8]]
def L33_2 : SC := (.seq (.seq (.reg [.op (some 60) none (.mov (.t 10)), .op (some 61) none (.mov (.t 6)), .op (some 62) none (.bin .lss (.t 60) (.t 61))])
 (.cond (.t 62) .skip
 (.exit 4)))
 (.seq (.blk 5 (.seq (.reg [.op (some 65) none (.load (.t 1) (some 6)), .op (some 66) none (.mov (.t 10)), .call (some 67) none (.k (.fn (.func 82) [] [])) [(.t 65), (.t 66)], .op (some 11) none (.mov (.t 67))])
 (.seq (.reg [.op (some 68) none (.build [(.int .i64 0), (.int .i64 0), (.int .i64 0)] [(0, 1, (.k (.int .i64 (-1))))]), .op (some 12) none (.alloc [(.int .i64 0), (.int .i64 0), (.int .i64 0)]), .op none none (.store (.t 12) (.t 68) 3)])
 (.seq (.seq (.reg [.op (some 13) none (.mov (.k (.int .i64 0)))])
 (.blk 6 (.loop [1, 4, 5, 6, 8, 9, 10, 11, 12, 13] L33_1)))
 (.draw [] D33_2 B33_2)))))
 (.reg [.op (some 63) none (.mov (.t 10)), .op (some 64) none (.bin .add (.t 63) (.k (.int .i64 1))), .op (some 10) none (.mov (.t 64))])))
def L33_3 : SC := (.seq (.seq (.reg [.op (some 56) none (.mov (.t 9)), .op (some 57) none (.bin .geq (.t 56) (.k (.int .i64 0)))])
 (.cond (.t 57) .skip
 (.exit 2)))
 (.seq (.blk 3 (.seq (.reg [.op (some 10) none (.mov (.k (.int .i64 0)))])
 (.blk 4 (.loop [1, 4, 5, 6, 8, 9, 10] L33_2))))
 (.reg [.op (some 58) none (.mov (.t 9)), .op (some 59) none (.bin .sub (.t 58) (.k (.int .i64 1))), .op (some 9) none (.mov (.t 59))])))
def L33_4 : SC := (.seq (.seq (.reg [.op (some 169) none (.mov (.t 17)), .op (some 170) none (.addr (.t 1) 1), .op (some 171) none (.load (.t 170) none), .op (some 172) none (.len (.t 171)), .op (some 173) none (.bin .lss (.t 169) (.t 172))])
 (.cond (.t 173) .skip
 (.exit 8)))
 (.seq (.blk 9 (.seq (.reg [.op (some 176) none (.mov (.t 4)), .op (some 177) none (.mov (.t 17)), .op (some 178) none (.idxs 1 (.t 176) (.t 177)), .op (some 179) none (.load (.t 178) none), .op (some 180) none (.idxs 1 (.t 179) (.k (.int .i64 0))), .op (some 181) none (.load (.t 180) none), .op (some 182) none (.bin .lss (.t 181) (.k (.int .i64 0)))])
 (.cond (.t 182) (.seq (.reg [.op (some 2) none (.mov (.k .nilS)), .op (some 3) none (.mov (.k (.bool false)))])
 .ret)
 .skip)))
 (.reg [.op (some 174) none (.mov (.t 17)), .op (some 175) none (.bin .add (.t 174) (.k (.int .i64 1))), .op (some 17) none (.mov (.t 175))])))
def L33_5 : SC := (.seq (.seq (.reg [.op (some 183) none (.mov (.t 19)), .op (some 184) none (.addr (.t 1) 2), .op (some 185) none (.load (.t 184) none), .op (some 186) none (.len (.t 185)), .op (some 187) none (.bin .lss (.t 183) (.t 186))])
 (.cond (.t 187) .skip
 (.exit 10)))
 (.seq (.blk 11 (.seq (.reg [.op (some 190) none (.mov (.t 8)), .op (some 191) none (.mov (.t 19)), .op (some 192) none (.idxs 1 (.t 190) (.t 191)), .op (some 193) none (.load (.t 192) none), .op (some 194) none (.mov (.t 16)), .op (some 195) none (.idxs 3 (.t 193) (.t 194)), .op (some 196) none (.load (.t 195) (some 3)), .op (some 20) none (.alloc [(.int .i64 0), (.int .i64 0), (.int .i64 0)]), .op none none (.store (.t 20) (.t 196) 3)])
 (.seq (.seq (.reg [.op (some 197) none (.addr (.t 20) 0), .op (some 198) none (.load (.t 197) none), .op (some 199) none (.bin .lss (.t 198) (.k (.int .i64 0)))])
 (.cond (.t 199) (.seq (.reg [.op (some 2) none (.mov (.k .nilS)), .op (some 3) none (.mov (.k (.bool false)))])
 .ret)
 .skip))
 (.seq (.reg [.op (some 200) none (.mov (.t 18)), .op (some 201) none (.mov (.t 5)), .op (some 202) none (.addr (.t 20) 0), .op (some 203) none (.load (.t 202) none), .op (some 204) none (.idxs 1 (.t 201) (.t 203)), .op (some 205) none (.load (.t 204) none), .op (some 206) none (.bslice 1 [.nilS] 1 [(0, 1, (.t 205))]), .op (some 207) none (.app 1 [.nilS] 24 (.t 200) (.t 206)), .op (some 18) none (.mov (.t 207))])
 (.draw [false, false, false, false, false, false, false, false, false, false, false, true, true] [.op (some 208) none (.load (.t 1) (some 6)), .op (some 209) none (.mov (.t 4)), .op (some 210) none (.load (.t 1) (some 6)), .op (some 211) none (.mov (.t 16)), .call (some 212) none (.k (.fn (.func 82) [] [])) [(.t 210), (.t 211)], .op (some 213) none (.mov (.t 19)), .op (some 214) none (.mov (.t 5)), .op (some 215) none (.addr (.t 20) 0), .op (some 216) none (.load (.t 215) none), .op (some 217) none (.idxs 1 (.t 214) (.t 216)), .op (some 218) none (.load (.t 217) none), .call (some 219) none (.k (.fn (.func 84) [] [])) [(.t 208), (.t 209), (.t 212), (.t 213), (.t 218)], .op (some 16) none (.mov (.t 219))] [[], [], [], [], [2, 3], [], [], [], [7], [6, 8, 7], [9, 6, 8, 7], [0, 1, 4, 2, 3, 5, 10, 9, 6, 8, 7], [11, 0, 1, 4, 2, 3, 5, 10, 9, 6, 8, 7]])))))
 (.reg [.op (some 188) none (.mov (.t 19)), .op (some 189) none (.bin .add (.t 188) (.k (.int .i64 1))), .op (some 19) none (.mov (.t 189))])))
def mf33 : SF := ⟨221, [(.t 2), (.t 3)],
 (.seq (.reg [.op (some 1) none (.box (.t 0) 6), .op (some 2) none (.mov (.k .nilS)), .op (some 3) none (.mov (.k (.bool false)))])
 (.seq (.reg [.op (some 21) none (.load (.t 1) (some 6)), .call (some 22) none (.k (.fn (.func 80) [] [])) [(.t 21)], .op (some 4) none (.mov (.t 22))])
 (.seq (.reg [.op (some 23) none (.addr (.t 1) 1), .op (some 24) none (.load (.t 23) none), .op (some 25) none (.len (.t 24)), .call (some 26) none (.k (.fn (.func 81) [] [])) [(.t 25)], .op (some 5) none (.mov (.t 26))])
 (.seq (.reg [.op (some 6) none (.mov (.k (.int .i64 1)))])
 (.seq (.seq (.reg [.op (some 7) none (.mov (.k (.int .i64 0)))])
 (.blk 0 (.loop [1, 4, 5, 6, 7] L33_0)))
 (.seq (.reg [.op (some 40) none (.addr (.t 1) 2), .op (some 41) none (.load (.t 40) none), .op (some 42) none (.len (.t 41)), .op (some 43) none (.bin .add (.t 42) (.k (.int .i64 1))), .op (some 44) none (.mksl 1 [.nilS] 24 (.t 43) (.t 43)), .op (some 8) none (.mov (.t 44))])
 (.seq (.draw [] D33_0 B33_0)
 (.seq (.seq (.reg [.op (some 52) none (.addr (.t 1) 2), .op (some 53) none (.load (.t 52) none), .op (some 54) none (.len (.t 53)), .op (some 55) none (.bin .sub (.t 54) (.k (.int .i64 1))), .op (some 9) none (.mov (.t 55))])
 (.blk 2 (.loop [1, 4, 5, 6, 8, 9] L33_3)))
 (.seq (.reg [.op (some 16) none (.mov (.k (.int .i64 0)))])
 (.seq (.seq (.reg [.op (some 17) none (.mov (.k (.int .i64 0)))])
 (.blk 8 (.loop [1, 4, 5, 8, 16, 17] L33_4)))
 (.seq (.reg [.op (some 18) none (.mov (.k .nilS))])
 (.seq (.seq (.reg [.op (some 19) none (.mov (.k (.int .i64 0)))])
 (.blk 10 (.loop [1, 4, 5, 8, 16, 18, 19] L33_5)))
 (.seq (.reg [.op (some 220) none (.mov (.t 18)), .op (some 2) none (.mov (.t 220)), .op (some 3) none (.mov (.k (.bool true)))])
 .ret)))))))))))))⟩
def L34_0 : SC := (.seq (.seq (.reg [.op (some 11) none (.mov (.t 5)), .op (some 12) none (.mov (.t 0)), .op (some 13) none (.len (.t 12)), .op (some 14) none (.bin .lss (.t 11) (.t 13))])
 (.cond (.t 14) .skip
 (.exit 0)))
 (.seq (.blk 1 (.seq (.draw [false, false, false, false, false, false, false, false, true, true] [.op (some 17) none (.mov (.t 0)), .op (some 18) none (.mov (.t 5)), .op (some 19) none (.idxs 1 (.t 17) (.t 18)), .op (some 20) none (.load (.t 19) none), .op (some 21) none (.mov (.t 1)), .op (some 22) none (.mov (.t 5)), .op (some 23) none (.idxs 1 (.t 21) (.t 22)), .op (some 24) none (.load (.t 23) none), .call (some 25) none (.k (.fn (.func 85) [] [])) [(.t 20), (.t 24)], .op (some 26) none (.un .not (.t 25))] [[], [], [0, 1], [2, 0, 1], [], [], [4, 5], [6, 4, 5], [3, 2, 0, 1, 7, 6, 4, 5], [8, 3, 2, 0, 1, 7, 6, 4, 5]])
 (.cond (.t 26) (.seq (.reg [.op (some 4) none (.mov (.k (.bool false)))])
 .ret)
 .skip)))
 (.reg [.op (some 15) none (.mov (.t 5)), .op (some 16) none (.bin .add (.t 15) (.k (.int .i64 1))), .op (some 5) none (.mov (.t 16))])))
def mf34 : SF := ⟨27, [(.t 4)],
 (.seq (.reg [.op (some 4) none (.mov (.k (.bool false)))])
 (.seq (.seq (.reg [.op (some 6) none (.mov (.t 0)), .op (some 7) none (.len (.t 6)), .op (some 8) none (.mov (.t 1)), .op (some 9) none (.len (.t 8)), .op (some 10) none (.bin .neq (.t 7) (.t 9))])
 (.cond (.t 10) (.seq (.reg [.op (some 4) none (.mov (.k (.bool false)))])
 .ret)
 .skip))
 (.seq (.seq (.reg [.op (some 5) none (.mov (.k (.int .i64 0)))])
 (.blk 0 (.loop [0, 1, 5] L34_0)))
 (.seq (.reg [.op (some 4) none (.mov (.k (.bool true)))])
 .ret))))⟩
def D36_0 : List MIx := [.op (some 55) none (.mov (.t 6)), .op (some 56) none (.mov (.t 7)), .op (some 57) none (.mov (.t 6)), .op (some 58) none (.mov (.t 7)), .op (some 59) none (.idxs 1 (.t 57) (.t 58)), .op (some 60) none (.load (.t 59) none), .op (some 61) none (.load (.t 9) (some 2)), .op (some 62) none (.bslice 2 [(.int .i64 0), (.int .i64 0)] 1 [(0, 2, (.t 61))]), .op (some 63) none (.mov (.t 6)), .op (some 64) none (.mov (.t 8)), .op (some 65) none (.bin .add (.t 64) (.k (.int .i64 1))), .op (some 66) none (.idxs 1 (.t 63) (.t 65)), .op (some 67) none (.load (.t 66) none), .op (some 68) none (.app 2 [(.int .i64 0), (.int .i64 0)] 16 (.t 62) (.t 67)), .call (some 69) none (.k (.fn (.func 88) [] [])) [(.t 60), (.t 68), (.k (.fn (.func 89) [] []))], .op (some 70) none (.idxs 1 (.t 55) (.t 56)), .op none none (.store (.t 70) (.t 69) 1)]
def B36_0 : List (List Nat) := [[], [], [], [], [2, 3], [4, 2, 3], [], [6], [], [], [9], [8, 10, 9], [11, 8, 10, 9], [7, 6, 12, 11, 8, 10, 9], [5, 4, 2, 3, 13, 7, 6, 12, 11, 8, 10, 9], [0, 1, 2, 3, 4, 5, 6, 7, 8, 9, 10, 11, 12, 13, 14], [15, 0, 1, 2, 3, 4, 5, 6, 7, 8, 9, 10, 11, 12, 13, 14]]
def L36_0 : SC := (.seq (.seq (.reg [.op (some 40) none (.mov (.t 8)), .op (some 41) none (.addr (.t 1) 2), .op (some 42) none (.load (.t 41) none), .op (some 43) none (.len (.t 42)), .op (some 44) none (.bin .lss (.t 40) (.t 43))])
 (.cond (.t 44) .skip
 (.exit 2)))
 (.seq (.blk 3 (.seq (.reg [.op (some 47) none (.mov (.t 7)), .op (some 48) none (.mov (.t 8)), .op (some 49) none (.build [(.int .i64 0), (.int .i64 0)] [(0, 1, (.t 47)), (1, 1, (.t 48))]), .op (some 9) none (.alloc [(.int .i64 0), (.int .i64 0)]), .op none none (.store (.t 9) (.t 49) 2)])
 (.seq (.reg [.op (some 50) none (.mov (.t 4)), .op (some 51) none (.load (.t 9) (some 2)), .op (some 52) none (.mov (.t 5)), .call (some 53) none (.k (.fn (.func 87) [] [])) [(.t 50), (.t 51), (.t 52)], .op (some 54) none (.bin .geq (.t 53) (.k (.int .i64 0)))])
 (.cond (.t 54) (.draw [] D36_0 B36_0)
 .skip))))
 (.reg [.op (some 45) none (.mov (.t 8)), .op (some 46) none (.bin .add (.t 45) (.k (.int .i64 1))), .op (some 8) none (.mov (.t 46))])))
def L36_1 : SC := (.seq (.seq (.reg [.op (some 27) none (.mov (.t 7)), .op (some 28) none (.bin .geq (.t 27) (.k (.int .i64 0)))])
 (.cond (.t 28) .skip
 (.exit 0)))
 (.seq (.blk 1 (.seq (.reg [.op (some 31) none (.mov (.t 6)), .op (some 32) none (.mov (.t 7)), .op (some 33) none (.mov (.t 6)), .op (some 34) none (.mov (.t 7)), .op (some 35) none (.bin .add (.t 34) (.k (.int .i64 1))), .op (some 36) none (.idxs 1 (.t 33) (.t 35)), .op (some 37) none (.load (.t 36) none), .op (some 38) none (.idxs 1 (.t 31) (.t 32)), .op none none (.store (.t 38) (.t 37) 1)])
 (.seq (.reg [.op (some 39) none (.mov (.t 7)), .op (some 8) none (.mov (.t 39))])
 (.blk 2 (.loop [1, 4, 5, 6, 7, 8] L36_0)))))
 (.reg [.op (some 29) none (.mov (.t 7)), .op (some 30) none (.bin .sub (.t 29) (.k (.int .i64 1))), .op (some 7) none (.mov (.t 30))])))
def mf36 : SF := ⟨74, [(.t 2), (.t 3)],
 (.seq (.reg [.op (some 1) none (.box (.t 0) 6), .op (some 2) none (.mov (.k .nilS)), .op (some 3) none (.mov (.k (.int .i64 0)))])
 (.seq (.seq (.reg [.op (some 10) none (.load (.t 1) (some 6)), .call (some 11) none (.k (.fn (.func 64) [] [])) [(.t 10)], .op (some 12) none (.un .not (.t 11))])
 (.cond (.t 12) (.seq (.reg [.op (some 2) none (.mov (.k .nilS)), .op (some 3) none (.mov (.k (.int .i64 2)))])
 .ret)
 .skip))
 (.seq (.reg [.op (some 13) none (.load (.t 1) (some 6)), .op (some 14) none (.build [.nilS, .nilS, .nilS, .nilS, (.int .i64 0), .nilS] [(0, 6, (.t 13))]), .op (some 15) none (.box (.t 14) 6), .op (some 4) none (.mov (.t 15))])
 (.seq (.reg [.op (some 16) none (.mov (.t 4)), .call (some 17) none (.k (.fn (.func 73) [] [])) [(.t 16)], .op (some 5) none (.mov (.t 17))])
 (.seq (.reg [.op (some 18) none (.addr (.t 1) 2), .op (some 19) none (.load (.t 18) none), .op (some 20) none (.len (.t 19)), .op (some 21) none (.bin .add (.t 20) (.k (.int .i64 1))), .op (some 22) none (.mksl 1 [.nilS] 24 (.t 21) (.t 21)), .op (some 6) none (.mov (.t 22))])
 (.seq (.seq (.reg [.op (some 23) none (.addr (.t 1) 2), .op (some 24) none (.load (.t 23) none), .op (some 25) none (.len (.t 24)), .op (some 26) none (.bin .sub (.t 25) (.k (.int .i64 1))), .op (some 7) none (.mov (.t 26))])
 (.blk 0 (.loop [1, 4, 5, 6, 7] L36_1)))
 (.seq (.reg [.op (some 71) none (.mov (.t 6)), .op (some 72) none (.idxs 1 (.t 71) (.k (.int .i64 0))), .op (some 73) none (.load (.t 72) none), .op (some 2) none (.mov (.t 73)), .op (some 3) none (.mov (.k (.int .i64 0)))])
 .ret)))))))⟩
def L40_0 : SC := (.seq (.seq (.reg [.op (some 11) none (.mov (.t 5)), .op (some 12) none (.mov (.t 0)), .op (some 13) none (.len (.t 12)), .op (some 14) none (.bin .lss (.t 11) (.t 13))])
 (.cond (.t 14) .skip
 (.exit 0)))
 (.seq (.blk 1 (.seq (.draw [false, false, false, false, false, false, false, false, true] [.op (some 17) none (.mov (.t 0)), .op (some 18) none (.mov (.t 5)), .op (some 19) none (.idxs 2 (.t 17) (.t 18)), .op (some 20) none (.load (.t 19) (some 2)), .op (some 21) none (.mov (.t 1)), .op (some 22) none (.mov (.t 5)), .op (some 23) none (.idxs 2 (.t 21) (.t 22)), .op (some 24) none (.load (.t 23) (some 2)), .op (some 25) none (.eqag [true, true] true (.t 20) (.t 24))] [[], [], [0, 1], [2, 0, 1], [], [], [4, 5], [6, 4, 5], [3, 2, 0, 1, 7, 6, 4, 5]])
 (.cond (.t 25) (.seq (.reg [.op (some 4) none (.mov (.k (.bool false)))])
 .ret)
 .skip)))
 (.reg [.op (some 15) none (.mov (.t 5)), .op (some 16) none (.bin .add (.t 15) (.k (.int .i64 1))), .op (some 5) none (.mov (.t 16))])))
def mf40 : SF := ⟨26, [(.t 4)],
 (.seq (.reg [.op (some 4) none (.mov (.k (.bool false)))])
 (.seq (.seq (.reg [.op (some 6) none (.mov (.t 0)), .op (some 7) none (.len (.t 6)), .op (some 8) none (.mov (.t 1)), .op (some 9) none (.len (.t 8)), .op (some 10) none (.bin .neq (.t 7) (.t 9))])
 (.cond (.t 10) (.seq (.reg [.op (some 4) none (.mov (.k (.bool false)))])
 .ret)
 .skip))
 (.seq (.seq (.reg [.op (some 5) none (.mov (.k (.int .i64 0)))])
 (.blk 0 (.loop [0, 1, 5] L40_0)))
 (.seq (.reg [.op (some 4) none (.mov (.k (.bool true)))])
 .ret))))⟩
def mf43 : SF := ⟨42, [(.t 6), (.t 7), (.t 8)],
 (.seq (.reg [.op (some 3) none (.box (.t 0) 6), .op (some 6) none (.mov (.k (.int .i64 0))), .op (some 7) none (.mov (.k (.int .i64 0))), .op (some 8) none (.mov (.k (.int .i64 0)))])
 (.seq (.seq (.reg [.op (some 10) none (.load (.t 3) (some 6)), .call (some 11) none (.k (.fn (.func 64) [] [])) [(.t 10)], .op (some 12) none (.un .not (.t 11)), .op (some 13) none (.mov (.t 12)), .op (some 14) (some (13, false)) (.mov (.t 1)), .op (some 15) (some (13, false)) (.addr (.t 3) 1), .op (some 16) (some (13, false)) (.load (.t 15) none), .op (some 17) (some (13, false)) (.len (.t 16)), .op (some 18) (some (13, false)) (.bin .sub (.t 17) (.k (.int .i64 1))), .call (some 19) (some (13, false)) (.k (.fn (.func 65) [] [])) [(.t 14), (.k (.int .i64 0)), (.t 18)], .op (some 20) (some (13, false)) (.un .not (.t 19)), .op (some 21) none (.pick (.t 13) (.k (.bool true)) (.t 20)), .op (some 22) none (.mov (.t 21)), .op (some 23) (some (22, false)) (.mov (.t 2)), .op (some 24) (some (22, false)) (.addr (.t 3) 2), .op (some 25) (some (22, false)) (.load (.t 24) none), .op (some 26) (some (22, false)) (.len (.t 25)), .op (some 27) (some (22, false)) (.bin .sub (.t 26) (.k (.int .i64 1))), .call (some 28) (some (22, false)) (.k (.fn (.func 65) [] [])) [(.t 23), (.k (.int .i64 (-1))), (.t 27)], .op (some 29) (some (22, false)) (.un .not (.t 28)), .op (some 30) none (.pick (.t 22) (.k (.bool true)) (.t 29))])
 (.cond (.t 30) (.seq (.reg [.op (some 6) none (.mov (.k (.int .i64 0))), .op (some 7) none (.mov (.k (.int .i64 0))), .op (some 8) none (.mov (.k (.int .i64 2)))])
 .ret)
 .skip))
 (.seq (.reg [.op (some 31) none (.load (.t 3) (some 6)), .op (some 32) none (.build [.nilS, .nilS, .nilS, .nilS, (.int .i64 0), .nilS] [(0, 6, (.t 31))]), .op (some 33) none (.box (.t 32) 6), .op (some 9) none (.mov (.t 33))])
 (.seq (.reg [.op (some 34) none (.mov (.t 9)), .op (some 35) none (.mov (.t 1)), .op (some 36) none (.mov (.t 2)), .call (some 37) none (.k (.fn (.func 92) [] [])) [(.t 34), (.t 35), (.t 36), (.k (.fn (.func 93) [] []))], .op (some 38) none (.mov (.t 9)), .op (some 39) none (.mov (.t 1)), .op (some 40) none (.mov (.t 2)), .call (some 41) none (.k (.fn (.func 92) [] [])) [(.t 38), (.t 39), (.t 40), (.k (.fn (.func 94) [] []))], .op (some 6) none (.mov (.t 37)), .op (some 7) none (.mov (.t 41)), .op (some 8) none (.mov (.k (.int .i64 0)))])
 .ret))))⟩
def L47_0 : SC := (.seq (.seq (.reg [.op (some 16) none (.mov (.t 10)), .op (some 17) none (.addr (.t 3) 2), .op (some 18) none (.load (.t 17) none), .op (some 19) none (.len (.t 18)), .op (some 20) none (.bin .lss (.t 16) (.t 19))])
 (.cond (.t 20) .skip
 (.exit 0)))
 (.seq (.blk 1 (.seq (.reg [.op (some 23) none (.load (.t 3) (some 6)), .op (some 24) none (.mov (.t 1)), .op (some 25) none (.mov (.t 2)), .op (some 26) none (.mov (.t 10)), .call (some 27) none (.k (.fn (.func 48) [] [])) [(.t 23), (.t 24), (.t 25), (.t 26)], .op (some 11) none (.alloc [(.int .i64 0), (.int .i64 0), (.int .i64 0), (.int .i64 0), (.int .i64 0), (.int .i64 0)]), .op none none (.store (.t 11) (.t 27) 6)])
 (.seq (.seq (.draw [false, false, false, true, true, false, false, false, false, true, true] [.op (some 28) none (.mov (.t 8)), .op (some 29) none (.mov (.t 10)), .op (some 30) none (.bin .sub (.t 29) (.k (.int .i64 1))), .op (some 31) none (.bin .eql (.t 28) (.t 30)), .op (some 32) none (.mov (.t 31)), .op (some 33) (some (32, true)) (.load (.t 3) (some 6)), .op (some 34) (some (32, true)) (.mov (.t 1)), .call (some 35) (some (32, true)) (.k (.fn (.func 28) [] [])) [(.t 33), (.t 34)], .op (some 36) (some (32, true)) (.load (.t 11) (some 6)), .call (some 37) (some (32, true)) (.k (.fn (.func 70) [] [])) [(.t 35), (.t 36)], .op (some 38) none (.pick (.t 32) (.t 37) (.k (.bool false)))] [[], [], [1], [0, 2, 1], [3, 0, 2, 1], [4, 3, 0, 2, 1], [4, 3, 0, 2, 1], [5, 4, 3, 0, 2, 1, 6], [4, 3, 0, 2, 1], [7, 5, 4, 3, 0, 2, 1, 6, 8], [4, 3, 0, 2, 1, 9, 7, 5, 6, 8]])
 (.cond (.t 38) (.reg [.op (some 39) none (.mov (.t 10)), .op (some 8) none (.mov (.t 39))])
 .skip))
 (.seq (.draw [false, false, false, true, true, false, false, false, false, true, true] [.op (some 40) none (.mov (.t 9)), .op (some 41) none (.mov (.t 10)), .op (some 42) none (.bin .sub (.t 41) (.k (.int .i64 1))), .op (some 43) none (.bin .eql (.t 40) (.t 42)), .op (some 44) none (.mov (.t 43)), .op (some 45) (some (44, true)) (.load (.t 3) (some 6)), .op (some 46) (some (44, true)) (.mov (.t 1)), .call (some 47) (some (44, true)) (.k (.fn (.func 28) [] [])) [(.t 45), (.t 46)], .op (some 48) (some (44, true)) (.load (.t 11) (some 6)), .call (some 49) (some (44, true)) (.k (.fn (.func 96) [] [])) [(.t 47), (.t 48)], .op (some 50) none (.pick (.t 44) (.t 49) (.k (.bool false)))] [[], [], [1], [0, 2, 1], [3, 0, 2, 1], [4, 3, 0, 2, 1], [4, 3, 0, 2, 1], [5, 4, 3, 0, 2, 1, 6], [4, 3, 0, 2, 1], [7, 5, 4, 3, 0, 2, 1, 6, 8], [4, 3, 0, 2, 1, 9, 7, 5, 6, 8]])
 (.cond (.t 50) (.reg [.op (some 51) none (.mov (.t 10)), .op (some 9) none (.mov (.t 51))])
 .skip)))))
 (.reg [.op (some 21) none (.mov (.t 10)), .op (some 22) none (.bin .add (.t 21) (.k (.int .i64 1))), .op (some 10) none (.mov (.t 22))])))
def mf47 : SF := ⟨54, [(.t 6), (.t 7)],
 (.seq (.reg [.op (some 3) none (.box (.t 0) 6), .op (some 6) none (.mov (.k (.int .i64 0))), .op (some 7) none (.mov (.k (.int .i64 0)))])
 (.seq (.reg [.op (some 12) none (.mov (.t 2)), .op (some 13) none (.mov (.t 2)), .op (some 8) none (.mov (.t 12)), .op (some 9) none (.mov (.t 13))])
 (.seq (.seq (.reg [.op (some 14) none (.mov (.t 2)), .op (some 15) none (.bin .add (.t 14) (.k (.int .i64 1))), .op (some 10) none (.mov (.t 15))])
 (.blk 0 (.loop [1, 2, 3, 8, 9, 10] L47_0)))
 (.seq (.reg [.op (some 52) none (.mov (.t 8)), .op (some 53) none (.mov (.t 9)), .op (some 6) none (.mov (.t 52)), .op (some 7) none (.mov (.t 53))])
 .ret))))⟩
def L48_0 : SC := (.seq (.seq (.reg [.op (some 21) none (.mov (.t 10)), .op (some 22) none (.mov (.t 3)), .op (some 23) none (.bin .leq (.t 21) (.t 22))])
 (.cond (.t 23) .skip
 (.exit 0)))
 (.seq (.blk 1 (.draw [false, false, false, false, false, false, false, false, false, true, true] [.op (some 26) none (.load (.t 4) (some 6)), .op (some 27) none (.mov (.t 1)), .call (some 28) none (.k (.fn (.func 28) [] [])) [(.t 26), (.t 27)], .op (some 29) none (.load (.t 9) (some 6)), .op (some 30) none (.addr (.t 4) 2), .op (some 31) none (.load (.t 30) none), .op (some 32) none (.mov (.t 10)), .op (some 33) none (.idxs 7 (.t 31) (.t 32)), .op (some 34) none (.load (.t 33) (some 7)), .call (some 35) none (.k (.fn (.func 18) [] [])) [(.t 28), (.t 29), (.t 34)], .op none none (.store (.t 9) (.t 35) 6)] [[], [], [0, 1], [], [], [4], [], [5, 4, 6], [7, 5, 4, 6], [2, 0, 1, 3, 8, 7, 5, 4, 6], [9, 2, 0, 1, 3, 8, 7, 5, 4, 6]]))
 (.reg [.op (some 24) none (.mov (.t 10)), .op (some 25) none (.bin .add (.t 24) (.k (.int .i64 1))), .op (some 10) none (.mov (.t 25))])))
def mf48 : SF := ⟨37, [(.c 8 (some 6))],
 (.seq (.reg [.op (some 4) none (.box (.t 0) 6), .op (some 8) none (.alloc [(.int .i64 0), (.int .i64 0), (.int .i64 0), (.int .i64 0), (.int .i64 0), (.int .i64 0)])])
 (.seq (.reg [.op (some 9) none (.alloc [(.int .i64 0), (.int .i64 0), (.int .i64 0), (.int .i64 0), (.int .i64 0), (.int .i64 0)])])
 (.seq (.seq (.reg [.op (some 11) none (.mov (.t 2)), .op (some 12) none (.bin .lss (.t 11) (.k (.int .i64 0)))])
 (.cond (.t 12) (.reg [.op (some 13) none (.addr (.t 4) 1), .op (some 14) none (.load (.t 13) none), .op (some 15) none (.mov (.t 1)), .op (some 16) none (.idxs 7 (.t 14) (.t 15)), .op (some 17) none (.addr (.t 16) 1), .op (some 18) none (.load (.t 17) (some 6)), .op none none (.store (.t 9) (.t 18) 6)])
 .skip))
 (.seq (.seq (.reg [.op (some 19) none (.mov (.t 2)), .op (some 20) none (.bin .add (.t 19) (.k (.int .i64 1))), .op (some 10) none (.mov (.t 20))])
 (.blk 0 (.loop [1, 3, 4, 8, 9, 10] L48_0)))
 (.seq (.reg [.op (some 36) none (.load (.t 9) (some 6)), .op none none (.store (.t 8) (.t 36) 6)])
 .ret)))))⟩
def mf54 : SF := ⟨31, [(.t 2)],
 (.seq (.reg [.op (some 1) none (.box (.t 0) 8), .op (some 2) none (.mov (.k (.bool false)))])
 (.seq (.reg [.op (some 3) none (.addr (.t 1) 0), .op (some 4) none (.load (.t 3) none), .call (some 5) none (.k (.fn (.func 65) [] [])) [(.t 4), (.k (.int .i64 0)), (.k (.int .i64 10000000))], .op (some 6) none (.mov (.t 5)), .op (some 7) (some (6, true)) (.addr (.t 1) 1), .op (some 8) (some (6, true)) (.load (.t 7) none), .call (some 9) (some (6, true)) (.k (.fn (.func 65) [] [])) [(.t 8), (.k (.int .i64 0)), (.k (.int .i64 10000000))], .op (some 10) none (.pick (.t 6) (.t 9) (.k (.bool false))), .op (some 11) none (.mov (.t 10)), .op (some 12) (some (11, true)) (.addr (.t 1) 2), .op (some 13) (some (11, true)) (.load (.t 12) none), .call (some 14) (some (11, true)) (.k (.fn (.func 65) [] [])) [(.t 13), (.k (.int .i64 0)), (.k (.int .i64 10000000))], .op (some 15) none (.pick (.t 11) (.t 14) (.k (.bool false))), .op (some 16) none (.mov (.t 15)), .op (some 17) (some (16, true)) (.addr (.t 1) 3), .op (some 18) (some (16, true)) (.load (.t 17) (some 2)), .call (some 19) (some (16, true)) (.k (.fn (.func 90) [] [])) [(.t 18), (.k (.int .i64 0)), (.k (.int .i64 10000))], .op (some 20) none (.pick (.t 16) (.t 19) (.k (.bool false))), .op (some 21) none (.mov (.t 20)), .op (some 22) (some (21, true)) (.addr (.t 1) 5), .op (some 23) (some (21, true)) (.load (.t 22) (some 2)), .call (some 24) (some (21, true)) (.k (.fn (.func 90) [] [])) [(.t 23), (.k (.int .i64 0)), (.k (.int .i64 10000))], .op (some 25) none (.pick (.t 21) (.t 24) (.k (.bool false))), .op (some 26) none (.mov (.t 25)), .op (some 27) (some (26, true)) (.addr (.t 1) 7), .op (some 28) (some (26, true)) (.load (.t 27) none), .call (some 29) (some (26, true)) (.k (.fn (.func 65) [] [])) [(.t 28), (.k (.int .i64 0)), (.k (.int .i64 1000))], .op (some 30) none (.pick (.t 26) (.t 29) (.k (.bool false))), .op (some 2) none (.mov (.t 30))])
 .ret))⟩
def mf55 : SF := ⟨16, [(.t 2)],
 (.seq (.reg [.op (some 1) none (.box (.t 0) 6), .op (some 2) none (.mov (.k (.bool false)))])
 (.seq (.reg [.op (some 3) none (.addr (.t 1) 0), .op (some 4) none (.load (.t 3) (some 2)), .call (some 5) none (.k (.fn (.func 90) [] [])) [(.t 4), (.k (.int .i64 0)), (.k (.int .i64 10000000))], .op (some 6) none (.mov (.t 5)), .op (some 7) (some (6, true)) (.addr (.t 1) 2), .op (some 8) (some (6, true)) (.load (.t 7) (some 2)), .call (some 9) (some (6, true)) (.k (.fn (.func 90) [] [])) [(.t 8), (.k (.int .i64 0)), (.k (.int .i64 10000000))], .op (some 10) none (.pick (.t 6) (.t 9) (.k (.bool false))), .op (some 11) none (.mov (.t 10)), .op (some 12) (some (11, true)) (.addr (.t 1) 4), .op (some 13) (some (11, true)) (.load (.t 12) (some 2)), .call (some 14) (some (11, true)) (.k (.fn (.func 90) [] [])) [(.t 13), (.k (.int .i64 0)), (.k (.int .i64 10000000))], .op (some 15) none (.pick (.t 11) (.t 14) (.k (.bool false))), .op (some 2) none (.mov (.t 15))])
 .ret))⟩
def mf56 : SF := ⟨19, [(.t 2)],
 (.seq (.reg [.op (some 1) none (.box (.t 0) 7), .op (some 2) none (.mov (.k (.bool false)))])
 (.seq (.reg [.op (some 3) none (.addr (.t 1) 0), .op (some 4) none (.load (.t 3) (some 2)), .call (some 5) none (.k (.fn (.func 90) [] [])) [(.t 4), (.k (.int .i64 0)), (.k (.int .i64 1440))], .op (some 6) none (.mov (.t 5)), .op (some 7) (some (6, true)) (.addr (.t 1) 2), .op (some 8) (some (6, true)) (.load (.t 7) (some 2)), .call (some 9) (some (6, true)) (.k (.fn (.func 90) [] [])) [(.t 8), (.k (.int .i64 0)), (.k (.int .i64 200))], .op (some 10) none (.pick (.t 6) (.t 9) (.k (.bool false))), .op (some 11) none (.mov (.t 10)), .op (some 12) (some (11, true)) (.addr (.t 1) 4), .op (some 13) (some (11, true)) (.load (.t 12) (some 2)), .op (some 14) (some (11, true)) (.addr (.t 1) 2), .op (some 15) (some (11, true)) (.addr (.t 14) 1), .op (some 16) (some (11, true)) (.load (.t 15) none), .call (some 17) (some (11, true)) (.k (.fn (.func 90) [] [])) [(.t 13), (.k (.int .i64 0)), (.t 16)], .op (some 18) none (.pick (.t 11) (.t 17) (.k (.bool false))), .op (some 2) none (.mov (.t 18))])
 .ret))⟩
def D57_0 : List MIx := [.op (some 47) none (.addr (.t 4) 0), .op (some 48) none (.load (.t 47) (some 2)), .op (some 49) none (.addr (.t 5) 0), .op (some 50) none (.load (.t 49) (some 2)), .op (some 51) none (.bslice 2 [(.int .i64 0), (.int .i64 0)] 2 [(0, 2, (.t 48)), (2, 2, (.t 50))]), .call (some 52) none (.k (.fn (.func 107) [] [])) [(.t 51)], .op (some 53) none (.addr (.t 4) 2), .op (some 54) none (.load (.t 53) (some 2)), .op (some 55) none (.addr (.t 5) 2), .op (some 56) none (.load (.t 55) (some 2)), .op (some 57) none (.bslice 2 [(.int .i64 0), (.int .i64 0)] 2 [(0, 2, (.t 54)), (2, 2, (.t 56))]), .call (some 58) none (.k (.fn (.func 107) [] [])) [(.t 57)], .op (some 59) none (.addr (.t 4) 4), .op (some 60) none (.load (.t 59) (some 2)), .op (some 61) none (.load (.t 7) (some 2)), .op (some 62) none (.bslice 2 [(.int .i64 0), (.int .i64 0)] 2 [(0, 2, (.t 60)), (2, 2, (.t 61))]), .call (some 63) none (.k (.fn (.func 107) [] [])) [(.t 62)], .op (some 64) none (.build [(.int .i64 0), (.int .i64 0), (.int .i64 0), (.int .i64 0), (.int .i64 0), (.int .i64 0)] [(0, 2, (.t 52)), (2, 2, (.t 58)), (4, 2, (.t 63))]), .op none none (.store (.t 6) (.t 64) 6)]
def B57_0 : List (List Nat) := [[], [0], [], [2], [1, 0, 3, 2], [4, 1, 0, 3, 2], [], [6], [], [8], [7, 6, 9, 8], [10, 7, 6, 9, 8, 5, 4, 1, 0, 3, 2], [], [12], [], [13, 12, 14], [15, 13, 12, 14, 11, 10, 7, 6, 9, 8, 5, 4, 1, 0, 3, 2], [5, 4, 1, 0, 3, 2, 11, 10, 7, 6, 9, 8, 16, 15, 13, 12, 14], [17, 5, 4, 1, 0, 3, 2, 11, 10, 7, 6, 9, 8, 16, 15, 13, 12, 14]]
def mf57 : SF := ⟨65, [(.c 6 (some 6))],
 (.seq (.reg [.op (some 3) none (.box (.t 0) 8), .op (some 4) none (.box (.t 1) 6), .op (some 5) none (.box (.t 2) 7), .op (some 6) none (.alloc [(.int .i64 0), (.int .i64 0), (.int .i64 0), (.int .i64 0), (.int .i64 0), (.int .i64 0)])])
 (.seq (.reg [.op (some 8) none (.addr (.t 3) 3), .op (some 9) none (.addr (.t 8) 0), .op (some 10) none (.load (.t 9) none), .op (some 11) none (.addr (.t 5) 4), .op (some 12) none (.addr (.t 11) 0), .op (some 13) none (.load (.t 12) none), .op (some 14) none (.bin .mul (.t 10) (.t 13)), .op (some 15) none (.addr (.t 3) 5), .op (some 16) none (.addr (.t 15) 0), .op (some 17) none (.load (.t 16) none), .op (some 18) none (.bin .add (.t 14) (.t 17)), .op (some 19) none (.addr (.t 3) 3), .op (some 20) none (.addr (.t 19) 1), .op (some 21) none (.load (.t 20) none), .op (some 22) none (.addr (.t 5) 4), .op (some 23) none (.addr (.t 22) 1), .op (some 24) none (.load (.t 23) none), .op (some 25) none (.bin .mul (.t 21) (.t 24)), .op (some 26) none (.addr (.t 3) 5), .op (some 27) none (.addr (.t 26) 1), .op (some 28) none (.load (.t 27) none), .op (some 29) none (.bin .add (.t 25) (.t 28)), .op (some 30) none (.build [(.int .i64 0), (.int .i64 0)] [(0, 1, (.t 18)), (1, 1, (.t 29))]), .op (some 7) none (.alloc [(.int .i64 0), (.int .i64 0)]), .op none none (.store (.t 7) (.t 30) 2)])
 (.seq (.seq (.reg [.op (some 31) none (.addr (.t 5) 6), .op (some 32) none (.load (.t 31) none)])
 (.cond (.t 32) (.reg [.op (some 33) none (.addr (.t 7) 0), .op (some 34) none (.load (.t 33) none), .op (some 35) none (.addr (.t 3) 7), .op (some 36) none (.load (.t 35) none), .op (some 37) none (.bin .mul (.t 34) (.t 36)), .op (some 38) none (.bin .quo (.t 37) (.k (.int .i64 1000))), .op (some 39) none (.addr (.t 7) 1), .op (some 40) none (.load (.t 39) none), .op (some 41) none (.addr (.t 3) 7), .op (some 42) none (.load (.t 41) none), .op (some 43) none (.bin .mul (.t 40) (.t 42)), .op (some 44) none (.bin .add (.t 43) (.k (.int .i64 999))), .op (some 45) none (.bin .quo (.t 44) (.k (.int .i64 1000))), .op (some 46) none (.build [(.int .i64 0), (.int .i64 0)] [(0, 1, (.t 38)), (1, 1, (.t 45))]), .op none none (.store (.t 7) (.t 46) 2)])
 .skip))
 (.seq (.draw [] D57_0 B57_0)
 .ret))))⟩
def mf58 : SF := ⟨15, [(.t 6)],
 (.seq (.reg [.op (some 6) none (.mov (.k (.bool false)))])
 (.seq (.reg [.op (some 7) none (.mov (.t 0)), .op (some 8) none (.mov (.t 1)), .op (some 9) none (.bin .geq (.t 7) (.t 8)), .op (some 10) none (.mov (.t 9)), .op (some 11) (some (10, true)) (.mov (.t 0)), .op (some 12) (some (10, true)) (.mov (.t 2)), .op (some 13) (some (10, true)) (.bin .leq (.t 11) (.t 12)), .op (some 14) none (.pick (.t 10) (.t 13) (.k (.bool false))), .op (some 6) none (.mov (.t 14))])
 .ret))⟩
def mf59 : SF := ⟨21, [(.t 4)],
 (.seq (.reg [.op (some 2) none (.box (.t 0) 2), .op (some 4) none (.mov (.k (.bool false)))])
 (.seq (.reg [.op (some 5) none (.addr (.t 2) 0), .op (some 6) none (.load (.t 5) none), .op (some 7) none (.bin .geq (.t 6) (.k (.int .i64 0))), .op (some 8) none (.mov (.t 7)), .op (some 9) (some (8, true)) (.addr (.t 2) 0), .op (some 10) (some (8, true)) (.load (.t 9) none), .op (some 11) (some (8, true)) (.addr (.t 2) 1), .op (some 12) (some (8, true)) (.load (.t 11) none), .op (some 13) (some (8, true)) (.bin .leq (.t 10) (.t 12)), .op (some 14) none (.pick (.t 8) (.t 13) (.k (.bool false))), .op (some 15) none (.mov (.t 14)), .op (some 16) (some (15, true)) (.addr (.t 2) 1), .op (some 17) (some (15, true)) (.load (.t 16) none), .op (some 18) (some (15, true)) (.mov (.t 1)), .op (some 19) (some (15, true)) (.bin .leq (.t 17) (.t 18)), .op (some 20) none (.pick (.t 15) (.t 19) (.k (.bool false))), .op (some 4) none (.mov (.t 20))])
 .ret))⟩
def mf60 : SF := ⟨4, [(.c 0 (some 8))],
 (.seq (.reg [.op (some 0) none (.alloc [(.int .i64 0), (.int .i64 0), (.int .i64 0), (.int .i64 0), (.int .i64 0), (.int .i64 0), (.int .i64 0), (.int .i64 0)])])
 (.seq (.reg [.op (some 1) none (.build [(.int .i64 0), (.int .i64 0)] [(0, 1, (.k (.int .i64 2))), (1, 1, (.k (.int .i64 4)))]), .op (some 2) none (.build [(.int .i64 0), (.int .i64 0)] [(0, 1, (.k (.int .i64 1))), (1, 1, (.k (.int .i64 3)))]), .op (some 3) none (.build [(.int .i64 0), (.int .i64 0), (.int .i64 0), (.int .i64 0), (.int .i64 0), (.int .i64 0), (.int .i64 0), (.int .i64 0)] [(0, 1, (.k (.int .i64 1000))), (1, 1, (.k (.int .i64 40))), (2, 1, (.k (.int .i64 100))), (3, 2, (.t 1)), (5, 2, (.t 2)), (7, 1, (.k (.int .i64 500)))]), .op none none (.store (.t 0) (.t 3) 8)])
 .ret))⟩
def mf61 : SF := ⟨8, [(.c 2 (some 7))],
 (.seq (.reg [.op (some 2) none (.alloc [(.int .i64 0), (.int .i64 0), (.int .i64 0), (.int .i64 0), (.int .i64 0), (.int .i64 0), (.bool false)])])
 (.seq (.reg [.op (some 3) none (.build [(.int .i64 0), (.int .i64 0)] [(0, 1, (.k (.int .i64 200))), (1, 1, (.k (.int .i64 250)))]), .op (some 4) none (.build [(.int .i64 0), (.int .i64 0)] [(0, 1, (.k (.int .i64 6))), (1, 1, (.k (.int .i64 8)))]), .op (some 5) none (.build [(.int .i64 0), (.int .i64 0)] [(0, 1, (.k (.int .i64 4))), (1, 1, (.k (.int .i64 5)))]), .op (some 6) none (.mov (.t 0)), .op (some 7) none (.build [(.int .i64 0), (.int .i64 0), (.int .i64 0), (.int .i64 0), (.int .i64 0), (.int .i64 0), (.bool false)] [(0, 2, (.t 3)), (2, 2, (.t 4)), (4, 2, (.t 5)), (6, 1, (.t 6))]), .op none none (.store (.t 2) (.t 7) 7)])
 .ret))⟩
def mf62 : SF := ⟨22, [(.c 0 (some 6))],
 (.seq (.reg [.op (some 0) none (.alloc [.nilS, .nilS, .nilS, .nilS, (.int .i64 0), .nilS])])
 (.seq (.reg [.call (some 1) none (.k (.fn (.func 60) [] [])) [], .op (some 2) none (.bslice 8 [(.int .i64 0), (.int .i64 0), (.int .i64 0), (.int .i64 0), (.int .i64 0), (.int .i64 0), (.int .i64 0), (.int .i64 0)] 1 [(0, 8, (.t 1))]), .op (some 3) none (.build [(.int .i64 0), (.int .i64 0)] [(0, 1, (.k (.int .i64 300))), (1, 1, (.k (.int .i64 300)))]), .op (some 4) none (.build [(.int .i64 0), (.int .i64 0)] [(0, 1, (.k (.int .i64 10))), (1, 1, (.k (.int .i64 10)))]), .op (some 5) none (.build [(.int .i64 0), (.int .i64 0)] [(0, 1, (.k (.int .i64 40))), (1, 1, (.k (.int .i64 50)))]), .op (some 6) none (.build [(.int .i64 0), (.int .i64 0), (.int .i64 0), (.int .i64 0), (.int .i64 0), (.int .i64 0)] [(0, 2, (.t 3)), (2, 2, (.t 4)), (4, 2, (.t 5))]), .op (some 7) none (.build [(.int .i64 0), (.int .i64 0), (.int .i64 0), (.int .i64 0), (.int .i64 0), (.int .i64 0), (.int .i64 0)] [(1, 6, (.t 6))]), .op (some 8) none (.build [(.int .i64 0), (.int .i64 0), (.int .i64 0), (.int .i64 0), (.int .i64 0), (.int .i64 0), (.int .i64 0)] []), .op (some 9) none (.bslice 7 [(.int .i64 0), (.int .i64 0), (.int .i64 0), (.int .i64 0), (.int .i64 0), (.int .i64 0), (.int .i64 0)] 2 [(0, 7, (.t 7)), (7, 7, (.t 8))]), .call (some 10) none (.k (.fn (.func 61) [] [])) [(.k (.bool false))], .call (some 11) none (.k (.fn (.func 61) [] [])) [(.k (.bool true))], .call (some 12) none (.k (.fn (.func 61) [] [])) [(.k (.bool false))], .call (some 13) none (.k (.fn (.func 61) [] [])) [(.k (.bool true))], .call (some 14) none (.k (.fn (.func 61) [] [])) [(.k (.bool false))], .call (some 15) none (.k (.fn (.func 61) [] [])) [(.k (.bool false))], .op (some 16) none (.bslice 7 [(.int .i64 0), (.int .i64 0), (.int .i64 0), (.int .i64 0), (.int .i64 0), (.int .i64 0), (.bool false)] 6 [(0, 7, (.t 10)), (7, 7, (.t 11)), (14, 7, (.t 12)), (21, 7, (.t 13)), (28, 7, (.t 14)), (35, 7, (.t 15))]), .op (some 17) none (.bslice 1 [(.bool false)] 6 [(0, 1, (.k (.bool true))), (1, 1, (.k (.bool true))), (2, 1, (.k (.bool false))), (3, 1, (.k (.bool true))), (4, 1, (.k (.bool true))), (5, 1, (.k (.bool true)))]), .op (some 18) none (.build [(.int .i64 0), (.int .i64 0)] [(0, 1, (.k (.int .i64 0))), (1, 1, (.k (.int .i64 3)))]), .op (some 19) none (.build [(.int .i64 0), (.int .i64 0), (.int .i64 0)] [(0, 1, (.k (.int .i64 1))), (1, 2, (.t 18))]), .op (some 20) none (.bslice 3 [(.int .i64 0), (.int .i64 0), (.int .i64 0)] 1 [(0, 3, (.t 19))]), .op (some 21) none (.build [.nilS, .nilS, .nilS, .nilS, (.int .i64 0), .nilS] [(0, 1, (.t 2)), (1, 1, (.t 9)), (2, 1, (.t 16)), (3, 1, (.t 17)), (4, 1, (.k (.int .i64 1))), (5, 1, (.t 20))]), .op none none (.store (.t 0) (.t 21) 6)])
 .ret))⟩
def mf63 : SF := ⟨18, [(.c 4 (some 2))],
 (.seq (.reg [.op (some 2) none (.box (.t 0) 2), .op (some 3) none (.box (.t 1) 2), .op (some 4) none (.alloc [(.int .i64 0), (.int .i64 0)])])
 (.seq (.reg [.op (some 5) none (.addr (.t 2) 0), .op (some 6) none (.load (.t 5) none), .op (some 7) none (.addr (.t 3) 0), .op (some 8) none (.load (.t 7) none), .op (some 9) none (.bin .add (.t 6) (.t 8)), .op (some 10) none (.minmax true [(.k (.int .i64 10000000)), (.t 9)]), .op (some 11) none (.addr (.t 2) 1), .op (some 12) none (.load (.t 11) none), .op (some 13) none (.addr (.t 3) 1), .op (some 14) none (.load (.t 13) none), .op (some 15) none (.bin .add (.t 12) (.t 14)), .op (some 16) none (.minmax true [(.k (.int .i64 10000000)), (.t 15)]), .op (some 17) none (.build [(.int .i64 0), (.int .i64 0)] [(0, 1, (.t 10)), (1, 1, (.t 16))]), .op none none (.store (.t 4) (.t 17) 2)])
 .ret))⟩
def L64_0 : SC := (.seq (.reg [.op (some 53) none (.bin .lss (.t 52) (.t 51))])
 (.seq (.cond (.t 53) .skip
 (.exit 0))
 (.seq (.blk 1 (.seq (.reg [.op (some 54) none (.idxs 8 (.t 50) (.t 52)), .op (some 55) none (.load (.t 54) (some 8)), .op (some 4) none (.alloc [(.int .i64 0), (.int .i64 0), (.int .i64 0), (.int .i64 0), (.int .i64 0), (.int .i64 0), (.int .i64 0), (.int .i64 0)]), .op none none (.store (.t 4) (.t 55) 8)])
 (.seq (.reg [.op (some 56) none (.load (.t 4) (some 8)), .call (some 57) none (.k (.fn (.func 54) [] [])) [(.t 56)], .op (some 58) none (.un .not (.t 57))])
 (.cond (.t 58) (.seq (.reg [.op (some 2) none (.mov (.k (.bool false)))])
 .ret)
 .skip))))
 (.reg [.op (some 59) none (.bin .add (.t 52) (.k (.int .i64 1))), .op (some 52) none (.mov (.t 59))]))))
def L64_1 : SC := (.seq (.reg [.op (some 64) none (.bin .lss (.t 63) (.t 62))])
 (.seq (.cond (.t 64) .skip
 (.exit 2))
 (.seq (.blk 3 (.seq (.reg [.op (some 65) none (.idxs 7 (.t 61) (.t 63)), .op (some 66) none (.load (.t 65) (some 7)), .op (some 6) none (.alloc [(.int .i64 0), (.int .i64 0), (.int .i64 0), (.int .i64 0), (.int .i64 0), (.int .i64 0), (.int .i64 0)]), .op none none (.store (.t 6) (.t 66) 7)])
 (.seq (.reg [.op (some 67) none (.addr (.t 6) 0), .op (some 68) none (.load (.t 67) none), .op (some 69) none (.addr (.t 1) 0), .op (some 70) none (.load (.t 69) none), .op (some 71) none (.len (.t 70)), .op (some 72) none (.bin .sub (.t 71) (.k (.int .i64 1))), .call (some 73) none (.k (.fn (.func 65) [] [])) [(.t 68), (.k (.int .i64 0)), (.t 72)], .op (some 74) none (.un .not (.t 73)), .op (some 75) none (.mov (.t 74)), .op (some 76) (some (75, false)) (.addr (.t 6) 1), .op (some 77) (some (75, false)) (.load (.t 76) (some 6)), .call (some 78) (some (75, false)) (.k (.fn (.func 55) [] [])) [(.t 77)], .op (some 79) (some (75, false)) (.un .not (.t 78)), .op (some 80) none (.pick (.t 75) (.k (.bool true)) (.t 79))])
 (.cond (.t 80) (.seq (.reg [.op (some 2) none (.mov (.k (.bool false)))])
 .ret)
 .skip))))
 (.reg [.op (some 81) none (.bin .add (.t 63) (.k (.int .i64 1))), .op (some 63) none (.mov (.t 81))]))))
def L64_2 : SC := (.seq (.reg [.op (some 86) none (.bin .lss (.t 85) (.t 84))])
 (.seq (.cond (.t 86) .skip
 (.exit 4))
 (.seq (.blk 5 (.seq (.reg [.op (some 87) none (.idxs 7 (.t 83) (.t 85)), .op (some 88) none (.load (.t 87) (some 7)), .op (some 8) none (.alloc [(.int .i64 0), (.int .i64 0), (.int .i64 0), (.int .i64 0), (.int .i64 0), (.int .i64 0), (.bool false)]), .op none none (.store (.t 8) (.t 88) 7)])
 (.seq (.reg [.op (some 89) none (.load (.t 8) (some 7)), .call (some 90) none (.k (.fn (.func 56) [] [])) [(.t 89)], .op (some 91) none (.un .not (.t 90))])
 (.cond (.t 91) (.seq (.reg [.op (some 2) none (.mov (.k (.bool false)))])
 .ret)
 .skip))))
 (.reg [.op (some 92) none (.bin .add (.t 85) (.k (.int .i64 1))), .op (some 85) none (.mov (.t 92))]))))
def mf64 : SF := ⟨98, [(.t 2)],
 (.seq (.reg [.op (some 1) none (.box (.t 0) 6), .op (some 2) none (.mov (.k (.bool false)))])
 (.seq (.seq (.reg [.op (some 9) none (.addr (.t 1) 0), .op (some 10) none (.load (.t 9) none), .op (some 11) none (.len (.t 10)), .call (some 12) none (.k (.fn (.func 65) [] [])) [(.t 11), (.k (.int .i64 1)), (.k (.int .i64 8))], .op (some 13) none (.un .not (.t 12)), .op (some 14) none (.mov (.t 13)), .op (some 15) (some (14, false)) (.addr (.t 1) 1), .op (some 16) (some (14, false)) (.load (.t 15) none), .op (some 17) (some (14, false)) (.len (.t 16)), .call (some 18) (some (14, false)) (.k (.fn (.func 65) [] [])) [(.t 17), (.k (.int .i64 1)), (.k (.int .i64 5))], .op (some 19) (some (14, false)) (.un .not (.t 18)), .op (some 20) none (.pick (.t 14) (.k (.bool true)) (.t 19)), .op (some 21) none (.mov (.t 20)), .op (some 22) (some (21, false)) (.addr (.t 1) 2), .op (some 23) (some (21, false)) (.load (.t 22) none), .op (some 24) (some (21, false)) (.len (.t 23)), .call (some 25) (some (21, false)) (.k (.fn (.func 65) [] [])) [(.t 24), (.k (.int .i64 1)), (.k (.int .i64 30))], .op (some 26) (some (21, false)) (.un .not (.t 25)), .op (some 27) none (.pick (.t 21) (.k (.bool true)) (.t 26)), .op (some 28) none (.mov (.t 27)), .op (some 29) (some (28, false)) (.addr (.t 1) 3), .op (some 30) (some (28, false)) (.load (.t 29) none), .op (some 31) (some (28, false)) (.len (.t 30)), .op (some 32) (some (28, false)) (.addr (.t 1) 2), .op (some 33) (some (28, false)) (.load (.t 32) none), .op (some 34) (some (28, false)) (.len (.t 33)), .op (some 35) (some (28, false)) (.bin .neq (.t 31) (.t 34)), .op (some 36) none (.pick (.t 28) (.k (.bool true)) (.t 35)), .op (some 37) none (.mov (.t 36)), .op (some 38) (some (37, false)) (.addr (.t 1) 4), .op (some 39) (some (37, false)) (.load (.t 38) none), .call (some 40) (some (37, false)) (.k (.fn (.func 65) [] [])) [(.t 39), (.k (.int .i64 1)), (.k (.int .i64 5))], .op (some 41) (some (37, false)) (.un .not (.t 40)), .op (some 42) none (.pick (.t 37) (.k (.bool true)) (.t 41)), .op (some 43) none (.mov (.t 42)), .op (some 44) (some (43, false)) (.addr (.t 1) 5), .op (some 45) (some (43, false)) (.load (.t 44) none), .op (some 46) (some (43, false)) (.len (.t 45)), .op (some 47) (some (43, false)) (.bin .gtr (.t 46) (.k (.int .i64 8))), .op (some 48) none (.pick (.t 43) (.k (.bool true)) (.t 47))])
 (.cond (.t 48) (.seq (.reg [.op (some 2) none (.mov (.k (.bool false)))])
 .ret)
 .skip))
 (.seq (.seq (.reg [.op (some 49) none (.addr (.t 1) 0), .op (some 50) none (.load (.t 49) none), .op (some 51) none (.len (.t 50)), .op (some 52) none (.mov (.k (.int .i64 0)))])
 (.blk 0 (.loop [1, 50, 51, 52] L64_0)))
 (.seq (.seq (.reg [.op (some 60) none (.addr (.t 1) 1), .op (some 61) none (.load (.t 60) none), .op (some 62) none (.len (.t 61)), .op (some 63) none (.mov (.k (.int .i64 0)))])
 (.blk 2 (.loop [1, 61, 62, 63] L64_1)))
 (.seq (.seq (.reg [.op (some 82) none (.addr (.t 1) 2), .op (some 83) none (.load (.t 82) none), .op (some 84) none (.len (.t 83)), .op (some 85) none (.mov (.k (.int .i64 0)))])
 (.blk 4 (.loop [1, 83, 84, 85] L64_2)))
 (.seq (.reg [.op (some 93) none (.addr (.t 1) 5), .op (some 94) none (.load (.t 93) none), .op (some 95) none (.mkfn (.func 109) [] [(.t 1)]), .call (some 96) none (.k (.fn (.func 108) [] [])) [(.t 94), (.t 95)], .op (some 97) none (.un .not (.t 96)), .op (some 2) none (.mov (.t 97))])
 .ret))))))⟩
def mf65 : SF := ⟨15, [(.t 6)],
 (.seq (.reg [.op (some 6) none (.mov (.k (.bool false)))])
 (.seq (.reg [.op (some 7) none (.mov (.t 0)), .op (some 8) none (.mov (.t 1)), .op (some 9) none (.bin .geq (.t 7) (.t 8)), .op (some 10) none (.mov (.t 9)), .op (some 11) (some (10, true)) (.mov (.t 0)), .op (some 12) (some (10, true)) (.mov (.t 2)), .op (some 13) (some (10, true)) (.bin .leq (.t 11) (.t 12)), .op (some 14) none (.pick (.t 10) (.t 13) (.k (.bool false))), .op (some 6) none (.mov (.t 14))])
 .ret))⟩
def L66_0 : SC := (.seq (.reg [.op (some 4) none (.bin .lss (.t 3) (.k (.int .i64 5)))])
 (.seq (.cond (.t 4) .skip
 (.exit 0))
 (.seq (.blk 1 (.seq (.reg [.op (some 5) none (.mov (.t 3)), .op (some 2) none (.mov (.t 5))])
 (.reg [.op (some 6) none (.mov (.t 2)), .op (some 7) none (.idxa 5 1 (.t 1) (.t 6)), .op none none (.store (.t 7) (.k (.int .i64 (-1))) 1)])))
 (.reg [.op (some 8) none (.bin .add (.t 3) (.k (.int .i64 1))), .op (some 3) none (.mov (.t 8))]))))
def mf66 : SF := ⟨10, [(.c 0 (some 5))],
 (.seq (.reg [.op (some 0) none (.alloc [(.int .i64 0), (.int .i64 0), (.int .i64 0), (.int .i64 0), (.int .i64 0)])])
 (.seq (.reg [.op (some 1) none (.alloc [(.int .i64 0), (.int .i64 0), (.int .i64 0), (.int .i64 0), (.int .i64 0)])])
 (.seq (.seq (.reg [.op (some 3) none (.mov (.k (.int .i64 0)))])
 (.blk 0 (.loop [0, 1, 3] L66_0)))
 (.seq (.reg [.op (some 9) none (.load (.t 1) (some 5)), .op none none (.store (.t 0) (.t 9) 5)])
 .ret))))⟩
def L67_0 : SC := (.seq (.reg [.op (some 16) none (.bin .lss (.t 15) (.t 14))])
 (.seq (.cond (.t 16) .skip
 (.exit 0))
 (.seq (.blk 1 (.seq (.reg [.op (some 17) none (.idxs 1 (.t 13) (.t 15)), .op (some 18) none (.load (.t 17) none), .op (some 12) none (.mov (.t 18))])
 (.draw [false, false, false, false, false, true, true, true] [.op (some 19) none (.mov (.t 12)), .op (some 20) none (.idxa 5 1 (.t 8) (.t 19)), .op (some 21) none (.load (.t 20) none), .op (some 22) none (.mov (.t 1)), .op (some 23) none (.bin .shl (.k (.int .i64 1)) (.t 22)), .op (some 24) none (.bin .or (.t 21) (.t 23)), .op (some 25) none (.idxa 5 1 (.t 8) (.t 19)), .op none none (.store (.t 25) (.t 24) 1)] [[], [0], [1, 0], [], [3], [2, 1, 0, 4, 3], [0, 1, 2, 3, 4, 5], [6, 0, 1, 2, 3, 4, 5]])))
 (.reg [.op (some 26) none (.bin .add (.t 15) (.k (.int .i64 1))), .op (some 15) none (.mov (.t 26))]))))
def mf67 : SF := ⟨34, [(.t 10)],
 (.seq (.reg [.op (some 7) none (.box (.t 2) 5), .op (some 8) none (.box (.t 3) 5), .op (some 10) none (.mov (.k .nilP))])
 (.seq (.seq (.reg [.op (some 13) none (.mov (.t 4)), .op (some 14) none (.len (.t 13)), .op (some 15) none (.mov (.k (.int .i64 0)))])
 (.blk 0 (.loop [0, 1, 4, 7, 8, 13, 14, 15] L67_0)))
 (.seq (.reg [.op (some 27) none (.mov (.t 0)), .op (some 28) none (.mov (.t 1)), .op (some 29) none (.load (.t 7) (some 5)), .op (some 30) none (.mov (.t 4)), .op (some 31) none (.load (.t 8) (some 5)), .op (some 32) none (.build [.nilP, (.int .i64 0), (.int .i64 0), (.int .i64 0), (.int .i64 0), (.int .i64 0), (.int .i64 0), .nilS, (.int .i64 0), (.int .i64 0), (.int .i64 0), (.int .i64 0), (.int .i64 0)] [(0, 1, (.t 27)), (1, 1, (.t 28)), (2, 5, (.t 29)), (7, 1, (.t 30)), (8, 5, (.t 31))]), .op (some 33) none (.box (.t 32) 13), .op (some 10) none (.mov (.t 33))])
 .ret)))⟩
def L68_0 : SC := (.seq (.reg [.op (some 20) none (.bin .lss (.t 19) (.k (.int .i64 4)))])
 (.seq (.cond (.t 20) .skip
 (.exit 0))
 (.seq (.blk 1 (.seq (.reg [.op (some 21) none (.mov (.t 19)), .op (some 22) none (.idx 4 1 false (.t 18) (.t 19)), .op (some 5) none (.mov (.t 21)), .op (some 6) none (.mov (.t 22))])
 (.seq (.reg [.op (some 24) none (.mov (.t 6)), .call (some 25) none (.t 24) [], .op (some 23) none (.mov (.t 25)), .op (some 26) none (.ext (.t 23) 0), .op (some 27) none (.ext (.t 23) 1), .op (some 7) none (.mov (.t 26)), .op (some 8) none (.mov (.t 27))])
 (.seq (.reg [.op (some 28) none (.mov (.t 8))])
 (.cond (.t 28) (.seq (.reg [.op (some 29) none (.mov (.t 0)), .op (some 30) none (.nilck (.t 29)), .op (some 31) none (.addr (.t 30) 1), .op (some 32) none (.load (.t 31) none), .op (some 33) none (.mov (.t 5)), .op (some 34) none (.bin .add (.k (.int .i64 2)) (.t 33)), .op (some 35) none (.mov (.t 7)), .op (some 36) none (.build [(.int .i64 0), (.int .i64 0), (.int .i64 0)] [(0, 1, (.t 32)), (1, 1, (.t 34)), (2, 1, (.t 35))]), .op none none (.store (.t 2) (.t 36) 3), .op (some 3) none (.mov (.k (.bool true)))])
 .ret)
 .skip)))))
 (.reg [.op (some 37) none (.bin .add (.t 19) (.k (.int .i64 1))), .op (some 19) none (.mov (.t 37))]))))
def mf68 : SF := ⟨39, [(.c 2 (some 3)), (.t 3)],
 (.seq (.reg [.op (some 2) none (.alloc [(.int .i64 0), (.int .i64 0), (.int .i64 0)]), .op (some 3) none (.mov (.k (.bool false)))])
 (.seq (.reg [.op (some 9) none (.mov (.t 0)), .op (some 10) none (.mkfn (.func 110) [(.t 9)] []), .op (some 11) none (.mov (.t 0)), .op (some 12) none (.mkfn (.func 111) [(.t 11)] []), .op (some 13) none (.mov (.t 0)), .op (some 14) none (.mkfn (.func 112) [(.t 13)] []), .op (some 15) none (.mov (.t 0)), .op (some 16) none (.mkfn (.func 113) [(.t 15)] []), .op (some 17) none (.build [.nilF, .nilF, .nilF, .nilF] [(0, 1, (.t 10)), (1, 1, (.t 12)), (2, 1, (.t 14)), (3, 1, (.t 16))]), .op (some 4) none (.alloc [.nilF, .nilF, .nilF, .nilF]), .op none none (.store (.t 4) (.t 17) 4)])
 (.seq (.seq (.reg [.op (some 18) none (.load (.t 4) (some 4)), .op (some 19) none (.mov (.k (.int .i64 0)))])
 (.blk 0 (.loop [0, 2, 18, 19] L68_0)))
 (.seq (.reg [.op (some 38) none (.build [(.int .i64 0), (.int .i64 0), (.int .i64 0)] []), .op none none (.store (.t 2) (.t 38) 3), .op (some 3) none (.mov (.k (.bool false)))])
 .ret))))⟩
def L69_0 : SC := (.seq (.reg [.op (some 17) none (.bin .lss (.t 16) (.t 15))])
 (.seq (.cond (.t 17) .skip
 (.exit 0))
 (.seq (.blk 1 (.seq (.reg [.op (some 18) none (.idxs 1 (.t 14) (.t 16)), .op (some 19) none (.load (.t 18) none), .op (some 6) none (.mov (.t 19))])
 (.reg [.op (some 20) none (.mov (.t 6)), .op (some 21) none (.mov (.t 0)), .op (some 22) none (.nilck (.t 21)), .op (some 23) none (.addr (.t 22) 1), .op (some 24) none (.load (.t 23) none), .op (some 25) none (.idxa 5 1 (.t 4) (.t 20)), .op none none (.store (.t 25) (.t 24) 1)])))
 (.reg [.op (some 26) none (.bin .add (.t 16) (.k (.int .i64 1))), .op (some 16) none (.mov (.t 26))]))))
def D69_0 : List MIx := [.op (some 27) none (.load (.t 4) (some 5)), .op (some 28) none (.mov (.t 0)), .op (some 29) none (.nilck (.t 28)), .op (some 30) none (.addr (.t 29) 8), .op (some 31) none (.load (.t 30) (some 5)), .op none none (.store (.t 2) (.t 27) 5), .op none none (.store (.t 3) (.t 31) 5)]
def B69_0 : List (List Nat) := [[], [], [1], [2, 1], [3, 2, 1], [0], [4, 3, 2, 1, 5, 0]]
def mf69 : SF := ⟨32, [(.c 2 (some 5)), (.c 3 (some 5))],
 (.seq (.reg [.op (some 2) none (.alloc [(.int .i64 0), (.int .i64 0), (.int .i64 0), (.int .i64 0), (.int .i64 0)]), .op (some 3) none (.alloc [(.int .i64 0), (.int .i64 0), (.int .i64 0), (.int .i64 0), (.int .i64 0)])])
 (.seq (.reg [.op (some 7) none (.mov (.t 0)), .op (some 8) none (.nilck (.t 7)), .op (some 9) none (.addr (.t 8) 2), .op (some 10) none (.load (.t 9) (some 5)), .op (some 4) none (.alloc [(.int .i64 0), (.int .i64 0), (.int .i64 0), (.int .i64 0), (.int .i64 0)]), .op none none (.store (.t 4) (.t 10) 5)])
 (.seq (.seq (.reg [.op (some 11) none (.mov (.t 0)), .op (some 12) none (.nilck (.t 11)), .op (some 13) none (.addr (.t 12) 7), .op (some 14) none (.load (.t 13) none), .op (some 15) none (.len (.t 14)), .op (some 16) none (.mov (.k (.int .i64 0)))])
 (.blk 0 (.loop [0, 2, 3, 4, 14, 15, 16] L69_0)))
 (.seq (.draw [] D69_0 B69_0)
 .ret))))⟩
def mf70 : SF := ⟨27, [(.t 4)],
 (.seq (.reg [.op (some 2) none (.box (.t 0) 8), .op (some 3) none (.box (.t 1) 6), .op (some 4) none (.mov (.k (.bool false)))])
 (.seq (.reg [.op (some 5) none (.addr (.t 3) 0), .op (some 6) none (.addr (.t 5) 1), .op (some 7) none (.load (.t 6) none), .op (some 8) none (.addr (.t 2) 0), .op (some 9) none (.load (.t 8) none), .op (some 10) none (.bin .leq (.t 7) (.t 9)), .op (some 11) none (.mov (.t 10)), .op (some 12) (some (11, true)) (.addr (.t 3) 2), .op (some 13) (some (11, true)) (.addr (.t 12) 1), .op (some 14) (some (11, true)) (.load (.t 13) none), .op (some 15) (some (11, true)) (.addr (.t 2) 1), .op (some 16) (some (11, true)) (.load (.t 15) none), .op (some 17) (some (11, true)) (.bin .leq (.t 14) (.t 16)), .op (some 18) none (.pick (.t 11) (.t 17) (.k (.bool false))), .op (some 19) none (.mov (.t 18)), .op (some 20) (some (19, true)) (.addr (.t 3) 4), .op (some 21) (some (19, true)) (.addr (.t 20) 1), .op (some 22) (some (19, true)) (.load (.t 21) none), .op (some 23) (some (19, true)) (.addr (.t 2) 2), .op (some 24) (some (19, true)) (.load (.t 23) none), .op (some 25) (some (19, true)) (.bin .leq (.t 22) (.t 24)), .op (some 26) none (.pick (.t 19) (.t 25) (.k (.bool false))), .op (some 4) none (.mov (.t 26))])
 .ret))⟩
def L73_0 : SC := (.seq (.seq (.reg [.op (some 16) none (.mov (.t 6)), .op (some 17) none (.mov (.t 0)), .op (some 18) none (.nilck (.t 17)), .op (some 19) none (.addr (.t 18) 0), .op (some 20) none (.addr (.t 19) 2), .op (some 21) none (.load (.t 20) none), .op (some 22) none (.len (.t 21)), .op (some 23) none (.bin .lss (.t 16) (.t 22))])
 (.cond (.t 23) .skip
 (.exit 2)))
 (.seq (.blk 3 (.reg [.op (some 26) none (.mov (.t 5)), .op (some 27) none (.mov (.t 0)), .op (some 28) none (.mov (.t 4)), .op (some 29) none (.mov (.t 6)), .call (some 30) none (.k (.fn (.func 92) [] [])) [(.t 27), (.t 28), (.t 29), (.k (.fn (.func 93) [] []))], .op (some 31) none (.bslice 1 [(.int .i64 0)] 1 [(0, 1, (.t 30))]), .op (some 32) none (.app 1 [(.int .i64 0)] 8 (.t 26) (.t 31)), .op (some 5) none (.mov (.t 32))]))
 (.reg [.op (some 24) none (.mov (.t 6)), .op (some 25) none (.bin .add (.t 24) (.k (.int .i64 1))), .op (some 6) none (.mov (.t 25))])))
def L73_1 : SC := (.seq (.reg [.op (some 14) none (.bin .lss (.t 13) (.t 12))])
 (.seq (.cond (.t 14) .skip
 (.exit 0))
 (.seq (.blk 1 (.seq (.reg [.op (some 15) none (.mov (.t 13)), .op (some 4) none (.mov (.t 15))])
 (.seq (.reg [.op (some 5) none (.mov (.k .nilS))])
 (.seq (.seq (.reg [.op (some 6) none (.mov (.k (.int .i64 (-1))))])
 (.blk 2 (.loop [0, 3, 4, 5, 6, 12, 13] L73_0)))
 (.reg [.op (some 33) none (.mov (.t 3)), .op (some 34) none (.mov (.t 5)), .op (some 35) none (.bslice 1 [.nilS] 1 [(0, 1, (.t 34))]), .op (some 36) none (.app 1 [.nilS] 24 (.t 33) (.t 35)), .op (some 3) none (.mov (.t 36))])))))
 (.reg [.op (some 37) none (.bin .add (.t 13) (.k (.int .i64 1))), .op (some 13) none (.mov (.t 37))]))))
def mf73 : SF := ⟨39, [(.t 2)],
 (.seq (.reg [.op (some 2) none (.mov (.k .nilS))])
 (.seq (.reg [.op (some 3) none (.mov (.k .nilS))])
 (.seq (.seq (.reg [.op (some 7) none (.mov (.t 0)), .op (some 8) none (.nilck (.t 7)), .op (some 9) none (.addr (.t 8) 0), .op (some 10) none (.addr (.t 9) 1), .op (some 11) none (.load (.t 10) none), .op (some 12) none (.len (.t 11)), .op (some 13) none (.mov (.k (.int .i64 0)))])
 (.blk 0 (.loop [0, 3, 12, 13] L73_1)))
 (.seq (.reg [.op (some 38) none (.mov (.t 3)), .op (some 2) none (.mov (.t 38))])
 .ret))))⟩
def L74_0 : SC := (.seq (.reg [.op (some 14) none (.bin .lss (.t 13) (.t 12))])
 (.seq (.cond (.t 14) .skip
 (.exit 0))
 (.seq (.blk 1 (.seq (.reg [.op (some 15) none (.mov (.t 13)), .op (some 7) none (.mov (.t 15))])
 (.seq (.draw [false, false, false, false, false, false, false, false, false, false, false, false, false, true] [.op (some 16) none (.load (.t 3) none), .op (some 17) none (.mov (.t 7)), .op (some 18) none (.idxs 1 (.t 16) (.t 17)), .op (some 19) none (.load (.t 18) none), .op (some 20) none (.mov (.t 7)), .op (some 21) none (.addr (.t 4) 1), .op (some 22) none (.idxa 5 1 (.t 21) (.t 20)), .op (some 23) none (.load (.t 22) none), .op (some 24) none (.bin .add (.t 23) (.k (.int .i64 1))), .op (some 25) none (.idxs 1 (.t 19) (.t 24)), .op (some 26) none (.load (.t 25) none), .op (some 27) none (.addr (.t 4) 0), .op (some 28) none (.load (.t 27) none), .op (some 29) none (.bin .lss (.t 26) (.t 28))] [[], [], [0, 1], [2, 0, 1], [], [], [5, 4], [6, 5, 4], [7, 6, 5, 4], [3, 2, 0, 1, 8, 7, 6, 5, 4], [9, 3, 2, 0, 1, 8, 7, 6, 5, 4], [], [11], [10, 9, 3, 2, 0, 1, 8, 7, 6, 5, 4, 12, 11]])
 (.cond (.t 29) (.seq (.reg [.op (some 6) none (.mov (.k (.bool false)))])
 .ret)
 .skip))))
 (.reg [.op (some 30) none (.bin .add (.t 13) (.k (.int .i64 1))), .op (some 13) none (.mov (.t 30))]))))
def L74_1 : SC := (.seq (.reg [.op (some 54) none (.bin .lss (.t 53) (.t 52))])
 (.seq (.cond (.t 54) .skip
 (.exit 2))
 (.seq (.blk 3 (.seq (.reg [.op (some 55) none (.idxs 3 (.t 51) (.t 53)), .op (some 56) none (.load (.t 55) (some 3)), .op (some 9) none (.alloc [(.int .i64 0), (.int .i64 0), (.int .i64 0)]), .op none none (.store (.t 9) (.t 56) 3)])
 (.seq (.draw [false, false, false, false, false, true, true, false, false, false, false, false, false, false, false, false, true, true, true, false, false, false, true, true, true] [.op (some 57) none (.addr (.t 9) 1), .op (some 58) none (.addr (.t 57) 1), .op (some 59) none (.load (.t 58) none), .op (some 60) none (.addr (.t 4) 0), .op (some 61) none (.load (.t 60) none), .op (some 62) none (.bin .eql (.t 59) (.t 61)), .op (some 63) none (.mov (.t 62)), .op (some 64) (some (63, true)) (.addr (.t 9) 0), .op (some 65) (some (63, true)) (.load (.t 64) none), .op (some 66) (some (63, true)) (.addr (.t 4) 1), .op (some 67) (some (63, true)) (.idxa 5 1 (.t 66) (.t 65)), .op (some 68) (some (63, true)) (.load (.t 67) none), .op (some 69) (some (63, true)) (.minmax false [(.t 68), (.k (.int .i64 (-1)))]), .op (some 70) (some (63, true)) (.addr (.t 9) 1), .op (some 71) (some (63, true)) (.addr (.t 70) 0), .op (some 72) (some (63, true)) (.load (.t 71) none), .op (some 73) (some (63, true)) (.bin .lss (.t 69) (.t 72)), .op (some 74) none (.pick (.t 63) (.t 73) (.k (.bool false))), .op (some 75) none (.mov (.t 74)), .op (some 76) (some (75, true)) (.mov (.t 1)), .op (some 77) (some (75, true)) (.addr (.t 9) 0), .op (some 78) (some (75, true)) (.load (.t 77) none), .call (some 79) (some (75, true)) (.k (.fn (.func 75) [] [])) [(.t 76), (.t 78)], .op (some 80) (some (75, true)) (.un .not (.t 79)), .op (some 81) none (.pick (.t 75) (.t 80) (.k (.bool false)))] [[], [0], [1, 0], [], [3], [2, 1, 0, 4, 3], [5, 2, 1, 0, 4, 3], [6, 5, 2, 1, 0, 4, 3], [7, 6, 5, 2, 1, 0, 4, 3], [6, 5, 2, 1, 0, 4, 3], [9, 6, 5, 2, 1, 0, 4, 3, 8, 7], [10, 9, 6, 5, 2, 1, 0, 4, 3, 8, 7], [11, 10, 9, 6, 5, 2, 1, 0, 4, 3, 8, 7], [6, 5, 2, 1, 0, 4, 3], [13, 6, 5, 2, 1, 0, 4, 3], [14, 13, 6, 5, 2, 1, 0, 4, 3], [12, 11, 10, 9, 6, 5, 2, 1, 0, 4, 3, 8, 7, 15, 14, 13], [6, 5, 2, 1, 0, 4, 3, 16, 12, 11, 10, 9, 8, 7, 15, 14, 13], [17, 6, 5, 2, 1, 0, 4, 3, 16, 12, 11, 10, 9, 8, 7, 15, 14, 13], [18, 17, 6, 5, 2, 1, 0, 4, 3, 16, 12, 11, 10, 9, 8, 7, 15, 14, 13], [18, 17, 6, 5, 2, 1, 0, 4, 3, 16, 12, 11, 10, 9, 8, 7, 15, 14, 13], [20, 18, 17, 6, 5, 2, 1, 0, 4, 3, 16, 12, 11, 10, 9, 8, 7, 15, 14, 13], [19, 18, 17, 6, 5, 2, 1, 0, 4, 3, 16, 12, 11, 10, 9, 8, 7, 15, 14, 13, 21, 20], [22, 19, 18, 17, 6, 5, 2, 1, 0, 4, 3, 16, 12, 11, 10, 9, 8, 7, 15, 14, 13, 21, 20], [18, 17, 6, 5, 2, 1, 0, 4, 3, 16, 12, 11, 10, 9, 8, 7, 15, 14, 13, 23, 22, 19, 21, 20]])
 (.cond (.t 81) (.seq (.reg [.op (some 6) none (.mov (.k (.bool false)))])
 .ret)
 .skip))))
 (.reg [.op (some 82) none (.bin .add (.t 53) (.k (.int .i64 1))), .op (some 53) none (.mov (.t 82))]))))
def mf74 : SF := ⟨83, [(.t 6)],
 (.seq (.reg [.op (some 4) none (.box (.t 0) 6), .op (some 6) none (.mov (.k (.bool false)))])
 (.seq (.seq (.reg [.op (some 10) none (.addr (.t 2) 1), .op (some 11) none (.load (.t 10) none), .op (some 12) none (.len (.t 11)), .op (some 13) none (.mov (.k (.int .i64 0)))])
 (.blk 0 (.loop [1, 2, 3, 4, 12, 13] L74_0)))
 (.seq (.seq (.reg [.op (some 31) none (.mov (.t 1)), .op (some 32) none (.len (.t 31)), .op (some 33) none (.bin .gtr (.t 32) (.k (.int .i64 0))), .op (some 34) none (.mov (.t 33)), .op (some 35) (some (34, true)) (.addr (.t 2) 3), .op (some 36) (some (34, true)) (.load (.t 35) none), .op (some 37) (some (34, true)) (.addr (.t 4) 0), .op (some 38) (some (34, true)) (.load (.t 37) none), .op (some 39) (some (34, true)) (.idxs 1 (.t 36) (.t 38)), .op (some 40) (some (34, true)) (.load (.t 39) none), .op (some 41) (some (34, true)) (.un .not (.t 40)), .op (some 42) none (.pick (.t 34) (.t 41) (.k (.bool false))), .op (some 43) none (.mov (.t 42)), .op (some 44) (some (43, false)) (.mov (.t 1)), .op (some 45) (some (43, false)) (.len (.t 44)), .op (some 46) (some (43, false)) (.addr (.t 2) 4), .op (some 47) (some (43, false)) (.load (.t 46) none), .op (some 48) (some (43, false)) (.bin .gtr (.t 45) (.t 47)), .op (some 49) none (.pick (.t 43) (.k (.bool true)) (.t 48))])
 (.cond (.t 49) (.seq (.reg [.op (some 6) none (.mov (.k (.bool false)))])
 .ret)
 .skip))
 (.seq (.seq (.reg [.op (some 50) none (.addr (.t 2) 5), .op (some 51) none (.load (.t 50) none), .op (some 52) none (.len (.t 51)), .op (some 53) none (.mov (.k (.int .i64 0)))])
 (.blk 2 (.loop [1, 4, 51, 52, 53] L74_1)))
 (.seq (.reg [.op (some 6) none (.mov (.k (.bool true)))])
 .ret)))))⟩
def mf75 : SF := ⟨9, [(.t 4)],
 (.seq (.reg [.op (some 4) none (.mov (.k (.bool false)))])
 (.seq (.reg [.op (some 5) none (.mov (.t 0)), .op (some 6) none (.mov (.t 1)), .call (some 7) none (.k (.fn (.func 114) [] [])) [(.t 5), (.t 6)], .op (some 8) none (.bin .geq (.t 7) (.k (.int .i64 0))), .op (some 4) none (.mov (.t 8))])
 .ret))⟩
def L76_0 : SC := (.seq (.reg [.op (some 55) none (.bin .lss (.t 54) (.t 53))])
 (.seq (.cond (.t 55) .skip
 (.exit 2))
 (.seq (.blk 3 (.seq (.reg [.op (some 56) none (.idxs 1 (.t 52) (.t 54)), .op (some 57) none (.load (.t 56) none), .op (some 14) none (.mov (.t 57))])
 (.reg [.op (some 58) none (.mov (.t 14)), .op (some 59) none (.addr (.t 5) 0), .op (some 60) none (.load (.t 59) none), .op (some 61) none (.addr (.t 12) 1), .op (some 62) none (.idxa 5 1 (.t 61) (.t 58)), .op none none (.store (.t 62) (.t 60) 1)])))
 (.reg [.op (some 63) none (.bin .add (.t 54) (.k (.int .i64 1))), .op (some 54) none (.mov (.t 63))]))))
def L76_1 : SC := (.seq (.reg [.op (some 37) none (.bin .lss (.t 36) (.t 35))])
 (.seq (.cond (.t 37) .skip
 (.exit 0))
 (.seq (.blk 1 (.seq (.reg [.op (some 38) none (.mov (.t 36)), .op (some 10) none (.mov (.t 38))])
 (.seq (.reg [.op (some 39) none (.mov (.t 10)), .call (some 40) none (.k (.fn (.func 77) [] [])) [(.t 39)], .op (some 11) none (.mov (.t 40))])
 (.seq (.seq (.reg [.op (some 41) none (.load (.t 3) none), .op (some 42) none (.load (.t 5) (some 6)), .op (some 43) none (.mov (.t 11)), .call (some 44) none (.t 41) [(.t 42), (.t 43)], .op (some 45) none (.un .not (.t 44))])
 (.cond (.t 45) (.exit 1)
 .skip))
 (.seq (.reg [.op (some 46) none (.addr (.t 5) 0), .op (some 47) none (.load (.t 46) none), .op (some 48) none (.bin .add (.t 47) (.k (.int .i64 1))), .op (some 49) none (.addr (.t 5) 1), .op (some 50) none (.load (.t 49) (some 5)), .op (some 51) none (.build [(.int .i64 0), (.int .i64 0), (.int .i64 0), (.int .i64 0), (.int .i64 0), (.int .i64 0)] [(0, 1, (.t 48)), (1, 5, (.t 50))]), .op (some 12) none (.alloc [(.int .i64 0), (.int .i64 0), (.int .i64 0), (.int .i64 0), (.int .i64 0), (.int .i64 0)]), .op none none (.store (.t 12) (.t 51) 6)])
 (.seq (.seq (.reg [.op (some 52) none (.mov (.t 11)), .op (some 53) none (.len (.t 52)), .op (some 54) none (.mov (.k (.int .i64 0)))])
 (.blk 2 (.loop [2, 3, 4, 5, 6, 9, 11, 12, 35, 36, 52, 53, 54] L76_0)))
 (.seq (.reg [.op (some 64) none (.load (.t 4) none), .op (some 65) none (.load (.t 12) (some 6)), .call (some 66) none (.t 64) [(.t 65)], .op (some 15) none (.alloc [(.int .i64 0), (.int .i64 0), .nilS, (.bool false)]), .op none none (.store (.t 15) (.t 66) 4)])
 (.seq (.seq (.reg [.op (some 67) none (.addr (.t 15) 3), .op (some 68) none (.load (.t 67) none), .op (some 69) none (.un .not (.t 68))])
 (.cond (.t 69) (.exit 1)
 .skip))
 (.seq (.reg [.op (some 70) none (.addr (.t 15) 0), .op (some 71) none (.load (.t 70) none), .op (some 72) none (.mov (.t 11)), .op (some 73) none (.len (.t 72)), .op (some 74) none (.minmax true [(.k (.int .i64 1)), (.t 73)]), .op (some 75) none (.bin .add (.t 71) (.t 74)), .op (some 76) none (.addr (.t 15) 1), .op (some 77) none (.load (.t 76) none), .op (some 78) none (.mov (.t 11)), .op (some 79) none (.len (.t 78)), .op (some 80) none (.bin .add (.t 77) (.t 79)), .op (some 81) none (.mov (.t 11)), .op (some 82) none (.build [(.int .i64 0), (.int .i64 0), .nilS, (.bool false)] [(0, 1, (.t 75)), (1, 1, (.t 80)), (2, 1, (.t 81)), (3, 1, (.k (.bool true)))]), .op (some 16) none (.alloc [(.int .i64 0), (.int .i64 0), .nilS, (.bool false)]), .op none none (.store (.t 16) (.t 82) 4)])
 (.reg [.op (some 83) none (.load (.t 9) (some 4)), .op (some 84) none (.load (.t 16) (some 4)), .call (some 85) none (.k (.fn (.func 78) [] [])) [(.t 83), (.t 84), (.k (.fn (.func 79) [] []))], .op none none (.store (.t 9) (.t 85) 4)]))))))))))
 (.reg [.op (some 86) none (.bin .add (.t 36) (.k (.int .i64 1))), .op (some 36) none (.mov (.t 86))]))))
def mf76 : SF := ⟨91, [(.c 6 (some 4))],
 (.seq (.reg [.op (some 5) none (.box (.t 0) 6), .op (some 6) none (.alloc [(.int .i64 0), (.int .i64 0), .nilS, (.bool false)])])
 (.scope (.seq (.seq (.reg [.op (some 17) none (.addr (.t 5) 0), .op (some 18) none (.load (.t 17) none), .op (some 19) none (.addr (.t 1) 2), .op (some 20) none (.load (.t 19) none), .op (some 21) none (.len (.t 20)), .op (some 22) none (.bin .eql (.t 18) (.t 21))])
 (.cond (.t 22) (.seq (.reg [.op (some 23) none (.build [(.int .i64 0), (.int .i64 0), .nilS, (.bool false)] [(3, 1, (.k (.bool true)))]), .op none none (.store (.t 6) (.t 23) 4)])
 .ret)
 .skip))
 (.seq (.seq (.reg [.op (some 25) none (.load (.t 2) none), .op (some 26) none (.load (.t 5) (some 6)), .op (some 27) none (.look (true, [true, true, true, true, true, true]) (.agg [(.int .i64 0), (.int .i64 0), .nilS, (.bool false)]) true (.t 25) (.t 26)), .op (some 24) none (.mov (.t 27)), .op (some 28) none (.ext (.t 24) 0), .op (some 29) none (.ext (.t 24) 1), .op (some 7) none (.alloc [(.int .i64 0), (.int .i64 0), .nilS, (.bool false)]), .op none none (.store (.t 7) (.t 28) 4), .op (some 8) none (.mov (.t 29))])
 (.seq (.reg [.op (some 30) none (.mov (.t 8))])
 (.cond (.t 30) (.seq (.reg [.op (some 31) none (.load (.t 7) (some 4)), .op none none (.store (.t 6) (.t 31) 4)])
 .ret)
 .skip)))
 (.seq (.reg [.op (some 9) none (.alloc [(.int .i64 0), (.int .i64 0), .nilS, (.bool false)])])
 (.seq (.lab 0)
 (.seq (.seq (.reg [.op (some 32) none (.addr (.t 1) 1), .op (some 33) none (.load (.t 32) none), .op (some 34) none (.len (.t 33)), .op (some 35) none (.bin .shl (.k (.int .i64 1)) (.t 34)), .op (some 36) none (.mov (.k (.int .i64 0)))])
 (.blk 0 (.loop [2, 3, 4, 5, 6, 9, 35, 36] L76_1)))
 (.seq (.reg [.op (some 87) none (.load (.t 2) none), .op (some 88) none (.load (.t 5) (some 6)), .op (some 89) none (.load (.t 9) (some 4)), .op none none (.mput (true, [true, true, true, true, true, true]) (.t 87) (.t 88) (.t 89))])
 (.seq (.reg [.op (some 90) none (.load (.t 9) (some 4)), .op none none (.store (.t 6) (.t 90) 4)])
 .ret)))))))))⟩
def L77_0 : SC := (.seq (.reg [.op (some 6) none (.bin .lss (.t 5) (.k (.int .i64 5)))])
 (.seq (.cond (.t 6) .skip
 (.exit 0))
 (.seq (.blk 1 (.seq (.reg [.op (some 7) none (.mov (.t 5)), .op (some 4) none (.mov (.t 7))])
 (.seq (.reg [.op (some 8) none (.mov (.t 0)), .op (some 9) none (.mov (.t 4)), .op (some 10) none (.bin .shr (.t 8) (.t 9)), .op (some 11) none (.bin .and (.t 10) (.k (.int .i64 1))), .op (some 12) none (.bin .eql (.t 11) (.k (.int .i64 1)))])
 (.cond (.t 12) (.reg [.op (some 13) none (.mov (.t 3)), .op (some 14) none (.mov (.t 4)), .op (some 15) none (.bslice 1 [(.int .i64 0)] 1 [(0, 1, (.t 14))]), .op (some 16) none (.app 1 [(.int .i64 0)] 8 (.t 13) (.t 15)), .op (some 3) none (.mov (.t 16))])
 .skip))))
 (.reg [.op (some 17) none (.bin .add (.t 5) (.k (.int .i64 1))), .op (some 5) none (.mov (.t 17))]))))
def mf77 : SF := ⟨19, [(.t 2)],
 (.seq (.reg [.op (some 2) none (.mov (.k .nilS))])
 (.seq (.reg [.op (some 3) none (.mov (.k .nilS))])
 (.seq (.seq (.reg [.op (some 5) none (.mov (.k (.int .i64 0)))])
 (.blk 0 (.loop [0, 3, 5] L77_0)))
 (.seq (.reg [.op (some 18) none (.mov (.t 3)), .op (some 2) none (.mov (.t 18))])
 .ret))))⟩
def mf78 : SF := ⟨13, [(.c 6 (some 4))],
 (.seq (.reg [.op (some 3) none (.box (.t 0) 4), .op (some 4) none (.box (.t 1) 4), .op (some 6) none (.alloc [(.int .i64 0), (.int .i64 0), .nilS, (.bool false)])])
 (.seq (.seq (.reg [.op (some 7) none (.mov (.t 2)), .op (some 8) none (.load (.t 4) (some 4)), .op (some 9) none (.load (.t 3) (some 4)), .call (some 10) none (.t 7) [(.t 8), (.t 9)]])
 (.cond (.t 10) (.seq (.reg [.op (some 11) none (.load (.t 4) (some 4)), .op none none (.store (.t 6) (.t 11) 4)])
 .ret)
 .skip))
 (.seq (.reg [.op (some 12) none (.load (.t 3) (some 4)), .op none none (.store (.t 6) (.t 12) 4)])
 .ret)))⟩
def mf79 : SF := ⟨41, [(.t 4)],
 (.seq (.reg [.op (some 2) none (.box (.t 0) 4), .op (some 3) none (.box (.t 1) 4), .op (some 4) none (.mov (.k (.bool false)))])
 (.seq (.blk 0 (.seq (.reg [.op (some 6) none (.addr (.t 2) 3), .op (some 7) none (.load (.t 6) none), .op (some 8) none (.addr (.t 3) 3), .op (some 9) none (.load (.t 8) none), .op (some 10) none (.eqb true (.t 7) (.t 9)), .op (some 5) none (.mov (.t 10))])
 (.cond (.t 5) (.seq (.reg [.op (some 11) none (.addr (.t 2) 3), .op (some 12) none (.load (.t 11) none), .op (some 4) none (.mov (.t 12))])
 .ret)
 (.seq (.reg [.op (some 14) none (.addr (.t 2) 0), .op (some 15) none (.load (.t 14) none), .op (some 16) none (.addr (.t 3) 0), .op (some 17) none (.load (.t 16) none), .op (some 18) none (.bin .neq (.t 15) (.t 17)), .op (some 13) none (.mov (.t 18))])
 (.cond (.t 13) (.seq (.reg [.op (some 19) none (.addr (.t 2) 0), .op (some 20) none (.load (.t 19) none), .op (some 21) none (.addr (.t 3) 0), .op (some 22) none (.load (.t 21) none), .op (some 23) none (.bin .lss (.t 20) (.t 22)), .op (some 4) none (.mov (.t 23))])
 .ret)
 (.seq (.reg [.op (some 25) none (.addr (.t 2) 1), .op (some 26) none (.load (.t 25) none), .op (some 27) none (.addr (.t 3) 1), .op (some 28) none (.load (.t 27) none), .op (some 29) none (.bin .neq (.t 26) (.t 28)), .op (some 24) none (.mov (.t 29))])
 (.cond (.t 24) (.seq (.reg [.op (some 30) none (.addr (.t 2) 1), .op (some 31) none (.load (.t 30) none), .op (some 32) none (.addr (.t 3) 1), .op (some 33) none (.load (.t 32) none), .op (some 34) none (.bin .lss (.t 31) (.t 33)), .op (some 4) none (.mov (.t 34))])
 .ret)
 .skip)))))))
 (.seq (.reg [.op (some 35) none (.addr (.t 2) 2), .op (some 36) none (.load (.t 35) none), .op (some 37) none (.addr (.t 3) 2), .op (some 38) none (.load (.t 37) none), .call (some 39) none (.k (.fn (.func 115) [] [])) [(.t 36), (.t 38)], .op (some 40) none (.bin .lss (.t 39) (.k (.int .i64 0))), .op (some 4) none (.mov (.t 40))])
 .ret)))⟩
def L80_0 : SC := (.seq (.seq (.reg [.op (some 16) none (.mov (.t 6)), .op (some 17) none (.addr (.t 1) 2), .op (some 18) none (.load (.t 17) none), .op (some 19) none (.len (.t 18)), .op (some 20) none (.bin .lss (.t 16) (.t 19))])
 (.cond (.t 20) .skip
 (.exit 2)))
 (.seq (.blk 3 (.seq (.reg [.op (some 24) none (.load (.t 1) (some 6)), .op (some 25) none (.mov (.t 4)), .op (some 26) none (.mov (.t 6)), .call (some 27) none (.k (.fn (.func 47) [] [])) [(.t 24), (.t 25), (.t 26)], .op (some 23) none (.mov (.t 27)), .op (some 28) none (.ext (.t 23) 0), .op (some 29) none (.ext (.t 23) 1), .op (some 7) none (.mov (.t 28)), .op (some 8) none (.mov (.t 29))])
 (.reg [.op (some 30) none (.mov (.t 5)), .op (some 31) none (.mov (.t 7)), .op (some 32) none (.bslice 1 [(.int .i64 0)] 1 [(0, 1, (.t 31))]), .op (some 33) none (.app 1 [(.int .i64 0)] 8 (.t 30) (.t 32)), .op (some 5) none (.mov (.t 33))])))
 (.reg [.op (some 21) none (.mov (.t 6)), .op (some 22) none (.bin .add (.t 21) (.k (.int .i64 1))), .op (some 6) none (.mov (.t 22))])))
def L80_1 : SC := (.seq (.seq (.reg [.op (some 9) none (.mov (.t 4)), .op (some 10) none (.addr (.t 1) 1), .op (some 11) none (.load (.t 10) none), .op (some 12) none (.len (.t 11)), .op (some 13) none (.bin .lss (.t 9) (.t 12))])
 (.cond (.t 13) .skip
 (.exit 0)))
 (.seq (.blk 1 (.seq (.reg [.op (some 5) none (.mov (.k .nilS))])
 (.seq (.seq (.reg [.op (some 6) none (.mov (.k (.int .i64 (-1))))])
 (.blk 2 (.loop [1, 3, 4, 5, 6] L80_0)))
 (.reg [.op (some 34) none (.mov (.t 3)), .op (some 35) none (.mov (.t 5)), .op (some 36) none (.bslice 1 [.nilS] 1 [(0, 1, (.t 35))]), .op (some 37) none (.app 1 [.nilS] 24 (.t 34) (.t 36)), .op (some 3) none (.mov (.t 37))]))))
 (.reg [.op (some 14) none (.mov (.t 4)), .op (some 15) none (.bin .add (.t 14) (.k (.int .i64 1))), .op (some 4) none (.mov (.t 15))])))
def mf80 : SF := ⟨39, [(.t 2)],
 (.seq (.reg [.op (some 1) none (.box (.t 0) 6), .op (some 2) none (.mov (.k .nilS))])
 (.seq (.reg [.op (some 3) none (.mov (.k .nilS))])
 (.seq (.seq (.reg [.op (some 4) none (.mov (.k (.int .i64 0)))])
 (.blk 0 (.loop [1, 3, 4] L80_1)))
 (.seq (.reg [.op (some 38) none (.mov (.t 3)), .op (some 2) none (.mov (.t 38))])
 .ret))))⟩
def L81_0 : SC := (.seq (.seq (.reg [.op (some 16) none (.mov (.t 6)), .op (some 17) none (.mov (.t 3)), .op (some 18) none (.len (.t 17)), .op (some 19) none (.bin .lss (.t 16) (.t 18)), .op (some 20) none (.mov (.t 19)), .op (some 21) (some (20, true)) (.mov (.t 3)), .op (some 22) (some (20, true)) (.mov (.t 6)), .op (some 23) (some (20, true)) (.idxs 1 (.t 21) (.t 22)), .op (some 24) (some (20, true)) (.load (.t 23) none), .op (some 25) (some (20, true)) (.mov (.t 5)), .call (some 26) (some (20, true)) (.k (.fn (.func 86) [] [])) [(.t 24), (.t 25)], .op (some 27) none (.pick (.t 20) (.t 26) (.k (.bool false)))])
 (.cond (.t 27) .skip
 (.exit 2)))
 (.blk 3 (.reg [.op (some 28) none (.mov (.t 6)), .op (some 29) none (.bin .add (.t 28) (.k (.int .i64 1))), .op (some 6) none (.mov (.t 29))])))
def D81_0 : List MIx := [.op (some 30) none (.mov (.t 3)), .op (some 31) none (.mov (.t 6)), .op (some 32) none (.slc 1 (.t 30) none (some (.t 31)) none), .op (some 33) none (.app 1 [.nilS] 24 (.k .nilS) (.t 32)), .op (some 34) none (.mov (.t 5)), .op (some 35) none (.bslice 1 [.nilS] 1 [(0, 1, (.t 34))]), .op (some 36) none (.app 1 [.nilS] 24 (.t 33) (.t 35)), .op (some 37) none (.mov (.t 3)), .op (some 38) none (.mov (.t 6)), .op (some 39) none (.slc 1 (.t 37) (some (.t 38)) none none), .op (some 40) none (.app 1 [.nilS] 24 (.t 36) (.t 39)), .op (some 3) none (.mov (.t 40))]
def B81_0 : List (List Nat) := [[], [], [0, 1], [2, 0, 1], [], [4], [3, 2, 0, 1, 5, 4], [], [], [7, 8], [6, 3, 2, 0, 1, 5, 4, 9, 7, 8], [10, 6, 3, 2, 0, 1, 5, 4, 9, 7, 8]]
def L81_1 : SC := (.seq (.seq (.reg [.op (some 7) none (.mov (.t 4)), .op (some 8) none (.mov (.t 0)), .op (some 9) none (.bin .shl (.k (.int .i64 1)) (.t 8)), .op (some 10) none (.bin .lss (.t 7) (.t 9))])
 (.cond (.t 10) .skip
 (.exit 0)))
 (.seq (.blk 1 (.seq (.reg [.op (some 13) none (.mov (.t 4)), .op (some 14) none (.mov (.t 0)), .call (some 15) none (.k (.fn (.func 116) [] [])) [(.t 13), (.t 14)], .op (some 5) none (.mov (.t 15))])
 (.seq (.reg [.op (some 6) none (.mov (.k (.int .i64 0)))])
 (.seq (.blk 2 (.loop [0, 3, 4, 5, 6] L81_0))
 (.draw [] D81_0 B81_0)))))
 (.reg [.op (some 11) none (.mov (.t 4)), .op (some 12) none (.bin .add (.t 11) (.k (.int .i64 1))), .op (some 4) none (.mov (.t 12))])))
def mf81 : SF := ⟨42, [(.t 2)],
 (.seq (.reg [.op (some 2) none (.mov (.k .nilS))])
 (.seq (.reg [.op (some 3) none (.mov (.k .nilS))])
 (.seq (.seq (.reg [.op (some 4) none (.mov (.k (.int .i64 0)))])
 (.blk 0 (.loop [0, 3, 4] L81_1)))
 (.seq (.reg [.op (some 41) none (.mov (.t 3)), .op (some 2) none (.mov (.t 41))])
 .ret))))⟩
def L82_0 : SC := (.seq (.seq (.reg [.op (some 7) none (.mov (.t 6)), .op (some 8) none (.addr (.t 2) 1), .op (some 9) none (.load (.t 8) none), .op (some 10) none (.len (.t 9)), .op (some 11) none (.bin .lss (.t 7) (.t 10))])
 (.cond (.t 11) .skip
 (.exit 0)))
 (.seq (.blk 1 (.seq (.reg [.op (some 14) none (.mov (.t 5)), .op (some 15) none (.mov (.t 1)), .op (some 16) none (.addr (.t 2) 2), .op (some 17) none (.load (.t 16) none), .op (some 18) none (.len (.t 17)), .op (some 19) none (.bin .add (.t 18) (.k (.int .i64 1))), .op (some 20) none (.bin .rem (.t 15) (.t 19)), .op (some 21) none (.bin .sub (.t 20) (.k (.int .i64 1))), .op (some 22) none (.bslice 1 [(.int .i64 0)] 1 [(0, 1, (.t 21))]), .op (some 23) none (.app 1 [(.int .i64 0)] 8 (.t 14) (.t 22)), .op (some 5) none (.mov (.t 23))])
 (.reg [.op (some 24) none (.mov (.t 1)), .op (some 25) none (.addr (.t 2) 2), .op (some 26) none (.load (.t 25) none), .op (some 27) none (.len (.t 26)), .op (some 28) none (.bin .add (.t 27) (.k (.int .i64 1))), .op (some 29) none (.bin .quo (.t 24) (.t 28)), .op (some 1) none (.mov (.t 29))])))
 (.reg [.op (some 12) none (.mov (.t 6)), .op (some 13) none (.bin .add (.t 12) (.k (.int .i64 1))), .op (some 6) none (.mov (.t 13))])))
def mf82 : SF := ⟨31, [(.t 4)],
 (.seq (.reg [.op (some 2) none (.box (.t 0) 6), .op (some 4) none (.mov (.k .nilS))])
 (.seq (.reg [.op (some 5) none (.mov (.k .nilS))])
 (.seq (.seq (.reg [.op (some 6) none (.mov (.k (.int .i64 0)))])
 (.blk 0 (.loop [1, 2, 5, 6] L82_0)))
 (.seq (.reg [.op (some 30) none (.mov (.t 5)), .op (some 4) none (.mov (.t 30))])
 .ret))))⟩
def L83_0 : SC := (.seq (.seq (.reg [.op (some 6) none (.mov (.t 5)), .op (some 7) none (.mov (.t 0)), .op (some 8) none (.len (.t 7)), .op (some 9) none (.bin .lss (.t 6) (.t 8))])
 (.cond (.t 9) .skip
 (.exit 0)))
 (.seq (.blk 1 (.seq (.reg [.op (some 12) none (.mov (.t 0)), .op (some 13) none (.mov (.t 5)), .op (some 14) none (.idxs 1 (.t 12) (.t 13)), .op (some 15) none (.load (.t 14) none), .op (some 16) none (.mov (.t 1)), .op (some 17) none (.bin .geq (.t 15) (.t 16))])
 (.cond (.t 17) (.seq (.reg [.op (some 4) none (.mov (.k (.bool false)))])
 .ret)
 .skip)))
 (.reg [.op (some 10) none (.mov (.t 5)), .op (some 11) none (.bin .add (.t 10) (.k (.int .i64 1))), .op (some 5) none (.mov (.t 11))])))
def mf83 : SF := ⟨18, [(.t 4)],
 (.seq (.reg [.op (some 4) none (.mov (.k (.bool false)))])
 (.seq (.seq (.reg [.op (some 5) none (.mov (.k (.int .i64 0)))])
 (.blk 0 (.loop [0, 1, 5] L83_0)))
 (.seq (.reg [.op (some 4) none (.mov (.k (.bool true)))])
 .ret)))⟩
def L84_0 : SC := (.seq (.seq (.reg [.op (some 36) none (.mov (.t 12)), .op (some 37) none (.mov (.t 4)), .op (some 38) none (.len (.t 37)), .op (some 39) none (.bin .lss (.t 36) (.t 38))])
 (.cond (.t 39) .skip
 (.exit 0)))
 (.seq (.blk 1 (.reg [.op (some 42) none (.mov (.t 11)), .op (some 43) none (.mov (.t 4)), .op (some 44) none (.mov (.t 12)), .op (some 45) none (.idxs 1 (.t 43) (.t 44)), .op (some 46) none (.load (.t 45) none), .op (some 47) none (.mov (.t 3)), .op (some 48) none (.idxs 1 (.t 42) (.t 46)), .op none none (.store (.t 48) (.t 47) 1)]))
 (.reg [.op (some 40) none (.mov (.t 12)), .op (some 41) none (.bin .add (.t 40) (.k (.int .i64 1))), .op (some 12) none (.mov (.t 41))])))
def L84_1 : SC := (.seq (.seq (.reg [.op (some 49) none (.mov (.t 13)), .op (some 50) none (.addr (.t 5) 5), .op (some 51) none (.load (.t 50) none), .op (some 52) none (.len (.t 51)), .op (some 53) none (.bin .lss (.t 49) (.t 52))])
 (.cond (.t 53) .skip
 (.exit 2)))
 (.seq (.blk 3 (.seq (.reg [.op (some 56) none (.addr (.t 5) 5), .op (some 57) none (.load (.t 56) none), .op (some 58) none (.mov (.t 13)), .op (some 59) none (.idxs 3 (.t 57) (.t 58)), .op (some 60) none (.load (.t 59) (some 3)), .op (some 14) none (.alloc [(.int .i64 0), (.int .i64 0), (.int .i64 0)]), .op none none (.store (.t 14) (.t 60) 3)])
 (.seq (.draw [false, false, false, false, true, true, false, false, false, false, false, false, false, false, true, true] [.op (some 61) none (.addr (.t 14) 1), .op (some 62) none (.addr (.t 61) 1), .op (some 63) none (.load (.t 62) none), .op (some 64) none (.mov (.t 3)), .op (some 65) none (.bin .eql (.t 63) (.t 64)), .op (some 66) none (.mov (.t 65)), .op (some 67) (some (66, true)) (.mov (.t 11)), .op (some 68) (some (66, true)) (.addr (.t 14) 0), .op (some 69) (some (66, true)) (.load (.t 68) none), .op (some 70) (some (66, true)) (.idxs 1 (.t 67) (.t 69)), .op (some 71) (some (66, true)) (.load (.t 70) none), .op (some 72) (some (66, true)) (.addr (.t 14) 1), .op (some 73) (some (66, true)) (.addr (.t 72) 0), .op (some 74) (some (66, true)) (.load (.t 73) none), .op (some 75) (some (66, true)) (.bin .lss (.t 71) (.t 74)), .op (some 76) none (.pick (.t 66) (.t 75) (.k (.bool false)))] [[], [0], [1, 0], [], [2, 1, 0, 3], [4, 2, 1, 0, 3], [5, 4, 2, 1, 0, 3], [5, 4, 2, 1, 0, 3], [7, 5, 4, 2, 1, 0, 3], [6, 5, 4, 2, 1, 0, 3, 8, 7], [9, 6, 5, 4, 2, 1, 0, 3, 8, 7], [5, 4, 2, 1, 0, 3], [11, 5, 4, 2, 1, 0, 3], [12, 11, 5, 4, 2, 1, 0, 3], [10, 9, 6, 5, 4, 2, 1, 0, 3, 8, 7, 13, 12, 11], [5, 4, 2, 1, 0, 3, 14, 10, 9, 6, 8, 7, 13, 12, 11]])
 (.cond (.t 76) (.seq (.reg [.op (some 10) none (.mov (.k (.int .i64 (-1))))])
 .ret)
 .skip))))
 (.reg [.op (some 54) none (.mov (.t 13)), .op (some 55) none (.bin .add (.t 54) (.k (.int .i64 1))), .op (some 13) none (.mov (.t 55))])))
def L84_2 : SC := (.seq (.seq (.reg [.op (some 83) none (.mov (.t 15)), .op (some 84) none (.mov (.t 11)), .op (some 85) none (.len (.t 84)), .op (some 86) none (.bin .lss (.t 83) (.t 85))])
 (.cond (.t 86) .skip
 (.exit 4)))
 (.seq (.blk 5 (.seq (.draw [false, false, false, false, false, false, false, false, false, false, false, false, false, true] [.op (some 89) none (.mov (.t 1)), .op (some 90) none (.mov (.t 15)), .op (some 91) none (.idxs 1 (.t 89) (.t 90)), .op (some 92) none (.load (.t 91) none), .op (some 93) none (.mov (.t 11)), .op (some 94) none (.mov (.t 15)), .op (some 95) none (.idxs 1 (.t 93) (.t 94)), .op (some 96) none (.load (.t 95) none), .op (some 97) none (.bin .add (.t 96) (.k (.int .i64 1))), .op (some 98) none (.idxs 1 (.t 92) (.t 97)), .op (some 99) none (.load (.t 98) none), .op (some 100) none (.mov (.t 3)), .op (some 101) none (.bin .add (.t 100) (.k (.int .i64 1))), .op (some 102) none (.bin .lss (.t 99) (.t 101))] [[], [], [0, 1], [2, 0, 1], [], [], [4, 5], [6, 4, 5], [7, 6, 4, 5], [3, 2, 0, 1, 8, 7, 6, 4, 5], [9, 3, 2, 0, 1, 8, 7, 6, 4, 5], [], [11], [10, 9, 3, 2, 0, 1, 8, 7, 6, 4, 5, 12, 11]])
 (.cond (.t 102) (.seq (.reg [.op (some 10) none (.mov (.k (.int .i64 (-1))))])
 .ret)
 .skip)))
 (.reg [.op (some 87) none (.mov (.t 15)), .op (some 88) none (.bin .add (.t 87) (.k (.int .i64 1))), .op (some 15) none (.mov (.t 88))])))
def mf84 : SF := ⟨106, [(.t 10)],
 (.seq (.reg [.op (some 5) none (.box (.t 0) 6), .op (some 10) none (.mov (.k (.int .i64 0)))])
 (.seq (.seq (.reg [.op (some 16) none (.mov (.t 4)), .op (some 17) none (.len (.t 16)), .op (some 18) none (.bin .gtr (.t 17) (.k (.int .i64 0))), .op (some 19) none (.mov (.t 18)), .op (some 20) (some (19, true)) (.addr (.t 5) 3), .op (some 21) (some (19, true)) (.load (.t 20) none), .op (some 22) (some (19, true)) (.mov (.t 3)), .op (some 23) (some (19, true)) (.idxs 1 (.t 21) (.t 22)), .op (some 24) (some (19, true)) (.load (.t 23) none), .op (some 25) (some (19, true)) (.un .not (.t 24)), .op (some 26) none (.pick (.t 19) (.t 25) (.k (.bool false))), .op (some 27) none (.mov (.t 26)), .op (some 28) (some (27, false)) (.mov (.t 4)), .op (some 29) (some (27, false)) (.len (.t 28)), .op (some 30) (some (27, false)) (.addr (.t 5) 4), .op (some 31) (some (27, false)) (.load (.t 30) none), .op (some 32) (some (27, false)) (.bin .gtr (.t 29) (.t 31)), .op (some 33) none (.pick (.t 27) (.k (.bool true)) (.t 32))])
 (.cond (.t 33) (.seq (.reg [.op (some 10) none (.mov (.k (.int .i64 (-1))))])
 .ret)
 .skip))
 (.seq (.reg [.op (some 34) none (.mov (.t 2)), .op (some 35) none (.app 1 [(.int .i64 0)] 8 (.k .nilS) (.t 34)), .op (some 11) none (.mov (.t 35))])
 (.seq (.seq (.reg [.op (some 12) none (.mov (.k (.int .i64 0)))])
 (.blk 0 (.loop [1, 3, 4, 5, 11, 12] L84_0)))
 (.seq (.seq (.reg [.op (some 13) none (.mov (.k (.int .i64 0)))])
 (.blk 2 (.loop [1, 3, 5, 11, 13] L84_1)))
 (.seq (.seq (.reg [.op (some 77) none (.mov (.t 3)), .op (some 78) none (.bin .add (.t 77) (.k (.int .i64 1))), .op (some 79) none (.addr (.t 5) 2), .op (some 80) none (.load (.t 79) none), .op (some 81) none (.len (.t 80)), .op (some 82) none (.bin .lss (.t 78) (.t 81))])
 (.cond (.t 82) (.seq (.reg [.op (some 15) none (.mov (.k (.int .i64 0)))])
 (.blk 4 (.loop [1, 3, 5, 11, 15] L84_2)))
 .skip))
 (.seq (.reg [.op (some 103) none (.load (.t 5) (some 6)), .op (some 104) none (.mov (.t 11)), .call (some 105) none (.k (.fn (.func 117) [] [])) [(.t 103), (.t 104)], .op (some 10) none (.mov (.t 105))])
 .ret)))))))⟩
def mf85 : SF := ⟨15, [(.t 4)],
 (.seq (.reg [.op (some 4) none (.mov (.k (.bool false)))])
 (.seq (.reg [.op (some 5) none (.mov (.t 0)), .op (some 6) none (.mov (.t 1)), .call (some 7) none (.k (.fn (.func 86) [] [])) [(.t 5), (.t 6)], .op (some 8) none (.un .not (.t 7)), .op (some 9) none (.mov (.t 8)), .op (some 10) (some (9, true)) (.mov (.t 1)), .op (some 11) (some (9, true)) (.mov (.t 0)), .call (some 12) (some (9, true)) (.k (.fn (.func 86) [] [])) [(.t 10), (.t 11)], .op (some 13) (some (9, true)) (.un .not (.t 12)), .op (some 14) none (.pick (.t 9) (.t 13) (.k (.bool false))), .op (some 4) none (.mov (.t 14))])
 .ret))⟩
def L86_0 : SC := (.seq (.seq (.reg [.op (some 6) none (.mov (.t 5)), .op (some 7) none (.mov (.t 0)), .op (some 8) none (.len (.t 7)), .op (some 9) none (.bin .lss (.t 6) (.t 8)), .op (some 10) none (.mov (.t 9)), .op (some 11) (some (10, true)) (.mov (.t 5)), .op (some 12) (some (10, true)) (.mov (.t 1)), .op (some 13) (some (10, true)) (.len (.t 12)), .op (some 14) (some (10, true)) (.bin .lss (.t 11) (.t 13)), .op (some 15) none (.pick (.t 10) (.t 14) (.k (.bool false)))])
 (.cond (.t 15) .skip
 (.exit 0)))
 (.seq (.blk 1 (.seq (.draw [false, false, false, false, false, false, false, false, true] [.op (some 18) none (.mov (.t 0)), .op (some 19) none (.mov (.t 5)), .op (some 20) none (.idxs 1 (.t 18) (.t 19)), .op (some 21) none (.load (.t 20) none), .op (some 22) none (.mov (.t 1)), .op (some 23) none (.mov (.t 5)), .op (some 24) none (.idxs 1 (.t 22) (.t 23)), .op (some 25) none (.load (.t 24) none), .op (some 26) none (.bin .neq (.t 21) (.t 25))] [[], [], [0, 1], [2, 0, 1], [], [], [4, 5], [6, 4, 5], [3, 2, 0, 1, 7, 6, 4, 5]])
 (.cond (.t 26) (.seq (.draw [false, false, false, false, false, false, false, false, true, true] [.op (some 27) none (.mov (.t 0)), .op (some 28) none (.mov (.t 5)), .op (some 29) none (.idxs 1 (.t 27) (.t 28)), .op (some 30) none (.load (.t 29) none), .op (some 31) none (.mov (.t 1)), .op (some 32) none (.mov (.t 5)), .op (some 33) none (.idxs 1 (.t 31) (.t 32)), .op (some 34) none (.load (.t 33) none), .op (some 35) none (.bin .lss (.t 30) (.t 34)), .op (some 4) none (.mov (.t 35))] [[], [], [0, 1], [2, 0, 1], [], [], [4, 5], [6, 4, 5], [3, 2, 0, 1, 7, 6, 4, 5], [8, 3, 2, 0, 1, 7, 6, 4, 5]])
 .ret)
 .skip)))
 (.reg [.op (some 16) none (.mov (.t 5)), .op (some 17) none (.bin .add (.t 16) (.k (.int .i64 1))), .op (some 5) none (.mov (.t 17))])))
def mf86 : SF := ⟨41, [(.t 4)],
 (.seq (.reg [.op (some 4) none (.mov (.k (.bool false)))])
 (.seq (.seq (.reg [.op (some 5) none (.mov (.k (.int .i64 0)))])
 (.blk 0 (.loop [0, 1, 5] L86_0)))
 (.seq (.reg [.op (some 36) none (.mov (.t 0)), .op (some 37) none (.len (.t 36)), .op (some 38) none (.mov (.t 1)), .op (some 39) none (.len (.t 38)), .op (some 40) none (.bin .lss (.t 37) (.t 39)), .op (some 4) none (.mov (.t 40))])
 .ret)))⟩
def L87_0 : SC := (.seq (.reg [.op (some 51) none (.bin .lss (.t 50) (.t 49))])
 (.seq (.cond (.t 51) .skip
 (.exit 2))
 (.seq (.blk 3 (.seq (.reg [.op (some 52) none (.idxs 3 (.t 48) (.t 50)), .op (some 53) none (.load (.t 52) (some 3)), .op (some 9) none (.alloc [(.int .i64 0), (.int .i64 0), (.int .i64 0)]), .op none none (.store (.t 9) (.t 53) 3)])
 (.seq (.reg [.op (some 54) none (.addr (.t 9) 0), .op (some 55) none (.load (.t 54) none), .op (some 56) none (.mov (.t 7)), .op (some 57) none (.bin .eql (.t 55) (.t 56)), .op (some 58) none (.mov (.t 57)), .op (some 59) (some (58, true)) (.addr (.t 9) 1), .op (some 60) (some (58, true)) (.addr (.t 59) 0), .op (some 61) (some (58, true)) (.load (.t 60) none), .op (some 62) (some (58, true)) (.addr (.t 4) 0), .op (some 63) (some (58, true)) (.load (.t 62) none), .op (some 64) (some (58, true)) (.bin .geq (.t 61) (.t 63)), .op (some 65) none (.pick (.t 58) (.t 64) (.k (.bool false))), .op (some 66) none (.mov (.t 65)), .op (some 67) (some (66, true)) (.addr (.t 9) 1), .op (some 68) (some (66, true)) (.addr (.t 67) 1), .op (some 69) (some (66, true)) (.load (.t 68) none), .op (some 70) (some (66, true)) (.addr (.t 4) 1), .op (some 71) (some (66, true)) (.load (.t 70) none), .op (some 72) (some (66, true)) (.bin .leq (.t 69) (.t 71)), .op (some 73) none (.pick (.t 66) (.t 72) (.k (.bool false)))])
 (.cond (.t 73) (.seq (.reg [.op (some 74) none (.mov (.t 7)), .op (some 6) none (.mov (.t 74))])
 .ret)
 .skip))))
 (.reg [.op (some 75) none (.bin .add (.t 50) (.k (.int .i64 1))), .op (some 50) none (.mov (.t 75))]))))
def L87_1 : SC := (.seq (.reg [.op (some 17) none (.bin .lss (.t 16) (.t 15))])
 (.seq (.cond (.t 17) .skip
 (.exit 0))
 (.seq (.blk 1 (.seq (.reg [.op (some 18) none (.mov (.t 16)), .op (some 7) none (.mov (.t 18))])
 (.seq (.seq (.draw [false, false, false, false, false, false, false, false, false, true, true, false, false, false, false, false, false, false, false, false, false, false, true, true] [.op (some 19) none (.addr (.t 4) 1), .op (some 20) none (.load (.t 19) none), .op (some 21) none (.bin .add (.t 20) (.k (.int .i64 1))), .op (some 22) none (.mov (.t 0)), .op (some 23) none (.nilck (.t 22)), .op (some 24) none (.addr (.t 23) 0), .op (some 25) none (.addr (.t 24) 2), .op (some 26) none (.load (.t 25) none), .op (some 27) none (.len (.t 26)), .op (some 28) none (.bin .lss (.t 21) (.t 27)), .op (some 29) none (.mov (.t 28)), .op (some 30) (some (29, true)) (.mov (.t 2)), .op (some 31) (some (29, true)) (.mov (.t 7)), .op (some 32) (some (29, true)) (.idxs 1 (.t 30) (.t 31)), .op (some 33) (some (29, true)) (.load (.t 32) none), .op (some 34) (some (29, true)) (.addr (.t 4) 0), .op (some 35) (some (29, true)) (.load (.t 34) none), .op (some 36) (some (29, true)) (.idxs 1 (.t 33) (.t 35)), .op (some 37) (some (29, true)) (.load (.t 36) none), .op (some 38) (some (29, true)) (.addr (.t 4) 1), .op (some 39) (some (29, true)) (.load (.t 38) none), .op (some 40) (some (29, true)) (.bin .add (.t 39) (.k (.int .i64 1))), .op (some 41) (some (29, true)) (.bin .lss (.t 37) (.t 40)), .op (some 42) none (.pick (.t 29) (.t 41) (.k (.bool false)))] [[], [0], [1, 0], [], [3], [4, 3], [5, 4, 3], [6, 5, 4, 3], [7, 6, 5, 4, 3], [2, 1, 0, 8, 7, 6, 5, 4, 3], [9, 2, 1, 0, 8, 7, 6, 5, 4, 3], [10, 9, 2, 1, 0, 8, 7, 6, 5, 4, 3], [10, 9, 2, 1, 0, 8, 7, 6, 5, 4, 3], [11, 10, 9, 2, 1, 0, 8, 7, 6, 5, 4, 3, 12], [13, 11, 10, 9, 2, 1, 0, 8, 7, 6, 5, 4, 3, 12], [10, 9, 2, 1, 0, 8, 7, 6, 5, 4, 3], [15, 10, 9, 2, 1, 0, 8, 7, 6, 5, 4, 3], [14, 13, 11, 10, 9, 2, 1, 0, 8, 7, 6, 5, 4, 3, 12, 16, 15], [17, 14, 13, 11, 10, 9, 2, 1, 0, 8, 7, 6, 5, 4, 3, 12, 16, 15], [10, 9, 2, 1, 0, 8, 7, 6, 5, 4, 3], [19, 10, 9, 2, 1, 0, 8, 7, 6, 5, 4, 3], [20, 19, 10, 9, 2, 1, 0, 8, 7, 6, 5, 4, 3], [18, 17, 14, 13, 11, 10, 9, 2, 1, 0, 8, 7, 6, 5, 4, 3, 12, 16, 15, 21, 20, 19], [10, 9, 2, 1, 0, 8, 7, 6, 5, 4, 3, 22, 18, 17, 14, 13, 11, 12, 16, 15, 21, 20, 19]])
 (.cond (.t 42) (.seq (.reg [.op (some 43) none (.mov (.t 7)), .op (some 6) none (.mov (.t 43))])
 .ret)
 .skip))
 (.seq (.reg [.op (some 44) none (.mov (.t 0)), .op (some 45) none (.nilck (.t 44)), .op (some 46) none (.addr (.t 45) 0), .op (some 47) none (.addr (.t 46) 5), .op (some 48) none (.load (.t 47) none), .op (some 49) none (.len (.t 48)), .op (some 50) none (.mov (.k (.int .i64 0)))])
 (.blk 2 (.loop [0, 2, 4, 7, 15, 16, 48, 49, 50] L87_0))))))
 (.reg [.op (some 76) none (.bin .add (.t 16) (.k (.int .i64 1))), .op (some 16) none (.mov (.t 76))]))))
def mf87 : SF := ⟨77, [(.t 6)],
 (.seq (.reg [.op (some 4) none (.box (.t 1) 2), .op (some 6) none (.mov (.k (.int .i64 0)))])
 (.seq (.seq (.reg [.op (some 10) none (.mov (.t 0)), .op (some 11) none (.nilck (.t 10)), .op (some 12) none (.addr (.t 11) 0), .op (some 13) none (.addr (.t 12) 1), .op (some 14) none (.load (.t 13) none), .op (some 15) none (.len (.t 14)), .op (some 16) none (.mov (.k (.int .i64 0)))])
 (.blk 0 (.loop [0, 2, 4, 15, 16] L87_1)))
 (.seq (.reg [.op (some 6) none (.mov (.k (.int .i64 (-1))))])
 .ret)))⟩
def mf88 : SF := ⟨13, [(.t 6)],
 (.seq (.reg [.op (some 6) none (.mov (.k .nilS))])
 (.seq (.seq (.reg [.op (some 7) none (.mov (.t 2)), .op (some 8) none (.mov (.t 1)), .op (some 9) none (.mov (.t 0)), .call (some 10) none (.t 7) [(.t 8), (.t 9)]])
 (.cond (.t 10) (.seq (.reg [.op (some 11) none (.mov (.t 1)), .op (some 6) none (.mov (.t 11))])
 .ret)
 .skip))
 (.seq (.reg [.op (some 12) none (.mov (.t 0)), .op (some 6) none (.mov (.t 12))])
 .ret)))⟩
def mf89 : SF := ⟨19, [(.t 4)],
 (.seq (.reg [.op (some 4) none (.mov (.k (.bool false)))])
 (.seq (.seq (.reg [.op (some 5) none (.mov (.t 0)), .op (some 6) none (.len (.t 5)), .op (some 7) none (.mov (.t 1)), .op (some 8) none (.len (.t 7)), .op (some 9) none (.bin .neq (.t 6) (.t 8))])
 (.cond (.t 9) (.seq (.reg [.op (some 10) none (.mov (.t 0)), .op (some 11) none (.len (.t 10)), .op (some 12) none (.mov (.t 1)), .op (some 13) none (.len (.t 12)), .op (some 14) none (.bin .gtr (.t 11) (.t 13)), .op (some 4) none (.mov (.t 14))])
 .ret)
 .skip))
 (.seq (.reg [.op (some 15) none (.mov (.t 0)), .op (some 16) none (.mov (.t 1)), .call (some 17) none (.k (.fn (.func 118) [] [])) [(.t 15), (.t 16), (.k (.fn (.func 119) [] []))], .op (some 18) none (.bin .lss (.t 17) (.k (.int .i64 0))), .op (some 4) none (.mov (.t 18))])
 .ret)))⟩
def mf90 : SF := ⟨24, [(.t 6)],
 (.seq (.reg [.op (some 3) none (.box (.t 0) 2), .op (some 6) none (.mov (.k (.bool false)))])
 (.seq (.reg [.op (some 7) none (.addr (.t 3) 0), .op (some 8) none (.load (.t 7) none), .op (some 9) none (.mov (.t 1)), .op (some 10) none (.bin .geq (.t 8) (.t 9)), .op (some 11) none (.mov (.t 10)), .op (some 12) (some (11, true)) (.addr (.t 3) 0), .op (some 13) (some (11, true)) (.load (.t 12) none), .op (some 14) (some (11, true)) (.addr (.t 3) 1), .op (some 15) (some (11, true)) (.load (.t 14) none), .op (some 16) (some (11, true)) (.bin .leq (.t 13) (.t 15)), .op (some 17) none (.pick (.t 11) (.t 16) (.k (.bool false))), .op (some 18) none (.mov (.t 17)), .op (some 19) (some (18, true)) (.addr (.t 3) 1), .op (some 20) (some (18, true)) (.load (.t 19) none), .op (some 21) (some (18, true)) (.mov (.t 2)), .op (some 22) (some (18, true)) (.bin .leq (.t 20) (.t 21)), .op (some 23) none (.pick (.t 18) (.t 22) (.k (.bool false))), .op (some 6) none (.mov (.t 23))])
 .ret))⟩
def R92_0a : SC := (.seq (.reg [.op (some 10) none (.mov (.t 17))])
 (.reg [.op (some 11) none (.alloc [(.int .i64 0), (.int .i64 0), (.int .i64 0), (.int .i64 0), (.int .i64 0), (.int .i64 0)]), .op none none (.store (.t 11) (.t 18) 6)]))
def R92_0b : SC := (.blk 1 (.seq (.seq (.draw [false, false, false, false, false, false, false, false, false, false, false, false, false, false, false, false, false, false, true, true] [.op (some 19) none (.load (.t 4) none), .op (some 20) none (.nilck (.t 19)), .op (some 21) none (.addr (.t 20) 0), .op (some 22) none (.addr (.t 21) 0), .op (some 23) none (.load (.t 22) none), .op (some 24) none (.load (.t 4) none), .op (some 25) none (.nilck (.t 24)), .op (some 26) none (.addr (.t 25) 0), .op (some 27) none (.addr (.t 26) 1), .op (some 28) none (.load (.t 27) none), .op (some 29) none (.load (.t 5) none), .op (some 30) none (.idxs 7 (.t 28) (.t 29)), .op (some 31) none (.addr (.t 30) 0), .op (some 32) none (.load (.t 31) none), .op (some 33) none (.idxs 8 (.t 23) (.t 32)), .op (some 34) none (.load (.t 33) (some 8)), .op (some 35) none (.load (.t 11) (some 6)), .op (some 36) none (.load (.t 7) none), .call (some 37) none (.k (.fn (.func 120) [] [])) [(.t 34), (.t 35), (.t 36)], .op (some 38) none (.un .not (.t 37))] [[], [0], [1, 0], [2, 1, 0], [3, 2, 1, 0], [], [5], [6, 5], [7, 6, 5], [8, 7, 6, 5], [], [9, 8, 7, 6, 5, 10], [11, 9, 8, 7, 6, 5, 10], [12, 11, 9, 8, 7, 6, 5, 10], [4, 3, 2, 1, 0, 13, 12, 11, 9, 8, 7, 6, 5, 10], [14, 4, 3, 2, 1, 0, 13, 12, 11, 9, 8, 7, 6, 5, 10], [], [], [15, 14, 4, 3, 2, 1, 0, 13, 12, 11, 9, 8, 7, 6, 5, 10, 16, 17], [18, 15, 14, 4, 3, 2, 1, 0, 13, 12, 11, 9, 8, 7, 6, 5, 10, 16, 17]])
 (.cond (.t 38) (.exit 0)
 .skip))
 (.reg [.op (some 39) none (.mov (.t 10)), .op none none (.store (.t 9) (.t 39) 1)])))
def mf92 : SF := ⟨41, [(.t 8)],
 (.seq (.reg [.op (some 4) none (.box (.t 0) 1), .op (some 5) none (.box (.t 1) 1), .op (some 7) none (.box (.t 3) 1), .op (some 8) none (.mov (.k (.int .i64 0)))])
 (.seq (.reg [.op (some 12) none (.mov (.t 2)), .op (some 9) none (.alloc [(.int .i64 0)]), .op none none (.store (.t 9) (.t 12) 1)])
 (.seq (.seq (.reg [.op (some 13) none (.load (.t 4) none), .op (some 14) none (.load (.t 5) none), .op (some 15) none (.mov (.t 2)), .call (some 16) none (.k (.fn (.func 95) [] [])) [(.t 13), (.t 14), (.t 15)]])
 (.blk 0 (.rng (.t 16) #[17, 18] (codeAt (bodyOf 92) [1, 1, 0, 1, 0, 0]) (codeAt (bodyOf 92) [1, 1, 0, 1, 0, 1]) R92_0a R92_0b)))
 (.seq (.reg [.op (some 40) none (.load (.t 9) none), .op (some 8) none (.mov (.t 40))])
 .ret))))⟩
def mf93 : SF := ⟨5, [(.t 2)],
 (.seq (.reg [.op (some 1) none (.box (.t 0) 2), .op (some 2) none (.mov (.k (.int .i64 0)))])
 (.seq (.reg [.op (some 3) none (.addr (.t 1) 1), .op (some 4) none (.load (.t 3) none), .op (some 2) none (.mov (.t 4))])
 .ret))⟩
def mf94 : SF := ⟨5, [(.t 2)],
 (.seq (.reg [.op (some 1) none (.box (.t 0) 2), .op (some 2) none (.mov (.k (.int .i64 0)))])
 (.seq (.reg [.op (some 3) none (.addr (.t 1) 0), .op (some 4) none (.load (.t 3) none), .op (some 2) none (.mov (.t 4))])
 .ret))⟩
def mf95 : SF := ⟨8, [(.t 6)],
 (.seq (.reg [.op (some 3) none (.box (.t 0) 1), .op (some 4) none (.box (.t 1) 1), .op (some 5) none (.box (.t 2) 1), .op (some 6) none (.mov (.k .nilF))])
 (.seq (.reg [.op (some 7) none (.mkfn (.func 121) [] [(.t 3), (.t 4), (.t 5)]), .op (some 6) none (.mov (.t 7))])
 .ret))⟩
def mf96 : SF := ⟨27, [(.t 4)],
 (.seq (.reg [.op (some 2) none (.box (.t 0) 8), .op (some 3) none (.box (.t 1) 6), .op (some 4) none (.mov (.k (.bool false)))])
 (.seq (.reg [.op (some 5) none (.addr (.t 3) 0), .op (some 6) none (.addr (.t 5) 0), .op (some 7) none (.load (.t 6) none), .op (some 8) none (.addr (.t 2) 0), .op (some 9) none (.load (.t 8) none), .op (some 10) none (.bin .leq (.t 7) (.t 9)), .op (some 11) none (.mov (.t 10)), .op (some 12) (some (11, true)) (.addr (.t 3) 2), .op (some 13) (some (11, true)) (.addr (.t 12) 0), .op (some 14) (some (11, true)) (.load (.t 13) none), .op (some 15) (some (11, true)) (.addr (.t 2) 1), .op (some 16) (some (11, true)) (.load (.t 15) none), .op (some 17) (some (11, true)) (.bin .leq (.t 14) (.t 16)), .op (some 18) none (.pick (.t 11) (.t 17) (.k (.bool false))), .op (some 19) none (.mov (.t 18)), .op (some 20) (some (19, true)) (.addr (.t 3) 4), .op (some 21) (some (19, true)) (.addr (.t 20) 0), .op (some 22) (some (19, true)) (.load (.t 21) none), .op (some 23) (some (19, true)) (.addr (.t 2) 2), .op (some 24) (some (19, true)) (.load (.t 23) none), .op (some 25) (some (19, true)) (.bin .leq (.t 22) (.t 24)), .op (some 26) none (.pick (.t 19) (.t 25) (.k (.bool false))), .op (some 4) none (.mov (.t 26))])
 .ret))⟩
def L107_0 : SC := (.seq (.reg [.op (some 9) none (.bin .lss (.t 8) (.t 7))])
 (.seq (.cond (.t 9) .skip
 (.exit 0))
 (.seq (.blk 1 (.seq (.reg [.op (some 10) none (.idxs 2 (.t 6) (.t 8)), .op (some 11) none (.load (.t 10) (some 2)), .op (some 5) none (.alloc [(.int .i64 0), (.int .i64 0)]), .op none none (.store (.t 5) (.t 11) 2)])
 (.reg [.op (some 12) none (.addr (.t 3) 0), .op (some 13) none (.load (.t 12) none), .op (some 14) none (.addr (.t 5) 0), .op (some 15) none (.load (.t 14) none), .op (some 16) none (.bin .add (.t 13) (.t 15)), .op (some 17) none (.minmax true [(.k (.int .i64 10000000)), (.t 16)]), .op (some 18) none (.addr (.t 3) 1), .op (some 19) none (.load (.t 18) none), .op (some 20) none (.addr (.t 5) 1), .op (some 21) none (.load (.t 20) none), .op (some 22) none (.bin .add (.t 19) (.t 21)), .op (some 23) none (.minmax true [(.k (.int .i64 10000000)), (.t 22)]), .op (some 24) none (.build [(.int .i64 0), (.int .i64 0)] [(0, 1, (.t 17)), (1, 1, (.t 23))]), .op none none (.store (.t 3) (.t 24) 2)])))
 (.reg [.op (some 25) none (.bin .add (.t 8) (.k (.int .i64 1))), .op (some 8) none (.mov (.t 25))]))))
def mf107 : SF := ⟨27, [(.c 2 (some 2))],
 (.seq (.reg [.op (some 2) none (.alloc [(.int .i64 0), (.int .i64 0)])])
 (.seq (.reg [.op (some 3) none (.alloc [(.int .i64 0), (.int .i64 0)])])
 (.seq (.seq (.reg [.op (some 6) none (.mov (.t 0)), .op (some 7) none (.len (.t 6)), .op (some 8) none (.mov (.k (.int .i64 0)))])
 (.blk 0 (.loop [2, 3, 6, 7, 8] L107_0)))
 (.seq (.reg [.op (some 26) none (.load (.t 3) (some 2)), .op none none (.store (.t 2) (.t 26) 2)])
 .ret))))⟩
def mf108 : SF := ⟨9, [(.t 4)],
 (.seq (.reg [.op (some 4) none (.mov (.k (.bool false)))])
 (.seq (.reg [.op (some 5) none (.mov (.t 0)), .op (some 6) none (.mov (.t 1)), .call (some 7) none (.k (.fn (.func 128) [] [])) [(.t 5), (.t 6)], .op (some 8) none (.bin .geq (.t 7) (.k (.int .i64 0))), .op (some 4) none (.mov (.t 8))])
 .ret))⟩
def mf109 : SF := ⟨22, [(.t 3)],
 (.seq (.reg [.op (some 2) none (.box (.t 0) 3), .op (some 3) none (.mov (.k (.bool false)))])
 (.seq (.reg [.op (some 4) none (.addr (.t 2) 0), .op (some 5) none (.load (.t 4) none), .op (some 6) none (.addr (.t 1) 1), .op (some 7) none (.load (.t 6) none), .op (some 8) none (.len (.t 7)), .op (some 9) none (.bin .sub (.t 8) (.k (.int .i64 1))), .call (some 10) none (.k (.fn (.func 65) [] [])) [(.t 5), (.k (.int .i64 0)), (.t 9)], .op (some 11) none (.un .not (.t 10)), .op (some 12) none (.mov (.t 11)), .op (some 13) (some (12, false)) (.addr (.t 2) 1), .op (some 14) (some (12, false)) (.load (.t 13) (some 2)), .op (some 15) (some (12, false)) (.addr (.t 1) 2), .op (some 16) (some (12, false)) (.load (.t 15) none), .op (some 17) (some (12, false)) (.len (.t 16)), .op (some 18) (some (12, false)) (.bin .sub (.t 17) (.k (.int .i64 1))), .call (some 19) (some (12, false)) (.k (.fn (.func 90) [] [])) [(.t 14), (.k (.int .i64 0)), (.t 18)], .op (some 20) (some (12, false)) (.un .not (.t 19)), .op (some 21) none (.pick (.t 12) (.k (.bool true)) (.t 20)), .op (some 3) none (.mov (.t 21))])
 .ret))⟩
def L110_0 : SC := (.seq (.reg [.op (some 15) none (.bin .lss (.t 14) (.t 13))])
 (.seq (.cond (.t 15) .skip
 (.exit 0))
 (.seq (.blk 1 (.seq (.reg [.op (some 16) none (.mov (.t 14)), .op (some 4) none (.mov (.t 16))])
 (.seq (.draw [false, false, false, false, false, false, false, false, false, false, false, false, false, false, false, false, true] [.op (some 17) none (.mov (.t 0)), .op (some 18) none (.nilck (.t 17)), .op (some 19) none (.addr (.t 18) 0), .op (some 20) none (.load (.t 19) none), .op (some 21) none (.mov (.t 4)), .op (some 22) none (.mov (.t 0)), .op (some 23) none (.mov (.t 4)), .op (some 24) none (.nilck (.t 22)), .op (some 25) none (.addr (.t 24) 2), .op (some 26) none (.idxa 5 1 (.t 25) (.t 23)), .op (some 27) none (.load (.t 26) none), .call (some 28) none (.k (.fn (.func 92) [] [])) [(.t 20), (.t 21), (.t 27), (.k (.fn (.func 93) [] []))], .op (some 29) none (.mov (.t 0)), .op (some 30) none (.nilck (.t 29)), .op (some 31) none (.addr (.t 30) 1), .op (some 32) none (.load (.t 31) none), .op (some 33) none (.bin .lss (.t 28) (.t 32))] [[], [0], [1, 0], [2, 1, 0], [], [], [], [5], [7, 5], [8, 7, 5, 6], [9, 8, 7, 5, 6], [3, 2, 1, 0, 4, 10, 9, 8, 7, 5, 6], [], [12], [13, 12], [14, 13, 12], [11, 3, 2, 1, 0, 4, 10, 9, 8, 7, 5, 6, 15, 14, 13, 12]])
 (.cond (.t 33) (.seq (.reg [.op (some 34) none (.mov (.t 4)), .op (some 2) none (.mov (.t 34)), .op (some 3) none (.mov (.k (.bool true)))])
 .ret)
 .skip))))
 (.reg [.op (some 35) none (.bin .add (.t 14) (.k (.int .i64 1))), .op (some 14) none (.mov (.t 35))]))))
def mf110 : SF := ⟨36, [(.t 2), (.t 3)],
 (.seq (.reg [.op (some 2) none (.mov (.k (.int .i64 0))), .op (some 3) none (.mov (.k (.bool false)))])
 (.seq (.seq (.reg [.op (some 5) none (.mov (.t 0)), .op (some 6) none (.nilck (.t 5)), .op (some 7) none (.addr (.t 6) 0), .op (some 8) none (.load (.t 7) none), .op (some 9) none (.nilck (.t 8)), .op (some 10) none (.addr (.t 9) 0), .op (some 11) none (.addr (.t 10) 1), .op (some 12) none (.load (.t 11) none), .op (some 13) none (.len (.t 12)), .op (some 14) none (.mov (.k (.int .i64 0)))])
 (.blk 0 (.loop [0, 13, 14] L110_0)))
 (.seq (.reg [.op (some 2) none (.mov (.k (.int .i64 0))), .op (some 3) none (.mov (.k (.bool false)))])
 .ret)))⟩
def mf111 : SF := ⟨27, [(.t 2), (.t 3)],
 (.seq (.reg [.op (some 2) none (.mov (.k (.int .i64 0))), .op (some 3) none (.mov (.k (.bool false)))])
 (.seq (.draw [true, true, true, true, true, true, true, false, false, false, false, false, false, false, false, false, false, false, false, false, false, false, false, false, true] [.op (some 4) none (.mov (.t 0)), .op (some 5) none (.nilck (.t 4)), .op (some 6) none (.addr (.t 5) 7), .op (some 7) none (.load (.t 6) none), .op (some 8) none (.len (.t 7)), .op (some 9) none (.bin .gtr (.t 8) (.k (.int .i64 0))), .op (some 10) none (.mov (.t 9)), .op (some 11) (some (10, true)) (.mov (.t 0)), .op (some 12) (some (10, true)) (.nilck (.t 11)), .op (some 13) (some (10, true)) (.addr (.t 12) 0), .op (some 14) (some (10, true)) (.load (.t 13) none), .op (some 15) (some (10, true)) (.nilck (.t 14)), .op (some 16) (some (10, true)) (.addr (.t 15) 0), .op (some 17) (some (10, true)) (.addr (.t 16) 3), .op (some 18) (some (10, true)) (.load (.t 17) none), .op (some 19) (some (10, true)) (.mov (.t 0)), .op (some 20) (some (10, true)) (.nilck (.t 19)), .op (some 21) (some (10, true)) (.addr (.t 20) 1), .op (some 22) (some (10, true)) (.load (.t 21) none), .op (some 23) (some (10, true)) (.idxs 1 (.t 18) (.t 22)), .op (some 24) (some (10, true)) (.load (.t 23) none), .op (some 25) (some (10, true)) (.un .not (.t 24)), .op (some 26) none (.pick (.t 10) (.t 25) (.k (.bool false))), .op (some 2) none (.mov (.k (.int .i64 0))), .op (some 3) none (.mov (.t 26))] [[], [0], [1, 0], [2, 1, 0], [3, 2, 1, 0], [4, 3, 2, 1, 0], [5, 4, 3, 2, 1, 0], [6, 5, 4, 3, 2, 1, 0], [7, 6, 5, 4, 3, 2, 1, 0], [8, 7, 6, 5, 4, 3, 2, 1, 0], [9, 8, 7, 6, 5, 4, 3, 2, 1, 0], [10, 9, 8, 7, 6, 5, 4, 3, 2, 1, 0], [11, 10, 9, 8, 7, 6, 5, 4, 3, 2, 1, 0], [12, 11, 10, 9, 8, 7, 6, 5, 4, 3, 2, 1, 0], [13, 12, 11, 10, 9, 8, 7, 6, 5, 4, 3, 2, 1, 0], [6, 5, 4, 3, 2, 1, 0], [15, 6, 5, 4, 3, 2, 1, 0], [16, 15, 6, 5, 4, 3, 2, 1, 0], [17, 16, 15, 6, 5, 4, 3, 2, 1, 0], [14, 13, 12, 11, 10, 9, 8, 7, 6, 5, 4, 3, 2, 1, 0, 18, 17, 16, 15], [19, 14, 13, 12, 11, 10, 9, 8, 7, 6, 5, 4, 3, 2, 1, 0, 18, 17, 16, 15], [20, 19, 14, 13, 12, 11, 10, 9, 8, 7, 6, 5, 4, 3, 2, 1, 0, 18, 17, 16, 15], [6, 5, 4, 3, 2, 1, 0, 21, 20, 19, 14, 13, 12, 11, 10, 9, 8, 7, 18, 17, 16, 15], [6, 5, 4, 3, 2, 1, 0], [22, 6, 5, 4, 3, 2, 1, 0, 21, 20, 19, 14, 13, 12, 11, 10, 9, 8, 7, 18, 17, 16, 15, 23]])
 .ret))⟩
def mf112 : SF := ⟨18, [(.t 2), (.t 3)],
 (.seq (.reg [.op (some 2) none (.mov (.k (.int .i64 0))), .op (some 3) none (.mov (.k (.bool false)))])
 (.seq (.draw [false, false, false, false, false, false, false, false, false, false, false, false, false, false, false, true] [.op (some 4) none (.mov (.t 0)), .op (some 5) none (.nilck (.t 4)), .op (some 6) none (.addr (.t 5) 7), .op (some 7) none (.load (.t 6) none), .op (some 8) none (.len (.t 7)), .op (some 9) none (.mov (.t 0)), .op (some 10) none (.nilck (.t 9)), .op (some 11) none (.addr (.t 10) 0), .op (some 12) none (.load (.t 11) none), .op (some 13) none (.nilck (.t 12)), .op (some 14) none (.addr (.t 13) 0), .op (some 15) none (.addr (.t 14) 4), .op (some 16) none (.load (.t 15) none), .op (some 17) none (.bin .gtr (.t 8) (.t 16)), .op (some 2) none (.mov (.k (.int .i64 0))), .op (some 3) none (.mov (.t 17))] [[], [0], [1, 0], [2, 1, 0], [3, 2, 1, 0], [], [5], [6, 5], [7, 6, 5], [8, 7, 6, 5], [9, 8, 7, 6, 5], [10, 9, 8, 7, 6, 5], [11, 10, 9, 8, 7, 6, 5], [4, 3, 2, 1, 0, 12, 11, 10, 9, 8, 7, 6, 5], [], [13, 4, 3, 2, 1, 0, 12, 11, 10, 9, 8, 7, 6, 5, 14]])
 .ret))⟩
def L113_0 : SC := (.seq (.reg [.op (some 16) none (.bin .lss (.t 15) (.t 14))])
 (.seq (.cond (.t 16) .skip
 (.exit 0))
 (.seq (.blk 1 (.seq (.reg [.op (some 17) none (.mov (.t 15)), .op (some 18) none (.idxs 3 (.t 13) (.t 15)), .op (some 19) none (.load (.t 18) (some 3)), .op (some 5) none (.alloc [(.int .i64 0), (.int .i64 0), (.int .i64 0)]), .op (some 4) none (.mov (.t 17)), .op none none (.store (.t 5) (.t 19) 3)])
 (.seq (.draw [false, false, false, false, false, false, false, true, true, false, false, false, false, false, false, false, false, false, false, true, true, true] [.op (some 20) none (.addr (.t 5) 1), .op (some 21) none (.addr (.t 20) 1), .op (some 22) none (.load (.t 21) none), .op (some 23) none (.mov (.t 0)), .op (some 24) none (.nilck (.t 23)), .op (some 25) none (.addr (.t 24) 1), .op (some 26) none (.load (.t 25) none), .op (some 27) none (.bin .eql (.t 22) (.t 26)), .op (some 28) none (.mov (.t 27)), .op (some 29) (some (28, true)) (.mov (.t 0)), .op (some 30) (some (28, true)) (.addr (.t 5) 0), .op (some 31) (some (28, true)) (.load (.t 30) none), .op (some 32) (some (28, true)) (.nilck (.t 29)), .op (some 33) (some (28, true)) (.addr (.t 32) 8), .op (some 34) (some (28, true)) (.idxa 5 1 (.t 33) (.t 31)), .op (some 35) (some (28, true)) (.load (.t 34) none), .op (some 36) (some (28, true)) (.addr (.t 5) 1), .op (some 37) (some (28, true)) (.addr (.t 36) 0), .op (some 38) (some (28, true)) (.load (.t 37) none), .op (some 39) (some (28, true)) (.bin .shr (.t 35) (.t 38)), .op (some 40) (some (28, true)) (.bin .eql (.t 39) (.k (.int .i64 0))), .op (some 41) none (.pick (.t 28) (.t 40) (.k (.bool false)))] [[], [0], [1, 0], [], [3], [4, 3], [5, 4, 3], [2, 1, 0, 6, 5, 4, 3], [7, 2, 1, 0, 6, 5, 4, 3], [8, 7, 2, 1, 0, 6, 5, 4, 3], [8, 7, 2, 1, 0, 6, 5, 4, 3], [10, 8, 7, 2, 1, 0, 6, 5, 4, 3], [9, 8, 7, 2, 1, 0, 6, 5, 4, 3], [12, 9, 8, 7, 2, 1, 0, 6, 5, 4, 3], [13, 12, 9, 8, 7, 2, 1, 0, 6, 5, 4, 3, 11, 10], [14, 13, 12, 9, 8, 7, 2, 1, 0, 6, 5, 4, 3, 11, 10], [8, 7, 2, 1, 0, 6, 5, 4, 3], [16, 8, 7, 2, 1, 0, 6, 5, 4, 3], [17, 16, 8, 7, 2, 1, 0, 6, 5, 4, 3], [15, 14, 13, 12, 9, 8, 7, 2, 1, 0, 6, 5, 4, 3, 11, 10, 18, 17, 16], [19, 15, 14, 13, 12, 9, 8, 7, 2, 1, 0, 6, 5, 4, 3, 11, 10, 18, 17, 16], [8, 7, 2, 1, 0, 6, 5, 4, 3, 20, 19, 15, 14, 13, 12, 9, 11, 10, 18, 17, 16]])
 (.cond (.t 41) (.seq (.reg [.op (some 42) none (.mov (.t 4)), .op (some 2) none (.mov (.t 42)), .op (some 3) none (.mov (.k (.bool true)))])
 .ret)
 .skip))))
 (.reg [.op (some 43) none (.bin .add (.t 15) (.k (.int .i64 1))), .op (some 15) none (.mov (.t 43))]))))
def mf113 : SF := ⟨44, [(.t 2), (.t 3)],
 (.seq (.reg [.op (some 2) none (.mov (.k (.int .i64 0))), .op (some 3) none (.mov (.k (.bool false)))])
 (.seq (.seq (.reg [.op (some 6) none (.mov (.t 0)), .op (some 7) none (.nilck (.t 6)), .op (some 8) none (.addr (.t 7) 0), .op (some 9) none (.load (.t 8) none), .op (some 10) none (.nilck (.t 9)), .op (some 11) none (.addr (.t 10) 0), .op (some 12) none (.addr (.t 11) 5), .op (some 13) none (.load (.t 12) none), .op (some 14) none (.len (.t 13)), .op (some 15) none (.mov (.k (.int .i64 0)))])
 (.blk 0 (.loop [0, 13, 14, 15] L113_0)))
 (.seq (.reg [.op (some 2) none (.mov (.k (.int .i64 0))), .op (some 3) none (.mov (.k (.bool false)))])
 .ret)))⟩
def L114_0 : SC := (.seq (.reg [.op (some 9) none (.bin .lss (.t 8) (.t 7))])
 (.seq (.cond (.t 9) .skip
 (.exit 0))
 (.seq (.blk 1 (.seq (.reg [.op (some 10) none (.mov (.t 8)), .op (some 5) none (.mov (.t 10))])
 (.seq (.reg [.op (some 11) none (.mov (.t 1)), .op (some 12) none (.mov (.t 0)), .op (some 13) none (.mov (.t 5)), .op (some 14) none (.idxs 1 (.t 12) (.t 13)), .op (some 15) none (.load (.t 14) none), .op (some 16) none (.bin .eql (.t 11) (.t 15))])
 (.cond (.t 16) (.seq (.reg [.op (some 17) none (.mov (.t 5)), .op (some 4) none (.mov (.t 17))])
 .ret)
 .skip))))
 (.reg [.op (some 18) none (.bin .add (.t 8) (.k (.int .i64 1))), .op (some 8) none (.mov (.t 18))]))))
def mf114 : SF := ⟨19, [(.t 4)],
 (.seq (.reg [.op (some 4) none (.mov (.k (.int .i64 0)))])
 (.seq (.seq (.reg [.op (some 6) none (.mov (.t 0)), .op (some 7) none (.len (.t 6)), .op (some 8) none (.mov (.k (.int .i64 0)))])
 (.blk 0 (.loop [0, 1, 7, 8] L114_0)))
 (.seq (.reg [.op (some 4) none (.mov (.k (.int .i64 (-1))))])
 .ret)))⟩
def L115_0 : SC := (.seq (.reg [.op (some 12) none (.bin .lss (.t 11) (.t 10))])
 (.seq (.cond (.t 12) .skip
 (.exit 0))
 (.seq (.blk 1 (.seq (.reg [.op (some 13) none (.mov (.t 11)), .op (some 14) none (.idxs 1 (.t 9) (.t 11)), .op (some 15) none (.load (.t 14) none), .op (some 5) none (.mov (.t 13)), .op (some 6) none (.mov (.t 15))])
 (.seq (.seq (.reg [.op (some 16) none (.mov (.t 5)), .op (some 17) none (.mov (.t 1)), .op (some 18) none (.len (.t 17)), .op (some 19) none (.bin .geq (.t 16) (.t 18))])
 (.cond (.t 19) (.seq (.reg [.op (some 4) none (.mov (.k (.int .i64 1)))])
 .ret)
 .skip))
 (.seq (.reg [.op (some 20) none (.mov (.t 1)), .op (some 21) none (.mov (.t 5)), .op (some 22) none (.idxs 1 (.t 20) (.t 21)), .op (some 23) none (.load (.t 22) none), .op (some 7) none (.mov (.t 23))])
 (.seq (.reg [.op (some 24) none (.mov (.t 6)), .op (some 25) none (.mov (.t 7)), .call (some 26) none (.k (.fn (.func 129) [] [])) [(.t 24), (.t 25)], .op (some 8) none (.mov (.t 26))])
 (.seq (.reg [.op (some 27) none (.mov (.t 8)), .op (some 28) none (.bin .neq (.t 27) (.k (.int .i64 0)))])
 (.cond (.t 28) (.seq (.reg [.op (some 29) none (.mov (.t 8)), .op (some 4) none (.mov (.t 29))])
 .ret)
 .skip)))))))
 (.reg [.op (some 30) none (.bin .add (.t 11) (.k (.int .i64 1))), .op (some 11) none (.mov (.t 30))]))))
def mf115 : SF := ⟨36, [(.t 4)],
 (.seq (.reg [.op (some 4) none (.mov (.k (.int .i64 0)))])
 (.seq (.seq (.reg [.op (some 9) none (.mov (.t 0)), .op (some 10) none (.len (.t 9)), .op (some 11) none (.mov (.k (.int .i64 0)))])
 (.blk 0 (.loop [0, 1, 9, 10, 11] L115_0)))
 (.seq (.seq (.reg [.op (some 31) none (.mov (.t 0)), .op (some 32) none (.len (.t 31)), .op (some 33) none (.mov (.t 1)), .op (some 34) none (.len (.t 33)), .op (some 35) none (.bin .lss (.t 32) (.t 34))])
 (.cond (.t 35) (.seq (.reg [.op (some 4) none (.mov (.k (.int .i64 (-1))))])
 .ret)
 .skip))
 (.seq (.reg [.op (some 4) none (.mov (.k (.int .i64 0)))])
 .ret))))⟩
def L116_0 : SC := (.seq (.seq (.reg [.op (some 7) none (.mov (.t 6)), .op (some 8) none (.mov (.t 1)), .op (some 9) none (.bin .lss (.t 7) (.t 8))])
 (.cond (.t 9) .skip
 (.exit 0)))
 (.seq (.blk 1 (.seq (.reg [.op (some 12) none (.mov (.t 0)), .op (some 13) none (.mov (.t 6)), .op (some 14) none (.bin .shr (.t 12) (.t 13)), .op (some 15) none (.bin .and (.t 14) (.k (.int .i64 1))), .op (some 16) none (.bin .eql (.t 15) (.k (.int .i64 1)))])
 (.cond (.t 16) (.reg [.op (some 17) none (.mov (.t 5)), .op (some 18) none (.mov (.t 6)), .op (some 19) none (.bslice 1 [(.int .i64 0)] 1 [(0, 1, (.t 18))]), .op (some 20) none (.app 1 [(.int .i64 0)] 8 (.t 17) (.t 19)), .op (some 5) none (.mov (.t 20))])
 .skip)))
 (.reg [.op (some 10) none (.mov (.t 6)), .op (some 11) none (.bin .add (.t 10) (.k (.int .i64 1))), .op (some 6) none (.mov (.t 11))])))
def mf116 : SF := ⟨22, [(.t 4)],
 (.seq (.reg [.op (some 4) none (.mov (.k .nilS))])
 (.seq (.reg [.op (some 5) none (.mov (.k .nilS))])
 (.seq (.seq (.reg [.op (some 6) none (.mov (.k (.int .i64 0)))])
 (.blk 0 (.loop [0, 1, 5, 6] L116_0)))
 (.seq (.reg [.op (some 21) none (.mov (.t 5)), .op (some 4) none (.mov (.t 21))])
 .ret))))⟩
def L117_0 : SC := (.seq (.seq (.reg [.op (some 10) none (.mov (.t 6)), .op (some 11) none (.bin .geq (.t 10) (.k (.int .i64 0)))])
 (.cond (.t 11) .skip
 (.exit 0)))
 (.seq (.blk 1 (.draw [false, false, false, false, false, false, false, false, false, false, true, true, true] [.op (some 14) none (.mov (.t 5)), .op (some 15) none (.addr (.t 2) 2), .op (some 16) none (.load (.t 15) none), .op (some 17) none (.len (.t 16)), .op (some 18) none (.bin .add (.t 17) (.k (.int .i64 1))), .op (some 19) none (.bin .mul (.t 14) (.t 18)), .op (some 20) none (.mov (.t 1)), .op (some 21) none (.mov (.t 6)), .op (some 22) none (.idxs 1 (.t 20) (.t 21)), .op (some 23) none (.load (.t 22) none), .op (some 24) none (.bin .add (.t 19) (.t 23)), .op (some 25) none (.bin .add (.t 24) (.k (.int .i64 1))), .op (some 5) none (.mov (.t 25))] [[], [], [1], [2, 1], [3, 2, 1], [0, 4, 3, 2, 1], [], [], [6, 7], [8, 6, 7], [5, 0, 4, 3, 2, 1, 9, 8, 6, 7], [10, 5, 0, 4, 3, 2, 1, 9, 8, 6, 7], [11, 10, 5, 0, 4, 3, 2, 1, 9, 8, 6, 7]]))
 (.reg [.op (some 12) none (.mov (.t 6)), .op (some 13) none (.bin .sub (.t 12) (.k (.int .i64 1))), .op (some 6) none (.mov (.t 13))])))
def mf117 : SF := ⟨27, [(.t 4)],
 (.seq (.reg [.op (some 2) none (.box (.t 0) 6), .op (some 4) none (.mov (.k (.int .i64 0)))])
 (.seq (.reg [.op (some 5) none (.mov (.k (.int .i64 0)))])
 (.seq (.seq (.reg [.op (some 7) none (.mov (.t 1)), .op (some 8) none (.len (.t 7)), .op (some 9) none (.bin .sub (.t 8) (.k (.int .i64 1))), .op (some 6) none (.mov (.t 9))])
 (.blk 0 (.loop [1, 2, 5, 6] L117_0)))
 (.seq (.reg [.op (some 26) none (.mov (.t 5)), .op (some 4) none (.mov (.t 26))])
 .ret))))⟩
def L118_0 : SC := (.seq (.reg [.op (some 14) none (.bin .lss (.t 13) (.t 12))])
 (.seq (.cond (.t 14) .skip
 (.exit 0))
 (.seq (.blk 1 (.seq (.reg [.op (some 15) none (.mov (.t 13)), .op (some 16) none (.idxs 2 (.t 11) (.t 13)), .op (some 17) none (.load (.t 16) (some 2)), .op (some 8) none (.alloc [(.int .i64 0), (.int .i64 0)]), .op (some 7) none (.mov (.t 15)), .op none none (.store (.t 8) (.t 17) 2)])
 (.seq (.seq (.reg [.op (some 18) none (.mov (.t 7)), .op (some 19) none (.mov (.t 1)), .op (some 20) none (.len (.t 19)), .op (some 21) none (.bin .geq (.t 18) (.t 20))])
 (.cond (.t 21) (.seq (.reg [.op (some 6) none (.mov (.k (.int .i64 1)))])
 .ret)
 .skip))
 (.seq (.reg [.op (some 22) none (.mov (.t 1)), .op (some 23) none (.mov (.t 7)), .op (some 24) none (.idxs 2 (.t 22) (.t 23)), .op (some 25) none (.load (.t 24) (some 2)), .op (some 9) none (.alloc [(.int .i64 0), (.int .i64 0)]), .op none none (.store (.t 9) (.t 25) 2)])
 (.seq (.reg [.op (some 26) none (.mov (.t 2)), .op (some 27) none (.load (.t 8) (some 2)), .op (some 28) none (.load (.t 9) (some 2)), .call (some 29) none (.t 26) [(.t 27), (.t 28)], .op (some 10) none (.mov (.t 29))])
 (.seq (.reg [.op (some 30) none (.mov (.t 10)), .op (some 31) none (.bin .neq (.t 30) (.k (.int .i64 0)))])
 (.cond (.t 31) (.seq (.reg [.op (some 32) none (.mov (.t 10)), .op (some 6) none (.mov (.t 32))])
 .ret)
 .skip)))))))
 (.reg [.op (some 33) none (.bin .add (.t 13) (.k (.int .i64 1))), .op (some 13) none (.mov (.t 33))]))))
def mf118 : SF := ⟨39, [(.t 6)],
 (.seq (.reg [.op (some 6) none (.mov (.k (.int .i64 0)))])
 (.seq (.seq (.reg [.op (some 11) none (.mov (.t 0)), .op (some 12) none (.len (.t 11)), .op (some 13) none (.mov (.k (.int .i64 0)))])
 (.blk 0 (.loop [0, 1, 2, 11, 12, 13] L118_0)))
 (.seq (.seq (.reg [.op (some 34) none (.mov (.t 0)), .op (some 35) none (.len (.t 34)), .op (some 36) none (.mov (.t 1)), .op (some 37) none (.len (.t 36)), .op (some 38) none (.bin .lss (.t 35) (.t 37))])
 (.cond (.t 38) (.seq (.reg [.op (some 6) none (.mov (.k (.int .i64 (-1))))])
 .ret)
 .skip))
 (.seq (.reg [.op (some 6) none (.mov (.k (.int .i64 0)))])
 .ret))))⟩
def mf119 : SF := ⟨20, [(.t 4)],
 (.seq (.reg [.op (some 2) none (.box (.t 0) 2), .op (some 3) none (.box (.t 1) 2), .op (some 4) none (.mov (.k (.int .i64 0)))])
 (.seq (.seq (.reg [.op (some 5) none (.addr (.t 2) 0), .op (some 6) none (.load (.t 5) none), .op (some 7) none (.addr (.t 3) 0), .op (some 8) none (.load (.t 7) none), .op (some 9) none (.bin .neq (.t 6) (.t 8))])
 (.cond (.t 9) (.seq (.reg [.op (some 10) none (.addr (.t 2) 0), .op (some 11) none (.load (.t 10) none), .op (some 12) none (.addr (.t 3) 0), .op (some 13) none (.load (.t 12) none), .op (some 14) none (.bin .sub (.t 11) (.t 13)), .op (some 4) none (.mov (.t 14))])
 .ret)
 .skip))
 (.seq (.reg [.op (some 15) none (.addr (.t 2) 1), .op (some 16) none (.load (.t 15) none), .op (some 17) none (.addr (.t 3) 1), .op (some 18) none (.load (.t 17) none), .op (some 19) none (.bin .sub (.t 16) (.t 18)), .op (some 4) none (.mov (.t 19))])
 .ret)))⟩
def mf120 : SF := ⟨32, [(.t 6)],
 (.seq (.reg [.op (some 3) none (.box (.t 0) 8), .op (some 4) none (.box (.t 1) 6), .op (some 6) none (.mov (.k (.bool false)))])
 (.seq (.draw [false, false, false, false, false, false, true, true, false, false, false, false, false, false, true, true, true, false, false, false, false, false, false, true, true, true] [.op (some 7) none (.mov (.t 2)), .op (some 8) none (.addr (.t 4) 0), .op (some 9) none (.load (.t 8) (some 2)), .call (some 10) none (.t 7) [(.t 9)], .op (some 11) none (.addr (.t 3) 0), .op (some 12) none (.load (.t 11) none), .op (some 13) none (.bin .leq (.t 10) (.t 12)), .op (some 14) none (.mov (.t 13)), .op (some 15) (some (14, true)) (.mov (.t 2)), .op (some 16) (some (14, true)) (.addr (.t 4) 2), .op (some 17) (some (14, true)) (.load (.t 16) (some 2)), .call (some 18) (some (14, true)) (.t 15) [(.t 17)], .op (some 19) (some (14, true)) (.addr (.t 3) 1), .op (some 20) (some (14, true)) (.load (.t 19) none), .op (some 21) (some (14, true)) (.bin .leq (.t 18) (.t 20)), .op (some 22) none (.pick (.t 14) (.t 21) (.k (.bool false))), .op (some 23) none (.mov (.t 22)), .op (some 24) (some (23, true)) (.mov (.t 2)), .op (some 25) (some (23, true)) (.addr (.t 4) 4), .op (some 26) (some (23, true)) (.load (.t 25) (some 2)), .call (some 27) (some (23, true)) (.t 24) [(.t 26)], .op (some 28) (some (23, true)) (.addr (.t 3) 2), .op (some 29) (some (23, true)) (.load (.t 28) none), .op (some 30) (some (23, true)) (.bin .leq (.t 27) (.t 29)), .op (some 31) none (.pick (.t 23) (.t 30) (.k (.bool false))), .op (some 6) none (.mov (.t 31))] [[], [], [1], [0, 2, 1], [], [4], [3, 0, 2, 1, 5, 4], [6, 3, 0, 2, 1, 5, 4], [7, 6, 3, 0, 2, 1, 5, 4], [7, 6, 3, 0, 2, 1, 5, 4], [9, 7, 6, 3, 0, 2, 1, 5, 4], [8, 7, 6, 3, 0, 2, 1, 5, 4, 10, 9], [7, 6, 3, 0, 2, 1, 5, 4], [12, 7, 6, 3, 0, 2, 1, 5, 4], [11, 8, 7, 6, 3, 0, 2, 1, 5, 4, 10, 9, 13, 12], [7, 6, 3, 0, 2, 1, 5, 4, 14, 11, 8, 10, 9, 13, 12], [15, 7, 6, 3, 0, 2, 1, 5, 4, 14, 11, 8, 10, 9, 13, 12], [16, 15, 7, 6, 3, 0, 2, 1, 5, 4, 14, 11, 8, 10, 9, 13, 12], [16, 15, 7, 6, 3, 0, 2, 1, 5, 4, 14, 11, 8, 10, 9, 13, 12], [18, 16, 15, 7, 6, 3, 0, 2, 1, 5, 4, 14, 11, 8, 10, 9, 13, 12], [17, 16, 15, 7, 6, 3, 0, 2, 1, 5, 4, 14, 11, 8, 10, 9, 13, 12, 19, 18], [16, 15, 7, 6, 3, 0, 2, 1, 5, 4, 14, 11, 8, 10, 9, 13, 12], [21, 16, 15, 7, 6, 3, 0, 2, 1, 5, 4, 14, 11, 8, 10, 9, 13, 12], [20, 17, 16, 15, 7, 6, 3, 0, 2, 1, 5, 4, 14, 11, 8, 10, 9, 13, 12, 19, 18, 22, 21], [16, 15, 7, 6, 3, 0, 2, 1, 5, 4, 14, 11, 8, 10, 9, 13, 12, 23, 20, 17, 19, 18, 22, 21], [24, 16, 15, 7, 6, 3, 0, 2, 1, 5, 4, 14, 11, 8, 10, 9, 13, 12, 23, 20, 17, 19, 18, 22, 21]])
 .ret))⟩
def L121_0 : SC := (.seq (.seq (.reg [.op (some 13) none (.mov (.t 6)), .op (some 14) none (.load (.t 1) none), .op (some 15) none (.nilck (.t 14)), .op (some 16) none (.addr (.t 15) 0), .op (some 17) none (.addr (.t 16) 2), .op (some 18) none (.load (.t 17) none), .op (some 19) none (.len (.t 18)), .op (some 20) none (.bin .lss (.t 13) (.t 19))])
 (.cond (.t 20) .skip
 (.exit 0)))
 (.seq (.blk 1 (.seq (.draw [false, false, false, false, false, false, false, false, false, false, false, false, false, false, false, false, false, false, false, false, false, false, false, false, false, true, true] [.op (some 23) none (.load (.t 1) none), .op (some 24) none (.nilck (.t 23)), .op (some 25) none (.addr (.t 24) 0), .op (some 26) none (.addr (.t 25) 0), .op (some 27) none (.load (.t 26) none), .op (some 28) none (.load (.t 1) none), .op (some 29) none (.nilck (.t 28)), .op (some 30) none (.addr (.t 29) 0), .op (some 31) none (.addr (.t 30) 1), .op (some 32) none (.load (.t 31) none), .op (some 33) none (.load (.t 2) none), .op (some 34) none (.idxs 7 (.t 32) (.t 33)), .op (some 35) none (.addr (.t 34) 0), .op (some 36) none (.load (.t 35) none), .op (some 37) none (.idxs 8 (.t 27) (.t 36)), .op (some 38) none (.load (.t 37) (some 8)), .op (some 39) none (.load (.t 5) (some 6)), .op (some 40) none (.load (.t 1) none), .op (some 41) none (.nilck (.t 40)), .op (some 42) none (.addr (.t 41) 0), .op (some 43) none (.addr (.t 42) 2), .op (some 44) none (.load (.t 43) none), .op (some 45) none (.mov (.t 6)), .op (some 46) none (.idxs 7 (.t 44) (.t 45)), .op (some 47) none (.load (.t 46) (some 7)), .call (some 48) none (.k (.fn (.func 57) [] [])) [(.t 38), (.t 39), (.t 47)], .op none none (.store (.t 5) (.t 48) 6)] [[], [0], [1, 0], [2, 1, 0], [3, 2, 1, 0], [], [5], [6, 5], [7, 6, 5], [8, 7, 6, 5], [], [9, 8, 7, 6, 5, 10], [11, 9, 8, 7, 6, 5, 10], [12, 11, 9, 8, 7, 6, 5, 10], [4, 3, 2, 1, 0, 13, 12, 11, 9, 8, 7, 6, 5, 10], [14, 4, 3, 2, 1, 0, 13, 12, 11, 9, 8, 7, 6, 5, 10], [], [], [17], [18, 17], [19, 18, 17], [20, 19, 18, 17], [], [21, 20, 19, 18, 17, 22], [23, 21, 20, 19, 18, 17, 22], [15, 14, 4, 3, 2, 1, 0, 13, 12, 11, 9, 8, 7, 6, 5, 10, 16, 24, 23, 21, 20, 19, 18, 17, 22], [25, 15, 14, 4, 3, 2, 1, 0, 13, 12, 11, 9, 8, 7, 6, 5, 10, 16, 24, 23, 21, 20, 19, 18, 17, 22]])
 (.seq (.reg [.op (some 49) none (.mov (.t 0)), .op (some 50) none (.mov (.t 6)), .op (some 51) none (.load (.t 5) (some 6)), .call (some 52) none (.t 49) [(.t 50), (.t 51)], .op (some 53) none (.un .not (.t 52))])
 (.cond (.t 53) .ret
 .skip))))
 (.reg [.op (some 21) none (.mov (.t 6)), .op (some 22) none (.bin .add (.t 21) (.k (.int .i64 1))), .op (some 6) none (.mov (.t 22))])))
def mf121 : SF := ⟨54, [],
 (.seq (.reg [.op (some 7) none (.load (.t 1) none), .op (some 8) none (.load (.t 2) none), .op (some 9) none (.load (.t 3) none), .call (some 10) none (.k (.fn (.func 122) [] [])) [(.t 7), (.t 8), (.t 9)], .op (some 5) none (.alloc [(.int .i64 0), (.int .i64 0), (.int .i64 0), (.int .i64 0), (.int .i64 0), (.int .i64 0)]), .op none none (.store (.t 5) (.t 10) 6)])
 (.seq (.reg [.op (some 11) none (.load (.t 3) none), .op (some 12) none (.bin .add (.t 11) (.k (.int .i64 1))), .op (some 6) none (.mov (.t 12))])
 (.blk 0 (.loop [0, 1, 2, 5, 6] L121_0))))⟩
def mf122 : SF := ⟨19, [(.c 6 (some 6))],
 (.seq (.reg [.op (some 6) none (.alloc [(.int .i64 0), (.int .i64 0), (.int .i64 0), (.int .i64 0), (.int .i64 0), (.int .i64 0)])])
 (.seq (.seq (.reg [.op (some 7) none (.mov (.t 2)), .op (some 8) none (.bin .lss (.t 7) (.k (.int .i64 0)))])
 (.cond (.t 8) (.seq (.reg [.op (some 9) none (.mov (.t 0)), .op (some 10) none (.nilck (.t 9)), .op (some 11) none (.addr (.t 10) 0), .op (some 12) none (.addr (.t 11) 1), .op (some 13) none (.load (.t 12) none), .op (some 14) none (.mov (.t 1)), .op (some 15) none (.idxs 7 (.t 13) (.t 14)), .op (some 16) none (.addr (.t 15) 1), .op (some 17) none (.load (.t 16) (some 6)), .op none none (.store (.t 6) (.t 17) 6)])
 .ret)
 .skip))
 (.seq (.reg [.op (some 18) none (.build [(.int .i64 0), (.int .i64 0), (.int .i64 0), (.int .i64 0), (.int .i64 0), (.int .i64 0)] []), .op none none (.store (.t 6) (.t 18) 6)])
 .ret)))⟩
def L128_0 : SC := (.seq (.reg [.op (some 9) none (.bin .lss (.t 8) (.t 7))])
 (.seq (.cond (.t 9) .skip
 (.exit 0))
 (.seq (.blk 1 (.seq (.reg [.op (some 10) none (.mov (.t 8)), .op (some 5) none (.mov (.t 10))])
 (.seq (.reg [.op (some 11) none (.mov (.t 1)), .op (some 12) none (.mov (.t 0)), .op (some 13) none (.mov (.t 5)), .op (some 14) none (.idxs 3 (.t 12) (.t 13)), .op (some 15) none (.load (.t 14) (some 3)), .call (some 16) none (.t 11) [(.t 15)]])
 (.cond (.t 16) (.seq (.reg [.op (some 17) none (.mov (.t 5)), .op (some 4) none (.mov (.t 17))])
 .ret)
 .skip))))
 (.reg [.op (some 18) none (.bin .add (.t 8) (.k (.int .i64 1))), .op (some 8) none (.mov (.t 18))]))))
def mf128 : SF := ⟨19, [(.t 4)],
 (.seq (.reg [.op (some 4) none (.mov (.k (.int .i64 0)))])
 (.seq (.seq (.reg [.op (some 6) none (.mov (.t 0)), .op (some 7) none (.len (.t 6)), .op (some 8) none (.mov (.k (.int .i64 0)))])
 (.blk 0 (.loop [0, 1, 7, 8] L128_0)))
 (.seq (.reg [.op (some 4) none (.mov (.k (.int .i64 (-1))))])
 .ret)))⟩
def mf129 : SF := ⟨20, [(.t 4)],
 (.seq (.reg [.op (some 4) none (.mov (.k (.int .i64 0)))])
 (.seq (.reg [.op (some 7) none (.mov (.t 0)), .call (some 8) none (.k (.fn (.func 134) [] [])) [(.t 7)], .op (some 5) none (.mov (.t 8))])
 (.seq (.reg [.op (some 9) none (.mov (.t 1)), .call (some 10) none (.k (.fn (.func 134) [] [])) [(.t 9)], .op (some 6) none (.mov (.t 10))])
 (.seq (.seq (.reg [.op (some 11) none (.mov (.t 5))])
 (.cond (.t 11) (.seq (.seq (.reg [.op (some 12) none (.mov (.t 6))])
 (.cond (.t 12) (.seq (.reg [.op (some 4) none (.mov (.k (.int .i64 0)))])
 .ret)
 .skip))
 (.seq (.reg [.op (some 4) none (.mov (.k (.int .i64 (-1))))])
 .ret))
 .skip))
 (.seq (.seq (.reg [.op (some 13) none (.mov (.t 6))])
 (.cond (.t 13) (.seq (.reg [.op (some 4) none (.mov (.k (.int .i64 1)))])
 .ret)
 .skip))
 (.seq (.seq (.reg [.op (some 14) none (.mov (.t 0)), .op (some 15) none (.mov (.t 1)), .op (some 16) none (.bin .lss (.t 14) (.t 15))])
 (.cond (.t 16) (.seq (.reg [.op (some 4) none (.mov (.k (.int .i64 (-1))))])
 .ret)
 .skip))
 (.seq (.seq (.reg [.op (some 17) none (.mov (.t 0)), .op (some 18) none (.mov (.t 1)), .op (some 19) none (.bin .gtr (.t 17) (.t 18))])
 (.cond (.t 19) (.seq (.reg [.op (some 4) none (.mov (.k (.int .i64 1)))])
 .ret)
 .skip))
 (.seq (.reg [.op (some 4) none (.mov (.k (.int .i64 0)))])
 .ret))))))))⟩
def mf134 : SF := ⟨6, [(.t 2)],
 (.seq (.reg [.op (some 2) none (.mov (.k (.bool false)))])
 (.seq (.reg [.op (some 3) none (.mov (.t 0)), .op (some 4) none (.mov (.t 0)), .op (some 5) none (.bin .neq (.t 3) (.t 4)), .op (some 2) none (.mov (.t 5))])
 .ret))⟩
theorem mf6_ok : cfun Go.Proofs.Try.prog 6 = some mf6.er := by kernel_rfl
theorem mf6_b : hasBody Go.Proofs.Try.prog 6 = true := by kernel_rfl
theorem mf6_g : mf6.body.good = true := by kernel_rfl
theorem mf13_ok : cfun Go.Proofs.Try.prog 13 = some mf13.er := by kernel_rfl
theorem mf13_b : hasBody Go.Proofs.Try.prog 13 = true := by kernel_rfl
theorem mf13_g : mf13.body.good = true := by kernel_rfl
theorem mf14_ok : cfun Go.Proofs.Try.prog 14 = some mf14.er := by kernel_rfl
theorem mf14_b : hasBody Go.Proofs.Try.prog 14 = true := by kernel_rfl
theorem mf14_g : mf14.body.good = true := by kernel_rfl
theorem mf15_ok : cfun Go.Proofs.Try.prog 15 = some mf15.er := by kernel_rfl
theorem mf15_b : hasBody Go.Proofs.Try.prog 15 = true := by kernel_rfl
theorem mf15_g : mf15.body.good = true := by kernel_rfl
theorem mf16_ok : cfun Go.Proofs.Try.prog 16 = some mf16.er := by kernel_rfl
theorem mf16_b : hasBody Go.Proofs.Try.prog 16 = true := by kernel_rfl
theorem mf16_g : mf16.body.good = true := by kernel_rfl
theorem mf17_ok : cfun Go.Proofs.Try.prog 17 = some mf17.er := by kernel_rfl
theorem mf17_b : hasBody Go.Proofs.Try.prog 17 = true := by kernel_rfl
theorem mf17_g : mf17.body.good = true := by kernel_rfl
theorem mf18_ok : cfun Go.Proofs.Try.prog 18 = some mf18.er := by kernel_rfl
theorem mf18_b : hasBody Go.Proofs.Try.prog 18 = true := by kernel_rfl
theorem mf18_g : mf18.body.good = true := by kernel_rfl
theorem mf19_ok : cfun Go.Proofs.Try.prog 19 = some mf19.er := by kernel_rfl
theorem mf19_b : hasBody Go.Proofs.Try.prog 19 = true := by kernel_rfl
theorem mf19_g : mf19.body.good = true := by kernel_rfl
theorem mf21_ok : cfun Go.Proofs.Try.prog 21 = some mf21.er := by kernel_rfl
theorem mf21_b : hasBody Go.Proofs.Try.prog 21 = true := by kernel_rfl
theorem mf21_g : mf21.body.good = true := by kernel_rfl
theorem L21_0_g : L21_0.good = true := by kernel_rfl
theorem L21_1_g : L21_1.good = true := by kernel_rfl
theorem L21_2_g : L21_2.good = true := by kernel_rfl
theorem mf22_ok : cfun Go.Proofs.Try.prog 22 = some mf22.er := by kernel_rfl
theorem mf22_b : hasBody Go.Proofs.Try.prog 22 = true := by kernel_rfl
theorem mf22_g : mf22.body.good = true := by kernel_rfl
theorem L22_0_g : L22_0.good = true := by kernel_rfl
theorem L22_1_g : L22_1.good = true := by kernel_rfl
theorem L22_2_g : L22_2.good = true := by kernel_rfl
theorem L22_3_g : L22_3.good = true := by kernel_rfl
theorem mf28_ok : cfun Go.Proofs.Try.prog 28 = some mf28.er := by kernel_rfl
theorem mf28_b : hasBody Go.Proofs.Try.prog 28 = true := by kernel_rfl
theorem mf28_g : mf28.body.good = true := by kernel_rfl
theorem mf31_ok : cfun Go.Proofs.Try.prog 31 = some mf31.er := by kernel_rfl
theorem mf31_b : hasBody Go.Proofs.Try.prog 31 = true := by kernel_rfl
theorem mf31_g : mf31.body.good = true := by kernel_rfl
theorem mf32_ok : cfun Go.Proofs.Try.prog 32 = some mf32.er := by kernel_rfl
theorem mf32_b : hasBody Go.Proofs.Try.prog 32 = true := by kernel_rfl
theorem mf32_g : mf32.body.good = true := by kernel_rfl
theorem L32_0_g : L32_0.good = true := by kernel_rfl
theorem L32_1_g : L32_1.good = true := by kernel_rfl
theorem mf33_ok : cfun Go.Proofs.Try.prog 33 = some mf33.er := by kernel_rfl
theorem mf33_b : hasBody Go.Proofs.Try.prog 33 = true := by kernel_rfl
theorem mf33_g : mf33.body.good = true := by kernel_rfl
theorem L33_0_g : L33_0.good = true := by kernel_rfl
theorem L33_1_g : L33_1.good = true := by kernel_rfl
theorem L33_2_g : L33_2.good = true := by kernel_rfl
theorem L33_3_g : L33_3.good = true := by kernel_rfl
theorem L33_4_g : L33_4.good = true := by kernel_rfl
theorem L33_5_g : L33_5.good = true := by kernel_rfl
theorem mf34_ok : cfun Go.Proofs.Try.prog 34 = some mf34.er := by kernel_rfl
theorem mf34_b : hasBody Go.Proofs.Try.prog 34 = true := by kernel_rfl
theorem mf34_g : mf34.body.good = true := by kernel_rfl
theorem L34_0_g : L34_0.good = true := by kernel_rfl
theorem mf36_ok : cfun Go.Proofs.Try.prog 36 = some mf36.er := by kernel_rfl
theorem mf36_b : hasBody Go.Proofs.Try.prog 36 = true := by kernel_rfl
theorem mf36_g : mf36.body.good = true := by kernel_rfl
theorem L36_0_g : L36_0.good = true := by kernel_rfl
theorem L36_1_g : L36_1.good = true := by kernel_rfl
theorem mf40_ok : cfun Go.Proofs.Try.prog 40 = some mf40.er := by kernel_rfl
theorem mf40_b : hasBody Go.Proofs.Try.prog 40 = true := by kernel_rfl
theorem mf40_g : mf40.body.good = true := by kernel_rfl
theorem L40_0_g : L40_0.good = true := by kernel_rfl
theorem mf43_ok : cfun Go.Proofs.Try.prog 43 = some mf43.er := by kernel_rfl
theorem mf43_b : hasBody Go.Proofs.Try.prog 43 = true := by kernel_rfl
theorem mf43_g : mf43.body.good = true := by kernel_rfl
theorem mf47_ok : cfun Go.Proofs.Try.prog 47 = some mf47.er := by kernel_rfl
theorem mf47_b : hasBody Go.Proofs.Try.prog 47 = true := by kernel_rfl
theorem mf47_g : mf47.body.good = true := by kernel_rfl
theorem L47_0_g : L47_0.good = true := by kernel_rfl
theorem mf48_ok : cfun Go.Proofs.Try.prog 48 = some mf48.er := by kernel_rfl
theorem mf48_b : hasBody Go.Proofs.Try.prog 48 = true := by kernel_rfl
theorem mf48_g : mf48.body.good = true := by kernel_rfl
theorem L48_0_g : L48_0.good = true := by kernel_rfl
theorem mf54_ok : cfun Go.Proofs.Try.prog 54 = some mf54.er := by kernel_rfl
theorem mf54_b : hasBody Go.Proofs.Try.prog 54 = true := by kernel_rfl
theorem mf54_g : mf54.body.good = true := by kernel_rfl
theorem mf55_ok : cfun Go.Proofs.Try.prog 55 = some mf55.er := by kernel_rfl
theorem mf55_b : hasBody Go.Proofs.Try.prog 55 = true := by kernel_rfl
theorem mf55_g : mf55.body.good = true := by kernel_rfl
theorem mf56_ok : cfun Go.Proofs.Try.prog 56 = some mf56.er := by kernel_rfl
theorem mf56_b : hasBody Go.Proofs.Try.prog 56 = true := by kernel_rfl
theorem mf56_g : mf56.body.good = true := by kernel_rfl
theorem mf57_ok : cfun Go.Proofs.Try.prog 57 = some mf57.er := by kernel_rfl
theorem mf57_b : hasBody Go.Proofs.Try.prog 57 = true := by kernel_rfl
theorem mf57_g : mf57.body.good = true := by kernel_rfl
theorem mf58_ok : cfun Go.Proofs.Try.prog 58 = some mf58.er := by kernel_rfl
theorem mf58_b : hasBody Go.Proofs.Try.prog 58 = true := by kernel_rfl
theorem mf58_g : mf58.body.good = true := by kernel_rfl
theorem mf59_ok : cfun Go.Proofs.Try.prog 59 = some mf59.er := by kernel_rfl
theorem mf59_b : hasBody Go.Proofs.Try.prog 59 = true := by kernel_rfl
theorem mf59_g : mf59.body.good = true := by kernel_rfl
theorem mf60_ok : cfun Go.Proofs.Try.prog 60 = some mf60.er := by kernel_rfl
theorem mf60_b : hasBody Go.Proofs.Try.prog 60 = true := by kernel_rfl
theorem mf60_g : mf60.body.good = true := by kernel_rfl
theorem mf61_ok : cfun Go.Proofs.Try.prog 61 = some mf61.er := by kernel_rfl
theorem mf61_b : hasBody Go.Proofs.Try.prog 61 = true := by kernel_rfl
theorem mf61_g : mf61.body.good = true := by kernel_rfl
theorem mf62_ok : cfun Go.Proofs.Try.prog 62 = some mf62.er := by kernel_rfl
theorem mf62_b : hasBody Go.Proofs.Try.prog 62 = true := by kernel_rfl
theorem mf62_g : mf62.body.good = true := by kernel_rfl
theorem mf63_ok : cfun Go.Proofs.Try.prog 63 = some mf63.er := by kernel_rfl
theorem mf63_b : hasBody Go.Proofs.Try.prog 63 = true := by kernel_rfl
theorem mf63_g : mf63.body.good = true := by kernel_rfl
theorem mf64_ok : cfun Go.Proofs.Try.prog 64 = some mf64.er := by kernel_rfl
theorem mf64_b : hasBody Go.Proofs.Try.prog 64 = true := by kernel_rfl
theorem mf64_g : mf64.body.good = true := by kernel_rfl
theorem L64_0_g : L64_0.good = true := by kernel_rfl
theorem L64_1_g : L64_1.good = true := by kernel_rfl
theorem L64_2_g : L64_2.good = true := by kernel_rfl
theorem mf65_ok : cfun Go.Proofs.Try.prog 65 = some mf65.er := by kernel_rfl
theorem mf65_b : hasBody Go.Proofs.Try.prog 65 = true := by kernel_rfl
theorem mf65_g : mf65.body.good = true := by kernel_rfl
theorem mf66_ok : cfun Go.Proofs.Try.prog 66 = some mf66.er := by kernel_rfl
theorem mf66_b : hasBody Go.Proofs.Try.prog 66 = true := by kernel_rfl
theorem mf66_g : mf66.body.good = true := by kernel_rfl
theorem L66_0_g : L66_0.good = true := by kernel_rfl
theorem mf67_ok : cfun Go.Proofs.Try.prog 67 = some mf67.er := by kernel_rfl
theorem mf67_b : hasBody Go.Proofs.Try.prog 67 = true := by kernel_rfl
theorem mf67_g : mf67.body.good = true := by kernel_rfl
theorem L67_0_g : L67_0.good = true := by kernel_rfl
theorem mf68_ok : cfun Go.Proofs.Try.prog 68 = some mf68.er := by kernel_rfl
theorem mf68_b : hasBody Go.Proofs.Try.prog 68 = true := by kernel_rfl
theorem mf68_g : mf68.body.good = true := by kernel_rfl
theorem L68_0_g : L68_0.good = true := by kernel_rfl
theorem mf69_ok : cfun Go.Proofs.Try.prog 69 = some mf69.er := by kernel_rfl
theorem mf69_b : hasBody Go.Proofs.Try.prog 69 = true := by kernel_rfl
theorem mf69_g : mf69.body.good = true := by kernel_rfl
theorem L69_0_g : L69_0.good = true := by kernel_rfl
theorem mf70_ok : cfun Go.Proofs.Try.prog 70 = some mf70.er := by kernel_rfl
theorem mf70_b : hasBody Go.Proofs.Try.prog 70 = true := by kernel_rfl
theorem mf70_g : mf70.body.good = true := by kernel_rfl
theorem mf73_ok : cfun Go.Proofs.Try.prog 73 = some mf73.er := by kernel_rfl
theorem mf73_b : hasBody Go.Proofs.Try.prog 73 = true := by kernel_rfl
theorem mf73_g : mf73.body.good = true := by kernel_rfl
theorem L73_0_g : L73_0.good = true := by kernel_rfl
theorem L73_1_g : L73_1.good = true := by kernel_rfl
theorem mf74_ok : cfun Go.Proofs.Try.prog 74 = some mf74.er := by kernel_rfl
theorem mf74_b : hasBody Go.Proofs.Try.prog 74 = true := by kernel_rfl
theorem mf74_g : mf74.body.good = true := by kernel_rfl
theorem L74_0_g : L74_0.good = true := by kernel_rfl
theorem L74_1_g : L74_1.good = true := by kernel_rfl
theorem mf75_ok : cfun Go.Proofs.Try.prog 75 = some mf75.er := by kernel_rfl
theorem mf75_b : hasBody Go.Proofs.Try.prog 75 = true := by kernel_rfl
theorem mf75_g : mf75.body.good = true := by kernel_rfl
theorem mf76_ok : cfun Go.Proofs.Try.prog 76 = some mf76.er := by kernel_rfl
theorem mf76_b : hasBody Go.Proofs.Try.prog 76 = true := by kernel_rfl
theorem mf76_g : mf76.body.good = true := by kernel_rfl
theorem L76_0_g : L76_0.good = true := by kernel_rfl
theorem L76_1_g : L76_1.good = true := by kernel_rfl
theorem mf77_ok : cfun Go.Proofs.Try.prog 77 = some mf77.er := by kernel_rfl
theorem mf77_b : hasBody Go.Proofs.Try.prog 77 = true := by kernel_rfl
theorem mf77_g : mf77.body.good = true := by kernel_rfl
theorem L77_0_g : L77_0.good = true := by kernel_rfl
theorem mf78_ok : cfun Go.Proofs.Try.prog 78 = some mf78.er := by kernel_rfl
theorem mf78_b : hasBody Go.Proofs.Try.prog 78 = true := by kernel_rfl
theorem mf78_g : mf78.body.good = true := by kernel_rfl
theorem mf79_ok : cfun Go.Proofs.Try.prog 79 = some mf79.er := by kernel_rfl
theorem mf79_b : hasBody Go.Proofs.Try.prog 79 = true := by kernel_rfl
theorem mf79_g : mf79.body.good = true := by kernel_rfl
theorem mf80_ok : cfun Go.Proofs.Try.prog 80 = some mf80.er := by kernel_rfl
theorem mf80_b : hasBody Go.Proofs.Try.prog 80 = true := by kernel_rfl
theorem mf80_g : mf80.body.good = true := by kernel_rfl
theorem L80_0_g : L80_0.good = true := by kernel_rfl
theorem L80_1_g : L80_1.good = true := by kernel_rfl
theorem mf81_ok : cfun Go.Proofs.Try.prog 81 = some mf81.er := by kernel_rfl
theorem mf81_b : hasBody Go.Proofs.Try.prog 81 = true := by kernel_rfl
theorem mf81_g : mf81.body.good = true := by kernel_rfl
theorem L81_0_g : L81_0.good = true := by kernel_rfl
theorem L81_1_g : L81_1.good = true := by kernel_rfl
theorem mf82_ok : cfun Go.Proofs.Try.prog 82 = some mf82.er := by kernel_rfl
theorem mf82_b : hasBody Go.Proofs.Try.prog 82 = true := by kernel_rfl
theorem mf82_g : mf82.body.good = true := by kernel_rfl
theorem L82_0_g : L82_0.good = true := by kernel_rfl
theorem mf83_ok : cfun Go.Proofs.Try.prog 83 = some mf83.er := by kernel_rfl
theorem mf83_b : hasBody Go.Proofs.Try.prog 83 = true := by kernel_rfl
theorem mf83_g : mf83.body.good = true := by kernel_rfl
theorem L83_0_g : L83_0.good = true := by kernel_rfl
theorem mf84_ok : cfun Go.Proofs.Try.prog 84 = some mf84.er := by kernel_rfl
theorem mf84_b : hasBody Go.Proofs.Try.prog 84 = true := by kernel_rfl
theorem mf84_g : mf84.body.good = true := by kernel_rfl
theorem L84_0_g : L84_0.good = true := by kernel_rfl
theorem L84_1_g : L84_1.good = true := by kernel_rfl
theorem L84_2_g : L84_2.good = true := by kernel_rfl
theorem mf85_ok : cfun Go.Proofs.Try.prog 85 = some mf85.er := by kernel_rfl
theorem mf85_b : hasBody Go.Proofs.Try.prog 85 = true := by kernel_rfl
theorem mf85_g : mf85.body.good = true := by kernel_rfl
theorem mf86_ok : cfun Go.Proofs.Try.prog 86 = some mf86.er := by kernel_rfl
theorem mf86_b : hasBody Go.Proofs.Try.prog 86 = true := by kernel_rfl
theorem mf86_g : mf86.body.good = true := by kernel_rfl
theorem L86_0_g : L86_0.good = true := by kernel_rfl
theorem mf87_ok : cfun Go.Proofs.Try.prog 87 = some mf87.er := by kernel_rfl
theorem mf87_b : hasBody Go.Proofs.Try.prog 87 = true := by kernel_rfl
theorem mf87_g : mf87.body.good = true := by kernel_rfl
theorem L87_0_g : L87_0.good = true := by kernel_rfl
theorem L87_1_g : L87_1.good = true := by kernel_rfl
theorem mf88_ok : cfun Go.Proofs.Try.prog 88 = some mf88.er := by kernel_rfl
theorem mf88_b : hasBody Go.Proofs.Try.prog 88 = true := by kernel_rfl
theorem mf88_g : mf88.body.good = true := by kernel_rfl
theorem mf89_ok : cfun Go.Proofs.Try.prog 89 = some mf89.er := by kernel_rfl
theorem mf89_b : hasBody Go.Proofs.Try.prog 89 = true := by kernel_rfl
theorem mf89_g : mf89.body.good = true := by kernel_rfl
theorem mf90_ok : cfun Go.Proofs.Try.prog 90 = some mf90.er := by kernel_rfl
theorem mf90_b : hasBody Go.Proofs.Try.prog 90 = true := by kernel_rfl
theorem mf90_g : mf90.body.good = true := by kernel_rfl
theorem mf92_ok : cfun Go.Proofs.Try.prog 92 = some mf92.er := by kernel_rfl
theorem mf92_b : hasBody Go.Proofs.Try.prog 92 = true := by kernel_rfl
theorem mf92_g : mf92.body.good = true := by kernel_rfl
theorem R92_0a_g : R92_0a.good = true := by kernel_rfl
theorem R92_0b_g : R92_0b.good = true := by kernel_rfl
theorem mf93_ok : cfun Go.Proofs.Try.prog 93 = some mf93.er := by kernel_rfl
theorem mf93_b : hasBody Go.Proofs.Try.prog 93 = true := by kernel_rfl
theorem mf93_g : mf93.body.good = true := by kernel_rfl
theorem mf94_ok : cfun Go.Proofs.Try.prog 94 = some mf94.er := by kernel_rfl
theorem mf94_b : hasBody Go.Proofs.Try.prog 94 = true := by kernel_rfl
theorem mf94_g : mf94.body.good = true := by kernel_rfl
theorem mf95_ok : cfun Go.Proofs.Try.prog 95 = some mf95.er := by kernel_rfl
theorem mf95_b : hasBody Go.Proofs.Try.prog 95 = true := by kernel_rfl
theorem mf95_g : mf95.body.good = true := by kernel_rfl
theorem mf96_ok : cfun Go.Proofs.Try.prog 96 = some mf96.er := by kernel_rfl
theorem mf96_b : hasBody Go.Proofs.Try.prog 96 = true := by kernel_rfl
theorem mf96_g : mf96.body.good = true := by kernel_rfl
theorem mf107_ok : cfun Go.Proofs.Try.prog 107 = some mf107.er := by kernel_rfl
theorem mf107_b : hasBody Go.Proofs.Try.prog 107 = true := by kernel_rfl
theorem mf107_g : mf107.body.good = true := by kernel_rfl
theorem L107_0_g : L107_0.good = true := by kernel_rfl
theorem mf108_ok : cfun Go.Proofs.Try.prog 108 = some mf108.er := by kernel_rfl
theorem mf108_b : hasBody Go.Proofs.Try.prog 108 = true := by kernel_rfl
theorem mf108_g : mf108.body.good = true := by kernel_rfl
theorem mf109_ok : cfun Go.Proofs.Try.prog 109 = some mf109.er := by kernel_rfl
theorem mf109_b : hasBody Go.Proofs.Try.prog 109 = true := by kernel_rfl
theorem mf109_g : mf109.body.good = true := by kernel_rfl
theorem mf110_ok : cfun Go.Proofs.Try.prog 110 = some mf110.er := by kernel_rfl
theorem mf110_b : hasBody Go.Proofs.Try.prog 110 = true := by kernel_rfl
theorem mf110_g : mf110.body.good = true := by kernel_rfl
theorem L110_0_g : L110_0.good = true := by kernel_rfl
theorem mf111_ok : cfun Go.Proofs.Try.prog 111 = some mf111.er := by kernel_rfl
theorem mf111_b : hasBody Go.Proofs.Try.prog 111 = true := by kernel_rfl
theorem mf111_g : mf111.body.good = true := by kernel_rfl
theorem mf112_ok : cfun Go.Proofs.Try.prog 112 = some mf112.er := by kernel_rfl
theorem mf112_b : hasBody Go.Proofs.Try.prog 112 = true := by kernel_rfl
theorem mf112_g : mf112.body.good = true := by kernel_rfl
theorem mf113_ok : cfun Go.Proofs.Try.prog 113 = some mf113.er := by kernel_rfl
theorem mf113_b : hasBody Go.Proofs.Try.prog 113 = true := by kernel_rfl
theorem mf113_g : mf113.body.good = true := by kernel_rfl
theorem L113_0_g : L113_0.good = true := by kernel_rfl
theorem mf114_ok : cfun Go.Proofs.Try.prog 114 = some mf114.er := by kernel_rfl
theorem mf114_b : hasBody Go.Proofs.Try.prog 114 = true := by kernel_rfl
theorem mf114_g : mf114.body.good = true := by kernel_rfl
theorem L114_0_g : L114_0.good = true := by kernel_rfl
theorem mf115_ok : cfun Go.Proofs.Try.prog 115 = some mf115.er := by kernel_rfl
theorem mf115_b : hasBody Go.Proofs.Try.prog 115 = true := by kernel_rfl
theorem mf115_g : mf115.body.good = true := by kernel_rfl
theorem L115_0_g : L115_0.good = true := by kernel_rfl
theorem mf116_ok : cfun Go.Proofs.Try.prog 116 = some mf116.er := by kernel_rfl
theorem mf116_b : hasBody Go.Proofs.Try.prog 116 = true := by kernel_rfl
theorem mf116_g : mf116.body.good = true := by kernel_rfl
theorem L116_0_g : L116_0.good = true := by kernel_rfl
theorem mf117_ok : cfun Go.Proofs.Try.prog 117 = some mf117.er := by kernel_rfl
theorem mf117_b : hasBody Go.Proofs.Try.prog 117 = true := by kernel_rfl
theorem mf117_g : mf117.body.good = true := by kernel_rfl
theorem L117_0_g : L117_0.good = true := by kernel_rfl
theorem mf118_ok : cfun Go.Proofs.Try.prog 118 = some mf118.er := by kernel_rfl
theorem mf118_b : hasBody Go.Proofs.Try.prog 118 = true := by kernel_rfl
theorem mf118_g : mf118.body.good = true := by kernel_rfl
theorem L118_0_g : L118_0.good = true := by kernel_rfl
theorem mf119_ok : cfun Go.Proofs.Try.prog 119 = some mf119.er := by kernel_rfl
theorem mf119_b : hasBody Go.Proofs.Try.prog 119 = true := by kernel_rfl
theorem mf119_g : mf119.body.good = true := by kernel_rfl
theorem mf120_ok : cfun Go.Proofs.Try.prog 120 = some mf120.er := by kernel_rfl
theorem mf120_b : hasBody Go.Proofs.Try.prog 120 = true := by kernel_rfl
theorem mf120_g : mf120.body.good = true := by kernel_rfl
theorem mf121_ok : cfun Go.Proofs.Try.prog 121 = some mf121.er := by kernel_rfl
theorem mf121_b : hasBody Go.Proofs.Try.prog 121 = true := by kernel_rfl
theorem mf121_g : mf121.body.good = true := by kernel_rfl
theorem L121_0_g : L121_0.good = true := by kernel_rfl
theorem mf122_ok : cfun Go.Proofs.Try.prog 122 = some mf122.er := by kernel_rfl
theorem mf122_b : hasBody Go.Proofs.Try.prog 122 = true := by kernel_rfl
theorem mf122_g : mf122.body.good = true := by kernel_rfl
theorem mf128_ok : cfun Go.Proofs.Try.prog 128 = some mf128.er := by kernel_rfl
theorem mf128_b : hasBody Go.Proofs.Try.prog 128 = true := by kernel_rfl
theorem mf128_g : mf128.body.good = true := by kernel_rfl
theorem L128_0_g : L128_0.good = true := by kernel_rfl
theorem mf129_ok : cfun Go.Proofs.Try.prog 129 = some mf129.er := by kernel_rfl
theorem mf129_b : hasBody Go.Proofs.Try.prog 129 = true := by kernel_rfl
theorem mf129_g : mf129.body.good = true := by kernel_rfl
theorem mf134_ok : cfun Go.Proofs.Try.prog 134 = some mf134.er := by kernel_rfl
theorem mf134_b : hasBody Go.Proofs.Try.prog 134 = true := by kernel_rfl
theorem mf134_g : mf134.body.good = true := by kernel_rfl
def O33_0 : List OD := [⟨0, [], [], []⟩, ⟨0, [], [], []⟩, ⟨1, [0], [], []⟩, ⟨0, [], [], []⟩, ⟨0, [], [], []⟩, ⟨3, [], [], [0]⟩, ⟨0, [], [], []⟩, ⟨5, [], [], []⟩]
theorem O33_0_ok : gdOk 0 O33_0 D33_0 B33_0 = true := by kernel_rfl
theorem O33_0_ok2 : gdOk2 O33_0 D33_0 B33_0 = true := by kernel_rfl
def O33_1 : List OD := [⟨0, [], [], []⟩, ⟨0, [], [], []⟩, ⟨0, [], [], []⟩, ⟨0, [], [], []⟩, ⟨0, [], [], []⟩, ⟨1, [0], [], []⟩, ⟨0, [], [], []⟩, ⟨0, [], [], []⟩, ⟨0, [], [], []⟩, ⟨1, [0], [], []⟩, ⟨0, [], [], []⟩, ⟨0, [], [], []⟩, ⟨0, [], [], []⟩, ⟨1, [0], [], []⟩, ⟨0, [], [], []⟩, ⟨0, [], [], []⟩, ⟨0, [], [], []⟩, ⟨0, [], [], []⟩, ⟨0, [], [], []⟩, ⟨0, [], [], []⟩, ⟨0, [], [], []⟩, ⟨1, [0], [], []⟩, ⟨0, [], [], []⟩, ⟨0, [], [], []⟩, ⟨0, [], [], []⟩, ⟨1, [0], [], []⟩, ⟨0, [], [], []⟩, ⟨0, [], [], []⟩, ⟨0, [], [], []⟩, ⟨1, [0], [], []⟩, ⟨0, [], [], []⟩, ⟨0, [], [], []⟩, ⟨0, [], [], []⟩, ⟨3, [], [], [0]⟩, ⟨5, [], [], []⟩]
theorem O33_1_ok : gdOk 0 O33_1 D33_1 B33_1 = true := by kernel_rfl
theorem O33_1_ok2 : gdOk2 O33_1 D33_1 B33_1 = true := by kernel_rfl
def O33_2 : List OD := [⟨0, [], [], []⟩, ⟨0, [], [], []⟩, ⟨0, [], [], []⟩, ⟨0, [], [], []⟩, ⟨0, [], [], []⟩, ⟨1, [0], [], []⟩, ⟨1, [], [], []⟩, ⟨3, [], [], [0]⟩, ⟨5, [], [], [1]⟩, ⟨0, [], [], []⟩, ⟨5, [], [], []⟩]
theorem O33_2_ok : gdOk 0 O33_2 D33_2 B33_2 = true := by kernel_rfl
theorem O33_2_ok2 : gdOk2 O33_2 D33_2 B33_2 = true := by kernel_rfl
def O36_0 : List OD := [⟨0, [], [], []⟩, ⟨0, [], [], []⟩, ⟨0, [], [], []⟩, ⟨0, [], [], []⟩, ⟨0, [], [], []⟩, ⟨1, [0, 1], [], []⟩, ⟨1, [], [], []⟩, ⟨3, [], [], [0]⟩, ⟨0, [], [0], []⟩, ⟨0, [], [0], []⟩, ⟨0, [], [0], []⟩, ⟨0, [], [0], []⟩, ⟨1, [0], [0], []⟩, ⟨3, [], [], [1]⟩, ⟨2, [], [], []⟩, ⟨0, [], [], []⟩, ⟨5, [], [], []⟩]
theorem O36_0_ok : gdOk 0 O36_0 D36_0 B36_0 = true := by kernel_rfl
theorem O36_0_ok2 : gdOk2 O36_0 D36_0 B36_0 = true := by kernel_rfl
def O57_0 : List OD := [⟨0, [], [], []⟩, ⟨1, [1, 2], [], []⟩, ⟨0, [], [], []⟩, ⟨1, [1, 2], [], []⟩, ⟨3, [1, 2], [], [0]⟩, ⟨2, [1, 2], [], []⟩, ⟨0, [], [0], []⟩, ⟨1, [0, 2], [0], []⟩, ⟨0, [], [0], []⟩, ⟨1, [0, 2], [0], []⟩, ⟨3, [0, 2], [0], [1]⟩, ⟨2, [2], [], []⟩, ⟨0, [], [0, 1], []⟩, ⟨1, [0, 1], [0, 1], []⟩, ⟨1, [0, 1], [0, 1], []⟩, ⟨3, [0, 1], [0, 1], [2]⟩, ⟨2, [], [], []⟩, ⟨0, [], [], []⟩, ⟨5, [], [], []⟩]
theorem O57_0_ok : gdOk 0 O57_0 D57_0 B57_0 = true := by kernel_rfl
theorem O57_0_ok2 : gdOk2 O57_0 D57_0 B57_0 = true := by kernel_rfl
def O69_0 : List OD := [⟨1, [], [], []⟩, ⟨0, [], [], []⟩, ⟨0, [], [], []⟩, ⟨0, [], [], []⟩, ⟨1, [100], [], []⟩, ⟨4, [], [], [100]⟩, ⟨5, [], [], []⟩]
theorem O69_0_ok : gdOk 1 O69_0 D69_0 B69_0 = true := by kernel_rfl
theorem O69_0_ok2 : gdOk2 O69_0 D69_0 B69_0 = true := by kernel_rfl
def O81_0 : List OD := [⟨0, [], [], []⟩, ⟨0, [], [], []⟩, ⟨0, [], [], []⟩, ⟨3, [1], [], [0]⟩, ⟨0, [], [0], []⟩, ⟨3, [0], [0], [1]⟩, ⟨5, [], [], [2]⟩, ⟨0, [], [0, 1, 2], []⟩, ⟨0, [], [0, 1, 2], []⟩, ⟨0, [], [0, 1, 2], []⟩, ⟨5, [], [], [3]⟩, ⟨0, [], [], []⟩]
theorem O81_0_ok : gdOk 0 O81_0 D81_0 B81_0 = true := by kernel_rfl
theorem O81_0_ok2 : gdOk2 O81_0 D81_0 B81_0 = true := by kernel_rfl
end
end Go.Proofs.Ab
