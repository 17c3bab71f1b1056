/-
  Long division: one digit.
-/
import Derived.Test.YtdlddbclcmecjaaNat19
import Derived.Test.YtdlddbclcmecjaaNat15
import Derived.Test.YtdlddbclcmecjaaNat5
set_option linter.unusedVariables false
set_option linter.unusedSimpArgs false
namespace Go.Vc
open Go
open Go.Proofs

/- bits.LeadingZeros32: arguments 1, results in [2]; slots in use where its loops begin: [] -/
def c134 : MC := .seq (.ops [ .op (some 2) none (.p (.mv (.i .i64 (0)))), .gh (.drop [2])]) (.seq (.ops [ .op (some 3) none (.p (.mv (.t 0))), .op (some 4) none (.call 121 [(.t 3)]), .op (some 5) none (.p (.bin .sub (.i .i64 (32)) (.t 4))), .op (some 2) none (.p (.mv (.t 5))), .gh (.drop [0, 3, 4, 5])]) (.ret))
theorem k134 : chkF Try.prog 134 1 [2] c134 = true := by kernel_rfl

/- natural.digit: arguments 2, results in [4]; slots in use where its loops begin: [[0, 1, 5, 7, 8], [0, 1, 5, 7, 9, 10, 82, 83], [0, 1, 5, 7, 13, 130, 131]] -/
def c135 : MC := .seq (.ops [ .op (some 4) none (.p (.mv (.i .u32 (0)))), .gh (.drop [4])]) (.seq (.ops [ .op (some 15) none (.p (.mv (.t 1))), .op (some 16) none (.p (.len (.t 15))), .op (some 5) none (.p (.mv (.t 16))), .gh (.drop [15, 16])]) (.seq (.ops [ .op (some 17) none (.p (.mv (.t 0))), .op (some 18) none (.p (.mv (.t 5))), .op (some 19) none (.p (.ia 1 (.t 17) (.t 18))), .op (some 20) none (.p (.ld 1 false (.t 19))), .op (some 21) none (.p (.cv .u64 (.t 20))), .op (some 22) none (.p (.bin .shl (.t 21) (.i .u64 (32)))), .op (some 23) none (.p (.mv (.t 0))), .op (some 24) none (.p (.mv (.t 5))), .op (some 25) none (.p (.bin .sub (.t 24) (.i .i64 (1)))), .op (some 26) none (.p (.ia 1 (.t 23) (.t 25))), .op (some 27) none (.p (.ld 1 false (.t 26))), .op (some 28) none (.p (.cv .u64 (.t 27))), .op (some 29) none (.p (.bin .or (.t 22) (.t 28))), .op (some 6) none (.p (.mv (.t 29)))]) (.gh (.drop [17, 18, 19, 20, 21, 22, 23, 24, 25, 26, 27, 28, 29]) (.seq (.ops [ .op (some 30) none (.p (.mv (.t 6))), .op (some 31) none (.p (.mv (.t 1))), .op (some 32) none (.p (.mv (.t 5))), .op (some 33) none (.p (.bin .sub (.t 32) (.i .i64 (1)))), .op (some 34) none (.p (.ia 1 (.t 31) (.t 33))), .op (some 35) none (.p (.ld 1 false (.t 34))), .op (some 36) none (.p (.cv .u64 (.t 35))), .op (some 37) none (.p (.bin .quo (.t 30) (.t 36))), .op (some 38) none (.p (.mv (.t 6))), .op (some 39) none (.p (.mv (.t 1))), .op (some 40) none (.p (.mv (.t 5))), .op (some 41) none (.p (.bin .sub (.t 40) (.i .i64 (1)))), .op (some 42) none (.p (.ia 1 (.t 39) (.t 41))), .op (some 43) none (.p (.ld 1 false (.t 42))), .op (some 44) none (.p (.cv .u64 (.t 43))), .op (some 45) none (.p (.bin .rem (.t 38) (.t 44))), .op (some 7) none (.p (.mv (.t 37))), .op (some 8) none (.p (.mv (.t 45)))]) (.gh (.drop [6, 30, 31, 32, 33, 34, 35, 36, 37, 38, 39, 40, 41, 42, 43, 44, 45]) (.seq (.cut (.block 0 (.loop (.seq (.seq (.ops [ .op (some 46) none (.p (.mv (.t 7))), .op (some 47) none (.p (.bin .shr (.t 46) (.i .u64 (32)))), .op (some 48) none (.p (.bin .neq (.t 47) (.i .u64 (0)))), .op (some 49) none (.p (.mv (.t 48))), .op (some 50) (some (49, false)) (.p (.mv (.t 7))), .op (some 51) (some (49, false)) (.p (.mv (.t 1))), .op (some 52) (some (49, false)) (.p (.mv (.t 5))), .op (some 53) (some (49, false)) (.p (.bin .sub (.t 52) (.i .i64 (2)))), .op (some 54) (some (49, false)) (.p (.ia 1 (.t 51) (.t 53))), .op (some 55) (some (49, false)) (.p (.ld 1 false (.t 54))), .op (some 56) (some (49, false)) (.p (.cv .u64 (.t 55))), .op (some 57) (some (49, false)) (.p (.bin .mul (.t 50) (.t 56))), .op (some 58) (some (49, false)) (.p (.mv (.t 8))), .op (some 59) (some (49, false)) (.p (.bin .shl (.t 58) (.i .u64 (32)))), .op (some 60) (some (49, false)) (.p (.mv (.t 0))), .op (some 61) (some (49, false)) (.p (.mv (.t 5))), .op (some 62) (some (49, false)) (.p (.bin .sub (.t 61) (.i .i64 (2)))), .op (some 63) (some (49, false)) (.p (.ia 1 (.t 60) (.t 62))), .op (some 64) (some (49, false)) (.p (.ld 1 false (.t 63))), .op (some 65) (some (49, false)) (.p (.cv .u64 (.t 64))), .op (some 66) (some (49, false)) (.p (.bin .or (.t 59) (.t 65))), .op (some 67) (some (49, false)) (.p (.bin .gtr (.t 57) (.t 66))), .op (some 68) none (.pick (.t 49) (.b true) (.t 67))]) (.gh (.drop [46, 47, 48, 49, 50, 51, 52, 53, 54, 55, 56, 57, 58, 59, 60, 61, 62, 63, 64, 65, 66, 67]) (.cond (.t 68) (.skip) (.exit 0)))) (.block 1 (.seq (.ops [ .op (some 69) none (.p (.mv (.t 7))), .op (some 70) none (.p (.bin .sub (.t 69) (.i .u64 (1)))), .op (some 7) none (.p (.mv (.t 70))), .gh (.drop [69, 70])]) (.seq (.ops [ .op (some 71) none (.p (.mv (.t 8))), .op (some 72) none (.p (.mv (.t 1))), .op (some 73) none (.p (.mv (.t 5))), .op (some 74) none (.p (.bin .sub (.t 73) (.i .i64 (1)))), .op (some 75) none (.p (.ia 1 (.t 72) (.t 74))), .op (some 76) none (.p (.ld 1 false (.t 75))), .op (some 77) none (.p (.cv .u64 (.t 76))), .op (some 78) none (.p (.bin .add (.t 71) (.t 77))), .op (some 8) none (.p (.mv (.t 78))), .gh (.drop [71, 72, 73, 74, 75, 76, 77, 78])]) (.seq (.ops [ .op (some 79) none (.p (.mv (.t 8))), .op (some 80) none (.p (.bin .shr (.t 79) (.i .u64 (32)))), .op (some 81) none (.p (.bin .neq (.t 80) (.i .u64 (0)))), .gh (.drop [79, 80])]) (.cond (.t 81) (.exit 0) (.skip)))))))))) (.seq (.ops [ .op (some 9) none (.p (.mv (.i .u32 (0)))), .op (some 10) none (.p (.mv (.i .u64 (0))))]) (.seq (.seq (.ops [ .op (some 82) none (.p (.mv (.t 5))), .op (some 83) none (.p (.mv (.i .i64 (0))))]) (.cut (.block 2 (.loop (.seq (.ops [ .op (some 84) none (.p (.bin .lss (.t 83) (.t 82)))]) (.seq (.cond (.t 84) (.skip) (.exit 2)) (.seq (.block 3 (.seq (.ops [ .op (some 85) none (.p (.mv (.t 83))), .op (some 11) none (.p (.mv (.t 85))), .gh (.drop [85])]) (.seq (.ops [ .op (some 86) none (.p (.mv (.t 7))), .op (some 87) none (.p (.mv (.t 1))), .op (some 88) none (.p (.mv (.t 11))), .op (some 89) none (.p (.ia 1 (.t 87) (.t 88))), .op (some 90) none (.p (.ld 1 false (.t 89))), .op (some 91) none (.p (.cv .u64 (.t 90))), .op (some 92) none (.p (.bin .mul (.t 86) (.t 91))), .op (some 93) none (.p (.mv (.t 10))), .op (some 94) none (.p (.bin .add (.t 92) (.t 93))), .op (some 12) none (.p (.mv (.t 94))), .gh (.drop [10, 86, 87, 88, 89, 90, 91, 92, 93, 94])]) (.seq (.ops [ .op (some 95) none (.p (.mv (.t 12))), .op (some 96) none (.p (.bin .shr (.t 95) (.i .u64 (32)))), .op (some 10) none (.p (.mv (.t 96))), .gh (.drop [95, 96])]) (.ops [ .op (some 98) none (.p (.mv (.t 0))), .op (some 99) none (.p (.mv (.t 11))), .op (some 100) none (.p (.mv (.t 0))), .op (some 101) none (.p (.mv (.t 11))), .op (some 102) none (.p (.ia 1 (.t 100) (.t 101))), .op (some 103) none (.p (.ld 1 false (.t 102))), .op (some 104) none (.p (.mv (.t 12))), .op (some 105) none (.p (.cv .u32 (.t 104))), .op (some 106) none (.p (.mv (.t 9))), .op (some 107) none (.call 132 [(.t 103), (.t 105), (.t 106)]), .op (some 97) none (.p (.mv (.t 107))), .op (some 108) none (.p (.ex (.t 97) 0)), .op (some 109) none (.p (.ex (.t 97) 1)), .op (some 110) none (.p (.ia 1 (.t 98) (.t 99))), .op none none (.w (.st 1 (.t 110) (.t 108))), .op (some 9) none (.p (.mv (.t 109))), .gh (.drop [11, 12, 97, 98, 99, 100, 101, 102, 103, 104, 105, 106, 107, 108, 109, 110])]))))) (.ops [ .op (some 111) none (.p (.bin .add (.t 83) (.i .i64 (1)))), .op (some 83) none (.p (.mv (.t 111))), .gh (.drop [111])])))))))) (.seq (.ops [ .op (some 113) none (.p (.mv (.t 0))), .op (some 114) none (.p (.mv (.t 5))), .op (some 115) none (.p (.mv (.t 0))), .op (some 116) none (.p (.mv (.t 5))), .op (some 117) none (.p (.ia 1 (.t 115) (.t 116))), .op (some 118) none (.p (.ld 1 false (.t 117))), .op (some 119) none (.p (.mv (.t 10))), .op (some 120) none (.p (.cv .u32 (.t 119))), .op (some 121) none (.p (.mv (.t 9))), .op (some 122) none (.call 132 [(.t 118), (.t 120), (.t 121)]), .op (some 112) none (.p (.mv (.t 122))), .op (some 123) none (.p (.ex (.t 112) 0)), .op (some 124) none (.p (.ex (.t 112) 1)), .op (some 125) none (.p (.ia 1 (.t 113) (.t 114))), .op none none (.w (.st 1 (.t 125) (.t 123))), .op (some 9) none (.p (.mv (.t 124))), .gh (.drop [10, 112, 113, 114, 115, 116, 117, 118, 119, 120, 121, 122, 123, 124, 125])]) (.seq (.seq (.ops [ .op (some 126) none (.p (.mv (.t 9))), .op (some 127) none (.p (.bin .neq (.t 126) (.i .u32 (0)))), .gh (.drop [9, 126])]) (.cond (.t 127) (.seq (.ops [ .op (some 128) none (.p (.mv (.t 7))), .op (some 129) none (.p (.bin .sub (.t 128) (.i .u64 (1)))), .op (some 7) none (.p (.mv (.t 129))), .gh (.drop [128, 129])]) (.seq (.ops [ .op (some 13) none (.p (.mv (.i .u32 (0))))]) (.seq (.seq (.ops [ .op (some 130) none (.p (.mv (.t 5))), .op (some 131) none (.p (.mv (.i .i64 (0))))]) (.cut (.block 4 (.loop (.seq (.ops [ .op (some 132) none (.p (.bin .lss (.t 131) (.t 130)))]) (.seq (.cond (.t 132) (.skip) (.exit 4)) (.seq (.block 5 (.seq (.ops [ .op (some 133) none (.p (.mv (.t 131))), .op (some 14) none (.p (.mv (.t 133))), .gh (.drop [133])]) (.dr (.op 0 (.op (some 135) none (.p (.mv (.t 0)))) (.op 1 (.op (some 136) none (.p (.mv (.t 14)))) (.op 2 (.op (some 137) none (.p (.mv (.t 0)))) (.op 3 (.op (some 138) none (.p (.mv (.t 14)))) (.op 6 (.op (some 141) none (.p (.mv (.t 1)))) (.op 7 (.op (some 142) none (.p (.mv (.t 14)))) (.op 10 (.op (some 145) none (.p (.mv (.t 13)))) (.alt (.op 4 (.op (some 139) none (.p (.ia 1 (.t 137) (.t 138)))) (.alt (.op 5 (.op (some 140) none (.p (.ld 1 false (.t 139)))) (.op 8 (.op (some 143) none (.p (.ia 1 (.t 141) (.t 142)))) (.op 9 (.op (some 144) none (.p (.ld 1 false (.t 143)))) (.op 11 (.op (some 146) none (.call 131 [(.t 140), (.t 144), (.t 145)])) (.op 12 (.op (some 134) none (.p (.mv (.t 146)))) (.alt (.op 13 (.op (some 147) none (.p (.ex (.t 134) 0))) (.alt (.op 14 (.op (some 148) none (.p (.ex (.t 134) 1))) (.op 15 (.op (some 149) none (.p (.ia 1 (.t 135) (.t 136)))) (.op 16 (.op none none (.w (.st 1 (.t 149) (.t 147)))) (.op 17 (.op (some 13) none (.p (.mv (.t 148)))) (.nil))))) (.op 15 (.op (some 149) none (.p (.ia 1 (.t 135) (.t 136)))) (.alt (.op 14 (.op (some 148) none (.p (.ex (.t 134) 1))) (.op 16 (.op none none (.w (.st 1 (.t 149) (.t 147)))) (.op 17 (.op (some 13) none (.p (.mv (.t 148)))) (.nil)))) (.op 16 (.op none none (.w (.st 1 (.t 149) (.t 147)))) (.op 14 (.op (some 148) none (.p (.ex (.t 134) 1))) (.op 17 (.op (some 13) none (.p (.mv (.t 148)))) (.nil)))))))) (.op 14 (.op (some 148) none (.p (.ex (.t 134) 1))) (.op 13 (.op (some 147) none (.p (.ex (.t 134) 0))) (.op 15 (.op (some 149) none (.p (.ia 1 (.t 135) (.t 136)))) (.op 16 (.op none none (.w (.st 1 (.t 149) (.t 147)))) (.op 17 (.op (some 13) none (.p (.mv (.t 148)))) (.nil)))))))))))) (.op 8 (.op (some 143) none (.p (.ia 1 (.t 141) (.t 142)))) (.alt (.op 5 (.op (some 140) none (.p (.ld 1 false (.t 139)))) (.op 9 (.op (some 144) none (.p (.ld 1 false (.t 143)))) (.op 11 (.op (some 146) none (.call 131 [(.t 140), (.t 144), (.t 145)])) (.op 12 (.op (some 134) none (.p (.mv (.t 146)))) (.alt (.op 13 (.op (some 147) none (.p (.ex (.t 134) 0))) (.alt (.op 14 (.op (some 148) none (.p (.ex (.t 134) 1))) (.op 15 (.op (some 149) none (.p (.ia 1 (.t 135) (.t 136)))) (.op 16 (.op none none (.w (.st 1 (.t 149) (.t 147)))) (.op 17 (.op (some 13) none (.p (.mv (.t 148)))) (.nil))))) (.op 15 (.op (some 149) none (.p (.ia 1 (.t 135) (.t 136)))) (.alt (.op 14 (.op (some 148) none (.p (.ex (.t 134) 1))) (.op 16 (.op none none (.w (.st 1 (.t 149) (.t 147)))) (.op 17 (.op (some 13) none (.p (.mv (.t 148)))) (.nil)))) (.op 16 (.op none none (.w (.st 1 (.t 149) (.t 147)))) (.op 14 (.op (some 148) none (.p (.ex (.t 134) 1))) (.op 17 (.op (some 13) none (.p (.mv (.t 148)))) (.nil)))))))) (.op 14 (.op (some 148) none (.p (.ex (.t 134) 1))) (.op 13 (.op (some 147) none (.p (.ex (.t 134) 0))) (.op 15 (.op (some 149) none (.p (.ia 1 (.t 135) (.t 136)))) (.op 16 (.op none none (.w (.st 1 (.t 149) (.t 147)))) (.op 17 (.op (some 13) none (.p (.mv (.t 148)))) (.nil))))))))))) (.op 9 (.op (some 144) none (.p (.ld 1 false (.t 143)))) (.op 5 (.op (some 140) none (.p (.ld 1 false (.t 139)))) (.op 11 (.op (some 146) none (.call 131 [(.t 140), (.t 144), (.t 145)])) (.op 12 (.op (some 134) none (.p (.mv (.t 146)))) (.alt (.op 13 (.op (some 147) none (.p (.ex (.t 134) 0))) (.alt (.op 14 (.op (some 148) none (.p (.ex (.t 134) 1))) (.op 15 (.op (some 149) none (.p (.ia 1 (.t 135) (.t 136)))) (.op 16 (.op none none (.w (.st 1 (.t 149) (.t 147)))) (.op 17 (.op (some 13) none (.p (.mv (.t 148)))) (.nil))))) (.op 15 (.op (some 149) none (.p (.ia 1 (.t 135) (.t 136)))) (.alt (.op 14 (.op (some 148) none (.p (.ex (.t 134) 1))) (.op 16 (.op none none (.w (.st 1 (.t 149) (.t 147)))) (.op 17 (.op (some 13) none (.p (.mv (.t 148)))) (.nil)))) (.op 16 (.op none none (.w (.st 1 (.t 149) (.t 147)))) (.op 14 (.op (some 148) none (.p (.ex (.t 134) 1))) (.op 17 (.op (some 13) none (.p (.mv (.t 148)))) (.nil)))))))) (.op 14 (.op (some 148) none (.p (.ex (.t 134) 1))) (.op 13 (.op (some 147) none (.p (.ex (.t 134) 0))) (.op 15 (.op (some 149) none (.p (.ia 1 (.t 135) (.t 136)))) (.op 16 (.op none none (.w (.st 1 (.t 149) (.t 147)))) (.op 17 (.op (some 13) none (.p (.mv (.t 148)))) (.nil))))))))))))))) (.op 8 (.op (some 143) none (.p (.ia 1 (.t 141) (.t 142)))) (.alt (.op 4 (.op (some 139) none (.p (.ia 1 (.t 137) (.t 138)))) (.alt (.op 5 (.op (some 140) none (.p (.ld 1 false (.t 139)))) (.op 9 (.op (some 144) none (.p (.ld 1 false (.t 143)))) (.op 11 (.op (some 146) none (.call 131 [(.t 140), (.t 144), (.t 145)])) (.op 12 (.op (some 134) none (.p (.mv (.t 146)))) (.alt (.op 13 (.op (some 147) none (.p (.ex (.t 134) 0))) (.alt (.op 14 (.op (some 148) none (.p (.ex (.t 134) 1))) (.op 15 (.op (some 149) none (.p (.ia 1 (.t 135) (.t 136)))) (.op 16 (.op none none (.w (.st 1 (.t 149) (.t 147)))) (.op 17 (.op (some 13) none (.p (.mv (.t 148)))) (.nil))))) (.op 15 (.op (some 149) none (.p (.ia 1 (.t 135) (.t 136)))) (.alt (.op 14 (.op (some 148) none (.p (.ex (.t 134) 1))) (.op 16 (.op none none (.w (.st 1 (.t 149) (.t 147)))) (.op 17 (.op (some 13) none (.p (.mv (.t 148)))) (.nil)))) (.op 16 (.op none none (.w (.st 1 (.t 149) (.t 147)))) (.op 14 (.op (some 148) none (.p (.ex (.t 134) 1))) (.op 17 (.op (some 13) none (.p (.mv (.t 148)))) (.nil)))))))) (.op 14 (.op (some 148) none (.p (.ex (.t 134) 1))) (.op 13 (.op (some 147) none (.p (.ex (.t 134) 0))) (.op 15 (.op (some 149) none (.p (.ia 1 (.t 135) (.t 136)))) (.op 16 (.op none none (.w (.st 1 (.t 149) (.t 147)))) (.op 17 (.op (some 13) none (.p (.mv (.t 148)))) (.nil))))))))))) (.op 9 (.op (some 144) none (.p (.ld 1 false (.t 143)))) (.op 5 (.op (some 140) none (.p (.ld 1 false (.t 139)))) (.op 11 (.op (some 146) none (.call 131 [(.t 140), (.t 144), (.t 145)])) (.op 12 (.op (some 134) none (.p (.mv (.t 146)))) (.alt (.op 13 (.op (some 147) none (.p (.ex (.t 134) 0))) (.alt (.op 14 (.op (some 148) none (.p (.ex (.t 134) 1))) (.op 15 (.op (some 149) none (.p (.ia 1 (.t 135) (.t 136)))) (.op 16 (.op none none (.w (.st 1 (.t 149) (.t 147)))) (.op 17 (.op (some 13) none (.p (.mv (.t 148)))) (.nil))))) (.op 15 (.op (some 149) none (.p (.ia 1 (.t 135) (.t 136)))) (.alt (.op 14 (.op (some 148) none (.p (.ex (.t 134) 1))) (.op 16 (.op none none (.w (.st 1 (.t 149) (.t 147)))) (.op 17 (.op (some 13) none (.p (.mv (.t 148)))) (.nil)))) (.op 16 (.op none none (.w (.st 1 (.t 149) (.t 147)))) (.op 14 (.op (some 148) none (.p (.ex (.t 134) 1))) (.op 17 (.op (some 13) none (.p (.mv (.t 148)))) (.nil)))))))) (.op 14 (.op (some 148) none (.p (.ex (.t 134) 1))) (.op 13 (.op (some 147) none (.p (.ex (.t 134) 0))) (.op 15 (.op (some 149) none (.p (.ia 1 (.t 135) (.t 136)))) (.op 16 (.op none none (.w (.st 1 (.t 149) (.t 147)))) (.op 17 (.op (some 13) none (.p (.mv (.t 148)))) (.nil))))))))))))) (.op 9 (.op (some 144) none (.p (.ld 1 false (.t 143)))) (.op 4 (.op (some 139) none (.p (.ia 1 (.t 137) (.t 138)))) (.op 5 (.op (some 140) none (.p (.ld 1 false (.t 139)))) (.op 11 (.op (some 146) none (.call 131 [(.t 140), (.t 144), (.t 145)])) (.op 12 (.op (some 134) none (.p (.mv (.t 146)))) (.alt (.op 13 (.op (some 147) none (.p (.ex (.t 134) 0))) (.alt (.op 14 (.op (some 148) none (.p (.ex (.t 134) 1))) (.op 15 (.op (some 149) none (.p (.ia 1 (.t 135) (.t 136)))) (.op 16 (.op none none (.w (.st 1 (.t 149) (.t 147)))) (.op 17 (.op (some 13) none (.p (.mv (.t 148)))) (.nil))))) (.op 15 (.op (some 149) none (.p (.ia 1 (.t 135) (.t 136)))) (.alt (.op 14 (.op (some 148) none (.p (.ex (.t 134) 1))) (.op 16 (.op none none (.w (.st 1 (.t 149) (.t 147)))) (.op 17 (.op (some 13) none (.p (.mv (.t 148)))) (.nil)))) (.op 16 (.op none none (.w (.st 1 (.t 149) (.t 147)))) (.op 14 (.op (some 148) none (.p (.ex (.t 134) 1))) (.op 17 (.op (some 13) none (.p (.mv (.t 148)))) (.nil)))))))) (.op 14 (.op (some 148) none (.p (.ex (.t 134) 1))) (.op 13 (.op (some 147) none (.p (.ex (.t 134) 0))) (.op 15 (.op (some 149) none (.p (.ia 1 (.t 135) (.t 136)))) (.op 16 (.op none none (.w (.st 1 (.t 149) (.t 147)))) (.op 17 (.op (some 13) none (.p (.mv (.t 148)))) (.nil))))))))))))))))))))))))) (.ops [ .op (some 150) none (.p (.bin .add (.t 131) (.i .i64 (1)))), .op (some 131) none (.p (.mv (.t 150))), .gh (.drop [150])])))))))) (.ops [ .op (some 151) none (.p (.mv (.t 0))), .op (some 152) none (.p (.mv (.t 5))), .op (some 153) none (.p (.ia 1 (.t 151) (.t 152))), .op (some 154) none (.p (.ld 1 false (.t 153))), .op (some 155) none (.p (.mv (.t 13))), .op (some 156) none (.p (.bin .add (.t 154) (.t 155))), .op (some 157) none (.p (.ia 1 (.t 151) (.t 152))), .op none none (.w (.st 1 (.t 157) (.t 156))), .gh (.drop [0, 5, 13, 151, 152, 153, 154, 155, 156, 157])])))) (.skip))) (.seq (.ops [ .op (some 158) none (.p (.mv (.t 7))), .op (some 159) none (.p (.cv .u32 (.t 158))), .op (some 4) none (.p (.mv (.t 159))), .gh (.drop [7, 158, 159])]) (.ret))))))))))))
theorem k135 : chkF Try.prog 135 2 [4] c135 = true := by kernel_rfl



theorem bits_LeadingZeros32 (x : Int) : FSpec0 Try.prog 134 [.int .u32 x] (fun r => r = .int .i64 (32 - blen x.toNat)) := by
  refine FSpec0.of_facts fun hf => fspec0_of_run k134 ?_
  have hx := hf.1
  simp only [factV, inK] at hx
  simp only [c134, W1, W2, W3, popTo, memb, res, wres, env0, byteAt, optI, cutB, cutL, sliceR, strR, ldCells, ldR, iaR, faR, lenR, lenSR, ixR, exR, nchkR, mxR, csR, up, ZV.av, ZV.fit, zfits, fits, fitsL, cellsOf, down, downL, downLL, stR, mkR, bsR, boxR, alR, apR, cpR, srcQ, solid, killC, killV, killE, killO, killH, hget, hset, hdel, pubV, pubC, pubO, renV, renC, renO, reduceIte, reduceCtorEq, Nat.reduceEqDiff, Nat.reduceLT, Nat.reduceAdd, Int.reduceToNat, Nat.reduceLeDiff, Int.reducePow, Int.reduceLE, Int.reduceLT]
  refine call1 (bits_Len32 x) (by repeat (first | exact subs_nil | refine subs_int ?_ | refine subs_ro ?_ | refine subs_bool ?_ | refine subs_str ?_ | refine subs_nilro ?_ | refine subs_lits rfl ?_ | refine subs_all rfl rfl (by simp) ?_ | refine subs_own rfl rfl ?_ | refine subs_fn ?_)) ?_; simp only [uL, W1, W2, W3, popTo, memb, res, wres, env0, byteAt, optI, cutB, cutL, sliceR, strR, ldCells, ldR, iaR, faR, lenR, lenSR, ixR, exR, nchkR, mxR, csR, up, ZV.av, ZV.fit, zfits, fits, fitsL, cellsOf, down, downL, downLL, stR, mkR, bsR, boxR, alR, apR, cpR, srcQ, solid, killC, killV, killE, killO, killH, hget, hset, hdel, pubV, pubC, pubO, renV, renC, renO, reduceIte, reduceCtorEq, Nat.reduceEqDiff, Nat.reduceLT, Nat.reduceAdd, Int.reduceToNat, Nat.reduceLeDiff, Int.reducePow, Int.reduceLE, Int.reduceLT]
  have : blen x.toNat ≤ 32 := blen_le.2 (by omega)
  exact ⟨by omega, ret1' (by simp only [retR, retA, retL, ret1, ret1L, eget, hget, hset, St.set, eset, List.map_cons, List.map_nil, reduceIte, reduceCtorEq, Nat.reduceEqDiff, Nat.reduceLT, true_and, and_true, false_or, or_true, true_or, List.drop_zero, List.take_length, scalE_I, scalE_B, scalE_S])⟩

/-! ### plain -/
section
variable {P X V b1 b2 vl h r2 xl g l : Int}
theorem guess_first (hP : 0 < P) (hb1 : 0 < b1) (hb2 : 0 ≤ b2) (hvl : 0 ≤ vl) (hV : V = vl + P * (b2 + 4294967296 * b1)) (hX : X = xl + P * (r2 + 4294967296 * h)) (hxl : xl < P) (hr2 : r2 < 4294967296) (hh : 0 ≤ h) : X < (h / b1 + 1) * V := by
  have h1 := Int.mul_ediv_add_emod h b1
  have h2 := Int.emod_lt_of_pos h hb1
  have h3 := Int.ediv_nonneg hh (show 0 ≤ b1 by omega)
  generalize h / b1 = g at *
  have h4 : h + 1 ≤ (g + 1) * b1 := by rw [Int.add_mul, Int.mul_comm g]; omega
  have h5 : P * (r2 + 4294967296 * h) + P ≤ P * (4294967296 * (h + 1)) := by
    rw [show P * (r2 + 4294967296 * h) + P = P * (r2 + 4294967296 * h + 1) by rw [Int.mul_add _ _ 1]; omega]
    exact Int.mul_le_mul_of_nonneg_left (by omega) (by omega)
  have h6 : P * (4294967296 * (h + 1)) ≤ P * (4294967296 * ((g + 1) * b1)) := Int.mul_le_mul_of_nonneg_left (by omega) (by omega)
  have h7 : (g + 1) * (P * (4294967296 * b1)) ≤ (g + 1) * V := by
    refine Int.mul_le_mul_of_nonneg_left ?_ (by omega)
    have : 0 ≤ P * b2 := Int.mul_nonneg (by omega) hb2
    rw [hV, Int.mul_add]; omega
  have h8 : P * (4294967296 * ((g + 1) * b1)) = (g + 1) * (P * (4294967296 * b1)) := by
    rw [Int.mul_left_comm (g + 1) P, Int.mul_left_comm (g + 1) 4294967296]
  omega
theorem guess_less (hP : 0 < P) (hg : 0 ≤ g) (hvl : 0 ≤ vl) (hV : V = vl + P * (b2 + 4294967296 * b1)) (hX : X = xl + P * (r2 + 4294967296 * h)) (hxl : xl < P) (hl : g * b1 + l = h) (hc : g * b2 > l * 4294967296 + r2) : X < g * V := by
  have h1 : r2 + 4294967296 * h + 1 ≤ g * (b2 + 4294967296 * b1) := by
    rw [Int.mul_add, Int.mul_left_comm]; omega
  have h2 : P * (r2 + 4294967296 * h + 1) ≤ P * (g * (b2 + 4294967296 * b1)) := Int.mul_le_mul_of_nonneg_left h1 (by omega)
  have h3 : g * (P * (b2 + 4294967296 * b1)) ≤ g * V := Int.mul_le_mul_of_nonneg_left (by omega) hg
  rw [Int.mul_left_comm g P] at h3
  rw [Int.mul_add P _ 1] at h2
  omega
theorem guess_near (hP : 0 < P) (hg : 0 ≤ g ∧ g < 4294967296) (hb1 : 1 ≤ b1) (hb2 : 0 ≤ b2) (hvl : 0 ≤ vl ∧ vl < P) (hV : V = vl + P * (b2 + 4294967296 * b1)) (hX : X = xl + P * (r2 + 4294967296 * h)) (hxl : 0 ≤ xl) (hc : g * (b2 + 4294967296 * b1) ≤ r2 + 4294967296 * h) : g * V < X + V := by
  have h1 : P * (g * (b2 + 4294967296 * b1)) ≤ P * (r2 + 4294967296 * h) := Int.mul_le_mul_of_nonneg_left hc (by omega)
  have h2 : g * V = g * vl + P * (g * (b2 + 4294967296 * b1)) := by rw [hV, Int.mul_add, Int.mul_left_comm]
  have h3 : g * vl ≤ g * P := Int.mul_le_mul_of_nonneg_left (by omega) hg.1
  have h4 : g * P < 4294967296 * P := Int.mul_lt_mul_of_pos_right hg.2 hP
  have h5 : P * (4294967296 * 1) ≤ P * (b2 + 4294967296 * b1) := Int.mul_le_mul_of_nonneg_left (by omega) (by omega)
  omega
theorem head_bound (hP : 0 < P) (hvl : vl < P) (hb2 : b2 < 4294967296) (hV : V = vl + P * (b2 + 4294967296 * b1)) (hX : X = xl + P * (r2 + 4294967296 * h)) (hxl : 0 ≤ xl) (hr2 : 0 ≤ r2) (hXV : X < 4294967296 * V) : h < 4294967296 * (b1 + 1) := by
  refine Int.lt_of_not_ge fun hn => ?_
  have h1 : P * (4294967296 * (4294967296 * (b1 + 1))) ≤ P * (r2 + 4294967296 * h) := Int.mul_le_mul_of_nonneg_left (by omega) (by omega)
  have h2 : P * (b2 + 4294967296 * b1 + 1) ≤ P * (4294967296 * (b1 + 1)) := Int.mul_le_mul_of_nonneg_left (by omega) (by omega)
  rw [Int.mul_add P _ 1] at h2
  rw [Int.mul_left_comm P] at h1
  omega
end

theorem sub_step {Y X g T Q x car bor w y b e : Int} (h : Y = X - g * T + Q * (car + bor)) (hw : w = g * x + car) (he : e - y = 0 - w % 4294967296 - bor + 4294967296 * b) : Y + Q * (e - y) = X - g * (T + Q * x) + Q * 4294967296 * (w / 4294967296 + b) := by
  have hs := Int.mul_ediv_add_emod w 4294967296
  rw [h, he]
  generalize w % 4294967296 = r at *
  generalize w / 4294967296 = q at *
  rw [show r = g * x + car - 4294967296 * q by omega]
  have e1 : g * (T + Q * x) = g * T + Q * (g * x) := by rw [Int.mul_add, Int.mul_left_comm]
  rw [e1]
  simp only [Int.mul_add, Int.mul_sub, ← Int.mul_assoc]
  omega

theorem back_step {Z T Q x y c : Int} : Z + T - Q * c + Q * ((y + x + c) % 4294967296 - y) = Z + (T + Q * x) - Q * 4294967296 * ((y + x + c) / 4294967296) := by
  have hs := Int.mul_ediv_add_emod (y + x + c) 4294967296
  generalize (y + x + c) % 4294967296 = r at *
  generalize (y + x + c) / 4294967296 = q at *
  rw [show r = y + x + c - 4294967296 * q by omega]
  simp only [Int.mul_add, Int.mul_sub, ← Int.mul_assoc]
  omega

/-- a row: what stands before, the part, what stands behind -/
abbrev rowP (ps rs qs : List Int) : Heap := [(1000, .arr 99 false true 1 (encI .u32) (ps ++ (rs ++ qs)))]
theorem getP {ps rs qs : List Int} {i : Nat} (h : i < rs.length) : (ps ++ (rs ++ qs))[ps.length + i]? = rs[i]? := by
  rw [List.getElem?_append_right (by omega), Nat.add_sub_cancel_left, List.getElem?_append_left h]
theorem setP {ps rs qs : List Int} {i : Nat} {e : Int} (h : i < rs.length) : (ps ++ (rs ++ qs)).set (ps.length + i) e = ps ++ (rs.set i e ++ qs) := by
  rw [List.set_append_right _ _ (by omega), Nat.add_sub_cancel_left, List.set_append_left _ _ h]

theorem ret_rowP {env : Env} {v : Int} {xs lent : List Int} {post : AV → Heap → Prop} (h4 : eget env 4 = .int .u32 v) (h : post (.int .u32 v) [(1000, .arr 99 false true 1 (encI .u32) xs)]) :
    Ret [4] [(1000, .arr 99 false true 1 (encI .u32) lent)] post ⟨env, [(1000, .arr 99 false true 1 (encI .u32) xs)]⟩ :=
  ⟨.int .u32 v, _, by simp only [List.map_cons, List.map_nil, h4, retR, retA, retL, ret1, ret1L, eget, hget, hset, St.set, eset, List.map_cons, List.map_nil, reduceIte, reduceCtorEq, Nat.reduceEqDiff, Nat.reduceLT, true_and, and_true, false_or, or_true, true_or, List.drop_zero, List.take_length, scalE_I, scalE_B, scalE_S], by simp [retH, hget, retO], by simp [keptH, hget, OB.fixed], h⟩

set_option maxHeartbeats 2000000 in
theorem natural_digit (fr : Bool) (ps rs qs low : List Int) (n : Nat) (hn : 2 ≤ n) (hr : rs.length = n + 1) (hl : low.length = n) (hN : (ps.length + n + 1 + qs.length) * 4 ≤ 140737488355328) (lr : lim rs) (hV : 2147483648 * 4294967296 ^ (n - 1) ≤ val low) (hX : val rs < 4294967296 * val low) :
    FSpec Try.prog 135 [.own 1000 ps.length (n + 1) false, uL fr low] (rowP ps rs qs) (fun r hp' => r = .int .u32 (val rs / val low) ∧ ∃ rs', hp' = rowP ps rs' qs ∧ rs'.length = n + 1 ∧ lim rs' ∧ val rs' = val rs % val low) := by
  refine FSpec.of_facts fun hf => fspec_of_run k135 rfl (fun h => by cases h) ?_
  have ll : lim low := lim_of_factL hf.2.1
  obtain ⟨r0, hr0⟩ : ∃ y, rs[n]? = some y := ⟨_, List.getElem?_eq_getElem (by omega)⟩
  obtain ⟨r1, hr1⟩ : ∃ y, rs[n - 1]? = some y := ⟨_, List.getElem?_eq_getElem (by omega)⟩
  obtain ⟨r2, hr2⟩ : ∃ y, rs[n - 2]? = some y := ⟨_, List.getElem?_eq_getElem (by omega)⟩
  obtain ⟨b1, hb1⟩ : ∃ y, low[n - 1]? = some y := ⟨_, List.getElem?_eq_getElem (by omega)⟩
  obtain ⟨b2, hb2⟩ : ∃ y, low[n - 2]? = some y := ⟨_, List.getElem?_eq_getElem (by omega)⟩
  have R0 := lr.get hr0
  have R1 := lr.get hr1
  have R2 := lr.get hr2
  have B1 := ll.get hb1
  have B2 := ll.get hb2
  have hP := pow_pos' (n - 2)
  have hP1 : (4294967296 : Int) ^ (n - 1) = 4294967296 ^ (n - 2) * 4294967296 := by rw [← pow_s]; congr 1; omega
  have hP2 : (4294967296 : Int) ^ n = 4294967296 ^ (n - 2) * 4294967296 * 4294967296 := by rw [← hP1, ← pow_s]; congr 1; omega
  have hXl := val_bound (lr.take (n - 2))
  have hVl := val_bound (ll.take (n - 2))
  rw [List.length_take, Nat.min_eq_left (by omega)] at hXl hVl
  have hXe : val rs = val (rs.take (n - 2)) + 4294967296 ^ (n - 2) * (r2 + 4294967296 * (r1 + 4294967296 * r0)) := by
    have e1 := val_take_succ hr0
    have e2 := val_take_succ hr1
    have e3 := val_take_succ hr2
    rw [List.take_of_length_le (by omega)] at e1
    rw [show n - 1 + 1 = n by omega] at e2
    rw [show n - 2 + 1 = n - 1 by omega] at e3
    rw [e1, e2, e3, hP1, hP2]
    simp only [Int.mul_add, ← Int.mul_assoc]
    omega
  have hVe : val low = val (low.take (n - 2)) + 4294967296 ^ (n - 2) * (b2 + 4294967296 * b1) := by
    have e2 := val_take_succ hb1
    have e3 := val_take_succ hb2
    rw [show n - 1 + 1 = n by omega, List.take_of_length_le (by omega)] at e2
    rw [show n - 2 + 1 = n - 1 by omega] at e3
    rw [e2, e3, hP1]
    simp only [Int.mul_add, ← Int.mul_assoc]
    omega
  have hlb := (val_bound ll).2
  rw [hl] at hlb
  have hXn : ∀ i, i < n + 1 → (ps ++ (rs ++ qs))[ps.length + i]? = rs[i]? := fun i hi => getP (by omega)
  have hb1p : 2147483648 ≤ b1 := by
    refine Int.le_of_not_gt fun h => ?_
    have h1 : 4294967296 ^ (n - 2) * (b2 + 4294967296 * b1 + 1) ≤ 4294967296 ^ (n - 2) * (4294967296 * 2147483648) := Int.mul_le_mul_of_nonneg_left (by omega) (by omega)
    rw [Int.mul_add _ _ 1] at h1
    omega
  generalize hXX : val rs = X at *
  generalize hVV : val low = V at *
  have T1 : ((n : Int) - 1).toNat = n - 1 := by omega
  have T2 : ((n : Int) - 2).toNat = n - 2 := by omega
  have hlen : (ps ++ (rs ++ qs)).length = ps.length + (n + 1) + qs.length := by simp [hr]; omega
  have G0 := (hXn n (by omega)).trans hr0
  have G1 := (hXn (n - 1) (by omega)).trans hr1
  have G2 := (hXn (n - 2) (by omega)).trans hr2
  have hh : (((r0 * 4294967296 % 18446744073709551616).toNat ||| r1.toNat : Nat) : Int) = r1 + 4294967296 * r0 := by
    rw [show r0 * 4294967296 % 18446744073709551616 = r0 * 4294967296 by omega]; exact or_add r0 r1 R0.1 R1.1 R1.2
  have hhB := head_bound hP hVl.2 B2.2 hVe hXe hXl.1 R2.1 hX
  have gF := guess_first hP (show 0 < b1 by omega) B2.1 hVl.1 hVe hXe hXl.2 R2.2 (show 0 ≤ r1 + 4294967296 * r0 by omega)
  simp only [uL, rowP, c135, W1, W2, W3, popTo, memb, res, wres, env0, byteAt, optI, cutB, cutL, sliceR, strR, ldCells, ldR, iaR, faR, lenR, lenSR, ixR, exR, nchkR, mxR, csR, up, ZV.av, ZV.fit, zfits, fits, fitsL, cellsOf, down, downL, downLL, stR, mkR, bsR, boxR, alR, apR, cpR, srcQ, solid, killC, killV, killE, killO, killH, hget, hset, hdel, pubV, pubC, pubO, renV, renC, renO, reduceIte, reduceCtorEq, Nat.reduceEqDiff, Nat.reduceLT, Nat.reduceAdd, Int.reduceToNat, Nat.reduceLeDiff, Int.reducePow, Int.reduceLE, Int.reduceLT]
  simp only [hl, T1, T2, G0, G1, hb1, hb2, Option.some.injEq, forall_eq', hlen, hh]
  have hd1 := Int.mul_ediv_add_emod (r1 + 4294967296 * r0) b1
  have hd2 := Int.emod_lt_of_pos (r1 + 4294967296 * r0) (show 0 < b1 by omega)
  have hd3 := Int.emod_nonneg (r1 + 4294967296 * r0) (show b1 ≠ 0 by omega)
  have hd4 := Int.ediv_nonneg (show 0 ≤ r1 + 4294967296 * r0 by omega) (show 0 ≤ b1 by omega)
  refine fun _ _ => ⟨by omega, by omega, fun _ => ⟨by omega, fun _ => ⟨by omega, by omega, fun _ _ => ⟨by omega, by omega, by omega, fun _ _ => ⟨by omega, by omega, by omega, fun _ _ => ⟨by omega, ?_⟩⟩⟩⟩⟩⟩
  generalize (r1 + 4294967296 * r0) / b1 = g0 at *
  generalize (r1 + 4294967296 * r0) % b1 = l0 at *
  refine cut_intro (fun st => ∃ g, 0 ≤ g ∧ g < 4294967296 ∧ g * V < X + V ∧ X < (g + 1) * V ∧ st = ⟨[(0, .own 1000 ps.length (n + 1) false), (1, uL fr low), (5, .int .i64 n), (7, .int .u64 g)], rowP ps rs qs⟩) ?_ ?_
  · simp only [W1, W2, W3, popTo, memb, res, wres, env0, byteAt, optI, cutB, cutL, sliceR, strR, ldCells, ldR, iaR, faR, lenR, lenSR, ixR, exR, nchkR, mxR, csR, up, ZV.av, ZV.fit, zfits, fits, fitsL, cellsOf, down, downL, downLL, stR, mkR, bsR, boxR, alR, apR, cpR, srcQ, solid, killC, killV, killE, killO, killH, hget, hset, hdel, pubV, pubC, pubO, renV, renC, renO, reduceIte, reduceCtorEq, Nat.reduceEqDiff, Nat.reduceLT, Nat.reduceAdd, Int.reduceToNat, Nat.reduceLeDiff, Int.reducePow, Int.reduceLE, Int.reduceLT]
    refine loop_intro (fun m st => ∃ g l, 0 ≤ g ∧ g < 18446744073709551616 ∧ 0 ≤ l ∧ l < 4294967296 ∧ m = g.toNat ∧ g * b1 + l = r1 + 4294967296 * r0 ∧ X < (g + 1) * V ∧
      st = ⟨[(0, .own 1000 ps.length (n + 1) false), (1, uL fr low), (5, .int .i64 n), (7, .int .u64 g), (8, .int .u64 l)], rowP ps rs qs⟩) g0.toNat
      [(0, .own 1000 ps.length (n + 1) false), (1, uL fr low), (5, .int .i64 n), (7, .int .u64 g0), (8, .int .u64 l0)] (by simp [eget, uL]) ⟨g0, l0, hd4, by have : 1 * g0 ≤ b1 * g0 := Int.mul_le_mul_of_nonneg_right (by omega) hd4; omega, hd3, by omega, rfl, by rw [Int.mul_comm]; omega, gF, rfl⟩ ?_
    rintro m st ⟨g, l, g1, g2, l1, l2, rfl, hgl, hgX, rfl⟩
    simp only [uL, rowP, W1, W2, W3, popTo, memb, res, wres, env0, byteAt, optI, cutB, cutL, sliceR, strR, ldCells, ldR, iaR, faR, lenR, lenSR, ixR, exR, nchkR, mxR, csR, up, ZV.av, ZV.fit, zfits, fits, fitsL, cellsOf, down, downL, downLL, stR, mkR, bsR, boxR, alR, apR, cpR, srcQ, solid, killC, killV, killE, killO, killH, hget, hset, hdel, pubV, pubC, pubO, renV, renC, renO, reduceIte, reduceCtorEq, Nat.reduceEqDiff, Nat.reduceLT, Nat.reduceAdd, Int.reduceToNat, Nat.reduceLeDiff, Int.reducePow, Int.reduceLE, Int.reduceLT]
    simp only [hl, T1, T2, G0, G1, G2, hb1, hb2, Option.some.injEq, forall_eq', hlen, hh]
    have X0 : 0 ≤ X := by rw [← hXX]; exact (val_bound lr).1
    have hV0 : 0 < V := by
      have := pow_pos' (n - 1)
      omega
    have el : l * 4294967296 % 18446744073709551616 = l * 4294967296 := by omega
    have eo := or_add l r2 l1 R2.1 R2.2
    have es : (l + b1) % 18446744073709551616 = l + b1 := by omega
    rw [el, eo, es]
    refine fun _ => ⟨fun h5 => ⟨by omega, by omega, ?_⟩, fun h5 => ⟨by omega, by omega, fun _ => ⟨by omega, fun _ => ⟨by omega, by omega, fun _ _ => ⟨by omega, fun h6 => ⟨by omega, by omega, ?_⟩, fun h6 => ?_⟩⟩⟩⟩⟩
    rotate_right
    · have gb := mul_bound (x := g) (y := b2) ⟨g1, by omega⟩ B2
      rw [show g * b2 % 18446744073709551616 = g * b2 by omega] at h6
      refine join_intro [(0, .own 1000 ps.length (n + 1) false), (1, uL fr low), (5, .int .i64 n), (7, .int .u64 g)] (by simp [eget, uL]) ⟨g, g1, by omega, ?_, hgX, rfl⟩
      refine guess_near hP ⟨g1, by omega⟩ (by omega) B2.1 hVl hVe hXe hXl.1 ?_
      rw [Int.mul_add, Int.mul_left_comm]; omega
    all_goals
      have hless : X < g * V := by
        first
          | exact guess_less hP g1 hVl.1 hVe hXe hXl.2 hgl (by
              have gb := mul_bound (x := g) (y := b2) ⟨g1, by omega⟩ B2
              omega)
          | (have : 4294967296 * V ≤ g * V := Int.mul_le_mul_of_nonneg_right (by omega) (by omega)
             omega)
      have gp : 0 < g := by
        refine Int.lt_of_not_ge fun h => ?_
        rw [show g = 0 by omega] at hless
        omega
      have e5 : (g - 1) * b1 = g * b1 - b1 := by rw [Int.sub_mul, Int.one_mul]
      rw [show (g - 1) % 18446744073709551616 = g - 1 by omega]
      refine fun _ _ => ⟨fun h7 => ?_, fun h7 => ?_⟩
      · have gB : g - 1 < 4294967296 := by
          refine Int.lt_of_not_ge fun h => ?_
          have : 4294967296 * b1 ≤ (g - 1) * b1 := Int.mul_le_mul_of_nonneg_right h (by omega)
          omega
        have gb := mul_bound (x := g - 1) (y := b2) ⟨by omega, gB⟩ B2
        refine join_intro [(0, .own 1000 ps.length (n + 1) false), (1, uL fr low), (5, .int .i64 n), (7, .int .u64 (g - 1))] (by simp [eget, uL]) ⟨g - 1, by omega, gB, ?_, by rw [Int.sub_add_cancel]; exact hless, rfl⟩
        refine guess_near hP ⟨by omega, gB⟩ (by omega) B2.1 hVl hVe hXe hXl.1 ?_
        rw [Int.mul_add, Int.mul_left_comm]; omega
      · exact back_intro [(0, .own 1000 ps.length (n + 1) false), (1, uL fr low), (5, .int .i64 n), (7, .int .u64 (g - 1)), (8, .int .u64 (l + b1))] (by simp [eget, uL]) (by omega)
          ⟨g - 1, l + b1, by omega, by omega, by omega, by omega, rfl, by omega, by rw [Int.sub_add_cancel]; exact hless, rfl⟩
  rintro st ⟨g, g1, g2, hgV, hgX, rfl⟩
  simp only [uL, rowP, W1, W2, W3, popTo, memb, res, wres, env0, byteAt, optI, cutB, cutL, sliceR, strR, ldCells, ldR, iaR, faR, lenR, lenSR, ixR, exR, nchkR, mxR, csR, up, ZV.av, ZV.fit, zfits, fits, fitsL, cellsOf, down, downL, downLL, stR, mkR, bsR, boxR, alR, apR, cpR, srcQ, solid, killC, killV, killE, killO, killH, hget, hset, hdel, pubV, pubC, pubO, renV, renC, renO, reduceIte, reduceCtorEq, Nat.reduceEqDiff, Nat.reduceLT, Nat.reduceAdd, Int.reduceToNat, Nat.reduceLeDiff, Int.reducePow, Int.reduceLE, Int.reduceLT]
  refine cut_intro (fun st => ∃ (ys : List Int) (bor car : Int), ys.length = n + 1 ∧ lim ys ∧ 0 ≤ bor ∧ bor ≤ 1 ∧ 0 ≤ car ∧ car < 4294967296 ∧ val ys = X - g * V + 4294967296 ^ n * (car + bor) ∧
    st = ⟨[(0, .own 1000 ps.length (n + 1) false), (1, uL fr low), (5, .int .i64 n), (7, .int .u64 g), (9, .int .u32 bor), (10, .int .u64 car)], rowP ps ys qs⟩) ?_ ?_
  · simp only [W1, W2, W3, popTo, memb, res, wres, env0, byteAt, optI, cutB, cutL, sliceR, strR, ldCells, ldR, iaR, faR, lenR, lenSR, ixR, exR, nchkR, mxR, csR, up, ZV.av, ZV.fit, zfits, fits, fitsL, cellsOf, down, downL, downLL, stR, mkR, bsR, boxR, alR, apR, cpR, srcQ, solid, killC, killV, killE, killO, killH, hget, hset, hdel, pubV, pubC, pubO, renV, renC, renO, reduceIte, reduceCtorEq, Nat.reduceEqDiff, Nat.reduceLT, Nat.reduceAdd, Int.reduceToNat, Nat.reduceLeDiff, Int.reducePow, Int.reduceLE, Int.reduceLT]
    refine loop_intro (fun m st => ∃ (i : Nat) (ys : List Int) (bor car : Int), i ≤ n ∧ m = n - i ∧ ys.length = n + 1 ∧ lim ys ∧ 0 ≤ bor ∧ bor ≤ 1 ∧ 0 ≤ car ∧ car < 4294967296 ∧ val ys = X - g * val (low.take i) + 4294967296 ^ i * (car + bor) ∧
      st = ⟨[(0, .own 1000 ps.length (n + 1) false), (1, uL fr low), (5, .int .i64 n), (7, .int .u64 g), (9, .int .u32 bor), (10, .int .u64 car), (82, .int .i64 n), (83, .int .i64 i)], rowP ps ys qs⟩) n
      [(0, .own 1000 ps.length (n + 1) false), (1, uL fr low), (5, .int .i64 n), (7, .int .u64 g), (9, .int .u32 0), (10, .int .u64 0), (82, .int .i64 n), (83, .int .i64 (0 : Nat))] (by simp [eget, uL]) ⟨0, rs, 0, 0, by omega, by omega, hr, lr, by omega, by omega, by omega, by omega, by simp [val, hXX], rfl⟩ ?_
    rintro m st ⟨i, ys, bor, car, hi, rfl, hyl, ly, bo0, bo1, ca0, ca1, hv, rfl⟩
    simp only [uL, rowP, W1, W2, W3, popTo, memb, res, wres, env0, byteAt, optI, cutB, cutL, sliceR, strR, ldCells, ldR, iaR, faR, lenR, lenSR, ixR, exR, nchkR, mxR, csR, up, ZV.av, ZV.fit, zfits, fits, fitsL, cellsOf, down, downL, downLL, stR, mkR, bsR, boxR, alR, apR, cpR, srcQ, solid, killC, killV, killE, killO, killH, hget, hset, hdel, pubV, pubC, pubO, renV, renC, renO, reduceIte, reduceCtorEq, Nat.reduceEqDiff, Nat.reduceLT, Nat.reduceAdd, Int.reduceToNat, Nat.reduceLeDiff, Int.reducePow, Int.reduceLE, Int.reduceLT]
    have hylen : (ps ++ (ys ++ qs)).length = ps.length + (n + 1) + qs.length := by simp [hyl]; omega
    rw [hylen]
    refine ⟨fun h5 => ⟨by omega, fun x hx _ _ _ => ⟨by omega, by omega, fun y hy => ?_⟩⟩, fun h5 => ?_⟩
    · rw [getP (by omega)] at hy
      have hX' := ll.get hx
      have hY := ly.get hy
      have gb := mul_bound ⟨g1, g2⟩ hX'
      rw [show (g * x % 18446744073709551616 + car) % 18446744073709551616 = g * x + car by omega]
      generalize hw : g * x + car = w at *
      refine call1 (bits_Sub32 y (w % 4294967296) bor bo1) (by repeat (first | exact subs_nil | refine subs_int ?_ | refine subs_ro ?_ | refine subs_bool ?_ | refine subs_str ?_ | refine subs_nilro ?_ | refine subs_lits rfl ?_ | refine subs_all rfl rfl (by simp) ?_ | refine subs_own rfl rfl ?_ | refine subs_fn ?_)) ?_
      simp only [uL, W1, W2, W3, popTo, memb, res, wres, env0, byteAt, optI, cutB, cutL, sliceR, strR, ldCells, ldR, iaR, faR, lenR, lenSR, ixR, exR, nchkR, mxR, csR, up, ZV.av, ZV.fit, zfits, fits, fitsL, cellsOf, down, downL, downLL, stR, mkR, bsR, boxR, alR, apR, cpR, srcQ, solid, killC, killV, killE, killO, killH, hget, hset, hdel, pubV, pubC, pubO, renV, renC, renO, reduceIte, reduceCtorEq, Nat.reduceEqDiff, Nat.reduceLT, Nat.reduceAdd, Int.reduceToNat, Nat.reduceLeDiff, Int.reducePow, Int.reduceLE, Int.reduceLT]
      rw [hylen]
      have hbr : (0 : Int) ≤ (if y < w % 4294967296 + bor then 1 else 0) ∧ (if y < w % 4294967296 + bor then 1 else 0 : Int) ≤ 1 ∧ (y - w % 4294967296 - bor) % 4294967296 - y = 0 - w % 4294967296 - bor + 4294967296 * (if y < w % 4294967296 + bor then 1 else 0) := by split <;> omega
      generalize (if y < w % 4294967296 + bor then 1 else 0 : Int) = b at hbr ⊢
      obtain ⟨b0, b1', hs⟩ := hbr
      refine fun _ => ⟨by omega, by omega, _, rfl, by omega, ?_⟩
      rw [setP (by omega)]
      exact back_intro [(0, .own 1000 ps.length (n + 1) false), (1, uL fr low), (5, .int .i64 n), (7, .int .u64 g), (9, .int .u32 b), (10, .int .u64 (w / 4294967296)), (82, .int .i64 n), (83, .int .i64 ((i + 1 : Nat) : Int))] (by simp [eget, uL]) (by omega)
        ⟨i + 1, _, b, w / 4294967296, by omega, rfl, by simp [hyl], ly.set i (by omega), b0, b1', by omega, by omega, by rw [val_set hy, val_take_succ hx, pow_s]; exact sub_step hv hw.symm hs, rfl⟩
    · obtain rfl : i = n := by omega
      rw [List.take_of_length_le (by omega), hVV] at hv
      exact join_intro [(0, .own 1000 ps.length (i + 1) false), (1, uL fr low), (5, .int .i64 i), (7, .int .u64 g), (9, .int .u32 bor), (10, .int .u64 car)] (by simp [eget, uL]) ⟨ys, bor, car, hyl, ly, bo0, bo1, ca0, ca1, hv, rfl⟩
  rintro st ⟨ys, bor, car, hyl, ly, bo0, bo1, ca0, ca1, hv, rfl⟩
  simp only [uL, rowP, W1, W2, W3, popTo, memb, res, wres, env0, byteAt, optI, cutB, cutL, sliceR, strR, ldCells, ldR, iaR, faR, lenR, lenSR, ixR, exR, nchkR, mxR, csR, up, ZV.av, ZV.fit, zfits, fits, fitsL, cellsOf, down, downL, downLL, stR, mkR, bsR, boxR, alR, apR, cpR, srcQ, solid, killC, killV, killE, killO, killH, hget, hset, hdel, pubV, pubC, pubO, renV, renC, renO, reduceIte, reduceCtorEq, Nat.reduceEqDiff, Nat.reduceLT, Nat.reduceAdd, Int.reduceToNat, Nat.reduceLeDiff, Int.reducePow, Int.reduceLE, Int.reduceLT]
  have hylen : (ps ++ (ys ++ qs)).length = ps.length + (n + 1) + qs.length := by simp [hyl]; omega
  rw [hylen]
  refine fun _ => ⟨by omega, by omega, fun y hy => ?_⟩
  rw [getP (by omega)] at hy
  have hY := ly.get hy
  rw [show car % 4294967296 = car by omega]
  refine call1 (bits_Sub32 y car bor bo1) (by repeat (first | exact subs_nil | refine subs_int ?_ | refine subs_ro ?_ | refine subs_bool ?_ | refine subs_str ?_ | refine subs_nilro ?_ | refine subs_lits rfl ?_ | refine subs_all rfl rfl (by simp) ?_ | refine subs_own rfl rfl ?_ | refine subs_fn ?_)) ?_
  simp only [uL, W1, W2, W3, popTo, memb, res, wres, env0, byteAt, optI, cutB, cutL, sliceR, strR, ldCells, ldR, iaR, faR, lenR, lenSR, ixR, exR, nchkR, mxR, csR, up, ZV.av, ZV.fit, zfits, fits, fitsL, cellsOf, down, downL, downLL, stR, mkR, bsR, boxR, alR, apR, cpR, srcQ, solid, killC, killV, killE, killO, killH, hget, hset, hdel, pubV, pubC, pubO, renV, renC, renO, reduceIte, reduceCtorEq, Nat.reduceEqDiff, Nat.reduceLT, Nat.reduceAdd, Int.reduceToNat, Nat.reduceLeDiff, Int.reducePow, Int.reduceLE, Int.reduceLT]
  rw [hylen]
  have hbr : (0 : Int) ≤ (if y < car + bor then 1 else 0) ∧ (if y < car + bor then 1 else 0 : Int) ≤ 1 ∧ (y - car - bor) % 4294967296 - y = 0 - car - bor + 4294967296 * (if y < car + bor then 1 else 0) := by split <;> omega
  generalize (if y < car + bor then 1 else 0 : Int) = b at hbr ⊢
  obtain ⟨b0, b1', hs⟩ := hbr
  have lz := ly.set n (e := (y - car - bor) % 4294967296) (by omega)
  have hz : val (ys.set n ((y - car - bor) % 4294967296)) = X - g * V + 4294967296 ^ (n + 1) * b := by
    rw [val_set hy, hs, hv, pow_s]
    simp only [Int.mul_add, Int.mul_sub, ← Int.mul_assoc, Int.mul_zero]
    omega
  have hzl : (ys.set n ((y - car - bor) % 4294967296)).length = n + 1 := by simp [hyl]
  refine fun _ => ⟨by omega, by omega, _, rfl, ?_⟩
  rw [setP (by omega)]
  generalize ys.set n ((y - car - bor) % 4294967296) = zs at *
  have hzb := val_bound lz
  rw [hzl] at hzb
  have hB1 := pow_s n
  have X0 : 0 ≤ X := by rw [← hXX]; exact (val_bound lr).1
  have egV : (g + 1) * V = g * V + V := by rw [Int.add_mul, Int.one_mul]
  rw [egV] at hgX
  have hV0 : 0 < V := by have := pow_pos' (n - 1); omega
  have hPn := pow_pos' n
  refine ⟨fun hb => ?_, fun hb => ?_⟩
  rotate_left
  · have hb : b = 0 := Classical.not_not.1 hb
    rw [hb, Int.mul_zero, Int.add_zero] at hz
    obtain ⟨q1, q2⟩ := div_unique (V := X) (q := g) (r := val zs) hV0 (by rw [Int.mul_comm V g]; omega) ⟨by omega, by omega⟩
    exact ret_rowP (v := g) (by simp [eget]; omega) ⟨by rw [q1], zs, rfl, hzl, lz, by rw [q2]⟩
  have hb : b = 1 := by omega
  rw [hb, Int.mul_one] at hz
  have gp : 0 < g := by
    refine Int.lt_of_not_ge fun h => ?_
    rw [show g = 0 by omega, Int.zero_mul] at hz
    omega
  rw [show (g - 1) % 18446744073709551616 = g - 1 by omega]
  refine cut_intro (fun st => ∃ (ws : List Int) (car : Int), ws.length = n + 1 ∧ lim ws ∧ 0 ≤ car ∧ car ≤ 1 ∧ val ws = val zs + V - 4294967296 ^ n * car ∧
    st = ⟨[(0, .own 1000 ps.length (n + 1) false), (5, .int .i64 n), (7, .int .u64 (g - 1)), (13, .int .u32 car)], rowP ps ws qs⟩) ?_ ?_
  · simp only [W1, W2, W3, popTo, memb, res, wres, env0, byteAt, optI, cutB, cutL, sliceR, strR, ldCells, ldR, iaR, faR, lenR, lenSR, ixR, exR, nchkR, mxR, csR, up, ZV.av, ZV.fit, zfits, fits, fitsL, cellsOf, down, downL, downLL, stR, mkR, bsR, boxR, alR, apR, cpR, srcQ, solid, killC, killV, killE, killO, killH, hget, hset, hdel, pubV, pubC, pubO, renV, renC, renO, reduceIte, reduceCtorEq, Nat.reduceEqDiff, Nat.reduceLT, Nat.reduceAdd, Int.reduceToNat, Nat.reduceLeDiff, Int.reducePow, Int.reduceLE, Int.reduceLT]
    refine loop_intro (fun m st => ∃ (i : Nat) (ws : List Int) (car : Int), i ≤ n ∧ m = n - i ∧ ws.length = n + 1 ∧ lim ws ∧ 0 ≤ car ∧ car ≤ 1 ∧ val ws = val zs + val (low.take i) - 4294967296 ^ i * car ∧
      st = ⟨[(0, .own 1000 ps.length (n + 1) false), (1, uL fr low), (5, .int .i64 n), (7, .int .u64 (g - 1)), (13, .int .u32 car), (130, .int .i64 n), (131, .int .i64 i)], rowP ps ws qs⟩) n
      [(0, .own 1000 ps.length (n + 1) false), (1, uL fr low), (5, .int .i64 n), (7, .int .u64 (g - 1)), (13, .int .u32 0), (130, .int .i64 n), (131, .int .i64 (0 : Nat))] (by simp [eget, uL]) ⟨0, zs, 0, by omega, by omega, hzl, lz, by omega, by omega, by simp [val], rfl⟩ ?_
    rintro m st ⟨i, ws, car, hi, rfl, hwl, lw, ca0, ca1, hv4, rfl⟩
    simp only [uL, rowP, W1, W2, W3, popTo, memb, res, wres, env0, byteAt, optI, cutB, cutL, sliceR, strR, ldCells, ldR, iaR, faR, lenR, lenSR, ixR, exR, nchkR, mxR, csR, up, ZV.av, ZV.fit, zfits, fits, fitsL, cellsOf, down, downL, downLL, stR, mkR, bsR, boxR, alR, apR, cpR, srcQ, solid, killC, killV, killE, killO, killH, hget, hset, hdel, pubV, pubC, pubO, renV, renC, renO, reduceIte, reduceCtorEq, Nat.reduceEqDiff, Nat.reduceLT, Nat.reduceAdd, Int.reduceToNat, Nat.reduceLeDiff, Int.reducePow, Int.reduceLE, Int.reduceLT]
    have hwlen : (ps ++ (ws ++ qs)).length = ps.length + (n + 1) + qs.length := by simp [hwl]; omega
    rw [hwlen]
    refine ⟨fun h5 => ?_, fun h5 => ?_⟩
    rotate_left
    · obtain rfl : i = n := by omega
      rw [List.take_of_length_le (by omega), hVV] at hv4
      exact join_intro [(0, .own 1000 ps.length (i + 1) false), (5, .int .i64 i), (7, .int .u64 (g - 1)), (13, .int .u32 car)] (by simp [eget, uL]) ⟨ws, car, hwl, lw, ca0, ca1, hv4, rfl⟩
    obtain ⟨y', hy'⟩ : ∃ y, ws[i]? = some y := ⟨_, List.getElem?_eq_getElem (by omega)⟩
    obtain ⟨x, hx⟩ : ∃ y, low[i]? = some y := ⟨_, List.getElem?_eq_getElem (by omega)⟩
    have hY' := lw.get hy'
    have hX' := ll.get hx
    have hyp := (getP (ps := ps) (qs := qs) (rs := ws) (i := i) (by omega)).trans hy'
    have hstep : val (ws.set i ((y' + x + car) % 4294967296)) = val zs + val (low.take (i + 1)) - 4294967296 ^ (i + 1) * ((y' + x + car) / 4294967296) := by
      rw [val_set hy', val_take_succ hx, hv4, pow_s]
      exact back_step
    simp only [hyp, hx, hl, Option.some.injEq, forall_eq']
    have hse := setP (ps := ps) (qs := qs) (rs := ws) (i := i) (e := (y' + x + car) % 4294967296) (by omega)
    repeat' (first | with_reducible refine And.intro ?_ ?_ | omega | intro _)
    all_goals
      refine call1 (bits_Add32 y' x car) (by repeat (first | exact subs_nil | refine subs_int ?_ | refine subs_ro ?_ | refine subs_bool ?_ | refine subs_str ?_ | refine subs_nilro ?_ | refine subs_lits rfl ?_ | refine subs_all rfl rfl (by simp) ?_ | refine subs_own rfl rfl ?_ | refine subs_fn ?_)) ?_
      simp only [uL, W1, W2, W3, popTo, memb, res, wres, env0, byteAt, optI, cutB, cutL, sliceR, strR, ldCells, ldR, iaR, faR, lenR, lenSR, ixR, exR, nchkR, mxR, csR, up, ZV.av, ZV.fit, zfits, fits, fitsL, cellsOf, down, downL, downLL, stR, mkR, bsR, boxR, alR, apR, cpR, srcQ, solid, killC, killV, killE, killO, killH, hget, hset, hdel, pubV, pubC, pubO, renV, renC, renO, reduceIte, reduceCtorEq, Nat.reduceEqDiff, Nat.reduceLT, Nat.reduceAdd, Int.reduceToNat, Nat.reduceLeDiff, Int.reducePow, Int.reduceLE, Int.reduceLT]
      simp only [hwlen, exists_eq_left, hse]
      repeat' (first | with_reducible refine And.intro ?_ ?_ | omega | intro _)
      all_goals
       exact back_intro [(0, .own 1000 ps.length (n + 1) false), (1, uL fr low), (5, .int .i64 n), (7, .int .u64 (g - 1)), (13, .int .u32 ((y' + x + car) / 4294967296)), (130, .int .i64 n), (131, .int .i64 ((i + 1 : Nat) : Int))] (by simp [eget, uL]) (by omega)
        ⟨i + 1, _, _, by omega, rfl, by simp [hwl], lw.set i (by omega), by omega, by omega, hstep, rfl⟩
  rintro st ⟨ws, car, hwl, lw, ca0, ca1, hw, rfl⟩
  simp only [uL, rowP, W1, W2, W3, popTo, memb, res, wres, env0, byteAt, optI, cutB, cutL, sliceR, strR, ldCells, ldR, iaR, faR, lenR, lenSR, ixR, exR, nchkR, mxR, csR, up, ZV.av, ZV.fit, zfits, fits, fitsL, cellsOf, down, downL, downLL, stR, mkR, bsR, boxR, alR, apR, cpR, srcQ, solid, killC, killV, killE, killO, killH, hget, hset, hdel, pubV, pubC, pubO, renV, renC, renO, reduceIte, reduceCtorEq, Nat.reduceEqDiff, Nat.reduceLT, Nat.reduceAdd, Int.reduceToNat, Nat.reduceLeDiff, Int.reducePow, Int.reduceLE, Int.reduceLT]
  have hwlen : (ps ++ (ws ++ qs)).length = ps.length + (n + 1) + qs.length := by simp [hwl]; omega
  rw [hwlen]
  obtain ⟨y', hy'⟩ : ∃ y, ws[n]? = some y := ⟨_, List.getElem?_eq_getElem (by omega)⟩
  have hY' := lw.get hy'
  have hyp := (getP (ps := ps) (qs := qs) (rs := ws) (i := n) (by omega)).trans hy'
  simp only [hyp, Option.some.injEq, forall_eq']
  refine fun _ => ⟨by omega, by omega, fun _ => ⟨by omega, by omega, _, rfl, ?_⟩⟩
  rw [setP (by omega)]
  have lu := lw.set n (e := (y' + car) % 4294967296) (by omega)
  have hub := val_bound lu
  have hul : (ws.set n ((y' + car) % 4294967296)).length = n + 1 := by simp [hwl]
  rw [hul] at hub
  have hu := val_set hy' ((y' + car) % 4294967296)
  generalize ws.set n ((y' + car) % 4294967296) = us at *
  have hk : (y' + car) % 4294967296 - y' = car ∨ (y' + car) % 4294967296 - y' = car - 4294967296 := by omega
  have hu2 : val us = X - g * V + V := by
    rw [hw] at hu
    rcases hk with hk | hk <;> rw [hk] at hu
    · omega
    · rw [Int.mul_sub] at hu
      omega
  obtain ⟨q1, q2⟩ := div_unique (V := X) (q := g - 1) (r := val us) hV0 (by rw [Int.mul_sub, Int.mul_comm V g]; omega) ⟨by omega, by omega⟩
  exact ret_rowP (v := g - 1) (by simp [eget]; omega) ⟨by rw [q1], us, rfl, hul, lu, by rw [q2]⟩

end Go.Vc
