/-
  Shl and Shr: the program's and the document's.
-/
import Derived.Test.YtdlddbclcmecjaaNat12
import Derived.Test.YtdlddbclcmecjaaNat11
set_option linter.unusedVariables false
set_option linter.unusedSimpArgs false
namespace Go.Vc
open Go
open Go.Proofs

/- natural.moved: arguments 2, results in [4]; slots in use where its loops begin: [] -/
def c123 : MC := .seq (.ops [ .op (some 4) none (.p (.mv (.i .i64 (0)))), .gh (.drop [4])]) (.seq (.block 0 (.seq (.ops [ .op (some 6) none (.p (.mv (.t 0))), .op (some 7) none (.call 79 [(.t 6)]), .op (some 8) none (.p (.un .not (.t 7))), .op (some 5) none (.p (.mv (.t 8))), .gh (.drop [0, 6, 7, 8])]) (.cond (.t 5) (.seq (.ops [ .op (some 4) none (.p (.mv (.i .i64 (20))))]) (.ret)) (.seq (.ops [ .op (some 10) none (.p (.mv (.t 1))), .op (some 11) none (.p (.bin .lss (.t 10) (.i .i64 (0)))), .op (some 12) none (.p (.mv (.t 11))), .op (some 13) (some (12, false)) (.p (.mv (.t 1))), .op (some 14) (some (12, false)) (.p (.bin .gtr (.t 13) (.i .i64 (65536)))), .op (some 15) none (.pick (.t 12) (.b true) (.t 14)), .op (some 9) none (.p (.mv (.t 15))), .gh (.drop [1, 10, 11, 12, 13, 14, 15])]) (.cond (.t 9) (.seq (.ops [ .op (some 4) none (.p (.mv (.i .i64 (1))))]) (.ret)) (.skip)))))) (.seq (.ops [ .op (some 4) none (.p (.mv (.i .i64 (0))))]) (.ret)))
theorem k123 : chkF Try.prog 123 2 [4] c123 = true := by kernel_rfl

/- natural.shl: arguments 2, results in [4]; slots in use where its loops begin: [[5, 6, 7, 25, 26, 27]] -/
def c124 : MC := .seq (.ops [ .op (some 4) none (.p (.mv .nil)), .gh (.drop [4])]) (.seq (.seq (.ops [ .op (some 11) none (.p (.mv (.t 0))), .op (some 12) none (.p (.len (.t 11))), .op (some 13) none (.p (.bin .eql (.t 12) (.i .i64 (0)))), .gh (.drop [11, 12])]) (.cond (.t 13) (.seq (.ops [ .op (some 4) none (.p (.mv .nil))]) (.ret)) (.skip))) (.seq (.ops [ .op (some 14) none (.p (.mv (.t 1))), .op (some 15) none (.p (.bin .rem (.t 14) (.i .i64 (32)))), .op (some 16) none (.p (.cv .u64 (.t 15))), .op (some 17) none (.p (.mv (.t 1))), .op (some 18) none (.p (.bin .quo (.t 17) (.i .i64 (32)))), .op (some 5) none (.p (.mv (.t 16))), .op (some 6) none (.p (.mv (.t 18))), .gh (.drop [1, 14, 15, 16, 17, 18])]) (.seq (.ops [ .op (some 19) none (.p (.mv (.t 0))), .op (some 20) none (.p (.len (.t 19))), .op (some 21) none (.p (.mv (.t 6))), .op (some 22) none (.p (.bin .add (.t 20) (.t 21))), .op (some 23) none (.p (.bin .add (.t 22) (.i .i64 (1)))), .op (some 24) none (.w (.mk 99 1 4 [.int .u32] (encI .u32) (0 : Int) (.t 23) (.t 23))), .op (some 7) none (.p (.mv (.t 24))), .gh (.drop [19, 20, 21, 22, 23, 24])]) (.seq (.seq (.ops [ .op (some 25) none (.p (.mv (.t 0))), .op (some 26) none (.p (.len (.t 25))), .op (some 27) none (.p (.mv (.i .i64 (0)))), .gh (.drop [0])]) (.cut (.block 0 (.loop (.seq (.ops [ .op (some 28) none (.p (.bin .lss (.t 27) (.t 26)))]) (.seq (.cond (.t 28) (.skip) (.exit 0)) (.seq (.block 1 (.seq (.ops [ .op (some 29) none (.p (.mv (.t 27))), .op (some 30) none (.p (.ia 1 (.t 25) (.t 27))), .op (some 31) none (.p (.ld 1 false (.t 30))), .op (some 8) none (.p (.mv (.t 29))), .op (some 9) none (.p (.mv (.t 31))), .gh (.drop [29, 30, 31])]) (.seq (.ops [ .op (some 32) none (.p (.mv (.t 9))), .op (some 33) none (.p (.cv .u64 (.t 32))), .op (some 34) none (.p (.mv (.t 5))), .op (some 35) none (.p (.bin .shl (.t 33) (.t 34))), .op (some 10) none (.p (.mv (.t 35))), .gh (.drop [9, 32, 33, 34, 35])]) (.seq (.ops [ .op (some 36) none (.p (.mv (.t 7))), .op (some 37) none (.p (.mv (.t 8))), .op (some 38) none (.p (.mv (.t 6))), .op (some 39) none (.p (.bin .add (.t 37) (.t 38))), .op (some 40) none (.p (.ia 1 (.t 36) (.t 39))), .op (some 41) none (.p (.ld 1 false (.t 40))), .op (some 42) none (.p (.mv (.t 10))), .op (some 43) none (.p (.cv .u32 (.t 42))), .op (some 44) none (.p (.bin .or (.t 41) (.t 43))), .op (some 45) none (.p (.ia 1 (.t 36) (.t 39))), .op none none (.w (.st 1 (.t 45) (.t 44))), .gh (.drop [36, 37, 38, 39, 40, 41, 42, 43, 44, 45])]) (.ops [ .op (some 46) none (.p (.mv (.t 7))), .op (some 47) none (.p (.mv (.t 8))), .op (some 48) none (.p (.mv (.t 6))), .op (some 49) none (.p (.bin .add (.t 47) (.t 48))), .op (some 50) none (.p (.bin .add (.t 49) (.i .i64 (1)))), .op (some 51) none (.p (.mv (.t 10))), .op (some 52) none (.p (.bin .shr (.t 51) (.i .u64 (32)))), .op (some 53) none (.p (.cv .u32 (.t 52))), .op (some 54) none (.p (.ia 1 (.t 46) (.t 50))), .op none none (.w (.st 1 (.t 54) (.t 53))), .gh (.drop [8, 10, 46, 47, 48, 49, 50, 51, 52, 53, 54])]))))) (.ops [ .op (some 55) none (.p (.bin .add (.t 27) (.i .i64 (1)))), .op (some 27) none (.p (.mv (.t 55))), .gh (.drop [55])])))))))) (.seq (.ops [ .op (some 56) none (.p (.mv (.t 7))), .op (some 57) none (.call 81 [(.t 56)]), .op (some 4) none (.p (.mv (.t 57))), .gh (.drop [7, 56, 57])]) (.ret))))))
theorem k124 : chkF Try.prog 124 2 [4] c124 = true := by kernel_rfl

/- natural.shr: arguments 2, results in [4]; slots in use where its loops begin: [[0, 5, 6, 7, 25, 26]] -/
def c125 : MC := .seq (.ops [ .op (some 4) none (.p (.mv .nil)), .gh (.drop [4])]) (.seq (.ops [ .op (some 10) none (.p (.mv (.t 1))), .op (some 11) none (.p (.bin .rem (.t 10) (.i .i64 (32)))), .op (some 12) none (.p (.cv .u64 (.t 11))), .op (some 13) none (.p (.mv (.t 1))), .op (some 14) none (.p (.bin .quo (.t 13) (.i .i64 (32)))), .op (some 5) none (.p (.mv (.t 12))), .op (some 6) none (.p (.mv (.t 14))), .gh (.drop [1, 10, 11, 12, 13, 14])]) (.seq (.seq (.ops [ .op (some 15) none (.p (.mv (.t 6))), .op (some 16) none (.p (.mv (.t 0))), .op (some 17) none (.p (.len (.t 16))), .op (some 18) none (.p (.bin .geq (.t 15) (.t 17))), .gh (.drop [15, 16, 17])]) (.cond (.t 18) (.seq (.ops [ .op (some 4) none (.p (.mv .nil))]) (.ret)) (.skip))) (.seq (.ops [ .op (some 19) none (.p (.mv (.t 0))), .op (some 20) none (.p (.len (.t 19))), .op (some 21) none (.p (.mv (.t 6))), .op (some 22) none (.p (.bin .sub (.t 20) (.t 21))), .op (some 23) none (.w (.mk 99 1 4 [.int .u32] (encI .u32) (0 : Int) (.t 22) (.t 22))), .op (some 7) none (.p (.mv (.t 23))), .gh (.drop [19, 20, 21, 22, 23])]) (.seq (.seq (.ops [ .op (some 24) none (.p (.mv (.t 7))), .op (some 25) none (.p (.len (.t 24))), .op (some 26) none (.p (.mv (.i .i64 (0)))), .gh (.drop [24])]) (.cut (.block 0 (.loop (.seq (.ops [ .op (some 27) none (.p (.bin .lss (.t 26) (.t 25)))]) (.seq (.cond (.t 27) (.skip) (.exit 0)) (.seq (.block 1 (.seq (.ops [ .op (some 28) none (.p (.mv (.t 26))), .op (some 8) none (.p (.mv (.t 28))), .gh (.drop [28])]) (.seq (.ops [ .op (some 29) none (.p (.mv (.t 0))), .op (some 30) none (.p (.mv (.t 8))), .op (some 31) none (.p (.mv (.t 6))), .op (some 32) none (.p (.bin .add (.t 30) (.t 31))), .op (some 33) none (.p (.ia 1 (.t 29) (.t 32))), .op (some 34) none (.p (.ld 1 false (.t 33))), .op (some 35) none (.p (.cv .u64 (.t 34))), .op (some 9) none (.p (.mv (.t 35))), .gh (.drop [29, 30, 31, 32, 33, 34, 35])]) (.seq (.seq (.ops [ .op (some 36) none (.p (.mv (.t 8))), .op (some 37) none (.p (.mv (.t 6))), .op (some 38) none (.p (.bin .add (.t 36) (.t 37))), .op (some 39) none (.p (.bin .add (.t 38) (.i .i64 (1)))), .op (some 40) none (.p (.mv (.t 0))), .op (some 41) none (.p (.len (.t 40))), .op (some 42) none (.p (.bin .lss (.t 39) (.t 41))), .gh (.drop [36, 37, 38, 39, 40, 41])]) (.cond (.t 42) (.ops [ .op (some 43) none (.p (.mv (.t 9))), .op (some 44) none (.p (.mv (.t 0))), .op (some 45) none (.p (.mv (.t 8))), .op (some 46) none (.p (.mv (.t 6))), .op (some 47) none (.p (.bin .add (.t 45) (.t 46))), .op (some 48) none (.p (.bin .add (.t 47) (.i .i64 (1)))), .op (some 49) none (.p (.ia 1 (.t 44) (.t 48))), .op (some 50) none (.p (.ld 1 false (.t 49))), .op (some 51) none (.p (.cv .u64 (.t 50))), .op (some 52) none (.p (.bin .shl (.t 51) (.i .u64 (32)))), .op (some 53) none (.p (.bin .or (.t 43) (.t 52))), .op (some 9) none (.p (.mv (.t 53))), .gh (.drop [43, 44, 45, 46, 47, 48, 49, 50, 51, 52, 53])]) (.skip))) (.ops [ .op (some 54) none (.p (.mv (.t 7))), .op (some 55) none (.p (.mv (.t 8))), .op (some 56) none (.p (.mv (.t 9))), .op (some 57) none (.p (.mv (.t 5))), .op (some 58) none (.p (.bin .shr (.t 56) (.t 57))), .op (some 59) none (.p (.cv .u32 (.t 58))), .op (some 60) none (.p (.ia 1 (.t 54) (.t 55))), .op none none (.w (.st 1 (.t 60) (.t 59))), .gh (.drop [8, 9, 54, 55, 56, 57, 58, 59, 60])]))))) (.ops [ .op (some 61) none (.p (.bin .add (.t 26) (.i .i64 (1)))), .op (some 26) none (.p (.mv (.t 61))), .gh (.drop [61])])))))))) (.seq (.ops [ .op (some 62) none (.p (.mv (.t 7))), .op (some 63) none (.call 81 [(.t 62)]), .op (some 4) none (.p (.mv (.t 63))), .gh (.drop [7, 62, 63])]) (.ret))))))
theorem k125 : chkF Try.prog 125 2 [4] c125 = true := by kernel_rfl

/- natural.Shl: arguments 2, results in [4, 5]; slots in use where its loops begin: [] -/
def c70 : MC := .seq (.ops [ .op (some 4) none (.p (.mv .nil)), .op (some 5) none (.p (.mv (.i .i64 (0)))), .gh (.drop [4, 5])]) (.seq (.seq (.ops [ .op (some 7) none (.p (.mv (.t 0))), .op (some 8) none (.p (.mv (.t 1))), .op (some 9) none (.call 123 [(.t 7), (.t 8)]), .op (some 6) none (.p (.mv (.t 9))), .gh (.drop [7, 8, 9])]) (.seq (.ops [ .op (some 10) none (.p (.mv (.t 6))), .op (some 11) none (.p (.bin .neq (.t 10) (.i .i64 (0)))), .gh (.drop [10])]) (.cond (.t 11) (.seq (.ops [ .op (some 12) none (.p (.mv (.t 6))), .op (some 4) none (.p (.mv .nil)), .op (some 5) none (.p (.mv (.t 12))), .gh (.drop [6, 12])]) (.ret)) (.skip)))) (.seq (.ops [ .op (some 13) none (.p (.mv (.t 0))), .op (some 14) none (.p (.mv (.t 1))), .op (some 15) none (.call 124 [(.t 13), (.t 14)]), .op (some 16) none (.call 103 [(.t 15)]), .op (some 17) none (.p (.ex (.t 16) 0)), .op (some 18) none (.p (.ex (.t 16) 1)), .op (some 4) none (.p (.mv (.t 17))), .op (some 5) none (.p (.mv (.t 18))), .gh (.drop [0, 1, 13, 14, 15, 16, 17, 18])]) (.ret)))
theorem k70 : chkF Try.prog 70 2 [4, 5] c70 = true := by kernel_rfl

/- natural.Shr: arguments 2, results in [4, 5]; slots in use where its loops begin: [] -/
def c72 : MC := .seq (.ops [ .op (some 4) none (.p (.mv .nil)), .op (some 5) none (.p (.mv (.i .i64 (0)))), .gh (.drop [4, 5])]) (.seq (.seq (.ops [ .op (some 7) none (.p (.mv (.t 0))), .op (some 8) none (.p (.mv (.t 1))), .op (some 9) none (.call 123 [(.t 7), (.t 8)]), .op (some 6) none (.p (.mv (.t 9))), .gh (.drop [7, 8, 9])]) (.seq (.ops [ .op (some 10) none (.p (.mv (.t 6))), .op (some 11) none (.p (.bin .neq (.t 10) (.i .i64 (0)))), .gh (.drop [10])]) (.cond (.t 11) (.seq (.ops [ .op (some 12) none (.p (.mv (.t 6))), .op (some 4) none (.p (.mv .nil)), .op (some 5) none (.p (.mv (.t 12))), .gh (.drop [6, 12])]) (.ret)) (.skip)))) (.seq (.ops [ .op (some 13) none (.p (.mv (.t 0))), .op (some 14) none (.p (.mv (.t 1))), .op (some 15) none (.call 125 [(.t 13), (.t 14)]), .op (some 4) none (.p (.mv (.t 15))), .op (some 5) none (.p (.mv (.i .i64 (0)))), .gh (.drop [0, 1, 13, 14, 15])]) (.ret)))
theorem k72 : chkF Try.prog 72 2 [4, 5] c72 = true := by kernel_rfl

/- sloperef1.Shl: arguments 2, results in [4, 5]; slots in use where its loops begin: [[0, 1, 6, 7]] -/
def c71 : MC := .seq (.ops [ .op (some 4) none (.p (.mv .nil)), .op (some 5) none (.p (.mv (.i .i64 (0)))), .gh (.drop [4, 5])]) (.seq (.seq (.ops [ .op (some 9) none (.p (.mv (.t 0))), .op (some 10) none (.call 85 [(.t 9)]), .op (some 11) none (.p (.un .not (.t 10))), .gh (.drop [9, 10])]) (.cond (.t 11) (.seq (.ops [ .op (some 4) none (.p (.mv .nil)), .op (some 5) none (.p (.mv (.i .i64 (20))))]) (.ret)) (.skip))) (.seq (.seq (.ops [ .op (some 12) none (.p (.mv (.t 1))), .op (some 13) none (.p (.bin .lss (.t 12) (.i .i64 (0)))), .op (some 14) none (.p (.mv (.t 13))), .op (some 15) (some (14, false)) (.p (.mv (.t 1))), .op (some 16) (some (14, false)) (.p (.bin .gtr (.t 15) (.i .i64 (65536)))), .op (some 17) none (.pick (.t 14) (.b true) (.t 16)), .gh (.drop [12, 13, 14, 15, 16])]) (.cond (.t 17) (.seq (.ops [ .op (some 4) none (.p (.mv .nil)), .op (some 5) none (.p (.mv (.i .i64 (1))))]) (.ret)) (.skip))) (.seq (.ops [ .op (some 18) none (.p (.mv (.t 0))), .op (some 19) none (.p (.len (.t 18))), .op (some 20) none (.p (.mv (.t 1))), .op (some 21) none (.p (.bin .quo (.t 20) (.i .i64 (32)))), .op (some 22) none (.p (.bin .add (.t 19) (.t 21))), .op (some 23) none (.p (.bin .add (.t 22) (.i .i64 (1)))), .op (some 24) none (.w (.mk 99 1 4 [.int .u32] (encI .u32) (0 : Int) (.t 23) (.t 23))), .op (some 6) none (.p (.mv (.t 24))), .gh (.drop [18, 19, 20, 21, 22, 23, 24])]) (.seq (.seq (.ops [ .op (some 7) none (.p (.mv (.i .i64 (0))))]) (.cut (.block 0 (.loop (.seq (.seq (.ops [ .op (some 25) none (.p (.mv (.t 7))), .op (some 26) none (.p (.mv (.t 0))), .op (some 27) none (.p (.len (.t 26))), .op (some 28) none (.p (.bin .lss (.t 25) (.t 27))), .gh (.drop [25, 26, 27])]) (.cond (.t 28) (.skip) (.exit 0))) (.seq (.block 1 (.seq (.ops [ .op (some 31) none (.p (.mv (.t 0))), .op (some 32) none (.p (.mv (.t 7))), .op (some 33) none (.p (.ia 1 (.t 31) (.t 32))), .op (some 34) none (.p (.ld 1 false (.t 33))), .op (some 35) none (.p (.cv .u64 (.t 34))), .op (some 36) none (.p (.mv (.t 1))), .op (some 37) none (.p (.bin .rem (.t 36) (.i .i64 (32)))), .op (some 38) none (.p (.cv .u64 (.t 37))), .op (some 39) none (.p (.bin .shl (.t 35) (.t 38))), .op (some 8) none (.p (.mv (.t 39))), .gh (.drop [31, 32, 33, 34, 35, 36, 37, 38, 39])]) (.seq (.ops [ .op (some 40) none (.p (.mv (.t 6))), .op (some 41) none (.p (.mv (.t 7))), .op (some 42) none (.p (.mv (.t 1))), .op (some 43) none (.p (.bin .quo (.t 42) (.i .i64 (32)))), .op (some 44) none (.p (.bin .add (.t 41) (.t 43))), .op (some 45) none (.p (.mv (.t 6))), .op (some 46) none (.p (.mv (.t 7))), .op (some 47) none (.p (.mv (.t 1))), .op (some 48) none (.p (.bin .quo (.t 47) (.i .i64 (32)))), .op (some 49) none (.p (.bin .add (.t 46) (.t 48))), .op (some 50) none (.p (.ia 1 (.t 45) (.t 49))), .op (some 51) none (.p (.ld 1 false (.t 50))), .op (some 52) none (.p (.mv (.t 8))), .op (some 53) none (.p (.cv .u32 (.t 52))), .op (some 54) none (.p (.bin .or (.t 51) (.t 53))), .op (some 55) none (.p (.ia 1 (.t 40) (.t 44))), .op none none (.w (.st 1 (.t 55) (.t 54))), .gh (.drop [40, 41, 42, 43, 44, 45, 46, 47, 48, 49, 50, 51, 52, 53, 54, 55])]) (.ops [ .op (some 56) none (.p (.mv (.t 6))), .op (some 57) none (.p (.mv (.t 7))), .op (some 58) none (.p (.mv (.t 1))), .op (some 59) none (.p (.bin .quo (.t 58) (.i .i64 (32)))), .op (some 60) none (.p (.bin .add (.t 57) (.t 59))), .op (some 61) none (.p (.bin .add (.t 60) (.i .i64 (1)))), .op (some 62) none (.p (.mv (.t 8))), .op (some 63) none (.p (.bin .shr (.t 62) (.i .u64 (32)))), .op (some 64) none (.p (.cv .u32 (.t 63))), .op (some 65) none (.p (.ia 1 (.t 56) (.t 61))), .op none none (.w (.st 1 (.t 65) (.t 64))), .gh (.drop [8, 56, 57, 58, 59, 60, 61, 62, 63, 64, 65])])))) (.ops [ .op (some 29) none (.p (.mv (.t 7))), .op (some 30) none (.p (.bin .add (.t 29) (.i .i64 (1)))), .op (some 7) none (.p (.mv (.t 30))), .gh (.drop [29, 30])]))))))) (.seq (.ops [ .op (some 66) none (.p (.mv (.t 6))), .op (some 67) none (.call 86 [(.t 66)]), .op (some 68) none (.p (.ex (.t 67) 0)), .op (some 69) none (.p (.ex (.t 67) 1)), .op (some 4) none (.p (.mv (.t 68))), .op (some 5) none (.p (.mv (.t 69))), .gh (.drop [6, 66, 67, 68, 69])]) (.ret))))))
theorem k71 : chkF Try.prog 71 2 [4, 5] c71 = true := by kernel_rfl

/- sloperef1.Shr: arguments 2, results in [4, 5]; slots in use where its loops begin: [[0, 1, 6, 7]] -/
def c73 : MC := .seq (.ops [ .op (some 4) none (.p (.mv .nil)), .op (some 5) none (.p (.mv (.i .i64 (0)))), .gh (.drop [4, 5])]) (.seq (.seq (.ops [ .op (some 9) none (.p (.mv (.t 0))), .op (some 10) none (.call 85 [(.t 9)]), .op (some 11) none (.p (.un .not (.t 10))), .gh (.drop [9, 10])]) (.cond (.t 11) (.seq (.ops [ .op (some 4) none (.p (.mv .nil)), .op (some 5) none (.p (.mv (.i .i64 (20))))]) (.ret)) (.skip))) (.seq (.seq (.ops [ .op (some 12) none (.p (.mv (.t 1))), .op (some 13) none (.p (.bin .lss (.t 12) (.i .i64 (0)))), .op (some 14) none (.p (.mv (.t 13))), .op (some 15) (some (14, false)) (.p (.mv (.t 1))), .op (some 16) (some (14, false)) (.p (.bin .gtr (.t 15) (.i .i64 (65536)))), .op (some 17) none (.pick (.t 14) (.b true) (.t 16)), .gh (.drop [12, 13, 14, 15, 16])]) (.cond (.t 17) (.seq (.ops [ .op (some 4) none (.p (.mv .nil)), .op (some 5) none (.p (.mv (.i .i64 (1))))]) (.ret)) (.skip))) (.seq (.ops [ .op (some 6) none (.p (.mv .nil))]) (.seq (.seq (.ops [ .op (some 18) none (.p (.mv (.t 1))), .op (some 19) none (.p (.bin .quo (.t 18) (.i .i64 (32)))), .op (some 7) none (.p (.mv (.t 19))), .gh (.drop [18, 19])]) (.cut (.block 0 (.loop (.seq (.seq (.ops [ .op (some 20) none (.p (.mv (.t 7))), .op (some 21) none (.p (.mv (.t 0))), .op (some 22) none (.p (.len (.t 21))), .op (some 23) none (.p (.bin .lss (.t 20) (.t 22))), .gh (.drop [20, 21, 22])]) (.cond (.t 23) (.skip) (.exit 0))) (.seq (.block 1 (.seq (.ops [ .op (some 26) none (.p (.mv (.t 0))), .op (some 27) none (.p (.mv (.t 7))), .op (some 28) none (.call 111 [(.t 26), (.t 27)]), .op (some 29) none (.p (.mv (.t 0))), .op (some 30) none (.p (.mv (.t 7))), .op (some 31) none (.p (.bin .add (.t 30) (.i .i64 (1)))), .op (some 32) none (.call 111 [(.t 29), (.t 31)]), .op (some 33) none (.p (.bin .shl (.t 32) (.i .u64 (32)))), .op (some 34) none (.p (.bin .or (.t 28) (.t 33))), .op (some 8) none (.p (.mv (.t 34))), .gh (.drop [26, 27, 28, 29, 30, 31, 32, 33, 34])]) (.ops [ .op (some 35) none (.p (.mv (.t 6))), .op (some 36) none (.p (.mv (.t 8))), .op (some 37) none (.p (.mv (.t 1))), .op (some 38) none (.p (.bin .rem (.t 37) (.i .i64 (32)))), .op (some 39) none (.p (.cv .u64 (.t 38))), .op (some 40) none (.p (.bin .shr (.t 36) (.t 39))), .op (some 41) none (.p (.cv .u32 (.t 40))), .op (some 42) none (.w (.bs 99 1 [(.t 41)])), .op (some 43) none (.w (.ap 99 1 4 (encI .u32) (.t 35) (.t 42))), .op (some 6) none (.p (.mv (.t 43))), .gh (.drop [8, 35, 36, 37, 38, 39, 40, 41, 42, 43])]))) (.ops [ .op (some 24) none (.p (.mv (.t 7))), .op (some 25) none (.p (.bin .add (.t 24) (.i .i64 (1)))), .op (some 7) none (.p (.mv (.t 25))), .gh (.drop [24, 25])]))))))) (.seq (.ops [ .op (some 44) none (.p (.mv (.t 6))), .op (some 45) none (.call 86 [(.t 44)]), .op (some 46) none (.p (.ex (.t 45) 0)), .op (some 47) none (.p (.ex (.t 45) 1)), .op (some 4) none (.p (.mv (.t 46))), .op (some 5) none (.p (.mv (.t 47))), .gh (.drop [6, 44, 45, 46, 47])]) (.ret))))))
theorem k73 : chkF Try.prog 73 2 [4, 5] c73 = true := by kernel_rfl



/-! ### plain -/
theorem pq_split {s : Nat} (hs : s < 32) : (2 : Int) ^ s * 2 ^ (32 - s) = 4294967296 ∧ (0 : Int) < 2 ^ s ∧ (0 : Int) < 2 ^ (32 - s) := by
  refine ⟨?_, Int.pow_pos (by omega), Int.pow_pos (by omega)⟩
  rw [← Int.pow_add, show s + (32 - s) = 32 by omega]; rfl

theorem shl_step {p q w c : Int} (hpq : p * q = 4294967296) (hp : 0 < p) (hq : 0 < q) (hw : 0 ≤ w ∧ w < 4294967296) (hc : 0 ≤ c ∧ c < p) :
    (w * p) % 4294967296 = (w % q) * p ∧ (w * p) / 4294967296 = w / q ∧ 0 ≤ w / q ∧ w / q < p ∧ 0 ≤ (w % q) * p ∧ c + (w % q) * p < 4294967296 ∧ 0 ≤ w * p ∧ w * p < 18446744073709551616 := by
  have h1 : 0 ≤ w % q := Int.emod_nonneg _ (by omega)
  have h2 : w % q < q := Int.emod_lt_of_pos _ hq
  have h3 := Int.mul_ediv_add_emod w q
  have hp1 : p ≤ 4294967296 := by
    have : p * 1 ≤ p * q := Int.mul_le_mul_of_nonneg_left (by omega) (by omega)
    omega
  have hdiv : w / q < p := Int.ediv_lt_of_lt_mul hq (by rw [Int.mul_comm]; rw [Int.mul_comm] at hpq; rw [hpq] ; exact hw.2)
  have hd0 : 0 ≤ w / q := Int.ediv_nonneg hw.1 (by omega)
  have e : w * p = 4294967296 * (w / q) + (w % q) * p := by
    have : w * p = (q * (w / q) + w % q) * p := by rw [h3]
    rw [this, Int.add_mul, ← hpq, Int.mul_comm q (w / q), Int.mul_assoc (w / q) q p, Int.mul_comm q p, Int.mul_comm (w / q) (p * q)]
  have hm : (w % q) * p ≤ 4294967296 - p := by
    have : (w % q) * p ≤ (q - 1) * p := Int.mul_le_mul_of_nonneg_right (by omega) (by omega)
    rw [Int.sub_mul, Int.mul_comm q p, hpq] at this; omega
  have hm0 : 0 ≤ (w % q) * p := Int.mul_nonneg h1 (by omega)
  have hwp : 0 ≤ w * p := Int.mul_nonneg hw.1 (by omega)
  have hwp2 : w * p ≤ w * 4294967296 := Int.mul_le_mul_of_nonneg_left hp1 hw.1
  refine ⟨?_, ?_, hd0, hdiv, hm0, by omega, hwp, by omega⟩
  · rw [e]; omega
  · rw [e]; omega

theorem or_mul {p : Nat} {c y : Int} (hc : 0 ≤ c ∧ c < 2 ^ p) (hy : 0 ≤ y) : ((c.toNat ||| (y * 2 ^ p).toNat : Nat) : Int) = c + y * 2 ^ p := by
  obtain ⟨c, rfl⟩ := Int.eq_ofNat_of_zero_le hc.1
  obtain ⟨y, rfl⟩ := Int.eq_ofNat_of_zero_le hy
  have h1 : ((y : Int) * 2 ^ p).toNat = y <<< p := by rw [Nat.shiftLeft_eq]; exact_mod_cast Int.toNat_natCast _
  have hlt : c < 2 ^ p := by exact_mod_cast hc.2
  rw [h1, Int.toNat_natCast, Nat.or_comm, ← Nat.shiftLeft_add_eq_or_of_lt hlt y, Nat.shiftLeft_eq]
  push_cast
  omega

theorem two_pow_k (k : Nat) : (4294967296 : Int) ^ (k / 32) * 2 ^ (k % 32) = 2 ^ k := by
  rw [show (4294967296 : Int) = 2 ^ 32 from rfl, ← Int.pow_mul, ← Int.pow_add, Nat.div_add_mod]

theorem shl_val {V P c x y p w q : Int} (h : V + P * c = x * p) (e : w * p = 4294967296 * (w / q) + y) : V + P * (c + y) + P * 4294967296 * (w / q) = (x + P * w) * p := by
  rw [Int.add_mul, Int.mul_assoc P w p, e, ← h]
  simp only [Int.mul_add, ← Int.mul_assoc]
  omega

/-- what stands in the row: zeros, what is done, the limb that is begun, zeros -/
abbrev shlRow (at_ n i : Nat) (vs : List Int) (c : Int) : List Int := List.replicate at_ 0 ++ (vs ++ (c :: List.replicate (n - i) 0))
theorem shlRow_len {at_ n i : Nat} {vs : List Int} {c : Int} (hv : vs.length = i) (hi : i ≤ n) : (shlRow at_ n i vs c).length = n + at_ + 1 := by simp [shlRow, hv]; omega
theorem shlRow_get {at_ n i : Nat} {vs : List Int} {c : Int} (hv : vs.length = i) : (shlRow at_ n i vs c)[i + at_]? = some c := by
  rw [shlRow, List.getElem?_append_right (by simp), List.length_replicate, List.getElem?_append_right (by omega), show i + at_ - at_ - vs.length = 0 by omega]; rfl
theorem shlRow_set {at_ n i : Nat} {vs : List Int} {c x y : Int} (hv : vs.length = i) (hi : i < n) : ((shlRow at_ n i vs c).set (i + at_) x).set (i + at_ + 1) y = shlRow at_ n (i + 1) (vs ++ [x]) y := by
  unfold shlRow
  have e1 : (List.replicate at_ (0 : Int) ++ (vs ++ (c :: List.replicate (n - i) 0))).set (i + at_) x = List.replicate at_ 0 ++ (vs ++ (x :: List.replicate (n - i) 0)) := by
    rw [List.set_append_right _ _ (by simp), List.length_replicate, List.set_append_right _ _ (by omega), show i + at_ - at_ - vs.length = 0 by omega, List.set_cons_zero]
  rw [e1, List.set_append_right _ _ (by simp; omega), List.length_replicate, List.set_append_right _ _ (by omega), show i + at_ + 1 - at_ - vs.length = 1 by omega, show n - i = (n - (i + 1)) + 1 by omega, List.replicate_succ]
  simp
theorem shlRow_lim {at_ n i : Nat} {vs : List Int} {c : Int} (lv : lim vs) (hc : 0 ≤ c ∧ c < 4294967296) : lim (shlRow at_ n i vs c) :=
  (lim.rep _).append (lv.append fun x hx => by rcases List.mem_cons.1 hx with rfl | h; exact hc; exact lim.rep _ x h)
theorem shlRow_val {at_ n : Nat} {vs : List Int} {c : Int} (hv : vs.length = n) : val (shlRow at_ n n vs c) = 4294967296 ^ at_ * (val vs + 4294967296 ^ n * c) := by
  rw [shlRow, val_append, val_rep, List.length_replicate, val_append, hv, Nat.sub_self]; simp [val]

theorem natural_shl (fr : Bool) (n : List Int) (k : Nat) (hn : n.length ≤ 1000000) (hk : k ≤ 1000000) : FSpec0 Try.prog 124 [uL fr n, .int .i64 k] (fun r => r = uL true (limbs (val n * 2 ^ k))) := by
  refine FSpec0.of_facts fun hf => fspec0_of_run k124 ?_
  have ln : lim n := lim_of_factL hf.1
  simp only [uL, c124, W1, W2, W3, popTo, memb, res, wres, env0, byteAt, optI, cutB, cutL, sliceR, strR, ldCells, ldR, iaR, faR, lenR, lenSR, ixR, exR, nchkR, mxR, csR, up, ZV.av, ZV.fit, zfits, fits, fitsL, cellsOf, down, downL, downLL, stR, mkR, bsR, boxR, alR, apR, cpR, srcQ, solid, killC, killV, killE, killO, killH, hget, hset, hdel, pubV, pubC, pubO, renV, renC, renO, reduceIte, reduceCtorEq, Nat.reduceEqDiff, Nat.reduceLT, Nat.reduceAdd, Int.reduceToNat, Nat.reduceLeDiff, Int.reducePow, Int.reduceLE, Int.reduceLT]
  intro _
  refine ⟨fun h0 => ?_, fun h0 _ => ⟨by omega, fun _ => ⟨by omega, fun _ => ⟨by omega, by omega, by omega, fun _ => ?_⟩⟩⟩⟩
  · have : n = [] := List.eq_nil_of_length_eq_zero (by omega)
    subst this
    exact ret1' (by simp only [uL, val, Int.zero_mul, limbs_zero, retR, retA, retL, ret1, ret1L, eget, hget, hset, St.set, eset, List.map_cons, List.map_nil, reduceIte, reduceCtorEq, Nat.reduceEqDiff, Nat.reduceLT, true_and, and_true, false_or, or_true, true_or, List.drop_zero, List.take_length, scalE_I, scalE_B, scalE_S]; rfl)
  obtain ⟨hpq, hp, hq⟩ := pq_split (s := k % 32) (by omega)
  have hk2 := two_pow_k k
  rw [show (k : Int) % 32 % 18446744073709551616 = ((k % 32 : Nat) : Int) by omega, show (k : Int) / 32 = ((k / 32 : Nat) : Int) by omega, show ((n.length : Int) + ((k / 32 : Nat) : Int) + 1).toNat = n.length + k / 32 + 1 by omega]
  generalize hs : k % 32 = s at *
  generalize ha : k / 32 = at_ at *
  generalize hP : (2 : Int) ^ s = p at *
  generalize (2 : Int) ^ (32 - s) = q at *
  have hat : at_ ≤ 1000000 := by omega
  have hs32 : s < 32 := by omega
  refine cut_intro (fun st => ∃ zs : List Int, zs.length = n.length + at_ + 1 ∧ lim zs ∧ val zs = val n * 2 ^ k ∧ st = ⟨[(7, .own 24 0 (n.length + at_ + 1) true)], [(24, .arr 99 true true 1 (encI .u32) zs)]⟩) ?_ ?_
  · simp only [W1, W2, W3, popTo, memb, res, wres, env0, byteAt, optI, cutB, cutL, sliceR, strR, ldCells, ldR, iaR, faR, lenR, lenSR, ixR, exR, nchkR, mxR, csR, up, ZV.av, ZV.fit, zfits, fits, fitsL, cellsOf, down, downL, downLL, stR, mkR, bsR, boxR, alR, apR, cpR, srcQ, solid, killC, killV, killE, killO, killH, hget, hset, hdel, pubV, pubC, pubO, renV, renC, renO, reduceIte, reduceCtorEq, Nat.reduceEqDiff, Nat.reduceLT, Nat.reduceAdd, Int.reduceToNat, Nat.reduceLeDiff, Int.reducePow, Int.reduceLE, Int.reduceLT]
    refine loop_intro (fun m st => ∃ (i : Nat) (vs : List Int) (c : Int), i ≤ n.length ∧ m = n.length - i ∧ vs.length = i ∧ lim vs ∧ 0 ≤ c ∧ c < p ∧ val vs + 4294967296 ^ i * c = val (n.take i) * p ∧
      st = ⟨[(5, .int .u64 s), (6, .int .i64 at_), (7, .own 24 0 (n.length + at_ + 1) true), (25, uL fr n), (26, .int .i64 n.length), (27, .int .i64 i)], [(24, .arr 99 true true 1 (encI .u32) (shlRow at_ n.length i vs c))]⟩) n.length
      [(5, .int .u64 s), (6, .int .i64 at_), (7, .own 24 0 (n.length + at_ + 1) true), (25, uL fr n), (26, .int .i64 n.length), (27, .int .i64 (0 : Nat))] (by simp [eget, uL])
      ⟨0, [], 0, by omega, by omega, rfl, lim.nil, by omega, hp, by simp [val], by rw [show shlRow at_ n.length 0 [] 0 = List.replicate (n.length + at_ + 1) 0 by rw [shlRow, List.nil_append, Nat.sub_zero, ← List.replicate_succ, List.replicate_append_replicate]; congr 1; omega]⟩ ?_
    rintro m st ⟨i, vs, c, hi, rfl, hvl, lv, c0, c1, hv, rfl⟩
    simp only [uL, W1, W2, W3, popTo, memb, res, wres, env0, byteAt, optI, cutB, cutL, sliceR, strR, ldCells, ldR, iaR, faR, lenR, lenSR, ixR, exR, nchkR, mxR, csR, up, ZV.av, ZV.fit, zfits, fits, fitsL, cellsOf, down, downL, downLL, stR, mkR, bsR, boxR, alR, apR, cpR, srcQ, solid, killC, killV, killE, killO, killH, hget, hset, hdel, pubV, pubC, pubO, renV, renC, renO, reduceIte, reduceCtorEq, Nat.reduceEqDiff, Nat.reduceLT, Nat.reduceAdd, Int.reduceToNat, Nat.reduceLeDiff, Int.reducePow, Int.reduceLE, Int.reduceLT]
    refine ⟨fun h0 => ⟨by omega, fun w hw _ => ?_⟩, fun h0 => ?_⟩
    · have hW := ln.get hw
      obtain ⟨e1, e2, d0, d1, m0, m1, w0, w1⟩ := shl_step hpq hp hq hW ⟨c0, c1⟩
      have hor : ((c.toNat ||| (w % q * p).toNat : Nat) : Int) = c + w % q * p := by rw [← hP]; exact or_mul (by rw [hP]; exact ⟨c0, c1⟩) (Int.emod_nonneg _ (by omega))
      have hrow := shlRow_get (at_ := at_) (n := n.length) (c := c) hvl
      have hlen := shlRow_len (at_ := at_) (c := c) hvl hi
      have en : ((i : Int) + at_).toNat = i + at_ := by omega
      have en1 : ((i : Int) + at_ + 1).toNat = i + at_ + 1 := by omega
      have ew : w * p % 18446744073709551616 = w * p := Int.emod_eq_of_lt w0 w1
      have ed : w / q % 4294967296 = w / q := Int.emod_eq_of_lt d0 (by
        have : p * 1 ≤ p * q := Int.mul_le_mul_of_nonneg_left (by omega) (by omega)
        omega)
      rw [hP, en, en1, ew, e1, e2, ed, hlen]
      refine ⟨by omega, by omega, fun _ => ⟨by omega, by omega, fun e he _ => ⟨?_, fun _ => ⟨by omega, by omega, _, rfl, by omega, by omega, fun _ _ => ⟨by omega, ?_, _, rfl, by omega, ?_⟩⟩⟩⟩⟩
      · rw [hrow] at he
        obtain rfl := Option.some.inj he
        omega
      · rw [List.length_set, hlen]; omega
      · rw [hrow] at he
        obtain rfl := Option.some.inj he
        rw [hor, shlRow_set hvl (by omega)]
        refine back_intro [(5, .int .u64 s), (6, .int .i64 at_), (7, .own 24 0 (n.length + at_ + 1) true), (25, uL fr n), (26, .int .i64 n.length), (27, .int .i64 ((i + 1 : Nat) : Int))] (by simp [eget, uL]) (by omega)
          ⟨i + 1, vs ++ [c + w % q * p], w / q, by omega, rfl, by simp [hvl], lv.snoc (by omega), d0, d1, ?_, rfl⟩
        rw [val_snoc, val_take_succ hw, hvl, pow_s]
        refine shl_val hv ?_
        have := Int.mul_ediv_add_emod (w * p) 4294967296
        rw [e1, e2] at this
        omega
    · obtain rfl : i = n.length := by omega
      rw [List.take_length] at hv
      have hp2 : p ≤ 4294967296 := by
        have : p * 1 ≤ p * q := Int.mul_le_mul_of_nonneg_left (by omega) (by omega)
        omega
      refine join_intro [(7, .own 24 0 (n.length + at_ + 1) true)] (by simp [eget]) ⟨_, shlRow_len hvl (Nat.le_refl _), shlRow_lim lv ⟨c0, by omega⟩, ?_, rfl⟩
      rw [shlRow_val hvl, hv, ← hk2, ← Int.mul_assoc, Int.mul_comm _ (val n), Int.mul_assoc]
  · rintro st ⟨zs, hzl, lz, hv, rfl⟩
    simp only [W1, W2, W3, popTo, memb, res, wres, env0, byteAt, optI, cutB, cutL, sliceR, strR, ldCells, ldR, iaR, faR, lenR, lenSR, ixR, exR, nchkR, mxR, csR, up, ZV.av, ZV.fit, zfits, fits, fitsL, cellsOf, down, downL, downLL, stR, mkR, bsR, boxR, alR, apR, cpR, srcQ, solid, killC, killV, killE, killO, killH, hget, hset, hdel, pubV, pubC, pubO, renV, renC, renO, reduceIte, reduceCtorEq, Nat.reduceEqDiff, Nat.reduceLT, Nat.reduceAdd, Int.reduceToNat, Nat.reduceLeDiff, Int.reducePow, Int.reduceLE, Int.reduceLT]
    refine call1 (natural_trim false zs (by omega)) (by repeat (first | exact subs_nil | refine subs_all rfl rfl (by omega) ?_)) ?_
    simp only [uL, W1, W2, W3, popTo, memb, res, wres, env0, byteAt, optI, cutB, cutL, sliceR, strR, ldCells, ldR, iaR, faR, lenR, lenSR, ixR, exR, nchkR, mxR, csR, up, ZV.av, ZV.fit, zfits, fits, fitsL, cellsOf, down, downL, downLL, stR, mkR, bsR, boxR, alR, apR, cpR, srcQ, solid, killC, killV, killE, killO, killH, hget, hset, hdel, pubV, pubC, pubO, renV, renC, renO, reduceIte, reduceCtorEq, Nat.reduceEqDiff, Nat.reduceLT, Nat.reduceAdd, Int.reduceToNat, Nat.reduceLeDiff, Int.reducePow, Int.reduceLE, Int.reduceLT]
    exact ret1' (by rw [trimL_limbs lz, hv]; simp only [uL, retR, retA, retL, ret1, ret1L, eget, hget, hset, St.set, eset, List.map_cons, List.map_nil, reduceIte, reduceCtorEq, Nat.reduceEqDiff, Nat.reduceLT, true_and, and_true, false_or, or_true, true_or, List.drop_zero, List.take_length, scalE_I, scalE_B, scalE_S])

theorem shr_step {p q x y D E : Int} (hpq : p * q = 4294967296) (hp : 0 < p) (hq : 0 < q) (hx : 0 ≤ x ∧ x < 4294967296) (hD : D = y + 4294967296 * E) :
    0 ≤ (x + 4294967296 * y) / p % 4294967296 ∧ (x + 4294967296 * y) / p % 4294967296 < 4294967296 ∧ (x + 4294967296 * D) / p = (x + 4294967296 * y) / p % 4294967296 + 4294967296 * (D / p) := by
  have hf : D % p = y % p := by
    rw [hD, ← hpq, Int.mul_assoc, Int.add_mul_emod_self_left]
  have f0 : 0 ≤ y % p := Int.emod_nonneg _ (by omega)
  have f1 : y % p < p := Int.emod_lt_of_pos _ hp
  have e1 : (x + 4294967296 * D) / p = (x + 4294967296 * (y % p)) / p + 4294967296 * (D / p) := by
    have h := Int.mul_ediv_add_emod D p
    have : x + 4294967296 * D = x + 4294967296 * (y % p) + p * (4294967296 * (D / p)) := by
      rw [hf] at h
      rw [← Int.mul_assoc, Int.mul_comm p 4294967296, Int.mul_assoc]; omega
    rw [this, Int.add_mul_ediv_left _ _ (by omega)]
  have e2 : (x + 4294967296 * y) / p = (x + 4294967296 * (y % p)) / p + 4294967296 * (y / p) := by
    have h := Int.mul_ediv_add_emod y p
    have : x + 4294967296 * y = x + 4294967296 * (y % p) + p * (4294967296 * (y / p)) := by
      rw [← Int.mul_assoc, Int.mul_comm p 4294967296, Int.mul_assoc]; omega
    rw [this, Int.add_mul_ediv_left _ _ (by omega)]
  have g0 : 0 ≤ (x + 4294967296 * (y % p)) / p := Int.ediv_nonneg (by omega) (by omega)
  have g1 : (x + 4294967296 * (y % p)) / p < 4294967296 := by
    apply Int.ediv_lt_of_lt_mul hp
    have : 4294967296 * (y % p) ≤ 4294967296 * (p - 1) := Int.mul_le_mul_of_nonneg_left (by omega) (by omega)
    omega
  refine ⟨by omega, by omega, ?_⟩
  rw [e1, e2]; omega

theorem div_drop {n : List Int} (ln : lim n) (i : Nat) (hi : i ≤ n.length) : val n / 4294967296 ^ i = val (n.drop i) := by
  have h := val_split n i hi
  have hb := val_bound (ln.take i)
  rw [List.length_take, Nat.min_eq_left hi] at hb
  rw [h, Int.add_mul_ediv_left _ _ (by have := pow_pos' i; omega), Int.ediv_eq_zero_of_lt hb.1 hb.2, Int.zero_add]

theorem shr_small {n : List Int} (ln : lim n) (k : Nat) (h : n.length ≤ k / 32) : val n / 2 ^ k = 0 := by
  have hb := val_bound ln
  refine Int.ediv_eq_zero_of_lt hb.1 ?_
  have h1 : (4294967296 : Int) ^ n.length ≤ 4294967296 ^ (k / 32) := pow_mono h
  have h2 := two_pow_k k
  have h3 : (0 : Int) < 2 ^ (k % 32) := Int.pow_pos (by omega)
  have h4 : (4294967296 : Int) ^ (k / 32) * 1 ≤ 4294967296 ^ (k / 32) * 2 ^ (k % 32) := Int.mul_le_mul_of_nonneg_left (by omega) (Int.le_of_lt (pow_pos' _))
  omega

theorem shr_whole {n : List Int} (ln : lim n) (k : Nat) (h : k / 32 ≤ n.length) : val n / 2 ^ k = val (n.drop (k / 32)) / 2 ^ (k % 32) := by
  rw [← two_pow_k k, ← Int.ediv_ediv_of_nonneg (Int.le_of_lt (pow_pos' _)), div_drop ln _ h]

theorem natural_shr (fr : Bool) (n : List Int) (k : Nat) (hn : n.length ≤ 1000000) (hk : k ≤ 1000000) : FSpec0 Try.prog 125 [uL fr n, .int .i64 k] (fun r => r = uL true (limbs (val n / 2 ^ k))) := by
  refine FSpec0.of_facts fun hf => fspec0_of_run k125 ?_
  have ln : lim n := lim_of_factL hf.1
  simp only [uL, c125, W1, W2, W3, popTo, memb, res, wres, env0, byteAt, optI, cutB, cutL, sliceR, strR, ldCells, ldR, iaR, faR, lenR, lenSR, ixR, exR, nchkR, mxR, csR, up, ZV.av, ZV.fit, zfits, fits, fitsL, cellsOf, down, downL, downLL, stR, mkR, bsR, boxR, alR, apR, cpR, srcQ, solid, killC, killV, killE, killO, killH, hget, hset, hdel, pubV, pubC, pubO, renV, renC, renO, reduceIte, reduceCtorEq, Nat.reduceEqDiff, Nat.reduceLT, Nat.reduceAdd, Int.reduceToNat, Nat.reduceLeDiff, Int.reducePow, Int.reduceLE, Int.reduceLT]
  refine fun _ => ⟨by omega, fun _ => ⟨by omega, fun _ => ⟨fun h0 => ?_, fun h0 _ => ⟨by omega, by omega, fun _ => ?_⟩⟩⟩⟩
  · exact ret1' (by rw [shr_small ln k (by omega), limbs_zero]; simp only [uL, retR, retA, retL, ret1, ret1L, eget, hget, hset, St.set, eset, List.map_cons, List.map_nil, reduceIte, reduceCtorEq, Nat.reduceEqDiff, Nat.reduceLT, true_and, and_true, false_or, or_true, true_or, List.drop_zero, List.take_length, scalE_I, scalE_B, scalE_S]; rfl)
  rw [shr_whole ln k (by omega)]
  obtain ⟨hpq, hp, hq⟩ := pq_split (s := k % 32) (by omega)
  rw [show (k : Int) % 32 % 18446744073709551616 = ((k % 32 : Nat) : Int) by omega, show (k : Int) / 32 = ((k / 32 : Nat) : Int) by omega, show ((n.length : Int) - ((k / 32 : Nat) : Int)).toNat = n.length - k / 32 by omega]
  have hat0 : k / 32 ≤ n.length := by omega
  generalize hs : k % 32 = s at *
  generalize ha : k / 32 = at_ at *
  generalize hP : (2 : Int) ^ s = p at *
  generalize (2 : Int) ^ (32 - s) = q at *
  have hs32 : s < 32 := by omega
  refine cut_intro (fun st => ∃ zs : List Int, zs.length = n.length - at_ ∧ lim zs ∧ val zs = val (n.drop at_) / p ∧ st = ⟨[(7, .own 23 0 (n.length - at_) true)], [(23, .arr 99 true true 1 (encI .u32) zs)]⟩) ?_ ?_
  · simp only [W1, W2, W3, popTo, memb, res, wres, env0, byteAt, optI, cutB, cutL, sliceR, strR, ldCells, ldR, iaR, faR, lenR, lenSR, ixR, exR, nchkR, mxR, csR, up, ZV.av, ZV.fit, zfits, fits, fitsL, cellsOf, down, downL, downLL, stR, mkR, bsR, boxR, alR, apR, cpR, srcQ, solid, killC, killV, killE, killO, killH, hget, hset, hdel, pubV, pubC, pubO, renV, renC, renO, reduceIte, reduceCtorEq, Nat.reduceEqDiff, Nat.reduceLT, Nat.reduceAdd, Int.reduceToNat, Nat.reduceLeDiff, Int.reducePow, Int.reduceLE, Int.reduceLT]
    refine loop_intro (fun m st => ∃ (i : Nat) (zs : List Int), i ≤ n.length - at_ ∧ m = n.length - at_ - i ∧ zs.length = i ∧ lim zs ∧ val (n.drop at_) / p = val zs + 4294967296 ^ i * (val (n.drop (at_ + i)) / p) ∧
      st = ⟨[(0, uL fr n), (5, .int .u64 s), (6, .int .i64 at_), (7, .own 23 0 (n.length - at_) true), (25, .int .i64 (n.length - at_ : Nat)), (26, .int .i64 i)], [(23, .arr 99 true true 1 (encI .u32) (zs ++ List.replicate (n.length - at_ - i) 0))]⟩) (n.length - at_)
      [(0, uL fr n), (5, .int .u64 s), (6, .int .i64 at_), (7, .own 23 0 (n.length - at_) true), (25, .int .i64 (n.length - at_ : Nat)), (26, .int .i64 (0 : Nat))] (by simp [eget, uL])
      ⟨0, [], by omega, by omega, rfl, lim.nil, by simp [val], rfl⟩ ?_
    rintro m st ⟨i, zs, hi, rfl, hzl, lz, hv, rfl⟩
    simp only [uL, W1, W2, W3, popTo, memb, res, wres, env0, byteAt, optI, cutB, cutL, sliceR, strR, ldCells, ldR, iaR, faR, lenR, lenSR, ixR, exR, nchkR, mxR, csR, up, ZV.av, ZV.fit, zfits, fits, fitsL, cellsOf, down, downL, downLL, stR, mkR, bsR, boxR, alR, apR, cpR, srcQ, solid, killC, killV, killE, killO, killH, hget, hset, hdel, pubV, pubC, pubO, renV, renC, renO, reduceIte, reduceCtorEq, Nat.reduceEqDiff, Nat.reduceLT, Nat.reduceAdd, Int.reduceToNat, Nat.reduceLeDiff, Int.reducePow, Int.reduceLE, Int.reduceLT]
    refine ⟨fun h0 => ⟨by omega, by omega, fun x hx _ => ?_⟩, fun h0 => ?_⟩
    · rw [show ((i : Int) + at_).toNat = at_ + i by omega] at hx
      have hX := ln.get hx
      have hD := val_drop_getD n (at_ + i + 1)
      obtain ⟨o0, o1, hstep⟩ := shr_step (x := x) (y := n.getD (at_ + i + 1) 0) hpq hp hq hX hD
      have hdx : val (n.drop (at_ + i)) = x + 4294967296 * val (n.drop (at_ + i + 1)) := val_drop hx
      have hlen : (zs ++ List.replicate (n.length - at_ - i) 0).length = n.length - at_ := by simp [hzl]; omega
      have if64 : (if s ≤ 64 then s else 64) = s := if_pos (by omega)
      have fin : val (n.drop at_) / p = val (zs ++ [(x + 4294967296 * n.getD (at_ + i + 1) 0) / p % 4294967296]) + 4294967296 ^ (i + 1) * (val (n.drop (at_ + (i + 1))) / p) := by
        rw [hv, hdx, hstep, val_snoc, hzl, pow_s, show at_ + (i + 1) = at_ + i + 1 by omega, Int.mul_add, ← Int.mul_assoc]; omega
      refine ⟨by omega, by omega, fun _ => ⟨fun h1 => ⟨by omega, by omega, by omega, fun y hy _ _ => ?_⟩, fun h1 _ => ?_⟩⟩
      · rw [show ((i : Int) + at_ + 1).toNat = at_ + i + 1 by omega] at hy
        have hY := ln.get hy
        rw [getD_of hy] at fin o0 o1
        have ey : y * 4294967296 % 18446744073709551616 = y * 2 ^ 32 := by rw [show (2 : Int) ^ 32 = 4294967296 from rfl]; omega
        have eo := or_mul (p := 32) (c := x) (y := y) (by rw [show (2 : Int) ^ 32 = 4294967296 from rfl]; exact hX) hY.1
        rw [ey, eo, hlen, if64, hP, show (2 : Int) ^ 32 = 4294967296 from rfl, Int.mul_comm y]
        refine ⟨by omega, fun _ => ⟨by omega, fun _ => ⟨by omega, by omega, _, rfl, by omega, ?_⟩⟩⟩
        rw [set_rep zs (n.length - at_) i _ _ hzl (by omega)]
        exact back_intro [(0, uL fr n), (5, .int .u64 s), (6, .int .i64 at_), (7, .own 23 0 (n.length - at_) true), (25, .int .i64 (n.length - at_ : Nat)), (26, .int .i64 ((i + 1 : Nat) : Int))] (by simp [eget, uL]) (by omega)
          ⟨i + 1, _, by omega, rfl, by simp [hzl], lz.snoc ⟨o0, o1⟩, fin, rfl⟩
      · rw [getD_out (by omega), Int.mul_zero, Int.add_zero] at fin o0 o1
        rw [hlen, if64, hP]
        refine ⟨by omega, fun _ => ⟨by omega, by omega, _, rfl, by omega, ?_⟩⟩
        rw [set_rep zs (n.length - at_) i _ _ hzl (by omega)]
        exact back_intro [(0, uL fr n), (5, .int .u64 s), (6, .int .i64 at_), (7, .own 23 0 (n.length - at_) true), (25, .int .i64 (n.length - at_ : Nat)), (26, .int .i64 ((i + 1 : Nat) : Int))] (by simp [eget, uL]) (by omega)
          ⟨i + 1, _, by omega, rfl, by simp [hzl], lz.snoc ⟨o0, o1⟩, fin, rfl⟩
    · obtain rfl : i = n.length - at_ := by omega
      rw [show at_ + (n.length - at_) = n.length by omega, List.drop_length] at hv
      rw [Nat.sub_self]
      exact join_intro [(7, .own 23 0 (n.length - at_) true)] (by simp [eget]) ⟨zs, hzl, lz, by rw [hv]; simp [val], by simp⟩
  · rintro st ⟨zs, hzl, lz, hv, rfl⟩
    simp only [W1, W2, W3, popTo, memb, res, wres, env0, byteAt, optI, cutB, cutL, sliceR, strR, ldCells, ldR, iaR, faR, lenR, lenSR, ixR, exR, nchkR, mxR, csR, up, ZV.av, ZV.fit, zfits, fits, fitsL, cellsOf, down, downL, downLL, stR, mkR, bsR, boxR, alR, apR, cpR, srcQ, solid, killC, killV, killE, killO, killH, hget, hset, hdel, pubV, pubC, pubO, renV, renC, renO, reduceIte, reduceCtorEq, Nat.reduceEqDiff, Nat.reduceLT, Nat.reduceAdd, Int.reduceToNat, Nat.reduceLeDiff, Int.reducePow, Int.reduceLE, Int.reduceLT]
    refine call1 (natural_trim false zs (by omega)) (by repeat (first | exact subs_nil | refine subs_all rfl rfl (by omega) ?_)) ?_
    simp only [uL, W1, W2, W3, popTo, memb, res, wres, env0, byteAt, optI, cutB, cutL, sliceR, strR, ldCells, ldR, iaR, faR, lenR, lenSR, ixR, exR, nchkR, mxR, csR, up, ZV.av, ZV.fit, zfits, fits, fitsL, cellsOf, down, downL, downLL, stR, mkR, bsR, boxR, alR, apR, cpR, srcQ, solid, killC, killV, killE, killO, killH, hget, hset, hdel, pubV, pubC, pubO, renV, renC, renO, reduceIte, reduceCtorEq, Nat.reduceEqDiff, Nat.reduceLT, Nat.reduceAdd, Int.reduceToNat, Nat.reduceLeDiff, Int.reducePow, Int.reduceLE, Int.reduceLT]
    exact ret1' (by rw [trimL_limbs lz, hv]; simp only [uL, retR, retA, retL, ret1, ret1L, eget, hget, hset, St.set, eset, List.map_cons, List.map_nil, reduceIte, reduceCtorEq, Nat.reduceEqDiff, Nat.reduceLT, true_and, and_true, false_or, or_true, true_or, List.drop_zero, List.take_length, scalE_I, scalE_B, scalE_S])

/-- which error -/
def movE (n : List Int) (k : Int) : Int := if may n then if k < 0 ∨ 65536 < k then 1 else 0 else 20
def shlL (n : List Int) (k : Int) : List Int := if may n ∧ 0 ≤ k ∧ k ≤ 65536 then fitL (val n * 2 ^ k.toNat) else []
def shlE (n : List Int) (k : Int) : Int := if may n ∧ 0 ≤ k ∧ k ≤ 65536 then fitE (val n * 2 ^ k.toNat) else movE n k
def shrL (n : List Int) (k : Int) : List Int := if may n ∧ 0 ≤ k ∧ k ≤ 65536 then limbs (val n / 2 ^ k.toNat) else []

theorem natural_moved (fr : Bool) (n : List Int) (k : Int) : FSpec0 Try.prog 123 [uL fr n, .int .i64 k] (fun r => r = .int .i64 (movE n k)) := by
  refine fspec0_of_run k123 ?_
  simp only [uL, c123, W1, W2, W3, popTo, memb, res, wres, env0, byteAt, optI, cutB, cutL, sliceR, strR, ldCells, ldR, iaR, faR, lenR, lenSR, ixR, exR, nchkR, mxR, csR, up, ZV.av, ZV.fit, zfits, fits, fitsL, cellsOf, down, downL, downLL, stR, mkR, bsR, boxR, alR, apR, cpR, srcQ, solid, killC, killV, killE, killO, killH, hget, hset, hdel, pubV, pubC, pubO, renV, renC, renO, reduceIte, reduceCtorEq, Nat.reduceEqDiff, Nat.reduceLT, Nat.reduceAdd, Int.reduceToNat, Nat.reduceLeDiff, Int.reducePow, Int.reduceLE, Int.reduceLT]
  refine call1 (natural_May fr n) (by repeat (first | exact subs_nil | refine subs_int ?_ | refine subs_ro ?_ | refine subs_bool ?_ | refine subs_str ?_ | refine subs_nilro ?_ | refine subs_lits rfl ?_ | refine subs_all rfl rfl (by simp) ?_ | refine subs_own rfl rfl ?_ | refine subs_fn ?_)) ?_
  simp only [W1, W2, W3, popTo, memb, res, wres, env0, byteAt, optI, cutB, cutL, sliceR, strR, ldCells, ldR, iaR, faR, lenR, lenSR, ixR, exR, nchkR, mxR, csR, up, ZV.av, ZV.fit, zfits, fits, fitsL, cellsOf, down, downL, downLL, stR, mkR, bsR, boxR, alR, apR, cpR, srcQ, solid, killC, killV, killE, killO, killH, hget, hset, hdel, pubV, pubC, pubO, renV, renC, renO, reduceIte, reduceCtorEq, Nat.reduceEqDiff, Nat.reduceLT, Nat.reduceAdd, Int.reduceToNat, Nat.reduceLeDiff, Int.reducePow, Int.reduceLE, Int.reduceLT]
  refine ⟨fun h => ret1' (by rw [movE, if_neg h]; simp only [retR, retA, retL, ret1, ret1L, eget, hget, hset, St.set, eset, List.map_cons, List.map_nil, reduceIte, reduceCtorEq, Nat.reduceEqDiff, Nat.reduceLT, true_and, and_true, false_or, or_true, true_or, List.drop_zero, List.take_length, scalE_I, scalE_B, scalE_S]), fun h => ?_⟩
  have h := Classical.not_not.1 h
  rw [movE, if_pos h]
  refine ⟨fun h1 => ret1' (by rw [if_pos (by omega)]; simp only [retR, retA, retL, ret1, ret1L, eget, hget, hset, St.set, eset, List.map_cons, List.map_nil, reduceIte, reduceCtorEq, Nat.reduceEqDiff, Nat.reduceLT, true_and, and_true, false_or, or_true, true_or, List.drop_zero, List.take_length, scalE_I, scalE_B, scalE_S]), fun h1 => ⟨fun h2 => ret1' (by rw [if_pos (by omega)]; simp only [retR, retA, retL, ret1, ret1L, eget, hget, hset, St.set, eset, List.map_cons, List.map_nil, reduceIte, reduceCtorEq, Nat.reduceEqDiff, Nat.reduceLT, true_and, and_true, false_or, or_true, true_or, List.drop_zero, List.take_length, scalE_I, scalE_B, scalE_S]), fun h2 => ret1' (by rw [if_neg (by omega)]; simp only [retR, retA, retL, ret1, ret1L, eget, hget, hset, St.set, eset, List.map_cons, List.map_nil, reduceIte, reduceCtorEq, Nat.reduceEqDiff, Nat.reduceLT, true_and, and_true, false_or, or_true, true_or, List.drop_zero, List.take_length, scalE_I, scalE_B, scalE_S])⟩⟩

theorem movE_zero (n : List Int) (k : Int) : movE n k = 0 ↔ may n ∧ 0 ≤ k ∧ k ≤ 65536 := by
  unfold movE
  by_cases h : may n
  · rw [if_pos h]
    by_cases h1 : k < 0 ∨ 65536 < k
    · rw [if_pos h1]; exact ⟨fun h => by omega, fun h => by omega⟩
    · rw [if_neg h1]; exact ⟨fun _ => ⟨h, by omega, by omega⟩, fun _ => rfl⟩
  · rw [if_neg h]; exact ⟨fun h => by omega, fun h' => absurd h'.1 h⟩
theorem mov_no {n : List Int} {k : Int} (h : ¬ (may n ∧ 0 ≤ k ∧ k ≤ 65536)) : shlL n k = [] ∧ shlE n k = movE n k ∧ shrL n k = [] := by rw [shlL, shlE, shrL, if_neg h, if_neg h, if_neg h]; exact ⟨rfl, rfl, rfl⟩
theorem mov_yes {n : List Int} {k : Int} (h : may n ∧ 0 ≤ k ∧ k ≤ 65536) : shlL n k = fitL (val n * 2 ^ k.toNat) ∧ shlE n k = fitE (val n * 2 ^ k.toNat) ∧ shrL n k = limbs (val n / 2 ^ k.toNat) ∧ movE n k = 0 := by
  rw [shlL, shlE, shrL, if_pos h, if_pos h, if_pos h]; exact ⟨rfl, rfl, rfl, (movE_zero n k).2 h⟩

theorem shl_len {n : List Int} (ln : lim n) (k : Nat) (hn : n.length ≤ 1000000) (hk : k ≤ 1000000) : (limbs (val n * 2 ^ k)).length ≤ 2000002 := by
  have hb := val_bound ln
  have h2 : (0 : Int) < 2 ^ k := Int.pow_pos (by omega)
  refine Nat.le_trans ((limbs_len_le (Int.mul_nonneg hb.1 (Int.le_of_lt h2)) (n.length + (k / 32 + 1))).2 ?_) (by omega)
  rw [pow_add']
  have h3 : (2 : Int) ^ k ≤ 4294967296 ^ (k / 32 + 1) := by
    rw [← two_pow_k k, pow_s]
    refine Int.mul_le_mul_of_nonneg_left ?_ (Int.le_of_lt (pow_pos' _))
    obtain ⟨a, b, c⟩ := pq_split (s := k % 32) (by omega)
    have : (2 : Int) ^ (k % 32) * 1 ≤ 2 ^ (k % 32) * 2 ^ (32 - k % 32) := Int.mul_le_mul_of_nonneg_left (by omega) (by omega)
    omega
  have h4 : val n * 2 ^ k ≤ val n * 4294967296 ^ (k / 32 + 1) := Int.mul_le_mul_of_nonneg_left h3 hb.1
  have h5 : val n * 4294967296 ^ (k / 32 + 1) < 4294967296 ^ n.length * 4294967296 ^ (k / 32 + 1) := Int.mul_lt_mul_of_pos_right hb.2 (pow_pos' _)
  omega

theorem natural_Shl (fr : Bool) (n : List Int) (k : Int) : FSpec0 Try.prog 70 [uL fr n, .int .i64 k] (fun r => r = lE (shlL n k) (shlE n k)) := by
  refine FSpec0.of_facts fun hf => fspec0_of_run k70 ?_
  have ln : lim n := lim_of_factL hf.1
  simp only [uL, c70, W1, W2, W3, popTo, memb, res, wres, env0, byteAt, optI, cutB, cutL, sliceR, strR, ldCells, ldR, iaR, faR, lenR, lenSR, ixR, exR, nchkR, mxR, csR, up, ZV.av, ZV.fit, zfits, fits, fitsL, cellsOf, down, downL, downLL, stR, mkR, bsR, boxR, alR, apR, cpR, srcQ, solid, killC, killV, killE, killO, killH, hget, hset, hdel, pubV, pubC, pubO, renV, renC, renO, reduceIte, reduceCtorEq, Nat.reduceEqDiff, Nat.reduceLT, Nat.reduceAdd, Int.reduceToNat, Nat.reduceLeDiff, Int.reducePow, Int.reduceLE, Int.reduceLT]
  refine call1 (natural_moved fr n k) (by repeat (first | exact subs_nil | refine subs_int ?_ | refine subs_ro ?_ | refine subs_bool ?_ | refine subs_str ?_ | refine subs_nilro ?_ | refine subs_lits rfl ?_ | refine subs_all rfl rfl (by simp) ?_ | refine subs_own rfl rfl ?_ | refine subs_fn ?_)) ?_
  simp only [uL, W1, W2, W3, popTo, memb, res, wres, env0, byteAt, optI, cutB, cutL, sliceR, strR, ldCells, ldR, iaR, faR, lenR, lenSR, ixR, exR, nchkR, mxR, csR, up, ZV.av, ZV.fit, zfits, fits, fitsL, cellsOf, down, downL, downLL, stR, mkR, bsR, boxR, alR, apR, cpR, srcQ, solid, killC, killV, killE, killO, killH, hget, hset, hdel, pubV, pubC, pubO, renV, renC, renO, reduceIte, reduceCtorEq, Nat.reduceEqDiff, Nat.reduceLT, Nat.reduceAdd, Int.reduceToNat, Nat.reduceLeDiff, Int.reducePow, Int.reduceLE, Int.reduceLT]
  refine ⟨fun h => ?_, fun h => ?_⟩
  · rw [movE_zero] at h
    obtain ⟨e1, e2, _⟩ := mov_no h
    exact ret1' (by rw [e1, e2]; simp only [uL, retR, retA, retL, ret1, ret1L, eget, hget, hset, St.set, eset, List.map_cons, List.map_nil, reduceIte, reduceCtorEq, Nat.reduceEqDiff, Nat.reduceLT, true_and, and_true, false_or, or_true, true_or, List.drop_zero, List.take_length, scalE_I, scalE_B, scalE_S]; rfl)
  · have h := (movE_zero n k).1 (Classical.not_not.1 h)
    obtain ⟨e1, e2, _⟩ := mov_yes h
    rw [e1, e2]
    obtain ⟨hm, h0, h1⟩ := h
    obtain ⟨k, rfl⟩ := Int.eq_ofNat_of_zero_le h0
    rw [Int.toNat_natCast]
    have hl := hm.1
    refine call1 (natural_shl fr n k (by omega) (by omega)) (by repeat (first | exact subs_nil | refine subs_int ?_ | refine subs_ro ?_ | refine subs_bool ?_ | refine subs_str ?_ | refine subs_nilro ?_ | refine subs_lits rfl ?_ | refine subs_all rfl rfl (by simp) ?_ | refine subs_own rfl rfl ?_ | refine subs_fn ?_)) ?_
    simp only [uL, W1, W2, W3, popTo, memb, res, wres, env0, byteAt, optI, cutB, cutL, sliceR, strR, ldCells, ldR, iaR, faR, lenR, lenSR, ixR, exR, nchkR, mxR, csR, up, ZV.av, ZV.fit, zfits, fits, fitsL, cellsOf, down, downL, downLL, stR, mkR, bsR, boxR, alR, apR, cpR, srcQ, solid, killC, killV, killE, killO, killH, hget, hset, hdel, pubV, pubC, pubO, renV, renC, renO, reduceIte, reduceCtorEq, Nat.reduceEqDiff, Nat.reduceLT, Nat.reduceAdd, Int.reduceToNat, Nat.reduceLeDiff, Int.reducePow, Int.reduceLE, Int.reduceLT]
    refine call1 (natural_fit true (limbs (val n * 2 ^ k)) (by have := shl_len ln k (by omega) (by omega); omega)) (by repeat (first | exact subs_nil | refine subs_int ?_ | refine subs_ro ?_ | refine subs_bool ?_ | refine subs_str ?_ | refine subs_nilro ?_ | refine subs_lits rfl ?_ | refine subs_all rfl rfl (by simp) ?_ | refine subs_own rfl rfl ?_ | refine subs_fn ?_)) ?_
    simp only [uL, W1, W2, W3, popTo, memb, res, wres, env0, byteAt, optI, cutB, cutL, sliceR, strR, ldCells, ldR, iaR, faR, lenR, lenSR, ixR, exR, nchkR, mxR, csR, up, ZV.av, ZV.fit, zfits, fits, fitsL, cellsOf, down, downL, downLL, stR, mkR, bsR, boxR, alR, apR, cpR, srcQ, solid, killC, killV, killE, killO, killH, hget, hset, hdel, pubV, pubC, pubO, renV, renC, renO, reduceIte, reduceCtorEq, Nat.reduceEqDiff, Nat.reduceLT, Nat.reduceAdd, Int.reduceToNat, Nat.reduceLeDiff, Int.reducePow, Int.reduceLE, Int.reduceLT]
    rw [limbs_val (Int.mul_nonneg (val_bound ln).1 (Int.le_of_lt (Int.pow_pos (by omega))))]
    exact ret1' (by simp only [uL, retR, retA, retL, ret1, ret1L, eget, hget, hset, St.set, eset, List.map_cons, List.map_nil, reduceIte, reduceCtorEq, Nat.reduceEqDiff, Nat.reduceLT, true_and, and_true, false_or, or_true, true_or, List.drop_zero, List.take_length, scalE_I, scalE_B, scalE_S])

theorem natural_Shr (fr : Bool) (n : List Int) (k : Int) : FSpec0 Try.prog 72 [uL fr n, .int .i64 k] (fun r => r = lE (shrL n k) (movE n k)) := by
  refine fspec0_of_run k72 ?_
  simp only [uL, c72, W1, W2, W3, popTo, memb, res, wres, env0, byteAt, optI, cutB, cutL, sliceR, strR, ldCells, ldR, iaR, faR, lenR, lenSR, ixR, exR, nchkR, mxR, csR, up, ZV.av, ZV.fit, zfits, fits, fitsL, cellsOf, down, downL, downLL, stR, mkR, bsR, boxR, alR, apR, cpR, srcQ, solid, killC, killV, killE, killO, killH, hget, hset, hdel, pubV, pubC, pubO, renV, renC, renO, reduceIte, reduceCtorEq, Nat.reduceEqDiff, Nat.reduceLT, Nat.reduceAdd, Int.reduceToNat, Nat.reduceLeDiff, Int.reducePow, Int.reduceLE, Int.reduceLT]
  refine call1 (natural_moved fr n k) (by repeat (first | exact subs_nil | refine subs_int ?_ | refine subs_ro ?_ | refine subs_bool ?_ | refine subs_str ?_ | refine subs_nilro ?_ | refine subs_lits rfl ?_ | refine subs_all rfl rfl (by simp) ?_ | refine subs_own rfl rfl ?_ | refine subs_fn ?_)) ?_
  simp only [uL, W1, W2, W3, popTo, memb, res, wres, env0, byteAt, optI, cutB, cutL, sliceR, strR, ldCells, ldR, iaR, faR, lenR, lenSR, ixR, exR, nchkR, mxR, csR, up, ZV.av, ZV.fit, zfits, fits, fitsL, cellsOf, down, downL, downLL, stR, mkR, bsR, boxR, alR, apR, cpR, srcQ, solid, killC, killV, killE, killO, killH, hget, hset, hdel, pubV, pubC, pubO, renV, renC, renO, reduceIte, reduceCtorEq, Nat.reduceEqDiff, Nat.reduceLT, Nat.reduceAdd, Int.reduceToNat, Nat.reduceLeDiff, Int.reducePow, Int.reduceLE, Int.reduceLT]
  refine ⟨fun h => ?_, fun h => ?_⟩
  · rw [movE_zero] at h
    obtain ⟨_, _, e1⟩ := mov_no h
    exact ret1' (by rw [e1]; simp only [uL, retR, retA, retL, ret1, ret1L, eget, hget, hset, St.set, eset, List.map_cons, List.map_nil, reduceIte, reduceCtorEq, Nat.reduceEqDiff, Nat.reduceLT, true_and, and_true, false_or, or_true, true_or, List.drop_zero, List.take_length, scalE_I, scalE_B, scalE_S]; rfl)
  · have h := (movE_zero n k).1 (Classical.not_not.1 h)
    obtain ⟨_, _, e1, e2⟩ := mov_yes h
    rw [e1, e2]
    obtain ⟨hm, h0, h1⟩ := h
    obtain ⟨k, rfl⟩ := Int.eq_ofNat_of_zero_le h0
    rw [Int.toNat_natCast]
    have hl := hm.1
    refine call1 (natural_shr fr n k (by omega) (by omega)) (by repeat (first | exact subs_nil | refine subs_int ?_ | refine subs_ro ?_ | refine subs_bool ?_ | refine subs_str ?_ | refine subs_nilro ?_ | refine subs_lits rfl ?_ | refine subs_all rfl rfl (by simp) ?_ | refine subs_own rfl rfl ?_ | refine subs_fn ?_)) ?_
    simp only [uL, W1, W2, W3, popTo, memb, res, wres, env0, byteAt, optI, cutB, cutL, sliceR, strR, ldCells, ldR, iaR, faR, lenR, lenSR, ixR, exR, nchkR, mxR, csR, up, ZV.av, ZV.fit, zfits, fits, fitsL, cellsOf, down, downL, downLL, stR, mkR, bsR, boxR, alR, apR, cpR, srcQ, solid, killC, killV, killE, killO, killH, hget, hset, hdel, pubV, pubC, pubO, renV, renC, renO, reduceIte, reduceCtorEq, Nat.reduceEqDiff, Nat.reduceLT, Nat.reduceAdd, Int.reduceToNat, Nat.reduceLeDiff, Int.reducePow, Int.reduceLE, Int.reduceLT]
    exact ret1' (by simp only [uL, retR, retA, retL, ret1, ret1L, eget, hget, hset, St.set, eset, List.map_cons, List.map_nil, reduceIte, reduceCtorEq, Nat.reduceEqDiff, Nat.reduceLT, true_and, and_true, false_or, or_true, true_or, List.drop_zero, List.take_length, scalE_I, scalE_B, scalE_S])

theorem sloperef1_Shl (fr : Bool) (n : List Int) (k : Int) : FSpec0 Try.prog 71 [uL fr n, .int .i64 k] (fun r => r = lE (shlL n k) (shlE n k)) := by
  refine FSpec0.of_facts fun hf => fspec0_of_run k71 ?_
  have ln : lim n := lim_of_factL hf.1
  simp only [uL, c71, W1, W2, W3, popTo, memb, res, wres, env0, byteAt, optI, cutB, cutL, sliceR, strR, ldCells, ldR, iaR, faR, lenR, lenSR, ixR, exR, nchkR, mxR, csR, up, ZV.av, ZV.fit, zfits, fits, fitsL, cellsOf, down, downL, downLL, stR, mkR, bsR, boxR, alR, apR, cpR, srcQ, solid, killC, killV, killE, killO, killH, hget, hset, hdel, pubV, pubC, pubO, renV, renC, renO, reduceIte, reduceCtorEq, Nat.reduceEqDiff, Nat.reduceLT, Nat.reduceAdd, Int.reduceToNat, Nat.reduceLeDiff, Int.reducePow, Int.reduceLE, Int.reduceLT]
  refine call1 (sloperef1_May fr n) (by repeat (first | exact subs_nil | refine subs_int ?_ | refine subs_ro ?_ | refine subs_bool ?_ | refine subs_str ?_ | refine subs_nilro ?_ | refine subs_lits rfl ?_ | refine subs_all rfl rfl (by simp) ?_ | refine subs_own rfl rfl ?_ | refine subs_fn ?_)) ?_
  simp only [uL, W1, W2, W3, popTo, memb, res, wres, env0, byteAt, optI, cutB, cutL, sliceR, strR, ldCells, ldR, iaR, faR, lenR, lenSR, ixR, exR, nchkR, mxR, csR, up, ZV.av, ZV.fit, zfits, fits, fitsL, cellsOf, down, downL, downLL, stR, mkR, bsR, boxR, alR, apR, cpR, srcQ, solid, killC, killV, killE, killO, killH, hget, hset, hdel, pubV, pubC, pubO, renV, renC, renO, reduceIte, reduceCtorEq, Nat.reduceEqDiff, Nat.reduceLT, Nat.reduceAdd, Int.reduceToNat, Nat.reduceLeDiff, Int.reducePow, Int.reduceLE, Int.reduceLT]
  have no : ∀ (h : ¬ (may n ∧ 0 ≤ k ∧ k ≤ 65536)) (env : Env), eget env 4 = .nilS → eget env 5 = .int .i64 (movE n k) → Ret0 [4, 5] (fun r => r = lE (shlL n k) (shlE n k)) ⟨env, []⟩ := fun h env h4 h5 => by
    obtain ⟨e1, e2, _⟩ := mov_no h
    exact ret1' (by rw [e1, e2]; simp only [uL, h4, h5, retR, retA, retL, ret1, ret1L, eget, hget, hset, St.set, eset, List.map_cons, List.map_nil, reduceIte, reduceCtorEq, Nat.reduceEqDiff, Nat.reduceLT, true_and, and_true, false_or, or_true, true_or, List.drop_zero, List.take_length, scalE_I, scalE_B, scalE_S]; rfl)
  refine ⟨fun h => no (fun h' => h h'.1) _ rfl (by rw [movE, if_neg h]; rfl), fun h => ⟨fun h1 => no (by omega) _ rfl (by rw [movE, if_pos (Classical.not_not.1 h), if_pos (.inl h1)]; rfl), fun h1 => ⟨fun h2 => no (by omega) _ rfl (by rw [movE, if_pos (Classical.not_not.1 h), if_pos (.inr h2)]; rfl), fun h2 _ _ => ⟨by omega, ?_⟩⟩⟩⟩
  have hm := Classical.not_not.1 h
  have hl := hm.1
  obtain ⟨e1, e2, _⟩ := mov_yes (n := n) (k := k) ⟨hm, by omega, by omega⟩
  rw [e1, e2]
  obtain ⟨k, rfl⟩ := Int.eq_ofNat_of_zero_le (show 0 ≤ k by omega)
  rw [Int.toNat_natCast]
  refine ⟨by omega, by omega, by omega, ?_⟩
  obtain ⟨hpq, hp, hq⟩ := pq_split (s := k % 32) (by omega)
  have hk2 := two_pow_k k
  rw [show ((n.length : Int) + (k : Int) / 32 + 1).toNat = n.length + k / 32 + 1 by omega]
  have ek : (k : Int) / 32 = ((k / 32 : Nat) : Int) := by omega
  have es : (k : Int) % 32 % 18446744073709551616 = ((k % 32 : Nat) : Int) := by omega
  generalize hs : k % 32 = s at *
  generalize ha : k / 32 = at_ at *
  generalize hP : (2 : Int) ^ s = p at *
  generalize (2 : Int) ^ (32 - s) = q at *
  have hat : at_ ≤ 1000000 := by omega
  have hs32 : s < 32 := by omega
  refine cut_intro (fun st => ∃ zs : List Int, zs.length = n.length + at_ + 1 ∧ lim zs ∧ val zs = val n * 2 ^ k ∧ st = ⟨[(6, .own 24 0 (n.length + at_ + 1) true)], [(24, .arr 99 true true 1 (encI .u32) zs)]⟩) ?_ ?_
  · simp only [W1, W2, W3, popTo, memb, res, wres, env0, byteAt, optI, cutB, cutL, sliceR, strR, ldCells, ldR, iaR, faR, lenR, lenSR, ixR, exR, nchkR, mxR, csR, up, ZV.av, ZV.fit, zfits, fits, fitsL, cellsOf, down, downL, downLL, stR, mkR, bsR, boxR, alR, apR, cpR, srcQ, solid, killC, killV, killE, killO, killH, hget, hset, hdel, pubV, pubC, pubO, renV, renC, renO, reduceIte, reduceCtorEq, Nat.reduceEqDiff, Nat.reduceLT, Nat.reduceAdd, Int.reduceToNat, Nat.reduceLeDiff, Int.reducePow, Int.reduceLE, Int.reduceLT]
    refine loop_intro (fun m st => ∃ (i : Nat) (vs : List Int) (c : Int), i ≤ n.length ∧ m = n.length - i ∧ vs.length = i ∧ lim vs ∧ 0 ≤ c ∧ c < p ∧ val vs + 4294967296 ^ i * c = val (n.take i) * p ∧
      st = ⟨[(0, uL fr n), (1, .int .i64 k), (6, .own 24 0 (n.length + at_ + 1) true), (7, .int .i64 i)], [(24, .arr 99 true true 1 (encI .u32) (shlRow at_ n.length i vs c))]⟩) n.length
      [(0, uL fr n), (1, .int .i64 k), (6, .own 24 0 (n.length + at_ + 1) true), (7, .int .i64 (0 : Nat))] (by simp [eget, uL])
      ⟨0, [], 0, by omega, by omega, rfl, lim.nil, by omega, hp, by simp [val], by rw [show shlRow at_ n.length 0 [] 0 = List.replicate (n.length + at_ + 1) 0 by rw [shlRow, List.nil_append, Nat.sub_zero, ← List.replicate_succ, List.replicate_append_replicate]; congr 1; omega]⟩ ?_
    rintro m st ⟨i, vs, c, hi, rfl, hvl, lv, c0, c1, hv, rfl⟩
    simp only [uL, W1, W2, W3, popTo, memb, res, wres, env0, byteAt, optI, cutB, cutL, sliceR, strR, ldCells, ldR, iaR, faR, lenR, lenSR, ixR, exR, nchkR, mxR, csR, up, ZV.av, ZV.fit, zfits, fits, fitsL, cellsOf, down, downL, downLL, stR, mkR, bsR, boxR, alR, apR, cpR, srcQ, solid, killC, killV, killE, killO, killH, hget, hset, hdel, pubV, pubC, pubO, renV, renC, renO, reduceIte, reduceCtorEq, Nat.reduceEqDiff, Nat.reduceLT, Nat.reduceAdd, Int.reduceToNat, Nat.reduceLeDiff, Int.reducePow, Int.reduceLE, Int.reduceLT]
    refine fun _ => ⟨fun h0 => ⟨by omega, fun w hw _ => ?_⟩, fun h0 => ?_⟩
    · have hW := ln.get hw
      obtain ⟨e1, e2, d0, d1, m0, m1, w0, w1⟩ := shl_step hpq hp hq hW ⟨c0, c1⟩
      have hor : ((c.toNat ||| (w % q * p).toNat : Nat) : Int) = c + w % q * p := by rw [← hP]; exact or_mul (by rw [hP]; exact ⟨c0, c1⟩) (Int.emod_nonneg _ (by omega))
      have hrow := shlRow_get (at_ := at_) (n := n.length) (c := c) hvl
      have hlen := shlRow_len (at_ := at_) (c := c) hvl hi
      rw [es, ek, Int.toNat_natCast, hP]
      have en : ((i : Int) + at_).toNat = i + at_ := by omega
      have en1 : ((i : Int) + at_ + 1).toNat = i + at_ + 1 := by omega
      have ew : w * p % 18446744073709551616 = w * p := Int.emod_eq_of_lt w0 w1
      have ed : w / q % 4294967296 = w / q := Int.emod_eq_of_lt d0 (by
        have : p * 1 ≤ p * q := Int.mul_le_mul_of_nonneg_left (by omega) (by omega)
        omega)
      rw [en, en1, ew, e1, e2, ed, hlen]
      refine fun _ => ⟨by omega, by omega, fun _ => ⟨by omega, by omega, fun _ => ⟨by omega, by omega, fun _ => ⟨by omega, by omega, fun e he _ => ⟨?_, fun _ => ⟨by omega, by omega, _, rfl, fun _ => ⟨by omega, by omega, by omega, fun _ _ => ⟨by omega, ?_, _, rfl, by omega, ?_⟩⟩⟩⟩⟩⟩⟩⟩
      · rw [hrow] at he
        obtain rfl := Option.some.inj he
        omega
      · rw [List.length_set, hlen]; omega
      · rw [hrow] at he
        obtain rfl := Option.some.inj he
        rw [hor, shlRow_set hvl (by omega)]
        refine back_intro [(0, uL fr n), (1, .int .i64 k), (6, .own 24 0 (n.length + at_ + 1) true), (7, .int .i64 ((i + 1 : Nat) : Int))] (by simp [eget, uL]) (by omega)
          ⟨i + 1, vs ++ [c + w % q * p], w / q, by omega, rfl, by simp [hvl], lv.snoc (by omega), d0, d1, ?_, rfl⟩
        rw [val_snoc, val_take_succ hw, hvl, pow_s]
        refine shl_val hv ?_
        have := Int.mul_ediv_add_emod (w * p) 4294967296
        rw [e1, e2] at this
        omega
    · obtain rfl : i = n.length := by omega
      rw [List.take_length] at hv
      have hp2 : p ≤ 4294967296 := by
        have : p * 1 ≤ p * q := Int.mul_le_mul_of_nonneg_left (by omega) (by omega)
        omega
      refine join_intro [(6, .own 24 0 (n.length + at_ + 1) true)] (by simp [eget]) ⟨_, shlRow_len hvl (Nat.le_refl _), shlRow_lim lv ⟨c0, by omega⟩, ?_, rfl⟩
      rw [shlRow_val hvl, hv, ← hk2, ← Int.mul_assoc, Int.mul_comm _ (val n), Int.mul_assoc]
  · rintro st ⟨zs, hzl, lz, hv, rfl⟩
    simp only [W1, W2, W3, popTo, memb, res, wres, env0, byteAt, optI, cutB, cutL, sliceR, strR, ldCells, ldR, iaR, faR, lenR, lenSR, ixR, exR, nchkR, mxR, csR, up, ZV.av, ZV.fit, zfits, fits, fitsL, cellsOf, down, downL, downLL, stR, mkR, bsR, boxR, alR, apR, cpR, srcQ, solid, killC, killV, killE, killO, killH, hget, hset, hdel, pubV, pubC, pubO, renV, renC, renO, reduceIte, reduceCtorEq, Nat.reduceEqDiff, Nat.reduceLT, Nat.reduceAdd, Int.reduceToNat, Nat.reduceLeDiff, Int.reducePow, Int.reduceLE, Int.reduceLT]
    refine call1 (sloperef1_fit false zs (by omega)) (by repeat (first | exact subs_nil | refine subs_all rfl rfl (by omega) ?_)) ?_
    simp only [uL, W1, W2, W3, popTo, memb, res, wres, env0, byteAt, optI, cutB, cutL, sliceR, strR, ldCells, ldR, iaR, faR, lenR, lenSR, ixR, exR, nchkR, mxR, csR, up, ZV.av, ZV.fit, zfits, fits, fitsL, cellsOf, down, downL, downLL, stR, mkR, bsR, boxR, alR, apR, cpR, srcQ, solid, killC, killV, killE, killO, killH, hget, hset, hdel, pubV, pubC, pubO, renV, renC, renO, reduceIte, reduceCtorEq, Nat.reduceEqDiff, Nat.reduceLT, Nat.reduceAdd, Int.reduceToNat, Nat.reduceLeDiff, Int.reducePow, Int.reduceLE, Int.reduceLT]
    exact ret1' (by rw [hv]; simp only [uL, retR, retA, retL, ret1, ret1L, eget, hget, hset, St.set, eset, List.map_cons, List.map_nil, reduceIte, reduceCtorEq, Nat.reduceEqDiff, Nat.reduceLT, true_and, and_true, false_or, or_true, true_or, List.drop_zero, List.take_length, scalE_I, scalE_B, scalE_S])

theorem sloperef1_Shr (fr : Bool) (n : List Int) (k : Int) : FSpec0 Try.prog 73 [uL fr n, .int .i64 k] (fun r => r = lE (shrL n k) (movE n k)) := by
  refine FSpec0.of_facts fun hf => fspec0_of_run k73 ?_
  have ln : lim n := lim_of_factL hf.1
  simp only [uL, c73, W1, W2, W3, popTo, memb, res, wres, env0, byteAt, optI, cutB, cutL, sliceR, strR, ldCells, ldR, iaR, faR, lenR, lenSR, ixR, exR, nchkR, mxR, csR, up, ZV.av, ZV.fit, zfits, fits, fitsL, cellsOf, down, downL, downLL, stR, mkR, bsR, boxR, alR, apR, cpR, srcQ, solid, killC, killV, killE, killO, killH, hget, hset, hdel, pubV, pubC, pubO, renV, renC, renO, reduceIte, reduceCtorEq, Nat.reduceEqDiff, Nat.reduceLT, Nat.reduceAdd, Int.reduceToNat, Nat.reduceLeDiff, Int.reducePow, Int.reduceLE, Int.reduceLT]
  refine call1 (sloperef1_May fr n) (by repeat (first | exact subs_nil | refine subs_int ?_ | refine subs_ro ?_ | refine subs_bool ?_ | refine subs_str ?_ | refine subs_nilro ?_ | refine subs_lits rfl ?_ | refine subs_all rfl rfl (by simp) ?_ | refine subs_own rfl rfl ?_ | refine subs_fn ?_)) ?_
  simp only [uL, W1, W2, W3, popTo, memb, res, wres, env0, byteAt, optI, cutB, cutL, sliceR, strR, ldCells, ldR, iaR, faR, lenR, lenSR, ixR, exR, nchkR, mxR, csR, up, ZV.av, ZV.fit, zfits, fits, fitsL, cellsOf, down, downL, downLL, stR, mkR, bsR, boxR, alR, apR, cpR, srcQ, solid, killC, killV, killE, killO, killH, hget, hset, hdel, pubV, pubC, pubO, renV, renC, renO, reduceIte, reduceCtorEq, Nat.reduceEqDiff, Nat.reduceLT, Nat.reduceAdd, Int.reduceToNat, Nat.reduceLeDiff, Int.reducePow, Int.reduceLE, Int.reduceLT]
  have no : ∀ (h : ¬ (may n ∧ 0 ≤ k ∧ k ≤ 65536)) (env : Env), eget env 4 = .nilS → eget env 5 = .int .i64 (movE n k) → Ret0 [4, 5] (fun r => r = lE (shrL n k) (movE n k)) ⟨env, []⟩ := fun h env h4 h5 => by
    obtain ⟨_, _, e1⟩ := mov_no h
    exact ret1' (by rw [e1]; simp only [uL, h4, h5, retR, retA, retL, ret1, ret1L, eget, hget, hset, St.set, eset, List.map_cons, List.map_nil, reduceIte, reduceCtorEq, Nat.reduceEqDiff, Nat.reduceLT, true_and, and_true, false_or, or_true, true_or, List.drop_zero, List.take_length, scalE_I, scalE_B, scalE_S]; rfl)
  refine ⟨fun h => no (fun h' => h h'.1) _ rfl (by rw [movE, if_neg h]; rfl), fun h => ⟨fun h1 => no (by omega) _ rfl (by rw [movE, if_pos (Classical.not_not.1 h), if_pos (.inl h1)]; rfl), fun h1 => ⟨fun h2 => no (by omega) _ rfl (by rw [movE, if_pos (Classical.not_not.1 h), if_pos (.inr h2)]; rfl), fun h2 _ => ⟨by omega, ?_⟩⟩⟩⟩
  have hm := Classical.not_not.1 h
  have hl := hm.1
  obtain ⟨_, _, e1, e2⟩ := mov_yes (n := n) (k := k) ⟨hm, by omega, by omega⟩
  rw [e1, e2]
  obtain ⟨k, rfl⟩ := Int.eq_ofNat_of_zero_le (show 0 ≤ k by omega)
  rw [Int.toNat_natCast]
  obtain ⟨hpq, hp, hq⟩ := pq_split (s := k % 32) (by omega)
  have ek : (k : Int) / 32 = ((k / 32 : Nat) : Int) := by omega
  have es : (k : Int) % 32 % 18446744073709551616 = ((k % 32 : Nat) : Int) := by omega
  rw [ek]
  have hsm := shr_small ln k
  have hwh := shr_whole ln k
  generalize hs : k % 32 = s at *
  generalize ha : k / 32 = at_ at *
  generalize hP : (2 : Int) ^ s = p at *
  generalize (2 : Int) ^ (32 - s) = q at *
  have hs32 : s < 32 := by omega
  refine cut_intro (fun st => ∃ zs : List Int, zs.length ≤ n.length ∧ lim zs ∧ val zs = val n / 2 ^ k ∧ st = ⟨[(6, .own 43 0 zs.length true)], [(43, .arr 99 true true 1 (encI .u32) zs)]⟩) ?_ ?_
  · simp only [W1, W2, W3, popTo, memb, res, wres, env0, byteAt, optI, cutB, cutL, sliceR, strR, ldCells, ldR, iaR, faR, lenR, lenSR, ixR, exR, nchkR, mxR, csR, up, ZV.av, ZV.fit, zfits, fits, fitsL, cellsOf, down, downL, downLL, stR, mkR, bsR, boxR, alR, apR, cpR, srcQ, solid, killC, killV, killE, killO, killH, hget, hset, hdel, pubV, pubC, pubO, renV, renC, renO, reduceIte, reduceCtorEq, Nat.reduceEqDiff, Nat.reduceLT, Nat.reduceAdd, Int.reduceToNat, Nat.reduceLeDiff, Int.reducePow, Int.reduceLE, Int.reduceLT]
    by_cases hat0 : n.length < at_
    · refine loop_introE (fun m st => st = ⟨[(0, uL fr n), (1, .int .i64 k), (6, .own 43 0 0 true), (7, .int .i64 at_)], [(43, .arr 99 true true 1 (encI .u32) [])]⟩) 0
        (Ent.trans (Ent.nilv 6 43 99 1 (encI .u32) rfl rfl (by omega) (by omega)) (Ent.of_env (env' := [(0, uL fr n), (1, .int .i64 k), (6, .own 43 0 0 true), (7, .int .i64 at_)]) (by simp [eget, eset, uL]))) rfl ?_
      rintro m st rfl
      simp only [uL, W1, W2, W3, popTo, memb, res, wres, env0, byteAt, optI, cutB, cutL, sliceR, strR, ldCells, ldR, iaR, faR, lenR, lenSR, ixR, exR, nchkR, mxR, csR, up, ZV.av, ZV.fit, zfits, fits, fitsL, cellsOf, down, downL, downLL, stR, mkR, bsR, boxR, alR, apR, cpR, srcQ, solid, killC, killV, killE, killO, killH, hget, hset, hdel, pubV, pubC, pubO, renV, renC, renO, reduceIte, reduceCtorEq, Nat.reduceEqDiff, Nat.reduceLT, Nat.reduceAdd, Int.reduceToNat, Nat.reduceLeDiff, Int.reducePow, Int.reduceLE, Int.reduceLT]
      refine fun _ => ⟨fun h0 => by omega, fun h0 => join_intro [(6, .own 43 0 0 true)] (by simp [eget]) ⟨[], by simp, lim.nil, by rw [hsm (by omega)]; rfl, rfl⟩⟩
    refine loop_introE (fun m st => ∃ (i : Nat) (zs : List Int), at_ + i ≤ n.length ∧ m = n.length - at_ - i ∧ zs.length = i ∧ lim zs ∧ val (n.drop at_) / p = val zs + 4294967296 ^ i * (val (n.drop (at_ + i)) / p) ∧
      st = ⟨[(0, uL fr n), (1, .int .i64 k), (6, .own 43 0 zs.length true), (7, .int .i64 (at_ + i : Nat))], [(43, .arr 99 true true 1 (encI .u32) zs)]⟩) (n.length - at_)
      (Ent.trans (Ent.nilv 6 43 99 1 (encI .u32) rfl rfl (by omega) (by omega)) (Ent.of_env (env' := [(0, uL fr n), (1, .int .i64 k), (6, .own 43 0 0 true), (7, .int .i64 at_)]) (by simp [eget, eset, uL])))
      ⟨0, [], by omega, by omega, rfl, lim.nil, by simp [val], rfl⟩ ?_
    rintro m st ⟨i, zs, hi, rfl, hzl, lz, hv, rfl⟩
    simp only [uL, W1, W2, W3, popTo, memb, res, wres, env0, byteAt, optI, cutB, cutL, sliceR, strR, ldCells, ldR, iaR, faR, lenR, lenSR, ixR, exR, nchkR, mxR, csR, up, ZV.av, ZV.fit, zfits, fits, fitsL, cellsOf, down, downL, downLL, stR, mkR, bsR, boxR, alR, apR, cpR, srcQ, solid, killC, killV, killE, killO, killH, hget, hset, hdel, pubV, pubC, pubO, renV, renC, renO, reduceIte, reduceCtorEq, Nat.reduceEqDiff, Nat.reduceLT, Nat.reduceAdd, Int.reduceToNat, Nat.reduceLeDiff, Int.reducePow, Int.reduceLE, Int.reduceLT]
    refine fun _ => ⟨fun h0 => ?_, fun h0 => ?_⟩
    · refine call1 (sloperef1_at fr n (at_ + i)) (by repeat (first | exact subs_nil | refine subs_int ?_ | refine subs_ro ?_ | refine subs_bool ?_ | refine subs_str ?_ | refine subs_nilro ?_ | refine subs_lits rfl ?_ | refine subs_all rfl rfl (by simp) ?_ | refine subs_own rfl rfl ?_ | refine subs_fn ?_)) ?_
      simp only [uL, W1, W2, W3, popTo, memb, res, wres, env0, byteAt, optI, cutB, cutL, sliceR, strR, ldCells, ldR, iaR, faR, lenR, lenSR, ixR, exR, nchkR, mxR, csR, up, ZV.av, ZV.fit, zfits, fits, fitsL, cellsOf, down, downL, downLL, stR, mkR, bsR, boxR, alR, apR, cpR, srcQ, solid, killC, killV, killE, killO, killH, hget, hset, hdel, pubV, pubC, pubO, renV, renC, renO, reduceIte, reduceCtorEq, Nat.reduceEqDiff, Nat.reduceLT, Nat.reduceAdd, Int.reduceToNat, Nat.reduceLeDiff, Int.reducePow, Int.reduceLE, Int.reduceLT]
      refine ⟨by omega, ?_⟩
      rw [show ((at_ + i : Nat) : Int) + 1 = ((at_ + i + 1 : Nat) : Int) by omega]
      refine call1 (sloperef1_at fr n (at_ + i + 1)) (by repeat (first | exact subs_nil | refine subs_int ?_ | refine subs_ro ?_ | refine subs_bool ?_ | refine subs_str ?_ | refine subs_nilro ?_ | refine subs_lits rfl ?_ | refine subs_all rfl rfl (by simp) ?_ | refine subs_own rfl rfl ?_ | refine subs_fn ?_)) ?_
      have hx : n[at_ + i]? = some (n.getD (at_ + i) 0) := by rw [List.getD, List.getElem?_eq_getElem (by omega)]; rfl
      have hX := ln.getD (at_ + i)
      have hY := ln.getD (at_ + i + 1)
      have hD := val_drop_getD n (at_ + i + 1)
      have hdx := val_drop hx
      generalize n.getD (at_ + i) 0 = x at *
      generalize n.getD (at_ + i + 1) 0 = y at *
      obtain ⟨o0, o1, hstep⟩ := shr_step (x := x) (y := y) hpq hp hq hX hD
      have fin : val (n.drop at_) / p = val (zs ++ [(x + 4294967296 * y) / p % 4294967296]) + 4294967296 ^ (i + 1) * (val (n.drop (at_ + (i + 1))) / p) := by
        rw [hv, hdx, hstep, val_snoc, hzl, pow_s, show at_ + (i + 1) = at_ + i + 1 by omega, Int.mul_add, ← Int.mul_assoc]; omega
      have eo := or_mul (p := 32) (c := x) (y := y) (by rw [show (2 : Int) ^ 32 = 4294967296 from rfl]; exact hX) hY.1
      have if64 : (if s ≤ 64 then s else 64) = s := if_pos (by omega)
      have ey : y * 4294967296 % 18446744073709551616 = y * 4294967296 := by omega
      rw [show (2 : Int) ^ 32 = 4294967296 from rfl] at eo
      simp only [uL, W1, W2, W3, popTo, memb, res, wres, env0, byteAt, optI, cutB, cutL, sliceR, strR, ldCells, ldR, iaR, faR, lenR, lenSR, ixR, exR, nchkR, mxR, csR, up, ZV.av, ZV.fit, zfits, fits, fitsL, cellsOf, down, downL, downLL, stR, mkR, bsR, boxR, alR, apR, cpR, srcQ, solid, killC, killV, killE, killO, killH, hget, hset, hdel, pubV, pubC, pubO, renV, renC, renO, reduceIte, reduceCtorEq, Nat.reduceEqDiff, Nat.reduceLT, Nat.reduceAdd, Int.reduceToNat, Nat.reduceLeDiff, Int.reducePow, Int.reduceLE, Int.reduceLT, ey, eo, es, if64, hP]
      rw [Int.mul_comm y]
      refine fun _ => ⟨by omega, fun _ => ⟨by omega, fun _ => ⟨by omega, [(x + 4294967296 * y) / p % 4294967296], ⟨rfl, by simp; omega⟩, by omega, ?_⟩⟩⟩
      exact back_intro [(0, uL fr n), (1, .int .i64 k), (6, .own 43 0 (zs ++ [(x + 4294967296 * y) / p % 4294967296]).length true), (7, .int .i64 ((at_ + (i + 1) : Nat) : Int))] (by simp [eget, uL]; omega) (by omega)
        ⟨i + 1, _, by omega, rfl, by simp [hzl], lz.snoc ⟨o0, o1⟩, fin, rfl⟩
    · have hn : n.length = at_ + i := by omega
      rw [← hn, List.drop_length] at hv
      exact join_intro [(6, .own 43 0 zs.length true)] (by simp [eget]) ⟨zs, by omega, lz, by rw [hwh (by omega), hv]; simp [val], rfl⟩
  · rintro st ⟨zs, hzl, lz, hv, rfl⟩
    simp only [W1, W2, W3, popTo, memb, res, wres, env0, byteAt, optI, cutB, cutL, sliceR, strR, ldCells, ldR, iaR, faR, lenR, lenSR, ixR, exR, nchkR, mxR, csR, up, ZV.av, ZV.fit, zfits, fits, fitsL, cellsOf, down, downL, downLL, stR, mkR, bsR, boxR, alR, apR, cpR, srcQ, solid, killC, killV, killE, killO, killH, hget, hset, hdel, pubV, pubC, pubO, renV, renC, renO, reduceIte, reduceCtorEq, Nat.reduceEqDiff, Nat.reduceLT, Nat.reduceAdd, Int.reduceToNat, Nat.reduceLeDiff, Int.reducePow, Int.reduceLE, Int.reduceLT]
    refine call1 (sloperef1_fit false zs (by omega)) (by repeat (first | exact subs_nil | refine subs_all rfl rfl (by omega) ?_)) ?_
    simp only [uL, W1, W2, W3, popTo, memb, res, wres, env0, byteAt, optI, cutB, cutL, sliceR, strR, ldCells, ldR, iaR, faR, lenR, lenSR, ixR, exR, nchkR, mxR, csR, up, ZV.av, ZV.fit, zfits, fits, fitsL, cellsOf, down, downL, downLL, stR, mkR, bsR, boxR, alR, apR, cpR, srcQ, solid, killC, killV, killE, killO, killH, hget, hset, hdel, pubV, pubC, pubO, renV, renC, renO, reduceIte, reduceCtorEq, Nat.reduceEqDiff, Nat.reduceLT, Nat.reduceAdd, Int.reduceToNat, Nat.reduceLeDiff, Int.reducePow, Int.reduceLE, Int.reduceLT]
    have h1 : (limbs (val n / 2 ^ k)).length ≤ 2048 := by
      have := trimL_len zs
      rw [trimL_limbs lz, hv] at this; omega
    exact ret1' (by rw [hv, fitL, fitE, if_pos h1, if_pos h1]; simp only [uL, retR, retA, retL, ret1, ret1L, eget, hget, hset, St.set, eset, List.map_cons, List.map_nil, reduceIte, reduceCtorEq, Nat.reduceEqDiff, Nat.reduceLT, true_and, and_true, false_or, or_true, true_or, List.drop_zero, List.take_length, scalE_I, scalE_B, scalE_S])

end Go.Vc
