/- Texts of this proof, one behind the other: CodeB, ListMath, TokMath, TypMath, ValMath, TextMath, LabMath, SimShape, SimRow, SimLib, SimFast, SimFast2, SimNil. -/
import Derived.Test.YtlabklehgfdibaaDoorPkO2
import Derived.KernelRfl
import Derived.Lib.ItoaNum
import Derived.Lib.Join
import Derived.Lib.ItoaMem
import Derived.ChangeArms
import Derived.OpenShut
import Derived.SizedLaws
import Derived.DataReads
import Derived.Below
import Derived.Carry
import Derived.WalkKit
import Derived.ProofKit
import Derived.ShutString
import Derived.ChangeOld
/- Each function's translation is, by reckoning, the abstract code that is written out here; its contract follows from the predicate transformer over that code. -/
namespace Go.Proofs.YtlabklehgfdibaaDoor
set_option autoImplicit false
set_option maxRecDepth 100000
def broadsheetlaw23_LabelTells.n : Nat := 3
noncomputable def broadsheetlaw23_LabelTells.c : C := (.seq (.reg [⟨(some 2), none, (.box 24 (.t 0))⟩, ⟨(some 3), none, (.box 24 (.t 1))⟩, ⟨(some 4), none, (.mv (.c (.bool false)))⟩]) (.seq (.dreg [⟨(some 5), none, (.load (some 2) (.t 2))⟩, ⟨(some 6), none, (.call 6 [(.t 5)])⟩, ⟨(some 7), none, (.load (some 2) (.t 2))⟩, ⟨(some 8), none, (.call 7 [(.t 7)])⟩, ⟨(some 9), none, (.beq false (.t 6) (.t 8))⟩, ⟨(some 10), none, (.mv (.t 9))⟩, ⟨(some 11), (some (10, true)), (.load (some 2) (.t 2))⟩, ⟨(some 12), (some (10, true)), (.load (some 2) (.t 3))⟩, ⟨(some 13), (some (10, true)), (.call 8 [(.t 11), (.t 12)])⟩, ⟨(some 14), (some (10, true)), (.load (some 2) (.t 2))⟩, ⟨(some 15), (some (10, true)), (.load (some 2) (.t 3))⟩, ⟨(some 16), (some (10, true)), (.call 9 [(.t 14), (.t 15)])⟩, ⟨(some 17), (some (10, true)), (.beq false (.t 13) (.t 16))⟩, ⟨(some 18), none, (.pick (.t 10) (.t 17) (.c (.bool false)))⟩, ⟨(some 19), none, (.mv (.t 18))⟩, ⟨(some 20), (some (19, true)), (.load (some 2) (.t 2))⟩, ⟨(some 21), (some (19, true)), (.load (some 2) (.t 3))⟩, ⟨(some 22), (some (19, true)), (.call 10 [(.t 20), (.t 21)])⟩, ⟨(some 23), (some (19, true)), (.load (some 2) (.t 2))⟩, ⟨(some 24), (some (19, true)), (.load (some 2) (.t 3))⟩, ⟨(some 25), (some (19, true)), (.call 11 [(.t 23), (.t 24)])⟩, ⟨(some 26), (some (19, true)), (.aeq false [(.i .i64), (.i .u64)] (.t 22) (.t 25))⟩, ⟨(some 27), none, (.pick (.t 19) (.t 26) (.c (.bool false)))⟩, ⟨(some 28), none, (.mv (.t 27))⟩, ⟨(some 29), (some (28, true)), (.load (some 2) (.t 2))⟩, ⟨(some 30), (some (28, true)), (.load (some 2) (.t 3))⟩, ⟨(some 31), (some (28, true)), (.call 12 [(.t 29), (.t 30)])⟩, ⟨(some 32), (some (28, true)), (.load (some 2) (.t 2))⟩, ⟨(some 33), (some (28, true)), (.load (some 2) (.t 3))⟩, ⟨(some 34), (some (28, true)), (.call 13 [(.t 32), (.t 33)])⟩, ⟨(some 35), (some (28, true)), (.aeq false [(.i .i64), (.i .u64)] (.t 31) (.t 34))⟩, ⟨(some 36), none, (.pick (.t 28) (.t 35) (.c (.bool false)))⟩, ⟨(some 37), none, (.mv (.t 36))⟩, ⟨(some 38), (some (37, true)), (.load (some 2) (.t 2))⟩, ⟨(some 39), (some (37, true)), (.call 14 [(.t 38)])⟩, ⟨(some 40), (some (37, true)), (.load (some 2) (.t 2))⟩] [⟨(some 41), (some (37, true)), (.call 15 [(.t 40)])⟩, ⟨(some 42), (some (37, true)), (.bin .eql (.t 39) (.t 41))⟩, ⟨(some 43), none, (.pick (.t 37) (.t 42) (.c (.bool false)))⟩, ⟨(some 44), none, (.mv (.t 43))⟩, ⟨(some 45), (some (44, true)), (.call 16 [])⟩, ⟨(some 46), none, (.pick (.t 44) (.t 45) (.c (.bool false)))⟩, ⟨(some 4), none, (.mv (.t 46))⟩]) .ret))
theorem broadsheetlaw23_LabelTells.code : comp PG [] (Tryd.f3.body.getD .skip) = broadsheetlaw23_LabelTells.c := by kernel_rfl
theorem broadsheetlaw23_LabelTells.of {args : List AV} {H : AH} {K : AV → AH → Prop} (hl : args.length = 2) (h : wpA PG broadsheetlaw23_LabelTells.c none (endA [(.t 4)] K) (initFr args) H) : ACalls PG 3 args H K :=
  ACalls.of_code (fl := []) mixed Tryd.func3 (c := Tryd.f3.body.getD .skip) (by kernel_rfl) (by kernel_rfl) (by rw [hl]; exact of_decide_eq_true (by kernel_rfl)) (by rw [broadsheetlaw23_LabelTells.code]; kernel_rfl)
    (by rw [broadsheetlaw23_LabelTells.code, show compRes PG Tryd.f3.results.toList = [(.t 4)] from by kernel_rfl]; exact h)
def broadsheetlaw23_LabelOrder.n : Nat := 4
noncomputable def broadsheetlaw23_LabelOrder.c : C := (.seq (.reg [⟨(some 3), none, (.box 24 (.t 0))⟩, ⟨(some 4), none, (.box 24 (.t 1))⟩, ⟨(some 5), none, (.box 24 (.t 2))⟩, ⟨(some 6), none, (.mv (.c (.bool false)))⟩]) (.seq (.dreg [⟨(some 11), none, (.load (some 2) (.t 3))⟩, ⟨(some 12), none, (.load (some 2) (.t 4))⟩, ⟨(some 13), none, (.call 10 [(.t 11), (.t 12)])⟩, ⟨(some 14), none, (.load (some 2) (.t 3))⟩, ⟨(some 15), none, (.load (some 2) (.t 4))⟩, ⟨(some 16), none, (.call 12 [(.t 14), (.t 15)])⟩, ⟨(some 7), none, (.allc 24 [(.int .i64 0), (.int .u64 0)])⟩, ⟨(some 8), none, (.allc 24 [(.int .i64 0), (.int .u64 0)])⟩] [⟨none, none, (.store 2 (.t 7) (.t 13))⟩, ⟨none, none, (.store 2 (.t 8) (.t 16))⟩]) (.seq (.seq (.dreg [⟨(some 17), none, (.load (some 2) (.t 3))⟩, ⟨(some 18), none, (.load (some 2) (.t 3))⟩, ⟨(some 19), none, (.call 8 [(.t 17), (.t 18)])⟩, ⟨(some 20), none, (.un .not (.t 19))⟩, ⟨(some 21), none, (.mv (.t 20))⟩, ⟨(some 22), (some (21, false)), (.load (some 2) (.t 3))⟩, ⟨(some 23), (some (21, false)), (.load (some 2) (.t 4))⟩, ⟨(some 24), (some (21, false)), (.call 8 [(.t 22), (.t 23)])⟩, ⟨(some 25), (some (21, false)), (.mv (.t 24))⟩, ⟨(some 26), (some (25, true)), (.load (some 2) (.t 4))⟩, ⟨(some 27), (some (25, true)), (.load (some 2) (.t 3))⟩, ⟨(some 28), (some (25, true)), (.call 8 [(.t 26), (.t 27)])⟩, ⟨(some 29), (some (25, true)), (.load (some 2) (.t 3))⟩, ⟨(some 30), (some (25, true)), (.load (some 2) (.t 4))⟩, ⟨(some 31), (some (25, true)), (.aeq false [(.i .i64), (.i .u64)] (.t 29) (.t 30))⟩, ⟨(some 32), (some (25, true)), (.beq true (.t 28) (.t 31))⟩, ⟨(some 33), (some (21, false)), (.pick (.t 25) (.t 32) (.c (.bool false)))⟩, ⟨(some 34), none, (.pick (.t 21) (.c (.bool true)) (.t 33))⟩, ⟨(some 35), none, (.mv (.t 34))⟩, ⟨(some 36), (some (35, false)), (.load (some 2) (.t 3))⟩, ⟨(some 37), (some (35, false)), (.load (some 2) (.t 4))⟩, ⟨(some 38), (some (35, false)), (.call 8 [(.t 36), (.t 37)])⟩, ⟨(some 39), (some (35, false)), (.mv (.t 38))⟩, ⟨(some 40), (some (39, true)), (.load (some 2) (.t 4))⟩, ⟨(some 41), (some (39, true)), (.load (some 2) (.t 5))⟩, ⟨(some 42), (some (39, true)), (.call 8 [(.t 40), (.t 41)])⟩, ⟨(some 43), (some (35, false)), (.pick (.t 39) (.t 42) (.c (.bool false)))⟩, ⟨(some 44), (some (35, false)), (.mv (.t 43))⟩, ⟨(some 45), (some (44, true)), (.load (some 2) (.t 3))⟩, ⟨(some 46), (some (44, true)), (.load (some 2) (.t 5))⟩] [⟨(some 47), (some (44, true)), (.call 8 [(.t 45), (.t 46)])⟩, ⟨(some 48), (some (44, true)), (.un .not (.t 47))⟩, ⟨(some 49), (some (35, false)), (.pick (.t 44) (.t 48) (.c (.bool false)))⟩, ⟨(some 50), none, (.pick (.t 35) (.c (.bool true)) (.t 49))⟩]) (.cond (.t 50) (.seq (.reg [⟨(some 6), none, (.mv (.c (.bool false)))⟩]) .ret) .skip)) (.seq (.seq (.reg [⟨(some 51), none, (.load (some 2) (.t 3))⟩, ⟨(some 52), none, (.load (some 2) (.t 7))⟩, ⟨(some 53), none, (.call 8 [(.t 51), (.t 52)])⟩, ⟨(some 54), none, (.un .not (.t 53))⟩, ⟨(some 55), none, (.mv (.t 54))⟩, ⟨(some 56), (some (55, false)), (.load (some 2) (.t 4))⟩, ⟨(some 57), (some (55, false)), (.load (some 2) (.t 7))⟩, ⟨(some 58), (some (55, false)), (.call 8 [(.t 56), (.t 57)])⟩, ⟨(some 59), (some (55, false)), (.un .not (.t 58))⟩, ⟨(some 60), none, (.pick (.t 55) (.c (.bool true)) (.t 59))⟩, ⟨(some 61), none, (.mv (.t 60))⟩, ⟨(some 62), (some (61, false)), (.load (some 2) (.t 8))⟩, ⟨(some 63), (some (61, false)), (.load (some 2) (.t 3))⟩, ⟨(some 64), (some (61, false)), (.call 8 [(.t 62), (.t 63)])⟩, ⟨(some 65), (some (61, false)), (.un .not (.t 64))⟩, ⟨(some 66), none, (.pick (.t 61) (.c (.bool true)) (.t 65))⟩, ⟨(some 67), none, (.mv (.t 66))⟩, ⟨(some 68), (some (67, false)), (.load (some 2) (.t 8))⟩, ⟨(some 69), (some (67, false)), (.load (some 2) (.t 4))⟩, ⟨(some 70), (some (67, false)), (.call 8 [(.t 68), (.t 69)])⟩, ⟨(some 71), (some (67, false)), (.un .not (.t 70))⟩, ⟨(some 72), none, (.pick (.t 67) (.c (.bool true)) (.t 71))⟩]) (.cond (.t 72) (.seq (.reg [⟨(some 6), none, (.mv (.c (.bool false)))⟩]) .ret) .skip)) (.seq (.seq (.dreg [⟨(some 73), none, (.load (some 2) (.t 3))⟩, ⟨(some 74), none, (.load (some 2) (.t 5))⟩, ⟨(some 75), none, (.call 8 [(.t 73), (.t 74)])⟩, ⟨(some 76), none, (.mv (.t 75))⟩, ⟨(some 77), (some (76, true)), (.load (some 2) (.t 4))⟩, ⟨(some 78), (some (76, true)), (.load (some 2) (.t 5))⟩, ⟨(some 79), (some (76, true)), (.call 8 [(.t 77), (.t 78)])⟩, ⟨(some 80), none, (.pick (.t 76) (.t 79) (.c (.bool false)))⟩, ⟨(some 81), none, (.load (some 2) (.t 7))⟩, ⟨(some 82), none, (.load (some 2) (.t 5))⟩, ⟨(some 83), none, (.call 8 [(.t 81), (.t 82)])⟩, ⟨(some 84), none, (.beq true (.t 80) (.t 83))⟩, ⟨(some 85), none, (.mv (.t 84))⟩, ⟨(some 86), (some (85, false)), (.load (some 2) (.t 5))⟩, ⟨(some 87), (some (85, false)), (.load (some 2) (.t 3))⟩, ⟨(some 88), (some (85, false)), (.call 8 [(.t 86), (.t 87)])⟩, ⟨(some 89), (some (85, false)), (.mv (.t 88))⟩, ⟨(some 90), (some (89, true)), (.load (some 2) (.t 5))⟩, ⟨(some 91), (some (89, true)), (.load (some 2) (.t 4))⟩, ⟨(some 92), (some (89, true)), (.call 8 [(.t 90), (.t 91)])⟩, ⟨(some 93), (some (85, false)), (.pick (.t 89) (.t 92) (.c (.bool false)))⟩, ⟨(some 94), (some (85, false)), (.load (some 2) (.t 5))⟩, ⟨(some 95), (some (85, false)), (.load (some 2) (.t 8))⟩, ⟨(some 96), (some (85, false)), (.call 8 [(.t 94), (.t 95)])⟩] [⟨(some 97), (some (85, false)), (.beq true (.t 93) (.t 96))⟩, ⟨(some 98), none, (.pick (.t 85) (.c (.bool true)) (.t 97))⟩]) (.cond (.t 98) (.seq (.reg [⟨(some 6), none, (.mv (.c (.bool false)))⟩]) .ret) .skip)) (.seq (.reg [⟨(some 100), none, (.load (some 2) (.t 3))⟩, ⟨(some 101), none, (.call 14 [(.t 100)])⟩, ⟨(some 102), none, (.call 17 [(.t 101)])⟩, ⟨(some 99), none, (.mv (.t 102))⟩, ⟨(some 103), none, (.extr (.t 99) 0)⟩, ⟨(some 104), none, (.extr (.t 99) 1)⟩, ⟨(some 9), none, (.allc 24 [(.int .i64 0), (.int .u64 0)])⟩, ⟨none, none, (.store 2 (.t 9) (.t 103))⟩, ⟨(some 10), none, (.mv (.t 104))⟩]) (.seq (.dreg [⟨(some 105), none, (.mv (.t 10))⟩, ⟨(some 106), none, (.load (some 2) (.t 3))⟩, ⟨(some 107), none, (.call 6 [(.t 106)])⟩, ⟨(some 108), none, (.beq false (.t 105) (.t 107))⟩, ⟨(some 109), none, (.mv (.t 108))⟩, ⟨(some 110), (some (109, true)), (.mv (.t 10))⟩, ⟨(some 111), (some (109, true)), (.un .not (.t 110))⟩, ⟨(some 112), (some (109, true)), (.mv (.t 111))⟩, ⟨(some 113), (some (112, false)), (.load (some 2) (.t 9))⟩, ⟨(some 114), (some (112, false)), (.load (some 2) (.t 3))⟩, ⟨(some 115), (some (112, false)), (.aeq false [(.i .i64), (.i .u64)] (.t 113) (.t 114))⟩, ⟨(some 116), (some (109, true)), (.pick (.t 112) (.c (.bool true)) (.t 115))⟩, ⟨(some 117), none, (.pick (.t 109) (.t 116) (.c (.bool false)))⟩, ⟨(some 118), none, (.mv (.t 117))⟩, ⟨(some 119), (some (118, true)), (.load (some 2) (.t 3))⟩, ⟨(some 120), (some (118, true)), (.load (some 2) (.t 4))⟩, ⟨(some 121), (some (118, true)), (.call 8 [(.t 119), (.t 120)])⟩, ⟨(some 122), (some (118, true)), (.load (some 2) (.t 7))⟩, ⟨(some 123), (some (118, true)), (.load (some 2) (.t 4))⟩, ⟨(some 124), (some (118, true)), (.aeq false [(.i .i64), (.i .u64)] (.t 122) (.t 123))⟩, ⟨(some 125), (some (118, true)), (.beq false (.t 121) (.t 124))⟩, ⟨(some 126), none, (.pick (.t 118) (.t 125) (.c (.bool false)))⟩, ⟨(some 127), none, (.mv (.t 126))⟩, ⟨(some 128), (some (127, true)), (.load (some 2) (.t 3))⟩, ⟨(some 129), (some (127, true)), (.load (some 2) (.t 4))⟩, ⟨(some 130), (some (127, true)), (.call 8 [(.t 128), (.t 129)])⟩, ⟨(some 131), (some (127, true)), (.load (some 2) (.t 8))⟩, ⟨(some 132), (some (127, true)), (.load (some 2) (.t 3))⟩, ⟨(some 133), (some (127, true)), (.aeq false [(.i .i64), (.i .u64)] (.t 131) (.t 132))⟩] [⟨(some 134), (some (127, true)), (.beq false (.t 130) (.t 133))⟩, ⟨(some 135), none, (.pick (.t 127) (.t 134) (.c (.bool false)))⟩, ⟨(some 136), none, (.mv (.t 135))⟩, ⟨(some 137), (some (136, true)), (.call 16 [])⟩, ⟨(some 138), none, (.pick (.t 136) (.t 137) (.c (.bool false)))⟩, ⟨(some 6), none, (.mv (.t 138))⟩]) .ret)))))))
theorem broadsheetlaw23_LabelOrder.code : comp PG [] (Tryd.f4.body.getD .skip) = broadsheetlaw23_LabelOrder.c := by kernel_rfl
theorem broadsheetlaw23_LabelOrder.of {args : List AV} {H : AH} {K : AV → AH → Prop} (hl : args.length = 3) (h : wpA PG broadsheetlaw23_LabelOrder.c none (endA [(.t 6)] K) (initFr args) H) : ACalls PG 4 args H K :=
  ACalls.of_code (fl := []) mixed Tryd.func4 (c := Tryd.f4.body.getD .skip) (by kernel_rfl) (by kernel_rfl) (by rw [hl]; exact of_decide_eq_true (by kernel_rfl)) (by rw [broadsheetlaw23_LabelOrder.code]; kernel_rfl)
    (by rw [broadsheetlaw23_LabelOrder.code, show compRes PG Tryd.f4.results.toList = [(.t 6)] from by kernel_rfl]; exact h)
def broadsheetlaw23_LabelReads.n : Nat := 5
noncomputable def broadsheetlaw23_LabelReads.c : C := (.seq (.reg [⟨(some 4), none, (.mv (.c (.bool false)))⟩]) (.seq (.seq (.reg [⟨(some 13), none, (.mv (.t 0))⟩, ⟨(some 14), none, (.len true (.t 13))⟩, ⟨(some 15), none, (.bin .gtr (.t 14) (.c (.int .i64 2000)))⟩, ⟨(some 16), none, (.mv (.t 15))⟩, ⟨(some 17), (some (16, false)), (.mv (.t 1))⟩, ⟨(some 18), (some (16, false)), (.len false (.t 17))⟩, ⟨(some 19), (some (16, false)), (.bin .gtr (.t 18) (.c (.int .i64 200)))⟩, ⟨(some 20), none, (.pick (.t 16) (.c (.bool true)) (.t 19))⟩]) (.cond (.t 20) (.seq (.reg [⟨(some 21), none, (.call 16 [])⟩, ⟨(some 4), none, (.mv (.t 21))⟩]) .ret) .skip)) (.seq (.reg [⟨(some 23), none, (.mv (.t 0))⟩, ⟨(some 24), none, (.call 17 [(.t 23)])⟩, ⟨(some 22), none, (.mv (.t 24))⟩, ⟨(some 25), none, (.extr (.t 22) 0)⟩, ⟨(some 26), none, (.extr (.t 22) 1)⟩, ⟨(some 5), none, (.allc 24 [(.int .i64 0), (.int .u64 0)])⟩, ⟨none, none, (.store 2 (.t 5) (.t 25))⟩, ⟨(some 6), none, (.mv (.t 26))⟩]) (.seq (.reg [⟨(some 28), none, (.mv (.t 0))⟩, ⟨(some 29), none, (.call 18 [(.t 28)])⟩, ⟨(some 27), none, (.mv (.t 29))⟩, ⟨(some 30), none, (.extr (.t 27) 0)⟩, ⟨(some 31), none, (.extr (.t 27) 1)⟩, ⟨(some 7), none, (.allc 24 [(.int .i64 0), (.int .u64 0)])⟩, ⟨none, none, (.store 2 (.t 7) (.t 30))⟩, ⟨(some 8), none, (.mv (.t 31))⟩]) (.seq (.reg [⟨(some 32), none, (.mv (.t 1))⟩, ⟨(some 33), none, (.call 19 [(.t 32)])⟩, ⟨(some 34), none, (.mv (.t 1))⟩, ⟨(some 35), none, (.call 20 [(.t 34)])⟩, ⟨(some 9), none, (.mv (.t 33))⟩, ⟨(some 10), none, (.mv (.t 35))⟩]) (.seq (.seq (.reg [⟨(some 36), none, (.load (some 2) (.t 5))⟩, ⟨(some 37), none, (.load (some 2) (.t 7))⟩, ⟨(some 38), none, (.aeq true [(.i .i64), (.i .u64)] (.t 36) (.t 37))⟩, ⟨(some 39), none, (.mv (.t 38))⟩, ⟨(some 40), (some (39, false)), (.mv (.t 6))⟩, ⟨(some 41), (some (39, false)), (.mv (.t 8))⟩, ⟨(some 42), (some (39, false)), (.beq true (.t 40) (.t 41))⟩, ⟨(some 43), none, (.pick (.t 39) (.c (.bool true)) (.t 42))⟩, ⟨(some 44), none, (.mv (.t 43))⟩, ⟨(some 45), (some (44, false)), (.mv (.t 9))⟩, ⟨(some 46), (some (44, false)), (.len false (.t 45))⟩, ⟨(some 47), (some (44, false)), (.mv (.t 10))⟩, ⟨(some 48), (some (44, false)), (.len false (.t 47))⟩, ⟨(some 49), (some (44, false)), (.bin .neq (.t 46) (.t 48))⟩, ⟨(some 50), none, (.pick (.t 44) (.c (.bool true)) (.t 49))⟩]) (.cond (.t 50) (.seq (.reg [⟨(some 4), none, (.mv (.c (.bool false)))⟩]) .ret) .skip)) (.seq (.seq (.reg [⟨(some 11), none, (.mv (.c (.int .i64 0)))⟩]) (.block 0 (.loop (.seq (.seq (.reg [⟨(some 51), none, (.mv (.t 11))⟩, ⟨(some 52), none, (.mv (.t 9))⟩, ⟨(some 53), none, (.len false (.t 52))⟩, ⟨(some 54), none, (.bin .lss (.t 51) (.t 53))⟩]) (.cond (.t 54) .skip (.exit 0))) (.seq (.block 1 (.seq (.seq (.dreg [⟨(some 57), none, (.mv (.t 9))⟩, ⟨(some 58), none, (.mv (.t 11))⟩, ⟨(some 59), none, (.iaddr 1 (.t 57) (.t 58))⟩, ⟨(some 60), none, (.load none (.t 59))⟩, ⟨(some 61), none, (.len false (.t 60))⟩, ⟨(some 62), none, (.mv (.t 10))⟩, ⟨(some 63), none, (.mv (.t 11))⟩, ⟨(some 64), none, (.iaddr 1 (.t 62) (.t 63))⟩, ⟨(some 65), none, (.load none (.t 64))⟩, ⟨(some 66), none, (.len false (.t 65))⟩] [⟨(some 67), none, (.bin .neq (.t 61) (.t 66))⟩]) (.cond (.t 67) (.seq (.reg [⟨(some 4), none, (.mv (.c (.bool false)))⟩]) .ret) .skip)) (.seq (.reg [⟨(some 12), none, (.mv (.c (.int .i64 0)))⟩]) (.block 2 (.loop (.seq (.seq (.reg [⟨(some 68), none, (.mv (.t 12))⟩, ⟨(some 69), none, (.mv (.t 9))⟩, ⟨(some 70), none, (.mv (.t 11))⟩, ⟨(some 71), none, (.iaddr 1 (.t 69) (.t 70))⟩, ⟨(some 72), none, (.load none (.t 71))⟩, ⟨(some 73), none, (.len false (.t 72))⟩, ⟨(some 74), none, (.bin .lss (.t 68) (.t 73))⟩]) (.cond (.t 74) .skip (.exit 2))) (.seq (.block 3 (.seq (.dreg [⟨(some 77), none, (.mv (.t 9))⟩, ⟨(some 78), none, (.mv (.t 11))⟩, ⟨(some 79), none, (.iaddr 1 (.t 77) (.t 78))⟩, ⟨(some 80), none, (.load none (.t 79))⟩, ⟨(some 81), none, (.mv (.t 12))⟩, ⟨(some 82), none, (.iaddr 1 (.t 80) (.t 81))⟩, ⟨(some 83), none, (.load none (.t 82))⟩, ⟨(some 84), none, (.mv (.t 10))⟩, ⟨(some 85), none, (.mv (.t 11))⟩, ⟨(some 86), none, (.iaddr 1 (.t 84) (.t 85))⟩, ⟨(some 87), none, (.load none (.t 86))⟩, ⟨(some 88), none, (.mv (.t 12))⟩, ⟨(some 89), none, (.iaddr 1 (.t 87) (.t 88))⟩, ⟨(some 90), none, (.load none (.t 89))⟩] [⟨(some 91), none, (.bin .neq (.t 83) (.t 90))⟩]) (.cond (.t 91) (.seq (.reg [⟨(some 4), none, (.mv (.c (.bool false)))⟩]) .ret) .skip))) (.reg [⟨(some 75), none, (.mv (.t 12))⟩, ⟨(some 76), none, (.bin .add (.t 75) (.c (.int .i64 1)))⟩, ⟨(some 12), none, (.mv (.t 76))⟩])))))))) (.reg [⟨(some 55), none, (.mv (.t 11))⟩, ⟨(some 56), none, (.bin .add (.t 55) (.c (.int .i64 1)))⟩, ⟨(some 11), none, (.mv (.t 56))⟩])))))) (.seq (.reg [⟨(some 92), none, (.call 16 [])⟩, ⟨(some 4), none, (.mv (.t 92))⟩]) .ret))))))))
theorem broadsheetlaw23_LabelReads.code : comp PG [] (Tryd.f5.body.getD .skip) = broadsheetlaw23_LabelReads.c := by kernel_rfl
theorem broadsheetlaw23_LabelReads.of {args : List AV} {H : AH} {K : AV → AH → Prop} (hl : args.length = 2) (h : wpA PG broadsheetlaw23_LabelReads.c none (endA [(.t 4)] K) (initFr args) H) : ACalls PG 5 args H K :=
  ACalls.of_code (fl := []) mixed Tryd.func5 (c := Tryd.f5.body.getD .skip) (by kernel_rfl) (by kernel_rfl) (by rw [hl]; exact of_decide_eq_true (by kernel_rfl)) (by rw [broadsheetlaw23_LabelReads.code]; kernel_rfl)
    (by rw [broadsheetlaw23_LabelReads.code, show compRes PG Tryd.f5.results.toList = [(.t 4)] from by kernel_rfl]; exact h)
def label_May.n : Nat := 6
noncomputable def label_May.c : C := (.seq (.reg [⟨(some 1), none, (.box 24 (.t 0))⟩, ⟨(some 2), none, (.mv (.c (.bool false)))⟩]) (.seq (.reg [⟨(some 3), none, (.faddr 0 (.t 1))⟩, ⟨(some 4), none, (.load none (.t 3))⟩, ⟨(some 5), none, (.bin .geq (.t 4) (.c (.int .i64 0)))⟩, ⟨(some 6), none, (.mv (.t 5))⟩, ⟨(some 7), (some (6, true)), (.faddr 0 (.t 1))⟩, ⟨(some 8), (some (6, true)), (.load none (.t 7))⟩, ⟨(some 9), (some (6, true)), (.bin .leq (.t 8) (.c (.int .i64 15)))⟩, ⟨(some 10), none, (.pick (.t 6) (.t 9) (.c (.bool false)))⟩, ⟨(some 2), none, (.mv (.t 10))⟩]) .ret))
theorem label_May.code : comp PG [] (Tryd.f6.body.getD .skip) = label_May.c := by kernel_rfl
theorem label_May.of {args : List AV} {H : AH} {K : AV → AH → Prop} (hl : args.length = 1) (h : wpA PG label_May.c none (endA [(.t 2)] K) (initFr args) H) : ACalls PG 6 args H K :=
  ACalls.of_code (fl := []) mixed Tryd.func6 (c := Tryd.f6.body.getD .skip) (by kernel_rfl) (by kernel_rfl) (by rw [hl]; exact of_decide_eq_true (by kernel_rfl)) (by rw [label_May.code]; kernel_rfl)
    (by rw [label_May.code, show compRes PG Tryd.f6.results.toList = [(.t 2)] from by kernel_rfl]; exact h)
def broadsheetref23_May.n : Nat := 7
noncomputable def broadsheetref23_May.c : C := (.seq (.reg [⟨(some 1), none, (.box 24 (.t 0))⟩, ⟨(some 2), none, (.mv (.c (.bool false)))⟩]) (.seq (.reg [⟨(some 3), none, (.faddr 0 (.t 1))⟩, ⟨(some 4), none, (.load none (.t 3))⟩, ⟨(some 5), none, (.bin .geq (.t 4) (.c (.int .i64 0)))⟩, ⟨(some 6), none, (.mv (.t 5))⟩, ⟨(some 7), (some (6, true)), (.faddr 0 (.t 1))⟩, ⟨(some 8), (some (6, true)), (.load none (.t 7))⟩, ⟨(some 9), (some (6, true)), (.bin .lss (.t 8) (.c (.int .i64 16)))⟩, ⟨(some 10), none, (.pick (.t 6) (.t 9) (.c (.bool false)))⟩, ⟨(some 2), none, (.mv (.t 10))⟩]) .ret))
theorem broadsheetref23_May.code : comp PG [] (Tryd.f7.body.getD .skip) = broadsheetref23_May.c := by kernel_rfl
theorem broadsheetref23_May.of {args : List AV} {H : AH} {K : AV → AH → Prop} (hl : args.length = 1) (h : wpA PG broadsheetref23_May.c none (endA [(.t 2)] K) (initFr args) H) : ACalls PG 7 args H K :=
  ACalls.of_code (fl := []) mixed Tryd.func7 (c := Tryd.f7.body.getD .skip) (by kernel_rfl) (by kernel_rfl) (by rw [hl]; exact of_decide_eq_true (by kernel_rfl)) (by rw [broadsheetref23_May.code]; kernel_rfl)
    (by rw [broadsheetref23_May.code, show compRes PG Tryd.f7.results.toList = [(.t 2)] from by kernel_rfl]; exact h)
def label_Leq.n : Nat := 8
noncomputable def label_Leq.c : C := (.seq (.reg [⟨(some 2), none, (.box 24 (.t 0))⟩, ⟨(some 3), none, (.box 24 (.t 1))⟩, ⟨(some 4), none, (.mv (.c (.bool false)))⟩]) (.seq (.reg [⟨(some 5), none, (.faddr 0 (.t 2))⟩, ⟨(some 6), none, (.load none (.t 5))⟩, ⟨(some 7), none, (.faddr 0 (.t 3))⟩, ⟨(some 8), none, (.load none (.t 7))⟩, ⟨(some 9), none, (.bin .leq (.t 6) (.t 8))⟩, ⟨(some 10), none, (.mv (.t 9))⟩, ⟨(some 11), (some (10, true)), (.faddr 1 (.t 2))⟩, ⟨(some 12), (some (10, true)), (.load none (.t 11))⟩, ⟨(some 13), (some (10, true)), (.faddr 1 (.t 3))⟩, ⟨(some 14), (some (10, true)), (.load none (.t 13))⟩, ⟨(some 15), (some (10, true)), (.bin .andNot (.t 12) (.t 14))⟩, ⟨(some 16), (some (10, true)), (.bin .eql (.t 15) (.c (.int .u64 0)))⟩, ⟨(some 17), none, (.pick (.t 10) (.t 16) (.c (.bool false)))⟩, ⟨(some 4), none, (.mv (.t 17))⟩]) .ret))
theorem label_Leq.code : comp PG [] (Tryd.f8.body.getD .skip) = label_Leq.c := by kernel_rfl
theorem label_Leq.of {args : List AV} {H : AH} {K : AV → AH → Prop} (hl : args.length = 2) (h : wpA PG label_Leq.c none (endA [(.t 4)] K) (initFr args) H) : ACalls PG 8 args H K :=
  ACalls.of_code (fl := []) mixed Tryd.func8 (c := Tryd.f8.body.getD .skip) (by kernel_rfl) (by kernel_rfl) (by rw [hl]; exact of_decide_eq_true (by kernel_rfl)) (by rw [label_Leq.code]; kernel_rfl)
    (by rw [label_Leq.code, show compRes PG Tryd.f8.results.toList = [(.t 4)] from by kernel_rfl]; exact h)
def broadsheetref23_Leq.n : Nat := 9
noncomputable def broadsheetref23_Leq.c : C := (.seq (.reg [⟨(some 2), none, (.box 24 (.t 0))⟩, ⟨(some 3), none, (.box 24 (.t 1))⟩, ⟨(some 4), none, (.mv (.c (.bool false)))⟩]) (.seq (.reg [⟨(some 8), none, (.load (some 2) (.t 2))⟩, ⟨(some 9), none, (.call 21 [(.t 8)])⟩, ⟨(some 5), none, (.mv (.t 9))⟩]) (.seq (.reg [⟨(some 10), none, (.load (some 2) (.t 3))⟩, ⟨(some 11), none, (.call 21 [(.t 10)])⟩, ⟨(some 6), none, (.mv (.t 11))⟩]) (.seq (.seq (.reg [⟨(some 7), none, (.mv (.c (.int .i64 0)))⟩]) (.block 0 (.loop (.seq (.seq (.reg [⟨(some 12), none, (.mv (.t 7))⟩, ⟨(some 13), none, (.bin .lss (.t 12) (.c (.int .i64 64)))⟩]) (.cond (.t 13) .skip (.exit 0))) (.seq (.block 1 (.seq (.reg [⟨(some 16), none, (.mv (.t 5))⟩, ⟨(some 17), none, (.mv (.t 7))⟩, ⟨(some 18), none, (.iaddr 1 (.t 16) (.t 17))⟩, ⟨(some 19), none, (.load none (.t 18))⟩, ⟨(some 20), none, (.mv (.t 19))⟩, ⟨(some 21), (some (20, true)), (.mv (.t 6))⟩, ⟨(some 22), (some (20, true)), (.mv (.t 7))⟩, ⟨(some 23), (some (20, true)), (.iaddr 1 (.t 21) (.t 22))⟩, ⟨(some 24), (some (20, true)), (.load none (.t 23))⟩, ⟨(some 25), (some (20, true)), (.un .not (.t 24))⟩, ⟨(some 26), none, (.pick (.t 20) (.t 25) (.c (.bool false)))⟩]) (.cond (.t 26) (.seq (.reg [⟨(some 4), none, (.mv (.c (.bool false)))⟩]) .ret) .skip))) (.reg [⟨(some 14), none, (.mv (.t 7))⟩, ⟨(some 15), none, (.bin .add (.t 14) (.c (.int .i64 1)))⟩, ⟨(some 7), none, (.mv (.t 15))⟩])))))) (.seq (.reg [⟨(some 27), none, (.faddr 0 (.t 2))⟩, ⟨(some 28), none, (.load none (.t 27))⟩, ⟨(some 29), none, (.faddr 0 (.t 3))⟩, ⟨(some 30), none, (.load none (.t 29))⟩, ⟨(some 31), none, (.bin .leq (.t 28) (.t 30))⟩, ⟨(some 4), none, (.mv (.t 31))⟩]) .ret)))))
theorem broadsheetref23_Leq.code : comp PG [] (Tryd.f9.body.getD .skip) = broadsheetref23_Leq.c := by kernel_rfl
theorem broadsheetref23_Leq.of {args : List AV} {H : AH} {K : AV → AH → Prop} (hl : args.length = 2) (h : wpA PG broadsheetref23_Leq.c none (endA [(.t 4)] K) (initFr args) H) : ACalls PG 9 args H K :=
  ACalls.of_code (fl := []) mixed Tryd.func9 (c := Tryd.f9.body.getD .skip) (by kernel_rfl) (by kernel_rfl) (by rw [hl]; exact of_decide_eq_true (by kernel_rfl)) (by rw [broadsheetref23_Leq.code]; kernel_rfl)
    (by rw [broadsheetref23_Leq.code, show compRes PG Tryd.f9.results.toList = [(.t 4)] from by kernel_rfl]; exact h)
def label_Join.n : Nat := 10
noncomputable def label_Join.c : C := (.seq (.reg [⟨(some 2), none, (.box 24 (.t 0))⟩, ⟨(some 3), none, (.box 24 (.t 1))⟩, ⟨(some 4), none, (.allc 24 [(.int .i64 0), (.int .u64 0)])⟩]) (.seq (.reg [⟨(some 5), none, (.faddr 0 (.t 2))⟩, ⟨(some 6), none, (.load none (.t 5))⟩, ⟨(some 7), none, (.faddr 0 (.t 3))⟩, ⟨(some 8), none, (.load none (.t 7))⟩, ⟨(some 9), none, (.mm true [(.t 6), (.t 8)])⟩, ⟨(some 10), none, (.faddr 1 (.t 2))⟩, ⟨(some 11), none, (.load none (.t 10))⟩, ⟨(some 12), none, (.faddr 1 (.t 3))⟩, ⟨(some 13), none, (.load none (.t 12))⟩, ⟨(some 14), none, (.bin .or (.t 11) (.t 13))⟩, ⟨(some 15), none, (.build [(.int .i64 0), (.int .u64 0)] [(0, (1, (.t 9))), (1, (1, (.t 14)))])⟩, ⟨none, none, (.store 2 (.t 4) (.t 15))⟩]) .ret))
theorem label_Join.code : comp PG [] (Tryd.f10.body.getD .skip) = label_Join.c := by kernel_rfl
theorem label_Join.of {args : List AV} {H : AH} {K : AV → AH → Prop} (hl : args.length = 2) (h : wpA PG label_Join.c none (endA [(.cell 4 (some 2))] K) (initFr args) H) : ACalls PG 10 args H K :=
  ACalls.of_code (fl := []) mixed Tryd.func10 (c := Tryd.f10.body.getD .skip) (by kernel_rfl) (by kernel_rfl) (by rw [hl]; exact of_decide_eq_true (by kernel_rfl)) (by rw [label_Join.code]; kernel_rfl)
    (by rw [label_Join.code, show compRes PG Tryd.f10.results.toList = [(.cell 4 (some 2))] from by kernel_rfl]; exact h)
def broadsheetref23_Join.n : Nat := 11
noncomputable def broadsheetref23_Join.c : C := (.seq (.reg [⟨(some 2), none, (.box 24 (.t 0))⟩, ⟨(some 3), none, (.box 24 (.t 1))⟩, ⟨(some 4), none, (.allc 24 [(.int .i64 0), (.int .u64 0)])⟩]) (.seq (.reg [⟨(some 8), none, (.load (some 2) (.t 2))⟩, ⟨(some 9), none, (.call 21 [(.t 8)])⟩, ⟨(some 5), none, (.mv (.t 9))⟩]) (.seq (.reg [⟨(some 10), none, (.load (some 2) (.t 3))⟩, ⟨(some 11), none, (.call 21 [(.t 10)])⟩, ⟨(some 6), none, (.mv (.t 11))⟩]) (.seq (.seq (.reg [⟨(some 7), none, (.mv (.c (.int .i64 0)))⟩]) (.block 0 (.loop (.seq (.seq (.reg [⟨(some 12), none, (.mv (.t 7))⟩, ⟨(some 13), none, (.bin .lss (.t 12) (.c (.int .i64 64)))⟩]) (.cond (.t 13) .skip (.exit 0))) (.seq (.block 1 (.reg [⟨(some 16), none, (.mv (.t 5))⟩, ⟨(some 17), none, (.mv (.t 7))⟩, ⟨(some 18), none, (.mv (.t 5))⟩, ⟨(some 19), none, (.mv (.t 7))⟩, ⟨(some 20), none, (.iaddr 1 (.t 18) (.t 19))⟩, ⟨(some 21), none, (.load none (.t 20))⟩, ⟨(some 22), none, (.mv (.t 21))⟩, ⟨(some 23), (some (22, false)), (.mv (.t 6))⟩, ⟨(some 24), (some (22, false)), (.mv (.t 7))⟩, ⟨(some 25), (some (22, false)), (.iaddr 1 (.t 23) (.t 24))⟩, ⟨(some 26), (some (22, false)), (.load none (.t 25))⟩, ⟨(some 27), none, (.pick (.t 22) (.c (.bool true)) (.t 26))⟩, ⟨(some 28), none, (.iaddr 1 (.t 16) (.t 17))⟩, ⟨none, none, (.store 1 (.t 28) (.t 27))⟩])) (.reg [⟨(some 14), none, (.mv (.t 7))⟩, ⟨(some 15), none, (.bin .add (.t 14) (.c (.int .i64 1)))⟩, ⟨(some 7), none, (.mv (.t 15))⟩])))))) (.seq (.seq (.reg [⟨(some 29), none, (.faddr 0 (.t 2))⟩, ⟨(some 30), none, (.load none (.t 29))⟩, ⟨(some 31), none, (.faddr 0 (.t 3))⟩, ⟨(some 32), none, (.load none (.t 31))⟩, ⟨(some 33), none, (.bin .gtr (.t 30) (.t 32))⟩]) (.cond (.t 33) (.seq (.reg [⟨(some 34), none, (.faddr 0 (.t 2))⟩, ⟨(some 35), none, (.load none (.t 34))⟩, ⟨(some 36), none, (.mv (.t 5))⟩, ⟨(some 37), none, (.call 22 [(.t 35), (.t 36)])⟩, ⟨none, none, (.store 2 (.t 4) (.t 37))⟩]) .ret) .skip)) (.seq (.reg [⟨(some 38), none, (.faddr 0 (.t 3))⟩, ⟨(some 39), none, (.load none (.t 38))⟩, ⟨(some 40), none, (.mv (.t 5))⟩, ⟨(some 41), none, (.call 22 [(.t 39), (.t 40)])⟩, ⟨none, none, (.store 2 (.t 4) (.t 41))⟩]) .ret))))))
theorem broadsheetref23_Join.code : comp PG [] (Tryd.f11.body.getD .skip) = broadsheetref23_Join.c := by kernel_rfl
theorem broadsheetref23_Join.of {args : List AV} {H : AH} {K : AV → AH → Prop} (hl : args.length = 2) (h : wpA PG broadsheetref23_Join.c none (endA [(.cell 4 (some 2))] K) (initFr args) H) : ACalls PG 11 args H K :=
  ACalls.of_code (fl := []) mixed Tryd.func11 (c := Tryd.f11.body.getD .skip) (by kernel_rfl) (by kernel_rfl) (by rw [hl]; exact of_decide_eq_true (by kernel_rfl)) (by rw [broadsheetref23_Join.code]; kernel_rfl)
    (by rw [broadsheetref23_Join.code, show compRes PG Tryd.f11.results.toList = [(.cell 4 (some 2))] from by kernel_rfl]; exact h)
def label_Meet.n : Nat := 12
noncomputable def label_Meet.c : C := (.seq (.reg [⟨(some 2), none, (.box 24 (.t 0))⟩, ⟨(some 3), none, (.box 24 (.t 1))⟩, ⟨(some 4), none, (.allc 24 [(.int .i64 0), (.int .u64 0)])⟩]) (.seq (.reg [⟨(some 5), none, (.faddr 0 (.t 2))⟩, ⟨(some 6), none, (.load none (.t 5))⟩, ⟨(some 7), none, (.faddr 0 (.t 3))⟩, ⟨(some 8), none, (.load none (.t 7))⟩, ⟨(some 9), none, (.mm false [(.t 6), (.t 8)])⟩, ⟨(some 10), none, (.faddr 1 (.t 2))⟩, ⟨(some 11), none, (.load none (.t 10))⟩, ⟨(some 12), none, (.faddr 1 (.t 3))⟩, ⟨(some 13), none, (.load none (.t 12))⟩, ⟨(some 14), none, (.bin .and (.t 11) (.t 13))⟩, ⟨(some 15), none, (.build [(.int .i64 0), (.int .u64 0)] [(0, (1, (.t 9))), (1, (1, (.t 14)))])⟩, ⟨none, none, (.store 2 (.t 4) (.t 15))⟩]) .ret))
theorem label_Meet.code : comp PG [] (Tryd.f12.body.getD .skip) = label_Meet.c := by kernel_rfl
theorem label_Meet.of {args : List AV} {H : AH} {K : AV → AH → Prop} (hl : args.length = 2) (h : wpA PG label_Meet.c none (endA [(.cell 4 (some 2))] K) (initFr args) H) : ACalls PG 12 args H K :=
  ACalls.of_code (fl := []) mixed Tryd.func12 (c := Tryd.f12.body.getD .skip) (by kernel_rfl) (by kernel_rfl) (by rw [hl]; exact of_decide_eq_true (by kernel_rfl)) (by rw [label_Meet.code]; kernel_rfl)
    (by rw [label_Meet.code, show compRes PG Tryd.f12.results.toList = [(.cell 4 (some 2))] from by kernel_rfl]; exact h)
def broadsheetref23_Meet.n : Nat := 13
noncomputable def broadsheetref23_Meet.c : C := (.seq (.reg [⟨(some 2), none, (.box 24 (.t 0))⟩, ⟨(some 3), none, (.box 24 (.t 1))⟩, ⟨(some 4), none, (.allc 24 [(.int .i64 0), (.int .u64 0)])⟩]) (.seq (.reg [⟨(some 8), none, (.load (some 2) (.t 2))⟩, ⟨(some 9), none, (.call 21 [(.t 8)])⟩, ⟨(some 5), none, (.mv (.t 9))⟩]) (.seq (.reg [⟨(some 10), none, (.load (some 2) (.t 3))⟩, ⟨(some 11), none, (.call 21 [(.t 10)])⟩, ⟨(some 6), none, (.mv (.t 11))⟩]) (.seq (.seq (.reg [⟨(some 7), none, (.mv (.c (.int .i64 0)))⟩]) (.block 0 (.loop (.seq (.seq (.reg [⟨(some 12), none, (.mv (.t 7))⟩, ⟨(some 13), none, (.bin .lss (.t 12) (.c (.int .i64 64)))⟩]) (.cond (.t 13) .skip (.exit 0))) (.seq (.block 1 (.reg [⟨(some 16), none, (.mv (.t 5))⟩, ⟨(some 17), none, (.mv (.t 7))⟩, ⟨(some 18), none, (.mv (.t 5))⟩, ⟨(some 19), none, (.mv (.t 7))⟩, ⟨(some 20), none, (.iaddr 1 (.t 18) (.t 19))⟩, ⟨(some 21), none, (.load none (.t 20))⟩, ⟨(some 22), none, (.mv (.t 21))⟩, ⟨(some 23), (some (22, true)), (.mv (.t 6))⟩, ⟨(some 24), (some (22, true)), (.mv (.t 7))⟩, ⟨(some 25), (some (22, true)), (.iaddr 1 (.t 23) (.t 24))⟩, ⟨(some 26), (some (22, true)), (.load none (.t 25))⟩, ⟨(some 27), none, (.pick (.t 22) (.t 26) (.c (.bool false)))⟩, ⟨(some 28), none, (.iaddr 1 (.t 16) (.t 17))⟩, ⟨none, none, (.store 1 (.t 28) (.t 27))⟩])) (.reg [⟨(some 14), none, (.mv (.t 7))⟩, ⟨(some 15), none, (.bin .add (.t 14) (.c (.int .i64 1)))⟩, ⟨(some 7), none, (.mv (.t 15))⟩])))))) (.seq (.seq (.reg [⟨(some 29), none, (.faddr 0 (.t 2))⟩, ⟨(some 30), none, (.load none (.t 29))⟩, ⟨(some 31), none, (.faddr 0 (.t 3))⟩, ⟨(some 32), none, (.load none (.t 31))⟩, ⟨(some 33), none, (.bin .lss (.t 30) (.t 32))⟩]) (.cond (.t 33) (.seq (.reg [⟨(some 34), none, (.faddr 0 (.t 2))⟩, ⟨(some 35), none, (.load none (.t 34))⟩, ⟨(some 36), none, (.mv (.t 5))⟩, ⟨(some 37), none, (.call 22 [(.t 35), (.t 36)])⟩, ⟨none, none, (.store 2 (.t 4) (.t 37))⟩]) .ret) .skip)) (.seq (.reg [⟨(some 38), none, (.faddr 0 (.t 3))⟩, ⟨(some 39), none, (.load none (.t 38))⟩, ⟨(some 40), none, (.mv (.t 5))⟩, ⟨(some 41), none, (.call 22 [(.t 39), (.t 40)])⟩, ⟨none, none, (.store 2 (.t 4) (.t 41))⟩]) .ret))))))
theorem broadsheetref23_Meet.code : comp PG [] (Tryd.f13.body.getD .skip) = broadsheetref23_Meet.c := by kernel_rfl
theorem broadsheetref23_Meet.of {args : List AV} {H : AH} {K : AV → AH → Prop} (hl : args.length = 2) (h : wpA PG broadsheetref23_Meet.c none (endA [(.cell 4 (some 2))] K) (initFr args) H) : ACalls PG 13 args H K :=
  ACalls.of_code (fl := []) mixed Tryd.func13 (c := Tryd.f13.body.getD .skip) (by kernel_rfl) (by kernel_rfl) (by rw [hl]; exact of_decide_eq_true (by kernel_rfl)) (by rw [broadsheetref23_Meet.code]; kernel_rfl)
    (by rw [broadsheetref23_Meet.code, show compRes PG Tryd.f13.results.toList = [(.cell 4 (some 2))] from by kernel_rfl]; exact h)
def label_Text.n : Nat := 14
noncomputable def label_Text.c : C := (.seq (.reg [⟨(some 1), none, (.box 24 (.t 0))⟩, ⟨(some 2), none, (.mv (.c (.str [])))⟩]) (.seq (.reg [⟨(some 3), none, (.mv (.c .nilS))⟩]) (.seq (.seq (.reg [⟨(some 5), none, (.mv (.c (.int .i64 0)))⟩]) (.block 0 (.loop (.seq (.reg [⟨(some 6), none, (.bin .lss (.t 5) (.c (.int .i64 64)))⟩]) (.seq (.cond (.t 6) .skip (.exit 0)) (.seq (.block 1 (.seq (.reg [⟨(some 7), none, (.mv (.t 5))⟩, ⟨(some 4), none, (.mv (.t 7))⟩]) (.seq (.reg [⟨(some 8), none, (.faddr 1 (.t 1))⟩, ⟨(some 9), none, (.load none (.t 8))⟩, ⟨(some 10), none, (.mv (.t 4))⟩, ⟨(some 11), none, (.conv .u64 (.t 10))⟩, ⟨(some 12), none, (.bin .shr (.t 9) (.t 11))⟩, ⟨(some 13), none, (.bin .and (.t 12) (.c (.int .u64 1)))⟩, ⟨(some 14), none, (.bin .eql (.t 13) (.c (.int .u64 1)))⟩]) (.cond (.t 14) (.reg [⟨(some 15), none, (.mv (.t 3))⟩, ⟨(some 16), none, (.mv (.t 4))⟩, ⟨(some 17), none, (.call 23 [(.t 16)])⟩, ⟨(some 18), none, (.bslice 9 1 1 [(.str [])] [(0, (.t 17))])⟩, ⟨(some 19), none, (.append 9 false 1 16 (.t 15) (.t 18))⟩, ⟨(some 3), none, (.mv (.t 19))⟩]) .skip)))) (.reg [⟨(some 20), none, (.bin .add (.t 5) (.c (.int .i64 1)))⟩, ⟨(some 5), none, (.mv (.t 20))⟩]))))))) (.seq (.reg [⟨(some 21), none, (.faddr 0 (.t 1))⟩, ⟨(some 22), none, (.load none (.t 21))⟩, ⟨(some 23), none, (.call 23 [(.t 22)])⟩, ⟨(some 24), none, (.bin .add (.t 23) (.c (.str [123])))⟩, ⟨(some 25), none, (.mv (.t 3))⟩, ⟨(some 26), none, (.call 24 [(.t 25), (.c (.str [44]))])⟩, ⟨(some 27), none, (.bin .add (.t 24) (.t 26))⟩, ⟨(some 28), none, (.bin .add (.t 27) (.c (.str [125])))⟩, ⟨(some 2), none, (.mv (.t 28))⟩]) .ret))))
theorem label_Text.code : comp PG [] (Tryd.f14.body.getD .skip) = label_Text.c := by kernel_rfl
theorem label_Text.of {args : List AV} {H : AH} {K : AV → AH → Prop} (hl : args.length = 1) (h : wpA PG label_Text.c none (endA [(.t 2)] K) (initFr args) H) : ACalls PG 14 args H K :=
  ACalls.of_code (fl := []) mixed Tryd.func14 (c := Tryd.f14.body.getD .skip) (by kernel_rfl) (by kernel_rfl) (by rw [hl]; exact of_decide_eq_true (by kernel_rfl)) (by rw [label_Text.code]; kernel_rfl)
    (by rw [label_Text.code, show compRes PG Tryd.f14.results.toList = [(.t 2)] from by kernel_rfl]; exact h)
def broadsheetref23_Text.n : Nat := 15
noncomputable def broadsheetref23_Text.c : C := (.seq (.reg [⟨(some 1), none, (.box 24 (.t 0))⟩, ⟨(some 2), none, (.mv (.c (.str [])))⟩]) (.seq (.reg [⟨(some 3), none, (.mv (.c (.str [])))⟩]) (.seq (.reg [⟨(some 6), none, (.load (some 2) (.t 1))⟩, ⟨(some 7), none, (.call 21 [(.t 6)])⟩, ⟨(some 4), none, (.mv (.t 7))⟩]) (.seq (.seq (.reg [⟨(some 5), none, (.mv (.c (.int .i64 0)))⟩]) (.block 0 (.loop (.seq (.seq (.reg [⟨(some 8), none, (.mv (.t 5))⟩, ⟨(some 9), none, (.bin .lss (.t 8) (.c (.int .i64 64)))⟩]) (.cond (.t 9) .skip (.exit 0))) (.seq (.block 1 (.seq (.reg [⟨(some 12), none, (.mv (.t 4))⟩, ⟨(some 13), none, (.mv (.t 5))⟩, ⟨(some 14), none, (.iaddr 1 (.t 12) (.t 13))⟩, ⟨(some 15), none, (.load none (.t 14))⟩]) (.cond (.t 15) (.seq (.seq (.reg [⟨(some 16), none, (.mv (.t 3))⟩, ⟨(some 17), none, (.bin .neq (.t 16) (.c (.str [])))⟩]) (.cond (.t 17) (.reg [⟨(some 18), none, (.mv (.t 3))⟩, ⟨(some 19), none, (.bin .add (.t 18) (.c (.str [44])))⟩, ⟨(some 3), none, (.mv (.t 19))⟩]) .skip)) (.reg [⟨(some 20), none, (.mv (.t 3))⟩, ⟨(some 21), none, (.mv (.t 5))⟩, ⟨(some 22), none, (.conv .u64 (.t 21))⟩, ⟨(some 23), none, (.call 25 [(.t 22)])⟩, ⟨(some 24), none, (.bin .add (.t 20) (.t 23))⟩, ⟨(some 3), none, (.mv (.t 24))⟩])) .skip))) (.reg [⟨(some 10), none, (.mv (.t 5))⟩, ⟨(some 11), none, (.bin .add (.t 10) (.c (.int .i64 1)))⟩, ⟨(some 5), none, (.mv (.t 11))⟩])))))) (.seq (.reg [⟨(some 25), none, (.faddr 0 (.t 1))⟩, ⟨(some 26), none, (.load none (.t 25))⟩, ⟨(some 27), none, (.call 26 [(.t 26)])⟩, ⟨(some 28), none, (.bin .add (.t 27) (.c (.str [123])))⟩, ⟨(some 29), none, (.mv (.t 3))⟩, ⟨(some 30), none, (.bin .add (.t 28) (.t 29))⟩, ⟨(some 31), none, (.bin .add (.t 30) (.c (.str [125])))⟩, ⟨(some 2), none, (.mv (.t 31))⟩]) .ret)))))
theorem broadsheetref23_Text.code : comp PG [] (Tryd.f15.body.getD .skip) = broadsheetref23_Text.c := by kernel_rfl
theorem broadsheetref23_Text.of {args : List AV} {H : AH} {K : AV → AH → Prop} (hl : args.length = 1) (h : wpA PG broadsheetref23_Text.c none (endA [(.t 2)] K) (initFr args) H) : ACalls PG 15 args H K :=
  ACalls.of_code (fl := []) mixed Tryd.func15 (c := Tryd.f15.body.getD .skip) (by kernel_rfl) (by kernel_rfl) (by rw [hl]; exact of_decide_eq_true (by kernel_rfl)) (by rw [broadsheetref23_Text.code]; kernel_rfl)
    (by rw [broadsheetref23_Text.code, show compRes PG Tryd.f15.results.toList = [(.t 2)] from by kernel_rfl]; exact h)
def broadsheetlaw23_awake.n : Nat := 16
noncomputable def broadsheetlaw23_awake.c : C := (.seq (.reg [⟨(some 0), none, (.mv (.c (.bool false)))⟩]) (.seq (.reg [⟨(some 4), none, (.call 17 [(.c (.str [51, 123, 48, 44, 53, 125]))])⟩, ⟨(some 3), none, (.mv (.t 4))⟩, ⟨(some 5), none, (.extr (.t 3) 0)⟩, ⟨(some 6), none, (.extr (.t 3) 1)⟩, ⟨(some 1), none, (.allc 24 [(.int .i64 0), (.int .u64 0)])⟩, ⟨none, none, (.store 2 (.t 1) (.t 5))⟩, ⟨(some 2), none, (.mv (.t 6))⟩]) (.seq (.reg [⟨(some 7), none, (.mv (.t 2))⟩, ⟨(some 8), none, (.mv (.t 7))⟩, ⟨(some 9), (some (8, true)), (.load (some 2) (.t 1))⟩, ⟨(some 10), (some (8, true)), (.build [(.int .i64 0), (.int .u64 0)] [(0, (1, (.c (.int .i64 3)))), (1, (1, (.c (.int .u64 33))))])⟩, ⟨(some 11), (some (8, true)), (.aeq false [(.i .i64), (.i .u64)] (.t 9) (.t 10))⟩, ⟨(some 12), none, (.pick (.t 8) (.t 11) (.c (.bool false)))⟩, ⟨(some 13), none, (.mv (.t 12))⟩, ⟨(some 14), (some (13, true)), (.load (some 2) (.t 1))⟩, ⟨(some 15), (some (13, true)), (.call 14 [(.t 14)])⟩, ⟨(some 16), (some (13, true)), (.bin .eql (.t 15) (.c (.str [51, 123, 48, 44, 53, 125])))⟩, ⟨(some 17), none, (.pick (.t 13) (.t 16) (.c (.bool false)))⟩, ⟨(some 0), none, (.mv (.t 17))⟩]) .ret)))
theorem broadsheetlaw23_awake.code : comp PG [] (Tryd.f16.body.getD .skip) = broadsheetlaw23_awake.c := by kernel_rfl
theorem broadsheetlaw23_awake.of {args : List AV} {H : AH} {K : AV → AH → Prop} (hl : args.length = 0) (h : wpA PG broadsheetlaw23_awake.c none (endA [(.t 0)] K) (initFr args) H) : ACalls PG 16 args H K :=
  ACalls.of_code (fl := []) mixed Tryd.func16 (c := Tryd.f16.body.getD .skip) (by kernel_rfl) (by kernel_rfl) (by rw [hl]; exact of_decide_eq_true (by kernel_rfl)) (by rw [broadsheetlaw23_awake.code]; kernel_rfl)
    (by rw [broadsheetlaw23_awake.code, show compRes PG Tryd.f16.results.toList = [(.t 0)] from by kernel_rfl]; exact h)
def label_Parse.n : Nat := 17
noncomputable def label_Parse.c : C := (.seq (.reg [⟨(some 2), none, (.allc 24 [(.int .i64 0), (.int .u64 0)])⟩, ⟨(some 3), none, (.mv (.c (.bool false)))⟩]) (.seq (.reg [⟨(some 14), none, (.mv (.t 0))⟩, ⟨(some 15), none, (.call 27 [(.t 14), (.c (.str [123]))])⟩, ⟨(some 13), none, (.mv (.t 15))⟩, ⟨(some 16), none, (.extr (.t 13) 0)⟩, ⟨(some 17), none, (.extr (.t 13) 1)⟩, ⟨(some 18), none, (.extr (.t 13) 2)⟩, ⟨(some 4), none, (.mv (.t 16))⟩, ⟨(some 5), none, (.mv (.t 17))⟩, ⟨(some 6), none, (.mv (.t 18))⟩]) (.seq (.reg [⟨(some 20), none, (.mv (.t 5))⟩, ⟨(some 21), none, (.call 28 [(.t 20), (.c (.str [125]))])⟩, ⟨(some 19), none, (.mv (.t 21))⟩, ⟨(some 22), none, (.extr (.t 19) 0)⟩, ⟨(some 23), none, (.extr (.t 19) 1)⟩, ⟨(some 5), none, (.mv (.t 22))⟩, ⟨(some 7), none, (.mv (.t 23))⟩]) (.seq (.reg [⟨(some 24), none, (.mv (.t 4))⟩, ⟨(some 25), none, (.call 29 [(.t 24)])⟩, ⟨(some 26), none, (.build [(.int .i64 0), (.int .u64 0)] [(0, (1, (.t 25)))])⟩, ⟨(some 8), none, (.allc 24 [(.int .i64 0), (.int .u64 0)])⟩, ⟨none, none, (.store 2 (.t 8) (.t 26))⟩]) (.seq (.seq (.reg [⟨(some 27), none, (.mv (.t 6))⟩, ⟨(some 28), none, (.un .not (.t 27))⟩, ⟨(some 29), none, (.mv (.t 28))⟩, ⟨(some 30), (some (29, false)), (.mv (.t 7))⟩, ⟨(some 31), (some (29, false)), (.un .not (.t 30))⟩, ⟨(some 32), none, (.pick (.t 29) (.c (.bool true)) (.t 31))⟩, ⟨(some 33), none, (.mv (.t 32))⟩, ⟨(some 34), (some (33, false)), (.load (some 2) (.t 8))⟩, ⟨(some 35), (some (33, false)), (.call 6 [(.t 34)])⟩, ⟨(some 36), (some (33, false)), (.un .not (.t 35))⟩, ⟨(some 37), none, (.pick (.t 33) (.c (.bool true)) (.t 36))⟩]) (.cond (.t 37) (.seq (.reg [⟨(some 38), none, (.build [(.int .i64 0), (.int .u64 0)] [])⟩, ⟨none, none, (.store 2 (.t 2) (.t 38))⟩, ⟨(some 3), none, (.mv (.c (.bool false)))⟩]) .ret) .skip)) (.seq (.seq (.reg [⟨(some 39), none, (.mv (.t 5))⟩, ⟨(some 40), none, (.bin .eql (.t 39) (.c (.str [])))⟩]) (.cond (.t 40) (.seq (.reg [⟨(some 41), none, (.load (some 2) (.t 8))⟩, ⟨none, none, (.store 2 (.t 2) (.t 41))⟩, ⟨(some 3), none, (.mv (.c (.bool true)))⟩]) .ret) .skip)) (.seq (.reg [⟨(some 9), none, (.mv (.c (.int .i64 (-1))))⟩]) (.seq (.seq (.reg [⟨(some 42), none, (.mv (.t 5))⟩, ⟨(some 43), none, (.call 30 [(.t 42), (.c (.str [44]))])⟩, ⟨(some 44), none, (.len false (.t 43))⟩, ⟨(some 45), none, (.mv (.c (.int .i64 0)))⟩]) (.block 0 (.loop (.seq (.reg [⟨(some 46), none, (.bin .lss (.t 45) (.t 44))⟩]) (.seq (.cond (.t 46) .skip (.exit 0)) (.seq (.block 1 (.seq (.reg [⟨(some 47), none, (.iaddr 1 (.t 43) (.t 45))⟩, ⟨(some 48), none, (.load none (.t 47))⟩, ⟨(some 11), none, (.mv (.t 48))⟩]) (.seq (.reg [⟨(some 49), none, (.mv (.t 11))⟩, ⟨(some 50), none, (.call 29 [(.t 49)])⟩, ⟨(some 12), none, (.mv (.t 50))⟩]) (.seq (.seq (.reg [⟨(some 51), none, (.mv (.t 12))⟩, ⟨(some 52), none, (.mv (.t 9))⟩, ⟨(some 53), none, (.bin .leq (.t 51) (.t 52))⟩, ⟨(some 54), none, (.mv (.t 53))⟩, ⟨(some 55), (some (54, false)), (.mv (.t 12))⟩, ⟨(some 56), (some (54, false)), (.bin .geq (.t 55) (.c (.int .i64 64)))⟩, ⟨(some 57), none, (.pick (.t 54) (.c (.bool true)) (.t 56))⟩]) (.cond (.t 57) (.seq (.reg [⟨(some 58), none, (.build [(.int .i64 0), (.int .u64 0)] [])⟩, ⟨none, none, (.store 2 (.t 2) (.t 58))⟩, ⟨(some 3), none, (.mv (.c (.bool false)))⟩]) .ret) .skip)) (.seq (.reg [⟨(some 59), none, (.faddr 1 (.t 8))⟩, ⟨(some 60), none, (.load none (.t 59))⟩, ⟨(some 61), none, (.mv (.t 12))⟩, ⟨(some 62), none, (.conv .u64 (.t 61))⟩, ⟨(some 63), none, (.bin .shl (.c (.int .u64 1)) (.t 62))⟩, ⟨(some 64), none, (.bin .or (.t 60) (.t 63))⟩, ⟨(some 65), none, (.faddr 1 (.t 8))⟩, ⟨none, none, (.store 1 (.t 65) (.t 64))⟩]) (.reg [⟨(some 66), none, (.mv (.t 12))⟩, ⟨(some 9), none, (.mv (.t 66))⟩])))))) (.reg [⟨(some 67), none, (.bin .add (.t 45) (.c (.int .i64 1)))⟩, ⟨(some 45), none, (.mv (.t 67))⟩]))))))) (.seq (.reg [⟨(some 68), none, (.load (some 2) (.t 8))⟩, ⟨none, none, (.store 2 (.t 2) (.t 68))⟩, ⟨(some 3), none, (.mv (.c (.bool true)))⟩]) .ret)))))))))
theorem label_Parse.code : comp PG [] (Tryd.f17.body.getD .skip) = label_Parse.c := by kernel_rfl
theorem label_Parse.of {args : List AV} {H : AH} {K : AV → AH → Prop} (hl : args.length = 1) (h : wpA PG label_Parse.c none (endA [(.cell 2 (some 2)), (.t 3)] K) (initFr args) H) : ACalls PG 17 args H K :=
  ACalls.of_code (fl := []) mixed Tryd.func17 (c := Tryd.f17.body.getD .skip) (by kernel_rfl) (by kernel_rfl) (by rw [hl]; exact of_decide_eq_true (by kernel_rfl)) (by rw [label_Parse.code]; kernel_rfl)
    (by rw [label_Parse.code, show compRes PG Tryd.f17.results.toList = [(.cell 2 (some 2)), (.t 3)] from by kernel_rfl]; exact h)
def broadsheetref23_Parse.n : Nat := 18
noncomputable def broadsheetref23_Parse.c : C := (.seq (.reg [⟨(some 2), none, (.allc 24 [(.int .i64 0), (.int .u64 0)])⟩, ⟨(some 3), none, (.mv (.c (.bool false)))⟩]) (.seq (.reg [⟨(some 10), none, (.mks 4 1 1 [(.bool false)] (.c (.int .i64 64)))⟩, ⟨(some 4), none, (.mv (.t 10))⟩]) (.seq (.reg [⟨(some 5), none, (.mv (.c (.int .i64 (-1))))⟩]) (.seq (.reg [⟨(some 6), none, (.mv (.c (.int .i64 (-1))))⟩]) (.seq (.seq (.reg [⟨(some 7), none, (.mv (.c (.int .i64 0)))⟩]) (.block 0 (.loop (.seq (.seq (.reg [⟨(some 11), none, (.mv (.t 7))⟩, ⟨(some 12), none, (.mv (.t 0))⟩, ⟨(some 13), none, (.len true (.t 12))⟩, ⟨(some 14), none, (.bin .lss (.t 11) (.t 13))⟩]) (.cond (.t 14) .skip (.exit 0))) (.seq (.block 1 (.seq (.reg [⟨(some 17), none, (.mv (.t 0))⟩, ⟨(some 18), none, (.mv (.t 7))⟩, ⟨(some 19), none, (.idx (.t 17) (.t 18))⟩, ⟨(some 8), none, (.mv (.t 19))⟩]) (.seq (.seq (.reg [⟨(some 20), none, (.mv (.t 8))⟩, ⟨(some 21), none, (.bin .geq (.t 20) (.c (.int .u8 48)))⟩, ⟨(some 22), none, (.mv (.t 21))⟩, ⟨(some 23), (some (22, true)), (.mv (.t 8))⟩, ⟨(some 24), (some (22, true)), (.bin .leq (.t 23) (.c (.int .u8 57)))⟩, ⟨(some 25), none, (.pick (.t 22) (.t 24) (.c (.bool false)))⟩]) (.cond (.t 25) (.seq (.reg [⟨(some 26), none, (.mv (.t 6))⟩, ⟨(some 27), none, (.mm true [(.t 26), (.c (.int .i64 0))])⟩, ⟨(some 28), none, (.bin .mul (.t 27) (.c (.int .i64 10)))⟩, ⟨(some 29), none, (.mv (.t 8))⟩, ⟨(some 30), none, (.bin .sub (.t 29) (.c (.int .u8 48)))⟩, ⟨(some 31), none, (.conv .i64 (.t 30))⟩, ⟨(some 32), none, (.bin .add (.t 28) (.t 31))⟩, ⟨(some 6), none, (.mv (.t 32))⟩]) (.seq (.seq (.reg [⟨(some 33), none, (.mv (.t 6))⟩, ⟨(some 34), none, (.bin .gtr (.t 33) (.c (.int .i64 63)))⟩]) (.cond (.t 34) (.seq (.reg [⟨(some 35), none, (.build [(.int .i64 0), (.int .u64 0)] [])⟩, ⟨none, none, (.store 2 (.t 2) (.t 35))⟩, ⟨(some 3), none, (.mv (.c (.bool false)))⟩]) .ret) .skip)) (.exit 1))) .skip)) (.seq (.seq (.reg [⟨(some 36), none, (.mv (.t 5))⟩, ⟨(some 37), none, (.bin .lss (.t 36) (.c (.int .i64 0)))⟩]) (.cond (.t 37) (.reg [⟨(some 38), none, (.mv (.t 6))⟩, ⟨(some 5), none, (.mv (.t 38))⟩]) (.seq (.reg [⟨(some 39), none, (.mv (.t 6))⟩, ⟨(some 40), none, (.bin .geq (.t 39) (.c (.int .i64 0)))⟩]) (.cond (.t 40) (.reg [⟨(some 41), none, (.mv (.t 4))⟩, ⟨(some 42), none, (.mv (.t 6))⟩, ⟨(some 43), none, (.iaddr 1 (.t 41) (.t 42))⟩, ⟨none, none, (.store 1 (.t 43) (.c (.bool true)))⟩]) .skip)))) (.reg [⟨(some 6), none, (.mv (.c (.int .i64 (-1))))⟩]))))) (.reg [⟨(some 15), none, (.mv (.t 7))⟩, ⟨(some 16), none, (.bin .add (.t 15) (.c (.int .i64 1)))⟩, ⟨(some 7), none, (.mv (.t 16))⟩])))))) (.seq (.reg [⟨(some 44), none, (.mv (.t 5))⟩, ⟨(some 45), none, (.mv (.t 4))⟩, ⟨(some 46), none, (.call 22 [(.t 44), (.t 45)])⟩, ⟨(some 9), none, (.allc 24 [(.int .i64 0), (.int .u64 0)])⟩, ⟨none, none, (.store 2 (.t 9) (.t 46))⟩]) (.seq (.seq (.reg [⟨(some 47), none, (.load (some 2) (.t 9))⟩, ⟨(some 48), none, (.call 7 [(.t 47)])⟩, ⟨(some 49), none, (.un .not (.t 48))⟩, ⟨(some 50), none, (.mv (.t 49))⟩, ⟨(some 51), (some (50, false)), (.load (some 2) (.t 9))⟩, ⟨(some 52), (some (50, false)), (.call 15 [(.t 51)])⟩, ⟨(some 53), (some (50, false)), (.mv (.t 0))⟩, ⟨(some 54), (some (50, false)), (.bin .neq (.t 52) (.t 53))⟩, ⟨(some 55), none, (.pick (.t 50) (.c (.bool true)) (.t 54))⟩]) (.cond (.t 55) (.seq (.reg [⟨(some 56), none, (.build [(.int .i64 0), (.int .u64 0)] [])⟩, ⟨none, none, (.store 2 (.t 2) (.t 56))⟩, ⟨(some 3), none, (.mv (.c (.bool false)))⟩]) .ret) .skip)) (.seq (.reg [⟨(some 57), none, (.load (some 2) (.t 9))⟩, ⟨none, none, (.store 2 (.t 2) (.t 57))⟩, ⟨(some 3), none, (.mv (.c (.bool true)))⟩]) .ret))))))))
theorem broadsheetref23_Parse.code : comp PG [] (Tryd.f18.body.getD .skip) = broadsheetref23_Parse.c := by kernel_rfl
theorem broadsheetref23_Parse.of {args : List AV} {H : AH} {K : AV → AH → Prop} (hl : args.length = 1) (h : wpA PG broadsheetref23_Parse.c none (endA [(.cell 2 (some 2)), (.t 3)] K) (initFr args) H) : ACalls PG 18 args H K :=
  ACalls.of_code (fl := []) mixed Tryd.func18 (c := Tryd.f18.body.getD .skip) (by kernel_rfl) (by kernel_rfl) (by rw [hl]; exact of_decide_eq_true (by kernel_rfl)) (by rw [broadsheetref23_Parse.code]; kernel_rfl)
    (by rw [broadsheetref23_Parse.code, show compRes PG Tryd.f18.results.toList = [(.cell 2 (some 2)), (.t 3)] from by kernel_rfl]; exact h)
def label_Groups.n : Nat := 19
noncomputable def label_Groups.c : C := (.seq (.reg [⟨(some 2), none, (.mv (.c .nilS))⟩]) (.seq (.reg [⟨(some 3), none, (.mv (.c .nilS))⟩]) (.seq (.reg [⟨(some 9), none, .bad⟩, ⟨(some 4), none, (.mv (.t 9))⟩]) (.seq (.seq (.reg [⟨(some 10), none, (.mv (.t 0))⟩, ⟨(some 11), none, (.len false (.t 10))⟩, ⟨(some 12), none, (.mv (.c (.int .i64 0)))⟩]) (.block 0 (.loop (.seq (.reg [⟨(some 13), none, (.bin .lss (.t 12) (.t 11))⟩]) (.seq (.cond (.t 13) .skip (.exit 0)) (.seq (.block 1 (.seq (.reg [⟨(some 14), none, (.mv (.t 12))⟩, ⟨(some 15), none, (.iaddr 2 (.t 10) (.t 12))⟩, ⟨(some 16), none, (.load (some 2) (.t 15))⟩, ⟨(some 6), none, (.allc 24 [(.int .i64 0), (.int .u64 0)])⟩, ⟨(some 5), none, (.mv (.t 14))⟩, ⟨none, none, (.store 2 (.t 6) (.t 16))⟩]) (.seq (.reg [⟨(some 18), none, (.mv (.t 4))⟩, ⟨(some 19), none, (.load (some 2) (.t 6))⟩, ⟨(some 20), none, .bad⟩, ⟨(some 17), none, (.mv (.t 20))⟩, ⟨(some 21), none, (.extr (.t 17) 0)⟩, ⟨(some 22), none, (.extr (.t 17) 1)⟩, ⟨(some 7), none, (.allc 54 [(.int .i64 0)])⟩, ⟨none, none, (.store 1 (.t 7) (.t 21))⟩, ⟨(some 8), none, (.mv (.t 22))⟩]) (.seq (.seq (.reg [⟨(some 23), none, (.mv (.t 8))⟩, ⟨(some 24), none, (.un .not (.t 23))⟩]) (.cond (.t 24) (.seq (.reg [⟨(some 25), none, (.mv (.t 3))⟩, ⟨(some 26), none, (.len false (.t 25))⟩, ⟨(some 27), none, (.build [(.int .i64 0)] [(0, (1, (.t 26)))])⟩, ⟨none, none, (.store 1 (.t 7) (.t 27))⟩]) (.seq (.reg [⟨(some 28), none, (.mv (.t 4))⟩, ⟨(some 29), none, (.load (some 2) (.t 6))⟩, ⟨(some 30), none, (.load (some 1) (.t 7))⟩, ⟨none, none, .bad⟩]) (.reg [⟨(some 31), none, (.mv (.t 3))⟩, ⟨(some 32), none, (.bslice 36 1 1 [.nilS] [(0, (.c .nilS))])⟩, ⟨(some 33), none, (.append 36 false 1 24 (.t 31) (.t 32))⟩, ⟨(some 3), none, (.mv (.t 33))⟩]))) .skip)) (.dreg [⟨(some 34), none, (.mv (.t 3))⟩, ⟨(some 35), none, (.faddr 0 (.t 7))⟩, ⟨(some 36), none, (.load none (.t 35))⟩, ⟨(some 37), none, (.mv (.t 3))⟩, ⟨(some 38), none, (.faddr 0 (.t 7))⟩, ⟨(some 39), none, (.load none (.t 38))⟩, ⟨(some 40), none, (.iaddr 1 (.t 37) (.t 39))⟩, ⟨(some 41), none, (.load none (.t 40))⟩, ⟨(some 42), none, (.mv (.t 5))⟩, ⟨(some 43), none, (.bslice 3 1 1 [(.int .i64 0)] [(0, (.t 42))])⟩, ⟨(some 44), none, (.append 3 false 1 8 (.t 41) (.t 43))⟩] [⟨(some 45), none, (.iaddr 1 (.t 34) (.t 36))⟩, ⟨none, none, (.store 1 (.t 45) (.t 44))⟩]))))) (.reg [⟨(some 46), none, (.bin .add (.t 12) (.c (.int .i64 1)))⟩, ⟨(some 12), none, (.mv (.t 46))⟩]))))))) (.seq (.reg [⟨(some 47), none, (.mv (.t 3))⟩, ⟨(some 2), none, (.mv (.t 47))⟩]) .ret)))))
theorem label_Groups.code : comp PG [] (Tryd.f19.body.getD .skip) = label_Groups.c := by kernel_rfl
theorem label_Groups.of {args : List AV} {H : AH} {K : AV → AH → Prop} (hl : args.length = 1) (h : wpA PG label_Groups.c none (endA [(.t 2)] K) (initFr args) H) : ACalls PG 19 args H K :=
  ACalls.of_code (fl := []) mixed Tryd.func19 (c := Tryd.f19.body.getD .skip) (by kernel_rfl) (by kernel_rfl) (by rw [hl]; exact of_decide_eq_true (by kernel_rfl)) (by rw [label_Groups.code]; kernel_rfl)
    (by rw [label_Groups.code, show compRes PG Tryd.f19.results.toList = [(.t 2)] from by kernel_rfl]; exact h)
def broadsheetref23_Groups.n : Nat := 20
noncomputable def broadsheetref23_Groups.c : C := (.seq (.reg [⟨(some 2), none, (.mv (.c .nilS))⟩]) (.seq (.reg [⟨(some 3), none, (.mv (.c .nilS))⟩]) (.seq (.seq (.reg [⟨(some 4), none, (.mv (.c (.int .i64 0)))⟩]) (.block 0 (.loop (.seq (.seq (.reg [⟨(some 8), none, (.mv (.t 4))⟩, ⟨(some 9), none, (.mv (.t 0))⟩, ⟨(some 10), none, (.len false (.t 9))⟩, ⟨(some 11), none, (.bin .lss (.t 8) (.t 10))⟩]) (.cond (.t 11) .skip (.exit 0))) (.seq (.block 1 (.seq (.reg [⟨(some 5), none, (.mv (.c .nilS))⟩]) (.seq (.reg [⟨(some 6), none, (.mv (.c (.bool true)))⟩]) (.seq (.seq (.reg [⟨(some 7), none, (.mv (.c (.int .i64 0)))⟩]) (.block 2 (.loop (.seq (.seq (.reg [⟨(some 14), none, (.mv (.t 7))⟩, ⟨(some 15), none, (.mv (.t 0))⟩, ⟨(some 16), none, (.len false (.t 15))⟩, ⟨(some 17), none, (.bin .lss (.t 14) (.t 16))⟩]) (.cond (.t 17) .skip (.exit 2))) (.seq (.block 3 (.seq (.dreg [⟨(some 20), none, (.mv (.t 0))⟩, ⟨(some 21), none, (.mv (.t 7))⟩, ⟨(some 22), none, (.iaddr 2 (.t 20) (.t 21))⟩, ⟨(some 23), none, (.load (some 2) (.t 22))⟩, ⟨(some 24), none, (.mv (.t 0))⟩, ⟨(some 25), none, (.mv (.t 4))⟩, ⟨(some 26), none, (.iaddr 2 (.t 24) (.t 25))⟩, ⟨(some 27), none, (.load (some 2) (.t 26))⟩] [⟨(some 28), none, (.aeq false [(.i .i64), (.i .u64)] (.t 23) (.t 27))⟩]) (.cond (.t 28) (.seq (.reg [⟨(some 29), none, (.mv (.t 5))⟩, ⟨(some 30), none, (.mv (.t 7))⟩, ⟨(some 31), none, (.bslice 3 1 1 [(.int .i64 0)] [(0, (.t 30))])⟩, ⟨(some 32), none, (.append 3 false 1 8 (.t 29) (.t 31))⟩, ⟨(some 5), none, (.mv (.t 32))⟩]) (.reg [⟨(some 33), none, (.mv (.t 6))⟩, ⟨(some 34), none, (.mv (.t 33))⟩, ⟨(some 35), (some (34, true)), (.mv (.t 7))⟩, ⟨(some 36), (some (34, true)), (.mv (.t 4))⟩, ⟨(some 37), (some (34, true)), (.bin .geq (.t 35) (.t 36))⟩, ⟨(some 38), none, (.pick (.t 34) (.t 37) (.c (.bool false)))⟩, ⟨(some 6), none, (.mv (.t 38))⟩])) .skip))) (.reg [⟨(some 18), none, (.mv (.t 7))⟩, ⟨(some 19), none, (.bin .add (.t 18) (.c (.int .i64 1)))⟩, ⟨(some 7), none, (.mv (.t 19))⟩])))))) (.seq (.reg [⟨(some 39), none, (.mv (.t 6))⟩]) (.cond (.t 39) (.reg [⟨(some 40), none, (.mv (.t 3))⟩, ⟨(some 41), none, (.mv (.t 5))⟩, ⟨(some 42), none, (.bslice 36 1 1 [.nilS] [(0, (.t 41))])⟩, ⟨(some 43), none, (.append 36 false 1 24 (.t 40) (.t 42))⟩, ⟨(some 3), none, (.mv (.t 43))⟩]) .skip)))))) (.reg [⟨(some 12), none, (.mv (.t 4))⟩, ⟨(some 13), none, (.bin .add (.t 12) (.c (.int .i64 1)))⟩, ⟨(some 4), none, (.mv (.t 13))⟩])))))) (.seq (.reg [⟨(some 44), none, (.mv (.t 3))⟩, ⟨(some 2), none, (.mv (.t 44))⟩]) .ret))))
theorem broadsheetref23_Groups.code : comp PG [] (Tryd.f20.body.getD .skip) = broadsheetref23_Groups.c := by kernel_rfl
theorem broadsheetref23_Groups.of {args : List AV} {H : AH} {K : AV → AH → Prop} (hl : args.length = 1) (h : wpA PG broadsheetref23_Groups.c none (endA [(.t 2)] K) (initFr args) H) : ACalls PG 20 args H K :=
  ACalls.of_code (fl := []) mixed Tryd.func20 (c := Tryd.f20.body.getD .skip) (by kernel_rfl) (by kernel_rfl) (by rw [hl]; exact of_decide_eq_true (by kernel_rfl)) (by rw [broadsheetref23_Groups.code]; kernel_rfl)
    (by rw [broadsheetref23_Groups.code, show compRes PG Tryd.f20.results.toList = [(.t 2)] from by kernel_rfl]; exact h)
def broadsheetref23_Cats.n : Nat := 21
noncomputable def broadsheetref23_Cats.c : C := (.seq (.reg [⟨(some 1), none, (.box 24 (.t 0))⟩, ⟨(some 2), none, (.mv (.c .nilS))⟩]) (.seq (.reg [⟨(some 6), none, (.mks 4 1 1 [(.bool false)] (.c (.int .i64 64)))⟩, ⟨(some 3), none, (.mv (.t 6))⟩]) (.seq (.reg [⟨(some 7), none, (.faddr 1 (.t 1))⟩, ⟨(some 8), none, (.load none (.t 7))⟩, ⟨(some 4), none, (.mv (.t 8))⟩]) (.seq (.seq (.reg [⟨(some 5), none, (.mv (.c (.int .i64 0)))⟩]) (.block 0 (.loop (.seq (.seq (.reg [⟨(some 9), none, (.mv (.t 5))⟩, ⟨(some 10), none, (.bin .lss (.t 9) (.c (.int .i64 64)))⟩]) (.cond (.t 10) .skip (.exit 0))) (.seq (.block 1 (.seq (.reg [⟨(some 13), none, (.mv (.t 3))⟩, ⟨(some 14), none, (.mv (.t 5))⟩, ⟨(some 15), none, (.mv (.t 4))⟩, ⟨(some 16), none, (.bin .rem (.t 15) (.c (.int .u64 2)))⟩, ⟨(some 17), none, (.bin .eql (.t 16) (.c (.int .u64 1)))⟩, ⟨(some 18), none, (.iaddr 1 (.t 13) (.t 14))⟩, ⟨none, none, (.store 1 (.t 18) (.t 17))⟩]) (.reg [⟨(some 19), none, (.mv (.t 4))⟩, ⟨(some 20), none, (.bin .quo (.t 19) (.c (.int .u64 2)))⟩, ⟨(some 4), none, (.mv (.t 20))⟩]))) (.reg [⟨(some 11), none, (.mv (.t 5))⟩, ⟨(some 12), none, (.bin .add (.t 11) (.c (.int .i64 1)))⟩, ⟨(some 5), none, (.mv (.t 12))⟩])))))) (.seq (.reg [⟨(some 21), none, (.mv (.t 3))⟩, ⟨(some 2), none, (.mv (.t 21))⟩]) .ret)))))
theorem broadsheetref23_Cats.code : comp PG [] (Tryd.f21.body.getD .skip) = broadsheetref23_Cats.c := by kernel_rfl
theorem broadsheetref23_Cats.of {args : List AV} {H : AH} {K : AV → AH → Prop} (hl : args.length = 1) (h : wpA PG broadsheetref23_Cats.c none (endA [(.t 2)] K) (initFr args) H) : ACalls PG 21 args H K :=
  ACalls.of_code (fl := []) mixed Tryd.func21 (c := Tryd.f21.body.getD .skip) (by kernel_rfl) (by kernel_rfl) (by rw [hl]; exact of_decide_eq_true (by kernel_rfl)) (by rw [broadsheetref23_Cats.code]; kernel_rfl)
    (by rw [broadsheetref23_Cats.code, show compRes PG Tryd.f21.results.toList = [(.t 2)] from by kernel_rfl]; exact h)
def broadsheetref23_of.n : Nat := 22
noncomputable def broadsheetref23_of.c : C := (.seq (.reg [⟨(some 4), none, (.allc 24 [(.int .i64 0), (.int .u64 0)])⟩]) (.seq (.reg [⟨(some 7), none, (.mv (.t 0))⟩, ⟨(some 8), none, (.build [(.int .i64 0), (.int .u64 0)] [(0, (1, (.t 7)))])⟩, ⟨(some 5), none, (.allc 24 [(.int .i64 0), (.int .u64 0)])⟩, ⟨none, none, (.store 2 (.t 5) (.t 8))⟩]) (.seq (.seq (.reg [⟨(some 6), none, (.mv (.c (.int .i64 63)))⟩]) (.block 0 (.loop (.seq (.seq (.reg [⟨(some 9), none, (.mv (.t 6))⟩, ⟨(some 10), none, (.bin .geq (.t 9) (.c (.int .i64 0)))⟩]) (.cond (.t 10) .skip (.exit 0))) (.seq (.block 1 (.seq (.reg [⟨(some 13), none, (.faddr 1 (.t 5))⟩, ⟨(some 14), none, (.load none (.t 13))⟩, ⟨(some 15), none, (.bin .mul (.t 14) (.c (.int .u64 2)))⟩, ⟨(some 16), none, (.faddr 1 (.t 5))⟩, ⟨none, none, (.store 1 (.t 16) (.t 15))⟩]) (.seq (.reg [⟨(some 17), none, (.mv (.t 1))⟩, ⟨(some 18), none, (.mv (.t 6))⟩, ⟨(some 19), none, (.iaddr 1 (.t 17) (.t 18))⟩, ⟨(some 20), none, (.load none (.t 19))⟩]) (.cond (.t 20) (.reg [⟨(some 21), none, (.faddr 1 (.t 5))⟩, ⟨(some 22), none, (.load none (.t 21))⟩, ⟨(some 23), none, (.bin .add (.t 22) (.c (.int .u64 1)))⟩, ⟨(some 24), none, (.faddr 1 (.t 5))⟩, ⟨none, none, (.store 1 (.t 24) (.t 23))⟩]) .skip)))) (.reg [⟨(some 11), none, (.mv (.t 6))⟩, ⟨(some 12), none, (.bin .sub (.t 11) (.c (.int .i64 1)))⟩, ⟨(some 6), none, (.mv (.t 12))⟩])))))) (.seq (.reg [⟨(some 25), none, (.load (some 2) (.t 5))⟩, ⟨none, none, (.store 2 (.t 4) (.t 25))⟩]) .ret))))
theorem broadsheetref23_of.code : comp PG [] (Tryd.f22.body.getD .skip) = broadsheetref23_of.c := by kernel_rfl
theorem broadsheetref23_of.of {args : List AV} {H : AH} {K : AV → AH → Prop} (hl : args.length = 2) (h : wpA PG broadsheetref23_of.c none (endA [(.cell 4 (some 2))] K) (initFr args) H) : ACalls PG 22 args H K :=
  ACalls.of_code (fl := []) mixed Tryd.func22 (c := Tryd.f22.body.getD .skip) (by kernel_rfl) (by kernel_rfl) (by rw [hl]; exact of_decide_eq_true (by kernel_rfl)) (by rw [broadsheetref23_of.code]; kernel_rfl)
    (by rw [broadsheetref23_of.code, show compRes PG Tryd.f22.results.toList = [(.cell 4 (some 2))] from by kernel_rfl]; exact h)
def broadsheetref20_Signed.n : Nat := 26
noncomputable def broadsheetref20_Signed.c : C := (.seq (.reg [⟨(some 2), none, (.mv (.c (.str [])))⟩]) (.seq (.seq (.reg [⟨(some 3), none, (.mv (.t 0))⟩, ⟨(some 4), none, (.bin .lss (.t 3) (.c (.int .i64 0)))⟩]) (.cond (.t 4) (.seq (.reg [⟨(some 5), none, (.mv (.t 0))⟩, ⟨(some 6), none, (.bin .add (.t 5) (.c (.int .i64 1)))⟩, ⟨(some 7), none, (.un .neg (.t 6))⟩, ⟨(some 8), none, (.conv .u64 (.t 7))⟩, ⟨(some 9), none, (.bin .add (.t 8) (.c (.int .u64 1)))⟩, ⟨(some 10), none, (.call 25 [(.t 9)])⟩, ⟨(some 11), none, (.bin .add (.c (.str [45])) (.t 10))⟩, ⟨(some 2), none, (.mv (.t 11))⟩]) .ret) .skip)) (.seq (.reg [⟨(some 12), none, (.mv (.t 0))⟩, ⟨(some 13), none, (.conv .u64 (.t 12))⟩, ⟨(some 14), none, (.call 25 [(.t 13)])⟩, ⟨(some 2), none, (.mv (.t 14))⟩]) .ret)))
theorem broadsheetref20_Signed.code : comp PG [] (Tryd.f26.body.getD .skip) = broadsheetref20_Signed.c := by kernel_rfl
theorem broadsheetref20_Signed.of {args : List AV} {H : AH} {K : AV → AH → Prop} (hl : args.length = 1) (h : wpA PG broadsheetref20_Signed.c none (endA [(.t 2)] K) (initFr args) H) : ACalls PG 26 args H K :=
  ACalls.of_code (fl := []) mixed Tryd.func26 (c := Tryd.f26.body.getD .skip) (by kernel_rfl) (by kernel_rfl) (by rw [hl]; exact of_decide_eq_true (by kernel_rfl)) (by rw [broadsheetref20_Signed.code]; kernel_rfl)
    (by rw [broadsheetref20_Signed.code, show compRes PG Tryd.f26.results.toList = [(.t 2)] from by kernel_rfl]; exact h)
def label_number.n : Nat := 29
noncomputable def label_number.c : C := (.seq (.reg [⟨(some 2), none, (.mv (.c (.int .i64 0)))⟩]) (.seq (.seq (.reg [⟨(some 5), none, (.mv (.t 0))⟩, ⟨(some 6), none, (.bin .eql (.t 5) (.c (.str [])))⟩, ⟨(some 7), none, (.mv (.t 6))⟩, ⟨(some 8), (some (7, false)), (.mv (.t 0))⟩, ⟨(some 9), (some (7, false)), (.len true (.t 8))⟩, ⟨(some 10), (some (7, false)), (.bin .gtr (.t 9) (.c (.int .i64 2)))⟩, ⟨(some 11), none, (.pick (.t 7) (.c (.bool true)) (.t 10))⟩, ⟨(some 12), none, (.mv (.t 11))⟩, ⟨(some 13), (some (12, false)), (.mv (.t 0))⟩, ⟨(some 14), (some (12, false)), (.idx (.t 13) (.c (.int .i64 0)))⟩, ⟨(some 15), (some (12, false)), (.bin .eql (.t 14) (.c (.int .u8 48)))⟩, ⟨(some 16), (some (12, false)), (.mv (.t 15))⟩, ⟨(some 17), (some (16, true)), (.mv (.t 0))⟩, ⟨(some 18), (some (16, true)), (.len true (.t 17))⟩, ⟨(some 19), (some (16, true)), (.bin .gtr (.t 18) (.c (.int .i64 1)))⟩, ⟨(some 20), (some (12, false)), (.pick (.t 16) (.t 19) (.c (.bool false)))⟩, ⟨(some 21), none, (.pick (.t 12) (.c (.bool true)) (.t 20))⟩]) (.cond (.t 21) (.seq (.reg [⟨(some 2), none, (.mv (.c (.int .i64 (-1))))⟩]) .ret) .skip)) (.seq (.reg [⟨(some 3), none, (.mv (.c (.int .i64 0)))⟩]) (.seq (.seq (.reg [⟨(some 22), none, (.mv (.t 0))⟩, ⟨(some 23), none, (.len true (.t 22))⟩, ⟨(some 24), none, (.mv (.c (.int .i64 0)))⟩]) (.block 0 (.loop (.seq (.reg [⟨(some 25), none, (.bin .lss (.t 24) (.t 23))⟩]) (.seq (.cond (.t 25) .skip (.exit 0)) (.seq (.block 1 (.seq (.reg [⟨(some 26), none, (.mv (.t 24))⟩, ⟨(some 4), none, (.mv (.t 26))⟩]) (.seq (.seq (.reg [⟨(some 27), none, (.mv (.t 0))⟩, ⟨(some 28), none, (.mv (.t 4))⟩, ⟨(some 29), none, (.idx (.t 27) (.t 28))⟩, ⟨(some 30), none, (.bin .lss (.t 29) (.c (.int .u8 48)))⟩, ⟨(some 31), none, (.mv (.t 30))⟩, ⟨(some 32), (some (31, false)), (.mv (.t 0))⟩, ⟨(some 33), (some (31, false)), (.mv (.t 4))⟩, ⟨(some 34), (some (31, false)), (.idx (.t 32) (.t 33))⟩, ⟨(some 35), (some (31, false)), (.bin .gtr (.t 34) (.c (.int .u8 57)))⟩, ⟨(some 36), none, (.pick (.t 31) (.c (.bool true)) (.t 35))⟩]) (.cond (.t 36) (.seq (.reg [⟨(some 2), none, (.mv (.c (.int .i64 (-1))))⟩]) .ret) .skip)) (.reg [⟨(some 37), none, (.mv (.t 3))⟩, ⟨(some 38), none, (.bin .mul (.c (.int .i64 10)) (.t 37))⟩, ⟨(some 39), none, (.mv (.t 0))⟩, ⟨(some 40), none, (.mv (.t 4))⟩, ⟨(some 41), none, (.idx (.t 39) (.t 40))⟩, ⟨(some 42), none, (.bin .sub (.t 41) (.c (.int .u8 48)))⟩, ⟨(some 43), none, (.conv .i64 (.t 42))⟩, ⟨(some 44), none, (.bin .add (.t 38) (.t 43))⟩, ⟨(some 3), none, (.mv (.t 44))⟩])))) (.reg [⟨(some 45), none, (.bin .add (.t 24) (.c (.int .i64 1)))⟩, ⟨(some 24), none, (.mv (.t 45))⟩]))))))) (.seq (.reg [⟨(some 46), none, (.mv (.t 3))⟩, ⟨(some 2), none, (.mv (.t 46))⟩]) .ret)))))
theorem label_number.code : comp PG [] (Tryd.f29.body.getD .skip) = label_number.c := by kernel_rfl
theorem label_number.of {args : List AV} {H : AH} {K : AV → AH → Prop} (hl : args.length = 1) (h : wpA PG label_number.c none (endA [(.t 2)] K) (initFr args) H) : ACalls PG 29 args H K :=
  ACalls.of_code (fl := []) mixed Tryd.func29 (c := Tryd.f29.body.getD .skip) (by kernel_rfl) (by kernel_rfl) (by rw [hl]; exact of_decide_eq_true (by kernel_rfl)) (by rw [label_number.code]; kernel_rfl)
    (by rw [label_number.code, show compRes PG Tryd.f29.results.toList = [(.t 2)] from by kernel_rfl]; exact h)
end Go.Proofs.YtlabklehgfdibaaDoor

/- Lists that are looked through one by one; plain. -/
namespace Go.Proofs.YtlabklehgfdibaaDoor
set_option autoImplicit false
section
variable {α : Type} {p : α → Bool} {l : List α} {i : Nat}
/-- Up to here there is none. -/
def none' (p : α → Bool) (l : List α) (i : Nat) : Prop := ∀ (k : Nat) (h : k < l.length), k < i → p l[k] = false
theorem none'_zero : none' p l 0 := fun k _ h => by omega
theorem none'_succ (h : none' p l i) (hi : i < l.length) (h2 : p l[i] = false) : none' p l (i + 1) := fun k hk h3 => by
  by_cases e : k = i
  · subst e; exact h2
  · exact h k hk (by omega)
theorem none'_any (h : none' p l l.length) : l.any p = false := by
  rw [List.any_eq_false]
  intro x hx
  obtain ⟨k, hk, rfl⟩ := List.getElem_of_mem hx
  simpa using h k hk hk
theorem none'_end (h : none' p l i) (hi : l.length ≤ i) : l.any p = false := none'_any fun k hk _ => h k hk (by omega)
theorem any_hit (hi : i < l.length) (h : p l[i] = true) : l.any p = true := List.any_eq_true.2 ⟨_, List.getElem_mem hi, h⟩
theorem any_none' (h : l.any p = false) (n : Nat) : none' p l n := fun k hk _ => by
  rw [List.any_eq_false] at h
  simpa using h _ (List.getElem_mem hk)
theorem find_hit : ∀ {l : List α} {i : Nat} (_ : none' p l i) (hi : i < l.length) (_ : p l[i] = true), l.findIdx? p = some i
  | a :: l, 0, _, _, h2 => by simp at h2; simp [List.findIdx?_cons, h2]
  | a :: l, i + 1, h, hi, h2 => by
    have h0 : p a = false := h 0 (by simp) (by omega)
    have h' : none' p l i := fun k hk h3 => h (k + 1) (by simpa using hk) (by omega)
    have := find_hit h' (by simpa using hi) (by simpa using h2)
    simp [List.findIdx?_cons, h0, this]
theorem find_none (h : none' p l i) (hi : l.length ≤ i) : l.findIdx? p = none := by
  rw [List.findIdx?_eq_none_iff]
  intro x hx
  obtain ⟨k, hk, rfl⟩ := List.getElem_of_mem hx
  exact h k hk (by omega)
theorem find_some {n : Nat} (h : l.findIdx? p = some n) : ∃ hn : n < l.length, p l[n] = true ∧ none' p l n := by
  rw [List.findIdx?_eq_some_iff_getElem] at h
  obtain ⟨hn, h1, h2⟩ := h
  exact ⟨hn, h1, fun k hk h3 => by have := h2 k h3; simpa using this⟩
end
/-- The first that is not 0. -/
def fst0 : List Int → Int
  | [] => 0
  | e :: l => if e ≠ 0 then e else fst0 l
theorem fst0_hit : ∀ {l : List Int} {i : Nat} (_ : ∀ (k : Nat) (h : k < l.length), k < i → l[k] = 0) (hi : i < l.length) (_ : l[i] ≠ 0), fst0 l = l[i]
  | e :: l, 0, _, _, h => by simp at h; simp [fst0, h]
  | e :: l, i + 1, h0, hi, h => by
    have h1 : e = 0 := h0 0 (by simp) (by omega)
    have := fst0_hit (l := l) (i := i) (fun k hk h3 => h0 (k + 1) (by simpa using hk) (by omega)) (by simpa using hi) (by simpa using h)
    simp [fst0, h1, this]
theorem fst0_end : ∀ {l : List Int} (_ : ∀ (k : Nat) (h : k < l.length), l[k] = 0), fst0 l = 0
  | [], _ => rfl
  | e :: l, h => by
    have h1 : e = 0 := h 0 (by simp)
    have := fst0_end (l := l) fun k hk => h (k + 1) (by simpa using hk)
    simp [fst0, h1, this]
end Go.Proofs.YtlabklehgfdibaaDoor

/- Tokens of a text; plain. -/
namespace Go.Proofs.YtlabklehgfdibaaDoor
set_option autoImplicit false

theorem drop_at {α : Type} (l : List α) (d : α) (i : Nat) (h : i < l.length) : l.drop i = l.getD i d :: l.drop (i + 1) := by
  rw [List.drop_eq_getElem_cons h]; congr 1; simp [List.getD, h]
theorem take_at {α : Type} (l : List α) (d : α) (i : Nat) (h : i < l.length) : l.take (i + 1) = l.take i ++ [l.getD i d] := by
  rw [List.take_add_one]; congr 1; simp [List.getD, h]
def dig (c : UInt8) : Bool := decide (48 ≤ c.toNat) && decide (c.toNat ≤ 57)
def ltr (c : UInt8) : Bool := (decide (97 ≤ c.toNat) && decide (c.toNat ≤ 122)) || (decide (65 ≤ c.toNat) && decide (c.toNat ≤ 90))
def nam (c : UInt8) : Bool := dig c || c == 95 || ltr c
def blnk (c : UInt8) : Bool := c == 32 || c == 9 || c == 10 || c == 13
def sgn (c : UInt8) : Bool := [61, 60, 62, 40, 41, 46, 91, 93, 45].contains c

/-- With how many bytes of a name a text begins. -/
def nl : List UInt8 → Nat
  | [] => 0
  | c :: r => if ltr c then 1 + (r.takeWhile nam).length else 0
def dl (s : List UInt8) : Nat := (s.takeWhile dig).length
def numV (s : List UInt8) : Nat := s.foldl (fun a c => 10 * a + (c.toNat - 48)) 0

inductive Q where
  | done (t : List UInt8) (n : Nat)
  | odd (i : Nat)
  | short
/-- Behind a quote: i bytes are read, acc is what they stand for. -/
def qs : List UInt8 → Nat → List UInt8 → Q
  | [], _, _ => .short
  | [c], i, acc => if c.toNat < 32 ∨ 126 < c.toNat then .odd i else if c = 39 then .done acc (i + 1) else .short
  | c :: d :: r, i, acc =>
    if c.toNat < 32 ∨ 126 < c.toNat then .odd i
    else if c = 39 then (if d = 39 then qs r (i + 2) (acc ++ [39]) else .done acc (i + 1))
    else qs (d :: r) (i + 1) (acc ++ [c])

inductive LR where
  | tok (k : Int) (t : List UInt8) (num n : Nat)
  | bad (e : Int) (off : Nat)
def two (s : List UInt8) : Bool := s.take 2 == [60, 62] || s.take 2 == [60, 61] || s.take 2 == [62, 61]
/-- The token with which a text begins. -/
def lex : List UInt8 → LR
  | [] => .bad 11 0
  | c :: r =>
    if ltr c then .tok 1 ((c :: r).take (nl (c :: r))) 0 (nl (c :: r))
    else if dig c then
      if 1 < dl (c :: r) ∧ c = 48 then .bad 1 0
      else if numV ((c :: r).take (dl (c :: r))) < 18446744073709551616 then .tok 2 ((c :: r).take (dl (c :: r))) (numV ((c :: r).take (dl (c :: r)))) (dl (c :: r))
      else .bad 7 0
    else if c = 39 then match qs r 1 [] with
      | .done t n => .tok 3 t 0 n
      | .odd i => .bad 10 i
      | .short => .bad 2 0
    else if c = 37 then match r with
      | d :: _ => if dig d then .tok 4 [37, d] (d.toNat - 48) 2 else .bad 11 0
      | [] => .bad 11 0
    else if sgn c then .tok 5 ((c :: r).take (if two (c :: r) then 2 else 1)) 0 (if two (c :: r) then 2 else 1)
    else .bad 11 0

/-- The words of the language. -/
def rsv : List (List UInt8) := [[65, 78, 68], [79, 82], [78, 79, 84], [66, 69, 84, 87, 69, 69, 78], [76, 73, 75, 69], [84, 82, 85, 69], [70, 65, 76, 83, 69]]
theorem nl_cons (c : UInt8) (r : List UInt8) : nl (c :: r) = if ltr c = true then 1 + (r.takeWhile nam).length else 0 := rfl
theorem nl_le (s : List UInt8) : nl s ≤ s.length := by
  cases s with
  | nil => exact Nat.le_refl _
  | cons c r =>
    have : (r.takeWhile nam).length ≤ r.length := (List.takeWhile_prefix _).length_le
    rw [nl_cons, List.length_cons]
    split <;> omega
theorem dl_le (s : List UInt8) : dl s ≤ s.length := (List.takeWhile_prefix _).length_le
theorem tw_step {f : UInt8 → Bool} : ∀ {r : List UInt8} {n : Nat}, n ≤ (r.takeWhile f).length → n < r.length → (n < (r.takeWhile f).length ↔ f (r.getD n 0) = true)
  | [], n, _, h => by simp at h
  | d :: r, n, h1, h2 => by
    rw [List.takeWhile_cons] at h1 ⊢
    split
    · rename_i hd
      rw [if_pos hd] at h1
      cases n with
      | zero => simp [hd]
      | succ n => simpa using tw_step (r := r) (n := n) (by simpa using h1) (by simpa using h2)
    · rename_i hd
      rw [if_neg hd] at h1
      have : n = 0 := by simpa using h1
      subst this
      simpa using hd
/-- Is byte n, behind n of a name, of a name, too? -/
theorem nl_step {s : List UInt8} {n : Nat} (hn : n ≤ nl s) (hl : n < s.length) : n < nl s ↔ (if n = 0 then ltr (s.getD 0 0) else nam (s.getD n 0)) = true := by
  cases s with
  | nil => simp at hl
  | cons c r =>
    rw [nl_cons] at *
    cases n with
    | zero =>
      rw [if_pos rfl, List.getD_cons_zero]
      split
      · rename_i h; simp only [h, iff_true]; omega
      · rename_i h; simp only [h, Nat.lt_irrefl]
        exact ⟨fun q => q.elim, fun q => by cases q⟩
    | succ n =>
      rw [if_neg (Nat.succ_ne_zero n), List.getD_cons_succ]
      split at hn
      · rename_i h
        rw [if_pos h]
        have hl' : n < r.length := by simpa using hl
        rw [← tw_step (f := nam) (r := r) (n := n) (by omega) hl']
        omega
      · omega
theorem dl_step {s : List UInt8} {n : Nat} (hn : n ≤ dl s) (hl : n < s.length) : n < dl s ↔ dig (s.getD n 0) = true := by
  unfold dl at *
  induction s generalizing n with
  | nil => simp at hl
  | cons d r ih =>
    rw [List.takeWhile_cons] at hn ⊢
    split
    · rename_i hd
      rw [if_pos hd] at hn
      cases n with
      | zero => simp [hd]
      | succ n => simpa using ih (by simpa using hn) (by simpa using hl)
    · rename_i hd
      rw [if_neg hd] at hn
      have : n = 0 := by simpa using hn
      subst this
      simpa using hd
end Go.Proofs.YtlabklehgfdibaaDoor

/- Types, and which may be; plain. -/
namespace Go.Proofs.YtlabklehgfdibaaDoor
set_option autoImplicit false
structure It where
  nm : List UInt8
  num : Nat
  ty : Int
  key : Bool
  rest : Bool
structure Ty where
  kd : Int
  nm : List UInt8
  bd : Int
  el : Int
  tg : Int
  its : List It
abbrev it0 : It := ⟨[], 0, 0, false, false⟩
abbrev ty0 : Ty := ⟨0, [], 0, 0, 0, []⟩
def isNum (k : Int) : Bool := decide (1 ≤ k ∧ k ≤ 9)
def kNm (k : Int) : Bool := decide (k = 9 ∨ k = 13 ∨ k = 14)
def kBd (k : Int) : Bool := decide (k = 10 ∨ k = 11 ∨ k = 12)
def kEl (k : Int) : Bool := decide (k = 11 ∨ k = 12)
def kTg (k : Int) : Bool := decide (k = 14)
def tAt (l : List Ty) (t : Int) : Ty := l.getD t.toNat ty0
/-- A kind's bytes. -/
def szK (k : Int) : Nat := if k = 1 ∨ k = 2 then 1 else if k = 3 ∨ k = 4 then 2 else if k = 5 ∨ k = 6 ∨ k = 9 then 4 else if k = 7 ∨ k = 8 then 8 else 0
def sgK (k : Int) : Bool := decide (k = 3 ∨ k = 5 ∨ k = 7 ∨ k = 9)
def lowN (b n : Nat) : Nat := n % 2 ^ (8 * b)
/-- The number with a sign of the lowest bytes. -/
def sgnI (b n : Nat) : Int := if lowN b n < 2 ^ (8 * b - 1) then (lowN b n : Int) else (lowN b n : Int) - 2 ^ (8 * b)
def wide (i : Int) : Nat := (i % 18446744073709551616).toNat
def lowK (k : Int) (n : Nat) : Nat := if szK k = 0 then 0 else lowN (szK k) n
def upK (k : Int) (n : Nat) : Nat := if sgK k = true then wide (sgnI (szK k) n) else lowK k n
def mayK (k : Int) (n : Nat) : Bool := isNum k && decide (upK k n = n) && (decide (k ≠ 1) || decide (n ≤ 1))
def nameOk (s : List UInt8) : Bool := decide (s ≠ []) && decide (s.length ≤ 16) && decide (nl s = s.length) && !rsv.contains s
def parts (t : Ty) : List Int := (if kEl t.kd = true then [t.el] else []) ++ (if kTg t.kd = true then [t.tg] else []) ++ (if t.kd = 13 ∨ t.kd = 14 then t.its.map (·.ty) else [])
def itMore (k : Int) (x : It) : Bool := decide ((k = 9 ∧ x.ty ≠ 0) ∨ (k ≠ 13 ∧ x.key = true) ∨ (k ≠ 14 ∧ x.rest = true) ∨ ((k = 13 ∨ x.rest = true) ∧ x.num ≠ 0))
def tyMore (t : Ty) : Bool := decide ((kNm t.kd = false ∧ (t.nm ≠ [] ∨ t.its ≠ [])) ∨ (kBd t.kd = false ∧ t.bd ≠ 0) ∨ (kEl t.kd = false ∧ t.el ≠ 0) ∨ (kTg t.kd = false ∧ t.tg ≠ 0))
def formE (t : Ty) : Int := if t.kd < 1 ∨ 14 < t.kd then 4 else if tyMore t = true ∨ t.its.any (itMore t.kd) = true then 1 else 0
def namedE (l : List Ty) (t : Ty) (n : Nat) : Int := if kNm t.kd = true then (if nameOk t.nm = true then (if (l.take n).any (fun x => x.nm == t.nm) = true then 6 else 0) else 5) else 0
def boundE (t : Ty) : Int := if kBd t.kd = true ∧ (64 < t.bd ∨ t.bd < 0 ∨ (kEl t.kd = true ∧ t.bd = 0)) then 7 else 0
def orderE (l : List Ty) (t : Ty) (n : Nat) : Int := if (parts t).any (fun p => decide (p < 0 ∨ (n : Int) ≤ p)) = true then 14 else if t.kd = 14 ∧ isNum (tAt l t.tg).kd = false then 8 else 0
def valIx (l : List Ty) (t : Int) (n : Nat) : Option Nat := if 0 ≤ t ∧ t < l.length ∧ (tAt l t).kd = 9 then (tAt l t).its.findIdx? (fun x => x.num == n) else none
def itemIx (l : List Ty) (t : Int) (s : List UInt8) : Option Nat := if 0 ≤ t ∧ t < l.length ∧ kNm (tAt l t).kd = true then (tAt l t).its.findIdx? (fun x => x.nm == s) else none
def brIx (l : List Ty) (t : Int) (n : Nat) : Option Nat := if 0 ≤ t ∧ t < l.length ∧ (tAt l t).kd = 14 then ((tAt l t).its.findIdx? (fun x => x.num == n && !x.rest)).or ((tAt l t).its.findIdx? (·.rest)) else none
def mayT (l : List Ty) (t : Ty) (n : Nat) : Bool := if t.kd = 9 then mayK 9 n else if (tAt l t.tg).kd = 9 then (valIx l t.tg n).isSome else mayK (tAt l t.tg).kd n
def itemE (l : List Ty) (t : Ty) (i : Nat) : Int :=
  let x := t.its.getD i it0
  if nameOk x.nm = true then
    if (t.its.take i).any (fun y => y.nm == x.nm) = true then 6
    else if t.kd = 13 then (if x.key = true ∧ isNum (tAt l x.ty).kd = false ∧ (tAt l x.ty).kd ≠ 10 then 17 else 0)
    else if x.rest = true then (if i + 1 = t.its.length then 0 else 14)
    else if mayT l t x.num = true then (if (t.its.take i).any (fun y => y.num == x.num) = true then 6 else 0)
    else 7
  else 5
def itemsE (l : List Ty) (t : Ty) : Int := if kNm t.kd = true then (if t.its.length = 0 then 18 else if 16 < t.its.length then 3 else fst0 ((List.range t.its.length).map (itemE l t))) else 0
/-- How deep the first types are. -/
def dpT (l : List Ty) : Nat → List Nat
  | 0 => []
  | n + 1 => dpT l n ++ [(parts (l.getD n ty0)).foldl (fun m p => if 0 ≤ p ∧ p < (n : Int) then max m ((dpT l n).getD p.toNat 0 + 1) else m) 1]
def deepT (l : List Ty) (t : Int) : Nat := if 0 ≤ t ∧ t < l.length then (dpT l (t.toNat + 1)).getD t.toNat 0 else 0
def deepE (l : List Ty) (n : Nat) : Int := if 6 < deepT l n then 9 else 0
def tyErr (l : List Ty) (n : Nat) : Int := let t := l.getD n ty0
  fst0 [formE t, namedE l t n, boundE t, orderE l t n, itemsE l t, deepE l n]
/-- What is wrong first, and where. -/
def tyChk (l : List Ty) : Int × Int := if 32 < l.length then (3, 32) else match (List.range l.length).findIdx? (fun i => decide (tyErr l i ≠ 0)) with
  | some i => (tyErr l i, (i : Nat))
  | none => (0, 0)
end Go.Proofs.YtlabklehgfdibaaDoor

/- Values, trees; plain. -/
namespace Go.Proofs.YtlabklehgfdibaaDoor
set_option autoImplicit false
set_option linter.unusedVariables false
inductive Vl where
  | mk (kd : Int) (num : Nat) (tx : List UInt8) (its : List Vl)
def Vl.kd : Vl → Int | .mk k _ _ _ => k
def Vl.num : Vl → Nat | .mk _ n _ _ => n
def Vl.tx : Vl → List UInt8 | .mk _ _ t _ => t
def Vl.its : Vl → List Vl | .mk _ _ _ l => l
abbrev vl0 : Vl := .mk 0 0 [] []
mutual
def vEq : Vl → Vl → Bool
  | .mk k n t l, .mk k' n' t' l' => decide (k = k') && decide (n = n') && decide (t = t') && vEqs l l'
def vEqs : List Vl → List Vl → Bool
  | [], [] => true
  | a :: l, b :: m => vEq a b && vEqs l m
  | _, _ => false
end
mutual
theorem vEq_iff : ∀ a b : Vl, vEq a b = true ↔ a = b
  | .mk k n t l, .mk k' n' t' l' => by
    simp only [vEq, Bool.and_eq_true, decide_eq_true_eq, Vl.mk.injEq, vEqs_iff l l']
    exact ⟨fun ⟨⟨⟨a, b⟩, c⟩, d⟩ => ⟨a, b, c, d⟩, fun ⟨a, b, c, d⟩ => ⟨⟨⟨a, b⟩, c⟩, d⟩⟩
theorem vEqs_iff : ∀ a b : List Vl, vEqs a b = true ↔ a = b
  | [], [] => by simp [vEqs]
  | a :: l, b :: m => by simp only [vEqs, Bool.and_eq_true, List.cons.injEq, vEq_iff a b, vEqs_iff l m]
  | [], b :: m => by simp [vEqs]
  | a :: l, [] => by simp [vEqs]
end
theorem vEq_refl (a : Vl) : vEq a a = true := (vEq_iff a a).2 rfl
mutual
def vDeep : Vl → Nat
  | .mk _ _ _ l => 1 + vDeeps l
def vDeeps : List Vl → Nat
  | [] => 0
  | a :: l => max (vDeep a) (vDeeps l)
end
mutual
def vGreat : Vl → Nat
  | .mk _ _ t l => 1 + t.length + vGreats l
def vGreats : List Vl → Nat
  | [] => 0
  | a :: l => vGreat a + vGreats l
end
mutual
/-- Too great, or too deep, to be asked. -/
def vMuch : Vl → Nat → Bool
  | .mk _ _ t l, d => decide (40 < d) || decide (300 < l.length) || decide (1000 < t.length) || (vMuchs l (d + 1 + l.length / 4) || decide (10000 < vGreats l))
def vMuchs : List Vl → Nat → Bool
  | [], _ => false
  | a :: l, d => vMuch a d || vMuchs l d
end
theorem vGreats_mem : ∀ {l : List Vl} {x : Vl}, x ∈ l → vGreat x ≤ vGreats l
  | a :: l, x, h => by
    simp only [vGreats]
    rcases List.mem_cons.1 h with rfl | h
    · omega
    · have := vGreats_mem h; omega
theorem vDeeps_mem : ∀ {l : List Vl} {x : Vl}, x ∈ l → vDeep x ≤ vDeeps l
  | a :: l, x, h => by
    simp only [vDeeps]
    rcases List.mem_cons.1 h with rfl | h
    · omega
    · have := vDeeps_mem h; omega
theorem vMuchs_mem : ∀ {l : List Vl} {d : Nat}, vMuchs l d = false → ∀ x ∈ l, vMuch x d = false
  | a :: l, d, h, x, hx => by
    simp only [vMuchs, Bool.or_eq_false_iff] at h
    rcases List.mem_cons.1 hx with rfl | hx
    · exact h.1
    · exact vMuchs_mem h.2 x hx
theorem vMuch_great {v : Vl} {d : Nat} (h : vMuch v d = false) : vGreat v ≤ 11001 := by
  obtain ⟨k, n, t, l⟩ := v
  simp only [vMuch, Bool.or_eq_false_iff, decide_eq_false_iff_not] at h
  simp only [vGreat]
  omega
mutual
theorem vDeep_great : ∀ v : Vl, vDeep v ≤ vGreat v
  | .mk k n t l => by have := vDeeps_greats l; simp only [vDeep, vGreat]; omega
theorem vDeeps_greats : ∀ l : List Vl, vDeeps l ≤ vGreats l
  | [] => Nat.le_refl _
  | a :: l => by have := vDeep_great a; have := vDeeps_greats l; simp only [vDeeps, vGreats]; omega
end
theorem vGreats_len : ∀ l : List Vl, l.length ≤ vGreats l
  | [] => Nat.le_refl _
  | a :: l => by
    have := vGreats_len l
    have : 1 ≤ vGreat a := by obtain ⟨k, n, t, m⟩ := a; simp only [vGreat]; omega
    simp only [vGreats, List.length_cons]; omega
theorem vGreats_take : ∀ (l : List Vl) (i : Nat) (h : i < l.length), vGreats (l.take (i + 1)) = vGreats (l.take i) + vGreat l[i]
  | a :: l, 0, h => by simp [vGreats]
  | a :: l, i + 1, h => by
    have := vGreats_take l i (by simpa using h)
    simp only [List.take_succ_cons, vGreats, List.getElem_cons_succ] at this ⊢
    omega
theorem vDeeps_take : ∀ (l : List Vl) (i : Nat) (h : i < l.length), vDeeps (l.take (i + 1)) = max (vDeeps (l.take i)) (vDeep l[i])
  | a :: l, 0, h => by simp [vDeeps]
  | a :: l, i + 1, h => by
    have := vDeeps_take l i (by simpa using h)
    simp only [List.take_succ_cons, vDeeps, List.getElem_cons_succ] at this ⊢
    omega
theorem vGreats_takeLe : ∀ (l : List Vl) (i : Nat), vGreats (l.take i) ≤ vGreats l
  | [], i => by simp
  | a :: l, 0 => by simp [vGreats]
  | a :: l, i + 1 => by have := vGreats_takeLe l i; simp only [List.take_succ_cons, vGreats]; omega
theorem vDeeps_takeLe : ∀ (l : List Vl) (i : Nat), vDeeps (l.take i) ≤ vDeeps l
  | [], i => by simp
  | a :: l, 0 => by simp [vDeeps]
  | a :: l, i + 1 => by have := vDeeps_takeLe l i; simp only [List.take_succ_cons, vDeeps]; omega
/-- What stands at a place, step by step. -/
def vAt : Vl → List Int → Option Vl
  | v, [] => some v
  | v, n :: l => if 0 ≤ n ∧ n < v.its.length then vAt (v.its.getD n.toNat vl0) l else none
/-- A number's digits. -/
def decD : Nat → Nat → List UInt8
  | 0, _ => []
  | k + 1, n => if n < 10 then [UInt8.ofNat (48 + n)] else decD k (n / 10) ++ [UInt8.ofNat (48 + n % 10)]
def dec (n : Nat) : List UInt8 := decD 20 n
def figH (n : Nat) : UInt8 := UInt8.ofNat (if n < 10 then 48 + n else 87 + n)
def quoC (c : UInt8) : List UInt8 := if c.toNat < 32 ∨ 126 < c.toNat ∨ c = 39 ∨ c = 92 then [92, figH (c.toNat / 16), figH (c.toNat % 16)] else [c]
def quo (s : List UInt8) : List UInt8 := [39] ++ s.flatMap quoC ++ [39]
def numText (k : Int) (n : Nat) : List UInt8 :=
  if k = 1 then (if n % 2 = 1 then [116, 114, 117, 101] else [102, 97, 108, 115, 101])
  else if sgK k = true ∧ sgnI (szK k) n < 0 then 45 :: dec (-(sgnI (szK k) n)).toNat else dec (upK k n)
mutual
def vText : Vl → List UInt8
  | .mk k n t l =>
    if isNum k = true then numText k n
    else if k = 10 then quo t
    else if k = 11 ∨ k = 12 then [91] ++ vTexts [44] l ++ [93]
    else if k = 13 then [40] ++ vTexts [44] l ++ [41]
    else if k = 14 then [60] ++ dec n ++ vTail [58] l ++ [62]
    else [63]
/-- .. one behind the other, a sign between. -/
def vTexts (s : List UInt8) : List Vl → List UInt8
  | [] => []
  | a :: l => vText a ++ vTail s l
def vTail (s : List UInt8) : List Vl → List UInt8
  | [] => []
  | a :: l => s ++ vText a ++ vTail s l
end
end Go.Proofs.YtlabklehgfdibaaDoor

/- The texts of values; plain. -/
namespace Go.Proofs.YtlabklehgfdibaaDoor
set_option autoImplicit false
theorem decD_dec : ∀ (k n : Nat), n < 10 ^ k → decD k n = if k = 0 then [] else Lib.decDigits n
  | 0, n, h => by simp [decD]
  | k + 1, n, h => by
    rw [if_neg (Nat.succ_ne_zero k), decD, Lib.decDigits]
    by_cases h1 : n < 10
    · rw [if_pos h1, dif_pos h1]
    · rw [if_neg h1, dif_neg h1]
      have hk : k ≠ 0 := by intro e; subst e; simp at h; omega
      rw [decD_dec k (n / 10) (by rw [Nat.pow_succ] at h; omega), if_neg hk]
theorem dec_eq {n : Nat} (h : n < 18446744073709551616) : dec n = Lib.decDigits n := by
  have := decD_dec 20 n (by omega)
  rw [if_neg (by omega)] at this
  exact this
theorem decD_len : ∀ (k n : Nat), (decD k n).length ≤ k
  | 0, n => by simp [decD]
  | k + 1, n => by
    have := decD_len k (n / 10)
    rw [decD]
    split
    · simp
    · simp; omega
theorem dec_len (n : Nat) : (dec n).length ≤ 20 := decD_len 20 n
theorem quoC_len (c : UInt8) : (quoC c).length ≤ 3 := by unfold quoC; split <;> simp
theorem quoF_len : ∀ t : List UInt8, (t.flatMap quoC).length ≤ 3 * t.length
  | [] => by simp
  | c :: t => by have := quoF_len t; have := quoC_len c; simp only [List.flatMap_cons, List.length_append, List.length_cons]; omega
theorem quo_len (t : List UInt8) : (quo t).length ≤ 2 + 3 * t.length := by
  have := quoF_len t
  simp only [quo, List.length_append, List.length_cons, List.length_nil]; omega
theorem numText_len (k : Int) (n : Nat) : (numText k n).length ≤ 21 := by
  unfold numText
  have a := dec_len (-(sgnI (szK k) n)).toNat
  have b := dec_len (upK k n)
  split
  · split <;> simp
  · split
    · simp only [List.length_cons]; omega
    · omega
mutual
theorem vText_len : ∀ v : Vl, (vText v).length + 1 ≤ 24 * vGreat v
  | .mk k n t l => by
    have h1 := numText_len k n
    have h2 := quo_len t
    have h3 := vTexts_len [44] l (by simp)
    have h4 := vTail_len [58] l (by simp)
    have h5 := dec_len n
    simp only [vText, vGreat]
    repeat' split
    all_goals (try simp only [List.length_append, List.length_cons, List.length_nil]); omega
theorem vTexts_len : ∀ (s : List UInt8) (l : List Vl), s.length ≤ 1 → (vTexts s l).length ≤ 24 * vGreats l
  | s, [], _ => by simp [vTexts]
  | s, a :: l, h => by
    have h1 := vText_len a
    have h2 := vTail_len s l h
    simp only [vTexts, vGreats, List.length_append]; omega
theorem vTail_len : ∀ (s : List UInt8) (l : List Vl), s.length ≤ 1 → (vTail s l).length ≤ 24 * vGreats l
  | s, [], _ => by simp [vTail]
  | s, a :: l, h => by
    have h1 := vText_len a
    have h2 := vTail_len s l h
    simp only [vTail, vGreats, List.length_append]; omega
end
theorem vTail_join (s : List UInt8) : ∀ l : List Vl, vTail s l = Lib.joinTail s (l.map vText)
  | [] => rfl
  | a :: l => by
    have := vTail_join s l
    simp only [vTail, this, Lib.joinTail, List.map_cons, List.flatten_cons]
theorem vTexts_join (s : List UInt8) : ∀ l : List Vl, vTexts s l = Lib.join (l.map vText) s
  | [] => rfl
  | a :: l => by rw [vTexts, vTail_join, List.map_cons, Lib.join_cons]
theorem vTail_snoc (s : List UInt8) (x : Vl) : ∀ l : List Vl, vTail s (l ++ [x]) = vTail s l ++ (s ++ vText x)
  | [] => by simp [vTail]
  | a :: l => by
    have := vTail_snoc s x l
    simp only [List.cons_append, vTail, this, List.append_assoc]
theorem vTexts_snoc (s : List UInt8) (x : Vl) (l : List Vl) (h : l ≠ []) : vTexts s (l ++ [x]) = vTexts s l ++ (s ++ vText x) := by
  cases l with
  | nil => exact absurd rfl h
  | cons a l => simp only [List.cons_append, vTexts, vTail_snoc, List.append_assoc]
/-- The texts so far. -/
def accT (k : Int) (l : List Vl) : List UInt8 := if k = 14 then vTail [58] l else vTexts [44] l
theorem accT_len (k : Int) (l : List Vl) : (accT k l).length ≤ 24 * vGreats l := by
  unfold accT
  split
  · exact vTail_len _ _ (by simp)
  · exact vTexts_len _ _ (by simp)
theorem accT_step (k : Int) (l : List Vl) (i : Nat) (h : i < l.length) : accT k (l.take (i + 1)) = accT k (l.take i) ++ ((if k = 14 then [58] else if 0 < i then [44] else []) ++ vText l[i]) := by
  rw [List.take_succ_eq_append_getElem h]
  unfold accT
  split
  · exact vTail_snoc _ _ _
  · by_cases hi : 0 < i
    · rw [if_pos hi]
      refine vTexts_snoc _ _ _ (fun e => ?_)
      have := congrArg List.length e
      simp only [List.length_take, List.length_nil] at this
      omega
    · obtain rfl : i = 0 := by omega
      simp [vTexts, vTail]
end Go.Proofs.YtlabklehgfdibaaDoor

/- Labels: levels, categories as bits; plain. -/
namespace Go.Proofs.YtlabklehgfdibaaDoor
set_option autoImplicit false
/-- Which categories a label has. -/
def catsL (n : Nat) : List Bool := (List.range 64).map n.testBit
/-- The number that has these bits, the lowest first. -/
def ofB : List Bool → Nat
  | [] => 0
  | b :: l => 2 * ofB l + b.toNat
theorem testBit_ofB : ∀ (l : List Bool) (i : Nat), (ofB l).testBit i = l.getD i false
  | [], i => by simp [ofB]
  | b :: l, 0 => by
    rw [ofB, Nat.testBit_zero]
    cases b <;> simp [Nat.add_mod]
  | b :: l, i + 1 => by
    have h : (2 * ofB l + b.toNat) / 2 = ofB l := by cases b <;> simp <;> omega
    rw [ofB, Nat.testBit_succ, h, testBit_ofB l i]
    rfl
theorem ofB_lt : ∀ l : List Bool, ofB l < 2 ^ l.length
  | [] => by simp [ofB]
  | b :: l => by
    have := ofB_lt l
    have hb : b.toNat ≤ 1 := Bool.toNat_le b
    simp only [ofB, List.length_cons, Nat.pow_succ]; omega
theorem ofB_take (l : List Bool) (i : Nat) (h : i < l.length) : ofB (l.drop i) = 2 * ofB (l.drop (i + 1)) + (l[i]).toNat := by
  rw [List.drop_eq_getElem_cons h, ofB]
theorem catsL_len (n : Nat) : (catsL n).length = 64 := by simp [catsL]
theorem catsL_get (n i : Nat) (h : i < (catsL n).length) : (catsL n)[i] = n.testBit i := by simp [catsL]
theorem catsL_getD (n i : Nat) (h : n < 2 ^ 64) : (catsL n).getD i false = n.testBit i := by
  by_cases hi : i < 64
  · simp [catsL, hi]
  · rw [Nat.testBit_lt_two_pow (Nat.lt_of_lt_of_le h (Nat.pow_le_pow_right (by decide) (by omega)))]
    simp [catsL, hi]
theorem ofB_cats {n : Nat} (h : n < 2 ^ 64) : ofB (catsL n) = n := Nat.eq_of_testBit_eq fun i => by rw [testBit_ofB, catsL_getD n i h]
theorem ofB_or {a b : Nat} (ha : a < 2 ^ 64) (hb : b < 2 ^ 64) : ofB (List.zipWith (· || ·) (catsL a) (catsL b)) = a ||| b := Nat.eq_of_testBit_eq fun i => by
  rw [testBit_ofB, Nat.testBit_or, ← catsL_getD a i ha, ← catsL_getD b i hb]
  simp only [List.getD_eq_getElem?_getD, List.getElem?_zipWith]
  by_cases hi : i < 64
  · simp [catsL, hi]
  · simp [catsL, hi]
theorem ofB_and {a b : Nat} (ha : a < 2 ^ 64) (hb : b < 2 ^ 64) : ofB (List.zipWith (· && ·) (catsL a) (catsL b)) = a &&& b := Nat.eq_of_testBit_eq fun i => by
  rw [testBit_ofB, Nat.testBit_and, ← catsL_getD a i ha, ← catsL_getD b i hb]
  simp only [List.getD_eq_getElem?_getD, List.getElem?_zipWith]
  by_cases hi : i < 64
  · simp [catsL, hi]
  · simp [catsL, hi]
/-- All that one has the other has. -/
def subB (a b : Nat) : Bool := (List.range 64).all fun i => !a.testBit i || b.testBit i
theorem subB_iff (a b : Nat) : subB a b = true ↔ ∀ i, i < 64 → a.testBit i = true → b.testBit i = true := by
  simp only [subB, List.all_eq_true, List.mem_range, Bool.or_eq_true, Bool.not_eq_true']
  refine ⟨fun h i hi ha => ?_, fun h i hi => ?_⟩
  · rcases h i hi with q | q
    · rw [q] at ha; cases ha
    · exact q
  · cases q : a.testBit i with
    | false => exact .inl rfl
    | true => exact .inr (h i hi q)
/-- The categories, as numbers. -/
def catN (n i : Nat) : List Nat := (List.range i).filter n.testBit
theorem catN_succ (n i : Nat) : catN n (i + 1) = if n.testBit i = true then catN n i ++ [i] else catN n i := by
  unfold catN
  rw [List.range_succ, List.filter_append]
  cases h : n.testBit i <;> simp [h]
theorem catN_len (n i : Nat) : (catN n i).length ≤ i := by
  have := List.length_filter_le n.testBit (List.range i)
  simpa [catN] using this
theorem testBit_div (n i : Nat) : n.testBit i = decide (n / 2 ^ i % 2 = 1) := by
  rw [Nat.testBit, Nat.shiftRight_eq_div_pow]
  simp
  congr
/-- A label's text. -/
def labText (lv : Int) (n : Nat) : List UInt8 := Lib.itoa lv ++ [123] ++ Lib.join ((catN n 64).map dec) [44] ++ [125]
end Go.Proofs.YtlabklehgfdibaaDoor

/- What a law's arguments are: from the reading of the form to abstract values. -/
namespace Go.Proofs.YtlabklehgfdibaaDoor
set_option autoImplicit false
set_option linter.unusedSimpArgs false
set_option linter.unusedVariables false

/-- The shape of a type: what its cells are. 'u' and 'p': the parts of a struct or an array, one behind the other. -/
inductive Sh where
  | int (k : IntKind)
  | bool
  | str
  | u
  | p (a b : Sh)
  | slice (sz bytes : Nat) (e : Sh)
  | ptr (e : Sh)
  | no

def Sh.rep : Nat → Sh → Sh
  | 0, _ => .u
  | n + 1, a => .p a (Sh.rep n a)

def Sh.Ok : Sh → List AV → Prop
  | .int k, vs => ∃ n, vs = [.int k n] ∧ (Lit.int k n).wf = true
  | .bool, vs => ∃ b, vs = [.bool b]
  | .str, vs => ∃ l : List UInt8, vs = [.str l] ∧ l.length ≤ 140737488351232
  | .u, vs => vs = []
  | .p a b, vs => ∃ x y, vs = x ++ y ∧ a.Ok x ∧ b.Ok y
  | .slice sz bytes e, vs => vs = [.nilS] ∨ ∃ l, vs = [.rows sz l] ∧ l.length * bytes ≤ 140737488351232 ∧ ∀ r ∈ l, e.Ok r
  | .ptr e, vs => vs = [.nilP] ∨ ∃ r, vs = [.fp r] ∧ e.Ok r
  | .no, _ => False

def fieldsSh (P : Program) (sh : TypeId → Option Sh) (tot : Nat) : Nat → List Field → Option Sh
  | o, [] => if o = tot then some .u else none
  | o, f :: r => if f.offset = o then (sh f.type).bind fun a => (fieldsSh P sh tot (o + P.cellsOf f.type) r).map (.p a) else none

/-- 'rc': a type that holds itself is followed as deep as the fuel lets. -/
def shO (rc : Bool) (P : Program) : Nat → TypeId → Option Sh
  | 0, _ => if rc = true then some .no else none
  | n + 1, t => match P.underlying t with
    | some .bool => some .bool
    | some (.int k) => some (.int k)
    | some .string => some .str
    | some (.struct fs) => fieldsSh P (shO rc P n) (P.cellsOf t) 0 fs.toList
    | some (.array m e) => if P.cellsOf t = m * P.cellsOf e then (shO rc P n e).map (Sh.rep m) else none
    | some (.slice e) => if 0 < P.cellsOf e then (shO rc P n e).map (.slice (P.cellsOf e) (P.bytesOf e)) else none
    | some (.pointer e) => if 0 < P.cellsOf e then (shO rc P n e).map .ptr else none
    | _ => none

abbrev shOf (P : Program) (n : Nat) (t : TypeId) : Option Sh := shO false P n t

section
variable {h : Array Obj}

/-- Cells and their values. -/
def PartR (h : Array Obj) (vs : List AV) (cs : List Value) : Prop :=
  vs.length = cs.length ∧ ∀ (i : Nat) v c, vs[i]? = some v → cs[i]? = some c → v.isCell = true ∧ Rl h (fun _ => none) (fun b => b < h.size) v c

theorem PartR.nil : PartR h [] [] := ⟨rfl, by simp⟩
theorem PartR.one {v : AV} {c : Value} (hv : v.isCell = true) (hr : Rl h (fun _ => none) (fun b => b < h.size) v c) : PartR h [v] [c] :=
  ⟨rfl, fun i v' c' h1 h2 => by cases i <;> simp at h1 h2; subst h1; subst h2; exact ⟨hv, hr⟩⟩
theorem PartR.append {a b : List AV} {x y : List Value} (h1 : PartR h a x) (h2 : PartR h b y) : PartR h (a ++ b) (x ++ y) := by
  refine ⟨by simp [h1.1, h2.1], fun i v c q1 q2 => ?_⟩
  rw [List.getElem?_append] at q1 q2
  rw [h1.1] at q1
  split at q1 <;> rename_i hlt
  · rw [if_pos hlt] at q2; exact h1.2 i v c q1 q2
  · rw [if_neg hlt] at q2; exact h2.2 _ v c q1 q2
end

theorem exists_list {α : Type} {Q : Nat → α → Prop} : ∀ (n : Nat), (∀ i, i < n → ∃ r, Q i r) → ∃ l : List α, l.length = n ∧ ∀ (i : Nat) r, l[i]? = some r → Q i r
  | 0, _ => ⟨[], rfl, by simp⟩
  | n + 1, hq => by
    obtain ⟨l, h1, h2⟩ := exists_list n (fun i hi => hq i (by omega))
    obtain ⟨r, hr⟩ := hq n (by omega)
    refine ⟨l ++ [r], by simp [h1], fun i q hi => ?_⟩
    rw [List.getElem?_append] at hi
    split at hi
    · exact h2 i q hi
    · rename_i hlt
      have hl := (List.getElem?_eq_some_iff.1 hi).1
      simp at hl
      have : i = n := by omega
      subst this
      rw [h1] at hi
      simp at hi
      rw [← hi]; exact hr

section
variable {H : Type} {enc : TypeId × Value → H} {P : Program} {w : World} {sp : Nat → Bool}

abbrev Rd (P : Program) (w : World) (enc : TypeId × Value → H) (sp : Nat → Bool) (m : Nat) (s : TypeId → Option Sh) : Prop :=
  ∀ t cs x sh, s t = some sh → DataW.trod enc P w 0 sp true m t cs = some x → (∀ n ∈ x.1.weights P t, n ≤ reachBytes) → ∃ vs, sh.Ok vs ∧ PartR w.heap vs cs

theorem fields_read {m : Nat} {s : TypeId → Option Sh} (ih : Rd P w enc sp m s) {cs : List Value} {tot : Nat} (hcs : cs.length = tot) : ∀ (fs : List Field) (o : Nat) (xs : List (DataW H × List MemPlace)) (sh : Sh), fieldsSh P s tot o fs = some sh → xs.length = fs.length →
    (∀ (i : Nat) f, fs[i]? = some f → DataW.trod enc P w 0 sp true m f.type ((cs.drop f.offset).take (P.cellsOf f.type)) = xs[i]?) →
    (∀ n ∈ DataW.weightsEach P (fs.map (·.type)) (xs.map (·.1)), n ≤ reachBytes) → ∃ vs, sh.Ok vs ∧ PartR w.heap vs (cs.drop o)
  | [], o, xs, sh, hs, hl, _, _ => by
    simp only [fieldsSh] at hs
    split at hs <;> simp only [Option.some.injEq, reduceCtorEq] at hs
    rename_i e
    subst hs
    refine ⟨[], rfl, ?_⟩
    rw [List.drop_eq_nil_of_le (by omega)]
    exact .nil
  | f :: fs, o, xs, sh, hs, hl, hf, hw => by
    simp only [fieldsSh] at hs
    split at hs
    rotate_left
    · cases hs
    rename_i e
    simp only [Option.bind_eq_some_iff, Option.map_eq_some_iff] at hs
    obtain ⟨a, ha, b, hb, rfl⟩ := hs
    cases xs with
    | nil => simp at hl
    | cons x xs =>
      simp only [List.map_cons, DataW.weightsEach, List.mem_append] at hw
      have h0 := hf 0 f rfl
      rw [e] at h0
      simp only [List.getElem?_cons_zero] at h0
      obtain ⟨va, ok1, r1⟩ := ih _ _ _ _ ha h0 (fun n hn => hw n (.inl hn))
      obtain ⟨vb, ok2, r2⟩ := fields_read ih hcs fs _ xs b hb (by simpa using hl) (fun i g hg => by have := hf (i + 1) g (by simpa using hg); simpa using this) (fun n hn => hw n (.inr hn))
      refine ⟨va ++ vb, ⟨va, vb, rfl, ok1, ok2⟩, ?_⟩
      have := r1.append r2
      rw [show o + P.cellsOf f.type = o + P.cellsOf f.type from rfl, ← List.drop_drop, List.take_append_drop] at this
      exact this

theorem arr_read {m : Nat} {s : TypeId → Option Sh} (ih : Rd P w enc sp m s) {cs : List Value} {e : TypeId} {a : Sh} (ha : s e = some a) : ∀ (n j : Nat) (xs : List (DataW H × List MemPlace)), cs.length = (j + n) * P.cellsOf e → xs.length = n →
    (∀ i, i < n → DataW.trod enc P w 0 sp true m e ((cs.drop ((j + i) * P.cellsOf e)).take (P.cellsOf e)) = xs[i]?) →
    (∀ q ∈ DataW.weightsAll P e (xs.map (·.1)), q ≤ reachBytes) → ∃ vs, (Sh.rep n a).Ok vs ∧ PartR w.heap vs (cs.drop (j * P.cellsOf e))
  | 0, j, xs, hcs, hl, _, _ => by
    refine ⟨[], rfl, ?_⟩
    rw [List.drop_eq_nil_of_le (by rw [hcs]; simp)]
    exact .nil
  | n + 1, j, xs, hcs, hl, hf, hw => by
    cases xs with
    | nil => simp at hl
    | cons x xs =>
      simp only [List.map_cons, DataW.weightsAll, List.mem_append] at hw
      have h0 := hf 0 (by omega)
      simp only [Nat.add_zero, List.getElem?_cons_zero] at h0
      obtain ⟨va, ok1, r1⟩ := ih _ _ _ _ ha h0 (fun n hn => hw n (.inl hn))
      obtain ⟨vb, ok2, r2⟩ := arr_read ih ha n (j + 1) xs (by rw [hcs]; congr 1; omega) (by simpa using hl)
        (fun i hi => by have := hf (i + 1) (by omega); rw [show j + 1 + i = j + (i + 1) from by omega]; simpa using this) (fun n hn => hw n (.inr hn))
      refine ⟨va ++ vb, ⟨va, vb, rfl, ok1, ok2⟩, ?_⟩
      have := r1.append r2
      rw [Nat.add_mul, Nat.one_mul, ← List.drop_drop, List.take_append_drop] at this
      exact this

theorem weights_all_mem {e : TypeId} : ∀ {l : List (DataW H)} {d : DataW H}, d ∈ l → ∀ n ∈ d.weights P e, n ∈ DataW.weightsAll P e l
  | [], _, h, _, _ => by cases h
  | x :: l, d, h, n, hn => by
    simp only [DataW.weightsAll, List.mem_append]
    rcases List.mem_cons.1 h with h | h
    · subst h; exact .inl hn
    · exact .inr (weights_all_mem h n hn)

theorem readR {rc : Bool} : ∀ (m n : Nat), (rc = true → m ≤ n) → Rd P w enc sp m (shO rc P n)
  | 0, _, _, t, cs, x, sh, _, h, _ => by simp [DataW.trod] at h
  | m + 1, 0, hmn, t, cs, x, sh, hs, _, _ => by
    simp only [shO] at hs
    split at hs
    · rename_i hr; have := hmn hr; omega
    · cases hs
  | m + 1, n + 1, hmn, t, cs, x, sh, hs, h, hw => by
    have ih := readR m n fun q => by have := hmn q; omega
    simp only [shO] at hs
    split at hs <;> rename_i hu
    · simp only [Option.some.injEq] at hs; subst hs
      obtain ⟨b, rfl⟩ : ∃ b, cs = [.bool b] := by
        unfold DataW.trod at h; rw [hu] at h
        split at h <;> simp_all
      exact ⟨_, ⟨_, rfl⟩, .one rfl (.bool _)⟩
    · rename_i k
      simp only [Option.some.injEq] at hs; subst hs
      obtain ⟨n, rfl, hwf⟩ : ∃ n, cs = [.int k n] ∧ (Lit.int k n).wf = true := by
        unfold DataW.trod at h; rw [hu] at h
        split at h <;> simp_all
      exact ⟨_, ⟨_, rfl, hwf⟩, .one rfl (.int _ _)⟩
    · simp only [Option.some.injEq] at hs; subst hs
      obtain ⟨b, rfl, rfl⟩ : ∃ b, cs = [.string b] ∧ x = (.lit (.string b.data.toList), []) := by
        unfold DataW.trod at h; rw [hu] at h
        split at h <;> simp_all
      have := hw b.data.toList.length (by simp [DataW.weights])
      exact ⟨_, ⟨b.data.toList, rfl, this⟩, .one rfl (.str _ _ rfl)⟩
    · rename_i fs
      obtain ⟨xs, m', e, rfl, hl, hlen, hf⟩ := DataW.trod_struct hu h
      simp only [Nat.add_right_cancel_iff] at e
      subst e
      have := fields_read ih hl fs.toList 0 xs sh hs (by simpa using hlen) (fun i f hi => hf i f (by simpa using hi)) (fun q hq => hw q (by simpa [DataW.weights, hu] using hq))
      simpa using this
    · rename_i k e
      split at hs
      rotate_left
      · cases hs
      rename_i hc
      simp only [Option.map_eq_some_iff] at hs
      obtain ⟨a, ha, rfl⟩ := hs
      obtain ⟨xs, m', e1, rfl, hl, hlen, hf⟩ := DataW.trod_array hu h
      simp only [Nat.add_right_cancel_iff] at e1
      subst e1
      have := arr_read ih ha k 0 xs (by rw [hl, hc]; simp) hlen (fun i hi => by simpa using hf i hi) (fun q hq => hw q (by simpa [DataW.weights, hu] using hq))
      simpa using this
    · rename_i e
      split at hs
      rotate_left
      · cases hs
      rename_i hpos
      simp only [Option.map_eq_some_iff] at hs
      obtain ⟨a, ha, rfl⟩ := hs
      rcases DataW.trod_slice hu h with ⟨rfl, rfl⟩ | ⟨ad, len, cap, elems, rest, m', e1, rfl, rfl, _, hl, _, hlen, hel, _⟩
      · exact ⟨_, .inl rfl, .one rfl .nilS⟩
      · simp only [Nat.add_right_cancel_iff] at e1
        subst e1
        simp only [DataW.weights, hu, List.mem_cons, List.mem_append] at hw
        have hbytes := hw _ (.inl rfl)
        obtain ⟨l, hll, hq⟩ := exists_list (Q := fun i r => a.Ok r ∧ ∃ ci, w.cells? 0 (ad.add (i * P.cellsOf e)) (P.cellsOf e) = some ci ∧ PartR w.heap r ci) len fun i hi => by
          have := hel i hi
          rw [List.getElem?_eq_getElem (by omega)] at this
          simp only [Option.bind_eq_some_iff] at this
          obtain ⟨ci, hc, hd⟩ := this
          obtain ⟨vs, ok, r⟩ := ih _ _ _ _ ha hd (fun q hqq => hw q (.inr (.inl (weights_all_mem (List.mem_map_of_mem (List.getElem_mem (by omega))) q hqq))))
          exact ⟨vs, ok, ci, hc, r⟩
        refine ⟨[.rows (P.cellsOf e) l], .inr ⟨l, rfl, ?_, ?_⟩, .one rfl ?_⟩
        · simp only [List.length_map] at hbytes
          rw [hll, ← hlen]
          exact Nat.le_trans (Nat.mul_le_mul_right _ (Nat.le_add_right _ _)) hbytes
        · intro r hr
          obtain ⟨i, hi⟩ := List.getElem?_of_mem hr
          exact (hq i r hi).1
        · by_cases h0 : len = 0
          · subst h0
            rw [List.eq_nil_of_length_eq_zero hll]
            exact .rowsE _ _ _
          · obtain ⟨r0, hr0⟩ : ∃ r0, l[0]? = some r0 := ⟨_, List.getElem?_eq_getElem (by omega)⟩
            obtain ⟨_, c0, hc0, _⟩ := hq 0 r0 hr0
            have hz := World.cells?_some hc0
            have hz0 := hz.2.2 0 hpos
            rw [List.getElem?_eq_getElem (by omega)] at hz0
            have ea : (ad.add (0 * P.cellsOf e)).add 0 = ad := by simp [Addr.add]
            rw [ea] at hz0
            obtain ⟨b, o, spt⟩ := ad
            have hsp : spt = none ∧ b < w.heap.size := by
              unfold World.cell? at hz0
              simp only at hz0
              cases hb : w.heap[b]? with
              | none => simp [hb] at hz0
              | some ob =>
                refine ⟨?_, (Array.getElem?_eq_some_iff.1 hb).1⟩
                cases ob with
                | cells c t f => rw [hb] at hz0; simp only at hz0; cases spt with | none => rfl | some z => simp at hz0
                | _ => simp [hb] at hz0
            obtain ⟨rfl, hbl⟩ := hsp
            have key : ∀ (i : Nat) r (j : Nat) v, l[i]? = some r → r[j]? = some v → v.isCell = true ∧ ∃ c, hcell w.heap b (o + (i * P.cellsOf e + j)) = some c ∧ Rl w.heap (fun _ => none) (fun b => b < w.heap.size) v c := by
              intro i r j v h1 h2
              obtain ⟨_, ci, hci, hpr⟩ := hq i r h1
              have hz := World.cells?_some hci
              have hj : j < ci.length := by rw [← hpr.1]; exact (List.getElem?_eq_some_iff.1 h2).1
              have h3 := hz.2.2 j (by omega)
              rw [List.getElem?_eq_getElem hj, addr_add, addr_add, cell?_heap] at h3
              obtain ⟨h4, h5⟩ := hpr.2 j v _ h2 (List.getElem?_eq_getElem hj)
              exact ⟨h4, _, by rw [← h3, Nat.add_assoc], h5⟩
            refine .rows _ l b o len cap (fun q => (hcell w.heap b (o + q)).getD undef) hll.symm hl (fun _ => hbl) (fun i r h1 => ?_) (fun i r j v h1 h2 => (key i r j v h1 h2).1) (fun i r j v h1 h2 => ?_) fun i r j v h1 h2 => ?_
            · obtain ⟨_, ci, hci, hpr⟩ := hq i r h1
              rw [hpr.1, (World.cells?_some hci).2.1]
            · obtain ⟨_, c, hc, _⟩ := key i r j v h1 h2
              rw [hc]; rfl
            · obtain ⟨_, c, hc, hr⟩ := key i r j v h1 h2
              rw [hc]; exact hr
    · rename_i e
      split at hs
      rotate_left
      · cases hs
      rename_i hpos
      simp only [Option.map_eq_some_iff] at hs
      obtain ⟨a, ha, rfl⟩ := hs
      have alt : cs = [.pointer none] ∨ ∃ ad ci y, cs = [.pointer (some ad)] ∧ w.cells? 0 ad (P.cellsOf e) = some ci ∧ DataW.trod enc P w 0 sp true m e ci = some y ∧ x.1 = .ptr y.1 := by
        unfold DataW.trod at h; rw [hu] at h
        split at h <;> simp_all
        simp only [Option.bind_eq_some_iff, Function.comp, Option.map_eq_some_iff] at h
        obtain ⟨ci, hc, ⟨y1, y2⟩, hy, hx⟩ := h
        exact ⟨ci, hc, y1, ⟨y2, hy⟩, by rw [← hx]⟩
      rcases alt with rfl | ⟨ad, ci, y, rfl, hc, hy, hx⟩
      · exact ⟨_, .inl rfl, .one rfl .nilP⟩
      · obtain ⟨vs, ok, hpr⟩ := ih _ _ _ _ ha hy (fun q hq => hw q (by rw [hx]; simpa [DataW.weights, hu] using hq))
        refine ⟨[.fp vs], .inr ⟨vs, rfl, ok⟩, .one rfl ?_⟩
        have hz := World.cells?_some hc
        have hz0 := hz.2.2 0 hpos
        rw [List.getElem?_eq_getElem (by omega)] at hz0
        have ea : ad.add 0 = ad := by simp [Addr.add]
        rw [ea] at hz0
        obtain ⟨b, o, spt⟩ := ad
        have hsp : spt = none ∧ b < w.heap.size := by
          unfold World.cell? at hz0
          simp only at hz0
          cases hb : w.heap[b]? with
          | none => simp [hb] at hz0
          | some ob =>
            refine ⟨?_, (Array.getElem?_eq_some_iff.1 hb).1⟩
            cases ob with
            | cells c t f => rw [hb] at hz0; simp only at hz0; cases spt with | none => rfl | some z => simp at hz0
            | _ => simp [hb] at hz0
        obtain ⟨rfl, hbl⟩ := hsp
        have key : ∀ (j : Nat) v, vs[j]? = some v → v.isCell = true ∧ ∃ c, hcell w.heap b (o + j) = some c ∧ Rl w.heap (fun _ => none) (fun b => b < w.heap.size) v c := by
          intro j v h2
          have hj : j < ci.length := by rw [← hpr.1]; exact (List.getElem?_eq_some_iff.1 h2).1
          have h3 := hz.2.2 j (by omega)
          rw [List.getElem?_eq_getElem hj, addr_add, cell?_heap] at h3
          obtain ⟨h4, h5⟩ := hpr.2 j v _ h2 (List.getElem?_eq_getElem hj)
          exact ⟨h4, _, h3, h5⟩
        refine .fp vs b o (fun q => (hcell w.heap b (o + q)).getD undef) (fun _ => hbl) (fun j v h2 => (key j v h2).1) (fun j v h2 => ?_) fun j v h2 => ?_
        · obtain ⟨_, c, hc, _⟩ := key j v h2
          rw [hc]; rfl
        · obtain ⟨_, c, hc, hr⟩ := key j v h2
          rw [hc]; exact hr
    · cases hs
theorem read (m n : Nat) : Rd P w enc sp m (shOf P n) := readR m n fun q => by cases q
end
end Go.Proofs.YtlabklehgfdibaaDoor

/- From a contract to a row. -/
namespace Go.Proofs.YtlabklehgfdibaaDoor
set_option autoImplicit false
set_option linter.unusedSimpArgs false
set_option linter.unusedVariables false

def isAggT (P : Program) (t : TypeId) : Bool :=
  match P.underlying t with
  | some (.struct _) => true
  | some (.array _ _) => true
  | _ => false

/-- An argument of a shape. -/
def ArgOk (agg : Bool) (sh : Sh) (av : AV) : Prop :=
  match agg with
  | true => ∃ vs, av = .agg vs ∧ sh.Ok vs
  | false => sh.Ok [av]

section
variable {H : Type} {enc : TypeId × Value → H} {P : Program} {W : World} {sp : Nat → Bool}

theorem okWide_notAgg {r : Reach} {base : Nat} {t : TypeId} {v : Value} (ha : isAggT P t = false) (h : Value.okWide P W r base t v) : v.cells = #[v] := by
  unfold isAggT at ha
  unfold Value.okWide at h
  split at h
  · rename_i hu; simp [hu] at ha
  · rename_i hu; simp [hu] at ha
  · cases v <;> first
      | rfl
      | (exfalso; unfold Cell.okWide at h; split at h <;> rename_i heq <;> first | (cases heq; done) | (unfold Cell.ok at h; split at h <;> rename_i heq2 <;> first | (cases heq2; done) | exact h))

theorem arg_rl {r : Reach} {base n : Nat} {t : TypeId} {v : Value} {d : DataW H} {ps : List MemPlace} {sh : Sh} (agg : Bool) (hagg : isAggT P t = agg) (hs : shOf P n t = some sh) (hval : Value.okWide P W r base t v)
    (h : DataW.Trod enc P W 0 sp true t v d ps) (hw : ∀ n ∈ d.weights P t, n ≤ reachBytes) : ∃ av, ArgOk agg sh av ∧ Rl W.heap (fun _ => none) (fun b => b < W.heap.size) av v := by
  obtain ⟨fuel, hf⟩ := h
  obtain ⟨vs, ok, hpr⟩ := read fuel n t _ _ sh hs hf hw
  cases agg with
  | true =>
    obtain ⟨cs, rfl⟩ : ∃ cs, v = .agg cs := by
      unfold isAggT at hagg
      unfold Value.okWide at hval
      split at hagg
      · rename_i hu; simp only [hu] at hval; obtain ⟨cs, e, _⟩ := hval; exact ⟨cs, e⟩
      · rename_i hu; simp only [hu] at hval; obtain ⟨cs, e, _⟩ := hval; exact ⟨cs, e⟩
      · cases hagg
    refine ⟨.agg vs, ⟨vs, rfl, ok⟩, ?_⟩
    have := Rl.agg (h := W.heap) (ρ := fun _ => none) (Z := fun b => b < W.heap.size) vs cs.toList (by simpa [Value.cells] using hpr.1)
      (fun i v h1 => by
        have hi := (List.getElem?_eq_some_iff.1 h1).1
        rw [hpr.1] at hi
        exact (hpr.2 i v _ h1 (List.getElem?_eq_getElem hi)).1)
      (fun i v x h1 h2 => (hpr.2 i v x h1 (by simpa [Value.cells] using h2)).2)
    simpa using this
  | false =>
    rw [okWide_notAgg hagg hval] at hpr
    have hl := hpr.1
    match vs, hl with
    | [av], _ => exact ⟨av, ok, (hpr.2 0 av v rfl rfl).2⟩

/-- .. of a type that holds itself. -/
theorem arg_rlR {r : Reach} {base : Nat} {t : TypeId} {v : Value} {d : DataW H} {ps : List MemPlace} (agg : Bool) (hagg : isAggT P t = agg) (hs : ∀ n, ∃ sh, shO true P n t = some sh) (hval : Value.okWide P W r base t v)
    (h : DataW.Trod enc P W 0 sp true t v d ps) (hw : ∀ n ∈ d.weights P t, n ≤ reachBytes) : ∃ av, (∃ n sh, shO true P n t = some sh ∧ ArgOk agg sh av) ∧ Rl W.heap (fun _ => none) (fun b => b < W.heap.size) av v := by
  obtain ⟨fuel, hf⟩ := h
  obtain ⟨sh, hs⟩ := hs fuel
  obtain ⟨vs, ok, hpr⟩ := readR fuel fuel (fun _ => Nat.le_refl _) t _ _ sh hs hf hw
  cases agg with
  | true =>
    obtain ⟨cs, rfl⟩ : ∃ cs, v = .agg cs := by
      unfold isAggT at hagg
      unfold Value.okWide at hval
      split at hagg
      · rename_i hu; simp only [hu] at hval; obtain ⟨cs, e, _⟩ := hval; exact ⟨cs, e⟩
      · rename_i hu; simp only [hu] at hval; obtain ⟨cs, e, _⟩ := hval; exact ⟨cs, e⟩
      · cases hagg
    refine ⟨.agg vs, ⟨fuel, sh, hs, vs, rfl, ok⟩, ?_⟩
    have := Rl.agg (h := W.heap) (ρ := fun _ => none) (Z := fun b => b < W.heap.size) vs cs.toList (by simpa [Value.cells] using hpr.1)
      (fun i v h1 => by
        have hi := (List.getElem?_eq_some_iff.1 h1).1
        rw [hpr.1] at hi
        exact (hpr.2 i v _ h1 (List.getElem?_eq_getElem hi)).1)
      (fun i v x h1 h2 => (hpr.2 i v x h1 (by simpa [Value.cells] using h2)).2)
    simpa using this
  | false =>
    rw [okWide_notAgg hagg hval] at hpr
    have hl := hpr.1
    match vs, hl with
    | [av], _ => exact ⟨av, ⟨fuel, sh, hs, ok⟩, (hpr.2 0 av v rfl rfl).2⟩

theorem good0 (h : Array Obj) (ht : TabG h fun b => b < h.size) : Good h (fun _ => none) (fun b => b < h.size) [] where
  blk := fun id blk h1 => by simp [hget] at h1
  inj := fun i j a b p q o o' h1 => by simp [hget] at h1
  notZ := fun b ⟨id, blk, o, h1, _⟩ => by simp [hget] at h1
  zlt := fun _ h => h
  ids := ⟨0, fun _ _ => rfl⟩
  ty := fun id b o q => by cases q
  tab := ht

/-- A law's call: true, and what was there is there still. -/
theorem law_calls {f : Nat} {args : List AV} {xs : List Value} (h : ACalls P f args [] fun r _ => r = .bool true) (hr : RlL W.heap (fun _ => none) (fun b => b < W.heap.size) args xs) (ht : TabG W.heap fun b => b < W.heap.size := by intro x hx; simp [tabs] at hx) :
    Calls P f xs.toArray W fun e W' => e = .returned (.bool true) ∧ RowKit.Below W.heap.size W W' := by
  refine (h.2 W _ _ xs (good0 W.heap ht) hr).mono fun e w' ⟨x, r, H', ρ', Z', q1, _, hv, ex, k⟩ => ?_
  subst k
  cases hv
  refine ⟨q1, ⟨ex.os, ex.tape, ex.out, ex.size, fun k hk => ex.keep k hk ?_⟩⟩
  rintro ⟨id, blk, o, h1, _⟩
  simp [hget] at h1
end
end Go.Proofs.YtlabklehgfdibaaDoor

/- Words for those who use the predicate transformer. -/
namespace Go.Proofs.YtlabklehgfdibaaDoor
set_option autoImplicit false
set_option linter.unusedSimpArgs false
set_option linter.unusedVariables false

theorem Sub.refl (H : AH) : Sub H H := fun _ _ h => h
theorem Sub.cons {Hc H : AH} {id : Nat} {b : Blk} (h : Sub Hc H) (hid : hget H id = none) : Sub Hc ((id, b) :: H) := fun j c q => by
  simp only [hget]
  split
  · rename_i e
    have := h j c q
    rw [e, hid] at this
    cases this
  · exact h j c q
theorem FzL.refl (H Hc : AH) (vs : List AV) : FzL H Hc vs vs := ⟨rfl, fun i v v' a b => by rw [a] at b; simp only [Option.some.injEq] at b; rw [b]; exact .refl _⟩

section
variable {P : Program} {f : Nat} {args : List AV} {H : AH} {K : AV → AH → Prop} {r : AV}

/-- A call by its contract. -/
theorem callA_of (h : ACalls P f args H K) : callA P f args H K := ⟨args, H, Sub.refl H, FzL.refl _ _ _, .inl h⟩
theorem callA_eq (h : ACalls P f args H fun r' H' => r' = r ∧ H' = H) (k : K r H) : callA P f args H K :=
  callA_of (h.mono fun r' H' ⟨a, b⟩ => by rw [a, b]; exact k)
theorem ACalls_eq (h : ACalls P f args H fun r' H' => r' = r ∧ H' = H) (k : K r H) : ACalls P f args H K :=
  h.mono fun r' H' ⟨a, b⟩ => by rw [a, b]; exact k
theorem NoId.plain (h : r.plain = true) : NoId r := fun _ _ _ _ _ q => q.plain h
/-- A function that owns nothing of the caller's and hands back a plain value. -/
theorem ACalls.plain (hp : r.plain = true) (h : ACalls P f args [] fun r' _ => r' = r) : ACalls P f args H fun r' H' => r' = r ∧ H' = H :=
  ⟨h.1, fun w ρ Z xs g hr => callA_calls (K := fun r' H' => r' = r ∧ H' = H)
    ⟨args, [], fun _ _ q => (by cases q), FzL.refl _ _ _, .inr (h.mono fun r' _ e => by rw [e]; exact ⟨hp, rfl, rfl⟩)⟩ g hr⟩
theorem callP_plain (hp : r.plain = true) (h : ACalls P f args H fun r' H' => r' = r ∧ H' = H) : callP P f args H r := .inl ⟨NoId.plain hp, h⟩

end

theorem wrap_id {n : Int} (h1 : -9223372036854775808 ≤ n) (h2 : n ≤ 9223372036854775807) : IntKind.i64.wrap n = n := by rw [IntKind.wrap_i64]; omega

theorem OA_some {α : Type} (x : α) (f : α → Prop) : OA (some x) f = f x := rfl
theorem OA_none {α : Type} (f : α → Prop) : OA (none : Option α) f = False := rfl
theorem OA_ite {α : Type} (c : Prop) [Decidable c] (x y : Option α) (f : α → Prop) : OA (if c then x else y) f = if c then OA x f else OA y f := by split <;> rfl
theorem ite_bind {α β : Type} (c : Prop) [Decidable c] (x y : Option α) (f : α → Option β) : (if c then x else y).bind f = if c then x.bind f else y.bind f := by split <;> rfl
theorem ite_false_and (c p : Prop) [Decidable c] : (if c then p else False) = (c ∧ p) := by
  apply propext
  split
  · rename_i h; exact ⟨fun q => ⟨h, q⟩, fun q => q.2⟩
  · rename_i h; exact ⟨fun q => q.elim, fun q => h q.1⟩
theorem ex_bool {b : Bool} {p : Bool → Prop} : (∃ q, some (AV.bool b) = some (AV.bool q) ∧ p q) = p b := by
  apply propext
  constructor
  · rintro ⟨q, h, k⟩; simp only [Option.some.injEq, AV.bool.injEq] at h; rw [h]; exact k
  · exact fun k => ⟨b, rfl, k⟩
theorem Fr.set_get (s : Fr) (d t : Nat) (x : AV) : (s.set d x) t = if t = d then some x else s t := rfl
theorem Fr.clr_get (s : Fr) (d t : Nat) : (s.clr d) t = if t = d then none else s t := rfl
theorem initFr_get (args : List AV) (t : Nat) : initFr args t = args[t]? := rfl

end Go.Proofs.YtlabklehgfdibaaDoor

/- The predicate transformer over frames that are lists: made to be reduced head first. -/
namespace Go.Proofs.YtlabklehgfdibaaDoor
set_option autoImplicit false
set_option linter.unusedSimpArgs false
set_option linter.unusedVariables false

/-- A frame as a list, the newest entry first. -/
abbrev FL := List (Nat × Option AV)

noncomputable def FL.get (L : FL) (t : Nat) : Option AV := @List.rec (Nat × Option AV) (fun _ => Option AV) none (fun p _ ih => match Nat.beq t p.1 with
    | true => p.2
    | false => ih) L

noncomputable def frm (L : FL) : Fr := fun t => L.get t

theorem FL.get_cons (d t : Nat) (x : Option AV) (L : FL) : FL.get ((d, x) :: L) t = if t = d then x else L.get t := by
  show (match Nat.beq t d with | true => x | false => L.get t) = _
  cases h : Nat.beq t d with
  | true => rw [if_pos (Nat.eq_of_beq_eq_true h)]
  | false => rw [if_neg (fun e => by rw [e, Nat.beq_refl] at h; cases h)]

theorem frm_set (L : FL) (d : Nat) (x : AV) : frm ((d, some x) :: L) = (frm L).set d x := by
  funext t; simp only [frm, FL.get_cons, Fr.set]
theorem frm_clr (L : FL) (d : Nat) : frm ((d, none) :: L) = (frm L).clr d := by
  funext t; simp only [frm, FL.get_cons, Fr.clr]

def putL (L : FL) (d : Option Nat) (x : AV) : FL := match d with | some d => (d, some x) :: L | none => L
def delL (L : FL) (d : Option Nat) : FL := match d with | some d => (d, none) :: L | none => L
/-- .. and what follows, the new frame being there. -/
def putK (L : FL) (d : Option Nat) (x : AV) (k : FL → Prop) : Prop := match d with | some d => k ((d, some x) :: L) | none => k L
def delK (L : FL) (d : Option Nat) (k : FL → Prop) : Prop := match d with | some d => k ((d, none) :: L) | none => k L
theorem putK_eq (L : FL) (d : Option Nat) (x : AV) (k : FL → Prop) : putK L d x k = k (putL L d x) := by cases d <;> rfl
theorem delK_eq (L : FL) (d : Option Nat) (k : FL → Prop) : delK L d k = k (delL L d) := by cases d <;> rfl
theorem frm_put (L : FL) (d : Option Nat) (x : AV) : frm (putL L d x) = (frm L).put d x := by cases d with | none => rfl | some d => exact frm_set L d x
theorem frm_del (L : FL) (d : Option Nat) : frm (delL L d) = (frm L).del d := by cases d with | none => rfl | some d => exact frm_clr L d

/-- All that the first frame knows the second one knows. -/
def covers : FL → FL → Prop
  | [], _ => True
  | (t, some v) :: r, L => L.get t = some v ∧ covers r L
  | (_, none) :: r, L => covers r L

theorem covers_sub : ∀ (M L : FL), covers M L → SubFr (frm M) (frm L)
  | [], L, _, t, v, h => by cases h
  | (d, some x) :: M, L, hc, t, v, h => by
    simp only [frm, FL.get_cons] at h
    split at h
    · rename_i e; simp only [Option.some.injEq] at h; rw [← h, e]; exact hc.1
    · exact covers_sub M L hc.2 t v h
  | (d, none) :: M, L, hc, t, v, h => by
    simp only [frm, FL.get_cons] at h
    split at h
    · cases h
    · exact covers_sub M L hc t v h

noncomputable def memN (t : Nat) (l : List Nat) : Bool := @List.rec Nat (fun _ => Bool) false (fun a _ ih => match Nat.beq t a with
  | true => true
  | false => ih) l
theorem memN_mem {t : Nat} : ∀ {l : List Nat}, memN t l = true → t ∈ l
  | [], h => by cases h
  | a :: l, h => by
    have h' : (match Nat.beq t a with | true => true | false => memN t l) = true := h
    split at h'
    · rename_i e; rw [Nat.eq_of_beq_eq_true e]; exact List.mem_cons_self
    · exact List.mem_cons_of_mem _ (memN_mem h')
/-- .. and may be frozen; what is shadowed is left out of account. -/
def coversS (H Hc : AH) : List Nat → FL → FL → Prop
  | _, [], _ => True
  | seen, (t, some v') :: r, L => (memN t seen = true ∨ ∃ v, L.get t = some v ∧ Fz H Hc v v') ∧ coversS H Hc (t :: seen) r L
  | seen, (t, none) :: r, L => coversS H Hc (t :: seen) r L
abbrev coversZ (H Hc : AH) (M L : FL) : Prop := coversS H Hc [] M L
theorem coversS_sub {H Hc : AH} : ∀ (M L : FL) (seen : List Nat), coversS H Hc seen M L → ∀ t v', t ∉ seen → frm M t = some v' → ∃ v, frm L t = some v ∧ Fz H Hc v v'
  | [], L, _, _, t, v, _, h => by cases h
  | (d, some x) :: M, L, seen, hc, t, v, hn, h => by
    simp only [frm, FL.get_cons] at h
    split at h
    · rename_i e
      simp only [Option.some.injEq] at h
      rw [← h, e]
      rcases hc.1 with q | q
      · exact absurd (memN_mem q) (e ▸ hn)
      · exact q
    · rename_i e
      exact coversS_sub M L _ hc.2 t v (by simp [e, hn]) h
  | (d, none) :: M, L, seen, hc, t, v, hn, h => by
    simp only [frm, FL.get_cons] at h
    split at h
    · cases h
    · rename_i e
      exact coversS_sub M L _ hc t v (by simp [e, hn]) h

theorem coversZ_sub {H Hc : AH} (M L : FL) (h : coversZ H Hc M L) : SubFz H Hc (frm M) (frm L) := fun t v q => coversS_sub M L [] h t v (by simp) q

/-! ### Operations, by what follows -/
def evX (L : FL) (x : X) (k : AV → Prop) : Prop :=
  match x with
  | .t n => match L.get n with
    | some v => k v
    | none => False
  | .c v => k v
  | .bad => False

def evXs (L : FL) : List X → (List AV → Prop) → Prop
  | [], k => k []
  | x :: xs, k => evX L x fun v => evXs L xs fun vs => k (v :: vs)

def evX3 (L : FL) : List (Nat × Nat × X) → (List (Nat × Nat × AV) → Prop) → Prop
  | [], k => k []
  | (o, z, x) :: xs, k => evX L x fun v => evX3 L xs fun vs => k ((o, z, v) :: vs)

def evX2 (L : FL) : List (Nat × X) → (List (Nat × AV) → Prop) → Prop
  | [], k => k []
  | (i, x) :: xs, k => evX L x fun v => evX2 L xs fun vs => k ((i, v) :: vs)

def evXO (L : FL) (d : Int) (x : Option X) (k : Int → Prop) : Prop :=
  match x with
  | none => k d
  | some x => evX L x fun v => match v with
    | .int _ n => k n
    | _ => False

def oA {α : Type} (o : Option α) (k : α → Prop) : Prop :=
  match o with
  | some x => k x
  | none => False

def kEq : IntKind → IntKind → Bool
  | .i8, .i8 => true
  | .i16, .i16 => true
  | .i32, .i32 => true
  | .i64, .i64 => true
  | .u8, .u8 => true
  | .u16, .u16 => true
  | .u32, .u32 => true
  | .u64, .u64 => true
  | _, _ => false
theorem kEq_eq {a b : IntKind} (h : kEq a b = true) : a = b := by cases a <;> cases b <;> first | rfl | cases h

def kG (a b : IntKind) (k : Prop) : Prop := match kEq a b with
  | true => k
  | false => False
def nG (a b : Nat) (k : Prop) : Prop := match Nat.beq a b with
  | true => k
  | false => False
theorem kG_of {a b : IntKind} {k : Prop} (h : kG a b k) : a = b ∧ k := by
  unfold kG at h
  split at h
  · rename_i e; exact ⟨kEq_eq e, h⟩
  · exact h.elim
theorem nG_of {a b : Nat} {k : Prop} (h : nG a b k) : a = b ∧ k := by
  unfold nG at h
  split at h
  · rename_i e; exact ⟨Nat.eq_of_beq_eq_true e, h⟩
  · exact h.elim

/-- A number brought into its kind's range: a place to stop. (A structure: nothing unfolds it.) -/
structure rng (w : Int) (k : Int → Prop) : Prop where
  out : k w
theorem rng_any {w : Int} {k : Int → Prop} (h : k w) : rng w k := ⟨h⟩
theorem rng_id {w n : Int} {k : Int → Prop} (e : w = n) (h : k n) : rng w k := by rw [e]; exact ⟨h⟩
theorem rng_i64 {n : Int} {k : Int → Prop} (h1 : -9223372036854775808 ≤ n) (h2 : n ≤ 9223372036854775807) (h : k n) : rng (IntKind.wrap .i64 n) k := rng_id (wrap_id h1 h2) h
theorem rng_u8 {n : Int} {k : Int → Prop} (h1 : 0 ≤ n) (h2 : n ≤ 255) (h : k n) : rng (IntKind.wrap .u8 n) k := rng_id (by simp only [IntKind.wrap, IntKind.bits, IntKind.signed, Bool.false_and, Bool.false_eq_true, if_false]; omega) h
theorem rng_u16 {n : Int} {k : Int → Prop} (h1 : 0 ≤ n) (h2 : n ≤ 65535) (h : k n) : rng (IntKind.wrap .u16 n) k := rng_id (by simp only [IntKind.wrap, IntKind.bits, IntKind.signed, Bool.false_and, Bool.false_eq_true, if_false]; omega) h
theorem rng_u32 {n : Int} {k : Int → Prop} (h1 : 0 ≤ n) (h2 : n ≤ 4294967295) (h : k n) : rng (IntKind.wrap .u32 n) k := rng_id (by simp only [IntKind.wrap, IntKind.bits, IntKind.signed, Bool.false_and, Bool.false_eq_true, if_false]; omega) h
theorem rng_u64 {n : Int} {k : Int → Prop} (h1 : 0 ≤ n) (h2 : n ≤ 18446744073709551615) (h : k n) : rng (IntKind.wrap .u64 n) k := rng_id (by simp only [IntKind.wrap, IntKind.bits, IntKind.signed, Bool.false_and, Bool.false_eq_true, if_false]; omega) h

/-- A block is written. -/
structure hsetK (H : AH) (id : Nat) (b : Blk) (k : AH → Prop) : Prop where
  out : k (hset H id b)
/-- .. what it holds being reckoned first. -/
structure hsetN (H : AH) (id : Nat) (b : Blk) (k : AH → Prop) : Prop where
  out : k (hset H id b)
theorem hsetN_of {H : AH} {id : Nat} {b b' : Blk} {k : AH → Prop} (e : b = b') (h : hsetK H id b' k) : hsetN H id b k := ⟨by rw [e]; exact h.out⟩
theorem hsetK_any {H : AH} {id : Nat} {b : Blk} {k : AH → Prop} (h : k (hset H id b)) : hsetK H id b k := ⟨h⟩
theorem hsetK_top {H : AH} {id : Nat} {b c : Blk} {k : AH → Prop} (h : k ((id, c) :: H)) : hsetK ((id, b) :: H) id c k := ⟨by rw [show hset ((id, b) :: H) id c = (id, c) :: H from by simp [hset]]; exact h⟩
theorem hsetK_down {T : AH} {i id : Nat} {b c : Blk} {k : AH → Prop} (h : i ≠ id) (h2 : hsetK T id b fun T' => k ((i, c) :: T')) : hsetK ((i, c) :: T) id b k :=
  ⟨by rw [show hset ((i, c) :: T) id b = (i, c) :: hset T id b from by simp only [hset]; rw [if_neg (fun e => h e.symm)]]; exact h2.out⟩
def opF (L : FL) (H : AH) (co : CO) (k : Rs → Prop) : Prop :=
  match co with
  | .mv x => evX L x fun v => k (.val v)
  | .pick c a b => evX L c fun v => match v with
    | .bool q => match q with
      | true => evX L a fun v => k (.val v)
      | false => evX L b fun v => k (.val v)
    | _ => False
  | .box T x => evX L x fun v => allCells v.cells = true ∧ k (.fresh T (.rows v.cells.length [v.cells]) (fun id => .ptr id v.cells.length 0 0) H)
  | .allc T zs => k (.fresh T (.rows zs.length [zs]) (fun id => .ptr id zs.length 0 0) H)
  | .load n x => evX L x fun v => match v with
    | .fp cs => oA (partA cs 0 n) fun r => k (.val r)
    | .ptr id sz i j => ∃ l r, hget H id = some (.rows sz l) ∧ l[i]? = some r ∧ oA (partA (r.drop j) 0 n) fun v => k (.val v)
    | _ => False
  | .store n x y => evX L x fun v => evX L y fun z => match v with
    | .ptr id sz i j => ∃ l r, hget H id = some (.rows sz l) ∧ l[i]? = some r ∧ z.cells.length = n ∧ allCells z.cells = true ∧ j + n ≤ r.length ∧ hsetN H id (.rows sz (l.set i (over r j z.cells))) fun H' => k (.upd H')
    | _ => False
  | .faddr off x => evX L x fun v => match v with
    | .ptr id sz i j => k (.val (.ptr id sz i (j + off)))
    | .fp cs => k (.val (.fp (cs.drop off)))
    | _ => False
  | .iaddr sz x i => evX L x fun v => evX L i fun w => match w with
    | .int _ n => match v with
      | .rows sz' l => nG sz' sz ((0 ≤ n ∧ n < l.length) ∧ k (.val (.fp (l.getD n.toNat []))))
      | .own id sz' lo hi => nG sz' sz ((0 ≤ n ∧ n < ((hi - lo : Nat) : Int)) ∧ k (.val (.ptr id sz (lo + n.toNat) 0)))
      | _ => False
    | _ => False
  | .iarr len sz x i => evX L x fun v => evX L i fun w => match w with
    | .int _ n => (0 ≤ n ∧ n < len) ∧ match v with
      | .ptr id z a j => k (.val (.ptr id z a (j + n.toNat * sz)))
      | .fp cs => k (.val (.fp (cs.drop (n.toNat * sz))))
      | _ => False
    | _ => False
  | .field off n x => evX L x fun v => match v with
    | .agg cs => oA (partA cs off n) fun r => k (.val r)
    | _ => False
  | .idx x i => evX L x fun v => evX L i fun w => match v with
    | .str l => match w with
      | .int _ n => (0 ≤ n ∧ n < l.length) ∧ k (.val (.int .u8 ((l.getD n.toNat 0).toNat : Int)))
      | _ => False
    | _ => False
  | .idxA len sz n x i => evX L x fun v => evX L i fun w => match v with
    | .agg cs => match w with
      | .int _ a => (0 ≤ a ∧ a < len) ∧ oA (partA cs (a.toNat * sz) n) fun r => k (.val r)
      | _ => False
    | _ => False
  | .bin op x y => evX L x fun a => evX L y fun b => match a with
    | .int ka m => match b with
      | .int kb n => match op with
        | .quo => kG ka kb (n ≠ 0 ∧ rng (IntKind.wrap ka (m.tdiv n)) fun z => k (.val (.int ka z)))
        | .rem => kG ka kb (n ≠ 0 ∧ k (.val (.int ka (m.tmod n))))
        | .shl => 0 ≤ n ∧ rng (IntKind.wrap ka (m * 2 ^ (min n.toNat ka.bits))) fun z => k (.val (.int ka z))
        | .shr => 0 ≤ n ∧ k (.val (.int ka (m.fdiv (2 ^ (min n.toNat ka.bits)))))
        | .add => kG ka kb (rng (IntKind.wrap ka (m + n)) fun z => k (.val (.int ka z)))
        | .sub => kG ka kb (rng (IntKind.wrap ka (m - n)) fun z => k (.val (.int ka z)))
        | .mul => kG ka kb (rng (IntKind.wrap ka (m * n)) fun z => k (.val (.int ka z)))
        | op => kG ka kb (oA (binInt op ka m n) fun r => k (.val r))
      | _ => False
    | .str p => match b with
      | .str q => match op with
        | .add => ((p.length + q.length : Nat) : Int) ≤ 9223372036854775807 ∧ k (.val (.str (p ++ q)))
        | op => oA (binStr op p q) fun r => k (.val r)
      | _ => False
    | _ => False
  | .beq neg x y => evX L x fun a => evX L y fun b => match a with
    | .bool p => match b with
      | .bool q => k (.val (.bool (match neg with | true => !(p == q) | false => (p == q))))
      | _ => False
    | _ => False
  | .ncmpS neg x => evX L x fun a => match a with
    | .nilS => k (.val (.bool (match neg with | true => false | false => true)))
    | .own _ _ _ _ => k (.val (.bool (match neg with | true => true | false => false)))
    | .rows _ l => l ≠ [] ∧ k (.val (.bool (match neg with | true => true | false => false)))
    | _ => False
  | .ncmpP neg x => evX L x fun a => oA (isNilP a) fun b => k (.val (.bool (match neg with | true => !b | false => b)))
  | .aeq neg sh x y => evX L x fun a => evX L y fun b => match a with
    | .agg xs => match b with
      | .agg ys => ∃ r, eqCells sh xs ys = some r ∧ k (.val (.bool (match neg with | true => !r | false => r)))
      | _ => False
    | _ => False
  | .un op x => evX L x fun a => oA (unV op a) fun r => k (.val r)
  | .conv kd x => evX L x fun a => match a with
    | .int _ n => rng (IntKind.wrap kd n) fun z => k (.val (.int kd z))
    | _ => False
  | .convS x => evX L x fun a => match a with
    | .str l => k (.val (.str l))
    | _ => False
  | .bytesS x => evX L x fun v => ∃ ys l, readS H false 1 v = some ys ∧ bytesA ys = some l ∧ k (.val (.str l))
  | .ext e xs => evXs L xs fun vs => oA (extA e vs) fun v => k (.val v)
  | .build zs parts => evX3 L parts fun ps => ∃ cs, overs zs ps = some cs ∧ allCells cs = true ∧ k (.val (.agg cs))
  | .bslice T sz n zs parts => evX2 L parts fun ps => ∃ l, setRows sz (List.replicate n zs) ps = some l ∧ l.all allCells = true ∧
      match n with
      | 0 => k (.fresh T (.rows sz []) (fun id => .own id sz 0 0) H)
      | _ + 1 => k (.val (.rows sz l))
  | .bsliceO T sz n zs parts => evX2 L parts fun ps => ∃ l, setRows sz (List.replicate n zs) ps = some l ∧ l.all allCells = true ∧ k (.fresh T (.rows sz l) (fun id => .own id sz 0 n) H)
  | .slice kk x lo hi => evX L x fun v => oA (lenA kk.isNone v) fun n => evXO L 0 lo fun a => evXO L n hi fun b => (0 ≤ a ∧ a ≤ b ∧ b ≤ n) ∧
      match v with
      | .str l => k (.val (.str ((l.take b.toNat).drop a.toNat)))
      | .rows sz l => kk = some sz ∧ k (.val (.rows sz ((l.take b.toNat).drop a.toNat)))
      | .nilS => k (.val .nilS)
      | .own id sz l _ => kk = some sz ∧ k (.val (.own id sz (l + a.toNat) (l + b.toNat)))
      | _ => False
  | .mks T sz bytes zs n => evX L n fun v => match v with
    | .int _ a => (0 ≤ a ∧ a * bytes ≤ 140737488355328) ∧ k (.fresh T (.rows sz (List.replicate a.toNat zs)) (fun id => .own id sz 0 a.toNat) H)
    | _ => False
  | .len str x => evX L x fun v => oA (lenA str v) fun n => k (.val (.int .i64 n))
  | .append T str sz bytes x y => evX L x fun v => evX L y fun z => match v with
    | .nilS => ∃ ys, readS H str sz z = some ys ∧ ys.length * bytes ≤ 140737488355328 ∧ (ys = [] → k (.val .nilS)) ∧ (ys ≠ [] → k (.fresh T (.rows sz ys) (fun id => .own id sz 0 ys.length) H))
    | .own id sz' lo hi => ∃ xs ys, readS H false sz (.own id sz' lo hi) = some xs ∧ readS H str sz z = some ys ∧ sz' = sz ∧ lo = 0 ∧ tag id = T ∧ (xs.length + ys.length) * bytes ≤ 140737488355328 ∧
        k (.fresh T (.rows sz (xs ++ ys)) (fun id => .own id sz 0 (xs.length + ys.length)) (hdel H id))
    | .emp => ∃ ys, readS H str sz z = some ys ∧ ys.length * bytes ≤ 140737488355328 ∧ (ys = [] → k (.val .emp)) ∧ (ys ≠ [] → k (.fresh T (.rows sz ys) (fun id => .own id sz 0 ys.length) H))
    | _ => False
  | .mm mx xs => evXs L xs fun vs => oA (mm2 mx vs) fun v => k (.val v)
  | .extr x i => evX L x fun v => match v with
    | .tup vs => oA (vs[i]?) fun r => k (.val r)
    | _ => False
  | .call f xs => evXs L xs fun vs => k (.call f vs)
  | .callv g xs => evX L g fun c => evXs L xs fun vs => match c with
    | .clo f first caps => k (.call f (first ++ vs ++ caps))
    | _ => False
  | .mkfn f first caps => evXs L first fun us => evXs L caps fun vs => k (.val (.clo f us vs))
  | .idu x => evX L x fun v => match v with
    | .nilP => k (.val .nilP)
    | .ptr id sz i j => ∃ l, hget H id = some (.rows sz l) ∧ i < l.length ∧ j < sz ∧ k (.val (.ptr id sz i j))
    | _ => False
  | .idf als x => evX L x fun v => match v with
    | .nilP => k (.val .nilP)
    | .ptr id sz i j => ∃ l, hget H id = some (.rows sz l) ∧ ∃ u, tag id = u ∧ (i = 0 ∧ 0 < l.length) ∧ als.contains (u, sz, j) = true ∧ k (.val (.ptr id sz 0 j))
    | _ => False
  | .peq neg x y => evX L x fun a => evX L y fun b => match a with
    | .ptr id sz i j => match b with
      | .ptr id' sz' i' j' => (id = id' ∧ sz = sz' ∧ i = i' ∧ j = j') ∧ k (.val (.bool (!neg)))
      | _ => False
    | _ => False
  | .sdata x => evX L x fun v => match v with
    | .nilS => k (.val .nilP)
    | .own id sz lo hi => lo < hi ∧ k (.val (.ptr id sz lo 0))
    | _ => False
  | .ustr u x n => evX L x fun v => evX L n fun w => match v with
    | .nilP => match w with
      | .int .i64 q => q = 0 ∧ k (.val (.str []))
      | _ => False
    | .ptr id sz i j => match w with
      | .int .i64 q => ∃ l b, hget H id = some (.rows 1 l) ∧ bytesA (l.take q.toNat) = some b ∧ sz = 1 ∧ i = 0 ∧ j = 0 ∧ 0 < q ∧ q ≤ l.length ∧ q ≤ 9223372036854775807 ∧ tag id = u ∧ k (.valH (.str b) (hdel H id))
      | _ => False
    | _ => False
  | .nilck x => evX L x fun v => match v with
    | .ptr _ _ _ _ => k (.val v)
    | .fp _ => k (.val v)
    | _ => False
  | .bad => False

theorem evX_of {L : FL} {x : X} {k : AV → Prop} (h : evX L x k) : ∃ v, ev (frm L) x = some v ∧ k v := by
  cases x with
  | t n =>
    simp only [evX] at h
    simp only [ev, frm]
    cases hg : L.get n with
    | none => rw [hg] at h; exact h.elim
    | some v => rw [hg] at h; exact ⟨v, rfl, h⟩
  | c v => exact ⟨v, rfl, h⟩
  | bad => exact h.elim

theorem evXs_of {L : FL} : ∀ {xs : List X} {k : List AV → Prop}, evXs L xs k → ∃ vs, evL (frm L) xs = some vs ∧ k vs
  | [], k, h => ⟨[], rfl, h⟩
  | x :: xs, k, h => by
    obtain ⟨v, h1, h2⟩ := evX_of h
    obtain ⟨vs, h3, h4⟩ := evXs_of h2
    exact ⟨v :: vs, by simp [evL, h1, h3], h4⟩

theorem evX3_of {L : FL} : ∀ {xs : List (Nat × Nat × X)} {k : List (Nat × Nat × AV) → Prop}, evX3 L xs k → ∃ vs, evParts3 (frm L) xs = some vs ∧ k vs
  | [], k, h => ⟨[], rfl, h⟩
  | (o, z, x) :: xs, k, h => by
    obtain ⟨v, h1, h2⟩ := evX_of h
    obtain ⟨vs, h3, h4⟩ := evX3_of h2
    exact ⟨(o, z, v) :: vs, by simp [evParts3, h1, h3], h4⟩

theorem evX2_of {L : FL} : ∀ {xs : List (Nat × X)} {k : List (Nat × AV) → Prop}, evX2 L xs k → ∃ vs, evParts2 (frm L) xs = some vs ∧ k vs
  | [], k, h => ⟨[], rfl, h⟩
  | (i, x) :: xs, k, h => by
    obtain ⟨v, h1, h2⟩ := evX_of h
    obtain ⟨vs, h3, h4⟩ := evX2_of h2
    exact ⟨(i, v) :: vs, by simp [evParts2, h1, h3], h4⟩

theorem evXO_of {L : FL} {d : Int} {x : Option X} {k : Int → Prop} (h : evXO L d x k) : ∃ n, evO (frm L) d x = some n ∧ k n := by
  cases x with
  | none => exact ⟨d, rfl, h⟩
  | some x =>
    obtain ⟨v, h1, h2⟩ := evX_of h
    cases v <;> try exact h2.elim
    exact ⟨_, by simp only [evO, h1, Option.bind_some], h2⟩

theorem oA_of {α : Type} {o : Option α} {k : α → Prop} (h : oA o k) : ∃ x, o = some x ∧ k x := by
  cases o with
  | none => exact h.elim
  | some x => exact ⟨x, rfl, h⟩

theorem opF_of {L : FL} {H : AH} {co : CO} {k : Rs → Prop} (h : opF L H co k) : ∃ rs, evalOp (frm L) H co = some rs ∧ k rs := by
  cases co <;> simp only [opF] at h
  case mv x =>
    obtain ⟨v, h1, h2⟩ := evX_of h
    exact ⟨_, by simp only [evalOp, h1, Option.bind_some], h2⟩
  case pick c x y =>
    obtain ⟨v, h1, h2⟩ := evX_of h
    cases v <;> try exact h2.elim
    rename_i q
    cases q with
    | true => obtain ⟨u, h3, h4⟩ := evX_of h2; exact ⟨_, by simp only [evalOp, h1, h3, Option.bind_some, if_true], h4⟩
    | false => obtain ⟨u, h3, h4⟩ := evX_of h2; exact ⟨_, by simp only [evalOp, h1, h3, Option.bind_some, Bool.false_eq_true, if_false], h4⟩
  case box T x =>
    obtain ⟨v, h1, h2⟩ := evX_of h
    exact ⟨_, by simp only [evalOp, h1, Option.bind_some, h2.1, if_true], h2.2⟩
  case allc T zs => exact ⟨_, rfl, h⟩
  case load n x =>
    obtain ⟨v, h1, h2⟩ := evX_of h
    cases v <;> try exact h2.elim
    case fp cs =>
      obtain ⟨r, h3, h4⟩ := oA_of h2
      exact ⟨_, by simp only [evalOp, h1, readA, Option.bind_some, h3], h4⟩
    case ptr id sz i j =>
      obtain ⟨l, r, h3, h4, h5⟩ := h2
      obtain ⟨u, h6, h7⟩ := oA_of h5
      exact ⟨_, by simp only [evalOp, h1, readA, Option.bind_some, h3, if_true, h4, Option.map_some, h6], h7⟩
  case store n x y =>
    obtain ⟨v, h1, h2⟩ := evX_of h
    obtain ⟨z, h3, h4⟩ := evX_of h2
    cases v <;> try exact h4.elim
    obtain ⟨l, r, h5, h6, h7, h8, h9, h10⟩ := h4
    replace h10 := h10.out
    exact ⟨_, by simp only [evalOp, h1, h3, Option.bind_some, h5, h6, h7, h8, h9, and_self, if_true], h10⟩
  case faddr off x =>
    obtain ⟨v, h1, h2⟩ := evX_of h
    cases v <;> first | exact h2.elim | exact ⟨_, by simp only [evalOp, h1, Option.bind_some], h2⟩
  case iaddr sz x i =>
    obtain ⟨v, h1, h2⟩ := evX_of h
    obtain ⟨w, h3, h4⟩ := evX_of h2
    cases w <;> try exact h4.elim
    cases v <;> try exact h4.elim
    · obtain ⟨h5, ⟨h6, h7⟩, h8⟩ := nG_of h4; exact ⟨_, by simp only [evalOp, h1, h3, Option.bind_some, h5, h6, h7, and_self, if_true], h8⟩
    · obtain ⟨h5, ⟨h6, h7⟩, h8⟩ := nG_of h4; exact ⟨_, by simp only [evalOp, h1, h3, Option.bind_some, h5, h6, h7, and_self, if_true], h8⟩
  case iarr len sz x i =>
    obtain ⟨v, h1, h2⟩ := evX_of h
    obtain ⟨w, h3, h4⟩ := evX_of h2
    cases w <;> try exact h4.elim
    cases v <;> first | exact h4.2.elim | (exact ⟨_, by simp only [evalOp, h1, h3, Option.bind_some, h4.1, and_self, if_true], h4.2⟩)
  case field off n x =>
    obtain ⟨v, h1, h2⟩ := evX_of h
    cases v <;> try exact h2.elim
    obtain ⟨r, h3, h4⟩ := oA_of h2
    exact ⟨_, by simp only [evalOp, h1, Option.bind_some, h3], h4⟩
  case idx x i =>
    obtain ⟨v, h1, h2⟩ := evX_of h
    obtain ⟨w, h3, h4⟩ := evX_of h2
    cases v <;> try exact h4.elim
    cases w <;> try exact h4.elim
    exact ⟨_, by simp only [evalOp, h1, h3, Option.bind_some, h4.1, and_self, if_true], h4.2⟩
  case idxA len sz n x i =>
    obtain ⟨v, h1, h2⟩ := evX_of h
    obtain ⟨w, h3, h4⟩ := evX_of h2
    cases v <;> try exact h4.elim
    cases w <;> try exact h4.elim
    obtain ⟨r, h5, h6⟩ := oA_of h4.2
    exact ⟨_, by simp only [evalOp, h1, h3, Option.bind_some, h4.1, and_self, if_true, h5], h6⟩
  case bin op x y =>
    obtain ⟨v, h1, h2⟩ := evX_of h
    obtain ⟨w, h3, h4⟩ := evX_of h2
    cases v <;> try exact h4.elim
    · cases w <;> try exact h4.elim
      cases op
      case quo => obtain ⟨rfl, h6, h7⟩ := kG_of h4; exact ⟨_, by simp only [evalOp, h1, h3, Option.bind_some, binV, if_true, binInt, if_pos h6], h7.out⟩
      case rem => obtain ⟨rfl, h6, h7⟩ := kG_of h4; exact ⟨_, by simp only [evalOp, h1, h3, Option.bind_some, binV, if_true, binInt, if_pos h6], h7⟩
      case shl => exact ⟨_, by simp only [evalOp, h1, h3, Option.bind_some, binV, h4.1, if_true], h4.2.out⟩
      case shr => exact ⟨_, by simp only [evalOp, h1, h3, Option.bind_some, binV, h4.1, if_true], h4.2⟩
      case add => obtain ⟨rfl, h6⟩ := kG_of h4; exact ⟨_, by simp only [evalOp, h1, h3, Option.bind_some, binV, if_true, binInt], h6.out⟩
      case sub => obtain ⟨rfl, h6⟩ := kG_of h4; exact ⟨_, by simp only [evalOp, h1, h3, Option.bind_some, binV, if_true, binInt], h6.out⟩
      case mul => obtain ⟨rfl, h6⟩ := kG_of h4; exact ⟨_, by simp only [evalOp, h1, h3, Option.bind_some, binV, if_true, binInt], h6.out⟩
      all_goals (obtain ⟨h5, h6⟩ := kG_of h4; obtain ⟨r, h7, h8⟩ := oA_of h6; exact ⟨_, by simp only [evalOp, h1, h3, Option.bind_some, binV, if_pos h5, h7], h8⟩)
    · cases w <;> try exact h4.elim
      cases op
      case add => exact ⟨_, by simp only [evalOp, h1, h3, Option.bind_some, binV, binStr, if_pos h4.1], h4.2⟩
      all_goals (obtain ⟨r, h7, h8⟩ := oA_of h4; exact ⟨_, by simp only [evalOp, h1, h3, Option.bind_some, binV, h7], h8⟩)
  case beq neg x y =>
    obtain ⟨v, h1, h2⟩ := evX_of h
    obtain ⟨w, h3, h4⟩ := evX_of h2
    cases v <;> try exact h4.elim
    cases w <;> try exact h4.elim
    cases neg <;> exact ⟨_, by simp only [evalOp, h1, h3, Option.bind_some, if_true, Bool.false_eq_true, if_false], h4⟩
  case ncmpS neg x =>
    obtain ⟨v, h1, h2⟩ := evX_of h
    cases v <;> try exact h2.elim
    · cases neg <;> exact ⟨_, by simp only [evalOp, h1, Option.bind_some, isNilS, if_pos h2.1, if_true, Bool.false_eq_true, if_false, Bool.not_false], h2.2⟩
    · cases neg <;> exact ⟨_, by simp only [evalOp, h1, Option.bind_some, isNilS, if_true, Bool.false_eq_true, if_false, Bool.not_true], h2⟩
    · cases neg <;> exact ⟨_, by simp only [evalOp, h1, Option.bind_some, isNilS, if_true, Bool.false_eq_true, if_false, Bool.not_false], h2⟩
  case ncmpP neg x =>
    obtain ⟨v, h1, h2⟩ := evX_of h
    obtain ⟨b, h3, h4⟩ := oA_of h2
    cases neg <;> exact ⟨_, by simp only [evalOp, h1, Option.bind_some, h3, if_true, Bool.false_eq_true, if_false], h4⟩
  case aeq neg sh x y =>
    obtain ⟨v, h1, h2⟩ := evX_of h
    obtain ⟨w, h3, h4⟩ := evX_of h2
    cases v <;> try exact h4.elim
    cases w <;> try exact h4.elim
    obtain ⟨r, h5, h6⟩ := h4
    cases neg <;> exact ⟨_, by simp only [evalOp, h1, h3, Option.bind_some, h5, if_true, Bool.false_eq_true, if_false], h6⟩
  case un op x =>
    obtain ⟨v, h1, h2⟩ := evX_of h
    obtain ⟨r, h3, h4⟩ := oA_of h2
    exact ⟨_, by simp only [evalOp, h1, Option.bind_some, h3], h4⟩
  case conv kd x =>
    obtain ⟨v, h1, h2⟩ := evX_of h
    cases v <;> try exact h2.elim
    exact ⟨_, by simp only [evalOp, h1, Option.bind_some], rng.out h2⟩
  case convS x =>
    obtain ⟨v, h1, h2⟩ := evX_of h
    cases v <;> try exact h2.elim
    exact ⟨_, by simp only [evalOp, h1, Option.bind_some], h2⟩
  case bytesS x =>
    obtain ⟨v, h1, ys, l, h2, h3, h4⟩ := evX_of h
    exact ⟨_, by simp only [evalOp, h1, h2, h3, Option.bind_some], h4⟩
  case ext e xs =>
    obtain ⟨vs, h1, h2⟩ := evXs_of h
    obtain ⟨r, h3, h4⟩ := oA_of h2
    exact ⟨_, by simp only [evalOp, h1, Option.bind_some, h3], h4⟩
  case build zs ps =>
    obtain ⟨vs, h1, cs, h2, h3, h4⟩ := evX3_of h
    exact ⟨_, by simp only [evalOp, h1, Option.bind_some, h2, h3, if_true], h4⟩
  case bslice T sz n zs ps =>
    obtain ⟨vs, h1, l, h2, h3, h4⟩ := evX2_of h
    cases n with
    | zero => exact ⟨_, by simp only [evalOp, h1, Option.bind_some, h2, h3, if_true], h4⟩
    | succ n => exact ⟨_, by simp only [evalOp, h1, Option.bind_some, h2, h3, if_true, Nat.add_eq_zero_iff, Nat.one_ne_zero, and_false, if_false], h4⟩
  case bsliceO T sz n zs ps =>
    obtain ⟨vs, h1, l, h2, h3, h4⟩ := evX2_of h
    exact ⟨_, by simp only [evalOp, h1, Option.bind_some, h2, h3, if_true], h4⟩
  case slice kk x lo hi =>
    obtain ⟨v, h1, h2⟩ := evX_of h
    obtain ⟨n, h3, h4⟩ := oA_of h2
    obtain ⟨p, h5, h6⟩ := evXO_of h4
    obtain ⟨q, h7, h8, h9⟩ := evXO_of h6
    cases v <;> try exact h9.elim
    · exact ⟨_, by simp only [evalOp, h1, Option.bind_some, sliceA, h3, h5, h7, if_pos h8, cutA], h9⟩
    · exact ⟨_, by simp only [evalOp, h1, Option.bind_some, sliceA, h3, h5, h7, if_pos h8, cutA, if_pos h9.1], h9.2⟩
    · exact ⟨_, by simp only [evalOp, h1, Option.bind_some, sliceA, h3, h5, h7, if_pos h8, cutA], h9⟩
    · exact ⟨_, by simp only [evalOp, h1, Option.bind_some, sliceA, h3, h5, h7, if_pos h8, cutA, if_pos h9.1], h9.2⟩
  case mks T sz bytes zs n =>
    obtain ⟨v, h1, h2⟩ := evX_of h
    cases v <;> try exact h2.elim
    exact ⟨_, by simp only [evalOp, h1, Option.bind_some, if_pos h2.1], h2.2⟩
  case len str x =>
    obtain ⟨v, h1, h2⟩ := evX_of h
    obtain ⟨n, h3, h4⟩ := oA_of h2
    exact ⟨_, by simp only [evalOp, h1, Option.bind_some, h3], h4⟩
  case append T str sz bytes x y =>
    obtain ⟨v, h1, h2⟩ := evX_of h
    obtain ⟨z, h3, h4⟩ := evX_of h2
    cases v <;> try exact h4.elim
    · obtain ⟨ys, h5, h6, h7, h8⟩ := h4
      by_cases he : ys = []
      · exact ⟨_, by simp only [evalOp, h1, h3, Option.bind_some, h5, if_pos he], h7 he⟩
      · exact ⟨_, by simp only [evalOp, h1, h3, Option.bind_some, h5, if_neg he, if_pos h6], h8 he⟩
    · obtain ⟨xs, ys, h5, h6, h7, h8, h9, h10, h11⟩ := h4
      exact ⟨_, by simp only [evalOp, h1, h3, Option.bind_some, h5, h6, if_pos (And.intro h7 (And.intro h8 (And.intro h9 h10)))], h11⟩
    · obtain ⟨ys, h5, h6, h7, h8⟩ := h4
      by_cases he : ys = []
      · exact ⟨_, by simp only [evalOp, h1, h3, Option.bind_some, h5, if_pos he], h7 he⟩
      · exact ⟨_, by simp only [evalOp, h1, h3, Option.bind_some, h5, if_neg he, if_pos h6], h8 he⟩
  case mm mx xs =>
    obtain ⟨vs, h1, h2⟩ := evXs_of h
    obtain ⟨r, h3, h4⟩ := oA_of h2
    exact ⟨_, by simp only [evalOp, h1, Option.bind_some, h3], h4⟩
  case extr x i =>
    obtain ⟨v, h1, h2⟩ := evX_of h
    cases v <;> try exact h2.elim
    obtain ⟨r, h3, h4⟩ := oA_of h2
    exact ⟨_, by simp only [evalOp, h1, Option.bind_some, h3], h4⟩
  case call f xs =>
    obtain ⟨vs, h1, h2⟩ := evXs_of h
    exact ⟨_, by simp only [evalOp, h1, Option.bind_some], h2⟩
  case callv g xs =>
    obtain ⟨c, h1, h2⟩ := evX_of h
    obtain ⟨vs, h3, h4⟩ := evXs_of h2
    cases c <;> try exact h4.elim
    exact ⟨_, by simp only [evalOp, h1, h3, Option.bind_some], h4⟩
  case mkfn f us xs =>
    obtain ⟨vs, h1, h2⟩ := evXs_of h
    obtain ⟨vs2, h3, h4⟩ := evXs_of h2
    exact ⟨_, by simp only [evalOp, h1, h3, Option.bind_some], h4⟩
  case idu x =>
    obtain ⟨v, h1, h2⟩ := evX_of h
    cases v <;> try exact h2.elim
    · obtain ⟨l, h3, h4, h5, h6⟩ := h2
      exact ⟨_, by simp [evalOp, h1, h3, h4, h5], h6⟩
    · exact ⟨_, by simp only [evalOp, h1, Option.bind_some], h2⟩
  case idf als x =>
    obtain ⟨v, h1, h2⟩ := evX_of h
    cases v <;> try exact h2.elim
    · obtain ⟨l, h3, u, h4, h5, h6, h9⟩ := h2
      subst h4
      exact ⟨_, by simp only [evalOp, h1, Option.bind_some, h3]; exact if_pos ⟨by trivial, h5.1, h5.2, h6⟩, h9⟩
    · exact ⟨_, by simp only [evalOp, h1, Option.bind_some], h2⟩
  case peq neg x y =>
    obtain ⟨v, h1, h2⟩ := evX_of h
    obtain ⟨w, h3, h4⟩ := evX_of h2
    cases v <;> try exact h4.elim
    cases w <;> try exact h4.elim
    exact ⟨_, by simp only [evalOp, h1, h3, Option.bind_some, if_pos h4.1], h4.2⟩
  case sdata x =>
    obtain ⟨v, h1, h2⟩ := evX_of h
    cases v <;> try exact h2.elim
    · exact ⟨_, by simp only [evalOp, h1, Option.bind_some], h2⟩
    · exact ⟨_, by simp only [evalOp, h1, Option.bind_some, if_pos h2.1], h2.2⟩
  case ustr u x n =>
    obtain ⟨v, h1, h2⟩ := evX_of h
    obtain ⟨w, h3, h4⟩ := evX_of h2
    cases v <;> try exact h4.elim
    · cases w <;> try exact h4.elim
      rename_i kd q
      cases kd <;> try exact h4.elim
      obtain ⟨l, b, h5, h6, h7, h8, h9, h10, h11, h12, h13, h14⟩ := h4
      exact ⟨_, by subst h8; subst h9; simp [evalOp, h1, h3, h5, h6, h7, h10, h11, h12, h13], h14⟩
    · cases w <;> try exact h4.elim
      rename_i kd q
      cases kd <;> try exact h4.elim
      exact ⟨_, by simp only [evalOp, h1, h3, Option.bind_some, if_pos h4.1], h4.2⟩
  case nilck x =>
    obtain ⟨v, h1, h2⟩ := evX_of h
    cases v <;> first | exact h2.elim | exact ⟨_, by simp only [evalOp, h1, Option.bind_some], h2⟩

end Go.Proofs.YtlabklehgfdibaaDoor

/- The predicate transformer over frames that are lists: code. -/
namespace Go.Proofs.YtlabklehgfdibaaDoor
set_option autoImplicit false
set_option linter.unusedSimpArgs false
set_option linter.unusedVariables false

/-- Both ways of a Bool, each with the Bool's own value. -/
structure bsplit (q : Bool) (k : Bool → Prop) : Prop where
  out : k q
theorem bsplit_intro {q : Bool} {k : Bool → Prop} (h1 : q = true → k true) (h2 : q = false → k false) : bsplit q k := ⟨by cases q with | true => exact h1 rfl | false => exact h2 rfl⟩
theorem bsplit_t {q : Bool} {k : Bool → Prop} (h : q = true) (h1 : k true) : bsplit q k := by rw [h]; exact ⟨h1⟩
theorem bsplit_f {q : Bool} {k : Bool → Prop} (h : q = false) (h1 : k false) : bsplit q k := by rw [h]; exact ⟨h1⟩
theorem bsplit_tt {k : Bool → Prop} (h : k true) : bsplit true k := ⟨h⟩
theorem bsplit_ff {k : Bool → Prop} (h : k false) : bsplit false k := ⟨h⟩
/-- .. of a test. -/
theorem bsplit_dec {p : Prop} [Decidable p] {k : Bool → Prop} (h1 : p → k true) (h2 : ¬ p → k false) : bsplit (decide p) k :=
  bsplit_intro (fun h => h1 (of_decide_eq_true h)) (fun h => h2 (of_decide_eq_false h))
theorem bsplit_pos {p : Prop} [Decidable p] {k : Bool → Prop} (h : p) (h1 : k true) : bsplit (decide p) k := bsplit_t (decide_eq_true h) h1
theorem bsplit_neg {p : Prop} [Decidable p] {k : Bool → Prop} (h : ¬ p) (h1 : k false) : bsplit (decide p) k := bsplit_f (decide_eq_false h) h1
theorem bsplit_not {q : Bool} {k : Bool → Prop} (h : bsplit q fun b => k (!b)) : bsplit (!q) k := ⟨h.out⟩

/-- A call: a place to stop. -/
structure callF (P : Program) (f : Nat) (args : List AV) (H : AH) (K : AV → AH → Prop) : Prop where
  out : callA P f args H K
structure callG (P : Program) (f : Nat) (args : List AV) (H0 D H : AH) (K : AV → AH → AH → Prop) : Prop where
  out : (∃ r, callP P f args H0 r ∧ K r D H) ∨ ∃ id b r b', hget D id = some b ∧ callW P f args H0 id b r b' ∧ K r (hdel D id) (hset H id b')
theorem callF_of {P : Program} {f : Nat} {args : List AV} {H : AH} {K : AV → AH → Prop} (h : ACalls P f args H K) : callF P f args H K := ⟨callA_of h⟩
theorem callF_eq {P : Program} {f : Nat} {args : List AV} {H : AH} {K : AV → AH → Prop} {r : AV} (h : ACalls P f args H fun r' H' => r' = r ∧ H' = H) (k : K r H) : callF P f args H K := ⟨callA_eq h k⟩
theorem callG_eq {P : Program} {f : Nat} {args : List AV} {H0 D H : AH} {K : AV → AH → AH → Prop} {r : AV} (hp : r.plain = true) (h : ACalls P f args H0 fun r' H' => r' = r ∧ H' = H0) (k : K r D H) : callG P f args H0 D H K := ⟨.inl ⟨r, callP_plain hp h, k⟩⟩
theorem callG_no {P : Program} {f : Nat} {args : List AV} {H0 D H : AH} {K : AV → AH → AH → Prop} {r : AV} (hp : NoId r) (h : ACalls P f args H0 fun r' H' => r' = r ∧ H' = H0) (k : K r D H) : callG P f args H0 D H K := ⟨.inl ⟨r, .inl ⟨hp, h⟩, k⟩⟩
theorem callG_w {P : Program} {f : Nat} {args : List AV} {H0 D H : AH} {K : AV → AH → AH → Prop} {id : Nat} {b b' : Blk} {r : AV} (hD : hget D id = some b) (hp : NoId r) (hb : BlkN b b') (h : ACalls P f args [(id, b)] fun r' H' => r' = r ∧ H' = [(id, b')])
    (k : K r (hdel D id) (hset H id b')) : callG P f args H0 D H K := ⟨.inr ⟨id, b, r, b', hD, ⟨hp, hb, [], (fun _ _ q => by cases q), h⟩, k⟩⟩

theorem callF_fz {P : Program} {f : Nat} {args args' : List AV} {H : AH} {K : AV → AH → Prop} {r : AV} (hf : FzL H [] args args') (hp : r.plain = true) (h : ACalls P f args' [] fun r' _ => r' = r) (k : K r H) : callF P f args H K :=
  ⟨⟨args', [], fun _ _ q => (by cases q), hf, .inr (h.mono fun r' _ e => by rw [e]; exact ⟨hp, k⟩)⟩⟩
/-- A call that is handed nothing of what is owned; what is owned is forgotten. -/
theorem callF_drop {P : Program} {f : Nat} {args : List AV} {H : AH} {K : AV → AH → Prop} (h : ACalls P f args [] K) : callF P f args H K :=
  ⟨⟨args, [], fun _ _ q => (by cases q), FzL.refl _ _ _, .inl h⟩⟩
theorem callF_plain {P : Program} {f : Nat} {args : List AV} {H : AH} {K : AV → AH → Prop} (h : ACalls P f args [] fun r' _ => r'.plain = true ∧ K r' H) : callF P f args H K :=
  ⟨⟨args, [], fun _ _ q => (by cases q), FzL.refl _ _ _, .inr h⟩⟩
theorem Rl.aggNil {h : Array Obj} {ρ : Loc} {Z : Nat → Prop} {sz : Nat} {pre post : List AV} {x : Value} (hr : Rl h ρ Z (.agg (pre ++ .nilS :: post)) x) : Rl h ρ Z (.agg (pre ++ .rows sz [] :: post)) x := by
  generalize hc : pre ++ AV.nilS :: post = cs at hr
  cases hr with
  | agg _ vs hl hcc hq =>
    subst hc
    refine .agg _ vs (by simpa using hl) (fun i v h1 => ?_) (fun i v y h1 h2 => ?_)
    · by_cases e : i = pre.length
      · subst e; simp at h1; rw [← h1]; rfl
      · refine hcc i v ?_
        rw [List.getElem?_append] at h1 ⊢
        split at h1
        · rename_i q; rw [if_pos q]; exact h1
        · rename_i q
          rw [if_neg q]
          obtain ⟨k, hk⟩ : ∃ k, i - pre.length = k + 1 := ⟨i - pre.length - 1, by omega⟩
          rw [hk] at h1 ⊢
          simpa using h1
    · by_cases e : i = pre.length
      · subst e
        have hy := hq pre.length .nilS y (by simp) h2
        simp at h1
        subst h1
        cases hy
        exact .rowsN sz
      · refine hq i v y ?_ h2
        rw [List.getElem?_append] at h1 ⊢
        split at h1
        · rename_i q; rw [if_pos q]; exact h1
        · rename_i q
          rw [if_neg q]
          obtain ⟨k, hk⟩ : ∃ k, i - pre.length = k + 1 := ⟨i - pre.length - 1, by omega⟩
          rw [hk] at h1 ⊢
          simpa using h1
theorem FzL.nil (H Hc : AH) : FzL H Hc [] [] := FzL.refl H Hc []
theorem FzL.cons {H Hc : AH} {v v' : AV} {vs vs' : List AV} (h : Fz H Hc v v') (hs : FzL H Hc vs vs') : FzL H Hc (v :: vs) (v' :: vs') := by
  refine ⟨by simp [hs.1], fun i a b h1 h2 => ?_⟩
  cases i with
  | zero => simp at h1 h2; rw [← h1, ← h2]; exact h
  | succ i => exact hs.2 i a b (by simpa using h1) (by simpa using h2)
/-- A slice that is owned, of cells that are not, as one that nobody writes. -/
theorem fz_own {H Hc : AH} {id sz lo hi : Nat} {l : List (List AV)} (hg : hget H id = some (.rows sz l)) (hd : hget Hc id = none) (h1 : lo ≤ hi) (h2 : hi ≤ l.length) (hw : ∀ (i : Nat) r, l[i]? = some r → r.length = sz) :
    Fz H Hc (.own id sz lo hi) (.rows sz ((l.take hi).drop lo)) := by
  have key : ∀ i r', ((l.take hi).drop lo)[i]? = some r' → l[lo + i]? = some r' := by
    intro i r' q
    rw [List.getElem?_drop, List.getElem?_take] at q
    split at q
    · exact q
    · cases q
  refine .own id sz lo hi l _ hg hd h2 h1 (by simp; omega) (fun i r' q => hw _ _ (key i r' q)) fun i r r' j v v' q1 q2 q3 q4 => ?_
  rw [key i r' q2] at q1
  simp only [Option.some.injEq] at q1
  subst q1
  rw [q3] at q4
  simp only [Option.some.injEq] at q4
  subst q4
  exact .refl _
/-- What is asked of fewer values is asked of these. -/
theorem ACalls.args {P : Program} {f : Nat} {args args' : List AV} {H : AH} {K : AV → AH → Prop} (h : ACalls P f args' H K) (hw : ∀ h ρ Z xs, RlL h ρ Z args xs → RlL h ρ Z args' xs) : ACalls P f args H K :=
  ⟨h.1, fun w ρ Z xs g hr => h.2 w ρ Z xs g (hw _ _ _ _ hr)⟩
theorem RlL.nilS {h : Array Obj} {ρ : Loc} {Z : Nat → Prop} {sz : Nat} {pre post : List AV} {xs : List Value} (hr : RlL h ρ Z (pre ++ .nilS :: post) xs) : RlL h ρ Z (pre ++ .rows sz [] :: post) xs := by
  refine ⟨by simpa using hr.1, fun i v x h1 h2 => ?_⟩
  by_cases e : i = pre.length
  · subst e
    have hq := hr.2 pre.length .nilS x (by simp) h2
    simp at h1
    subst h1
    cases hq
    exact .rowsN sz
  · refine hr.2 i v x ?_ h2
    rw [List.getElem?_append] at h1 ⊢
    split at h1
    · rename_i q; rw [if_pos q]; exact h1
    · rename_i q
      rw [if_neg q]
      obtain ⟨k, hk⟩ : ∃ k, i - pre.length = k + 1 := ⟨i - pre.length - 1, by omega⟩
      rw [hk] at h1 ⊢
      simpa using h1
theorem hget_ne_of {H : AH} {i j : Nat} {b : Blk} (h : hget H i = none) (h2 : hget H j = some b) : i ≠ j := fun e => by rw [e, h2] at h; cases h
theorem hget_set {H : AH} {i : Nat} {b c : Blk} (h : hget H i = some b) : hget (hset H i c) i = some c := by rw [hget_hset, if_pos rfl, h]; rfl
theorem hget_set_ne {H : AH} {i j : Nat} {c : Blk} (h : j ≠ i) : hget (hset H i c) j = hget H j := by rw [hget_hset, if_neg h]
theorem hget_del_ne {H : AH} {i j : Nat} (h : j ≠ i) : hget (hdel H i) j = hget H j := by rw [hget_hdel, if_neg h]
theorem hdel_none {H : AH} {i : Nat} (h : hget H i = none) : hdel H i = H := by
  induction H with
  | nil => rfl
  | cons p H ih =>
    obtain ⟨k, d⟩ := p
    simp only [hget] at h
    split at h
    · cases h
    · rename_i e
      simp only [hdel]
      rw [if_neg e, ih h]
theorem hdel_cons {H : AH} {i : Nat} {b : Blk} (h : hget H i = none) : hdel ((i, b) :: H) i = H := by
  simp only [hdel]; rw [if_pos trivial, hdel_none h]
theorem hget_tail {id j : Nat} {b : Blk} {H : AH} (h : j ≠ id) : hget ((j, b) :: H) id = hget H id := by simp only [hget]; rw [if_neg (fun e => h e.symm)]
theorem hset_self {id : Nat} {b c : Blk} {H : AH} : hset ((id, b) :: H) id c = (id, c) :: H := by simp [hset]
theorem hget_fresh {id j : Nat} {b : Blk} {H : AH} (h : hget ((j, b) :: H) id = none) : id ≠ j ∧ hget H id = none := by
  simp only [hget] at h
  split at h
  · cases h
  · rename_i e; exact ⟨e, h⟩
theorem hget_self {id : Nat} {b : Blk} {H : AH} : hget ((id, b) :: H) id = some b := by simp [hget]

def applyF (P : Program) (rs : Rs) (d : Option Nat) (L : FL) (H : AH) (K : FL → AH → Prop) : Prop :=
  match rs with
  | .val v => putK L d v fun L => K L H
  | .upd H' => delK L d fun L => K L H'
  | .valH v H' => putK L d v fun L => K L H'
  | .fresh T blk v H' => ∀ id, hget H id = none → tag id = T → putK L d (v id) fun L => K L ((id, blk) :: H')
  | .call f args => callF P f args H fun r H' => putK L d r fun L => K L H'

def opFp (L : FL) (H : AH) (co : CO) (k : Rs → Prop) : Prop :=
  match co with
  | .pick c a b => evX L c fun v => match v with
    | .bool q => bsplit q fun q => match q with
      | true => evX L a fun v => k (.val v)
      | false => evX L b fun v => k (.val v)
    | _ => False
  | co => opF L H co k

def opsCons (P : Program) (o : COp) (ih : (FL → AH → Prop) → FL → AH → Prop) (K : FL → AH → Prop) (L : FL) (H : AH) : Prop :=
    match o.guard with
    | none => opFp L H o.co fun rs => applyF P rs o.dst L H (ih K)
    | some (g, want) => match L.get g with
      | some (.bool q) => bsplit q fun b => match b with
        | true => match want with
          | true => opFp ((g, some (.bool true)) :: L) H o.co fun rs => applyF P rs o.dst ((g, some (.bool true)) :: L) H (ih K)
          | false => putK ((g, some (.bool true)) :: L) o.dst (.tup []) fun L => ih K L H
        | false => match want with
          | false => opFp ((g, some (.bool false)) :: L) H o.co fun rs => applyF P rs o.dst ((g, some (.bool false)) :: L) H (ih K)
          | true => putK ((g, some (.bool false)) :: L) o.dst (.tup []) fun L => ih K L H
      | some (.tup []) => putK L o.dst (.tup []) fun L => ih K L H
      | _ => False

/-- By the recursor itself, so that what is left of a reduction is what the kernel has, too. -/
noncomputable def wpOpsF (P : Program) (os : List COp) (K : FL → AH → Prop) (L : FL) (H : AH) : Prop :=
  @List.rec COp (fun _ => (FL → AH → Prop) → FL → AH → Prop) (fun K L H => K L H) (fun o _ ih => opsCons P o ih) os K L H
theorem wpOpsF_nil (P : Program) (K : FL → AH → Prop) (L : FL) (H : AH) : wpOpsF P [] K L H = K L H := rfl
theorem wpOpsF_cons (P : Program) (o : COp) (os : List COp) (K : FL → AH → Prop) (L : FL) (H : AH) : wpOpsF P (o :: os) K L H = opsCons P o (wpOpsF P os) K L H := rfl

/-- The blocks that the region made: by the slots that hold them. -/
noncomputable def slotF (F : List (Nat × Nat × Blk)) (t : Nat) : Option (Nat × Blk) := @List.rec (Nat × Nat × Blk) (fun _ => Option (Nat × Blk)) none (fun p _ ih => match Nat.beq t p.1 with
    | true => some p.2
    | false => ih) F
def addF (F : List (Nat × Nat × Blk)) (d : Option Nat) (id : Nat) (b : Blk) : List (Nat × Nat × Blk) :=
  match d with
  | some d => (d, id, b) :: F
  | none => F
abbrev FF := List (Nat × Nat × Blk)
def drawF (P : Program) (rs : Rs) (d : Option Nat) (L : FL) (H0 D : AH) (F : FF) (H : AH) (K : FL → AH → FF → AH → Prop) : Prop :=
  match rs with
  | .val v => putK L d v fun L => K L D F H
  | .upd _ => False
  | .valH _ _ => False
  | .fresh T blk v H' => H' = H0 ∧ ∀ id, hget H id = none → tag id = T → putK L d (v id) fun L => K L D (addF F d id blk) ((id, blk) :: H)
  | .call f args => callG P f args H0 D H fun r D' H' => putK L d r fun L => K L D' F H'

/-- .. or it writes one block of D, or one that the region made (the first such write ends them all). -/
noncomputable def drawStF (P : Program) (o : COp) (L : FL) (H0 D : AH) (F : FF) (H : AH) (k : FL → AH → FF → AH → Prop) : Prop :=
  match o.co with
  | .store n x y => evX L x fun v => evX L y fun z => match v with
    | .ptr id sz i j => match (match x with | .t t => slotF F t | _ => none) with
      | some p => ∃ l r, hget [p] id = some (.rows sz l) ∧ l[i]? = some r ∧ z.cells.length = n ∧ allCells z.cells = true ∧ j + n ≤ r.length ∧ hsetN H id (.rows sz (l.set i (over r j z.cells))) fun H' => delK L o.dst fun L => k L D [] H'
      | none => ∃ l r, hget D id = some (.rows sz l) ∧ l[i]? = some r ∧ z.cells.length = n ∧ allCells z.cells = true ∧ j + n ≤ r.length ∧ hsetN H id (.rows sz (l.set i (over r j z.cells))) fun H' => delK L o.dst fun L => k L (hdel D id) F H'
    | _ => False
  | co => opFp L H0 co fun rs => drawF P rs o.dst L H0 D F H k

noncomputable def drawCons (P : Program) (o : COp) (ih : (FL → AH → Prop) → FL → AH → AH → FF → AH → Prop) (K : FL → AH → Prop) (L : FL) (H0 D : AH) (F : FF) (H : AH) : Prop :=
    match o.guard with
    | none => drawStF P o L H0 D F H fun L' D' F' H' => ih K L' H0 D' F' H'
    | some (g, want) => match L.get g with
      | some (.bool q) => bsplit q fun b => match b with
        | true => match want with
          | true => drawStF P o ((g, some (.bool true)) :: L) H0 D F H fun L' D' F' H' => ih K L' H0 D' F' H'
          | false => putK ((g, some (.bool true)) :: L) o.dst (.tup []) fun L => ih K L H0 D F H
        | false => match want with
          | false => drawStF P o ((g, some (.bool false)) :: L) H0 D F H fun L' D' F' H' => ih K L' H0 D' F' H'
          | true => putK ((g, some (.bool false)) :: L) o.dst (.tup []) fun L => ih K L H0 D F H
      | some (.tup []) => putK L o.dst (.tup []) fun L => ih K L H0 D F H
      | _ => False

noncomputable def wpDrawF (P : Program) (os : List COp) (K : FL → AH → Prop) (L : FL) (H0 D : AH) (F : FF) (H : AH) : Prop :=
  @List.rec COp (fun _ => (FL → AH → Prop) → FL → AH → AH → FF → AH → Prop) (fun K L _ _ _ H => K L H) (fun o _ ih => drawCons P o ih) os K L H0 D F H

/-- The block that an operation writes, if it is known ahead of the region. -/
noncomputable def stId (L : FL) (o : COp) : Option Nat :=
  match o.co with
  | .store _ x _ => match x with
    | .t k => match L.get k with
      | some (.ptr id _ _ _) => some id
      | _ => none
    | _ => none
  | _ => none
/-- A block is set apart. -/
structure hdelK (H : AH) (id : Nat) (k : AH → Prop) : Prop where
  out : k (hdel H id)
theorem hdelK_any {H : AH} {id : Nat} {k : AH → Prop} (h : k (hdel H id)) : hdelK H id k := ⟨h⟩
theorem hdelK_top {H : AH} {id : Nat} {b : Blk} {k : AH → Prop} (hn : hget H id = none) (h : k H) : hdelK ((id, b) :: H) id k := ⟨by rw [hdel_cons hn]; exact h⟩
theorem hdelK_down {T : AH} {i id : Nat} {c : Blk} {k : AH → Prop} (h : i ≠ id) (h2 : hdelK T id fun T' => k ((i, c) :: T')) : hdelK ((i, c) :: T) id k :=
  ⟨by rw [show hdel ((i, c) :: T) id = (i, c) :: hdel T id from by simp only [hdel]; rw [if_neg (fun e => h e.symm)]]; exact h2.out⟩
/-- These blocks are set apart. -/
noncomputable def withD (L : FL) (os : List COp) (k : AH → AH → Prop) (H0 D : AH) : Prop :=
  @List.rec COp (fun _ => AH → AH → Prop) k (fun o _ ih H0 D => match stId L o with
    | some id => ∃ b, hget H0 id = some b ∧ hdelK H0 id fun H0' => ih H0' ((id, b) :: D)
    | none => ih H0 D) os H0 D
theorem withD_of {L : FL} {k : AH → AH → Prop} {H : AH} : ∀ (os : List COp) (H0 D : AH), Sub H0 H → Sub D H → (∀ id b, hget D id = some b → hget H0 id = none) → withD L os k H0 D → ∃ H0 D, Sub H0 H ∧ Sub D H ∧ (∀ id b, hget D id = some b → hget H0 id = none) ∧ k H0 D
  | [], H0, D, h1, h2, h3, h => ⟨H0, D, h1, h2, h3, h⟩
  | o :: os, H0, D, h1, h2, h3, h => by
    have h' : (match stId L o with
      | some id => ∃ b, hget H0 id = some b ∧ hdelK H0 id fun H0' => withD L os k H0' ((id, b) :: D)
      | none => withD L os k H0 D) := h
    split at h'
    · rename_i id _
      obtain ⟨b, hb, h'⟩ := h'
      replace h' := h'.out
      refine withD_of os (hdel H0 id) ((id, b) :: D) (fun j c q => ?_) (fun j c q => ?_) (fun j c q => ?_) h'
      · rw [hget_hdel] at q
        split at q
        · cases q
        · exact h1 _ _ q
      · simp only [hget] at q
        split at q
        · rename_i e; subst e; rw [← q]; exact h1 _ _ hb
        · exact h2 _ _ q
      · simp only [hget] at q
        rw [hget_hdel]
        split at q
        · rename_i e; rw [if_pos e]
        · rename_i e; rw [if_neg e]; exact h3 _ _ q
    · exact withD_of os H0 D h1 h2 h3 h'
/-- The region's blocks are chosen: by its stores alone, or by hand. -/
structure drawD (L : FL) (os : List COp) (k : AH → AH → Prop) (H : AH) : Prop where
  out : ∃ H0 D, Sub H0 H ∧ Sub D H ∧ (∀ id b, hget D id = some b → hget H0 id = none) ∧ k H0 D
theorem dAuto {L : FL} {os : List COp} {k : AH → AH → Prop} {H : AH} (h : withD L os k H []) : drawD L os k H := ⟨withD_of os H [] (fun _ _ q => q) (fun _ _ q => by cases q) (fun _ _ q => by cases q) h⟩
theorem dPick {L : FL} {os : List COp} {k : AH → AH → Prop} {H : AH} {id : Nat} {b : Blk} (hb : hget H id = some b) (h : hdelK H id fun H0 => withD L os k H0 [(id, b)]) : drawD L os k H :=
  ⟨withD_of os (hdel H id) [(id, b)] (fun j c q => by
    rw [hget_hdel] at q
    split at q
    · cases q
    · exact q) (fun j c q => by
    simp only [hget] at q
    split at q
    · rename_i e; subst e; rw [← q]; exact hb
    · cases q) (fun j c q => by
    simp only [hget] at q
    split at q
    · rename_i e; rw [hget_hdel, if_pos e]
    · cases q) h.out⟩
theorem wpDrawF_nil (P : Program) (K : FL → AH → Prop) (L : FL) (H0 D : AH) (F : FF) (H : AH) : wpDrawF P [] K L H0 D F H = K L H := rfl
theorem wpDrawF_cons (P : Program) (o : COp) (os : List COp) (K : FL → AH → Prop) (L : FL) (H0 D : AH) (F : FF) (H : AH) : wpDrawF P (o :: os) K L H0 D F H = drawCons P o (wpDrawF P os) K L H0 D F H := rfl

def thenF (next : FL → AH → Prop) (Q : Exit → FL → AH → Prop) : Exit → FL → AH → Prop
  | .normal, L, H => next L H
  | e, L, H => Q e L H

def blockF (id : Nat) (Q : Exit → FL → AH → Prop) : Exit → FL → AH → Prop
  | .exit id', L, H => match Nat.beq id' id with
    | true => Q .normal L H
    | false => Q (.exit id') L H
  | e, L, H => Q e L H

def jumpF (l : Nat) (J : FL → AH → Prop) (Q : Exit → FL → AH → Prop) : Exit → FL → AH → Prop
  | .goto l', L, H => l' = l ∧ J L H
  | e, L, H => Q e L H

/-- Do ways meet behind this code? -/
def isJoin : C → Bool
  | .cond _ _ _ => true
  | .block _ _ => true
  | .scope _ => true
  | .label _ => true
  | .seq _ b => isJoin b
  | _ => false

def WeakF (J : FL → AH → Prop) (L : FL) (H : AH) : Prop := ∃ M Hk, coversZ H Hk M L ∧ Sub Hk H ∧ J M Hk

abbrev WF := Option Nat → (Exit → FL → AH → Prop) → FL → AH → Prop

def fSeq (a : C) (jn : Bool) (iha ihb : WF) : WF
  | none, Q, L, H => match jn with
    | true => (iha none (thenF (ihb none Q) Q) L H ∨ ∃ J : FL → AH → Prop, iha none (thenF (WeakF J) Q) L H ∧ ∀ M Hk, J M Hk → ihb none Q M Hk) ∨
        ∃ M Hk, iha none (thenF (fun L' H' => coversZ H' Hk M L' ∧ Sub Hk H') Q) L H ∧ ihb none Q M Hk
    | false => iha none (thenF (ihb none Q) Q) L H
  | some l, Q, L, H => match hasL a l with
    | true => iha (some l) (thenF (ihb none Q) Q) L H
    | false => ihb (some l) Q L H
def fCond (x : X) (iha ihb : WF) : WF
  | none, Q, L, H => evX L x fun v => match v with
    | .bool q => bsplit q fun q => match q with
      | true => iha none Q L H
      | false => ihb none Q L H
    | _ => False
  | some _, _, _, _ => False
def fBlock (id : Nat) (ih : WF) : WF
  | none, Q, L, H => ih none (blockF id Q) L H
  | some _, _, _, _ => False
def fLoop (ih : WF) : WF
  | none, Q, L, H => ∃ I : Nat → FL → AH → Prop, WeakF (fun M Hk => ∃ n, I n M Hk) L H ∧
      ∀ n L H, I n L H → ih none (thenF (WeakF fun L' H' => ∃ m, m < n ∧ I m L' H') Q) L H
  | some _, _, _, _ => False
def fScope (ih : WF) : WF
  | none, Q, L, H => ∃ (l n0 : Nat) (I : Nat → FL → AH → Prop), ih none (jumpF l (WeakF fun L' H' => ∃ m, m < n0 ∧ I m L' H') Q) L H ∧
      ∀ n L H, I n L H → ih (some l) (jumpF l (WeakF fun L' H' => ∃ m, m < n ∧ I m L' H') Q) L H
  | some _, _, _, _ => False
def fEnd (e : Exit) : WF
  | none, Q, L, H => Q e L H
  | some _, _, _, _ => False
def fLabel (l' : Nat) : WF
  | none, Q, L, H => Q .normal L H
  | some l, Q, L, H => l' = l ∧ Q .normal L H
def fReg (k : (FL → AH → Prop) → FL → AH → Prop) : WF
  | none, Q, L, H => k (Q .normal) L H
  | some _, _, _, _ => False

noncomputable def wpF (P : Program) (c : C) : WF :=
  @C.rec (fun _ => WF)
    (fEnd .normal)
    (fun ops => fReg (wpOpsF P ops))
    (fun pre post => fReg fun K L H => drawD L pre (fun H0 D => wpDrawF P pre (fun L' H' => wpOpsF P post K L' H') L H0 D [] H) H)
    (fun a _ iha ihb => fSeq a (isJoin a) iha ihb)
    (fun x _ _ iha ihb => fCond x iha ihb)
    (fun id _ ih => fBlock id ih)
    (fun _ ih => fLoop ih)
    (fun id => fEnd (.exit id))
    (fun _ ih => fScope ih)
    (fun l => fLabel l)
    (fun l => fEnd (.goto l))
    (fEnd .ret)
    (fun _ _ _ _ => False) c

section
variable (P : Program) (Q : Exit → FL → AH → Prop) (L : FL) (H : AH)
theorem wpF_skip : wpF P .skip none Q L H = Q .normal L H := rfl
theorem wpF_reg (ops : List COp) : wpF P (.reg ops) none Q L H = wpOpsF P ops (Q .normal) L H := rfl
theorem wpF_dreg (pre post : List COp) : wpF P (.dreg pre post) none Q L H = drawD L pre (fun H0 D => wpDrawF P pre (fun L' H' => wpOpsF P post (Q .normal) L' H') L H0 D [] H) H := rfl
theorem wpF_seq (a b : C) (lb : Option Nat) : wpF P (.seq a b) lb Q L H = fSeq a (isJoin a) (wpF P a) (wpF P b) lb Q L H := rfl
theorem wpF_cond (x : X) (a b : C) (lb : Option Nat) : wpF P (.cond x a b) lb Q L H = fCond x (wpF P a) (wpF P b) lb Q L H := rfl
theorem wpF_block (id : Nat) (b : C) (lb : Option Nat) : wpF P (.block id b) lb Q L H = fBlock id (wpF P b) lb Q L H := rfl
theorem wpF_loop (b : C) (lb : Option Nat) : wpF P (.loop b) lb Q L H = fLoop (wpF P b) lb Q L H := rfl
theorem wpF_scope (b : C) (lb : Option Nat) : wpF P (.scope b) lb Q L H = fScope (wpF P b) lb Q L H := rfl
end

section
variable {P : Program}

theorem opFp_of {L : FL} {H : AH} {co : CO} {k : Rs → Prop} (h : opFp L H co k) : ∃ rs, evalOp (frm L) H co = some rs ∧ k rs := by
  cases co
  case pick c a b =>
    obtain ⟨v, h1, h2⟩ := evX_of h
    cases v <;> try exact h2.elim
    rename_i q
    replace h2 := h2.out
    cases q with
    | true => obtain ⟨u, h3, h4⟩ := evX_of h2; exact ⟨_, by simp only [evalOp, h1, h3, Option.bind_some, if_true], h4⟩
    | false => obtain ⟨u, h3, h4⟩ := evX_of h2; exact ⟨_, by simp only [evalOp, h1, h3, Option.bind_some, Bool.false_eq_true, if_false], h4⟩
  all_goals exact opF_of h

theorem frm_same {L : FL} {g : Nat} {v : AV} (h : L.get g = some v) : frm ((g, some v) :: L) = frm L := by
  funext t
  simp only [frm, FL.get_cons]
  split
  · rename_i e; rw [e, h]
  · rfl

theorem applyF_of {rs : Rs} {d : Option Nat} {L : FL} {H : AH} {K : FL → AH → Prop} {K' : Fr → AH → Prop} (hk : ∀ L H, K L H → K' (frm L) H) (h : applyF P rs d L H K) : applyRs P rs d (frm L) H K' := by
  cases rs with
  | val v => simp only [applyF, applyRs, putK_eq, delK_eq] at h ⊢; rw [← frm_put]; exact hk _ _ h
  | upd H' => simp only [applyF, applyRs, putK_eq, delK_eq] at h ⊢; rw [← frm_del]; exact hk _ _ h
  | valH v H' => simp only [applyF, applyRs, putK_eq, delK_eq] at h ⊢; rw [← frm_put]; exact hk _ _ h
  | fresh T blk vf H' => simp only [applyF, applyRs, putK_eq, delK_eq] at h ⊢; intro id hid ht; rw [← frm_put]; exact hk _ _ (h id hid ht)
  | call f args =>
    simp only [applyF, applyRs, putK_eq, delK_eq] at h ⊢
    obtain ⟨a', Hc, h1, h2, h3⟩ := h.out
    refine ⟨a', Hc, h1, h2, ?_⟩
    rcases h3 with h3 | h3
    · exact .inl (h3.mono fun r H' q => by rw [← frm_put]; exact hk _ _ q)
    · exact .inr (h3.mono fun r H' q => ⟨q.1, by show K' ((frm L).put d r) H; rw [← frm_put]; exact hk _ _ q.2⟩)

theorem wpOpsF_of {K : FL → AH → Prop} {K' : Fr → AH → Prop} (hk : ∀ L H, K L H → K' (frm L) H) : ∀ (os : List COp) (L : FL) (H : AH), wpOpsF P os K L H → wpOps P os K' (frm L) H
  | [], L, H, h => hk L H h
  | o :: os, L, H, h => by
    have run : ∀ L H, (opFp L H o.co fun rs => applyF P rs o.dst L H (wpOpsF P os K)) → OA (evalOp (frm L) H o.co) fun rs => applyRs P rs o.dst (frm L) H (wpOps P os K') := by
      intro L H h
      obtain ⟨rs, h1, h2⟩ := opFp_of h
      rw [h1]
      exact applyF_of (fun L H q => wpOpsF_of hk os L H q) h2
    simp only [wpOpsF_cons, opsCons, putK_eq] at h
    simp only [wpOps]
    split at h
    · rename_i hg
      rw [hg]
      exact run L H h
    · rename_i g want hg
      rw [hg]
      simp only
      split at h
      · rename_i q hq
        refine .inl ⟨q, hq, fun e => ?_, fun e => ?_⟩
        · subst e
          replace h := h.out
          rw [← frm_same hq]
          cases q <;> exact run _ H h
        · replace h := h.out
          rw [← frm_same hq, ← frm_put]
          cases q <;> cases want <;> simp at e <;> exact wpOpsF_of hk os _ H h
      · rename_i hq
        refine .inr ⟨hq, ?_⟩
        rw [← frm_put]
        exact wpOpsF_of hk os _ H h
      · exact h.elim

/-- What the slots hold is what may be written, and is owned. -/
structure OkF (Ff : FF) (F H : AH) : Prop where
  sub : ∀ t p, slotF Ff t = some p → hget F p.1 = some p.2
  own : ∀ id b, hget F id = some b → ∃ c, hget H id = some c
theorem OkF.add {Ff : FF} {F H : AH} (h : OkF Ff F H) {d : Option Nat} {id : Nat} {b : Blk} (hid : hget H id = none) : OkF (addF Ff d id b) ((id, b) :: F) ((id, b) :: H) := by
  have old : ∀ t p, slotF Ff t = some p → hget ((id, b) :: F) p.1 = some p.2 := fun t p q => by
    have := h.sub t p q
    simp only [hget]
    rw [if_neg (fun e => by obtain ⟨c, hc⟩ := h.own _ _ this; rw [e, hid] at hc; cases hc)]
    exact this
  refine ⟨fun t p q => ?_, fun id2 b2 q => ?_⟩
  · cases d with
    | none => exact old t p q
    | some d =>
      have q' : (match Nat.beq t d with | true => some (id, b) | false => slotF Ff t) = some p := q
      split at q'
      · simp only [Option.some.injEq] at q'
        subst q'
        simp [hget]
      · exact old t p q'
  · simp only [hget] at q ⊢
    split at q
    · rename_i e; rw [if_pos e]; exact ⟨_, rfl⟩
    · rename_i e; rw [if_neg e]; exact h.own _ _ q
theorem OkF.set {Ff : FF} {F H : AH} (h : OkF Ff F H) (id : Nat) (b : Blk) : OkF Ff F (hset H id b) := ⟨h.sub, fun id2 b2 q => by
  obtain ⟨c, hc⟩ := h.own _ _ q
  rw [hget_hset]
  split
  · rename_i e; rw [← e, hc]; exact ⟨_, rfl⟩
  · exact ⟨c, hc⟩⟩
theorem OkF.fin {Ff : FF} {F H : AH} (h : OkF Ff F H) (id i : Nat) (b : Blk) : OkF [] (hdel F i) (hset H id b) := ⟨fun t p q => (by cases q), fun id2 b2 q => by
  rw [hget_hdel] at q
  split at q
  · cases q
  · exact (h.set id b).own _ _ q⟩

theorem drawStF_of {o : COp} {L : FL} {H0 D : AH} {Ff : FF} {F H : AH} (hF : OkF Ff F H) {k : FL → AH → FF → AH → Prop} {k' : Fr → AH → AH → AH → Prop} (hk : ∀ L D Ff F H, OkF Ff F H → k L D Ff H → k' (frm L) D F H) (h : drawStF P o L H0 D Ff H k) : drawSt P o (frm L) H0 D F H k' := by
  have other : (opFp L H0 o.co fun rs => drawF P rs o.dst L H0 D Ff H k) → drawSt P o (frm L) H0 D F H k' := by
    intro h
    obtain ⟨rs, h1, h2⟩ := opFp_of h
    cases rs with
    | val v =>
      refine .inl ?_
      rw [h1]
      simp only [drawF, OA, drawRs, putK_eq] at h2 ⊢; rw [← frm_put]; exact hk _ _ _ _ _ hF h2
    | upd H' => exact h2.elim
    | valH v H' => exact h2.elim
    | fresh T blk vf H' =>
      refine .inl ?_
      rw [h1]
      simp only [drawF, OA, drawRs, putK_eq] at h2 ⊢; exact ⟨h2.1, fun id hid ht => by rw [← frm_put]; exact hk _ _ _ _ _ (hF.add hid) (h2.2 id hid ht)⟩
    | call f args =>
      simp only [drawF, putK_eq] at h2
      rcases h2.out with ⟨r, q1, q2⟩ | ⟨id, b, r, b', q1, q2, q3⟩
      · refine .inl ?_
        rw [h1]
        simp only [OA, drawRs]
        exact ⟨r, q1, by rw [← frm_put]; exact hk _ _ _ _ _ hF q2⟩
      · exact .inr (.inr (.inl ⟨f, args, id, b, r, b', h1, q1, q2, by rw [← frm_put]; exact hk _ _ _ _ _ (hF.set id b') q3⟩))
  simp only [drawStF, delK_eq] at h
  split at h
  · rename_i n x y hco
    obtain ⟨v, h1, h2⟩ := evX_of h
    obtain ⟨z, h3, h4⟩ := evX_of h2
    cases v <;> try exact h4.elim
    rename_i id sz i j
    simp only at h4
    split at h4
    · rename_i p hp
      cases x with
      | t t =>
        obtain ⟨l, r, q1, q2, q3, q4, q5, q6⟩ := h4
        replace q6 := q6.out
        have hp' : slotF Ff t = some p := hp
        have hg := hF.sub t p hp'
        have e : p.1 = id ∧ p.2 = .rows sz l := by
          simp only [hget] at q1
          split at q1
          · rename_i e; simp only [Option.some.injEq] at q1; exact ⟨by rw [e], q1⟩
          · cases q1
        rw [e.1, e.2] at hg
        refine .inr (.inr (.inr ⟨id, .rows sz l, hset [(id, .rows sz l)] id (.rows sz (l.set i (over r j z.cells))), .rows sz (l.set i (over r j z.cells)), t, sz, i, j, h1, ?_, hg, ?_, ?_, by rw [← frm_del]; exact hk _ _ _ _ _ (hF.fin id id _) q6⟩))
        · simp [COp.looks, hco, CO.looks, X.looks]
        · rw [hco]
          simp only [evalOp, h1, h3, Option.bind_some, hget, if_true, q2]
          simp [q3, q4, q5]
        · simp [hset, hget]
      | _ => cases hp
    · obtain ⟨l, r, q1, q2, q3, q4, q5, q6⟩ := h4
      replace q6 := q6.out
      refine .inr (.inl ⟨id, .rows sz l, hset [(id, .rows sz l)] id (.rows sz (l.set i (over r j z.cells))), .rows sz (l.set i (over r j z.cells)), q1, ?_, ?_, by rw [← frm_del]; exact hk _ _ _ _ _ (hF.set id _) q6⟩)
      · rw [hco]
        simp only [evalOp, h1, h3, Option.bind_some, hget, if_true, q2]
        simp [q3, q4, q5]
      · simp [hset, hget]
  · exact other h

theorem wpDrawF_of {K : FL → AH → Prop} {K' : Fr → AH → Prop} (hk : ∀ L H, K L H → K' (frm L) H) : ∀ (os : List COp) (L : FL) (H0 D : AH) (Ff : FF) (F H : AH), OkF Ff F H → wpDrawF P os K L H0 D Ff H → wpDraw P os K' (frm L) H0 D F H
  | [], L, H0, D, Ff, F, H, _, h => hk L H h
  | o :: os, L, H0, D, Ff, F, H, hF, h => by
    have run : ∀ L D Ff F H, OkF Ff F H → (drawStF P o L H0 D Ff H fun L' D' F' H' => wpDrawF P os K L' H0 D' F' H') → drawSt P o (frm L) H0 D F H fun s' D' F' H' => wpDraw P os K' s' H0 D' F' H' :=
      fun L D Ff F H hF h => drawStF_of hF (fun L D Ff F H hF q => wpDrawF_of hk os L H0 D Ff F H hF q) h
    simp only [wpDrawF_cons, drawCons, putK_eq] at h
    simp only [wpDraw]
    split at h
    · rename_i hg
      rw [hg]
      exact run L D Ff F H hF h
    · rename_i g want hg
      rw [hg]
      simp only
      split at h
      · rename_i q hq
        refine .inl ⟨q, hq, fun e => ?_, fun e => ?_⟩
        · subst e
          replace h := h.out
          rw [← frm_same hq]
          cases q <;> exact run _ D Ff F H hF h
        · replace h := h.out
          rw [← frm_same hq, ← frm_put]
          cases q <;> cases want <;> simp at e <;> exact wpDrawF_of hk os _ H0 D Ff F H hF h
      · rename_i hq
        refine .inr ⟨hq, ?_⟩
        rw [← frm_put]
        exact wpDrawF_of hk os _ H0 D Ff F H hF h
      · exact h.elim

/-- What is left, over lists, is left over frames. -/
def QF (Q : Exit → FL → AH → Prop) : Exit → Fr → AH → Prop := fun e s H => ∃ L, SubFr (frm L) s ∧ Q e L H

theorem SubFr.refl (s : Fr) : SubFr s s := fun _ _ h => h

theorem WeakF.of {J : FL → AH → Prop} {L : FL} {H : AH} (h : WeakF J L H) : Weak (fun s H => ∃ L, s = frm L ∧ J L H) (frm L) H :=
  let ⟨M, Hk, h1, h2, h3⟩ := h
  ⟨frm M, Hk, coversZ_sub M L h1, h2, M, rfl, h3⟩

theorem wpA_mono : ∀ (c : C) (lb : Option Nat) (Q Q' : Exit → Fr → AH → Prop) (s : Fr) (H : AH), (∀ e s H, Q e s H → Q' e s H) → wpA P c lb Q s H → wpA P c lb Q' s H := by
  have callA_mono : ∀ f args H (K K' : AV → AH → Prop), (∀ r H, K r H → K' r H) → callA P f args H K → callA P f args H K' := by
    rintro f args H K K' hk ⟨a', Hc, h1, h2, h3⟩
    refine ⟨a', Hc, h1, h2, ?_⟩
    rcases h3 with h3 | h3
    · exact .inl (h3.mono hk)
    · exact .inr (h3.mono fun r H q => ⟨q.1, hk _ _ q.2⟩)
  have ops : ∀ (os : List COp) (K K' : Fr → AH → Prop), (∀ s H, K s H → K' s H) → ∀ s H, wpOps P os K s H → wpOps P os K' s H := by
    intro os K K' hk
    have app : ∀ rs d s H (K K' : Fr → AH → Prop), (∀ s H, K s H → K' s H) → applyRs P rs d s H K → applyRs P rs d s H K' := by
      intro rs d s H K K' hk h
      cases rs with
      | val v => exact hk _ _ h
      | upd H' => exact hk _ _ h
      | valH v H' => exact hk _ _ h
      | fresh T blk vf H' => exact fun id hid ht => hk _ _ (h id hid ht)
      | call f args => exact callA_mono f args H _ _ (fun r H q => hk _ _ q) h
    induction os with
    | nil => exact fun s H h => hk _ _ h
    | cons o os ih =>
      intro s H h
      simp only [wpOps, OA_iff] at h ⊢
      split at h
      · rename_i hg
        obtain ⟨rs, h1, h2⟩ := h
        exact ⟨rs, h1, app rs _ s H _ _ ih h2⟩
      · rename_i g want hg
        rcases h with ⟨q, h1, h2, h3⟩ | ⟨h1, h3⟩
        · exact .inl ⟨q, h1, fun e => let ⟨rs, h4, h5⟩ := h2 e; ⟨rs, h4, app rs _ s H _ _ ih h5⟩, fun e => ih _ _ (h3 e)⟩
        · exact .inr ⟨h1, ih _ _ h3⟩
  have draw : ∀ (os : List COp) (K K' : Fr → AH → Prop), (∀ s H, K s H → K' s H) → ∀ s H0 D F H, wpDraw P os K s H0 D F H → wpDraw P os K' s H0 D F H := by
    intro os K K' hk
    have app : ∀ o s H0 D F H (k k' : Fr → AH → AH → AH → Prop), (∀ s D F H, k s D F H → k' s D F H) → drawSt P o s H0 D F H k → drawSt P o s H0 D F H k' := by
      intro o s H0 D F H k k' hk h
      rcases h with h | ⟨id, b, H', b', h1, h2, h3, h4⟩ | ⟨f, args, id, b, r, b', h1, h2, h3, h4⟩ | ⟨id, b, H', b', t, n, i, j, h1, h2, h3, h4, h5, h6⟩
      · refine .inl ?_
        simp only [OA_iff] at h ⊢
        obtain ⟨rs, h1, h2⟩ := h
        refine ⟨rs, h1, ?_⟩
        cases rs with
        | val v => exact hk _ _ _ _ h2
        | upd H' => exact h2
        | valH v H' => exact h2.elim
        | fresh T blk v H' => exact ⟨h2.1, fun id hid ht => hk _ _ _ _ (h2.2 id hid ht)⟩
        | call f args => obtain ⟨r, h1, h2⟩ := h2; exact ⟨r, h1, hk _ _ _ _ h2⟩
      · exact .inr (.inl ⟨id, b, H', b', h1, h2, h3, hk _ _ _ _ h4⟩)
      · exact .inr (.inr (.inl ⟨f, args, id, b, r, b', h1, h2, h3, hk _ _ _ _ h4⟩))
      · exact .inr (.inr (.inr ⟨id, b, H', b', t, n, i, j, h1, h2, h3, h4, h5, hk _ _ _ _ h6⟩))
    induction os with
    | nil => exact fun s H0 D F H h => hk _ _ h
    | cons o os ih =>
      intro s H0 D F H h
      simp only [wpDraw] at h ⊢
      split at h
      · exact app _ s H0 D F H _ _ (fun s D F H q => ih s H0 D F H q) h
      · rename_i g want hg
        rcases h with ⟨q, h1, h2, h3⟩ | ⟨h1, h3⟩
        · exact .inl ⟨q, h1, fun e => app _ s H0 D F H _ _ (fun s D F H q => ih s H0 D F H q) (h2 e), fun e => ih _ _ _ _ _ (h3 e)⟩
        · exact .inr ⟨h1, ih _ _ _ _ _ h3⟩
  have then_ : ∀ (K K' : Fr → AH → Prop) (Q Q' : Exit → Fr → AH → Prop), (∀ s H, K s H → K' s H) → (∀ e s H, Q e s H → Q' e s H) → ∀ e s H, thenA K Q e s H → thenA K' Q' e s H := by
    intro K K' Q Q' hk hq e s H h
    cases e with
    | normal => obtain ⟨s', H', h1, h2, h3⟩ := h; exact ⟨s', H', h1, h2, hk _ _ h3⟩
    | _ => exact hq _ _ _ h
  have block_ : ∀ id (Q Q' : Exit → Fr → AH → Prop), (∀ e s H, Q e s H → Q' e s H) → ∀ e s H, blockA id Q e s H → blockA id Q' e s H := by
    intro id Q Q' hq e s H h
    cases e with
    | exit id' => simp only [blockA] at h ⊢; split <;> rename_i e1 <;> simp only [e1, if_true, if_false] at h <;> exact hq _ _ _ h
    | _ => exact hq _ _ _ h
  have jump_ : ∀ l J (Q Q' : Exit → Fr → AH → Prop), (∀ e s H, Q e s H → Q' e s H) → ∀ e s H, jumpA l J Q e s H → jumpA l J Q' e s H := by
    intro l J Q Q' hq e s H h
    cases e with
    | goto l' => exact h
    | _ => exact hq _ _ _ h
  intro c
  induction c with
  | seq a b iha ihb =>
    intro lb Q Q' s H hq h
    cases lb with
    | none =>
      simp only [wpA] at h ⊢
      exact iha none _ _ s H (then_ _ _ _ _ (fun s H q => ihb none _ _ s H hq q) hq) h
    | some l =>
      simp only [wpA] at h ⊢
      split
      · rename_i e1; rw [if_pos e1] at h; exact iha _ _ _ s H (then_ _ _ _ _ (fun s H q => ihb none _ _ s H hq q) hq) h
      · rename_i e1; rw [if_neg e1] at h; exact ihb _ _ _ s H hq h
  | cond x a b iha ihb =>
    intro lb Q Q' s H hq h
    cases lb with
    | none => simp only [wpA] at h ⊢; obtain ⟨q, h1, h2, h3⟩ := h; exact ⟨q, h1, fun e => iha _ _ _ s H hq (h2 e), fun e => ihb _ _ _ s H hq (h3 e)⟩
    | some l => simp [wpA] at h
  | block id b ih =>
    intro lb Q Q' s H hq h
    cases lb with
    | none => simp only [wpA] at h ⊢; exact ih _ _ _ s H (block_ id _ _ hq) h
    | some l => simp [wpA] at h
  | loop b ih =>
    intro lb Q Q' s H hq h
    cases lb with
    | none =>
      simp only [wpA] at h ⊢
      obtain ⟨I, h1, h2⟩ := h
      exact ⟨I, h1, fun n s H hi => ih _ _ _ s H (then_ _ _ _ _ (fun _ _ q => q) hq) (h2 n s H hi)⟩
    | some l => simp [wpA] at h
  | scope b ih =>
    intro lb Q Q' s H hq h
    cases lb with
    | none =>
      simp only [wpA] at h ⊢
      obtain ⟨l, I, h1, h2⟩ := h
      exact ⟨l, I, ih _ _ _ s H (jump_ _ _ _ _ hq) h1, fun n s H hi => ih _ _ _ s H (jump_ _ _ _ _ hq) (h2 n s H hi)⟩
    | some l => simp [wpA] at h
  | reg os =>
    intro lb Q Q' s H hq h
    cases lb with
    | none => simp only [wpA] at h ⊢; exact ops os _ _ (fun s H q => hq _ _ _ q) s H h
    | some l => simp [wpA] at h
  | dreg pre post =>
    intro lb Q Q' s H hq h
    cases lb with
    | none => simp only [wpA] at h ⊢; obtain ⟨H0, D, h1, h2, h3, h4⟩ := h; exact ⟨H0, D, h1, h2, h3, draw pre _ _ (fun s H q => ops post _ _ (fun s H q => hq _ _ _ q) s H q) s H0 D [] H h4⟩
    | some l => simp [wpA] at h
  | label l' =>
    intro lb Q Q' s H hq h
    cases lb with
    | none => exact hq _ _ _ h
    | some l => exact ⟨h.1, hq _ _ _ h.2⟩
  | _ =>
    intro lb Q Q' s H hq h
    cases lb with
    | none => first | exact hq _ _ _ h | exact h.elim
    | some l => simp [wpA] at h

/-- What holds over lists holds over frames. 'R': a post over frames that does not ask for more than a list knows. -/
theorem wpF_of : ∀ (c : C) (lb : Option Nat) (Q : Exit → FL → AH → Prop) (Q' : Exit → Fr → AH → Prop) (L : FL) (H : AH), (∀ e L H, Q e L H → Q' e (frm L) H) → wpF P c lb Q L H → wpA P c lb Q' (frm L) H := by
  have then_ : ∀ (K : FL → AH → Prop) (K' : Fr → AH → Prop) (Q : Exit → FL → AH → Prop) (Q' : Exit → Fr → AH → Prop), (∀ L H, K L H → Weak K' (frm L) H) → (∀ e L H, Q e L H → Q' e (frm L) H) → ∀ e L H, thenF K Q e L H → thenA K' Q' e (frm L) H := by
    intro K K' Q Q' hk hq e L H h
    cases e with
    | normal => exact hk _ _ h
    | _ => exact hq _ _ _ h
  have block_ : ∀ id (Q : Exit → FL → AH → Prop) (Q' : Exit → Fr → AH → Prop), (∀ e L H, Q e L H → Q' e (frm L) H) → ∀ e L H, blockF id Q e L H → blockA id Q' e (frm L) H := by
    intro id Q Q' hq e L H h
    cases e with
    | exit id' =>
      simp only [blockF] at h
      simp only [blockA]
      split at h
      · rename_i e1; rw [if_pos (Nat.eq_of_beq_eq_true e1)]; exact hq _ _ _ h
      · rename_i e1; rw [if_neg (fun q => by rw [q, Nat.beq_refl] at e1; cases e1)]; exact hq _ _ _ h
    | _ => exact hq _ _ _ h
  have jump_ : ∀ l J J' (Q : Exit → FL → AH → Prop) (Q' : Exit → Fr → AH → Prop), (∀ L H, J L H → J' (frm L) H) → (∀ e L H, Q e L H → Q' e (frm L) H) → ∀ e L H, jumpF l J Q e L H → jumpA l J' Q' e (frm L) H := by
    intro l J J' Q Q' hj hq e L H h
    cases e with
    | goto l' => exact ⟨h.1, hj _ _ h.2⟩
    | _ => exact hq _ _ _ h
  have self : ∀ (K : Fr → AH → Prop) s H, K s H → Weak K s H := fun K s H h => ⟨s, H, (SubFr.refl s).fz, Sub.refl H, h⟩
  intro c
  induction c with
  | seq a b iha ihb =>
    intro lb Q Q' L H hq h
    cases lb with
    | none =>
      simp only [wpF_seq, fSeq] at h
      simp only [wpA]
      have plain : wpF P a none (thenF (wpF P b none Q) Q) L H → wpA P a none (thenA (wpA P b none Q') Q') (frm L) H :=
        iha none _ _ L H (then_ _ _ _ _ (fun L H q => self _ _ _ (ihb none _ _ L H hq q)) hq)
      split at h
      · rcases h with (h | ⟨J, h1, h2⟩) | ⟨M, Hk, h1, h2⟩
        · exact plain h
        · refine iha none _ _ L H (then_ _ _ _ _ (fun L' H' q => ?_) hq) h1
          obtain ⟨M, Hk, q1, q2, q3⟩ := q
          exact ⟨frm M, Hk, coversZ_sub M L' q1, q2, ihb none _ _ M Hk hq (h2 M Hk q3)⟩
        · exact iha none _ _ L H (then_ _ _ _ _ (fun L' H' q => ⟨frm M, Hk, coversZ_sub M L' q.1, q.2, ihb none _ _ M Hk hq h2⟩) hq) h1
      · exact plain h
    | some l =>
      simp only [wpF_seq, fSeq] at h
      simp only [wpA]
      split at h
      · rename_i e1; rw [if_pos e1]; exact iha _ _ _ L H (then_ _ _ _ _ (fun L H q => self _ _ _ (ihb none _ _ L H hq q)) hq) h
      · rename_i e1; rw [if_neg (by rw [e1]; simp)]; exact ihb _ _ _ L H hq h
  | cond x a b iha ihb =>
    intro lb Q Q' L H hq h
    cases lb with
    | none =>
      simp only [wpF_cond, fCond] at h
      simp only [wpA]
      obtain ⟨v, h1, h2⟩ := evX_of h
      cases v <;> try exact h2.elim
      rename_i q
      replace h2 := h2.out
      refine ⟨q, h1, fun e => ?_, fun e => ?_⟩
      · subst e; exact iha _ _ _ L H hq h2
      · subst e; exact ihb _ _ _ L H hq h2
    | some l => exact h.elim
  | block id b ih =>
    intro lb Q Q' L H hq h
    cases lb with
    | none => simp only [wpF_block, fBlock] at h; simp only [wpA]; exact ih _ _ _ L H (block_ id _ _ hq) h
    | some l => exact h.elim
  | loop b ih =>
    intro lb Q Q' L H hq h
    cases lb with
    | none =>
      simp only [wpF_loop, fLoop] at h
      simp only [wpA]
      obtain ⟨I, h1, h2⟩ := h
      refine ⟨fun n s H => ∃ L, s = frm L ∧ I n L H, ?_, fun n s H ⟨L, e, hi⟩ => ?_⟩
      · obtain ⟨s', H', q1, q2, L', e, n, q3⟩ := h1.of
        exact ⟨s', H', q1, q2, n, L', e, q3⟩
      · subst e
        refine ih _ _ _ L H (then_ _ _ _ _ (fun L' H' q => ?_) hq) (h2 n L H hi)
        obtain ⟨s', H2, q1, q2, L2, e, m, q3, q4⟩ := q.of
        exact ⟨s', H2, q1, q2, m, q3, L2, e, q4⟩
    | some l => exact h.elim
  | scope b ih =>
    intro lb Q Q' L H hq h
    cases lb with
    | none =>
      simp only [wpF_scope, fScope] at h
      simp only [wpA]
      obtain ⟨l, n0, I, h1, h2⟩ := h
      refine ⟨l, fun n s H => ∃ L, s = frm L ∧ I n L H, ?_, fun n s H ⟨L, e, hi⟩ => ?_⟩
      · refine ih _ _ _ L H (jump_ _ _ _ _ _ (fun L' H' q => ?_) hq) h1
        obtain ⟨s', H2, q1, q2, L2, e, m, _, q3⟩ := q.of
        exact ⟨s', H2, q1, q2, m, L2, e, q3⟩
      · subst e
        refine ih _ _ _ L H (jump_ _ _ _ _ _ (fun L' H' q => ?_) hq) (h2 n L H hi)
        obtain ⟨s', H2, q1, q2, L2, e, m, q3, q4⟩ := q.of
        exact ⟨s', H2, q1, q2, m, q3, L2, e, q4⟩
    | some l => exact h.elim
  | reg os =>
    intro lb Q Q' L H hq h
    cases lb with
    | none => rw [wpF_reg] at h; simp only [wpA]; exact wpOpsF_of (fun L H q => hq _ _ _ q) os L H h
    | some l => exact h.elim
  | dreg pre post =>
    intro lb Q Q' L H hq h
    cases lb with
    | none =>
      rw [wpF_dreg] at h
      simp only [wpA]
      obtain ⟨H0, D, h1, h2, h3, h4⟩ := h.out
      exact ⟨H0, D, h1, h2, h3, wpDrawF_of (fun L H q => wpOpsF_of (fun L H q => hq _ _ _ q) post L H q) pre L H0 D [] [] H ⟨fun t p q => by (cases q), fun id b q => by (cases q)⟩ h4⟩
    | some l => exact h.elim
  | label l' =>
    intro lb Q Q' L H hq h
    cases lb with
    | none => exact hq _ _ _ h
    | some l => exact ⟨h.1, hq _ _ _ h.2⟩
  | _ =>
    intro lb Q Q' L H hq h
    cases lb with
    | none => first | exact hq _ _ _ h | exact h.elim
    | some l => exact h.elim

end

/-! ### Results, over lists -/
def resF1 (L : FL) (H : AH) (r : CRes) (k : AV → Prop) : Prop :=
  match r with
  | .t n => match L.get n with
    | some v => k v
    | none => False
  | .cell n sz => match L.get n with
    | some (.ptr id z i j) => ∃ l r, hget H id = some (.rows z l) ∧ l[i]? = some r ∧ oA (partA (r.drop j) 0 sz) k
    | _ => False
  | .bad => False

def resFs (L : FL) (H : AH) : List CRes → (List AV → Prop) → Prop
  | [], k => k []
  | r :: rs, k => resF1 L H r fun v => resFs L H rs fun vs => k (v :: vs)

def endF (rs : List CRes) (K : AV → AH → Prop) : Exit → FL → AH → Prop
  | .normal, L, H => resFs L H rs fun vs => match vs with | [v] => K v H | vs => K (.tup vs) H
  | .ret, L, H => resFs L H rs fun vs => match vs with | [v] => K v H | vs => K (.tup vs) H
  | _, _, _ => False

theorem resFs_of {L : FL} {H : AH} : ∀ {rs : List CRes} {k : List AV → Prop}, resFs L H rs k → ∃ vs, resL (frm L) H rs = some vs ∧ k vs
  | [], k, h => ⟨[], rfl, h⟩
  | r :: rs, k, h => by
    have one : ∃ v, resOne (frm L) H r = some v ∧ resFs L H rs fun vs => k (v :: vs) := by
      simp only [resFs] at h
      cases r with
      | t n =>
        simp only [resF1] at h
        split at h
        · rename_i v hv; exact ⟨v, hv, h⟩
        · exact h.elim
      | cell n sz =>
        simp only [resF1] at h
        split at h
        · rename_i id z i j hv
          obtain ⟨l, r, h1, h2, h3⟩ := h
          obtain ⟨v, h4, h5⟩ := oA_of h3
          refine ⟨v, ?_, h5⟩
          have : frm L n = some (.ptr id z i j) := hv
          simp only [resOne, this, Option.bind_some, readA, h1, if_true, h2, Option.map_some, h4]
        · exact h.elim
      | bad => exact h.elim
    obtain ⟨v, h1, h2⟩ := one
    obtain ⟨vs, h3, h4⟩ := resFs_of h2
    exact ⟨v :: vs, by simp only [resL, h1, h3, Option.bind_some], h4⟩

theorem endF_of {rs : List CRes} {K : AV → AH → Prop} : ∀ e L H, endF rs K e L H → endA rs K e (frm L) H := by
  have fin : ∀ L H, (resFs L H rs fun vs => match vs with | [v] => K v H | vs => K (.tup vs) H) → OA (resA (frm L) H rs) fun r => K r H := by
    intro L H h
    obtain ⟨vs, h1, h2⟩ := resFs_of h
    rw [OA_iff]
    simp only [resA, h1, Option.bind_some]
    split
    · exact ⟨_, rfl, h2⟩
    · rename_i hne
      refine ⟨_, rfl, ?_⟩
      split at h2
      · rename_i v; exact absurd rfl (hne v)
      · exact h2
  intro e L H h
  cases e with
  | normal => exact fin L H h
  | ret => exact fin L H h
  | _ => exact h.elim

/-- A function's arguments, as a list. -/
def argsL : Nat → List AV → FL
  | _, [] => []
  | n, v :: vs => (n, some v) :: argsL (n + 1) vs

theorem argsL_get : ∀ (vs : List AV) (n t : Nat), (argsL n vs).get t = if n ≤ t then vs[t - n]? else none
  | [], n, t => by simp only [argsL]; rw [show FL.get [] t = none from rfl]; simp
  | v :: vs, n, t => by
    rw [argsL, FL.get_cons, argsL_get vs (n + 1) t]
    by_cases h1 : t = n
    · subst h1; simp
    · rw [if_neg h1]
      by_cases h2 : n ≤ t
      · rw [if_pos (by omega), if_pos h2, show t - n = (t - (n + 1)) + 1 from by omega]
        simp
      · rw [if_neg (by omega), if_neg h2]

theorem initFr_frm (vs : List AV) : initFr vs = frm (argsL 0 vs) := by
  funext t
  simp [initFr, frm, argsL_get]

theorem wpF_start {P : Program} {c : C} {rs : List CRes} {K : AV → AH → Prop} {args : List AV} {H : AH} (h : wpF P c none (endF rs K) (argsL 0 args) H) : wpA P c none (endA rs K) (initFr args) H := by
  rw [initFr_frm]
  exact wpF_of c none _ _ _ H endF_of h

end Go.Proofs.YtlabklehgfdibaaDoor

/- A nil slice is, where nobody asks, an empty one. -/
namespace Go.Proofs.YtlabklehgfdibaaDoor
set_option autoImplicit false
set_option linter.unusedSimpArgs false
set_option linter.unusedVariables false

/-- The same, with empty slices in the place of nil ones. -/
inductive Nw : AV → AV → Prop
  | refl (v : AV) : Nw v v
  | nil (sz : Nat) : Nw .nilS (.rows sz [])
  | agg (cs cs' : List AV) (hl : cs.length = cs'.length) (h : ∀ (i : Nat) v v', cs[i]? = some v → cs'[i]? = some v' → Nw v v') : Nw (.agg cs) (.agg cs')
  | rows (sz : Nat) (l l' : List (List AV)) (hl : l.length = l'.length) (hw : ∀ (i : Nat) r r', l[i]? = some r → l'[i]? = some r' → r.length = r'.length)
      (h : ∀ (i : Nat) r r' (j : Nat) v v', l[i]? = some r → l'[i]? = some r' → r[j]? = some v → r'[j]? = some v' → Nw v v') : Nw (.rows sz l) (.rows sz l')
  | fp (cs cs' : List AV) (hl : cs.length = cs'.length) (h : ∀ (i : Nat) v v', cs[i]? = some v → cs'[i]? = some v' → Nw v v') : Nw (.fp cs) (.fp cs')

theorem Nw.cell {v v' : AV} (h : Nw v v') : v'.isCell = v.isCell := by cases h <;> rfl

theorem Nw.rl {v v' : AV} (hn : Nw v v') : ∀ {h : Array Obj} {ρ : Loc} {Z : Nat → Prop} {x : Value}, Rl h ρ Z v x → Rl h ρ Z v' x := by
  induction hn with
  | refl v => exact fun h => h
  | nil sz => intro h ρ Z x hr; cases hr; exact .rowsN sz
  | agg cs cs' hl hp ih =>
    intro h ρ Z x hr
    cases hr with
    | agg _ vs h1 h2 h3 =>
      refine .agg cs' vs (by omega) (fun i v q => ?_) (fun i v y q1 q2 => ?_)
      · obtain ⟨a, ha⟩ := get_same hl q
        rw [(hp i a v ha q).cell]; exact h2 i a ha
      · obtain ⟨a, ha⟩ := get_same hl q1
        exact ih i a v ha q1 (h3 i a y ha q2)
  | rows sz l l' hl hw hp ih =>
    intro h ρ Z x hr
    cases hr with
    | rows _ _ b o n c f hn hnc hz hw2 hcc hm hr =>
      refine .rows sz l' b o n c f (by omega) hnc hz (fun i r q => ?_) (fun i r j v q1 q2 => ?_) (fun i r j v q1 q2 => ?_) (fun i r j v q1 q2 => ?_)
      · obtain ⟨a, ha⟩ := get_same hl q
        rw [← hw i a r ha q]; exact hw2 i a ha
      · obtain ⟨a, ha⟩ := get_same hl q1
        obtain ⟨u, hu⟩ := get_same (hw i a r ha q1) q2
        rw [(hp i a r j u v ha q1 hu q2).cell]; exact hcc i a j u ha hu
      · obtain ⟨a, ha⟩ := get_same hl q1
        obtain ⟨u, hu⟩ := get_same (hw i a r ha q1) q2
        exact hm i a j u ha hu
      · obtain ⟨a, ha⟩ := get_same hl q1
        obtain ⟨u, hu⟩ := get_same (hw i a r ha q1) q2
        exact ih i a r j u v ha q1 hu q2 (hr i a j u ha hu)
    | rowsN _ =>
      have : l' = [] := List.eq_nil_of_length_eq_zero hl.symm
      subst this; exact .rowsN sz
    | rowsE _ a c =>
      have : l' = [] := List.eq_nil_of_length_eq_zero hl.symm
      subst this; exact .rowsE sz a c
  | fp cs cs' hl hp ih =>
    intro h ρ Z x hr
    cases hr with
    | fp _ b o f hz hcc hm hr =>
      refine .fp cs' b o f (fun q => hz (by omega)) (fun i v q => ?_) (fun i v q => ?_) (fun i v q => ?_)
      · obtain ⟨a, ha⟩ := get_same hl q
        rw [(hp i a v ha q).cell]; exact hcc i a ha
      · obtain ⟨a, ha⟩ := get_same hl q
        exact hm i a ha
      · obtain ⟨a, ha⟩ := get_same hl q
        exact ih i a v ha q (hr i a ha)

theorem hset_tail {id j : Nat} {b c : Blk} {H : AH} (h : j ≠ id) : hset ((j, b) :: H) id c = (j, b) :: hset H id c := by simp only [hset]; rw [if_neg (fun e => h e.symm)]
/-- .. of lists. -/
def NwL (l l' : List AV) : Prop := l.length = l'.length ∧ ∀ (i : Nat) v v', l[i]? = some v → l'[i]? = some v' → Nw v v'
theorem NwL.refl (l : List AV) : NwL l l := ⟨rfl, fun i v v' h1 h2 => by rw [h1] at h2; cases h2; exact .refl _⟩
theorem NwL.cons {v v' : AV} {l l' : List AV} (h : Nw v v') (hs : NwL l l') : NwL (v :: l) (v' :: l') := by
  refine ⟨by simp [hs.1], fun i a b h1 h2 => ?_⟩
  cases i with
  | zero => simp at h1 h2; rw [← h1, ← h2]; exact h
  | succ i => exact hs.2 i a b (by simpa using h1) (by simpa using h2)
theorem NwL.append {a a' b b' : List AV} (h1 : NwL a a') (h2 : NwL b b') : NwL (a ++ b) (a' ++ b') := by
  refine ⟨by simp [h1.1, h2.1], fun i v v' q1 q2 => ?_⟩
  rw [List.getElem?_append] at q1 q2
  rw [← h1.1] at q2
  split at q1 <;> rename_i hlt
  · rw [if_pos hlt] at q2; exact h1.2 i v v' q1 q2
  · rw [if_neg hlt] at q2; exact h2.2 _ v v' q1 q2

theorem ACalls.nw {P : Program} {f : Nat} {args args' : List AV} {H : AH} {K : AV → AH → Prop} (h : ACalls P f args' H K) (hn : NwL args args') : ACalls P f args H K :=
  h.args fun h ρ Z xs hr => ⟨by rw [← hn.1]; exact hr.1, fun i v x q1 q2 => by
    obtain ⟨a, ha⟩ := get_same hn.1 q1
    exact (hn.2 i a v ha q1).rl (hr.2 i a x ha q2)⟩

/-- What the cells are, with empty slices in the place of nil ones. -/
def Sh.OkN : Sh → List AV → Prop
  | .int k, vs => ∃ n, vs = [.int k n] ∧ (Lit.int k n).wf = true
  | .bool, vs => ∃ b, vs = [.bool b]
  | .str, vs => ∃ l : List UInt8, vs = [.str l] ∧ l.length ≤ 140737488351232
  | .u, vs => vs = []
  | .p a b, vs => ∃ x y, vs = x ++ y ∧ a.OkN x ∧ b.OkN y
  | .slice sz bytes e, vs => ∃ l, vs = [.rows sz l] ∧ l.length * bytes ≤ 140737488351232 ∧ ∀ r ∈ l, e.OkN r
  | .ptr e, vs => vs = [.nilP] ∨ ∃ r, vs = [.fp r] ∧ e.OkN r
  | .no, _ => False

theorem Sh.Ok.nonil : ∀ {sh : Sh} {vs : List AV}, sh.Ok vs → ∃ vs', NwL vs vs' ∧ sh.OkN vs'
  | .int k, vs, h => ⟨vs, .refl _, h⟩
  | .bool, vs, h => ⟨vs, .refl _, h⟩
  | .str, vs, h => ⟨vs, .refl _, h⟩
  | .u, vs, h => ⟨vs, .refl _, h⟩
  | .p a b, vs, h => by
    obtain ⟨x, y, rfl, h1, h2⟩ := h
    obtain ⟨x', q1, q2⟩ := Sh.Ok.nonil (sh := a) h1
    obtain ⟨y', q3, q4⟩ := Sh.Ok.nonil (sh := b) h2
    exact ⟨x' ++ y', q1.append q3, x', y', rfl, q2, q4⟩
  | .slice sz bytes e, vs, h => by
    rcases h with rfl | ⟨l, rfl, hb, he⟩
    · exact ⟨[.rows sz []], .cons (.nil sz) (.refl _), [], rfl, by simp, by simp⟩
    · obtain ⟨l', q1, q2⟩ := exists_list l.length (Q := fun i r' => ∃ r, l[i]? = some r ∧ NwL r r' ∧ e.OkN r') (fun i hi => by
        obtain ⟨r', a1, a2⟩ := Sh.Ok.nonil (sh := e) (he _ (List.getElem_mem hi))
        exact ⟨r', _, List.getElem?_eq_getElem hi, a1, a2⟩)
      refine ⟨[.rows sz l'], .cons (.rows sz l l' q1.symm (fun i r r' a1 a2 => ?_) (fun i r r' j v v' a1 a2 a3 a4 => ?_)) (.refl _), l', rfl, by rw [q1]; exact hb, fun r' hr => ?_⟩
      · obtain ⟨r0, b1, b2, _⟩ := q2 i r' a2
        rw [a1] at b1; cases b1; exact b2.1
      · obtain ⟨r0, b1, b2, _⟩ := q2 i r' a2
        rw [a1] at b1; cases b1; exact b2.2 j v v' a3 a4
      · obtain ⟨i, hi⟩ := List.getElem?_of_mem hr
        obtain ⟨_, _, _, b3⟩ := q2 i r' hi
        exact b3
  | .no, vs, h => h.elim
  | .ptr e, vs, h => by
    rcases h with rfl | ⟨r, rfl, he⟩
    · exact ⟨_, .refl _, .inl rfl⟩
    · obtain ⟨r', q1, q2⟩ := Sh.Ok.nonil (sh := e) he
      exact ⟨[.fp r'], .cons (.fp r r' q1.1 q1.2) (.refl _), .inr ⟨r', rfl, q2⟩⟩

def ArgOkN (agg : Bool) (sh : Sh) (av : AV) : Prop :=
  match agg with
  | true => ∃ vs, av = .agg vs ∧ sh.OkN vs
  | false => sh.OkN [av]
theorem ArgOk.nonil {agg : Bool} {sh : Sh} {av : AV} (h : ArgOk agg sh av) : ∃ av', ArgOkN agg sh av' ∧ Nw av av' := by
  cases agg with
  | true =>
    obtain ⟨vs, rfl, h⟩ := h
    obtain ⟨vs', q1, q2⟩ := h.nonil
    exact ⟨.agg vs', ⟨vs', rfl, q2⟩, .agg vs vs' q1.1 q1.2⟩
  | false =>
    obtain ⟨vs', q1, q2⟩ := Sh.Ok.nonil (sh := sh) h
    match vs', q1, q2 with
    | [v'], q1, q2 => exact ⟨v', q2, q1.2 0 av v' rfl rfl⟩
    | [], q1, _ => have := q1.1; simp at this
    | _ :: _ :: _, q1, _ => have := q1.1; simp at this

theorem tdiv_nn {a b : Int} (h1 : 0 ≤ a) (h2 : 0 < b) : a.tdiv b = a / b ∧ 0 ≤ a / b ∧ a / b ≤ a := by
  refine ⟨Int.tdiv_eq_ediv_of_nonneg h1, Int.ediv_nonneg h1 (by omega), Int.ediv_le_self _ h1⟩
theorem tmod_nn {a b : Int} (h1 : 0 ≤ a) (h2 : 0 < b) : a.tmod b = a % b ∧ 0 ≤ a % b ∧ a % b < b := 
  ⟨Int.tmod_eq_emod_of_nonneg h1, Int.emod_nonneg _ (by omega), Int.emod_lt_of_pos _ h2⟩
theorem rng_quo_u64 {a b : Int} {k : Int → Prop} (h1 : 0 ≤ a) (h2 : a ≤ 18446744073709551615) (h3 : 0 < b) (h : k (a / b)) : rng (IntKind.wrap .u64 (a.tdiv b)) k := by
  obtain ⟨e, e1, e2⟩ := tdiv_nn h1 h3
  rw [e]; exact rng_u64 e1 (by omega) h
theorem rng_quo_i64 {a b : Int} {k : Int → Prop} (h1 : 0 ≤ a) (h2 : a ≤ 9223372036854775807) (h3 : 0 < b) (h : k (a / b)) : rng (IntKind.wrap .i64 (a.tdiv b)) k := by
  obtain ⟨e, e1, e2⟩ := tdiv_nn h1 h3
  rw [e]; exact rng_i64 (by omega) (by omega) h
theorem rng_rem_u64 {a b : Int} {k : Int → Prop} (h1 : 0 ≤ a) (h2 : b ≤ 18446744073709551615) (h3 : 0 < b) (h : k (a % b)) : rng (IntKind.wrap .u64 (a.tmod b)) k := by
  obtain ⟨e, e1, e2⟩ := tmod_nn h1 h3
  rw [e]; exact rng_u64 e1 (by omega) h
theorem rng_rem_i64 {a b : Int} {k : Int → Prop} (h1 : 0 ≤ a) (h2 : b ≤ 9223372036854775807) (h3 : 0 < b) (h : k (a % b)) : rng (IntKind.wrap .i64 (a.tmod b)) k := by
  obtain ⟨e, e1, e2⟩ := tmod_nn h1 h3
  rw [e]; exact rng_i64 (by omega) (by omega) h

/-- What is owned by others stays as it is. -/
theorem ACalls.frame {P : Program} {f : Nat} {args : List AV} {K : AV → Prop} (h : ACalls P f args [] fun r _ => K r) (H : AH) : ACalls P f args H fun r H' => K r ∧ H' = H := by
  refine ⟨h.1, fun w ρ Z xs hg hr => (h.2 w ρ Z xs (hg.forget fun _ _ q => by cases q) hr).mono fun e w' ⟨x, r, H', ρ', Z', a, g, c, d, k⟩ => ?_⟩
  obtain ⟨q1, q2⟩ := hg.frame (fun _ _ q => by cases q) d g (HS' := H) fun id b q => .inr ⟨q, rfl⟩
  exact ⟨x, r, H, ρ', Z', a, q1, c, q2, k, rfl⟩
end Go.Proofs.YtlabklehgfdibaaDoor
