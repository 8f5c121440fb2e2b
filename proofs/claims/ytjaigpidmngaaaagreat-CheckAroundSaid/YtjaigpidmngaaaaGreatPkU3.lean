/- Texts of this proof, one behind the other: CodeE, CodeT, CodeP, ListMath, TokMath, TypMath, PathMath, SimShape, SimRow, SimLib, SimFast, SimFast2, SimNil. -/
import Derived.Test.YtjaigpidmngaaaaGreatPkU2
import Derived.KernelRfl
import Derived.Lib.Bytealg
import Derived.ChangeArms
import Derived.OpenShut
import Derived.SizedLaws
import Derived.DataReads
import Derived.Below
import Derived.Carry
import Derived.WalkKit
import Derived.ProofKit
import Derived.ShutString
import Derived.ChangeOld
set_option autoImplicit false
set_option linter.unusedSimpArgs false
set_option linter.unusedVariables false
namespace Go.Proofs.YtjaigpidmngaaaaGreat
set_option maxRecDepth 100000
def broadsheetref15_Great.n : Nat := 12
noncomputable def broadsheetref15_Great.c : C := (.seq (.reg [oo_ 2 (.box 26 (.t 0)), oo_ 4 (.mv (.c (.bool false)))]) (.seq (.seq (.reg [om_ 8 1, oo_ 9 (.bin .gtr (.t 8) (.c (.int .i64 40))), om_ 10 9, og_ 11 10 false (.faddr 3 (.t 2)), og_ 12 10 false (.load none (.t 11)), og_ 13 10 false (.len false (.t 12)), og_ 14 10 false (.bin .gtr (.t 13) (.c (.int .i64 100))), oo_ 15 (.pick (.t 10) (.c (.bool true)) (.t 14)), om_ 16 15, og_ 17 16 false (.faddr 2 (.t 2)), og_ 18 16 false (.load none (.t 17)), og_ 19 16 false (.len false (.t 18)), og_ 20 16 false (.bin .gtr (.t 19) (.c (.int .i64 100))), oo_ 21 (.pick (.t 16) (.c (.bool true)) (.t 20))]) (.cond (.t 21) (.seq (.reg [oo_ 4 (.mv (.c (.bool true)))]) .ret) .skip)) (.seq (.reg [oo_ 5 (.mv (.c (.int .i64 0)))]) (.seq (.seq (.reg [oo_ 6 (.mv (.c (.int .i64 0)))]) (.block 0 (.loop (.seq (.seq (.reg [om_ 22 6, of_ 23 2 2, ol_ 24 23, oo_ 25 (.len false (.t 24)), oo_ 26 (.bin .lss (.t 22) (.t 25))]) (.cond (.t 26) .skip (.exit 0))) (.seq (.block 1 (.reg [om_ 29 5, of_ 30 2 2, ol_ 31 30, om_ 32 6, oo_ 33 (.iaddr 4 (.t 31) (.t 32)), of_ 34 1 33, ol_ 35 34, oo_ 36 (.len true (.t 35)), oo_ 37 (.bin .add (.t 29) (.t 36)), oo_ 38 (.mm false [(.t 37), (.c (.int .i64 100000))]), om_ 5 38])) (.reg [om_ 27 6, oo_ 28 (.bin .add (.t 27) (.c (.int .i64 1))), om_ 6 28])))))) (.seq (.seq (.reg [oo_ 7 (.mv (.c (.int .i64 0)))]) (.block 2 (.loop (.seq (.seq (.reg [om_ 39 7, of_ 40 3 2, ol_ 41 40, oo_ 42 (.len false (.t 41)), oo_ 43 (.bin .lss (.t 39) (.t 42))]) (.cond (.t 43) .skip (.exit 2))) (.seq (.block 3 (.seq (.seq (.reg [of_ 46 3 2, ol_ 47 46, om_ 48 7, oo_ 49 (.iaddr 4 (.t 47) (.t 48)), oo_ 50 (.load (some 4) (.t 49)), om_ 51 1, oo_ 52 (.bin .add (.t 51) (.c (.int .i64 1))), oo_ 53 (.call 12 [(.t 50), (.t 52)])]) (.cond (.t 53) (.seq (.reg [oo_ 4 (.mv (.c (.bool true)))]) .ret) .skip)) (.reg [om_ 54 5, of_ 55 3 2, ol_ 56 55, om_ 57 7, oo_ 58 (.iaddr 4 (.t 56) (.t 57)), oo_ 59 (.load (some 4) (.t 58)), oo_ 60 (.call 35 [(.t 59)]), oo_ 61 (.bin .add (.t 54) (.t 60)), oo_ 62 (.mm false [(.t 61), (.c (.int .i64 100000))]), om_ 5 62]))) (.reg [om_ 44 7, oo_ 45 (.bin .add (.t 44) (.c (.int .i64 1))), om_ 7 45])))))) (.seq (.reg [om_ 63 5, oo_ 64 (.bin .gtr (.t 63) (.c (.int .i64 3000))), om_ 4 64]) .ret))))))
theorem broadsheetref15_Great.code : comp PG [] (Tryz.f12.body.getD .skip) = broadsheetref15_Great.c := by kernel_rfl
theorem broadsheetref15_Great.of : OfE PG 12 2 broadsheetref15_Great.c [(.t 4)] := fnE (nt := 65) mixed Tryz.func12 broadsheetref15_Great.code (by kernel_rfl) (by kernel_rfl) (by kernel_rfl) (by kernel_rfl) (by kernel_rfl) (by kernel_rfl)
def broadsheetref15_Same.n : Nat := 20
noncomputable def broadsheetref15_Same.c : C := (.seq (.reg [oo_ 2 (.box 26 (.t 0)), oo_ 3 (.box 26 (.t 1)), oo_ 4 (.mv (.c (.bool false)))]) (.seq (.seq (.reg [of_ 7 0 2, ol_ 8 7, of_ 9 0 3, ol_ 10 9, oo_ 11 (.bin .neq (.t 8) (.t 10)), om_ 12 11, og_ 13 12 false (.faddr 1 (.t 2)), og_ 14 12 false (.load none (.t 13)), og_ 15 12 false (.faddr 1 (.t 3)), og_ 16 12 false (.load none (.t 15)), og_ 17 12 false (.bin .neq (.t 14) (.t 16)), oo_ 18 (.pick (.t 12) (.c (.bool true)) (.t 17)), om_ 19 18, og_ 20 19 false (.faddr 2 (.t 2)), og_ 21 19 false (.load none (.t 20)), og_ 22 19 false (.len false (.t 21)), og_ 23 19 false (.faddr 2 (.t 3)), og_ 24 19 false (.load none (.t 23)), og_ 25 19 false (.len false (.t 24)), og_ 26 19 false (.bin .neq (.t 22) (.t 25)), oo_ 27 (.pick (.t 19) (.c (.bool true)) (.t 26)), om_ 28 27, og_ 29 28 false (.faddr 3 (.t 2)), og_ 30 28 false (.load none (.t 29)), og_ 31 28 false (.len false (.t 30)), og_ 32 28 false (.faddr 3 (.t 3)), og_ 33 28 false (.load none (.t 32)), og_ 34 28 false (.len false (.t 33)), og_ 35 28 false (.bin .neq (.t 31) (.t 34)), oo_ 36 (.pick (.t 28) (.c (.bool true)) (.t 35))]) (.cond (.t 36) (.seq (.reg [oo_ 4 (.mv (.c (.bool false)))]) .ret) .skip)) (.seq (.seq (.reg [oo_ 5 (.mv (.c (.int .i64 0)))]) (.block 0 (.loop (.seq (.seq (.reg [om_ 37 5, of_ 38 2 2, ol_ 39 38, oo_ 40 (.len false (.t 39)), oo_ 41 (.bin .lss (.t 37) (.t 40))]) (.cond (.t 41) .skip (.exit 0))) (.seq (.block 1 (.seq (.dreg [of_ 44 2 2, ol_ 45 44, om_ 46 5, oo_ 47 (.iaddr 4 (.t 45) (.t 46)), oo_ 48 (.load (some 4) (.t 47)), of_ 49 2 3, ol_ 50 49, om_ 51 5, oo_ 52 (.iaddr 4 (.t 50) (.t 51)), oo_ 53 (.load (some 4) (.t 52))] [oo_ 54 (.aeq true [(.i .i64), .s, .b, (.i .u64)] (.t 48) (.t 53))]) (.cond (.t 54) (.seq (.reg [oo_ 4 (.mv (.c (.bool false)))]) .ret) .skip))) (.reg [om_ 42 5, oo_ 43 (.bin .add (.t 42) (.c (.int .i64 1))), om_ 5 43])))))) (.seq (.seq (.reg [oo_ 6 (.mv (.c (.int .i64 0)))]) (.block 2 (.loop (.seq (.seq (.reg [om_ 55 6, of_ 56 3 2, ol_ 57 56, oo_ 58 (.len false (.t 57)), oo_ 59 (.bin .lss (.t 55) (.t 58))]) (.cond (.t 59) .skip (.exit 2))) (.seq (.block 3 (.seq (.dreg [of_ 62 3 2, ol_ 63 62, om_ 64 6, oo_ 65 (.iaddr 4 (.t 63) (.t 64)), oo_ 66 (.load (some 4) (.t 65)), of_ 67 3 3, ol_ 68 67, om_ 69 6, oo_ 70 (.iaddr 4 (.t 68) (.t 69)), oo_ 71 (.load (some 4) (.t 70))] [oo_ 72 (.call 20 [(.t 66), (.t 71)]), oo_ 73 (.un .not (.t 72))]) (.cond (.t 73) (.seq (.reg [oo_ 4 (.mv (.c (.bool false)))]) .ret) .skip))) (.reg [om_ 60 6, oo_ 61 (.bin .add (.t 60) (.c (.int .i64 1))), om_ 6 61])))))) (.seq (.reg [oo_ 4 (.mv (.c (.bool true)))]) .ret)))))
theorem broadsheetref15_Same.code : comp PG [] (Tryz.f20.body.getD .skip) = broadsheetref15_Same.c := by kernel_rfl
theorem broadsheetref15_Same.of : OfE PG 20 2 broadsheetref15_Same.c [(.t 4)] := fnE (nt := 74) mixed Tryz.func20 broadsheetref15_Same.code (by kernel_rfl) (by kernel_rfl) (by kernel_rfl) (by kernel_rfl) (by kernel_rfl) (by kernel_rfl)
def broadsheetref15_Size.n : Nat := 35
noncomputable def broadsheetref15_Size.c : C := (.seq (.reg [oo_ 1 (.box 26 (.t 0)), oo_ 2 (.mv (.c (.int .i64 0)))]) (.seq (.reg [of_ 5 2 1, ol_ 6 5, oo_ 7 (.len false (.t 6)), oo_ 8 (.bin .add (.c (.int .i64 1)) (.t 7)), om_ 3 8]) (.seq (.seq (.reg [oo_ 4 (.mv (.c (.int .i64 0)))]) (.block 0 (.loop (.seq (.seq (.reg [om_ 9 4, of_ 10 3 1, ol_ 11 10, oo_ 12 (.len false (.t 11)), oo_ 13 (.bin .lss (.t 9) (.t 12))]) (.cond (.t 13) .skip (.exit 0))) (.seq (.block 1 (.reg [om_ 16 3, of_ 17 3 1, ol_ 18 17, om_ 19 4, oo_ 20 (.iaddr 4 (.t 18) (.t 19)), oo_ 21 (.load (some 4) (.t 20)), oo_ 22 (.call 35 [(.t 21)]), oo_ 23 (.bin .add (.t 16) (.t 22)), om_ 3 23])) (.reg [om_ 14 4, oo_ 15 (.bin .add (.t 14) (.c (.int .i64 1))), om_ 4 15])))))) (.seq (.reg [om_ 24 3, om_ 2 24]) .ret))))
theorem broadsheetref15_Size.code : comp PG [] (Tryz.f35.body.getD .skip) = broadsheetref15_Size.c := by kernel_rfl
theorem broadsheetref15_Size.of : OfE PG 35 1 broadsheetref15_Size.c [(.t 2)] := fnE (nt := 25) mixed Tryz.func35 broadsheetref15_Size.code (by kernel_rfl) (by kernel_rfl) (by kernel_rfl) (by kernel_rfl) (by kernel_rfl) (by kernel_rfl)
def expr_Parse.n : Nat := 36
noncomputable def expr_Parse.c : C := (.seq (.reg [oo_ 2 (.allc 26 [(.int .i64 0), (.int .i64 0), .nilS, .nilS]), oo_ 3 (.allc 72 [(.int .i64 0), (.int .i64 0)])]) (.seq (.reg [om_ 9 0, oo_ 10 (.call 61 [(.t 9)]), om_ 8 10, oo_ 11 (.extr (.t 8) 0), oo_ 12 (.extr (.t 8) 1), oo_ 5 (.allc 72 [(.int .i64 0), (.int .i64 0)]), om_ 4 11, os_ (.store 2 (.t 5) (.t 12))]) (.seq (.seq (.reg [of_ 13 0 5, ol_ 14 13, oo_ 15 (.bin .neq (.t 14) (.c (.int .i64 0)))]) (.cond (.t 15) (.seq (.dreg [oo_ 16 (.build [(.int .i64 0), (.int .i64 0), .nilS, .nilS] []), oo_ 17 (.load (some 2) (.t 5)), os_ (.store 4 (.t 2) (.t 16))] [os_ (.store 2 (.t 3) (.t 17))]) .ret) .skip)) (.seq (.reg [om_ 18 4, oo_ 19 (.build [.nilS, (.int .i64 0), (.int .i64 0), (.int .i64 0), (.int .i64 0)] [(0, (1, (.t 18)))]), oo_ 20 (.box 108 (.t 19)), om_ 6 20]) (.seq (.reg [om_ 21 6, oo_ 22 (.call 62 [(.t 21)]), oo_ 7 (.allc 26 [(.int .i64 0), (.int .i64 0), .nilS, .nilS]), os_ (.store 4 (.t 7) (.t 22))]) (.seq (.seq (.reg [om_ 23 6, oo_ 24 (.call 63 [(.t 23)]), oo_ 25 (.un .not (.t 24)), om_ 26 25, og_ 27 26 true (.mv (.t 6)), og_ 28 26 true (.call 64 [(.t 27)]), og_ 29 26 true (.field 0 none (.t 28)), og_ 30 26 true (.bin .neq (.t 29) (.c (.int .i64 6))), oo_ 31 (.pick (.t 26) (.t 30) (.c (.bool false)))]) (.cond (.t 31) (.reg [om_ 32 6, oo_ 33 (.call 65 [(.t 32), (.c (.int .i64 11))])]) .skip)) (.seq (.seq (.reg [om_ 34 6, oo_ 35 (.call 63 [(.t 34)])]) (.cond (.t 35) (.seq (.dreg [oo_ 36 (.build [(.int .i64 0), (.int .i64 0), .nilS, .nilS] []), om_ 37 6, oo_ 38 (.nilck (.t 37)), of_ 39 3 38, oo_ 40 (.load (some 2) (.t 39)), os_ (.store 4 (.t 2) (.t 36))] [os_ (.store 2 (.t 3) (.t 40))]) .ret) .skip)) (.seq (.reg [oo_ 41 (.load (some 4) (.t 7)), oo_ 42 (.build [(.int .i64 0), (.int .i64 0)] []), os_ (.store 4 (.t 2) (.t 41)), os_ (.store 2 (.t 3) (.t 42))]) .ret))))))))
theorem expr_Parse.code : comp PG [] (Tryz.f36.body.getD .skip) = expr_Parse.c := by kernel_rfl
theorem expr_Parse.of : OfE PG 36 1 expr_Parse.c [(.cell 2 (some 4)), (.cell 3 (some 2))] := fnE (nt := 43) mixed Tryz.func36 expr_Parse.code (by kernel_rfl) (by kernel_rfl) (by kernel_rfl) (by kernel_rfl) (by kernel_rfl) (by kernel_rfl)
def expr_parser_or.n : Nat := 62
noncomputable def expr_parser_or.c : C := (.seq (.reg [oo_ 2 (.allc 26 [(.int .i64 0), (.int .i64 0), .nilS, .nilS])]) (.seq (.reg [om_ 3 0, om_ 4 0, oo_ 5 (.mkfn 117 [(.t 4)] []), oo_ 6 (.call 116 [(.t 3), (.c (.int .i64 6)), (.c (.str [79, 82])), (.t 5)]), os_ (.store 4 (.t 2) (.t 6))]) .ret))
theorem expr_parser_or.code : comp PG [] (Tryz.f62.body.getD .skip) = expr_parser_or.c := by kernel_rfl
theorem expr_parser_or.of : OfE PG 62 1 expr_parser_or.c [(.cell 2 (some 4))] := fnE (nt := 7) mixed Tryz.func62 expr_parser_or.code (by kernel_rfl) (by kernel_rfl) (by kernel_rfl) (by kernel_rfl) (by kernel_rfl) (by kernel_rfl)
def expr_parser_bad.n : Nat := 63
noncomputable def expr_parser_bad.c : C := (.seq (.reg [oo_ 2 (.mv (.c (.bool false)))]) (.seq (.reg [om_ 3 0, oo_ 4 (.nilck (.t 3)), of_ 5 3 4, of_ 6 0 5, ol_ 7 6, oo_ 8 (.bin .neq (.t 7) (.c (.int .i64 0))), om_ 2 8]) .ret))
theorem expr_parser_bad.code : comp PG [] (Tryz.f63.body.getD .skip) = expr_parser_bad.c := by kernel_rfl
theorem expr_parser_bad.of : OfE PG 63 1 expr_parser_bad.c [(.t 2)] := fnE (nt := 9) mixed Tryz.func63 expr_parser_bad.code (by kernel_rfl) (by kernel_rfl) (by kernel_rfl) (by kernel_rfl) (by kernel_rfl) (by kernel_rfl)
def expr_parser_now.n : Nat := 64
noncomputable def expr_parser_now.c : C := (.seq (.reg [oo_ 2 (.allc 111 [(.int .i64 0), (.str []), (.int .u64 0), (.int .i64 0)])]) (.seq (.dreg [om_ 3 0, oo_ 4 (.nilck (.t 3)), of_ 5 0 4, ol_ 6 5, om_ 7 0, oo_ 8 (.nilck (.t 7)), of_ 9 1 8, ol_ 10 9] [oo_ 11 (.iaddr 4 (.t 6) (.t 10)), oo_ 12 (.load (some 4) (.t 11)), os_ (.store 4 (.t 2) (.t 12))]) .ret))
theorem expr_parser_now.code : comp PG [] (Tryz.f64.body.getD .skip) = expr_parser_now.c := by kernel_rfl
theorem expr_parser_now.of : OfE PG 64 1 expr_parser_now.c [(.cell 2 (some 4))] := fnE (nt := 13) mixed Tryz.func64 expr_parser_now.code (by kernel_rfl) (by kernel_rfl) (by kernel_rfl) (by kernel_rfl) (by kernel_rfl) (by kernel_rfl)
def expr_parser_fail.n : Nat := 65
noncomputable def expr_parser_fail.c : C := (.seq (.reg [om_ 4 0, oo_ 5 (.nilck (.t 4)), of_ 6 3 5, of_ 7 0 6, ol_ 8 7, oo_ 9 (.bin .eql (.t 8) (.c (.int .i64 0)))]) (.cond (.t 9) (.reg [om_ 10 0, om_ 11 1, om_ 12 0, oo_ 13 (.call 64 [(.t 12)]), oo_ 14 (.field 3 none (.t 13)), oo_ 15 (.build [(.int .i64 0), (.int .i64 0)] [(0, (1, (.t 11))), (1, (1, (.t 14)))]), oo_ 16 (.nilck (.t 10)), of_ 17 3 16, os_ (.store 2 (.t 17) (.t 15))]) .skip))
theorem expr_parser_fail.code : comp PG [] (Tryz.f65.body.getD .skip) = expr_parser_fail.c := by kernel_rfl
theorem expr_parser_fail.of : OfE PG 65 2 expr_parser_fail.c [] := fnE (nt := 18) mixed Tryz.func65 expr_parser_fail.code (by kernel_rfl) (by kernel_rfl) (by kernel_rfl) (by kernel_rfl) (by kernel_rfl) (by kernel_rfl)
def expr_parser_row.n : Nat := 116
noncomputable def expr_parser_row.c : C := (.seq (.reg [oo_ 8 (.allc 26 [(.int .i64 0), (.int .i64 0), .nilS, .nilS])]) (.seq (.reg [om_ 11 3, oo_ 12 (.callv (.t 11) []), oo_ 9 (.allc 26 [(.int .i64 0), (.int .i64 0), .nilS, .nilS]), os_ (.store 4 (.t 9) (.t 12))]) (.seq (.reg [om_ 13 1, oo_ 14 (.load (some 4) (.t 9)), oo_ 15 (.bsliceO 26 4 1 [(.int .i64 0), (.int .i64 0), .nilS, .nilS] [(0, (.t 14))]), oo_ 16 (.build [(.int .i64 0), (.int .i64 0), .nilS, .nilS] [(0, (1, (.t 13))), (3, (1, (.t 15)))]), oo_ 10 (.allc 26 [(.int .i64 0), (.int .i64 0), .nilS, .nilS]), os_ (.store 4 (.t 10) (.t 16))]) (.seq (.block 0 (.loop (.seq (.seq (.reg [om_ 17 0, om_ 18 2, oo_ 19 (.call 158 [(.t 17), (.c (.int .i64 1)), (.t 18)])]) (.cond (.t 19) .skip (.exit 0))) (.block 1 (.dreg [of_ 20 3 10, ol_ 21 20, om_ 22 3, oo_ 23 (.callv (.t 22) []), oo_ 24 (.bslice 26 4 1 [(.int .i64 0), (.int .i64 0), .nilS, .nilS] [(0, (.t 23))])] [oo_ 25 (.append 26 false 4 64 (.t 21) (.t 24)), of_ 26 3 10, os_ (.store 1 (.t 26) (.t 25))]))))) (.seq (.seq (.reg [of_ 27 3 10, ol_ 28 27, oo_ 29 (.len false (.t 28)), oo_ 30 (.bin .eql (.t 29) (.c (.int .i64 1)))]) (.cond (.t 30) (.seq (.reg [oo_ 31 (.load (some 4) (.t 9)), os_ (.store 4 (.t 8) (.t 31))]) .ret) .skip)) (.seq (.reg [oo_ 32 (.load (some 4) (.t 10)), os_ (.store 4 (.t 8) (.t 32))]) .ret))))))
theorem expr_parser_row.code : comp PG [15] (Tryz.f116.body.getD .skip) = expr_parser_row.c := by kernel_rfl
theorem expr_parser_row.of : OfE PG 116 4 expr_parser_row.c [(.cell 8 (some 4))] := fnE (nt := 33) mixed Tryz.func116 expr_parser_row.code (by kernel_rfl) (by kernel_rfl) (by kernel_rfl) (by kernel_rfl) (by kernel_rfl) (by kernel_rfl)
def expr_parser_and.n : Nat := 117
noncomputable def expr_parser_and.c : C := (.seq (.reg [oo_ 2 (.allc 26 [(.int .i64 0), (.int .i64 0), .nilS, .nilS])]) (.seq (.reg [om_ 3 0, om_ 4 0, oo_ 5 (.mkfn 159 [(.t 4)] []), oo_ 6 (.call 116 [(.t 3), (.c (.int .i64 5)), (.c (.str [65, 78, 68])), (.t 5)]), os_ (.store 4 (.t 2) (.t 6))]) .ret))
theorem expr_parser_and.code : comp PG [] (Tryz.f117.body.getD .skip) = expr_parser_and.c := by kernel_rfl
theorem expr_parser_and.of : OfE PG 117 1 expr_parser_and.c [(.cell 2 (some 4))] := fnE (nt := 7) mixed Tryz.func117 expr_parser_and.code (by kernel_rfl) (by kernel_rfl) (by kernel_rfl) (by kernel_rfl) (by kernel_rfl) (by kernel_rfl)
def expr_parser_skip.n : Nat := 158
noncomputable def expr_parser_skip.c : C := (.seq (.reg [oo_ 6 (.mv (.c (.bool false)))]) (.seq (.seq (.reg [om_ 7 0, oo_ 8 (.call 63 [(.t 7)]), om_ 9 8, og_ 10 9 false (.mv (.t 0)), og_ 11 9 false (.mv (.t 1)), og_ 12 9 false (.mv (.t 2)), og_ 13 9 false (.call 190 [(.t 10), (.t 11), (.t 12)]), og_ 14 9 false (.un .not (.t 13)), oo_ 15 (.pick (.t 9) (.c (.bool true)) (.t 14))]) (.cond (.t 15) (.seq (.reg [oo_ 6 (.mv (.c (.bool false)))]) .ret) .skip)) (.seq (.reg [om_ 16 0, oo_ 17 (.nilck (.t 16)), of_ 18 1 17, ol_ 19 18, oo_ 20 (.bin .add (.t 19) (.c (.int .i64 1))), oo_ 21 (.nilck (.t 16)), of_ 22 1 21, os_ (.store 1 (.t 22) (.t 20))]) (.seq (.reg [oo_ 6 (.mv (.c (.bool true)))]) .ret))))
theorem expr_parser_skip.code : comp PG [] (Tryz.f158.body.getD .skip) = expr_parser_skip.c := by kernel_rfl
theorem expr_parser_skip.of : OfE PG 158 3 expr_parser_skip.c [(.t 6)] := fnE (nt := 23) mixed Tryz.func158 expr_parser_skip.code (by kernel_rfl) (by kernel_rfl) (by kernel_rfl) (by kernel_rfl) (by kernel_rfl) (by kernel_rfl)
def expr_parser_not.n : Nat := 159
noncomputable def expr_parser_not.c : C := (.seq (.reg [oo_ 1 (.box 106 (.t 0)), oo_ 2 (.allc 26 [(.int .i64 0), (.int .i64 0), .nilS, .nilS])]) (.seq (.block 0 (.seq (.reg [ol_ 4 1, oo_ 5 (.call 63 [(.t 4)]), om_ 3 5]) (.cond (.t 3) (.seq (.reg [oo_ 6 (.build [(.int .i64 0), (.int .i64 0), .nilS, .nilS] []), os_ (.store 4 (.t 2) (.t 6))]) .ret) (.seq (.reg [ol_ 8 1, oo_ 9 (.call 190 [(.t 8), (.c (.int .i64 1)), (.c (.str [78, 79, 84]))]), om_ 7 9]) (.cond (.t 7) (.seq (.reg [ol_ 10 1, oo_ 11 (.mkfn 192 [] [(.t 1)]), oo_ 12 (.call 191 [(.t 10), (.t 11)]), os_ (.store 4 (.t 2) (.t 12))]) .ret) (.seq (.reg [ol_ 14 1, oo_ 15 (.call 190 [(.t 14), (.c (.int .i64 5)), (.c (.str [40]))]), om_ 13 15]) (.cond (.t 13) (.seq (.reg [ol_ 16 1, oo_ 17 (.mkfn 193 [] [(.t 1)]), oo_ 18 (.call 191 [(.t 16), (.t 17)]), os_ (.store 4 (.t 2) (.t 18))]) .ret) .skip))))))) (.seq (.reg [ol_ 19 1, oo_ 20 (.call 195 [(.t 19)]), os_ (.store 4 (.t 2) (.t 20))]) .ret)))
theorem expr_parser_not.code : comp PG [] (Tryz.f159.body.getD .skip) = expr_parser_not.c := by kernel_rfl
theorem expr_parser_not.of : OfE PG 159 1 expr_parser_not.c [(.cell 2 (some 4))] := fnE (nt := 21) mixed Tryz.func159 expr_parser_not.code (by kernel_rfl) (by kernel_rfl) (by kernel_rfl) (by kernel_rfl) (by kernel_rfl) (by kernel_rfl)
def expr_parser_is.n : Nat := 190
noncomputable def expr_parser_is.c : C := (.seq (.reg [oo_ 6 (.mv (.c (.bool false)))]) (.seq (.reg [om_ 8 0, oo_ 9 (.call 64 [(.t 8)]), oo_ 7 (.allc 111 [(.int .i64 0), (.str []), (.int .u64 0), (.int .i64 0)]), os_ (.store 4 (.t 7) (.t 9))]) (.seq (.reg [of_ 10 0 7, ol_ 11 10, om_ 12 1, oo_ 13 (.bin .eql (.t 11) (.t 12)), om_ 14 13, og_ 15 14 true (.faddr 1 (.t 7)), og_ 16 14 true (.load none (.t 15)), og_ 17 14 true (.mv (.t 2)), og_ 18 14 true (.bin .eql (.t 16) (.t 17)), oo_ 19 (.pick (.t 14) (.t 18) (.c (.bool false))), om_ 6 19]) .ret)))
theorem expr_parser_is.code : comp PG [] (Tryz.f190.body.getD .skip) = expr_parser_is.c := by kernel_rfl
theorem expr_parser_is.of : OfE PG 190 3 expr_parser_is.c [(.t 6)] := fnE (nt := 20) mixed Tryz.func190 expr_parser_is.code (by kernel_rfl) (by kernel_rfl) (by kernel_rfl) (by kernel_rfl) (by kernel_rfl) (by kernel_rfl)
def expr_parser_within.n : Nat := 191
noncomputable def expr_parser_within.c : C := (.seq (.reg [oo_ 4 (.allc 26 [(.int .i64 0), (.int .i64 0), .nilS, .nilS])]) (.seq (.seq (.reg [om_ 6 0, oo_ 7 (.nilck (.t 6)), of_ 8 2 7, ol_ 9 8, oo_ 10 (.bin .geq (.t 9) (.c (.int .i64 8)))]) (.cond (.t 10) (.seq (.reg [om_ 11 0, oo_ 12 (.call 65 [(.t 11), (.c (.int .i64 9))])]) (.seq (.reg [oo_ 13 (.build [(.int .i64 0), (.int .i64 0), .nilS, .nilS] []), os_ (.store 4 (.t 4) (.t 13))]) .ret)) .skip)) (.seq (.reg [om_ 14 0, oo_ 15 (.nilck (.t 14)), of_ 16 2 15, ol_ 17 16, oo_ 18 (.bin .add (.t 17) (.c (.int .i64 1))), oo_ 19 (.nilck (.t 14)), of_ 20 2 19, os_ (.store 1 (.t 20) (.t 18))]) (.seq (.reg [om_ 21 0, oo_ 22 (.nilck (.t 21)), of_ 23 1 22, ol_ 24 23, oo_ 25 (.bin .add (.t 24) (.c (.int .i64 1))), oo_ 26 (.nilck (.t 21)), of_ 27 1 26, os_ (.store 1 (.t 27) (.t 25))]) (.seq (.reg [om_ 28 1, oo_ 29 (.callv (.t 28) []), oo_ 5 (.allc 26 [(.int .i64 0), (.int .i64 0), .nilS, .nilS]), os_ (.store 4 (.t 5) (.t 29))]) (.seq (.reg [om_ 30 0, oo_ 31 (.nilck (.t 30)), of_ 32 2 31, ol_ 33 32, oo_ 34 (.bin .sub (.t 33) (.c (.int .i64 1))), oo_ 35 (.nilck (.t 30)), of_ 36 2 35, os_ (.store 1 (.t 36) (.t 34))]) (.seq (.reg [oo_ 37 (.load (some 4) (.t 5)), os_ (.store 4 (.t 4) (.t 37))]) .ret)))))))
theorem expr_parser_within.code : comp PG [] (Tryz.f191.body.getD .skip) = expr_parser_within.c := by kernel_rfl
theorem expr_parser_within.of : OfE PG 191 2 expr_parser_within.c [(.cell 4 (some 4))] := fnE (nt := 38) mixed Tryz.func191 expr_parser_within.code (by kernel_rfl) (by kernel_rfl) (by kernel_rfl) (by kernel_rfl) (by kernel_rfl) (by kernel_rfl)
def expr_parser_not_1.n : Nat := 192
noncomputable def expr_parser_not_1.c : C := (.seq (.reg [oo_ 1 (.allc 26 [(.int .i64 0), (.int .i64 0), .nilS, .nilS])]) (.seq (.reg [ol_ 2 0, oo_ 3 (.call 159 [(.t 2)]), oo_ 4 (.bslice 26 4 1 [(.int .i64 0), (.int .i64 0), .nilS, .nilS] [(0, (.t 3))]), oo_ 5 (.build [(.int .i64 0), (.int .i64 0), .nilS, .nilS] [(0, (1, (.c (.int .i64 4)))), (3, (1, (.t 4)))]), os_ (.store 4 (.t 1) (.t 5))]) .ret))
theorem expr_parser_not_1.code : comp PG [] (Tryz.f192.body.getD .skip) = expr_parser_not_1.c := by kernel_rfl
theorem expr_parser_not_1.of' : OfL PG 192 6 expr_parser_not_1.c [(.cell 1 (some 4))] := fnL mixed Tryz.func192 expr_parser_not_1.code (by kernel_rfl) (by kernel_rfl) (by kernel_rfl) (by kernel_rfl) (by kernel_rfl)
def expr_parser_not_2.n : Nat := 193
noncomputable def expr_parser_not_2.c : C := (.seq (.reg [oo_ 1 (.allc 26 [(.int .i64 0), (.int .i64 0), .nilS, .nilS])]) (.seq (.reg [ol_ 3 0, oo_ 4 (.call 62 [(.t 3)]), oo_ 2 (.allc 26 [(.int .i64 0), (.int .i64 0), .nilS, .nilS]), os_ (.store 4 (.t 2) (.t 4))]) (.seq (.reg [ol_ 5 0, oo_ 6 (.call 194 [(.t 5), (.c (.int .i64 5)), (.c (.str [41]))])]) (.seq (.reg [oo_ 7 (.load (some 4) (.t 2)), os_ (.store 4 (.t 1) (.t 7))]) .ret))))
theorem expr_parser_not_2.code : comp PG [] (Tryz.f193.body.getD .skip) = expr_parser_not_2.c := by kernel_rfl
theorem expr_parser_not_2.of' : OfL PG 193 8 expr_parser_not_2.c [(.cell 1 (some 4))] := fnL mixed Tryz.func193 expr_parser_not_2.code (by kernel_rfl) (by kernel_rfl) (by kernel_rfl) (by kernel_rfl) (by kernel_rfl)
def expr_parser_must.n : Nat := 194
noncomputable def expr_parser_must.c : C := (.seq (.reg [om_ 6 0, om_ 7 1, om_ 8 2, oo_ 9 (.call 158 [(.t 6), (.t 7), (.t 8)]), oo_ 10 (.un .not (.t 9))]) (.cond (.t 10) (.reg [om_ 11 0, oo_ 12 (.call 65 [(.t 11), (.c (.int .i64 11))])]) .skip))
theorem expr_parser_must.code : comp PG [] (Tryz.f194.body.getD .skip) = expr_parser_must.c := by kernel_rfl
theorem expr_parser_must.of : OfE PG 194 3 expr_parser_must.c [] := fnE (nt := 13) mixed Tryz.func194 expr_parser_must.code (by kernel_rfl) (by kernel_rfl) (by kernel_rfl) (by kernel_rfl) (by kernel_rfl) (by kernel_rfl)
def expr_parser_test.n : Nat := 195
noncomputable def expr_parser_test.c : C := (.seq (.reg [oo_ 2 (.allc 26 [(.int .i64 0), (.int .i64 0), .nilS, .nilS])]) (.seq (.reg [om_ 8 0, oo_ 9 (.call 213 [(.t 8)]), oo_ 3 (.allc 35 [(.int .i64 0), (.str []), (.bool false), (.int .u64 0)]), os_ (.store 4 (.t 3) (.t 9))]) (.seq (.seq (.reg [om_ 10 0, oo_ 11 (.call 63 [(.t 10)])]) (.cond (.t 11) (.seq (.reg [oo_ 12 (.build [(.int .i64 0), (.int .i64 0), .nilS, .nilS] []), os_ (.store 4 (.t 2) (.t 12))]) .ret) .skip)) (.seq (.seq (.reg [om_ 13 0, oo_ 14 (.call 64 [(.t 13)]), oo_ 15 (.call 214 [(.t 14)]), om_ 4 15]) (.seq (.reg [om_ 16 4, oo_ 17 (.bin .gtr (.t 16) (.c (.int .i64 0)))]) (.cond (.t 17) (.seq (.reg [om_ 18 0, oo_ 19 (.nilck (.t 18)), of_ 20 1 19, ol_ 21 20, oo_ 22 (.bin .add (.t 21) (.c (.int .i64 1))), oo_ 23 (.nilck (.t 18)), of_ 24 1 23, os_ (.store 1 (.t 24) (.t 22))]) (.seq (.dreg [om_ 25 4, oo_ 26 (.load (some 4) (.t 3)), om_ 27 0, oo_ 28 (.call 213 [(.t 27)]), oo_ 29 (.bslice 35 4 2 [(.int .i64 0), (.str []), (.bool false), (.int .u64 0)] [(0, (.t 26)), (1, (.t 28))])] [oo_ 30 (.build [(.int .i64 0), (.int .i64 0), .nilS, .nilS] [(0, (1, (.c (.int .i64 1)))), (1, (1, (.t 25))), (2, (1, (.t 29)))]), os_ (.store 4 (.t 2) (.t 30))]) .ret)) .skip))) (.seq (.seq (.reg [om_ 31 0, oo_ 32 (.call 158 [(.t 31), (.c (.int .i64 1)), (.c (.str [76, 73, 75, 69]))])]) (.cond (.t 32) (.seq (.dreg [oo_ 33 (.load (some 4) (.t 3)), om_ 34 0, oo_ 35 (.call 213 [(.t 34)])] [oo_ 36 (.bslice 35 4 2 [(.int .i64 0), (.str []), (.bool false), (.int .u64 0)] [(0, (.t 33)), (1, (.t 35))]), oo_ 37 (.build [(.int .i64 0), (.int .i64 0), .nilS, .nilS] [(0, (1, (.c (.int .i64 3)))), (2, (1, (.t 36)))]), os_ (.store 4 (.t 2) (.t 37))]) .ret) .skip)) (.seq (.reg [om_ 38 0, oo_ 39 (.call 158 [(.t 38), (.c (.int .i64 1)), (.c (.str [78, 79, 84]))]), om_ 5 39]) (.seq (.reg [om_ 40 0, oo_ 41 (.call 194 [(.t 40), (.c (.int .i64 1)), (.c (.str [66, 69, 84, 87, 69, 69, 78]))])]) (.seq (.reg [om_ 42 0, oo_ 43 (.call 213 [(.t 42)]), oo_ 6 (.allc 35 [(.int .i64 0), (.str []), (.bool false), (.int .u64 0)]), os_ (.store 4 (.t 6) (.t 43))]) (.seq (.reg [om_ 44 0, oo_ 45 (.call 194 [(.t 44), (.c (.int .i64 1)), (.c (.str [65, 78, 68]))])]) (.seq (.dreg [oo_ 46 (.load (some 4) (.t 3)), oo_ 47 (.load (some 4) (.t 6)), om_ 48 0, oo_ 49 (.call 213 [(.t 48)]), oo_ 50 (.bslice 35 4 3 [(.int .i64 0), (.str []), (.bool false), (.int .u64 0)] [(0, (.t 46)), (1, (.t 47)), (2, (.t 49))]), oo_ 51 (.build [(.int .i64 0), (.int .i64 0), .nilS, .nilS] [(0, (1, (.c (.int .i64 2)))), (2, (1, (.t 50)))]), oo_ 7 (.allc 26 [(.int .i64 0), (.int .i64 0), .nilS, .nilS])] [os_ (.store 4 (.t 7) (.t 51))]) (.seq (.seq (.reg [om_ 52 5]) (.cond (.t 52) (.seq (.reg [oo_ 53 (.load (some 4) (.t 7)), oo_ 54 (.bslice 26 4 1 [(.int .i64 0), (.int .i64 0), .nilS, .nilS] [(0, (.t 53))]), oo_ 55 (.build [(.int .i64 0), (.int .i64 0), .nilS, .nilS] [(0, (1, (.c (.int .i64 4)))), (3, (1, (.t 54)))]), os_ (.store 4 (.t 2) (.t 55))]) .ret) .skip)) (.seq (.reg [oo_ 56 (.load (some 4) (.t 7)), os_ (.store 4 (.t 2) (.t 56))]) .ret))))))))))))
theorem expr_parser_test.code : comp PG [] (Tryz.f195.body.getD .skip) = expr_parser_test.c := by kernel_rfl
theorem expr_parser_test.of : OfE PG 195 1 expr_parser_test.c [(.cell 2 (some 4))] := fnE (nt := 57) mixed Tryz.func195 expr_parser_test.code (by kernel_rfl) (by kernel_rfl) (by kernel_rfl) (by kernel_rfl) (by kernel_rfl) (by kernel_rfl)
def expr_parser_operand.n : Nat := 213
noncomputable def expr_parser_operand.c : C := (.seq (.reg [oo_ 2 (.allc 35 [(.int .i64 0), (.str []), (.bool false), (.int .u64 0)])]) (.seq (.seq (.reg [om_ 5 0, oo_ 6 (.call 63 [(.t 5)])]) (.cond (.t 6) (.seq (.reg [oo_ 7 (.build [(.int .i64 0), (.str []), (.bool false), (.int .u64 0)] []), os_ (.store 4 (.t 2) (.t 7))]) .ret) .skip)) (.seq (.reg [om_ 8 0, oo_ 9 (.call 158 [(.t 8), (.c (.int .i64 5)), (.c (.str [45]))]), om_ 3 9]) (.seq (.reg [om_ 10 0, oo_ 11 (.call 64 [(.t 10)]), oo_ 4 (.allc 111 [(.int .i64 0), (.str []), (.int .u64 0), (.int .i64 0)]), os_ (.store 4 (.t 4) (.t 11))]) (.seq (.block 0 (.seq (.reg [of_ 13 0 4, ol_ 14 13, oo_ 15 (.bin .eql (.t 14) (.c (.int .i64 2))), om_ 12 15]) (.cond (.t 12) (.seq (.reg [om_ 16 0, oo_ 17 (.nilck (.t 16)), of_ 18 1 17, ol_ 19 18, oo_ 20 (.bin .add (.t 19) (.c (.int .i64 1))), oo_ 21 (.nilck (.t 16)), of_ 22 1 21, os_ (.store 1 (.t 22) (.t 20))]) (.seq (.reg [om_ 23 3, of_ 24 2 4, ol_ 25 24, oo_ 26 (.build [(.int .i64 0), (.str []), (.bool false), (.int .u64 0)] [(0, (1, (.c (.int .i64 2)))), (2, (1, (.t 23))), (3, (1, (.t 25)))]), os_ (.store 4 (.t 2) (.t 26))]) .ret)) (.seq (.reg [om_ 28 3, om_ 27 28]) (.cond (.t 27) (.seq (.reg [om_ 29 0, oo_ 30 (.call 65 [(.t 29), (.c (.int .i64 11))])]) (.seq (.reg [oo_ 31 (.build [(.int .i64 0), (.str []), (.bool false), (.int .u64 0)] []), os_ (.store 4 (.t 2) (.t 31))]) .ret)) (.seq (.reg [of_ 33 0 4, ol_ 34 33, oo_ 35 (.bin .eql (.t 34) (.c (.int .i64 3))), om_ 32 35]) (.cond (.t 32) (.seq (.reg [om_ 36 0, oo_ 37 (.nilck (.t 36)), of_ 38 1 37, ol_ 39 38, oo_ 40 (.bin .add (.t 39) (.c (.int .i64 1))), oo_ 41 (.nilck (.t 36)), of_ 42 1 41, os_ (.store 1 (.t 42) (.t 40))]) (.seq (.reg [of_ 43 1 4, ol_ 44 43, oo_ 45 (.build [(.int .i64 0), (.str []), (.bool false), (.int .u64 0)] [(0, (1, (.c (.int .i64 3)))), (1, (1, (.t 44)))]), os_ (.store 4 (.t 2) (.t 45))]) .ret)) (.seq (.reg [of_ 47 0 4, ol_ 48 47, oo_ 49 (.bin .eql (.t 48) (.c (.int .i64 4))), om_ 46 49]) (.cond (.t 46) (.seq (.reg [om_ 50 0, oo_ 51 (.nilck (.t 50)), of_ 52 1 51, ol_ 53 52, oo_ 54 (.bin .add (.t 53) (.c (.int .i64 1))), oo_ 55 (.nilck (.t 50)), of_ 56 1 55, os_ (.store 1 (.t 56) (.t 54))]) (.seq (.reg [of_ 57 2 4, ol_ 58 57, oo_ 59 (.build [(.int .i64 0), (.str []), (.bool false), (.int .u64 0)] [(0, (1, (.c (.int .i64 5)))), (3, (1, (.t 58)))]), os_ (.store 4 (.t 2) (.t 59))]) .ret)) (.seq (.reg [om_ 61 0, oo_ 62 (.call 158 [(.t 61), (.c (.int .i64 1)), (.c (.str [84, 82, 85, 69]))]), om_ 60 62]) (.cond (.t 60) (.seq (.reg [oo_ 63 (.build [(.int .i64 0), (.str []), (.bool false), (.int .u64 0)] [(0, (1, (.c (.int .i64 4)))), (3, (1, (.c (.int .u64 1))))]), os_ (.store 4 (.t 2) (.t 63))]) .ret) (.seq (.reg [om_ 65 0, oo_ 66 (.call 158 [(.t 65), (.c (.int .i64 1)), (.c (.str [70, 65, 76, 83, 69]))]), om_ 64 66]) (.cond (.t 64) (.seq (.reg [oo_ 67 (.build [(.int .i64 0), (.str []), (.bool false), (.int .u64 0)] [(0, (1, (.c (.int .i64 4))))]), os_ (.store 4 (.t 2) (.t 67))]) .ret) .skip))))))))))))) (.seq (.reg [om_ 68 0, oo_ 69 (.call 221 [(.t 68)]), oo_ 70 (.build [(.int .i64 0), (.str []), (.bool false), (.int .u64 0)] [(0, (1, (.c (.int .i64 1)))), (1, (1, (.t 69)))]), os_ (.store 4 (.t 2) (.t 70))]) .ret))))))
theorem expr_parser_operand.code : comp PG [] (Tryz.f213.body.getD .skip) = expr_parser_operand.c := by kernel_rfl
theorem expr_parser_operand.of : OfE PG 213 1 expr_parser_operand.c [(.cell 2 (some 4))] := fnE (nt := 71) mixed Tryz.func213 expr_parser_operand.code (by kernel_rfl) (by kernel_rfl) (by kernel_rfl) (by kernel_rfl) (by kernel_rfl) (by kernel_rfl)
def expr_relation.n : Nat := 214
noncomputable def expr_relation.c : C := (.seq (.reg [oo_ 1 (.box 111 (.t 0)), oo_ 2 (.mv (.c (.int .i64 0)))]) (.seq (.seq (.reg [of_ 3 0 1, ol_ 4 3, oo_ 5 (.bin .neq (.t 4) (.c (.int .i64 5)))]) (.cond (.t 5) (.seq (.reg [oo_ 2 (.mv (.c (.int .i64 0)))]) .ret) .skip)) (.seq (.seq (.reg [of_ 6 1 1, ol_ 7 6]) (.block 0 (.seq (.reg [oo_ 9 (.bin .eql (.t 7) (.c (.str [61]))), om_ 8 9]) (.cond (.t 8) (.seq (.reg [oo_ 2 (.mv (.c (.int .i64 1)))]) .ret) (.seq (.reg [oo_ 11 (.bin .eql (.t 7) (.c (.str [60, 62]))), om_ 10 11]) (.cond (.t 10) (.seq (.reg [oo_ 2 (.mv (.c (.int .i64 2)))]) .ret) (.seq (.reg [oo_ 13 (.bin .eql (.t 7) (.c (.str [60]))), om_ 12 13]) (.cond (.t 12) (.seq (.reg [oo_ 2 (.mv (.c (.int .i64 3)))]) .ret) (.seq (.reg [oo_ 15 (.bin .eql (.t 7) (.c (.str [60, 61]))), om_ 14 15]) (.cond (.t 14) (.seq (.reg [oo_ 2 (.mv (.c (.int .i64 4)))]) .ret) (.seq (.reg [oo_ 17 (.bin .eql (.t 7) (.c (.str [62]))), om_ 16 17]) (.cond (.t 16) (.seq (.reg [oo_ 2 (.mv (.c (.int .i64 5)))]) .ret) (.seq (.reg [oo_ 19 (.bin .eql (.t 7) (.c (.str [62, 61]))), om_ 18 19]) (.cond (.t 18) (.seq (.reg [oo_ 2 (.mv (.c (.int .i64 6)))]) .ret) .skip)))))))))))))) (.seq (.reg [oo_ 2 (.mv (.c (.int .i64 0)))]) .ret))))
theorem expr_relation.code : comp PG [] (Tryz.f214.body.getD .skip) = expr_relation.c := by kernel_rfl
theorem expr_relation.of : OfE PG 214 1 expr_relation.c [(.t 2)] := fnE (nt := 20) mixed Tryz.func214 expr_relation.code (by kernel_rfl) (by kernel_rfl) (by kernel_rfl) (by kernel_rfl) (by kernel_rfl) (by kernel_rfl)
def expr_parser_path.n : Nat := 221
noncomputable def expr_parser_path.c : C := (.seq (.reg [oo_ 2 (.mv (.c (.str [])))]) (.seq (.reg [oo_ 3 (.mv (.c (.str [])))]) (.seq (.seq (.reg [om_ 4 0, oo_ 5 (.call 190 [(.t 4), (.c (.int .i64 5)), (.c (.str [91]))])]) (.cond (.t 5) (.reg [om_ 6 0, oo_ 7 (.call 224 [(.t 6)]), om_ 3 7]) (.reg [om_ 8 0, oo_ 9 (.call 225 [(.t 8)]), om_ 3 9]))) (.seq (.block 0 (.loop (.seq (.seq (.reg [om_ 10 0, oo_ 11 (.call 63 [(.t 10)]), oo_ 12 (.un .not (.t 11))]) (.cond (.t 12) .skip (.exit 0))) (.block 1 (.block 2 (.seq (.reg [om_ 15 0, oo_ 16 (.call 190 [(.t 15), (.c (.int .i64 5)), (.c (.str [91]))]), om_ 14 16]) (.cond (.t 14) (.reg [om_ 17 3, om_ 18 0, oo_ 19 (.call 224 [(.t 18)]), oo_ 20 (.bin .add (.t 17) (.t 19)), om_ 3 20]) (.seq (.reg [om_ 22 0, oo_ 23 (.call 158 [(.t 22), (.c (.int .i64 5)), (.c (.str [46]))]), om_ 21 23]) (.cond (.t 21) (.reg [om_ 24 3, om_ 25 0, oo_ 26 (.call 225 [(.t 25)]), oo_ 27 (.bin .add (.c (.str [46])) (.t 26)), oo_ 28 (.bin .add (.t 24) (.t 27)), om_ 3 28]) (.seq (.reg [om_ 13 3, om_ 2 13]) .ret)))))))))) (.seq (.reg [om_ 29 3, om_ 2 29]) .ret)))))
theorem expr_parser_path.code : comp PG [] (Tryz.f221.body.getD .skip) = expr_parser_path.c := by kernel_rfl
theorem expr_parser_path.of : OfE PG 221 1 expr_parser_path.c [(.t 2)] := fnE (nt := 30) mixed Tryz.func221 expr_parser_path.code (by kernel_rfl) (by kernel_rfl) (by kernel_rfl) (by kernel_rfl) (by kernel_rfl) (by kernel_rfl)
def expr_parser_elem.n : Nat := 224
noncomputable def expr_parser_elem.c : C := (.seq (.reg [oo_ 2 (.mv (.c (.str [])))]) (.seq (.reg [om_ 4 0, oo_ 5 (.call 194 [(.t 4), (.c (.int .i64 5)), (.c (.str [91]))])]) (.seq (.reg [om_ 6 0, oo_ 7 (.call 64 [(.t 6)]), oo_ 3 (.allc 111 [(.int .i64 0), (.str []), (.int .u64 0), (.int .i64 0)]), os_ (.store 4 (.t 3) (.t 7))]) (.seq (.seq (.reg [of_ 8 0 3, ol_ 9 8, oo_ 10 (.bin .neq (.t 9) (.c (.int .i64 2)))]) (.cond (.t 10) (.seq (.reg [om_ 11 0, oo_ 12 (.call 65 [(.t 11), (.c (.int .i64 11))])]) (.seq (.reg [oo_ 2 (.mv (.c (.str [])))]) .ret)) .skip)) (.seq (.reg [om_ 13 0, oo_ 14 (.nilck (.t 13)), of_ 15 1 14, ol_ 16 15, oo_ 17 (.bin .add (.t 16) (.c (.int .i64 1))), oo_ 18 (.nilck (.t 13)), of_ 19 1 18, os_ (.store 1 (.t 19) (.t 17))]) (.seq (.reg [om_ 20 0, oo_ 21 (.call 194 [(.t 20), (.c (.int .i64 5)), (.c (.str [93]))])]) (.seq (.reg [of_ 22 1 3, ol_ 23 22, oo_ 24 (.bin .add (.c (.str [91])) (.t 23)), oo_ 25 (.bin .add (.t 24) (.c (.str [93]))), om_ 2 25]) .ret)))))))
theorem expr_parser_elem.code : comp PG [] (Tryz.f224.body.getD .skip) = expr_parser_elem.c := by kernel_rfl
theorem expr_parser_elem.of : OfE PG 224 1 expr_parser_elem.c [(.t 2)] := fnE (nt := 26) mixed Tryz.func224 expr_parser_elem.code (by kernel_rfl) (by kernel_rfl) (by kernel_rfl) (by kernel_rfl) (by kernel_rfl) (by kernel_rfl)
def expr_parser_name.n : Nat := 225
noncomputable def expr_parser_name.c : C := (.seq (.reg [oo_ 2 (.mv (.c (.str [])))]) (.seq (.reg [om_ 4 0, oo_ 5 (.call 64 [(.t 4)]), oo_ 3 (.allc 111 [(.int .i64 0), (.str []), (.int .u64 0), (.int .i64 0)]), os_ (.store 4 (.t 3) (.t 5))]) (.seq (.seq (.reg [om_ 6 0, oo_ 7 (.call 63 [(.t 6)]), om_ 8 7, og_ 9 8 false (.faddr 0 (.t 3)), og_ 10 8 false (.load none (.t 9)), og_ 11 8 false (.bin .neq (.t 10) (.c (.int .i64 1))), oo_ 12 (.pick (.t 8) (.c (.bool true)) (.t 11)), om_ 13 12, og_ 14 13 false (.faddr 1 (.t 3)), og_ 15 13 false (.load none (.t 14)), og_ 16 13 false (.call 160 [(.t 15)]), oo_ 17 (.pick (.t 13) (.c (.bool true)) (.t 16))]) (.cond (.t 17) (.seq (.reg [om_ 18 0, oo_ 19 (.call 65 [(.t 18), (.c (.int .i64 11))])]) (.seq (.reg [oo_ 2 (.mv (.c (.str [])))]) .ret)) .skip)) (.seq (.reg [om_ 20 0, oo_ 21 (.nilck (.t 20)), of_ 22 1 21, ol_ 23 22, oo_ 24 (.bin .add (.t 23) (.c (.int .i64 1))), oo_ 25 (.nilck (.t 20)), of_ 26 1 25, os_ (.store 1 (.t 26) (.t 24))]) (.seq (.reg [of_ 27 1 3, ol_ 28 27, om_ 2 28]) .ret)))))
theorem expr_parser_name.code : comp PG [] (Tryz.f225.body.getD .skip) = expr_parser_name.c := by kernel_rfl
theorem expr_parser_name.of : OfE PG 225 1 expr_parser_name.c [(.t 2)] := fnE (nt := 29) mixed Tryz.func225 expr_parser_name.code (by kernel_rfl) (by kernel_rfl) (by kernel_rfl) (by kernel_rfl) (by kernel_rfl) (by kernel_rfl)
end Go.Proofs.YtjaigpidmngaaaaGreat

namespace Go.Proofs.YtjaigpidmngaaaaGreat
set_option maxRecDepth 100000
def broadsheetlaw06_Great.n : Nat := 11
noncomputable def broadsheetlaw06_Great.c : C := (.seq (.reg [oo_ 2 (.mv (.c (.bool false)))]) (.seq (.reg [oo_ 3 (.mv (.c (.int .i64 0)))]) (.seq (.seq (.reg [oo_ 4 (.mv (.c (.int .i64 0)))]) (.block 0 (.loop (.seq (.seq (.reg [om_ 5 4, om_ 6 0, oo_ 7 (.len false (.t 6)), oo_ 8 (.bin .lss (.t 5) (.t 7))]) (.cond (.t 8) .skip (.exit 0))) (.seq (.block 1 (.reg [om_ 11 3, om_ 12 0, om_ 13 4, oo_ 14 (.iaddr 6 (.t 12) (.t 13)), of_ 15 5 14, ol_ 16 15, oo_ 17 (.len false (.t 16)), oo_ 18 (.bin .add (.t 11) (.t 17)), oo_ 19 (.mm false [(.t 18), (.c (.int .i64 1048576))]), om_ 3 19])) (.reg [om_ 9 4, oo_ 10 (.bin .add (.t 9) (.c (.int .i64 1))), om_ 4 10])))))) (.seq (.reg [om_ 20 0, oo_ 21 (.len false (.t 20)), oo_ 22 (.bin .gtr (.t 21) (.c (.int .i64 100))), om_ 23 22, og_ 24 23 false (.mv (.t 3)), og_ 25 23 false (.bin .gtr (.t 24) (.c (.int .i64 800))), oo_ 26 (.pick (.t 23) (.c (.bool true)) (.t 25)), om_ 2 26]) .ret))))
theorem broadsheetlaw06_Great.code : comp PG [] (Tryz.f11.body.getD .skip) = broadsheetlaw06_Great.c := by kernel_rfl
theorem broadsheetlaw06_Great.of : OfE PG 11 1 broadsheetlaw06_Great.c [(.t 2)] := fnE (nt := 27) mixed Tryz.func11 broadsheetlaw06_Great.code (by kernel_rfl) (by kernel_rfl) (by kernel_rfl) (by kernel_rfl) (by kernel_rfl) (by kernel_rfl)
def types_Check.n : Nat := 37
noncomputable def types_Check.c : C := (.seq (.reg [oo_ 2 (.allc 72 [(.int .i64 0), (.int .i64 0)])]) (.seq (.seq (.reg [om_ 9 0, oo_ 10 (.len false (.t 9)), oo_ 11 (.bin .gtr (.t 10) (.c (.int .i64 32)))]) (.cond (.t 11) (.seq (.reg [oo_ 12 (.build [(.int .i64 0), (.int .i64 0)] [(0, (1, (.c (.int .i64 3)))), (1, (1, (.c (.int .i64 32))))]), os_ (.store 2 (.t 2) (.t 12))]) .ret) .skip)) (.seq (.seq (.reg [om_ 13 0, oo_ 14 (.len false (.t 13)), oo_ 15 (.mv (.c (.int .i64 0)))]) (.block 0 (.loop (.seq (.reg [oo_ 16 (.bin .lss (.t 15) (.t 14))]) (.seq (.cond (.t 16) .skip (.exit 0)) (.seq (.block 1 (.seq (.reg [om_ 17 15, oo_ 18 (.iaddr 6 (.t 13) (.t 15)), oo_ 19 (.load (some 6) (.t 18)), oo_ 4 (.allc 67 [(.int .i64 0), (.str []), (.int .i64 0), (.int .i64 0), (.int .i64 0), .nilS]), om_ 3 17, os_ (.store 6 (.t 4) (.t 19))]) (.seq (.reg [om_ 20 0, om_ 21 3, oo_ 22 (.load (some 6) (.t 4)), oo_ 23 (.build [.nilS, (.int .i64 0), (.int .i64 0), (.str []), (.int .i64 0), (.int .i64 0), (.int .i64 0), .nilS] [(0, (1, (.t 20))), (1, (1, (.t 21))), (2, (6, (.t 22)))]), oo_ 24 (.box 116 (.t 23)), om_ 5 24]) (.seq (.reg [om_ 25 5, oo_ 26 (.mkfn 66 [(.t 25)] []), om_ 27 5, oo_ 28 (.mkfn 67 [(.t 27)] []), om_ 29 5, oo_ 30 (.mkfn 68 [(.t 29)] []), om_ 31 5, oo_ 32 (.mkfn 69 [(.t 31)] []), om_ 33 5, oo_ 34 (.mkfn 70 [(.t 33)] []), om_ 35 5, oo_ 36 (.mkfn 71 [(.t 35)] []), oo_ 37 (.bslice 117 1 6 [.nilF] [(0, (.t 26)), (1, (.t 28)), (2, (.t 30)), (3, (.t 32)), (4, (.t 34)), (5, (.t 36))]), oo_ 38 (.len false (.t 37)), oo_ 39 (.mv (.c (.int .i64 0)))]) (.block 2 (.loop (.seq (.reg [oo_ 40 (.bin .lss (.t 39) (.t 38))]) (.seq (.cond (.t 40) .skip (.exit 2)) (.seq (.block 3 (.seq (.reg [oo_ 41 (.iaddr 1 (.t 37) (.t 39)), ol_ 42 41, om_ 7 42]) (.seq (.reg [om_ 43 7, oo_ 44 (.callv (.t 43) []), om_ 8 44]) (.seq (.reg [om_ 45 8, oo_ 46 (.bin .neq (.t 45) (.c (.int .i64 0)))]) (.cond (.t 46) (.seq (.reg [om_ 47 8, om_ 48 3, oo_ 49 (.build [(.int .i64 0), (.int .i64 0)] [(0, (1, (.t 47))), (1, (1, (.t 48)))]), os_ (.store 2 (.t 2) (.t 49))]) .ret) .skip))))) (.reg [oo_ 50 (.bin .add (.t 39) (.c (.int .i64 1))), om_ 39 50])))))))))) (.reg [oo_ 51 (.bin .add (.t 15) (.c (.int .i64 1))), om_ 15 51]))))))) (.seq (.reg [oo_ 52 (.build [(.int .i64 0), (.int .i64 0)] []), os_ (.store 2 (.t 2) (.t 52))]) .ret))))
theorem types_Check.code : comp PG [] (Tryz.f37.body.getD .skip) = types_Check.c := by kernel_rfl
theorem types_Check.of : OfE PG 37 1 types_Check.c [(.cell 2 (some 2))] := fnE (nt := 53) mixed Tryz.func37 types_Check.code (by kernel_rfl) (by kernel_rfl) (by kernel_rfl) (by kernel_rfl) (by kernel_rfl) (by kernel_rfl)
def types_Item.n : Nat := 42
noncomputable def types_Item.c : C := (.seq (.reg [oo_ 5 (.box 9 (.t 2)), oo_ 6 (.mv (.c (.int .i64 0))), oo_ 7 (.mv (.c (.bool false)))]) (.seq (.reg [om_ 8 0, om_ 9 1, oo_ 10 (.mkfn 81 [] [(.t 5)]), oo_ 11 (.call 78 [(.t 8), (.t 9), (.c (.clo 79 [] [])), (.t 10)]), oo_ 12 (.extr (.t 11) 0), oo_ 13 (.extr (.t 11) 1), om_ 6 12, om_ 7 13]) .ret))
theorem types_Item.code : comp PG [] (Tryz.f42.body.getD .skip) = types_Item.c := by kernel_rfl
theorem types_Item.of : OfE PG 42 3 types_Item.c [(.t 6), (.t 7)] := fnE (nt := 14) mixed Tryz.func42 types_Item.code (by kernel_rfl) (by kernel_rfl) (by kernel_rfl) (by kernel_rfl) (by kernel_rfl) (by kernel_rfl)
def types_look_form.n : Nat := 66
noncomputable def types_look_form.c : C := (.seq (.reg [oo_ 2 (.mv (.c (.int .i64 0)))]) (.seq (.reg [om_ 10 0, oo_ 11 (.nilck (.t 10)), of_ 12 2 11, oo_ 13 (.load (some 6) (.t 12)), oo_ 3 (.allc 67 [(.int .i64 0), (.str []), (.int .i64 0), (.int .i64 0), (.int .i64 0), .nilS]), os_ (.store 6 (.t 3) (.t 13))]) (.seq (.seq (.reg [of_ 14 0 3, ol_ 15 14, oo_ 16 (.bin .lss (.t 15) (.c (.int .i64 1))), om_ 17 16, og_ 18 17 false (.faddr 0 (.t 3)), og_ 19 17 false (.load none (.t 18)), og_ 20 17 false (.bin .gtr (.t 19) (.c (.int .i64 14))), oo_ 21 (.pick (.t 17) (.c (.bool true)) (.t 20))]) (.cond (.t 21) (.seq (.reg [oo_ 2 (.mv (.c (.int .i64 4)))]) .ret) .skip)) (.seq (.reg [of_ 23 0 3, ol_ 24 23, oo_ 25 (.call 80 [(.t 24)]), om_ 22 25, oo_ 26 (.extr (.t 22) 0), oo_ 27 (.extr (.t 22) 1), oo_ 28 (.extr (.t 22) 2), oo_ 29 (.extr (.t 22) 3), om_ 4 26, om_ 5 27, om_ 6 28, om_ 7 29]) (.seq (.seq (.reg [om_ 30 4, oo_ 31 (.un .not (.t 30)), om_ 32 31, og_ 33 32 true (.faddr 1 (.t 3)), og_ 34 32 true (.load none (.t 33)), og_ 35 32 true (.bin .neq (.t 34) (.c (.str []))), og_ 36 32 true (.mv (.t 35)), og_ 37 36 false (.faddr 5 (.t 3)), og_ 38 36 false (.load none (.t 37)), og_ 39 36 false (.len false (.t 38)), og_ 40 36 false (.bin .gtr (.t 39) (.c (.int .i64 0))), og_ 41 32 true (.pick (.t 36) (.c (.bool true)) (.t 40)), oo_ 42 (.pick (.t 32) (.t 41) (.c (.bool false))), om_ 43 42, og_ 44 43 false (.mv (.t 5)), og_ 45 43 false (.un .not (.t 44)), og_ 46 43 false (.mv (.t 45)), og_ 47 46 true (.faddr 2 (.t 3)), og_ 48 46 true (.load none (.t 47)), og_ 49 46 true (.bin .neq (.t 48) (.c (.int .i64 0))), og_ 50 43 false (.pick (.t 46) (.t 49) (.c (.bool false))), oo_ 51 (.pick (.t 43) (.c (.bool true)) (.t 50)), om_ 52 51, og_ 53 52 false (.mv (.t 6)), og_ 54 52 false (.un .not (.t 53)), og_ 55 52 false (.mv (.t 54)), og_ 56 55 true (.faddr 3 (.t 3)), og_ 57 55 true (.load none (.t 56)), og_ 58 55 true (.bin .neq (.t 57) (.c (.int .i64 0))), og_ 59 52 false (.pick (.t 55) (.t 58) (.c (.bool false))), oo_ 60 (.pick (.t 52) (.c (.bool true)) (.t 59)), om_ 61 60, og_ 62 61 false (.mv (.t 7)), og_ 63 61 false (.un .not (.t 62)), og_ 64 61 false (.mv (.t 63)), og_ 65 64 true (.faddr 4 (.t 3)), og_ 66 64 true (.load none (.t 65)), og_ 67 64 true (.bin .neq (.t 66) (.c (.int .i64 0))), og_ 68 61 false (.pick (.t 64) (.t 67) (.c (.bool false))), oo_ 69 (.pick (.t 61) (.c (.bool true)) (.t 68))]) (.cond (.t 69) (.seq (.reg [oo_ 2 (.mv (.c (.int .i64 1)))]) .ret) .skip)) (.seq (.seq (.reg [of_ 70 5 3, ol_ 71 70, oo_ 72 (.len false (.t 71)), oo_ 73 (.mv (.c (.int .i64 0)))]) (.block 0 (.loop (.seq (.reg [oo_ 74 (.bin .lss (.t 73) (.t 72))]) (.seq (.cond (.t 74) .skip (.exit 0)) (.seq (.block 1 (.seq (.reg [oo_ 75 (.iaddr 5 (.t 71) (.t 73)), oo_ 76 (.load (some 5) (.t 75)), oo_ 9 (.allc 70 [(.str []), (.int .u64 0), (.int .i64 0), (.bool false), (.bool false)]), os_ (.store 5 (.t 9) (.t 76))]) (.seq (.reg [of_ 77 0 3, ol_ 78 77, oo_ 79 (.bin .eql (.t 78) (.c (.int .i64 9))), om_ 80 79, og_ 81 80 true (.faddr 2 (.t 9)), og_ 82 80 true (.load none (.t 81)), og_ 83 80 true (.bin .neq (.t 82) (.c (.int .i64 0))), oo_ 84 (.pick (.t 80) (.t 83) (.c (.bool false))), om_ 85 84, og_ 86 85 false (.faddr 0 (.t 3)), og_ 87 85 false (.load none (.t 86)), og_ 88 85 false (.bin .neq (.t 87) (.c (.int .i64 13))), og_ 89 85 false (.mv (.t 88)), og_ 90 89 true (.faddr 3 (.t 9)), og_ 91 89 true (.load none (.t 90)), og_ 92 85 false (.pick (.t 89) (.t 91) (.c (.bool false))), oo_ 93 (.pick (.t 85) (.c (.bool true)) (.t 92)), om_ 94 93, og_ 95 94 false (.faddr 0 (.t 3)), og_ 96 94 false (.load none (.t 95)), og_ 97 94 false (.bin .neq (.t 96) (.c (.int .i64 14))), og_ 98 94 false (.mv (.t 97)), og_ 99 98 true (.faddr 4 (.t 9)), og_ 100 98 true (.load none (.t 99)), og_ 101 94 false (.pick (.t 98) (.t 100) (.c (.bool false))), oo_ 102 (.pick (.t 94) (.c (.bool true)) (.t 101)), om_ 103 102, og_ 104 103 false (.faddr 0 (.t 3)), og_ 105 103 false (.load none (.t 104)), og_ 106 103 false (.bin .eql (.t 105) (.c (.int .i64 13))), og_ 107 103 false (.mv (.t 106)), og_ 108 107 false (.faddr 4 (.t 9)), og_ 109 107 false (.load none (.t 108)), og_ 110 103 false (.pick (.t 107) (.c (.bool true)) (.t 109)), og_ 111 103 false (.mv (.t 110)), og_ 112 111 true (.faddr 1 (.t 9)), og_ 113 111 true (.load none (.t 112)), og_ 114 111 true (.bin .neq (.t 113) (.c (.int .u64 0))), og_ 115 103 false (.pick (.t 111) (.t 114) (.c (.bool false))), oo_ 116 (.pick (.t 103) (.c (.bool true)) (.t 115))]) (.cond (.t 116) (.seq (.reg [oo_ 2 (.mv (.c (.int .i64 1)))]) .ret) .skip)))) (.reg [oo_ 117 (.bin .add (.t 73) (.c (.int .i64 1))), om_ 73 117]))))))) (.seq (.reg [oo_ 2 (.mv (.c (.int .i64 0)))]) .ret)))))))
theorem types_look_form.code : comp PG [] (Tryz.f66.body.getD .skip) = types_look_form.c := by kernel_rfl
theorem types_look_form.of : OfE PG 66 1 types_look_form.c [(.t 2)] := fnE (nt := 118) mixed Tryz.func66 types_look_form.code (by kernel_rfl) (by kernel_rfl) (by kernel_rfl) (by kernel_rfl) (by kernel_rfl) (by kernel_rfl)
def types_look_named.n : Nat := 67
noncomputable def types_look_named.c : C := (.seq (.reg [oo_ 2 (.mv (.c (.int .i64 0)))]) (.seq (.seq (.reg [om_ 10 0, oo_ 11 (.nilck (.t 10)), of_ 12 2 11, of_ 13 0 12, ol_ 14 13, oo_ 15 (.call 80 [(.t 14)]), om_ 9 15, oo_ 16 (.extr (.t 9) 0), oo_ 17 (.extr (.t 9) 1), oo_ 18 (.extr (.t 9) 2), oo_ 19 (.extr (.t 9) 3), om_ 3 16, om_ 4 17, om_ 5 18, om_ 6 19]) (.seq (.reg [om_ 20 3, oo_ 21 (.un .not (.t 20))]) (.cond (.t 21) (.seq (.reg [oo_ 2 (.mv (.c (.int .i64 0)))]) .ret) .skip))) (.seq (.seq (.reg [om_ 22 0, oo_ 23 (.nilck (.t 22)), of_ 24 2 23, of_ 25 1 24, ol_ 26 25, oo_ 27 (.call 118 [(.t 26)]), oo_ 28 (.un .not (.t 27))]) (.cond (.t 28) (.seq (.reg [oo_ 2 (.mv (.c (.int .i64 5)))]) .ret) .skip)) (.seq (.seq (.dreg [om_ 29 0, oo_ 30 (.nilck (.t 29)), of_ 31 0 30, ol_ 32 31, om_ 33 0, oo_ 34 (.nilck (.t 33)), of_ 35 1 34, ol_ 36 35, oo_ 37 (.slice (some 6) (.t 32) none (some (.t 36))), oo_ 38 (.len false (.t 37)), oo_ 39 (.mv (.c (.int .i64 0)))] []) (.block 0 (.loop (.seq (.reg [oo_ 40 (.bin .lss (.t 39) (.t 38))]) (.seq (.cond (.t 40) .skip (.exit 0)) (.seq (.block 1 (.seq (.reg [oo_ 41 (.iaddr 6 (.t 37) (.t 39)), oo_ 42 (.load (some 6) (.t 41)), oo_ 8 (.allc 67 [(.int .i64 0), (.str []), (.int .i64 0), (.int .i64 0), (.int .i64 0), .nilS]), os_ (.store 6 (.t 8) (.t 42))]) (.seq (.dreg [of_ 43 1 8, ol_ 44 43, om_ 45 0, oo_ 46 (.nilck (.t 45)), of_ 47 2 46, of_ 48 1 47, ol_ 49 48] [oo_ 50 (.bin .eql (.t 44) (.t 49))]) (.cond (.t 50) (.seq (.reg [oo_ 2 (.mv (.c (.int .i64 6)))]) .ret) .skip)))) (.reg [oo_ 51 (.bin .add (.t 39) (.c (.int .i64 1))), om_ 39 51]))))))) (.seq (.reg [oo_ 2 (.mv (.c (.int .i64 0)))]) .ret)))))
theorem types_look_named.code : comp PG [] (Tryz.f67.body.getD .skip) = types_look_named.c := by kernel_rfl
theorem types_look_named.of : OfE PG 67 1 types_look_named.c [(.t 2)] := fnE (nt := 52) mixed Tryz.func67 types_look_named.code (by kernel_rfl) (by kernel_rfl) (by kernel_rfl) (by kernel_rfl) (by kernel_rfl) (by kernel_rfl)
def types_look_bound.n : Nat := 68
noncomputable def types_look_bound.c : C := (.seq (.reg [oo_ 2 (.mv (.c (.int .i64 0)))]) (.seq (.reg [om_ 8 0, oo_ 9 (.nilck (.t 8)), of_ 10 2 9, of_ 11 0 10, ol_ 12 11, oo_ 13 (.call 80 [(.t 12)]), om_ 7 13, oo_ 14 (.extr (.t 7) 0), oo_ 15 (.extr (.t 7) 1), oo_ 16 (.extr (.t 7) 2), oo_ 17 (.extr (.t 7) 3), om_ 3 14, om_ 4 15, om_ 5 16, om_ 6 17]) (.seq (.seq (.reg [om_ 18 4, om_ 19 18, og_ 20 19 true (.mv (.t 0)), og_ 21 19 true (.nilck (.t 20)), og_ 22 19 true (.faddr 2 (.t 21)), og_ 23 19 true (.faddr 2 (.t 22)), og_ 24 19 true (.load none (.t 23)), og_ 25 19 true (.bin .gtr (.t 24) (.c (.int .i64 64))), og_ 26 19 true (.mv (.t 25)), og_ 27 26 false (.mv (.t 0)), og_ 28 26 false (.nilck (.t 27)), og_ 29 26 false (.faddr 2 (.t 28)), og_ 30 26 false (.faddr 2 (.t 29)), og_ 31 26 false (.load none (.t 30)), og_ 32 26 false (.bin .lss (.t 31) (.c (.int .i64 0))), og_ 33 19 true (.pick (.t 26) (.c (.bool true)) (.t 32)), og_ 34 19 true (.mv (.t 33)), og_ 35 34 false (.mv (.t 5)), og_ 36 34 false (.mv (.t 35)), og_ 37 36 true (.mv (.t 0)), og_ 38 36 true (.nilck (.t 37)), og_ 39 36 true (.faddr 2 (.t 38)), og_ 40 36 true (.faddr 2 (.t 39)), og_ 41 36 true (.load none (.t 40)), og_ 42 36 true (.bin .eql (.t 41) (.c (.int .i64 0))), og_ 43 34 false (.pick (.t 36) (.t 42) (.c (.bool false))), og_ 44 19 true (.pick (.t 34) (.c (.bool true)) (.t 43)), oo_ 45 (.pick (.t 19) (.t 44) (.c (.bool false)))]) (.cond (.t 45) (.seq (.reg [oo_ 2 (.mv (.c (.int .i64 7)))]) .ret) .skip)) (.seq (.reg [oo_ 2 (.mv (.c (.int .i64 0)))]) .ret))))
theorem types_look_bound.code : comp PG [] (Tryz.f68.body.getD .skip) = types_look_bound.c := by kernel_rfl
theorem types_look_bound.of : OfE PG 68 1 types_look_bound.c [(.t 2)] := fnE (nt := 46) mixed Tryz.func68 types_look_bound.code (by kernel_rfl) (by kernel_rfl) (by kernel_rfl) (by kernel_rfl) (by kernel_rfl) (by kernel_rfl)
def types_look_order.n : Nat := 69
noncomputable def types_look_order.c : C := (.seq (.reg [oo_ 2 (.mv (.c (.int .i64 0)))]) (.seq (.seq (.reg [om_ 5 0, oo_ 6 (.nilck (.t 5)), of_ 7 2 6, oo_ 8 (.load (some 6) (.t 7)), oo_ 9 (.call 119 [(.t 8)]), oo_ 10 (.len false (.t 9)), oo_ 11 (.mv (.c (.int .i64 0)))]) (.block 0 (.loop (.seq (.reg [oo_ 12 (.bin .lss (.t 11) (.t 10))]) (.seq (.cond (.t 12) .skip (.exit 0)) (.seq (.block 1 (.seq (.reg [oo_ 13 (.iaddr 1 (.t 9) (.t 11)), ol_ 14 13, om_ 4 14]) (.seq (.reg [om_ 15 4, oo_ 16 (.bin .lss (.t 15) (.c (.int .i64 0))), om_ 17 16, og_ 18 17 false (.mv (.t 4)), og_ 19 17 false (.mv (.t 0)), og_ 20 17 false (.nilck (.t 19)), og_ 21 17 false (.faddr 1 (.t 20)), og_ 22 17 false (.load none (.t 21)), og_ 23 17 false (.bin .geq (.t 18) (.t 22)), oo_ 24 (.pick (.t 17) (.c (.bool true)) (.t 23))]) (.cond (.t 24) (.seq (.reg [oo_ 2 (.mv (.c (.int .i64 14)))]) .ret) .skip)))) (.reg [oo_ 25 (.bin .add (.t 11) (.c (.int .i64 1))), om_ 11 25]))))))) (.seq (.seq (.dreg [om_ 26 0, oo_ 27 (.nilck (.t 26)), of_ 28 2 27, of_ 29 0 28, ol_ 30 29, oo_ 31 (.bin .eql (.t 30) (.c (.int .i64 14))), om_ 32 31, og_ 33 32 true (.mv (.t 0)), og_ 34 32 true (.nilck (.t 33)), og_ 35 32 true (.faddr 0 (.t 34)), og_ 36 32 true (.load none (.t 35)), og_ 37 32 true (.mv (.t 0)), og_ 38 32 true (.nilck (.t 37)), og_ 39 32 true (.faddr 2 (.t 38)), og_ 40 32 true (.faddr 4 (.t 39)), og_ 41 32 true (.load none (.t 40))] [og_ 42 32 true (.iaddr 6 (.t 36) (.t 41)), og_ 43 32 true (.faddr 0 (.t 42)), og_ 44 32 true (.load none (.t 43)), og_ 45 32 true (.call 77 [(.t 44)]), og_ 46 32 true (.un .not (.t 45)), oo_ 47 (.pick (.t 32) (.t 46) (.c (.bool false)))]) (.cond (.t 47) (.seq (.reg [oo_ 2 (.mv (.c (.int .i64 8)))]) .ret) .skip)) (.seq (.reg [oo_ 2 (.mv (.c (.int .i64 0)))]) .ret))))
theorem types_look_order.code : comp PG [] (Tryz.f69.body.getD .skip) = types_look_order.c := by kernel_rfl
theorem types_look_order.of : OfE PG 69 1 types_look_order.c [(.t 2)] := fnE (nt := 48) mixed Tryz.func69 types_look_order.code (by kernel_rfl) (by kernel_rfl) (by kernel_rfl) (by kernel_rfl) (by kernel_rfl) (by kernel_rfl)
def types_look_items.n : Nat := 70
noncomputable def types_look_items.c : C := (.seq (.reg [oo_ 2 (.mv (.c (.int .i64 0)))]) (.seq (.seq (.reg [om_ 11 0, oo_ 12 (.nilck (.t 11)), of_ 13 2 12, of_ 14 0 13, ol_ 15 14, oo_ 16 (.call 80 [(.t 15)]), om_ 10 16, oo_ 17 (.extr (.t 10) 0), oo_ 18 (.extr (.t 10) 1), oo_ 19 (.extr (.t 10) 2), oo_ 20 (.extr (.t 10) 3), om_ 3 17, om_ 4 18, om_ 5 19, om_ 6 20]) (.seq (.reg [om_ 21 3, oo_ 22 (.un .not (.t 21))]) (.cond (.t 22) (.seq (.reg [oo_ 2 (.mv (.c (.int .i64 0)))]) .ret) .skip))) (.seq (.seq (.reg [om_ 23 0, oo_ 24 (.nilck (.t 23)), of_ 25 2 24, of_ 26 5 25, ol_ 27 26, oo_ 28 (.len false (.t 27)), om_ 7 28]) (.block 0 (.seq (.reg [om_ 30 7, oo_ 31 (.bin .eql (.t 30) (.c (.int .i64 0))), om_ 29 31]) (.cond (.t 29) (.seq (.reg [oo_ 2 (.mv (.c (.int .i64 18)))]) .ret) (.seq (.reg [om_ 33 7, oo_ 34 (.bin .gtr (.t 33) (.c (.int .i64 16))), om_ 32 34]) (.cond (.t 32) (.seq (.reg [oo_ 2 (.mv (.c (.int .i64 3)))]) .ret) .skip)))))) (.seq (.seq (.reg [om_ 35 0, oo_ 36 (.nilck (.t 35)), of_ 37 2 36, of_ 38 5 37, ol_ 39 38, oo_ 40 (.len false (.t 39)), oo_ 41 (.mv (.c (.int .i64 0)))]) (.block 1 (.loop (.seq (.reg [oo_ 42 (.bin .lss (.t 41) (.t 40))]) (.seq (.cond (.t 42) .skip (.exit 1)) (.seq (.block 2 (.seq (.reg [om_ 43 41, om_ 8 43]) (.seq (.reg [om_ 44 0, om_ 45 8, oo_ 46 (.call 120 [(.t 44), (.t 45)]), om_ 9 46]) (.seq (.reg [om_ 47 9, oo_ 48 (.bin .neq (.t 47) (.c (.int .i64 0)))]) (.cond (.t 48) (.seq (.reg [om_ 49 9, om_ 2 49]) .ret) .skip))))) (.reg [oo_ 50 (.bin .add (.t 41) (.c (.int .i64 1))), om_ 41 50]))))))) (.seq (.reg [oo_ 2 (.mv (.c (.int .i64 0)))]) .ret)))))
theorem types_look_items.code : comp PG [] (Tryz.f70.body.getD .skip) = types_look_items.c := by kernel_rfl
theorem types_look_items.of : OfE PG 70 1 types_look_items.c [(.t 2)] := fnE (nt := 51) mixed Tryz.func70 types_look_items.code (by kernel_rfl) (by kernel_rfl) (by kernel_rfl) (by kernel_rfl) (by kernel_rfl) (by kernel_rfl)
def types_look_deep.n : Nat := 71
noncomputable def types_look_deep.c : C := (.seq (.reg [oo_ 2 (.mv (.c (.int .i64 0)))]) (.seq (.seq (.dreg [om_ 3 0, oo_ 4 (.nilck (.t 3)), of_ 5 0 4, ol_ 6 5, om_ 7 0, oo_ 8 (.nilck (.t 7)), of_ 9 1 8, ol_ 10 9] [oo_ 11 (.call 121 [(.t 6), (.t 10)]), oo_ 12 (.bin .gtr (.t 11) (.c (.int .i64 6)))]) (.cond (.t 12) (.seq (.reg [oo_ 2 (.mv (.c (.int .i64 9)))]) .ret) .skip)) (.seq (.reg [oo_ 2 (.mv (.c (.int .i64 0)))]) .ret)))
theorem types_look_deep.code : comp PG [] (Tryz.f71.body.getD .skip) = types_look_deep.c := by kernel_rfl
theorem types_look_deep.of : OfE PG 71 1 types_look_deep.c [(.t 2)] := fnE (nt := 13) mixed Tryz.func71 types_look_deep.code (by kernel_rfl) (by kernel_rfl) (by kernel_rfl) (by kernel_rfl) (by kernel_rfl) (by kernel_rfl)
def prim_Number.n : Nat := 77
noncomputable def prim_Number.c : C := (.seq (.reg [oo_ 2 (.mv (.c (.bool false)))]) (.seq (.reg [om_ 3 0, oo_ 4 (.bin .geq (.t 3) (.c (.int .i64 1))), om_ 5 4, og_ 6 5 true (.mv (.t 0)), og_ 7 5 true (.bin .leq (.t 6) (.c (.int .i64 9))), oo_ 8 (.pick (.t 5) (.t 7) (.c (.bool false))), om_ 2 8]) .ret))
theorem prim_Number.code : comp PG [] (Tryz.f77.body.getD .skip) = prim_Number.c := by kernel_rfl
theorem prim_Number.of : OfE PG 77 1 prim_Number.c [(.t 2)] := fnE (nt := 9) mixed Tryz.func77 prim_Number.code (by kernel_rfl) (by kernel_rfl) (by kernel_rfl) (by kernel_rfl) (by kernel_rfl) (by kernel_rfl)
def types_find.n : Nat := 78
noncomputable def types_find.c : C := (.seq (.reg [oo_ 8 (.mv (.c (.int .i64 0))), oo_ 9 (.mv (.c (.bool false)))]) (.seq (.seq (.reg [om_ 12 1, oo_ 13 (.bin .lss (.t 12) (.c (.int .i64 0))), om_ 14 13, og_ 15 14 false (.mv (.t 1)), og_ 16 14 false (.mv (.t 0)), og_ 17 14 false (.len false (.t 16)), og_ 18 14 false (.bin .geq (.t 15) (.t 17)), oo_ 19 (.pick (.t 14) (.c (.bool true)) (.t 18)), om_ 20 19, og_ 21 20 false (.mv (.t 2)), og_ 22 20 false (.mv (.t 0)), og_ 23 20 false (.mv (.t 1)), og_ 24 20 false (.iaddr 6 (.t 22) (.t 23)), og_ 25 20 false (.faddr 0 (.t 24)), og_ 26 20 false (.load none (.t 25)), og_ 27 20 false (.callv (.t 21) [(.t 26)]), og_ 28 20 false (.un .not (.t 27)), oo_ 29 (.pick (.t 20) (.c (.bool true)) (.t 28))]) (.cond (.t 29) (.seq (.reg [oo_ 8 (.mv (.c (.int .i64 0))), oo_ 9 (.mv (.c (.bool false)))]) .ret) .skip)) (.seq (.seq (.reg [om_ 30 0, om_ 31 1, oo_ 32 (.iaddr 6 (.t 30) (.t 31)), of_ 33 5 32, ol_ 34 33, oo_ 35 (.len false (.t 34)), oo_ 36 (.mv (.c (.int .i64 0)))]) (.block 0 (.loop (.seq (.reg [oo_ 37 (.bin .lss (.t 36) (.t 35))]) (.seq (.cond (.t 37) .skip (.exit 0)) (.seq (.block 1 (.seq (.reg [om_ 38 36, oo_ 39 (.iaddr 5 (.t 34) (.t 36)), oo_ 40 (.load (some 5) (.t 39)), oo_ 11 (.allc 70 [(.str []), (.int .u64 0), (.int .i64 0), (.bool false), (.bool false)]), om_ 10 38, os_ (.store 5 (.t 11) (.t 40))]) (.seq (.reg [om_ 41 3, oo_ 42 (.load (some 5) (.t 11)), oo_ 43 (.callv (.t 41) [(.t 42)])]) (.cond (.t 43) (.seq (.reg [om_ 44 10, om_ 8 44, oo_ 9 (.mv (.c (.bool true)))]) .ret) .skip)))) (.reg [oo_ 45 (.bin .add (.t 36) (.c (.int .i64 1))), om_ 36 45]))))))) (.seq (.reg [oo_ 8 (.mv (.c (.int .i64 0))), oo_ 9 (.mv (.c (.bool false)))]) .ret))))
theorem types_find.code : comp PG [] (Tryz.f78.body.getD .skip) = types_find.c := by kernel_rfl
theorem types_find.of : OfE PG 78 4 types_find.c [(.t 8), (.t 9)] := fnE (nt := 46) mixed Tryz.func78 types_find.code (by kernel_rfl) (by kernel_rfl) (by kernel_rfl) (by kernel_rfl) (by kernel_rfl) (by kernel_rfl)
def types_Item_1.n : Nat := 79
noncomputable def types_Item_1.c : C := (.seq (.reg [oo_ 2 (.mv (.c (.bool false)))]) (.seq (.reg [om_ 8 0, oo_ 9 (.call 80 [(.t 8)]), om_ 7 9, oo_ 10 (.extr (.t 7) 0), oo_ 11 (.extr (.t 7) 1), oo_ 12 (.extr (.t 7) 2), oo_ 13 (.extr (.t 7) 3), om_ 3 10, om_ 4 11, om_ 5 12, om_ 6 13]) (.seq (.reg [om_ 14 3, om_ 2 14]) .ret)))
theorem types_Item_1.code : comp PG [] (Tryz.f79.body.getD .skip) = types_Item_1.c := by kernel_rfl
theorem types_Item_1.of : OfE PG 79 1 types_Item_1.c [(.t 2)] := fnE (nt := 15) mixed Tryz.func79 types_Item_1.code (by kernel_rfl) (by kernel_rfl) (by kernel_rfl) (by kernel_rfl) (by kernel_rfl) (by kernel_rfl)
def types_has.n : Nat := 80
noncomputable def types_has.c : C := (.seq (.reg [oo_ 2 (.mv (.c (.bool false))), oo_ 3 (.mv (.c (.bool false))), oo_ 4 (.mv (.c (.bool false))), oo_ 5 (.mv (.c (.bool false)))]) (.seq (.seq (.reg [om_ 6 0]) (.block 0 (.seq (.reg [oo_ 8 (.bin .eql (.t 6) (.c (.int .i64 10))), om_ 7 8]) (.cond (.t 7) (.reg [oo_ 3 (.mv (.c (.bool true)))]) (.seq (.seq (.reg [oo_ 10 (.bin .eql (.t 6) (.c (.int .i64 11))), om_ 9 10]) (.cond (.t 9) .skip (.reg [oo_ 11 (.bin .eql (.t 6) (.c (.int .i64 12))), om_ 9 11]))) (.cond (.t 9) (.reg [oo_ 3 (.mv (.c (.bool true))), oo_ 4 (.mv (.c (.bool true)))]) (.seq (.seq (.reg [oo_ 13 (.bin .eql (.t 6) (.c (.int .i64 9))), om_ 12 13]) (.cond (.t 12) .skip (.reg [oo_ 14 (.bin .eql (.t 6) (.c (.int .i64 13))), om_ 12 14]))) (.cond (.t 12) (.reg [oo_ 2 (.mv (.c (.bool true)))]) (.seq (.reg [oo_ 16 (.bin .eql (.t 6) (.c (.int .i64 14))), om_ 15 16]) (.cond (.t 15) (.reg [oo_ 2 (.mv (.c (.bool true))), oo_ 5 (.mv (.c (.bool true)))]) .skip)))))))))) (.seq (.reg [om_ 17 2, om_ 18 3, om_ 19 4, om_ 20 5, om_ 2 17, om_ 3 18, om_ 4 19, om_ 5 20]) .ret)))
theorem types_has.code : comp PG [] (Tryz.f80.body.getD .skip) = types_has.c := by kernel_rfl
theorem types_has.of : OfE PG 80 1 types_has.c [(.t 2), (.t 3), (.t 4), (.t 5)] := fnE (nt := 21) mixed Tryz.func80 types_has.code (by kernel_rfl) (by kernel_rfl) (by kernel_rfl) (by kernel_rfl) (by kernel_rfl) (by kernel_rfl)
def types_Item_2.n : Nat := 81
noncomputable def types_Item_2.c : C := (.seq (.reg [oo_ 2 (.box 70 (.t 0)), oo_ 3 (.mv (.c (.bool false)))]) (.seq (.reg [of_ 4 0 2, ol_ 5 4, ol_ 6 1, oo_ 7 (.bin .eql (.t 5) (.t 6)), om_ 3 7]) .ret))
theorem types_Item_2.code : comp PG [] (Tryz.f81.body.getD .skip) = types_Item_2.c := by kernel_rfl
theorem types_Item_2.of' : OfL PG 81 8 types_Item_2.c [(.t 3)] := fnL mixed Tryz.func81 types_Item_2.code (by kernel_rfl) (by kernel_rfl) (by kernel_rfl) (by kernel_rfl) (by kernel_rfl)
def prim_Up.n : Nat := 82
noncomputable def prim_Up.c : C := (.seq (.reg [oo_ 4 (.mv (.c (.int .u64 0)))]) (.seq (.seq (.reg [om_ 5 0, oo_ 6 (.call 83 [(.t 5)])]) (.cond (.t 6) (.seq (.reg [om_ 7 1, om_ 8 0, oo_ 9 (.call 131 [(.t 8)]), oo_ 10 (.call 130 [(.t 7), (.t 9)]), om_ 4 10]) .ret) .skip)) (.seq (.reg [om_ 11 0, om_ 12 1, oo_ 13 (.call 132 [(.t 11), (.t 12)]), om_ 4 13]) .ret)))
theorem prim_Up.code : comp PG [] (Tryz.f82.body.getD .skip) = prim_Up.c := by kernel_rfl
theorem prim_Up.of : OfE PG 82 2 prim_Up.c [(.t 4)] := fnE (nt := 14) mixed Tryz.func82 prim_Up.code (by kernel_rfl) (by kernel_rfl) (by kernel_rfl) (by kernel_rfl) (by kernel_rfl) (by kernel_rfl)
def prim_Signed.n : Nat := 83
noncomputable def prim_Signed.c : C := (.seq (.reg [oo_ 2 (.mv (.c (.bool false)))]) (.seq (.reg [om_ 3 0, oo_ 4 (.call 133 [(.t 3)]), oo_ 5 (.field 1 none (.t 4)), om_ 2 5]) .ret))
theorem prim_Signed.code : comp PG [] (Tryz.f83.body.getD .skip) = prim_Signed.c := by kernel_rfl
theorem prim_Signed.of : OfE PG 83 1 prim_Signed.c [(.t 2)] := fnE (nt := 6) mixed Tryz.func83 prim_Signed.code (by kernel_rfl) (by kernel_rfl) (by kernel_rfl) (by kernel_rfl) (by kernel_rfl) (by kernel_rfl)
def name_Name.n : Nat := 118
noncomputable def name_Name.c : C := (.seq (.reg [oo_ 2 (.mv (.c (.bool false)))]) (.seq (.reg [om_ 3 0, oo_ 4 (.bin .neq (.t 3) (.c (.str []))), om_ 5 4, og_ 6 5 true (.mv (.t 0)), og_ 7 5 true (.len true (.t 6)), og_ 8 5 true (.bin .leq (.t 7) (.c (.int .i64 16))), oo_ 9 (.pick (.t 5) (.t 8) (.c (.bool false))), om_ 10 9, og_ 11 10 true (.mv (.t 0)), og_ 12 10 true (.call 148 [(.t 11)]), og_ 13 10 true (.mv (.t 0)), og_ 14 10 true (.len true (.t 13)), og_ 15 10 true (.bin .eql (.t 12) (.t 14)), oo_ 16 (.pick (.t 10) (.t 15) (.c (.bool false))), om_ 17 16, og_ 18 17 true (.mv (.t 0)), og_ 19 17 true (.call 160 [(.t 18)]), og_ 20 17 true (.un .not (.t 19)), oo_ 21 (.pick (.t 17) (.t 20) (.c (.bool false))), om_ 2 21]) .ret))
theorem name_Name.code : comp PG [] (Tryz.f118.body.getD .skip) = name_Name.c := by kernel_rfl
theorem name_Name.of : OfE PG 118 1 name_Name.c [(.t 2)] := fnE (nt := 22) mixed Tryz.func118 name_Name.code (by kernel_rfl) (by kernel_rfl) (by kernel_rfl) (by kernel_rfl) (by kernel_rfl) (by kernel_rfl)
def types_parts.n : Nat := 119
noncomputable def types_parts.c : C := (.seq (.reg [oo_ 1 (.box 67 (.t 0)), oo_ 2 (.mv (.c .nilS))]) (.seq (.reg [oo_ 3 (.mv (.c .nilS))]) (.seq (.reg [of_ 11 0 1, ol_ 12 11, oo_ 13 (.call 80 [(.t 12)]), om_ 10 13, oo_ 14 (.extr (.t 10) 0), oo_ 15 (.extr (.t 10) 1), oo_ 16 (.extr (.t 10) 2), oo_ 17 (.extr (.t 10) 3), om_ 4 14, om_ 5 15, om_ 6 16, om_ 7 17]) (.seq (.seq (.reg [om_ 18 6]) (.cond (.t 18) (.reg [om_ 19 3, of_ 20 3 1, ol_ 21 20, oo_ 22 (.bslice 3 1 1 [(.int .i64 0)] [(0, (.t 21))]), oo_ 23 (.append 3 false 1 8 (.t 19) (.t 22)), om_ 3 23]) .skip)) (.seq (.seq (.reg [om_ 24 7]) (.cond (.t 24) (.reg [om_ 25 3, of_ 26 4 1, ol_ 27 26, oo_ 28 (.bslice 3 1 1 [(.int .i64 0)] [(0, (.t 27))]), oo_ 29 (.append 3 false 1 8 (.t 25) (.t 28)), om_ 3 29]) .skip)) (.seq (.seq (.reg [of_ 30 0 1, ol_ 31 30, oo_ 32 (.bin .eql (.t 31) (.c (.int .i64 13))), om_ 33 32, og_ 34 33 false (.faddr 0 (.t 1)), og_ 35 33 false (.load none (.t 34)), og_ 36 33 false (.bin .eql (.t 35) (.c (.int .i64 14))), oo_ 37 (.pick (.t 33) (.c (.bool true)) (.t 36))]) (.cond (.t 37) (.seq (.reg [of_ 38 5 1, ol_ 39 38, oo_ 40 (.len false (.t 39)), oo_ 41 (.mv (.c (.int .i64 0)))]) (.block 0 (.loop (.seq (.reg [oo_ 42 (.bin .lss (.t 41) (.t 40))]) (.seq (.cond (.t 42) .skip (.exit 0)) (.seq (.block 1 (.seq (.reg [oo_ 43 (.iaddr 5 (.t 39) (.t 41)), oo_ 44 (.load (some 5) (.t 43)), oo_ 9 (.allc 70 [(.str []), (.int .u64 0), (.int .i64 0), (.bool false), (.bool false)]), os_ (.store 5 (.t 9) (.t 44))]) (.reg [om_ 45 3, of_ 46 2 9, ol_ 47 46, oo_ 48 (.bslice 3 1 1 [(.int .i64 0)] [(0, (.t 47))]), oo_ 49 (.append 3 false 1 8 (.t 45) (.t 48)), om_ 3 49]))) (.reg [oo_ 50 (.bin .add (.t 41) (.c (.int .i64 1))), om_ 41 50]))))))) .skip)) (.seq (.reg [om_ 51 3, om_ 2 51]) .ret)))))))
theorem types_parts.code : comp PG [] (Tryz.f119.body.getD .skip) = types_parts.c := by kernel_rfl
theorem types_parts.of : OfE PG 119 1 types_parts.c [(.t 2)] := fnE (nt := 52) mixed Tryz.func119 types_parts.code (by kernel_rfl) (by kernel_rfl) (by kernel_rfl) (by kernel_rfl) (by kernel_rfl) (by kernel_rfl)
def types_look_item.n : Nat := 120
noncomputable def types_look_item.c : C := (.seq (.reg [oo_ 4 (.mv (.c (.int .i64 0)))]) (.seq (.reg [om_ 11 0, oo_ 12 (.nilck (.t 11)), of_ 13 2 12, of_ 14 5 13, ol_ 15 14, om_ 16 1, oo_ 17 (.iaddr 5 (.t 15) (.t 16)), oo_ 18 (.load (some 5) (.t 17)), oo_ 5 (.allc 70 [(.str []), (.int .u64 0), (.int .i64 0), (.bool false), (.bool false)]), os_ (.store 5 (.t 5) (.t 18))]) (.seq (.seq (.reg [of_ 19 0 5, ol_ 20 19, oo_ 21 (.call 118 [(.t 20)]), oo_ 22 (.un .not (.t 21))]) (.cond (.t 22) (.seq (.reg [oo_ 4 (.mv (.c (.int .i64 5)))]) .ret) .skip)) (.seq (.seq (.reg [om_ 23 0, oo_ 24 (.nilck (.t 23)), of_ 25 2 24, of_ 26 5 25, ol_ 27 26, om_ 28 1, oo_ 29 (.slice (some 5) (.t 27) none (some (.t 28))), oo_ 30 (.len false (.t 29)), oo_ 31 (.mv (.c (.int .i64 0)))]) (.block 0 (.loop (.seq (.reg [oo_ 32 (.bin .lss (.t 31) (.t 30))]) (.seq (.cond (.t 32) .skip (.exit 0)) (.seq (.block 1 (.seq (.reg [oo_ 33 (.iaddr 5 (.t 29) (.t 31)), oo_ 34 (.load (some 5) (.t 33)), oo_ 7 (.allc 70 [(.str []), (.int .u64 0), (.int .i64 0), (.bool false), (.bool false)]), os_ (.store 5 (.t 7) (.t 34))]) (.seq (.reg [of_ 35 0 7, ol_ 36 35, of_ 37 0 5, ol_ 38 37, oo_ 39 (.bin .eql (.t 36) (.t 38))]) (.cond (.t 39) (.seq (.reg [oo_ 4 (.mv (.c (.int .i64 6)))]) .ret) .skip)))) (.reg [oo_ 40 (.bin .add (.t 31) (.c (.int .i64 1))), om_ 31 40]))))))) (.seq (.block 2 (.seq (.reg [om_ 42 0, oo_ 43 (.nilck (.t 42)), of_ 44 2 43, of_ 45 0 44, ol_ 46 45, oo_ 47 (.bin .eql (.t 46) (.c (.int .i64 13))), om_ 41 47]) (.cond (.t 41) (.seq (.seq (.dreg [om_ 48 0, oo_ 49 (.nilck (.t 48)), of_ 50 0 49, ol_ 51 50, of_ 52 2 5, ol_ 53 52] [oo_ 54 (.iaddr 6 (.t 51) (.t 53)), of_ 55 0 54, ol_ 56 55, om_ 8 56]) (.seq (.reg [of_ 57 3 5, ol_ 58 57, om_ 59 58, og_ 60 59 true (.mv (.t 8)), og_ 61 59 true (.call 77 [(.t 60)]), og_ 62 59 true (.un .not (.t 61)), oo_ 63 (.pick (.t 59) (.t 62) (.c (.bool false))), om_ 64 63, og_ 65 64 true (.mv (.t 8)), og_ 66 64 true (.bin .neq (.t 65) (.c (.int .i64 10))), oo_ 67 (.pick (.t 64) (.t 66) (.c (.bool false)))]) (.cond (.t 67) (.seq (.reg [oo_ 4 (.mv (.c (.int .i64 17)))]) .ret) .skip))) (.seq (.reg [oo_ 4 (.mv (.c (.int .i64 0)))]) .ret)) (.seq (.reg [of_ 69 4 5, ol_ 70 69, om_ 71 70, og_ 72 71 true (.mv (.t 1)), og_ 73 71 true (.mv (.t 0)), og_ 74 71 true (.nilck (.t 73)), og_ 75 71 true (.faddr 2 (.t 74)), og_ 76 71 true (.faddr 5 (.t 75)), og_ 77 71 true (.load none (.t 76)), og_ 78 71 true (.len false (.t 77)), og_ 79 71 true (.bin .sub (.t 78) (.c (.int .i64 1))), og_ 80 71 true (.bin .neq (.t 72) (.t 79)), oo_ 81 (.pick (.t 71) (.t 80) (.c (.bool false))), om_ 68 81]) (.cond (.t 68) (.seq (.reg [oo_ 4 (.mv (.c (.int .i64 14)))]) .ret) (.seq (.reg [of_ 83 4 5, ol_ 84 83, om_ 82 84]) (.cond (.t 82) (.seq (.reg [oo_ 4 (.mv (.c (.int .i64 0)))]) .ret) (.seq (.reg [om_ 86 0, of_ 87 1 5, ol_ 88 87, oo_ 89 (.call 161 [(.t 86), (.t 88)]), oo_ 90 (.un .not (.t 89)), om_ 85 90]) (.cond (.t 85) (.seq (.reg [oo_ 4 (.mv (.c (.int .i64 7)))]) .ret) .skip))))))))) (.seq (.seq (.reg [om_ 91 0, oo_ 92 (.nilck (.t 91)), of_ 93 2 92, of_ 94 5 93, ol_ 95 94, om_ 96 1, oo_ 97 (.slice (some 5) (.t 95) none (some (.t 96))), oo_ 98 (.len false (.t 97)), oo_ 99 (.mv (.c (.int .i64 0)))]) (.block 3 (.loop (.seq (.reg [oo_ 100 (.bin .lss (.t 99) (.t 98))]) (.seq (.cond (.t 100) .skip (.exit 3)) (.seq (.block 4 (.seq (.reg [oo_ 101 (.iaddr 5 (.t 97) (.t 99)), oo_ 102 (.load (some 5) (.t 101)), oo_ 10 (.allc 70 [(.str []), (.int .u64 0), (.int .i64 0), (.bool false), (.bool false)]), os_ (.store 5 (.t 10) (.t 102))]) (.seq (.reg [of_ 103 1 10, ol_ 104 103, of_ 105 1 5, ol_ 106 105, oo_ 107 (.bin .eql (.t 104) (.t 106))]) (.cond (.t 107) (.seq (.reg [oo_ 4 (.mv (.c (.int .i64 6)))]) .ret) .skip)))) (.reg [oo_ 108 (.bin .add (.t 99) (.c (.int .i64 1))), om_ 99 108]))))))) (.seq (.reg [oo_ 4 (.mv (.c (.int .i64 0)))]) .ret)))))))
theorem types_look_item.code : comp PG [] (Tryz.f120.body.getD .skip) = types_look_item.c := by kernel_rfl
theorem types_look_item.of : OfE PG 120 2 types_look_item.c [(.t 4)] := fnE (nt := 109) mixed Tryz.func120 types_look_item.code (by kernel_rfl) (by kernel_rfl) (by kernel_rfl) (by kernel_rfl) (by kernel_rfl) (by kernel_rfl)
def types_Deep.n : Nat := 121
noncomputable def types_Deep.c : C := (.seq (.reg [oo_ 4 (.mv (.c (.int .i64 0)))]) (.seq (.seq (.reg [om_ 9 1, oo_ 10 (.bin .lss (.t 9) (.c (.int .i64 0))), om_ 11 10, og_ 12 11 false (.mv (.t 1)), og_ 13 11 false (.mv (.t 0)), og_ 14 11 false (.len false (.t 13)), og_ 15 11 false (.bin .geq (.t 12) (.t 14)), oo_ 16 (.pick (.t 11) (.c (.bool true)) (.t 15))]) (.cond (.t 16) (.seq (.reg [oo_ 4 (.mv (.c (.int .i64 0)))]) .ret) .skip)) (.seq (.reg [om_ 17 1, oo_ 18 (.bin .add (.t 17) (.c (.int .i64 1))), oo_ 19 (.mks 3 1 8 [(.int .i64 0)] (.t 18)), om_ 5 19]) (.seq (.seq (.reg [om_ 20 5, oo_ 21 (.len false (.t 20)), oo_ 22 (.mv (.c (.int .i64 0)))]) (.block 0 (.loop (.seq (.reg [oo_ 23 (.bin .lss (.t 22) (.t 21))]) (.seq (.cond (.t 23) .skip (.exit 0)) (.seq (.block 1 (.seq (.reg [om_ 24 22, om_ 6 24]) (.seq (.reg [om_ 25 5, om_ 26 6, oo_ 27 (.iaddr 1 (.t 25) (.t 26)), os_ (.store 1 (.t 27) (.c (.int .i64 1)))]) (.seq (.reg [om_ 28 0, om_ 29 6, oo_ 30 (.iaddr 6 (.t 28) (.t 29)), oo_ 31 (.load (some 6) (.t 30)), oo_ 32 (.call 119 [(.t 31)]), oo_ 33 (.len false (.t 32)), oo_ 34 (.mv (.c (.int .i64 0)))]) (.block 2 (.loop (.seq (.reg [oo_ 35 (.bin .lss (.t 34) (.t 33))]) (.seq (.cond (.t 35) .skip (.exit 2)) (.seq (.block 3 (.seq (.reg [oo_ 36 (.iaddr 1 (.t 32) (.t 34)), ol_ 37 36, om_ 8 37]) (.seq (.reg [om_ 38 8, oo_ 39 (.bin .geq (.t 38) (.c (.int .i64 0))), om_ 40 39, og_ 41 40 true (.mv (.t 8)), og_ 42 40 true (.mv (.t 6)), og_ 43 40 true (.bin .lss (.t 41) (.t 42)), oo_ 44 (.pick (.t 40) (.t 43) (.c (.bool false)))]) (.cond (.t 44) (.dreg [om_ 45 5, om_ 46 6, om_ 47 5, om_ 48 6, oo_ 49 (.iaddr 1 (.t 47) (.t 48)), ol_ 50 49, om_ 51 5, om_ 52 8, oo_ 53 (.iaddr 1 (.t 51) (.t 52)), ol_ 54 53, oo_ 55 (.bin .add (.t 54) (.c (.int .i64 1))), oo_ 56 (.mm true [(.t 50), (.t 55)])] [oo_ 57 (.iaddr 1 (.t 45) (.t 46)), os_ (.store 1 (.t 57) (.t 56))]) .skip)))) (.reg [oo_ 58 (.bin .add (.t 34) (.c (.int .i64 1))), om_ 34 58])))))))))) (.reg [oo_ 59 (.bin .add (.t 22) (.c (.int .i64 1))), om_ 22 59]))))))) (.seq (.reg [om_ 60 5, om_ 61 1, oo_ 62 (.iaddr 1 (.t 60) (.t 61)), ol_ 63 62, om_ 4 63]) .ret)))))
theorem types_Deep.code : comp PG [] (Tryz.f121.body.getD .skip) = types_Deep.c := by kernel_rfl
theorem types_Deep.of : OfE PG 121 2 types_Deep.c [(.t 4)] := fnE (nt := 64) mixed Tryz.func121 types_Deep.code (by kernel_rfl) (by kernel_rfl) (by kernel_rfl) (by kernel_rfl) (by kernel_rfl) (by kernel_rfl)
def word_Wide.n : Nat := 130
noncomputable def word_Wide.c : C := (.seq (.reg [oo_ 4 (.mv (.c (.int .u64 0)))]) (.seq (.reg [om_ 5 0, om_ 6 1, oo_ 7 (.call 166 [(.t 5), (.t 6)]), oo_ 8 (.conv .u64 (.t 7)), om_ 4 8]) .ret))
theorem word_Wide.code : comp PG [] (Tryz.f130.body.getD .skip) = word_Wide.c := by kernel_rfl
theorem word_Wide.of : OfE PG 130 2 word_Wide.c [(.t 4)] := fnE (nt := 9) mixed Tryz.func130 word_Wide.code (by kernel_rfl) (by kernel_rfl) (by kernel_rfl) (by kernel_rfl) (by kernel_rfl) (by kernel_rfl)
def prim_Size.n : Nat := 131
noncomputable def prim_Size.c : C := (.seq (.reg [oo_ 2 (.mv (.c (.int .i64 0)))]) (.seq (.reg [om_ 3 0, oo_ 4 (.call 133 [(.t 3)]), oo_ 5 (.field 0 none (.t 4)), om_ 2 5]) .ret))
theorem prim_Size.code : comp PG [] (Tryz.f131.body.getD .skip) = prim_Size.c := by kernel_rfl
theorem prim_Size.of : OfE PG 131 1 prim_Size.c [(.t 2)] := fnE (nt := 6) mixed Tryz.func131 prim_Size.code (by kernel_rfl) (by kernel_rfl) (by kernel_rfl) (by kernel_rfl) (by kernel_rfl) (by kernel_rfl)
def prim_Low.n : Nat := 132
noncomputable def prim_Low.c : C := (.seq (.reg [oo_ 4 (.mv (.c (.int .u64 0)))]) (.seq (.reg [om_ 7 0, oo_ 8 (.call 131 [(.t 7)]), om_ 5 8]) (.seq (.seq (.reg [om_ 9 5, oo_ 10 (.bin .eql (.t 9) (.c (.int .i64 0)))]) (.cond (.t 10) (.seq (.reg [oo_ 4 (.mv (.c (.int .u64 0)))]) .ret) .skip)) (.seq (.reg [om_ 11 5, oo_ 12 (.bin .mul (.c (.int .i64 8)) (.t 11)), oo_ 13 (.bin .sub (.c (.int .i64 64)) (.t 12)), oo_ 14 (.conv .u64 (.t 13)), om_ 6 14]) (.seq (.reg [om_ 15 1, om_ 16 6, oo_ 17 (.bin .shl (.t 15) (.t 16)), om_ 18 6, oo_ 19 (.bin .shr (.t 17) (.t 18)), om_ 4 19]) .ret)))))
theorem prim_Low.code : comp PG [] (Tryz.f132.body.getD .skip) = prim_Low.c := by kernel_rfl
theorem prim_Low.of : OfE PG 132 2 prim_Low.c [(.t 4)] := fnE (nt := 20) mixed Tryz.func132 prim_Low.code (by kernel_rfl) (by kernel_rfl) (by kernel_rfl) (by kernel_rfl) (by kernel_rfl) (by kernel_rfl)
def prim_rows.n : Nat := 133
noncomputable def prim_rows.c : C := (.seq (.reg [oo_ 2 (.allc 181 [(.int .i64 0), (.bool false)])]) (.seq (.reg [oo_ 4 (.build [(.int .i64 0), (.bool false)] [(0, (1, (.c (.int .i64 1)))), (1, (1, (.c (.bool false))))]), oo_ 5 (.build [(.int .i64 0), (.bool false)] [(0, (1, (.c (.int .i64 1)))), (1, (1, (.c (.bool false))))]), oo_ 6 (.build [(.int .i64 0), (.bool false)] [(0, (1, (.c (.int .i64 2)))), (1, (1, (.c (.bool true))))]), oo_ 7 (.build [(.int .i64 0), (.bool false)] [(0, (1, (.c (.int .i64 2)))), (1, (1, (.c (.bool false))))]), oo_ 8 (.build [(.int .i64 0), (.bool false)] [(0, (1, (.c (.int .i64 4)))), (1, (1, (.c (.bool true))))]), oo_ 9 (.build [(.int .i64 0), (.bool false)] [(0, (1, (.c (.int .i64 4)))), (1, (1, (.c (.bool false))))]), oo_ 10 (.build [(.int .i64 0), (.bool false)] [(0, (1, (.c (.int .i64 8)))), (1, (1, (.c (.bool true))))]), oo_ 11 (.build [(.int .i64 0), (.bool false)] [(0, (1, (.c (.int .i64 8)))), (1, (1, (.c (.bool false))))]), oo_ 12 (.build [(.int .i64 0), (.bool false)] [(0, (1, (.c (.int .i64 4)))), (1, (1, (.c (.bool true))))]), oo_ 13 (.build [(.int .i64 0), (.bool false), (.int .i64 0), (.bool false), (.int .i64 0), (.bool false), (.int .i64 0), (.bool false), (.int .i64 0), (.bool false), (.int .i64 0), (.bool false), (.int .i64 0), (.bool false), (.int .i64 0), (.bool false), (.int .i64 0), (.bool false), (.int .i64 0), (.bool false)] [(2, (2, (.t 4))), (4, (2, (.t 5))), (6, (2, (.t 6))), (8, (2, (.t 7))), (10, (2, (.t 8))), (12, (2, (.t 9))), (14, (2, (.t 10))), (16, (2, (.t 11))), (18, (2, (.t 12)))]), oo_ 3 (.allc 213 [(.int .i64 0), (.bool false), (.int .i64 0), (.bool false), (.int .i64 0), (.bool false), (.int .i64 0), (.bool false), (.int .i64 0), (.bool false), (.int .i64 0), (.bool false), (.int .i64 0), (.bool false), (.int .i64 0), (.bool false), (.int .i64 0), (.bool false), (.int .i64 0), (.bool false)]), os_ (.store 20 (.t 3) (.t 13))]) (.seq (.seq (.reg [om_ 14 0, oo_ 15 (.call 77 [(.t 14)]), oo_ 16 (.un .not (.t 15))]) (.cond (.t 16) (.seq (.reg [oo_ 17 (.build [(.int .i64 0), (.bool false)] []), os_ (.store 2 (.t 2) (.t 17))]) .ret) .skip)) (.seq (.reg [om_ 18 0, oo_ 19 (.iarr 10 2 (.t 3) (.t 18)), oo_ 20 (.load (some 2) (.t 19)), os_ (.store 2 (.t 2) (.t 20))]) .ret))))
theorem prim_rows.code : comp PG [] (Tryz.f133.body.getD .skip) = prim_rows.c := by kernel_rfl
theorem prim_rows.of : OfE PG 133 1 prim_rows.c [(.cell 2 (some 2))] := fnE (nt := 21) mixed Tryz.func133 prim_rows.code (by kernel_rfl) (by kernel_rfl) (by kernel_rfl) (by kernel_rfl) (by kernel_rfl) (by kernel_rfl)
def types_look_may.n : Nat := 161
noncomputable def types_look_may.c : C := (.seq (.reg [oo_ 4 (.mv (.c (.bool false)))]) (.seq (.seq (.reg [om_ 8 0, oo_ 9 (.nilck (.t 8)), of_ 10 2 9, of_ 11 0 10, ol_ 12 11, oo_ 13 (.bin .eql (.t 12) (.c (.int .i64 9)))]) (.cond (.t 13) (.seq (.reg [om_ 14 1, oo_ 15 (.call 196 [(.c (.int .i64 9)), (.t 14)]), om_ 4 15]) .ret) .skip)) (.seq (.dreg [om_ 16 0, oo_ 17 (.nilck (.t 16)), of_ 18 0 17, ol_ 19 18, om_ 20 0, oo_ 21 (.nilck (.t 20)), of_ 22 2 21, of_ 23 4 22, ol_ 24 23, oo_ 25 (.iaddr 6 (.t 19) (.t 24)), oo_ 26 (.load (some 6) (.t 25)), oo_ 5 (.allc 67 [(.int .i64 0), (.str []), (.int .i64 0), (.int .i64 0), (.int .i64 0), .nilS])] [os_ (.store 6 (.t 5) (.t 26))]) (.seq (.seq (.reg [of_ 27 0 5, ol_ 28 27, oo_ 29 (.bin .eql (.t 28) (.c (.int .i64 9)))]) (.cond (.t 29) (.seq (.dreg [om_ 31 0, oo_ 32 (.nilck (.t 31)), of_ 33 0 32, ol_ 34 33, om_ 35 0, oo_ 36 (.nilck (.t 35)), of_ 37 2 36, of_ 38 4 37, ol_ 39 38, om_ 40 1, oo_ 41 (.call 197 [(.t 34), (.t 39), (.t 40)]), om_ 30 41, oo_ 42 (.extr (.t 30) 0), oo_ 43 (.extr (.t 30) 1), om_ 6 42] [om_ 7 43]) (.seq (.reg [om_ 44 7, om_ 4 44]) .ret)) .skip)) (.seq (.reg [of_ 45 0 5, ol_ 46 45, om_ 47 1, oo_ 48 (.call 196 [(.t 46), (.t 47)]), om_ 4 48]) .ret)))))
theorem types_look_may.code : comp PG [] (Tryz.f161.body.getD .skip) = types_look_may.c := by kernel_rfl
theorem types_look_may.of : OfE PG 161 2 types_look_may.c [(.t 4)] := fnE (nt := 49) mixed Tryz.func161 types_look_may.code (by kernel_rfl) (by kernel_rfl) (by kernel_rfl) (by kernel_rfl) (by kernel_rfl) (by kernel_rfl)
def word_Sign.n : Nat := 166
noncomputable def word_Sign.c : C := (.seq (.reg [oo_ 4 (.mv (.c (.int .i64 0)))]) (.seq (.seq (.reg [om_ 6 1, oo_ 7 (.call 201 [(.t 6)]), oo_ 8 (.un .not (.t 7))]) (.cond (.t 8) (.seq (.reg [oo_ 4 (.mv (.c (.int .i64 0)))]) .ret) .skip)) (.seq (.reg [om_ 9 1, oo_ 10 (.bin .mul (.c (.int .i64 8)) (.t 9)), oo_ 11 (.bin .sub (.c (.int .i64 64)) (.t 10)), oo_ 12 (.conv .u64 (.t 11)), om_ 5 12]) (.seq (.reg [om_ 13 0, om_ 14 5, oo_ 15 (.bin .shl (.t 13) (.t 14)), oo_ 16 (.conv .i64 (.t 15)), om_ 17 5, oo_ 18 (.bin .shr (.t 16) (.t 17)), om_ 4 18]) .ret))))
theorem word_Sign.code : comp PG [] (Tryz.f166.body.getD .skip) = word_Sign.c := by kernel_rfl
theorem word_Sign.of : OfE PG 166 2 word_Sign.c [(.t 4)] := fnE (nt := 19) mixed Tryz.func166 word_Sign.code (by kernel_rfl) (by kernel_rfl) (by kernel_rfl) (by kernel_rfl) (by kernel_rfl) (by kernel_rfl)
def prim_May.n : Nat := 196
noncomputable def prim_May.c : C := (.seq (.reg [oo_ 4 (.mv (.c (.bool false)))]) (.seq (.reg [om_ 5 0, oo_ 6 (.call 77 [(.t 5)]), om_ 7 6, og_ 8 7 true (.mv (.t 0)), og_ 9 7 true (.mv (.t 1)), og_ 10 7 true (.call 82 [(.t 8), (.t 9)]), og_ 11 7 true (.mv (.t 1)), og_ 12 7 true (.bin .eql (.t 10) (.t 11)), oo_ 13 (.pick (.t 7) (.t 12) (.c (.bool false))), om_ 14 13, og_ 15 14 true (.mv (.t 0)), og_ 16 14 true (.bin .neq (.t 15) (.c (.int .i64 1))), og_ 17 14 true (.mv (.t 16)), og_ 18 17 false (.mv (.t 1)), og_ 19 17 false (.bin .leq (.t 18) (.c (.int .u64 1))), og_ 20 14 true (.pick (.t 17) (.c (.bool true)) (.t 19)), oo_ 21 (.pick (.t 14) (.t 20) (.c (.bool false))), om_ 4 21]) .ret))
theorem prim_May.code : comp PG [] (Tryz.f196.body.getD .skip) = prim_May.c := by kernel_rfl
theorem prim_May.of : OfE PG 196 2 prim_May.c [(.t 4)] := fnE (nt := 22) mixed Tryz.func196 prim_May.code (by kernel_rfl) (by kernel_rfl) (by kernel_rfl) (by kernel_rfl) (by kernel_rfl) (by kernel_rfl)
def types_Value.n : Nat := 197
noncomputable def types_Value.c : C := (.seq (.reg [oo_ 5 (.box 33 (.t 2)), oo_ 6 (.mv (.c (.int .i64 0))), oo_ 7 (.mv (.c (.bool false)))]) (.seq (.reg [om_ 8 0, om_ 9 1, oo_ 10 (.mkfn 216 [] [(.t 5)]), oo_ 11 (.call 78 [(.t 8), (.t 9), (.c (.clo 215 [] [])), (.t 10)]), oo_ 12 (.extr (.t 11) 0), oo_ 13 (.extr (.t 11) 1), om_ 6 12, om_ 7 13]) .ret))
theorem types_Value.code : comp PG [] (Tryz.f197.body.getD .skip) = types_Value.c := by kernel_rfl
theorem types_Value.of : OfE PG 197 3 types_Value.c [(.t 6), (.t 7)] := fnE (nt := 14) mixed Tryz.func197 types_Value.code (by kernel_rfl) (by kernel_rfl) (by kernel_rfl) (by kernel_rfl) (by kernel_rfl) (by kernel_rfl)
def word_sized.n : Nat := 201
noncomputable def word_sized.c : C := (.seq (.reg [oo_ 2 (.mv (.c (.bool false)))]) (.seq (.reg [om_ 3 0, oo_ 4 (.bin .eql (.t 3) (.c (.int .i64 1))), om_ 5 4, og_ 6 5 false (.mv (.t 0)), og_ 7 5 false (.bin .eql (.t 6) (.c (.int .i64 2))), oo_ 8 (.pick (.t 5) (.c (.bool true)) (.t 7)), om_ 9 8, og_ 10 9 false (.mv (.t 0)), og_ 11 9 false (.bin .eql (.t 10) (.c (.int .i64 4))), oo_ 12 (.pick (.t 9) (.c (.bool true)) (.t 11)), om_ 13 12, og_ 14 13 false (.mv (.t 0)), og_ 15 13 false (.bin .eql (.t 14) (.c (.int .i64 8))), oo_ 16 (.pick (.t 13) (.c (.bool true)) (.t 15)), om_ 2 16]) .ret))
theorem word_sized.code : comp PG [] (Tryz.f201.body.getD .skip) = word_sized.c := by kernel_rfl
theorem word_sized.of : OfE PG 201 1 word_sized.c [(.t 2)] := fnE (nt := 17) mixed Tryz.func201 word_sized.code (by kernel_rfl) (by kernel_rfl) (by kernel_rfl) (by kernel_rfl) (by kernel_rfl) (by kernel_rfl)
def types_Value_1.n : Nat := 215
noncomputable def types_Value_1.c : C := (.seq (.reg [oo_ 2 (.mv (.c (.bool false)))]) (.seq (.reg [om_ 3 0, oo_ 4 (.bin .eql (.t 3) (.c (.int .i64 9))), om_ 2 4]) .ret))
theorem types_Value_1.code : comp PG [] (Tryz.f215.body.getD .skip) = types_Value_1.c := by kernel_rfl
theorem types_Value_1.of : OfE PG 215 1 types_Value_1.c [(.t 2)] := fnE (nt := 5) mixed Tryz.func215 types_Value_1.code (by kernel_rfl) (by kernel_rfl) (by kernel_rfl) (by kernel_rfl) (by kernel_rfl) (by kernel_rfl)
def types_Value_2.n : Nat := 216
noncomputable def types_Value_2.c : C := (.seq (.reg [oo_ 2 (.box 70 (.t 0)), oo_ 3 (.mv (.c (.bool false)))]) (.seq (.reg [of_ 4 1 2, ol_ 5 4, ol_ 6 1, oo_ 7 (.bin .eql (.t 5) (.t 6)), om_ 3 7]) .ret))
theorem types_Value_2.code : comp PG [] (Tryz.f216.body.getD .skip) = types_Value_2.c := by kernel_rfl
theorem types_Value_2.of' : OfL PG 216 8 types_Value_2.c [(.t 3)] := fnL mixed Tryz.func216 types_Value_2.code (by kernel_rfl) (by kernel_rfl) (by kernel_rfl) (by kernel_rfl) (by kernel_rfl)
end Go.Proofs.YtjaigpidmngaaaaGreat

namespace Go.Proofs.YtjaigpidmngaaaaGreat
set_option maxRecDepth 100000
def path_Find.n : Nat := 55
noncomputable def path_Find.c : C := (.seq (.reg [oo_ 3 (.box 22 (.t 0)), oo_ 4 (.box 3 (.t 1)), oo_ 6 (.allc 96 [.nilS]), oo_ 7 (.allc 3 [(.int .i64 0)]), oo_ 8 (.allc 30 [(.int .i64 0)])]) (.seq (.seq (.reg [ol_ 16 3, ol_ 17 4, oo_ 18 (.call 99 [(.t 16), (.t 17)]), oo_ 19 (.un .not (.t 18))]) (.cond (.t 19) (.seq (.reg [os_ (.store 1 (.t 6) (.c .nilS)), os_ (.store 1 (.t 7) (.c (.int .i64 0))), os_ (.store 1 (.t 8) (.c (.int .i64 8)))]) .ret) .skip)) (.seq (.seq (.reg [om_ 20 2, oo_ 21 (.call 100 [(.t 20)])]) (.block 0 (.rangeF (.t 21) [22, 23] (.reg [om_ 10 23]) (.block 1 (.seq (.reg [om_ 24 10, oo_ 25 (.un .not (.t 24))]) (.cond (.t 25) (.seq (.reg [os_ (.store 1 (.t 6) (.c .nilS)), os_ (.store 1 (.t 7) (.c (.int .i64 0))), os_ (.store 1 (.t 8) (.c (.int .i64 1)))]) .ret) .skip)))))) (.seq (.reg [oo_ 11 (.allc 96 [.nilS])]) (.seq (.seq (.reg [om_ 26 2, oo_ 27 (.call 100 [(.t 26)])]) (.block 2 (.rangeF (.t 27) [28, 29] (.reg [oo_ 12 (.allc 145 [(.str []), (.int .i64 0)]), os_ (.store 2 (.t 12) (.t 28))]) (.block 3 (.seq (.reg [ol_ 31 3, ol_ 32 4, oo_ 33 (.load (some 2) (.t 12)), oo_ 34 (.call 101 [(.t 31), (.t 32), (.t 33)]), om_ 30 34, oo_ 35 (.extr (.t 30) 0), oo_ 36 (.extr (.t 30) 1), oo_ 37 (.extr (.t 30) 2), oo_ 13 (.allc 147 [(.bool false), (.int .i64 0)]), os_ (.store 2 (.t 13) (.t 35)), om_ 14 36, om_ 15 37]) (.seq (.seq (.reg [om_ 38 15, oo_ 39 (.bin .neq (.t 38) (.c (.int .i64 0)))]) (.cond (.t 39) (.seq (.reg [om_ 40 15, os_ (.store 1 (.t 6) (.c .nilS)), os_ (.store 1 (.t 7) (.c (.int .i64 0))), os_ (.store 1 (.t 8) (.t 40))]) .ret) .skip)) (.reg [ol_ 41 11, oo_ 42 (.load (some 2) (.t 13)), oo_ 43 (.bslice 147 2 1 [(.bool false), (.int .i64 0)] [(0, (.t 42))]), oo_ 44 (.append 147 false 2 16 (.t 41) (.t 43)), om_ 45 14, os_ (.store 1 (.t 11) (.t 44)), os_ (.store 1 (.t 4) (.t 45))]))))))) (.seq (.dreg [ol_ 46 11, ol_ 47 4, os_ (.store 1 (.t 6) (.t 46))] [os_ (.store 1 (.t 7) (.t 47)), os_ (.store 1 (.t 8) (.c (.int .i64 0)))]) .ret))))))
theorem path_Find.code : comp PG [] (Tryz.f55.body.getD .skip) = path_Find.c := by kernel_rfl
theorem path_Find.of : OfE PG 55 3 path_Find.c [(.cell 6 none), (.cell 7 none), (.cell 8 none)] := fnE (nt := 48) mixed Tryz.func55 path_Find.code (by kernel_rfl) (by kernel_rfl) (by kernel_rfl) (by kernel_rfl) (by kernel_rfl) (by kernel_rfl)
def path_known.n : Nat := 99
noncomputable def path_known.c : C := (.seq (.reg [oo_ 4 (.mv (.c (.bool false)))]) (.seq (.reg [om_ 5 1, oo_ 6 (.bin .geq (.t 5) (.c (.int .i64 0))), om_ 7 6, og_ 8 7 true (.mv (.t 1)), og_ 9 7 true (.mv (.t 0)), og_ 10 7 true (.len false (.t 9)), og_ 11 7 true (.bin .lss (.t 8) (.t 10)), oo_ 12 (.pick (.t 7) (.t 11) (.c (.bool false))), om_ 13 12, og_ 14 13 true (.mv (.t 0)), og_ 15 13 true (.call 37 [(.t 14)]), og_ 16 13 true (.field 0 none (.t 15)), og_ 17 13 true (.bin .eql (.t 16) (.c (.int .i64 0))), oo_ 18 (.pick (.t 13) (.t 17) (.c (.bool false))), om_ 4 18]) .ret))
theorem path_known.code : comp PG [] (Tryz.f99.body.getD .skip) = path_known.c := by kernel_rfl
theorem path_known.of : OfE PG 99 2 path_known.c [(.t 4)] := fnE (nt := 19) mixed Tryz.func99 path_known.code (by kernel_rfl) (by kernel_rfl) (by kernel_rfl) (by kernel_rfl) (by kernel_rfl) (by kernel_rfl)
def path_pieces.n : Nat := 100
noncomputable def path_pieces.c : C := (.seq (.reg [oo_ 1 (.box 9 (.t 0)), oo_ 2 (.mv (.c .nilF))]) (.seq (.reg [oo_ 3 (.mkfn 145 [] [(.t 1)]), om_ 2 3]) .ret))
theorem path_pieces.code : comp PG [] (Tryz.f100.body.getD .skip) = path_pieces.c := by kernel_rfl
theorem path_pieces.of : OfE PG 100 1 path_pieces.c [(.t 2)] := fnE (nt := 4) mixed Tryz.func100 path_pieces.code (by kernel_rfl) (by kernel_rfl) (by kernel_rfl) (by kernel_rfl) (by kernel_rfl) (by kernel_rfl)
def path_step.n : Nat := 101
noncomputable def path_step.c : C := (.seq (.reg [oo_ 5 (.box 145 (.t 2)), oo_ 6 (.allc 147 [(.bool false), (.int .i64 0)]), oo_ 7 (.mv (.c (.int .i64 0))), oo_ 8 (.mv (.c (.int .i64 0)))]) (.seq (.reg [om_ 12 0, om_ 13 1, oo_ 14 (.iaddr 6 (.t 12) (.t 13)), oo_ 15 (.load (some 6) (.t 14)), oo_ 9 (.allc 67 [(.int .i64 0), (.str []), (.int .i64 0), (.int .i64 0), (.int .i64 0), .nilS]), os_ (.store 6 (.t 9) (.t 15))]) (.seq (.block 0 (.seq (.seq (.reg [of_ 17 0 5, ol_ 18 17, oo_ 19 (.bin .eql (.t 18) (.c (.str []))), om_ 20 19, og_ 21 20 true (.load (some 6) (.t 9)), og_ 22 20 true (.call 102 [(.t 21)]), og_ 23 20 true (.un .not (.t 22)), oo_ 24 (.pick (.t 20) (.t 23) (.c (.bool false))), om_ 16 24]) (.cond (.t 16) .skip (.reg [of_ 25 0 5, ol_ 26 25, oo_ 27 (.bin .neq (.t 26) (.c (.str []))), om_ 28 27, og_ 29 28 true (.load (some 6) (.t 9)), og_ 30 28 true (.call 103 [(.t 29)]), og_ 31 28 true (.un .not (.t 30)), oo_ 32 (.pick (.t 28) (.t 31) (.c (.bool false))), om_ 16 32]))) (.cond (.t 16) (.seq (.reg [oo_ 33 (.build [(.bool false), (.int .i64 0)] []), os_ (.store 2 (.t 6) (.t 33)), oo_ 7 (.mv (.c (.int .i64 0))), oo_ 8 (.mv (.c (.int .i64 4)))]) .ret) (.seq (.reg [of_ 35 0 5, ol_ 36 35, oo_ 37 (.bin .eql (.t 36) (.c (.str []))), om_ 38 37, og_ 39 38 true (.faddr 1 (.t 5)), og_ 40 38 true (.load none (.t 39)), og_ 41 38 true (.faddr 2 (.t 9)), og_ 42 38 true (.load none (.t 41)), og_ 43 38 true (.bin .geq (.t 40) (.t 42)), oo_ 44 (.pick (.t 38) (.t 43) (.c (.bool false))), om_ 34 44]) (.cond (.t 34) (.seq (.reg [oo_ 45 (.build [(.bool false), (.int .i64 0)] []), os_ (.store 2 (.t 6) (.t 45)), oo_ 7 (.mv (.c (.int .i64 0))), oo_ 8 (.mv (.c (.int .i64 7)))]) .ret) (.seq (.reg [of_ 47 0 5, ol_ 48 47, oo_ 49 (.bin .eql (.t 48) (.c (.str []))), om_ 46 49]) (.cond (.t 46) (.seq (.dreg [of_ 50 1 5, ol_ 51 50, oo_ 52 (.build [(.bool false), (.int .i64 0)] [(0, (1, (.c (.bool true)))), (1, (1, (.t 51)))]), of_ 53 3 9, ol_ 54 53, os_ (.store 2 (.t 6) (.t 52))] [om_ 7 54, oo_ 8 (.mv (.c (.int .i64 0)))]) .ret) .skip))))))) (.seq (.reg [om_ 56 0, om_ 57 1, of_ 58 0 5, ol_ 59 58, oo_ 60 (.call 42 [(.t 56), (.t 57), (.t 59)]), om_ 55 60, oo_ 61 (.extr (.t 55) 0), oo_ 62 (.extr (.t 55) 1), om_ 10 61, om_ 11 62]) (.seq (.seq (.reg [om_ 63 11, oo_ 64 (.un .not (.t 63))]) (.cond (.t 64) (.seq (.reg [oo_ 65 (.build [(.bool false), (.int .i64 0)] []), os_ (.store 2 (.t 6) (.t 65)), oo_ 7 (.mv (.c (.int .i64 0))), oo_ 8 (.mv (.c (.int .i64 5)))]) .ret) .skip)) (.seq (.dreg [om_ 66 10, oo_ 67 (.build [(.bool false), (.int .i64 0)] [(1, (1, (.t 66)))]), of_ 68 5 9, ol_ 69 68, om_ 70 10, oo_ 71 (.iaddr 5 (.t 69) (.t 70)), of_ 72 2 71, ol_ 73 72, os_ (.store 2 (.t 6) (.t 67))] [om_ 7 73, oo_ 8 (.mv (.c (.int .i64 0)))]) .ret))))))
theorem path_step.code : comp PG [] (Tryz.f101.body.getD .skip) = path_step.c := by kernel_rfl
theorem path_step.of : OfE PG 101 3 path_step.c [(.cell 6 (some 2)), (.t 7), (.t 8)] := fnE (nt := 74) mixed Tryz.func101 path_step.code (by kernel_rfl) (by kernel_rfl) (by kernel_rfl) (by kernel_rfl) (by kernel_rfl) (by kernel_rfl)
def path_elems.n : Nat := 102
noncomputable def path_elems.c : C := (.seq (.reg [oo_ 1 (.box 67 (.t 0)), oo_ 2 (.mv (.c (.bool false)))]) (.seq (.reg [of_ 3 0 1, ol_ 4 3, oo_ 5 (.bin .eql (.t 4) (.c (.int .i64 11))), om_ 6 5, og_ 7 6 false (.faddr 0 (.t 1)), og_ 8 6 false (.load none (.t 7)), og_ 9 6 false (.bin .eql (.t 8) (.c (.int .i64 12))), oo_ 10 (.pick (.t 6) (.c (.bool true)) (.t 9)), om_ 2 10]) .ret))
theorem path_elems.code : comp PG [] (Tryz.f102.body.getD .skip) = path_elems.c := by kernel_rfl
theorem path_elems.of : OfE PG 102 1 path_elems.c [(.t 2)] := fnE (nt := 11) mixed Tryz.func102 path_elems.code (by kernel_rfl) (by kernel_rfl) (by kernel_rfl) (by kernel_rfl) (by kernel_rfl) (by kernel_rfl)
def path_items.n : Nat := 103
noncomputable def path_items.c : C := (.seq (.reg [oo_ 1 (.box 67 (.t 0)), oo_ 2 (.mv (.c (.bool false)))]) (.seq (.reg [of_ 3 0 1, ol_ 4 3, oo_ 5 (.bin .eql (.t 4) (.c (.int .i64 13))), om_ 6 5, og_ 7 6 false (.faddr 0 (.t 1)), og_ 8 6 false (.load none (.t 7)), og_ 9 6 false (.bin .eql (.t 8) (.c (.int .i64 14))), oo_ 10 (.pick (.t 6) (.c (.bool true)) (.t 9)), om_ 2 10]) .ret))
theorem path_items.code : comp PG [] (Tryz.f103.body.getD .skip) = path_items.c := by kernel_rfl
theorem path_items.of : OfE PG 103 1 path_items.c [(.t 2)] := fnE (nt := 11) mixed Tryz.func103 path_items.code (by kernel_rfl) (by kernel_rfl) (by kernel_rfl) (by kernel_rfl) (by kernel_rfl) (by kernel_rfl)
def path_pieces_1.n : Nat := 145
noncomputable def path_pieces_1.c : C := (.seq (.reg [oo_ 3 (.mv (.c (.bool true)))]) (.block 0 (.loop (.seq (.seq (.reg [om_ 9 3, om_ 10 9, og_ 11 10 false (.load none (.t 1)), og_ 12 10 false (.bin .neq (.t 11) (.c (.str []))), oo_ 13 (.pick (.t 10) (.c (.bool true)) (.t 12))]) (.cond (.t 13) .skip (.exit 0))) (.block 1 (.seq (.seq (.reg [ol_ 15 1, oo_ 16 (.call 146 [(.t 15)]), om_ 14 16, oo_ 17 (.extr (.t 14) 0), oo_ 18 (.extr (.t 14) 1), om_ 4 17, om_ 5 18]) (.seq (.reg [om_ 19 5, oo_ 20 (.bin .gtr (.t 19) (.c (.int .i64 0)))]) (.cond (.t 20) (.seq (.seq (.reg [om_ 21 0, om_ 22 4, oo_ 23 (.build [(.str []), (.int .i64 0)] [(1, (1, (.t 22)))]), oo_ 24 (.callv (.t 21) [(.t 23), (.c (.bool true))]), oo_ 25 (.un .not (.t 24))]) (.cond (.t 25) .ret .skip)) (.seq (.reg [ol_ 26 1, om_ 27 5, oo_ 28 (.slice none (.t 26) (some (.t 27)) none), os_ (.store 1 (.t 1) (.t 28)), oo_ 3 (.mv (.c (.bool false)))]) (.exit 1))) .skip))) (.seq (.seq (.reg [om_ 29 3, oo_ 30 (.un .not (.t 29))]) (.cond (.t 30) (.seq (.reg [ol_ 32 1, oo_ 33 (.call 147 [(.t 32), (.c (.str [46]))]), om_ 31 33, oo_ 34 (.extr (.t 31) 0), oo_ 35 (.extr (.t 31) 1), om_ 6 34, om_ 7 35]) (.seq (.seq (.reg [om_ 36 7, oo_ 37 (.un .not (.t 36))]) (.cond (.t 37) (.seq (.reg [om_ 38 0, oo_ 39 (.build [(.str []), (.int .i64 0)] []), oo_ 40 (.callv (.t 38) [(.t 39), (.c (.bool false))])]) .ret) .skip)) (.reg [om_ 41 6, os_ (.store 1 (.t 1) (.t 41))]))) .skip)) (.seq (.reg [ol_ 42 1, oo_ 43 (.call 148 [(.t 42)]), om_ 8 43]) (.seq (.seq (.reg [om_ 44 8, oo_ 45 (.bin .eql (.t 44) (.c (.int .i64 0)))]) (.cond (.t 45) (.seq (.reg [om_ 46 0, oo_ 47 (.build [(.str []), (.int .i64 0)] []), oo_ 48 (.callv (.t 46) [(.t 47), (.c (.bool false))])]) .ret) .skip)) (.seq (.seq (.reg [om_ 49 0, ol_ 50 1, om_ 51 8, oo_ 52 (.slice none (.t 50) none (some (.t 51))), oo_ 53 (.build [(.str []), (.int .i64 0)] [(0, (1, (.t 52)))]), oo_ 54 (.callv (.t 49) [(.t 53), (.c (.bool true))]), oo_ 55 (.un .not (.t 54))]) (.cond (.t 55) .ret .skip)) (.reg [ol_ 56 1, om_ 57 8, oo_ 58 (.slice none (.t 56) (some (.t 57)) none), os_ (.store 1 (.t 1) (.t 58)), oo_ 3 (.mv (.c (.bool false)))])))))))))))
theorem path_pieces_1.code : comp PG [] (Tryz.f145.body.getD .skip) = path_pieces_1.c := by kernel_rfl
theorem path_pieces_1.of' : OfL PG 145 59 path_pieces_1.c [] := fnL mixed Tryz.func145 path_pieces_1.code (by kernel_rfl) (by kernel_rfl) (by kernel_rfl) (by kernel_rfl) (by kernel_rfl)
def path_number.n : Nat := 146
noncomputable def path_number.c : C := (.seq (.reg [oo_ 2 (.mv (.c (.int .i64 0))), oo_ 3 (.mv (.c (.int .i64 0)))]) (.seq (.reg [om_ 8 0, oo_ 9 (.call 175 [(.t 8), (.c (.int .u8 93))]), om_ 4 9]) (.seq (.seq (.reg [om_ 10 0, oo_ 11 (.len true (.t 10)), oo_ 12 (.bin .lss (.t 11) (.c (.int .i64 3))), om_ 13 12, og_ 14 13 false (.mv (.t 0)), og_ 15 13 false (.idx (.t 14) (.c (.int .i64 0))), og_ 16 13 false (.bin .neq (.t 15) (.c (.int .u8 91))), oo_ 17 (.pick (.t 13) (.c (.bool true)) (.t 16)), om_ 18 17, og_ 19 18 false (.mv (.t 4)), og_ 20 18 false (.bin .lss (.t 19) (.c (.int .i64 2))), oo_ 21 (.pick (.t 18) (.c (.bool true)) (.t 20)), om_ 22 21, og_ 23 22 false (.mv (.t 4)), og_ 24 22 false (.bin .gtr (.t 23) (.c (.int .i64 3))), oo_ 25 (.pick (.t 22) (.c (.bool true)) (.t 24)), om_ 26 25, og_ 27 26 false (.mv (.t 0)), og_ 28 26 false (.idx (.t 27) (.c (.int .i64 1))), og_ 29 26 false (.bin .eql (.t 28) (.c (.int .u8 48))), og_ 30 26 false (.mv (.t 29)), og_ 31 30 true (.mv (.t 4)), og_ 32 30 true (.bin .gtr (.t 31) (.c (.int .i64 2))), og_ 33 26 false (.pick (.t 30) (.t 32) (.c (.bool false))), oo_ 34 (.pick (.t 26) (.c (.bool true)) (.t 33))]) (.cond (.t 34) (.seq (.reg [oo_ 2 (.mv (.c (.int .i64 0))), oo_ 3 (.mv (.c (.int .i64 0)))]) .ret) .skip)) (.seq (.reg [oo_ 5 (.mv (.c (.int .i64 0)))]) (.seq (.seq (.reg [om_ 35 0, om_ 36 4, oo_ 37 (.slice none (.t 35) (some (.c (.int .i64 1))) (some (.t 36))), oo_ 38 (.strB (.t 37)), oo_ 39 (.len false (.t 38)), oo_ 40 (.mv (.c (.int .i64 0)))]) (.block 0 (.loop (.seq (.reg [oo_ 41 (.bin .lss (.t 40) (.t 39))]) (.seq (.cond (.t 41) .skip (.exit 0)) (.seq (.block 1 (.seq (.reg [oo_ 42 (.iaddr 1 (.t 38) (.t 40)), ol_ 43 42, om_ 7 43]) (.seq (.seq (.reg [om_ 44 7, oo_ 45 (.bin .lss (.t 44) (.c (.int .u8 48))), om_ 46 45, og_ 47 46 false (.mv (.t 7)), og_ 48 46 false (.bin .gtr (.t 47) (.c (.int .u8 57))), oo_ 49 (.pick (.t 46) (.c (.bool true)) (.t 48))]) (.cond (.t 49) (.seq (.reg [oo_ 2 (.mv (.c (.int .i64 0))), oo_ 3 (.mv (.c (.int .i64 0)))]) .ret) .skip)) (.reg [om_ 50 5, oo_ 51 (.bin .mul (.t 50) (.c (.int .i64 10))), om_ 52 7, oo_ 53 (.bin .sub (.t 52) (.c (.int .u8 48))), oo_ 54 (.conv .i64 (.t 53)), oo_ 55 (.bin .add (.t 51) (.t 54)), om_ 5 55])))) (.reg [oo_ 56 (.bin .add (.t 40) (.c (.int .i64 1))), om_ 40 56]))))))) (.seq (.reg [om_ 57 5, om_ 58 4, oo_ 59 (.bin .add (.t 58) (.c (.int .i64 1))), om_ 2 57, om_ 3 59]) .ret))))))
theorem path_number.code : comp PG [] (Tryz.f146.body.getD .skip) = path_number.c := by kernel_rfl
theorem path_number.of : OfE PG 146 1 path_number.c [(.t 2), (.t 3)] := fnE (nt := 60) mixed Tryz.func146 path_number.code (by kernel_rfl) (by kernel_rfl) (by kernel_rfl) (by kernel_rfl) (by kernel_rfl) (by kernel_rfl)
end Go.Proofs.YtjaigpidmngaaaaGreat

namespace Go.Proofs.YtjaigpidmngaaaaGreat
section
variable {α : Type} {p : α → Bool} {l : List α} {i : Nat}
def none' (p : α → Bool) (l : List α) (i : Nat) : Prop := ∀ (k : Nat) (h : k < l.length), k < i → p l[k] = false
theorem none'_zero : none' p l 0 := fun k _ h => by omega
theorem none'_succ (h : none' p l i) (hi : i < l.length) (h2 : p l[i] = false) : none' p l (i + 1) := fun k hk h3 => by
  by_cases e : k = i
  · subst e; exact h2
  · exact h k hk (by omega)
theorem none'_any (h : none' p l l.length) : l.any p = false := by
  rw [List.any_eq_false]
  intro x hx
  obtain ⟨k, hk, rfl⟩ := List.getElem_of_mem hx
  simpa using h k hk hk
theorem none'_end (h : none' p l i) (hi : l.length ≤ i) : l.any p = false := none'_any fun k hk _ => h k hk (by omega)
theorem any_hit (hi : i < l.length) (h : p l[i] = true) : l.any p = true := List.any_eq_true.2 ⟨_, List.getElem_mem hi, h⟩
theorem find_hit : ∀ {l : List α} {i : Nat} (_ : none' p l i) (hi : i < l.length) (_ : p l[i] = true), l.findIdx? p = some i
  | a :: l, 0, _, _, h2 => by simp at h2; simp [List.findIdx?_cons, h2]
  | a :: l, i + 1, h, hi, h2 => by
    have h0 : p a = false := h 0 (by simp) (by omega)
    have h' : none' p l i := fun k hk h3 => h (k + 1) (by simpa using hk) (by omega)
    have := find_hit h' (by simpa using hi) (by simpa using h2)
    simp [List.findIdx?_cons, h0, this]
theorem find_none (h : none' p l i) (hi : l.length ≤ i) : l.findIdx? p = none := by
  rw [List.findIdx?_eq_none_iff]
  intro x hx
  obtain ⟨k, hk, rfl⟩ := List.getElem_of_mem hx
  exact h k hk (by omega)
theorem find_some {n : Nat} (h : l.findIdx? p = some n) : ∃ hn : n < l.length, p l[n] = true ∧ none' p l n := by
  rw [List.findIdx?_eq_some_iff_getElem] at h
  obtain ⟨hn, h1, h2⟩ := h
  exact ⟨hn, h1, fun k hk h3 => by have := h2 k h3; simpa using this⟩
end
def fst0 : List Int → Int
  | [] => 0
  | e :: l => if e ≠ 0 then e else fst0 l
theorem fst0_hit : ∀ {l : List Int} {i : Nat} (_ : ∀ (k : Nat) (h : k < l.length), k < i → l[k] = 0) (hi : i < l.length) (_ : l[i] ≠ 0), fst0 l = l[i]
  | e :: l, 0, _, _, h => by simp at h; simp [fst0, h]
  | e :: l, i + 1, h0, hi, h => by
    have h1 : e = 0 := h0 0 (by simp) (by omega)
    have := fst0_hit (l := l) (i := i) (fun k hk h3 => h0 (k + 1) (by simpa using hk) (by omega)) (by simpa using hi) (by simpa using h)
    simp [fst0, h1, this]
theorem fst0_end : ∀ {l : List Int} (_ : ∀ (k : Nat) (h : k < l.length), l[k] = 0), fst0 l = 0
  | [], _ => rfl
  | e :: l, h => by
    have h1 : e = 0 := h 0 (by simp)
    have := fst0_end (l := l) fun k hk => h (k + 1) (by simpa using hk)
    simp [fst0, h1, this]
end Go.Proofs.YtjaigpidmngaaaaGreat

namespace Go.Proofs.YtjaigpidmngaaaaGreat
theorem drop_at {α : Type} (l : List α) (d : α) (i : Nat) (h : i < l.length) : l.drop i = l.getD i d :: l.drop (i + 1) := by
  rw [List.drop_eq_getElem_cons h]; congr 1; simp [List.getD, h]
theorem take_at {α : Type} (l : List α) (d : α) (i : Nat) (h : i < l.length) : l.take (i + 1) = l.take i ++ [l.getD i d] := by
  rw [List.take_add_one]; congr 1; simp [List.getD, h]
def dig (c : UInt8) : Bool := decide (48 ≤ c.toNat) && decide (c.toNat ≤ 57)
def ltr (c : UInt8) : Bool := (decide (97 ≤ c.toNat) && decide (c.toNat ≤ 122)) || (decide (65 ≤ c.toNat) && decide (c.toNat ≤ 90))
def nam (c : UInt8) : Bool := dig c || c == 95 || ltr c
def blnk (c : UInt8) : Bool := c == 32 || c == 9 || c == 10 || c == 13
def sgn (c : UInt8) : Bool := [61, 60, 62, 40, 41, 46, 91, 93, 45].contains c
def nl : List UInt8 → Nat
  | [] => 0
  | c :: r => if ltr c then 1 + (r.takeWhile nam).length else 0
def dl (s : List UInt8) : Nat := (s.takeWhile dig).length
def numV (s : List UInt8) : Nat := s.foldl (fun a c => 10 * a + (c.toNat - 48)) 0
inductive Q where
  | done (t : List UInt8) (n : Nat)
  | odd (i : Nat)
  | short
def qs : List UInt8 → Nat → List UInt8 → Q
  | [], _, _ => .short
  | [c], i, acc => if c.toNat < 32 ∨ 126 < c.toNat then .odd i else if c = 39 then .done acc (i + 1) else .short
  | c :: d :: r, i, acc =>
    if c.toNat < 32 ∨ 126 < c.toNat then .odd i
    else if c = 39 then (if d = 39 then qs r (i + 2) (acc ++ [39]) else .done acc (i + 1))
    else qs (d :: r) (i + 1) (acc ++ [c])
inductive LR where
  | tok (k : Int) (t : List UInt8) (num n : Nat)
  | bad (e : Int) (off : Nat)
def two (s : List UInt8) : Bool := s.take 2 == [60, 62] || s.take 2 == [60, 61] || s.take 2 == [62, 61]
def lex : List UInt8 → LR
  | [] => .bad 11 0
  | c :: r =>
    if ltr c then .tok 1 ((c :: r).take (nl (c :: r))) 0 (nl (c :: r))
    else if dig c then
      if 1 < dl (c :: r) ∧ c = 48 then .bad 1 0
      else if numV ((c :: r).take (dl (c :: r))) < 18446744073709551616 then .tok 2 ((c :: r).take (dl (c :: r))) (numV ((c :: r).take (dl (c :: r)))) (dl (c :: r))
      else .bad 7 0
    else if c = 39 then match qs r 1 [] with
      | .done t n => .tok 3 t 0 n
      | .odd i => .bad 10 i
      | .short => .bad 2 0
    else if c = 37 then match r with
      | d :: _ => if dig d then .tok 4 [37, d] (d.toNat - 48) 2 else .bad 11 0
      | [] => .bad 11 0
    else if sgn c then .tok 5 ((c :: r).take (if two (c :: r) then 2 else 1)) 0 (if two (c :: r) then 2 else 1)
    else .bad 11 0
def rsv : List (List UInt8) := [[65, 78, 68], [79, 82], [78, 79, 84], [66, 69, 84, 87, 69, 69, 78], [76, 73, 75, 69], [84, 82, 85, 69], [70, 65, 76, 83, 69]]
theorem nl_cons (c : UInt8) (r : List UInt8) : nl (c :: r) = if ltr c = true then 1 + (r.takeWhile nam).length else 0 := rfl
theorem nl_le (s : List UInt8) : nl s ≤ s.length := by
  cases s with
  | nil => exact Nat.le_refl _
  | cons c r =>
    have : (r.takeWhile nam).length ≤ r.length := (List.takeWhile_prefix _).length_le
    rw [nl_cons, List.length_cons]
    split <;> omega
theorem dl_le (s : List UInt8) : dl s ≤ s.length := (List.takeWhile_prefix _).length_le
theorem tw_step {f : UInt8 → Bool} : ∀ {r : List UInt8} {n : Nat}, n ≤ (r.takeWhile f).length → n < r.length → (n < (r.takeWhile f).length ↔ f (r.getD n 0) = true)
  | [], n, _, h => by simp at h
  | d :: r, n, h1, h2 => by
    rw [List.takeWhile_cons] at h1 ⊢
    split
    · rename_i hd
      rw [if_pos hd] at h1
      cases n with
      | zero => simp [hd]
      | succ n => simpa using tw_step (r := r) (n := n) (by simpa using h1) (by simpa using h2)
    · rename_i hd
      rw [if_neg hd] at h1
      have : n = 0 := by simpa using h1
      subst this
      simpa using hd
theorem nl_step {s : List UInt8} {n : Nat} (hn : n ≤ nl s) (hl : n < s.length) : n < nl s ↔ (if n = 0 then ltr (s.getD 0 0) else nam (s.getD n 0)) = true := by
  cases s with
  | nil => simp at hl
  | cons c r =>
    rw [nl_cons] at *
    cases n with
    | zero =>
      rw [if_pos rfl, List.getD_cons_zero]
      split
      · rename_i h; simp only [h, iff_true]; omega
      · rename_i h; simp only [h, Nat.lt_irrefl]
        exact ⟨fun q => q.elim, fun q => by cases q⟩
    | succ n =>
      rw [if_neg (Nat.succ_ne_zero n), List.getD_cons_succ]
      split at hn
      · rename_i h
        rw [if_pos h]
        have hl' : n < r.length := by simpa using hl
        rw [← tw_step (f := nam) (r := r) (n := n) (by omega) hl']
        omega
      · omega
theorem dl_step {s : List UInt8} {n : Nat} (hn : n ≤ dl s) (hl : n < s.length) : n < dl s ↔ dig (s.getD n 0) = true := by
  unfold dl at *
  induction s generalizing n with
  | nil => simp at hl
  | cons d r ih =>
    rw [List.takeWhile_cons] at hn ⊢
    split
    · rename_i hd
      rw [if_pos hd] at hn
      cases n with
      | zero => simp [hd]
      | succ n => simpa using ih (by simpa using hn) (by simpa using hl)
    · rename_i hd
      rw [if_neg hd] at hn
      have : n = 0 := by simpa using hn
      subst this
      simpa using hd
end Go.Proofs.YtjaigpidmngaaaaGreat

namespace Go.Proofs.YtjaigpidmngaaaaGreat
structure It where
  nm : List UInt8
  num : Nat
  ty : Int
  key : Bool
  rest : Bool
structure Ty where
  kd : Int
  nm : List UInt8
  bd : Int
  el : Int
  tg : Int
  its : List It
abbrev it0 : It := ⟨[], 0, 0, false, false⟩
abbrev ty0 : Ty := ⟨0, [], 0, 0, 0, []⟩
def isNum (k : Int) : Bool := decide (1 ≤ k ∧ k ≤ 9)
def kNm (k : Int) : Bool := decide (k = 9 ∨ k = 13 ∨ k = 14)
def kBd (k : Int) : Bool := decide (k = 10 ∨ k = 11 ∨ k = 12)
def kEl (k : Int) : Bool := decide (k = 11 ∨ k = 12)
def kTg (k : Int) : Bool := decide (k = 14)
def tAt (l : List Ty) (t : Int) : Ty := l.getD t.toNat ty0
def szK (k : Int) : Nat := if k = 1 ∨ k = 2 then 1 else if k = 3 ∨ k = 4 then 2 else if k = 5 ∨ k = 6 ∨ k = 9 then 4 else if k = 7 ∨ k = 8 then 8 else 0
def sgK (k : Int) : Bool := decide (k = 3 ∨ k = 5 ∨ k = 7 ∨ k = 9)
def lowN (b n : Nat) : Nat := n % 2 ^ (8 * b)
def sgnI (b n : Nat) : Int := if lowN b n < 2 ^ (8 * b - 1) then (lowN b n : Int) else (lowN b n : Int) - 2 ^ (8 * b)
def wide (i : Int) : Nat := (i % 18446744073709551616).toNat
def lowK (k : Int) (n : Nat) : Nat := if szK k = 0 then 0 else lowN (szK k) n
def upK (k : Int) (n : Nat) : Nat := if sgK k = true then wide (sgnI (szK k) n) else lowK k n
def mayK (k : Int) (n : Nat) : Bool := isNum k && decide (upK k n = n) && (decide (k ≠ 1) || decide (n ≤ 1))
def nameOk (s : List UInt8) : Bool := decide (s ≠ []) && decide (s.length ≤ 16) && decide (nl s = s.length) && !rsv.contains s
def parts (t : Ty) : List Int := (if kEl t.kd = true then [t.el] else []) ++ (if kTg t.kd = true then [t.tg] else []) ++ (if t.kd = 13 ∨ t.kd = 14 then t.its.map (·.ty) else [])
def itMore (k : Int) (x : It) : Bool := decide ((k = 9 ∧ x.ty ≠ 0) ∨ (k ≠ 13 ∧ x.key = true) ∨ (k ≠ 14 ∧ x.rest = true) ∨ ((k = 13 ∨ x.rest = true) ∧ x.num ≠ 0))
def tyMore (t : Ty) : Bool := decide ((kNm t.kd = false ∧ (t.nm ≠ [] ∨ t.its ≠ [])) ∨ (kBd t.kd = false ∧ t.bd ≠ 0) ∨ (kEl t.kd = false ∧ t.el ≠ 0) ∨ (kTg t.kd = false ∧ t.tg ≠ 0))
def formE (t : Ty) : Int := if t.kd < 1 ∨ 14 < t.kd then 4 else if tyMore t = true ∨ t.its.any (itMore t.kd) = true then 1 else 0
def namedE (l : List Ty) (t : Ty) (n : Nat) : Int := if kNm t.kd = true then (if nameOk t.nm = true then (if (l.take n).any (fun x => x.nm == t.nm) = true then 6 else 0) else 5) else 0
def boundE (t : Ty) : Int := if kBd t.kd = true ∧ (64 < t.bd ∨ t.bd < 0 ∨ (kEl t.kd = true ∧ t.bd = 0)) then 7 else 0
def orderE (l : List Ty) (t : Ty) (n : Nat) : Int := if (parts t).any (fun p => decide (p < 0 ∨ (n : Int) ≤ p)) = true then 14 else if t.kd = 14 ∧ isNum (tAt l t.tg).kd = false then 8 else 0
def valIx (l : List Ty) (t : Int) (n : Nat) : Option Nat := if 0 ≤ t ∧ t < l.length ∧ (tAt l t).kd = 9 then (tAt l t).its.findIdx? (fun x => x.num == n) else none
def itemIx (l : List Ty) (t : Int) (s : List UInt8) : Option Nat := if 0 ≤ t ∧ t < l.length ∧ kNm (tAt l t).kd = true then (tAt l t).its.findIdx? (fun x => x.nm == s) else none
def mayT (l : List Ty) (t : Ty) (n : Nat) : Bool := if t.kd = 9 then mayK 9 n else if (tAt l t.tg).kd = 9 then (valIx l t.tg n).isSome else mayK (tAt l t.tg).kd n
def itemE (l : List Ty) (t : Ty) (i : Nat) : Int :=
  let x := t.its.getD i it0
  if nameOk x.nm = true then
    if (t.its.take i).any (fun y => y.nm == x.nm) = true then 6
    else if t.kd = 13 then (if x.key = true ∧ isNum (tAt l x.ty).kd = false ∧ (tAt l x.ty).kd ≠ 10 then 17 else 0)
    else if x.rest = true then (if i + 1 = t.its.length then 0 else 14)
    else if mayT l t x.num = true then (if (t.its.take i).any (fun y => y.num == x.num) = true then 6 else 0)
    else 7
  else 5
def itemsE (l : List Ty) (t : Ty) : Int := if kNm t.kd = true then (if t.its.length = 0 then 18 else if 16 < t.its.length then 3 else fst0 ((List.range t.its.length).map (itemE l t))) else 0
def dpT (l : List Ty) : Nat → List Nat
  | 0 => []
  | n + 1 => dpT l n ++ [(parts (l.getD n ty0)).foldl (fun m p => if 0 ≤ p ∧ p < (n : Int) then max m ((dpT l n).getD p.toNat 0 + 1) else m) 1]
def deepT (l : List Ty) (t : Int) : Nat := if 0 ≤ t ∧ t < l.length then (dpT l (t.toNat + 1)).getD t.toNat 0 else 0
def deepE (l : List Ty) (n : Nat) : Int := if 6 < deepT l n then 9 else 0
def tyErr (l : List Ty) (n : Nat) : Int := let t := l.getD n ty0
  fst0 [formE t, namedE l t n, boundE t, orderE l t n, itemsE l t, deepE l n]
def tyChk (l : List Ty) : Int × Int := if 32 < l.length then (3, 32) else match (List.range l.length).findIdx? (fun i => decide (tyErr l i ≠ 0)) with
  | some i => (tyErr l i, (i : Nat))
  | none => (0, 0)
end Go.Proofs.YtjaigpidmngaaaaGreat

namespace Go.Proofs.YtjaigpidmngaaaaGreat
theorem numVs_snoc (s : List UInt8) (c : UInt8) : numV (s ++ [c]) = 10 * numV s + (c.toNat - 48) := by simp [numV]
theorem numVs_lt : ∀ s : List UInt8, s.all dig = true → numV s < 10 ^ s.length := by
  intro s
  rw [← List.reverse_reverse s]
  induction s.reverse with
  | nil => simp [numV]
  | cons c l ih =>
    intro h
    rw [List.reverse_cons] at h ⊢
    rw [List.all_append, Bool.and_eq_true] at h
    have h1 := ih h.1
    have h2 : 48 ≤ c.toNat ∧ c.toNat ≤ 57 := by simpa [dig] using h.2
    rw [numVs_snoc, List.length_append, List.length_singleton, Nat.pow_succ]
    omega
def numP (s : List UInt8) : Nat × Nat :=
  if s.length < 3 ∨ s.getD 0 0 ≠ 91 ∨ Lib.indexByte s 93 < 2 ∨ 3 < Lib.indexByte s 93 ∨ (s.getD 1 0 = 48 ∧ 2 < Lib.indexByte s 93) then (0, 0)
  else if ((s.take (Lib.indexByte s 93).toNat).drop 1).all dig = true then (numV ((s.take (Lib.indexByte s 93).toNat).drop 1), (Lib.indexByte s 93).toNat + 1) else (0, 0)
theorem indexByte_lt : ∀ (s : List UInt8) (c : UInt8), -1 ≤ Lib.indexByte s c ∧ Lib.indexByte s c < s.length
  | [], c => by simp [Lib.indexByte]
  | b :: l, c => by
    have ih := indexByte_lt l c
    unfold Lib.indexByte
    simp only [List.length_cons]
    repeat' split
    all_goals omega
theorem numP_le (s : List UInt8) : (numP s).2 ≤ s.length ∧ (numP s).1 ≤ 99 := by
  unfold numP
  have h := indexByte_lt s 93
  split
  · simp
  · rename_i hc
    split
    · rename_i hd
      have h1 := numVs_lt _ hd
      have h2 : ((s.take (Lib.indexByte s 93).toNat).drop 1).length ≤ 2 := by rw [List.length_drop, List.length_take]; omega
      have h3 : 10 ^ ((s.take (Lib.indexByte s 93).toNat).drop 1).length ≤ 10 ^ 2 := Nat.pow_le_pow_right (by decide) h2
      exact ⟨by dsimp only; omega, by dsimp only; omega⟩
    · simp
def dotP : List UInt8 → Option (List UInt8)
  | c :: r => if c = 46 then some r else none
  | [] => none
theorem dotP_some {s r : List UInt8} (h : dotP s = some r) : s = 46 :: r := by
  cases s with
  | nil => cases h
  | cons c q =>
    simp only [dotP] at h
    split at h
    · rename_i e; cases h; rw [e]
    · cases h
abbrev Pc := List UInt8 × Nat × Bool
def pcs (s : List UInt8) (first : Bool) : List Pc :=
  if first = false ∧ s = [] then []
  else if h : 0 < (numP s).2 then ([], (numP s).1, true) :: pcs (s.drop (numP s).2) false
  else match h1 : (if first = true then some s else dotP s) with
    | none => [([], 0, false)]
    | some r => if h2 : nl r = 0 then [([], 0, false)] else (r.take (nl r), 0, true) :: pcs (r.drop (nl r)) false
  termination_by s.length
  decreasing_by
    · rw [List.length_drop]
      have := (numP_le s).1
      omega
    · rw [List.length_drop]
      have h3 := nl_le r
      have h4 : r.length ≤ s.length := by
        cases first with
        | true =>
          have e : some s = some r := h1
          cases e; exact Nat.le_refl _
        | false =>
          have e : dotP s = some r := h1
          rw [dotP_some e]; simp
      omega
theorem pcs_end : pcs [] false = [] := by rw [pcs]; simp
theorem pcs_num {s : List UInt8} {first : Bool} (h0 : ¬ (first = false ∧ s = [])) (h : 0 < (numP s).2) : pcs s first = ([], (numP s).1, true) :: pcs (s.drop (numP s).2) false := by
  rw [pcs, if_neg h0, dif_pos h]
theorem pcs_nodot {s : List UInt8} (h0 : s ≠ []) (h : ¬ 0 < (numP s).2) (hd : dotP s = none) : pcs s false = [([], 0, false)] := by
  rw [pcs, if_neg (fun q => h0 q.2), dif_neg h]
  split
  · rfl
  · rename_i r e
    rw [if_neg (by decide), hd] at e; cases e
theorem pcs_item {s r : List UInt8} {first : Bool} (h0 : ¬ (first = false ∧ s = [])) (h : ¬ 0 < (numP s).2) (hr : (if first = true then some s else dotP s) = some r) : pcs s first = if nl r = 0 then [([], 0, false)] else (r.take (nl r), 0, true) :: pcs (r.drop (nl r)) false := by
  rw [pcs, if_neg h0, dif_neg h]
  split
  · rename_i e; rw [hr] at e; cases e
  · rename_i r' e
    rw [hr] at e
    cases e
    split <;> rfl
end Go.Proofs.YtjaigpidmngaaaaGreat

namespace Go.Proofs.YtjaigpidmngaaaaGreat
inductive Sh where
  | int (k : IntKind)
  | bool
  | str
  | u
  | p (a b : Sh)
  | slice (sz bytes : Nat) (e : Sh)
  | ptr (e : Sh)
  | no
def Sh.rep : Nat → Sh → Sh
  | 0, _ => .u
  | n + 1, a => .p a (Sh.rep n a)
def Sh.Ok : Sh → List AV → Prop
  | .int k, vs => ∃ n, vs = [.int k n] ∧ (Lit.int k n).wf = true
  | .bool, vs => ∃ b, vs = [.bool b]
  | .str, vs => ∃ l : List UInt8, vs = [.str l] ∧ l.length ≤ 140737488351232
  | .u, vs => vs = []
  | .p a b, vs => ∃ x y, vs = x ++ y ∧ a.Ok x ∧ b.Ok y
  | .slice sz bytes e, vs => vs = [.nilS] ∨ ∃ l, vs = [.rows sz l] ∧ l.length * bytes ≤ 140737488351232 ∧ ∀ r ∈ l, e.Ok r
  | .ptr e, vs => vs = [.nilP] ∨ ∃ r, vs = [.fp r] ∧ e.Ok r
  | .no, _ => False
def fieldsSh (P : Program) (sh : TypeId → Option Sh) (tot : Nat) : Nat → List Field → Option Sh
  | o, [] => if o = tot then some .u else none
  | o, f :: r => if f.offset = o then (sh f.type).bind fun a => (fieldsSh P sh tot (o + P.cellsOf f.type) r).map (.p a) else none
def shO (rc : Bool) (P : Program) : Nat → TypeId → Option Sh
  | 0, _ => if rc = true then some .no else none
  | n + 1, t => match P.underlying t with
    | some .bool => some .bool
    | some (.int k) => some (.int k)
    | some .string => some .str
    | some (.struct fs) => fieldsSh P (shO rc P n) (P.cellsOf t) 0 fs.toList
    | some (.array m e) => if P.cellsOf t = m * P.cellsOf e then (shO rc P n e).map (Sh.rep m) else none
    | some (.slice e) => if 0 < P.cellsOf e then (shO rc P n e).map (.slice (P.cellsOf e) (P.bytesOf e)) else none
    | some (.pointer e) => if 0 < P.cellsOf e then (shO rc P n e).map .ptr else none
    | _ => none
abbrev shOf (P : Program) (n : Nat) (t : TypeId) : Option Sh := shO false P n t
section
variable {h : Array Obj}
def PartR (h : Array Obj) (vs : List AV) (cs : List Value) : Prop :=
  vs.length = cs.length ∧ ∀ (i : Nat) v c, vs[i]? = some v → cs[i]? = some c → v.isCell = true ∧ Rl h (fun _ => none) (fun b => b < h.size) v c
theorem PartR.nil : PartR h [] [] := ⟨rfl, by simp⟩
theorem PartR.one {v : AV} {c : Value} (hv : v.isCell = true) (hr : Rl h (fun _ => none) (fun b => b < h.size) v c) : PartR h [v] [c] :=
  ⟨rfl, fun i v' c' h1 h2 => by cases i <;> simp at h1 h2; subst h1; subst h2; exact ⟨hv, hr⟩⟩
theorem PartR.append {a b : List AV} {x y : List Value} (h1 : PartR h a x) (h2 : PartR h b y) : PartR h (a ++ b) (x ++ y) := by
  refine ⟨by simp [h1.1, h2.1], fun i v c q1 q2 => ?_⟩
  rw [List.getElem?_append] at q1 q2
  rw [h1.1] at q1
  split at q1 <;> rename_i hlt
  · rw [if_pos hlt] at q2; exact h1.2 i v c q1 q2
  · rw [if_neg hlt] at q2; exact h2.2 _ v c q1 q2
end
theorem exists_list {α : Type} {Q : Nat → α → Prop} : ∀ (n : Nat), (∀ i, i < n → ∃ r, Q i r) → ∃ l : List α, l.length = n ∧ ∀ (i : Nat) r, l[i]? = some r → Q i r
  | 0, _ => ⟨[], rfl, by simp⟩
  | n + 1, hq => by
    obtain ⟨l, h1, h2⟩ := exists_list n (fun i hi => hq i (by omega))
    obtain ⟨r, hr⟩ := hq n (by omega)
    refine ⟨l ++ [r], by simp [h1], fun i q hi => ?_⟩
    rw [List.getElem?_append] at hi
    split at hi
    · exact h2 i q hi
    · rename_i hlt
      have hl := (List.getElem?_eq_some_iff.1 hi).1
      simp at hl
      have : i = n := by omega
      subst this
      rw [h1] at hi
      simp at hi
      rw [← hi]; exact hr
section
variable {H : Type} {enc : TypeId × Value → H} {P : Program} {w : World} {sp : Nat → Bool}
abbrev Rd (P : Program) (w : World) (enc : TypeId × Value → H) (sp : Nat → Bool) (m : Nat) (s : TypeId → Option Sh) : Prop :=
  ∀ t cs x sh, s t = some sh → DataW.trod enc P w 0 sp true m t cs = some x → (∀ n ∈ x.1.weights P t, n ≤ reachBytes) → ∃ vs, sh.Ok vs ∧ PartR w.heap vs cs
theorem fields_read {m : Nat} {s : TypeId → Option Sh} (ih : Rd P w enc sp m s) {cs : List Value} {tot : Nat} (hcs : cs.length = tot) : ∀ (fs : List Field) (o : Nat) (xs : List (DataW H × List MemPlace)) (sh : Sh), fieldsSh P s tot o fs = some sh → xs.length = fs.length →
    (∀ (i : Nat) f, fs[i]? = some f → DataW.trod enc P w 0 sp true m f.type ((cs.drop f.offset).take (P.cellsOf f.type)) = xs[i]?) →
    (∀ n ∈ DataW.weightsEach P (fs.map (·.type)) (xs.map (·.1)), n ≤ reachBytes) → ∃ vs, sh.Ok vs ∧ PartR w.heap vs (cs.drop o)
  | [], o, xs, sh, hs, hl, _, _ => by
    simp only [fieldsSh] at hs
    split at hs <;> simp only [Option.some.injEq, reduceCtorEq] at hs
    rename_i e
    subst hs
    refine ⟨[], rfl, ?_⟩
    rw [List.drop_eq_nil_of_le (by omega)]
    exact .nil
  | f :: fs, o, xs, sh, hs, hl, hf, hw => by
    simp only [fieldsSh] at hs
    split at hs
    rotate_left
    · cases hs
    rename_i e
    simp only [Option.bind_eq_some_iff, Option.map_eq_some_iff] at hs
    obtain ⟨a, ha, b, hb, rfl⟩ := hs
    cases xs with
    | nil => simp at hl
    | cons x xs =>
      simp only [List.map_cons, DataW.weightsEach, List.mem_append] at hw
      have h0 := hf 0 f rfl
      rw [e] at h0
      simp only [List.getElem?_cons_zero] at h0
      obtain ⟨va, ok1, r1⟩ := ih _ _ _ _ ha h0 (fun n hn => hw n (.inl hn))
      obtain ⟨vb, ok2, r2⟩ := fields_read ih hcs fs _ xs b hb (by simpa using hl) (fun i g hg => by have := hf (i + 1) g (by simpa using hg); simpa using this) (fun n hn => hw n (.inr hn))
      refine ⟨va ++ vb, ⟨va, vb, rfl, ok1, ok2⟩, ?_⟩
      have := r1.append r2
      rw [show o + P.cellsOf f.type = o + P.cellsOf f.type from rfl, ← List.drop_drop, List.take_append_drop] at this
      exact this
theorem arr_read {m : Nat} {s : TypeId → Option Sh} (ih : Rd P w enc sp m s) {cs : List Value} {e : TypeId} {a : Sh} (ha : s e = some a) : ∀ (n j : Nat) (xs : List (DataW H × List MemPlace)), cs.length = (j + n) * P.cellsOf e → xs.length = n →
    (∀ i, i < n → DataW.trod enc P w 0 sp true m e ((cs.drop ((j + i) * P.cellsOf e)).take (P.cellsOf e)) = xs[i]?) →
    (∀ q ∈ DataW.weightsAll P e (xs.map (·.1)), q ≤ reachBytes) → ∃ vs, (Sh.rep n a).Ok vs ∧ PartR w.heap vs (cs.drop (j * P.cellsOf e))
  | 0, j, xs, hcs, hl, _, _ => by
    refine ⟨[], rfl, ?_⟩
    rw [List.drop_eq_nil_of_le (by rw [hcs]; simp)]
    exact .nil
  | n + 1, j, xs, hcs, hl, hf, hw => by
    cases xs with
    | nil => simp at hl
    | cons x xs =>
      simp only [List.map_cons, DataW.weightsAll, List.mem_append] at hw
      have h0 := hf 0 (by omega)
      simp only [Nat.add_zero, List.getElem?_cons_zero] at h0
      obtain ⟨va, ok1, r1⟩ := ih _ _ _ _ ha h0 (fun n hn => hw n (.inl hn))
      obtain ⟨vb, ok2, r2⟩ := arr_read ih ha n (j + 1) xs (by rw [hcs]; congr 1; omega) (by simpa using hl)
        (fun i hi => by have := hf (i + 1) (by omega); rw [show j + 1 + i = j + (i + 1) from by omega]; simpa using this) (fun n hn => hw n (.inr hn))
      refine ⟨va ++ vb, ⟨va, vb, rfl, ok1, ok2⟩, ?_⟩
      have := r1.append r2
      rw [Nat.add_mul, Nat.one_mul, ← List.drop_drop, List.take_append_drop] at this
      exact this
theorem weights_all_mem {e : TypeId} : ∀ {l : List (DataW H)} {d : DataW H}, d ∈ l → ∀ n ∈ d.weights P e, n ∈ DataW.weightsAll P e l
  | [], _, h, _, _ => by cases h
  | x :: l, d, h, n, hn => by
    simp only [DataW.weightsAll, List.mem_append]
    rcases List.mem_cons.1 h with h | h
    · subst h; exact .inl hn
    · exact .inr (weights_all_mem h n hn)
theorem readR {rc : Bool} : ∀ (m n : Nat), (rc = true → m ≤ n) → Rd P w enc sp m (shO rc P n)
  | 0, _, _, t, cs, x, sh, _, h, _ => by simp [DataW.trod] at h
  | m + 1, 0, hmn, t, cs, x, sh, hs, _, _ => by
    simp only [shO] at hs
    split at hs
    · rename_i hr; have := hmn hr; omega
    · cases hs
  | m + 1, n + 1, hmn, t, cs, x, sh, hs, h, hw => by
    have ih := readR m n fun q => by have := hmn q; omega
    simp only [shO] at hs
    split at hs <;> rename_i hu
    · simp only [Option.some.injEq] at hs; subst hs
      obtain ⟨b, rfl⟩ : ∃ b, cs = [.bool b] := by
        unfold DataW.trod at h; rw [hu] at h
        split at h <;> simp_all
      exact ⟨_, ⟨_, rfl⟩, .one rfl (.bool _)⟩
    · rename_i k
      simp only [Option.some.injEq] at hs; subst hs
      obtain ⟨n, rfl, hwf⟩ : ∃ n, cs = [.int k n] ∧ (Lit.int k n).wf = true := by
        unfold DataW.trod at h; rw [hu] at h
        split at h <;> simp_all
      exact ⟨_, ⟨_, rfl, hwf⟩, .one rfl (.int _ _)⟩
    · simp only [Option.some.injEq] at hs; subst hs
      obtain ⟨b, rfl, rfl⟩ : ∃ b, cs = [.string b] ∧ x = (.lit (.string b.data.toList), []) := by
        unfold DataW.trod at h; rw [hu] at h
        split at h <;> simp_all
      have := hw b.data.toList.length (by simp [DataW.weights])
      exact ⟨_, ⟨b.data.toList, rfl, this⟩, .one rfl (.str _ _ rfl)⟩
    · rename_i fs
      obtain ⟨xs, m', e, rfl, hl, hlen, hf⟩ := DataW.trod_struct hu h
      simp only [Nat.add_right_cancel_iff] at e
      subst e
      have := fields_read ih hl fs.toList 0 xs sh hs (by simpa using hlen) (fun i f hi => hf i f (by simpa using hi)) (fun q hq => hw q (by simpa [DataW.weights, hu] using hq))
      simpa using this
    · rename_i k e
      split at hs
      rotate_left
      · cases hs
      rename_i hc
      simp only [Option.map_eq_some_iff] at hs
      obtain ⟨a, ha, rfl⟩ := hs
      obtain ⟨xs, m', e1, rfl, hl, hlen, hf⟩ := DataW.trod_array hu h
      simp only [Nat.add_right_cancel_iff] at e1
      subst e1
      have := arr_read ih ha k 0 xs (by rw [hl, hc]; simp) hlen (fun i hi => by simpa using hf i hi) (fun q hq => hw q (by simpa [DataW.weights, hu] using hq))
      simpa using this
    · rename_i e
      split at hs
      rotate_left
      · cases hs
      rename_i hpos
      simp only [Option.map_eq_some_iff] at hs
      obtain ⟨a, ha, rfl⟩ := hs
      rcases DataW.trod_slice hu h with ⟨rfl, rfl⟩ | ⟨ad, len, cap, elems, rest, m', e1, rfl, rfl, _, hl, _, hlen, hel, _⟩
      · exact ⟨_, .inl rfl, .one rfl .nilS⟩
      · simp only [Nat.add_right_cancel_iff] at e1
        subst e1
        simp only [DataW.weights, hu, List.mem_cons, List.mem_append] at hw
        have hbytes := hw _ (.inl rfl)
        obtain ⟨l, hll, hq⟩ := exists_list (Q := fun i r => a.Ok r ∧ ∃ ci, w.cells? 0 (ad.add (i * P.cellsOf e)) (P.cellsOf e) = some ci ∧ PartR w.heap r ci) len fun i hi => by
          have := hel i hi
          rw [List.getElem?_eq_getElem (by omega)] at this
          simp only [Option.bind_eq_some_iff] at this
          obtain ⟨ci, hc, hd⟩ := this
          obtain ⟨vs, ok, r⟩ := ih _ _ _ _ ha hd (fun q hqq => hw q (.inr (.inl (weights_all_mem (List.mem_map_of_mem (List.getElem_mem (by omega))) q hqq))))
          exact ⟨vs, ok, ci, hc, r⟩
        refine ⟨[.rows (P.cellsOf e) l], .inr ⟨l, rfl, ?_, ?_⟩, .one rfl ?_⟩
        · simp only [List.length_map] at hbytes
          rw [hll, ← hlen]
          exact Nat.le_trans (Nat.mul_le_mul_right _ (Nat.le_add_right _ _)) hbytes
        · intro r hr
          obtain ⟨i, hi⟩ := List.getElem?_of_mem hr
          exact (hq i r hi).1
        · by_cases h0 : len = 0
          · subst h0
            rw [List.eq_nil_of_length_eq_zero hll]
            exact .rowsE _ _ _
          · obtain ⟨r0, hr0⟩ : ∃ r0, l[0]? = some r0 := ⟨_, List.getElem?_eq_getElem (by omega)⟩
            obtain ⟨_, c0, hc0, _⟩ := hq 0 r0 hr0
            have hz := World.cells?_some hc0
            have hz0 := hz.2.2 0 hpos
            rw [List.getElem?_eq_getElem (by omega)] at hz0
            have ea : (ad.add (0 * P.cellsOf e)).add 0 = ad := by simp [Addr.add]
            rw [ea] at hz0
            obtain ⟨b, o, spt⟩ := ad
            have hsp : spt = none ∧ b < w.heap.size := by
              unfold World.cell? at hz0
              simp only at hz0
              cases hb : w.heap[b]? with
              | none => simp [hb] at hz0
              | some ob =>
                refine ⟨?_, (Array.getElem?_eq_some_iff.1 hb).1⟩
                cases ob with
                | cells c t f => rw [hb] at hz0; simp only at hz0; cases spt with | none => rfl | some z => simp at hz0
                | _ => simp [hb] at hz0
            obtain ⟨rfl, hbl⟩ := hsp
            have key : ∀ (i : Nat) r (j : Nat) v, l[i]? = some r → r[j]? = some v → v.isCell = true ∧ ∃ c, hcell w.heap b (o + (i * P.cellsOf e + j)) = some c ∧ Rl w.heap (fun _ => none) (fun b => b < w.heap.size) v c := by
              intro i r j v h1 h2
              obtain ⟨_, ci, hci, hpr⟩ := hq i r h1
              have hz := World.cells?_some hci
              have hj : j < ci.length := by rw [← hpr.1]; exact (List.getElem?_eq_some_iff.1 h2).1
              have h3 := hz.2.2 j (by omega)
              rw [List.getElem?_eq_getElem hj, addr_add, addr_add, cell?_heap] at h3
              obtain ⟨h4, h5⟩ := hpr.2 j v _ h2 (List.getElem?_eq_getElem hj)
              exact ⟨h4, _, by rw [← h3, Nat.add_assoc], h5⟩
            refine .rows _ l b o len cap (fun q => (hcell w.heap b (o + q)).getD undef) hll.symm hl (fun _ => hbl) (fun i r h1 => ?_) (fun i r j v h1 h2 => (key i r j v h1 h2).1) (fun i r j v h1 h2 => ?_) fun i r j v h1 h2 => ?_
            · obtain ⟨_, ci, hci, hpr⟩ := hq i r h1
              rw [hpr.1, (World.cells?_some hci).2.1]
            · obtain ⟨_, c, hc, _⟩ := key i r j v h1 h2
              rw [hc]; rfl
            · obtain ⟨_, c, hc, hr⟩ := key i r j v h1 h2
              rw [hc]; exact hr
    · rename_i e
      split at hs
      rotate_left
      · cases hs
      rename_i hpos
      simp only [Option.map_eq_some_iff] at hs
      obtain ⟨a, ha, rfl⟩ := hs
      have alt : cs = [.pointer none] ∨ ∃ ad ci y, cs = [.pointer (some ad)] ∧ w.cells? 0 ad (P.cellsOf e) = some ci ∧ DataW.trod enc P w 0 sp true m e ci = some y ∧ x.1 = .ptr y.1 := by
        unfold DataW.trod at h; rw [hu] at h
        split at h <;> simp_all
        simp only [Option.bind_eq_some_iff, Function.comp, Option.map_eq_some_iff] at h
        obtain ⟨ci, hc, ⟨y1, y2⟩, hy, hx⟩ := h
        exact ⟨ci, hc, y1, ⟨y2, hy⟩, by rw [← hx]⟩
      rcases alt with rfl | ⟨ad, ci, y, rfl, hc, hy, hx⟩
      · exact ⟨_, .inl rfl, .one rfl .nilP⟩
      · obtain ⟨vs, ok, hpr⟩ := ih _ _ _ _ ha hy (fun q hq => hw q (by rw [hx]; simpa [DataW.weights, hu] using hq))
        refine ⟨[.fp vs], .inr ⟨vs, rfl, ok⟩, .one rfl ?_⟩
        have hz := World.cells?_some hc
        have hz0 := hz.2.2 0 hpos
        rw [List.getElem?_eq_getElem (by omega)] at hz0
        have ea : ad.add 0 = ad := by simp [Addr.add]
        rw [ea] at hz0
        obtain ⟨b, o, spt⟩ := ad
        have hsp : spt = none ∧ b < w.heap.size := by
          unfold World.cell? at hz0
          simp only at hz0
          cases hb : w.heap[b]? with
          | none => simp [hb] at hz0
          | some ob =>
            refine ⟨?_, (Array.getElem?_eq_some_iff.1 hb).1⟩
            cases ob with
            | cells c t f => rw [hb] at hz0; simp only at hz0; cases spt with | none => rfl | some z => simp at hz0
            | _ => simp [hb] at hz0
        obtain ⟨rfl, hbl⟩ := hsp
        have key : ∀ (j : Nat) v, vs[j]? = some v → v.isCell = true ∧ ∃ c, hcell w.heap b (o + j) = some c ∧ Rl w.heap (fun _ => none) (fun b => b < w.heap.size) v c := by
          intro j v h2
          have hj : j < ci.length := by rw [← hpr.1]; exact (List.getElem?_eq_some_iff.1 h2).1
          have h3 := hz.2.2 j (by omega)
          rw [List.getElem?_eq_getElem hj, addr_add, cell?_heap] at h3
          obtain ⟨h4, h5⟩ := hpr.2 j v _ h2 (List.getElem?_eq_getElem hj)
          exact ⟨h4, _, h3, h5⟩
        refine .fp vs b o (fun q => (hcell w.heap b (o + q)).getD undef) (fun _ => hbl) (fun j v h2 => (key j v h2).1) (fun j v h2 => ?_) fun j v h2 => ?_
        · obtain ⟨_, c, hc, _⟩ := key j v h2
          rw [hc]; rfl
        · obtain ⟨_, c, hc, hr⟩ := key j v h2
          rw [hc]; exact hr
    · cases hs
theorem read (m n : Nat) : Rd P w enc sp m (shOf P n) := readR m n fun q => by cases q
end
end Go.Proofs.YtjaigpidmngaaaaGreat

namespace Go.Proofs.YtjaigpidmngaaaaGreat
def isAggT (P : Program) (t : TypeId) : Bool :=
  match P.underlying t with
  | some (.struct _) => true
  | some (.array _ _) => true
  | _ => false
def ArgOk (agg : Bool) (sh : Sh) (av : AV) : Prop :=
  match agg with
  | true => ∃ vs, av = .agg vs ∧ sh.Ok vs
  | false => sh.Ok [av]
section
variable {H : Type} {enc : TypeId × Value → H} {P : Program} {W : World} {sp : Nat → Bool}
theorem okWide_notAgg {r : Reach} {base : Nat} {t : TypeId} {v : Value} (ha : isAggT P t = false) (h : Value.okWide P W r base t v) : v.cells = #[v] := by
  unfold isAggT at ha
  unfold Value.okWide at h
  split at h
  · rename_i hu; simp [hu] at ha
  · rename_i hu; simp [hu] at ha
  · cases v <;> first
      | rfl
      | (exfalso; unfold Cell.okWide at h; split at h <;> rename_i heq <;> first | (cases heq; done) | (unfold Cell.ok at h; split at h <;> rename_i heq2 <;> first | (cases heq2; done) | exact h))
theorem arg_rlR {r : Reach} {base : Nat} {t : TypeId} {v : Value} {d : DataW H} {ps : List MemPlace} (agg : Bool) (hagg : isAggT P t = agg) (hs : ∀ n, ∃ sh, shO true P n t = some sh) (hval : Value.okWide P W r base t v)
    (h : DataW.Trod enc P W 0 sp true t v d ps) (hw : ∀ n ∈ d.weights P t, n ≤ reachBytes) : ∃ av, (∃ n sh, shO true P n t = some sh ∧ ArgOk agg sh av) ∧ Rl W.heap (fun _ => none) (fun b => b < W.heap.size) av v := by
  obtain ⟨fuel, hf⟩ := h
  obtain ⟨sh, hs⟩ := hs fuel
  obtain ⟨vs, ok, hpr⟩ := readR fuel fuel (fun _ => Nat.le_refl _) t _ _ sh hs hf hw
  cases agg with
  | true =>
    obtain ⟨cs, rfl⟩ : ∃ cs, v = .agg cs := by
      unfold isAggT at hagg
      unfold Value.okWide at hval
      split at hagg
      · rename_i hu; simp only [hu] at hval; obtain ⟨cs, e, _⟩ := hval; exact ⟨cs, e⟩
      · rename_i hu; simp only [hu] at hval; obtain ⟨cs, e, _⟩ := hval; exact ⟨cs, e⟩
      · cases hagg
    refine ⟨.agg vs, ⟨fuel, sh, hs, vs, rfl, ok⟩, ?_⟩
    have := Rl.agg (h := W.heap) (ρ := fun _ => none) (Z := fun b => b < W.heap.size) vs cs.toList (by simpa [Value.cells] using hpr.1)
      (fun i v h1 => by
        have hi := (List.getElem?_eq_some_iff.1 h1).1
        rw [hpr.1] at hi
        exact (hpr.2 i v _ h1 (List.getElem?_eq_getElem hi)).1)
      (fun i v x h1 h2 => (hpr.2 i v x h1 (by simpa [Value.cells] using h2)).2)
    simpa using this
  | false =>
    rw [okWide_notAgg hagg hval] at hpr
    have hl := hpr.1
    match vs, hl with
    | [av], _ => exact ⟨av, ⟨fuel, sh, hs, ok⟩, (hpr.2 0 av v rfl rfl).2⟩
theorem good0 (h : Array Obj) (ht : TabG h fun b => b < h.size) : Good h (fun _ => none) (fun b => b < h.size) [] where
  blk := fun id blk h1 => by simp [hget] at h1
  inj := fun i j a b p q o o' h1 => by simp [hget] at h1
  notZ := fun b ⟨id, blk, o, h1, _⟩ => by simp [hget] at h1
  zlt := fun _ h => h
  ids := ⟨0, fun _ _ => rfl⟩
  ty := fun id b o q => by cases q
  tab := ht
theorem law_calls {f : Nat} {args : List AV} {xs : List Value} (h : ACalls P f args [] fun r _ => r = .bool true) (hr : RlL W.heap (fun _ => none) (fun b => b < W.heap.size) args xs) (ht : TabG W.heap fun b => b < W.heap.size := by intro x hx; simp [tabs] at hx) :
    Calls P f xs.toArray W fun e W' => e = .returned (.bool true) ∧ RowKit.Below W.heap.size W W' := by
  refine (h.2 W _ _ xs (good0 W.heap ht) hr).mono fun e w' ⟨x, r, H', ρ', Z', q1, _, hv, ex, k⟩ => ?_
  subst k
  cases hv
  refine ⟨q1, ⟨ex.os, ex.tape, ex.out, ex.size, fun k hk => ex.keep k hk ?_⟩⟩
  rintro ⟨id, blk, o, h1, _⟩
  simp [hget] at h1
end
end Go.Proofs.YtjaigpidmngaaaaGreat

namespace Go.Proofs.YtjaigpidmngaaaaGreat
theorem Sub.refl (H : AH) : Sub H H := fun _ _ h => h
theorem Sub.cons {Hc H : AH} {id : Nat} {b : Blk} (h : Sub Hc H) (hid : hget H id = none) : Sub Hc ((id, b) :: H) := fun j c q => by
  simp only [hget]
  split
  · rename_i e
    have := h j c q
    rw [e, hid] at this
    cases this
  · exact h j c q
theorem FzL.refl (H Hc : AH) (vs : List AV) : FzL H Hc vs vs := ⟨rfl, fun i v v' a b => by rw [a] at b; simp only [Option.some.injEq] at b; rw [b]; exact .refl _⟩
section
variable {P : Program} {f : Nat} {args : List AV} {H : AH} {K : AV → AH → Prop} {r : AV}
theorem callA_of (h : ACalls P f args H K) : callA P f args H K := ⟨args, H, Sub.refl H, FzL.refl _ _ _, .inl h⟩
theorem callA_eq (h : ACalls P f args H fun r' H' => r' = r ∧ H' = H) (k : K r H) : callA P f args H K :=
  callA_of (h.mono fun r' H' ⟨a, b⟩ => by rw [a, b]; exact k)
theorem NoId.plain (h : r.plain = true) : NoId r := fun _ _ _ _ _ q => q.plain h
theorem ACalls.plain (hp : r.plain = true) (h : ACalls P f args [] fun r' _ => r' = r) : ACalls P f args H fun r' H' => r' = r ∧ H' = H :=
  ⟨h.1, fun w ρ Z xs g hr => callA_calls (K := fun r' H' => r' = r ∧ H' = H)
    ⟨args, [], fun _ _ q => (by cases q), FzL.refl _ _ _, .inr (h.mono fun r' _ e => by rw [e]; exact ⟨hp, rfl, rfl⟩)⟩ g hr⟩
theorem callP_plain (hp : r.plain = true) (h : ACalls P f args H fun r' H' => r' = r ∧ H' = H) : callP P f args H r := .inl ⟨NoId.plain hp, h⟩
end
theorem wrap_id {n : Int} (h1 : -9223372036854775808 ≤ n) (h2 : n ≤ 9223372036854775807) : IntKind.i64.wrap n = n := by rw [IntKind.wrap_i64]; omega
end Go.Proofs.YtjaigpidmngaaaaGreat

namespace Go.Proofs.YtjaigpidmngaaaaGreat
abbrev FL := List (Nat × Option AV)
noncomputable def FL.get (L : FL) (t : Nat) : Option AV := @List.rec (Nat × Option AV) (fun _ => Option AV) none (fun p _ ih => match Nat.beq t p.1 with
    | true => p.2
    | false => ih) L
noncomputable def frm (L : FL) : Fr := fun t => L.get t
theorem FL.get_cons (d t : Nat) (x : Option AV) (L : FL) : FL.get ((d, x) :: L) t = if t = d then x else L.get t := by
  show (match Nat.beq t d with | true => x | false => L.get t) = _
  cases h : Nat.beq t d with
  | true => rw [if_pos (Nat.eq_of_beq_eq_true h)]
  | false => rw [if_neg (fun e => by rw [e, Nat.beq_refl] at h; cases h)]
theorem frm_set (L : FL) (d : Nat) (x : AV) : frm ((d, some x) :: L) = (frm L).set d x := by
  funext t; simp only [frm, FL.get_cons, Fr.set]
theorem frm_clr (L : FL) (d : Nat) : frm ((d, none) :: L) = (frm L).clr d := by
  funext t; simp only [frm, FL.get_cons, Fr.clr]
def putL (L : FL) (d : Option Nat) (x : AV) : FL := match d with | some d => (d, some x) :: L | none => L
def delL (L : FL) (d : Option Nat) : FL := match d with | some d => (d, none) :: L | none => L
def putK (L : FL) (d : Option Nat) (x : AV) (k : FL → Prop) : Prop := match d with | some d => k ((d, some x) :: L) | none => k L
def delK (L : FL) (d : Option Nat) (k : FL → Prop) : Prop := match d with | some d => k ((d, none) :: L) | none => k L
theorem putK_eq (L : FL) (d : Option Nat) (x : AV) (k : FL → Prop) : putK L d x k = k (putL L d x) := by cases d <;> rfl
theorem delK_eq (L : FL) (d : Option Nat) (k : FL → Prop) : delK L d k = k (delL L d) := by cases d <;> rfl
theorem frm_put (L : FL) (d : Option Nat) (x : AV) : frm (putL L d x) = (frm L).put d x := by cases d with | none => rfl | some d => exact frm_set L d x
theorem frm_del (L : FL) (d : Option Nat) : frm (delL L d) = (frm L).del d := by cases d with | none => rfl | some d => exact frm_clr L d
noncomputable def memN (t : Nat) (l : List Nat) : Bool := @List.rec Nat (fun _ => Bool) false (fun a _ ih => match Nat.beq t a with
  | true => true
  | false => ih) l
theorem memN_mem {t : Nat} : ∀ {l : List Nat}, memN t l = true → t ∈ l
  | [], h => by cases h
  | a :: l, h => by
    have h' : (match Nat.beq t a with | true => true | false => memN t l) = true := h
    split at h'
    · rename_i e; rw [Nat.eq_of_beq_eq_true e]; exact List.mem_cons_self
    · exact List.mem_cons_of_mem _ (memN_mem h')
def coversS (H Hc : AH) : List Nat → FL → FL → Prop
  | _, [], _ => True
  | seen, (t, some v') :: r, L => (memN t seen = true ∨ ∃ v, L.get t = some v ∧ Fz H Hc v v') ∧ coversS H Hc (t :: seen) r L
  | seen, (t, none) :: r, L => coversS H Hc (t :: seen) r L
abbrev coversZ (H Hc : AH) (M L : FL) : Prop := coversS H Hc [] M L
theorem coversS_sub {H Hc : AH} : ∀ (M L : FL) (seen : List Nat), coversS H Hc seen M L → ∀ t v', t ∉ seen → frm M t = some v' → ∃ v, frm L t = some v ∧ Fz H Hc v v'
  | [], L, _, _, t, v, _, h => by cases h
  | (d, some x) :: M, L, seen, hc, t, v, hn, h => by
    simp only [frm, FL.get_cons] at h
    split at h
    · rename_i e
      simp only [Option.some.injEq] at h
      rw [← h, e]
      rcases hc.1 with q | q
      · exact absurd (memN_mem q) (e ▸ hn)
      · exact q
    · rename_i e
      exact coversS_sub M L _ hc.2 t v (by simp [e, hn]) h
  | (d, none) :: M, L, seen, hc, t, v, hn, h => by
    simp only [frm, FL.get_cons] at h
    split at h
    · cases h
    · rename_i e
      exact coversS_sub M L _ hc t v (by simp [e, hn]) h
theorem coversZ_sub {H Hc : AH} (M L : FL) (h : coversZ H Hc M L) : SubFz H Hc (frm M) (frm L) := fun t v q => coversS_sub M L [] h t v (by simp) q
/-! ### Operations, by what follows -/
def evX (L : FL) (x : X) (k : AV → Prop) : Prop :=
  match x with
  | .t n => match L.get n with
    | some v => k v
    | none => False
  | .c v => k v
  | .bad => False
def evXs (L : FL) : List X → (List AV → Prop) → Prop
  | [], k => k []
  | x :: xs, k => evX L x fun v => evXs L xs fun vs => k (v :: vs)
def evX3 (L : FL) : List (Nat × Nat × X) → (List (Nat × Nat × AV) → Prop) → Prop
  | [], k => k []
  | (o, z, x) :: xs, k => evX L x fun v => evX3 L xs fun vs => k ((o, z, v) :: vs)
def evX2 (L : FL) : List (Nat × X) → (List (Nat × AV) → Prop) → Prop
  | [], k => k []
  | (i, x) :: xs, k => evX L x fun v => evX2 L xs fun vs => k ((i, v) :: vs)
def evXO (L : FL) (d : Int) (x : Option X) (k : Int → Prop) : Prop :=
  match x with
  | none => k d
  | some x => evX L x fun v => match v with
    | .int _ n => k n
    | _ => False
def oA {α : Type} (o : Option α) (k : α → Prop) : Prop :=
  match o with
  | some x => k x
  | none => False
def kEq : IntKind → IntKind → Bool
  | .i8, .i8 => true
  | .i16, .i16 => true
  | .i32, .i32 => true
  | .i64, .i64 => true
  | .u8, .u8 => true
  | .u16, .u16 => true
  | .u32, .u32 => true
  | .u64, .u64 => true
  | _, _ => false
theorem kEq_eq {a b : IntKind} (h : kEq a b = true) : a = b := by cases a <;> cases b <;> first | rfl | cases h
def kG (a b : IntKind) (k : Prop) : Prop := match kEq a b with
  | true => k
  | false => False
def nG (a b : Nat) (k : Prop) : Prop := match Nat.beq a b with
  | true => k
  | false => False
theorem kG_of {a b : IntKind} {k : Prop} (h : kG a b k) : a = b ∧ k := by
  unfold kG at h
  split at h
  · rename_i e; exact ⟨kEq_eq e, h⟩
  · exact h.elim
theorem nG_of {a b : Nat} {k : Prop} (h : nG a b k) : a = b ∧ k := by
  unfold nG at h
  split at h
  · rename_i e; exact ⟨Nat.eq_of_beq_eq_true e, h⟩
  · exact h.elim
structure rng (w : Int) (k : Int → Prop) : Prop where
  out : k w
theorem rng_any {w : Int} {k : Int → Prop} (h : k w) : rng w k := ⟨h⟩
theorem rng_id {w n : Int} {k : Int → Prop} (e : w = n) (h : k n) : rng w k := by rw [e]; exact ⟨h⟩
theorem rng_i64 {n : Int} {k : Int → Prop} (h1 : -9223372036854775808 ≤ n) (h2 : n ≤ 9223372036854775807) (h : k n) : rng (IntKind.wrap .i64 n) k := rng_id (wrap_id h1 h2) h
theorem rng_u8 {n : Int} {k : Int → Prop} (h1 : 0 ≤ n) (h2 : n ≤ 255) (h : k n) : rng (IntKind.wrap .u8 n) k := rng_id (by simp only [IntKind.wrap, IntKind.bits, IntKind.signed, Bool.false_and, Bool.false_eq_true, if_false]; omega) h
theorem rng_u64 {n : Int} {k : Int → Prop} (h1 : 0 ≤ n) (h2 : n ≤ 18446744073709551615) (h : k n) : rng (IntKind.wrap .u64 n) k := rng_id (by simp only [IntKind.wrap, IntKind.bits, IntKind.signed, Bool.false_and, Bool.false_eq_true, if_false]; omega) h
structure hsetK (H : AH) (id : Nat) (b : Blk) (k : AH → Prop) : Prop where
  out : k (hset H id b)
structure hsetN (H : AH) (id : Nat) (b : Blk) (k : AH → Prop) : Prop where
  out : k (hset H id b)
theorem hsetN_of {H : AH} {id : Nat} {b b' : Blk} {k : AH → Prop} (e : b = b') (h : hsetK H id b' k) : hsetN H id b k := ⟨by rw [e]; exact h.out⟩
theorem hsetK_any {H : AH} {id : Nat} {b : Blk} {k : AH → Prop} (h : k (hset H id b)) : hsetK H id b k := ⟨h⟩
theorem hsetK_top {H : AH} {id : Nat} {b c : Blk} {k : AH → Prop} (h : k ((id, c) :: H)) : hsetK ((id, b) :: H) id c k := ⟨by rw [show hset ((id, b) :: H) id c = (id, c) :: H from by simp [hset]]; exact h⟩
theorem hsetK_down {T : AH} {i id : Nat} {b c : Blk} {k : AH → Prop} (h : i ≠ id) (h2 : hsetK T id b fun T' => k ((i, c) :: T')) : hsetK ((i, c) :: T) id b k :=
  ⟨by rw [show hset ((i, c) :: T) id b = (i, c) :: hset T id b from by simp only [hset]; rw [if_neg (fun e => h e.symm)]]; exact h2.out⟩
def opF (L : FL) (H : AH) (co : CO) (k : Rs → Prop) : Prop :=
  match co with
  | .mv x => evX L x fun v => k (.val v)
  | .pick c a b => evX L c fun v => match v with
    | .bool q => match q with
      | true => evX L a fun v => k (.val v)
      | false => evX L b fun v => k (.val v)
    | _ => False
  | .box T x => evX L x fun v => allCells v.cells = true ∧ k (.fresh T (.rows v.cells.length [v.cells]) (fun id => .ptr id v.cells.length 0 0) H)
  | .allc T zs => k (.fresh T (.rows zs.length [zs]) (fun id => .ptr id zs.length 0 0) H)
  | .load n x => evX L x fun v => match v with
    | .fp cs => oA (partA cs 0 n) fun r => k (.val r)
    | .ptr id sz i j => ∃ l r, hget H id = some (.rows sz l) ∧ l[i]? = some r ∧ oA (partA (r.drop j) 0 n) fun v => k (.val v)
    | _ => False
  | .store n x y => evX L x fun v => evX L y fun z => match v with
    | .ptr id sz i j => ∃ l r, hget H id = some (.rows sz l) ∧ l[i]? = some r ∧ z.cells.length = n ∧ allCells z.cells = true ∧ j + n ≤ r.length ∧ hsetN H id (.rows sz (l.set i (over r j z.cells))) fun H' => k (.upd H')
    | _ => False
  | .faddr off x => evX L x fun v => match v with
    | .ptr id sz i j => k (.val (.ptr id sz i (j + off)))
    | .fp cs => k (.val (.fp (cs.drop off)))
    | _ => False
  | .iaddr sz x i => evX L x fun v => evX L i fun w => match w with
    | .int _ n => match v with
      | .rows sz' l => nG sz' sz ((0 ≤ n ∧ n < l.length) ∧ k (.val (.fp (l.getD n.toNat []))))
      | .own id sz' lo hi => nG sz' sz ((0 ≤ n ∧ n < ((hi - lo : Nat) : Int)) ∧ k (.val (.ptr id sz (lo + n.toNat) 0)))
      | _ => False
    | _ => False
  | .iarr len sz x i => evX L x fun v => evX L i fun w => match w with
    | .int _ n => (0 ≤ n ∧ n < len) ∧ match v with
      | .ptr id z a j => k (.val (.ptr id z a (j + n.toNat * sz)))
      | .fp cs => k (.val (.fp (cs.drop (n.toNat * sz))))
      | _ => False
    | _ => False
  | .field off n x => evX L x fun v => match v with
    | .agg cs => oA (partA cs off n) fun r => k (.val r)
    | _ => False
  | .idx x i => evX L x fun v => evX L i fun w => match v with
    | .str l => match w with
      | .int _ n => (0 ≤ n ∧ n < l.length) ∧ k (.val (.int .u8 ((l.getD n.toNat 0).toNat : Int)))
      | _ => False
    | _ => False
  | .idxA len sz n x i => evX L x fun v => evX L i fun w => match v with
    | .agg cs => match w with
      | .int _ a => (0 ≤ a ∧ a < len) ∧ oA (partA cs (a.toNat * sz) n) fun r => k (.val r)
      | _ => False
    | _ => False
  | .bin op x y => evX L x fun a => evX L y fun b => match a with
    | .int ka m => match b with
      | .int kb n => match op with
        | .quo => kG ka kb (n ≠ 0 ∧ rng (IntKind.wrap ka (m.tdiv n)) fun z => k (.val (.int ka z)))
        | .rem => kG ka kb (n ≠ 0 ∧ k (.val (.int ka (m.tmod n))))
        | .shl => 0 ≤ n ∧ rng (IntKind.wrap ka (m * 2 ^ (min n.toNat ka.bits))) fun z => k (.val (.int ka z))
        | .shr => 0 ≤ n ∧ k (.val (.int ka (m.fdiv (2 ^ (min n.toNat ka.bits)))))
        | .add => kG ka kb (rng (IntKind.wrap ka (m + n)) fun z => k (.val (.int ka z)))
        | .sub => kG ka kb (rng (IntKind.wrap ka (m - n)) fun z => k (.val (.int ka z)))
        | .mul => kG ka kb (rng (IntKind.wrap ka (m * n)) fun z => k (.val (.int ka z)))
        | op => kG ka kb (oA (binInt op ka m n) fun r => k (.val r))
      | _ => False
    | .str p => match b with
      | .str q => match op with
        | .add => ((p.length + q.length : Nat) : Int) ≤ 9223372036854775807 ∧ k (.val (.str (p ++ q)))
        | op => oA (binStr op p q) fun r => k (.val r)
      | _ => False
    | _ => False
  | .beq neg x y => evX L x fun a => evX L y fun b => match a with
    | .bool p => match b with
      | .bool q => k (.val (.bool (match neg with | true => !(p == q) | false => (p == q))))
      | _ => False
    | _ => False
  | .ncmpS neg x => evX L x fun a => match a with
    | .nilS => k (.val (.bool (match neg with | true => false | false => true)))
    | .own _ _ _ _ => k (.val (.bool (match neg with | true => true | false => false)))
    | .rows _ l => l ≠ [] ∧ k (.val (.bool (match neg with | true => true | false => false)))
    | _ => False
  | .ncmpP neg x => evX L x fun a => oA (isNilP a) fun b => k (.val (.bool (match neg with | true => !b | false => b)))
  | .aeq neg sh x y => evX L x fun a => evX L y fun b => match a with
    | .agg xs => match b with
      | .agg ys => ∃ r, eqCells sh xs ys = some r ∧ k (.val (.bool (match neg with | true => !r | false => r)))
      | _ => False
    | _ => False
  | .un op x => evX L x fun a => oA (unV op a) fun r => k (.val r)
  | .conv kd x => evX L x fun a => match a with
    | .int _ n => rng (IntKind.wrap kd n) fun z => k (.val (.int kd z))
    | _ => False
  | .convS x => evX L x fun a => match a with
    | .str l => k (.val (.str l))
    | _ => False
  | .bytesS x => evX L x fun v => ∃ ys l, readS H false 1 v = some ys ∧ bytesA ys = some l ∧ k (.val (.str l))
  | .strB x => evX L x fun v => match v with
    | .str l => k (.val (.rows 1 (l.map fun c => [.int .u8 (c.toNat : Int)])))
    | _ => False
  | .ext e xs => evXs L xs fun vs => oA (extA e vs) fun v => k (.val v)
  | .build zs parts => evX3 L parts fun ps => ∃ cs, overs zs ps = some cs ∧ allCells cs = true ∧ k (.val (.agg cs))
  | .bslice T sz n zs parts => evX2 L parts fun ps => ∃ l, setRows sz (List.replicate n zs) ps = some l ∧ l.all allCells = true ∧
      match n with
      | 0 => k (.fresh T (.rows sz []) (fun id => .own id sz 0 0) H)
      | _ + 1 => k (.val (.rows sz l))
  | .bsliceO T sz n zs parts => evX2 L parts fun ps => ∃ l, setRows sz (List.replicate n zs) ps = some l ∧ l.all allCells = true ∧ k (.fresh T (.rows sz l) (fun id => .own id sz 0 n) H)
  | .slice kk x lo hi => evX L x fun v => oA (lenA kk.isNone v) fun n => evXO L 0 lo fun a => evXO L n hi fun b => (0 ≤ a ∧ a ≤ b ∧ b ≤ n) ∧
      match v with
      | .str l => k (.val (.str ((l.take b.toNat).drop a.toNat)))
      | .rows sz l => kk = some sz ∧ k (.val (.rows sz ((l.take b.toNat).drop a.toNat)))
      | .nilS => k (.val .nilS)
      | .own id sz l _ => kk = some sz ∧ k (.val (.own id sz (l + a.toNat) (l + b.toNat)))
      | _ => False
  | .mks T sz bytes zs n => evX L n fun v => match v with
    | .int _ a => (0 ≤ a ∧ a * bytes ≤ 140737488355328) ∧ k (.fresh T (.rows sz (List.replicate a.toNat zs)) (fun id => .own id sz 0 a.toNat) H)
    | _ => False
  | .len str x => evX L x fun v => oA (lenA str v) fun n => k (.val (.int .i64 n))
  | .append T str sz bytes x y => evX L x fun v => evX L y fun z => match v with
    | .nilS => ∃ ys, readS H str sz z = some ys ∧ ys.length * bytes ≤ 140737488355328 ∧ (ys = [] → k (.val .nilS)) ∧ (ys ≠ [] → k (.fresh T (.rows sz ys) (fun id => .own id sz 0 ys.length) H))
    | .own id sz' lo hi => ∃ xs ys, readS H false sz (.own id sz' lo hi) = some xs ∧ readS H str sz z = some ys ∧ sz' = sz ∧ lo = 0 ∧ tag id = T ∧ (xs.length + ys.length) * bytes ≤ 140737488355328 ∧
        k (.fresh T (.rows sz (xs ++ ys)) (fun id => .own id sz 0 (xs.length + ys.length)) (hdel H id))
    | .emp => ∃ ys, readS H str sz z = some ys ∧ ys.length * bytes ≤ 140737488355328 ∧ (ys = [] → k (.val .emp)) ∧ (ys ≠ [] → k (.fresh T (.rows sz ys) (fun id => .own id sz 0 ys.length) H))
    | _ => False
  | .mm mx xs => evXs L xs fun vs => oA (mm2 mx vs) fun v => k (.val v)
  | .extr x i => evX L x fun v => match v with
    | .tup vs => oA (vs[i]?) fun r => k (.val r)
    | _ => False
  | .call f xs => evXs L xs fun vs => k (.call f vs)
  | .callv g xs => evX L g fun c => evXs L xs fun vs => match c with
    | .clo f first caps => k (.call f (first ++ vs ++ caps))
    | .yld id => k (.yield id vs)
    | _ => False
  | .mkfn f first caps => evXs L first fun us => evXs L caps fun vs => k (.val (.clo f us vs))
  | .idu x => evX L x fun v => match v with
    | .nilP => k (.val .nilP)
    | .ptr id sz i j => ∃ l, hget H id = some (.rows sz l) ∧ i < l.length ∧ j < sz ∧ k (.val (.ptr id sz i j))
    | _ => False
  | .idf als x => evX L x fun v => match v with
    | .nilP => k (.val .nilP)
    | .ptr id sz i j => ∃ l, hget H id = some (.rows sz l) ∧ ∃ u, tag id = u ∧ (i = 0 ∧ 0 < l.length) ∧ als.contains (u, sz, j) = true ∧ k (.val (.ptr id sz 0 j))
    | _ => False
  | .peq neg x y => evX L x fun a => evX L y fun b => match a with
    | .ptr id sz i j => match b with
      | .ptr id' sz' i' j' => (id = id' ∧ sz = sz' ∧ i = i' ∧ j = j') ∧ k (.val (.bool (!neg)))
      | _ => False
    | _ => False
  | .sdata x => evX L x fun v => match v with
    | .nilS => k (.val .nilP)
    | .own id sz lo hi => lo < hi ∧ k (.val (.ptr id sz lo 0))
    | _ => False
  | .ustr u x n => evX L x fun v => evX L n fun w => match v with
    | .nilP => match w with
      | .int .i64 q => q = 0 ∧ k (.val (.str []))
      | _ => False
    | .ptr id sz i j => match w with
      | .int .i64 q => ∃ l b, hget H id = some (.rows 1 l) ∧ bytesA (l.take q.toNat) = some b ∧ sz = 1 ∧ i = 0 ∧ j = 0 ∧ 0 < q ∧ q ≤ l.length ∧ q ≤ 9223372036854775807 ∧ tag id = u ∧ k (.valH (.str b) (hdel H id))
      | _ => False
    | _ => False
  | .nilck x => evX L x fun v => match v with
    | .ptr _ _ _ _ => k (.val v)
    | .fp _ => k (.val v)
    | _ => False
  | .bad => False
theorem evX_of {L : FL} {x : X} {k : AV → Prop} (h : evX L x k) : ∃ v, ev (frm L) x = some v ∧ k v := by
  cases x with
  | t n =>
    simp only [evX] at h
    simp only [ev, frm]
    cases hg : L.get n with
    | none => rw [hg] at h; exact h.elim
    | some v => rw [hg] at h; exact ⟨v, rfl, h⟩
  | c v => exact ⟨v, rfl, h⟩
  | bad => exact h.elim
theorem evXs_of {L : FL} : ∀ {xs : List X} {k : List AV → Prop}, evXs L xs k → ∃ vs, evL (frm L) xs = some vs ∧ k vs
  | [], k, h => ⟨[], rfl, h⟩
  | x :: xs, k, h => by
    obtain ⟨v, h1, h2⟩ := evX_of h
    obtain ⟨vs, h3, h4⟩ := evXs_of h2
    exact ⟨v :: vs, by simp [evL, h1, h3], h4⟩
theorem evX3_of {L : FL} : ∀ {xs : List (Nat × Nat × X)} {k : List (Nat × Nat × AV) → Prop}, evX3 L xs k → ∃ vs, evParts3 (frm L) xs = some vs ∧ k vs
  | [], k, h => ⟨[], rfl, h⟩
  | (o, z, x) :: xs, k, h => by
    obtain ⟨v, h1, h2⟩ := evX_of h
    obtain ⟨vs, h3, h4⟩ := evX3_of h2
    exact ⟨(o, z, v) :: vs, by simp [evParts3, h1, h3], h4⟩
theorem evX2_of {L : FL} : ∀ {xs : List (Nat × X)} {k : List (Nat × AV) → Prop}, evX2 L xs k → ∃ vs, evParts2 (frm L) xs = some vs ∧ k vs
  | [], k, h => ⟨[], rfl, h⟩
  | (i, x) :: xs, k, h => by
    obtain ⟨v, h1, h2⟩ := evX_of h
    obtain ⟨vs, h3, h4⟩ := evX2_of h2
    exact ⟨(i, v) :: vs, by simp [evParts2, h1, h3], h4⟩
theorem evXO_of {L : FL} {d : Int} {x : Option X} {k : Int → Prop} (h : evXO L d x k) : ∃ n, evO (frm L) d x = some n ∧ k n := by
  cases x with
  | none => exact ⟨d, rfl, h⟩
  | some x =>
    obtain ⟨v, h1, h2⟩ := evX_of h
    cases v <;> try exact h2.elim
    exact ⟨_, by simp only [evO, h1, Option.bind_some], h2⟩
theorem oA_of {α : Type} {o : Option α} {k : α → Prop} (h : oA o k) : ∃ x, o = some x ∧ k x := by
  cases o with
  | none => exact h.elim
  | some x => exact ⟨x, rfl, h⟩
theorem opF_of {L : FL} {H : AH} {co : CO} {k : Rs → Prop} (h : opF L H co k) : ∃ rs, evalOp (frm L) H co = some rs ∧ k rs := by
  cases co <;> simp only [opF] at h
  case mv x =>
    obtain ⟨v, h1, h2⟩ := evX_of h
    exact ⟨_, by simp only [evalOp, h1, Option.bind_some], h2⟩
  case pick c x y =>
    obtain ⟨v, h1, h2⟩ := evX_of h
    cases v <;> try exact h2.elim
    rename_i q
    cases q with
    | true => obtain ⟨u, h3, h4⟩ := evX_of h2; exact ⟨_, by simp only [evalOp, h1, h3, Option.bind_some, if_true], h4⟩
    | false => obtain ⟨u, h3, h4⟩ := evX_of h2; exact ⟨_, by simp only [evalOp, h1, h3, Option.bind_some, Bool.false_eq_true, if_false], h4⟩
  case box T x =>
    obtain ⟨v, h1, h2⟩ := evX_of h
    exact ⟨_, by simp only [evalOp, h1, Option.bind_some, h2.1, if_true], h2.2⟩
  case allc T zs => exact ⟨_, rfl, h⟩
  case load n x =>
    obtain ⟨v, h1, h2⟩ := evX_of h
    cases v <;> try exact h2.elim
    case fp cs =>
      obtain ⟨r, h3, h4⟩ := oA_of h2
      exact ⟨_, by simp only [evalOp, h1, readA, Option.bind_some, h3], h4⟩
    case ptr id sz i j =>
      obtain ⟨l, r, h3, h4, h5⟩ := h2
      obtain ⟨u, h6, h7⟩ := oA_of h5
      exact ⟨_, by simp only [evalOp, h1, readA, Option.bind_some, h3, if_true, h4, Option.map_some, h6], h7⟩
  case store n x y =>
    obtain ⟨v, h1, h2⟩ := evX_of h
    obtain ⟨z, h3, h4⟩ := evX_of h2
    cases v <;> try exact h4.elim
    obtain ⟨l, r, h5, h6, h7, h8, h9, h10⟩ := h4
    replace h10 := h10.out
    exact ⟨_, by simp only [evalOp, h1, h3, Option.bind_some, h5, h6, h7, h8, h9, and_self, if_true], h10⟩
  case faddr off x =>
    obtain ⟨v, h1, h2⟩ := evX_of h
    cases v <;> first | exact h2.elim | exact ⟨_, by simp only [evalOp, h1, Option.bind_some], h2⟩
  case iaddr sz x i =>
    obtain ⟨v, h1, h2⟩ := evX_of h
    obtain ⟨w, h3, h4⟩ := evX_of h2
    cases w <;> try exact h4.elim
    cases v <;> try exact h4.elim
    · obtain ⟨h5, ⟨h6, h7⟩, h8⟩ := nG_of h4; exact ⟨_, by simp only [evalOp, h1, h3, Option.bind_some, h5, h6, h7, and_self, if_true], h8⟩
    · obtain ⟨h5, ⟨h6, h7⟩, h8⟩ := nG_of h4; exact ⟨_, by simp only [evalOp, h1, h3, Option.bind_some, h5, h6, h7, and_self, if_true], h8⟩
  case iarr len sz x i =>
    obtain ⟨v, h1, h2⟩ := evX_of h
    obtain ⟨w, h3, h4⟩ := evX_of h2
    cases w <;> try exact h4.elim
    cases v <;> first | exact h4.2.elim | (exact ⟨_, by simp only [evalOp, h1, h3, Option.bind_some, h4.1, and_self, if_true], h4.2⟩)
  case field off n x =>
    obtain ⟨v, h1, h2⟩ := evX_of h
    cases v <;> try exact h2.elim
    obtain ⟨r, h3, h4⟩ := oA_of h2
    exact ⟨_, by simp only [evalOp, h1, Option.bind_some, h3], h4⟩
  case idx x i =>
    obtain ⟨v, h1, h2⟩ := evX_of h
    obtain ⟨w, h3, h4⟩ := evX_of h2
    cases v <;> try exact h4.elim
    cases w <;> try exact h4.elim
    exact ⟨_, by simp only [evalOp, h1, h3, Option.bind_some, h4.1, and_self, if_true], h4.2⟩
  case idxA len sz n x i =>
    obtain ⟨v, h1, h2⟩ := evX_of h
    obtain ⟨w, h3, h4⟩ := evX_of h2
    cases v <;> try exact h4.elim
    cases w <;> try exact h4.elim
    obtain ⟨r, h5, h6⟩ := oA_of h4.2
    exact ⟨_, by simp only [evalOp, h1, h3, Option.bind_some, h4.1, and_self, if_true, h5], h6⟩
  case bin op x y =>
    obtain ⟨v, h1, h2⟩ := evX_of h
    obtain ⟨w, h3, h4⟩ := evX_of h2
    cases v <;> try exact h4.elim
    · cases w <;> try exact h4.elim
      cases op
      case quo => obtain ⟨rfl, h6, h7⟩ := kG_of h4; exact ⟨_, by simp only [evalOp, h1, h3, Option.bind_some, binV, if_true, binInt, if_pos h6], h7.out⟩
      case rem => obtain ⟨rfl, h6, h7⟩ := kG_of h4; exact ⟨_, by simp only [evalOp, h1, h3, Option.bind_some, binV, if_true, binInt, if_pos h6], h7⟩
      case shl => exact ⟨_, by simp only [evalOp, h1, h3, Option.bind_some, binV, h4.1, if_true], h4.2.out⟩
      case shr => exact ⟨_, by simp only [evalOp, h1, h3, Option.bind_some, binV, h4.1, if_true], h4.2⟩
      case add => obtain ⟨rfl, h6⟩ := kG_of h4; exact ⟨_, by simp only [evalOp, h1, h3, Option.bind_some, binV, if_true, binInt], h6.out⟩
      case sub => obtain ⟨rfl, h6⟩ := kG_of h4; exact ⟨_, by simp only [evalOp, h1, h3, Option.bind_some, binV, if_true, binInt], h6.out⟩
      case mul => obtain ⟨rfl, h6⟩ := kG_of h4; exact ⟨_, by simp only [evalOp, h1, h3, Option.bind_some, binV, if_true, binInt], h6.out⟩
      all_goals (obtain ⟨h5, h6⟩ := kG_of h4; obtain ⟨r, h7, h8⟩ := oA_of h6; exact ⟨_, by simp only [evalOp, h1, h3, Option.bind_some, binV, if_pos h5, h7], h8⟩)
    · cases w <;> try exact h4.elim
      cases op
      case add => exact ⟨_, by simp only [evalOp, h1, h3, Option.bind_some, binV, binStr, if_pos h4.1], h4.2⟩
      all_goals (obtain ⟨r, h7, h8⟩ := oA_of h4; exact ⟨_, by simp only [evalOp, h1, h3, Option.bind_some, binV, h7], h8⟩)
  case beq neg x y =>
    obtain ⟨v, h1, h2⟩ := evX_of h
    obtain ⟨w, h3, h4⟩ := evX_of h2
    cases v <;> try exact h4.elim
    cases w <;> try exact h4.elim
    cases neg <;> exact ⟨_, by simp only [evalOp, h1, h3, Option.bind_some, if_true, Bool.false_eq_true, if_false], h4⟩
  case ncmpS neg x =>
    obtain ⟨v, h1, h2⟩ := evX_of h
    cases v <;> try exact h2.elim
    · cases neg <;> exact ⟨_, by simp only [evalOp, h1, Option.bind_some, isNilS, if_pos h2.1, if_true, Bool.false_eq_true, if_false, Bool.not_false], h2.2⟩
    · cases neg <;> exact ⟨_, by simp only [evalOp, h1, Option.bind_some, isNilS, if_true, Bool.false_eq_true, if_false, Bool.not_true], h2⟩
    · cases neg <;> exact ⟨_, by simp only [evalOp, h1, Option.bind_some, isNilS, if_true, Bool.false_eq_true, if_false, Bool.not_false], h2⟩
  case ncmpP neg x =>
    obtain ⟨v, h1, h2⟩ := evX_of h
    obtain ⟨b, h3, h4⟩ := oA_of h2
    cases neg <;> exact ⟨_, by simp only [evalOp, h1, Option.bind_some, h3, if_true, Bool.false_eq_true, if_false], h4⟩
  case aeq neg sh x y =>
    obtain ⟨v, h1, h2⟩ := evX_of h
    obtain ⟨w, h3, h4⟩ := evX_of h2
    cases v <;> try exact h4.elim
    cases w <;> try exact h4.elim
    obtain ⟨r, h5, h6⟩ := h4
    cases neg <;> exact ⟨_, by simp only [evalOp, h1, h3, Option.bind_some, h5, if_true, Bool.false_eq_true, if_false], h6⟩
  case un op x =>
    obtain ⟨v, h1, h2⟩ := evX_of h
    obtain ⟨r, h3, h4⟩ := oA_of h2
    exact ⟨_, by simp only [evalOp, h1, Option.bind_some, h3], h4⟩
  case conv kd x =>
    obtain ⟨v, h1, h2⟩ := evX_of h
    cases v <;> try exact h2.elim
    exact ⟨_, by simp only [evalOp, h1, Option.bind_some], rng.out h2⟩
  case convS x =>
    obtain ⟨v, h1, h2⟩ := evX_of h
    cases v <;> try exact h2.elim
    exact ⟨_, by simp only [evalOp, h1, Option.bind_some], h2⟩
  case strB x =>
    obtain ⟨v, h1, h2⟩ := evX_of h
    cases v <;> first | exact h2.elim | exact ⟨_, by simp only [evalOp, h1, Option.bind_some], h2⟩
  case bytesS x =>
    obtain ⟨v, h1, ys, l, h2, h3, h4⟩ := evX_of h
    exact ⟨_, by simp only [evalOp, h1, h2, h3, Option.bind_some], h4⟩
  case ext e xs =>
    obtain ⟨vs, h1, h2⟩ := evXs_of h
    obtain ⟨r, h3, h4⟩ := oA_of h2
    exact ⟨_, by simp only [evalOp, h1, Option.bind_some, h3], h4⟩
  case build zs ps =>
    obtain ⟨vs, h1, cs, h2, h3, h4⟩ := evX3_of h
    exact ⟨_, by simp only [evalOp, h1, Option.bind_some, h2, h3, if_true], h4⟩
  case bslice T sz n zs ps =>
    obtain ⟨vs, h1, l, h2, h3, h4⟩ := evX2_of h
    cases n with
    | zero => exact ⟨_, by simp only [evalOp, h1, Option.bind_some, h2, h3, if_true], h4⟩
    | succ n => exact ⟨_, by simp only [evalOp, h1, Option.bind_some, h2, h3, if_true, Nat.add_eq_zero_iff, Nat.one_ne_zero, and_false, if_false], h4⟩
  case bsliceO T sz n zs ps =>
    obtain ⟨vs, h1, l, h2, h3, h4⟩ := evX2_of h
    exact ⟨_, by simp only [evalOp, h1, Option.bind_some, h2, h3, if_true], h4⟩
  case slice kk x lo hi =>
    obtain ⟨v, h1, h2⟩ := evX_of h
    obtain ⟨n, h3, h4⟩ := oA_of h2
    obtain ⟨p, h5, h6⟩ := evXO_of h4
    obtain ⟨q, h7, h8, h9⟩ := evXO_of h6
    cases v <;> try exact h9.elim
    · exact ⟨_, by simp only [evalOp, h1, Option.bind_some, sliceA, h3, h5, h7, if_pos h8, cutA], h9⟩
    · exact ⟨_, by simp only [evalOp, h1, Option.bind_some, sliceA, h3, h5, h7, if_pos h8, cutA, if_pos h9.1], h9.2⟩
    · exact ⟨_, by simp only [evalOp, h1, Option.bind_some, sliceA, h3, h5, h7, if_pos h8, cutA], h9⟩
    · exact ⟨_, by simp only [evalOp, h1, Option.bind_some, sliceA, h3, h5, h7, if_pos h8, cutA, if_pos h9.1], h9.2⟩
  case mks T sz bytes zs n =>
    obtain ⟨v, h1, h2⟩ := evX_of h
    cases v <;> try exact h2.elim
    exact ⟨_, by simp only [evalOp, h1, Option.bind_some, if_pos h2.1], h2.2⟩
  case len str x =>
    obtain ⟨v, h1, h2⟩ := evX_of h
    obtain ⟨n, h3, h4⟩ := oA_of h2
    exact ⟨_, by simp only [evalOp, h1, Option.bind_some, h3], h4⟩
  case append T str sz bytes x y =>
    obtain ⟨v, h1, h2⟩ := evX_of h
    obtain ⟨z, h3, h4⟩ := evX_of h2
    cases v <;> try exact h4.elim
    · obtain ⟨ys, h5, h6, h7, h8⟩ := h4
      by_cases he : ys = []
      · exact ⟨_, by simp only [evalOp, h1, h3, Option.bind_some, h5, if_pos he], h7 he⟩
      · exact ⟨_, by simp only [evalOp, h1, h3, Option.bind_some, h5, if_neg he, if_pos h6], h8 he⟩
    · obtain ⟨xs, ys, h5, h6, h7, h8, h9, h10, h11⟩ := h4
      exact ⟨_, by simp only [evalOp, h1, h3, Option.bind_some, h5, h6, if_pos (And.intro h7 (And.intro h8 (And.intro h9 h10)))], h11⟩
    · obtain ⟨ys, h5, h6, h7, h8⟩ := h4
      by_cases he : ys = []
      · exact ⟨_, by simp only [evalOp, h1, h3, Option.bind_some, h5, if_pos he], h7 he⟩
      · exact ⟨_, by simp only [evalOp, h1, h3, Option.bind_some, h5, if_neg he, if_pos h6], h8 he⟩
  case mm mx xs =>
    obtain ⟨vs, h1, h2⟩ := evXs_of h
    obtain ⟨r, h3, h4⟩ := oA_of h2
    exact ⟨_, by simp only [evalOp, h1, Option.bind_some, h3], h4⟩
  case extr x i =>
    obtain ⟨v, h1, h2⟩ := evX_of h
    cases v <;> try exact h2.elim
    obtain ⟨r, h3, h4⟩ := oA_of h2
    exact ⟨_, by simp only [evalOp, h1, Option.bind_some, h3], h4⟩
  case call f xs =>
    obtain ⟨vs, h1, h2⟩ := evXs_of h
    exact ⟨_, by simp only [evalOp, h1, Option.bind_some], h2⟩
  case callv g xs =>
    obtain ⟨c, h1, h2⟩ := evX_of h
    obtain ⟨vs, h3, h4⟩ := evXs_of h2
    cases c <;> try exact h4.elim
    all_goals exact ⟨_, by simp only [evalOp, h1, h3, Option.bind_some], h4⟩
  case mkfn f us xs =>
    obtain ⟨vs, h1, h2⟩ := evXs_of h
    obtain ⟨vs2, h3, h4⟩ := evXs_of h2
    exact ⟨_, by simp only [evalOp, h1, h3, Option.bind_some], h4⟩
  case idu x =>
    obtain ⟨v, h1, h2⟩ := evX_of h
    cases v <;> try exact h2.elim
    · obtain ⟨l, h3, h4, h5, h6⟩ := h2
      exact ⟨_, by simp [evalOp, h1, h3, h4, h5], h6⟩
    · exact ⟨_, by simp only [evalOp, h1, Option.bind_some], h2⟩
  case idf als x =>
    obtain ⟨v, h1, h2⟩ := evX_of h
    cases v <;> try exact h2.elim
    · obtain ⟨l, h3, u, h4, h5, h6, h9⟩ := h2
      subst h4
      exact ⟨_, by simp only [evalOp, h1, Option.bind_some, h3]; exact if_pos ⟨by trivial, h5.1, h5.2, h6⟩, h9⟩
    · exact ⟨_, by simp only [evalOp, h1, Option.bind_some], h2⟩
  case peq neg x y =>
    obtain ⟨v, h1, h2⟩ := evX_of h
    obtain ⟨w, h3, h4⟩ := evX_of h2
    cases v <;> try exact h4.elim
    cases w <;> try exact h4.elim
    exact ⟨_, by simp only [evalOp, h1, h3, Option.bind_some, if_pos h4.1], h4.2⟩
  case sdata x =>
    obtain ⟨v, h1, h2⟩ := evX_of h
    cases v <;> try exact h2.elim
    · exact ⟨_, by simp only [evalOp, h1, Option.bind_some], h2⟩
    · exact ⟨_, by simp only [evalOp, h1, Option.bind_some, if_pos h2.1], h2.2⟩
  case ustr u x n =>
    obtain ⟨v, h1, h2⟩ := evX_of h
    obtain ⟨w, h3, h4⟩ := evX_of h2
    cases v <;> try exact h4.elim
    · cases w <;> try exact h4.elim
      rename_i kd q
      cases kd <;> try exact h4.elim
      obtain ⟨l, b, h5, h6, h7, h8, h9, h10, h11, h12, h13, h14⟩ := h4
      exact ⟨_, by subst h8; subst h9; simp [evalOp, h1, h3, h5, h6, h7, h10, h11, h12, h13], h14⟩
    · cases w <;> try exact h4.elim
      rename_i kd q
      cases kd <;> try exact h4.elim
      exact ⟨_, by simp only [evalOp, h1, h3, Option.bind_some, if_pos h4.1], h4.2⟩
  case nilck x =>
    obtain ⟨v, h1, h2⟩ := evX_of h
    cases v <;> first | exact h2.elim | exact ⟨_, by simp only [evalOp, h1, Option.bind_some], h2⟩
end Go.Proofs.YtjaigpidmngaaaaGreat

namespace Go.Proofs.YtjaigpidmngaaaaGreat
structure bsplit (q : Bool) (k : Bool → Prop) : Prop where
  out : k q
theorem bsplit_intro {q : Bool} {k : Bool → Prop} (h1 : q = true → k true) (h2 : q = false → k false) : bsplit q k := ⟨by cases q with | true => exact h1 rfl | false => exact h2 rfl⟩
theorem bsplit_t {q : Bool} {k : Bool → Prop} (h : q = true) (h1 : k true) : bsplit q k := by rw [h]; exact ⟨h1⟩
theorem bsplit_f {q : Bool} {k : Bool → Prop} (h : q = false) (h1 : k false) : bsplit q k := by rw [h]; exact ⟨h1⟩
theorem bsplit_tt {k : Bool → Prop} (h : k true) : bsplit true k := ⟨h⟩
theorem bsplit_ff {k : Bool → Prop} (h : k false) : bsplit false k := ⟨h⟩
theorem bsplit_dec {p : Prop} [Decidable p] {k : Bool → Prop} (h1 : p → k true) (h2 : ¬ p → k false) : bsplit (decide p) k :=
  bsplit_intro (fun h => h1 (of_decide_eq_true h)) (fun h => h2 (of_decide_eq_false h))
theorem bsplit_pos {p : Prop} [Decidable p] {k : Bool → Prop} (h : p) (h1 : k true) : bsplit (decide p) k := bsplit_t (decide_eq_true h) h1
theorem bsplit_neg {p : Prop} [Decidable p] {k : Bool → Prop} (h : ¬ p) (h1 : k false) : bsplit (decide p) k := bsplit_f (decide_eq_false h) h1
theorem bsplit_not {q : Bool} {k : Bool → Prop} (h : bsplit q fun b => k (!b)) : bsplit (!q) k := ⟨h.out⟩
structure callF (P : Program) (f : Nat) (args : List AV) (H : AH) (K : AV → AH → Prop) : Prop where
  out : callA P f args H K
structure callG (P : Program) (f : Nat) (args : List AV) (H0 D H : AH) (K : AV → AH → AH → Prop) : Prop where
  out : (∃ r, callP P f args H0 r ∧ K r D H) ∨ ∃ id b r b', hget D id = some b ∧ callW P f args H0 id b r b' ∧ K r (hdel D id) (hset H id b')
theorem callF_of {P : Program} {f : Nat} {args : List AV} {H : AH} {K : AV → AH → Prop} (h : ACalls P f args H K) : callF P f args H K := ⟨callA_of h⟩
theorem callF_eq {P : Program} {f : Nat} {args : List AV} {H : AH} {K : AV → AH → Prop} {r : AV} (h : ACalls P f args H fun r' H' => r' = r ∧ H' = H) (k : K r H) : callF P f args H K := ⟨callA_eq h k⟩
theorem callG_eq {P : Program} {f : Nat} {args : List AV} {H0 D H : AH} {K : AV → AH → AH → Prop} {r : AV} (hp : r.plain = true) (h : ACalls P f args H0 fun r' H' => r' = r ∧ H' = H0) (k : K r D H) : callG P f args H0 D H K := ⟨.inl ⟨r, callP_plain hp h, k⟩⟩
theorem FzL.nil (H Hc : AH) : FzL H Hc [] [] := FzL.refl H Hc []
theorem FzL.cons {H Hc : AH} {v v' : AV} {vs vs' : List AV} (h : Fz H Hc v v') (hs : FzL H Hc vs vs') : FzL H Hc (v :: vs) (v' :: vs') := by
  refine ⟨by simp [hs.1], fun i a b h1 h2 => ?_⟩
  cases i with
  | zero => simp at h1 h2; rw [← h1, ← h2]; exact h
  | succ i => exact hs.2 i a b (by simpa using h1) (by simpa using h2)
theorem fz_own {H Hc : AH} {id sz lo hi : Nat} {l : List (List AV)} (hg : hget H id = some (.rows sz l)) (hd : hget Hc id = none) (h1 : lo ≤ hi) (h2 : hi ≤ l.length) (hw : ∀ (i : Nat) r, l[i]? = some r → r.length = sz) :
    Fz H Hc (.own id sz lo hi) (.rows sz ((l.take hi).drop lo)) := by
  have key : ∀ i r', ((l.take hi).drop lo)[i]? = some r' → l[lo + i]? = some r' := by
    intro i r' q
    rw [List.getElem?_drop, List.getElem?_take] at q
    split at q
    · exact q
    · cases q
  refine .own id sz lo hi l _ hg hd h2 h1 (by simp; omega) (fun i r' q => hw _ _ (key i r' q)) fun i r r' j v v' q1 q2 q3 q4 => ?_
  rw [key i r' q2] at q1
  simp only [Option.some.injEq] at q1
  subst q1
  rw [q3] at q4
  simp only [Option.some.injEq] at q4
  subst q4
  exact .refl _
theorem ACalls.args {P : Program} {f : Nat} {args args' : List AV} {H : AH} {K : AV → AH → Prop} (h : ACalls P f args' H K) (hw : ∀ h ρ Z xs, RlL h ρ Z args xs → RlL h ρ Z args' xs) : ACalls P f args H K :=
  ⟨h.1, fun w ρ Z xs g hr => h.2 w ρ Z xs g (hw _ _ _ _ hr)⟩
theorem RlL.nilS {h : Array Obj} {ρ : Loc} {Z : Nat → Prop} {sz : Nat} {pre post : List AV} {xs : List Value} (hr : RlL h ρ Z (pre ++ .nilS :: post) xs) : RlL h ρ Z (pre ++ .rows sz [] :: post) xs := by
  refine ⟨by simpa using hr.1, fun i v x h1 h2 => ?_⟩
  by_cases e : i = pre.length
  · subst e
    have hq := hr.2 pre.length .nilS x (by simp) h2
    simp at h1
    subst h1
    cases hq
    exact .rowsN sz
  · refine hr.2 i v x ?_ h2
    rw [List.getElem?_append] at h1 ⊢
    split at h1
    · rename_i q; rw [if_pos q]; exact h1
    · rename_i q
      rw [if_neg q]
      obtain ⟨k, hk⟩ : ∃ k, i - pre.length = k + 1 := ⟨i - pre.length - 1, by omega⟩
      rw [hk] at h1 ⊢
      simpa using h1
theorem hget_ne_of {H : AH} {i j : Nat} {b : Blk} (h : hget H i = none) (h2 : hget H j = some b) : i ≠ j := fun e => by rw [e, h2] at h; cases h
theorem hget_set {H : AH} {i : Nat} {b c : Blk} (h : hget H i = some b) : hget (hset H i c) i = some c := by rw [hget_hset, if_pos rfl, h]; rfl
theorem hget_set_ne {H : AH} {i j : Nat} {c : Blk} (h : j ≠ i) : hget (hset H i c) j = hget H j := by rw [hget_hset, if_neg h]
theorem hget_del_ne {H : AH} {i j : Nat} (h : j ≠ i) : hget (hdel H i) j = hget H j := by rw [hget_hdel, if_neg h]
theorem hdel_none {H : AH} {i : Nat} (h : hget H i = none) : hdel H i = H := by
  induction H with
  | nil => rfl
  | cons p H ih =>
    obtain ⟨k, d⟩ := p
    simp only [hget] at h
    split at h
    · cases h
    · rename_i e
      simp only [hdel]
      rw [if_neg e, ih h]
theorem hdel_cons {H : AH} {i : Nat} {b : Blk} (h : hget H i = none) : hdel ((i, b) :: H) i = H := by
  simp only [hdel]; rw [if_pos trivial, hdel_none h]
theorem hget_tail {id j : Nat} {b : Blk} {H : AH} (h : j ≠ id) : hget ((j, b) :: H) id = hget H id := by simp only [hget]; rw [if_neg (fun e => h e.symm)]
theorem hset_self {id : Nat} {b c : Blk} {H : AH} : hset ((id, b) :: H) id c = (id, c) :: H := by simp [hset]
theorem hget_fresh {id j : Nat} {b : Blk} {H : AH} (h : hget ((j, b) :: H) id = none) : id ≠ j ∧ hget H id = none := by
  simp only [hget] at h
  split at h
  · cases h
  · rename_i e; exact ⟨e, h⟩
theorem hget_self {id : Nat} {b : Blk} {H : AH} : hget ((id, b) :: H) id = some b := by simp [hget]
structure yldF (P : Program) (id : Nat) (args : List AV) (H : AH) (K : AV → AH → Prop) : Prop where
  out : yldA P id args H K
def applyF (P : Program) (rs : Rs) (d : Option Nat) (L : FL) (H : AH) (K : FL → AH → Prop) : Prop :=
  match rs with
  | .val v => putK L d v fun L => K L H
  | .upd H' => delK L d fun L => K L H'
  | .valH v H' => putK L d v fun L => K L H'
  | .fresh T blk v H' => ∀ id, hget H id = none → tag id = T → putK L d (v id) fun L => K L ((id, blk) :: H')
  | .call f args => callF P f args H fun r H' => putK L d r fun L => K L H'
  | .yield id args => yldF P id args H fun r H' => putK L d r fun L => K L H'
def opFp (L : FL) (H : AH) (co : CO) (k : Rs → Prop) : Prop :=
  match co with
  | .pick c a b => evX L c fun v => match v with
    | .bool q => bsplit q fun q => match q with
      | true => evX L a fun v => k (.val v)
      | false => evX L b fun v => k (.val v)
    | _ => False
  | co => opF L H co k
def opsCons (P : Program) (o : COp) (ih : (FL → AH → Prop) → FL → AH → Prop) (K : FL → AH → Prop) (L : FL) (H : AH) : Prop :=
    match o.guard with
    | none => opFp L H o.co fun rs => applyF P rs o.dst L H (ih K)
    | some (g, want) => match L.get g with
      | some (.bool q) => bsplit q fun b => match b with
        | true => match want with
          | true => opFp ((g, some (.bool true)) :: L) H o.co fun rs => applyF P rs o.dst ((g, some (.bool true)) :: L) H (ih K)
          | false => putK ((g, some (.bool true)) :: L) o.dst (.tup []) fun L => ih K L H
        | false => match want with
          | false => opFp ((g, some (.bool false)) :: L) H o.co fun rs => applyF P rs o.dst ((g, some (.bool false)) :: L) H (ih K)
          | true => putK ((g, some (.bool false)) :: L) o.dst (.tup []) fun L => ih K L H
      | some (.tup []) => putK L o.dst (.tup []) fun L => ih K L H
      | _ => False
noncomputable def wpOpsF (P : Program) (os : List COp) (K : FL → AH → Prop) (L : FL) (H : AH) : Prop :=
  @List.rec COp (fun _ => (FL → AH → Prop) → FL → AH → Prop) (fun K L H => K L H) (fun o _ ih => opsCons P o ih) os K L H
theorem wpOpsF_cons (P : Program) (o : COp) (os : List COp) (K : FL → AH → Prop) (L : FL) (H : AH) : wpOpsF P (o :: os) K L H = opsCons P o (wpOpsF P os) K L H := rfl
noncomputable def slotF (F : List (Nat × Nat × Blk)) (t : Nat) : Option (Nat × Blk) := @List.rec (Nat × Nat × Blk) (fun _ => Option (Nat × Blk)) none (fun p _ ih => match Nat.beq t p.1 with
    | true => some p.2
    | false => ih) F
def addF (F : List (Nat × Nat × Blk)) (d : Option Nat) (id : Nat) (b : Blk) : List (Nat × Nat × Blk) :=
  match d with
  | some d => (d, id, b) :: F
  | none => F
abbrev FF := List (Nat × Nat × Blk)
def drawF (P : Program) (rs : Rs) (d : Option Nat) (L : FL) (H0 D : AH) (F : FF) (H : AH) (K : FL → AH → FF → AH → Prop) : Prop :=
  match rs with
  | .val v => putK L d v fun L => K L D F H
  | .upd _ => False
  | .valH _ _ => False
  | .fresh T blk v H' => H' = H0 ∧ ∀ id, hget H id = none → tag id = T → putK L d (v id) fun L => K L D (addF F d id blk) ((id, blk) :: H)
  | .call f args => callG P f args H0 D H fun r D' H' => putK L d r fun L => K L D' F H'
  | .yield _ _ => False
noncomputable def drawStF (P : Program) (o : COp) (L : FL) (H0 D : AH) (F : FF) (H : AH) (k : FL → AH → FF → AH → Prop) : Prop :=
  match o.co with
  | .store n x y => evX L x fun v => evX L y fun z => match v with
    | .ptr id sz i j => match (match x with | .t t => slotF F t | _ => none) with
      | some p => ∃ l r, hget [p] id = some (.rows sz l) ∧ l[i]? = some r ∧ z.cells.length = n ∧ allCells z.cells = true ∧ j + n ≤ r.length ∧ hsetN H id (.rows sz (l.set i (over r j z.cells))) fun H' => delK L o.dst fun L => k L D [] H'
      | none => ∃ l r, hget D id = some (.rows sz l) ∧ l[i]? = some r ∧ z.cells.length = n ∧ allCells z.cells = true ∧ j + n ≤ r.length ∧ hsetN H id (.rows sz (l.set i (over r j z.cells))) fun H' => delK L o.dst fun L => k L (hdel D id) F H'
    | _ => False
  | co => opFp L H0 co fun rs => drawF P rs o.dst L H0 D F H k
noncomputable def drawCons (P : Program) (o : COp) (ih : (FL → AH → Prop) → FL → AH → AH → FF → AH → Prop) (K : FL → AH → Prop) (L : FL) (H0 D : AH) (F : FF) (H : AH) : Prop :=
    match o.guard with
    | none => drawStF P o L H0 D F H fun L' D' F' H' => ih K L' H0 D' F' H'
    | some (g, want) => match L.get g with
      | some (.bool q) => bsplit q fun b => match b with
        | true => match want with
          | true => drawStF P o ((g, some (.bool true)) :: L) H0 D F H fun L' D' F' H' => ih K L' H0 D' F' H'
          | false => putK ((g, some (.bool true)) :: L) o.dst (.tup []) fun L => ih K L H0 D F H
        | false => match want with
          | false => drawStF P o ((g, some (.bool false)) :: L) H0 D F H fun L' D' F' H' => ih K L' H0 D' F' H'
          | true => putK ((g, some (.bool false)) :: L) o.dst (.tup []) fun L => ih K L H0 D F H
      | some (.tup []) => putK L o.dst (.tup []) fun L => ih K L H0 D F H
      | _ => False
noncomputable def wpDrawF (P : Program) (os : List COp) (K : FL → AH → Prop) (L : FL) (H0 D : AH) (F : FF) (H : AH) : Prop :=
  @List.rec COp (fun _ => (FL → AH → Prop) → FL → AH → AH → FF → AH → Prop) (fun K L _ _ _ H => K L H) (fun o _ ih => drawCons P o ih) os K L H0 D F H
noncomputable def stId (L : FL) (o : COp) : Option Nat :=
  match o.co with
  | .store _ x _ => match x with
    | .t k => match L.get k with
      | some (.ptr id _ _ _) => some id
      | _ => none
    | _ => none
  | _ => none
structure hdelK (H : AH) (id : Nat) (k : AH → Prop) : Prop where
  out : k (hdel H id)
theorem hdelK_any {H : AH} {id : Nat} {k : AH → Prop} (h : k (hdel H id)) : hdelK H id k := ⟨h⟩
theorem hdelK_top {H : AH} {id : Nat} {b : Blk} {k : AH → Prop} (hn : hget H id = none) (h : k H) : hdelK ((id, b) :: H) id k := ⟨by rw [hdel_cons hn]; exact h⟩
theorem hdelK_down {T : AH} {i id : Nat} {c : Blk} {k : AH → Prop} (h : i ≠ id) (h2 : hdelK T id fun T' => k ((i, c) :: T')) : hdelK ((i, c) :: T) id k :=
  ⟨by rw [show hdel ((i, c) :: T) id = (i, c) :: hdel T id from by simp only [hdel]; rw [if_neg (fun e => h e.symm)]]; exact h2.out⟩
noncomputable def withD (L : FL) (os : List COp) (k : AH → AH → Prop) (H0 D : AH) : Prop :=
  @List.rec COp (fun _ => AH → AH → Prop) k (fun o _ ih H0 D => match stId L o with
    | some id => ∃ b, hget H0 id = some b ∧ hdelK H0 id fun H0' => ih H0' ((id, b) :: D)
    | none => ih H0 D) os H0 D
theorem withD_of {L : FL} {k : AH → AH → Prop} {H : AH} : ∀ (os : List COp) (H0 D : AH), Sub H0 H → Sub D H → (∀ id b, hget D id = some b → hget H0 id = none) → withD L os k H0 D → ∃ H0 D, Sub H0 H ∧ Sub D H ∧ (∀ id b, hget D id = some b → hget H0 id = none) ∧ k H0 D
  | [], H0, D, h1, h2, h3, h => ⟨H0, D, h1, h2, h3, h⟩
  | o :: os, H0, D, h1, h2, h3, h => by
    have h' : (match stId L o with
      | some id => ∃ b, hget H0 id = some b ∧ hdelK H0 id fun H0' => withD L os k H0' ((id, b) :: D)
      | none => withD L os k H0 D) := h
    split at h'
    · rename_i id _
      obtain ⟨b, hb, h'⟩ := h'
      replace h' := h'.out
      refine withD_of os (hdel H0 id) ((id, b) :: D) (fun j c q => ?_) (fun j c q => ?_) (fun j c q => ?_) h'
      · rw [hget_hdel] at q
        split at q
        · cases q
        · exact h1 _ _ q
      · simp only [hget] at q
        split at q
        · rename_i e; subst e; rw [← q]; exact h1 _ _ hb
        · exact h2 _ _ q
      · simp only [hget] at q
        rw [hget_hdel]
        split at q
        · rename_i e; rw [if_pos e]
        · rename_i e; rw [if_neg e]; exact h3 _ _ q
    · exact withD_of os H0 D h1 h2 h3 h'
structure drawD (L : FL) (os : List COp) (k : AH → AH → Prop) (H : AH) : Prop where
  out : ∃ H0 D, Sub H0 H ∧ Sub D H ∧ (∀ id b, hget D id = some b → hget H0 id = none) ∧ k H0 D
theorem dAuto {L : FL} {os : List COp} {k : AH → AH → Prop} {H : AH} (h : withD L os k H []) : drawD L os k H := ⟨withD_of os H [] (fun _ _ q => q) (fun _ _ q => by cases q) (fun _ _ q => by cases q) h⟩
theorem dPick {L : FL} {os : List COp} {k : AH → AH → Prop} {H : AH} {id : Nat} {b : Blk} (hb : hget H id = some b) (h : hdelK H id fun H0 => withD L os k H0 [(id, b)]) : drawD L os k H :=
  ⟨withD_of os (hdel H id) [(id, b)] (fun j c q => by
    rw [hget_hdel] at q
    split at q
    · cases q
    · exact q) (fun j c q => by
    simp only [hget] at q
    split at q
    · rename_i e; subst e; rw [← q]; exact hb
    · cases q) (fun j c q => by
    simp only [hget] at q
    split at q
    · rename_i e; rw [hget_hdel, if_pos e]
    · cases q) h.out⟩
theorem wpDrawF_cons (P : Program) (o : COp) (os : List COp) (K : FL → AH → Prop) (L : FL) (H0 D : AH) (F : FF) (H : AH) : wpDrawF P (o :: os) K L H0 D F H = drawCons P o (wpDrawF P os) K L H0 D F H := rfl
def thenF (next : FL → AH → Prop) (Q : Exit → FL → AH → Prop) : Exit → FL → AH → Prop
  | .normal, L, H => next L H
  | e, L, H => Q e L H
def blockF (id : Nat) (Q : Exit → FL → AH → Prop) : Exit → FL → AH → Prop
  | .exit id', L, H => match Nat.beq id' id with
    | true => Q .normal L H
    | false => Q (.exit id') L H
  | e, L, H => Q e L H
def jumpF (l : Nat) (J : FL → AH → Prop) (Q : Exit → FL → AH → Prop) : Exit → FL → AH → Prop
  | .goto l', L, H => l' = l ∧ J L H
  | e, L, H => Q e L H
def isJoin : C → Bool
  | .cond _ _ _ => true
  | .block _ _ => true
  | .scope _ => true
  | .label _ => true
  | .seq _ b => isJoin b
  | _ => false
def WeakF (J : FL → AH → Prop) (L : FL) (H : AH) : Prop := ∃ M Hk, coversZ H Hk M L ∧ Sub Hk H ∧ J M Hk
abbrev WF := Option Nat → (Exit → FL → AH → Prop) → FL → AH → Prop
def fSeq (a : C) (jn : Bool) (iha ihb : WF) : WF
  | none, Q, L, H => match jn with
    | true => (iha none (thenF (ihb none Q) Q) L H ∨ ∃ J : FL → AH → Prop, iha none (thenF (WeakF J) Q) L H ∧ ∀ M Hk, J M Hk → ihb none Q M Hk) ∨
        ∃ M Hk, iha none (thenF (fun L' H' => coversZ H' Hk M L' ∧ Sub Hk H') Q) L H ∧ ihb none Q M Hk
    | false => iha none (thenF (ihb none Q) Q) L H
  | some l, Q, L, H => match hasL a l with
    | true => iha (some l) (thenF (ihb none Q) Q) L H
    | false => ihb (some l) Q L H
def fCond (x : X) (iha ihb : WF) : WF
  | none, Q, L, H => evX L x fun v => match v with
    | .bool q => bsplit q fun q => match q with
      | true => iha none Q L H
      | false => ihb none Q L H
    | _ => False
  | some _, _, _, _ => False
def fBlock (id : Nat) (ih : WF) : WF
  | none, Q, L, H => ih none (blockF id Q) L H
  | some _, _, _, _ => False
def fLoop (ih : WF) : WF
  | none, Q, L, H => ∃ I : Nat → FL → AH → Prop, WeakF (fun M Hk => ∃ n, I n M Hk) L H ∧
      ∀ n L H, I n L H → ih none (thenF (WeakF fun L' H' => ∃ m, m < n ∧ I m L' H') Q) L H
  | some _, _, _, _ => False
def fScope (ih : WF) : WF
  | none, Q, L, H => ∃ (l n0 : Nat) (I : Nat → FL → AH → Prop), ih none (jumpF l (WeakF fun L' H' => ∃ m, m < n0 ∧ I m L' H') Q) L H ∧
      ∀ n L H, I n L H → ih (some l) (jumpF l (WeakF fun L' H' => ∃ m, m < n ∧ I m L' H') Q) L H
  | some _, _, _, _ => False
structure rangeS (P : Program) (f : Nat) (first caps : List AV) (ps : List Nat) (ca cb : C) (L : FL) (H : AH) (Q : Exit → FL → AH → Prop) : Prop where
  out : ∀ (a b : Code) (fl : List Nat) (N lid : Nat), comp P fl a = ca → comp P fl b = cb → (dstsOk N ca && dstsOk N cb && ps.all fun p => decide (p < N)) = true → hget H lid = none →
      ACalls P f (first ++ [.yld lid] ++ caps) ((lid, .loop ⟨ps, a, b, N, frm L, .ready⟩) :: H) fun _ H' => ∃ st H1, Sub H1 (hdel H' lid) ∧ hget H' lid = some (.loop ⟨ps, a, b, N, frm L, st⟩) ∧ match st with
        | .ready => Q .normal L H1
        | .done .ret => Q .ret L H1
        | .done (.exit id) => Q (.exit id) L H1
        | _ => False
def fRange (P : Program) (g : X) (ps : List Nat) (ca cb : C) : WF
  | none, Q, L, H => evX L g fun v => match v with
    | .clo f first caps => rangeS P f first caps ps ca cb L H Q
    | _ => False
  | some _, _, _, _ => False
def fEnd (e : Exit) : WF
  | none, Q, L, H => Q e L H
  | some _, _, _, _ => False
def fLabel (l' : Nat) : WF
  | none, Q, L, H => Q .normal L H
  | some l, Q, L, H => l' = l ∧ Q .normal L H
def fReg (k : (FL → AH → Prop) → FL → AH → Prop) : WF
  | none, Q, L, H => k (Q .normal) L H
  | some _, _, _, _ => False
noncomputable def wpF (P : Program) (c : C) : WF :=
  @C.rec (fun _ => WF)
    (fEnd .normal)
    (fun ops => fReg (wpOpsF P ops))
    (fun pre post => fReg fun K L H => drawD L pre (fun H0 D => wpDrawF P pre (fun L' H' => wpOpsF P post K L' H') L H0 D [] H) H)
    (fun a _ iha ihb => fSeq a (isJoin a) iha ihb)
    (fun x _ _ iha ihb => fCond x iha ihb)
    (fun id _ ih => fBlock id ih)
    (fun _ ih => fLoop ih)
    (fun id => fEnd (.exit id))
    (fun _ ih => fScope ih)
    (fun l => fLabel l)
    (fun l => fEnd (.goto l))
    (fEnd .ret)
    (fun g ps a b _ _ => fRange P g ps a b)
    (fun _ _ _ _ => False) c
section
variable (P : Program) (Q : Exit → FL → AH → Prop) (L : FL) (H : AH)
theorem wpF_reg (ops : List COp) : wpF P (.reg ops) none Q L H = wpOpsF P ops (Q .normal) L H := rfl
theorem wpF_dreg (pre post : List COp) : wpF P (.dreg pre post) none Q L H = drawD L pre (fun H0 D => wpDrawF P pre (fun L' H' => wpOpsF P post (Q .normal) L' H') L H0 D [] H) H := rfl
theorem wpF_seq (a b : C) (lb : Option Nat) : wpF P (.seq a b) lb Q L H = fSeq a (isJoin a) (wpF P a) (wpF P b) lb Q L H := rfl
theorem wpF_cond (x : X) (a b : C) (lb : Option Nat) : wpF P (.cond x a b) lb Q L H = fCond x (wpF P a) (wpF P b) lb Q L H := rfl
theorem wpF_block (id : Nat) (b : C) (lb : Option Nat) : wpF P (.block id b) lb Q L H = fBlock id (wpF P b) lb Q L H := rfl
theorem wpF_loop (b : C) (lb : Option Nat) : wpF P (.loop b) lb Q L H = fLoop (wpF P b) lb Q L H := rfl
theorem wpF_rangeF (g : X) (ps : List Nat) (a b : C) (lb : Option Nat) : wpF P (.rangeF g ps a b) lb Q L H = fRange P g ps a b lb Q L H := rfl
theorem wpF_scope (b : C) (lb : Option Nat) : wpF P (.scope b) lb Q L H = fScope (wpF P b) lb Q L H := rfl
end
section
variable {P : Program}
theorem opFp_of {L : FL} {H : AH} {co : CO} {k : Rs → Prop} (h : opFp L H co k) : ∃ rs, evalOp (frm L) H co = some rs ∧ k rs := by
  cases co
  case pick c a b =>
    obtain ⟨v, h1, h2⟩ := evX_of h
    cases v <;> try exact h2.elim
    rename_i q
    replace h2 := h2.out
    cases q with
    | true => obtain ⟨u, h3, h4⟩ := evX_of h2; exact ⟨_, by simp only [evalOp, h1, h3, Option.bind_some, if_true], h4⟩
    | false => obtain ⟨u, h3, h4⟩ := evX_of h2; exact ⟨_, by simp only [evalOp, h1, h3, Option.bind_some, Bool.false_eq_true, if_false], h4⟩
  all_goals exact opF_of h
theorem frm_same {L : FL} {g : Nat} {v : AV} (h : L.get g = some v) : frm ((g, some v) :: L) = frm L := by
  funext t
  simp only [frm, FL.get_cons]
  split
  · rename_i e; rw [e, h]
  · rfl
theorem applyF_of {rs : Rs} {d : Option Nat} {L : FL} {H : AH} {K : FL → AH → Prop} {K' : Fr → AH → Prop} (hk : ∀ L H, K L H → K' (frm L) H) (h : applyF P rs d L H K) : applyRs P rs d (frm L) H K' := by
  cases rs with
  | val v => simp only [applyF, applyRs, putK_eq, delK_eq] at h ⊢; rw [← frm_put]; exact hk _ _ h
  | upd H' => simp only [applyF, applyRs, putK_eq, delK_eq] at h ⊢; rw [← frm_del]; exact hk _ _ h
  | valH v H' => simp only [applyF, applyRs, putK_eq, delK_eq] at h ⊢; rw [← frm_put]; exact hk _ _ h
  | fresh T blk vf H' => simp only [applyF, applyRs, putK_eq, delK_eq] at h ⊢; intro id hid ht; rw [← frm_put]; exact hk _ _ (h id hid ht)
  | call f args =>
    simp only [applyF, applyRs, putK_eq, delK_eq] at h ⊢
    obtain ⟨a', Hc, h1, h2, h3⟩ := h.out
    refine ⟨a', Hc, h1, h2, ?_⟩
    rcases h3 with h3 | h3
    · exact .inl (h3.mono fun r H' q => by rw [← frm_put]; exact hk _ _ q)
    · exact .inr (h3.mono fun r H' q => ⟨q.1, by show K' ((frm L).put d r) H; rw [← frm_put]; exact hk _ _ q.2⟩)
  | yield id args =>
    simp only [applyF, applyRs, putK_eq, delK_eq] at h ⊢
    obtain ⟨Hs, h1, h2⟩ := h.out
    exact ⟨Hs, h1, h2.mono fun r Hs' ⟨H', q1, q2⟩ => ⟨H', q1, by show K' ((frm L).put d r) H'; rw [← frm_put]; exact hk _ _ q2⟩⟩
theorem wpOpsF_of {K : FL → AH → Prop} {K' : Fr → AH → Prop} (hk : ∀ L H, K L H → K' (frm L) H) : ∀ (os : List COp) (L : FL) (H : AH), wpOpsF P os K L H → wpOps P os K' (frm L) H
  | [], L, H, h => hk L H h
  | o :: os, L, H, h => by
    have run : ∀ L H, (opFp L H o.co fun rs => applyF P rs o.dst L H (wpOpsF P os K)) → OA (evalOp (frm L) H o.co) fun rs => applyRs P rs o.dst (frm L) H (wpOps P os K') := by
      intro L H h
      obtain ⟨rs, h1, h2⟩ := opFp_of h
      rw [h1]
      exact applyF_of (fun L H q => wpOpsF_of hk os L H q) h2
    simp only [wpOpsF_cons, opsCons, putK_eq] at h
    simp only [wpOps]
    split at h
    · rename_i hg
      rw [hg]
      exact run L H h
    · rename_i g want hg
      rw [hg]
      simp only
      split at h
      · rename_i q hq
        refine .inl ⟨q, hq, fun e => ?_, fun e => ?_⟩
        · subst e
          replace h := h.out
          rw [← frm_same hq]
          cases q <;> exact run _ H h
        · replace h := h.out
          rw [← frm_same hq, ← frm_put]
          cases q <;> cases want <;> simp at e <;> exact wpOpsF_of hk os _ H h
      · rename_i hq
        refine .inr ⟨hq, ?_⟩
        rw [← frm_put]
        exact wpOpsF_of hk os _ H h
      · exact h.elim
structure OkF (Ff : FF) (F H : AH) : Prop where
  sub : ∀ t p, slotF Ff t = some p → hget F p.1 = some p.2
  own : ∀ id b, hget F id = some b → ∃ c, hget H id = some c
theorem OkF.add {Ff : FF} {F H : AH} (h : OkF Ff F H) {d : Option Nat} {id : Nat} {b : Blk} (hid : hget H id = none) : OkF (addF Ff d id b) ((id, b) :: F) ((id, b) :: H) := by
  have old : ∀ t p, slotF Ff t = some p → hget ((id, b) :: F) p.1 = some p.2 := fun t p q => by
    have := h.sub t p q
    simp only [hget]
    rw [if_neg (fun e => by obtain ⟨c, hc⟩ := h.own _ _ this; rw [e, hid] at hc; cases hc)]
    exact this
  refine ⟨fun t p q => ?_, fun id2 b2 q => ?_⟩
  · cases d with
    | none => exact old t p q
    | some d =>
      have q' : (match Nat.beq t d with | true => some (id, b) | false => slotF Ff t) = some p := q
      split at q'
      · simp only [Option.some.injEq] at q'
        subst q'
        simp [hget]
      · exact old t p q'
  · simp only [hget] at q ⊢
    split at q
    · rename_i e; rw [if_pos e]; exact ⟨_, rfl⟩
    · rename_i e; rw [if_neg e]; exact h.own _ _ q
theorem OkF.set {Ff : FF} {F H : AH} (h : OkF Ff F H) (id : Nat) (b : Blk) : OkF Ff F (hset H id b) := ⟨h.sub, fun id2 b2 q => by
  obtain ⟨c, hc⟩ := h.own _ _ q
  rw [hget_hset]
  split
  · rename_i e; rw [← e, hc]; exact ⟨_, rfl⟩
  · exact ⟨c, hc⟩⟩
theorem OkF.fin {Ff : FF} {F H : AH} (h : OkF Ff F H) (id i : Nat) (b : Blk) : OkF [] (hdel F i) (hset H id b) := ⟨fun t p q => (by cases q), fun id2 b2 q => by
  rw [hget_hdel] at q
  split at q
  · cases q
  · exact (h.set id b).own _ _ q⟩
theorem drawStF_of {o : COp} {L : FL} {H0 D : AH} {Ff : FF} {F H : AH} (hF : OkF Ff F H) {k : FL → AH → FF → AH → Prop} {k' : Fr → AH → AH → AH → Prop} (hk : ∀ L D Ff F H, OkF Ff F H → k L D Ff H → k' (frm L) D F H) (h : drawStF P o L H0 D Ff H k) : drawSt P o (frm L) H0 D F H k' := by
  have other : (opFp L H0 o.co fun rs => drawF P rs o.dst L H0 D Ff H k) → drawSt P o (frm L) H0 D F H k' := by
    intro h
    obtain ⟨rs, h1, h2⟩ := opFp_of h
    cases rs with
    | val v =>
      refine .inl ?_
      rw [h1]
      simp only [drawF, OA, drawRs, putK_eq] at h2 ⊢; rw [← frm_put]; exact hk _ _ _ _ _ hF h2
    | upd H' => exact h2.elim
    | valH v H' => exact h2.elim
    | yield _ _ => exact h2.elim
    | fresh T blk vf H' =>
      refine .inl ?_
      rw [h1]
      simp only [drawF, OA, drawRs, putK_eq] at h2 ⊢; exact ⟨h2.1, fun id hid ht => by rw [← frm_put]; exact hk _ _ _ _ _ (hF.add hid) (h2.2 id hid ht)⟩
    | call f args =>
      simp only [drawF, putK_eq] at h2
      rcases h2.out with ⟨r, q1, q2⟩ | ⟨id, b, r, b', q1, q2, q3⟩
      · refine .inl ?_
        rw [h1]
        simp only [OA, drawRs]
        exact ⟨r, q1, by rw [← frm_put]; exact hk _ _ _ _ _ hF q2⟩
      · exact .inr (.inr (.inl ⟨f, args, id, b, r, b', h1, q1, q2, by rw [← frm_put]; exact hk _ _ _ _ _ (hF.set id b') q3⟩))
  simp only [drawStF, delK_eq] at h
  split at h
  · rename_i n x y hco
    obtain ⟨v, h1, h2⟩ := evX_of h
    obtain ⟨z, h3, h4⟩ := evX_of h2
    cases v <;> try exact h4.elim
    rename_i id sz i j
    simp only at h4
    split at h4
    · rename_i p hp
      cases x with
      | t t =>
        obtain ⟨l, r, q1, q2, q3, q4, q5, q6⟩ := h4
        replace q6 := q6.out
        have hp' : slotF Ff t = some p := hp
        have hg := hF.sub t p hp'
        have e : p.1 = id ∧ p.2 = .rows sz l := by
          simp only [hget] at q1
          split at q1
          · rename_i e; simp only [Option.some.injEq] at q1; exact ⟨by rw [e], q1⟩
          · cases q1
        rw [e.1, e.2] at hg
        refine .inr (.inr (.inr ⟨id, .rows sz l, hset [(id, .rows sz l)] id (.rows sz (l.set i (over r j z.cells))), .rows sz (l.set i (over r j z.cells)), t, sz, i, j, h1, ?_, hg, ?_, ?_, by rw [← frm_del]; exact hk _ _ _ _ _ (hF.fin id id _) q6⟩))
        · simp [COp.looks, hco, CO.looks, X.looks]
        · rw [hco]
          simp only [evalOp, h1, h3, Option.bind_some, hget, if_true, q2]
          simp [q3, q4, q5]
        · simp [hset, hget]
      | _ => cases hp
    · obtain ⟨l, r, q1, q2, q3, q4, q5, q6⟩ := h4
      replace q6 := q6.out
      refine .inr (.inl ⟨id, .rows sz l, hset [(id, .rows sz l)] id (.rows sz (l.set i (over r j z.cells))), .rows sz (l.set i (over r j z.cells)), q1, ?_, ?_, by rw [← frm_del]; exact hk _ _ _ _ _ (hF.set id _) q6⟩)
      · rw [hco]
        simp only [evalOp, h1, h3, Option.bind_some, hget, if_true, q2]
        simp [q3, q4, q5]
      · simp [hset, hget]
  · exact other h
theorem wpDrawF_of {K : FL → AH → Prop} {K' : Fr → AH → Prop} (hk : ∀ L H, K L H → K' (frm L) H) : ∀ (os : List COp) (L : FL) (H0 D : AH) (Ff : FF) (F H : AH), OkF Ff F H → wpDrawF P os K L H0 D Ff H → wpDraw P os K' (frm L) H0 D F H
  | [], L, H0, D, Ff, F, H, _, h => hk L H h
  | o :: os, L, H0, D, Ff, F, H, hF, h => by
    have run : ∀ L D Ff F H, OkF Ff F H → (drawStF P o L H0 D Ff H fun L' D' F' H' => wpDrawF P os K L' H0 D' F' H') → drawSt P o (frm L) H0 D F H fun s' D' F' H' => wpDraw P os K' s' H0 D' F' H' :=
      fun L D Ff F H hF h => drawStF_of hF (fun L D Ff F H hF q => wpDrawF_of hk os L H0 D Ff F H hF q) h
    simp only [wpDrawF_cons, drawCons, putK_eq] at h
    simp only [wpDraw]
    split at h
    · rename_i hg
      rw [hg]
      exact run L D Ff F H hF h
    · rename_i g want hg
      rw [hg]
      simp only
      split at h
      · rename_i q hq
        refine .inl ⟨q, hq, fun e => ?_, fun e => ?_⟩
        · subst e
          replace h := h.out
          rw [← frm_same hq]
          cases q <;> exact run _ D Ff F H hF h
        · replace h := h.out
          rw [← frm_same hq, ← frm_put]
          cases q <;> cases want <;> simp at e <;> exact wpDrawF_of hk os _ H0 D Ff F H hF h
      · rename_i hq
        refine .inr ⟨hq, ?_⟩
        rw [← frm_put]
        exact wpDrawF_of hk os _ H0 D Ff F H hF h
      · exact h.elim
theorem SubFr.refl (s : Fr) : SubFr s s := fun _ _ h => h
theorem WeakF.of {J : FL → AH → Prop} {L : FL} {H : AH} (h : WeakF J L H) : Weak (fun s H => ∃ L, s = frm L ∧ J L H) (frm L) H :=
  let ⟨M, Hk, h1, h2, h3⟩ := h
  ⟨frm M, Hk, coversZ_sub M L h1, h2, M, rfl, h3⟩
theorem wpF_of : ∀ (c : C) (lb : Option Nat) (Q : Exit → FL → AH → Prop) (Q' : Exit → Fr → AH → Prop) (L : FL) (H : AH), (∀ e L H, Q e L H → Q' e (frm L) H) → wpF P c lb Q L H → wpA P c lb Q' (frm L) H := by
  have then_ : ∀ (K : FL → AH → Prop) (K' : Fr → AH → Prop) (Q : Exit → FL → AH → Prop) (Q' : Exit → Fr → AH → Prop), (∀ L H, K L H → Weak K' (frm L) H) → (∀ e L H, Q e L H → Q' e (frm L) H) → ∀ e L H, thenF K Q e L H → thenA K' Q' e (frm L) H := by
    intro K K' Q Q' hk hq e L H h
    cases e with
    | normal => exact hk _ _ h
    | _ => exact hq _ _ _ h
  have block_ : ∀ id (Q : Exit → FL → AH → Prop) (Q' : Exit → Fr → AH → Prop), (∀ e L H, Q e L H → Q' e (frm L) H) → ∀ e L H, blockF id Q e L H → blockA id Q' e (frm L) H := by
    intro id Q Q' hq e L H h
    cases e with
    | exit id' =>
      simp only [blockF] at h
      simp only [blockA]
      split at h
      · rename_i e1; rw [if_pos (Nat.eq_of_beq_eq_true e1)]; exact hq _ _ _ h
      · rename_i e1; rw [if_neg (fun q => by rw [q, Nat.beq_refl] at e1; cases e1)]; exact hq _ _ _ h
    | _ => exact hq _ _ _ h
  have jump_ : ∀ l J J' (Q : Exit → FL → AH → Prop) (Q' : Exit → Fr → AH → Prop), (∀ L H, J L H → J' (frm L) H) → (∀ e L H, Q e L H → Q' e (frm L) H) → ∀ e L H, jumpF l J Q e L H → jumpA l J' Q' e (frm L) H := by
    intro l J J' Q Q' hj hq e L H h
    cases e with
    | goto l' => exact ⟨h.1, hj _ _ h.2⟩
    | _ => exact hq _ _ _ h
  have self : ∀ (K : Fr → AH → Prop) s H, K s H → Weak K s H := fun K s H h => ⟨s, H, (SubFr.refl s).fz, Sub.refl H, h⟩
  intro c
  induction c with
  | seq a b iha ihb =>
    intro lb Q Q' L H hq h
    cases lb with
    | none =>
      simp only [wpF_seq, fSeq] at h
      simp only [wpA]
      have plain : wpF P a none (thenF (wpF P b none Q) Q) L H → wpA P a none (thenA (wpA P b none Q') Q') (frm L) H :=
        iha none _ _ L H (then_ _ _ _ _ (fun L H q => self _ _ _ (ihb none _ _ L H hq q)) hq)
      split at h
      · rcases h with (h | ⟨J, h1, h2⟩) | ⟨M, Hk, h1, h2⟩
        · exact plain h
        · refine iha none _ _ L H (then_ _ _ _ _ (fun L' H' q => ?_) hq) h1
          obtain ⟨M, Hk, q1, q2, q3⟩ := q
          exact ⟨frm M, Hk, coversZ_sub M L' q1, q2, ihb none _ _ M Hk hq (h2 M Hk q3)⟩
        · exact iha none _ _ L H (then_ _ _ _ _ (fun L' H' q => ⟨frm M, Hk, coversZ_sub M L' q.1, q.2, ihb none _ _ M Hk hq h2⟩) hq) h1
      · exact plain h
    | some l =>
      simp only [wpF_seq, fSeq] at h
      simp only [wpA]
      split at h
      · rename_i e1; rw [if_pos e1]; exact iha _ _ _ L H (then_ _ _ _ _ (fun L H q => self _ _ _ (ihb none _ _ L H hq q)) hq) h
      · rename_i e1; rw [if_neg (by rw [e1]; simp)]; exact ihb _ _ _ L H hq h
  | cond x a b iha ihb =>
    intro lb Q Q' L H hq h
    cases lb with
    | none =>
      simp only [wpF_cond, fCond] at h
      simp only [wpA]
      obtain ⟨v, h1, h2⟩ := evX_of h
      cases v <;> try exact h2.elim
      rename_i q
      replace h2 := h2.out
      refine ⟨q, h1, fun e => ?_, fun e => ?_⟩
      · subst e; exact iha _ _ _ L H hq h2
      · subst e; exact ihb _ _ _ L H hq h2
    | some l => exact h.elim
  | block id b ih =>
    intro lb Q Q' L H hq h
    cases lb with
    | none => simp only [wpF_block, fBlock] at h; simp only [wpA]; exact ih _ _ _ L H (block_ id _ _ hq) h
    | some l => exact h.elim
  | loop b ih =>
    intro lb Q Q' L H hq h
    cases lb with
    | none =>
      simp only [wpF_loop, fLoop] at h
      simp only [wpA]
      obtain ⟨I, h1, h2⟩ := h
      refine ⟨fun n s H => ∃ L, s = frm L ∧ I n L H, ?_, fun n s H ⟨L, e, hi⟩ => ?_⟩
      · obtain ⟨s', H', q1, q2, L', e, n, q3⟩ := h1.of
        exact ⟨s', H', q1, q2, n, L', e, q3⟩
      · subst e
        refine ih _ _ _ L H (then_ _ _ _ _ (fun L' H' q => ?_) hq) (h2 n L H hi)
        obtain ⟨s', H2, q1, q2, L2, e, m, q3, q4⟩ := q.of
        exact ⟨s', H2, q1, q2, m, q3, L2, e, q4⟩
    | some l => exact h.elim
  | scope b ih =>
    intro lb Q Q' L H hq h
    cases lb with
    | none =>
      simp only [wpF_scope, fScope] at h
      simp only [wpA]
      obtain ⟨l, n0, I, h1, h2⟩ := h
      refine ⟨l, fun n s H => ∃ L, s = frm L ∧ I n L H, ?_, fun n s H ⟨L, e, hi⟩ => ?_⟩
      · refine ih _ _ _ L H (jump_ _ _ _ _ _ (fun L' H' q => ?_) hq) h1
        obtain ⟨s', H2, q1, q2, L2, e, m, _, q3⟩ := q.of
        exact ⟨s', H2, q1, q2, m, L2, e, q3⟩
      · subst e
        refine ih _ _ _ L H (jump_ _ _ _ _ _ (fun L' H' q => ?_) hq) (h2 n L H hi)
        obtain ⟨s', H2, q1, q2, L2, e, m, q3, q4⟩ := q.of
        exact ⟨s', H2, q1, q2, m, q3, L2, e, q4⟩
    | some l => exact h.elim
  | reg os =>
    intro lb Q Q' L H hq h
    cases lb with
    | none => rw [wpF_reg] at h; simp only [wpA]; exact wpOpsF_of (fun L H q => hq _ _ _ q) os L H h
    | some l => exact h.elim
  | dreg pre post =>
    intro lb Q Q' L H hq h
    cases lb with
    | none =>
      rw [wpF_dreg] at h
      simp only [wpA]
      obtain ⟨H0, D, h1, h2, h3, h4⟩ := h.out
      exact ⟨H0, D, h1, h2, h3, wpDrawF_of (fun L H q => wpOpsF_of (fun L H q => hq _ _ _ q) post L H q) pre L H0 D [] [] H ⟨fun t p q => by (cases q), fun id b q => by (cases q)⟩ h4⟩
    | some l => exact h.elim
  | rangeF g ps a b _ _ =>
    intro lb Q Q' L H hq h
    cases lb with
    | none =>
      rw [wpF_rangeF] at h
      simp only [wpA]
      obtain ⟨v, h1, h2⟩ := evX_of h
      cases v <;> try exact h2.elim
      refine ⟨_, _, _, h1, fun a b fl N lid q1 q2 q3 q4 => (h2.out a b fl N lid q1 q2 q3 q4).mono fun r H' ⟨st, H1, k1, k2, k3⟩ => ⟨st, H1, k1, k2, ?_⟩⟩
      cases st with
      | ready => exact hq _ _ _ k3
      | busy => exact k3.elim
      | done c =>
        cases c with
        | ret => exact hq _ _ _ k3
        | exit id => exact hq _ _ _ k3
        | _ => exact k3.elim
    | some l => exact h.elim
  | label l' =>
    intro lb Q Q' L H hq h
    cases lb with
    | none => exact hq _ _ _ h
    | some l => exact ⟨h.1, hq _ _ _ h.2⟩
  | _ =>
    intro lb Q Q' L H hq h
    cases lb with
    | none => first | exact hq _ _ _ h | exact h.elim
    | some l => exact h.elim
end
/-! ### Results, over lists -/
def resF1 (L : FL) (H : AH) (r : CRes) (k : AV → Prop) : Prop :=
  match r with
  | .t n => match L.get n with
    | some v => k v
    | none => False
  | .cell n sz => match L.get n with
    | some (.ptr id z i j) => ∃ l r, hget H id = some (.rows z l) ∧ l[i]? = some r ∧ oA (partA (r.drop j) 0 sz) k
    | _ => False
  | .bad => False
def resFs (L : FL) (H : AH) : List CRes → (List AV → Prop) → Prop
  | [], k => k []
  | r :: rs, k => resF1 L H r fun v => resFs L H rs fun vs => k (v :: vs)
def endF (rs : List CRes) (K : AV → AH → Prop) : Exit → FL → AH → Prop
  | .normal, L, H => resFs L H rs fun vs => match vs with | [v] => K v H | vs => K (.tup vs) H
  | .ret, L, H => resFs L H rs fun vs => match vs with | [v] => K v H | vs => K (.tup vs) H
  | _, _, _ => False
theorem resFs_of {L : FL} {H : AH} : ∀ {rs : List CRes} {k : List AV → Prop}, resFs L H rs k → ∃ vs, resL (frm L) H rs = some vs ∧ k vs
  | [], k, h => ⟨[], rfl, h⟩
  | r :: rs, k, h => by
    have one : ∃ v, resOne (frm L) H r = some v ∧ resFs L H rs fun vs => k (v :: vs) := by
      simp only [resFs] at h
      cases r with
      | t n =>
        simp only [resF1] at h
        split at h
        · rename_i v hv; exact ⟨v, hv, h⟩
        · exact h.elim
      | cell n sz =>
        simp only [resF1] at h
        split at h
        · rename_i id z i j hv
          obtain ⟨l, r, h1, h2, h3⟩ := h
          obtain ⟨v, h4, h5⟩ := oA_of h3
          refine ⟨v, ?_, h5⟩
          have : frm L n = some (.ptr id z i j) := hv
          simp only [resOne, this, Option.bind_some, readA, h1, if_true, h2, Option.map_some, h4]
        · exact h.elim
      | bad => exact h.elim
    obtain ⟨v, h1, h2⟩ := one
    obtain ⟨vs, h3, h4⟩ := resFs_of h2
    exact ⟨v :: vs, by simp only [resL, h1, h3, Option.bind_some], h4⟩
theorem endF_of {rs : List CRes} {K : AV → AH → Prop} : ∀ e L H, endF rs K e L H → endA rs K e (frm L) H := by
  have fin : ∀ L H, (resFs L H rs fun vs => match vs with | [v] => K v H | vs => K (.tup vs) H) → OA (resA (frm L) H rs) fun r => K r H := by
    intro L H h
    obtain ⟨vs, h1, h2⟩ := resFs_of h
    rw [OA_iff]
    simp only [resA, h1, Option.bind_some]
    split
    · exact ⟨_, rfl, h2⟩
    · rename_i hne
      refine ⟨_, rfl, ?_⟩
      split at h2
      · rename_i v; exact absurd rfl (hne v)
      · exact h2
  intro e L H h
  cases e with
  | normal => exact fin L H h
  | ret => exact fin L H h
  | _ => exact h.elim
def argsL : Nat → List AV → FL
  | _, [] => []
  | n, v :: vs => (n, some v) :: argsL (n + 1) vs
theorem argsL_get : ∀ (vs : List AV) (n t : Nat), (argsL n vs).get t = if n ≤ t then vs[t - n]? else none
  | [], n, t => by simp only [argsL]; rw [show FL.get [] t = none from rfl]; simp
  | v :: vs, n, t => by
    rw [argsL, FL.get_cons, argsL_get vs (n + 1) t]
    by_cases h1 : t = n
    · subst h1; simp
    · rw [if_neg h1]
      by_cases h2 : n ≤ t
      · rw [if_pos (by omega), if_pos h2, show t - n = (t - (n + 1)) + 1 from by omega]
        simp
      · rw [if_neg (by omega), if_neg h2]
theorem initFr_frm (vs : List AV) : initFr vs = frm (argsL 0 vs) := by
  funext t
  simp [initFr, frm, argsL_get]
theorem wpF_start {P : Program} {c : C} {rs : List CRes} {K : AV → AH → Prop} {args : List AV} {H : AH} (h : wpF P c none (endF rs K) (argsL 0 args) H) : wpA P c none (endA rs K) (initFr args) H := by
  rw [initFr_frm]
  exact wpF_of c none _ _ _ H endF_of h
/-! ### Rounds, over lists -/
def putsL : List Nat → List AV → FL → FL
  | p :: ps, v :: vs, L => putsL ps vs ((p, some v) :: L)
  | _, _, L => L
theorem putsL_frm : ∀ (ps : List Nat) (vs : List AV) (L : FL), frm (putsL ps vs L) = setPs (frm L) ps vs
  | [], vs, L => by cases vs <;> rfl
  | p :: ps, [], L => rfl
  | p :: ps, v :: vs, L => by rw [putsL, putsL_frm ps vs, setPs, frm_set]
def roundF (lid : Nat) (L : LoopB) (K : AV → AH → Prop) : Exit → FL → AH → Prop
  | .normal, _, H => hget H lid = some (.loop { L with st := .busy }) ∧ hsetK H lid (.loop { L with st := .ready }) fun H => K (.bool true) H
  | .ret, _, H => hget H lid = some (.loop { L with st := .busy }) ∧ hsetK H lid (.loop { L with st := .done .ret }) fun H => K (.bool false) H
  | .exit id, _, H => hget H lid = some (.loop { L with st := .busy }) ∧ hsetK H lid (.loop { L with st := .done (.exit id) }) fun H => K (.bool false) H
  | _, _, _ => False
def assignF (P : Program) (lid : Nat) (L : LoopB) (cb : C) (K : AV → AH → Prop) : Exit → FL → AH → Prop
  | .normal, L', H => hget H lid = some (.loop L) ∧ hsetK H lid (.loop { L with st := .busy }) fun H => wpF P cb none (roundF lid L K) L' H
  | _, _, _ => False
theorem AYields.of_bodyF {P : Program} {ps : List Nat} {a b : Code} {fl : List Nat} {N lid : Nat} {L : FL} {ca cb : C} {args : List AV} {H : AH} {K : AV → AH → Prop} (hm : P.follows .mixedOrders = true) (ha : comp P fl a = ca) (hb : comp P fl b = cb)
    (hd : (dstsOk N ca && dstsOk N cb && ps.all fun p => decide (p < N)) = true) (hfa : flatC ca = true) (hfb : flatC cb = true) (hl : args.length = ps.length) (hid : hget H lid = some (.loop ⟨ps, a, b, N, frm L, .ready⟩))
    (h : wpF P ca none (assignF P lid ⟨ps, a, b, N, frm L, .ready⟩ cb K) (putsL ps args L) H) : AYields P lid args H K := by
  refine AYields.of_body hm ha hb hd hfa hfb hl hid ?_
  rw [← putsL_frm]
  refine wpF_of ca none _ _ _ H (fun e L' H' q => ?_) h
  cases e with
  | normal =>
    refine ⟨frm L', H', (SubFr.refl _).fz, Sub.refl _, q.1, wpF_of cb none _ _ _ _ (fun e L2 H2 q2 => ?_) q.2.out⟩
    cases e with
    | normal => exact ⟨q2.1, q2.2.out⟩
    | ret => exact ⟨q2.1, q2.2.out⟩
    | exit id => exact ⟨q2.1, q2.2.out⟩
    | _ => exact q2.elim
  | _ => exact q.elim
theorem yldF_of {P : Program} {id : Nat} {args : List AV} {H Hs : AH} {K K' : AV → AH → Prop} (h : AYields P id args Hs K') (hs : Sub Hs H)
    (k : ∀ r Hs', K' r Hs' → ∃ H', (∀ j b, hget H' j = some b → hget Hs' j = some b ∨ (hget H j = some b ∧ hget Hs j = none)) ∧ K r H') : yldF P id args H K := ⟨Hs, hs, h.mono k⟩
end Go.Proofs.YtjaigpidmngaaaaGreat

namespace Go.Proofs.YtjaigpidmngaaaaGreat
inductive Nw : AV → AV → Prop
  | refl (v : AV) : Nw v v
  | nil (sz : Nat) : Nw .nilS (.rows sz [])
  | agg (cs cs' : List AV) (hl : cs.length = cs'.length) (h : ∀ (i : Nat) v v', cs[i]? = some v → cs'[i]? = some v' → Nw v v') : Nw (.agg cs) (.agg cs')
  | rows (sz : Nat) (l l' : List (List AV)) (hl : l.length = l'.length) (hw : ∀ (i : Nat) r r', l[i]? = some r → l'[i]? = some r' → r.length = r'.length)
      (h : ∀ (i : Nat) r r' (j : Nat) v v', l[i]? = some r → l'[i]? = some r' → r[j]? = some v → r'[j]? = some v' → Nw v v') : Nw (.rows sz l) (.rows sz l')
  | fp (cs cs' : List AV) (hl : cs.length = cs'.length) (h : ∀ (i : Nat) v v', cs[i]? = some v → cs'[i]? = some v' → Nw v v') : Nw (.fp cs) (.fp cs')
theorem Nw.cell {v v' : AV} (h : Nw v v') : v'.isCell = v.isCell := by cases h <;> rfl
theorem Nw.rl {v v' : AV} (hn : Nw v v') : ∀ {h : Array Obj} {ρ : Loc} {Z : Nat → Prop} {x : Value}, Rl h ρ Z v x → Rl h ρ Z v' x := by
  induction hn with
  | refl v => exact fun h => h
  | nil sz => intro h ρ Z x hr; cases hr; exact .rowsN sz
  | agg cs cs' hl hp ih =>
    intro h ρ Z x hr
    cases hr with
    | agg _ vs h1 h2 h3 =>
      refine .agg cs' vs (by omega) (fun i v q => ?_) (fun i v y q1 q2 => ?_)
      · obtain ⟨a, ha⟩ := get_same hl q
        rw [(hp i a v ha q).cell]; exact h2 i a ha
      · obtain ⟨a, ha⟩ := get_same hl q1
        exact ih i a v ha q1 (h3 i a y ha q2)
  | rows sz l l' hl hw hp ih =>
    intro h ρ Z x hr
    cases hr with
    | rows _ _ b o n c f hn hnc hz hw2 hcc hm hr =>
      refine .rows sz l' b o n c f (by omega) hnc hz (fun i r q => ?_) (fun i r j v q1 q2 => ?_) (fun i r j v q1 q2 => ?_) (fun i r j v q1 q2 => ?_)
      · obtain ⟨a, ha⟩ := get_same hl q
        rw [← hw i a r ha q]; exact hw2 i a ha
      · obtain ⟨a, ha⟩ := get_same hl q1
        obtain ⟨u, hu⟩ := get_same (hw i a r ha q1) q2
        rw [(hp i a r j u v ha q1 hu q2).cell]; exact hcc i a j u ha hu
      · obtain ⟨a, ha⟩ := get_same hl q1
        obtain ⟨u, hu⟩ := get_same (hw i a r ha q1) q2
        exact hm i a j u ha hu
      · obtain ⟨a, ha⟩ := get_same hl q1
        obtain ⟨u, hu⟩ := get_same (hw i a r ha q1) q2
        exact ih i a r j u v ha q1 hu q2 (hr i a j u ha hu)
    | rowsN _ =>
      have : l' = [] := List.eq_nil_of_length_eq_zero hl.symm
      subst this; exact .rowsN sz
    | rowsE _ a c =>
      have : l' = [] := List.eq_nil_of_length_eq_zero hl.symm
      subst this; exact .rowsE sz a c
  | fp cs cs' hl hp ih =>
    intro h ρ Z x hr
    cases hr with
    | fp _ b o f hz hcc hm hr =>
      refine .fp cs' b o f (fun q => hz (by omega)) (fun i v q => ?_) (fun i v q => ?_) (fun i v q => ?_)
      · obtain ⟨a, ha⟩ := get_same hl q
        rw [(hp i a v ha q).cell]; exact hcc i a ha
      · obtain ⟨a, ha⟩ := get_same hl q
        exact hm i a ha
      · obtain ⟨a, ha⟩ := get_same hl q
        exact ih i a v ha q (hr i a ha)
theorem hset_tail {id j : Nat} {b c : Blk} {H : AH} (h : j ≠ id) : hset ((j, b) :: H) id c = (j, b) :: hset H id c := by simp only [hset]; rw [if_neg (fun e => h e.symm)]
def NwL (l l' : List AV) : Prop := l.length = l'.length ∧ ∀ (i : Nat) v v', l[i]? = some v → l'[i]? = some v' → Nw v v'
theorem NwL.refl (l : List AV) : NwL l l := ⟨rfl, fun i v v' h1 h2 => by rw [h1] at h2; cases h2; exact .refl _⟩
theorem NwL.cons {v v' : AV} {l l' : List AV} (h : Nw v v') (hs : NwL l l') : NwL (v :: l) (v' :: l') := by
  refine ⟨by simp [hs.1], fun i a b h1 h2 => ?_⟩
  cases i with
  | zero => simp at h1 h2; rw [← h1, ← h2]; exact h
  | succ i => exact hs.2 i a b (by simpa using h1) (by simpa using h2)
theorem NwL.append {a a' b b' : List AV} (h1 : NwL a a') (h2 : NwL b b') : NwL (a ++ b) (a' ++ b') := by
  refine ⟨by simp [h1.1, h2.1], fun i v v' q1 q2 => ?_⟩
  rw [List.getElem?_append] at q1 q2
  rw [← h1.1] at q2
  split at q1 <;> rename_i hlt
  · rw [if_pos hlt] at q2; exact h1.2 i v v' q1 q2
  · rw [if_neg hlt] at q2; exact h2.2 _ v v' q1 q2
theorem ACalls.nw {P : Program} {f : Nat} {args args' : List AV} {H : AH} {K : AV → AH → Prop} (h : ACalls P f args' H K) (hn : NwL args args') : ACalls P f args H K :=
  h.args fun h ρ Z xs hr => ⟨by rw [← hn.1]; exact hr.1, fun i v x q1 q2 => by
    obtain ⟨a, ha⟩ := get_same hn.1 q1
    exact (hn.2 i a v ha q1).rl (hr.2 i a x ha q2)⟩
def Sh.OkN : Sh → List AV → Prop
  | .int k, vs => ∃ n, vs = [.int k n] ∧ (Lit.int k n).wf = true
  | .bool, vs => ∃ b, vs = [.bool b]
  | .str, vs => ∃ l : List UInt8, vs = [.str l] ∧ l.length ≤ 140737488351232
  | .u, vs => vs = []
  | .p a b, vs => ∃ x y, vs = x ++ y ∧ a.OkN x ∧ b.OkN y
  | .slice sz bytes e, vs => ∃ l, vs = [.rows sz l] ∧ l.length * bytes ≤ 140737488351232 ∧ ∀ r ∈ l, e.OkN r
  | .ptr e, vs => vs = [.nilP] ∨ ∃ r, vs = [.fp r] ∧ e.OkN r
  | .no, _ => False
theorem Sh.Ok.nonil : ∀ {sh : Sh} {vs : List AV}, sh.Ok vs → ∃ vs', NwL vs vs' ∧ sh.OkN vs'
  | .int k, vs, h => ⟨vs, .refl _, h⟩
  | .bool, vs, h => ⟨vs, .refl _, h⟩
  | .str, vs, h => ⟨vs, .refl _, h⟩
  | .u, vs, h => ⟨vs, .refl _, h⟩
  | .p a b, vs, h => by
    obtain ⟨x, y, rfl, h1, h2⟩ := h
    obtain ⟨x', q1, q2⟩ := Sh.Ok.nonil (sh := a) h1
    obtain ⟨y', q3, q4⟩ := Sh.Ok.nonil (sh := b) h2
    exact ⟨x' ++ y', q1.append q3, x', y', rfl, q2, q4⟩
  | .slice sz bytes e, vs, h => by
    rcases h with rfl | ⟨l, rfl, hb, he⟩
    · exact ⟨[.rows sz []], .cons (.nil sz) (.refl _), [], rfl, by simp, by simp⟩
    · obtain ⟨l', q1, q2⟩ := exists_list l.length (Q := fun i r' => ∃ r, l[i]? = some r ∧ NwL r r' ∧ e.OkN r') (fun i hi => by
        obtain ⟨r', a1, a2⟩ := Sh.Ok.nonil (sh := e) (he _ (List.getElem_mem hi))
        exact ⟨r', _, List.getElem?_eq_getElem hi, a1, a2⟩)
      refine ⟨[.rows sz l'], .cons (.rows sz l l' q1.symm (fun i r r' a1 a2 => ?_) (fun i r r' j v v' a1 a2 a3 a4 => ?_)) (.refl _), l', rfl, by rw [q1]; exact hb, fun r' hr => ?_⟩
      · obtain ⟨r0, b1, b2, _⟩ := q2 i r' a2
        rw [a1] at b1; cases b1; exact b2.1
      · obtain ⟨r0, b1, b2, _⟩ := q2 i r' a2
        rw [a1] at b1; cases b1; exact b2.2 j v v' a3 a4
      · obtain ⟨i, hi⟩ := List.getElem?_of_mem hr
        obtain ⟨_, _, _, b3⟩ := q2 i r' hi
        exact b3
  | .no, vs, h => h.elim
  | .ptr e, vs, h => by
    rcases h with rfl | ⟨r, rfl, he⟩
    · exact ⟨_, .refl _, .inl rfl⟩
    · obtain ⟨r', q1, q2⟩ := Sh.Ok.nonil (sh := e) he
      exact ⟨[.fp r'], .cons (.fp r r' q1.1 q1.2) (.refl _), .inr ⟨r', rfl, q2⟩⟩
def ArgOkN (agg : Bool) (sh : Sh) (av : AV) : Prop :=
  match agg with
  | true => ∃ vs, av = .agg vs ∧ sh.OkN vs
  | false => sh.OkN [av]
theorem ArgOk.nonil {agg : Bool} {sh : Sh} {av : AV} (h : ArgOk agg sh av) : ∃ av', ArgOkN agg sh av' ∧ Nw av av' := by
  cases agg with
  | true =>
    obtain ⟨vs, rfl, h⟩ := h
    obtain ⟨vs', q1, q2⟩ := h.nonil
    exact ⟨.agg vs', ⟨vs', rfl, q2⟩, .agg vs vs' q1.1 q1.2⟩
  | false =>
    obtain ⟨vs', q1, q2⟩ := Sh.Ok.nonil (sh := sh) h
    match vs', q1, q2 with
    | [v'], q1, q2 => exact ⟨v', q2, q1.2 0 av v' rfl rfl⟩
    | [], q1, _ => have := q1.1; simp at this
    | _ :: _ :: _, q1, _ => have := q1.1; simp at this
theorem tdiv_nn {a b : Int} (h1 : 0 ≤ a) (h2 : 0 < b) : a.tdiv b = a / b ∧ 0 ≤ a / b ∧ a / b ≤ a := by
  refine ⟨Int.tdiv_eq_ediv_of_nonneg h1, Int.ediv_nonneg h1 (by omega), Int.ediv_le_self _ h1⟩
theorem tmod_nn {a b : Int} (h1 : 0 ≤ a) (h2 : 0 < b) : a.tmod b = a % b ∧ 0 ≤ a % b ∧ a % b < b := 
  ⟨Int.tmod_eq_emod_of_nonneg h1, Int.emod_nonneg _ (by omega), Int.emod_lt_of_pos _ h2⟩
theorem rng_quo_u64 {a b : Int} {k : Int → Prop} (h1 : 0 ≤ a) (h2 : a ≤ 18446744073709551615) (h3 : 0 < b) (h : k (a / b)) : rng (IntKind.wrap .u64 (a.tdiv b)) k := by
  obtain ⟨e, e1, e2⟩ := tdiv_nn h1 h3
  rw [e]; exact rng_u64 e1 (by omega) h
theorem rng_quo_i64 {a b : Int} {k : Int → Prop} (h1 : 0 ≤ a) (h2 : a ≤ 9223372036854775807) (h3 : 0 < b) (h : k (a / b)) : rng (IntKind.wrap .i64 (a.tdiv b)) k := by
  obtain ⟨e, e1, e2⟩ := tdiv_nn h1 h3
  rw [e]; exact rng_i64 (by omega) (by omega) h
theorem rng_rem_u64 {a b : Int} {k : Int → Prop} (h1 : 0 ≤ a) (h2 : b ≤ 18446744073709551615) (h3 : 0 < b) (h : k (a % b)) : rng (IntKind.wrap .u64 (a.tmod b)) k := by
  obtain ⟨e, e1, e2⟩ := tmod_nn h1 h3
  rw [e]; exact rng_u64 e1 (by omega) h
theorem rng_rem_i64 {a b : Int} {k : Int → Prop} (h1 : 0 ≤ a) (h2 : b ≤ 9223372036854775807) (h3 : 0 < b) (h : k (a % b)) : rng (IntKind.wrap .i64 (a.tmod b)) k := by
  obtain ⟨e, e1, e2⟩ := tmod_nn h1 h3
  rw [e]; exact rng_i64 (by omega) (by omega) h
theorem ACalls.frame {P : Program} {f : Nat} {args : List AV} {K : AV → Prop} (h : ACalls P f args [] fun r _ => K r) (H : AH) : ACalls P f args H fun r H' => K r ∧ H' = H := by
  refine ⟨h.1, fun w ρ Z xs hg hr => (h.2 w ρ Z xs (hg.forget fun _ _ q => by cases q) hr).mono fun e w' ⟨x, r, H', ρ', Z', a, g, c, d, k⟩ => ?_⟩
  obtain ⟨q1, q2⟩ := hg.frame (fun _ _ q => by cases q) d g (HS' := H) fun id b q => .inr ⟨q, rfl⟩
  exact ⟨x, r, H, ρ', Z', a, q1, c, q2, k, rfl⟩
end Go.Proofs.YtjaigpidmngaaaaGreat
