/- Texts of this proof, one behind the other: CodeE, CodeT, NameSpec, PrimSpec, DatSpec, TruthMath, LikeMath, TruthMath2, CodeP, StrSpec, PathNum, PathIter, TypSpec, TypSpec2, TypSpec3, TypFind, TypItem, TypDeep, RTypCheck, ValSpec, FitSpec3, PathStep. -/
import Derived.Test.YtjaigpidmngaaaaGreatPkT3
import Derived.KernelRfl
set_option autoImplicit false
set_option linter.unusedSimpArgs false
set_option linter.unusedVariables false
namespace Go.Proofs.YtjaigpidmngaaaaGreat
set_option maxRecDepth 100000
def expr_Parse.n : Nat := 36
noncomputable def expr_Parse.c : C := (.seq (.reg [oo_ 2 (.allc 26 [(.int .i64 0), (.int .i64 0), .nilS, .nilS]), oo_ 3 (.allc 72 [(.int .i64 0), (.int .i64 0)])]) (.seq (.reg [om_ 9 0, oo_ 10 (.call 61 [(.t 9)]), om_ 8 10, oo_ 11 (.extr (.t 8) 0), oo_ 12 (.extr (.t 8) 1), oo_ 5 (.allc 72 [(.int .i64 0), (.int .i64 0)]), om_ 4 11, os_ (.store 2 (.t 5) (.t 12))]) (.seq (.seq (.reg [of_ 13 0 5, ol_ 14 13, oo_ 15 (.bin .neq (.t 14) (.c (.int .i64 0)))]) (.cond (.t 15) (.seq (.dreg [oo_ 16 (.build [(.int .i64 0), (.int .i64 0), .nilS, .nilS] []), oo_ 17 (.load (some 2) (.t 5)), os_ (.store 4 (.t 2) (.t 16))] [os_ (.store 2 (.t 3) (.t 17))]) .ret) .skip)) (.seq (.reg [om_ 18 4, oo_ 19 (.build [.nilS, (.int .i64 0), (.int .i64 0), (.int .i64 0), (.int .i64 0)] [(0, (1, (.t 18)))]), oo_ 20 (.box 108 (.t 19)), om_ 6 20]) (.seq (.reg [om_ 21 6, oo_ 22 (.call 62 [(.t 21)]), oo_ 7 (.allc 26 [(.int .i64 0), (.int .i64 0), .nilS, .nilS]), os_ (.store 4 (.t 7) (.t 22))]) (.seq (.seq (.reg [om_ 23 6, oo_ 24 (.call 63 [(.t 23)]), oo_ 25 (.un .not (.t 24)), om_ 26 25, og_ 27 26 true (.mv (.t 6)), og_ 28 26 true (.call 64 [(.t 27)]), og_ 29 26 true (.field 0 none (.t 28)), og_ 30 26 true (.bin .neq (.t 29) (.c (.int .i64 6))), oo_ 31 (.pick (.t 26) (.t 30) (.c (.bool false)))]) (.cond (.t 31) (.reg [om_ 32 6, oo_ 33 (.call 65 [(.t 32), (.c (.int .i64 11))])]) .skip)) (.seq (.seq (.reg [om_ 34 6, oo_ 35 (.call 63 [(.t 34)])]) (.cond (.t 35) (.seq (.dreg [oo_ 36 (.build [(.int .i64 0), (.int .i64 0), .nilS, .nilS] []), om_ 37 6, oo_ 38 (.nilck (.t 37)), of_ 39 3 38, oo_ 40 (.load (some 2) (.t 39)), os_ (.store 4 (.t 2) (.t 36))] [os_ (.store 2 (.t 3) (.t 40))]) .ret) .skip)) (.seq (.reg [oo_ 41 (.load (some 4) (.t 7)), oo_ 42 (.build [(.int .i64 0), (.int .i64 0)] []), os_ (.store 4 (.t 2) (.t 41)), os_ (.store 2 (.t 3) (.t 42))]) .ret))))))))
theorem expr_Parse.code : comp PG [] (Tryz.f36.body.getD .skip) = expr_Parse.c := by kernel_rfl
theorem expr_Parse.of : OfE PG 36 1 expr_Parse.c [(.cell 2 (some 4)), (.cell 3 (some 2))] := fnE (nt := 43) mixed Tryz.func36 expr_Parse.code (by kernel_rfl) (by kernel_rfl) (by kernel_rfl) (by kernel_rfl) (by kernel_rfl) (by kernel_rfl)
def expr_parser_or.n : Nat := 62
noncomputable def expr_parser_or.c : C := (.seq (.reg [oo_ 2 (.allc 26 [(.int .i64 0), (.int .i64 0), .nilS, .nilS])]) (.seq (.reg [om_ 3 0, om_ 4 0, oo_ 5 (.mkfn 117 [(.t 4)] []), oo_ 6 (.call 116 [(.t 3), (.c (.int .i64 6)), (.c (.str [79, 82])), (.t 5)]), os_ (.store 4 (.t 2) (.t 6))]) .ret))
theorem expr_parser_or.code : comp PG [] (Tryz.f62.body.getD .skip) = expr_parser_or.c := by kernel_rfl
theorem expr_parser_or.of : OfE PG 62 1 expr_parser_or.c [(.cell 2 (some 4))] := fnE (nt := 7) mixed Tryz.func62 expr_parser_or.code (by kernel_rfl) (by kernel_rfl) (by kernel_rfl) (by kernel_rfl) (by kernel_rfl) (by kernel_rfl)
def expr_parser_bad.n : Nat := 63
noncomputable def expr_parser_bad.c : C := (.seq (.reg [oo_ 2 (.mv (.c (.bool false)))]) (.seq (.reg [om_ 3 0, oo_ 4 (.nilck (.t 3)), of_ 5 3 4, of_ 6 0 5, ol_ 7 6, oo_ 8 (.bin .neq (.t 7) (.c (.int .i64 0))), om_ 2 8]) .ret))
theorem expr_parser_bad.code : comp PG [] (Tryz.f63.body.getD .skip) = expr_parser_bad.c := by kernel_rfl
theorem expr_parser_bad.of : OfE PG 63 1 expr_parser_bad.c [(.t 2)] := fnE (nt := 9) mixed Tryz.func63 expr_parser_bad.code (by kernel_rfl) (by kernel_rfl) (by kernel_rfl) (by kernel_rfl) (by kernel_rfl) (by kernel_rfl)
def expr_parser_now.n : Nat := 64
noncomputable def expr_parser_now.c : C := (.seq (.reg [oo_ 2 (.allc 111 [(.int .i64 0), (.str []), (.int .u64 0), (.int .i64 0)])]) (.seq (.dreg [om_ 3 0, oo_ 4 (.nilck (.t 3)), of_ 5 0 4, ol_ 6 5, om_ 7 0, oo_ 8 (.nilck (.t 7)), of_ 9 1 8, ol_ 10 9] [oo_ 11 (.iaddr 4 (.t 6) (.t 10)), oo_ 12 (.load (some 4) (.t 11)), os_ (.store 4 (.t 2) (.t 12))]) .ret))
theorem expr_parser_now.code : comp PG [] (Tryz.f64.body.getD .skip) = expr_parser_now.c := by kernel_rfl
theorem expr_parser_now.of : OfE PG 64 1 expr_parser_now.c [(.cell 2 (some 4))] := fnE (nt := 13) mixed Tryz.func64 expr_parser_now.code (by kernel_rfl) (by kernel_rfl) (by kernel_rfl) (by kernel_rfl) (by kernel_rfl) (by kernel_rfl)
def expr_parser_fail.n : Nat := 65
noncomputable def expr_parser_fail.c : C := (.seq (.reg [om_ 4 0, oo_ 5 (.nilck (.t 4)), of_ 6 3 5, of_ 7 0 6, ol_ 8 7, oo_ 9 (.bin .eql (.t 8) (.c (.int .i64 0)))]) (.cond (.t 9) (.reg [om_ 10 0, om_ 11 1, om_ 12 0, oo_ 13 (.call 64 [(.t 12)]), oo_ 14 (.field 3 none (.t 13)), oo_ 15 (.build [(.int .i64 0), (.int .i64 0)] [(0, (1, (.t 11))), (1, (1, (.t 14)))]), oo_ 16 (.nilck (.t 10)), of_ 17 3 16, os_ (.store 2 (.t 17) (.t 15))]) .skip))
theorem expr_parser_fail.code : comp PG [] (Tryz.f65.body.getD .skip) = expr_parser_fail.c := by kernel_rfl
theorem expr_parser_fail.of : OfE PG 65 2 expr_parser_fail.c [] := fnE (nt := 18) mixed Tryz.func65 expr_parser_fail.code (by kernel_rfl) (by kernel_rfl) (by kernel_rfl) (by kernel_rfl) (by kernel_rfl) (by kernel_rfl)
def expr_parser_row.n : Nat := 116
noncomputable def expr_parser_row.c : C := (.seq (.reg [oo_ 8 (.allc 26 [(.int .i64 0), (.int .i64 0), .nilS, .nilS])]) (.seq (.reg [om_ 11 3, oo_ 12 (.callv (.t 11) []), oo_ 9 (.allc 26 [(.int .i64 0), (.int .i64 0), .nilS, .nilS]), os_ (.store 4 (.t 9) (.t 12))]) (.seq (.reg [om_ 13 1, oo_ 14 (.load (some 4) (.t 9)), oo_ 15 (.bsliceO 26 4 1 [(.int .i64 0), (.int .i64 0), .nilS, .nilS] [(0, (.t 14))]), oo_ 16 (.build [(.int .i64 0), (.int .i64 0), .nilS, .nilS] [(0, (1, (.t 13))), (3, (1, (.t 15)))]), oo_ 10 (.allc 26 [(.int .i64 0), (.int .i64 0), .nilS, .nilS]), os_ (.store 4 (.t 10) (.t 16))]) (.seq (.block 0 (.loop (.seq (.seq (.reg [om_ 17 0, om_ 18 2, oo_ 19 (.call 158 [(.t 17), (.c (.int .i64 1)), (.t 18)])]) (.cond (.t 19) .skip (.exit 0))) (.block 1 (.dreg [of_ 20 3 10, ol_ 21 20, om_ 22 3, oo_ 23 (.callv (.t 22) []), oo_ 24 (.bslice 26 4 1 [(.int .i64 0), (.int .i64 0), .nilS, .nilS] [(0, (.t 23))])] [oo_ 25 (.append 26 false 4 64 (.t 21) (.t 24)), of_ 26 3 10, os_ (.store 1 (.t 26) (.t 25))]))))) (.seq (.seq (.reg [of_ 27 3 10, ol_ 28 27, oo_ 29 (.len false (.t 28)), oo_ 30 (.bin .eql (.t 29) (.c (.int .i64 1)))]) (.cond (.t 30) (.seq (.reg [oo_ 31 (.load (some 4) (.t 9)), os_ (.store 4 (.t 8) (.t 31))]) .ret) .skip)) (.seq (.reg [oo_ 32 (.load (some 4) (.t 10)), os_ (.store 4 (.t 8) (.t 32))]) .ret))))))
theorem expr_parser_row.code : comp PG [15] (Tryz.f116.body.getD .skip) = expr_parser_row.c := by kernel_rfl
theorem expr_parser_row.of : OfE PG 116 4 expr_parser_row.c [(.cell 8 (some 4))] := fnE (nt := 33) mixed Tryz.func116 expr_parser_row.code (by kernel_rfl) (by kernel_rfl) (by kernel_rfl) (by kernel_rfl) (by kernel_rfl) (by kernel_rfl)
def expr_parser_and.n : Nat := 117
noncomputable def expr_parser_and.c : C := (.seq (.reg [oo_ 2 (.allc 26 [(.int .i64 0), (.int .i64 0), .nilS, .nilS])]) (.seq (.reg [om_ 3 0, om_ 4 0, oo_ 5 (.mkfn 159 [(.t 4)] []), oo_ 6 (.call 116 [(.t 3), (.c (.int .i64 5)), (.c (.str [65, 78, 68])), (.t 5)]), os_ (.store 4 (.t 2) (.t 6))]) .ret))
theorem expr_parser_and.code : comp PG [] (Tryz.f117.body.getD .skip) = expr_parser_and.c := by kernel_rfl
theorem expr_parser_and.of : OfE PG 117 1 expr_parser_and.c [(.cell 2 (some 4))] := fnE (nt := 7) mixed Tryz.func117 expr_parser_and.code (by kernel_rfl) (by kernel_rfl) (by kernel_rfl) (by kernel_rfl) (by kernel_rfl) (by kernel_rfl)
def expr_parser_skip.n : Nat := 158
noncomputable def expr_parser_skip.c : C := (.seq (.reg [oo_ 6 (.mv (.c (.bool false)))]) (.seq (.seq (.reg [om_ 7 0, oo_ 8 (.call 63 [(.t 7)]), om_ 9 8, og_ 10 9 false (.mv (.t 0)), og_ 11 9 false (.mv (.t 1)), og_ 12 9 false (.mv (.t 2)), og_ 13 9 false (.call 190 [(.t 10), (.t 11), (.t 12)]), og_ 14 9 false (.un .not (.t 13)), oo_ 15 (.pick (.t 9) (.c (.bool true)) (.t 14))]) (.cond (.t 15) (.seq (.reg [oo_ 6 (.mv (.c (.bool false)))]) .ret) .skip)) (.seq (.reg [om_ 16 0, oo_ 17 (.nilck (.t 16)), of_ 18 1 17, ol_ 19 18, oo_ 20 (.bin .add (.t 19) (.c (.int .i64 1))), oo_ 21 (.nilck (.t 16)), of_ 22 1 21, os_ (.store 1 (.t 22) (.t 20))]) (.seq (.reg [oo_ 6 (.mv (.c (.bool true)))]) .ret))))
theorem expr_parser_skip.code : comp PG [] (Tryz.f158.body.getD .skip) = expr_parser_skip.c := by kernel_rfl
theorem expr_parser_skip.of : OfE PG 158 3 expr_parser_skip.c [(.t 6)] := fnE (nt := 23) mixed Tryz.func158 expr_parser_skip.code (by kernel_rfl) (by kernel_rfl) (by kernel_rfl) (by kernel_rfl) (by kernel_rfl) (by kernel_rfl)
def expr_parser_not.n : Nat := 159
noncomputable def expr_parser_not.c : C := (.seq (.reg [oo_ 1 (.box 106 (.t 0)), oo_ 2 (.allc 26 [(.int .i64 0), (.int .i64 0), .nilS, .nilS])]) (.seq (.block 0 (.seq (.reg [ol_ 4 1, oo_ 5 (.call 63 [(.t 4)]), om_ 3 5]) (.cond (.t 3) (.seq (.reg [oo_ 6 (.build [(.int .i64 0), (.int .i64 0), .nilS, .nilS] []), os_ (.store 4 (.t 2) (.t 6))]) .ret) (.seq (.reg [ol_ 8 1, oo_ 9 (.call 190 [(.t 8), (.c (.int .i64 1)), (.c (.str [78, 79, 84]))]), om_ 7 9]) (.cond (.t 7) (.seq (.reg [ol_ 10 1, oo_ 11 (.mkfn 192 [] [(.t 1)]), oo_ 12 (.call 191 [(.t 10), (.t 11)]), os_ (.store 4 (.t 2) (.t 12))]) .ret) (.seq (.reg [ol_ 14 1, oo_ 15 (.call 190 [(.t 14), (.c (.int .i64 5)), (.c (.str [40]))]), om_ 13 15]) (.cond (.t 13) (.seq (.reg [ol_ 16 1, oo_ 17 (.mkfn 193 [] [(.t 1)]), oo_ 18 (.call 191 [(.t 16), (.t 17)]), os_ (.store 4 (.t 2) (.t 18))]) .ret) .skip))))))) (.seq (.reg [ol_ 19 1, oo_ 20 (.call 195 [(.t 19)]), os_ (.store 4 (.t 2) (.t 20))]) .ret)))
theorem expr_parser_not.code : comp PG [] (Tryz.f159.body.getD .skip) = expr_parser_not.c := by kernel_rfl
theorem expr_parser_not.of : OfE PG 159 1 expr_parser_not.c [(.cell 2 (some 4))] := fnE (nt := 21) mixed Tryz.func159 expr_parser_not.code (by kernel_rfl) (by kernel_rfl) (by kernel_rfl) (by kernel_rfl) (by kernel_rfl) (by kernel_rfl)
def expr_parser_is.n : Nat := 190
noncomputable def expr_parser_is.c : C := (.seq (.reg [oo_ 6 (.mv (.c (.bool false)))]) (.seq (.reg [om_ 8 0, oo_ 9 (.call 64 [(.t 8)]), oo_ 7 (.allc 111 [(.int .i64 0), (.str []), (.int .u64 0), (.int .i64 0)]), os_ (.store 4 (.t 7) (.t 9))]) (.seq (.reg [of_ 10 0 7, ol_ 11 10, om_ 12 1, oo_ 13 (.bin .eql (.t 11) (.t 12)), om_ 14 13, og_ 15 14 true (.faddr 1 (.t 7)), og_ 16 14 true (.load none (.t 15)), og_ 17 14 true (.mv (.t 2)), og_ 18 14 true (.bin .eql (.t 16) (.t 17)), oo_ 19 (.pick (.t 14) (.t 18) (.c (.bool false))), om_ 6 19]) .ret)))
theorem expr_parser_is.code : comp PG [] (Tryz.f190.body.getD .skip) = expr_parser_is.c := by kernel_rfl
theorem expr_parser_is.of : OfE PG 190 3 expr_parser_is.c [(.t 6)] := fnE (nt := 20) mixed Tryz.func190 expr_parser_is.code (by kernel_rfl) (by kernel_rfl) (by kernel_rfl) (by kernel_rfl) (by kernel_rfl) (by kernel_rfl)
def expr_parser_within.n : Nat := 191
noncomputable def expr_parser_within.c : C := (.seq (.reg [oo_ 4 (.allc 26 [(.int .i64 0), (.int .i64 0), .nilS, .nilS])]) (.seq (.seq (.reg [om_ 6 0, oo_ 7 (.nilck (.t 6)), of_ 8 2 7, ol_ 9 8, oo_ 10 (.bin .geq (.t 9) (.c (.int .i64 8)))]) (.cond (.t 10) (.seq (.reg [om_ 11 0, oo_ 12 (.call 65 [(.t 11), (.c (.int .i64 9))])]) (.seq (.reg [oo_ 13 (.build [(.int .i64 0), (.int .i64 0), .nilS, .nilS] []), os_ (.store 4 (.t 4) (.t 13))]) .ret)) .skip)) (.seq (.reg [om_ 14 0, oo_ 15 (.nilck (.t 14)), of_ 16 2 15, ol_ 17 16, oo_ 18 (.bin .add (.t 17) (.c (.int .i64 1))), oo_ 19 (.nilck (.t 14)), of_ 20 2 19, os_ (.store 1 (.t 20) (.t 18))]) (.seq (.reg [om_ 21 0, oo_ 22 (.nilck (.t 21)), of_ 23 1 22, ol_ 24 23, oo_ 25 (.bin .add (.t 24) (.c (.int .i64 1))), oo_ 26 (.nilck (.t 21)), of_ 27 1 26, os_ (.store 1 (.t 27) (.t 25))]) (.seq (.reg [om_ 28 1, oo_ 29 (.callv (.t 28) []), oo_ 5 (.allc 26 [(.int .i64 0), (.int .i64 0), .nilS, .nilS]), os_ (.store 4 (.t 5) (.t 29))]) (.seq (.reg [om_ 30 0, oo_ 31 (.nilck (.t 30)), of_ 32 2 31, ol_ 33 32, oo_ 34 (.bin .sub (.t 33) (.c (.int .i64 1))), oo_ 35 (.nilck (.t 30)), of_ 36 2 35, os_ (.store 1 (.t 36) (.t 34))]) (.seq (.reg [oo_ 37 (.load (some 4) (.t 5)), os_ (.store 4 (.t 4) (.t 37))]) .ret)))))))
theorem expr_parser_within.code : comp PG [] (Tryz.f191.body.getD .skip) = expr_parser_within.c := by kernel_rfl
theorem expr_parser_within.of : OfE PG 191 2 expr_parser_within.c [(.cell 4 (some 4))] := fnE (nt := 38) mixed Tryz.func191 expr_parser_within.code (by kernel_rfl) (by kernel_rfl) (by kernel_rfl) (by kernel_rfl) (by kernel_rfl) (by kernel_rfl)
def expr_parser_not_1.n : Nat := 192
noncomputable def expr_parser_not_1.c : C := (.seq (.reg [oo_ 1 (.allc 26 [(.int .i64 0), (.int .i64 0), .nilS, .nilS])]) (.seq (.reg [ol_ 2 0, oo_ 3 (.call 159 [(.t 2)]), oo_ 4 (.bslice 26 4 1 [(.int .i64 0), (.int .i64 0), .nilS, .nilS] [(0, (.t 3))]), oo_ 5 (.build [(.int .i64 0), (.int .i64 0), .nilS, .nilS] [(0, (1, (.c (.int .i64 4)))), (3, (1, (.t 4)))]), os_ (.store 4 (.t 1) (.t 5))]) .ret))
theorem expr_parser_not_1.code : comp PG [] (Tryz.f192.body.getD .skip) = expr_parser_not_1.c := by kernel_rfl
theorem expr_parser_not_1.of' : OfL PG 192 6 expr_parser_not_1.c [(.cell 1 (some 4))] := fnL mixed Tryz.func192 expr_parser_not_1.code (by kernel_rfl) (by kernel_rfl) (by kernel_rfl) (by kernel_rfl) (by kernel_rfl)
def expr_parser_not_2.n : Nat := 193
noncomputable def expr_parser_not_2.c : C := (.seq (.reg [oo_ 1 (.allc 26 [(.int .i64 0), (.int .i64 0), .nilS, .nilS])]) (.seq (.reg [ol_ 3 0, oo_ 4 (.call 62 [(.t 3)]), oo_ 2 (.allc 26 [(.int .i64 0), (.int .i64 0), .nilS, .nilS]), os_ (.store 4 (.t 2) (.t 4))]) (.seq (.reg [ol_ 5 0, oo_ 6 (.call 194 [(.t 5), (.c (.int .i64 5)), (.c (.str [41]))])]) (.seq (.reg [oo_ 7 (.load (some 4) (.t 2)), os_ (.store 4 (.t 1) (.t 7))]) .ret))))
theorem expr_parser_not_2.code : comp PG [] (Tryz.f193.body.getD .skip) = expr_parser_not_2.c := by kernel_rfl
theorem expr_parser_not_2.of' : OfL PG 193 8 expr_parser_not_2.c [(.cell 1 (some 4))] := fnL mixed Tryz.func193 expr_parser_not_2.code (by kernel_rfl) (by kernel_rfl) (by kernel_rfl) (by kernel_rfl) (by kernel_rfl)
def expr_parser_must.n : Nat := 194
noncomputable def expr_parser_must.c : C := (.seq (.reg [om_ 6 0, om_ 7 1, om_ 8 2, oo_ 9 (.call 158 [(.t 6), (.t 7), (.t 8)]), oo_ 10 (.un .not (.t 9))]) (.cond (.t 10) (.reg [om_ 11 0, oo_ 12 (.call 65 [(.t 11), (.c (.int .i64 11))])]) .skip))
theorem expr_parser_must.code : comp PG [] (Tryz.f194.body.getD .skip) = expr_parser_must.c := by kernel_rfl
theorem expr_parser_must.of : OfE PG 194 3 expr_parser_must.c [] := fnE (nt := 13) mixed Tryz.func194 expr_parser_must.code (by kernel_rfl) (by kernel_rfl) (by kernel_rfl) (by kernel_rfl) (by kernel_rfl) (by kernel_rfl)
def expr_parser_test.n : Nat := 195
noncomputable def expr_parser_test.c : C := (.seq (.reg [oo_ 2 (.allc 26 [(.int .i64 0), (.int .i64 0), .nilS, .nilS])]) (.seq (.reg [om_ 8 0, oo_ 9 (.call 213 [(.t 8)]), oo_ 3 (.allc 35 [(.int .i64 0), (.str []), (.bool false), (.int .u64 0)]), os_ (.store 4 (.t 3) (.t 9))]) (.seq (.seq (.reg [om_ 10 0, oo_ 11 (.call 63 [(.t 10)])]) (.cond (.t 11) (.seq (.reg [oo_ 12 (.build [(.int .i64 0), (.int .i64 0), .nilS, .nilS] []), os_ (.store 4 (.t 2) (.t 12))]) .ret) .skip)) (.seq (.seq (.reg [om_ 13 0, oo_ 14 (.call 64 [(.t 13)]), oo_ 15 (.call 214 [(.t 14)]), om_ 4 15]) (.seq (.reg [om_ 16 4, oo_ 17 (.bin .gtr (.t 16) (.c (.int .i64 0)))]) (.cond (.t 17) (.seq (.reg [om_ 18 0, oo_ 19 (.nilck (.t 18)), of_ 20 1 19, ol_ 21 20, oo_ 22 (.bin .add (.t 21) (.c (.int .i64 1))), oo_ 23 (.nilck (.t 18)), of_ 24 1 23, os_ (.store 1 (.t 24) (.t 22))]) (.seq (.dreg [om_ 25 4, oo_ 26 (.load (some 4) (.t 3)), om_ 27 0, oo_ 28 (.call 213 [(.t 27)]), oo_ 29 (.bslice 35 4 2 [(.int .i64 0), (.str []), (.bool false), (.int .u64 0)] [(0, (.t 26)), (1, (.t 28))])] [oo_ 30 (.build [(.int .i64 0), (.int .i64 0), .nilS, .nilS] [(0, (1, (.c (.int .i64 1)))), (1, (1, (.t 25))), (2, (1, (.t 29)))]), os_ (.store 4 (.t 2) (.t 30))]) .ret)) .skip))) (.seq (.seq (.reg [om_ 31 0, oo_ 32 (.call 158 [(.t 31), (.c (.int .i64 1)), (.c (.str [76, 73, 75, 69]))])]) (.cond (.t 32) (.seq (.dreg [oo_ 33 (.load (some 4) (.t 3)), om_ 34 0, oo_ 35 (.call 213 [(.t 34)])] [oo_ 36 (.bslice 35 4 2 [(.int .i64 0), (.str []), (.bool false), (.int .u64 0)] [(0, (.t 33)), (1, (.t 35))]), oo_ 37 (.build [(.int .i64 0), (.int .i64 0), .nilS, .nilS] [(0, (1, (.c (.int .i64 3)))), (2, (1, (.t 36)))]), os_ (.store 4 (.t 2) (.t 37))]) .ret) .skip)) (.seq (.reg [om_ 38 0, oo_ 39 (.call 158 [(.t 38), (.c (.int .i64 1)), (.c (.str [78, 79, 84]))]), om_ 5 39]) (.seq (.reg [om_ 40 0, oo_ 41 (.call 194 [(.t 40), (.c (.int .i64 1)), (.c (.str [66, 69, 84, 87, 69, 69, 78]))])]) (.seq (.reg [om_ 42 0, oo_ 43 (.call 213 [(.t 42)]), oo_ 6 (.allc 35 [(.int .i64 0), (.str []), (.bool false), (.int .u64 0)]), os_ (.store 4 (.t 6) (.t 43))]) (.seq (.reg [om_ 44 0, oo_ 45 (.call 194 [(.t 44), (.c (.int .i64 1)), (.c (.str [65, 78, 68]))])]) (.seq (.dreg [oo_ 46 (.load (some 4) (.t 3)), oo_ 47 (.load (some 4) (.t 6)), om_ 48 0, oo_ 49 (.call 213 [(.t 48)]), oo_ 50 (.bslice 35 4 3 [(.int .i64 0), (.str []), (.bool false), (.int .u64 0)] [(0, (.t 46)), (1, (.t 47)), (2, (.t 49))]), oo_ 51 (.build [(.int .i64 0), (.int .i64 0), .nilS, .nilS] [(0, (1, (.c (.int .i64 2)))), (2, (1, (.t 50)))]), oo_ 7 (.allc 26 [(.int .i64 0), (.int .i64 0), .nilS, .nilS])] [os_ (.store 4 (.t 7) (.t 51))]) (.seq (.seq (.reg [om_ 52 5]) (.cond (.t 52) (.seq (.reg [oo_ 53 (.load (some 4) (.t 7)), oo_ 54 (.bslice 26 4 1 [(.int .i64 0), (.int .i64 0), .nilS, .nilS] [(0, (.t 53))]), oo_ 55 (.build [(.int .i64 0), (.int .i64 0), .nilS, .nilS] [(0, (1, (.c (.int .i64 4)))), (3, (1, (.t 54)))]), os_ (.store 4 (.t 2) (.t 55))]) .ret) .skip)) (.seq (.reg [oo_ 56 (.load (some 4) (.t 7)), os_ (.store 4 (.t 2) (.t 56))]) .ret))))))))))))
theorem expr_parser_test.code : comp PG [] (Tryz.f195.body.getD .skip) = expr_parser_test.c := by kernel_rfl
theorem expr_parser_test.of : OfE PG 195 1 expr_parser_test.c [(.cell 2 (some 4))] := fnE (nt := 57) mixed Tryz.func195 expr_parser_test.code (by kernel_rfl) (by kernel_rfl) (by kernel_rfl) (by kernel_rfl) (by kernel_rfl) (by kernel_rfl)
def expr_parser_operand.n : Nat := 213
noncomputable def expr_parser_operand.c : C := (.seq (.reg [oo_ 2 (.allc 35 [(.int .i64 0), (.str []), (.bool false), (.int .u64 0)])]) (.seq (.seq (.reg [om_ 5 0, oo_ 6 (.call 63 [(.t 5)])]) (.cond (.t 6) (.seq (.reg [oo_ 7 (.build [(.int .i64 0), (.str []), (.bool false), (.int .u64 0)] []), os_ (.store 4 (.t 2) (.t 7))]) .ret) .skip)) (.seq (.reg [om_ 8 0, oo_ 9 (.call 158 [(.t 8), (.c (.int .i64 5)), (.c (.str [45]))]), om_ 3 9]) (.seq (.reg [om_ 10 0, oo_ 11 (.call 64 [(.t 10)]), oo_ 4 (.allc 111 [(.int .i64 0), (.str []), (.int .u64 0), (.int .i64 0)]), os_ (.store 4 (.t 4) (.t 11))]) (.seq (.block 0 (.seq (.reg [of_ 13 0 4, ol_ 14 13, oo_ 15 (.bin .eql (.t 14) (.c (.int .i64 2))), om_ 12 15]) (.cond (.t 12) (.seq (.reg [om_ 16 0, oo_ 17 (.nilck (.t 16)), of_ 18 1 17, ol_ 19 18, oo_ 20 (.bin .add (.t 19) (.c (.int .i64 1))), oo_ 21 (.nilck (.t 16)), of_ 22 1 21, os_ (.store 1 (.t 22) (.t 20))]) (.seq (.reg [om_ 23 3, of_ 24 2 4, ol_ 25 24, oo_ 26 (.build [(.int .i64 0), (.str []), (.bool false), (.int .u64 0)] [(0, (1, (.c (.int .i64 2)))), (2, (1, (.t 23))), (3, (1, (.t 25)))]), os_ (.store 4 (.t 2) (.t 26))]) .ret)) (.seq (.reg [om_ 28 3, om_ 27 28]) (.cond (.t 27) (.seq (.reg [om_ 29 0, oo_ 30 (.call 65 [(.t 29), (.c (.int .i64 11))])]) (.seq (.reg [oo_ 31 (.build [(.int .i64 0), (.str []), (.bool false), (.int .u64 0)] []), os_ (.store 4 (.t 2) (.t 31))]) .ret)) (.seq (.reg [of_ 33 0 4, ol_ 34 33, oo_ 35 (.bin .eql (.t 34) (.c (.int .i64 3))), om_ 32 35]) (.cond (.t 32) (.seq (.reg [om_ 36 0, oo_ 37 (.nilck (.t 36)), of_ 38 1 37, ol_ 39 38, oo_ 40 (.bin .add (.t 39) (.c (.int .i64 1))), oo_ 41 (.nilck (.t 36)), of_ 42 1 41, os_ (.store 1 (.t 42) (.t 40))]) (.seq (.reg [of_ 43 1 4, ol_ 44 43, oo_ 45 (.build [(.int .i64 0), (.str []), (.bool false), (.int .u64 0)] [(0, (1, (.c (.int .i64 3)))), (1, (1, (.t 44)))]), os_ (.store 4 (.t 2) (.t 45))]) .ret)) (.seq (.reg [of_ 47 0 4, ol_ 48 47, oo_ 49 (.bin .eql (.t 48) (.c (.int .i64 4))), om_ 46 49]) (.cond (.t 46) (.seq (.reg [om_ 50 0, oo_ 51 (.nilck (.t 50)), of_ 52 1 51, ol_ 53 52, oo_ 54 (.bin .add (.t 53) (.c (.int .i64 1))), oo_ 55 (.nilck (.t 50)), of_ 56 1 55, os_ (.store 1 (.t 56) (.t 54))]) (.seq (.reg [of_ 57 2 4, ol_ 58 57, oo_ 59 (.build [(.int .i64 0), (.str []), (.bool false), (.int .u64 0)] [(0, (1, (.c (.int .i64 5)))), (3, (1, (.t 58)))]), os_ (.store 4 (.t 2) (.t 59))]) .ret)) (.seq (.reg [om_ 61 0, oo_ 62 (.call 158 [(.t 61), (.c (.int .i64 1)), (.c (.str [84, 82, 85, 69]))]), om_ 60 62]) (.cond (.t 60) (.seq (.reg [oo_ 63 (.build [(.int .i64 0), (.str []), (.bool false), (.int .u64 0)] [(0, (1, (.c (.int .i64 4)))), (3, (1, (.c (.int .u64 1))))]), os_ (.store 4 (.t 2) (.t 63))]) .ret) (.seq (.reg [om_ 65 0, oo_ 66 (.call 158 [(.t 65), (.c (.int .i64 1)), (.c (.str [70, 65, 76, 83, 69]))]), om_ 64 66]) (.cond (.t 64) (.seq (.reg [oo_ 67 (.build [(.int .i64 0), (.str []), (.bool false), (.int .u64 0)] [(0, (1, (.c (.int .i64 4))))]), os_ (.store 4 (.t 2) (.t 67))]) .ret) .skip))))))))))))) (.seq (.reg [om_ 68 0, oo_ 69 (.call 221 [(.t 68)]), oo_ 70 (.build [(.int .i64 0), (.str []), (.bool false), (.int .u64 0)] [(0, (1, (.c (.int .i64 1)))), (1, (1, (.t 69)))]), os_ (.store 4 (.t 2) (.t 70))]) .ret))))))
theorem expr_parser_operand.code : comp PG [] (Tryz.f213.body.getD .skip) = expr_parser_operand.c := by kernel_rfl
theorem expr_parser_operand.of : OfE PG 213 1 expr_parser_operand.c [(.cell 2 (some 4))] := fnE (nt := 71) mixed Tryz.func213 expr_parser_operand.code (by kernel_rfl) (by kernel_rfl) (by kernel_rfl) (by kernel_rfl) (by kernel_rfl) (by kernel_rfl)
def expr_relation.n : Nat := 214
noncomputable def expr_relation.c : C := (.seq (.reg [oo_ 1 (.box 111 (.t 0)), oo_ 2 (.mv (.c (.int .i64 0)))]) (.seq (.seq (.reg [of_ 3 0 1, ol_ 4 3, oo_ 5 (.bin .neq (.t 4) (.c (.int .i64 5)))]) (.cond (.t 5) (.seq (.reg [oo_ 2 (.mv (.c (.int .i64 0)))]) .ret) .skip)) (.seq (.seq (.reg [of_ 6 1 1, ol_ 7 6]) (.block 0 (.seq (.reg [oo_ 9 (.bin .eql (.t 7) (.c (.str [61]))), om_ 8 9]) (.cond (.t 8) (.seq (.reg [oo_ 2 (.mv (.c (.int .i64 1)))]) .ret) (.seq (.reg [oo_ 11 (.bin .eql (.t 7) (.c (.str [60, 62]))), om_ 10 11]) (.cond (.t 10) (.seq (.reg [oo_ 2 (.mv (.c (.int .i64 2)))]) .ret) (.seq (.reg [oo_ 13 (.bin .eql (.t 7) (.c (.str [60]))), om_ 12 13]) (.cond (.t 12) (.seq (.reg [oo_ 2 (.mv (.c (.int .i64 3)))]) .ret) (.seq (.reg [oo_ 15 (.bin .eql (.t 7) (.c (.str [60, 61]))), om_ 14 15]) (.cond (.t 14) (.seq (.reg [oo_ 2 (.mv (.c (.int .i64 4)))]) .ret) (.seq (.reg [oo_ 17 (.bin .eql (.t 7) (.c (.str [62]))), om_ 16 17]) (.cond (.t 16) (.seq (.reg [oo_ 2 (.mv (.c (.int .i64 5)))]) .ret) (.seq (.reg [oo_ 19 (.bin .eql (.t 7) (.c (.str [62, 61]))), om_ 18 19]) (.cond (.t 18) (.seq (.reg [oo_ 2 (.mv (.c (.int .i64 6)))]) .ret) .skip)))))))))))))) (.seq (.reg [oo_ 2 (.mv (.c (.int .i64 0)))]) .ret))))
theorem expr_relation.code : comp PG [] (Tryz.f214.body.getD .skip) = expr_relation.c := by kernel_rfl
theorem expr_relation.of : OfE PG 214 1 expr_relation.c [(.t 2)] := fnE (nt := 20) mixed Tryz.func214 expr_relation.code (by kernel_rfl) (by kernel_rfl) (by kernel_rfl) (by kernel_rfl) (by kernel_rfl) (by kernel_rfl)
def expr_parser_path.n : Nat := 221
noncomputable def expr_parser_path.c : C := (.seq (.reg [oo_ 2 (.mv (.c (.str [])))]) (.seq (.reg [oo_ 3 (.mv (.c (.str [])))]) (.seq (.seq (.reg [om_ 4 0, oo_ 5 (.call 190 [(.t 4), (.c (.int .i64 5)), (.c (.str [91]))])]) (.cond (.t 5) (.reg [om_ 6 0, oo_ 7 (.call 224 [(.t 6)]), om_ 3 7]) (.reg [om_ 8 0, oo_ 9 (.call 225 [(.t 8)]), om_ 3 9]))) (.seq (.block 0 (.loop (.seq (.seq (.reg [om_ 10 0, oo_ 11 (.call 63 [(.t 10)]), oo_ 12 (.un .not (.t 11))]) (.cond (.t 12) .skip (.exit 0))) (.block 1 (.block 2 (.seq (.reg [om_ 15 0, oo_ 16 (.call 190 [(.t 15), (.c (.int .i64 5)), (.c (.str [91]))]), om_ 14 16]) (.cond (.t 14) (.reg [om_ 17 3, om_ 18 0, oo_ 19 (.call 224 [(.t 18)]), oo_ 20 (.bin .add (.t 17) (.t 19)), om_ 3 20]) (.seq (.reg [om_ 22 0, oo_ 23 (.call 158 [(.t 22), (.c (.int .i64 5)), (.c (.str [46]))]), om_ 21 23]) (.cond (.t 21) (.reg [om_ 24 3, om_ 25 0, oo_ 26 (.call 225 [(.t 25)]), oo_ 27 (.bin .add (.c (.str [46])) (.t 26)), oo_ 28 (.bin .add (.t 24) (.t 27)), om_ 3 28]) (.seq (.reg [om_ 13 3, om_ 2 13]) .ret)))))))))) (.seq (.reg [om_ 29 3, om_ 2 29]) .ret)))))
theorem expr_parser_path.code : comp PG [] (Tryz.f221.body.getD .skip) = expr_parser_path.c := by kernel_rfl
theorem expr_parser_path.of : OfE PG 221 1 expr_parser_path.c [(.t 2)] := fnE (nt := 30) mixed Tryz.func221 expr_parser_path.code (by kernel_rfl) (by kernel_rfl) (by kernel_rfl) (by kernel_rfl) (by kernel_rfl) (by kernel_rfl)
def expr_parser_elem.n : Nat := 224
noncomputable def expr_parser_elem.c : C := (.seq (.reg [oo_ 2 (.mv (.c (.str [])))]) (.seq (.reg [om_ 4 0, oo_ 5 (.call 194 [(.t 4), (.c (.int .i64 5)), (.c (.str [91]))])]) (.seq (.reg [om_ 6 0, oo_ 7 (.call 64 [(.t 6)]), oo_ 3 (.allc 111 [(.int .i64 0), (.str []), (.int .u64 0), (.int .i64 0)]), os_ (.store 4 (.t 3) (.t 7))]) (.seq (.seq (.reg [of_ 8 0 3, ol_ 9 8, oo_ 10 (.bin .neq (.t 9) (.c (.int .i64 2)))]) (.cond (.t 10) (.seq (.reg [om_ 11 0, oo_ 12 (.call 65 [(.t 11), (.c (.int .i64 11))])]) (.seq (.reg [oo_ 2 (.mv (.c (.str [])))]) .ret)) .skip)) (.seq (.reg [om_ 13 0, oo_ 14 (.nilck (.t 13)), of_ 15 1 14, ol_ 16 15, oo_ 17 (.bin .add (.t 16) (.c (.int .i64 1))), oo_ 18 (.nilck (.t 13)), of_ 19 1 18, os_ (.store 1 (.t 19) (.t 17))]) (.seq (.reg [om_ 20 0, oo_ 21 (.call 194 [(.t 20), (.c (.int .i64 5)), (.c (.str [93]))])]) (.seq (.reg [of_ 22 1 3, ol_ 23 22, oo_ 24 (.bin .add (.c (.str [91])) (.t 23)), oo_ 25 (.bin .add (.t 24) (.c (.str [93]))), om_ 2 25]) .ret)))))))
theorem expr_parser_elem.code : comp PG [] (Tryz.f224.body.getD .skip) = expr_parser_elem.c := by kernel_rfl
theorem expr_parser_elem.of : OfE PG 224 1 expr_parser_elem.c [(.t 2)] := fnE (nt := 26) mixed Tryz.func224 expr_parser_elem.code (by kernel_rfl) (by kernel_rfl) (by kernel_rfl) (by kernel_rfl) (by kernel_rfl) (by kernel_rfl)
def expr_parser_name.n : Nat := 225
noncomputable def expr_parser_name.c : C := (.seq (.reg [oo_ 2 (.mv (.c (.str [])))]) (.seq (.reg [om_ 4 0, oo_ 5 (.call 64 [(.t 4)]), oo_ 3 (.allc 111 [(.int .i64 0), (.str []), (.int .u64 0), (.int .i64 0)]), os_ (.store 4 (.t 3) (.t 5))]) (.seq (.seq (.reg [om_ 6 0, oo_ 7 (.call 63 [(.t 6)]), om_ 8 7, og_ 9 8 false (.faddr 0 (.t 3)), og_ 10 8 false (.load none (.t 9)), og_ 11 8 false (.bin .neq (.t 10) (.c (.int .i64 1))), oo_ 12 (.pick (.t 8) (.c (.bool true)) (.t 11)), om_ 13 12, og_ 14 13 false (.faddr 1 (.t 3)), og_ 15 13 false (.load none (.t 14)), og_ 16 13 false (.call 160 [(.t 15)]), oo_ 17 (.pick (.t 13) (.c (.bool true)) (.t 16))]) (.cond (.t 17) (.seq (.reg [om_ 18 0, oo_ 19 (.call 65 [(.t 18), (.c (.int .i64 11))])]) (.seq (.reg [oo_ 2 (.mv (.c (.str [])))]) .ret)) .skip)) (.seq (.reg [om_ 20 0, oo_ 21 (.nilck (.t 20)), of_ 22 1 21, ol_ 23 22, oo_ 24 (.bin .add (.t 23) (.c (.int .i64 1))), oo_ 25 (.nilck (.t 20)), of_ 26 1 25, os_ (.store 1 (.t 26) (.t 24))]) (.seq (.reg [of_ 27 1 3, ol_ 28 27, om_ 2 28]) .ret)))))
theorem expr_parser_name.code : comp PG [] (Tryz.f225.body.getD .skip) = expr_parser_name.c := by kernel_rfl
theorem expr_parser_name.of : OfE PG 225 1 expr_parser_name.c [(.t 2)] := fnE (nt := 29) mixed Tryz.func225 expr_parser_name.code (by kernel_rfl) (by kernel_rfl) (by kernel_rfl) (by kernel_rfl) (by kernel_rfl) (by kernel_rfl)
end Go.Proofs.YtjaigpidmngaaaaGreat

namespace Go.Proofs.YtjaigpidmngaaaaGreat
set_option maxRecDepth 100000
def types_Check.n : Nat := 37
noncomputable def types_Check.c : C := (.seq (.reg [oo_ 2 (.allc 72 [(.int .i64 0), (.int .i64 0)])]) (.seq (.seq (.reg [om_ 9 0, oo_ 10 (.len false (.t 9)), oo_ 11 (.bin .gtr (.t 10) (.c (.int .i64 32)))]) (.cond (.t 11) (.seq (.reg [oo_ 12 (.build [(.int .i64 0), (.int .i64 0)] [(0, (1, (.c (.int .i64 3)))), (1, (1, (.c (.int .i64 32))))]), os_ (.store 2 (.t 2) (.t 12))]) .ret) .skip)) (.seq (.seq (.reg [om_ 13 0, oo_ 14 (.len false (.t 13)), oo_ 15 (.mv (.c (.int .i64 0)))]) (.block 0 (.loop (.seq (.reg [oo_ 16 (.bin .lss (.t 15) (.t 14))]) (.seq (.cond (.t 16) .skip (.exit 0)) (.seq (.block 1 (.seq (.reg [om_ 17 15, oo_ 18 (.iaddr 6 (.t 13) (.t 15)), oo_ 19 (.load (some 6) (.t 18)), oo_ 4 (.allc 67 [(.int .i64 0), (.str []), (.int .i64 0), (.int .i64 0), (.int .i64 0), .nilS]), om_ 3 17, os_ (.store 6 (.t 4) (.t 19))]) (.seq (.reg [om_ 20 0, om_ 21 3, oo_ 22 (.load (some 6) (.t 4)), oo_ 23 (.build [.nilS, (.int .i64 0), (.int .i64 0), (.str []), (.int .i64 0), (.int .i64 0), (.int .i64 0), .nilS] [(0, (1, (.t 20))), (1, (1, (.t 21))), (2, (6, (.t 22)))]), oo_ 24 (.box 116 (.t 23)), om_ 5 24]) (.seq (.reg [om_ 25 5, oo_ 26 (.mkfn 66 [(.t 25)] []), om_ 27 5, oo_ 28 (.mkfn 67 [(.t 27)] []), om_ 29 5, oo_ 30 (.mkfn 68 [(.t 29)] []), om_ 31 5, oo_ 32 (.mkfn 69 [(.t 31)] []), om_ 33 5, oo_ 34 (.mkfn 70 [(.t 33)] []), om_ 35 5, oo_ 36 (.mkfn 71 [(.t 35)] []), oo_ 37 (.bslice 117 1 6 [.nilF] [(0, (.t 26)), (1, (.t 28)), (2, (.t 30)), (3, (.t 32)), (4, (.t 34)), (5, (.t 36))]), oo_ 38 (.len false (.t 37)), oo_ 39 (.mv (.c (.int .i64 0)))]) (.block 2 (.loop (.seq (.reg [oo_ 40 (.bin .lss (.t 39) (.t 38))]) (.seq (.cond (.t 40) .skip (.exit 2)) (.seq (.block 3 (.seq (.reg [oo_ 41 (.iaddr 1 (.t 37) (.t 39)), ol_ 42 41, om_ 7 42]) (.seq (.reg [om_ 43 7, oo_ 44 (.callv (.t 43) []), om_ 8 44]) (.seq (.reg [om_ 45 8, oo_ 46 (.bin .neq (.t 45) (.c (.int .i64 0)))]) (.cond (.t 46) (.seq (.reg [om_ 47 8, om_ 48 3, oo_ 49 (.build [(.int .i64 0), (.int .i64 0)] [(0, (1, (.t 47))), (1, (1, (.t 48)))]), os_ (.store 2 (.t 2) (.t 49))]) .ret) .skip))))) (.reg [oo_ 50 (.bin .add (.t 39) (.c (.int .i64 1))), om_ 39 50])))))))))) (.reg [oo_ 51 (.bin .add (.t 15) (.c (.int .i64 1))), om_ 15 51]))))))) (.seq (.reg [oo_ 52 (.build [(.int .i64 0), (.int .i64 0)] []), os_ (.store 2 (.t 2) (.t 52))]) .ret))))
theorem types_Check.code : comp PG [] (Tryz.f37.body.getD .skip) = types_Check.c := by kernel_rfl
theorem types_Check.of : OfE PG 37 1 types_Check.c [(.cell 2 (some 2))] := fnE (nt := 53) mixed Tryz.func37 types_Check.code (by kernel_rfl) (by kernel_rfl) (by kernel_rfl) (by kernel_rfl) (by kernel_rfl) (by kernel_rfl)
def types_Item.n : Nat := 42
noncomputable def types_Item.c : C := (.seq (.reg [oo_ 5 (.box 9 (.t 2)), oo_ 6 (.mv (.c (.int .i64 0))), oo_ 7 (.mv (.c (.bool false)))]) (.seq (.reg [om_ 8 0, om_ 9 1, oo_ 10 (.mkfn 81 [] [(.t 5)]), oo_ 11 (.call 78 [(.t 8), (.t 9), (.c (.clo 79 [] [])), (.t 10)]), oo_ 12 (.extr (.t 11) 0), oo_ 13 (.extr (.t 11) 1), om_ 6 12, om_ 7 13]) .ret))
theorem types_Item.code : comp PG [] (Tryz.f42.body.getD .skip) = types_Item.c := by kernel_rfl
theorem types_Item.of : OfE PG 42 3 types_Item.c [(.t 6), (.t 7)] := fnE (nt := 14) mixed Tryz.func42 types_Item.code (by kernel_rfl) (by kernel_rfl) (by kernel_rfl) (by kernel_rfl) (by kernel_rfl) (by kernel_rfl)
def prim_Datum.n : Nat := 43
noncomputable def prim_Datum.c : C := (.seq (.reg [oo_ 4 (.allc 38 [(.int .i64 0), (.bool false), (.int .u64 0), (.str [])])]) (.seq (.reg [om_ 5 0, om_ 6 1, oo_ 7 (.call 82 [(.t 5), (.t 6)]), om_ 1 7]) (.seq (.block 0 (.seq (.reg [om_ 9 0, oo_ 10 (.call 77 [(.t 9)]), oo_ 11 (.un .not (.t 10)), om_ 8 11]) (.cond (.t 8) (.seq (.reg [oo_ 12 (.build [(.int .i64 0), (.bool false), (.int .u64 0), (.str [])] []), os_ (.store 4 (.t 4) (.t 12))]) .ret) (.seq (.reg [om_ 14 0, oo_ 15 (.bin .eql (.t 14) (.c (.int .i64 1))), om_ 13 15]) (.cond (.t 13) (.seq (.reg [om_ 16 1, oo_ 17 (.bin .and (.t 16) (.c (.int .u64 1))), oo_ 18 (.build [(.int .i64 0), (.bool false), (.int .u64 0), (.str [])] [(0, (1, (.c (.int .i64 3)))), (2, (1, (.t 17)))]), os_ (.store 4 (.t 4) (.t 18))]) .ret) (.seq (.reg [om_ 20 0, oo_ 21 (.call 83 [(.t 20)]), om_ 22 21, og_ 23 22 true (.mv (.t 1)), og_ 24 22 true (.conv .i64 (.t 23)), og_ 25 22 true (.bin .lss (.t 24) (.c (.int .i64 0))), oo_ 26 (.pick (.t 22) (.t 25) (.c (.bool false))), om_ 19 26]) (.cond (.t 19) (.seq (.reg [om_ 27 1, oo_ 28 (.un .neg (.t 27)), oo_ 29 (.build [(.int .i64 0), (.bool false), (.int .u64 0), (.str [])] [(0, (1, (.c (.int .i64 1)))), (1, (1, (.c (.bool true)))), (2, (1, (.t 28)))]), os_ (.store 4 (.t 4) (.t 29))]) .ret) .skip))))))) (.seq (.reg [om_ 30 1, oo_ 31 (.build [(.int .i64 0), (.bool false), (.int .u64 0), (.str [])] [(0, (1, (.c (.int .i64 1)))), (2, (1, (.t 30)))]), os_ (.store 4 (.t 4) (.t 31))]) .ret))))
theorem prim_Datum.code : comp PG [] (Tryz.f43.body.getD .skip) = prim_Datum.c := by kernel_rfl
theorem prim_Datum.of : OfE PG 43 2 prim_Datum.c [(.cell 4 (some 4))] := fnE (nt := 32) mixed Tryz.func43 prim_Datum.code (by kernel_rfl) (by kernel_rfl) (by kernel_rfl) (by kernel_rfl) (by kernel_rfl) (by kernel_rfl)
def prim_Cmp.n : Nat := 59
noncomputable def prim_Cmp.c : C := (.seq (.reg [oo_ 2 (.box 38 (.t 0)), oo_ 3 (.box 38 (.t 1)), oo_ 4 (.mv (.c (.int .i64 0)))]) (.seq (.block 0 (.seq (.reg [of_ 6 0 2, ol_ 7 6, of_ 8 0 3, ol_ 9 8, oo_ 10 (.bin .neq (.t 7) (.t 9)), om_ 5 10]) (.cond (.t 5) (.seq (.reg [of_ 11 0 2, ol_ 12 11, of_ 13 0 3, ol_ 14 13, oo_ 15 (.call 109 [(.t 12), (.t 14)]), om_ 4 15]) .ret) (.seq (.reg [of_ 17 0 2, ol_ 18 17, oo_ 19 (.bin .eql (.t 18) (.c (.int .i64 2))), om_ 16 19]) (.cond (.t 16) (.seq (.reg [of_ 20 3 2, ol_ 21 20, of_ 22 3 3, ol_ 23 22, oo_ 24 (.call 110 [(.t 21), (.t 23)]), om_ 4 24]) .ret) (.seq (.reg [of_ 26 0 2, ol_ 27 26, oo_ 28 (.bin .eql (.t 27) (.c (.int .i64 3))), om_ 25 28]) (.cond (.t 25) (.seq (.reg [of_ 29 2 2, ol_ 30 29, of_ 31 2 3, ol_ 32 31, oo_ 33 (.call 111 [(.t 30), (.t 32)]), om_ 4 33]) .ret) (.seq (.reg [of_ 35 0 2, ol_ 36 35, oo_ 37 (.bin .neq (.t 36) (.c (.int .i64 1))), om_ 34 37]) (.cond (.t 34) (.seq (.reg [oo_ 4 (.mv (.c (.int .i64 0)))]) .ret) (.seq (.reg [oo_ 39 (.load (some 4) (.t 2)), oo_ 40 (.call 112 [(.t 39)]), om_ 41 40, og_ 42 41 true (.load (some 4) (.t 3)), og_ 43 41 true (.call 112 [(.t 42)]), oo_ 44 (.pick (.t 41) (.t 43) (.c (.bool false))), om_ 38 44]) (.cond (.t 38) (.seq (.reg [of_ 45 2 3, ol_ 46 45, of_ 47 2 2, ol_ 48 47, oo_ 49 (.call 111 [(.t 46), (.t 48)]), om_ 4 49]) .ret) (.seq (.reg [oo_ 51 (.load (some 4) (.t 2)), oo_ 52 (.call 112 [(.t 51)]), om_ 50 52]) (.cond (.t 50) (.seq (.reg [oo_ 4 (.mv (.c (.int .i64 (-1))))]) .ret) (.seq (.reg [oo_ 54 (.load (some 4) (.t 3)), oo_ 55 (.call 112 [(.t 54)]), om_ 53 55]) (.cond (.t 53) (.seq (.reg [oo_ 4 (.mv (.c (.int .i64 1)))]) .ret) .skip))))))))))))))) (.seq (.reg [of_ 56 2 2, ol_ 57 56, of_ 58 2 3, ol_ 59 58, oo_ 60 (.call 111 [(.t 57), (.t 59)]), om_ 4 60]) .ret)))
theorem prim_Cmp.code : comp PG [] (Tryz.f59.body.getD .skip) = prim_Cmp.c := by kernel_rfl
theorem prim_Cmp.of : OfE PG 59 2 prim_Cmp.c [(.t 4)] := fnE (nt := 61) mixed Tryz.func59 prim_Cmp.code (by kernel_rfl) (by kernel_rfl) (by kernel_rfl) (by kernel_rfl) (by kernel_rfl) (by kernel_rfl)
def broadsheetref05_Cmp.n : Nat := 60
noncomputable def broadsheetref05_Cmp.c : C := (.seq (.reg [oo_ 2 (.box 38 (.t 0)), oo_ 3 (.box 38 (.t 1)), oo_ 4 (.mv (.c (.int .i64 0)))]) (.seq (.seq (.reg [of_ 7 0 2, ol_ 8 7, of_ 9 0 3, ol_ 10 9, oo_ 11 (.bin .neq (.t 8) (.t 10))]) (.cond (.t 11) (.seq (.reg [of_ 12 0 2, ol_ 13 12, of_ 14 0 3, ol_ 15 14, oo_ 16 (.bin .lss (.t 13) (.t 15)), of_ 17 0 2, ol_ 18 17, of_ 19 0 3, ol_ 20 19, oo_ 21 (.bin .gtr (.t 18) (.t 20)), oo_ 22 (.call 113 [(.t 16), (.t 21)]), om_ 4 22]) .ret) .skip)) (.seq (.seq (.reg [of_ 23 0 2, ol_ 24 23]) (.block 0 (.seq (.reg [oo_ 26 (.bin .eql (.t 24) (.c (.int .i64 1))), om_ 25 26]) (.cond (.t 25) (.seq (.reg [of_ 27 1 2, ol_ 28 27, om_ 29 28, og_ 30 29 true (.faddr 2 (.t 2)), og_ 31 29 true (.load none (.t 30)), og_ 32 29 true (.bin .gtr (.t 31) (.c (.int .u64 0))), oo_ 33 (.pick (.t 29) (.t 32) (.c (.bool false))), om_ 5 33]) (.seq (.reg [of_ 34 1 3, ol_ 35 34, om_ 36 35, og_ 37 36 true (.faddr 2 (.t 3)), og_ 38 36 true (.load none (.t 37)), og_ 39 36 true (.bin .gtr (.t 38) (.c (.int .u64 0))), oo_ 40 (.pick (.t 36) (.t 39) (.c (.bool false))), om_ 6 40]) (.seq (.seq (.reg [om_ 41 5, om_ 42 6, oo_ 43 (.beq true (.t 41) (.t 42))]) (.cond (.t 43) (.seq (.reg [om_ 44 5, om_ 45 6, oo_ 46 (.call 113 [(.t 44), (.t 45)]), om_ 4 46]) .ret) .skip)) (.seq (.seq (.reg [om_ 47 5]) (.cond (.t 47) (.seq (.reg [of_ 48 2 2, ol_ 49 48, of_ 50 2 3, ol_ 51 50, oo_ 52 (.bin .gtr (.t 49) (.t 51)), of_ 53 2 2, ol_ 54 53, of_ 55 2 3, ol_ 56 55, oo_ 57 (.bin .lss (.t 54) (.t 56)), oo_ 58 (.call 113 [(.t 52), (.t 57)]), om_ 4 58]) .ret) .skip)) (.seq (.reg [of_ 59 2 2, ol_ 60 59, of_ 61 2 3, ol_ 62 61, oo_ 63 (.bin .lss (.t 60) (.t 62)), of_ 64 2 2, ol_ 65 64, of_ 66 2 3, ol_ 67 66, oo_ 68 (.bin .gtr (.t 65) (.t 67)), oo_ 69 (.call 113 [(.t 63), (.t 68)]), om_ 4 69]) .ret))))) (.seq (.reg [oo_ 71 (.bin .eql (.t 24) (.c (.int .i64 2))), om_ 70 71]) (.cond (.t 70) (.seq (.reg [of_ 72 3 2, ol_ 73 72, of_ 74 3 3, ol_ 75 74, oo_ 76 (.bin .lss (.t 73) (.t 75)), of_ 77 3 2, ol_ 78 77, of_ 79 3 3, ol_ 80 79, oo_ 81 (.bin .gtr (.t 78) (.t 80)), oo_ 82 (.call 113 [(.t 76), (.t 81)]), om_ 4 82]) .ret) (.seq (.reg [oo_ 84 (.bin .eql (.t 24) (.c (.int .i64 3))), om_ 83 84]) (.cond (.t 83) (.seq (.reg [of_ 85 2 2, ol_ 86 85, of_ 87 2 3, ol_ 88 87, oo_ 89 (.bin .lss (.t 86) (.t 88)), of_ 90 2 2, ol_ 91 90, of_ 92 2 3, ol_ 93 92, oo_ 94 (.bin .gtr (.t 91) (.t 93)), oo_ 95 (.call 113 [(.t 89), (.t 94)]), om_ 4 95]) .ret) .skip)))))))) (.seq (.reg [oo_ 4 (.mv (.c (.int .i64 0)))]) .ret))))
theorem broadsheetref05_Cmp.code : comp PG [] (Tryz.f60.body.getD .skip) = broadsheetref05_Cmp.c := by kernel_rfl
theorem broadsheetref05_Cmp.of : OfE PG 60 2 broadsheetref05_Cmp.c [(.t 4)] := fnE (nt := 96) mixed Tryz.func60 broadsheetref05_Cmp.code (by kernel_rfl) (by kernel_rfl) (by kernel_rfl) (by kernel_rfl) (by kernel_rfl) (by kernel_rfl)
def types_look_form.n : Nat := 66
noncomputable def types_look_form.c : C := (.seq (.reg [oo_ 2 (.mv (.c (.int .i64 0)))]) (.seq (.reg [om_ 10 0, oo_ 11 (.nilck (.t 10)), of_ 12 2 11, oo_ 13 (.load (some 6) (.t 12)), oo_ 3 (.allc 67 [(.int .i64 0), (.str []), (.int .i64 0), (.int .i64 0), (.int .i64 0), .nilS]), os_ (.store 6 (.t 3) (.t 13))]) (.seq (.seq (.reg [of_ 14 0 3, ol_ 15 14, oo_ 16 (.bin .lss (.t 15) (.c (.int .i64 1))), om_ 17 16, og_ 18 17 false (.faddr 0 (.t 3)), og_ 19 17 false (.load none (.t 18)), og_ 20 17 false (.bin .gtr (.t 19) (.c (.int .i64 14))), oo_ 21 (.pick (.t 17) (.c (.bool true)) (.t 20))]) (.cond (.t 21) (.seq (.reg [oo_ 2 (.mv (.c (.int .i64 4)))]) .ret) .skip)) (.seq (.reg [of_ 23 0 3, ol_ 24 23, oo_ 25 (.call 80 [(.t 24)]), om_ 22 25, oo_ 26 (.extr (.t 22) 0), oo_ 27 (.extr (.t 22) 1), oo_ 28 (.extr (.t 22) 2), oo_ 29 (.extr (.t 22) 3), om_ 4 26, om_ 5 27, om_ 6 28, om_ 7 29]) (.seq (.seq (.reg [om_ 30 4, oo_ 31 (.un .not (.t 30)), om_ 32 31, og_ 33 32 true (.faddr 1 (.t 3)), og_ 34 32 true (.load none (.t 33)), og_ 35 32 true (.bin .neq (.t 34) (.c (.str []))), og_ 36 32 true (.mv (.t 35)), og_ 37 36 false (.faddr 5 (.t 3)), og_ 38 36 false (.load none (.t 37)), og_ 39 36 false (.len false (.t 38)), og_ 40 36 false (.bin .gtr (.t 39) (.c (.int .i64 0))), og_ 41 32 true (.pick (.t 36) (.c (.bool true)) (.t 40)), oo_ 42 (.pick (.t 32) (.t 41) (.c (.bool false))), om_ 43 42, og_ 44 43 false (.mv (.t 5)), og_ 45 43 false (.un .not (.t 44)), og_ 46 43 false (.mv (.t 45)), og_ 47 46 true (.faddr 2 (.t 3)), og_ 48 46 true (.load none (.t 47)), og_ 49 46 true (.bin .neq (.t 48) (.c (.int .i64 0))), og_ 50 43 false (.pick (.t 46) (.t 49) (.c (.bool false))), oo_ 51 (.pick (.t 43) (.c (.bool true)) (.t 50)), om_ 52 51, og_ 53 52 false (.mv (.t 6)), og_ 54 52 false (.un .not (.t 53)), og_ 55 52 false (.mv (.t 54)), og_ 56 55 true (.faddr 3 (.t 3)), og_ 57 55 true (.load none (.t 56)), og_ 58 55 true (.bin .neq (.t 57) (.c (.int .i64 0))), og_ 59 52 false (.pick (.t 55) (.t 58) (.c (.bool false))), oo_ 60 (.pick (.t 52) (.c (.bool true)) (.t 59)), om_ 61 60, og_ 62 61 false (.mv (.t 7)), og_ 63 61 false (.un .not (.t 62)), og_ 64 61 false (.mv (.t 63)), og_ 65 64 true (.faddr 4 (.t 3)), og_ 66 64 true (.load none (.t 65)), og_ 67 64 true (.bin .neq (.t 66) (.c (.int .i64 0))), og_ 68 61 false (.pick (.t 64) (.t 67) (.c (.bool false))), oo_ 69 (.pick (.t 61) (.c (.bool true)) (.t 68))]) (.cond (.t 69) (.seq (.reg [oo_ 2 (.mv (.c (.int .i64 1)))]) .ret) .skip)) (.seq (.seq (.reg [of_ 70 5 3, ol_ 71 70, oo_ 72 (.len false (.t 71)), oo_ 73 (.mv (.c (.int .i64 0)))]) (.block 0 (.loop (.seq (.reg [oo_ 74 (.bin .lss (.t 73) (.t 72))]) (.seq (.cond (.t 74) .skip (.exit 0)) (.seq (.block 1 (.seq (.reg [oo_ 75 (.iaddr 5 (.t 71) (.t 73)), oo_ 76 (.load (some 5) (.t 75)), oo_ 9 (.allc 70 [(.str []), (.int .u64 0), (.int .i64 0), (.bool false), (.bool false)]), os_ (.store 5 (.t 9) (.t 76))]) (.seq (.reg [of_ 77 0 3, ol_ 78 77, oo_ 79 (.bin .eql (.t 78) (.c (.int .i64 9))), om_ 80 79, og_ 81 80 true (.faddr 2 (.t 9)), og_ 82 80 true (.load none (.t 81)), og_ 83 80 true (.bin .neq (.t 82) (.c (.int .i64 0))), oo_ 84 (.pick (.t 80) (.t 83) (.c (.bool false))), om_ 85 84, og_ 86 85 false (.faddr 0 (.t 3)), og_ 87 85 false (.load none (.t 86)), og_ 88 85 false (.bin .neq (.t 87) (.c (.int .i64 13))), og_ 89 85 false (.mv (.t 88)), og_ 90 89 true (.faddr 3 (.t 9)), og_ 91 89 true (.load none (.t 90)), og_ 92 85 false (.pick (.t 89) (.t 91) (.c (.bool false))), oo_ 93 (.pick (.t 85) (.c (.bool true)) (.t 92)), om_ 94 93, og_ 95 94 false (.faddr 0 (.t 3)), og_ 96 94 false (.load none (.t 95)), og_ 97 94 false (.bin .neq (.t 96) (.c (.int .i64 14))), og_ 98 94 false (.mv (.t 97)), og_ 99 98 true (.faddr 4 (.t 9)), og_ 100 98 true (.load none (.t 99)), og_ 101 94 false (.pick (.t 98) (.t 100) (.c (.bool false))), oo_ 102 (.pick (.t 94) (.c (.bool true)) (.t 101)), om_ 103 102, og_ 104 103 false (.faddr 0 (.t 3)), og_ 105 103 false (.load none (.t 104)), og_ 106 103 false (.bin .eql (.t 105) (.c (.int .i64 13))), og_ 107 103 false (.mv (.t 106)), og_ 108 107 false (.faddr 4 (.t 9)), og_ 109 107 false (.load none (.t 108)), og_ 110 103 false (.pick (.t 107) (.c (.bool true)) (.t 109)), og_ 111 103 false (.mv (.t 110)), og_ 112 111 true (.faddr 1 (.t 9)), og_ 113 111 true (.load none (.t 112)), og_ 114 111 true (.bin .neq (.t 113) (.c (.int .u64 0))), og_ 115 103 false (.pick (.t 111) (.t 114) (.c (.bool false))), oo_ 116 (.pick (.t 103) (.c (.bool true)) (.t 115))]) (.cond (.t 116) (.seq (.reg [oo_ 2 (.mv (.c (.int .i64 1)))]) .ret) .skip)))) (.reg [oo_ 117 (.bin .add (.t 73) (.c (.int .i64 1))), om_ 73 117]))))))) (.seq (.reg [oo_ 2 (.mv (.c (.int .i64 0)))]) .ret)))))))
theorem types_look_form.code : comp PG [] (Tryz.f66.body.getD .skip) = types_look_form.c := by kernel_rfl
theorem types_look_form.of : OfE PG 66 1 types_look_form.c [(.t 2)] := fnE (nt := 118) mixed Tryz.func66 types_look_form.code (by kernel_rfl) (by kernel_rfl) (by kernel_rfl) (by kernel_rfl) (by kernel_rfl) (by kernel_rfl)
def types_look_named.n : Nat := 67
noncomputable def types_look_named.c : C := (.seq (.reg [oo_ 2 (.mv (.c (.int .i64 0)))]) (.seq (.seq (.reg [om_ 10 0, oo_ 11 (.nilck (.t 10)), of_ 12 2 11, of_ 13 0 12, ol_ 14 13, oo_ 15 (.call 80 [(.t 14)]), om_ 9 15, oo_ 16 (.extr (.t 9) 0), oo_ 17 (.extr (.t 9) 1), oo_ 18 (.extr (.t 9) 2), oo_ 19 (.extr (.t 9) 3), om_ 3 16, om_ 4 17, om_ 5 18, om_ 6 19]) (.seq (.reg [om_ 20 3, oo_ 21 (.un .not (.t 20))]) (.cond (.t 21) (.seq (.reg [oo_ 2 (.mv (.c (.int .i64 0)))]) .ret) .skip))) (.seq (.seq (.reg [om_ 22 0, oo_ 23 (.nilck (.t 22)), of_ 24 2 23, of_ 25 1 24, ol_ 26 25, oo_ 27 (.call 118 [(.t 26)]), oo_ 28 (.un .not (.t 27))]) (.cond (.t 28) (.seq (.reg [oo_ 2 (.mv (.c (.int .i64 5)))]) .ret) .skip)) (.seq (.seq (.dreg [om_ 29 0, oo_ 30 (.nilck (.t 29)), of_ 31 0 30, ol_ 32 31, om_ 33 0, oo_ 34 (.nilck (.t 33)), of_ 35 1 34, ol_ 36 35, oo_ 37 (.slice (some 6) (.t 32) none (some (.t 36))), oo_ 38 (.len false (.t 37)), oo_ 39 (.mv (.c (.int .i64 0)))] []) (.block 0 (.loop (.seq (.reg [oo_ 40 (.bin .lss (.t 39) (.t 38))]) (.seq (.cond (.t 40) .skip (.exit 0)) (.seq (.block 1 (.seq (.reg [oo_ 41 (.iaddr 6 (.t 37) (.t 39)), oo_ 42 (.load (some 6) (.t 41)), oo_ 8 (.allc 67 [(.int .i64 0), (.str []), (.int .i64 0), (.int .i64 0), (.int .i64 0), .nilS]), os_ (.store 6 (.t 8) (.t 42))]) (.seq (.dreg [of_ 43 1 8, ol_ 44 43, om_ 45 0, oo_ 46 (.nilck (.t 45)), of_ 47 2 46, of_ 48 1 47, ol_ 49 48] [oo_ 50 (.bin .eql (.t 44) (.t 49))]) (.cond (.t 50) (.seq (.reg [oo_ 2 (.mv (.c (.int .i64 6)))]) .ret) .skip)))) (.reg [oo_ 51 (.bin .add (.t 39) (.c (.int .i64 1))), om_ 39 51]))))))) (.seq (.reg [oo_ 2 (.mv (.c (.int .i64 0)))]) .ret)))))
theorem types_look_named.code : comp PG [] (Tryz.f67.body.getD .skip) = types_look_named.c := by kernel_rfl
theorem types_look_named.of : OfE PG 67 1 types_look_named.c [(.t 2)] := fnE (nt := 52) mixed Tryz.func67 types_look_named.code (by kernel_rfl) (by kernel_rfl) (by kernel_rfl) (by kernel_rfl) (by kernel_rfl) (by kernel_rfl)
def types_look_bound.n : Nat := 68
noncomputable def types_look_bound.c : C := (.seq (.reg [oo_ 2 (.mv (.c (.int .i64 0)))]) (.seq (.reg [om_ 8 0, oo_ 9 (.nilck (.t 8)), of_ 10 2 9, of_ 11 0 10, ol_ 12 11, oo_ 13 (.call 80 [(.t 12)]), om_ 7 13, oo_ 14 (.extr (.t 7) 0), oo_ 15 (.extr (.t 7) 1), oo_ 16 (.extr (.t 7) 2), oo_ 17 (.extr (.t 7) 3), om_ 3 14, om_ 4 15, om_ 5 16, om_ 6 17]) (.seq (.seq (.reg [om_ 18 4, om_ 19 18, og_ 20 19 true (.mv (.t 0)), og_ 21 19 true (.nilck (.t 20)), og_ 22 19 true (.faddr 2 (.t 21)), og_ 23 19 true (.faddr 2 (.t 22)), og_ 24 19 true (.load none (.t 23)), og_ 25 19 true (.bin .gtr (.t 24) (.c (.int .i64 64))), og_ 26 19 true (.mv (.t 25)), og_ 27 26 false (.mv (.t 0)), og_ 28 26 false (.nilck (.t 27)), og_ 29 26 false (.faddr 2 (.t 28)), og_ 30 26 false (.faddr 2 (.t 29)), og_ 31 26 false (.load none (.t 30)), og_ 32 26 false (.bin .lss (.t 31) (.c (.int .i64 0))), og_ 33 19 true (.pick (.t 26) (.c (.bool true)) (.t 32)), og_ 34 19 true (.mv (.t 33)), og_ 35 34 false (.mv (.t 5)), og_ 36 34 false (.mv (.t 35)), og_ 37 36 true (.mv (.t 0)), og_ 38 36 true (.nilck (.t 37)), og_ 39 36 true (.faddr 2 (.t 38)), og_ 40 36 true (.faddr 2 (.t 39)), og_ 41 36 true (.load none (.t 40)), og_ 42 36 true (.bin .eql (.t 41) (.c (.int .i64 0))), og_ 43 34 false (.pick (.t 36) (.t 42) (.c (.bool false))), og_ 44 19 true (.pick (.t 34) (.c (.bool true)) (.t 43)), oo_ 45 (.pick (.t 19) (.t 44) (.c (.bool false)))]) (.cond (.t 45) (.seq (.reg [oo_ 2 (.mv (.c (.int .i64 7)))]) .ret) .skip)) (.seq (.reg [oo_ 2 (.mv (.c (.int .i64 0)))]) .ret))))
theorem types_look_bound.code : comp PG [] (Tryz.f68.body.getD .skip) = types_look_bound.c := by kernel_rfl
theorem types_look_bound.of : OfE PG 68 1 types_look_bound.c [(.t 2)] := fnE (nt := 46) mixed Tryz.func68 types_look_bound.code (by kernel_rfl) (by kernel_rfl) (by kernel_rfl) (by kernel_rfl) (by kernel_rfl) (by kernel_rfl)
def types_look_order.n : Nat := 69
noncomputable def types_look_order.c : C := (.seq (.reg [oo_ 2 (.mv (.c (.int .i64 0)))]) (.seq (.seq (.reg [om_ 5 0, oo_ 6 (.nilck (.t 5)), of_ 7 2 6, oo_ 8 (.load (some 6) (.t 7)), oo_ 9 (.call 119 [(.t 8)]), oo_ 10 (.len false (.t 9)), oo_ 11 (.mv (.c (.int .i64 0)))]) (.block 0 (.loop (.seq (.reg [oo_ 12 (.bin .lss (.t 11) (.t 10))]) (.seq (.cond (.t 12) .skip (.exit 0)) (.seq (.block 1 (.seq (.reg [oo_ 13 (.iaddr 1 (.t 9) (.t 11)), ol_ 14 13, om_ 4 14]) (.seq (.reg [om_ 15 4, oo_ 16 (.bin .lss (.t 15) (.c (.int .i64 0))), om_ 17 16, og_ 18 17 false (.mv (.t 4)), og_ 19 17 false (.mv (.t 0)), og_ 20 17 false (.nilck (.t 19)), og_ 21 17 false (.faddr 1 (.t 20)), og_ 22 17 false (.load none (.t 21)), og_ 23 17 false (.bin .geq (.t 18) (.t 22)), oo_ 24 (.pick (.t 17) (.c (.bool true)) (.t 23))]) (.cond (.t 24) (.seq (.reg [oo_ 2 (.mv (.c (.int .i64 14)))]) .ret) .skip)))) (.reg [oo_ 25 (.bin .add (.t 11) (.c (.int .i64 1))), om_ 11 25]))))))) (.seq (.seq (.dreg [om_ 26 0, oo_ 27 (.nilck (.t 26)), of_ 28 2 27, of_ 29 0 28, ol_ 30 29, oo_ 31 (.bin .eql (.t 30) (.c (.int .i64 14))), om_ 32 31, og_ 33 32 true (.mv (.t 0)), og_ 34 32 true (.nilck (.t 33)), og_ 35 32 true (.faddr 0 (.t 34)), og_ 36 32 true (.load none (.t 35)), og_ 37 32 true (.mv (.t 0)), og_ 38 32 true (.nilck (.t 37)), og_ 39 32 true (.faddr 2 (.t 38)), og_ 40 32 true (.faddr 4 (.t 39)), og_ 41 32 true (.load none (.t 40))] [og_ 42 32 true (.iaddr 6 (.t 36) (.t 41)), og_ 43 32 true (.faddr 0 (.t 42)), og_ 44 32 true (.load none (.t 43)), og_ 45 32 true (.call 77 [(.t 44)]), og_ 46 32 true (.un .not (.t 45)), oo_ 47 (.pick (.t 32) (.t 46) (.c (.bool false)))]) (.cond (.t 47) (.seq (.reg [oo_ 2 (.mv (.c (.int .i64 8)))]) .ret) .skip)) (.seq (.reg [oo_ 2 (.mv (.c (.int .i64 0)))]) .ret))))
theorem types_look_order.code : comp PG [] (Tryz.f69.body.getD .skip) = types_look_order.c := by kernel_rfl
theorem types_look_order.of : OfE PG 69 1 types_look_order.c [(.t 2)] := fnE (nt := 48) mixed Tryz.func69 types_look_order.code (by kernel_rfl) (by kernel_rfl) (by kernel_rfl) (by kernel_rfl) (by kernel_rfl) (by kernel_rfl)
def types_look_items.n : Nat := 70
noncomputable def types_look_items.c : C := (.seq (.reg [oo_ 2 (.mv (.c (.int .i64 0)))]) (.seq (.seq (.reg [om_ 11 0, oo_ 12 (.nilck (.t 11)), of_ 13 2 12, of_ 14 0 13, ol_ 15 14, oo_ 16 (.call 80 [(.t 15)]), om_ 10 16, oo_ 17 (.extr (.t 10) 0), oo_ 18 (.extr (.t 10) 1), oo_ 19 (.extr (.t 10) 2), oo_ 20 (.extr (.t 10) 3), om_ 3 17, om_ 4 18, om_ 5 19, om_ 6 20]) (.seq (.reg [om_ 21 3, oo_ 22 (.un .not (.t 21))]) (.cond (.t 22) (.seq (.reg [oo_ 2 (.mv (.c (.int .i64 0)))]) .ret) .skip))) (.seq (.seq (.reg [om_ 23 0, oo_ 24 (.nilck (.t 23)), of_ 25 2 24, of_ 26 5 25, ol_ 27 26, oo_ 28 (.len false (.t 27)), om_ 7 28]) (.block 0 (.seq (.reg [om_ 30 7, oo_ 31 (.bin .eql (.t 30) (.c (.int .i64 0))), om_ 29 31]) (.cond (.t 29) (.seq (.reg [oo_ 2 (.mv (.c (.int .i64 18)))]) .ret) (.seq (.reg [om_ 33 7, oo_ 34 (.bin .gtr (.t 33) (.c (.int .i64 16))), om_ 32 34]) (.cond (.t 32) (.seq (.reg [oo_ 2 (.mv (.c (.int .i64 3)))]) .ret) .skip)))))) (.seq (.seq (.reg [om_ 35 0, oo_ 36 (.nilck (.t 35)), of_ 37 2 36, of_ 38 5 37, ol_ 39 38, oo_ 40 (.len false (.t 39)), oo_ 41 (.mv (.c (.int .i64 0)))]) (.block 1 (.loop (.seq (.reg [oo_ 42 (.bin .lss (.t 41) (.t 40))]) (.seq (.cond (.t 42) .skip (.exit 1)) (.seq (.block 2 (.seq (.reg [om_ 43 41, om_ 8 43]) (.seq (.reg [om_ 44 0, om_ 45 8, oo_ 46 (.call 120 [(.t 44), (.t 45)]), om_ 9 46]) (.seq (.reg [om_ 47 9, oo_ 48 (.bin .neq (.t 47) (.c (.int .i64 0)))]) (.cond (.t 48) (.seq (.reg [om_ 49 9, om_ 2 49]) .ret) .skip))))) (.reg [oo_ 50 (.bin .add (.t 41) (.c (.int .i64 1))), om_ 41 50]))))))) (.seq (.reg [oo_ 2 (.mv (.c (.int .i64 0)))]) .ret)))))
theorem types_look_items.code : comp PG [] (Tryz.f70.body.getD .skip) = types_look_items.c := by kernel_rfl
theorem types_look_items.of : OfE PG 70 1 types_look_items.c [(.t 2)] := fnE (nt := 51) mixed Tryz.func70 types_look_items.code (by kernel_rfl) (by kernel_rfl) (by kernel_rfl) (by kernel_rfl) (by kernel_rfl) (by kernel_rfl)
def types_look_deep.n : Nat := 71
noncomputable def types_look_deep.c : C := (.seq (.reg [oo_ 2 (.mv (.c (.int .i64 0)))]) (.seq (.seq (.dreg [om_ 3 0, oo_ 4 (.nilck (.t 3)), of_ 5 0 4, ol_ 6 5, om_ 7 0, oo_ 8 (.nilck (.t 7)), of_ 9 1 8, ol_ 10 9] [oo_ 11 (.call 121 [(.t 6), (.t 10)]), oo_ 12 (.bin .gtr (.t 11) (.c (.int .i64 6)))]) (.cond (.t 12) (.seq (.reg [oo_ 2 (.mv (.c (.int .i64 9)))]) .ret) .skip)) (.seq (.reg [oo_ 2 (.mv (.c (.int .i64 0)))]) .ret)))
theorem types_look_deep.code : comp PG [] (Tryz.f71.body.getD .skip) = types_look_deep.c := by kernel_rfl
theorem types_look_deep.of : OfE PG 71 1 types_look_deep.c [(.t 2)] := fnE (nt := 13) mixed Tryz.func71 types_look_deep.code (by kernel_rfl) (by kernel_rfl) (by kernel_rfl) (by kernel_rfl) (by kernel_rfl) (by kernel_rfl)
def prim_Number.n : Nat := 77
noncomputable def prim_Number.c : C := (.seq (.reg [oo_ 2 (.mv (.c (.bool false)))]) (.seq (.reg [om_ 3 0, oo_ 4 (.bin .geq (.t 3) (.c (.int .i64 1))), om_ 5 4, og_ 6 5 true (.mv (.t 0)), og_ 7 5 true (.bin .leq (.t 6) (.c (.int .i64 9))), oo_ 8 (.pick (.t 5) (.t 7) (.c (.bool false))), om_ 2 8]) .ret))
theorem prim_Number.code : comp PG [] (Tryz.f77.body.getD .skip) = prim_Number.c := by kernel_rfl
theorem prim_Number.of : OfE PG 77 1 prim_Number.c [(.t 2)] := fnE (nt := 9) mixed Tryz.func77 prim_Number.code (by kernel_rfl) (by kernel_rfl) (by kernel_rfl) (by kernel_rfl) (by kernel_rfl) (by kernel_rfl)
def types_find.n : Nat := 78
noncomputable def types_find.c : C := (.seq (.reg [oo_ 8 (.mv (.c (.int .i64 0))), oo_ 9 (.mv (.c (.bool false)))]) (.seq (.seq (.reg [om_ 12 1, oo_ 13 (.bin .lss (.t 12) (.c (.int .i64 0))), om_ 14 13, og_ 15 14 false (.mv (.t 1)), og_ 16 14 false (.mv (.t 0)), og_ 17 14 false (.len false (.t 16)), og_ 18 14 false (.bin .geq (.t 15) (.t 17)), oo_ 19 (.pick (.t 14) (.c (.bool true)) (.t 18)), om_ 20 19, og_ 21 20 false (.mv (.t 2)), og_ 22 20 false (.mv (.t 0)), og_ 23 20 false (.mv (.t 1)), og_ 24 20 false (.iaddr 6 (.t 22) (.t 23)), og_ 25 20 false (.faddr 0 (.t 24)), og_ 26 20 false (.load none (.t 25)), og_ 27 20 false (.callv (.t 21) [(.t 26)]), og_ 28 20 false (.un .not (.t 27)), oo_ 29 (.pick (.t 20) (.c (.bool true)) (.t 28))]) (.cond (.t 29) (.seq (.reg [oo_ 8 (.mv (.c (.int .i64 0))), oo_ 9 (.mv (.c (.bool false)))]) .ret) .skip)) (.seq (.seq (.reg [om_ 30 0, om_ 31 1, oo_ 32 (.iaddr 6 (.t 30) (.t 31)), of_ 33 5 32, ol_ 34 33, oo_ 35 (.len false (.t 34)), oo_ 36 (.mv (.c (.int .i64 0)))]) (.block 0 (.loop (.seq (.reg [oo_ 37 (.bin .lss (.t 36) (.t 35))]) (.seq (.cond (.t 37) .skip (.exit 0)) (.seq (.block 1 (.seq (.reg [om_ 38 36, oo_ 39 (.iaddr 5 (.t 34) (.t 36)), oo_ 40 (.load (some 5) (.t 39)), oo_ 11 (.allc 70 [(.str []), (.int .u64 0), (.int .i64 0), (.bool false), (.bool false)]), om_ 10 38, os_ (.store 5 (.t 11) (.t 40))]) (.seq (.reg [om_ 41 3, oo_ 42 (.load (some 5) (.t 11)), oo_ 43 (.callv (.t 41) [(.t 42)])]) (.cond (.t 43) (.seq (.reg [om_ 44 10, om_ 8 44, oo_ 9 (.mv (.c (.bool true)))]) .ret) .skip)))) (.reg [oo_ 45 (.bin .add (.t 36) (.c (.int .i64 1))), om_ 36 45]))))))) (.seq (.reg [oo_ 8 (.mv (.c (.int .i64 0))), oo_ 9 (.mv (.c (.bool false)))]) .ret))))
theorem types_find.code : comp PG [] (Tryz.f78.body.getD .skip) = types_find.c := by kernel_rfl
theorem types_find.of : OfE PG 78 4 types_find.c [(.t 8), (.t 9)] := fnE (nt := 46) mixed Tryz.func78 types_find.code (by kernel_rfl) (by kernel_rfl) (by kernel_rfl) (by kernel_rfl) (by kernel_rfl) (by kernel_rfl)
def types_Item_1.n : Nat := 79
noncomputable def types_Item_1.c : C := (.seq (.reg [oo_ 2 (.mv (.c (.bool false)))]) (.seq (.reg [om_ 8 0, oo_ 9 (.call 80 [(.t 8)]), om_ 7 9, oo_ 10 (.extr (.t 7) 0), oo_ 11 (.extr (.t 7) 1), oo_ 12 (.extr (.t 7) 2), oo_ 13 (.extr (.t 7) 3), om_ 3 10, om_ 4 11, om_ 5 12, om_ 6 13]) (.seq (.reg [om_ 14 3, om_ 2 14]) .ret)))
theorem types_Item_1.code : comp PG [] (Tryz.f79.body.getD .skip) = types_Item_1.c := by kernel_rfl
theorem types_Item_1.of : OfE PG 79 1 types_Item_1.c [(.t 2)] := fnE (nt := 15) mixed Tryz.func79 types_Item_1.code (by kernel_rfl) (by kernel_rfl) (by kernel_rfl) (by kernel_rfl) (by kernel_rfl) (by kernel_rfl)
def types_has.n : Nat := 80
noncomputable def types_has.c : C := (.seq (.reg [oo_ 2 (.mv (.c (.bool false))), oo_ 3 (.mv (.c (.bool false))), oo_ 4 (.mv (.c (.bool false))), oo_ 5 (.mv (.c (.bool false)))]) (.seq (.seq (.reg [om_ 6 0]) (.block 0 (.seq (.reg [oo_ 8 (.bin .eql (.t 6) (.c (.int .i64 10))), om_ 7 8]) (.cond (.t 7) (.reg [oo_ 3 (.mv (.c (.bool true)))]) (.seq (.seq (.reg [oo_ 10 (.bin .eql (.t 6) (.c (.int .i64 11))), om_ 9 10]) (.cond (.t 9) .skip (.reg [oo_ 11 (.bin .eql (.t 6) (.c (.int .i64 12))), om_ 9 11]))) (.cond (.t 9) (.reg [oo_ 3 (.mv (.c (.bool true))), oo_ 4 (.mv (.c (.bool true)))]) (.seq (.seq (.reg [oo_ 13 (.bin .eql (.t 6) (.c (.int .i64 9))), om_ 12 13]) (.cond (.t 12) .skip (.reg [oo_ 14 (.bin .eql (.t 6) (.c (.int .i64 13))), om_ 12 14]))) (.cond (.t 12) (.reg [oo_ 2 (.mv (.c (.bool true)))]) (.seq (.reg [oo_ 16 (.bin .eql (.t 6) (.c (.int .i64 14))), om_ 15 16]) (.cond (.t 15) (.reg [oo_ 2 (.mv (.c (.bool true))), oo_ 5 (.mv (.c (.bool true)))]) .skip)))))))))) (.seq (.reg [om_ 17 2, om_ 18 3, om_ 19 4, om_ 20 5, om_ 2 17, om_ 3 18, om_ 4 19, om_ 5 20]) .ret)))
theorem types_has.code : comp PG [] (Tryz.f80.body.getD .skip) = types_has.c := by kernel_rfl
theorem types_has.of : OfE PG 80 1 types_has.c [(.t 2), (.t 3), (.t 4), (.t 5)] := fnE (nt := 21) mixed Tryz.func80 types_has.code (by kernel_rfl) (by kernel_rfl) (by kernel_rfl) (by kernel_rfl) (by kernel_rfl) (by kernel_rfl)
def types_Item_2.n : Nat := 81
noncomputable def types_Item_2.c : C := (.seq (.reg [oo_ 2 (.box 70 (.t 0)), oo_ 3 (.mv (.c (.bool false)))]) (.seq (.reg [of_ 4 0 2, ol_ 5 4, ol_ 6 1, oo_ 7 (.bin .eql (.t 5) (.t 6)), om_ 3 7]) .ret))
theorem types_Item_2.code : comp PG [] (Tryz.f81.body.getD .skip) = types_Item_2.c := by kernel_rfl
theorem types_Item_2.of' : OfL PG 81 8 types_Item_2.c [(.t 3)] := fnL mixed Tryz.func81 types_Item_2.code (by kernel_rfl) (by kernel_rfl) (by kernel_rfl) (by kernel_rfl) (by kernel_rfl)
def prim_Up.n : Nat := 82
noncomputable def prim_Up.c : C := (.seq (.reg [oo_ 4 (.mv (.c (.int .u64 0)))]) (.seq (.seq (.reg [om_ 5 0, oo_ 6 (.call 83 [(.t 5)])]) (.cond (.t 6) (.seq (.reg [om_ 7 1, om_ 8 0, oo_ 9 (.call 131 [(.t 8)]), oo_ 10 (.call 130 [(.t 7), (.t 9)]), om_ 4 10]) .ret) .skip)) (.seq (.reg [om_ 11 0, om_ 12 1, oo_ 13 (.call 132 [(.t 11), (.t 12)]), om_ 4 13]) .ret)))
theorem prim_Up.code : comp PG [] (Tryz.f82.body.getD .skip) = prim_Up.c := by kernel_rfl
theorem prim_Up.of : OfE PG 82 2 prim_Up.c [(.t 4)] := fnE (nt := 14) mixed Tryz.func82 prim_Up.code (by kernel_rfl) (by kernel_rfl) (by kernel_rfl) (by kernel_rfl) (by kernel_rfl) (by kernel_rfl)
def prim_Signed.n : Nat := 83
noncomputable def prim_Signed.c : C := (.seq (.reg [oo_ 2 (.mv (.c (.bool false)))]) (.seq (.reg [om_ 3 0, oo_ 4 (.call 133 [(.t 3)]), oo_ 5 (.field 1 none (.t 4)), om_ 2 5]) .ret))
theorem prim_Signed.code : comp PG [] (Tryz.f83.body.getD .skip) = prim_Signed.c := by kernel_rfl
theorem prim_Signed.of : OfE PG 83 1 prim_Signed.c [(.t 2)] := fnE (nt := 6) mixed Tryz.func83 prim_Signed.code (by kernel_rfl) (by kernel_rfl) (by kernel_rfl) (by kernel_rfl) (by kernel_rfl) (by kernel_rfl)
def types_Branch.n : Nat := 104
noncomputable def types_Branch.c : C := (.seq (.reg [oo_ 5 (.box 33 (.t 2)), oo_ 6 (.mv (.c (.int .i64 0))), oo_ 7 (.mv (.c (.bool false)))]) (.seq (.reg [oo_ 8 (.mv (.c (.clo 149 [] [])))]) (.seq (.seq (.reg [om_ 12 0, om_ 13 1, om_ 14 8, oo_ 15 (.mkfn 150 [] [(.t 5)]), oo_ 16 (.call 78 [(.t 12), (.t 13), (.t 14), (.t 15)]), om_ 11 16, oo_ 17 (.extr (.t 11) 0), oo_ 18 (.extr (.t 11) 1), om_ 9 17, om_ 10 18]) (.seq (.reg [om_ 19 10]) (.cond (.t 19) (.seq (.reg [om_ 20 9, om_ 6 20, oo_ 7 (.mv (.c (.bool true)))]) .ret) .skip))) (.seq (.reg [om_ 21 0, om_ 22 1, om_ 23 8, oo_ 24 (.call 78 [(.t 21), (.t 22), (.t 23), (.c (.clo 151 [] []))]), oo_ 25 (.extr (.t 24) 0), oo_ 26 (.extr (.t 24) 1), om_ 6 25, om_ 7 26]) .ret))))
theorem types_Branch.code : comp PG [] (Tryz.f104.body.getD .skip) = types_Branch.c := by kernel_rfl
theorem types_Branch.of : OfE PG 104 3 types_Branch.c [(.t 6), (.t 7)] := fnE (nt := 27) mixed Tryz.func104 types_Branch.code (by kernel_rfl) (by kernel_rfl) (by kernel_rfl) (by kernel_rfl) (by kernel_rfl) (by kernel_rfl)
def prim_below.n : Nat := 112
noncomputable def prim_below.c : C := (.seq (.reg [oo_ 1 (.box 38 (.t 0)), oo_ 2 (.mv (.c (.bool false)))]) (.seq (.reg [of_ 3 1 1, ol_ 4 3, om_ 5 4, og_ 6 5 true (.faddr 2 (.t 1)), og_ 7 5 true (.load none (.t 6)), og_ 8 5 true (.bin .gtr (.t 7) (.c (.int .u64 0))), oo_ 9 (.pick (.t 5) (.t 8) (.c (.bool false))), om_ 2 9]) .ret))
theorem prim_below.code : comp PG [] (Tryz.f112.body.getD .skip) = prim_below.c := by kernel_rfl
theorem prim_below.of : OfE PG 112 1 prim_below.c [(.t 2)] := fnE (nt := 10) mixed Tryz.func112 prim_below.code (by kernel_rfl) (by kernel_rfl) (by kernel_rfl) (by kernel_rfl) (by kernel_rfl) (by kernel_rfl)
def broadsheetref05_three.n : Nat := 113
noncomputable def broadsheetref05_three.c : C := (.seq (.reg [oo_ 4 (.mv (.c (.int .i64 0)))]) (.seq (.seq (.reg [om_ 5 0]) (.cond (.t 5) (.seq (.reg [oo_ 4 (.mv (.c (.int .i64 (-1))))]) .ret) .skip)) (.seq (.seq (.reg [om_ 6 1]) (.cond (.t 6) (.seq (.reg [oo_ 4 (.mv (.c (.int .i64 1)))]) .ret) .skip)) (.seq (.reg [oo_ 4 (.mv (.c (.int .i64 0)))]) .ret))))
theorem broadsheetref05_three.code : comp PG [] (Tryz.f113.body.getD .skip) = broadsheetref05_three.c := by kernel_rfl
theorem broadsheetref05_three.of : OfE PG 113 2 broadsheetref05_three.c [(.t 4)] := fnE (nt := 7) mixed Tryz.func113 broadsheetref05_three.code (by kernel_rfl) (by kernel_rfl) (by kernel_rfl) (by kernel_rfl) (by kernel_rfl) (by kernel_rfl)
def name_Name.n : Nat := 118
noncomputable def name_Name.c : C := (.seq (.reg [oo_ 2 (.mv (.c (.bool false)))]) (.seq (.reg [om_ 3 0, oo_ 4 (.bin .neq (.t 3) (.c (.str []))), om_ 5 4, og_ 6 5 true (.mv (.t 0)), og_ 7 5 true (.len true (.t 6)), og_ 8 5 true (.bin .leq (.t 7) (.c (.int .i64 16))), oo_ 9 (.pick (.t 5) (.t 8) (.c (.bool false))), om_ 10 9, og_ 11 10 true (.mv (.t 0)), og_ 12 10 true (.call 148 [(.t 11)]), og_ 13 10 true (.mv (.t 0)), og_ 14 10 true (.len true (.t 13)), og_ 15 10 true (.bin .eql (.t 12) (.t 14)), oo_ 16 (.pick (.t 10) (.t 15) (.c (.bool false))), om_ 17 16, og_ 18 17 true (.mv (.t 0)), og_ 19 17 true (.call 160 [(.t 18)]), og_ 20 17 true (.un .not (.t 19)), oo_ 21 (.pick (.t 17) (.t 20) (.c (.bool false))), om_ 2 21]) .ret))
theorem name_Name.code : comp PG [] (Tryz.f118.body.getD .skip) = name_Name.c := by kernel_rfl
theorem name_Name.of : OfE PG 118 1 name_Name.c [(.t 2)] := fnE (nt := 22) mixed Tryz.func118 name_Name.code (by kernel_rfl) (by kernel_rfl) (by kernel_rfl) (by kernel_rfl) (by kernel_rfl) (by kernel_rfl)
def types_parts.n : Nat := 119
noncomputable def types_parts.c : C := (.seq (.reg [oo_ 1 (.box 67 (.t 0)), oo_ 2 (.mv (.c .nilS))]) (.seq (.reg [oo_ 3 (.mv (.c .nilS))]) (.seq (.reg [of_ 11 0 1, ol_ 12 11, oo_ 13 (.call 80 [(.t 12)]), om_ 10 13, oo_ 14 (.extr (.t 10) 0), oo_ 15 (.extr (.t 10) 1), oo_ 16 (.extr (.t 10) 2), oo_ 17 (.extr (.t 10) 3), om_ 4 14, om_ 5 15, om_ 6 16, om_ 7 17]) (.seq (.seq (.reg [om_ 18 6]) (.cond (.t 18) (.reg [om_ 19 3, of_ 20 3 1, ol_ 21 20, oo_ 22 (.bslice 3 1 1 [(.int .i64 0)] [(0, (.t 21))]), oo_ 23 (.append 3 false 1 8 (.t 19) (.t 22)), om_ 3 23]) .skip)) (.seq (.seq (.reg [om_ 24 7]) (.cond (.t 24) (.reg [om_ 25 3, of_ 26 4 1, ol_ 27 26, oo_ 28 (.bslice 3 1 1 [(.int .i64 0)] [(0, (.t 27))]), oo_ 29 (.append 3 false 1 8 (.t 25) (.t 28)), om_ 3 29]) .skip)) (.seq (.seq (.reg [of_ 30 0 1, ol_ 31 30, oo_ 32 (.bin .eql (.t 31) (.c (.int .i64 13))), om_ 33 32, og_ 34 33 false (.faddr 0 (.t 1)), og_ 35 33 false (.load none (.t 34)), og_ 36 33 false (.bin .eql (.t 35) (.c (.int .i64 14))), oo_ 37 (.pick (.t 33) (.c (.bool true)) (.t 36))]) (.cond (.t 37) (.seq (.reg [of_ 38 5 1, ol_ 39 38, oo_ 40 (.len false (.t 39)), oo_ 41 (.mv (.c (.int .i64 0)))]) (.block 0 (.loop (.seq (.reg [oo_ 42 (.bin .lss (.t 41) (.t 40))]) (.seq (.cond (.t 42) .skip (.exit 0)) (.seq (.block 1 (.seq (.reg [oo_ 43 (.iaddr 5 (.t 39) (.t 41)), oo_ 44 (.load (some 5) (.t 43)), oo_ 9 (.allc 70 [(.str []), (.int .u64 0), (.int .i64 0), (.bool false), (.bool false)]), os_ (.store 5 (.t 9) (.t 44))]) (.reg [om_ 45 3, of_ 46 2 9, ol_ 47 46, oo_ 48 (.bslice 3 1 1 [(.int .i64 0)] [(0, (.t 47))]), oo_ 49 (.append 3 false 1 8 (.t 45) (.t 48)), om_ 3 49]))) (.reg [oo_ 50 (.bin .add (.t 41) (.c (.int .i64 1))), om_ 41 50]))))))) .skip)) (.seq (.reg [om_ 51 3, om_ 2 51]) .ret)))))))
theorem types_parts.code : comp PG [] (Tryz.f119.body.getD .skip) = types_parts.c := by kernel_rfl
theorem types_parts.of : OfE PG 119 1 types_parts.c [(.t 2)] := fnE (nt := 52) mixed Tryz.func119 types_parts.code (by kernel_rfl) (by kernel_rfl) (by kernel_rfl) (by kernel_rfl) (by kernel_rfl) (by kernel_rfl)
def types_look_item.n : Nat := 120
noncomputable def types_look_item.c : C := (.seq (.reg [oo_ 4 (.mv (.c (.int .i64 0)))]) (.seq (.reg [om_ 11 0, oo_ 12 (.nilck (.t 11)), of_ 13 2 12, of_ 14 5 13, ol_ 15 14, om_ 16 1, oo_ 17 (.iaddr 5 (.t 15) (.t 16)), oo_ 18 (.load (some 5) (.t 17)), oo_ 5 (.allc 70 [(.str []), (.int .u64 0), (.int .i64 0), (.bool false), (.bool false)]), os_ (.store 5 (.t 5) (.t 18))]) (.seq (.seq (.reg [of_ 19 0 5, ol_ 20 19, oo_ 21 (.call 118 [(.t 20)]), oo_ 22 (.un .not (.t 21))]) (.cond (.t 22) (.seq (.reg [oo_ 4 (.mv (.c (.int .i64 5)))]) .ret) .skip)) (.seq (.seq (.reg [om_ 23 0, oo_ 24 (.nilck (.t 23)), of_ 25 2 24, of_ 26 5 25, ol_ 27 26, om_ 28 1, oo_ 29 (.slice (some 5) (.t 27) none (some (.t 28))), oo_ 30 (.len false (.t 29)), oo_ 31 (.mv (.c (.int .i64 0)))]) (.block 0 (.loop (.seq (.reg [oo_ 32 (.bin .lss (.t 31) (.t 30))]) (.seq (.cond (.t 32) .skip (.exit 0)) (.seq (.block 1 (.seq (.reg [oo_ 33 (.iaddr 5 (.t 29) (.t 31)), oo_ 34 (.load (some 5) (.t 33)), oo_ 7 (.allc 70 [(.str []), (.int .u64 0), (.int .i64 0), (.bool false), (.bool false)]), os_ (.store 5 (.t 7) (.t 34))]) (.seq (.reg [of_ 35 0 7, ol_ 36 35, of_ 37 0 5, ol_ 38 37, oo_ 39 (.bin .eql (.t 36) (.t 38))]) (.cond (.t 39) (.seq (.reg [oo_ 4 (.mv (.c (.int .i64 6)))]) .ret) .skip)))) (.reg [oo_ 40 (.bin .add (.t 31) (.c (.int .i64 1))), om_ 31 40]))))))) (.seq (.block 2 (.seq (.reg [om_ 42 0, oo_ 43 (.nilck (.t 42)), of_ 44 2 43, of_ 45 0 44, ol_ 46 45, oo_ 47 (.bin .eql (.t 46) (.c (.int .i64 13))), om_ 41 47]) (.cond (.t 41) (.seq (.seq (.dreg [om_ 48 0, oo_ 49 (.nilck (.t 48)), of_ 50 0 49, ol_ 51 50, of_ 52 2 5, ol_ 53 52] [oo_ 54 (.iaddr 6 (.t 51) (.t 53)), of_ 55 0 54, ol_ 56 55, om_ 8 56]) (.seq (.reg [of_ 57 3 5, ol_ 58 57, om_ 59 58, og_ 60 59 true (.mv (.t 8)), og_ 61 59 true (.call 77 [(.t 60)]), og_ 62 59 true (.un .not (.t 61)), oo_ 63 (.pick (.t 59) (.t 62) (.c (.bool false))), om_ 64 63, og_ 65 64 true (.mv (.t 8)), og_ 66 64 true (.bin .neq (.t 65) (.c (.int .i64 10))), oo_ 67 (.pick (.t 64) (.t 66) (.c (.bool false)))]) (.cond (.t 67) (.seq (.reg [oo_ 4 (.mv (.c (.int .i64 17)))]) .ret) .skip))) (.seq (.reg [oo_ 4 (.mv (.c (.int .i64 0)))]) .ret)) (.seq (.reg [of_ 69 4 5, ol_ 70 69, om_ 71 70, og_ 72 71 true (.mv (.t 1)), og_ 73 71 true (.mv (.t 0)), og_ 74 71 true (.nilck (.t 73)), og_ 75 71 true (.faddr 2 (.t 74)), og_ 76 71 true (.faddr 5 (.t 75)), og_ 77 71 true (.load none (.t 76)), og_ 78 71 true (.len false (.t 77)), og_ 79 71 true (.bin .sub (.t 78) (.c (.int .i64 1))), og_ 80 71 true (.bin .neq (.t 72) (.t 79)), oo_ 81 (.pick (.t 71) (.t 80) (.c (.bool false))), om_ 68 81]) (.cond (.t 68) (.seq (.reg [oo_ 4 (.mv (.c (.int .i64 14)))]) .ret) (.seq (.reg [of_ 83 4 5, ol_ 84 83, om_ 82 84]) (.cond (.t 82) (.seq (.reg [oo_ 4 (.mv (.c (.int .i64 0)))]) .ret) (.seq (.reg [om_ 86 0, of_ 87 1 5, ol_ 88 87, oo_ 89 (.call 161 [(.t 86), (.t 88)]), oo_ 90 (.un .not (.t 89)), om_ 85 90]) (.cond (.t 85) (.seq (.reg [oo_ 4 (.mv (.c (.int .i64 7)))]) .ret) .skip))))))))) (.seq (.seq (.reg [om_ 91 0, oo_ 92 (.nilck (.t 91)), of_ 93 2 92, of_ 94 5 93, ol_ 95 94, om_ 96 1, oo_ 97 (.slice (some 5) (.t 95) none (some (.t 96))), oo_ 98 (.len false (.t 97)), oo_ 99 (.mv (.c (.int .i64 0)))]) (.block 3 (.loop (.seq (.reg [oo_ 100 (.bin .lss (.t 99) (.t 98))]) (.seq (.cond (.t 100) .skip (.exit 3)) (.seq (.block 4 (.seq (.reg [oo_ 101 (.iaddr 5 (.t 97) (.t 99)), oo_ 102 (.load (some 5) (.t 101)), oo_ 10 (.allc 70 [(.str []), (.int .u64 0), (.int .i64 0), (.bool false), (.bool false)]), os_ (.store 5 (.t 10) (.t 102))]) (.seq (.reg [of_ 103 1 10, ol_ 104 103, of_ 105 1 5, ol_ 106 105, oo_ 107 (.bin .eql (.t 104) (.t 106))]) (.cond (.t 107) (.seq (.reg [oo_ 4 (.mv (.c (.int .i64 6)))]) .ret) .skip)))) (.reg [oo_ 108 (.bin .add (.t 99) (.c (.int .i64 1))), om_ 99 108]))))))) (.seq (.reg [oo_ 4 (.mv (.c (.int .i64 0)))]) .ret)))))))
theorem types_look_item.code : comp PG [] (Tryz.f120.body.getD .skip) = types_look_item.c := by kernel_rfl
theorem types_look_item.of : OfE PG 120 2 types_look_item.c [(.t 4)] := fnE (nt := 109) mixed Tryz.func120 types_look_item.code (by kernel_rfl) (by kernel_rfl) (by kernel_rfl) (by kernel_rfl) (by kernel_rfl) (by kernel_rfl)
def types_Deep.n : Nat := 121
noncomputable def types_Deep.c : C := (.seq (.reg [oo_ 4 (.mv (.c (.int .i64 0)))]) (.seq (.seq (.reg [om_ 9 1, oo_ 10 (.bin .lss (.t 9) (.c (.int .i64 0))), om_ 11 10, og_ 12 11 false (.mv (.t 1)), og_ 13 11 false (.mv (.t 0)), og_ 14 11 false (.len false (.t 13)), og_ 15 11 false (.bin .geq (.t 12) (.t 14)), oo_ 16 (.pick (.t 11) (.c (.bool true)) (.t 15))]) (.cond (.t 16) (.seq (.reg [oo_ 4 (.mv (.c (.int .i64 0)))]) .ret) .skip)) (.seq (.reg [om_ 17 1, oo_ 18 (.bin .add (.t 17) (.c (.int .i64 1))), oo_ 19 (.mks 3 1 8 [(.int .i64 0)] (.t 18)), om_ 5 19]) (.seq (.seq (.reg [om_ 20 5, oo_ 21 (.len false (.t 20)), oo_ 22 (.mv (.c (.int .i64 0)))]) (.block 0 (.loop (.seq (.reg [oo_ 23 (.bin .lss (.t 22) (.t 21))]) (.seq (.cond (.t 23) .skip (.exit 0)) (.seq (.block 1 (.seq (.reg [om_ 24 22, om_ 6 24]) (.seq (.reg [om_ 25 5, om_ 26 6, oo_ 27 (.iaddr 1 (.t 25) (.t 26)), os_ (.store 1 (.t 27) (.c (.int .i64 1)))]) (.seq (.reg [om_ 28 0, om_ 29 6, oo_ 30 (.iaddr 6 (.t 28) (.t 29)), oo_ 31 (.load (some 6) (.t 30)), oo_ 32 (.call 119 [(.t 31)]), oo_ 33 (.len false (.t 32)), oo_ 34 (.mv (.c (.int .i64 0)))]) (.block 2 (.loop (.seq (.reg [oo_ 35 (.bin .lss (.t 34) (.t 33))]) (.seq (.cond (.t 35) .skip (.exit 2)) (.seq (.block 3 (.seq (.reg [oo_ 36 (.iaddr 1 (.t 32) (.t 34)), ol_ 37 36, om_ 8 37]) (.seq (.reg [om_ 38 8, oo_ 39 (.bin .geq (.t 38) (.c (.int .i64 0))), om_ 40 39, og_ 41 40 true (.mv (.t 8)), og_ 42 40 true (.mv (.t 6)), og_ 43 40 true (.bin .lss (.t 41) (.t 42)), oo_ 44 (.pick (.t 40) (.t 43) (.c (.bool false)))]) (.cond (.t 44) (.dreg [om_ 45 5, om_ 46 6, om_ 47 5, om_ 48 6, oo_ 49 (.iaddr 1 (.t 47) (.t 48)), ol_ 50 49, om_ 51 5, om_ 52 8, oo_ 53 (.iaddr 1 (.t 51) (.t 52)), ol_ 54 53, oo_ 55 (.bin .add (.t 54) (.c (.int .i64 1))), oo_ 56 (.mm true [(.t 50), (.t 55)])] [oo_ 57 (.iaddr 1 (.t 45) (.t 46)), os_ (.store 1 (.t 57) (.t 56))]) .skip)))) (.reg [oo_ 58 (.bin .add (.t 34) (.c (.int .i64 1))), om_ 34 58])))))))))) (.reg [oo_ 59 (.bin .add (.t 22) (.c (.int .i64 1))), om_ 22 59]))))))) (.seq (.reg [om_ 60 5, om_ 61 1, oo_ 62 (.iaddr 1 (.t 60) (.t 61)), ol_ 63 62, om_ 4 63]) .ret)))))
theorem types_Deep.code : comp PG [] (Tryz.f121.body.getD .skip) = types_Deep.c := by kernel_rfl
theorem types_Deep.of : OfE PG 121 2 types_Deep.c [(.t 4)] := fnE (nt := 64) mixed Tryz.func121 types_Deep.code (by kernel_rfl) (by kernel_rfl) (by kernel_rfl) (by kernel_rfl) (by kernel_rfl) (by kernel_rfl)
def word_Wide.n : Nat := 130
noncomputable def word_Wide.c : C := (.seq (.reg [oo_ 4 (.mv (.c (.int .u64 0)))]) (.seq (.reg [om_ 5 0, om_ 6 1, oo_ 7 (.call 166 [(.t 5), (.t 6)]), oo_ 8 (.conv .u64 (.t 7)), om_ 4 8]) .ret))
theorem word_Wide.code : comp PG [] (Tryz.f130.body.getD .skip) = word_Wide.c := by kernel_rfl
theorem word_Wide.of : OfE PG 130 2 word_Wide.c [(.t 4)] := fnE (nt := 9) mixed Tryz.func130 word_Wide.code (by kernel_rfl) (by kernel_rfl) (by kernel_rfl) (by kernel_rfl) (by kernel_rfl) (by kernel_rfl)
def prim_Size.n : Nat := 131
noncomputable def prim_Size.c : C := (.seq (.reg [oo_ 2 (.mv (.c (.int .i64 0)))]) (.seq (.reg [om_ 3 0, oo_ 4 (.call 133 [(.t 3)]), oo_ 5 (.field 0 none (.t 4)), om_ 2 5]) .ret))
theorem prim_Size.code : comp PG [] (Tryz.f131.body.getD .skip) = prim_Size.c := by kernel_rfl
theorem prim_Size.of : OfE PG 131 1 prim_Size.c [(.t 2)] := fnE (nt := 6) mixed Tryz.func131 prim_Size.code (by kernel_rfl) (by kernel_rfl) (by kernel_rfl) (by kernel_rfl) (by kernel_rfl) (by kernel_rfl)
def prim_Low.n : Nat := 132
noncomputable def prim_Low.c : C := (.seq (.reg [oo_ 4 (.mv (.c (.int .u64 0)))]) (.seq (.reg [om_ 7 0, oo_ 8 (.call 131 [(.t 7)]), om_ 5 8]) (.seq (.seq (.reg [om_ 9 5, oo_ 10 (.bin .eql (.t 9) (.c (.int .i64 0)))]) (.cond (.t 10) (.seq (.reg [oo_ 4 (.mv (.c (.int .u64 0)))]) .ret) .skip)) (.seq (.reg [om_ 11 5, oo_ 12 (.bin .mul (.c (.int .i64 8)) (.t 11)), oo_ 13 (.bin .sub (.c (.int .i64 64)) (.t 12)), oo_ 14 (.conv .u64 (.t 13)), om_ 6 14]) (.seq (.reg [om_ 15 1, om_ 16 6, oo_ 17 (.bin .shl (.t 15) (.t 16)), om_ 18 6, oo_ 19 (.bin .shr (.t 17) (.t 18)), om_ 4 19]) .ret)))))
theorem prim_Low.code : comp PG [] (Tryz.f132.body.getD .skip) = prim_Low.c := by kernel_rfl
theorem prim_Low.of : OfE PG 132 2 prim_Low.c [(.t 4)] := fnE (nt := 20) mixed Tryz.func132 prim_Low.code (by kernel_rfl) (by kernel_rfl) (by kernel_rfl) (by kernel_rfl) (by kernel_rfl) (by kernel_rfl)
def prim_rows.n : Nat := 133
noncomputable def prim_rows.c : C := (.seq (.reg [oo_ 2 (.allc 181 [(.int .i64 0), (.bool false)])]) (.seq (.reg [oo_ 4 (.build [(.int .i64 0), (.bool false)] [(0, (1, (.c (.int .i64 1)))), (1, (1, (.c (.bool false))))]), oo_ 5 (.build [(.int .i64 0), (.bool false)] [(0, (1, (.c (.int .i64 1)))), (1, (1, (.c (.bool false))))]), oo_ 6 (.build [(.int .i64 0), (.bool false)] [(0, (1, (.c (.int .i64 2)))), (1, (1, (.c (.bool true))))]), oo_ 7 (.build [(.int .i64 0), (.bool false)] [(0, (1, (.c (.int .i64 2)))), (1, (1, (.c (.bool false))))]), oo_ 8 (.build [(.int .i64 0), (.bool false)] [(0, (1, (.c (.int .i64 4)))), (1, (1, (.c (.bool true))))]), oo_ 9 (.build [(.int .i64 0), (.bool false)] [(0, (1, (.c (.int .i64 4)))), (1, (1, (.c (.bool false))))]), oo_ 10 (.build [(.int .i64 0), (.bool false)] [(0, (1, (.c (.int .i64 8)))), (1, (1, (.c (.bool true))))]), oo_ 11 (.build [(.int .i64 0), (.bool false)] [(0, (1, (.c (.int .i64 8)))), (1, (1, (.c (.bool false))))]), oo_ 12 (.build [(.int .i64 0), (.bool false)] [(0, (1, (.c (.int .i64 4)))), (1, (1, (.c (.bool true))))]), oo_ 13 (.build [(.int .i64 0), (.bool false), (.int .i64 0), (.bool false), (.int .i64 0), (.bool false), (.int .i64 0), (.bool false), (.int .i64 0), (.bool false), (.int .i64 0), (.bool false), (.int .i64 0), (.bool false), (.int .i64 0), (.bool false), (.int .i64 0), (.bool false), (.int .i64 0), (.bool false)] [(2, (2, (.t 4))), (4, (2, (.t 5))), (6, (2, (.t 6))), (8, (2, (.t 7))), (10, (2, (.t 8))), (12, (2, (.t 9))), (14, (2, (.t 10))), (16, (2, (.t 11))), (18, (2, (.t 12)))]), oo_ 3 (.allc 213 [(.int .i64 0), (.bool false), (.int .i64 0), (.bool false), (.int .i64 0), (.bool false), (.int .i64 0), (.bool false), (.int .i64 0), (.bool false), (.int .i64 0), (.bool false), (.int .i64 0), (.bool false), (.int .i64 0), (.bool false), (.int .i64 0), (.bool false), (.int .i64 0), (.bool false)]), os_ (.store 20 (.t 3) (.t 13))]) (.seq (.seq (.reg [om_ 14 0, oo_ 15 (.call 77 [(.t 14)]), oo_ 16 (.un .not (.t 15))]) (.cond (.t 16) (.seq (.reg [oo_ 17 (.build [(.int .i64 0), (.bool false)] []), os_ (.store 2 (.t 2) (.t 17))]) .ret) .skip)) (.seq (.reg [om_ 18 0, oo_ 19 (.iarr 10 2 (.t 3) (.t 18)), oo_ 20 (.load (some 2) (.t 19)), os_ (.store 2 (.t 2) (.t 20))]) .ret))))
theorem prim_rows.code : comp PG [] (Tryz.f133.body.getD .skip) = prim_rows.c := by kernel_rfl
theorem prim_rows.of : OfE PG 133 1 prim_rows.c [(.cell 2 (some 2))] := fnE (nt := 21) mixed Tryz.func133 prim_rows.code (by kernel_rfl) (by kernel_rfl) (by kernel_rfl) (by kernel_rfl) (by kernel_rfl) (by kernel_rfl)
def types_Branch_1.n : Nat := 149
noncomputable def types_Branch_1.c : C := (.seq (.reg [oo_ 2 (.mv (.c (.bool false)))]) (.seq (.reg [om_ 3 0, oo_ 4 (.bin .eql (.t 3) (.c (.int .i64 14))), om_ 2 4]) .ret))
theorem types_Branch_1.code : comp PG [] (Tryz.f149.body.getD .skip) = types_Branch_1.c := by kernel_rfl
theorem types_Branch_1.of : OfE PG 149 1 types_Branch_1.c [(.t 2)] := fnE (nt := 5) mixed Tryz.func149 types_Branch_1.code (by kernel_rfl) (by kernel_rfl) (by kernel_rfl) (by kernel_rfl) (by kernel_rfl) (by kernel_rfl)
def types_Branch_2.n : Nat := 150
noncomputable def types_Branch_2.c : C := (.seq (.reg [oo_ 2 (.box 70 (.t 0)), oo_ 3 (.mv (.c (.bool false)))]) (.seq (.reg [of_ 4 1 2, ol_ 5 4, ol_ 6 1, oo_ 7 (.bin .eql (.t 5) (.t 6)), om_ 8 7, og_ 9 8 true (.faddr 4 (.t 2)), og_ 10 8 true (.load none (.t 9)), og_ 11 8 true (.un .not (.t 10)), oo_ 12 (.pick (.t 8) (.t 11) (.c (.bool false))), om_ 3 12]) .ret))
theorem types_Branch_2.code : comp PG [] (Tryz.f150.body.getD .skip) = types_Branch_2.c := by kernel_rfl
theorem types_Branch_2.of' : OfL PG 150 13 types_Branch_2.c [(.t 3)] := fnL mixed Tryz.func150 types_Branch_2.code (by kernel_rfl) (by kernel_rfl) (by kernel_rfl) (by kernel_rfl) (by kernel_rfl)
def types_Branch_3.n : Nat := 151
noncomputable def types_Branch_3.c : C := (.seq (.reg [oo_ 1 (.box 70 (.t 0)), oo_ 2 (.mv (.c (.bool false)))]) (.seq (.reg [of_ 3 4 1, ol_ 4 3, om_ 2 4]) .ret))
theorem types_Branch_3.code : comp PG [] (Tryz.f151.body.getD .skip) = types_Branch_3.c := by kernel_rfl
theorem types_Branch_3.of : OfE PG 151 1 types_Branch_3.c [(.t 2)] := fnE (nt := 5) mixed Tryz.func151 types_Branch_3.code (by kernel_rfl) (by kernel_rfl) (by kernel_rfl) (by kernel_rfl) (by kernel_rfl) (by kernel_rfl)
def types_look_may.n : Nat := 161
noncomputable def types_look_may.c : C := (.seq (.reg [oo_ 4 (.mv (.c (.bool false)))]) (.seq (.seq (.reg [om_ 8 0, oo_ 9 (.nilck (.t 8)), of_ 10 2 9, of_ 11 0 10, ol_ 12 11, oo_ 13 (.bin .eql (.t 12) (.c (.int .i64 9)))]) (.cond (.t 13) (.seq (.reg [om_ 14 1, oo_ 15 (.call 196 [(.c (.int .i64 9)), (.t 14)]), om_ 4 15]) .ret) .skip)) (.seq (.dreg [om_ 16 0, oo_ 17 (.nilck (.t 16)), of_ 18 0 17, ol_ 19 18, om_ 20 0, oo_ 21 (.nilck (.t 20)), of_ 22 2 21, of_ 23 4 22, ol_ 24 23, oo_ 25 (.iaddr 6 (.t 19) (.t 24)), oo_ 26 (.load (some 6) (.t 25)), oo_ 5 (.allc 67 [(.int .i64 0), (.str []), (.int .i64 0), (.int .i64 0), (.int .i64 0), .nilS])] [os_ (.store 6 (.t 5) (.t 26))]) (.seq (.seq (.reg [of_ 27 0 5, ol_ 28 27, oo_ 29 (.bin .eql (.t 28) (.c (.int .i64 9)))]) (.cond (.t 29) (.seq (.dreg [om_ 31 0, oo_ 32 (.nilck (.t 31)), of_ 33 0 32, ol_ 34 33, om_ 35 0, oo_ 36 (.nilck (.t 35)), of_ 37 2 36, of_ 38 4 37, ol_ 39 38, om_ 40 1, oo_ 41 (.call 197 [(.t 34), (.t 39), (.t 40)]), om_ 30 41, oo_ 42 (.extr (.t 30) 0), oo_ 43 (.extr (.t 30) 1), om_ 6 42] [om_ 7 43]) (.seq (.reg [om_ 44 7, om_ 4 44]) .ret)) .skip)) (.seq (.reg [of_ 45 0 5, ol_ 46 45, om_ 47 1, oo_ 48 (.call 196 [(.t 46), (.t 47)]), om_ 4 48]) .ret)))))
theorem types_look_may.code : comp PG [] (Tryz.f161.body.getD .skip) = types_look_may.c := by kernel_rfl
theorem types_look_may.of : OfE PG 161 2 types_look_may.c [(.t 4)] := fnE (nt := 49) mixed Tryz.func161 types_look_may.code (by kernel_rfl) (by kernel_rfl) (by kernel_rfl) (by kernel_rfl) (by kernel_rfl) (by kernel_rfl)
def word_Sign.n : Nat := 166
noncomputable def word_Sign.c : C := (.seq (.reg [oo_ 4 (.mv (.c (.int .i64 0)))]) (.seq (.seq (.reg [om_ 6 1, oo_ 7 (.call 201 [(.t 6)]), oo_ 8 (.un .not (.t 7))]) (.cond (.t 8) (.seq (.reg [oo_ 4 (.mv (.c (.int .i64 0)))]) .ret) .skip)) (.seq (.reg [om_ 9 1, oo_ 10 (.bin .mul (.c (.int .i64 8)) (.t 9)), oo_ 11 (.bin .sub (.c (.int .i64 64)) (.t 10)), oo_ 12 (.conv .u64 (.t 11)), om_ 5 12]) (.seq (.reg [om_ 13 0, om_ 14 5, oo_ 15 (.bin .shl (.t 13) (.t 14)), oo_ 16 (.conv .i64 (.t 15)), om_ 17 5, oo_ 18 (.bin .shr (.t 16) (.t 17)), om_ 4 18]) .ret))))
theorem word_Sign.code : comp PG [] (Tryz.f166.body.getD .skip) = word_Sign.c := by kernel_rfl
theorem word_Sign.of : OfE PG 166 2 word_Sign.c [(.t 4)] := fnE (nt := 19) mixed Tryz.func166 word_Sign.code (by kernel_rfl) (by kernel_rfl) (by kernel_rfl) (by kernel_rfl) (by kernel_rfl) (by kernel_rfl)
def prim_May.n : Nat := 196
noncomputable def prim_May.c : C := (.seq (.reg [oo_ 4 (.mv (.c (.bool false)))]) (.seq (.reg [om_ 5 0, oo_ 6 (.call 77 [(.t 5)]), om_ 7 6, og_ 8 7 true (.mv (.t 0)), og_ 9 7 true (.mv (.t 1)), og_ 10 7 true (.call 82 [(.t 8), (.t 9)]), og_ 11 7 true (.mv (.t 1)), og_ 12 7 true (.bin .eql (.t 10) (.t 11)), oo_ 13 (.pick (.t 7) (.t 12) (.c (.bool false))), om_ 14 13, og_ 15 14 true (.mv (.t 0)), og_ 16 14 true (.bin .neq (.t 15) (.c (.int .i64 1))), og_ 17 14 true (.mv (.t 16)), og_ 18 17 false (.mv (.t 1)), og_ 19 17 false (.bin .leq (.t 18) (.c (.int .u64 1))), og_ 20 14 true (.pick (.t 17) (.c (.bool true)) (.t 19)), oo_ 21 (.pick (.t 14) (.t 20) (.c (.bool false))), om_ 4 21]) .ret))
theorem prim_May.code : comp PG [] (Tryz.f196.body.getD .skip) = prim_May.c := by kernel_rfl
theorem prim_May.of : OfE PG 196 2 prim_May.c [(.t 4)] := fnE (nt := 22) mixed Tryz.func196 prim_May.code (by kernel_rfl) (by kernel_rfl) (by kernel_rfl) (by kernel_rfl) (by kernel_rfl) (by kernel_rfl)
def types_Value.n : Nat := 197
noncomputable def types_Value.c : C := (.seq (.reg [oo_ 5 (.box 33 (.t 2)), oo_ 6 (.mv (.c (.int .i64 0))), oo_ 7 (.mv (.c (.bool false)))]) (.seq (.reg [om_ 8 0, om_ 9 1, oo_ 10 (.mkfn 216 [] [(.t 5)]), oo_ 11 (.call 78 [(.t 8), (.t 9), (.c (.clo 215 [] [])), (.t 10)]), oo_ 12 (.extr (.t 11) 0), oo_ 13 (.extr (.t 11) 1), om_ 6 12, om_ 7 13]) .ret))
theorem types_Value.code : comp PG [] (Tryz.f197.body.getD .skip) = types_Value.c := by kernel_rfl
theorem types_Value.of : OfE PG 197 3 types_Value.c [(.t 6), (.t 7)] := fnE (nt := 14) mixed Tryz.func197 types_Value.code (by kernel_rfl) (by kernel_rfl) (by kernel_rfl) (by kernel_rfl) (by kernel_rfl) (by kernel_rfl)
def word_sized.n : Nat := 201
noncomputable def word_sized.c : C := (.seq (.reg [oo_ 2 (.mv (.c (.bool false)))]) (.seq (.reg [om_ 3 0, oo_ 4 (.bin .eql (.t 3) (.c (.int .i64 1))), om_ 5 4, og_ 6 5 false (.mv (.t 0)), og_ 7 5 false (.bin .eql (.t 6) (.c (.int .i64 2))), oo_ 8 (.pick (.t 5) (.c (.bool true)) (.t 7)), om_ 9 8, og_ 10 9 false (.mv (.t 0)), og_ 11 9 false (.bin .eql (.t 10) (.c (.int .i64 4))), oo_ 12 (.pick (.t 9) (.c (.bool true)) (.t 11)), om_ 13 12, og_ 14 13 false (.mv (.t 0)), og_ 15 13 false (.bin .eql (.t 14) (.c (.int .i64 8))), oo_ 16 (.pick (.t 13) (.c (.bool true)) (.t 15)), om_ 2 16]) .ret))
theorem word_sized.code : comp PG [] (Tryz.f201.body.getD .skip) = word_sized.c := by kernel_rfl
theorem word_sized.of : OfE PG 201 1 word_sized.c [(.t 2)] := fnE (nt := 17) mixed Tryz.func201 word_sized.code (by kernel_rfl) (by kernel_rfl) (by kernel_rfl) (by kernel_rfl) (by kernel_rfl) (by kernel_rfl)
def types_Value_1.n : Nat := 215
noncomputable def types_Value_1.c : C := (.seq (.reg [oo_ 2 (.mv (.c (.bool false)))]) (.seq (.reg [om_ 3 0, oo_ 4 (.bin .eql (.t 3) (.c (.int .i64 9))), om_ 2 4]) .ret))
theorem types_Value_1.code : comp PG [] (Tryz.f215.body.getD .skip) = types_Value_1.c := by kernel_rfl
theorem types_Value_1.of : OfE PG 215 1 types_Value_1.c [(.t 2)] := fnE (nt := 5) mixed Tryz.func215 types_Value_1.code (by kernel_rfl) (by kernel_rfl) (by kernel_rfl) (by kernel_rfl) (by kernel_rfl) (by kernel_rfl)
def types_Value_2.n : Nat := 216
noncomputable def types_Value_2.c : C := (.seq (.reg [oo_ 2 (.box 70 (.t 0)), oo_ 3 (.mv (.c (.bool false)))]) (.seq (.reg [of_ 4 1 2, ol_ 5 4, ol_ 6 1, oo_ 7 (.bin .eql (.t 5) (.t 6)), om_ 3 7]) .ret))
theorem types_Value_2.code : comp PG [] (Tryz.f216.body.getD .skip) = types_Value_2.c := by kernel_rfl
theorem types_Value_2.of' : OfL PG 216 8 types_Value_2.c [(.t 3)] := fnL mixed Tryz.func216 types_Value_2.code (by kernel_rfl) (by kernel_rfl) (by kernel_rfl) (by kernel_rfl) (by kernel_rfl)
end Go.Proofs.YtjaigpidmngaaaaGreat

namespace Go.Proofs.YtjaigpidmngaaaaGreat
attribute [local irreducible] callA callP ACalls
abbrev u8A (c : UInt8) : AV := .int .u8 (c.toNat : Nat)
theorem u8lit (c : UInt8) (n : Nat) (hn : n < 256) : ((c.toNat : Nat) : Int) = (n : Int) ↔ c = UInt8.ofNat n := by
  rw [Int.ofNat_inj]
  constructor
  · intro h; apply UInt8.toNat.inj; rw [h, UInt8.toNat_ofNat']; omega
  · intro h; rw [h, UInt8.toNat_ofNat']; omega
theorem dig_iff (c : UInt8) : dig c = true ↔ 48 ≤ c.toNat ∧ c.toNat ≤ 57 := by simp [dig]
theorem ltr_iff (c : UInt8) : ltr c = true ↔ (97 ≤ c.toNat ∧ c.toNat ≤ 122) ∨ (65 ≤ c.toNat ∧ c.toNat ≤ 90) := by simp [ltr]
theorem nat_eq (c : UInt8) (n : Nat) (hn : n < 256) : c = UInt8.ofNat n ↔ c.toNat = n := by
  constructor
  · intro h; rw [h, UInt8.toNat_ofNat']; omega
  · intro h; apply UInt8.toNat.inj; rw [h, UInt8.toNat_ofNat']; omega
theorem nam_iff (c : UInt8) : nam c = true ↔ (48 ≤ c.toNat ∧ c.toNat ≤ 57) ∨ c.toNat = 95 ∨ (97 ≤ c.toNat ∧ c.toNat ≤ 122) ∨ (65 ≤ c.toNat ∧ c.toNat ≤ 90) := by
  simp only [nam, Bool.or_eq_true, dig_iff, ltr_iff, beq_iff_eq]
  rw [show (95 : UInt8) = UInt8.ofNat 95 from rfl, nat_eq c 95 (by decide)]
  omega
theorem blnk_iff (c : UInt8) : blnk c = true ↔ c.toNat = 32 ∨ c.toNat = 9 ∨ c.toNat = 10 ∨ c.toNat = 13 := by
  simp only [blnk, Bool.or_eq_true, beq_iff_eq]
  rw [show (32 : UInt8) = UInt8.ofNat 32 from rfl, show (9 : UInt8) = UInt8.ofNat 9 from rfl, show (10 : UInt8) = UInt8.ofNat 10 from rfl, show (13 : UInt8) = UInt8.ofNat 13 from rfl, nat_eq c 32 (by decide), nat_eq c 9 (by decide), nat_eq c 10 (by decide), nat_eq c 13 (by decide)]
  omega
theorem bool_iff {b : Bool} {p : Prop} [Decidable p] (h : b = true ↔ p) : b = decide p := by
  cases b with
  | true => rw [decide_eq_true (h.1 rfl)]
  | false => rw [decide_eq_false (fun q => by have := h.2 q; cases this)]
theorem name_may_spec (c : UInt8) (first : Bool) (H : AH) : ACalls PG name_may.n [u8A c, .bool first] H fun r H' => r = .bool (if first then ltr c else nam c) ∧ H' = H := by
  refine name_may.of rfl (wpF_start ?_)
  cases first with
  | true =>
    rw [show (if true then ltr c else nam c) = ltr c from rfl, bool_iff (ltr_iff c)]
    (repeat' (first | (refine au ?_; first | refine bsplit_dec (fun _ => ?_) (fun _ => ?_) | refine bsplit_intro (fun _ => ?_) (fun _ => ?_)) | exact au0 | fail)); (all_goals try (first | refine au ?_ | fail))
    all_goals (conv => whnf)
    all_goals exact ⟨congrArg AV.bool (by first | exact (decide_eq_true (by omega)).symm | exact (decide_eq_false (by omega)).symm | exact decide_eq_decide.2 (by omega)), rfl⟩
  | false =>
    rw [show (if false then ltr c else nam c) = nam c from rfl, bool_iff (nam_iff c)]
    (repeat' (first | (refine au ?_; first | refine bsplit_dec (fun _ => ?_) (fun _ => ?_) | refine bsplit_intro (fun _ => ?_) (fun _ => ?_)) | exact au0 | fail)); (all_goals try (first | refine au ?_ | fail))
    all_goals (conv => whnf)
    all_goals exact ⟨congrArg AV.bool (by first | exact (decide_eq_true (by omega)).symm | exact (decide_eq_false (by omega)).symm | exact decide_eq_decide.2 (by omega)), rfl⟩
theorem name_Lead_spec (s : List UInt8) (hs : s.length ≤ 140737488351232) (H : AH) : ACalls PG name_Lead.n [.str s] H fun r H' => r = .int .i64 (nl s : Nat) ∧ H' = H := by
  refine name_Lead.of rfl (wpF_start ?_)
  have hnl := nl_le s
  (first | refine ah ?_ | exact ah0)
  refine ⟨fun n L H' => ∃ i : Nat, n = s.length - i ∧ i ≤ nl s ∧ L = [(0, some (.str s)), (3, some (.int .i64 i))] ∧ H' = H, ⟨_, H, ?_, Sub.refl _, _, 0, rfl, Nat.zero_le _, rfl, rfl⟩, ?_⟩
  · exact (by exact cov_of)
  · rintro n L H' ⟨i, rfl, hi, rfl, rfl⟩
    (first | refine ah ?_ | exact ah0)
    refine bsplit_dec (fun h1 => ?_) (fun h1 => ?_)
    · have hst := nl_step hi (by omega)
      (first | refine ah ?_ | exact ah0)
      refine callF_eq (name_may_spec (s.getD i 0) _ _) ?_
      (first | refine ah ?_ | exact ah0)
      rw [show (if decide ((i : Int) = 0) = true then ltr (s.getD i 0) else nam (s.getD i 0)) = decide (i < nl s) from by
        rw [show decide (i < nl s) = (if i = 0 then ltr (s.getD 0 0) else nam (s.getD i 0)) from (bool_iff hst.symm).symm]
        by_cases e : i = 0
        · subst e; simp
        · rw [if_neg e, if_neg (by simpa using e)]]
      refine bsplit_dec (fun h2 => ?_) (fun h2 => ?_)
      · (first | refine ah ?_ | exact ah0)
        refine ⟨[(0, some (.str s)), (3, some (.int .i64 (i + 1 : Nat)))], H', (by exact cov_of), Sub.refl _, _, ?_, i + 1, rfl, by omega, rfl, rfl⟩
        omega
      · (first | refine ah ?_ | exact ah0)
        exact ⟨by rw [show i = nl s from by omega], rfl⟩
    · (first | refine ah ?_ | exact ah0)
      exact ⟨by rw [show i = nl s from by omega], rfl⟩
theorem word_spec (s : List UInt8) (H : AH) : ACalls PG name_Word.n [.str s] H fun r H' => r = .bool (rsv.contains s) ∧ H' = H := by
  refine name_Word.of rfl (wpF_start ?_)
  unfold rsv
  (repeat' (first | (refine au ?_; first | refine bsplit_dec (fun _ => ?_) (fun _ => ?_) | refine bsplit_intro (fun _ => ?_) (fun _ => ?_)) | exact au0 | fail)); (all_goals try (first | refine au ?_ | fail))
  all_goals exact ⟨congrArg AV.bool (by simp_all), rfl⟩
end Go.Proofs.YtjaigpidmngaaaaGreat

namespace Go.Proofs.YtjaigpidmngaaaaGreat
attribute [local irreducible] callA callP ACalls
theorem kinds9 {k : Int} (h : isNum k = true) : k = 1 ∨ k = 2 ∨ k = 3 ∨ k = 4 ∨ k = 5 ∨ k = 6 ∨ k = 7 ∨ k = 8 ∨ k = 9 := by
  simp only [isNum, decide_eq_true_eq] at h; omega
theorem szK_no {k : Int} (h : isNum k = false) : szK k = 0 ∧ sgK k = false := by
  simp only [isNum, decide_eq_false_iff_not] at h
  unfold szK sgK
  exact ⟨by repeat (rw [if_neg (by omega)]), decide_eq_false (by omega)⟩
theorem szK_num {k : Int} (h : isNum k = true) : szK k = 1 ∨ szK k = 2 ∨ szK k = 4 ∨ szK k = 8 := by
  rcases kinds9 h with rfl | rfl | rfl | rfl | rfl | rfl | rfl | rfl | rfl <;> simp [szK]
theorem prim_Number_spec (k : Int) (H : AH) : ACalls PG prim_Number.n [.int .i64 k] H fun r H' => r = .bool (isNum k) ∧ H' = H := by
  refine ACalls.fz (prim_Number.of rfl (wpF_start ?_))
  unfold isNum
  (repeat' (first | (refine au ?_; first | refine bsplit_dec (fun _ => ?_) (fun _ => ?_) | refine bsplit_intro (fun _ => ?_) (fun _ => ?_)) | exact au0 | fail)); (all_goals try (first | refine au ?_ | fail))
  all_goals exact ⟨fz_eq (congrArg AV.bool (by first | exact (decide_eq_false (by omega)).symm | exact decide_eq_decide.2 (by omega))), sub_of⟩
theorem prim_rows_spec0 (k : Int) : ACalls PG prim_rows.n [.int .i64 k] [] fun r _ => r = .agg [.int .i64 (szK k : Nat), .bool (sgK k)] := by
  refine prim_rows.of rfl (wpF_start ?_)
  (first | refine au ?_ | exact au0)
  intro id2 hid2 ht2; have n2 := neAll_of hid2; (try simp only [neAll, neAll_hset] at n2); have m2 := n2; (repeat (obtain ⟨_, m2⟩ := m2))
  (first | refine au ?_ | exact au0)
  intro id3 hid3 ht3; have n3 := neAll_of hid3; (try simp only [neAll, neAll_hset] at n3); have m3 := n3; (repeat (obtain ⟨_, m3⟩ := m3))
  (first | refine au ?_ | exact au0)
  first | refine callF_eq (prim_Number_spec _ _) ?_ | refine callG_eq rfl (prim_Number_spec _ _) ?_
  (first | refine au ?_ | exact au0)
  cases h : isNum k with
  | false =>
    rw [(szK_no h).1, (szK_no h).2]
    (first | refine au ?_ | exact au0)
    rfl
  | true =>
    rcases kinds9 h with rfl | rfl | rfl | rfl | rfl | rfl | rfl | rfl | rfl
    all_goals (first | refine au ?_ | exact au0)
    all_goals rfl
theorem prim_rows_spec (k : Int) (H : AH) : ACalls PG prim_rows.n [.int .i64 k] H fun r H' => r = .agg [.int .i64 (szK k : Nat), .bool (sgK k)] ∧ H' = H := (prim_rows_spec0 k).frame H
theorem szK_five (k : Int) : szK k = 0 ∨ szK k = 1 ∨ szK k = 2 ∨ szK k = 4 ∨ szK k = 8 := by
  cases h : isNum k with
  | false => exact .inl (szK_no h).1
  | true => exact .inr (szK_num h)
theorem prim_Size_spec (k : Int) (H : AH) : ACalls PG prim_Size.n [.int .i64 k] H fun r H' => r = .int .i64 (szK k : Nat) ∧ H' = H := by
  refine ACalls.fz (prim_Size.of rfl (wpF_start ?_))
  (first | refine au ?_ | exact au0)
  first | refine callF_eq (prim_rows_spec _ _) ?_ | refine callG_eq rfl (prim_rows_spec _ _) ?_
  (first | refine au ?_ | exact au0)
  exact ⟨fz_of, sub_of⟩
theorem prim_Signed_spec (k : Int) (H : AH) : ACalls PG prim_Signed.n [.int .i64 k] H fun r H' => r = .bool (sgK k) ∧ H' = H := by
  refine ACalls.fz (prim_Signed.of rfl (wpF_start ?_))
  (first | refine au ?_ | exact au0)
  first | refine callF_eq (prim_rows_spec _ _) ?_ | refine callG_eq rfl (prim_rows_spec _ _) ?_
  (first | refine au ?_ | exact au0)
  exact ⟨fz_of, sub_of⟩
theorem wrap_u64 (x : Int) : IntKind.wrap .u64 x = x % 18446744073709551616 := by
  simp only [IntKind.wrap, IntKind.bits, IntKind.signed, Bool.false_and, Bool.false_eq_true, if_false]; omega
theorem wrap_i64 (x : Int) : IntKind.wrap .i64 x = if x % 18446744073709551616 < 9223372036854775808 then x % 18446744073709551616 else x % 18446744073709551616 - 18446744073709551616 := by
  simp only [IntKind.wrap, IntKind.bits, IntKind.signed, Bool.true_and]
  split <;> rename_i h <;> split <;> simp_all <;> omega
theorem low_shift {b : Nat} (hb : b = 1 ∨ b = 2 ∨ b = 4 ∨ b = 8) (n : Nat) : Int.fdiv (IntKind.wrap .u64 ((n : Int) * 2 ^ min (Int.toNat (64 - 8 * (b : Nat))) (IntKind.bits .u64))) (2 ^ min (Int.toNat (64 - 8 * (b : Nat))) (IntKind.bits .u64)) = (lowN b n : Nat) := by
  rw [wrap_u64]
  unfold lowN
  rcases hb with rfl | rfl | rfl | rfl
  · rw [show (2 : Int) ^ min (Int.toNat (64 - 8 * ((1 : Nat) : Int))) (IntKind.bits .u64) = 72057594037927936 from by decide, Int.fdiv_eq_ediv_of_nonneg _ (by decide)]; omega
  · rw [show (2 : Int) ^ min (Int.toNat (64 - 8 * ((2 : Nat) : Int))) (IntKind.bits .u64) = 281474976710656 from by decide, Int.fdiv_eq_ediv_of_nonneg _ (by decide)]; omega
  · rw [show (2 : Int) ^ min (Int.toNat (64 - 8 * ((4 : Nat) : Int))) (IntKind.bits .u64) = 4294967296 from by decide, Int.fdiv_eq_ediv_of_nonneg _ (by decide)]; omega
  · rw [show (2 : Int) ^ min (Int.toNat (64 - 8 * ((8 : Nat) : Int))) (IntKind.bits .u64) = 1 from by decide, Int.fdiv_eq_ediv_of_nonneg _ (by decide)]; omega
theorem sgn_shift {b : Nat} (hb : b = 1 ∨ b = 2 ∨ b = 4 ∨ b = 8) (n : Nat) : Int.fdiv (IntKind.wrap .i64 (IntKind.wrap .u64 ((n : Int) * 2 ^ min (Int.toNat (64 - 8 * (b : Nat))) (IntKind.bits .u64)))) (2 ^ min (Int.toNat (64 - 8 * (b : Nat))) (IntKind.bits .i64)) = sgnI b n := by
  rw [wrap_u64, wrap_i64]
  unfold sgnI lowN
  rw [show IntKind.bits .i64 = IntKind.bits .u64 from rfl]
  rcases hb with rfl | rfl | rfl | rfl
  · rw [show (2 : Int) ^ min (Int.toNat (64 - 8 * ((1 : Nat) : Int))) (IntKind.bits .u64) = 72057594037927936 from by decide, Int.fdiv_eq_ediv_of_nonneg _ (by decide)]; repeat' split <;> omega
  · rw [show (2 : Int) ^ min (Int.toNat (64 - 8 * ((2 : Nat) : Int))) (IntKind.bits .u64) = 281474976710656 from by decide, Int.fdiv_eq_ediv_of_nonneg _ (by decide)]; repeat' split <;> omega
  · rw [show (2 : Int) ^ min (Int.toNat (64 - 8 * ((4 : Nat) : Int))) (IntKind.bits .u64) = 4294967296 from by decide, Int.fdiv_eq_ediv_of_nonneg _ (by decide)]; repeat' split <;> omega
  · rw [show (2 : Int) ^ min (Int.toNat (64 - 8 * ((8 : Nat) : Int))) (IntKind.bits .u64) = 1 from by decide, Int.fdiv_eq_ediv_of_nonneg _ (by decide)]; repeat' split <;> omega
theorem prim_Low_spec (k : Int) (n : Nat) (H : AH) : ACalls PG prim_Low.n [.int .i64 k, .int .u64 (n : Nat)] H fun r H' => r = .int .u64 (lowK k n : Nat) ∧ H' = H := by
  refine ACalls.fz (prim_Low.of rfl (wpF_start ?_))
  (first | refine au ?_ | exact au0)
  first | refine callF_eq (prim_Size_spec _ _) ?_ | refine callG_eq rfl (prim_Size_spec _ _) ?_
  have h5 := szK_five k
  unfold lowK
  by_cases e : szK k = 0
  · rw [if_pos e, e]
    (first | refine au ?_ | exact au0)
    exact ⟨fz_of, sub_of⟩
  · rw [if_neg e]
    have hb : szK k = 1 ∨ szK k = 2 ∨ szK k = 4 ∨ szK k = 8 := by omega
    generalize szK k = b at *
    (first | refine au ?_ | exact au0)
    refine rng_any ?_
    (first | refine au ?_ | exact au0)
    exact ⟨fz_eq (congrArg (AV.int .u64) (low_shift hb n)), sub_of⟩
theorem word_sized_spec (b : Int) (H : AH) : ACalls PG word_sized.n [.int .i64 b] H fun r H' => r = .bool (decide (b = 1 ∨ b = 2 ∨ b = 4 ∨ b = 8)) ∧ H' = H := by
  refine ACalls.fz (word_sized.of rfl (wpF_start ?_))
  (repeat' (first | (refine au ?_; first | refine bsplit_dec (fun _ => ?_) (fun _ => ?_) | refine bsplit_intro (fun _ => ?_) (fun _ => ?_)) | exact au0 | fail)); (all_goals try (first | refine au ?_ | fail))
  all_goals exact ⟨fz_eq (congrArg AV.bool (by first | exact (decide_eq_true (by omega)).symm | exact decide_eq_decide.2 (by omega))), sub_of⟩
theorem word_Sign_spec (b n : Nat) (hb : b = 1 ∨ b = 2 ∨ b = 4 ∨ b = 8) (H : AH) : ACalls PG word_Sign.n [.int .u64 (n : Nat), .int .i64 (b : Nat)] H fun r H' => r = .int .i64 (sgnI b n) ∧ H' = H := by
  refine ACalls.fz (word_Sign.of rfl (wpF_start ?_))
  (first | refine au ?_ | exact au0)
  first | refine callF_eq (word_sized_spec _ _) ?_ | refine callG_eq rfl (word_sized_spec _ _) ?_
  rw [decide_eq_true (by omega)]
  (first | refine au ?_ | exact au0)
  refine rng_any ?_
  (first | refine au ?_ | exact au0)
  refine rng_any ?_
  (first | refine au ?_ | exact au0)
  exact ⟨fz_eq (congrArg (AV.int .i64) (sgn_shift hb n)), sub_of⟩
theorem sgnI_range {b : Nat} (hb : b = 1 ∨ b = 2 ∨ b = 4 ∨ b = 8) (n : Nat) : -9223372036854775808 ≤ sgnI b n ∧ sgnI b n ≤ 9223372036854775807 := by
  unfold sgnI lowN
  rcases hb with rfl | rfl | rfl | rfl <;> (split <;> omega)
theorem word_Wide_spec (b n : Nat) (hb : b = 1 ∨ b = 2 ∨ b = 4 ∨ b = 8) (H : AH) : ACalls PG word_Wide.n [.int .u64 (n : Nat), .int .i64 (b : Nat)] H fun r H' => r = .int .u64 (wide (sgnI b n) : Nat) ∧ H' = H := by
  refine ACalls.fz (word_Wide.of rfl (wpF_start ?_))
  (first | refine au ?_ | exact au0)
  first | refine callF_eq (word_Sign_spec b n hb _) ?_ | refine callG_eq rfl (word_Sign_spec b n hb _) ?_
  (first | refine au ?_ | exact au0)
  refine rng_any ?_
  (first | refine au ?_ | exact au0)
  exact ⟨fz_eq (congrArg (AV.int .u64) (by rw [wrap_u64]; unfold wide; omega)), sub_of⟩
theorem sgK_num {k : Int} (h : sgK k = true) : isNum k = true := by
  simp only [sgK, decide_eq_true_eq] at h
  exact decide_eq_true (by omega)
theorem prim_Up_spec (k : Int) (n : Nat) (H : AH) : ACalls PG prim_Up.n [.int .i64 k, .int .u64 (n : Nat)] H fun r H' => r = .int .u64 (upK k n : Nat) ∧ H' = H := by
  refine ACalls.fz (prim_Up.of rfl (wpF_start ?_))
  (first | refine au ?_ | exact au0)
  first | refine callF_eq (prim_Signed_spec _ _) ?_ | refine callG_eq rfl (prim_Signed_spec _ _) ?_
  unfold upK
  cases h : sgK k with
  | true =>
    have hb := szK_num (sgK_num h)
    (first | refine au ?_ | exact au0)
    first | refine callF_eq (prim_Size_spec _ _) ?_ | refine callG_eq rfl (prim_Size_spec _ _) ?_
    (first | refine au ?_ | exact au0)
    first | refine callF_eq (word_Wide_spec _ n hb _) ?_ | refine callG_eq rfl (word_Wide_spec _ n hb _) ?_
    (first | refine au ?_ | exact au0)
    exact ⟨fz_of, sub_of⟩
  | false =>
    (first | refine au ?_ | exact au0)
    first | refine callF_eq (prim_Low_spec _ n _) ?_ | refine callG_eq rfl (prim_Low_spec _ n _) ?_
    (first | refine au ?_ | exact au0)
    exact ⟨fz_of, sub_of⟩
theorem prim_May_spec (k : Int) (n : Nat) (H : AH) : ACalls PG prim_May.n [.int .i64 k, .int .u64 (n : Nat)] H fun r H' => r = .bool (mayK k n) ∧ H' = H := by
  refine ACalls.fz (prim_May.of rfl (wpF_start ?_))
  rw [show mayK k n = decide ((1 ≤ k ∧ k ≤ 9) ∧ upK k n = n ∧ (k ≠ 1 ∨ n ≤ 1)) from by simp [mayK, isNum, Bool.decide_and, Bool.decide_or, Bool.and_assoc]]
  (repeat' (first | (refine au ?_; first | refine callF_eq (prim_Number_spec _ _) ?_ | refine callF_eq (prim_Up_spec _ n _) ?_ | refine bsplit_dec (fun _ => ?_) (fun _ => ?_) | refine bsplit_intro (fun _ => ?_) (fun _ => ?_)) | exact au0 | fail)); (all_goals try (first | refine au ?_ | fail))
  all_goals exact ⟨fz_eq (congrArg AV.bool (by first | exact (decide_eq_true (by omega)).symm | exact (decide_eq_false (by omega)).symm | exact decide_eq_decide.2 (by omega) | rfl)), sub_of⟩
end Go.Proofs.YtjaigpidmngaaaaGreat

namespace Go.Proofs.YtjaigpidmngaaaaGreat
attribute [local irreducible] callA callP ACalls
structure Dat where
  kd : Int
  ng : Bool
  nu : Nat
  tx : List UInt8
abbrev datR (d : Dat) : List AV := [.int .i64 d.kd, .bool d.ng, .int .u64 (d.nu : Nat), .str d.tx]
abbrev datA (d : Dat) : AV := .agg (datR d)
def datK (k : Int) (n : Nat) : Dat :=
  if isNum k = false then ⟨0, false, 0, []⟩
  else if k = 1 then ⟨3, false, n % 2, []⟩
  else if sgK k = true ∧ sgnI (szK k) n < 0 then ⟨1, true, (-(sgnI (szK k) n)).toNat, []⟩
  else ⟨1, false, upK k n, []⟩
theorem upK_lt (k : Int) (n : Nat) : upK k n < 18446744073709551616 := by
  unfold upK
  split
  · unfold wide; omega
  · unfold lowK lowN
    split
    · omega
    · rename_i h
      have h2 := szK_five k
      rcases h2 with h2 | h2 | h2 | h2 | h2
      · exact absurd h2 h
      all_goals rw [h2]; omega
theorem and_one (x : Nat) (h : x < 18446744073709551616) : bitsV .and .u64 ((x : Nat) : Int) 1 = ((x % 2 : Nat) : Int) := by
  have e1 : (BitVec.ofInt 64 ((x : Nat) : Int)).toNat = x := by rw [BitVec.toNat_ofInt]; omega
  show IntKind.u64.wrap ((BitVec.ofInt 64 ((x : Nat) : Int) &&& BitVec.ofInt 64 1).toNat : Int) = _
  rw [BitVec.toNat_and, e1, show (BitVec.ofInt 64 1).toNat = 2 ^ 1 - 1 from by decide, Nat.and_two_pow_sub_one_eq_mod, wrap_u64]
  omega
theorem prim_Datum_spec (k : Int) (n : Nat) (H : AH) : ACalls PG prim_Datum.n [.int .i64 k, .int .u64 (n : Nat)] H fun r H' => r = datA (datK k n) ∧ H' = H := by
  refine ACalls.fz (prim_Datum.of rfl (wpF_start ?_))
  (first | refine au ?_ | exact au0)
  intro id4 hid4 ht4; have n4 := neAll_of hid4; (try simp only [neAll, neAll_hset] at n4); have m4 := n4; (repeat (obtain ⟨_, m4⟩ := m4))
  (first | refine au ?_ | exact au0)
  first | refine callF_eq (prim_Up_spec k n _) ?_ | refine callG_eq rfl (prim_Up_spec k n _) ?_
  (first | refine au ?_ | exact au0)
  first | refine callF_eq (prim_Number_spec _ _) ?_ | refine callG_eq rfl (prim_Number_spec _ _) ?_
  unfold datK
  cases h : isNum k with
  | false =>
    (first | refine au ?_ | exact au0)
    exact ⟨fz_of, sub_of⟩
  | true =>
    rw [if_neg (by simp)]
    by_cases h1 : k = 1
    · subst h1
      have e : bitsV .and .u64 ((upK 1 n : Nat) : Int) 1 = ((n % 2 : Nat) : Int) := by
        rw [and_one _ (upK_lt 1 n), show upK 1 n = n % 256 from rfl]; omega
      rw [if_pos rfl]
      (first | refine au ?_ | exact au0)
      rw [e]
      exact ⟨fz_of, sub_of⟩
    · rw [if_neg h1]
      (first | refine au ?_ | exact au0)
      first | refine callF_eq (prim_Signed_spec _ _) ?_ | refine callG_eq rfl (prim_Signed_spec _ _) ?_
      cases hs : sgK k with
      | false =>
        (first | refine au ?_ | exact au0)
        exact ⟨fz_of, sub_of⟩
      | true =>
        (first | refine au ?_ | exact au0)
        have hb := szK_num h
        have hr := sgnI_range hb n
        refine rng_id (show IntKind.i64.wrap ((upK k n : Nat) : Int) = sgnI (szK k) n from by rw [upK, if_pos hs, wrap_i64]; unfold wide; omega) ?_
        (first | refine au ?_ | exact au0)
        refine bsplit_dec (fun c => ?_) (fun c => ?_)
        · rw [if_pos ⟨rfl, c⟩]
          (first | refine au ?_ | exact au0)
          rw [show IntKind.u64.wrap (0 - ((upK k n : Nat) : Int)) = (((-(sgnI (szK k) n)).toNat : Nat) : Int) from by rw [upK, if_pos hs, wrap_u64]; unfold wide; omega]
          exact ⟨fz_of, sub_of⟩
        · rw [if_neg (fun q => c q.2)]
          (first | refine au ?_ | exact au0)
          exact ⟨fz_of, sub_of⟩
end Go.Proofs.YtjaigpidmngaaaaGreat

namespace Go.Proofs.YtjaigpidmngaaaaGreat
abbrev dat0 : Dat := ⟨0, false, 0, []⟩
def chkD (l : List Ty) (t : Int) (o b : Opd) : Dat :=
  if o.k = 2 then ⟨1, o.neg && decide (0 < o.num), o.num, []⟩
  else if o.k = 4 then ⟨3, false, o.num, []⟩
  else if o.k = 3 then
    (if b.k = 1 ∧ 0 < (whatK l (findP l t b.t)).1.2 then
      (match itemIx l ((whatK l (findP l t b.t)).1.2 - 1) o.t with
        | some n => datK 9 ((tAt l ((whatK l (findP l t b.t)).1.2 - 1)).its.getD n it0).num
        | none => ⟨2, false, 0, o.t⟩)
     else ⟨2, false, 0, o.t⟩)
  else dat0
abbrev intP (p : List (Bool × Nat)) : List (Bool × Int) := p.map fun x => (x.1, (x.2 : Int))
def trX : Option Vl → Dat
  | none => dat0
  | some x => if x.kd = 10 then ⟨2, false, 0, x.tx⟩ else datK x.kd x.num
theorem trX_no : trX none = dat0 := rfl
theorem trX_txt {k : Int} (h : k = 10) (n : Nat) (x : List UInt8) (vs : List Vl) : trX (some (.mk k n x vs)) = ⟨2, false, 0, x⟩ := if_pos h
theorem trX_num {k : Int} (h : ¬ k = 10) (n : Nat) (x : List UInt8) (vs : List Vl) : trX (some (.mk k n x vs)) = datK k n := if_neg h
def trD (l : List Ty) (t : Int) (v : Vl) (o b : Opd) : Dat :=
  if o.k ≠ 1 then chkD l t o b
  else if (findP l t o.t).2.2 ≠ 0 then dat0
  else trX (if knownT l t then atP l t (intP (findP l t o.t).1) v else none)
def cmpN (a b : Nat) : Int := if a < b then -1 else if b < a then 1 else 0
def neg? (d : Dat) : Bool := d.ng && decide (0 < d.nu)
def cmpD (a b : Dat) : Int :=
  if a.kd = 2 then Lib.compareBytes a.tx b.tx
  else if a.kd = 3 then cmpN a.nu b.nu
  else if a.kd ≠ 1 then 0
  else if neg? a = true ∧ neg? b = true then cmpN b.nu a.nu
  else if neg? a = true then -1
  else if neg? b = true then 1
  else cmpN a.nu b.nu
def relB (rel : Int) (a b : Dat) : Bool :=
  if a.kd ≠ b.kd ∨ a.kd = 0 then false
  else if rel = 1 then decide (cmpD a b = 0)
  else if rel = 2 then decide (cmpD a b ≠ 0)
  else if rel = 3 then decide (cmpD a b < 0)
  else if rel = 4 then decide (cmpD a b ≤ 0)
  else if rel = 5 then decide (0 < cmpD a b)
  else if rel = 6 then decide (0 ≤ cmpD a b)
  else false
end Go.Proofs.YtjaigpidmngaaaaGreat

namespace Go.Proofs.YtjaigpidmngaaaaGreat
theorem lkDrop_at {α : Type} (l : List α) (d : α) (i : Nat) (h : i < l.length) : l.drop i = l.getD i d :: l.drop (i + 1) := by
  rw [List.drop_eq_getElem_cons h]; congr 1; simp [List.getD, h]
theorem lku8lit (c : UInt8) (n : Nat) (hn : n < 256) : ((c.toNat : Nat) : Int) = (n : Int) ↔ c = UInt8.ofNat n := by
  rw [Int.ofNat_inj]
  constructor
  · intro h; apply UInt8.toNat.inj; rw [h, UInt8.toNat_ofNat']; omega
  · intro h; rw [h, UInt8.toNat_ofNat']; omega
theorem u8eq (c d : UInt8) : ((c.toNat : Nat) : Int) = ((d.toNat : Nat) : Int) ↔ c = d := by
  rw [Int.ofNat_inj]
  exact ⟨fun h => UInt8.toNat.inj h, fun h => by rw [h]⟩
theorem lex_lt {a b a' b' B : Nat} (h : a' < a) (hb : b' < B) : a' * B + b' < a * B + b := by
  have : (a' + 1) * B ≤ a * B := Nat.mul_le_mul_right B h
  rw [Nat.add_mul] at this
  omega
def wild (c : UInt8) : Bool := c == 37 || c == 95
def lead (p : List UInt8) : List UInt8 := p.takeWhile fun c => !wild c
def okc (c d : UInt8) : Prop := c = 95 ∨ c = d
def Mt : List UInt8 → List UInt8 → Prop
  | [], s => s = []
  | c :: p, s => (c = 37 ∧ ∃ k, k ≤ s.length ∧ Mt p (s.drop k)) ∨ (c ≠ 37 ∧ ∃ d s', s = d :: s' ∧ okc c d ∧ Mt p s')
def mtB : List UInt8 → List UInt8 → Bool
  | [], s => s.isEmpty
  | c :: p, s => if c = 37 then (List.range (s.length + 1)).any fun k => mtB p (s.drop k) else match s with
    | [] => false
    | d :: s' => (c == 95 || c == d) && mtB p s'
theorem mtB_iff : ∀ {p s : List UInt8}, mtB p s = true ↔ Mt p s
  | [], s => by simp [mtB, Mt]
  | c :: p, s => by
    rw [mtB.eq_def, Mt]
    show (if c = 37 then (List.range (s.length + 1)).any (fun k => mtB p (s.drop k)) else match s with | [] => false | d :: s' => (c == 95 || c == d) && mtB p s') = true ↔ _
    by_cases hc : c = 37
    · rw [if_pos hc, List.any_eq_true]
      constructor
      · rintro ⟨k, h1, h2⟩
        rw [List.mem_range] at h1
        exact .inl ⟨hc, k, by omega, mtB_iff.1 h2⟩
      · rintro (⟨_, k, h1, h2⟩ | ⟨h, _⟩)
        · exact ⟨k, by rw [List.mem_range]; omega, mtB_iff.2 h2⟩
        · exact (h hc).elim
    · rw [if_neg hc]
      cases s with
      | nil => simp [hc]
      | cons d s' =>
        simp only [Bool.and_eq_true, Bool.or_eq_true, beq_iff_eq]
        constructor
        · rintro ⟨h1, h2⟩
          exact .inr ⟨hc, d, s', rfl, h1, mtB_iff.1 h2⟩
        · rintro (⟨h, _⟩ | ⟨_, d', s2, h1, h2, h3⟩)
          · exact (hc h).elim
          · simp only [List.cons.injEq] at h1
            rw [h1.1, h1.2]
            exact ⟨h2, mtB_iff.2 h3⟩
theorem mtB_true {p s : List UInt8} (h : Mt p s) : mtB p s = true := mtB_iff.2 h
theorem mtB_false {p s : List UInt8} (h : ¬ Mt p s) : mtB p s = false := by
  cases hb : mtB p s with
  | true => exact (h (mtB_iff.1 hb)).elim
  | false => rfl
section
variable {p s : List UInt8} {i k : Nat}
theorem Mt_pct (hi : i < p.length) (hc : p.getD i 0 = 37) (hk : k ≤ s.length) : Mt (p.drop i) (s.drop k) ↔ ∃ f, k ≤ f ∧ f ≤ s.length ∧ Mt (p.drop (i + 1)) (s.drop f) := by
  rw [lkDrop_at p 0 i hi, Mt, hc]
  constructor
  · rintro (⟨_, f, h1, h2⟩ | ⟨h, _⟩)
    · rw [List.drop_drop] at h2
      rw [List.length_drop] at h1
      exact ⟨k + f, by omega, by omega, h2⟩
    · exact (h rfl).elim
  · rintro ⟨f, h1, h2, h3⟩
    refine .inl ⟨rfl, f - k, by rw [List.length_drop]; omega, ?_⟩
    rw [List.drop_drop, show k + (f - k) = f from by omega]
    exact h3
theorem Mt_chr (hi : i < p.length) (hc : p.getD i 0 ≠ 37) (hk : k < s.length) : Mt (p.drop i) (s.drop k) ↔ okc (p.getD i 0) (s.getD k 0) ∧ Mt (p.drop (i + 1)) (s.drop (k + 1)) := by
  rw [lkDrop_at p 0 i hi, Mt, lkDrop_at s 0 k hk]
  constructor
  · rintro (⟨h, _⟩ | ⟨_, d, s', h1, h2, h3⟩)
    · exact (hc h).elim
    · simp only [List.cons.injEq] at h1
      rw [h1.1, h1.2]
      exact ⟨h2, h3⟩
  · rintro ⟨h1, h2⟩
    exact .inr ⟨hc, _, _, rfl, h1, h2⟩
theorem Mt_out (hi : i < p.length) (hc : p.getD i 0 ≠ 37) (hk : s.length ≤ k) : ¬ Mt (p.drop i) (s.drop k) := by
  rw [lkDrop_at p 0 i hi, Mt, List.drop_eq_nil_of_le hk]
  rintro (⟨h, _⟩ | ⟨_, d, s', h1, _⟩)
  · exact hc h
  · cases h1
theorem Mt_end (hi : p.length ≤ i) : Mt (p.drop i) (s.drop k) ↔ s.length ≤ k := by
  rw [List.drop_eq_nil_of_le hi, Mt, List.drop_eq_nil_iff]
theorem Mt_lit : ∀ (m b f : Nat), f ≤ s.length → (∀ t, t < m → b + t < p.length ∧ p.getD (b + t) 0 ≠ 37) → Mt (p.drop b) (s.drop f) → f + m ≤ s.length ∧ Mt (p.drop (b + m)) (s.drop (f + m))
  | 0, b, f, hf, _, h => ⟨hf, h⟩
  | m + 1, b, f, hf, hl, h => by
    have h0 := hl 0 (by omega)
    by_cases hfs : f < s.length
    · have h1 := ((Mt_chr h0.1 h0.2 hfs).1 h).2
      have h2 := Mt_lit m (b + 1) (f + 1) (by omega) (fun t ht => by have := hl (t + 1) (by omega); rwa [show b + 1 + t = b + (t + 1) from by omega]) h1
      rw [show b + (m + 1) = b + 1 + m from by omega, show f + (m + 1) = f + 1 + m from by omega]
      exact h2
    · exact (Mt_out h0.1 h0.2 (by omega) h).elim
structure MInv (p s : List UInt8) (i k : Nat) (bk : Int) (fr : Nat) : Prop where
  hi : i ≤ p.length
  hk : k ≤ s.length
  hf : fr ≤ k
  ok : Mt p s ↔ Mt (p.drop i) (s.drop k) ∨ ∃ b : Nat, bk = b ∧ ∃ f, fr < f ∧ f ≤ s.length ∧ Mt (p.drop b) (s.drop f)
  bk : bk = -1 ∨ ∃ b : Nat, bk = b ∧ b ≤ i ∧ k - fr = i - b ∧ ∀ t, t < i - b → p.getD (b + t) 0 ≠ 37
def mu (p s : List UInt8) (i : Nat) (bk : Int) (fr : Nat) : Nat := (((p.length : Int) - bk).toNat * (s.length + 1) + (s.length - fr)) * (p.length + 1) + (p.length - i)
theorem MInv.init : MInv p s 0 0 (-1) 0 := ⟨Nat.zero_le _, Nat.zero_le _, Nat.le_refl _, by simp, .inl rfl⟩
variable {bk : Int} {fr : Nat}
theorem MInv.star (h : MInv p s i k bk fr) (hi : i < p.length) (hc : p.getD i 0 = 37) : MInv p s (i + 1) k ((i + 1 : Nat) : Int) k ∧ mu p s (i + 1) ((i + 1 : Nat) : Int) k < mu p s i bk fr := by
  refine ⟨⟨hi, h.hk, Nat.le_refl _, ?_, .inr ⟨i + 1, rfl, Nat.le_refl _, by omega, fun t ht => by omega⟩⟩, ?_⟩
  · rw [h.ok, Mt_pct hi hc h.hk]
    constructor
    · rintro (⟨f, h1, h2, h3⟩ | ⟨b, e, f, h1, h2, h3⟩)
      · by_cases hkf : f = k
        · subst hkf; exact .inl h3
        · exact .inr ⟨i + 1, rfl, f, by omega, h2, h3⟩
      · rcases h.bk with h4 | ⟨b', e', h5, h6, h7⟩
        · omega
        · have : b' = b := by omega
          subst this
          have h8 := Mt_lit (i - b') b' f h2 (fun t ht => ⟨by omega, h7 t ht⟩) h3
          rw [show b' + (i - b') = i from by omega, Mt_pct hi hc h8.1] at h8
          obtain ⟨h9, f', h10, h11, h12⟩ := h8
          have := h.hf
          exact .inr ⟨i + 1, rfl, f', by omega, h11, h12⟩
    · rintro (h1 | ⟨b, e, f, h1, h2, h3⟩)
      · exact .inl ⟨k, Nat.le_refl _, h.hk, h1⟩
      · have : b = i + 1 := by omega
        subst this
        exact .inl ⟨f, by omega, h2, h3⟩
  · refine lex_lt (lex_lt ?_ (by omega)) (by omega)
    rcases h.bk with h4 | ⟨b', e', h5, _⟩ <;> omega
theorem MInv.fin (h : MInv p s i k bk fr) (hk : k = s.length) (hc : i < p.length → p.getD i 0 ≠ 37) : Mt p s ↔ i = p.length := by
  have hi := h.hi
  have hf := h.hf
  rw [h.ok]
  constructor
  · rintro (h1 | ⟨b, e, f, h1, h2, h3⟩)
    · by_cases hip : i < p.length
      · exact (Mt_out hip (hc hip) (by omega) h1).elim
      · omega
    · rcases h.bk with h4 | ⟨b', e', h5, h6, h7⟩
      · omega
      · have : b' = b := by omega
        subst this
        have h8 := (Mt_lit (i - b') b' f h2 (fun t ht => ⟨by omega, h7 t ht⟩) h3).1
        omega
  · intro hip
    exact .inl ((Mt_end (by omega)).2 (by omega))
theorem MInv.chr (h : MInv p s i k bk fr) (hi : i < p.length) (hc : p.getD i 0 ≠ 37) (hk : k < s.length) (ho : okc (p.getD i 0) (s.getD k 0)) : MInv p s (i + 1) (k + 1) bk fr ∧ mu p s (i + 1) bk fr < mu p s i bk fr := by
  refine ⟨⟨hi, hk, by have := h.hf; omega, ?_, ?_⟩, by unfold mu; omega⟩
  · rw [h.ok, Mt_chr hi hc hk, and_iff_right ho]
  · have hf := h.hf
    rcases h.bk with h4 | ⟨b, e, h5, h6, h7⟩
    · exact .inl h4
    · refine .inr ⟨b, e, by omega, by omega, fun t ht => ?_⟩
      by_cases htb : t < i - b
      · exact h7 t htb
      · rw [show b + t = i from by omega]; exact hc
theorem Mt_miss (hk : k < s.length) (hc : i < p.length → p.getD i 0 ≠ 37 ∧ ¬ okc (p.getD i 0) (s.getD k 0)) : ¬ Mt (p.drop i) (s.drop k) := by
  by_cases hip : i < p.length
  · rw [Mt_chr hip (hc hip).1 hk]; exact fun q => (hc hip).2 q.1
  · rw [Mt_end (by omega)]; omega
theorem MInv.back (h : MInv p s i k bk fr) (hk : k < s.length) (hc : i < p.length → p.getD i 0 ≠ 37 ∧ ¬ okc (p.getD i 0) (s.getD k 0)) (hb : 0 ≤ bk) : MInv p s bk.toNat (fr + 1) bk (fr + 1) ∧ mu p s bk.toNat bk (fr + 1) < mu p s i bk fr := by
  have hm := Mt_miss hk hc
  have hi := h.hi
  have hf := h.hf
  rcases h.bk with h4 | ⟨b, e, h5, h6, h7⟩
  · omega
  · subst e
    rw [Int.toNat_natCast]
    refine ⟨⟨by omega, by omega, Nat.le_refl _, ?_, .inr ⟨b, rfl, by omega, by omega, fun t ht => by omega⟩⟩, ?_⟩
    · rw [h.ok]
      constructor
      · rintro (h1 | ⟨b', e, f, h1, h2, h3⟩)
        · exact (hm h1).elim
        · have : b' = b := by omega
          subst this
          by_cases hff : f = fr + 1
          · subst hff; exact .inl h3
          · exact .inr ⟨b', rfl, f, by omega, h2, h3⟩
      · rintro (h1 | ⟨b', e, f, h1, h2, h3⟩)
        · exact .inr ⟨b, rfl, fr + 1, by omega, by omega, h1⟩
        · have : b' = b := by omega
          subst this
          exact .inr ⟨b', rfl, f, by omega, h2, h3⟩
    · exact lex_lt (by omega) (by omega)
theorem MInv.none (h : MInv p s i k bk fr) (hk : k < s.length) (hc : i < p.length → p.getD i 0 ≠ 37 ∧ ¬ okc (p.getD i 0) (s.getD k 0)) (hb : bk < 0) : ¬ Mt p s := by
  rw [h.ok]
  rintro (h1 | ⟨b, e, _⟩)
  · exact Mt_miss hk hc h1
  · omega
end
end Go.Proofs.YtjaigpidmngaaaaGreat

namespace Go.Proofs.YtjaigpidmngaaaaGreat
def tstB (D : Opd → Opd → Dat) (op rel : Int) (a : List Opd) : Bool :=
  if op = 1 ∧ a.length = 2 then relB rel (D (a.getD 0 opd0) (a.getD 1 opd0)) (D (a.getD 1 opd0) (a.getD 0 opd0))
  else if op = 2 ∧ a.length = 3 then relB 6 (D (a.getD 0 opd0) (a.getD 1 opd0)) (D (a.getD 1 opd0) (a.getD 0 opd0)) && relB 4 (D (a.getD 0 opd0) (a.getD 2 opd0)) (D (a.getD 2 opd0) (a.getD 0 opd0))
  else if op = 3 ∧ a.length = 2 then decide ((D (a.getD 0 opd0) (a.getD 1 opd0)).kd = 2) && (decide ((D (a.getD 1 opd0) (a.getD 0 opd0)).kd = 2) && mtB (D (a.getD 1 opd0) (a.getD 0 opd0)).tx (D (a.getD 0 opd0) (a.getD 1 opd0)).tx)
  else false
mutual
def holdB (D : Opd → Opd → Dat) : Ex → Bool
  | .mk op rel a k => if op = 4 then holdN D k else if op = 5 then holdA D k else if op = 6 then holdO D k else tstB D op rel a
def holdN (D : Opd → Opd → Dat) : List Ex → Bool
  | [] => false
  | k :: _ => !holdB D k
def holdA (D : Opd → Opd → Dat) : List Ex → Bool
  | [] => true
  | k :: ks => holdB D k && holdA D ks
def holdO (D : Opd → Opd → Dat) : List Ex → Bool
  | [] => false
  | k :: ks => holdB D k || holdO D ks
end
theorem holdA_hit {D : Opd → Opd → Dat} : ∀ {ks : List Ex} {i : Nat} (h : i < ks.length), holdB D ks[i] = false → holdA D ks = false
  | [], i, h, _ => by simp at h
  | a :: ks, 0, h, q => by simp only [List.getElem_cons_zero] at q; simp [holdA, q]
  | a :: ks, i + 1, h, q => by
    have := holdA_hit (D := D) (ks := ks) (i := i) (by simpa using h) (by simpa using q)
    simp [holdA, this]
theorem holdA_all {D : Opd → Opd → Dat} : ∀ {ks : List Ex} (_ : ∀ j (h : j < ks.length), holdB D ks[j] = true), holdA D ks = true
  | [], _ => by simp [holdA]
  | a :: ks, h => by
    have h1 : holdB D a = true := h 0 (by simp)
    have := holdA_all (D := D) (ks := ks) (fun j q => h (j + 1) (by simpa using q))
    simp [holdA, h1, this]
theorem holdO_hit {D : Opd → Opd → Dat} : ∀ {ks : List Ex} {i : Nat} (h : i < ks.length), holdB D ks[i] = true → holdO D ks = true
  | [], i, h, _ => by simp at h
  | a :: ks, 0, h, q => by simp only [List.getElem_cons_zero] at q; simp [holdO, q]
  | a :: ks, i + 1, h, q => by
    have := holdO_hit (D := D) (ks := ks) (i := i) (by simpa using h) (by simpa using q)
    simp [holdO, this]
theorem holdO_none {D : Opd → Opd → Dat} : ∀ {ks : List Ex} (_ : ∀ j (h : j < ks.length), holdB D ks[j] = false), holdO D ks = false
  | [], _ => by simp [holdO]
  | a :: ks, h => by
    have h1 : holdB D a = false := h 0 (by simp)
    have := holdO_none (D := D) (ks := ks) (fun j q => h (j + 1) (by simpa using q))
    simp [holdO, h1, this]
end Go.Proofs.YtjaigpidmngaaaaGreat

namespace Go.Proofs.YtjaigpidmngaaaaGreat
set_option maxRecDepth 100000
def path_Find.n : Nat := 55
noncomputable def path_Find.c : C := (.seq (.reg [oo_ 3 (.box 22 (.t 0)), oo_ 4 (.box 3 (.t 1)), oo_ 6 (.allc 96 [.nilS]), oo_ 7 (.allc 3 [(.int .i64 0)]), oo_ 8 (.allc 30 [(.int .i64 0)])]) (.seq (.seq (.reg [ol_ 16 3, ol_ 17 4, oo_ 18 (.call 99 [(.t 16), (.t 17)]), oo_ 19 (.un .not (.t 18))]) (.cond (.t 19) (.seq (.reg [os_ (.store 1 (.t 6) (.c .nilS)), os_ (.store 1 (.t 7) (.c (.int .i64 0))), os_ (.store 1 (.t 8) (.c (.int .i64 8)))]) .ret) .skip)) (.seq (.seq (.reg [om_ 20 2, oo_ 21 (.call 100 [(.t 20)])]) (.block 0 (.rangeF (.t 21) [22, 23] (.reg [om_ 10 23]) (.block 1 (.seq (.reg [om_ 24 10, oo_ 25 (.un .not (.t 24))]) (.cond (.t 25) (.seq (.reg [os_ (.store 1 (.t 6) (.c .nilS)), os_ (.store 1 (.t 7) (.c (.int .i64 0))), os_ (.store 1 (.t 8) (.c (.int .i64 1)))]) .ret) .skip)))))) (.seq (.reg [oo_ 11 (.allc 96 [.nilS])]) (.seq (.seq (.reg [om_ 26 2, oo_ 27 (.call 100 [(.t 26)])]) (.block 2 (.rangeF (.t 27) [28, 29] (.reg [oo_ 12 (.allc 145 [(.str []), (.int .i64 0)]), os_ (.store 2 (.t 12) (.t 28))]) (.block 3 (.seq (.reg [ol_ 31 3, ol_ 32 4, oo_ 33 (.load (some 2) (.t 12)), oo_ 34 (.call 101 [(.t 31), (.t 32), (.t 33)]), om_ 30 34, oo_ 35 (.extr (.t 30) 0), oo_ 36 (.extr (.t 30) 1), oo_ 37 (.extr (.t 30) 2), oo_ 13 (.allc 147 [(.bool false), (.int .i64 0)]), os_ (.store 2 (.t 13) (.t 35)), om_ 14 36, om_ 15 37]) (.seq (.seq (.reg [om_ 38 15, oo_ 39 (.bin .neq (.t 38) (.c (.int .i64 0)))]) (.cond (.t 39) (.seq (.reg [om_ 40 15, os_ (.store 1 (.t 6) (.c .nilS)), os_ (.store 1 (.t 7) (.c (.int .i64 0))), os_ (.store 1 (.t 8) (.t 40))]) .ret) .skip)) (.reg [ol_ 41 11, oo_ 42 (.load (some 2) (.t 13)), oo_ 43 (.bslice 147 2 1 [(.bool false), (.int .i64 0)] [(0, (.t 42))]), oo_ 44 (.append 147 false 2 16 (.t 41) (.t 43)), om_ 45 14, os_ (.store 1 (.t 11) (.t 44)), os_ (.store 1 (.t 4) (.t 45))]))))))) (.seq (.dreg [ol_ 46 11, ol_ 47 4, os_ (.store 1 (.t 6) (.t 46))] [os_ (.store 1 (.t 7) (.t 47)), os_ (.store 1 (.t 8) (.c (.int .i64 0)))]) .ret))))))
theorem path_Find.code : comp PG [] (Tryz.f55.body.getD .skip) = path_Find.c := by kernel_rfl
theorem path_Find.of : OfE PG 55 3 path_Find.c [(.cell 6 none), (.cell 7 none), (.cell 8 none)] := fnE (nt := 48) mixed Tryz.func55 path_Find.code (by kernel_rfl) (by kernel_rfl) (by kernel_rfl) (by kernel_rfl) (by kernel_rfl) (by kernel_rfl)
def path_At.n : Nat := 56
noncomputable def path_At.c : C := (.seq (.reg [oo_ 7 (.box 52 (.t 3)), oo_ 8 (.allc 52 [(.int .i64 0), (.int .u64 0), (.str []), .nilS]), oo_ 9 (.mv (.c (.bool false)))]) (.seq (.seq (.reg [om_ 17 0, om_ 18 1, oo_ 19 (.call 99 [(.t 17), (.t 18)]), oo_ 20 (.un .not (.t 19))]) (.cond (.t 20) (.seq (.reg [oo_ 21 (.build [(.int .i64 0), (.int .u64 0), (.str []), .nilS] []), os_ (.store 4 (.t 8) (.t 21)), oo_ 9 (.mv (.c (.bool false)))]) .ret) .skip)) (.seq (.seq (.reg [om_ 22 2, oo_ 23 (.len false (.t 22)), oo_ 24 (.mv (.c (.int .i64 0)))]) (.block 0 (.loop (.seq (.reg [oo_ 25 (.bin .lss (.t 24) (.t 23))]) (.seq (.cond (.t 25) .skip (.exit 0)) (.seq (.block 1 (.seq (.reg [oo_ 26 (.iaddr 2 (.t 22) (.t 24)), oo_ 27 (.load (some 2) (.t 26)), oo_ 11 (.allc 147 [(.bool false), (.int .i64 0)]), os_ (.store 2 (.t 11) (.t 27))]) (.seq (.dreg [om_ 28 1, om_ 29 0, om_ 30 1, oo_ 31 (.iaddr 6 (.t 29) (.t 30)), oo_ 32 (.load (some 6) (.t 31)), oo_ 13 (.allc 67 [(.int .i64 0), (.str []), (.int .i64 0), (.int .i64 0), (.int .i64 0), .nilS]), om_ 12 28] [os_ (.store 6 (.t 13) (.t 32))]) (.seq (.reg [of_ 33 1 11, ol_ 34 33, om_ 14 34]) (.seq (.block 2 (.seq (.dreg [of_ 43 0 11, ol_ 44 43, oo_ 45 (.load (some 6) (.t 13)), oo_ 46 (.call 102 [(.t 45)])] [oo_ 47 (.beq true (.t 44) (.t 46)), om_ 48 47, og_ 49 48 false (.faddr 0 (.t 11)), og_ 50 48 false (.load none (.t 49)), og_ 51 48 false (.un .not (.t 50)), og_ 52 48 false (.mv (.t 51)), og_ 53 52 true (.load (some 6) (.t 13)), og_ 54 52 true (.call 103 [(.t 53)]), og_ 55 52 true (.un .not (.t 54)), og_ 56 48 false (.pick (.t 52) (.t 55) (.c (.bool false))), oo_ 57 (.pick (.t 48) (.c (.bool true)) (.t 56)), om_ 58 57, og_ 59 58 false (.faddr 1 (.t 11)), og_ 60 58 false (.load none (.t 59)), og_ 61 58 false (.bin .lss (.t 60) (.c (.int .i64 0))), oo_ 62 (.pick (.t 58) (.c (.bool true)) (.t 61)), om_ 42 62]) (.cond (.t 42) (.seq (.reg [oo_ 63 (.build [(.int .i64 0), (.int .u64 0), (.str []), .nilS] []), os_ (.store 4 (.t 8) (.t 63)), oo_ 9 (.mv (.c (.bool false)))]) .ret) (.seq (.reg [of_ 65 0 11, ol_ 66 65, om_ 64 66]) (.cond (.t 64) (.reg [of_ 67 3 13, ol_ 68 67, om_ 1 68]) (.seq (.reg [of_ 70 1 11, ol_ 71 70, of_ 72 5 13, ol_ 73 72, oo_ 74 (.len false (.t 73)), oo_ 75 (.bin .geq (.t 71) (.t 74)), om_ 69 75]) (.cond (.t 69) (.seq (.reg [oo_ 76 (.build [(.int .i64 0), (.int .u64 0), (.str []), .nilS] []), os_ (.store 4 (.t 8) (.t 76)), oo_ 9 (.mv (.c (.bool false)))]) .ret) (.reg [of_ 35 5 13, ol_ 36 35, of_ 37 1 11, ol_ 38 37, oo_ 39 (.iaddr 5 (.t 36) (.t 38)), of_ 40 2 39, ol_ 41 40, om_ 1 41])))))))) (.seq (.seq (.reg [of_ 77 0 13, ol_ 78 77, oo_ 79 (.bin .eql (.t 78) (.c (.int .i64 14)))]) (.cond (.t 79) (.seq (.reg [om_ 81 0, om_ 82 12, of_ 83 1 7, ol_ 84 83, oo_ 85 (.call 104 [(.t 81), (.t 82), (.t 84)]), om_ 80 85, oo_ 86 (.extr (.t 80) 0), oo_ 87 (.extr (.t 80) 1), om_ 15 86, om_ 16 87]) (.seq (.seq (.reg [om_ 88 16, oo_ 89 (.un .not (.t 88)), om_ 90 89, og_ 91 90 false (.mv (.t 15)), og_ 92 90 false (.faddr 1 (.t 11)), og_ 93 90 false (.load none (.t 92)), og_ 94 90 false (.bin .neq (.t 91) (.t 93)), oo_ 95 (.pick (.t 90) (.c (.bool true)) (.t 94))]) (.cond (.t 95) (.seq (.reg [oo_ 96 (.build [(.int .i64 0), (.int .u64 0), (.str []), .nilS] []), os_ (.store 4 (.t 8) (.t 96)), oo_ 9 (.mv (.c (.bool false)))]) .ret) .skip)) (.reg [oo_ 14 (.mv (.c (.int .i64 0)))]))) .skip)) (.seq (.seq (.reg [om_ 97 14, of_ 98 3 7, ol_ 99 98, oo_ 100 (.len false (.t 99)), oo_ 101 (.bin .geq (.t 97) (.t 100))]) (.cond (.t 101) (.seq (.reg [oo_ 102 (.build [(.int .i64 0), (.int .u64 0), (.str []), .nilS] []), os_ (.store 4 (.t 8) (.t 102)), oo_ 9 (.mv (.c (.bool false)))]) .ret) .skip)) (.reg [of_ 103 3 7, ol_ 104 103, om_ 105 14, oo_ 106 (.iaddr 4 (.t 104) (.t 105)), oo_ 107 (.load (some 4) (.t 106)), os_ (.store 4 (.t 7) (.t 107))])))))))) (.reg [oo_ 108 (.bin .add (.t 24) (.c (.int .i64 1))), om_ 24 108]))))))) (.seq (.reg [oo_ 109 (.load (some 4) (.t 7)), os_ (.store 4 (.t 8) (.t 109)), oo_ 9 (.mv (.c (.bool true)))]) .ret))))
theorem path_At.code : comp PG [] (Tryz.f56.body.getD .skip) = path_At.c := by kernel_rfl
theorem path_At.of : OfE PG 56 4 path_At.c [(.cell 8 (some 4)), (.t 9)] := fnE (nt := 110) mixed Tryz.func56 path_At.code (by kernel_rfl) (by kernel_rfl) (by kernel_rfl) (by kernel_rfl) (by kernel_rfl) (by kernel_rfl)
def path_known.n : Nat := 99
noncomputable def path_known.c : C := (.seq (.reg [oo_ 4 (.mv (.c (.bool false)))]) (.seq (.reg [om_ 5 1, oo_ 6 (.bin .geq (.t 5) (.c (.int .i64 0))), om_ 7 6, og_ 8 7 true (.mv (.t 1)), og_ 9 7 true (.mv (.t 0)), og_ 10 7 true (.len false (.t 9)), og_ 11 7 true (.bin .lss (.t 8) (.t 10)), oo_ 12 (.pick (.t 7) (.t 11) (.c (.bool false))), om_ 13 12, og_ 14 13 true (.mv (.t 0)), og_ 15 13 true (.call 37 [(.t 14)]), og_ 16 13 true (.field 0 none (.t 15)), og_ 17 13 true (.bin .eql (.t 16) (.c (.int .i64 0))), oo_ 18 (.pick (.t 13) (.t 17) (.c (.bool false))), om_ 4 18]) .ret))
theorem path_known.code : comp PG [] (Tryz.f99.body.getD .skip) = path_known.c := by kernel_rfl
theorem path_known.of : OfE PG 99 2 path_known.c [(.t 4)] := fnE (nt := 19) mixed Tryz.func99 path_known.code (by kernel_rfl) (by kernel_rfl) (by kernel_rfl) (by kernel_rfl) (by kernel_rfl) (by kernel_rfl)
def path_pieces.n : Nat := 100
noncomputable def path_pieces.c : C := (.seq (.reg [oo_ 1 (.box 9 (.t 0)), oo_ 2 (.mv (.c .nilF))]) (.seq (.reg [oo_ 3 (.mkfn 145 [] [(.t 1)]), om_ 2 3]) .ret))
theorem path_pieces.code : comp PG [] (Tryz.f100.body.getD .skip) = path_pieces.c := by kernel_rfl
theorem path_pieces.of : OfE PG 100 1 path_pieces.c [(.t 2)] := fnE (nt := 4) mixed Tryz.func100 path_pieces.code (by kernel_rfl) (by kernel_rfl) (by kernel_rfl) (by kernel_rfl) (by kernel_rfl) (by kernel_rfl)
def path_step.n : Nat := 101
noncomputable def path_step.c : C := (.seq (.reg [oo_ 5 (.box 145 (.t 2)), oo_ 6 (.allc 147 [(.bool false), (.int .i64 0)]), oo_ 7 (.mv (.c (.int .i64 0))), oo_ 8 (.mv (.c (.int .i64 0)))]) (.seq (.reg [om_ 12 0, om_ 13 1, oo_ 14 (.iaddr 6 (.t 12) (.t 13)), oo_ 15 (.load (some 6) (.t 14)), oo_ 9 (.allc 67 [(.int .i64 0), (.str []), (.int .i64 0), (.int .i64 0), (.int .i64 0), .nilS]), os_ (.store 6 (.t 9) (.t 15))]) (.seq (.block 0 (.seq (.seq (.reg [of_ 17 0 5, ol_ 18 17, oo_ 19 (.bin .eql (.t 18) (.c (.str []))), om_ 20 19, og_ 21 20 true (.load (some 6) (.t 9)), og_ 22 20 true (.call 102 [(.t 21)]), og_ 23 20 true (.un .not (.t 22)), oo_ 24 (.pick (.t 20) (.t 23) (.c (.bool false))), om_ 16 24]) (.cond (.t 16) .skip (.reg [of_ 25 0 5, ol_ 26 25, oo_ 27 (.bin .neq (.t 26) (.c (.str []))), om_ 28 27, og_ 29 28 true (.load (some 6) (.t 9)), og_ 30 28 true (.call 103 [(.t 29)]), og_ 31 28 true (.un .not (.t 30)), oo_ 32 (.pick (.t 28) (.t 31) (.c (.bool false))), om_ 16 32]))) (.cond (.t 16) (.seq (.reg [oo_ 33 (.build [(.bool false), (.int .i64 0)] []), os_ (.store 2 (.t 6) (.t 33)), oo_ 7 (.mv (.c (.int .i64 0))), oo_ 8 (.mv (.c (.int .i64 4)))]) .ret) (.seq (.reg [of_ 35 0 5, ol_ 36 35, oo_ 37 (.bin .eql (.t 36) (.c (.str []))), om_ 38 37, og_ 39 38 true (.faddr 1 (.t 5)), og_ 40 38 true (.load none (.t 39)), og_ 41 38 true (.faddr 2 (.t 9)), og_ 42 38 true (.load none (.t 41)), og_ 43 38 true (.bin .geq (.t 40) (.t 42)), oo_ 44 (.pick (.t 38) (.t 43) (.c (.bool false))), om_ 34 44]) (.cond (.t 34) (.seq (.reg [oo_ 45 (.build [(.bool false), (.int .i64 0)] []), os_ (.store 2 (.t 6) (.t 45)), oo_ 7 (.mv (.c (.int .i64 0))), oo_ 8 (.mv (.c (.int .i64 7)))]) .ret) (.seq (.reg [of_ 47 0 5, ol_ 48 47, oo_ 49 (.bin .eql (.t 48) (.c (.str []))), om_ 46 49]) (.cond (.t 46) (.seq (.dreg [of_ 50 1 5, ol_ 51 50, oo_ 52 (.build [(.bool false), (.int .i64 0)] [(0, (1, (.c (.bool true)))), (1, (1, (.t 51)))]), of_ 53 3 9, ol_ 54 53, os_ (.store 2 (.t 6) (.t 52))] [om_ 7 54, oo_ 8 (.mv (.c (.int .i64 0)))]) .ret) .skip))))))) (.seq (.reg [om_ 56 0, om_ 57 1, of_ 58 0 5, ol_ 59 58, oo_ 60 (.call 42 [(.t 56), (.t 57), (.t 59)]), om_ 55 60, oo_ 61 (.extr (.t 55) 0), oo_ 62 (.extr (.t 55) 1), om_ 10 61, om_ 11 62]) (.seq (.seq (.reg [om_ 63 11, oo_ 64 (.un .not (.t 63))]) (.cond (.t 64) (.seq (.reg [oo_ 65 (.build [(.bool false), (.int .i64 0)] []), os_ (.store 2 (.t 6) (.t 65)), oo_ 7 (.mv (.c (.int .i64 0))), oo_ 8 (.mv (.c (.int .i64 5)))]) .ret) .skip)) (.seq (.dreg [om_ 66 10, oo_ 67 (.build [(.bool false), (.int .i64 0)] [(1, (1, (.t 66)))]), of_ 68 5 9, ol_ 69 68, om_ 70 10, oo_ 71 (.iaddr 5 (.t 69) (.t 70)), of_ 72 2 71, ol_ 73 72, os_ (.store 2 (.t 6) (.t 67))] [om_ 7 73, oo_ 8 (.mv (.c (.int .i64 0)))]) .ret))))))
theorem path_step.code : comp PG [] (Tryz.f101.body.getD .skip) = path_step.c := by kernel_rfl
theorem path_step.of : OfE PG 101 3 path_step.c [(.cell 6 (some 2)), (.t 7), (.t 8)] := fnE (nt := 74) mixed Tryz.func101 path_step.code (by kernel_rfl) (by kernel_rfl) (by kernel_rfl) (by kernel_rfl) (by kernel_rfl) (by kernel_rfl)
def path_elems.n : Nat := 102
noncomputable def path_elems.c : C := (.seq (.reg [oo_ 1 (.box 67 (.t 0)), oo_ 2 (.mv (.c (.bool false)))]) (.seq (.reg [of_ 3 0 1, ol_ 4 3, oo_ 5 (.bin .eql (.t 4) (.c (.int .i64 11))), om_ 6 5, og_ 7 6 false (.faddr 0 (.t 1)), og_ 8 6 false (.load none (.t 7)), og_ 9 6 false (.bin .eql (.t 8) (.c (.int .i64 12))), oo_ 10 (.pick (.t 6) (.c (.bool true)) (.t 9)), om_ 2 10]) .ret))
theorem path_elems.code : comp PG [] (Tryz.f102.body.getD .skip) = path_elems.c := by kernel_rfl
theorem path_elems.of : OfE PG 102 1 path_elems.c [(.t 2)] := fnE (nt := 11) mixed Tryz.func102 path_elems.code (by kernel_rfl) (by kernel_rfl) (by kernel_rfl) (by kernel_rfl) (by kernel_rfl) (by kernel_rfl)
def path_items.n : Nat := 103
noncomputable def path_items.c : C := (.seq (.reg [oo_ 1 (.box 67 (.t 0)), oo_ 2 (.mv (.c (.bool false)))]) (.seq (.reg [of_ 3 0 1, ol_ 4 3, oo_ 5 (.bin .eql (.t 4) (.c (.int .i64 13))), om_ 6 5, og_ 7 6 false (.faddr 0 (.t 1)), og_ 8 6 false (.load none (.t 7)), og_ 9 6 false (.bin .eql (.t 8) (.c (.int .i64 14))), oo_ 10 (.pick (.t 6) (.c (.bool true)) (.t 9)), om_ 2 10]) .ret))
theorem path_items.code : comp PG [] (Tryz.f103.body.getD .skip) = path_items.c := by kernel_rfl
theorem path_items.of : OfE PG 103 1 path_items.c [(.t 2)] := fnE (nt := 11) mixed Tryz.func103 path_items.code (by kernel_rfl) (by kernel_rfl) (by kernel_rfl) (by kernel_rfl) (by kernel_rfl) (by kernel_rfl)
def path_pieces_1.n : Nat := 145
noncomputable def path_pieces_1.c : C := (.seq (.reg [oo_ 3 (.mv (.c (.bool true)))]) (.block 0 (.loop (.seq (.seq (.reg [om_ 9 3, om_ 10 9, og_ 11 10 false (.load none (.t 1)), og_ 12 10 false (.bin .neq (.t 11) (.c (.str []))), oo_ 13 (.pick (.t 10) (.c (.bool true)) (.t 12))]) (.cond (.t 13) .skip (.exit 0))) (.block 1 (.seq (.seq (.reg [ol_ 15 1, oo_ 16 (.call 146 [(.t 15)]), om_ 14 16, oo_ 17 (.extr (.t 14) 0), oo_ 18 (.extr (.t 14) 1), om_ 4 17, om_ 5 18]) (.seq (.reg [om_ 19 5, oo_ 20 (.bin .gtr (.t 19) (.c (.int .i64 0)))]) (.cond (.t 20) (.seq (.seq (.reg [om_ 21 0, om_ 22 4, oo_ 23 (.build [(.str []), (.int .i64 0)] [(1, (1, (.t 22)))]), oo_ 24 (.callv (.t 21) [(.t 23), (.c (.bool true))]), oo_ 25 (.un .not (.t 24))]) (.cond (.t 25) .ret .skip)) (.seq (.reg [ol_ 26 1, om_ 27 5, oo_ 28 (.slice none (.t 26) (some (.t 27)) none), os_ (.store 1 (.t 1) (.t 28)), oo_ 3 (.mv (.c (.bool false)))]) (.exit 1))) .skip))) (.seq (.seq (.reg [om_ 29 3, oo_ 30 (.un .not (.t 29))]) (.cond (.t 30) (.seq (.reg [ol_ 32 1, oo_ 33 (.call 147 [(.t 32), (.c (.str [46]))]), om_ 31 33, oo_ 34 (.extr (.t 31) 0), oo_ 35 (.extr (.t 31) 1), om_ 6 34, om_ 7 35]) (.seq (.seq (.reg [om_ 36 7, oo_ 37 (.un .not (.t 36))]) (.cond (.t 37) (.seq (.reg [om_ 38 0, oo_ 39 (.build [(.str []), (.int .i64 0)] []), oo_ 40 (.callv (.t 38) [(.t 39), (.c (.bool false))])]) .ret) .skip)) (.reg [om_ 41 6, os_ (.store 1 (.t 1) (.t 41))]))) .skip)) (.seq (.reg [ol_ 42 1, oo_ 43 (.call 148 [(.t 42)]), om_ 8 43]) (.seq (.seq (.reg [om_ 44 8, oo_ 45 (.bin .eql (.t 44) (.c (.int .i64 0)))]) (.cond (.t 45) (.seq (.reg [om_ 46 0, oo_ 47 (.build [(.str []), (.int .i64 0)] []), oo_ 48 (.callv (.t 46) [(.t 47), (.c (.bool false))])]) .ret) .skip)) (.seq (.seq (.reg [om_ 49 0, ol_ 50 1, om_ 51 8, oo_ 52 (.slice none (.t 50) none (some (.t 51))), oo_ 53 (.build [(.str []), (.int .i64 0)] [(0, (1, (.t 52)))]), oo_ 54 (.callv (.t 49) [(.t 53), (.c (.bool true))]), oo_ 55 (.un .not (.t 54))]) (.cond (.t 55) .ret .skip)) (.reg [ol_ 56 1, om_ 57 8, oo_ 58 (.slice none (.t 56) (some (.t 57)) none), os_ (.store 1 (.t 1) (.t 58)), oo_ 3 (.mv (.c (.bool false)))])))))))))))
theorem path_pieces_1.code : comp PG [] (Tryz.f145.body.getD .skip) = path_pieces_1.c := by kernel_rfl
theorem path_pieces_1.of' : OfL PG 145 59 path_pieces_1.c [] := fnL mixed Tryz.func145 path_pieces_1.code (by kernel_rfl) (by kernel_rfl) (by kernel_rfl) (by kernel_rfl) (by kernel_rfl)
def path_number.n : Nat := 146
noncomputable def path_number.c : C := (.seq (.reg [oo_ 2 (.mv (.c (.int .i64 0))), oo_ 3 (.mv (.c (.int .i64 0)))]) (.seq (.reg [om_ 8 0, oo_ 9 (.call 175 [(.t 8), (.c (.int .u8 93))]), om_ 4 9]) (.seq (.seq (.reg [om_ 10 0, oo_ 11 (.len true (.t 10)), oo_ 12 (.bin .lss (.t 11) (.c (.int .i64 3))), om_ 13 12, og_ 14 13 false (.mv (.t 0)), og_ 15 13 false (.idx (.t 14) (.c (.int .i64 0))), og_ 16 13 false (.bin .neq (.t 15) (.c (.int .u8 91))), oo_ 17 (.pick (.t 13) (.c (.bool true)) (.t 16)), om_ 18 17, og_ 19 18 false (.mv (.t 4)), og_ 20 18 false (.bin .lss (.t 19) (.c (.int .i64 2))), oo_ 21 (.pick (.t 18) (.c (.bool true)) (.t 20)), om_ 22 21, og_ 23 22 false (.mv (.t 4)), og_ 24 22 false (.bin .gtr (.t 23) (.c (.int .i64 3))), oo_ 25 (.pick (.t 22) (.c (.bool true)) (.t 24)), om_ 26 25, og_ 27 26 false (.mv (.t 0)), og_ 28 26 false (.idx (.t 27) (.c (.int .i64 1))), og_ 29 26 false (.bin .eql (.t 28) (.c (.int .u8 48))), og_ 30 26 false (.mv (.t 29)), og_ 31 30 true (.mv (.t 4)), og_ 32 30 true (.bin .gtr (.t 31) (.c (.int .i64 2))), og_ 33 26 false (.pick (.t 30) (.t 32) (.c (.bool false))), oo_ 34 (.pick (.t 26) (.c (.bool true)) (.t 33))]) (.cond (.t 34) (.seq (.reg [oo_ 2 (.mv (.c (.int .i64 0))), oo_ 3 (.mv (.c (.int .i64 0)))]) .ret) .skip)) (.seq (.reg [oo_ 5 (.mv (.c (.int .i64 0)))]) (.seq (.seq (.reg [om_ 35 0, om_ 36 4, oo_ 37 (.slice none (.t 35) (some (.c (.int .i64 1))) (some (.t 36))), oo_ 38 (.strB (.t 37)), oo_ 39 (.len false (.t 38)), oo_ 40 (.mv (.c (.int .i64 0)))]) (.block 0 (.loop (.seq (.reg [oo_ 41 (.bin .lss (.t 40) (.t 39))]) (.seq (.cond (.t 41) .skip (.exit 0)) (.seq (.block 1 (.seq (.reg [oo_ 42 (.iaddr 1 (.t 38) (.t 40)), ol_ 43 42, om_ 7 43]) (.seq (.seq (.reg [om_ 44 7, oo_ 45 (.bin .lss (.t 44) (.c (.int .u8 48))), om_ 46 45, og_ 47 46 false (.mv (.t 7)), og_ 48 46 false (.bin .gtr (.t 47) (.c (.int .u8 57))), oo_ 49 (.pick (.t 46) (.c (.bool true)) (.t 48))]) (.cond (.t 49) (.seq (.reg [oo_ 2 (.mv (.c (.int .i64 0))), oo_ 3 (.mv (.c (.int .i64 0)))]) .ret) .skip)) (.reg [om_ 50 5, oo_ 51 (.bin .mul (.t 50) (.c (.int .i64 10))), om_ 52 7, oo_ 53 (.bin .sub (.t 52) (.c (.int .u8 48))), oo_ 54 (.conv .i64 (.t 53)), oo_ 55 (.bin .add (.t 51) (.t 54)), om_ 5 55])))) (.reg [oo_ 56 (.bin .add (.t 40) (.c (.int .i64 1))), om_ 40 56]))))))) (.seq (.reg [om_ 57 5, om_ 58 4, oo_ 59 (.bin .add (.t 58) (.c (.int .i64 1))), om_ 2 57, om_ 3 59]) .ret))))))
theorem path_number.code : comp PG [] (Tryz.f146.body.getD .skip) = path_number.c := by kernel_rfl
theorem path_number.of : OfE PG 146 1 path_number.c [(.t 2), (.t 3)] := fnE (nt := 60) mixed Tryz.func146 path_number.code (by kernel_rfl) (by kernel_rfl) (by kernel_rfl) (by kernel_rfl) (by kernel_rfl) (by kernel_rfl)
end Go.Proofs.YtjaigpidmngaaaaGreat

namespace Go.Proofs.YtjaigpidmngaaaaGreat
attribute [local irreducible] callA callP ACalls
theorem stringslite_IndexByte_spec (s : List UInt8) (c : UInt8) (H : AH) : ACalls PG stringslite_IndexByte.n [.str s, u8A c] H fun r H' => r = .int .i64 (Lib.indexByte s c) ∧ H' = H := by
  refine stringslite_IndexByte.of rfl (wpF_start ?_)
  (first | refine ah ?_ | exact ah0)
  exact ⟨by simp, rfl⟩
theorem strings_IndexByte_spec (s : List UInt8) (c : UInt8) (H : AH) : ACalls PG strings_IndexByte.n [.str s, u8A c] H fun r H' => r = .int .i64 (Lib.indexByte s c) ∧ H' = H := by
  refine strings_IndexByte.of rfl (wpF_start ?_)
  (first | refine ah ?_ | exact ah0)
  refine callF_eq (stringslite_IndexByte_spec s c _) ?_
  (first | refine ah ?_ | exact ah0)
theorem indexByte_in : ∀ (s : List UInt8) (c : UInt8), 0 ≤ Lib.indexByte s c ↔ s.contains c = true
  | [], c => by simp [Lib.indexByte]
  | b :: s, c => by
    have ih := indexByte_in s c
    have ge := Lib.indexByte_ge s c
    unfold Lib.indexByte
    simp only [List.contains_cons, Bool.or_eq_true, beq_iff_eq]
    split
    · rename_i h; simp [h]
    · rename_i h
      split
      · rename_i h2
        rw [h2] at ih
        constructor
        · intro q; omega
        · rintro (q | q)
          · exact (h q.symm).elim
          · have := ih.2 q; omega
      · rename_i h2
        constructor
        · intro q; exact .inr (ih.1 (by omega))
        · intro q; omega
end Go.Proofs.YtjaigpidmngaaaaGreat

namespace Go.Proofs.YtjaigpidmngaaaaGreat
attribute [local irreducible] callA callP ACalls
abbrev byteR (c : UInt8) : List AV := [.int .u8 (c.toNat : Int)]
theorem path_number_spec (s : List UInt8) (hs : s.length ≤ 140737488351232) (H : AH) : ACalls PG path_number.n [.str s] H fun r H' => r = .tup [.int .i64 ((numP s).1 : Nat), .int .i64 ((numP s).2 : Nat)] ∧ H' = H := by
  have hix := indexByte_lt s 93
  refine ACalls.fz (path_number.of rfl (wpF_start ?_))
  (first | refine au ?_ | exact au0)
  first | refine callF_eq (strings_IndexByte_spec s 93 _) ?_ | refine callG_eq rfl (strings_IndexByte_spec s 93 _) ?_
  unfold numP
  generalize Lib.indexByte s 93 = e at *
  have h91 : s.getD 0 0 ≠ 91 ↔ (s.getD (Int.toNat 0) 0).toNat ≠ 91 := not_congr ⟨fun q => by show (s.getD 0 0).toNat = 91; rw [q]; rfl, fun q => UInt8.toNat_inj.1 q⟩
  have h48 : s.getD 1 0 = 48 ↔ (s.getD (Int.toNat 1) 0).toNat = 48 := ⟨fun q => by show (s.getD 1 0).toNat = 48; rw [q]; rfl, fun q => UInt8.toNat_inj.1 q⟩
  by_cases c : s.length < 3 ∨ s.getD 0 0 ≠ 91 ∨ e < 2 ∨ 3 < e ∨ (s.getD 1 0 = 48 ∧ 2 < e)
  · rw [if_pos c]
    by_cases c1 : s.length < 3
    · (first | refine au ?_ | exact au0)
      exact ⟨fz_of, sub_of⟩
    by_cases c2 : (s.getD (Int.toNat 0) 0).toNat ≠ 91
    · (first | refine au ?_ | exact au0)
      exact ⟨fz_of, sub_of⟩
    by_cases c3 : e < 2
    · (first | refine au ?_ | exact au0)
      exact ⟨fz_of, sub_of⟩
    by_cases c4 : 3 < e
    · (first | refine au ?_ | exact au0)
      exact ⟨fz_of, sub_of⟩
    have c5 : (s.getD (Int.toNat 1) 0).toNat = 48 ∧ 2 < e := by
      rcases c with q | q | q | q | q
      · exact absurd q c1
      · exact absurd (h91.1 q) c2
      · exact absurd q c3
      · exact absurd q c4
      · exact ⟨h48.1 q.1, q.2⟩
    obtain ⟨c5, c6⟩ := c5
    (first | refine au ?_ | exact au0)
    exact ⟨fz_of, sub_of⟩
  · rw [if_neg c]
    have c1 : ¬ s.length < 3 := fun q => c (.inl q)
    have c2 : (s.getD (Int.toNat 0) 0).toNat = 91 := Classical.byContradiction fun q => c (.inr (.inl (h91.2 q)))
    have c3 : ¬ e < 2 := fun q => c (.inr (.inr (.inl q)))
    have c4 : ¬ 3 < e := fun q => c (.inr (.inr (.inr (.inl q))))
    have c5 : (s.getD (Int.toNat 1) 0).toNat = 48 → ¬ 2 < e := fun q q2 => c (.inr (.inr (.inr (.inr ⟨h48.2 q, q2⟩))))
    clear c h91 h48
    generalize hd : (s.take e.toNat).drop 1 = d
    have hdl : d.length ≤ 2 := by rw [← hd, List.length_drop, List.length_take]; omega
    by_cases c6 : (s.getD (Int.toNat 1) 0).toNat = 48
    · have c7 := c5 c6
      (first | refine au ?_ | exact au0)
      rw [show (Int.toNat 1) = 1 from rfl, hd]
      have hdm : (d.map byteR).length = d.length := by simp
      refine loopM (S := Nat) [(4, some _), (38, some _), (39, some _)] (fun i => [(40, some (.int .i64 (i : Nat))), (5, some (.int .i64 (numV (d.take i) : Nat)))]) (fun _ => _) (fun i => d.length - i) (fun i => i ≤ d.length ∧ (d.take i).all dig = true) 0 (by exact cov_of) (Sub.refl _) ⟨Nat.zero_le _, by simp⟩ (fun i hi => ?_)
      obtain ⟨hi, hal⟩ := hi
      have hn2 : numV (d.take i) ≤ 99 := by
        have q1 := numVs_lt _ hal
        have q2 : 10 ^ (d.take i).length ≤ 10 ^ 2 := Nat.pow_le_pow_right (by decide) (by rw [List.length_take]; omega)
        omega
      (first | refine au ?_ | exact au0)
      refine bsplit_dec (fun h1 => ?_) (fun h1 => ?_)
      · have hil : i < d.length := by simpa [hdm] using h1
        have hge := row_get (f := byteR) hil
        have htk : d.take (i + 1) = d.take i ++ [d[i]] := List.take_succ_eq_append_getElem hil
        have hmem : d[i] ∈ d := List.getElem_mem hil
        have hcl := (d[i]).toNat_lt
        have hv := numVs_snoc (d.take i) d[i]
        have hn3 : (d.take (i + 1)).all dig = true → numV (d.take (i + 1)) ≤ 99 := by
          intro q
          have q1 := numVs_lt _ q
          have q2 : 10 ^ (d.take (i + 1)).length ≤ 10 ^ 2 := Nat.pow_le_pow_right (by decide) (by rw [List.length_take]; omega)
          omega
        rw [htk, hv, List.all_append, hal, Bool.true_and] at hn3
        generalize d[i] = c at *
        (first | refine au ?_ | exact au0)
        rw [hge]
        (first | refine au ?_ | exact au0)
        by_cases hdg : 48 ≤ c.toNat ∧ c.toNat ≤ 57
        · have hdg2 : dig c = true := by simpa [dig] using hdg
          have hn4 : 10 * numV (d.take i) + (c.toNat - 48) ≤ 99 := hn3 (by simp [hdg2])
          (first | refine au ?_ | exact au0)
          exact nextS (S := Nat) (i + 1) (by rw [htk, hv]; exact (by exact cov_of)) sub_of (by omega) ⟨hil, by rw [htk, List.all_append, hal]; simp [hdg2]⟩
        · have hdg2 : dig c = false := by
            cases q : dig c with
            | false => rfl
            | true => exact absurd (by simpa [dig] using q) hdg
          have hall : d.all dig = false := by
            cases h : d.all dig with
            | false => rfl
            | true => rw [List.all_eq_true.1 h c hmem] at hdg2; cases hdg2
          rw [hall, if_neg (by decide)]
          (first | refine au ?_ | exact au0)
          refine bsplit_dec (fun h2 => ?_) (fun h2 => ?_)
          all_goals
            (first | refine au ?_ | exact au0)
            exact ⟨fz_of, sub_of⟩
      · have : i = d.length := by simp [hdm] at h1; omega
        subst this
        rw [List.take_length] at hal ⊢
        rw [hal, if_pos rfl]
        (first | refine au ?_ | exact au0)
        have he1 : (e + 1 : Int) = ((numV d, e.toNat + 1).2 : Nat) := by dsimp only; omega
        rw [he1]
        exact ⟨fz_of, sub_of⟩
    · (first | refine au ?_ | exact au0)
      rw [show (Int.toNat 1) = 1 from rfl, hd]
      have hdm : (d.map byteR).length = d.length := by simp
      refine loopM (S := Nat) [(4, some _), (38, some _), (39, some _)] (fun i => [(40, some (.int .i64 (i : Nat))), (5, some (.int .i64 (numV (d.take i) : Nat)))]) (fun _ => _) (fun i => d.length - i) (fun i => i ≤ d.length ∧ (d.take i).all dig = true) 0 (by exact cov_of) (Sub.refl _) ⟨Nat.zero_le _, by simp⟩ (fun i hi => ?_)
      obtain ⟨hi, hal⟩ := hi
      have hn2 : numV (d.take i) ≤ 99 := by
        have q1 := numVs_lt _ hal
        have q2 : 10 ^ (d.take i).length ≤ 10 ^ 2 := Nat.pow_le_pow_right (by decide) (by rw [List.length_take]; omega)
        omega
      (first | refine au ?_ | exact au0)
      refine bsplit_dec (fun h1 => ?_) (fun h1 => ?_)
      · have hil : i < d.length := by simpa [hdm] using h1
        have hge := row_get (f := byteR) hil
        have htk : d.take (i + 1) = d.take i ++ [d[i]] := List.take_succ_eq_append_getElem hil
        have hmem : d[i] ∈ d := List.getElem_mem hil
        have hcl := (d[i]).toNat_lt
        have hv := numVs_snoc (d.take i) d[i]
        have hn3 : (d.take (i + 1)).all dig = true → numV (d.take (i + 1)) ≤ 99 := by
          intro q
          have q1 := numVs_lt _ q
          have q2 : 10 ^ (d.take (i + 1)).length ≤ 10 ^ 2 := Nat.pow_le_pow_right (by decide) (by rw [List.length_take]; omega)
          omega
        rw [htk, hv, List.all_append, hal, Bool.true_and] at hn3
        generalize d[i] = c at *
        (first | refine au ?_ | exact au0)
        rw [hge]
        (first | refine au ?_ | exact au0)
        by_cases hdg : 48 ≤ c.toNat ∧ c.toNat ≤ 57
        · have hdg2 : dig c = true := by simpa [dig] using hdg
          have hn4 : 10 * numV (d.take i) + (c.toNat - 48) ≤ 99 := hn3 (by simp [hdg2])
          (first | refine au ?_ | exact au0)
          exact nextS (S := Nat) (i + 1) (by rw [htk, hv]; exact (by exact cov_of)) sub_of (by omega) ⟨hil, by rw [htk, List.all_append, hal]; simp [hdg2]⟩
        · have hdg2 : dig c = false := by
            cases q : dig c with
            | false => rfl
            | true => exact absurd (by simpa [dig] using q) hdg
          have hall : d.all dig = false := by
            cases h : d.all dig with
            | false => rfl
            | true => rw [List.all_eq_true.1 h c hmem] at hdg2; cases hdg2
          rw [hall, if_neg (by decide)]
          (first | refine au ?_ | exact au0)
          refine bsplit_dec (fun h2 => ?_) (fun h2 => ?_)
          all_goals
            (first | refine au ?_ | exact au0)
            exact ⟨fz_of, sub_of⟩
      · have : i = d.length := by simp [hdm] at h1; omega
        subst this
        rw [List.take_length] at hal ⊢
        rw [hal, if_pos rfl]
        (first | refine au ?_ | exact au0)
        have he1 : (e + 1 : Int) = ((numV d, e.toNat + 1).2 : Nat) := by dsimp only; omega
        rw [he1]
        exact ⟨fz_of, sub_of⟩
end Go.Proofs.YtjaigpidmngaaaaGreat

namespace Go.Proofs.YtjaigpidmngaaaaGreat
theorem ACalls.perm {f : Nat} {args : List AV} {H1 H2 : AH} {K : AV → AH → Prop} (h : ACalls PG f args H1 K) (s1 : Sub H1 H2) (s2 : Sub H2 H1) : ACalls PG f args H2 K := by
  refine ⟨h.1, fun w ρ Z xs g hr => ?_⟩
  have e : Own ρ H1 = Own ρ H2 := funext fun b => propext ⟨fun q => q.of_sub s1, fun q => q.of_sub s2⟩
  rw [← e]
  exact h.2 w ρ Z xs (g.forget s1) hr
attribute [local irreducible] callA callP ACalls
abbrev dotA : Option (List UInt8) → List UInt8 → AV
  | some r, _ => .tup [.str r, .bool true]
  | none, s => .tup [.str s, .bool false]
theorem hasDot (s : List UInt8) : (decide (1 ≤ s.length) && decide (s.take 1 = [46])) = (dotP s).isSome := by
  cases s with
  | nil => rfl
  | cons c r => by_cases h : c = 46 <;> simp [dotP, h]
theorem dotP_drop (s : List UInt8) : (1 ≤ s.length ∧ s.take 1 = [46]) → dotP s = some (s.drop 1) := by
  cases s with
  | nil => simp
  | cons c r => simp +contextual [dotP]
theorem dotP_not (s : List UInt8) : ¬ (1 ≤ s.length ∧ s.take 1 = [46]) → dotP s = none := by
  cases s with
  | nil => simp [dotP]
  | cons c r => simp +contextual [dotP]
theorem pfx_spec (s p : List UInt8) (H : AH) : ACalls PG stringslite_HasPrefix.n [.str s, .str p] H fun r H' => r = .bool (decide (p.length ≤ s.length) && decide (s.take p.length = p)) ∧ H' = H := by
  refine stringslite_HasPrefix.of rfl (wpF_start ?_)
  (first | refine au ?_ | exact au0)
  refine bsplit_dec (fun h => ?_) (fun h => ?_)
  · (first | refine au ?_ | exact au0)
    exact ⟨by rw [decide_eq_true (show p.length ≤ s.length from by omega)]; simp, rfl⟩
  · (first | refine au ?_ | exact au0)
    exact ⟨by rw [decide_eq_false (show ¬ p.length ≤ s.length from by omega)]; simp, rfl⟩
theorem stringslite_CutPrefix_spec (s : List UInt8) (H : AH) : ACalls PG stringslite_CutPrefix.n [.str s, .str [46]] H fun r H' => r = dotA (dotP s) s ∧ H' = H := by
  refine ACalls.fz (stringslite_CutPrefix.of rfl (wpF_start ?_))
  (first | refine au ?_ | exact au0)
  first | refine callF_eq ((pfx_spec s [46] _).mono fun r H' q => (⟨q.1.trans (congrArg AV.bool (hasDot s)), q.2⟩ : r = .bool (dotP s).isSome ∧ H' = _)) ?_ | refine callG_eq rfl ((pfx_spec s [46] _).mono fun r H' q => (⟨q.1.trans (congrArg AV.bool (hasDot s)), q.2⟩ : r = .bool (dotP s).isSome ∧ H' = _)) ?_
  by_cases c : 1 ≤ s.length ∧ s.take 1 = [46]
  · rw [dotP_drop s c]
    have hl := c.1
    (first | refine au ?_ | exact au0)
    rw [show List.drop (((([46] : List UInt8).length : Nat) : Int)).toNat (s.take (s.length : Int).toNat) = s.drop 1 from by simp]
    exact ⟨fz_of, sub_of⟩
  · rw [dotP_not s c]
    (first | refine au ?_ | exact au0)
    exact ⟨fz_of, sub_of⟩
theorem strings_CutPrefix_spec (s : List UInt8) (H : AH) : ACalls PG strings_CutPrefix.n [.str s, .str [46]] H fun r H' => r = dotA (dotP s) s ∧ H' = H := by
  refine ACalls.fz (strings_CutPrefix.of rfl (wpF_start ?_))
  (first | refine au ?_ | exact au0)
  first | refine callF_eq (stringslite_CutPrefix_spec s _) ?_ | refine callG_eq rfl (stringslite_CutPrefix_spec s _) ?_
  cases dotP s
  · (first | refine au ?_ | exact au0)
    exact ⟨fz_of, sub_of⟩
  · (first | refine au ?_ | exact au0)
    exact ⟨fz_of, sub_of⟩
abbrev pcA (x : Pc) : AV := .agg [.str x.1, .int .i64 (x.2.1 : Nat)]
theorem yld_all {lid : Nat} {args : List AV} {H : AH} {K' K : AV → AH → Prop} (h : AYields PG lid args H K') (k : ∀ r H', K' r H' → K r H') : yldF PG lid args H K :=
  yldF_of h (Sub.refl _) (fun r Hs' q => ⟨Hs', fun j b' hb => .inl hb, k r Hs' q⟩)
theorem drop_cons {α : Type} {l rest : List α} {i : Nat} {x : α} (h : l.drop i = x :: rest) : ∃ q : i < l.length, l[i] = x ∧ l.drop (i + 1) = rest := by
  have q : i < l.length := by
    apply Classical.byContradiction; intro q
    rw [List.drop_of_length_le (by omega)] at h; cases h
  rw [List.drop_eq_getElem_cons q] at h
  exact ⟨q, (List.cons.inj h).1, (List.cons.inj h).2⟩
structure IterOut (ids : Nat) (Jn Jx : AH → Prop) (H' : AH) : Prop where
  mk :: out : ∃ b H2, H' = (ids, b) :: H2 ∧ (Jn H2 ∨ Jx H2)
def Round (lid ids : Nat) (l : List Pc) (J : Nat → AH → Prop) (Jx : AH → Prop) : Prop :=
  ∀ i (h : i < l.length) (H : AH) (b : Blk), hget H ids = none → J i H → AYields PG lid [pcA l[i], .bool l[i].2.2] ((ids, b) :: H) fun r H' => ∃ H2, H' = (ids, b) :: H2 ∧ ((r = .bool true ∧ hget H2 ids = none ∧ J (i + 1) H2) ∨ (r = .bool false ∧ Jx H2))
theorem pieces_iter (s : List UInt8) (hs : s.length ≤ 140737488351232) (lid ids : Nat) (ht : tag ids = ty_string) (J : Nat → AH → Prop) (Jx : AH → Prop) (hy : Round lid ids (pcs s true) J Jx) (H0 : AH) (h0 : hget H0 ids = none) (hj : J 0 H0) :
    ACalls PG path_pieces_1.n [.yld lid, .ptr ids 1 0 0] ((ids, .rows 1 [[.str s]]) :: H0) fun _ H' => IterOut ids (J (pcs s true).length) Jx H' := by
  refine path_pieces_1.of' (by simp only [List.length_cons, List.length_nil]; omega) (wpF_start ?_)
  have hn00 := neAll_of h0
  (first | refine au ?_ | exact au0)
  have hloc : ∀ {i : Nat} {sq : List UInt8} {f : Bool} {x : Pc} {rest : List Pc}, (pcs s true).drop i = pcs sq f → pcs sq f = x :: rest → ∃ q : i < (pcs s true).length, (pcs s true)[i] = x ∧ (pcs s true).drop (i + 1) = rest := fun h1 h2 => drop_cons (h1.trans h2)
  refine loopM (S := Nat × List UInt8 × Bool × AH) [(0, some _), (1, some _)] (fun z => [(3, some (.bool z.2.2.1))]) (fun z => (ids, .rows 1 [[.str z.2.1]]) :: z.2.2.2) (fun z => (pcs s true).length - z.1) (fun z => z.1 ≤ (pcs s true).length ∧ z.2.1.length ≤ s.length ∧ (pcs s true).drop z.1 = pcs z.2.1 z.2.2.1 ∧ hget z.2.2.2 ids = none ∧ J z.1 z.2.2.2) (0, s, true, H0) (by exact cov_of) (Sub.refl _) ⟨Nat.zero_le _, Nat.le_refl _, rfl, h0, hj⟩ (fun ⟨i, sq, first, Hq⟩ hz => ?_)
  obtain ⟨hi, hl', hp, hq0, hqJ⟩ := hz
  dsimp only at hi hl' hp hq0 hqJ ⊢
  have hnl := numP_le sq
  have hn0 := neAll_of hq0
  by_cases h0 : first = false ∧ sq = []
  · obtain ⟨rfl, rfl⟩ := h0
    (first | refine au ?_ | exact au0)
    rw [pcs_end] at hp
    have hl2 := congrArg List.length hp
    rw [List.length_drop, List.length_nil] at hl2
    have : i = (pcs s true).length := by omega
    exact ⟨_, _, rfl, .inl (by rw [← this]; exact hqJ)⟩
  cases first with
  | true =>
    (first | refine au ?_ | exact au0)
    first | refine callF_eq (path_number_spec sq (by omega) _) ?_ | refine callG_eq rfl (path_number_spec sq (by omega) _) ?_
    by_cases c : 0 < (numP sq).2
    · obtain ⟨q1, q2, q3⟩ := hloc hp (pcs_num h0 c)
      have hyi := hy i q1 Hq (.rows 1 [[.str sq]]) hq0 hqJ
      rw [q2] at hyi
      (first | refine au ?_ | exact au0)
      refine yld_all hyi (fun r H' q => ?_)
      obtain ⟨H2, rfl, ⟨rfl, hq1, hqJ2⟩ | ⟨rfl, hx⟩⟩ := q
      · have hn1 := neAll_of hq1
        (first | refine au ?_ | exact au0)
        rw [show List.drop ((numP sq).2 : Int).toNat (List.take (sq.length : Int).toNat sq) = sq.drop (numP sq).2 from by simp]
        exact nextS (S := Nat × List UInt8 × Bool × AH) (i + 1, sq.drop (numP sq).2, false, H2) (by exact cov_of) (by dsimp only; exact sub_of) (by dsimp only; omega) ⟨q1, by simp only [List.length_drop]; omega, q3, hq1, hqJ2⟩
      · (first | refine au ?_ | exact au0)
        exact ⟨_, _, rfl, .inr hx⟩
    (first | refine au ?_ | exact au0)
    first | refine callF_eq (name_Lead_spec sq (by omega) _) ?_ | refine callG_eq rfl (name_Lead_spec sq (by omega) _) ?_
    have hnll := nl_le sq
    have hpi := pcs_item h0 c (r := sq) (by first | rfl | exact hd)
    by_cases c2 : nl sq = 0
    · rw [if_pos c2] at hpi
      obtain ⟨q1, q2, q3⟩ := hloc hp hpi
      have hyi := hy i q1 Hq (.rows 1 [[.str sq]]) hq0 hqJ
      rw [q2] at hyi
      have hl3 : (pcs s true).length = i + 1 := by
        have := congrArg List.length q3
        rw [List.length_drop, List.length_nil] at this
        omega
      (first | refine au ?_ | exact au0)
      refine yld_all hyi (fun r H' q => ?_)
      obtain ⟨H2, rfl, ⟨rfl, hq1, hqJ2⟩ | ⟨rfl, hx⟩⟩ := q
      · have hn1 := neAll_of hq1
        (first | refine au ?_ | exact au0)
        exact ⟨_, _, rfl, .inl (by rw [hl3]; exact hqJ2)⟩
      · (first | refine au ?_ | exact au0)
        exact ⟨_, _, rfl, .inr hx⟩
    · rw [if_neg c2] at hpi
      obtain ⟨q1, q2, q3⟩ := hloc hp hpi
      have hyi := hy i q1 Hq (.rows 1 [[.str sq]]) hq0 hqJ
      rw [q2] at hyi
      (first | refine au ?_ | exact au0)
      refine yld_all hyi (fun r H' q => ?_)
      obtain ⟨H2, rfl, ⟨rfl, hq1, hqJ2⟩ | ⟨rfl, hx⟩⟩ := q
      · have hn1 := neAll_of hq1
        (first | refine au ?_ | exact au0)
        rw [show List.drop ((nl sq : Nat) : Int).toNat (List.take ((sq).length : Int).toNat sq) = (sq).drop (nl sq) from by simp]
        exact nextS (S := Nat × List UInt8 × Bool × AH) (i + 1, (sq).drop (nl sq), false, H2) (by exact cov_of) (by dsimp only; exact sub_of) (by dsimp only; omega) ⟨q1, by simp only [List.length_drop]; omega, q3, hq1, hqJ2⟩
      · (first | refine au ?_ | exact au0)
        exact ⟨_, _, rfl, .inr hx⟩
  | false =>
    have hs0 : sq ≠ [] := fun q => h0 ⟨rfl, q⟩
    (first | refine au ?_ | exact au0)
    first | refine callF_eq (path_number_spec sq (by omega) _) ?_ | refine callG_eq rfl (path_number_spec sq (by omega) _) ?_
    by_cases c : 0 < (numP sq).2
    · obtain ⟨q1, q2, q3⟩ := hloc hp (pcs_num h0 c)
      have hyi := hy i q1 Hq (.rows 1 [[.str sq]]) hq0 hqJ
      rw [q2] at hyi
      (first | refine au ?_ | exact au0)
      refine yld_all hyi (fun r H' q => ?_)
      obtain ⟨H2, rfl, ⟨rfl, hq1, hqJ2⟩ | ⟨rfl, hx⟩⟩ := q
      · have hn1 := neAll_of hq1
        (first | refine au ?_ | exact au0)
        rw [show List.drop ((numP sq).2 : Int).toNat (List.take (sq.length : Int).toNat sq) = sq.drop (numP sq).2 from by simp]
        exact nextS (S := Nat × List UInt8 × Bool × AH) (i + 1, sq.drop (numP sq).2, false, H2) (by exact cov_of) (by dsimp only; exact sub_of) (by dsimp only; omega) ⟨q1, by simp only [List.length_drop]; omega, q3, hq1, hqJ2⟩
      · (first | refine au ?_ | exact au0)
        exact ⟨_, _, rfl, .inr hx⟩
    (first | refine au ?_ | exact au0)
    first | refine callF_eq (strings_CutPrefix_spec sq _) ?_ | refine callG_eq rfl (strings_CutPrefix_spec sq _) ?_
    cases hd : dotP sq with
    | none =>
      obtain ⟨q1, q2, q3⟩ := hloc hp (pcs_nodot hs0 c hd)
      have hyi := hy i q1 Hq (.rows 1 [[.str sq]]) hq0 hqJ
      rw [q2] at hyi
      have hl3 : (pcs s true).length = i + 1 := by
        have := congrArg List.length q3
        rw [List.length_drop, List.length_nil] at this
        omega
      (first | refine au ?_ | exact au0)
      refine yld_all hyi (fun r H' q => ?_)
      obtain ⟨H2, rfl, ⟨rfl, hq1, hqJ2⟩ | ⟨rfl, hx⟩⟩ := q
      · (first | refine au ?_ | exact au0)
        exact ⟨_, _, rfl, .inl (by rw [hl3]; exact hqJ2)⟩
      · (first | refine au ?_ | exact au0)
        exact ⟨_, _, rfl, .inr hx⟩
    | some u =>
      have hu : u.length ≤ sq.length := by rw [dotP_some hd]; simp
      (first | refine au ?_ | exact au0)
      first | refine callF_eq (name_Lead_spec u (by omega) _) ?_ | refine callG_eq rfl (name_Lead_spec u (by omega) _) ?_
      have hnll := nl_le u
      have hpi := pcs_item h0 c (r := u) (by first | rfl | exact hd)
      by_cases c2 : nl u = 0
      · rw [if_pos c2] at hpi
        obtain ⟨q1, q2, q3⟩ := hloc hp hpi
        have hyi := hy i q1 Hq (.rows 1 [[.str u]]) hq0 hqJ
        rw [q2] at hyi
        have hl3 : (pcs s true).length = i + 1 := by
          have := congrArg List.length q3
          rw [List.length_drop, List.length_nil] at this
          omega
        (first | refine au ?_ | exact au0)
        refine yld_all hyi (fun r H' q => ?_)
        obtain ⟨H2, rfl, ⟨rfl, hq1, hqJ2⟩ | ⟨rfl, hx⟩⟩ := q
        · have hn1 := neAll_of hq1
          (first | refine au ?_ | exact au0)
          exact ⟨_, _, rfl, .inl (by rw [hl3]; exact hqJ2)⟩
        · (first | refine au ?_ | exact au0)
          exact ⟨_, _, rfl, .inr hx⟩
      · rw [if_neg c2] at hpi
        obtain ⟨q1, q2, q3⟩ := hloc hp hpi
        have hyi := hy i q1 Hq (.rows 1 [[.str u]]) hq0 hqJ
        rw [q2] at hyi
        (first | refine au ?_ | exact au0)
        refine yld_all hyi (fun r H' q => ?_)
        obtain ⟨H2, rfl, ⟨rfl, hq1, hqJ2⟩ | ⟨rfl, hx⟩⟩ := q
        · have hn1 := neAll_of hq1
          (first | refine au ?_ | exact au0)
          rw [show List.drop ((nl u : Nat) : Int).toNat (List.take ((u).length : Int).toNat u) = (u).drop (nl u) from by simp]
          exact nextS (S := Nat × List UInt8 × Bool × AH) (i + 1, (u).drop (nl u), false, H2) (by exact cov_of) (by dsimp only; exact sub_of) (by dsimp only; omega) ⟨q1, by simp only [List.length_drop]; omega, q3, hq1, hqJ2⟩
        · (first | refine au ?_ | exact au0)
          exact ⟨_, _, rfl, .inr hx⟩
end Go.Proofs.YtjaigpidmngaaaaGreat

namespace Go.Proofs.YtjaigpidmngaaaaGreat
attribute [local irreducible] callA callP ACalls
abbrev itR (x : It) : List AV := [.str x.nm, .int .u64 (x.num : Nat), .int .i64 x.ty, .bool x.key, .bool x.rest]
abbrev tyR (t : Ty) : List AV := [.int .i64 t.kd, .str t.nm, .int .i64 t.bd, .int .i64 t.el, .int .i64 t.tg, .rows 5 (t.its.map itR)]
abbrev tysA (l : List Ty) : AV := .rows 6 (l.map tyR)
abbrev inR (n : Int) : List AV := [.int .i64 n]
theorem has_spec (k : Int) (H : AH) : ACalls PG types_has.n [.int .i64 k] H fun r H' => r = .tup [.bool (kNm k), .bool (kBd k), .bool (kEl k), .bool (kTg k)] ∧ H' = H := by
  refine ACalls.fz (types_has.of rfl (wpF_start ?_))
  unfold kNm kBd kEl kTg
  (repeat' (first | (refine au ?_; first | refine bsplit_dec (fun _ => ?_) (fun _ => ?_) | refine bsplit_intro (fun _ => ?_) (fun _ => ?_)) | exact au0 | fail)); (all_goals try (first | refine au ?_ | fail))
  all_goals (refine ⟨fz_eq ?_, sub_of⟩; simp only [AV.tup.injEq, List.cons.injEq, AV.bool.injEq, and_true]; refine ⟨?_, ?_, ?_, ?_⟩ <;> first | exact (decide_eq_true (by omega)).symm | exact (decide_eq_false (by omega)).symm)
theorem rng4 (k : Int) : (kEl k = true ∧ kTg k = false ∧ k ≠ 13 ∧ k ≠ 14) ∨ (kEl k = false ∧ kTg k = true ∧ k = 14) ∨ (kEl k = false ∧ kTg k = false ∧ k = 13) ∨ (kEl k = false ∧ kTg k = false ∧ k ≠ 13 ∧ k ≠ 14) := by
  unfold kEl kTg
  by_cases h1 : k = 11 ∨ k = 12
  · exact .inl ⟨decide_eq_true h1, decide_eq_false (by omega), by omega, by omega⟩
  · by_cases h2 : k = 14
    · exact .inr (.inl ⟨decide_eq_false h1, decide_eq_true h2, h2⟩)
    · by_cases h3 : k = 13
      · exact .inr (.inr (.inl ⟨decide_eq_false h1, decide_eq_false h2, h3⟩))
      · exact .inr (.inr (.inr ⟨decide_eq_false h1, decide_eq_false h2, h3, h2⟩))
theorem parts_el {t : Ty} (h : kEl t.kd = true) (h2 : kTg t.kd = false) (h3 : t.kd ≠ 13) (h4 : t.kd ≠ 14) : parts t = [t.el] := by
  unfold parts; rw [h, h2, if_neg (show ¬ (t.kd = 13 ∨ t.kd = 14) by omega)]; rfl
theorem parts_tg {t : Ty} (h : kEl t.kd = false) (h2 : kTg t.kd = true) (h3 : t.kd = 14) : parts t = t.tg :: t.its.map (·.ty) := by
  unfold parts; rw [h, h2, if_pos (show t.kd = 13 ∨ t.kd = 14 by omega)]; rfl
theorem parts_st {t : Ty} (h : kEl t.kd = false) (h2 : kTg t.kd = false) (h3 : t.kd = 13) : parts t = t.its.map (·.ty) := by
  unfold parts; rw [h, h2, if_pos (show t.kd = 13 ∨ t.kd = 14 by omega)]; rfl
theorem parts_no {t : Ty} (h : kEl t.kd = false) (h2 : kTg t.kd = false) (h3 : t.kd ≠ 13) (h4 : t.kd ≠ 14) : parts t = [] := by
  unfold parts; rw [h, h2, if_neg (show ¬ (t.kd = 13 ∨ t.kd = 14) by omega)]; rfl
theorem parts_spec0 (t : Ty) (ht : t.its.length ≤ 4000000000000) : ACalls PG types_parts.n [.agg (tyR t)] [] fun r _ => r = .rows 1 ((parts t).map inR) := by
  refine ACalls.fzK (types_parts.of rfl (wpF_start ?_))
  have hlen : (t.its.map itR).length = t.its.length := by simp
  (first | refine au ?_ | exact au0)
  intro id1 hid1 ht1; have n1 := neAll_of hid1; (try simp only [neAll, neAll_hset] at n1); have m1 := n1; (repeat (obtain ⟨_, m1⟩ := m1))
  (first | refine au ?_ | exact au0)
  first | refine callF_eq (has_spec _ _) ?_ | refine callG_eq rfl (has_spec _ _) ?_
  rcases rng4 t.kd with ⟨h1, h2, h3, h4⟩ | ⟨h1, h2, h3⟩ | ⟨h1, h2, h3⟩ | ⟨h1, h2, h3, h4⟩
  · rw [h1, h2, parts_el h1 h2 h3 h4]
    (first | refine au ?_ | exact au0)
    refine ⟨_, rfl, (Nat.le_of_ble_eq_true rfl), (fun q => by cases q), fun _ => ?_⟩
    intro id2 hid2 ht2; have n2 := neAll_of hid2; (try simp only [neAll, neAll_hset] at n2); have m2 := n2; (repeat (obtain ⟨_, m2⟩ := m2))
    (first | refine au ?_ | exact au0)
    exact Fz.ownL hget_self rfl (FzR.refl _ _ _) (map_w (f := inR) (fun _ => rfl) _)
  · rw [h1, h2, parts_tg h1 h2 h3]
    (first | refine au ?_ | exact au0)
    refine ⟨_, rfl, (Nat.le_of_ble_eq_true rfl), (fun q => by cases q), fun _ => ?_⟩
    intro id2 hid2 ht2; have n2 := neAll_of hid2; (try simp only [neAll, neAll_hset] at n2); have m2 := n2; (repeat (obtain ⟨_, m2⟩ := m2))
    (first | refine au ?_ | exact au0)
    obtain ⟨pre, hpre⟩ : ∃ pre : List Int, pre = [t.tg] := ⟨_, rfl⟩
    have hpl : pre.length = 1 := by rw [hpre]; rfl
    refine loopS (S := Nat × Option Nat) (fun s => [(3, some (accV s.2 1 (pre.length + s.1))), (41, some (.int .i64 (s.1 : Nat)))]) (fun s => accH s.2 1 (pre.map inR ++ ((t.its.take s.1).map fun x => inR x.ty)) [(id1, .rows 6 [tyR t])]) (fun s => t.its.length - s.1) (fun s => s.1 ≤ t.its.length ∧ (s.2 = none → pre.length + s.1 = 0) ∧ ∀ id, s.2 = some id → tag id = ty_int ∧ id ≠ id1) (0, some id2) ⟨Nat.zero_le _, by simp, fun id q => by cases q; exact ⟨ht2, by omega⟩⟩ (fun ⟨i, o⟩ hs => ?_) (by exact cov_of) (by subst hpre; exact sub_of)
    dsimp only at hs
    rcases hs with ⟨hi, ho1, ho2⟩
    have hge : ∀ h : i < t.its.length, (t.its.map itR).getD (Int.toNat (i : Nat)) [] = itR t.its[i] := fun h => row_get h
    have htk : ∀ h : i < t.its.length, ((t.its.take (i + 1)).map fun x => inR x.ty) = ((t.its.take i).map fun x => inR x.ty) ++ [inR t.its[i].ty] := fun h => take_map_succ _ _ _ h
    have htl : (t.its.take i).length = i := by rw [List.length_take]; omega
    (first | refine au ?_ | exact au0)
    refine bsplit_dec (fun c => ?_) (fun c => ?_)
    · have hil : i < t.its.length := by omega
      replace hge := hge hil
      replace htk := htk hil
      generalize t.its[i] = x at *
      rcases o with _ | ida
      · (first | refine au ?_ | exact au0)
        rw [hge]
        (first | refine au ?_ | exact au0)
        intro id9 hid9 ht9; have n9 := neAll_of hid9; (try simp only [neAll, neAll_hset] at n9); have m9 := n9; (repeat (obtain ⟨_, m9⟩ := m9))
        (first | refine au ?_ | exact au0)
        refine ⟨_, rfl, (Nat.le_of_ble_eq_true rfl), (fun q => by cases q), fun _ => ?_⟩
        intro id47 hid47 ht47; have n47 := neAll_of hid47; (try simp only [neAll, neAll_hset] at n47); have m47 := n47; (repeat (obtain ⟨_, m47⟩ := m47))
        (first | refine au ?_ | exact au0)
        have hp := ho1 rfl
        refine nextS (S := Nat × Option Nat) (i + 1, some id47) (by exact cov_of) ?_ (by dsimp only; omega) ⟨hil, by simp, fun j q => ?_⟩
        · dsimp only [accH]
          rw [htk, show pre = [] from List.eq_nil_of_length_eq_zero (by omega), show i = 0 from by omega]
          exact sub_of
        · simp only [Option.some.injEq] at q
          subst q
          exact ⟨ht47, by omega⟩
      · obtain ⟨hti, hdi⟩ := ho2 ida rfl
        (first | refine au ?_ | exact au0)
        rw [hge]
        (first | refine au ?_ | exact au0)
        intro id9 hid9 ht9; have n9 := neAll_of hid9; (try simp only [neAll, neAll_hset] at n9); have m9 := n9; (repeat (obtain ⟨_, m9⟩ := m9))
        (first | refine au ?_ | exact au0)
        refine ⟨_, _, readS_all (by exact hg_of) (by ((try dsimp only); (try simp only [List.length_append, List.length_map, List.length_cons, List.length_nil, List.length_take, List.length_set, List.length_replicate]); (try dsimp only); first | done | omega)), rfl, rfl, rfl, (hti), (by ((try dsimp only); (try simp only [List.length_append, List.length_map, List.length_cons, List.length_nil, List.length_take, List.length_set, List.length_replicate]); (try dsimp only); first | done | omega)), ?_⟩
        intro id47 hid47 ht47; have n47 := neAll_of hid47; (try simp only [neAll, neAll_hset] at n47); have m47 := n47; (repeat (obtain ⟨_, m47⟩ := m47))
        (first | refine au ?_ | exact au0)
        refine nextS (S := Nat × Option Nat) (i + 1, some id47) (by exact cov_of) ?_ (by dsimp only; omega) ⟨hil, by simp, fun j q => ?_⟩
        · dsimp only [accH]
          rw [htk, ← List.append_assoc]
          exact sub_of
        · simp only [Option.some.injEq] at q
          subst q
          exact ⟨ht47, by omega⟩
    · (first | refine au ?_ | exact au0)
      obtain rfl : i = t.its.length := by omega
      rw [List.take_length]
      refine accFz (by ((try dsimp only); (try simp only [List.length_append, List.length_map, List.length_cons, List.length_nil, List.length_take, List.length_set, List.length_replicate]); (try dsimp only); first | done | omega)) (fun q => ?_) (fun _ _ => rfl) ?_ (map_w (f := inR) (fun _ => rfl) _)
      · have := ho1 q
        rw [List.eq_nil_of_length_eq_zero (show pre.length = 0 by omega), List.eq_nil_of_length_eq_zero (show t.its.length = 0 by omega)]
        rfl
      · rw [hpre]
        simp only [List.map_cons, List.map_nil, List.map_map, List.cons_append, List.nil_append]
        exact FzR.refl _ _ _
  · rw [h1, h2, parts_st h1 h2 h3]
    (first | refine au ?_ | exact au0)
    obtain ⟨pre, hpre⟩ : ∃ pre : List Int, pre = [] := ⟨_, rfl⟩
    have hpl : pre.length = 0 := by rw [hpre]; rfl
    refine loopS (S := Nat × Option Nat) (fun s => [(3, some (accV s.2 1 (pre.length + s.1))), (41, some (.int .i64 (s.1 : Nat)))]) (fun s => accH s.2 1 (pre.map inR ++ ((t.its.take s.1).map fun x => inR x.ty)) [(id1, .rows 6 [tyR t])]) (fun s => t.its.length - s.1) (fun s => s.1 ≤ t.its.length ∧ (s.2 = none → pre.length + s.1 = 0) ∧ ∀ id, s.2 = some id → tag id = ty_int ∧ id ≠ id1) (0, none) ⟨Nat.zero_le _, by simp [hpl], fun id q => by cases q⟩ (fun ⟨i, o⟩ hs => ?_) (by exact cov_of) (by subst hpre; exact sub_of)
    dsimp only at hs
    rcases hs with ⟨hi, ho1, ho2⟩
    have hge : ∀ h : i < t.its.length, (t.its.map itR).getD (Int.toNat (i : Nat)) [] = itR t.its[i] := fun h => row_get h
    have htk : ∀ h : i < t.its.length, ((t.its.take (i + 1)).map fun x => inR x.ty) = ((t.its.take i).map fun x => inR x.ty) ++ [inR t.its[i].ty] := fun h => take_map_succ _ _ _ h
    have htl : (t.its.take i).length = i := by rw [List.length_take]; omega
    (first | refine au ?_ | exact au0)
    refine bsplit_dec (fun c => ?_) (fun c => ?_)
    · have hil : i < t.its.length := by omega
      replace hge := hge hil
      replace htk := htk hil
      generalize t.its[i] = x at *
      rcases o with _ | ida
      · (first | refine au ?_ | exact au0)
        rw [hge]
        (first | refine au ?_ | exact au0)
        intro id9 hid9 ht9; have n9 := neAll_of hid9; (try simp only [neAll, neAll_hset] at n9); have m9 := n9; (repeat (obtain ⟨_, m9⟩ := m9))
        (first | refine au ?_ | exact au0)
        refine ⟨_, rfl, (Nat.le_of_ble_eq_true rfl), (fun q => by cases q), fun _ => ?_⟩
        intro id47 hid47 ht47; have n47 := neAll_of hid47; (try simp only [neAll, neAll_hset] at n47); have m47 := n47; (repeat (obtain ⟨_, m47⟩ := m47))
        (first | refine au ?_ | exact au0)
        have hp := ho1 rfl
        refine nextS (S := Nat × Option Nat) (i + 1, some id47) (by exact cov_of) ?_ (by dsimp only; omega) ⟨hil, by simp, fun j q => ?_⟩
        · dsimp only [accH]
          rw [htk, show pre = [] from List.eq_nil_of_length_eq_zero (by omega), show i = 0 from by omega]
          exact sub_of
        · simp only [Option.some.injEq] at q
          subst q
          exact ⟨ht47, by omega⟩
      · obtain ⟨hti, hdi⟩ := ho2 ida rfl
        (first | refine au ?_ | exact au0)
        rw [hge]
        (first | refine au ?_ | exact au0)
        intro id9 hid9 ht9; have n9 := neAll_of hid9; (try simp only [neAll, neAll_hset] at n9); have m9 := n9; (repeat (obtain ⟨_, m9⟩ := m9))
        (first | refine au ?_ | exact au0)
        refine ⟨_, _, readS_all (by exact hg_of) (by ((try dsimp only); (try simp only [List.length_append, List.length_map, List.length_cons, List.length_nil, List.length_take, List.length_set, List.length_replicate]); (try dsimp only); first | done | omega)), rfl, rfl, rfl, (hti), (by ((try dsimp only); (try simp only [List.length_append, List.length_map, List.length_cons, List.length_nil, List.length_take, List.length_set, List.length_replicate]); (try dsimp only); first | done | omega)), ?_⟩
        intro id47 hid47 ht47; have n47 := neAll_of hid47; (try simp only [neAll, neAll_hset] at n47); have m47 := n47; (repeat (obtain ⟨_, m47⟩ := m47))
        (first | refine au ?_ | exact au0)
        refine nextS (S := Nat × Option Nat) (i + 1, some id47) (by exact cov_of) ?_ (by dsimp only; omega) ⟨hil, by simp, fun j q => ?_⟩
        · dsimp only [accH]
          rw [htk, ← List.append_assoc]
          exact sub_of
        · simp only [Option.some.injEq] at q
          subst q
          exact ⟨ht47, by omega⟩
    · (first | refine au ?_ | exact au0)
      obtain rfl : i = t.its.length := by omega
      rw [List.take_length]
      refine accFz (by ((try dsimp only); (try simp only [List.length_append, List.length_map, List.length_cons, List.length_nil, List.length_take, List.length_set, List.length_replicate]); (try dsimp only); first | done | omega)) (fun q => ?_) (fun _ _ => rfl) ?_ (map_w (f := inR) (fun _ => rfl) _)
      · have := ho1 q
        rw [List.eq_nil_of_length_eq_zero (show pre.length = 0 by omega), List.eq_nil_of_length_eq_zero (show t.its.length = 0 by omega)]
        rfl
      · rw [hpre]
        simp only [List.map_cons, List.map_nil, List.map_map, List.cons_append, List.nil_append]
        exact FzR.refl _ _ _
  · rw [h1, h2, parts_no h1 h2 h3 h4]
    (first | refine au ?_ | exact au0)
    exact Fz.nil _
end Go.Proofs.YtjaigpidmngaaaaGreat

namespace Go.Proofs.YtjaigpidmngaaaaGreat
attribute [local irreducible] callA callP ACalls
abbrev kB (l : List Ty) (n : Nat) (t : Ty) : Blk := .rows 8 [[tysA l, .int .i64 (n : Nat), .int .i64 t.kd, .str t.nm, .int .i64 t.bd, .int .i64 t.el, .int .i64 t.tg, .rows 5 (t.its.map itR)]]
structure TyOk (t : Ty) : Prop where
  nm : t.nm.length ≤ 140737488351232
  its : t.its.length ≤ 4000000000000
  nms : ∀ x ∈ t.its, x.nm.length ≤ 140737488351232
  nums : ∀ x ∈ t.its, x.num < 18446744073709551616
structure TysOk (l : List Ty) : Prop where
  len : l.length ≤ 4000000000000
  all : ∀ t ∈ l, TyOk t
theorem kd4 {k : Int} (h : kNm k = true) : k = 9 ∨ k = 13 ∨ k = 14 := by simpa [kNm] using h
theorem kinds5 {k : Int} (h : ¬ (k < 1 ∨ 14 < k)) : (kNm k = false ∧ kBd k = false ∧ kEl k = false ∧ kTg k = false ∧ k ≤ 8) ∨ (kNm k = true ∧ kBd k = false ∧ kEl k = false ∧ kTg k = false ∧ (k = 9 ∨ k = 13)) ∨
    (kNm k = false ∧ kBd k = true ∧ kEl k = false ∧ kTg k = false ∧ k = 10) ∨ (kNm k = false ∧ kBd k = true ∧ kEl k = true ∧ kTg k = false ∧ (k = 11 ∨ k = 12)) ∨ (kNm k = true ∧ kBd k = false ∧ kEl k = false ∧ kTg k = true ∧ k = 14) := by
  have hk : k = 1 ∨ k = 2 ∨ k = 3 ∨ k = 4 ∨ k = 5 ∨ k = 6 ∨ k = 7 ∨ k = 8 ∨ k = 9 ∨ k = 10 ∨ k = 11 ∨ k = 12 ∨ k = 13 ∨ k = 14 := by omega
  rcases hk with rfl | rfl | rfl | rfl | rfl | rfl | rfl | rfl | rfl | rfl | rfl | rfl | rfl | rfl <;> decide
set_option maxHeartbeats 4000000 in
theorem form_spec (l : List Ty) (n : Nat) (t : Ty) (hok : TyOk t) (id : Nat) : SW PG types_look_form.n [.ptr id 8 0 0] id (kB l n t) [] (.int .i64 (formE t)) (kB l n t) := by
  have hlen : (t.its.map itR).length = t.its.length := by simp
  have hli := hok.its
  refine ACalls.fz (types_look_form.of rfl (wpF_start ?_))
  (first | refine au ?_ | exact au0)
  intro id3 hid3 ht3; have n3 := neAll_of hid3; (try simp only [neAll, neAll_hset] at n3); have m3 := n3; (repeat (obtain ⟨_, m3⟩ := m3))
  (first | refine au ?_ | exact au0)
  unfold formE
  by_cases hk : t.kd < 1 ∨ 14 < t.kd
  · rw [if_pos hk]
    (repeat' (first | (refine au ?_; first | refine bsplit_dec (fun _ => ?_) (fun _ => ?_) | refine bsplit_intro (fun _ => ?_) (fun _ => ?_)) | exact au0 | fail)); (all_goals try (first | refine au ?_ | fail))
    all_goals first | omega | exact ⟨fz_of, sub_of⟩
  rw [if_neg hk]
  refine bsplit_f (decide_eq_false (by omega)) ?_
  (first | refine au ?_ | exact au0)
  first | refine callF_eq (has_spec _ _) ?_ | refine callG_eq rfl (has_spec _ _) ?_
  have h0 : (0 : Int) < (t.its.map itR).length ↔ t.its ≠ [] := by rw [hlen]; cases t.its <;> simp
  rcases kinds5 hk with ⟨hN, hB, hE, hT, hh⟩ | ⟨hN, hB, hE, hT, hh⟩ | ⟨hN, hB, hE, hT, hh⟩ | ⟨hN, hB, hE, hT, hh⟩ | ⟨hN, hB, hE, hT, hh⟩
  all_goals by_cases hm : tyMore t = true
  all_goals simp only [hm, true_or, false_or, if_true]
  all_goals simp only [tyMore, decide_eq_true_eq] at hm
  all_goals rw [hN, hB, hE, hT] at hm ⊢
  all_goals (first | refine au ?_ | exact au0)
  all_goals (repeat' (first | (refine au ?_; first | refine bsplit_dec (fun _ => ?_) (fun _ => ?_) | refine bsplit_intro (fun _ => ?_) (fun _ => ?_)) | exact au0 | fail)); (all_goals try (first | refine au ?_ | fail))
  all_goals try (first | (exfalso; simp_all; done) | exact ⟨fz_of, sub_of⟩)
  all_goals refine loopL [(3, some _), (71, some _), (72, some _)] 73 0 t.its.length (none' (itMore t.kd) t.its) (by exact cov_of) (Nat.zero_le _) none'_zero (fun i hi hn => ?_)
  all_goals (first | refine au ?_ | exact au0)
  all_goals try refine bsplit_dec (fun c => ?_) (fun c => ?_)
  all_goals try (first | refine au ?_ | exact au0)
  all_goals first
    | (rw [none'_end hn (by omega)]; exact ⟨fz_of, sub_of⟩)
    | (exfalso; simp_all; done)
    | skip
  all_goals have hil : i < t.its.length := by omega
  all_goals have hge := row_get (f := itR) hil
  all_goals have hany : itMore t.kd t.its[i] = true → t.its.any (itMore t.kd) = true := any_hit hil
  all_goals have hnx := none'_succ hn hil
  all_goals generalize t.its[i] = x at *
  all_goals (first | refine au ?_ | exact au0)
  all_goals rw [hge]
  all_goals (first | refine au ?_ | exact au0)
  all_goals intro id9 hid9 ht9; have n9 := neAll_of hid9; (try simp only [neAll, neAll_hset] at n9); have m9 := n9; (repeat (obtain ⟨_, m9⟩ := m9))
  all_goals (repeat' (first | (refine au ?_; first | refine bsplit_dec (fun _ => ?_) (fun _ => ?_) | refine bsplit_intro (fun _ => ?_) (fun _ => ?_)) | exact au0 | fail)); (all_goals try (first | refine au ?_ | fail))
  all_goals first
    | (rw [hany (by unfold itMore; apply decide_eq_true; simp_all)]; exact ⟨fz_of, sub_of⟩)
    | (refine nextN (by exact cov_of) (by exact sub_of) (by omega) (hnx (by unfold itMore; apply decide_eq_false; simp_all)))
    | skip
end Go.Proofs.YtjaigpidmngaaaaGreat

namespace Go.Proofs.YtjaigpidmngaaaaGreat
attribute [local irreducible] callA callP ACalls
theorem name_Name_spec (s : List UInt8) (hs : s.length ≤ 140737488351232) (H : AH) : ACalls PG name_Name.n [.str s] H fun r H' => r = .bool (nameOk s) ∧ H' = H := by
  refine ACalls.fz (name_Name.of rfl (wpF_start ?_))
  have e : nameOk s = decide (s ≠ [] ∧ s.length ≤ 16 ∧ nl s = s.length ∧ rsv.contains s = false) := by
    unfold nameOk
    cases h : rsv.contains s <;> simp [Bool.decide_and, Bool.and_assoc]
  rw [e]
  have hnl := nl_le s
  (repeat' (first | (refine au ?_; first | refine callF_eq (name_Lead_spec s hs _) ?_ | refine callF_eq (word_spec s _) ?_ | refine bsplit_dec (fun _ => ?_) (fun _ => ?_) | refine bsplit_intro (fun _ => ?_) (fun _ => ?_)) | exact au0 | fail)); (all_goals try (first | refine au ?_ | fail))
  all_goals (refine ⟨fz_eq (congrArg AV.bool ?_), sub_of⟩; first | (symm; apply decide_eq_false; simp_all; done) | (symm; apply decide_eq_true; simp_all; done) | (simp_all; done) | (symm; apply decide_eq_false; rintro ⟨_, h1, h2, _⟩; omega) | (cases hr : rsv.contains s; exact (decide_eq_true ⟨by assumption, by omega, by omega, rfl⟩).symm; exact (decide_eq_false (by simp)).symm))
theorem bound_spec (l : List Ty) (n : Nat) (t : Ty) (id : Nat) : SW PG types_look_bound.n [.ptr id 8 0 0] id (kB l n t) [] (.int .i64 (boundE t)) (kB l n t) := by
  refine ACalls.fz (types_look_bound.of rfl (wpF_start ?_))
  (first | refine au ?_ | exact au0)
  first | refine callF_eq (has_spec _ _) ?_ | refine callG_eq rfl (has_spec _ _) ?_
  unfold boundE
  cases hB : kBd t.kd <;> cases hE : kEl t.kd
  all_goals (first | refine au ?_ | exact au0)
  all_goals (repeat' (first | (refine au ?_; first | refine bsplit_dec (fun _ => ?_) (fun _ => ?_) | refine bsplit_intro (fun _ => ?_) (fun _ => ?_)) | exact au0 | fail)); (all_goals try (first | refine au ?_ | fail))
  all_goals (refine ⟨fz_eq (congrArg (AV.int .i64) ?_), sub_of⟩; first | (rw [if_pos (by simp_all)]; done) | (rw [if_neg (by simp_all)]; done) | skip)
theorem named_spec (l : List Ty) (n : Nat) (t : Ty) (hok : TyOk t) (hl : TysOk l) (hn : n ≤ l.length) (id : Nat) : SW PG types_look_named.n [.ptr id 8 0 0] id (kB l n t) [] (.int .i64 (namedE l t n)) (kB l n t) := by
  have hlen : (l.map tyR).length = l.length := by simp
  have hll := hl.len
  refine ACalls.fz (types_look_named.of rfl (wpF_start ?_))
  unfold namedE
  (first | refine au ?_ | exact au0)
  first | refine callF_eq (has_spec _ _) ?_ | refine callG_eq rfl (has_spec _ _) ?_
  cases hN : kNm t.kd
  · (first | refine au ?_ | exact au0)
    exact ⟨fz_of, sub_of⟩
  (first | refine au ?_ | exact au0)
  first | refine callF_eq (name_Name_spec _ hok.nm _) ?_ | refine callG_eq rfl (name_Name_spec _ hok.nm _) ?_
  cases hO : nameOk t.nm
  · (first | refine au ?_ | exact au0)
    exact ⟨fz_of, sub_of⟩
  (first | refine au ?_ | exact au0)
  have e1 : List.drop (Int.toNat 0) (List.take (Int.toNat (n : Nat)) (l.map tyR)) = (l.take n).map tyR := by simp
  have hl2 : (l.take n).length = n := by rw [List.length_take]; omega
  rw [e1]
  have hlen2 : ((l.take n).map tyR).length = n := by simp; omega
  refine loopL [(0, some _), (37, some _), (38, some _)] 39 0 n (none' (fun x => x.nm == t.nm) (l.take n)) (by exact cov_of) (Nat.zero_le _) none'_zero (fun i hi hno => ?_)
  (first | refine au ?_ | exact au0)
  refine bsplit_dec (fun c => ?_) (fun c => ?_)
  · have hil : i < (l.take n).length := by omega
    have hge := row_get (f := tyR) hil
    have hany : ((l.take n)[i].nm == t.nm) = true → (l.take n).any (fun x => x.nm == t.nm) = true := any_hit (p := fun x : Ty => x.nm == t.nm) hil
    have hnx := none'_succ hno hil
    generalize (l.take n)[i] = x at *
    (first | refine au ?_ | exact au0)
    rw [hge]
    (first | refine au ?_ | exact au0)
    intro id8 hid8 ht8; have n8 := neAll_of hid8; (try simp only [neAll, neAll_hset] at n8); have m8 := n8; (repeat (obtain ⟨_, m8⟩ := m8))
    (first | refine au ?_ | exact au0)
    refine bsplit_dec (fun h => ?_) (fun h => ?_)
    · (first | refine au ?_ | exact au0)
      rw [hany (by simpa using h)]
      exact ⟨fz_of, sub_of⟩
    · (first | refine au ?_ | exact au0)
      refine nextN (by exact cov_of) (by exact sub_of) (by omega) (hnx (by simpa using h))
  · (first | refine au ?_ | exact au0)
    rw [none'_end hno (by omega)]
    exact ⟨fz_of, sub_of⟩
theorem parts_spec (t : Ty) (ht : t.its.length ≤ 4000000000000) (H : AH) : ACalls PG types_parts.n [.agg (tyR t)] H fun r H' => r = .rows 1 ((parts t).map inR) ∧ H' = H := (parts_spec0 t ht).frame H
theorem parts_len (t : Ty) : (parts t).length ≤ t.its.length + 2 := by
  unfold parts
  simp only [List.length_append]
  have : (if kEl t.kd = true then [t.el] else []).length ≤ 1 := by split <;> simp
  have : (if kTg t.kd = true then [t.tg] else []).length ≤ 1 := by split <;> simp
  have : (if t.kd = 13 ∨ t.kd = 14 then t.its.map (·.ty) else []).length ≤ t.its.length := by split <;> simp
  omega
theorem parts_tag {t : Ty} (h : t.kd = 14) : t.tg ∈ parts t := by
  unfold parts; rw [show kTg t.kd = true from by simp [kTg, h], if_pos rfl]; simp
theorem order_spec (l : List Ty) (n : Nat) (t : Ty) (hok : TyOk t) (hl : TysOk l) (hn : n < l.length) (id : Nat) : SW PG types_look_order.n [.ptr id 8 0 0] id (kB l n t) [] (.int .i64 (orderE l t n)) (kB l n t) := by
  have hlen : (l.map tyR).length = l.length := by simp
  have hll := hl.len
  have hil := hok.its
  have hpl := parts_len t
  have hplm : ((parts t).map inR).length = (parts t).length := by simp
  refine ACalls.fz (types_look_order.of rfl (wpF_start ?_))
  unfold orderE
  (first | refine au ?_ | exact au0)
  first | refine callF_eq (parts_spec t hok.its _) ?_ | refine callG_eq rfl (parts_spec t hok.its _) ?_
  (first | refine au ?_ | exact au0)
  refine loopL [(0, some _), (9, some _), (10, some _)] 11 0 (parts t).length (none' (fun p => decide (p < 0 ∨ (n : Int) ≤ p)) (parts t)) (by exact cov_of) (Nat.zero_le _) none'_zero (fun i hi hno => ?_)
  (first | refine au ?_ | exact au0)
  refine bsplit_dec (fun c => ?_) (fun c => ?_)
  · have hpi : i < (parts t).length := by omega
    have hge := row_get (f := inR) hpi
    have hany : decide ((parts t)[i] < 0 ∨ (n : Int) ≤ (parts t)[i]) = true → (parts t).any (fun p => decide (p < 0 ∨ (n : Int) ≤ p)) = true := any_hit (p := fun p => decide (p < 0 ∨ (n : Int) ≤ p)) hpi
    have hnx := none'_succ hno hpi
    generalize (parts t)[i] = x at *
    (first | refine au ?_ | exact au0)
    rw [hge]
    (first | refine au ?_ | exact au0)
    (repeat' (first | (refine au ?_; first | refine bsplit_dec (fun _ => ?_) (fun _ => ?_) | refine bsplit_intro (fun _ => ?_) (fun _ => ?_)) | exact au0 | fail)); (all_goals try (first | refine au ?_ | fail))
    · rw [hany (decide_eq_true (by omega))]
      exact ⟨fz_of, sub_of⟩
    · rw [hany (decide_eq_true (by omega))]
      exact ⟨fz_of, sub_of⟩
    · refine nextN (by exact cov_of) (by exact sub_of) (by omega) (hnx (decide_eq_false (by omega)))
  · have hany := none'_end hno (show (parts t).length ≤ i by omega)
    rw [hany]
    (first | refine au ?_ | exact au0)
    refine bsplit_dec (fun h => ?_) (fun h => ?_)
    · have hm := parts_tag h
      rw [List.any_eq_false] at hany
      have hq := hany _ hm
      simp only [decide_eq_true_eq] at hq
      have hge := row_get (f := tyR) (l := l) (i := t.tg.toNat) (by omega)
      rw [Int.toNat_natCast] at hge
      have htt : tAt l t.tg = l[t.tg.toNat]'(by omega) := by unfold tAt; simp [List.getD, show t.tg.toNat < l.length from by omega]
      generalize l[t.tg.toNat]'(by omega) = g at *
      (first | refine au ?_ | exact au0)
      rw [hge]
      (first | refine au ?_ | exact au0)
      first | refine callF_eq (prim_Number_spec _ _) ?_ | refine callG_eq rfl (prim_Number_spec _ _) ?_
      rw [htt]
      cases hI : isNum g.kd
      · (first | refine au ?_ | exact au0)
        exact ⟨fz_eq (by simp [h]), sub_of⟩
      · (first | refine au ?_ | exact au0)
        exact ⟨fz_eq (by simp), sub_of⟩
    · (first | refine au ?_ | exact au0)
      exact ⟨fz_eq (by simp [h]), sub_of⟩
end Go.Proofs.YtjaigpidmngaaaaGreat

namespace Go.Proofs.YtjaigpidmngaaaaGreat
attribute [local irreducible] callA callP ACalls
def fIx (l : List Ty) (t : Int) (kp : Int → Bool) (hp : It → Bool) : Option Nat := if 0 ≤ t ∧ t < l.length ∧ kp (tAt l t).kd = true then (tAt l t).its.findIdx? hp else none
abbrev ixA : Option Nat → AV
  | some n => .tup [.int .i64 (n : Nat), .bool true]
  | none => .tup [.int .i64 0, .bool false]
theorem tAt_get {l : List Ty} {t : Int} (h0 : 0 ≤ t) (h : t < l.length) : (l.map tyR).getD t.toNat [] = tyR (tAt l t) := by
  unfold tAt; simp [List.getD, show t.toNat < l.length from by omega]
theorem tAt_mem {l : List Ty} {t : Int} (h0 : 0 ≤ t) (h : t < l.length) : tAt l t ∈ l := by
  have : t.toNat < l.length := by omega
  unfold tAt; simp [List.getD, this]
theorem find_spec (l : List Ty) (hl : TysOk l) (t : Int) (f1 f2 : Nat) (c1 c2 : List AV) (kp : Int → Bool) (hp : It → Bool) (Hs : AH) (h1 : ∀ k, ACalls PG f1 (.int .i64 k :: c1) Hs fun r H' => r = .bool (kp k) ∧ H' = Hs)
    (h2 : ∀ x, ACalls PG f2 (.agg (itR x) :: c2) Hs fun r H' => r = .bool (hp x) ∧ H' = Hs) : ACalls PG types_find.n [tysA l, .int .i64 t, .clo f1 [] c1, .clo f2 [] c2] Hs fun r H' => r = ixA (fIx l t kp hp) ∧ H' = Hs := by
  have hlen : (l.map tyR).length = l.length := by simp
  have hll := hl.len
  refine ACalls.fz (types_find.of rfl (wpF_start ?_))
  unfold fIx
  (first | refine au ?_ | exact au0)
  by_cases hb : 0 ≤ t ∧ t < l.length
  · have hge := tAt_get hb.1 hb.2
    have hti := (hl.all _ (tAt_mem hb.1 hb.2)).its
    generalize tAt l t = g at *
    have hlen2 : (g.its.map itR).length = g.its.length := by simp
    (first | refine au ?_ | exact au0)
    rw [hge]
    (first | refine au ?_ | exact au0)
    first | refine callF_eq (h1 _) ?_ | refine callG_eq rfl (h1 _) ?_
    cases hk : kp g.kd
    · (first | refine au ?_ | exact au0)
      rw [if_neg (by simp)]
      exact ⟨fz_of, sub_of⟩
    · rw [if_pos ⟨hb.1, hb.2, rfl⟩]
      (first | refine au ?_ | exact au0)
      rw [hge]
      (first | refine au ?_ | exact au0)
      refine loopL [(3, some _), (34, some _), (35, some _)] 36 0 g.its.length (none' hp g.its) (by exact cov_of) (Nat.zero_le _) none'_zero (fun i hi hno => ?_)
      (first | refine au ?_ | exact au0)
      refine bsplit_dec (fun c => ?_) (fun c => ?_)
      · have hil : i < g.its.length := by omega
        have hge2 := row_get (f := itR) hil
        have hhit : hp g.its[i] = true → g.its.findIdx? hp = some i := find_hit hno hil
        have hnx := none'_succ hno hil
        generalize g.its[i] = x at *
        (first | refine au ?_ | exact au0)
        rw [hge2]
        (first | refine au ?_ | exact au0)
        intro id9 hid9 ht9; have n9 := neAll_of hid9; (try simp only [neAll, neAll_hset] at n9); have m9 := n9; (repeat (obtain ⟨_, m9⟩ := m9))
        (first | refine au ?_ | exact au0)
        first | refine callF_eq ((h2 x).sup (by exact sub_of)) ?_ | refine callG_eq rfl ((h2 x).sup (by exact sub_of)) ?_
        cases hx : hp x
        · (first | refine au ?_ | exact au0)
          refine nextN (by exact cov_of) (by exact sub_of) (by omega) (hnx hx)
        · (first | refine au ?_ | exact au0)
          rw [hhit hx]
          exact ⟨fz_of, sub_of⟩
      · (first | refine au ?_ | exact au0)
        rw [find_none hno (by omega)]
        exact ⟨fz_of, sub_of⟩
  · rw [if_neg (fun q => hb ⟨q.1, q.2.1⟩)]
    (repeat' (first | (refine au ?_; first | refine bsplit_dec (fun _ => ?_) (fun _ => ?_) | refine bsplit_intro (fun _ => ?_) (fun _ => ?_)) | exact au0 | fail)); (all_goals try (first | refine au ?_ | fail))
    all_goals first | omega | exact ⟨fz_of, sub_of⟩
theorem Value1_spec (k : Int) (H : AH) : ACalls PG types_Value_1.n [.int .i64 k] H fun r H' => r = .bool (decide (k = 9)) ∧ H' = H := by
  refine ACalls.fz (types_Value_1.of rfl (wpF_start ?_))
  (first | refine au ?_ | exact au0)
  exact ⟨fz_of, sub_of⟩
theorem Value2_spec (x : It) (n id : Nat) : ACalls PG types_Value_2.n [.agg (itR x), .ptr id 1 0 0] [(id, .rows 1 [[.int .u64 (n : Nat)]])] fun r H' => r = .bool (x.num == n) ∧ H' = [(id, .rows 1 [[.int .u64 (n : Nat)]])] := by
  refine ACalls.fz (types_Value_2.of' (Nat.le_of_ble_eq_true rfl) (wpF_start ?_))
  (first | refine au ?_ | exact au0)
  intro id2 hid2 ht2; have n2 := neAll_of hid2; (try simp only [neAll, neAll_hset] at n2); have m2 := n2; (repeat (obtain ⟨_, m2⟩ := m2))
  (first | refine au ?_ | exact au0)
  refine ⟨fz_eq (congrArg AV.bool ?_), sub_of⟩
  rw [Bool.eq_iff_iff]; simp; omega
theorem fIx_val (l : List Ty) (t : Int) (n : Nat) : fIx l t (fun k => decide (k = 9)) (fun x => x.num == n) = valIx l t n := by
  unfold fIx valIx; simp only [decide_eq_true_eq]
theorem Value_spec (l : List Ty) (hl : TysOk l) (t : Int) (n : Nat) (H : AH) : ACalls PG types_Value.n [tysA l, .int .i64 t, .int .u64 (n : Nat)] H fun r H' => r = ixA (valIx l t n) ∧ H' = H := by
  refine ACalls.fz (types_Value.of rfl (wpF_start ?_))
  rw [← fIx_val]
  (first | refine au ?_ | exact au0)
  intro id5 hid5 ht5; have n5 := neAll_of hid5; (try simp only [neAll, neAll_hset] at n5); have m5 := n5; (repeat (obtain ⟨_, m5⟩ := m5))
  (first | refine au ?_ | exact au0)
  first | refine callF_eq ((find_spec l hl t types_Value_1.n types_Value_2.n [] [.ptr id5 1 0 0] (fun k => decide (k = 9)) (fun x => x.num == n) _ (fun k => Value1_spec k _) (fun x => Value2_spec x n id5)).sup (by exact sub_of)) ?_ | refine callG_eq rfl ((find_spec l hl t types_Value_1.n types_Value_2.n [] [.ptr id5 1 0 0] (fun k => decide (k = 9)) (fun x => x.num == n) _ (fun k => Value1_spec k _) (fun x => Value2_spec x n id5)).sup (by exact sub_of)) ?_
  cases fIx l t (fun k => decide (k = 9)) (fun x => x.num == n) with
  | some m =>
    (first | refine au ?_ | exact au0)
    exact ⟨fz_of, sub_of⟩
  | none =>
    (first | refine au ?_ | exact au0)
    exact ⟨fz_of, sub_of⟩
theorem Branch1_spec (k : Int) (H : AH) : ACalls PG types_Branch_1.n [.int .i64 k] H fun r H' => r = .bool (decide (k = 14)) ∧ H' = H := by
  refine ACalls.fz (types_Branch_1.of rfl (wpF_start ?_))
  (first | refine au ?_ | exact au0)
  exact ⟨fz_of, sub_of⟩
theorem Branch2_spec (x : It) (n id : Nat) : ACalls PG types_Branch_2.n [.agg (itR x), .ptr id 1 0 0] [(id, .rows 1 [[.int .u64 (n : Nat)]])] fun r H' => r = .bool (x.num == n && !x.rest) ∧ H' = [(id, .rows 1 [[.int .u64 (n : Nat)]])] := by
  refine ACalls.fz (types_Branch_2.of' (Nat.le_of_ble_eq_true rfl) (wpF_start ?_))
  (first | refine au ?_ | exact au0)
  intro id2 hid2 ht2; have n2 := neAll_of hid2; (try simp only [neAll, neAll_hset] at n2); have m2 := n2; (repeat (obtain ⟨_, m2⟩ := m2))
  (first | refine au ?_ | exact au0)
  refine bsplit_dec (fun c => ?_) (fun c => ?_)
  · (first | refine au ?_ | exact au0)
    refine ⟨fz_eq (congrArg AV.bool ?_), sub_of⟩
    have : x.num = n := by omega
    simp [this]
  · (first | refine au ?_ | exact au0)
    refine ⟨fz_eq (congrArg AV.bool ?_), sub_of⟩
    have : ¬ x.num = n := by omega
    simp [this]
theorem Branch3_spec (x : It) (H : AH) : ACalls PG types_Branch_3.n [.agg (itR x)] H fun r H' => r = .bool x.rest ∧ H' = H := by
  refine ACalls.fz (types_Branch_3.of rfl (wpF_start ?_))
  (first | refine au ?_ | exact au0)
  intro id1 hid1 ht1; have n1 := neAll_of hid1; (try simp only [neAll, neAll_hset] at n1); have m1 := n1; (repeat (obtain ⟨_, m1⟩ := m1))
  (first | refine au ?_ | exact au0)
  exact ⟨fz_of, sub_of⟩
theorem fIx_br (l : List Ty) (t : Int) (n : Nat) : (fIx l t (fun k => decide (k = 14)) (fun x => x.num == n && !x.rest)).or (fIx l t (fun k => decide (k = 14)) (·.rest)) = brIx l t n := by
  unfold fIx brIx; simp only [decide_eq_true_eq]; split <;> rfl
theorem Branch_spec (l : List Ty) (hl : TysOk l) (t : Int) (n : Nat) (H : AH) : ACalls PG types_Branch.n [tysA l, .int .i64 t, .int .u64 (n : Nat)] H fun r H' => r = ixA (brIx l t n) ∧ H' = H := by
  refine ACalls.fz (types_Branch.of rfl (wpF_start ?_))
  rw [← fIx_br]
  (first | refine au ?_ | exact au0)
  intro id5 hid5 ht5; have n5 := neAll_of hid5; (try simp only [neAll, neAll_hset] at n5); have m5 := n5; (repeat (obtain ⟨_, m5⟩ := m5))
  (first | refine au ?_ | exact au0)
  first | refine callF_eq ((find_spec l hl t types_Branch_1.n types_Branch_2.n [] [.ptr id5 1 0 0] (fun k => decide (k = 14)) (fun x => x.num == n && !x.rest) _ (fun k => Branch1_spec k _) (fun x => Branch2_spec x n id5)).sup (by exact sub_of)) ?_ | refine callG_eq rfl ((find_spec l hl t types_Branch_1.n types_Branch_2.n [] [.ptr id5 1 0 0] (fun k => decide (k = 14)) (fun x => x.num == n && !x.rest) _ (fun k => Branch1_spec k _) (fun x => Branch2_spec x n id5)).sup (by exact sub_of)) ?_
  cases fIx l t (fun k => decide (k = 14)) (fun x => x.num == n && !x.rest) with
  | some m =>
    (first | refine au ?_ | exact au0)
    exact ⟨fz_of, sub_of⟩
  | none =>
    (first | refine au ?_ | exact au0)
    first | refine callF_eq (find_spec l hl t types_Branch_1.n types_Branch_3.n [] [] (fun k => decide (k = 14)) (fun x => x.rest) _ (fun k => Branch1_spec k _) (fun x => Branch3_spec x _)) ?_ | refine callG_eq rfl (find_spec l hl t types_Branch_1.n types_Branch_3.n [] [] (fun k => decide (k = 14)) (fun x => x.rest) _ (fun k => Branch1_spec k _) (fun x => Branch3_spec x _)) ?_
    cases fIx l t (fun k => decide (k = 14)) (fun x => x.rest) with
    | some m =>
      (first | refine au ?_ | exact au0)
      exact ⟨fz_of, sub_of⟩
    | none =>
      (first | refine au ?_ | exact au0)
      exact ⟨fz_of, sub_of⟩
theorem orderE_in {l : List Ty} {t : Ty} {n : Nat} (h : orderE l t n = 0) : ∀ p ∈ parts t, 0 ≤ p ∧ p < n := by
  intro p hp
  unfold orderE at h
  split at h
  · cases h
  · rename_i hn
    have := List.any_eq_false.1 (by simpa using hn : (parts t).any (fun p => decide (p < 0 ∨ (n : Int) ≤ p)) = false) p hp
    simp only [decide_eq_true_eq] at this
    omega
theorem may_spec (l : List Ty) (hl : TysOk l) (n : Nat) (t : Ty) (hn : n ≤ l.length) (hN : kNm t.kd = true) (h13 : t.kd ≠ 13) (ho : orderE l t n = 0) (m : Nat) (id : Nat) : SW PG types_look_may.n [.ptr id 8 0 0, .int .u64 (m : Nat)] id (kB l n t) [] (.bool (mayT l t m)) (kB l n t) := by
  have hlen : (l.map tyR).length = l.length := by simp
  have hll := hl.len
  refine ACalls.fz (types_look_may.of rfl (wpF_start ?_))
  unfold mayT
  (first | refine au ?_ | exact au0)
  refine bsplit_dec (fun c => ?_) (fun c => ?_)
  · rw [if_pos c]
    (first | refine au ?_ | exact au0)
    first | refine callF_eq (prim_May_spec _ m _) ?_ | refine callG_eq rfl (prim_May_spec _ m _) ?_
    (first | refine au ?_ | exact au0)
    exact ⟨fz_of, sub_of⟩
  · rw [if_neg c]
    have h14 : t.kd = 14 := by rcases kd4 hN with h | h | h <;> omega
    have hin := orderE_in ho _ (parts_tag h14)
    have hge := tAt_get (l := l) hin.1 (by omega)
    generalize hg : tAt l t.tg = g at *
    (first | refine au ?_ | exact au0)
    rw [hge]
    (first | refine au ?_ | exact au0)
    intro id4 hid4 ht4; have n4 := neAll_of hid4; (try simp only [neAll, neAll_hset] at n4); have m4 := n4; (repeat (obtain ⟨_, m4⟩ := m4))
    (first | refine au ?_ | exact au0)
    refine bsplit_dec (fun c2 => ?_) (fun c2 => ?_)
    · rw [if_pos c2]
      have hV := fun H => Value_spec l hl t.tg m H
      generalize valIx l t.tg m = o at *
      cases o with
      | some k =>
        (first | refine au ?_ | exact au0)
        first | refine callF_eq (hV _) ?_ | refine callG_eq rfl (hV _) ?_
        (first | refine au ?_ | exact au0)
        exact ⟨fz_of, sub_of⟩
      | none =>
        (first | refine au ?_ | exact au0)
        first | refine callF_eq (hV _) ?_ | refine callG_eq rfl (hV _) ?_
        (first | refine au ?_ | exact au0)
        exact ⟨fz_of, sub_of⟩
    · rw [if_neg c2]
      (first | refine au ?_ | exact au0)
      first | refine callF_eq (prim_May_spec _ m _) ?_ | refine callG_eq rfl (prim_May_spec _ m _) ?_
      (first | refine au ?_ | exact au0)
      exact ⟨fz_of, sub_of⟩
end Go.Proofs.YtjaigpidmngaaaaGreat

namespace Go.Proofs.YtjaigpidmngaaaaGreat
attribute [local irreducible] callA callP ACalls
theorem getD_get {α : Type} {l : List α} {i : Nat} {d : α} (h : i < l.length) : l.getD i d = l[i] := by simp [List.getD, h]
theorem parts_item {t : Ty} (h : t.kd = 13 ∨ t.kd = 14) {x : It} (hx : x ∈ t.its) : x.ty ∈ parts t := by
  unfold parts; rw [if_pos h]; simp only [List.mem_append]; exact .inr (List.mem_map_of_mem hx)
theorem item_spec (l : List Ty) (hl : TysOk l) (n : Nat) (t : Ty) (hok : TyOk t) (hn : n ≤ l.length) (hN : kNm t.kd = true) (ho : orderE l t n = 0) (i : Nat) (hi : i < t.its.length) (id : Nat) :
    SW PG types_look_item.n [.ptr id 8 0 0, .int .i64 (i : Nat)] id (kB l n t) [] (.int .i64 (itemE l t i)) (kB l n t) := by
  have hlen : (t.its.map itR).length = t.its.length := by simp
  have hll := hl.len
  have hli := hok.its
  have hge := row_get (f := itR) hi
  have hx := List.getElem_mem hi
  have hsn := hok.nms _ hx
  have hpt := fun h => parts_item (t := t) h hx
  have hmay := fun h13 => may_spec l hl n t hn hN h13 ho t.its[i].num id
  refine ACalls.fz (types_look_item.of rfl (wpF_start ?_))
  unfold itemE
  dsimp only
  rw [getD_get hi]
  generalize t.its[i] = x at *
  (first | refine au ?_ | exact au0)
  rw [hge]
  (first | refine au ?_ | exact au0)
  intro id5 hid5 ht5; have n5 := neAll_of hid5; (try simp only [neAll, neAll_hset] at n5); have m5 := n5; (repeat (obtain ⟨_, m5⟩ := m5))
  (first | refine au ?_ | exact au0)
  first | refine callF_eq (name_Name_spec _ hsn _) ?_ | refine callG_eq rfl (name_Name_spec _ hsn _) ?_
  cases hO : nameOk x.nm
  · (first | refine au ?_ | exact au0)
    exact ⟨fz_of, sub_of⟩
  rw [if_pos rfl]
  (first | refine au ?_ | exact au0)
  have e1 : List.drop (Int.toNat 0) (List.take (Int.toNat (i : Nat)) (t.its.map itR)) = (t.its.take i).map itR := by simp
  have hl2 : (t.its.take i).length = i := by rw [List.length_take]; omega
  have hlen2 : ((t.its.take i).map itR).length = i := by simp; omega
  rw [e1]
  refine loopL [(0, some _), (1, some _), (5, some _), (29, some _), (30, some _)] 31 0 i (none' (fun y => y.nm == x.nm) (t.its.take i)) (by exact cov_of) (Nat.zero_le _) none'_zero (fun j hj hno => ?_)
  (first | refine au ?_ | exact au0)
  refine bsplit_dec (fun c => ?_) (fun c => ?_)
  · have hil : j < (t.its.take i).length := by omega
    have hge2 := row_get (f := itR) hil
    have hany : ((t.its.take i)[j].nm == x.nm) = true → (t.its.take i).any (fun y => y.nm == x.nm) = true := any_hit (p := fun y : It => y.nm == x.nm) hil
    have hnx := none'_succ hno hil
    generalize (t.its.take i)[j] = y at *
    (first | refine au ?_ | exact au0)
    rw [hge2]
    (first | refine au ?_ | exact au0)
    intro id7 hid7 ht7; have n7 := neAll_of hid7; (try simp only [neAll, neAll_hset] at n7); have m7 := n7; (repeat (obtain ⟨_, m7⟩ := m7))
    (first | refine au ?_ | exact au0)
    refine bsplit_dec (fun h => ?_) (fun h => ?_)
    · (first | refine au ?_ | exact au0)
      rw [hany (by simpa using h)]
      exact ⟨fz_of, sub_of⟩
    · (first | refine au ?_ | exact au0)
      refine nextN (by exact cov_of) (by exact sub_of) (by omega) (hnx (by simpa using h))
  rw [none'_end hno (by omega), if_neg Bool.false_ne_true]
  (first | refine au ?_ | exact au0)
  refine bsplit_dec (fun h13 => ?_) (fun h13 => ?_)
  · have hin := orderE_in ho _ (hpt (.inl h13))
    have hge3 := tAt_get (l := l) hin.1 (by omega)
    rw [if_pos h13]
    generalize tAt l x.ty = g at *
    (first | refine au ?_ | exact au0)
    rw [hge3]
    cases hkey : x.key
    all_goals (repeat' (first | (refine au ?_; first | refine callF_eq (prim_Number_spec _ _) ?_ | refine bsplit_dec (fun _ => ?_) (fun _ => ?_) | refine bsplit_intro (fun _ => ?_) (fun _ => ?_)) | exact au0 | fail)); (all_goals try (first | refine au ?_ | fail))
    all_goals (refine ⟨fz_eq (congrArg (AV.int .i64) ?_), sub_of⟩; first | (simp only [isNum, decide_eq_false_iff_not, true_and, Bool.false_eq_true, false_and, if_false]; done) | (simp only [isNum, decide_eq_false_iff_not, true_and, Bool.false_eq_true, false_and, if_false]; split <;> omega))
  · rw [if_neg h13]
    have hm := hmay h13
    cases hr : x.rest
    · (first | refine au ?_ | exact au0)
      refine hm.call (by exact hg_of) (Sub.nil _) ?_
      cases hy : mayT l t x.num
      · (first | refine au ?_ | exact au0)
        exact ⟨fz_of, sub_of⟩
      (first | refine au ?_ | exact au0)
      rw [e1]
      refine loopL [(5, some _), (97, some _), (98, some _)] 99 0 i (none' (fun y => y.num == x.num) (t.its.take i)) (by exact cov_of) (Nat.zero_le _) none'_zero (fun j hj hno => ?_)
      (first | refine au ?_ | exact au0)
      refine bsplit_dec (fun c => ?_) (fun c => ?_)
      · have hil : j < (t.its.take i).length := by omega
        have hge2 := row_get (f := itR) hil
        have hany : ((t.its.take i)[j].num == x.num) = true → (t.its.take i).any (fun y => y.num == x.num) = true := any_hit (p := fun y : It => y.num == x.num) hil
        have hnx := none'_succ hno hil
        generalize (t.its.take i)[j] = y at *
        (first | refine au ?_ | exact au0)
        rw [hge2]
        (first | refine au ?_ | exact au0)
        intro id7 hid7 ht7; have n7 := neAll_of hid7; (try simp only [neAll, neAll_hset] at n7); have m7 := n7; (repeat (obtain ⟨_, m7⟩ := m7))
        (first | refine au ?_ | exact au0)
        refine bsplit_dec (fun h => ?_) (fun h => ?_)
        · (first | refine au ?_ | exact au0)
          rw [hany (by simp; omega)]
          exact ⟨fz_of, sub_of⟩
        · (first | refine au ?_ | exact au0)
          refine nextN (by exact cov_of) (by exact sub_of) (by omega) (hnx (by simp; omega))
      · rw [none'_end hno (by omega)]
        (first | refine au ?_ | exact au0)
        exact ⟨fz_of, sub_of⟩
    · rw [if_pos (rfl : true = true)]
      (first | refine au ?_ | exact au0)
      refine bsplit_dec (fun c => ?_) (fun c => ?_)
      · (first | refine au ?_ | exact au0)
        refine ⟨fz_eq (congrArg (AV.int .i64) ?_), sub_of⟩
        rw [if_neg (by omega)]
      · (first | refine au ?_ | exact au0)
        refine ⟨fz_eq (congrArg (AV.int .i64) ?_), sub_of⟩
        rw [if_pos (by omega)]
theorem items_spec (l : List Ty) (hl : TysOk l) (n : Nat) (t : Ty) (hok : TyOk t) (hn : n ≤ l.length) (ho : orderE l t n = 0) (id : Nat) :
    SW PG types_look_items.n [.ptr id 8 0 0] id (kB l n t) [] (.int .i64 (itemsE l t)) (kB l n t) := by
  have hlen : (t.its.map itR).length = t.its.length := by simp
  have hli := hok.its
  refine ACalls.fz (types_look_items.of rfl (wpF_start ?_))
  unfold itemsE
  (first | refine au ?_ | exact au0)
  first | refine callF_eq (has_spec _ _) ?_ | refine callG_eq rfl (has_spec _ _) ?_
  cases hN : kNm t.kd
  · (first | refine au ?_ | exact au0)
    exact ⟨fz_of, sub_of⟩
  rw [if_pos rfl]
  (first | refine au ?_ | exact au0)
  refine bsplit_dec (fun c => ?_) (fun c => ?_)
  · (first | refine au ?_ | exact au0)
    exact ⟨fz_eq (congrArg (AV.int .i64) (by rw [if_pos (by omega)])), sub_of⟩
  rw [if_neg (by omega)]
  (first | refine au ?_ | exact au0)
  refine bsplit_dec (fun c2 => ?_) (fun c2 => ?_)
  · (first | refine au ?_ | exact au0)
    exact ⟨fz_eq (congrArg (AV.int .i64) (by rw [if_pos (by omega)])), sub_of⟩
  rw [if_neg (by omega)]
  (first | refine au ?_ | exact au0)
  have hgl : ∀ (k : Nat) (h : k < ((List.range t.its.length).map (itemE l t)).length), ((List.range t.its.length).map (itemE l t))[k] = itemE l t k := fun k h => by simp
  have hlm : ((List.range t.its.length).map (itemE l t)).length = t.its.length := by simp
  refine loopL [(0, some _), (40, some _)] 41 0 t.its.length (fun i => ∀ k, k < i → itemE l t k = 0) (by exact cov_of) (Nat.zero_le _) (fun k h => by omega) (fun i hi hno => ?_)
  (first | refine au ?_ | exact au0)
  refine bsplit_dec (fun c3 => ?_) (fun c3 => ?_)
  · have hil : i < t.its.length := by omega
    (first | refine au ?_ | exact au0)
    refine (item_spec l hl n t hok hn hN ho i hil id).call (by exact hg_of) (Sub.nil _) ?_
    (first | refine au ?_ | exact au0)
    refine bsplit_dec (fun h => ?_) (fun h => ?_)
    · (first | refine au ?_ | exact au0)
      rw [fst0_hit (i := i) (fun k hk h3 => by rw [hgl]; exact hno k h3) (by omega) (by rw [hgl]; exact h), hgl]
      exact ⟨fz_of, sub_of⟩
    · (first | refine au ?_ | exact au0)
      refine nextN (by exact cov_of) (by exact sub_of) (by omega) (fun k hk => ?_)
      by_cases e : k = i
      · subst e; exact Classical.not_not.1 h
      · exact hno k (by omega)
  · (first | refine au ?_ | exact au0)
    rw [fst0_end (fun k hk => by rw [hgl]; exact hno k (by omega))]
    exact ⟨fz_of, sub_of⟩
end Go.Proofs.YtjaigpidmngaaaaGreat

namespace Go.Proofs.YtjaigpidmngaaaaGreat
attribute [local irreducible] callA callP ACalls
abbrev naR (n : Nat) : List AV := [.int .i64 (n : Nat)]
def dpF (D : List Nat) (n : Nat) (m : Nat) (p : Int) : Nat := if 0 ≤ p ∧ p < (n : Int) then max m (D.getD p.toNat 0 + 1) else m
theorem dpT_succ (l : List Ty) (n : Nat) : dpT l (n + 1) = dpT l n ++ [(parts (l.getD n ty0)).foldl (dpF (dpT l n) n) 1] := rfl
theorem dpT_len (l : List Ty) : ∀ n, (dpT l n).length = n
  | 0 => rfl
  | n + 1 => by rw [dpT_succ, List.length_append, dpT_len l n]; rfl
theorem foldl_take {α β : Type} (f : β → α → β) (b : β) (l : List α) (i : Nat) (h : i < l.length) : (l.take (i + 1)).foldl f b = f ((l.take i).foldl f b) l[i] := by
  rw [List.take_add_one, List.getElem?_eq_getElem h, List.foldl_append]; rfl
theorem dpF_le {D : List Nat} {n b : Nat} (hD : ∀ x ∈ D, x ≤ b) : ∀ (ps : List Int) (m : Nat), m ≤ b + 1 → ps.foldl (dpF D n) m ≤ b + 1
  | [], m, h => h
  | p :: ps, m, h => by
    refine dpF_le hD ps _ ?_
    unfold dpF
    split
    · have : D.getD p.toNat 0 ≤ b := by
        by_cases hp : p.toNat < D.length
        · rw [getD_get hp]; exact hD _ (List.getElem_mem hp)
        · simp [List.getD, hp]
      omega
    · exact h
theorem dpT_le (l : List Ty) : ∀ n, ∀ x ∈ dpT l n, x ≤ n
  | 0, x, h => by cases h
  | n + 1, x, h => by
    rw [dpT_succ, List.mem_append] at h
    rcases h with h | h
    · have := dpT_le l n x h; omega
    · simp only [List.mem_singleton] at h
      rw [h]
      exact dpF_le (dpT_le l n) _ _ (by omega)
def dpR (D : List Nat) (m k : Nat) : List (List AV) := (D ++ m :: List.replicate k 0).map naR
theorem dpR_set {D : List Nat} {m m' k n : Nat} (h : D.length = n) : (dpR D m k).set n (naR m') = dpR D m' k := by
  unfold dpR
  rw [← List.map_set, List.set_append_right _ _ (by omega)]
  simp [h]
theorem dpR_at {D : List Nat} {m k n : Nat} (h : D.length = n) : (dpR D m k)[n]? = some (naR m) := by
  unfold dpR; rw [List.getElem?_map, List.getElem?_append_right (by omega)]; simp [h]
theorem dpR_lt {D : List Nat} {m k p : Nat} (h : p < D.length) : (dpR D m k)[p]? = some (naR (D.getD p 0)) := by
  unfold dpR; rw [List.getElem?_map, List.getElem?_append_left h]; simp [List.getD, h]
theorem Deep_spec0 (l : List Ty) (hl : TysOk l) (t : Int) : ACalls PG types_Deep.n [tysA l, .int .i64 t] [] fun r _ => r = .int .i64 (deepT l t : Nat) := by
  have hlen : (l.map tyR).length = l.length := by simp
  have hll := hl.len
  refine ACalls.fzK (types_Deep.of rfl (wpF_start ?_))
  unfold deepT
  by_cases hb : 0 ≤ t ∧ t < l.length
  · rw [if_pos hb]
    obtain ⟨n, rfl⟩ : ∃ n : Nat, t = n := ⟨t.toNat, by omega⟩
    rw [show Int.toNat (n : Nat) = n from rfl]
    (first | refine au ?_ | exact au0)
    intro id5 hid5 ht5; have n5 := neAll_of hid5; (try simp only [neAll, neAll_hset] at n5); have m5 := n5; (repeat (obtain ⟨_, m5⟩ := m5))
    (first | refine au ?_ | exact au0)
    rw [show ((n : Int) + 1).toNat = n + 1 from by omega]
    refine loopM (S := Nat) [(0, some _), (1, some _), (5, some _), (21, some _)] (fun i => [(22, some (.int .i64 (i : Nat)))]) (fun i => [(id5, .rows 1 ((dpT l i ++ List.replicate (n + 1 - i) 0).map naR))]) (fun i => n + 1 - i) (fun i => i ≤ n + 1) 0 (by exact cov_of) (by simp only [dpT, List.nil_append, List.map_replicate]; exact Sub.refl _) (by omega) (fun i hi => ?_)
    have hD := dpT_len l i
    have hDle := dpT_le l i
    (first | refine au ?_ | exact au0)
    refine bsplit_dec (fun c => ?_) (fun c => ?_)
    · have hin : i ≤ n := by omega
      have hB : (dpT l i ++ List.replicate (n + 1 - i) 0).map naR = dpR (dpT l i) 0 (n - i) := by
        unfold dpR; rw [show n + 1 - i = (n - i) + 1 from by omega, List.replicate_succ]
      rw [hB]
      have hil : i < l.length := by omega
      have hge := row_get (f := tyR) hil
      have hpe : l.getD i ty0 = l[i] := getD_get hil
      have hti := (hl.all _ (List.getElem_mem hil)).its
      (first | refine au ?_ | exact au0)
      refine ⟨_, _, (by exact hg_of), (by rw [Nat.zero_add, Int.toNat_natCast]; exact dpR_at hD), rfl, rfl, (Nat.le_of_ble_eq_true rfl), hsetN_of (b' := .rows 1 (dpR (dpT l i) 1 (n - i))) (by rw [Nat.zero_add, Int.toNat_natCast]; exact congrArg (Blk.rows 1) (dpR_set (m' := 1) hD)) ?_⟩
      (first | refine au ?_ | exact au0)
      rw [hge]
      have hps := dpT_succ l i
      rw [hpe] at hps
      generalize l[i] = g at *
      have hpl := parts_len g
      have hplm : ((parts g).map inR).length = (parts g).length := by simp
      (first | refine au ?_ | exact au0)
      first | refine callF_eq (parts_spec g hti _) ?_ | refine callG_eq rfl (parts_spec g hti _) ?_
      (first | refine au ?_ | exact au0)
      refine loopM (S := Nat) [(0, some _), (1, some _), (5, some _), (6, some _), (21, some _), (22, some _), (32, some _), (33, some _)] (fun j => [(34, some (.int .i64 (j : Nat)))]) (fun j => [(id5, .rows 1 (dpR (dpT l i) (((parts g).take j).foldl (dpF (dpT l i) i) 1) (n - i)))]) (fun j => (parts g).length - j) (fun j => j ≤ (parts g).length) 0 (by exact cov_of) (Sub.refl _) (by omega) (fun j hj => ?_)
      have hm := dpF_le (n := i) hDle ((parts g).take j) 1 (by omega)
      (first | refine au ?_ | exact au0)
      refine bsplit_dec (fun c2 => ?_) (fun c2 => ?_)
      · have hjl : j < (parts g).length := by omega
        have hge2 := row_get (f := inR) hjl
        have hft := foldl_take (dpF (dpT l i) i) 1 (parts g) j hjl
        generalize (parts g)[j] = p at *
        generalize ((parts g).take j).foldl (dpF (dpT l i) i) 1 = m at *
        (first | refine au ?_ | exact au0)
        rw [hge2]
        (first | refine au ?_ | exact au0)
        rw [show dpF (dpT l i) i m p = if 0 ≤ p ∧ p < (i : Int) then max m ((dpT l i).getD p.toNat 0 + 1) else m from rfl] at hft
        refine bsplit_dec (fun c3 => ?_) (fun c3 => ?_)
        · (first | refine au ?_ | exact au0)
          refine bsplit_dec (fun c4 => ?_) (fun c4 => ?_)
          · rw [if_pos (by omega)] at hft
            (first | refine au ?_ | exact au0)
            refine ⟨_, _, (by exact hg_of), (by rw [Nat.zero_add, Int.toNat_natCast]; exact dpR_at hD), ?_⟩
            (first | refine au ?_ | exact au0)
            have hpl : p.toNat < (dpT l i).length := by omega
            have hpv : (dpT l i).getD p.toNat 0 ≤ i := by rw [getD_get hpl]; exact hDle _ (List.getElem_mem hpl)
            refine ⟨_, _, (by exact hg_of), (by rw [Nat.zero_add]; exact dpR_lt hpl), ?_⟩
            (first | refine au ?_ | exact au0)
            refine ⟨_, _, (by exact hg_of), (by rw [Nat.zero_add, Int.toNat_natCast]; exact dpR_at hD), rfl, rfl, (Nat.le_of_ble_eq_true rfl), hsetN_of (b' := .rows 1 (dpR (dpT l i) (max m ((dpT l i).getD p.toNat 0 + 1)) (n - i))) (by
              rw [Nat.zero_add, Int.toNat_natCast]
              refine Eq.trans (congrArg (fun x : List AV => Blk.rows 1 (List.set (dpR (dpT l i) m (n - i)) i x)) ?_) (congrArg (Blk.rows 1) (dpR_set (m' := max m ((dpT l i).getD p.toNat 0 + 1)) hD))
              show [AV.int .i64 (max (m : Int) (((dpT l i).getD p.toNat 0 : Nat) + 1))] = [AV.int .i64 ((max m ((dpT l i).getD p.toNat 0 + 1) : Nat) : Int)]
              rw [cast_max]; rfl) ?_⟩
            (first | refine au ?_ | exact au0)
            refine nextS (S := Nat) (j + 1) (by exact cov_of) (by (try dsimp only); rw [hft]; exact Sub.refl _) (by first | omega | (dsimp only; omega)) hjl
          · rw [if_neg (by omega)] at hft
            (first | refine au ?_ | exact au0)
            refine nextS (S := Nat) (j + 1) (by exact cov_of) (by (try dsimp only); rw [hft]; exact Sub.refl _) (by first | omega | (dsimp only; omega)) hjl
        · rw [if_neg (by omega)] at hft
          (first | refine au ?_ | exact au0)
          refine nextS (S := Nat) (j + 1) (by exact cov_of) (by (try dsimp only); rw [hft]; exact Sub.refl _) (by first | omega | (dsimp only; omega)) hjl
      · obtain rfl : j = (parts g).length := by omega
        rw [List.take_length]
        (first | refine au ?_ | exact au0)
        refine nextS (S := Nat) (i + 1) (by exact cov_of) (by
          (try dsimp only)
          rw [hps, show n + 1 - (i + 1) = n - i from by omega]
          unfold dpR
          rw [List.append_assoc]
          exact Sub.refl _) (by first | omega | (dsimp only; omega)) (by omega)
    · obtain rfl : i = n + 1 := by omega
      (first | refine au ?_ | exact au0)
      have hnl : n < (dpT l (n + 1)).length := by omega
      refine ⟨_, naR ((dpT l (n + 1)).getD n 0), (by exact hg_of), (by rw [Nat.zero_add, Int.toNat_natCast, List.getElem?_map, List.getElem?_append_left hnl, List.getElem?_eq_getElem hnl, getD_get hnl]; rfl), ?_⟩
      (first | refine au ?_ | exact au0)
      exact fz_of
  · rw [if_neg hb]
    (repeat' (first | (refine au ?_; first | refine bsplit_dec (fun _ => ?_) (fun _ => ?_) | refine bsplit_intro (fun _ => ?_) (fun _ => ?_)) | exact au0 | fail)); (all_goals try (first | refine au ?_ | fail))
    all_goals first | omega | exact fz_of
theorem Deep_tspec (l : List Ty) (hl : TysOk l) (t : Int) (H : AH) : ACalls PG types_Deep.n [tysA l, .int .i64 t] H fun r H' => r = .int .i64 (deepT l t : Nat) ∧ H' = H := (Deep_spec0 l hl t).frame H
theorem deep_spec (l : List Ty) (hl : TysOk l) (n : Nat) (t : Ty) (id : Nat) : SW PG types_look_deep.n [.ptr id 8 0 0] id (kB l n t) [] (.int .i64 (deepE l n)) (kB l n t) := by
  refine ACalls.fz (types_look_deep.of rfl (wpF_start ?_))
  unfold deepE
  (first | refine au ?_ | exact au0)
  first | refine callF_eq (Deep_tspec l hl _ _) ?_ | refine callG_eq rfl (Deep_tspec l hl _ _) ?_
  (first | refine au ?_ | exact au0)
  refine bsplit_dec (fun c => ?_) (fun c => ?_)
  · (first | refine au ?_ | exact au0)
    exact ⟨fz_eq (congrArg (AV.int .i64) (by rw [if_pos (by omega)])), sub_of⟩
  · (first | refine au ?_ | exact au0)
    exact ⟨fz_eq (congrArg (AV.int .i64) (by rw [if_neg (by omega)])), sub_of⟩
theorem Check_spec0 (l : List Ty) (hl : TysOk l) : ACalls PG types_Check.n [tysA l] [] fun r _ => r = .agg [.int .i64 (tyChk l).1, .int .i64 (tyChk l).2] := by
  have hlen : (l.map tyR).length = l.length := by simp
  have hll := hl.len
  refine ACalls.fzK (types_Check.of rfl (wpF_start ?_))
  unfold tyChk
  (first | refine au ?_ | exact au0)
  intro id2 hid2 ht2; have n2 := neAll_of hid2; (try simp only [neAll, neAll_hset] at n2); have m2 := n2; (repeat (obtain ⟨_, m2⟩ := m2))
  (first | refine au ?_ | exact au0)
  refine bsplit_dec (fun c => ?_) (fun c => ?_)
  · rw [if_pos (by omega)]
    (first | refine au ?_ | exact au0)
    exact fz_of
  rw [if_neg (by omega)]
  (first | refine au ?_ | exact au0)
  have hr : (List.range l.length).length = l.length := List.length_range
  refine loopL [(0, some _), (2, some _), (13, some _), (14, some _)] 15 0 l.length (none' (fun i => decide (tyErr l i ≠ 0)) (List.range l.length)) (by exact cov_of) (Nat.zero_le _) none'_zero (fun i hi hno => ?_)
  (first | refine au ?_ | exact au0)
  refine bsplit_dec (fun c2 => ?_) (fun c2 => ?_)
  · have hil : i < l.length := by omega
    have hge := row_get (f := tyR) hil
    have hto := hl.all _ (List.getElem_mem hil)
    have hte : tyErr l i = fst0 [formE l[i], namedE l l[i] i, boundE l[i], orderE l l[i] i, itemsE l l[i], deepE l i] := by unfold tyErr; rw [getD_get hil]
    have hhit : tyErr l i ≠ 0 → (List.range l.length).findIdx? (fun i => decide (tyErr l i ≠ 0)) = some i := fun q => find_hit hno (by omega) (by simpa using q)
    have hnx : tyErr l i = 0 → _ := fun q => none'_succ hno (by omega) (by simpa using q)
    have h0 := form_spec l i l[i] hto
    have h1 := named_spec l i l[i] hto hl hi
    have h2 := bound_spec l i l[i]
    have h3 := order_spec l i l[i] hto hl hil
    have h4 := items_spec l hl i l[i] hto hi
    have h5 := deep_spec l hl i l[i]
    generalize l[i] = g at *
    (first | refine au ?_ | exact au0)
    rw [hge]
    (first | refine au ?_ | exact au0)
    intro id4 hid4 ht4; have n4 := neAll_of hid4; (try simp only [neAll, neAll_hset] at n4); have m4 := n4; (repeat (obtain ⟨_, m4⟩ := m4))
    (first | refine au ?_ | exact au0)
    intro id24 hid24 ht24; have n24 := neAll_of hid24; (try simp only [neAll, neAll_hset] at n24); have m24 := n24; (repeat (obtain ⟨_, m24⟩ := m24))
    (first | refine au ?_ | exact au0)
    refine loopL [(0, some _), (2, some _), (3, some _), (13, some _), (14, some _), (15, some _), (37, some _), (38, some _)] 39 0 6 (fun j => (0 < j → formE g = 0) ∧ (1 < j → namedE l g i = 0) ∧ (2 < j → boundE g = 0) ∧ (3 < j → orderE l g i = 0) ∧ (4 < j → itemsE l g = 0) ∧ (5 < j → deepE l i = 0)) (by exact cov_of) (Nat.zero_le _) (by omega) (fun j hj hz => ?_)
    obtain ⟨z0, z1, z2, z3, z4, z5⟩ := hz
    (first | refine au ?_ | exact au0)
    refine bsplit_dec (fun c3 => ?_) (fun c3 => ?_)
    · have hj6 : j < 6 := by
        have : (j : Int) < 6 := by simpa using c3
        omega
      have hjj : j = 0 ∨ j = 1 ∨ j = 2 ∨ j = 3 ∨ j = 4 ∨ j = 5 := by omega
      rcases hjj with rfl | rfl | rfl | rfl | rfl | rfl
      · (first | refine au ?_ | exact au0)
        refine (h0 id24).call (by exact hg_of) (Sub.nil _) ?_
        (first | refine au ?_ | exact au0)
        refine bsplit_dec (fun hz => ?_) (fun hz => ?_)
        · (first | refine au ?_ | exact au0)
          have ht : tyErr l i = formE g := by rw [hte]; simp only [fst0]; simp only [ ne_eq, not_true_eq_false, if_false, hz, not_false_eq_true, if_true]
          rw [hhit (by rw [ht]; exact hz)]
          dsimp only
          rw [ht]
          exact fz_of
        · have hz := Classical.not_not.1 hz
          (first | refine au ?_ | exact au0)
          refine nextN (by exact cov_of) (by exact sub_of) (by omega) ⟨?_, ?_, ?_, ?_, ?_, ?_⟩ <;> intro q <;> first | exact hz | omega | exact z0 (by omega) | exact z1 (by omega) | exact z2 (by omega) | exact z3 (by omega) | exact z4 (by omega)
      · (first | refine au ?_ | exact au0)
        refine (h1 id24).call (by exact hg_of) (Sub.nil _) ?_
        (first | refine au ?_ | exact au0)
        refine bsplit_dec (fun hz => ?_) (fun hz => ?_)
        · (first | refine au ?_ | exact au0)
          have ht : tyErr l i = namedE l g i := by rw [hte]; simp only [fst0]; simp only [z0 (by omega), ne_eq, not_true_eq_false, if_false, hz, not_false_eq_true, if_true]
          rw [hhit (by rw [ht]; exact hz)]
          dsimp only
          rw [ht]
          exact fz_of
        · have hz := Classical.not_not.1 hz
          (first | refine au ?_ | exact au0)
          refine nextN (by exact cov_of) (by exact sub_of) (by omega) ⟨?_, ?_, ?_, ?_, ?_, ?_⟩ <;> intro q <;> first | exact hz | omega | exact z0 (by omega) | exact z1 (by omega) | exact z2 (by omega) | exact z3 (by omega) | exact z4 (by omega)
      · (first | refine au ?_ | exact au0)
        refine (h2 id24).call (by exact hg_of) (Sub.nil _) ?_
        (first | refine au ?_ | exact au0)
        refine bsplit_dec (fun hz => ?_) (fun hz => ?_)
        · (first | refine au ?_ | exact au0)
          have ht : tyErr l i = boundE g := by rw [hte]; simp only [fst0]; simp only [z0 (by omega), z1 (by omega), ne_eq, not_true_eq_false, if_false, hz, not_false_eq_true, if_true]
          rw [hhit (by rw [ht]; exact hz)]
          dsimp only
          rw [ht]
          exact fz_of
        · have hz := Classical.not_not.1 hz
          (first | refine au ?_ | exact au0)
          refine nextN (by exact cov_of) (by exact sub_of) (by omega) ⟨?_, ?_, ?_, ?_, ?_, ?_⟩ <;> intro q <;> first | exact hz | omega | exact z0 (by omega) | exact z1 (by omega) | exact z2 (by omega) | exact z3 (by omega) | exact z4 (by omega)
      · (first | refine au ?_ | exact au0)
        refine (h3 id24).call (by exact hg_of) (Sub.nil _) ?_
        (first | refine au ?_ | exact au0)
        refine bsplit_dec (fun hz => ?_) (fun hz => ?_)
        · (first | refine au ?_ | exact au0)
          have ht : tyErr l i = orderE l g i := by rw [hte]; simp only [fst0]; simp only [z0 (by omega), z1 (by omega), z2 (by omega), ne_eq, not_true_eq_false, if_false, hz, not_false_eq_true, if_true]
          rw [hhit (by rw [ht]; exact hz)]
          dsimp only
          rw [ht]
          exact fz_of
        · have hz := Classical.not_not.1 hz
          (first | refine au ?_ | exact au0)
          refine nextN (by exact cov_of) (by exact sub_of) (by omega) ⟨?_, ?_, ?_, ?_, ?_, ?_⟩ <;> intro q <;> first | exact hz | omega | exact z0 (by omega) | exact z1 (by omega) | exact z2 (by omega) | exact z3 (by omega) | exact z4 (by omega)
      · (first | refine au ?_ | exact au0)
        refine ((h4 (z3 (by omega))) id24).call (by exact hg_of) (Sub.nil _) ?_
        (first | refine au ?_ | exact au0)
        refine bsplit_dec (fun hz => ?_) (fun hz => ?_)
        · (first | refine au ?_ | exact au0)
          have ht : tyErr l i = itemsE l g := by rw [hte]; simp only [fst0]; simp only [z0 (by omega), z1 (by omega), z2 (by omega), z3 (by omega), ne_eq, not_true_eq_false, if_false, hz, not_false_eq_true, if_true]
          rw [hhit (by rw [ht]; exact hz)]
          dsimp only
          rw [ht]
          exact fz_of
        · have hz := Classical.not_not.1 hz
          (first | refine au ?_ | exact au0)
          refine nextN (by exact cov_of) (by exact sub_of) (by omega) ⟨?_, ?_, ?_, ?_, ?_, ?_⟩ <;> intro q <;> first | exact hz | omega | exact z0 (by omega) | exact z1 (by omega) | exact z2 (by omega) | exact z3 (by omega) | exact z4 (by omega)
      · (first | refine au ?_ | exact au0)
        refine (h5 id24).call (by exact hg_of) (Sub.nil _) ?_
        (first | refine au ?_ | exact au0)
        refine bsplit_dec (fun hz => ?_) (fun hz => ?_)
        · (first | refine au ?_ | exact au0)
          have ht : tyErr l i = deepE l i := by rw [hte]; simp only [fst0]; simp only [z0 (by omega), z1 (by omega), z2 (by omega), z3 (by omega), z4 (by omega), ne_eq, not_true_eq_false, if_false, hz, not_false_eq_true, if_true]
          rw [hhit (by rw [ht]; exact hz)]
          dsimp only
          rw [ht]
          exact fz_of
        · have hz := Classical.not_not.1 hz
          (first | refine au ?_ | exact au0)
          refine nextN (by exact cov_of) (by exact sub_of) (by omega) ⟨?_, ?_, ?_, ?_, ?_, ?_⟩ <;> intro q <;> first | exact hz | omega | exact z0 (by omega) | exact z1 (by omega) | exact z2 (by omega) | exact z3 (by omega) | exact z4 (by omega)
    · have hj6 : j = 6 := by
        have : ¬ (j : Int) < 6 := by simpa using c3
        omega
      subst hj6
      (first | refine au ?_ | exact au0)
      refine nextN (by exact cov_of) (by exact sub_of) (by omega) (hnx ?_)
      rw [hte]
      simp only [fst0, z0 (by omega), z1 (by omega), z2 (by omega), z3 (by omega), z4 (by omega), z5 (by omega), ne_eq, not_true_eq_false, if_false]
  · (first | refine au ?_ | exact au0)
    rw [find_none hno (by omega)]
    exact fz_of
end Go.Proofs.YtjaigpidmngaaaaGreat

namespace Go.Proofs.YtjaigpidmngaaaaGreat
attribute [local irreducible] callA callP ACalls
theorem Check_spec (l : List Ty) (hl : TysOk l) (H : AH) : ACalls PG types_Check.n [tysA l] H fun r H' => r = .agg [.int .i64 (tyChk l).1, .int .i64 (tyChk l).2] ∧ H' = H := (Check_spec0 l hl).frame H
end Go.Proofs.YtjaigpidmngaaaaGreat

namespace Go.Proofs.YtjaigpidmngaaaaGreat
attribute [local irreducible] callA callP ACalls
mutual
def vlR : Vl → List AV
  | .mk k n t l => [.int .i64 k, .int .u64 (n : Nat), .str t, .rows 4 (vlRs l)]
def vlRs : List Vl → List (List AV)
  | [] => []
  | a :: l => vlR a :: vlRs l
end
abbrev vlA (v : Vl) : AV := .agg (vlR v)
theorem vlRs_map : ∀ l : List Vl, vlRs l = l.map vlR
  | [] => rfl
  | k :: ks => by rw [vlRs, vlRs_map ks]; rfl
theorem vlRs_len (l : List Vl) : (vlRs l).length = l.length := by rw [vlRs_map]; simp
mutual
theorem vlR_cl : ∀ (x : Vl), ∀ v ∈ vlR x, Cl v
  | .mk k n t l => by
    intro v hv
    simp only [vlR, List.mem_cons, List.not_mem_nil, or_false] at hv
    rcases hv with rfl | rfl | rfl | rfl
    · exact .int _ _
    · exact .int _ _
    · exact .str _
    · exact .rows _ _ (vlRs_cl l)
theorem vlRs_cl : ∀ (l : List Vl), ∀ r ∈ vlRs l, ∀ v ∈ r, Cl v
  | [] => by simp [vlRs]
  | k :: ks => by
    intro r hr
    simp only [vlRs, List.mem_cons] at hr
    rcases hr with rfl | hr
    · exact vlR_cl k
    · exact vlRs_cl ks r hr
end
mutual
def vOk : Vl → Prop
  | .mk _ n t l => n < 18446744073709551616 ∧ t.length ≤ 140737488351232 ∧ l.length ≤ 3000000000000 ∧ vOks l
def vOks : List Vl → Prop
  | [] => True
  | a :: l => vOk a ∧ vOks l
end
theorem vOks_mem : ∀ {l : List Vl}, vOks l → ∀ x ∈ l, vOk x
  | k :: ks, h, x, hx => by
    simp only [vOks] at h
    rcases List.mem_cons.1 hx with rfl | hx
    · exact h.1
    · exact vOks_mem h.2 x hx
end Go.Proofs.YtjaigpidmngaaaaGreat

namespace Go.Proofs.YtjaigpidmngaaaaGreat
attribute [local irreducible] callA callP ACalls
theorem TyG.parts {l : List Ty} {n : Nat} {t : Ty} (h : TyG l n t) : ∀ p ∈ parts t, 0 ≤ p ∧ p < n := orderE_in h.order
theorem TyG.kd {l : List Ty} {n : Nat} {t : Ty} (h : TyG l n t) : 1 ≤ t.kd ∧ t.kd ≤ 14 := by
  have := h.form
  unfold formE at this
  split at this
  · cases this
  · omega
theorem TyV.tAt {l : List Ty} (h : TyV l) {t : Int} (h0 : 0 ≤ t) (h1 : t < l.length) : TyG l t.toNat (tAt l t) := by
  have := h.at (i := t.toNat) (by omega)
  unfold Go.Proofs.YtjaigpidmngaaaaGreat.tAt
  rw [getD_get (by omega)]
  exact this
theorem TyG.bd {l : List Ty} {n : Nat} {t : Ty} (h : TyG l n t) (hb : kBd t.kd = true) : 0 ≤ t.bd ∧ t.bd ≤ 64 ∧ (kEl t.kd = true → 1 ≤ t.bd) := by
  have := h.bound
  unfold boundE at this
  split at this
  · cases this
  · rename_i q
    refine ⟨?_, ?_, fun e => ?_⟩
    · apply Classical.byContradiction; intro c; exact q ⟨hb, by omega⟩
    · apply Classical.byContradiction; intro c; exact q ⟨hb, by omega⟩
    · apply Classical.byContradiction; intro c
      have : ¬ t.bd < 0 := fun c2 => q ⟨hb, .inr (.inl c2)⟩
      exact q ⟨hb, .inr (.inr ⟨e, by omega⟩)⟩
section
variable {l : List Ty} {t : Int} {g : Ty} {k : Int} {n : Nat} {x : List UInt8} {vs : List Vl} {H : AH}
end
end Go.Proofs.YtjaigpidmngaaaaGreat

namespace Go.Proofs.YtjaigpidmngaaaaGreat
attribute [local irreducible] callA callP ACalls
theorem Item1_spec (k : Int) (H : AH) : ACalls PG types_Item_1.n [.int .i64 k] H fun r H' => r = .bool (kNm k) ∧ H' = H := by
  refine ACalls.fz (types_Item_1.of rfl (wpF_start ?_))
  (first | refine au ?_ | exact au0)
  first | refine callF_eq (has_spec k _) ?_ | refine callG_eq rfl (has_spec k _) ?_
  (first | refine au ?_ | exact au0)
  exact ⟨fz_of, sub_of⟩
theorem Item2_spec (x : It) (s : List UInt8) (id : Nat) : ACalls PG types_Item_2.n [.agg (itR x), .ptr id 1 0 0] [(id, .rows 1 [[.str s]])] fun r H' => r = .bool (x.nm == s) ∧ H' = [(id, .rows 1 [[.str s]])] := by
  refine ACalls.fz (types_Item_2.of' (Nat.le_of_ble_eq_true rfl) (wpF_start ?_))
  (first | refine au ?_ | exact au0)
  intro id2 hid2 ht2; have n2 := neAll_of hid2; (try simp only [neAll, neAll_hset] at n2); have m2 := n2; (repeat (obtain ⟨_, m2⟩ := m2))
  (first | refine au ?_ | exact au0)
  refine ⟨fz_eq (congrArg AV.bool ?_), sub_of⟩
  rw [Bool.eq_iff_iff]; simp
theorem fIx_item (l : List Ty) (t : Int) (s : List UInt8) : fIx l t kNm (fun x => x.nm == s) = itemIx l t s := rfl
theorem Item_spec (l : List Ty) (hl : TysOk l) (t : Int) (s : List UInt8) (H : AH) : ACalls PG types_Item.n [tysA l, .int .i64 t, .str s] H fun r H' => r = ixA (itemIx l t s) ∧ H' = H := by
  refine ACalls.fz (types_Item.of rfl (wpF_start ?_))
  rw [← fIx_item]
  (first | refine au ?_ | exact au0)
  intro id5 hid5 ht5; have n5 := neAll_of hid5; (try simp only [neAll, neAll_hset] at n5); have m5 := n5; (repeat (obtain ⟨_, m5⟩ := m5))
  (first | refine au ?_ | exact au0)
  first | refine callF_eq ((find_spec l hl t types_Item_1.n types_Item_2.n [] [.ptr id5 1 0 0] kNm (fun x => x.nm == s) _ (fun k => Item1_spec k _) (fun x => Item2_spec x s id5)).sup (by exact sub_of)) ?_ | refine callG_eq rfl ((find_spec l hl t types_Item_1.n types_Item_2.n [] [.ptr id5 1 0 0] kNm (fun x => x.nm == s) _ (fun k => Item1_spec k _) (fun x => Item2_spec x s id5)).sup (by exact sub_of)) ?_
  cases fIx l t kNm (fun x => x.nm == s) with
  | some m =>
    (first | refine au ?_ | exact au0)
    exact ⟨fz_of, sub_of⟩
  | none =>
    (first | refine au ?_ | exact au0)
    exact ⟨fz_of, sub_of⟩
theorem path_known_spec (l : List Ty) (hl : TysOk l) (t : Int) (H : AH) : ACalls PG path_known.n [tysA l, .int .i64 t] H fun r H' => r = .bool (decide (knownT l t)) ∧ H' = H := by
  have hlen : (l.map tyR).length = l.length := by simp
  have hll := hl.len
  unfold knownT
  refine ACalls.fz (path_known.of rfl (wpF_start ?_))
  (repeat' (first | (refine au ?_; first | refine callF_eq (Check_spec l hl _) ?_ | refine bsplit_dec (fun _ => ?_) (fun _ => ?_) | refine bsplit_intro (fun _ => ?_) (fun _ => ?_)) | exact au0 | fail)); (all_goals try (first | refine au ?_ | fail))
  all_goals exact ⟨fz_eq (congrArg AV.bool (by first | exact (decide_eq_true (by omega)).symm | exact (decide_eq_false (by omega)).symm | exact decide_eq_decide.2 (by omega) | rfl)), sub_of⟩
theorem elems_spec (x : Ty) (H : AH) : ACalls PG path_elems.n [.agg (tyR x)] H fun r H' => r = .bool (kEl x.kd) ∧ H' = H := by
  refine ACalls.fz (path_elems.of rfl (wpF_start ?_))
  (first | refine au ?_ | exact au0)
  intro id1 hid1 ht1; have n1 := neAll_of hid1; (try simp only [neAll, neAll_hset] at n1); have m1 := n1; (repeat (obtain ⟨_, m1⟩ := m1))
  unfold kEl
  (repeat' (first | (refine au ?_; first | refine bsplit_dec (fun _ => ?_) (fun _ => ?_) | refine bsplit_intro (fun _ => ?_) (fun _ => ?_)) | exact au0 | fail)); (all_goals try (first | refine au ?_ | fail))
  all_goals exact ⟨fz_eq (congrArg AV.bool (by first | exact (decide_eq_true (by omega)).symm | exact (decide_eq_false (by omega)).symm | exact decide_eq_decide.2 (by omega) | rfl)), sub_of⟩
theorem items_spec' (x : Ty) (H : AH) : ACalls PG path_items.n [.agg (tyR x)] H fun r H' => r = .bool (kIt x.kd) ∧ H' = H := by
  refine ACalls.fz (path_items.of rfl (wpF_start ?_))
  (first | refine au ?_ | exact au0)
  intro id1 hid1 ht1; have n1 := neAll_of hid1; (try simp only [neAll, neAll_hset] at n1); have m1 := n1; (repeat (obtain ⟨_, m1⟩ := m1))
  unfold kIt
  (repeat' (first | (refine au ?_; first | refine bsplit_dec (fun _ => ?_) (fun _ => ?_) | refine bsplit_intro (fun _ => ?_) (fun _ => ?_)) | exact au0 | fail)); (all_goals try (first | refine au ?_ | fail))
  all_goals exact ⟨fz_eq (congrArg AV.bool (by first | exact (decide_eq_true (by omega)).symm | exact (decide_eq_false (by omega)).symm | exact decide_eq_decide.2 (by omega) | rfl)), sub_of⟩
abbrev spR (x : Bool × Nat) : List AV := [.bool x.1, .int .i64 (x.2 : Nat)]
abbrev stpA (x : (Bool × Nat) × Int × Int) : AV := .tup [.agg (spR x.1), .int .i64 x.2.1, .int .i64 x.2.2]
theorem step_spec (l : List Ty) (hl : TysOk l) (t : Int) (h0 : 0 ≤ t) (h1 : t < l.length) (p : Pc) (H : AH) : ACalls PG path_step.n [tysA l, .int .i64 t, pcA p] H fun r H' => r = stpA (stepP l t p) ∧ H' = H := by
  have hlen : (l.map tyR).length = l.length := by simp
  have hll := hl.len
  have hge := tAt_get h0 h1
  have hti := (hl.all _ (tAt_mem h0 h1)).its
  obtain ⟨nm, k, okp⟩ := p
  have hix := Item_spec l hl t nm
  show ACalls PG path_step.n [tysA l, .int .i64 t, .agg [.str nm, .int .i64 (k : Nat)]] H _
  unfold stepP
  dsimp only
  have hii : ∀ n, itemIx l t nm = some n → n < (tAt l t).its.length := by
    intro n q
    unfold itemIx at q
    split at q
    · exact (List.findIdx?_eq_some_iff_getElem.1 q).1
    · cases q
  generalize itemIx l t nm = ix at *
  generalize tAt l t = g at *
  have hel := elems_spec g
  have hit := items_spec' g
  generalize hkel : kEl g.kd = be at *
  generalize hkit : kIt g.kd = bi at *
  refine ACalls.fz (path_step.of rfl (wpF_start ?_))
  (first | refine au ?_ | exact au0)
  intro id5 hid5 ht5; have n5 := neAll_of hid5; (try simp only [neAll, neAll_hset] at n5); have m5 := n5; (repeat (obtain ⟨_, m5⟩ := m5))
  (first | refine au ?_ | exact au0)
  intro id6 hid6 ht6; have n6 := neAll_of hid6; (try simp only [neAll, neAll_hset] at n6); have m6 := n6; (repeat (obtain ⟨_, m6⟩ := m6))
  (first | refine au ?_ | exact au0)
  rw [hge]
  (first | refine au ?_ | exact au0)
  intro id9 hid9 ht9; have n9 := neAll_of hid9; (try simp only [neAll, neAll_hset] at n9); have m9 := n9; (repeat (obtain ⟨_, m9⟩ := m9))
  cases nm with
  | nil =>
    (first | refine au ?_ | exact au0)
    first | refine callF_eq (hel _) ?_ | refine callG_eq rfl (hel _) ?_
    cases be
    · (first | refine au ?_ | exact au0)
      exact ⟨fz_of, sub_of⟩
    · (first | refine au ?_ | exact au0)
      refine bsplit_dec (fun c => ?_) (fun c => ?_)
      · rw [if_pos rfl, if_neg (by decide), if_pos (by omega)]
        (first | refine au ?_ | exact au0)
        exact ⟨fz_of, sub_of⟩
      · rw [if_pos rfl, if_neg (by decide), if_neg (by omega)]
        (first | refine au ?_ | exact au0)
        exact ⟨fz_of, sub_of⟩
  | cons a bs =>
    rw [if_neg (by simp)]
    (first | refine au ?_ | exact au0)
    first | refine callF_eq (hit _) ?_ | refine callG_eq rfl (hit _) ?_
    cases bi
    · (first | refine au ?_ | exact au0)
      exact ⟨fz_of, sub_of⟩
    · (first | refine au ?_ | exact au0)
      first | refine callF_eq (hix _) ?_ | refine callG_eq rfl (hix _) ?_
      cases ix with
      | none =>
        (first | refine au ?_ | exact au0)
        exact ⟨fz_of, sub_of⟩
      | some n =>
        have hil := hii n rfl
        have hge2 := row_get (f := itR) hil
        have hgd : g.its.getD n it0 = g.its[n] := by simp [List.getD, hil]
        dsimp only
        rw [hgd]
        have hlen2 : (g.its.map itR).length = g.its.length := by simp
        (first | refine au ?_ | exact au0)
        rw [hge2]
        (first | refine au ?_ | exact au0)
        exact ⟨fz_of, sub_of⟩
end Go.Proofs.YtjaigpidmngaaaaGreat
