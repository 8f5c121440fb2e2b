/- Texts of this proof, one behind the other: CodeA, CodeE, CodeT, CodeV, CodeP, ListMath, TokMath, TypMath, PathMath, SimShape, SimRow, SimLib. -/
import Derived.Test.YtjaigpidmngaaaaGreatPkT2
import Derived.Test.YtjaigpidmngaaaaGreatProg
import Derived.KernelRfl
import Derived.Lib.Bytealg
import Derived.ChangeArms
import Derived.OpenShut
import Derived.SizedLaws
import Derived.DataReads
import Derived.Below
import Derived.Carry
import Derived.WalkKit
import Derived.ProofKit
import Derived.ShutString
import Derived.ChangeOld
set_option autoImplicit false
set_option linter.unusedSimpArgs false
set_option linter.unusedVariables false
namespace Go.Proofs.YtjaigpidmngaaaaGreat
set_option maxRecDepth 100000
noncomputable abbrev PG : Program := Tryz.prog
theorem mixed : PG.follows .mixedOrders = true := by kernel_rfl
abbrev ty_int : Nat := 3
abbrev ty_bool : Nat := 4
abbrev ty_uint8 : Nat := 5
abbrev ty_string : Nat := 9
abbrev ty_S_api_Type : Nat := 22
abbrev ty_S_api_Operand : Nat := 23
abbrev ty_S_api_Expr : Nat := 24
abbrev ty_api_Expr : Nat := 26
abbrev ty_api_Errno : Nat := 30
abbrev ty_uint64 : Nat := 33
abbrev ty_api_Operand : Nat := 35
abbrev ty_S_api_Item : Nat := 65
abbrev ty_api_Type : Nat := 67
abbrev ty_api_Item : Nat := 70
abbrev ty_S_api_Step : Nat := 96
abbrev ty_api_Token : Nat := 111
abbrev ty_path_piece : Nat := 145
abbrev ty_api_Step : Nat := 147
abbrev ty_broadsheetref12_Piece : Nat := 156
abbrev ty_strings_Builder : Nat := 236
def token_Tokens.n : Nat := 61
noncomputable def token_Tokens.c : C := (.seq (.reg [oo_ 2 (.mv (.c .nilS)), oo_ 3 (.allc 72 [(.int .i64 0), (.int .i64 0)])]) (.seq (.seq (.reg [om_ 9 0, oo_ 10 (.len true (.t 9)), oo_ 11 (.bin .gtr (.t 10) (.c (.int .i64 256)))]) (.cond (.t 11) (.seq (.reg [oo_ 12 (.build [(.int .i64 0), (.int .i64 0)] [(0, (1, (.c (.int .i64 3))))]), oo_ 2 (.mv (.c .nilS)), os_ (.store 2 (.t 3) (.t 12))]) .ret) .skip)) (.seq (.reg [om_ 13 0, oo_ 14 (.build [(.str []), (.int .i64 0)] [(0, (1, (.t 13)))]), oo_ 15 (.box 166 (.t 14)), om_ 4 15]) (.seq (.reg [oo_ 5 (.mv (.c .nilS))]) (.block 0 (.loop (.block 1 (.seq (.block 2 (.loop (.seq (.seq (.reg [om_ 16 4, oo_ 17 (.nilck (.t 16)), of_ 18 1 17, ol_ 19 18, om_ 20 0, oo_ 21 (.len true (.t 20)), oo_ 22 (.bin .lss (.t 19) (.t 21)), om_ 23 22, og_ 24 23 true (.mv (.t 0)), og_ 25 23 true (.mv (.t 4)), og_ 26 23 true (.nilck (.t 25)), og_ 27 23 true (.faddr 1 (.t 26)), og_ 28 23 true (.load none (.t 27)), og_ 29 23 true (.idx (.t 24) (.t 28)), og_ 30 23 true (.call 114 [(.t 29)]), oo_ 31 (.pick (.t 23) (.t 30) (.c (.bool false)))]) (.cond (.t 31) .skip (.exit 2))) (.block 3 (.reg [om_ 32 4, oo_ 33 (.nilck (.t 32)), of_ 34 1 33, ol_ 35 34, oo_ 36 (.bin .add (.t 35) (.c (.int .i64 1))), oo_ 37 (.nilck (.t 32)), of_ 38 1 37, os_ (.store 1 (.t 38) (.t 36))]))))) (.seq (.seq (.reg [om_ 39 4, oo_ 40 (.nilck (.t 39)), of_ 41 1 40, ol_ 42 41, om_ 43 0, oo_ 44 (.len true (.t 43)), oo_ 45 (.bin .eql (.t 42) (.t 44))]) (.cond (.t 45) (.seq (.reg [om_ 46 5, om_ 47 4, oo_ 48 (.nilck (.t 47)), of_ 49 1 48, ol_ 50 49, oo_ 51 (.build [(.int .i64 0), (.str []), (.int .u64 0), (.int .i64 0)] [(0, (1, (.c (.int .i64 6)))), (3, (1, (.t 50)))]), oo_ 52 (.bslice 111 4 1 [(.int .i64 0), (.str []), (.int .u64 0), (.int .i64 0)] [(0, (.t 51))]), oo_ 53 (.append 111 false 4 40 (.t 46) (.t 52)), oo_ 54 (.build [(.int .i64 0), (.int .i64 0)] []), om_ 2 53, os_ (.store 2 (.t 3) (.t 54))]) .ret) .skip)) (.seq (.reg [om_ 55 4, oo_ 56 (.nilck (.t 55)), of_ 57 1 56, ol_ 58 57, om_ 6 58]) (.seq (.reg [om_ 60 4, oo_ 61 (.call 115 [(.t 60)]), om_ 59 61, oo_ 62 (.extr (.t 59) 0), oo_ 63 (.extr (.t 59) 1), oo_ 7 (.allc 111 [(.int .i64 0), (.str []), (.int .u64 0), (.int .i64 0)]), oo_ 8 (.allc 72 [(.int .i64 0), (.int .i64 0)]), os_ (.store 4 (.t 7) (.t 62)), os_ (.store 2 (.t 8) (.t 63))]) (.seq (.seq (.reg [of_ 64 0 8, ol_ 65 64, oo_ 66 (.bin .eql (.t 65) (.c (.int .i64 0))), om_ 67 66, og_ 68 67 true (.mv (.t 5)), og_ 69 67 true (.len false (.t 68)), og_ 70 67 true (.bin .eql (.t 69) (.c (.int .i64 64))), oo_ 71 (.pick (.t 67) (.t 70) (.c (.bool false)))]) (.cond (.t 71) (.reg [om_ 72 6, oo_ 73 (.build [(.int .i64 0), (.int .i64 0)] [(0, (1, (.c (.int .i64 3)))), (1, (1, (.t 72)))]), os_ (.store 2 (.t 8) (.t 73))]) .skip)) (.seq (.seq (.reg [of_ 74 0 8, ol_ 75 74, oo_ 76 (.bin .neq (.t 75) (.c (.int .i64 0)))]) (.cond (.t 76) (.seq (.dreg [oo_ 77 (.load (some 2) (.t 8)), oo_ 2 (.mv (.c .nilS))] [os_ (.store 2 (.t 3) (.t 77))]) .ret) .skip)) (.reg [om_ 78 5, oo_ 79 (.load (some 4) (.t 7)), oo_ 80 (.bslice 111 4 1 [(.int .i64 0), (.str []), (.int .u64 0), (.int .i64 0)] [(0, (.t 79))]), oo_ 81 (.append 111 false 4 40 (.t 78) (.t 80)), om_ 5 81]))))))))))))))
theorem token_Tokens.code : comp PG [] (Tryz.f61.body.getD .skip) = token_Tokens.c := by kernel_rfl
theorem token_Tokens.of : OfE PG 61 1 token_Tokens.c [(.t 2), (.cell 3 (some 2))] := fnE (nt := 82) mixed Tryz.func61 token_Tokens.code (by kernel_rfl) (by kernel_rfl) (by kernel_rfl) (by kernel_rfl) (by kernel_rfl) (by kernel_rfl)
def token_blank.n : Nat := 114
noncomputable def token_blank.c : C := (.seq (.reg [oo_ 2 (.mv (.c (.bool false)))]) (.seq (.reg [om_ 3 0, oo_ 4 (.bin .eql (.t 3) (.c (.int .u8 32))), om_ 5 4, og_ 6 5 false (.mv (.t 0)), og_ 7 5 false (.bin .eql (.t 6) (.c (.int .u8 9))), oo_ 8 (.pick (.t 5) (.c (.bool true)) (.t 7)), om_ 9 8, og_ 10 9 false (.mv (.t 0)), og_ 11 9 false (.bin .eql (.t 10) (.c (.int .u8 10))), oo_ 12 (.pick (.t 9) (.c (.bool true)) (.t 11)), om_ 13 12, og_ 14 13 false (.mv (.t 0)), og_ 15 13 false (.bin .eql (.t 14) (.c (.int .u8 13))), oo_ 16 (.pick (.t 13) (.c (.bool true)) (.t 15)), om_ 2 16]) .ret))
theorem token_blank.code : comp PG [] (Tryz.f114.body.getD .skip) = token_blank.c := by kernel_rfl
theorem token_blank.of : OfE PG 114 1 token_blank.c [(.t 2)] := fnE (nt := 17) mixed Tryz.func114 token_blank.code (by kernel_rfl) (by kernel_rfl) (by kernel_rfl) (by kernel_rfl) (by kernel_rfl) (by kernel_rfl)
def token_lexer_next.n : Nat := 115
noncomputable def token_lexer_next.c : C := (.seq (.reg [oo_ 2 (.allc 111 [(.int .i64 0), (.str []), (.int .u64 0), (.int .i64 0)]), oo_ 3 (.allc 72 [(.int .i64 0), (.int .i64 0)])]) (.seq (.seq (.reg [oo_ 6 (.call 157 []), oo_ 7 (.len false (.t 6)), oo_ 8 (.mv (.c (.int .i64 0)))]) (.block 0 (.loop (.seq (.reg [oo_ 9 (.bin .lss (.t 8) (.t 7))]) (.seq (.cond (.t 9) .skip (.exit 0)) (.seq (.block 1 (.seq (.reg [oo_ 10 (.iaddr 2 (.t 6) (.t 8)), oo_ 11 (.load (some 2) (.t 10)), oo_ 5 (.allc 208 [.nilF, .nilF]), os_ (.store 2 (.t 5) (.t 11))]) (.seq (.dreg [of_ 12 0 5, ol_ 13 12, om_ 14 0, oo_ 15 (.nilck (.t 14)), of_ 16 0 15, ol_ 17 16, om_ 18 0, oo_ 19 (.nilck (.t 18)), of_ 20 1 19, ol_ 21 20, oo_ 22 (.idx (.t 17) (.t 21))] [oo_ 23 (.callv (.t 13) [(.t 22)])]) (.cond (.t 23) (.seq (.reg [of_ 24 1 5, ol_ 25 24, om_ 26 0, oo_ 27 (.callv (.t 25) [(.t 26)]), oo_ 28 (.extr (.t 27) 0), oo_ 29 (.extr (.t 27) 1), os_ (.store 4 (.t 2) (.t 28)), os_ (.store 2 (.t 3) (.t 29))]) .ret) .skip)))) (.reg [oo_ 30 (.bin .add (.t 8) (.c (.int .i64 1))), om_ 8 30]))))))) (.seq (.dreg [oo_ 31 (.build [(.int .i64 0), (.str []), (.int .u64 0), (.int .i64 0)] []), om_ 32 0, oo_ 33 (.nilck (.t 32)), of_ 34 1 33, ol_ 35 34, oo_ 36 (.build [(.int .i64 0), (.int .i64 0)] [(0, (1, (.c (.int .i64 11)))), (1, (1, (.t 35)))]), os_ (.store 4 (.t 2) (.t 31))] [os_ (.store 2 (.t 3) (.t 36))]) .ret)))
theorem token_lexer_next.code : comp PG [] (Tryz.f115.body.getD .skip) = token_lexer_next.c := by kernel_rfl
theorem token_lexer_next.of : OfE PG 115 1 token_lexer_next.c [(.cell 2 (some 4)), (.cell 3 (some 2))] := fnE (nt := 37) mixed Tryz.func115 token_lexer_next.code (by kernel_rfl) (by kernel_rfl) (by kernel_rfl) (by kernel_rfl) (by kernel_rfl) (by kernel_rfl)
def broadsheetref04_Name.n : Nat := 126
noncomputable def broadsheetref04_Name.c : C := (.seq (.reg [oo_ 2 (.mv (.c (.bool false)))]) (.seq (.reg [om_ 3 0, oo_ 4 (.call 163 [(.t 3)]), om_ 5 4, og_ 6 5 true (.mv (.t 0)), og_ 7 5 true (.len true (.t 6)), og_ 8 5 true (.bin .leq (.t 7) (.c (.int .i64 16))), oo_ 9 (.pick (.t 5) (.t 8) (.c (.bool false))), om_ 10 9, og_ 11 10 true (.mv (.t 0)), og_ 12 10 true (.call 164 [(.t 11)]), og_ 13 10 true (.un .not (.t 12)), oo_ 14 (.pick (.t 10) (.t 13) (.c (.bool false))), om_ 2 14]) .ret))
theorem broadsheetref04_Name.code : comp PG [] (Tryz.f126.body.getD .skip) = broadsheetref04_Name.c := by kernel_rfl
theorem broadsheetref04_Name.of : OfE PG 126 1 broadsheetref04_Name.c [(.t 2)] := fnE (nt := 15) mixed Tryz.func126 broadsheetref04_Name.code (by kernel_rfl) (by kernel_rfl) (by kernel_rfl) (by kernel_rfl) (by kernel_rfl) (by kernel_rfl)
def strings_CutPrefix.n : Nat := 147
noncomputable def strings_CutPrefix.c : C := (.seq (.reg [oo_ 4 (.mv (.c (.str []))), oo_ 5 (.mv (.c (.bool false)))]) (.seq (.reg [om_ 6 0, om_ 7 1, oo_ 8 (.call 176 [(.t 6), (.t 7)]), oo_ 9 (.extr (.t 8) 0), oo_ 10 (.extr (.t 8) 1), om_ 4 9, om_ 5 10]) .ret))
theorem strings_CutPrefix.code : comp PG [] (Tryz.f147.body.getD .skip) = strings_CutPrefix.c := by kernel_rfl
theorem strings_CutPrefix.of : OfE PG 147 2 strings_CutPrefix.c [(.t 4), (.t 5)] := fnE (nt := 11) mixed Tryz.func147 strings_CutPrefix.code (by kernel_rfl) (by kernel_rfl) (by kernel_rfl) (by kernel_rfl) (by kernel_rfl) (by kernel_rfl)
def name_Lead.n : Nat := 148
noncomputable def name_Lead.c : C := (.seq (.reg [oo_ 2 (.mv (.c (.int .i64 0)))]) (.seq (.reg [oo_ 3 (.mv (.c (.int .i64 0)))]) (.seq (.block 0 (.loop (.seq (.seq (.reg [om_ 4 3, om_ 5 0, oo_ 6 (.len true (.t 5)), oo_ 7 (.bin .lss (.t 4) (.t 6)), om_ 8 7, og_ 9 8 true (.mv (.t 0)), og_ 10 8 true (.mv (.t 3)), og_ 11 8 true (.idx (.t 9) (.t 10)), og_ 12 8 true (.mv (.t 3)), og_ 13 8 true (.bin .eql (.t 12) (.c (.int .i64 0))), og_ 14 8 true (.call 177 [(.t 11), (.t 13)]), oo_ 15 (.pick (.t 8) (.t 14) (.c (.bool false)))]) (.cond (.t 15) .skip (.exit 0))) (.block 1 (.reg [om_ 16 3, oo_ 17 (.bin .add (.t 16) (.c (.int .i64 1))), om_ 3 17]))))) (.seq (.reg [om_ 18 3, om_ 2 18]) .ret))))
theorem name_Lead.code : comp PG [] (Tryz.f148.body.getD .skip) = name_Lead.c := by kernel_rfl
theorem name_Lead.of : OfE PG 148 1 name_Lead.c [(.t 2)] := fnE (nt := 19) mixed Tryz.func148 name_Lead.code (by kernel_rfl) (by kernel_rfl) (by kernel_rfl) (by kernel_rfl) (by kernel_rfl) (by kernel_rfl)
def broadsheetref04_Lead.n : Nat := 153
noncomputable def broadsheetref04_Lead.c : C := (.seq (.reg [oo_ 2 (.mv (.c (.int .i64 0)))]) (.seq (.reg [oo_ 3 (.mv (.c (.int .i64 0)))]) (.seq (.block 0 (.loop (.seq (.seq (.reg [om_ 4 3, om_ 5 0, oo_ 6 (.len true (.t 5)), oo_ 7 (.bin .lss (.t 4) (.t 6)), om_ 8 7, og_ 9 8 true (.mv (.t 0)), og_ 10 8 true (.mv (.t 3)), og_ 11 8 true (.bin .add (.t 10) (.c (.int .i64 1))), og_ 12 8 true (.slice none (.t 9) none (some (.t 11))), og_ 13 8 true (.call 163 [(.t 12)]), oo_ 14 (.pick (.t 8) (.t 13) (.c (.bool false)))]) (.cond (.t 14) .skip (.exit 0))) (.block 1 (.reg [om_ 15 3, oo_ 16 (.bin .add (.t 15) (.c (.int .i64 1))), om_ 3 16]))))) (.seq (.reg [om_ 17 3, om_ 2 17]) .ret))))
theorem broadsheetref04_Lead.code : comp PG [] (Tryz.f153.body.getD .skip) = broadsheetref04_Lead.c := by kernel_rfl
theorem broadsheetref04_Lead.of : OfE PG 153 1 broadsheetref04_Lead.c [(.t 2)] := fnE (nt := 18) mixed Tryz.func153 broadsheetref04_Lead.code (by kernel_rfl) (by kernel_rfl) (by kernel_rfl) (by kernel_rfl) (by kernel_rfl) (by kernel_rfl)
def token_kinds.n : Nat := 157
noncomputable def token_kinds.c : C := (.seq (.reg [oo_ 0 (.mv (.c .nilS))]) (.seq (.reg [oo_ 1 (.build [.nilF, .nilF] [(0, (1, (.c (.clo 180 [] [])))), (1, (1, (.c (.clo 181 [] []))))]), oo_ 2 (.build [.nilF, .nilF] [(0, (1, (.c (.clo 182 [] [])))), (1, (1, (.c (.clo 183 [] []))))]), oo_ 3 (.build [.nilF, .nilF] [(0, (1, (.c (.clo 184 [] [])))), (1, (1, (.c (.clo 185 [] []))))]), oo_ 4 (.build [.nilF, .nilF] [(0, (1, (.c (.clo 186 [] [])))), (1, (1, (.c (.clo 187 [] []))))]), oo_ 5 (.build [.nilF, .nilF] [(0, (1, (.c (.clo 188 [] [])))), (1, (1, (.c (.clo 189 [] []))))]), oo_ 6 (.bslice 208 2 5 [.nilF, .nilF] [(0, (.t 1)), (1, (.t 2)), (2, (.t 3)), (3, (.t 4)), (4, (.t 5))]), om_ 0 6]) .ret))
theorem token_kinds.code : comp PG [] (Tryz.f157.body.getD .skip) = token_kinds.c := by kernel_rfl
theorem token_kinds.of : OfE PG 157 0 token_kinds.c [(.t 0)] := fnE (nt := 7) mixed Tryz.func157 token_kinds.code (by kernel_rfl) (by kernel_rfl) (by kernel_rfl) (by kernel_rfl) (by kernel_rfl) (by kernel_rfl)
def name_Word.n : Nat := 160
noncomputable def name_Word.c : C := (.seq (.reg [oo_ 2 (.mv (.c (.bool false)))]) (.seq (.seq (.reg [om_ 3 0]) (.block 0 (.seq (.seq (.reg [oo_ 5 (.bin .eql (.t 3) (.c (.str [65, 78, 68]))), om_ 4 5]) (.cond (.t 4) .skip (.seq (.reg [oo_ 6 (.bin .eql (.t 3) (.c (.str [79, 82]))), om_ 4 6]) (.cond (.t 4) .skip (.seq (.reg [oo_ 7 (.bin .eql (.t 3) (.c (.str [78, 79, 84]))), om_ 4 7]) (.cond (.t 4) .skip (.seq (.reg [oo_ 8 (.bin .eql (.t 3) (.c (.str [66, 69, 84, 87, 69, 69, 78]))), om_ 4 8]) (.cond (.t 4) .skip (.seq (.reg [oo_ 9 (.bin .eql (.t 3) (.c (.str [76, 73, 75, 69]))), om_ 4 9]) (.cond (.t 4) .skip (.seq (.reg [oo_ 10 (.bin .eql (.t 3) (.c (.str [84, 82, 85, 69]))), om_ 4 10]) (.cond (.t 4) .skip (.reg [oo_ 11 (.bin .eql (.t 3) (.c (.str [70, 65, 76, 83, 69]))), om_ 4 11]))))))))))))) (.cond (.t 4) (.seq (.reg [oo_ 2 (.mv (.c (.bool true)))]) .ret) .skip)))) (.seq (.reg [oo_ 2 (.mv (.c (.bool false)))]) .ret)))
theorem name_Word.code : comp PG [] (Tryz.f160.body.getD .skip) = name_Word.c := by kernel_rfl
theorem name_Word.of : OfE PG 160 1 name_Word.c [(.t 2)] := fnE (nt := 12) mixed Tryz.func160 name_Word.code (by kernel_rfl) (by kernel_rfl) (by kernel_rfl) (by kernel_rfl) (by kernel_rfl) (by kernel_rfl)
def broadsheetref04_formed.n : Nat := 163
noncomputable def broadsheetref04_formed.c : C := (.seq (.reg [oo_ 2 (.mv (.c (.bool false)))]) (.seq (.seq (.reg [om_ 4 0, oo_ 5 (.bin .eql (.t 4) (.c (.str []))), om_ 6 5, og_ 7 6 false (.mv (.t 0)), og_ 8 6 false (.idx (.t 7) (.c (.int .i64 0))), og_ 9 6 false (.call 198 [(.t 8)]), og_ 10 6 false (.un .not (.t 9)), oo_ 11 (.pick (.t 6) (.c (.bool true)) (.t 10))]) (.cond (.t 11) (.seq (.reg [oo_ 2 (.mv (.c (.bool false)))]) .ret) .skip)) (.seq (.seq (.reg [oo_ 3 (.mv (.c (.int .i64 0)))]) (.block 0 (.loop (.seq (.seq (.reg [om_ 12 3, om_ 13 0, oo_ 14 (.len true (.t 13)), oo_ 15 (.bin .lss (.t 12) (.t 14))]) (.cond (.t 15) .skip (.exit 0))) (.seq (.block 1 (.seq (.reg [om_ 18 0, om_ 19 3, oo_ 20 (.idx (.t 18) (.t 19)), oo_ 21 (.call 198 [(.t 20)]), oo_ 22 (.un .not (.t 21)), om_ 23 22, og_ 24 23 true (.mv (.t 0)), og_ 25 23 true (.mv (.t 3)), og_ 26 23 true (.idx (.t 24) (.t 25)), og_ 27 23 true (.call 199 [(.t 26)]), og_ 28 23 true (.un .not (.t 27)), oo_ 29 (.pick (.t 23) (.t 28) (.c (.bool false))), om_ 30 29, og_ 31 30 true (.mv (.t 0)), og_ 32 30 true (.mv (.t 3)), og_ 33 30 true (.idx (.t 31) (.t 32)), og_ 34 30 true (.bin .neq (.t 33) (.c (.int .u8 95))), oo_ 35 (.pick (.t 30) (.t 34) (.c (.bool false)))]) (.cond (.t 35) (.seq (.reg [oo_ 2 (.mv (.c (.bool false)))]) .ret) .skip))) (.reg [om_ 16 3, oo_ 17 (.bin .add (.t 16) (.c (.int .i64 1))), om_ 3 17])))))) (.seq (.reg [oo_ 2 (.mv (.c (.bool true)))]) .ret))))
theorem broadsheetref04_formed.code : comp PG [] (Tryz.f163.body.getD .skip) = broadsheetref04_formed.c := by kernel_rfl
theorem broadsheetref04_formed.of : OfE PG 163 1 broadsheetref04_formed.c [(.t 2)] := fnE (nt := 36) mixed Tryz.func163 broadsheetref04_formed.code (by kernel_rfl) (by kernel_rfl) (by kernel_rfl) (by kernel_rfl) (by kernel_rfl) (by kernel_rfl)
def broadsheetref04_Word.n : Nat := 164
noncomputable def broadsheetref04_Word.c : C := (.seq (.reg [oo_ 2 (.mv (.c (.bool false)))]) (.seq (.reg [oo_ 4 (.bslice 9 1 7 [(.str [])] [(0, (.c (.str [65, 78, 68]))), (1, (.c (.str [79, 82]))), (2, (.c (.str [78, 79, 84]))), (3, (.c (.str [66, 69, 84, 87, 69, 69, 78]))), (4, (.c (.str [76, 73, 75, 69]))), (5, (.c (.str [84, 82, 85, 69]))), (6, (.c (.str [70, 65, 76, 83, 69])))]), om_ 3 4]) (.seq (.reg [om_ 5 3, om_ 6 0, oo_ 7 (.call 200 [(.t 5), (.t 6)]), oo_ 8 (.bin .geq (.t 7) (.c (.int .i64 0))), om_ 2 8]) .ret)))
theorem broadsheetref04_Word.code : comp PG [] (Tryz.f164.body.getD .skip) = broadsheetref04_Word.c := by kernel_rfl
theorem broadsheetref04_Word.of : OfE PG 164 1 broadsheetref04_Word.c [(.t 2)] := fnE (nt := 9) mixed Tryz.func164 broadsheetref04_Word.code (by kernel_rfl) (by kernel_rfl) (by kernel_rfl) (by kernel_rfl) (by kernel_rfl) (by kernel_rfl)
def strings_IndexByte.n : Nat := 175
noncomputable def strings_IndexByte.c : C := (.seq (.reg [oo_ 4 (.mv (.c (.int .i64 0)))]) (.seq (.reg [om_ 5 0, om_ 6 1, oo_ 7 (.call 205 [(.t 5), (.t 6)]), om_ 4 7]) .ret))
theorem strings_IndexByte.code : comp PG [] (Tryz.f175.body.getD .skip) = strings_IndexByte.c := by kernel_rfl
theorem strings_IndexByte.of : OfE PG 175 2 strings_IndexByte.c [(.t 4)] := fnE (nt := 8) mixed Tryz.func175 strings_IndexByte.code (by kernel_rfl) (by kernel_rfl) (by kernel_rfl) (by kernel_rfl) (by kernel_rfl) (by kernel_rfl)
def stringslite_CutPrefix.n : Nat := 176
noncomputable def stringslite_CutPrefix.c : C := (.seq (.reg [oo_ 4 (.mv (.c (.str []))), oo_ 5 (.mv (.c (.bool false)))]) (.seq (.seq (.reg [om_ 6 0, om_ 7 1, oo_ 8 (.call 206 [(.t 6), (.t 7)]), oo_ 9 (.un .not (.t 8))]) (.cond (.t 9) (.seq (.reg [om_ 10 0, om_ 4 10, oo_ 5 (.mv (.c (.bool false)))]) .ret) .skip)) (.seq (.reg [om_ 11 0, om_ 12 1, oo_ 13 (.len true (.t 12)), oo_ 14 (.slice none (.t 11) (some (.t 13)) none), om_ 4 14, oo_ 5 (.mv (.c (.bool true)))]) .ret)))
theorem stringslite_CutPrefix.code : comp PG [] (Tryz.f176.body.getD .skip) = stringslite_CutPrefix.c := by kernel_rfl
theorem stringslite_CutPrefix.of : OfE PG 176 2 stringslite_CutPrefix.c [(.t 4), (.t 5)] := fnE (nt := 15) mixed Tryz.func176 stringslite_CutPrefix.code (by kernel_rfl) (by kernel_rfl) (by kernel_rfl) (by kernel_rfl) (by kernel_rfl) (by kernel_rfl)
def name_may.n : Nat := 177
noncomputable def name_may.c : C := (.seq (.reg [oo_ 4 (.mv (.c (.bool false)))]) (.seq (.block 0 (.seq (.block 2 (.seq (.block 1 (.seq (.seq (.seq (.seq (.reg [om_ 6 0, oo_ 7 (.bin .geq (.t 6) (.c (.int .u8 48))), om_ 8 7, og_ 9 8 true (.mv (.t 0)), og_ 10 8 true (.bin .leq (.t 9) (.c (.int .u8 57))), oo_ 11 (.pick (.t 8) (.t 10) (.c (.bool false))), om_ 5 11]) (.cond (.t 5) .skip (.reg [om_ 12 0, oo_ 13 (.bin .eql (.t 12) (.c (.int .u8 95))), om_ 5 13]))) (.cond (.t 5) (.exit 1) .skip)) (.seq (.seq (.reg [om_ 15 0, oo_ 16 (.bin .geq (.t 15) (.c (.int .u8 97))), om_ 17 16, og_ 18 17 true (.mv (.t 0)), og_ 19 17 true (.bin .leq (.t 18) (.c (.int .u8 122))), oo_ 20 (.pick (.t 17) (.t 19) (.c (.bool false))), om_ 14 20]) (.cond (.t 14) .skip (.reg [om_ 21 0, oo_ 22 (.bin .geq (.t 21) (.c (.int .u8 65))), om_ 23 22, og_ 24 23 true (.mv (.t 0)), og_ 25 23 true (.bin .leq (.t 24) (.c (.int .u8 90))), oo_ 26 (.pick (.t 23) (.t 25) (.c (.bool false))), om_ 14 26]))) (.cond (.t 14) (.exit 2) .skip))) (.exit 0))) (.seq (.reg [om_ 27 1]) (.cond (.t 27) (.seq (.reg [oo_ 4 (.mv (.c (.bool false)))]) .ret) .skip)))) (.seq (.seq (.reg [oo_ 4 (.mv (.c (.bool true)))]) .ret) (.exit 0)))) (.seq (.reg [oo_ 4 (.mv (.c (.bool false)))]) .ret)))
theorem name_may.code : comp PG [] (Tryz.f177.body.getD .skip) = name_may.c := by kernel_rfl
theorem name_may.of : OfE PG 177 2 name_may.c [(.t 4)] := fnE (nt := 28) mixed Tryz.func177 name_may.code (by kernel_rfl) (by kernel_rfl) (by kernel_rfl) (by kernel_rfl) (by kernel_rfl) (by kernel_rfl)
def token_kinds_1.n : Nat := 180
noncomputable def token_kinds_1.c : C := (.seq (.reg [oo_ 2 (.mv (.c (.bool false)))]) (.seq (.reg [om_ 3 0, oo_ 4 (.bslice 5 1 1 [(.int .u8 0)] [(0, (.t 3))]), oo_ 5 (.bytesS (.t 4)), oo_ 6 (.call 148 [(.t 5)]), oo_ 7 (.bin .eql (.t 6) (.c (.int .i64 1))), om_ 2 7]) .ret))
theorem token_kinds_1.code : comp PG [] (Tryz.f180.body.getD .skip) = token_kinds_1.c := by kernel_rfl
theorem token_kinds_1.of : OfE PG 180 1 token_kinds_1.c [(.t 2)] := fnE (nt := 8) mixed Tryz.func180 token_kinds_1.code (by kernel_rfl) (by kernel_rfl) (by kernel_rfl) (by kernel_rfl) (by kernel_rfl) (by kernel_rfl)
def token_word.n : Nat := 181
noncomputable def token_word.c : C := (.seq (.reg [oo_ 2 (.allc 111 [(.int .i64 0), (.str []), (.int .u64 0), (.int .i64 0)]), oo_ 3 (.allc 72 [(.int .i64 0), (.int .i64 0)])]) (.seq (.reg [om_ 4 0, om_ 5 0, oo_ 6 (.call 209 [(.t 5)]), oo_ 7 (.call 148 [(.t 6)]), oo_ 8 (.call 208 [(.t 4), (.c (.int .i64 1)), (.t 7)]), oo_ 9 (.build [(.int .i64 0), (.int .i64 0)] []), os_ (.store 4 (.t 2) (.t 8)), os_ (.store 2 (.t 3) (.t 9))]) .ret))
theorem token_word.code : comp PG [] (Tryz.f181.body.getD .skip) = token_word.c := by kernel_rfl
theorem token_word.of : OfE PG 181 1 token_word.c [(.cell 2 (some 4)), (.cell 3 (some 2))] := fnE (nt := 10) mixed Tryz.func181 token_word.code (by kernel_rfl) (by kernel_rfl) (by kernel_rfl) (by kernel_rfl) (by kernel_rfl) (by kernel_rfl)
def token_digit.n : Nat := 182
noncomputable def token_digit.c : C := (.seq (.reg [oo_ 2 (.mv (.c (.bool false)))]) (.seq (.reg [om_ 3 0, oo_ 4 (.bin .geq (.t 3) (.c (.int .u8 48))), om_ 5 4, og_ 6 5 true (.mv (.t 0)), og_ 7 5 true (.bin .leq (.t 6) (.c (.int .u8 57))), oo_ 8 (.pick (.t 5) (.t 7) (.c (.bool false))), om_ 2 8]) .ret))
theorem token_digit.code : comp PG [] (Tryz.f182.body.getD .skip) = token_digit.c := by kernel_rfl
theorem token_digit.of : OfE PG 182 1 token_digit.c [(.t 2)] := fnE (nt := 9) mixed Tryz.func182 token_digit.code (by kernel_rfl) (by kernel_rfl) (by kernel_rfl) (by kernel_rfl) (by kernel_rfl) (by kernel_rfl)
def token_number.n : Nat := 183
noncomputable def token_number.c : C := (.seq (.reg [oo_ 2 (.allc 111 [(.int .i64 0), (.str []), (.int .u64 0), (.int .i64 0)]), oo_ 3 (.allc 72 [(.int .i64 0), (.int .i64 0)])]) (.seq (.reg [oo_ 4 (.mv (.c (.int .i64 0)))]) (.seq (.block 0 (.loop (.seq (.seq (.reg [om_ 8 4, om_ 9 0, oo_ 10 (.call 209 [(.t 9)]), oo_ 11 (.len true (.t 10)), oo_ 12 (.bin .lss (.t 8) (.t 11)), om_ 13 12, og_ 14 13 true (.mv (.t 0)), og_ 15 13 true (.call 209 [(.t 14)]), og_ 16 13 true (.mv (.t 4)), og_ 17 13 true (.idx (.t 15) (.t 16)), og_ 18 13 true (.call 182 [(.t 17)]), oo_ 19 (.pick (.t 13) (.t 18) (.c (.bool false)))]) (.cond (.t 19) .skip (.exit 0))) (.block 1 (.reg [om_ 20 4, oo_ 21 (.bin .add (.t 20) (.c (.int .i64 1))), om_ 4 21]))))) (.seq (.reg [om_ 22 0, om_ 23 4, oo_ 24 (.call 208 [(.t 22), (.c (.int .i64 2)), (.t 23)]), oo_ 5 (.allc 111 [(.int .i64 0), (.str []), (.int .u64 0), (.int .i64 0)]), os_ (.store 4 (.t 5) (.t 24))]) (.seq (.seq (.reg [om_ 25 4, oo_ 26 (.bin .gtr (.t 25) (.c (.int .i64 1))), om_ 27 26, og_ 28 27 true (.faddr 1 (.t 5)), og_ 29 27 true (.load none (.t 28)), og_ 30 27 true (.idx (.t 29) (.c (.int .i64 0))), og_ 31 27 true (.bin .eql (.t 30) (.c (.int .u8 48))), oo_ 32 (.pick (.t 27) (.t 31) (.c (.bool false)))]) (.cond (.t 32) (.seq (.dreg [oo_ 33 (.load (some 4) (.t 5)), of_ 34 3 5, ol_ 35 34, oo_ 36 (.build [(.int .i64 0), (.int .i64 0)] [(0, (1, (.c (.int .i64 1)))), (1, (1, (.t 35)))]), os_ (.store 4 (.t 2) (.t 33))] [os_ (.store 2 (.t 3) (.t 36))]) .ret) .skip)) (.seq (.seq (.reg [om_ 37 4, oo_ 38 (.mv (.c (.int .i64 0)))]) (.block 2 (.loop (.seq (.reg [oo_ 39 (.bin .lss (.t 38) (.t 37))]) (.seq (.cond (.t 39) .skip (.exit 2)) (.seq (.block 3 (.seq (.reg [om_ 40 38, om_ 6 40]) (.seq (.reg [of_ 41 1 5, ol_ 42 41, om_ 43 6, oo_ 44 (.idx (.t 42) (.t 43)), oo_ 45 (.bin .sub (.t 44) (.c (.int .u8 48))), oo_ 46 (.conv .u64 (.t 45)), om_ 7 46]) (.seq (.seq (.reg [of_ 47 2 5, ol_ 48 47, om_ 49 7, oo_ 50 (.bin .sub (.c (.int .u64 18446744073709551615)) (.t 49)), oo_ 51 (.bin .quo (.t 50) (.c (.int .u64 10))), oo_ 52 (.bin .gtr (.t 48) (.t 51))]) (.cond (.t 52) (.seq (.dreg [oo_ 53 (.load (some 4) (.t 5)), of_ 54 3 5, ol_ 55 54, oo_ 56 (.build [(.int .i64 0), (.int .i64 0)] [(0, (1, (.c (.int .i64 7)))), (1, (1, (.t 55)))]), os_ (.store 4 (.t 2) (.t 53))] [os_ (.store 2 (.t 3) (.t 56))]) .ret) .skip)) (.reg [of_ 57 2 5, ol_ 58 57, oo_ 59 (.bin .mul (.c (.int .u64 10)) (.t 58)), om_ 60 7, oo_ 61 (.bin .add (.t 59) (.t 60)), of_ 62 2 5, os_ (.store 1 (.t 62) (.t 61))]))))) (.reg [oo_ 63 (.bin .add (.t 38) (.c (.int .i64 1))), om_ 38 63]))))))) (.seq (.reg [oo_ 64 (.load (some 4) (.t 5)), oo_ 65 (.build [(.int .i64 0), (.int .i64 0)] []), os_ (.store 4 (.t 2) (.t 64)), os_ (.store 2 (.t 3) (.t 65))]) .ret)))))))
theorem token_number.code : comp PG [] (Tryz.f183.body.getD .skip) = token_number.c := by kernel_rfl
theorem token_number.of : OfE PG 183 1 token_number.c [(.cell 2 (some 4)), (.cell 3 (some 2))] := fnE (nt := 66) mixed Tryz.func183 token_number.code (by kernel_rfl) (by kernel_rfl) (by kernel_rfl) (by kernel_rfl) (by kernel_rfl) (by kernel_rfl)
def token_kinds_2.n : Nat := 184
noncomputable def token_kinds_2.c : C := (.seq (.reg [oo_ 2 (.mv (.c (.bool false)))]) (.seq (.reg [om_ 3 0, oo_ 4 (.bin .eql (.t 3) (.c (.int .u8 39))), om_ 2 4]) .ret))
theorem token_kinds_2.code : comp PG [] (Tryz.f184.body.getD .skip) = token_kinds_2.c := by kernel_rfl
theorem token_kinds_2.of : OfE PG 184 1 token_kinds_2.c [(.t 2)] := fnE (nt := 5) mixed Tryz.func184 token_kinds_2.code (by kernel_rfl) (by kernel_rfl) (by kernel_rfl) (by kernel_rfl) (by kernel_rfl) (by kernel_rfl)
def token_text.n : Nat := 185
noncomputable def token_text.c : C := (.seq (.reg [oo_ 2 (.allc 111 [(.int .i64 0), (.str []), (.int .u64 0), (.int .i64 0)]), oo_ 3 (.allc 72 [(.int .i64 0), (.int .i64 0)])]) (.seq (.reg [om_ 7 0, oo_ 8 (.nilck (.t 7)), of_ 9 1 8, ol_ 10 9, oo_ 11 (.build [(.int .i64 0), (.str []), (.int .u64 0), (.int .i64 0)] [(0, (1, (.c (.int .i64 3)))), (3, (1, (.t 10)))]), oo_ 4 (.allc 111 [(.int .i64 0), (.str []), (.int .u64 0), (.int .i64 0)]), os_ (.store 4 (.t 4) (.t 11))]) (.seq (.reg [oo_ 5 (.allc 236 [.nilP, .nilS])]) (.seq (.seq (.reg [om_ 12 0, oo_ 13 (.nilck (.t 12)), of_ 14 1 13, ol_ 15 14, oo_ 16 (.bin .add (.t 15) (.c (.int .i64 1))), oo_ 17 (.nilck (.t 12)), of_ 18 1 17, os_ (.store 1 (.t 18) (.t 16))]) (.block 0 (.loop (.seq (.seq (.dreg [om_ 19 0, oo_ 20 (.nilck (.t 19)), of_ 21 1 20, ol_ 22 21, om_ 23 0, oo_ 24 (.nilck (.t 23)), of_ 25 0 24, ol_ 26 25, oo_ 27 (.len true (.t 26))] [oo_ 28 (.bin .lss (.t 22) (.t 27))]) (.cond (.t 28) .skip (.exit 0))) (.seq (.block 1 (.seq (.dreg [om_ 36 0, oo_ 37 (.nilck (.t 36)), of_ 38 0 37, ol_ 39 38, om_ 40 0, oo_ 41 (.nilck (.t 40)), of_ 42 1 41, ol_ 43 42] [oo_ 44 (.idx (.t 39) (.t 43)), om_ 6 44]) (.block 2 (.seq (.reg [om_ 57 6, oo_ 58 (.bin .lss (.t 57) (.c (.int .u8 32))), om_ 59 58, og_ 60 59 false (.mv (.t 6)), og_ 61 59 false (.bin .gtr (.t 60) (.c (.int .u8 126))), oo_ 62 (.pick (.t 59) (.c (.bool true)) (.t 61)), om_ 56 62]) (.cond (.t 56) (.seq (.dreg [oo_ 63 (.load (some 4) (.t 4)), om_ 64 0, oo_ 65 (.nilck (.t 64)), of_ 66 1 65, ol_ 67 66, oo_ 68 (.build [(.int .i64 0), (.int .i64 0)] [(0, (1, (.c (.int .i64 10)))), (1, (1, (.t 67)))]), os_ (.store 4 (.t 2) (.t 63))] [os_ (.store 2 (.t 3) (.t 68))]) .ret) (.seq (.reg [om_ 70 6, oo_ 71 (.bin .neq (.t 70) (.c (.int .u8 39))), om_ 69 71]) (.cond (.t 69) (.reg [om_ 72 6, oo_ 73 (.call 210 [(.t 5), (.t 72)])]) (.seq (.reg [om_ 75 0, oo_ 76 (.call 209 [(.t 75)]), oo_ 77 (.call 211 [(.t 76), (.c (.str [39, 39]))]), om_ 74 77]) (.cond (.t 74) (.seq (.reg [om_ 78 6, oo_ 79 (.call 210 [(.t 5), (.t 78)])]) (.reg [om_ 80 0, oo_ 81 (.nilck (.t 80)), of_ 82 1 81, ol_ 83 82, oo_ 84 (.bin .add (.t 83) (.c (.int .i64 1))), oo_ 85 (.nilck (.t 80)), of_ 86 1 85, os_ (.store 1 (.t 86) (.t 84))])) (.seq (.reg [om_ 45 0, oo_ 46 (.nilck (.t 45)), of_ 47 1 46, ol_ 48 47, oo_ 49 (.bin .add (.t 48) (.c (.int .i64 1))), oo_ 50 (.nilck (.t 45)), of_ 51 1 50, os_ (.store 1 (.t 51) (.t 49))]) (.seq (.reg [oo_ 52 (.call 212 [(.t 5)]), of_ 53 1 4, os_ (.store 1 (.t 53) (.t 52))]) (.seq (.reg [oo_ 54 (.load (some 4) (.t 4)), oo_ 55 (.build [(.int .i64 0), (.int .i64 0)] []), os_ (.store 4 (.t 2) (.t 54)), os_ (.store 2 (.t 3) (.t 55))]) .ret)))))))))))) (.reg [om_ 29 0, oo_ 30 (.nilck (.t 29)), of_ 31 1 30, ol_ 32 31, oo_ 33 (.bin .add (.t 32) (.c (.int .i64 1))), oo_ 34 (.nilck (.t 29)), of_ 35 1 34, os_ (.store 1 (.t 35) (.t 33))])))))) (.seq (.dreg [oo_ 87 (.load (some 4) (.t 4)), of_ 88 3 4, ol_ 89 88, oo_ 90 (.build [(.int .i64 0), (.int .i64 0)] [(0, (1, (.c (.int .i64 2)))), (1, (1, (.t 89)))]), os_ (.store 4 (.t 2) (.t 87))] [os_ (.store 2 (.t 3) (.t 90))]) .ret)))))
theorem token_text.code : comp PG [] (Tryz.f185.body.getD .skip) = token_text.c := by kernel_rfl
theorem token_text.of : OfE PG 185 1 token_text.c [(.cell 2 (some 4)), (.cell 3 (some 2))] := fnE (nt := 91) mixed Tryz.func185 token_text.code (by kernel_rfl) (by kernel_rfl) (by kernel_rfl) (by kernel_rfl) (by kernel_rfl) (by kernel_rfl)
def token_kinds_3.n : Nat := 186
noncomputable def token_kinds_3.c : C := (.seq (.reg [oo_ 2 (.mv (.c (.bool false)))]) (.seq (.reg [om_ 3 0, oo_ 4 (.bin .eql (.t 3) (.c (.int .u8 37))), om_ 2 4]) .ret))
theorem token_kinds_3.code : comp PG [] (Tryz.f186.body.getD .skip) = token_kinds_3.c := by kernel_rfl
theorem token_kinds_3.of : OfE PG 186 1 token_kinds_3.c [(.t 2)] := fnE (nt := 5) mixed Tryz.func186 token_kinds_3.code (by kernel_rfl) (by kernel_rfl) (by kernel_rfl) (by kernel_rfl) (by kernel_rfl) (by kernel_rfl)
def token_param.n : Nat := 187
noncomputable def token_param.c : C := (.seq (.reg [oo_ 2 (.allc 111 [(.int .i64 0), (.str []), (.int .u64 0), (.int .i64 0)]), oo_ 3 (.allc 72 [(.int .i64 0), (.int .i64 0)])]) (.seq (.seq (.reg [om_ 5 0, oo_ 6 (.call 209 [(.t 5)]), oo_ 7 (.len true (.t 6)), oo_ 8 (.bin .lss (.t 7) (.c (.int .i64 2))), om_ 9 8, og_ 10 9 false (.mv (.t 0)), og_ 11 9 false (.call 209 [(.t 10)]), og_ 12 9 false (.idx (.t 11) (.c (.int .i64 1))), og_ 13 9 false (.call 182 [(.t 12)]), og_ 14 9 false (.un .not (.t 13)), oo_ 15 (.pick (.t 9) (.c (.bool true)) (.t 14))]) (.cond (.t 15) (.seq (.dreg [oo_ 16 (.build [(.int .i64 0), (.str []), (.int .u64 0), (.int .i64 0)] []), om_ 17 0, oo_ 18 (.nilck (.t 17)), of_ 19 1 18, ol_ 20 19, oo_ 21 (.build [(.int .i64 0), (.int .i64 0)] [(0, (1, (.c (.int .i64 11)))), (1, (1, (.t 20)))]), os_ (.store 4 (.t 2) (.t 16))] [os_ (.store 2 (.t 3) (.t 21))]) .ret) .skip)) (.seq (.reg [om_ 22 0, oo_ 23 (.call 208 [(.t 22), (.c (.int .i64 4)), (.c (.int .i64 2))]), oo_ 4 (.allc 111 [(.int .i64 0), (.str []), (.int .u64 0), (.int .i64 0)]), os_ (.store 4 (.t 4) (.t 23))]) (.seq (.reg [of_ 24 1 4, ol_ 25 24, oo_ 26 (.idx (.t 25) (.c (.int .i64 1))), oo_ 27 (.bin .sub (.t 26) (.c (.int .u8 48))), oo_ 28 (.conv .u64 (.t 27)), of_ 29 2 4, os_ (.store 1 (.t 29) (.t 28))]) (.seq (.reg [oo_ 30 (.load (some 4) (.t 4)), oo_ 31 (.build [(.int .i64 0), (.int .i64 0)] []), os_ (.store 4 (.t 2) (.t 30)), os_ (.store 2 (.t 3) (.t 31))]) .ret)))))
theorem token_param.code : comp PG [] (Tryz.f187.body.getD .skip) = token_param.c := by kernel_rfl
theorem token_param.of : OfE PG 187 1 token_param.c [(.cell 2 (some 4)), (.cell 3 (some 2))] := fnE (nt := 32) mixed Tryz.func187 token_param.code (by kernel_rfl) (by kernel_rfl) (by kernel_rfl) (by kernel_rfl) (by kernel_rfl) (by kernel_rfl)
def token_kinds_4.n : Nat := 188
noncomputable def token_kinds_4.c : C := (.seq (.reg [oo_ 2 (.mv (.c (.bool false)))]) (.seq (.reg [om_ 3 0, oo_ 4 (.call 175 [(.c (.str [61, 60, 62, 40, 41, 46, 91, 93, 45])), (.t 3)]), oo_ 5 (.bin .geq (.t 4) (.c (.int .i64 0))), om_ 2 5]) .ret))
theorem token_kinds_4.code : comp PG [] (Tryz.f188.body.getD .skip) = token_kinds_4.c := by kernel_rfl
theorem token_kinds_4.of : OfE PG 188 1 token_kinds_4.c [(.t 2)] := fnE (nt := 6) mixed Tryz.func188 token_kinds_4.code (by kernel_rfl) (by kernel_rfl) (by kernel_rfl) (by kernel_rfl) (by kernel_rfl) (by kernel_rfl)
def token_sign.n : Nat := 189
noncomputable def token_sign.c : C := (.seq (.reg [oo_ 2 (.allc 111 [(.int .i64 0), (.str []), (.int .u64 0), (.int .i64 0)]), oo_ 3 (.allc 72 [(.int .i64 0), (.int .i64 0)])]) (.seq (.seq (.reg [oo_ 6 (.bslice 9 1 3 [(.str [])] [(0, (.c (.str [60, 62]))), (1, (.c (.str [60, 61]))), (2, (.c (.str [62, 61])))]), oo_ 7 (.len false (.t 6)), oo_ 8 (.mv (.c (.int .i64 0)))]) (.block 0 (.loop (.seq (.reg [oo_ 9 (.bin .lss (.t 8) (.t 7))]) (.seq (.cond (.t 9) .skip (.exit 0)) (.seq (.block 1 (.seq (.reg [oo_ 10 (.iaddr 1 (.t 6) (.t 8)), ol_ 11 10, om_ 5 11]) (.seq (.reg [om_ 12 0, oo_ 13 (.call 209 [(.t 12)]), om_ 14 5, oo_ 15 (.call 211 [(.t 13), (.t 14)])]) (.cond (.t 15) (.seq (.reg [om_ 16 0, oo_ 17 (.call 208 [(.t 16), (.c (.int .i64 5)), (.c (.int .i64 2))]), oo_ 18 (.build [(.int .i64 0), (.int .i64 0)] []), os_ (.store 4 (.t 2) (.t 17)), os_ (.store 2 (.t 3) (.t 18))]) .ret) .skip)))) (.reg [oo_ 19 (.bin .add (.t 8) (.c (.int .i64 1))), om_ 8 19]))))))) (.seq (.reg [om_ 20 0, oo_ 21 (.call 208 [(.t 20), (.c (.int .i64 5)), (.c (.int .i64 1))]), oo_ 22 (.build [(.int .i64 0), (.int .i64 0)] []), os_ (.store 4 (.t 2) (.t 21)), os_ (.store 2 (.t 3) (.t 22))]) .ret)))
theorem token_sign.code : comp PG [] (Tryz.f189.body.getD .skip) = token_sign.c := by kernel_rfl
theorem token_sign.of : OfE PG 189 1 token_sign.c [(.cell 2 (some 4)), (.cell 3 (some 2))] := fnE (nt := 23) mixed Tryz.func189 token_sign.code (by kernel_rfl) (by kernel_rfl) (by kernel_rfl) (by kernel_rfl) (by kernel_rfl) (by kernel_rfl)
def broadsheetref04_Letter.n : Nat := 198
noncomputable def broadsheetref04_Letter.c : C := (.seq (.reg [oo_ 2 (.mv (.c (.bool false)))]) (.seq (.reg [om_ 3 0, oo_ 4 (.bin .geq (.t 3) (.c (.int .u8 97))), om_ 5 4, og_ 6 5 true (.mv (.t 0)), og_ 7 5 true (.bin .leq (.t 6) (.c (.int .u8 122))), oo_ 8 (.pick (.t 5) (.t 7) (.c (.bool false))), om_ 9 8, og_ 10 9 false (.mv (.t 0)), og_ 11 9 false (.bin .geq (.t 10) (.c (.int .u8 65))), og_ 12 9 false (.mv (.t 11)), og_ 13 12 true (.mv (.t 0)), og_ 14 12 true (.bin .leq (.t 13) (.c (.int .u8 90))), og_ 15 9 false (.pick (.t 12) (.t 14) (.c (.bool false))), oo_ 16 (.pick (.t 9) (.c (.bool true)) (.t 15)), om_ 2 16]) .ret))
theorem broadsheetref04_Letter.code : comp PG [] (Tryz.f198.body.getD .skip) = broadsheetref04_Letter.c := by kernel_rfl
theorem broadsheetref04_Letter.of : OfE PG 198 1 broadsheetref04_Letter.c [(.t 2)] := fnE (nt := 17) mixed Tryz.func198 broadsheetref04_Letter.code (by kernel_rfl) (by kernel_rfl) (by kernel_rfl) (by kernel_rfl) (by kernel_rfl) (by kernel_rfl)
def broadsheetref04_Digit.n : Nat := 199
noncomputable def broadsheetref04_Digit.c : C := (.seq (.reg [oo_ 2 (.mv (.c (.bool false)))]) (.seq (.reg [om_ 3 0, oo_ 4 (.bin .geq (.t 3) (.c (.int .u8 48))), om_ 5 4, og_ 6 5 true (.mv (.t 0)), og_ 7 5 true (.bin .leq (.t 6) (.c (.int .u8 57))), oo_ 8 (.pick (.t 5) (.t 7) (.c (.bool false))), om_ 2 8]) .ret))
theorem broadsheetref04_Digit.code : comp PG [] (Tryz.f199.body.getD .skip) = broadsheetref04_Digit.c := by kernel_rfl
theorem broadsheetref04_Digit.of : OfE PG 199 1 broadsheetref04_Digit.c [(.t 2)] := fnE (nt := 9) mixed Tryz.func199 broadsheetref04_Digit.code (by kernel_rfl) (by kernel_rfl) (by kernel_rfl) (by kernel_rfl) (by kernel_rfl) (by kernel_rfl)
def broadsheetref04_Find.n : Nat := 200
noncomputable def broadsheetref04_Find.c : C := (.seq (.reg [oo_ 4 (.mv (.c (.int .i64 0)))]) (.seq (.seq (.reg [oo_ 5 (.mv (.c (.int .i64 0)))]) (.block 0 (.loop (.seq (.seq (.reg [om_ 6 5, om_ 7 0, oo_ 8 (.len false (.t 7)), oo_ 9 (.bin .lss (.t 6) (.t 8))]) (.cond (.t 9) .skip (.exit 0))) (.seq (.block 1 (.seq (.reg [om_ 12 0, om_ 13 5, oo_ 14 (.iaddr 1 (.t 12) (.t 13)), ol_ 15 14, om_ 16 1, oo_ 17 (.bin .eql (.t 15) (.t 16))]) (.cond (.t 17) (.seq (.reg [om_ 18 5, om_ 4 18]) .ret) .skip))) (.reg [om_ 10 5, oo_ 11 (.bin .add (.t 10) (.c (.int .i64 1))), om_ 5 11])))))) (.seq (.reg [oo_ 4 (.mv (.c (.int .i64 (-1))))]) .ret)))
theorem broadsheetref04_Find.code : comp PG [] (Tryz.f200.body.getD .skip) = broadsheetref04_Find.c := by kernel_rfl
theorem broadsheetref04_Find.of : OfE PG 200 2 broadsheetref04_Find.c [(.t 4)] := fnE (nt := 19) mixed Tryz.func200 broadsheetref04_Find.code (by kernel_rfl) (by kernel_rfl) (by kernel_rfl) (by kernel_rfl) (by kernel_rfl) (by kernel_rfl)
def stringslite_IndexByte.n : Nat := 205
noncomputable def stringslite_IndexByte.c : C := (.seq (.reg [oo_ 4 (.mv (.c (.int .i64 0)))]) (.seq (.reg [om_ 5 0, om_ 6 1, oo_ 7 (.ext .ixb [(.t 5), (.t 6)]), om_ 4 7]) .ret))
theorem stringslite_IndexByte.code : comp PG [] (Tryz.f205.body.getD .skip) = stringslite_IndexByte.c := by kernel_rfl
theorem stringslite_IndexByte.of : OfE PG 205 2 stringslite_IndexByte.c [(.t 4)] := fnE (nt := 8) mixed Tryz.func205 stringslite_IndexByte.code (by kernel_rfl) (by kernel_rfl) (by kernel_rfl) (by kernel_rfl) (by kernel_rfl) (by kernel_rfl)
def stringslite_HasPrefix.n : Nat := 206
noncomputable def stringslite_HasPrefix.c : C := (.seq (.reg [oo_ 4 (.mv (.c (.bool false)))]) (.seq (.reg [om_ 5 0, oo_ 6 (.len true (.t 5)), om_ 7 1, oo_ 8 (.len true (.t 7)), oo_ 9 (.bin .geq (.t 6) (.t 8)), om_ 10 9, og_ 11 10 true (.mv (.t 0)), og_ 12 10 true (.mv (.t 1)), og_ 13 10 true (.len true (.t 12)), og_ 14 10 true (.slice none (.t 11) none (some (.t 13))), og_ 15 10 true (.mv (.t 1)), og_ 16 10 true (.bin .eql (.t 14) (.t 15)), oo_ 17 (.pick (.t 10) (.t 16) (.c (.bool false))), om_ 4 17]) .ret))
theorem stringslite_HasPrefix.code : comp PG [] (Tryz.f206.body.getD .skip) = stringslite_HasPrefix.c := by kernel_rfl
theorem stringslite_HasPrefix.of : OfE PG 206 2 stringslite_HasPrefix.c [(.t 4)] := fnE (nt := 18) mixed Tryz.func206 stringslite_HasPrefix.code (by kernel_rfl) (by kernel_rfl) (by kernel_rfl) (by kernel_rfl) (by kernel_rfl) (by kernel_rfl)
def token_lexer_cut.n : Nat := 208
noncomputable def token_lexer_cut.c : C := (.seq (.reg [oo_ 6 (.allc 111 [(.int .i64 0), (.str []), (.int .u64 0), (.int .i64 0)])]) (.seq (.dreg [om_ 8 1, om_ 9 0, oo_ 10 (.call 209 [(.t 9)]), om_ 11 2, oo_ 12 (.slice none (.t 10) none (some (.t 11))), om_ 13 0, oo_ 14 (.nilck (.t 13)), of_ 15 1 14, ol_ 16 15, oo_ 17 (.build [(.int .i64 0), (.str []), (.int .u64 0), (.int .i64 0)] [(0, (1, (.t 8))), (1, (1, (.t 12))), (3, (1, (.t 16)))]), oo_ 7 (.allc 111 [(.int .i64 0), (.str []), (.int .u64 0), (.int .i64 0)])] [os_ (.store 4 (.t 7) (.t 17))]) (.seq (.reg [om_ 18 0, oo_ 19 (.nilck (.t 18)), of_ 20 1 19, ol_ 21 20, om_ 22 2, oo_ 23 (.bin .add (.t 21) (.t 22)), oo_ 24 (.nilck (.t 18)), of_ 25 1 24, os_ (.store 1 (.t 25) (.t 23))]) (.seq (.reg [oo_ 26 (.load (some 4) (.t 7)), os_ (.store 4 (.t 6) (.t 26))]) .ret))))
theorem token_lexer_cut.code : comp PG [] (Tryz.f208.body.getD .skip) = token_lexer_cut.c := by kernel_rfl
theorem token_lexer_cut.of : OfE PG 208 3 token_lexer_cut.c [(.cell 6 (some 4))] := fnE (nt := 27) mixed Tryz.func208 token_lexer_cut.code (by kernel_rfl) (by kernel_rfl) (by kernel_rfl) (by kernel_rfl) (by kernel_rfl) (by kernel_rfl)
def token_lexer_rest.n : Nat := 209
noncomputable def token_lexer_rest.c : C := (.seq (.reg [oo_ 2 (.mv (.c (.str [])))]) (.seq (.dreg [om_ 3 0, oo_ 4 (.nilck (.t 3)), of_ 5 0 4, ol_ 6 5, om_ 7 0, oo_ 8 (.nilck (.t 7)), of_ 9 1 8, ol_ 10 9] [oo_ 11 (.slice none (.t 6) (some (.t 10)) none), om_ 2 11]) .ret))
theorem token_lexer_rest.code : comp PG [] (Tryz.f209.body.getD .skip) = token_lexer_rest.c := by kernel_rfl
theorem token_lexer_rest.of : OfE PG 209 1 token_lexer_rest.c [(.t 2)] := fnE (nt := 12) mixed Tryz.func209 token_lexer_rest.code (by kernel_rfl) (by kernel_rfl) (by kernel_rfl) (by kernel_rfl) (by kernel_rfl) (by kernel_rfl)
def strings_Builder_WriteByte.n : Nat := 210
noncomputable def strings_Builder_WriteByte.c : C := (.seq (.reg [oo_ 4 (.mv (.c .nilI))]) (.seq (.reg [om_ 5 0, oo_ 6 (.call 220 [(.t 5)])]) (.seq (.reg [om_ 7 0, om_ 8 0, oo_ 9 (.nilck (.t 8)), of_ 10 1 9, ol_ 11 10, om_ 12 1, oo_ 13 (.bslice 5 1 1 [(.int .u8 0)] [(0, (.t 12))]), oo_ 14 (.append 5 false 1 1 (.t 11) (.t 13)), oo_ 15 (.nilck (.t 7)), of_ 16 1 15, os_ (.store 1 (.t 16) (.t 14))]) (.seq (.reg [oo_ 4 (.mv (.c .nilI))]) .ret))))
theorem strings_Builder_WriteByte.code : comp PG [] (Tryz.f210.body.getD .skip) = strings_Builder_WriteByte.c := by kernel_rfl
theorem strings_Builder_WriteByte.of : OfE PG 210 2 strings_Builder_WriteByte.c [(.t 4)] := fnE (nt := 17) mixed Tryz.func210 strings_Builder_WriteByte.code (by kernel_rfl) (by kernel_rfl) (by kernel_rfl) (by kernel_rfl) (by kernel_rfl) (by kernel_rfl)
def strings_HasPrefix.n : Nat := 211
noncomputable def strings_HasPrefix.c : C := (.seq (.reg [oo_ 4 (.mv (.c (.bool false)))]) (.seq (.reg [om_ 5 0, om_ 6 1, oo_ 7 (.call 206 [(.t 5), (.t 6)]), om_ 4 7]) .ret))
theorem strings_HasPrefix.code : comp PG [] (Tryz.f211.body.getD .skip) = strings_HasPrefix.c := by kernel_rfl
theorem strings_HasPrefix.of : OfE PG 211 2 strings_HasPrefix.c [(.t 4)] := fnE (nt := 8) mixed Tryz.func211 strings_HasPrefix.code (by kernel_rfl) (by kernel_rfl) (by kernel_rfl) (by kernel_rfl) (by kernel_rfl) (by kernel_rfl)
def strings_Builder_String.n : Nat := 212
noncomputable def strings_Builder_String.c : C := (.seq (.reg [oo_ 2 (.mv (.c (.str [])))]) (.seq (.dreg [om_ 3 0, oo_ 4 (.nilck (.t 3)), of_ 5 1 4, ol_ 6 5, oo_ 7 (.sdata (.t 6)), om_ 8 0, oo_ 9 (.nilck (.t 8)), of_ 10 1 9, ol_ 11 10, oo_ 12 (.len false (.t 11))] [oo_ 13 (.ustr 5 (.t 7) (.t 12)), om_ 2 13]) .ret))
theorem strings_Builder_String.code : comp PG [] (Tryz.f212.body.getD .skip) = strings_Builder_String.c := by kernel_rfl
theorem strings_Builder_String.of : OfE PG 212 1 strings_Builder_String.c [(.t 2)] := fnE (nt := 14) mixed Tryz.func212 strings_Builder_String.code (by kernel_rfl) (by kernel_rfl) (by kernel_rfl) (by kernel_rfl) (by kernel_rfl) (by kernel_rfl)
def strings_Builder_copyCheck.n : Nat := 220
noncomputable def strings_Builder_copyCheck.c : C := (.seq (.reg [om_ 2 0, oo_ 3 (.nilck (.t 2)), of_ 4 0 3, ol_ 5 4, oo_ 6 (.ncmpP false (.t 5))]) (.cond (.t 6) (.reg [om_ 7 0, om_ 8 0, oo_ 9 (.idu (.t 8)), oo_ 10 (.ext .same [(.t 9)]), oo_ 11 (.idf [(236, (2, 0))] (.t 10)), oo_ 12 (.nilck (.t 7)), of_ 13 0 12, os_ (.store 1 (.t 13) (.t 11))]) (.seq (.reg [om_ 14 0, oo_ 15 (.nilck (.t 14)), of_ 16 0 15, ol_ 17 16, om_ 18 0, oo_ 19 (.peq true (.t 17) (.t 18))]) (.cond (.t 19) .bad .skip))))
theorem strings_Builder_copyCheck.code : comp PG [] (Tryz.f220.body.getD .skip) = strings_Builder_copyCheck.c := by kernel_rfl
theorem strings_Builder_copyCheck.of : OfE PG 220 1 strings_Builder_copyCheck.c [] := fnE (nt := 20) mixed Tryz.func220 strings_Builder_copyCheck.code (by kernel_rfl) (by kernel_rfl) (by kernel_rfl) (by kernel_rfl) (by kernel_rfl) (by kernel_rfl)
end Go.Proofs.YtjaigpidmngaaaaGreat

namespace Go.Proofs.YtjaigpidmngaaaaGreat
set_option maxRecDepth 100000
def broadsheetref15_Great.n : Nat := 12
noncomputable def broadsheetref15_Great.c : C := (.seq (.reg [oo_ 2 (.box 26 (.t 0)), oo_ 4 (.mv (.c (.bool false)))]) (.seq (.seq (.reg [om_ 8 1, oo_ 9 (.bin .gtr (.t 8) (.c (.int .i64 40))), om_ 10 9, og_ 11 10 false (.faddr 3 (.t 2)), og_ 12 10 false (.load none (.t 11)), og_ 13 10 false (.len false (.t 12)), og_ 14 10 false (.bin .gtr (.t 13) (.c (.int .i64 100))), oo_ 15 (.pick (.t 10) (.c (.bool true)) (.t 14)), om_ 16 15, og_ 17 16 false (.faddr 2 (.t 2)), og_ 18 16 false (.load none (.t 17)), og_ 19 16 false (.len false (.t 18)), og_ 20 16 false (.bin .gtr (.t 19) (.c (.int .i64 100))), oo_ 21 (.pick (.t 16) (.c (.bool true)) (.t 20))]) (.cond (.t 21) (.seq (.reg [oo_ 4 (.mv (.c (.bool true)))]) .ret) .skip)) (.seq (.reg [oo_ 5 (.mv (.c (.int .i64 0)))]) (.seq (.seq (.reg [oo_ 6 (.mv (.c (.int .i64 0)))]) (.block 0 (.loop (.seq (.seq (.reg [om_ 22 6, of_ 23 2 2, ol_ 24 23, oo_ 25 (.len false (.t 24)), oo_ 26 (.bin .lss (.t 22) (.t 25))]) (.cond (.t 26) .skip (.exit 0))) (.seq (.block 1 (.reg [om_ 29 5, of_ 30 2 2, ol_ 31 30, om_ 32 6, oo_ 33 (.iaddr 4 (.t 31) (.t 32)), of_ 34 1 33, ol_ 35 34, oo_ 36 (.len true (.t 35)), oo_ 37 (.bin .add (.t 29) (.t 36)), oo_ 38 (.mm false [(.t 37), (.c (.int .i64 100000))]), om_ 5 38])) (.reg [om_ 27 6, oo_ 28 (.bin .add (.t 27) (.c (.int .i64 1))), om_ 6 28])))))) (.seq (.seq (.reg [oo_ 7 (.mv (.c (.int .i64 0)))]) (.block 2 (.loop (.seq (.seq (.reg [om_ 39 7, of_ 40 3 2, ol_ 41 40, oo_ 42 (.len false (.t 41)), oo_ 43 (.bin .lss (.t 39) (.t 42))]) (.cond (.t 43) .skip (.exit 2))) (.seq (.block 3 (.seq (.seq (.reg [of_ 46 3 2, ol_ 47 46, om_ 48 7, oo_ 49 (.iaddr 4 (.t 47) (.t 48)), oo_ 50 (.load (some 4) (.t 49)), om_ 51 1, oo_ 52 (.bin .add (.t 51) (.c (.int .i64 1))), oo_ 53 (.call 12 [(.t 50), (.t 52)])]) (.cond (.t 53) (.seq (.reg [oo_ 4 (.mv (.c (.bool true)))]) .ret) .skip)) (.reg [om_ 54 5, of_ 55 3 2, ol_ 56 55, om_ 57 7, oo_ 58 (.iaddr 4 (.t 56) (.t 57)), oo_ 59 (.load (some 4) (.t 58)), oo_ 60 (.call 35 [(.t 59)]), oo_ 61 (.bin .add (.t 54) (.t 60)), oo_ 62 (.mm false [(.t 61), (.c (.int .i64 100000))]), om_ 5 62]))) (.reg [om_ 44 7, oo_ 45 (.bin .add (.t 44) (.c (.int .i64 1))), om_ 7 45])))))) (.seq (.reg [om_ 63 5, oo_ 64 (.bin .gtr (.t 63) (.c (.int .i64 3000))), om_ 4 64]) .ret))))))
theorem broadsheetref15_Great.code : comp PG [] (Tryz.f12.body.getD .skip) = broadsheetref15_Great.c := by kernel_rfl
theorem broadsheetref15_Great.of : OfE PG 12 2 broadsheetref15_Great.c [(.t 4)] := fnE (nt := 65) mixed Tryz.func12 broadsheetref15_Great.code (by kernel_rfl) (by kernel_rfl) (by kernel_rfl) (by kernel_rfl) (by kernel_rfl) (by kernel_rfl)
def broadsheetref15_Size.n : Nat := 35
noncomputable def broadsheetref15_Size.c : C := (.seq (.reg [oo_ 1 (.box 26 (.t 0)), oo_ 2 (.mv (.c (.int .i64 0)))]) (.seq (.reg [of_ 5 2 1, ol_ 6 5, oo_ 7 (.len false (.t 6)), oo_ 8 (.bin .add (.c (.int .i64 1)) (.t 7)), om_ 3 8]) (.seq (.seq (.reg [oo_ 4 (.mv (.c (.int .i64 0)))]) (.block 0 (.loop (.seq (.seq (.reg [om_ 9 4, of_ 10 3 1, ol_ 11 10, oo_ 12 (.len false (.t 11)), oo_ 13 (.bin .lss (.t 9) (.t 12))]) (.cond (.t 13) .skip (.exit 0))) (.seq (.block 1 (.reg [om_ 16 3, of_ 17 3 1, ol_ 18 17, om_ 19 4, oo_ 20 (.iaddr 4 (.t 18) (.t 19)), oo_ 21 (.load (some 4) (.t 20)), oo_ 22 (.call 35 [(.t 21)]), oo_ 23 (.bin .add (.t 16) (.t 22)), om_ 3 23])) (.reg [om_ 14 4, oo_ 15 (.bin .add (.t 14) (.c (.int .i64 1))), om_ 4 15])))))) (.seq (.reg [om_ 24 3, om_ 2 24]) .ret))))
theorem broadsheetref15_Size.code : comp PG [] (Tryz.f35.body.getD .skip) = broadsheetref15_Size.c := by kernel_rfl
theorem broadsheetref15_Size.of : OfE PG 35 1 broadsheetref15_Size.c [(.t 2)] := fnE (nt := 25) mixed Tryz.func35 broadsheetref15_Size.code (by kernel_rfl) (by kernel_rfl) (by kernel_rfl) (by kernel_rfl) (by kernel_rfl) (by kernel_rfl)
def expr_Parse.n : Nat := 36
noncomputable def expr_Parse.c : C := (.seq (.reg [oo_ 2 (.allc 26 [(.int .i64 0), (.int .i64 0), .nilS, .nilS]), oo_ 3 (.allc 72 [(.int .i64 0), (.int .i64 0)])]) (.seq (.reg [om_ 9 0, oo_ 10 (.call 61 [(.t 9)]), om_ 8 10, oo_ 11 (.extr (.t 8) 0), oo_ 12 (.extr (.t 8) 1), oo_ 5 (.allc 72 [(.int .i64 0), (.int .i64 0)]), om_ 4 11, os_ (.store 2 (.t 5) (.t 12))]) (.seq (.seq (.reg [of_ 13 0 5, ol_ 14 13, oo_ 15 (.bin .neq (.t 14) (.c (.int .i64 0)))]) (.cond (.t 15) (.seq (.dreg [oo_ 16 (.build [(.int .i64 0), (.int .i64 0), .nilS, .nilS] []), oo_ 17 (.load (some 2) (.t 5)), os_ (.store 4 (.t 2) (.t 16))] [os_ (.store 2 (.t 3) (.t 17))]) .ret) .skip)) (.seq (.reg [om_ 18 4, oo_ 19 (.build [.nilS, (.int .i64 0), (.int .i64 0), (.int .i64 0), (.int .i64 0)] [(0, (1, (.t 18)))]), oo_ 20 (.box 108 (.t 19)), om_ 6 20]) (.seq (.reg [om_ 21 6, oo_ 22 (.call 62 [(.t 21)]), oo_ 7 (.allc 26 [(.int .i64 0), (.int .i64 0), .nilS, .nilS]), os_ (.store 4 (.t 7) (.t 22))]) (.seq (.seq (.reg [om_ 23 6, oo_ 24 (.call 63 [(.t 23)]), oo_ 25 (.un .not (.t 24)), om_ 26 25, og_ 27 26 true (.mv (.t 6)), og_ 28 26 true (.call 64 [(.t 27)]), og_ 29 26 true (.field 0 none (.t 28)), og_ 30 26 true (.bin .neq (.t 29) (.c (.int .i64 6))), oo_ 31 (.pick (.t 26) (.t 30) (.c (.bool false)))]) (.cond (.t 31) (.reg [om_ 32 6, oo_ 33 (.call 65 [(.t 32), (.c (.int .i64 11))])]) .skip)) (.seq (.seq (.reg [om_ 34 6, oo_ 35 (.call 63 [(.t 34)])]) (.cond (.t 35) (.seq (.dreg [oo_ 36 (.build [(.int .i64 0), (.int .i64 0), .nilS, .nilS] []), om_ 37 6, oo_ 38 (.nilck (.t 37)), of_ 39 3 38, oo_ 40 (.load (some 2) (.t 39)), os_ (.store 4 (.t 2) (.t 36))] [os_ (.store 2 (.t 3) (.t 40))]) .ret) .skip)) (.seq (.reg [oo_ 41 (.load (some 4) (.t 7)), oo_ 42 (.build [(.int .i64 0), (.int .i64 0)] []), os_ (.store 4 (.t 2) (.t 41)), os_ (.store 2 (.t 3) (.t 42))]) .ret))))))))
theorem expr_Parse.code : comp PG [] (Tryz.f36.body.getD .skip) = expr_Parse.c := by kernel_rfl
theorem expr_Parse.of : OfE PG 36 1 expr_Parse.c [(.cell 2 (some 4)), (.cell 3 (some 2))] := fnE (nt := 43) mixed Tryz.func36 expr_Parse.code (by kernel_rfl) (by kernel_rfl) (by kernel_rfl) (by kernel_rfl) (by kernel_rfl) (by kernel_rfl)
def expr_parser_or.n : Nat := 62
noncomputable def expr_parser_or.c : C := (.seq (.reg [oo_ 2 (.allc 26 [(.int .i64 0), (.int .i64 0), .nilS, .nilS])]) (.seq (.reg [om_ 3 0, om_ 4 0, oo_ 5 (.mkfn 117 [(.t 4)] []), oo_ 6 (.call 116 [(.t 3), (.c (.int .i64 6)), (.c (.str [79, 82])), (.t 5)]), os_ (.store 4 (.t 2) (.t 6))]) .ret))
theorem expr_parser_or.code : comp PG [] (Tryz.f62.body.getD .skip) = expr_parser_or.c := by kernel_rfl
theorem expr_parser_or.of : OfE PG 62 1 expr_parser_or.c [(.cell 2 (some 4))] := fnE (nt := 7) mixed Tryz.func62 expr_parser_or.code (by kernel_rfl) (by kernel_rfl) (by kernel_rfl) (by kernel_rfl) (by kernel_rfl) (by kernel_rfl)
def expr_parser_bad.n : Nat := 63
noncomputable def expr_parser_bad.c : C := (.seq (.reg [oo_ 2 (.mv (.c (.bool false)))]) (.seq (.reg [om_ 3 0, oo_ 4 (.nilck (.t 3)), of_ 5 3 4, of_ 6 0 5, ol_ 7 6, oo_ 8 (.bin .neq (.t 7) (.c (.int .i64 0))), om_ 2 8]) .ret))
theorem expr_parser_bad.code : comp PG [] (Tryz.f63.body.getD .skip) = expr_parser_bad.c := by kernel_rfl
theorem expr_parser_bad.of : OfE PG 63 1 expr_parser_bad.c [(.t 2)] := fnE (nt := 9) mixed Tryz.func63 expr_parser_bad.code (by kernel_rfl) (by kernel_rfl) (by kernel_rfl) (by kernel_rfl) (by kernel_rfl) (by kernel_rfl)
def expr_parser_now.n : Nat := 64
noncomputable def expr_parser_now.c : C := (.seq (.reg [oo_ 2 (.allc 111 [(.int .i64 0), (.str []), (.int .u64 0), (.int .i64 0)])]) (.seq (.dreg [om_ 3 0, oo_ 4 (.nilck (.t 3)), of_ 5 0 4, ol_ 6 5, om_ 7 0, oo_ 8 (.nilck (.t 7)), of_ 9 1 8, ol_ 10 9] [oo_ 11 (.iaddr 4 (.t 6) (.t 10)), oo_ 12 (.load (some 4) (.t 11)), os_ (.store 4 (.t 2) (.t 12))]) .ret))
theorem expr_parser_now.code : comp PG [] (Tryz.f64.body.getD .skip) = expr_parser_now.c := by kernel_rfl
theorem expr_parser_now.of : OfE PG 64 1 expr_parser_now.c [(.cell 2 (some 4))] := fnE (nt := 13) mixed Tryz.func64 expr_parser_now.code (by kernel_rfl) (by kernel_rfl) (by kernel_rfl) (by kernel_rfl) (by kernel_rfl) (by kernel_rfl)
def expr_parser_fail.n : Nat := 65
noncomputable def expr_parser_fail.c : C := (.seq (.reg [om_ 4 0, oo_ 5 (.nilck (.t 4)), of_ 6 3 5, of_ 7 0 6, ol_ 8 7, oo_ 9 (.bin .eql (.t 8) (.c (.int .i64 0)))]) (.cond (.t 9) (.reg [om_ 10 0, om_ 11 1, om_ 12 0, oo_ 13 (.call 64 [(.t 12)]), oo_ 14 (.field 3 none (.t 13)), oo_ 15 (.build [(.int .i64 0), (.int .i64 0)] [(0, (1, (.t 11))), (1, (1, (.t 14)))]), oo_ 16 (.nilck (.t 10)), of_ 17 3 16, os_ (.store 2 (.t 17) (.t 15))]) .skip))
theorem expr_parser_fail.code : comp PG [] (Tryz.f65.body.getD .skip) = expr_parser_fail.c := by kernel_rfl
theorem expr_parser_fail.of : OfE PG 65 2 expr_parser_fail.c [] := fnE (nt := 18) mixed Tryz.func65 expr_parser_fail.code (by kernel_rfl) (by kernel_rfl) (by kernel_rfl) (by kernel_rfl) (by kernel_rfl) (by kernel_rfl)
def expr_parser_row.n : Nat := 116
noncomputable def expr_parser_row.c : C := (.seq (.reg [oo_ 8 (.allc 26 [(.int .i64 0), (.int .i64 0), .nilS, .nilS])]) (.seq (.reg [om_ 11 3, oo_ 12 (.callv (.t 11) []), oo_ 9 (.allc 26 [(.int .i64 0), (.int .i64 0), .nilS, .nilS]), os_ (.store 4 (.t 9) (.t 12))]) (.seq (.reg [om_ 13 1, oo_ 14 (.load (some 4) (.t 9)), oo_ 15 (.bsliceO 26 4 1 [(.int .i64 0), (.int .i64 0), .nilS, .nilS] [(0, (.t 14))]), oo_ 16 (.build [(.int .i64 0), (.int .i64 0), .nilS, .nilS] [(0, (1, (.t 13))), (3, (1, (.t 15)))]), oo_ 10 (.allc 26 [(.int .i64 0), (.int .i64 0), .nilS, .nilS]), os_ (.store 4 (.t 10) (.t 16))]) (.seq (.block 0 (.loop (.seq (.seq (.reg [om_ 17 0, om_ 18 2, oo_ 19 (.call 158 [(.t 17), (.c (.int .i64 1)), (.t 18)])]) (.cond (.t 19) .skip (.exit 0))) (.block 1 (.dreg [of_ 20 3 10, ol_ 21 20, om_ 22 3, oo_ 23 (.callv (.t 22) []), oo_ 24 (.bslice 26 4 1 [(.int .i64 0), (.int .i64 0), .nilS, .nilS] [(0, (.t 23))])] [oo_ 25 (.append 26 false 4 64 (.t 21) (.t 24)), of_ 26 3 10, os_ (.store 1 (.t 26) (.t 25))]))))) (.seq (.seq (.reg [of_ 27 3 10, ol_ 28 27, oo_ 29 (.len false (.t 28)), oo_ 30 (.bin .eql (.t 29) (.c (.int .i64 1)))]) (.cond (.t 30) (.seq (.reg [oo_ 31 (.load (some 4) (.t 9)), os_ (.store 4 (.t 8) (.t 31))]) .ret) .skip)) (.seq (.reg [oo_ 32 (.load (some 4) (.t 10)), os_ (.store 4 (.t 8) (.t 32))]) .ret))))))
theorem expr_parser_row.code : comp PG [15] (Tryz.f116.body.getD .skip) = expr_parser_row.c := by kernel_rfl
theorem expr_parser_row.of : OfE PG 116 4 expr_parser_row.c [(.cell 8 (some 4))] := fnE (nt := 33) mixed Tryz.func116 expr_parser_row.code (by kernel_rfl) (by kernel_rfl) (by kernel_rfl) (by kernel_rfl) (by kernel_rfl) (by kernel_rfl)
def expr_parser_and.n : Nat := 117
noncomputable def expr_parser_and.c : C := (.seq (.reg [oo_ 2 (.allc 26 [(.int .i64 0), (.int .i64 0), .nilS, .nilS])]) (.seq (.reg [om_ 3 0, om_ 4 0, oo_ 5 (.mkfn 159 [(.t 4)] []), oo_ 6 (.call 116 [(.t 3), (.c (.int .i64 5)), (.c (.str [65, 78, 68])), (.t 5)]), os_ (.store 4 (.t 2) (.t 6))]) .ret))
theorem expr_parser_and.code : comp PG [] (Tryz.f117.body.getD .skip) = expr_parser_and.c := by kernel_rfl
theorem expr_parser_and.of : OfE PG 117 1 expr_parser_and.c [(.cell 2 (some 4))] := fnE (nt := 7) mixed Tryz.func117 expr_parser_and.code (by kernel_rfl) (by kernel_rfl) (by kernel_rfl) (by kernel_rfl) (by kernel_rfl) (by kernel_rfl)
def expr_parser_skip.n : Nat := 158
noncomputable def expr_parser_skip.c : C := (.seq (.reg [oo_ 6 (.mv (.c (.bool false)))]) (.seq (.seq (.reg [om_ 7 0, oo_ 8 (.call 63 [(.t 7)]), om_ 9 8, og_ 10 9 false (.mv (.t 0)), og_ 11 9 false (.mv (.t 1)), og_ 12 9 false (.mv (.t 2)), og_ 13 9 false (.call 190 [(.t 10), (.t 11), (.t 12)]), og_ 14 9 false (.un .not (.t 13)), oo_ 15 (.pick (.t 9) (.c (.bool true)) (.t 14))]) (.cond (.t 15) (.seq (.reg [oo_ 6 (.mv (.c (.bool false)))]) .ret) .skip)) (.seq (.reg [om_ 16 0, oo_ 17 (.nilck (.t 16)), of_ 18 1 17, ol_ 19 18, oo_ 20 (.bin .add (.t 19) (.c (.int .i64 1))), oo_ 21 (.nilck (.t 16)), of_ 22 1 21, os_ (.store 1 (.t 22) (.t 20))]) (.seq (.reg [oo_ 6 (.mv (.c (.bool true)))]) .ret))))
theorem expr_parser_skip.code : comp PG [] (Tryz.f158.body.getD .skip) = expr_parser_skip.c := by kernel_rfl
theorem expr_parser_skip.of : OfE PG 158 3 expr_parser_skip.c [(.t 6)] := fnE (nt := 23) mixed Tryz.func158 expr_parser_skip.code (by kernel_rfl) (by kernel_rfl) (by kernel_rfl) (by kernel_rfl) (by kernel_rfl) (by kernel_rfl)
def expr_parser_not.n : Nat := 159
noncomputable def expr_parser_not.c : C := (.seq (.reg [oo_ 1 (.box 106 (.t 0)), oo_ 2 (.allc 26 [(.int .i64 0), (.int .i64 0), .nilS, .nilS])]) (.seq (.block 0 (.seq (.reg [ol_ 4 1, oo_ 5 (.call 63 [(.t 4)]), om_ 3 5]) (.cond (.t 3) (.seq (.reg [oo_ 6 (.build [(.int .i64 0), (.int .i64 0), .nilS, .nilS] []), os_ (.store 4 (.t 2) (.t 6))]) .ret) (.seq (.reg [ol_ 8 1, oo_ 9 (.call 190 [(.t 8), (.c (.int .i64 1)), (.c (.str [78, 79, 84]))]), om_ 7 9]) (.cond (.t 7) (.seq (.reg [ol_ 10 1, oo_ 11 (.mkfn 192 [] [(.t 1)]), oo_ 12 (.call 191 [(.t 10), (.t 11)]), os_ (.store 4 (.t 2) (.t 12))]) .ret) (.seq (.reg [ol_ 14 1, oo_ 15 (.call 190 [(.t 14), (.c (.int .i64 5)), (.c (.str [40]))]), om_ 13 15]) (.cond (.t 13) (.seq (.reg [ol_ 16 1, oo_ 17 (.mkfn 193 [] [(.t 1)]), oo_ 18 (.call 191 [(.t 16), (.t 17)]), os_ (.store 4 (.t 2) (.t 18))]) .ret) .skip))))))) (.seq (.reg [ol_ 19 1, oo_ 20 (.call 195 [(.t 19)]), os_ (.store 4 (.t 2) (.t 20))]) .ret)))
theorem expr_parser_not.code : comp PG [] (Tryz.f159.body.getD .skip) = expr_parser_not.c := by kernel_rfl
theorem expr_parser_not.of : OfE PG 159 1 expr_parser_not.c [(.cell 2 (some 4))] := fnE (nt := 21) mixed Tryz.func159 expr_parser_not.code (by kernel_rfl) (by kernel_rfl) (by kernel_rfl) (by kernel_rfl) (by kernel_rfl) (by kernel_rfl)
def expr_parser_is.n : Nat := 190
noncomputable def expr_parser_is.c : C := (.seq (.reg [oo_ 6 (.mv (.c (.bool false)))]) (.seq (.reg [om_ 8 0, oo_ 9 (.call 64 [(.t 8)]), oo_ 7 (.allc 111 [(.int .i64 0), (.str []), (.int .u64 0), (.int .i64 0)]), os_ (.store 4 (.t 7) (.t 9))]) (.seq (.reg [of_ 10 0 7, ol_ 11 10, om_ 12 1, oo_ 13 (.bin .eql (.t 11) (.t 12)), om_ 14 13, og_ 15 14 true (.faddr 1 (.t 7)), og_ 16 14 true (.load none (.t 15)), og_ 17 14 true (.mv (.t 2)), og_ 18 14 true (.bin .eql (.t 16) (.t 17)), oo_ 19 (.pick (.t 14) (.t 18) (.c (.bool false))), om_ 6 19]) .ret)))
theorem expr_parser_is.code : comp PG [] (Tryz.f190.body.getD .skip) = expr_parser_is.c := by kernel_rfl
theorem expr_parser_is.of : OfE PG 190 3 expr_parser_is.c [(.t 6)] := fnE (nt := 20) mixed Tryz.func190 expr_parser_is.code (by kernel_rfl) (by kernel_rfl) (by kernel_rfl) (by kernel_rfl) (by kernel_rfl) (by kernel_rfl)
def expr_parser_within.n : Nat := 191
noncomputable def expr_parser_within.c : C := (.seq (.reg [oo_ 4 (.allc 26 [(.int .i64 0), (.int .i64 0), .nilS, .nilS])]) (.seq (.seq (.reg [om_ 6 0, oo_ 7 (.nilck (.t 6)), of_ 8 2 7, ol_ 9 8, oo_ 10 (.bin .geq (.t 9) (.c (.int .i64 8)))]) (.cond (.t 10) (.seq (.reg [om_ 11 0, oo_ 12 (.call 65 [(.t 11), (.c (.int .i64 9))])]) (.seq (.reg [oo_ 13 (.build [(.int .i64 0), (.int .i64 0), .nilS, .nilS] []), os_ (.store 4 (.t 4) (.t 13))]) .ret)) .skip)) (.seq (.reg [om_ 14 0, oo_ 15 (.nilck (.t 14)), of_ 16 2 15, ol_ 17 16, oo_ 18 (.bin .add (.t 17) (.c (.int .i64 1))), oo_ 19 (.nilck (.t 14)), of_ 20 2 19, os_ (.store 1 (.t 20) (.t 18))]) (.seq (.reg [om_ 21 0, oo_ 22 (.nilck (.t 21)), of_ 23 1 22, ol_ 24 23, oo_ 25 (.bin .add (.t 24) (.c (.int .i64 1))), oo_ 26 (.nilck (.t 21)), of_ 27 1 26, os_ (.store 1 (.t 27) (.t 25))]) (.seq (.reg [om_ 28 1, oo_ 29 (.callv (.t 28) []), oo_ 5 (.allc 26 [(.int .i64 0), (.int .i64 0), .nilS, .nilS]), os_ (.store 4 (.t 5) (.t 29))]) (.seq (.reg [om_ 30 0, oo_ 31 (.nilck (.t 30)), of_ 32 2 31, ol_ 33 32, oo_ 34 (.bin .sub (.t 33) (.c (.int .i64 1))), oo_ 35 (.nilck (.t 30)), of_ 36 2 35, os_ (.store 1 (.t 36) (.t 34))]) (.seq (.reg [oo_ 37 (.load (some 4) (.t 5)), os_ (.store 4 (.t 4) (.t 37))]) .ret)))))))
theorem expr_parser_within.code : comp PG [] (Tryz.f191.body.getD .skip) = expr_parser_within.c := by kernel_rfl
theorem expr_parser_within.of : OfE PG 191 2 expr_parser_within.c [(.cell 4 (some 4))] := fnE (nt := 38) mixed Tryz.func191 expr_parser_within.code (by kernel_rfl) (by kernel_rfl) (by kernel_rfl) (by kernel_rfl) (by kernel_rfl) (by kernel_rfl)
def expr_parser_not_1.n : Nat := 192
noncomputable def expr_parser_not_1.c : C := (.seq (.reg [oo_ 1 (.allc 26 [(.int .i64 0), (.int .i64 0), .nilS, .nilS])]) (.seq (.reg [ol_ 2 0, oo_ 3 (.call 159 [(.t 2)]), oo_ 4 (.bslice 26 4 1 [(.int .i64 0), (.int .i64 0), .nilS, .nilS] [(0, (.t 3))]), oo_ 5 (.build [(.int .i64 0), (.int .i64 0), .nilS, .nilS] [(0, (1, (.c (.int .i64 4)))), (3, (1, (.t 4)))]), os_ (.store 4 (.t 1) (.t 5))]) .ret))
theorem expr_parser_not_1.code : comp PG [] (Tryz.f192.body.getD .skip) = expr_parser_not_1.c := by kernel_rfl
theorem expr_parser_not_1.of' : OfL PG 192 6 expr_parser_not_1.c [(.cell 1 (some 4))] := fnL mixed Tryz.func192 expr_parser_not_1.code (by kernel_rfl) (by kernel_rfl) (by kernel_rfl) (by kernel_rfl) (by kernel_rfl)
def expr_parser_not_2.n : Nat := 193
noncomputable def expr_parser_not_2.c : C := (.seq (.reg [oo_ 1 (.allc 26 [(.int .i64 0), (.int .i64 0), .nilS, .nilS])]) (.seq (.reg [ol_ 3 0, oo_ 4 (.call 62 [(.t 3)]), oo_ 2 (.allc 26 [(.int .i64 0), (.int .i64 0), .nilS, .nilS]), os_ (.store 4 (.t 2) (.t 4))]) (.seq (.reg [ol_ 5 0, oo_ 6 (.call 194 [(.t 5), (.c (.int .i64 5)), (.c (.str [41]))])]) (.seq (.reg [oo_ 7 (.load (some 4) (.t 2)), os_ (.store 4 (.t 1) (.t 7))]) .ret))))
theorem expr_parser_not_2.code : comp PG [] (Tryz.f193.body.getD .skip) = expr_parser_not_2.c := by kernel_rfl
theorem expr_parser_not_2.of' : OfL PG 193 8 expr_parser_not_2.c [(.cell 1 (some 4))] := fnL mixed Tryz.func193 expr_parser_not_2.code (by kernel_rfl) (by kernel_rfl) (by kernel_rfl) (by kernel_rfl) (by kernel_rfl)
def expr_parser_must.n : Nat := 194
noncomputable def expr_parser_must.c : C := (.seq (.reg [om_ 6 0, om_ 7 1, om_ 8 2, oo_ 9 (.call 158 [(.t 6), (.t 7), (.t 8)]), oo_ 10 (.un .not (.t 9))]) (.cond (.t 10) (.reg [om_ 11 0, oo_ 12 (.call 65 [(.t 11), (.c (.int .i64 11))])]) .skip))
theorem expr_parser_must.code : comp PG [] (Tryz.f194.body.getD .skip) = expr_parser_must.c := by kernel_rfl
theorem expr_parser_must.of : OfE PG 194 3 expr_parser_must.c [] := fnE (nt := 13) mixed Tryz.func194 expr_parser_must.code (by kernel_rfl) (by kernel_rfl) (by kernel_rfl) (by kernel_rfl) (by kernel_rfl) (by kernel_rfl)
def expr_parser_test.n : Nat := 195
noncomputable def expr_parser_test.c : C := (.seq (.reg [oo_ 2 (.allc 26 [(.int .i64 0), (.int .i64 0), .nilS, .nilS])]) (.seq (.reg [om_ 8 0, oo_ 9 (.call 213 [(.t 8)]), oo_ 3 (.allc 35 [(.int .i64 0), (.str []), (.bool false), (.int .u64 0)]), os_ (.store 4 (.t 3) (.t 9))]) (.seq (.seq (.reg [om_ 10 0, oo_ 11 (.call 63 [(.t 10)])]) (.cond (.t 11) (.seq (.reg [oo_ 12 (.build [(.int .i64 0), (.int .i64 0), .nilS, .nilS] []), os_ (.store 4 (.t 2) (.t 12))]) .ret) .skip)) (.seq (.seq (.reg [om_ 13 0, oo_ 14 (.call 64 [(.t 13)]), oo_ 15 (.call 214 [(.t 14)]), om_ 4 15]) (.seq (.reg [om_ 16 4, oo_ 17 (.bin .gtr (.t 16) (.c (.int .i64 0)))]) (.cond (.t 17) (.seq (.reg [om_ 18 0, oo_ 19 (.nilck (.t 18)), of_ 20 1 19, ol_ 21 20, oo_ 22 (.bin .add (.t 21) (.c (.int .i64 1))), oo_ 23 (.nilck (.t 18)), of_ 24 1 23, os_ (.store 1 (.t 24) (.t 22))]) (.seq (.dreg [om_ 25 4, oo_ 26 (.load (some 4) (.t 3)), om_ 27 0, oo_ 28 (.call 213 [(.t 27)]), oo_ 29 (.bslice 35 4 2 [(.int .i64 0), (.str []), (.bool false), (.int .u64 0)] [(0, (.t 26)), (1, (.t 28))])] [oo_ 30 (.build [(.int .i64 0), (.int .i64 0), .nilS, .nilS] [(0, (1, (.c (.int .i64 1)))), (1, (1, (.t 25))), (2, (1, (.t 29)))]), os_ (.store 4 (.t 2) (.t 30))]) .ret)) .skip))) (.seq (.seq (.reg [om_ 31 0, oo_ 32 (.call 158 [(.t 31), (.c (.int .i64 1)), (.c (.str [76, 73, 75, 69]))])]) (.cond (.t 32) (.seq (.dreg [oo_ 33 (.load (some 4) (.t 3)), om_ 34 0, oo_ 35 (.call 213 [(.t 34)])] [oo_ 36 (.bslice 35 4 2 [(.int .i64 0), (.str []), (.bool false), (.int .u64 0)] [(0, (.t 33)), (1, (.t 35))]), oo_ 37 (.build [(.int .i64 0), (.int .i64 0), .nilS, .nilS] [(0, (1, (.c (.int .i64 3)))), (2, (1, (.t 36)))]), os_ (.store 4 (.t 2) (.t 37))]) .ret) .skip)) (.seq (.reg [om_ 38 0, oo_ 39 (.call 158 [(.t 38), (.c (.int .i64 1)), (.c (.str [78, 79, 84]))]), om_ 5 39]) (.seq (.reg [om_ 40 0, oo_ 41 (.call 194 [(.t 40), (.c (.int .i64 1)), (.c (.str [66, 69, 84, 87, 69, 69, 78]))])]) (.seq (.reg [om_ 42 0, oo_ 43 (.call 213 [(.t 42)]), oo_ 6 (.allc 35 [(.int .i64 0), (.str []), (.bool false), (.int .u64 0)]), os_ (.store 4 (.t 6) (.t 43))]) (.seq (.reg [om_ 44 0, oo_ 45 (.call 194 [(.t 44), (.c (.int .i64 1)), (.c (.str [65, 78, 68]))])]) (.seq (.dreg [oo_ 46 (.load (some 4) (.t 3)), oo_ 47 (.load (some 4) (.t 6)), om_ 48 0, oo_ 49 (.call 213 [(.t 48)]), oo_ 50 (.bslice 35 4 3 [(.int .i64 0), (.str []), (.bool false), (.int .u64 0)] [(0, (.t 46)), (1, (.t 47)), (2, (.t 49))]), oo_ 51 (.build [(.int .i64 0), (.int .i64 0), .nilS, .nilS] [(0, (1, (.c (.int .i64 2)))), (2, (1, (.t 50)))]), oo_ 7 (.allc 26 [(.int .i64 0), (.int .i64 0), .nilS, .nilS])] [os_ (.store 4 (.t 7) (.t 51))]) (.seq (.seq (.reg [om_ 52 5]) (.cond (.t 52) (.seq (.reg [oo_ 53 (.load (some 4) (.t 7)), oo_ 54 (.bslice 26 4 1 [(.int .i64 0), (.int .i64 0), .nilS, .nilS] [(0, (.t 53))]), oo_ 55 (.build [(.int .i64 0), (.int .i64 0), .nilS, .nilS] [(0, (1, (.c (.int .i64 4)))), (3, (1, (.t 54)))]), os_ (.store 4 (.t 2) (.t 55))]) .ret) .skip)) (.seq (.reg [oo_ 56 (.load (some 4) (.t 7)), os_ (.store 4 (.t 2) (.t 56))]) .ret))))))))))))
theorem expr_parser_test.code : comp PG [] (Tryz.f195.body.getD .skip) = expr_parser_test.c := by kernel_rfl
theorem expr_parser_test.of : OfE PG 195 1 expr_parser_test.c [(.cell 2 (some 4))] := fnE (nt := 57) mixed Tryz.func195 expr_parser_test.code (by kernel_rfl) (by kernel_rfl) (by kernel_rfl) (by kernel_rfl) (by kernel_rfl) (by kernel_rfl)
def expr_parser_operand.n : Nat := 213
noncomputable def expr_parser_operand.c : C := (.seq (.reg [oo_ 2 (.allc 35 [(.int .i64 0), (.str []), (.bool false), (.int .u64 0)])]) (.seq (.seq (.reg [om_ 5 0, oo_ 6 (.call 63 [(.t 5)])]) (.cond (.t 6) (.seq (.reg [oo_ 7 (.build [(.int .i64 0), (.str []), (.bool false), (.int .u64 0)] []), os_ (.store 4 (.t 2) (.t 7))]) .ret) .skip)) (.seq (.reg [om_ 8 0, oo_ 9 (.call 158 [(.t 8), (.c (.int .i64 5)), (.c (.str [45]))]), om_ 3 9]) (.seq (.reg [om_ 10 0, oo_ 11 (.call 64 [(.t 10)]), oo_ 4 (.allc 111 [(.int .i64 0), (.str []), (.int .u64 0), (.int .i64 0)]), os_ (.store 4 (.t 4) (.t 11))]) (.seq (.block 0 (.seq (.reg [of_ 13 0 4, ol_ 14 13, oo_ 15 (.bin .eql (.t 14) (.c (.int .i64 2))), om_ 12 15]) (.cond (.t 12) (.seq (.reg [om_ 16 0, oo_ 17 (.nilck (.t 16)), of_ 18 1 17, ol_ 19 18, oo_ 20 (.bin .add (.t 19) (.c (.int .i64 1))), oo_ 21 (.nilck (.t 16)), of_ 22 1 21, os_ (.store 1 (.t 22) (.t 20))]) (.seq (.reg [om_ 23 3, of_ 24 2 4, ol_ 25 24, oo_ 26 (.build [(.int .i64 0), (.str []), (.bool false), (.int .u64 0)] [(0, (1, (.c (.int .i64 2)))), (2, (1, (.t 23))), (3, (1, (.t 25)))]), os_ (.store 4 (.t 2) (.t 26))]) .ret)) (.seq (.reg [om_ 28 3, om_ 27 28]) (.cond (.t 27) (.seq (.reg [om_ 29 0, oo_ 30 (.call 65 [(.t 29), (.c (.int .i64 11))])]) (.seq (.reg [oo_ 31 (.build [(.int .i64 0), (.str []), (.bool false), (.int .u64 0)] []), os_ (.store 4 (.t 2) (.t 31))]) .ret)) (.seq (.reg [of_ 33 0 4, ol_ 34 33, oo_ 35 (.bin .eql (.t 34) (.c (.int .i64 3))), om_ 32 35]) (.cond (.t 32) (.seq (.reg [om_ 36 0, oo_ 37 (.nilck (.t 36)), of_ 38 1 37, ol_ 39 38, oo_ 40 (.bin .add (.t 39) (.c (.int .i64 1))), oo_ 41 (.nilck (.t 36)), of_ 42 1 41, os_ (.store 1 (.t 42) (.t 40))]) (.seq (.reg [of_ 43 1 4, ol_ 44 43, oo_ 45 (.build [(.int .i64 0), (.str []), (.bool false), (.int .u64 0)] [(0, (1, (.c (.int .i64 3)))), (1, (1, (.t 44)))]), os_ (.store 4 (.t 2) (.t 45))]) .ret)) (.seq (.reg [of_ 47 0 4, ol_ 48 47, oo_ 49 (.bin .eql (.t 48) (.c (.int .i64 4))), om_ 46 49]) (.cond (.t 46) (.seq (.reg [om_ 50 0, oo_ 51 (.nilck (.t 50)), of_ 52 1 51, ol_ 53 52, oo_ 54 (.bin .add (.t 53) (.c (.int .i64 1))), oo_ 55 (.nilck (.t 50)), of_ 56 1 55, os_ (.store 1 (.t 56) (.t 54))]) (.seq (.reg [of_ 57 2 4, ol_ 58 57, oo_ 59 (.build [(.int .i64 0), (.str []), (.bool false), (.int .u64 0)] [(0, (1, (.c (.int .i64 5)))), (3, (1, (.t 58)))]), os_ (.store 4 (.t 2) (.t 59))]) .ret)) (.seq (.reg [om_ 61 0, oo_ 62 (.call 158 [(.t 61), (.c (.int .i64 1)), (.c (.str [84, 82, 85, 69]))]), om_ 60 62]) (.cond (.t 60) (.seq (.reg [oo_ 63 (.build [(.int .i64 0), (.str []), (.bool false), (.int .u64 0)] [(0, (1, (.c (.int .i64 4)))), (3, (1, (.c (.int .u64 1))))]), os_ (.store 4 (.t 2) (.t 63))]) .ret) (.seq (.reg [om_ 65 0, oo_ 66 (.call 158 [(.t 65), (.c (.int .i64 1)), (.c (.str [70, 65, 76, 83, 69]))]), om_ 64 66]) (.cond (.t 64) (.seq (.reg [oo_ 67 (.build [(.int .i64 0), (.str []), (.bool false), (.int .u64 0)] [(0, (1, (.c (.int .i64 4))))]), os_ (.store 4 (.t 2) (.t 67))]) .ret) .skip))))))))))))) (.seq (.reg [om_ 68 0, oo_ 69 (.call 221 [(.t 68)]), oo_ 70 (.build [(.int .i64 0), (.str []), (.bool false), (.int .u64 0)] [(0, (1, (.c (.int .i64 1)))), (1, (1, (.t 69)))]), os_ (.store 4 (.t 2) (.t 70))]) .ret))))))
theorem expr_parser_operand.code : comp PG [] (Tryz.f213.body.getD .skip) = expr_parser_operand.c := by kernel_rfl
theorem expr_parser_operand.of : OfE PG 213 1 expr_parser_operand.c [(.cell 2 (some 4))] := fnE (nt := 71) mixed Tryz.func213 expr_parser_operand.code (by kernel_rfl) (by kernel_rfl) (by kernel_rfl) (by kernel_rfl) (by kernel_rfl) (by kernel_rfl)
def expr_relation.n : Nat := 214
noncomputable def expr_relation.c : C := (.seq (.reg [oo_ 1 (.box 111 (.t 0)), oo_ 2 (.mv (.c (.int .i64 0)))]) (.seq (.seq (.reg [of_ 3 0 1, ol_ 4 3, oo_ 5 (.bin .neq (.t 4) (.c (.int .i64 5)))]) (.cond (.t 5) (.seq (.reg [oo_ 2 (.mv (.c (.int .i64 0)))]) .ret) .skip)) (.seq (.seq (.reg [of_ 6 1 1, ol_ 7 6]) (.block 0 (.seq (.reg [oo_ 9 (.bin .eql (.t 7) (.c (.str [61]))), om_ 8 9]) (.cond (.t 8) (.seq (.reg [oo_ 2 (.mv (.c (.int .i64 1)))]) .ret) (.seq (.reg [oo_ 11 (.bin .eql (.t 7) (.c (.str [60, 62]))), om_ 10 11]) (.cond (.t 10) (.seq (.reg [oo_ 2 (.mv (.c (.int .i64 2)))]) .ret) (.seq (.reg [oo_ 13 (.bin .eql (.t 7) (.c (.str [60]))), om_ 12 13]) (.cond (.t 12) (.seq (.reg [oo_ 2 (.mv (.c (.int .i64 3)))]) .ret) (.seq (.reg [oo_ 15 (.bin .eql (.t 7) (.c (.str [60, 61]))), om_ 14 15]) (.cond (.t 14) (.seq (.reg [oo_ 2 (.mv (.c (.int .i64 4)))]) .ret) (.seq (.reg [oo_ 17 (.bin .eql (.t 7) (.c (.str [62]))), om_ 16 17]) (.cond (.t 16) (.seq (.reg [oo_ 2 (.mv (.c (.int .i64 5)))]) .ret) (.seq (.reg [oo_ 19 (.bin .eql (.t 7) (.c (.str [62, 61]))), om_ 18 19]) (.cond (.t 18) (.seq (.reg [oo_ 2 (.mv (.c (.int .i64 6)))]) .ret) .skip)))))))))))))) (.seq (.reg [oo_ 2 (.mv (.c (.int .i64 0)))]) .ret))))
theorem expr_relation.code : comp PG [] (Tryz.f214.body.getD .skip) = expr_relation.c := by kernel_rfl
theorem expr_relation.of : OfE PG 214 1 expr_relation.c [(.t 2)] := fnE (nt := 20) mixed Tryz.func214 expr_relation.code (by kernel_rfl) (by kernel_rfl) (by kernel_rfl) (by kernel_rfl) (by kernel_rfl) (by kernel_rfl)
def expr_parser_path.n : Nat := 221
noncomputable def expr_parser_path.c : C := (.seq (.reg [oo_ 2 (.mv (.c (.str [])))]) (.seq (.reg [oo_ 3 (.mv (.c (.str [])))]) (.seq (.seq (.reg [om_ 4 0, oo_ 5 (.call 190 [(.t 4), (.c (.int .i64 5)), (.c (.str [91]))])]) (.cond (.t 5) (.reg [om_ 6 0, oo_ 7 (.call 224 [(.t 6)]), om_ 3 7]) (.reg [om_ 8 0, oo_ 9 (.call 225 [(.t 8)]), om_ 3 9]))) (.seq (.block 0 (.loop (.seq (.seq (.reg [om_ 10 0, oo_ 11 (.call 63 [(.t 10)]), oo_ 12 (.un .not (.t 11))]) (.cond (.t 12) .skip (.exit 0))) (.block 1 (.block 2 (.seq (.reg [om_ 15 0, oo_ 16 (.call 190 [(.t 15), (.c (.int .i64 5)), (.c (.str [91]))]), om_ 14 16]) (.cond (.t 14) (.reg [om_ 17 3, om_ 18 0, oo_ 19 (.call 224 [(.t 18)]), oo_ 20 (.bin .add (.t 17) (.t 19)), om_ 3 20]) (.seq (.reg [om_ 22 0, oo_ 23 (.call 158 [(.t 22), (.c (.int .i64 5)), (.c (.str [46]))]), om_ 21 23]) (.cond (.t 21) (.reg [om_ 24 3, om_ 25 0, oo_ 26 (.call 225 [(.t 25)]), oo_ 27 (.bin .add (.c (.str [46])) (.t 26)), oo_ 28 (.bin .add (.t 24) (.t 27)), om_ 3 28]) (.seq (.reg [om_ 13 3, om_ 2 13]) .ret)))))))))) (.seq (.reg [om_ 29 3, om_ 2 29]) .ret)))))
theorem expr_parser_path.code : comp PG [] (Tryz.f221.body.getD .skip) = expr_parser_path.c := by kernel_rfl
theorem expr_parser_path.of : OfE PG 221 1 expr_parser_path.c [(.t 2)] := fnE (nt := 30) mixed Tryz.func221 expr_parser_path.code (by kernel_rfl) (by kernel_rfl) (by kernel_rfl) (by kernel_rfl) (by kernel_rfl) (by kernel_rfl)
def expr_parser_elem.n : Nat := 224
noncomputable def expr_parser_elem.c : C := (.seq (.reg [oo_ 2 (.mv (.c (.str [])))]) (.seq (.reg [om_ 4 0, oo_ 5 (.call 194 [(.t 4), (.c (.int .i64 5)), (.c (.str [91]))])]) (.seq (.reg [om_ 6 0, oo_ 7 (.call 64 [(.t 6)]), oo_ 3 (.allc 111 [(.int .i64 0), (.str []), (.int .u64 0), (.int .i64 0)]), os_ (.store 4 (.t 3) (.t 7))]) (.seq (.seq (.reg [of_ 8 0 3, ol_ 9 8, oo_ 10 (.bin .neq (.t 9) (.c (.int .i64 2)))]) (.cond (.t 10) (.seq (.reg [om_ 11 0, oo_ 12 (.call 65 [(.t 11), (.c (.int .i64 11))])]) (.seq (.reg [oo_ 2 (.mv (.c (.str [])))]) .ret)) .skip)) (.seq (.reg [om_ 13 0, oo_ 14 (.nilck (.t 13)), of_ 15 1 14, ol_ 16 15, oo_ 17 (.bin .add (.t 16) (.c (.int .i64 1))), oo_ 18 (.nilck (.t 13)), of_ 19 1 18, os_ (.store 1 (.t 19) (.t 17))]) (.seq (.reg [om_ 20 0, oo_ 21 (.call 194 [(.t 20), (.c (.int .i64 5)), (.c (.str [93]))])]) (.seq (.reg [of_ 22 1 3, ol_ 23 22, oo_ 24 (.bin .add (.c (.str [91])) (.t 23)), oo_ 25 (.bin .add (.t 24) (.c (.str [93]))), om_ 2 25]) .ret)))))))
theorem expr_parser_elem.code : comp PG [] (Tryz.f224.body.getD .skip) = expr_parser_elem.c := by kernel_rfl
theorem expr_parser_elem.of : OfE PG 224 1 expr_parser_elem.c [(.t 2)] := fnE (nt := 26) mixed Tryz.func224 expr_parser_elem.code (by kernel_rfl) (by kernel_rfl) (by kernel_rfl) (by kernel_rfl) (by kernel_rfl) (by kernel_rfl)
def expr_parser_name.n : Nat := 225
noncomputable def expr_parser_name.c : C := (.seq (.reg [oo_ 2 (.mv (.c (.str [])))]) (.seq (.reg [om_ 4 0, oo_ 5 (.call 64 [(.t 4)]), oo_ 3 (.allc 111 [(.int .i64 0), (.str []), (.int .u64 0), (.int .i64 0)]), os_ (.store 4 (.t 3) (.t 5))]) (.seq (.seq (.reg [om_ 6 0, oo_ 7 (.call 63 [(.t 6)]), om_ 8 7, og_ 9 8 false (.faddr 0 (.t 3)), og_ 10 8 false (.load none (.t 9)), og_ 11 8 false (.bin .neq (.t 10) (.c (.int .i64 1))), oo_ 12 (.pick (.t 8) (.c (.bool true)) (.t 11)), om_ 13 12, og_ 14 13 false (.faddr 1 (.t 3)), og_ 15 13 false (.load none (.t 14)), og_ 16 13 false (.call 160 [(.t 15)]), oo_ 17 (.pick (.t 13) (.c (.bool true)) (.t 16))]) (.cond (.t 17) (.seq (.reg [om_ 18 0, oo_ 19 (.call 65 [(.t 18), (.c (.int .i64 11))])]) (.seq (.reg [oo_ 2 (.mv (.c (.str [])))]) .ret)) .skip)) (.seq (.reg [om_ 20 0, oo_ 21 (.nilck (.t 20)), of_ 22 1 21, ol_ 23 22, oo_ 24 (.bin .add (.t 23) (.c (.int .i64 1))), oo_ 25 (.nilck (.t 20)), of_ 26 1 25, os_ (.store 1 (.t 26) (.t 24))]) (.seq (.reg [of_ 27 1 3, ol_ 28 27, om_ 2 28]) .ret)))))
theorem expr_parser_name.code : comp PG [] (Tryz.f225.body.getD .skip) = expr_parser_name.c := by kernel_rfl
theorem expr_parser_name.of : OfE PG 225 1 expr_parser_name.c [(.t 2)] := fnE (nt := 29) mixed Tryz.func225 expr_parser_name.code (by kernel_rfl) (by kernel_rfl) (by kernel_rfl) (by kernel_rfl) (by kernel_rfl) (by kernel_rfl)
end Go.Proofs.YtjaigpidmngaaaaGreat

namespace Go.Proofs.YtjaigpidmngaaaaGreat
set_option maxRecDepth 100000
def broadsheetlaw06_Great.n : Nat := 11
noncomputable def broadsheetlaw06_Great.c : C := (.seq (.reg [oo_ 2 (.mv (.c (.bool false)))]) (.seq (.reg [oo_ 3 (.mv (.c (.int .i64 0)))]) (.seq (.seq (.reg [oo_ 4 (.mv (.c (.int .i64 0)))]) (.block 0 (.loop (.seq (.seq (.reg [om_ 5 4, om_ 6 0, oo_ 7 (.len false (.t 6)), oo_ 8 (.bin .lss (.t 5) (.t 7))]) (.cond (.t 8) .skip (.exit 0))) (.seq (.block 1 (.reg [om_ 11 3, om_ 12 0, om_ 13 4, oo_ 14 (.iaddr 6 (.t 12) (.t 13)), of_ 15 5 14, ol_ 16 15, oo_ 17 (.len false (.t 16)), oo_ 18 (.bin .add (.t 11) (.t 17)), oo_ 19 (.mm false [(.t 18), (.c (.int .i64 1048576))]), om_ 3 19])) (.reg [om_ 9 4, oo_ 10 (.bin .add (.t 9) (.c (.int .i64 1))), om_ 4 10])))))) (.seq (.reg [om_ 20 0, oo_ 21 (.len false (.t 20)), oo_ 22 (.bin .gtr (.t 21) (.c (.int .i64 100))), om_ 23 22, og_ 24 23 false (.mv (.t 3)), og_ 25 23 false (.bin .gtr (.t 24) (.c (.int .i64 800))), oo_ 26 (.pick (.t 23) (.c (.bool true)) (.t 25)), om_ 2 26]) .ret))))
theorem broadsheetlaw06_Great.code : comp PG [] (Tryz.f11.body.getD .skip) = broadsheetlaw06_Great.c := by kernel_rfl
theorem broadsheetlaw06_Great.of : OfE PG 11 1 broadsheetlaw06_Great.c [(.t 2)] := fnE (nt := 27) mixed Tryz.func11 broadsheetlaw06_Great.code (by kernel_rfl) (by kernel_rfl) (by kernel_rfl) (by kernel_rfl) (by kernel_rfl) (by kernel_rfl)
def types_Check.n : Nat := 37
noncomputable def types_Check.c : C := (.seq (.reg [oo_ 2 (.allc 72 [(.int .i64 0), (.int .i64 0)])]) (.seq (.seq (.reg [om_ 9 0, oo_ 10 (.len false (.t 9)), oo_ 11 (.bin .gtr (.t 10) (.c (.int .i64 32)))]) (.cond (.t 11) (.seq (.reg [oo_ 12 (.build [(.int .i64 0), (.int .i64 0)] [(0, (1, (.c (.int .i64 3)))), (1, (1, (.c (.int .i64 32))))]), os_ (.store 2 (.t 2) (.t 12))]) .ret) .skip)) (.seq (.seq (.reg [om_ 13 0, oo_ 14 (.len false (.t 13)), oo_ 15 (.mv (.c (.int .i64 0)))]) (.block 0 (.loop (.seq (.reg [oo_ 16 (.bin .lss (.t 15) (.t 14))]) (.seq (.cond (.t 16) .skip (.exit 0)) (.seq (.block 1 (.seq (.reg [om_ 17 15, oo_ 18 (.iaddr 6 (.t 13) (.t 15)), oo_ 19 (.load (some 6) (.t 18)), oo_ 4 (.allc 67 [(.int .i64 0), (.str []), (.int .i64 0), (.int .i64 0), (.int .i64 0), .nilS]), om_ 3 17, os_ (.store 6 (.t 4) (.t 19))]) (.seq (.reg [om_ 20 0, om_ 21 3, oo_ 22 (.load (some 6) (.t 4)), oo_ 23 (.build [.nilS, (.int .i64 0), (.int .i64 0), (.str []), (.int .i64 0), (.int .i64 0), (.int .i64 0), .nilS] [(0, (1, (.t 20))), (1, (1, (.t 21))), (2, (6, (.t 22)))]), oo_ 24 (.box 116 (.t 23)), om_ 5 24]) (.seq (.reg [om_ 25 5, oo_ 26 (.mkfn 66 [(.t 25)] []), om_ 27 5, oo_ 28 (.mkfn 67 [(.t 27)] []), om_ 29 5, oo_ 30 (.mkfn 68 [(.t 29)] []), om_ 31 5, oo_ 32 (.mkfn 69 [(.t 31)] []), om_ 33 5, oo_ 34 (.mkfn 70 [(.t 33)] []), om_ 35 5, oo_ 36 (.mkfn 71 [(.t 35)] []), oo_ 37 (.bslice 117 1 6 [.nilF] [(0, (.t 26)), (1, (.t 28)), (2, (.t 30)), (3, (.t 32)), (4, (.t 34)), (5, (.t 36))]), oo_ 38 (.len false (.t 37)), oo_ 39 (.mv (.c (.int .i64 0)))]) (.block 2 (.loop (.seq (.reg [oo_ 40 (.bin .lss (.t 39) (.t 38))]) (.seq (.cond (.t 40) .skip (.exit 2)) (.seq (.block 3 (.seq (.reg [oo_ 41 (.iaddr 1 (.t 37) (.t 39)), ol_ 42 41, om_ 7 42]) (.seq (.reg [om_ 43 7, oo_ 44 (.callv (.t 43) []), om_ 8 44]) (.seq (.reg [om_ 45 8, oo_ 46 (.bin .neq (.t 45) (.c (.int .i64 0)))]) (.cond (.t 46) (.seq (.reg [om_ 47 8, om_ 48 3, oo_ 49 (.build [(.int .i64 0), (.int .i64 0)] [(0, (1, (.t 47))), (1, (1, (.t 48)))]), os_ (.store 2 (.t 2) (.t 49))]) .ret) .skip))))) (.reg [oo_ 50 (.bin .add (.t 39) (.c (.int .i64 1))), om_ 39 50])))))))))) (.reg [oo_ 51 (.bin .add (.t 15) (.c (.int .i64 1))), om_ 15 51]))))))) (.seq (.reg [oo_ 52 (.build [(.int .i64 0), (.int .i64 0)] []), os_ (.store 2 (.t 2) (.t 52))]) .ret))))
theorem types_Check.code : comp PG [] (Tryz.f37.body.getD .skip) = types_Check.c := by kernel_rfl
theorem types_Check.of : OfE PG 37 1 types_Check.c [(.cell 2 (some 2))] := fnE (nt := 53) mixed Tryz.func37 types_Check.code (by kernel_rfl) (by kernel_rfl) (by kernel_rfl) (by kernel_rfl) (by kernel_rfl) (by kernel_rfl)
def broadsheetref06_Check.n : Nat := 39
noncomputable def broadsheetref06_Check.c : C := (.seq (.reg [oo_ 2 (.allc 72 [(.int .i64 0), (.int .i64 0)])]) (.seq (.seq (.reg [om_ 5 0, oo_ 6 (.len false (.t 5)), oo_ 7 (.bin .gtr (.t 6) (.c (.int .i64 32)))]) (.cond (.t 7) (.seq (.reg [oo_ 8 (.build [(.int .i64 0), (.int .i64 0)] [(0, (1, (.c (.int .i64 3)))), (1, (1, (.c (.int .i64 32))))]), os_ (.store 2 (.t 2) (.t 8))]) .ret) .skip)) (.seq (.seq (.reg [oo_ 3 (.mv (.c (.int .i64 0)))]) (.block 0 (.loop (.seq (.seq (.reg [om_ 9 3, om_ 10 0, oo_ 11 (.len false (.t 10)), oo_ 12 (.bin .lss (.t 9) (.t 11))]) (.cond (.t 12) .skip (.exit 0))) (.seq (.block 1 (.seq (.reg [om_ 15 0, om_ 16 3, oo_ 17 (.call 75 [(.t 15), (.t 16)]), om_ 4 17]) (.seq (.reg [om_ 18 4, oo_ 19 (.bin .neq (.t 18) (.c (.int .i64 0)))]) (.cond (.t 19) (.seq (.reg [om_ 20 4, om_ 21 3, oo_ 22 (.build [(.int .i64 0), (.int .i64 0)] [(0, (1, (.t 20))), (1, (1, (.t 21)))]), os_ (.store 2 (.t 2) (.t 22))]) .ret) .skip)))) (.reg [om_ 13 3, oo_ 14 (.bin .add (.t 13) (.c (.int .i64 1))), om_ 3 14])))))) (.seq (.reg [oo_ 23 (.build [(.int .i64 0), (.int .i64 0)] []), os_ (.store 2 (.t 2) (.t 23))]) .ret))))
theorem broadsheetref06_Check.code : comp PG [] (Tryz.f39.body.getD .skip) = broadsheetref06_Check.c := by kernel_rfl
theorem broadsheetref06_Check.of : OfE PG 39 1 broadsheetref06_Check.c [(.cell 2 (some 2))] := fnE (nt := 24) mixed Tryz.func39 broadsheetref06_Check.code (by kernel_rfl) (by kernel_rfl) (by kernel_rfl) (by kernel_rfl) (by kernel_rfl) (by kernel_rfl)
def types_Item.n : Nat := 42
noncomputable def types_Item.c : C := (.seq (.reg [oo_ 5 (.box 9 (.t 2)), oo_ 6 (.mv (.c (.int .i64 0))), oo_ 7 (.mv (.c (.bool false)))]) (.seq (.reg [om_ 8 0, om_ 9 1, oo_ 10 (.mkfn 81 [] [(.t 5)]), oo_ 11 (.call 78 [(.t 8), (.t 9), (.c (.clo 79 [] [])), (.t 10)]), oo_ 12 (.extr (.t 11) 0), oo_ 13 (.extr (.t 11) 1), om_ 6 12, om_ 7 13]) .ret))
theorem types_Item.code : comp PG [] (Tryz.f42.body.getD .skip) = types_Item.c := by kernel_rfl
theorem types_Item.of : OfE PG 42 3 types_Item.c [(.t 6), (.t 7)] := fnE (nt := 14) mixed Tryz.func42 types_Item.code (by kernel_rfl) (by kernel_rfl) (by kernel_rfl) (by kernel_rfl) (by kernel_rfl) (by kernel_rfl)
def prim_Datum.n : Nat := 43
noncomputable def prim_Datum.c : C := (.seq (.reg [oo_ 4 (.allc 38 [(.int .i64 0), (.bool false), (.int .u64 0), (.str [])])]) (.seq (.reg [om_ 5 0, om_ 6 1, oo_ 7 (.call 82 [(.t 5), (.t 6)]), om_ 1 7]) (.seq (.block 0 (.seq (.reg [om_ 9 0, oo_ 10 (.call 77 [(.t 9)]), oo_ 11 (.un .not (.t 10)), om_ 8 11]) (.cond (.t 8) (.seq (.reg [oo_ 12 (.build [(.int .i64 0), (.bool false), (.int .u64 0), (.str [])] []), os_ (.store 4 (.t 4) (.t 12))]) .ret) (.seq (.reg [om_ 14 0, oo_ 15 (.bin .eql (.t 14) (.c (.int .i64 1))), om_ 13 15]) (.cond (.t 13) (.seq (.reg [om_ 16 1, oo_ 17 (.bin .and (.t 16) (.c (.int .u64 1))), oo_ 18 (.build [(.int .i64 0), (.bool false), (.int .u64 0), (.str [])] [(0, (1, (.c (.int .i64 3)))), (2, (1, (.t 17)))]), os_ (.store 4 (.t 4) (.t 18))]) .ret) (.seq (.reg [om_ 20 0, oo_ 21 (.call 83 [(.t 20)]), om_ 22 21, og_ 23 22 true (.mv (.t 1)), og_ 24 22 true (.conv .i64 (.t 23)), og_ 25 22 true (.bin .lss (.t 24) (.c (.int .i64 0))), oo_ 26 (.pick (.t 22) (.t 25) (.c (.bool false))), om_ 19 26]) (.cond (.t 19) (.seq (.reg [om_ 27 1, oo_ 28 (.un .neg (.t 27)), oo_ 29 (.build [(.int .i64 0), (.bool false), (.int .u64 0), (.str [])] [(0, (1, (.c (.int .i64 1)))), (1, (1, (.c (.bool true)))), (2, (1, (.t 28)))]), os_ (.store 4 (.t 4) (.t 29))]) .ret) .skip))))))) (.seq (.reg [om_ 30 1, oo_ 31 (.build [(.int .i64 0), (.bool false), (.int .u64 0), (.str [])] [(0, (1, (.c (.int .i64 1)))), (2, (1, (.t 30)))]), os_ (.store 4 (.t 4) (.t 31))]) .ret))))
theorem prim_Datum.code : comp PG [] (Tryz.f43.body.getD .skip) = prim_Datum.c := by kernel_rfl
theorem prim_Datum.of : OfE PG 43 2 prim_Datum.c [(.cell 4 (some 4))] := fnE (nt := 32) mixed Tryz.func43 prim_Datum.code (by kernel_rfl) (by kernel_rfl) (by kernel_rfl) (by kernel_rfl) (by kernel_rfl) (by kernel_rfl)
def broadsheetref06_Item.n : Nat := 45
noncomputable def broadsheetref06_Item.c : C := (.seq (.reg [oo_ 6 (.mv (.c (.int .i64 0)))]) (.seq (.seq (.reg [om_ 8 1, oo_ 9 (.bin .lss (.t 8) (.c (.int .i64 0))), om_ 10 9, og_ 11 10 false (.mv (.t 1)), og_ 12 10 false (.mv (.t 0)), og_ 13 10 false (.len false (.t 12)), og_ 14 10 false (.bin .geq (.t 11) (.t 13)), oo_ 15 (.pick (.t 10) (.c (.bool true)) (.t 14)), om_ 16 15, og_ 17 16 false (.mv (.t 0)), og_ 18 16 false (.mv (.t 1)), og_ 19 16 false (.iaddr 6 (.t 17) (.t 18)), og_ 20 16 false (.faddr 0 (.t 19)), og_ 21 16 false (.load none (.t 20)), og_ 22 16 false (.call 85 [(.t 21)]), og_ 23 16 false (.un .not (.t 22)), oo_ 24 (.pick (.t 16) (.c (.bool true)) (.t 23))]) (.cond (.t 24) (.seq (.reg [oo_ 6 (.mv (.c (.int .i64 (-1))))]) .ret) .skip)) (.seq (.seq (.reg [oo_ 7 (.mv (.c (.int .i64 0)))]) (.block 0 (.loop (.seq (.seq (.reg [om_ 25 7, om_ 26 0, om_ 27 1, oo_ 28 (.iaddr 6 (.t 26) (.t 27)), of_ 29 5 28, ol_ 30 29, oo_ 31 (.len false (.t 30)), oo_ 32 (.bin .lss (.t 25) (.t 31))]) (.cond (.t 32) .skip (.exit 0))) (.seq (.block 1 (.seq (.reg [om_ 35 0, om_ 36 1, oo_ 37 (.iaddr 6 (.t 35) (.t 36)), of_ 38 5 37, ol_ 39 38, om_ 40 7, oo_ 41 (.iaddr 5 (.t 39) (.t 40)), of_ 42 0 41, ol_ 43 42, om_ 44 2, oo_ 45 (.bin .eql (.t 43) (.t 44))]) (.cond (.t 45) (.seq (.reg [om_ 46 7, om_ 6 46]) .ret) .skip))) (.reg [om_ 33 7, oo_ 34 (.bin .add (.t 33) (.c (.int .i64 1))), om_ 7 34])))))) (.seq (.reg [oo_ 6 (.mv (.c (.int .i64 (-1))))]) .ret))))
theorem broadsheetref06_Item.code : comp PG [] (Tryz.f45.body.getD .skip) = broadsheetref06_Item.c := by kernel_rfl
theorem broadsheetref06_Item.of : OfE PG 45 3 broadsheetref06_Item.c [(.t 6)] := fnE (nt := 47) mixed Tryz.func45 broadsheetref06_Item.code (by kernel_rfl) (by kernel_rfl) (by kernel_rfl) (by kernel_rfl) (by kernel_rfl) (by kernel_rfl)
def broadsheetref05_Datum.n : Nat := 46
noncomputable def broadsheetref05_Datum.c : C := (.seq (.reg [oo_ 4 (.allc 38 [(.int .i64 0), (.bool false), (.int .u64 0), (.str [])])]) (.seq (.seq (.reg [om_ 6 0, oo_ 7 (.call 84 [(.t 6)]), oo_ 8 (.un .not (.t 7))]) (.cond (.t 8) (.seq (.reg [oo_ 9 (.build [(.int .i64 0), (.bool false), (.int .u64 0), (.str [])] []), os_ (.store 4 (.t 4) (.t 9))]) .ret) .skip)) (.seq (.seq (.reg [om_ 10 0, oo_ 11 (.bin .eql (.t 10) (.c (.int .i64 1)))]) (.cond (.t 11) (.seq (.reg [om_ 12 1, oo_ 13 (.bin .rem (.t 12) (.c (.int .u64 2))), oo_ 14 (.build [(.int .i64 0), (.bool false), (.int .u64 0), (.str [])] [(0, (1, (.c (.int .i64 3)))), (2, (1, (.t 13)))]), os_ (.store 4 (.t 4) (.t 14))]) .ret) .skip)) (.seq (.seq (.reg [om_ 15 0, oo_ 16 (.call 86 [(.t 15)]), oo_ 17 (.un .not (.t 16))]) (.cond (.t 17) (.seq (.reg [om_ 18 0, om_ 19 1, oo_ 20 (.call 87 [(.t 18), (.t 19)]), oo_ 21 (.build [(.int .i64 0), (.bool false), (.int .u64 0), (.str [])] [(0, (1, (.c (.int .i64 1)))), (2, (1, (.t 20)))]), os_ (.store 4 (.t 4) (.t 21))]) .ret) .skip)) (.seq (.reg [om_ 22 1, om_ 23 0, oo_ 24 (.call 89 [(.t 23)]), oo_ 25 (.call 88 [(.t 22), (.t 24)]), om_ 5 25]) (.seq (.seq (.reg [om_ 26 5, oo_ 27 (.bin .lss (.t 26) (.c (.int .i64 0)))]) (.cond (.t 27) (.seq (.reg [om_ 28 5, oo_ 29 (.bin .add (.t 28) (.c (.int .i64 1))), oo_ 30 (.un .neg (.t 29)), oo_ 31 (.conv .u64 (.t 30)), oo_ 32 (.bin .add (.t 31) (.c (.int .u64 1))), oo_ 33 (.build [(.int .i64 0), (.bool false), (.int .u64 0), (.str [])] [(0, (1, (.c (.int .i64 1)))), (1, (1, (.c (.bool true)))), (2, (1, (.t 32)))]), os_ (.store 4 (.t 4) (.t 33))]) .ret) .skip)) (.seq (.reg [om_ 34 5, oo_ 35 (.conv .u64 (.t 34)), oo_ 36 (.build [(.int .i64 0), (.bool false), (.int .u64 0), (.str [])] [(0, (1, (.c (.int .i64 1)))), (2, (1, (.t 35)))]), os_ (.store 4 (.t 4) (.t 36))]) .ret)))))))
theorem broadsheetref05_Datum.code : comp PG [] (Tryz.f46.body.getD .skip) = broadsheetref05_Datum.c := by kernel_rfl
theorem broadsheetref05_Datum.of : OfE PG 46 2 broadsheetref05_Datum.c [(.cell 4 (some 4))] := fnE (nt := 37) mixed Tryz.func46 broadsheetref05_Datum.code (by kernel_rfl) (by kernel_rfl) (by kernel_rfl) (by kernel_rfl) (by kernel_rfl) (by kernel_rfl)
def types_look_form.n : Nat := 66
noncomputable def types_look_form.c : C := (.seq (.reg [oo_ 2 (.mv (.c (.int .i64 0)))]) (.seq (.reg [om_ 10 0, oo_ 11 (.nilck (.t 10)), of_ 12 2 11, oo_ 13 (.load (some 6) (.t 12)), oo_ 3 (.allc 67 [(.int .i64 0), (.str []), (.int .i64 0), (.int .i64 0), (.int .i64 0), .nilS]), os_ (.store 6 (.t 3) (.t 13))]) (.seq (.seq (.reg [of_ 14 0 3, ol_ 15 14, oo_ 16 (.bin .lss (.t 15) (.c (.int .i64 1))), om_ 17 16, og_ 18 17 false (.faddr 0 (.t 3)), og_ 19 17 false (.load none (.t 18)), og_ 20 17 false (.bin .gtr (.t 19) (.c (.int .i64 14))), oo_ 21 (.pick (.t 17) (.c (.bool true)) (.t 20))]) (.cond (.t 21) (.seq (.reg [oo_ 2 (.mv (.c (.int .i64 4)))]) .ret) .skip)) (.seq (.reg [of_ 23 0 3, ol_ 24 23, oo_ 25 (.call 80 [(.t 24)]), om_ 22 25, oo_ 26 (.extr (.t 22) 0), oo_ 27 (.extr (.t 22) 1), oo_ 28 (.extr (.t 22) 2), oo_ 29 (.extr (.t 22) 3), om_ 4 26, om_ 5 27, om_ 6 28, om_ 7 29]) (.seq (.seq (.reg [om_ 30 4, oo_ 31 (.un .not (.t 30)), om_ 32 31, og_ 33 32 true (.faddr 1 (.t 3)), og_ 34 32 true (.load none (.t 33)), og_ 35 32 true (.bin .neq (.t 34) (.c (.str []))), og_ 36 32 true (.mv (.t 35)), og_ 37 36 false (.faddr 5 (.t 3)), og_ 38 36 false (.load none (.t 37)), og_ 39 36 false (.len false (.t 38)), og_ 40 36 false (.bin .gtr (.t 39) (.c (.int .i64 0))), og_ 41 32 true (.pick (.t 36) (.c (.bool true)) (.t 40)), oo_ 42 (.pick (.t 32) (.t 41) (.c (.bool false))), om_ 43 42, og_ 44 43 false (.mv (.t 5)), og_ 45 43 false (.un .not (.t 44)), og_ 46 43 false (.mv (.t 45)), og_ 47 46 true (.faddr 2 (.t 3)), og_ 48 46 true (.load none (.t 47)), og_ 49 46 true (.bin .neq (.t 48) (.c (.int .i64 0))), og_ 50 43 false (.pick (.t 46) (.t 49) (.c (.bool false))), oo_ 51 (.pick (.t 43) (.c (.bool true)) (.t 50)), om_ 52 51, og_ 53 52 false (.mv (.t 6)), og_ 54 52 false (.un .not (.t 53)), og_ 55 52 false (.mv (.t 54)), og_ 56 55 true (.faddr 3 (.t 3)), og_ 57 55 true (.load none (.t 56)), og_ 58 55 true (.bin .neq (.t 57) (.c (.int .i64 0))), og_ 59 52 false (.pick (.t 55) (.t 58) (.c (.bool false))), oo_ 60 (.pick (.t 52) (.c (.bool true)) (.t 59)), om_ 61 60, og_ 62 61 false (.mv (.t 7)), og_ 63 61 false (.un .not (.t 62)), og_ 64 61 false (.mv (.t 63)), og_ 65 64 true (.faddr 4 (.t 3)), og_ 66 64 true (.load none (.t 65)), og_ 67 64 true (.bin .neq (.t 66) (.c (.int .i64 0))), og_ 68 61 false (.pick (.t 64) (.t 67) (.c (.bool false))), oo_ 69 (.pick (.t 61) (.c (.bool true)) (.t 68))]) (.cond (.t 69) (.seq (.reg [oo_ 2 (.mv (.c (.int .i64 1)))]) .ret) .skip)) (.seq (.seq (.reg [of_ 70 5 3, ol_ 71 70, oo_ 72 (.len false (.t 71)), oo_ 73 (.mv (.c (.int .i64 0)))]) (.block 0 (.loop (.seq (.reg [oo_ 74 (.bin .lss (.t 73) (.t 72))]) (.seq (.cond (.t 74) .skip (.exit 0)) (.seq (.block 1 (.seq (.reg [oo_ 75 (.iaddr 5 (.t 71) (.t 73)), oo_ 76 (.load (some 5) (.t 75)), oo_ 9 (.allc 70 [(.str []), (.int .u64 0), (.int .i64 0), (.bool false), (.bool false)]), os_ (.store 5 (.t 9) (.t 76))]) (.seq (.reg [of_ 77 0 3, ol_ 78 77, oo_ 79 (.bin .eql (.t 78) (.c (.int .i64 9))), om_ 80 79, og_ 81 80 true (.faddr 2 (.t 9)), og_ 82 80 true (.load none (.t 81)), og_ 83 80 true (.bin .neq (.t 82) (.c (.int .i64 0))), oo_ 84 (.pick (.t 80) (.t 83) (.c (.bool false))), om_ 85 84, og_ 86 85 false (.faddr 0 (.t 3)), og_ 87 85 false (.load none (.t 86)), og_ 88 85 false (.bin .neq (.t 87) (.c (.int .i64 13))), og_ 89 85 false (.mv (.t 88)), og_ 90 89 true (.faddr 3 (.t 9)), og_ 91 89 true (.load none (.t 90)), og_ 92 85 false (.pick (.t 89) (.t 91) (.c (.bool false))), oo_ 93 (.pick (.t 85) (.c (.bool true)) (.t 92)), om_ 94 93, og_ 95 94 false (.faddr 0 (.t 3)), og_ 96 94 false (.load none (.t 95)), og_ 97 94 false (.bin .neq (.t 96) (.c (.int .i64 14))), og_ 98 94 false (.mv (.t 97)), og_ 99 98 true (.faddr 4 (.t 9)), og_ 100 98 true (.load none (.t 99)), og_ 101 94 false (.pick (.t 98) (.t 100) (.c (.bool false))), oo_ 102 (.pick (.t 94) (.c (.bool true)) (.t 101)), om_ 103 102, og_ 104 103 false (.faddr 0 (.t 3)), og_ 105 103 false (.load none (.t 104)), og_ 106 103 false (.bin .eql (.t 105) (.c (.int .i64 13))), og_ 107 103 false (.mv (.t 106)), og_ 108 107 false (.faddr 4 (.t 9)), og_ 109 107 false (.load none (.t 108)), og_ 110 103 false (.pick (.t 107) (.c (.bool true)) (.t 109)), og_ 111 103 false (.mv (.t 110)), og_ 112 111 true (.faddr 1 (.t 9)), og_ 113 111 true (.load none (.t 112)), og_ 114 111 true (.bin .neq (.t 113) (.c (.int .u64 0))), og_ 115 103 false (.pick (.t 111) (.t 114) (.c (.bool false))), oo_ 116 (.pick (.t 103) (.c (.bool true)) (.t 115))]) (.cond (.t 116) (.seq (.reg [oo_ 2 (.mv (.c (.int .i64 1)))]) .ret) .skip)))) (.reg [oo_ 117 (.bin .add (.t 73) (.c (.int .i64 1))), om_ 73 117]))))))) (.seq (.reg [oo_ 2 (.mv (.c (.int .i64 0)))]) .ret)))))))
theorem types_look_form.code : comp PG [] (Tryz.f66.body.getD .skip) = types_look_form.c := by kernel_rfl
theorem types_look_form.of : OfE PG 66 1 types_look_form.c [(.t 2)] := fnE (nt := 118) mixed Tryz.func66 types_look_form.code (by kernel_rfl) (by kernel_rfl) (by kernel_rfl) (by kernel_rfl) (by kernel_rfl) (by kernel_rfl)
def types_look_named.n : Nat := 67
noncomputable def types_look_named.c : C := (.seq (.reg [oo_ 2 (.mv (.c (.int .i64 0)))]) (.seq (.seq (.reg [om_ 10 0, oo_ 11 (.nilck (.t 10)), of_ 12 2 11, of_ 13 0 12, ol_ 14 13, oo_ 15 (.call 80 [(.t 14)]), om_ 9 15, oo_ 16 (.extr (.t 9) 0), oo_ 17 (.extr (.t 9) 1), oo_ 18 (.extr (.t 9) 2), oo_ 19 (.extr (.t 9) 3), om_ 3 16, om_ 4 17, om_ 5 18, om_ 6 19]) (.seq (.reg [om_ 20 3, oo_ 21 (.un .not (.t 20))]) (.cond (.t 21) (.seq (.reg [oo_ 2 (.mv (.c (.int .i64 0)))]) .ret) .skip))) (.seq (.seq (.reg [om_ 22 0, oo_ 23 (.nilck (.t 22)), of_ 24 2 23, of_ 25 1 24, ol_ 26 25, oo_ 27 (.call 118 [(.t 26)]), oo_ 28 (.un .not (.t 27))]) (.cond (.t 28) (.seq (.reg [oo_ 2 (.mv (.c (.int .i64 5)))]) .ret) .skip)) (.seq (.seq (.dreg [om_ 29 0, oo_ 30 (.nilck (.t 29)), of_ 31 0 30, ol_ 32 31, om_ 33 0, oo_ 34 (.nilck (.t 33)), of_ 35 1 34, ol_ 36 35, oo_ 37 (.slice (some 6) (.t 32) none (some (.t 36))), oo_ 38 (.len false (.t 37)), oo_ 39 (.mv (.c (.int .i64 0)))] []) (.block 0 (.loop (.seq (.reg [oo_ 40 (.bin .lss (.t 39) (.t 38))]) (.seq (.cond (.t 40) .skip (.exit 0)) (.seq (.block 1 (.seq (.reg [oo_ 41 (.iaddr 6 (.t 37) (.t 39)), oo_ 42 (.load (some 6) (.t 41)), oo_ 8 (.allc 67 [(.int .i64 0), (.str []), (.int .i64 0), (.int .i64 0), (.int .i64 0), .nilS]), os_ (.store 6 (.t 8) (.t 42))]) (.seq (.dreg [of_ 43 1 8, ol_ 44 43, om_ 45 0, oo_ 46 (.nilck (.t 45)), of_ 47 2 46, of_ 48 1 47, ol_ 49 48] [oo_ 50 (.bin .eql (.t 44) (.t 49))]) (.cond (.t 50) (.seq (.reg [oo_ 2 (.mv (.c (.int .i64 6)))]) .ret) .skip)))) (.reg [oo_ 51 (.bin .add (.t 39) (.c (.int .i64 1))), om_ 39 51]))))))) (.seq (.reg [oo_ 2 (.mv (.c (.int .i64 0)))]) .ret)))))
theorem types_look_named.code : comp PG [] (Tryz.f67.body.getD .skip) = types_look_named.c := by kernel_rfl
theorem types_look_named.of : OfE PG 67 1 types_look_named.c [(.t 2)] := fnE (nt := 52) mixed Tryz.func67 types_look_named.code (by kernel_rfl) (by kernel_rfl) (by kernel_rfl) (by kernel_rfl) (by kernel_rfl) (by kernel_rfl)
def types_look_bound.n : Nat := 68
noncomputable def types_look_bound.c : C := (.seq (.reg [oo_ 2 (.mv (.c (.int .i64 0)))]) (.seq (.reg [om_ 8 0, oo_ 9 (.nilck (.t 8)), of_ 10 2 9, of_ 11 0 10, ol_ 12 11, oo_ 13 (.call 80 [(.t 12)]), om_ 7 13, oo_ 14 (.extr (.t 7) 0), oo_ 15 (.extr (.t 7) 1), oo_ 16 (.extr (.t 7) 2), oo_ 17 (.extr (.t 7) 3), om_ 3 14, om_ 4 15, om_ 5 16, om_ 6 17]) (.seq (.seq (.reg [om_ 18 4, om_ 19 18, og_ 20 19 true (.mv (.t 0)), og_ 21 19 true (.nilck (.t 20)), og_ 22 19 true (.faddr 2 (.t 21)), og_ 23 19 true (.faddr 2 (.t 22)), og_ 24 19 true (.load none (.t 23)), og_ 25 19 true (.bin .gtr (.t 24) (.c (.int .i64 64))), og_ 26 19 true (.mv (.t 25)), og_ 27 26 false (.mv (.t 0)), og_ 28 26 false (.nilck (.t 27)), og_ 29 26 false (.faddr 2 (.t 28)), og_ 30 26 false (.faddr 2 (.t 29)), og_ 31 26 false (.load none (.t 30)), og_ 32 26 false (.bin .lss (.t 31) (.c (.int .i64 0))), og_ 33 19 true (.pick (.t 26) (.c (.bool true)) (.t 32)), og_ 34 19 true (.mv (.t 33)), og_ 35 34 false (.mv (.t 5)), og_ 36 34 false (.mv (.t 35)), og_ 37 36 true (.mv (.t 0)), og_ 38 36 true (.nilck (.t 37)), og_ 39 36 true (.faddr 2 (.t 38)), og_ 40 36 true (.faddr 2 (.t 39)), og_ 41 36 true (.load none (.t 40)), og_ 42 36 true (.bin .eql (.t 41) (.c (.int .i64 0))), og_ 43 34 false (.pick (.t 36) (.t 42) (.c (.bool false))), og_ 44 19 true (.pick (.t 34) (.c (.bool true)) (.t 43)), oo_ 45 (.pick (.t 19) (.t 44) (.c (.bool false)))]) (.cond (.t 45) (.seq (.reg [oo_ 2 (.mv (.c (.int .i64 7)))]) .ret) .skip)) (.seq (.reg [oo_ 2 (.mv (.c (.int .i64 0)))]) .ret))))
theorem types_look_bound.code : comp PG [] (Tryz.f68.body.getD .skip) = types_look_bound.c := by kernel_rfl
theorem types_look_bound.of : OfE PG 68 1 types_look_bound.c [(.t 2)] := fnE (nt := 46) mixed Tryz.func68 types_look_bound.code (by kernel_rfl) (by kernel_rfl) (by kernel_rfl) (by kernel_rfl) (by kernel_rfl) (by kernel_rfl)
def types_look_order.n : Nat := 69
noncomputable def types_look_order.c : C := (.seq (.reg [oo_ 2 (.mv (.c (.int .i64 0)))]) (.seq (.seq (.reg [om_ 5 0, oo_ 6 (.nilck (.t 5)), of_ 7 2 6, oo_ 8 (.load (some 6) (.t 7)), oo_ 9 (.call 119 [(.t 8)]), oo_ 10 (.len false (.t 9)), oo_ 11 (.mv (.c (.int .i64 0)))]) (.block 0 (.loop (.seq (.reg [oo_ 12 (.bin .lss (.t 11) (.t 10))]) (.seq (.cond (.t 12) .skip (.exit 0)) (.seq (.block 1 (.seq (.reg [oo_ 13 (.iaddr 1 (.t 9) (.t 11)), ol_ 14 13, om_ 4 14]) (.seq (.reg [om_ 15 4, oo_ 16 (.bin .lss (.t 15) (.c (.int .i64 0))), om_ 17 16, og_ 18 17 false (.mv (.t 4)), og_ 19 17 false (.mv (.t 0)), og_ 20 17 false (.nilck (.t 19)), og_ 21 17 false (.faddr 1 (.t 20)), og_ 22 17 false (.load none (.t 21)), og_ 23 17 false (.bin .geq (.t 18) (.t 22)), oo_ 24 (.pick (.t 17) (.c (.bool true)) (.t 23))]) (.cond (.t 24) (.seq (.reg [oo_ 2 (.mv (.c (.int .i64 14)))]) .ret) .skip)))) (.reg [oo_ 25 (.bin .add (.t 11) (.c (.int .i64 1))), om_ 11 25]))))))) (.seq (.seq (.dreg [om_ 26 0, oo_ 27 (.nilck (.t 26)), of_ 28 2 27, of_ 29 0 28, ol_ 30 29, oo_ 31 (.bin .eql (.t 30) (.c (.int .i64 14))), om_ 32 31, og_ 33 32 true (.mv (.t 0)), og_ 34 32 true (.nilck (.t 33)), og_ 35 32 true (.faddr 0 (.t 34)), og_ 36 32 true (.load none (.t 35)), og_ 37 32 true (.mv (.t 0)), og_ 38 32 true (.nilck (.t 37)), og_ 39 32 true (.faddr 2 (.t 38)), og_ 40 32 true (.faddr 4 (.t 39)), og_ 41 32 true (.load none (.t 40))] [og_ 42 32 true (.iaddr 6 (.t 36) (.t 41)), og_ 43 32 true (.faddr 0 (.t 42)), og_ 44 32 true (.load none (.t 43)), og_ 45 32 true (.call 77 [(.t 44)]), og_ 46 32 true (.un .not (.t 45)), oo_ 47 (.pick (.t 32) (.t 46) (.c (.bool false)))]) (.cond (.t 47) (.seq (.reg [oo_ 2 (.mv (.c (.int .i64 8)))]) .ret) .skip)) (.seq (.reg [oo_ 2 (.mv (.c (.int .i64 0)))]) .ret))))
theorem types_look_order.code : comp PG [] (Tryz.f69.body.getD .skip) = types_look_order.c := by kernel_rfl
theorem types_look_order.of : OfE PG 69 1 types_look_order.c [(.t 2)] := fnE (nt := 48) mixed Tryz.func69 types_look_order.code (by kernel_rfl) (by kernel_rfl) (by kernel_rfl) (by kernel_rfl) (by kernel_rfl) (by kernel_rfl)
def types_look_items.n : Nat := 70
noncomputable def types_look_items.c : C := (.seq (.reg [oo_ 2 (.mv (.c (.int .i64 0)))]) (.seq (.seq (.reg [om_ 11 0, oo_ 12 (.nilck (.t 11)), of_ 13 2 12, of_ 14 0 13, ol_ 15 14, oo_ 16 (.call 80 [(.t 15)]), om_ 10 16, oo_ 17 (.extr (.t 10) 0), oo_ 18 (.extr (.t 10) 1), oo_ 19 (.extr (.t 10) 2), oo_ 20 (.extr (.t 10) 3), om_ 3 17, om_ 4 18, om_ 5 19, om_ 6 20]) (.seq (.reg [om_ 21 3, oo_ 22 (.un .not (.t 21))]) (.cond (.t 22) (.seq (.reg [oo_ 2 (.mv (.c (.int .i64 0)))]) .ret) .skip))) (.seq (.seq (.reg [om_ 23 0, oo_ 24 (.nilck (.t 23)), of_ 25 2 24, of_ 26 5 25, ol_ 27 26, oo_ 28 (.len false (.t 27)), om_ 7 28]) (.block 0 (.seq (.reg [om_ 30 7, oo_ 31 (.bin .eql (.t 30) (.c (.int .i64 0))), om_ 29 31]) (.cond (.t 29) (.seq (.reg [oo_ 2 (.mv (.c (.int .i64 18)))]) .ret) (.seq (.reg [om_ 33 7, oo_ 34 (.bin .gtr (.t 33) (.c (.int .i64 16))), om_ 32 34]) (.cond (.t 32) (.seq (.reg [oo_ 2 (.mv (.c (.int .i64 3)))]) .ret) .skip)))))) (.seq (.seq (.reg [om_ 35 0, oo_ 36 (.nilck (.t 35)), of_ 37 2 36, of_ 38 5 37, ol_ 39 38, oo_ 40 (.len false (.t 39)), oo_ 41 (.mv (.c (.int .i64 0)))]) (.block 1 (.loop (.seq (.reg [oo_ 42 (.bin .lss (.t 41) (.t 40))]) (.seq (.cond (.t 42) .skip (.exit 1)) (.seq (.block 2 (.seq (.reg [om_ 43 41, om_ 8 43]) (.seq (.reg [om_ 44 0, om_ 45 8, oo_ 46 (.call 120 [(.t 44), (.t 45)]), om_ 9 46]) (.seq (.reg [om_ 47 9, oo_ 48 (.bin .neq (.t 47) (.c (.int .i64 0)))]) (.cond (.t 48) (.seq (.reg [om_ 49 9, om_ 2 49]) .ret) .skip))))) (.reg [oo_ 50 (.bin .add (.t 41) (.c (.int .i64 1))), om_ 41 50]))))))) (.seq (.reg [oo_ 2 (.mv (.c (.int .i64 0)))]) .ret)))))
theorem types_look_items.code : comp PG [] (Tryz.f70.body.getD .skip) = types_look_items.c := by kernel_rfl
theorem types_look_items.of : OfE PG 70 1 types_look_items.c [(.t 2)] := fnE (nt := 51) mixed Tryz.func70 types_look_items.code (by kernel_rfl) (by kernel_rfl) (by kernel_rfl) (by kernel_rfl) (by kernel_rfl) (by kernel_rfl)
def types_look_deep.n : Nat := 71
noncomputable def types_look_deep.c : C := (.seq (.reg [oo_ 2 (.mv (.c (.int .i64 0)))]) (.seq (.seq (.dreg [om_ 3 0, oo_ 4 (.nilck (.t 3)), of_ 5 0 4, ol_ 6 5, om_ 7 0, oo_ 8 (.nilck (.t 7)), of_ 9 1 8, ol_ 10 9] [oo_ 11 (.call 121 [(.t 6), (.t 10)]), oo_ 12 (.bin .gtr (.t 11) (.c (.int .i64 6)))]) (.cond (.t 12) (.seq (.reg [oo_ 2 (.mv (.c (.int .i64 9)))]) .ret) .skip)) (.seq (.reg [oo_ 2 (.mv (.c (.int .i64 0)))]) .ret)))
theorem types_look_deep.code : comp PG [] (Tryz.f71.body.getD .skip) = types_look_deep.c := by kernel_rfl
theorem types_look_deep.of : OfE PG 71 1 types_look_deep.c [(.t 2)] := fnE (nt := 13) mixed Tryz.func71 types_look_deep.code (by kernel_rfl) (by kernel_rfl) (by kernel_rfl) (by kernel_rfl) (by kernel_rfl) (by kernel_rfl)
def broadsheetref06_one.n : Nat := 75
noncomputable def broadsheetref06_one.c : C := (.seq (.reg [oo_ 4 (.mv (.c (.int .i64 0)))]) (.seq (.reg [om_ 11 0, om_ 12 1, oo_ 13 (.iaddr 6 (.t 11) (.t 12)), oo_ 14 (.load (some 6) (.t 13)), oo_ 5 (.allc 67 [(.int .i64 0), (.str []), (.int .i64 0), (.int .i64 0), (.int .i64 0), .nilS]), os_ (.store 6 (.t 5) (.t 14))]) (.seq (.seq (.reg [of_ 15 0 5, ol_ 16 15, oo_ 17 (.bin .lss (.t 16) (.c (.int .i64 1))), om_ 18 17, og_ 19 18 false (.faddr 0 (.t 5)), og_ 20 18 false (.load none (.t 19)), og_ 21 18 false (.bin .gtr (.t 20) (.c (.int .i64 14))), oo_ 22 (.pick (.t 18) (.c (.bool true)) (.t 21))]) (.cond (.t 22) (.seq (.reg [oo_ 4 (.mv (.c (.int .i64 4)))]) .ret) .skip)) (.seq (.seq (.reg [oo_ 23 (.load (some 6) (.t 5)), oo_ 24 (.call 125 [(.t 23)])]) (.cond (.t 24) (.seq (.reg [oo_ 4 (.mv (.c (.int .i64 1)))]) .ret) .skip)) (.seq (.seq (.reg [of_ 25 0 5, ol_ 26 25, oo_ 27 (.call 85 [(.t 26)])]) (.cond (.t 27) (.seq (.seq (.reg [of_ 28 1 5, ol_ 29 28, oo_ 30 (.call 126 [(.t 29)]), oo_ 31 (.un .not (.t 30))]) (.cond (.t 31) (.seq (.reg [oo_ 4 (.mv (.c (.int .i64 5)))]) .ret) .skip)) (.seq (.reg [oo_ 6 (.mv (.c (.int .i64 0)))]) (.block 0 (.loop (.seq (.seq (.reg [om_ 32 6, om_ 33 1, oo_ 34 (.bin .lss (.t 32) (.t 33))]) (.cond (.t 34) .skip (.exit 0))) (.seq (.block 1 (.seq (.dreg [om_ 37 0, om_ 38 6, oo_ 39 (.iaddr 6 (.t 37) (.t 38)), of_ 40 1 39, ol_ 41 40, of_ 42 1 5, ol_ 43 42] [oo_ 44 (.bin .eql (.t 41) (.t 43))]) (.cond (.t 44) (.seq (.reg [oo_ 4 (.mv (.c (.int .i64 6)))]) .ret) .skip))) (.reg [om_ 35 6, oo_ 36 (.bin .add (.t 35) (.c (.int .i64 1))), om_ 6 36]))))))) .skip)) (.seq (.seq (.reg [of_ 45 0 5, ol_ 46 45, oo_ 47 (.bin .eql (.t 46) (.c (.int .i64 10))), om_ 48 47, og_ 49 48 true (.faddr 2 (.t 5)), og_ 50 48 true (.load none (.t 49)), og_ 51 48 true (.bin .lss (.t 50) (.c (.int .i64 0))), oo_ 52 (.pick (.t 48) (.t 51) (.c (.bool false))), om_ 53 52, og_ 54 53 false (.faddr 0 (.t 5)), og_ 55 53 false (.load none (.t 54)), og_ 56 53 false (.bin .eql (.t 55) (.c (.int .i64 11))), og_ 57 53 false (.mv (.t 56)), og_ 58 57 false (.faddr 0 (.t 5)), og_ 59 57 false (.load none (.t 58)), og_ 60 57 false (.bin .eql (.t 59) (.c (.int .i64 12))), og_ 61 53 false (.pick (.t 57) (.c (.bool true)) (.t 60)), og_ 62 53 false (.mv (.t 61)), og_ 63 62 true (.faddr 2 (.t 5)), og_ 64 62 true (.load none (.t 63)), og_ 65 62 true (.bin .lss (.t 64) (.c (.int .i64 1))), og_ 66 53 false (.pick (.t 62) (.t 65) (.c (.bool false))), oo_ 67 (.pick (.t 53) (.c (.bool true)) (.t 66)), om_ 68 67, og_ 69 68 false (.faddr 2 (.t 5)), og_ 70 68 false (.load none (.t 69)), og_ 71 68 false (.bin .gtr (.t 70) (.c (.int .i64 64))), oo_ 72 (.pick (.t 68) (.c (.bool true)) (.t 71))]) (.cond (.t 72) (.seq (.reg [oo_ 4 (.mv (.c (.int .i64 7)))]) .ret) .skip)) (.seq (.reg [oo_ 73 (.load (some 6) (.t 5)), oo_ 74 (.call 127 [(.t 73)]), om_ 7 74]) (.seq (.seq (.reg [oo_ 8 (.mv (.c (.int .i64 0)))]) (.block 2 (.loop (.seq (.seq (.reg [om_ 75 8, om_ 76 7, oo_ 77 (.len false (.t 76)), oo_ 78 (.bin .lss (.t 75) (.t 77))]) (.cond (.t 78) .skip (.exit 2))) (.seq (.block 3 (.seq (.reg [om_ 81 7, om_ 82 8, oo_ 83 (.iaddr 1 (.t 81) (.t 82)), ol_ 84 83, oo_ 85 (.bin .lss (.t 84) (.c (.int .i64 0))), om_ 86 85, og_ 87 86 false (.mv (.t 7)), og_ 88 86 false (.mv (.t 8)), og_ 89 86 false (.iaddr 1 (.t 87) (.t 88)), og_ 90 86 false (.load none (.t 89)), og_ 91 86 false (.mv (.t 1)), og_ 92 86 false (.bin .geq (.t 90) (.t 91)), oo_ 93 (.pick (.t 86) (.c (.bool true)) (.t 92))]) (.cond (.t 93) (.seq (.reg [oo_ 4 (.mv (.c (.int .i64 14)))]) .ret) .skip))) (.reg [om_ 79 8, oo_ 80 (.bin .add (.t 79) (.c (.int .i64 1))), om_ 8 80])))))) (.seq (.seq (.reg [of_ 94 0 5, ol_ 95 94, oo_ 96 (.bin .eql (.t 95) (.c (.int .i64 14))), om_ 97 96, og_ 98 97 true (.mv (.t 0)), og_ 99 97 true (.faddr 4 (.t 5)), og_ 100 97 true (.load none (.t 99)), og_ 101 97 true (.iaddr 6 (.t 98) (.t 100)), og_ 102 97 true (.faddr 0 (.t 101)), og_ 103 97 true (.load none (.t 102)), og_ 104 97 true (.call 84 [(.t 103)]), og_ 105 97 true (.un .not (.t 104)), oo_ 106 (.pick (.t 97) (.t 105) (.c (.bool false)))]) (.cond (.t 106) (.seq (.reg [oo_ 4 (.mv (.c (.int .i64 8)))]) .ret) .skip)) (.seq (.seq (.reg [of_ 107 0 5, ol_ 108 107, oo_ 109 (.call 85 [(.t 108)]), om_ 110 109, og_ 111 110 true (.faddr 5 (.t 5)), og_ 112 110 true (.load none (.t 111)), og_ 113 110 true (.len false (.t 112)), og_ 114 110 true (.bin .eql (.t 113) (.c (.int .i64 0))), oo_ 115 (.pick (.t 110) (.t 114) (.c (.bool false)))]) (.cond (.t 115) (.seq (.reg [oo_ 4 (.mv (.c (.int .i64 18)))]) .ret) .skip)) (.seq (.seq (.reg [of_ 116 5 5, ol_ 117 116, oo_ 118 (.len false (.t 117)), oo_ 119 (.bin .gtr (.t 118) (.c (.int .i64 16)))]) (.cond (.t 119) (.seq (.reg [oo_ 4 (.mv (.c (.int .i64 3)))]) .ret) .skip)) (.seq (.seq (.reg [oo_ 9 (.mv (.c (.int .i64 0)))]) (.block 4 (.loop (.seq (.seq (.reg [om_ 120 9, of_ 121 5 5, ol_ 122 121, oo_ 123 (.len false (.t 122)), oo_ 124 (.bin .lss (.t 120) (.t 123))]) (.cond (.t 124) .skip (.exit 4))) (.seq (.block 5 (.seq (.reg [om_ 127 0, oo_ 128 (.load (some 6) (.t 5)), om_ 129 9, oo_ 130 (.call 128 [(.t 127), (.t 128), (.t 129)]), om_ 10 130]) (.seq (.reg [om_ 131 10, oo_ 132 (.bin .neq (.t 131) (.c (.int .i64 0)))]) (.cond (.t 132) (.seq (.reg [om_ 133 10, om_ 4 133]) .ret) .skip)))) (.reg [om_ 125 9, oo_ 126 (.bin .add (.t 125) (.c (.int .i64 1))), om_ 9 126])))))) (.seq (.seq (.reg [om_ 134 0, om_ 135 1, oo_ 136 (.call 129 [(.t 134), (.t 135)]), oo_ 137 (.bin .gtr (.t 136) (.c (.int .i64 6)))]) (.cond (.t 137) (.seq (.reg [oo_ 4 (.mv (.c (.int .i64 9)))]) .ret) .skip)) (.seq (.reg [oo_ 4 (.mv (.c (.int .i64 0)))]) .ret))))))))))))))
theorem broadsheetref06_one.code : comp PG [] (Tryz.f75.body.getD .skip) = broadsheetref06_one.c := by kernel_rfl
theorem broadsheetref06_one.of : OfE PG 75 2 broadsheetref06_one.c [(.t 4)] := fnE (nt := 138) mixed Tryz.func75 broadsheetref06_one.code (by kernel_rfl) (by kernel_rfl) (by kernel_rfl) (by kernel_rfl) (by kernel_rfl) (by kernel_rfl)
def prim_Number.n : Nat := 77
noncomputable def prim_Number.c : C := (.seq (.reg [oo_ 2 (.mv (.c (.bool false)))]) (.seq (.reg [om_ 3 0, oo_ 4 (.bin .geq (.t 3) (.c (.int .i64 1))), om_ 5 4, og_ 6 5 true (.mv (.t 0)), og_ 7 5 true (.bin .leq (.t 6) (.c (.int .i64 9))), oo_ 8 (.pick (.t 5) (.t 7) (.c (.bool false))), om_ 2 8]) .ret))
theorem prim_Number.code : comp PG [] (Tryz.f77.body.getD .skip) = prim_Number.c := by kernel_rfl
theorem prim_Number.of : OfE PG 77 1 prim_Number.c [(.t 2)] := fnE (nt := 9) mixed Tryz.func77 prim_Number.code (by kernel_rfl) (by kernel_rfl) (by kernel_rfl) (by kernel_rfl) (by kernel_rfl) (by kernel_rfl)
def types_find.n : Nat := 78
noncomputable def types_find.c : C := (.seq (.reg [oo_ 8 (.mv (.c (.int .i64 0))), oo_ 9 (.mv (.c (.bool false)))]) (.seq (.seq (.reg [om_ 12 1, oo_ 13 (.bin .lss (.t 12) (.c (.int .i64 0))), om_ 14 13, og_ 15 14 false (.mv (.t 1)), og_ 16 14 false (.mv (.t 0)), og_ 17 14 false (.len false (.t 16)), og_ 18 14 false (.bin .geq (.t 15) (.t 17)), oo_ 19 (.pick (.t 14) (.c (.bool true)) (.t 18)), om_ 20 19, og_ 21 20 false (.mv (.t 2)), og_ 22 20 false (.mv (.t 0)), og_ 23 20 false (.mv (.t 1)), og_ 24 20 false (.iaddr 6 (.t 22) (.t 23)), og_ 25 20 false (.faddr 0 (.t 24)), og_ 26 20 false (.load none (.t 25)), og_ 27 20 false (.callv (.t 21) [(.t 26)]), og_ 28 20 false (.un .not (.t 27)), oo_ 29 (.pick (.t 20) (.c (.bool true)) (.t 28))]) (.cond (.t 29) (.seq (.reg [oo_ 8 (.mv (.c (.int .i64 0))), oo_ 9 (.mv (.c (.bool false)))]) .ret) .skip)) (.seq (.seq (.reg [om_ 30 0, om_ 31 1, oo_ 32 (.iaddr 6 (.t 30) (.t 31)), of_ 33 5 32, ol_ 34 33, oo_ 35 (.len false (.t 34)), oo_ 36 (.mv (.c (.int .i64 0)))]) (.block 0 (.loop (.seq (.reg [oo_ 37 (.bin .lss (.t 36) (.t 35))]) (.seq (.cond (.t 37) .skip (.exit 0)) (.seq (.block 1 (.seq (.reg [om_ 38 36, oo_ 39 (.iaddr 5 (.t 34) (.t 36)), oo_ 40 (.load (some 5) (.t 39)), oo_ 11 (.allc 70 [(.str []), (.int .u64 0), (.int .i64 0), (.bool false), (.bool false)]), om_ 10 38, os_ (.store 5 (.t 11) (.t 40))]) (.seq (.reg [om_ 41 3, oo_ 42 (.load (some 5) (.t 11)), oo_ 43 (.callv (.t 41) [(.t 42)])]) (.cond (.t 43) (.seq (.reg [om_ 44 10, om_ 8 44, oo_ 9 (.mv (.c (.bool true)))]) .ret) .skip)))) (.reg [oo_ 45 (.bin .add (.t 36) (.c (.int .i64 1))), om_ 36 45]))))))) (.seq (.reg [oo_ 8 (.mv (.c (.int .i64 0))), oo_ 9 (.mv (.c (.bool false)))]) .ret))))
theorem types_find.code : comp PG [] (Tryz.f78.body.getD .skip) = types_find.c := by kernel_rfl
theorem types_find.of : OfE PG 78 4 types_find.c [(.t 8), (.t 9)] := fnE (nt := 46) mixed Tryz.func78 types_find.code (by kernel_rfl) (by kernel_rfl) (by kernel_rfl) (by kernel_rfl) (by kernel_rfl) (by kernel_rfl)
def types_Item_1.n : Nat := 79
noncomputable def types_Item_1.c : C := (.seq (.reg [oo_ 2 (.mv (.c (.bool false)))]) (.seq (.reg [om_ 8 0, oo_ 9 (.call 80 [(.t 8)]), om_ 7 9, oo_ 10 (.extr (.t 7) 0), oo_ 11 (.extr (.t 7) 1), oo_ 12 (.extr (.t 7) 2), oo_ 13 (.extr (.t 7) 3), om_ 3 10, om_ 4 11, om_ 5 12, om_ 6 13]) (.seq (.reg [om_ 14 3, om_ 2 14]) .ret)))
theorem types_Item_1.code : comp PG [] (Tryz.f79.body.getD .skip) = types_Item_1.c := by kernel_rfl
theorem types_Item_1.of : OfE PG 79 1 types_Item_1.c [(.t 2)] := fnE (nt := 15) mixed Tryz.func79 types_Item_1.code (by kernel_rfl) (by kernel_rfl) (by kernel_rfl) (by kernel_rfl) (by kernel_rfl) (by kernel_rfl)
def types_has.n : Nat := 80
noncomputable def types_has.c : C := (.seq (.reg [oo_ 2 (.mv (.c (.bool false))), oo_ 3 (.mv (.c (.bool false))), oo_ 4 (.mv (.c (.bool false))), oo_ 5 (.mv (.c (.bool false)))]) (.seq (.seq (.reg [om_ 6 0]) (.block 0 (.seq (.reg [oo_ 8 (.bin .eql (.t 6) (.c (.int .i64 10))), om_ 7 8]) (.cond (.t 7) (.reg [oo_ 3 (.mv (.c (.bool true)))]) (.seq (.seq (.reg [oo_ 10 (.bin .eql (.t 6) (.c (.int .i64 11))), om_ 9 10]) (.cond (.t 9) .skip (.reg [oo_ 11 (.bin .eql (.t 6) (.c (.int .i64 12))), om_ 9 11]))) (.cond (.t 9) (.reg [oo_ 3 (.mv (.c (.bool true))), oo_ 4 (.mv (.c (.bool true)))]) (.seq (.seq (.reg [oo_ 13 (.bin .eql (.t 6) (.c (.int .i64 9))), om_ 12 13]) (.cond (.t 12) .skip (.reg [oo_ 14 (.bin .eql (.t 6) (.c (.int .i64 13))), om_ 12 14]))) (.cond (.t 12) (.reg [oo_ 2 (.mv (.c (.bool true)))]) (.seq (.reg [oo_ 16 (.bin .eql (.t 6) (.c (.int .i64 14))), om_ 15 16]) (.cond (.t 15) (.reg [oo_ 2 (.mv (.c (.bool true))), oo_ 5 (.mv (.c (.bool true)))]) .skip)))))))))) (.seq (.reg [om_ 17 2, om_ 18 3, om_ 19 4, om_ 20 5, om_ 2 17, om_ 3 18, om_ 4 19, om_ 5 20]) .ret)))
theorem types_has.code : comp PG [] (Tryz.f80.body.getD .skip) = types_has.c := by kernel_rfl
theorem types_has.of : OfE PG 80 1 types_has.c [(.t 2), (.t 3), (.t 4), (.t 5)] := fnE (nt := 21) mixed Tryz.func80 types_has.code (by kernel_rfl) (by kernel_rfl) (by kernel_rfl) (by kernel_rfl) (by kernel_rfl) (by kernel_rfl)
def types_Item_2.n : Nat := 81
noncomputable def types_Item_2.c : C := (.seq (.reg [oo_ 2 (.box 70 (.t 0)), oo_ 3 (.mv (.c (.bool false)))]) (.seq (.reg [of_ 4 0 2, ol_ 5 4, ol_ 6 1, oo_ 7 (.bin .eql (.t 5) (.t 6)), om_ 3 7]) .ret))
theorem types_Item_2.code : comp PG [] (Tryz.f81.body.getD .skip) = types_Item_2.c := by kernel_rfl
theorem types_Item_2.of' : OfL PG 81 8 types_Item_2.c [(.t 3)] := fnL mixed Tryz.func81 types_Item_2.code (by kernel_rfl) (by kernel_rfl) (by kernel_rfl) (by kernel_rfl) (by kernel_rfl)
def prim_Up.n : Nat := 82
noncomputable def prim_Up.c : C := (.seq (.reg [oo_ 4 (.mv (.c (.int .u64 0)))]) (.seq (.seq (.reg [om_ 5 0, oo_ 6 (.call 83 [(.t 5)])]) (.cond (.t 6) (.seq (.reg [om_ 7 1, om_ 8 0, oo_ 9 (.call 131 [(.t 8)]), oo_ 10 (.call 130 [(.t 7), (.t 9)]), om_ 4 10]) .ret) .skip)) (.seq (.reg [om_ 11 0, om_ 12 1, oo_ 13 (.call 132 [(.t 11), (.t 12)]), om_ 4 13]) .ret)))
theorem prim_Up.code : comp PG [] (Tryz.f82.body.getD .skip) = prim_Up.c := by kernel_rfl
theorem prim_Up.of : OfE PG 82 2 prim_Up.c [(.t 4)] := fnE (nt := 14) mixed Tryz.func82 prim_Up.code (by kernel_rfl) (by kernel_rfl) (by kernel_rfl) (by kernel_rfl) (by kernel_rfl) (by kernel_rfl)
def prim_Signed.n : Nat := 83
noncomputable def prim_Signed.c : C := (.seq (.reg [oo_ 2 (.mv (.c (.bool false)))]) (.seq (.reg [om_ 3 0, oo_ 4 (.call 133 [(.t 3)]), oo_ 5 (.field 1 none (.t 4)), om_ 2 5]) .ret))
theorem prim_Signed.code : comp PG [] (Tryz.f83.body.getD .skip) = prim_Signed.c := by kernel_rfl
theorem prim_Signed.of : OfE PG 83 1 prim_Signed.c [(.t 2)] := fnE (nt := 6) mixed Tryz.func83 prim_Signed.code (by kernel_rfl) (by kernel_rfl) (by kernel_rfl) (by kernel_rfl) (by kernel_rfl) (by kernel_rfl)
def broadsheetref05_Number.n : Nat := 84
noncomputable def broadsheetref05_Number.c : C := (.seq (.reg [oo_ 2 (.mv (.c (.bool false)))]) (.seq (.reg [om_ 3 0, oo_ 4 (.bin .geq (.t 3) (.c (.int .i64 1))), om_ 5 4, og_ 6 5 true (.mv (.t 0)), og_ 7 5 true (.bin .leq (.t 6) (.c (.int .i64 9))), oo_ 8 (.pick (.t 5) (.t 7) (.c (.bool false))), om_ 2 8]) .ret))
theorem broadsheetref05_Number.code : comp PG [] (Tryz.f84.body.getD .skip) = broadsheetref05_Number.c := by kernel_rfl
theorem broadsheetref05_Number.of : OfE PG 84 1 broadsheetref05_Number.c [(.t 2)] := fnE (nt := 9) mixed Tryz.func84 broadsheetref05_Number.code (by kernel_rfl) (by kernel_rfl) (by kernel_rfl) (by kernel_rfl) (by kernel_rfl) (by kernel_rfl)
def broadsheetref06_named.n : Nat := 85
noncomputable def broadsheetref06_named.c : C := (.seq (.reg [oo_ 2 (.mv (.c (.bool false)))]) (.seq (.reg [om_ 3 0, oo_ 4 (.bin .eql (.t 3) (.c (.int .i64 9))), om_ 5 4, og_ 6 5 false (.mv (.t 0)), og_ 7 5 false (.bin .eql (.t 6) (.c (.int .i64 13))), oo_ 8 (.pick (.t 5) (.c (.bool true)) (.t 7)), om_ 9 8, og_ 10 9 false (.mv (.t 0)), og_ 11 9 false (.bin .eql (.t 10) (.c (.int .i64 14))), oo_ 12 (.pick (.t 9) (.c (.bool true)) (.t 11)), om_ 2 12]) .ret))
theorem broadsheetref06_named.code : comp PG [] (Tryz.f85.body.getD .skip) = broadsheetref06_named.c := by kernel_rfl
theorem broadsheetref06_named.of : OfE PG 85 1 broadsheetref06_named.c [(.t 2)] := fnE (nt := 13) mixed Tryz.func85 broadsheetref06_named.code (by kernel_rfl) (by kernel_rfl) (by kernel_rfl) (by kernel_rfl) (by kernel_rfl) (by kernel_rfl)
def broadsheetref05_Signed.n : Nat := 86
noncomputable def broadsheetref05_Signed.c : C := (.seq (.reg [oo_ 2 (.mv (.c (.bool false)))]) (.seq (.reg [om_ 3 0, oo_ 4 (.bin .eql (.t 3) (.c (.int .i64 3))), om_ 5 4, og_ 6 5 false (.mv (.t 0)), og_ 7 5 false (.bin .eql (.t 6) (.c (.int .i64 5))), oo_ 8 (.pick (.t 5) (.c (.bool true)) (.t 7)), om_ 9 8, og_ 10 9 false (.mv (.t 0)), og_ 11 9 false (.bin .eql (.t 10) (.c (.int .i64 7))), oo_ 12 (.pick (.t 9) (.c (.bool true)) (.t 11)), om_ 13 12, og_ 14 13 false (.mv (.t 0)), og_ 15 13 false (.bin .eql (.t 14) (.c (.int .i64 9))), oo_ 16 (.pick (.t 13) (.c (.bool true)) (.t 15)), om_ 2 16]) .ret))
theorem broadsheetref05_Signed.code : comp PG [] (Tryz.f86.body.getD .skip) = broadsheetref05_Signed.c := by kernel_rfl
theorem broadsheetref05_Signed.of : OfE PG 86 1 broadsheetref05_Signed.c [(.t 2)] := fnE (nt := 17) mixed Tryz.func86 broadsheetref05_Signed.code (by kernel_rfl) (by kernel_rfl) (by kernel_rfl) (by kernel_rfl) (by kernel_rfl) (by kernel_rfl)
def broadsheetref05_Low.n : Nat := 87
noncomputable def broadsheetref05_Low.c : C := (.seq (.reg [oo_ 4 (.mv (.c (.int .u64 0)))]) (.seq (.seq (.reg [om_ 5 0, oo_ 6 (.call 84 [(.t 5)]), oo_ 7 (.un .not (.t 6))]) (.cond (.t 7) (.seq (.reg [oo_ 4 (.mv (.c (.int .u64 0)))]) .ret) .skip)) (.seq (.reg [om_ 8 1, om_ 9 0, oo_ 10 (.call 89 [(.t 9)]), oo_ 11 (.call 134 [(.t 8), (.t 10)]), om_ 4 11]) .ret)))
theorem broadsheetref05_Low.code : comp PG [] (Tryz.f87.body.getD .skip) = broadsheetref05_Low.c := by kernel_rfl
theorem broadsheetref05_Low.of : OfE PG 87 2 broadsheetref05_Low.c [(.t 4)] := fnE (nt := 12) mixed Tryz.func87 broadsheetref05_Low.code (by kernel_rfl) (by kernel_rfl) (by kernel_rfl) (by kernel_rfl) (by kernel_rfl) (by kernel_rfl)
def broadsheetref01_Sign.n : Nat := 88
noncomputable def broadsheetref01_Sign.c : C := (.seq (.reg [oo_ 4 (.mv (.c (.int .i64 0)))]) (.seq (.seq (.reg [om_ 6 1, oo_ 7 (.call 135 [(.t 6)]), oo_ 8 (.un .not (.t 7))]) (.cond (.t 8) (.seq (.reg [oo_ 4 (.mv (.c (.int .i64 0)))]) .ret) .skip)) (.seq (.reg [om_ 9 0, om_ 10 1, oo_ 11 (.call 134 [(.t 9), (.t 10)]), om_ 0 11]) (.seq (.reg [om_ 12 1, oo_ 13 (.call 136 [(.t 12)]), om_ 5 13]) (.seq (.seq (.reg [om_ 14 0, om_ 15 5, oo_ 16 (.bin .lss (.t 14) (.t 15))]) (.cond (.t 16) (.seq (.reg [om_ 17 0, oo_ 18 (.conv .i64 (.t 17)), om_ 4 18]) .ret) .skip)) (.seq (.reg [om_ 19 0, om_ 20 5, oo_ 21 (.bin .sub (.t 19) (.t 20)), oo_ 22 (.conv .i64 (.t 21)), om_ 23 5, oo_ 24 (.bin .sub (.t 23) (.c (.int .u64 1))), oo_ 25 (.conv .i64 (.t 24)), oo_ 26 (.bin .sub (.t 22) (.t 25)), oo_ 27 (.bin .sub (.t 26) (.c (.int .i64 1))), om_ 4 27]) .ret))))))
theorem broadsheetref01_Sign.code : comp PG [] (Tryz.f88.body.getD .skip) = broadsheetref01_Sign.c := by kernel_rfl
theorem broadsheetref01_Sign.of : OfE PG 88 2 broadsheetref01_Sign.c [(.t 4)] := fnE (nt := 28) mixed Tryz.func88 broadsheetref01_Sign.code (by kernel_rfl) (by kernel_rfl) (by kernel_rfl) (by kernel_rfl) (by kernel_rfl) (by kernel_rfl)
def broadsheetref05_Size.n : Nat := 89
noncomputable def broadsheetref05_Size.c : C := (.seq (.reg [oo_ 2 (.mv (.c (.int .i64 0)))]) (.seq (.seq (.reg [om_ 3 0]) (.block 0 (.seq (.seq (.reg [oo_ 5 (.bin .eql (.t 3) (.c (.int .i64 1))), om_ 4 5]) (.cond (.t 4) .skip (.reg [oo_ 6 (.bin .eql (.t 3) (.c (.int .i64 2))), om_ 4 6]))) (.cond (.t 4) (.seq (.reg [oo_ 2 (.mv (.c (.int .i64 1)))]) .ret) (.seq (.seq (.reg [oo_ 8 (.bin .eql (.t 3) (.c (.int .i64 3))), om_ 7 8]) (.cond (.t 7) .skip (.reg [oo_ 9 (.bin .eql (.t 3) (.c (.int .i64 4))), om_ 7 9]))) (.cond (.t 7) (.seq (.reg [oo_ 2 (.mv (.c (.int .i64 2)))]) .ret) (.seq (.seq (.reg [oo_ 11 (.bin .eql (.t 3) (.c (.int .i64 5))), om_ 10 11]) (.cond (.t 10) .skip (.seq (.reg [oo_ 12 (.bin .eql (.t 3) (.c (.int .i64 6))), om_ 10 12]) (.cond (.t 10) .skip (.reg [oo_ 13 (.bin .eql (.t 3) (.c (.int .i64 9))), om_ 10 13]))))) (.cond (.t 10) (.seq (.reg [oo_ 2 (.mv (.c (.int .i64 4)))]) .ret) (.seq (.seq (.reg [oo_ 15 (.bin .eql (.t 3) (.c (.int .i64 7))), om_ 14 15]) (.cond (.t 14) .skip (.reg [oo_ 16 (.bin .eql (.t 3) (.c (.int .i64 8))), om_ 14 16]))) (.cond (.t 14) (.seq (.reg [oo_ 2 (.mv (.c (.int .i64 8)))]) .ret) .skip)))))))))) (.seq (.reg [oo_ 2 (.mv (.c (.int .i64 0)))]) .ret)))
theorem broadsheetref05_Size.code : comp PG [] (Tryz.f89.body.getD .skip) = broadsheetref05_Size.c := by kernel_rfl
theorem broadsheetref05_Size.of : OfE PG 89 1 broadsheetref05_Size.c [(.t 2)] := fnE (nt := 17) mixed Tryz.func89 broadsheetref05_Size.code (by kernel_rfl) (by kernel_rfl) (by kernel_rfl) (by kernel_rfl) (by kernel_rfl) (by kernel_rfl)
def name_Name.n : Nat := 118
noncomputable def name_Name.c : C := (.seq (.reg [oo_ 2 (.mv (.c (.bool false)))]) (.seq (.reg [om_ 3 0, oo_ 4 (.bin .neq (.t 3) (.c (.str []))), om_ 5 4, og_ 6 5 true (.mv (.t 0)), og_ 7 5 true (.len true (.t 6)), og_ 8 5 true (.bin .leq (.t 7) (.c (.int .i64 16))), oo_ 9 (.pick (.t 5) (.t 8) (.c (.bool false))), om_ 10 9, og_ 11 10 true (.mv (.t 0)), og_ 12 10 true (.call 148 [(.t 11)]), og_ 13 10 true (.mv (.t 0)), og_ 14 10 true (.len true (.t 13)), og_ 15 10 true (.bin .eql (.t 12) (.t 14)), oo_ 16 (.pick (.t 10) (.t 15) (.c (.bool false))), om_ 17 16, og_ 18 17 true (.mv (.t 0)), og_ 19 17 true (.call 160 [(.t 18)]), og_ 20 17 true (.un .not (.t 19)), oo_ 21 (.pick (.t 17) (.t 20) (.c (.bool false))), om_ 2 21]) .ret))
theorem name_Name.code : comp PG [] (Tryz.f118.body.getD .skip) = name_Name.c := by kernel_rfl
theorem name_Name.of : OfE PG 118 1 name_Name.c [(.t 2)] := fnE (nt := 22) mixed Tryz.func118 name_Name.code (by kernel_rfl) (by kernel_rfl) (by kernel_rfl) (by kernel_rfl) (by kernel_rfl) (by kernel_rfl)
def types_parts.n : Nat := 119
noncomputable def types_parts.c : C := (.seq (.reg [oo_ 1 (.box 67 (.t 0)), oo_ 2 (.mv (.c .nilS))]) (.seq (.reg [oo_ 3 (.mv (.c .nilS))]) (.seq (.reg [of_ 11 0 1, ol_ 12 11, oo_ 13 (.call 80 [(.t 12)]), om_ 10 13, oo_ 14 (.extr (.t 10) 0), oo_ 15 (.extr (.t 10) 1), oo_ 16 (.extr (.t 10) 2), oo_ 17 (.extr (.t 10) 3), om_ 4 14, om_ 5 15, om_ 6 16, om_ 7 17]) (.seq (.seq (.reg [om_ 18 6]) (.cond (.t 18) (.reg [om_ 19 3, of_ 20 3 1, ol_ 21 20, oo_ 22 (.bslice 3 1 1 [(.int .i64 0)] [(0, (.t 21))]), oo_ 23 (.append 3 false 1 8 (.t 19) (.t 22)), om_ 3 23]) .skip)) (.seq (.seq (.reg [om_ 24 7]) (.cond (.t 24) (.reg [om_ 25 3, of_ 26 4 1, ol_ 27 26, oo_ 28 (.bslice 3 1 1 [(.int .i64 0)] [(0, (.t 27))]), oo_ 29 (.append 3 false 1 8 (.t 25) (.t 28)), om_ 3 29]) .skip)) (.seq (.seq (.reg [of_ 30 0 1, ol_ 31 30, oo_ 32 (.bin .eql (.t 31) (.c (.int .i64 13))), om_ 33 32, og_ 34 33 false (.faddr 0 (.t 1)), og_ 35 33 false (.load none (.t 34)), og_ 36 33 false (.bin .eql (.t 35) (.c (.int .i64 14))), oo_ 37 (.pick (.t 33) (.c (.bool true)) (.t 36))]) (.cond (.t 37) (.seq (.reg [of_ 38 5 1, ol_ 39 38, oo_ 40 (.len false (.t 39)), oo_ 41 (.mv (.c (.int .i64 0)))]) (.block 0 (.loop (.seq (.reg [oo_ 42 (.bin .lss (.t 41) (.t 40))]) (.seq (.cond (.t 42) .skip (.exit 0)) (.seq (.block 1 (.seq (.reg [oo_ 43 (.iaddr 5 (.t 39) (.t 41)), oo_ 44 (.load (some 5) (.t 43)), oo_ 9 (.allc 70 [(.str []), (.int .u64 0), (.int .i64 0), (.bool false), (.bool false)]), os_ (.store 5 (.t 9) (.t 44))]) (.reg [om_ 45 3, of_ 46 2 9, ol_ 47 46, oo_ 48 (.bslice 3 1 1 [(.int .i64 0)] [(0, (.t 47))]), oo_ 49 (.append 3 false 1 8 (.t 45) (.t 48)), om_ 3 49]))) (.reg [oo_ 50 (.bin .add (.t 41) (.c (.int .i64 1))), om_ 41 50]))))))) .skip)) (.seq (.reg [om_ 51 3, om_ 2 51]) .ret)))))))
theorem types_parts.code : comp PG [] (Tryz.f119.body.getD .skip) = types_parts.c := by kernel_rfl
theorem types_parts.of : OfE PG 119 1 types_parts.c [(.t 2)] := fnE (nt := 52) mixed Tryz.func119 types_parts.code (by kernel_rfl) (by kernel_rfl) (by kernel_rfl) (by kernel_rfl) (by kernel_rfl) (by kernel_rfl)
def types_look_item.n : Nat := 120
noncomputable def types_look_item.c : C := (.seq (.reg [oo_ 4 (.mv (.c (.int .i64 0)))]) (.seq (.reg [om_ 11 0, oo_ 12 (.nilck (.t 11)), of_ 13 2 12, of_ 14 5 13, ol_ 15 14, om_ 16 1, oo_ 17 (.iaddr 5 (.t 15) (.t 16)), oo_ 18 (.load (some 5) (.t 17)), oo_ 5 (.allc 70 [(.str []), (.int .u64 0), (.int .i64 0), (.bool false), (.bool false)]), os_ (.store 5 (.t 5) (.t 18))]) (.seq (.seq (.reg [of_ 19 0 5, ol_ 20 19, oo_ 21 (.call 118 [(.t 20)]), oo_ 22 (.un .not (.t 21))]) (.cond (.t 22) (.seq (.reg [oo_ 4 (.mv (.c (.int .i64 5)))]) .ret) .skip)) (.seq (.seq (.reg [om_ 23 0, oo_ 24 (.nilck (.t 23)), of_ 25 2 24, of_ 26 5 25, ol_ 27 26, om_ 28 1, oo_ 29 (.slice (some 5) (.t 27) none (some (.t 28))), oo_ 30 (.len false (.t 29)), oo_ 31 (.mv (.c (.int .i64 0)))]) (.block 0 (.loop (.seq (.reg [oo_ 32 (.bin .lss (.t 31) (.t 30))]) (.seq (.cond (.t 32) .skip (.exit 0)) (.seq (.block 1 (.seq (.reg [oo_ 33 (.iaddr 5 (.t 29) (.t 31)), oo_ 34 (.load (some 5) (.t 33)), oo_ 7 (.allc 70 [(.str []), (.int .u64 0), (.int .i64 0), (.bool false), (.bool false)]), os_ (.store 5 (.t 7) (.t 34))]) (.seq (.reg [of_ 35 0 7, ol_ 36 35, of_ 37 0 5, ol_ 38 37, oo_ 39 (.bin .eql (.t 36) (.t 38))]) (.cond (.t 39) (.seq (.reg [oo_ 4 (.mv (.c (.int .i64 6)))]) .ret) .skip)))) (.reg [oo_ 40 (.bin .add (.t 31) (.c (.int .i64 1))), om_ 31 40]))))))) (.seq (.block 2 (.seq (.reg [om_ 42 0, oo_ 43 (.nilck (.t 42)), of_ 44 2 43, of_ 45 0 44, ol_ 46 45, oo_ 47 (.bin .eql (.t 46) (.c (.int .i64 13))), om_ 41 47]) (.cond (.t 41) (.seq (.seq (.dreg [om_ 48 0, oo_ 49 (.nilck (.t 48)), of_ 50 0 49, ol_ 51 50, of_ 52 2 5, ol_ 53 52] [oo_ 54 (.iaddr 6 (.t 51) (.t 53)), of_ 55 0 54, ol_ 56 55, om_ 8 56]) (.seq (.reg [of_ 57 3 5, ol_ 58 57, om_ 59 58, og_ 60 59 true (.mv (.t 8)), og_ 61 59 true (.call 77 [(.t 60)]), og_ 62 59 true (.un .not (.t 61)), oo_ 63 (.pick (.t 59) (.t 62) (.c (.bool false))), om_ 64 63, og_ 65 64 true (.mv (.t 8)), og_ 66 64 true (.bin .neq (.t 65) (.c (.int .i64 10))), oo_ 67 (.pick (.t 64) (.t 66) (.c (.bool false)))]) (.cond (.t 67) (.seq (.reg [oo_ 4 (.mv (.c (.int .i64 17)))]) .ret) .skip))) (.seq (.reg [oo_ 4 (.mv (.c (.int .i64 0)))]) .ret)) (.seq (.reg [of_ 69 4 5, ol_ 70 69, om_ 71 70, og_ 72 71 true (.mv (.t 1)), og_ 73 71 true (.mv (.t 0)), og_ 74 71 true (.nilck (.t 73)), og_ 75 71 true (.faddr 2 (.t 74)), og_ 76 71 true (.faddr 5 (.t 75)), og_ 77 71 true (.load none (.t 76)), og_ 78 71 true (.len false (.t 77)), og_ 79 71 true (.bin .sub (.t 78) (.c (.int .i64 1))), og_ 80 71 true (.bin .neq (.t 72) (.t 79)), oo_ 81 (.pick (.t 71) (.t 80) (.c (.bool false))), om_ 68 81]) (.cond (.t 68) (.seq (.reg [oo_ 4 (.mv (.c (.int .i64 14)))]) .ret) (.seq (.reg [of_ 83 4 5, ol_ 84 83, om_ 82 84]) (.cond (.t 82) (.seq (.reg [oo_ 4 (.mv (.c (.int .i64 0)))]) .ret) (.seq (.reg [om_ 86 0, of_ 87 1 5, ol_ 88 87, oo_ 89 (.call 161 [(.t 86), (.t 88)]), oo_ 90 (.un .not (.t 89)), om_ 85 90]) (.cond (.t 85) (.seq (.reg [oo_ 4 (.mv (.c (.int .i64 7)))]) .ret) .skip))))))))) (.seq (.seq (.reg [om_ 91 0, oo_ 92 (.nilck (.t 91)), of_ 93 2 92, of_ 94 5 93, ol_ 95 94, om_ 96 1, oo_ 97 (.slice (some 5) (.t 95) none (some (.t 96))), oo_ 98 (.len false (.t 97)), oo_ 99 (.mv (.c (.int .i64 0)))]) (.block 3 (.loop (.seq (.reg [oo_ 100 (.bin .lss (.t 99) (.t 98))]) (.seq (.cond (.t 100) .skip (.exit 3)) (.seq (.block 4 (.seq (.reg [oo_ 101 (.iaddr 5 (.t 97) (.t 99)), oo_ 102 (.load (some 5) (.t 101)), oo_ 10 (.allc 70 [(.str []), (.int .u64 0), (.int .i64 0), (.bool false), (.bool false)]), os_ (.store 5 (.t 10) (.t 102))]) (.seq (.reg [of_ 103 1 10, ol_ 104 103, of_ 105 1 5, ol_ 106 105, oo_ 107 (.bin .eql (.t 104) (.t 106))]) (.cond (.t 107) (.seq (.reg [oo_ 4 (.mv (.c (.int .i64 6)))]) .ret) .skip)))) (.reg [oo_ 108 (.bin .add (.t 99) (.c (.int .i64 1))), om_ 99 108]))))))) (.seq (.reg [oo_ 4 (.mv (.c (.int .i64 0)))]) .ret)))))))
theorem types_look_item.code : comp PG [] (Tryz.f120.body.getD .skip) = types_look_item.c := by kernel_rfl
theorem types_look_item.of : OfE PG 120 2 types_look_item.c [(.t 4)] := fnE (nt := 109) mixed Tryz.func120 types_look_item.code (by kernel_rfl) (by kernel_rfl) (by kernel_rfl) (by kernel_rfl) (by kernel_rfl) (by kernel_rfl)
def types_Deep.n : Nat := 121
noncomputable def types_Deep.c : C := (.seq (.reg [oo_ 4 (.mv (.c (.int .i64 0)))]) (.seq (.seq (.reg [om_ 9 1, oo_ 10 (.bin .lss (.t 9) (.c (.int .i64 0))), om_ 11 10, og_ 12 11 false (.mv (.t 1)), og_ 13 11 false (.mv (.t 0)), og_ 14 11 false (.len false (.t 13)), og_ 15 11 false (.bin .geq (.t 12) (.t 14)), oo_ 16 (.pick (.t 11) (.c (.bool true)) (.t 15))]) (.cond (.t 16) (.seq (.reg [oo_ 4 (.mv (.c (.int .i64 0)))]) .ret) .skip)) (.seq (.reg [om_ 17 1, oo_ 18 (.bin .add (.t 17) (.c (.int .i64 1))), oo_ 19 (.mks 3 1 8 [(.int .i64 0)] (.t 18)), om_ 5 19]) (.seq (.seq (.reg [om_ 20 5, oo_ 21 (.len false (.t 20)), oo_ 22 (.mv (.c (.int .i64 0)))]) (.block 0 (.loop (.seq (.reg [oo_ 23 (.bin .lss (.t 22) (.t 21))]) (.seq (.cond (.t 23) .skip (.exit 0)) (.seq (.block 1 (.seq (.reg [om_ 24 22, om_ 6 24]) (.seq (.reg [om_ 25 5, om_ 26 6, oo_ 27 (.iaddr 1 (.t 25) (.t 26)), os_ (.store 1 (.t 27) (.c (.int .i64 1)))]) (.seq (.reg [om_ 28 0, om_ 29 6, oo_ 30 (.iaddr 6 (.t 28) (.t 29)), oo_ 31 (.load (some 6) (.t 30)), oo_ 32 (.call 119 [(.t 31)]), oo_ 33 (.len false (.t 32)), oo_ 34 (.mv (.c (.int .i64 0)))]) (.block 2 (.loop (.seq (.reg [oo_ 35 (.bin .lss (.t 34) (.t 33))]) (.seq (.cond (.t 35) .skip (.exit 2)) (.seq (.block 3 (.seq (.reg [oo_ 36 (.iaddr 1 (.t 32) (.t 34)), ol_ 37 36, om_ 8 37]) (.seq (.reg [om_ 38 8, oo_ 39 (.bin .geq (.t 38) (.c (.int .i64 0))), om_ 40 39, og_ 41 40 true (.mv (.t 8)), og_ 42 40 true (.mv (.t 6)), og_ 43 40 true (.bin .lss (.t 41) (.t 42)), oo_ 44 (.pick (.t 40) (.t 43) (.c (.bool false)))]) (.cond (.t 44) (.dreg [om_ 45 5, om_ 46 6, om_ 47 5, om_ 48 6, oo_ 49 (.iaddr 1 (.t 47) (.t 48)), ol_ 50 49, om_ 51 5, om_ 52 8, oo_ 53 (.iaddr 1 (.t 51) (.t 52)), ol_ 54 53, oo_ 55 (.bin .add (.t 54) (.c (.int .i64 1))), oo_ 56 (.mm true [(.t 50), (.t 55)])] [oo_ 57 (.iaddr 1 (.t 45) (.t 46)), os_ (.store 1 (.t 57) (.t 56))]) .skip)))) (.reg [oo_ 58 (.bin .add (.t 34) (.c (.int .i64 1))), om_ 34 58])))))))))) (.reg [oo_ 59 (.bin .add (.t 22) (.c (.int .i64 1))), om_ 22 59]))))))) (.seq (.reg [om_ 60 5, om_ 61 1, oo_ 62 (.iaddr 1 (.t 60) (.t 61)), ol_ 63 62, om_ 4 63]) .ret)))))
theorem types_Deep.code : comp PG [] (Tryz.f121.body.getD .skip) = types_Deep.c := by kernel_rfl
theorem types_Deep.of : OfE PG 121 2 types_Deep.c [(.t 4)] := fnE (nt := 64) mixed Tryz.func121 types_Deep.code (by kernel_rfl) (by kernel_rfl) (by kernel_rfl) (by kernel_rfl) (by kernel_rfl) (by kernel_rfl)
def broadsheetref06_more.n : Nat := 125
noncomputable def broadsheetref06_more.c : C := (.seq (.reg [oo_ 1 (.box 67 (.t 0)), oo_ 2 (.mv (.c (.bool false)))]) (.seq (.seq (.reg [of_ 5 1 1, ol_ 6 5, oo_ 7 (.bin .neq (.t 6) (.c (.str []))), om_ 8 7, og_ 9 8 true (.faddr 0 (.t 1)), og_ 10 8 true (.load none (.t 9)), og_ 11 8 true (.call 85 [(.t 10)]), og_ 12 8 true (.un .not (.t 11)), oo_ 13 (.pick (.t 8) (.t 12) (.c (.bool false))), om_ 14 13, og_ 15 14 false (.faddr 5 (.t 1)), og_ 16 14 false (.load none (.t 15)), og_ 17 14 false (.len false (.t 16)), og_ 18 14 false (.bin .gtr (.t 17) (.c (.int .i64 0))), og_ 19 14 false (.mv (.t 18)), og_ 20 19 true (.faddr 0 (.t 1)), og_ 21 19 true (.load none (.t 20)), og_ 22 19 true (.call 85 [(.t 21)]), og_ 23 19 true (.un .not (.t 22)), og_ 24 14 false (.pick (.t 19) (.t 23) (.c (.bool false))), oo_ 25 (.pick (.t 14) (.c (.bool true)) (.t 24))]) (.cond (.t 25) (.seq (.reg [oo_ 2 (.mv (.c (.bool true)))]) .ret) .skip)) (.seq (.seq (.reg [of_ 26 2 1, ol_ 27 26, oo_ 28 (.bin .neq (.t 27) (.c (.int .i64 0))), om_ 29 28, og_ 30 29 true (.faddr 0 (.t 1)), og_ 31 29 true (.load none (.t 30)), og_ 32 29 true (.bin .lss (.t 31) (.c (.int .i64 10))), og_ 33 29 true (.mv (.t 32)), og_ 34 33 false (.faddr 0 (.t 1)), og_ 35 33 false (.load none (.t 34)), og_ 36 33 false (.bin .gtr (.t 35) (.c (.int .i64 12))), og_ 37 29 true (.pick (.t 33) (.c (.bool true)) (.t 36)), oo_ 38 (.pick (.t 29) (.t 37) (.c (.bool false))), om_ 39 38, og_ 40 39 false (.faddr 3 (.t 1)), og_ 41 39 false (.load none (.t 40)), og_ 42 39 false (.bin .neq (.t 41) (.c (.int .i64 0))), og_ 43 39 false (.mv (.t 42)), og_ 44 43 true (.faddr 0 (.t 1)), og_ 45 43 true (.load none (.t 44)), og_ 46 43 true (.bin .neq (.t 45) (.c (.int .i64 11))), og_ 47 39 false (.pick (.t 43) (.t 46) (.c (.bool false))), og_ 48 39 false (.mv (.t 47)), og_ 49 48 true (.faddr 0 (.t 1)), og_ 50 48 true (.load none (.t 49)), og_ 51 48 true (.bin .neq (.t 50) (.c (.int .i64 12))), og_ 52 39 false (.pick (.t 48) (.t 51) (.c (.bool false))), oo_ 53 (.pick (.t 39) (.c (.bool true)) (.t 52)), om_ 54 53, og_ 55 54 false (.faddr 4 (.t 1)), og_ 56 54 false (.load none (.t 55)), og_ 57 54 false (.bin .neq (.t 56) (.c (.int .i64 0))), og_ 58 54 false (.mv (.t 57)), og_ 59 58 true (.faddr 0 (.t 1)), og_ 60 58 true (.load none (.t 59)), og_ 61 58 true (.bin .neq (.t 60) (.c (.int .i64 14))), og_ 62 54 false (.pick (.t 58) (.t 61) (.c (.bool false))), oo_ 63 (.pick (.t 54) (.c (.bool true)) (.t 62))]) (.cond (.t 63) (.seq (.reg [oo_ 2 (.mv (.c (.bool true)))]) .ret) .skip)) (.seq (.seq (.reg [oo_ 3 (.mv (.c (.int .i64 0)))]) (.block 0 (.loop (.seq (.seq (.reg [om_ 64 3, of_ 65 5 1, ol_ 66 65, oo_ 67 (.len false (.t 66)), oo_ 68 (.bin .lss (.t 64) (.t 67))]) (.cond (.t 68) .skip (.exit 0))) (.seq (.block 1 (.seq (.reg [of_ 71 5 1, ol_ 72 71, om_ 73 3, oo_ 74 (.iaddr 5 (.t 72) (.t 73)), oo_ 75 (.load (some 5) (.t 74)), oo_ 4 (.allc 70 [(.str []), (.int .u64 0), (.int .i64 0), (.bool false), (.bool false)]), os_ (.store 5 (.t 4) (.t 75))]) (.seq (.reg [of_ 76 1 4, ol_ 77 76, oo_ 78 (.bin .neq (.t 77) (.c (.int .u64 0))), om_ 79 78, og_ 80 79 true (.faddr 0 (.t 1)), og_ 81 79 true (.load none (.t 80)), og_ 82 79 true (.bin .eql (.t 81) (.c (.int .i64 13))), og_ 83 79 true (.mv (.t 82)), og_ 84 83 false (.faddr 4 (.t 4)), og_ 85 83 false (.load none (.t 84)), og_ 86 79 true (.pick (.t 83) (.c (.bool true)) (.t 85)), oo_ 87 (.pick (.t 79) (.t 86) (.c (.bool false))), om_ 88 87, og_ 89 88 false (.faddr 2 (.t 4)), og_ 90 88 false (.load none (.t 89)), og_ 91 88 false (.bin .neq (.t 90) (.c (.int .i64 0))), og_ 92 88 false (.mv (.t 91)), og_ 93 92 true (.faddr 0 (.t 1)), og_ 94 92 true (.load none (.t 93)), og_ 95 92 true (.bin .eql (.t 94) (.c (.int .i64 9))), og_ 96 88 false (.pick (.t 92) (.t 95) (.c (.bool false))), oo_ 97 (.pick (.t 88) (.c (.bool true)) (.t 96)), om_ 98 97, og_ 99 98 false (.faddr 3 (.t 4)), og_ 100 98 false (.load none (.t 99)), og_ 101 98 false (.mv (.t 100)), og_ 102 101 true (.faddr 0 (.t 1)), og_ 103 101 true (.load none (.t 102)), og_ 104 101 true (.bin .neq (.t 103) (.c (.int .i64 13))), og_ 105 98 false (.pick (.t 101) (.t 104) (.c (.bool false))), oo_ 106 (.pick (.t 98) (.c (.bool true)) (.t 105)), om_ 107 106, og_ 108 107 false (.faddr 4 (.t 4)), og_ 109 107 false (.load none (.t 108)), og_ 110 107 false (.mv (.t 109)), og_ 111 110 true (.faddr 0 (.t 1)), og_ 112 110 true (.load none (.t 111)), og_ 113 110 true (.bin .neq (.t 112) (.c (.int .i64 14))), og_ 114 107 false (.pick (.t 110) (.t 113) (.c (.bool false))), oo_ 115 (.pick (.t 107) (.c (.bool true)) (.t 114))]) (.cond (.t 115) (.seq (.reg [oo_ 2 (.mv (.c (.bool true)))]) .ret) .skip)))) (.reg [om_ 69 3, oo_ 70 (.bin .add (.t 69) (.c (.int .i64 1))), om_ 3 70])))))) (.seq (.reg [oo_ 2 (.mv (.c (.bool false)))]) .ret)))))
theorem broadsheetref06_more.code : comp PG [] (Tryz.f125.body.getD .skip) = broadsheetref06_more.c := by kernel_rfl
theorem broadsheetref06_more.of : OfE PG 125 1 broadsheetref06_more.c [(.t 2)] := fnE (nt := 116) mixed Tryz.func125 broadsheetref06_more.code (by kernel_rfl) (by kernel_rfl) (by kernel_rfl) (by kernel_rfl) (by kernel_rfl) (by kernel_rfl)
def broadsheetref06_Parts.n : Nat := 127
noncomputable def broadsheetref06_Parts.c : C := (.seq (.reg [oo_ 1 (.box 67 (.t 0)), oo_ 2 (.mv (.c .nilS))]) (.seq (.reg [oo_ 3 (.mv (.c .nilS))]) (.seq (.seq (.reg [of_ 5 0 1, ol_ 6 5, oo_ 7 (.bin .eql (.t 6) (.c (.int .i64 11))), om_ 8 7, og_ 9 8 false (.faddr 0 (.t 1)), og_ 10 8 false (.load none (.t 9)), og_ 11 8 false (.bin .eql (.t 10) (.c (.int .i64 12))), oo_ 12 (.pick (.t 8) (.c (.bool true)) (.t 11))]) (.cond (.t 12) (.reg [om_ 13 3, of_ 14 3 1, ol_ 15 14, oo_ 16 (.bslice 3 1 1 [(.int .i64 0)] [(0, (.t 15))]), oo_ 17 (.append 3 false 1 8 (.t 13) (.t 16)), om_ 3 17]) .skip)) (.seq (.seq (.reg [of_ 18 0 1, ol_ 19 18, oo_ 20 (.bin .eql (.t 19) (.c (.int .i64 14)))]) (.cond (.t 20) (.reg [om_ 21 3, of_ 22 4 1, ol_ 23 22, oo_ 24 (.bslice 3 1 1 [(.int .i64 0)] [(0, (.t 23))]), oo_ 25 (.append 3 false 1 8 (.t 21) (.t 24)), om_ 3 25]) .skip)) (.seq (.seq (.reg [oo_ 4 (.mv (.c (.int .i64 0)))]) (.block 0 (.loop (.seq (.seq (.reg [om_ 26 4, of_ 27 5 1, ol_ 28 27, oo_ 29 (.len false (.t 28)), oo_ 30 (.bin .lss (.t 26) (.t 29)), om_ 31 30, og_ 32 31 true (.faddr 0 (.t 1)), og_ 33 31 true (.load none (.t 32)), og_ 34 31 true (.bin .geq (.t 33) (.c (.int .i64 13))), oo_ 35 (.pick (.t 31) (.t 34) (.c (.bool false))), om_ 36 35, og_ 37 36 true (.faddr 0 (.t 1)), og_ 38 36 true (.load none (.t 37)), og_ 39 36 true (.bin .leq (.t 38) (.c (.int .i64 14))), oo_ 40 (.pick (.t 36) (.t 39) (.c (.bool false)))]) (.cond (.t 40) .skip (.exit 0))) (.seq (.block 1 (.reg [om_ 43 3, of_ 44 5 1, ol_ 45 44, om_ 46 4, oo_ 47 (.iaddr 5 (.t 45) (.t 46)), of_ 48 2 47, ol_ 49 48, oo_ 50 (.bslice 3 1 1 [(.int .i64 0)] [(0, (.t 49))]), oo_ 51 (.append 3 false 1 8 (.t 43) (.t 50)), om_ 3 51])) (.reg [om_ 41 4, oo_ 42 (.bin .add (.t 41) (.c (.int .i64 1))), om_ 4 42])))))) (.seq (.reg [om_ 52 3, om_ 2 52]) .ret))))))
theorem broadsheetref06_Parts.code : comp PG [] (Tryz.f127.body.getD .skip) = broadsheetref06_Parts.c := by kernel_rfl
theorem broadsheetref06_Parts.of : OfE PG 127 1 broadsheetref06_Parts.c [(.t 2)] := fnE (nt := 53) mixed Tryz.func127 broadsheetref06_Parts.code (by kernel_rfl) (by kernel_rfl) (by kernel_rfl) (by kernel_rfl) (by kernel_rfl) (by kernel_rfl)
def broadsheetref06_item.n : Nat := 128
noncomputable def broadsheetref06_item.c : C := (.seq (.reg [oo_ 4 (.box 67 (.t 1)), oo_ 6 (.mv (.c (.int .i64 0)))]) (.seq (.reg [of_ 11 5 4, ol_ 12 11, om_ 13 2, oo_ 14 (.iaddr 5 (.t 12) (.t 13)), oo_ 15 (.load (some 5) (.t 14)), oo_ 7 (.allc 70 [(.str []), (.int .u64 0), (.int .i64 0), (.bool false), (.bool false)]), os_ (.store 5 (.t 7) (.t 15))]) (.seq (.seq (.reg [of_ 16 0 7, ol_ 17 16, oo_ 18 (.call 126 [(.t 17)]), oo_ 19 (.un .not (.t 18))]) (.cond (.t 19) (.seq (.reg [oo_ 6 (.mv (.c (.int .i64 5)))]) .ret) .skip)) (.seq (.reg [oo_ 8 (.mv (.c (.bool false)))]) (.seq (.seq (.reg [oo_ 9 (.mv (.c (.int .i64 0)))]) (.block 0 (.loop (.seq (.seq (.reg [om_ 20 9, om_ 21 2, oo_ 22 (.bin .lss (.t 20) (.t 21))]) (.cond (.t 22) .skip (.exit 0))) (.seq (.block 1 (.seq (.seq (.dreg [of_ 25 5 4, ol_ 26 25, om_ 27 9, oo_ 28 (.iaddr 5 (.t 26) (.t 27)), of_ 29 0 28, ol_ 30 29, of_ 31 0 7, ol_ 32 31] [oo_ 33 (.bin .eql (.t 30) (.t 32))]) (.cond (.t 33) (.seq (.reg [oo_ 6 (.mv (.c (.int .i64 6)))]) .ret) .skip)) (.dreg [om_ 34 8, om_ 35 34, og_ 36 35 false (.faddr 5 (.t 4)), og_ 37 35 false (.load none (.t 36)), og_ 38 35 false (.mv (.t 9)), og_ 39 35 false (.iaddr 5 (.t 37) (.t 38)), og_ 40 35 false (.faddr 1 (.t 39)), og_ 41 35 false (.load none (.t 40)), og_ 42 35 false (.faddr 1 (.t 7)), og_ 43 35 false (.load none (.t 42))] [og_ 44 35 false (.bin .eql (.t 41) (.t 43)), oo_ 45 (.pick (.t 35) (.c (.bool true)) (.t 44)), om_ 8 45]))) (.reg [om_ 23 9, oo_ 24 (.bin .add (.t 23) (.c (.int .i64 1))), om_ 9 24])))))) (.seq (.seq (.reg [of_ 46 0 4, ol_ 47 46, oo_ 48 (.bin .eql (.t 47) (.c (.int .i64 13)))]) (.cond (.t 48) (.seq (.reg [om_ 49 0, of_ 50 2 7, ol_ 51 50, oo_ 52 (.iaddr 6 (.t 49) (.t 51)), of_ 53 0 52, ol_ 54 53, om_ 10 54]) (.seq (.seq (.reg [of_ 55 3 7, ol_ 56 55, om_ 57 56, og_ 58 57 true (.mv (.t 10)), og_ 59 57 true (.call 84 [(.t 58)]), og_ 60 57 true (.un .not (.t 59)), oo_ 61 (.pick (.t 57) (.t 60) (.c (.bool false))), om_ 62 61, og_ 63 62 true (.mv (.t 10)), og_ 64 62 true (.bin .neq (.t 63) (.c (.int .i64 10))), oo_ 65 (.pick (.t 62) (.t 64) (.c (.bool false)))]) (.cond (.t 65) (.seq (.reg [oo_ 6 (.mv (.c (.int .i64 17)))]) .ret) .skip)) (.seq (.reg [oo_ 6 (.mv (.c (.int .i64 0)))]) .ret))) .skip)) (.seq (.seq (.reg [of_ 66 4 7, ol_ 67 66]) (.cond (.t 67) (.seq (.seq (.reg [om_ 68 2, of_ 69 5 4, ol_ 70 69, oo_ 71 (.len false (.t 70)), oo_ 72 (.bin .sub (.t 71) (.c (.int .i64 1))), oo_ 73 (.bin .lss (.t 68) (.t 72))]) (.cond (.t 73) (.seq (.reg [oo_ 6 (.mv (.c (.int .i64 14)))]) .ret) .skip)) (.seq (.reg [oo_ 6 (.mv (.c (.int .i64 0)))]) .ret)) .skip)) (.seq (.seq (.reg [om_ 74 0, oo_ 75 (.load (some 6) (.t 4)), of_ 76 1 7, ol_ 77 76, oo_ 78 (.call 165 [(.t 74), (.t 75), (.t 77)]), oo_ 79 (.un .not (.t 78))]) (.cond (.t 79) (.seq (.reg [oo_ 6 (.mv (.c (.int .i64 7)))]) .ret) .skip)) (.seq (.seq (.reg [om_ 80 8]) (.cond (.t 80) (.seq (.reg [oo_ 6 (.mv (.c (.int .i64 6)))]) .ret) .skip)) (.seq (.reg [oo_ 6 (.mv (.c (.int .i64 0)))]) .ret))))))))))
theorem broadsheetref06_item.code : comp PG [] (Tryz.f128.body.getD .skip) = broadsheetref06_item.c := by kernel_rfl
theorem broadsheetref06_item.of : OfE PG 128 3 broadsheetref06_item.c [(.t 6)] := fnE (nt := 81) mixed Tryz.func128 broadsheetref06_item.code (by kernel_rfl) (by kernel_rfl) (by kernel_rfl) (by kernel_rfl) (by kernel_rfl) (by kernel_rfl)
def broadsheetref06_Deep.n : Nat := 129
noncomputable def broadsheetref06_Deep.c : C := (.seq (.reg [oo_ 4 (.mv (.c (.int .i64 0)))]) (.seq (.seq (.reg [om_ 9 1, oo_ 10 (.bin .lss (.t 9) (.c (.int .i64 0))), om_ 11 10, og_ 12 11 false (.mv (.t 1)), og_ 13 11 false (.mv (.t 0)), og_ 14 11 false (.len false (.t 13)), og_ 15 11 false (.bin .geq (.t 12) (.t 14)), oo_ 16 (.pick (.t 11) (.c (.bool true)) (.t 15))]) (.cond (.t 16) (.seq (.reg [oo_ 4 (.mv (.c (.int .i64 0)))]) .ret) .skip)) (.seq (.reg [om_ 17 0, om_ 18 1, oo_ 19 (.iaddr 6 (.t 17) (.t 18)), oo_ 20 (.load (some 6) (.t 19)), oo_ 21 (.call 127 [(.t 20)]), om_ 5 21]) (.seq (.reg [oo_ 6 (.mv (.c (.int .i64 1)))]) (.seq (.seq (.reg [oo_ 7 (.mv (.c (.int .i64 0)))]) (.block 0 (.loop (.seq (.seq (.reg [om_ 22 7, om_ 23 5, oo_ 24 (.len false (.t 23)), oo_ 25 (.bin .lss (.t 22) (.t 24))]) (.cond (.t 25) .skip (.exit 0))) (.seq (.block 1 (.seq (.reg [om_ 28 5, om_ 29 7, oo_ 30 (.iaddr 1 (.t 28) (.t 29)), ol_ 31 30, om_ 32 1, oo_ 33 (.bin .lss (.t 31) (.t 32)), om_ 34 33, og_ 35 34 true (.mv (.t 5)), og_ 36 34 true (.mv (.t 7)), og_ 37 34 true (.iaddr 1 (.t 35) (.t 36)), og_ 38 34 true (.load none (.t 37)), og_ 39 34 true (.bin .geq (.t 38) (.c (.int .i64 0))), oo_ 40 (.pick (.t 34) (.t 39) (.c (.bool false)))]) (.cond (.t 40) (.seq (.reg [om_ 41 0, om_ 42 5, om_ 43 7, oo_ 44 (.iaddr 1 (.t 42) (.t 43)), ol_ 45 44, oo_ 46 (.call 129 [(.t 41), (.t 45)]), oo_ 47 (.bin .add (.t 46) (.c (.int .i64 1))), om_ 8 47]) (.seq (.reg [om_ 48 8, om_ 49 6, oo_ 50 (.bin .gtr (.t 48) (.t 49))]) (.cond (.t 50) (.reg [om_ 51 8, om_ 6 51]) .skip))) .skip))) (.reg [om_ 26 7, oo_ 27 (.bin .add (.t 26) (.c (.int .i64 1))), om_ 7 27])))))) (.seq (.reg [om_ 52 6, om_ 4 52]) .ret))))))
theorem broadsheetref06_Deep.code : comp PG [] (Tryz.f129.body.getD .skip) = broadsheetref06_Deep.c := by kernel_rfl
theorem broadsheetref06_Deep.of : OfE PG 129 2 broadsheetref06_Deep.c [(.t 4)] := fnE (nt := 53) mixed Tryz.func129 broadsheetref06_Deep.code (by kernel_rfl) (by kernel_rfl) (by kernel_rfl) (by kernel_rfl) (by kernel_rfl) (by kernel_rfl)
def word_Wide.n : Nat := 130
noncomputable def word_Wide.c : C := (.seq (.reg [oo_ 4 (.mv (.c (.int .u64 0)))]) (.seq (.reg [om_ 5 0, om_ 6 1, oo_ 7 (.call 166 [(.t 5), (.t 6)]), oo_ 8 (.conv .u64 (.t 7)), om_ 4 8]) .ret))
theorem word_Wide.code : comp PG [] (Tryz.f130.body.getD .skip) = word_Wide.c := by kernel_rfl
theorem word_Wide.of : OfE PG 130 2 word_Wide.c [(.t 4)] := fnE (nt := 9) mixed Tryz.func130 word_Wide.code (by kernel_rfl) (by kernel_rfl) (by kernel_rfl) (by kernel_rfl) (by kernel_rfl) (by kernel_rfl)
def prim_Size.n : Nat := 131
noncomputable def prim_Size.c : C := (.seq (.reg [oo_ 2 (.mv (.c (.int .i64 0)))]) (.seq (.reg [om_ 3 0, oo_ 4 (.call 133 [(.t 3)]), oo_ 5 (.field 0 none (.t 4)), om_ 2 5]) .ret))
theorem prim_Size.code : comp PG [] (Tryz.f131.body.getD .skip) = prim_Size.c := by kernel_rfl
theorem prim_Size.of : OfE PG 131 1 prim_Size.c [(.t 2)] := fnE (nt := 6) mixed Tryz.func131 prim_Size.code (by kernel_rfl) (by kernel_rfl) (by kernel_rfl) (by kernel_rfl) (by kernel_rfl) (by kernel_rfl)
def prim_Low.n : Nat := 132
noncomputable def prim_Low.c : C := (.seq (.reg [oo_ 4 (.mv (.c (.int .u64 0)))]) (.seq (.reg [om_ 7 0, oo_ 8 (.call 131 [(.t 7)]), om_ 5 8]) (.seq (.seq (.reg [om_ 9 5, oo_ 10 (.bin .eql (.t 9) (.c (.int .i64 0)))]) (.cond (.t 10) (.seq (.reg [oo_ 4 (.mv (.c (.int .u64 0)))]) .ret) .skip)) (.seq (.reg [om_ 11 5, oo_ 12 (.bin .mul (.c (.int .i64 8)) (.t 11)), oo_ 13 (.bin .sub (.c (.int .i64 64)) (.t 12)), oo_ 14 (.conv .u64 (.t 13)), om_ 6 14]) (.seq (.reg [om_ 15 1, om_ 16 6, oo_ 17 (.bin .shl (.t 15) (.t 16)), om_ 18 6, oo_ 19 (.bin .shr (.t 17) (.t 18)), om_ 4 19]) .ret)))))
theorem prim_Low.code : comp PG [] (Tryz.f132.body.getD .skip) = prim_Low.c := by kernel_rfl
theorem prim_Low.of : OfE PG 132 2 prim_Low.c [(.t 4)] := fnE (nt := 20) mixed Tryz.func132 prim_Low.code (by kernel_rfl) (by kernel_rfl) (by kernel_rfl) (by kernel_rfl) (by kernel_rfl) (by kernel_rfl)
def prim_rows.n : Nat := 133
noncomputable def prim_rows.c : C := (.seq (.reg [oo_ 2 (.allc 181 [(.int .i64 0), (.bool false)])]) (.seq (.reg [oo_ 4 (.build [(.int .i64 0), (.bool false)] [(0, (1, (.c (.int .i64 1)))), (1, (1, (.c (.bool false))))]), oo_ 5 (.build [(.int .i64 0), (.bool false)] [(0, (1, (.c (.int .i64 1)))), (1, (1, (.c (.bool false))))]), oo_ 6 (.build [(.int .i64 0), (.bool false)] [(0, (1, (.c (.int .i64 2)))), (1, (1, (.c (.bool true))))]), oo_ 7 (.build [(.int .i64 0), (.bool false)] [(0, (1, (.c (.int .i64 2)))), (1, (1, (.c (.bool false))))]), oo_ 8 (.build [(.int .i64 0), (.bool false)] [(0, (1, (.c (.int .i64 4)))), (1, (1, (.c (.bool true))))]), oo_ 9 (.build [(.int .i64 0), (.bool false)] [(0, (1, (.c (.int .i64 4)))), (1, (1, (.c (.bool false))))]), oo_ 10 (.build [(.int .i64 0), (.bool false)] [(0, (1, (.c (.int .i64 8)))), (1, (1, (.c (.bool true))))]), oo_ 11 (.build [(.int .i64 0), (.bool false)] [(0, (1, (.c (.int .i64 8)))), (1, (1, (.c (.bool false))))]), oo_ 12 (.build [(.int .i64 0), (.bool false)] [(0, (1, (.c (.int .i64 4)))), (1, (1, (.c (.bool true))))]), oo_ 13 (.build [(.int .i64 0), (.bool false), (.int .i64 0), (.bool false), (.int .i64 0), (.bool false), (.int .i64 0), (.bool false), (.int .i64 0), (.bool false), (.int .i64 0), (.bool false), (.int .i64 0), (.bool false), (.int .i64 0), (.bool false), (.int .i64 0), (.bool false), (.int .i64 0), (.bool false)] [(2, (2, (.t 4))), (4, (2, (.t 5))), (6, (2, (.t 6))), (8, (2, (.t 7))), (10, (2, (.t 8))), (12, (2, (.t 9))), (14, (2, (.t 10))), (16, (2, (.t 11))), (18, (2, (.t 12)))]), oo_ 3 (.allc 213 [(.int .i64 0), (.bool false), (.int .i64 0), (.bool false), (.int .i64 0), (.bool false), (.int .i64 0), (.bool false), (.int .i64 0), (.bool false), (.int .i64 0), (.bool false), (.int .i64 0), (.bool false), (.int .i64 0), (.bool false), (.int .i64 0), (.bool false), (.int .i64 0), (.bool false)]), os_ (.store 20 (.t 3) (.t 13))]) (.seq (.seq (.reg [om_ 14 0, oo_ 15 (.call 77 [(.t 14)]), oo_ 16 (.un .not (.t 15))]) (.cond (.t 16) (.seq (.reg [oo_ 17 (.build [(.int .i64 0), (.bool false)] []), os_ (.store 2 (.t 2) (.t 17))]) .ret) .skip)) (.seq (.reg [om_ 18 0, oo_ 19 (.iarr 10 2 (.t 3) (.t 18)), oo_ 20 (.load (some 2) (.t 19)), os_ (.store 2 (.t 2) (.t 20))]) .ret))))
theorem prim_rows.code : comp PG [] (Tryz.f133.body.getD .skip) = prim_rows.c := by kernel_rfl
theorem prim_rows.of : OfE PG 133 1 prim_rows.c [(.cell 2 (some 2))] := fnE (nt := 21) mixed Tryz.func133 prim_rows.code (by kernel_rfl) (by kernel_rfl) (by kernel_rfl) (by kernel_rfl) (by kernel_rfl) (by kernel_rfl)
def broadsheetref01_Low.n : Nat := 134
noncomputable def broadsheetref01_Low.c : C := (.seq (.reg [oo_ 4 (.mv (.c (.int .u64 0)))]) (.seq (.reg [om_ 6 1, oo_ 7 (.call 136 [(.t 6)]), om_ 5 7]) (.seq (.dreg [om_ 8 0, om_ 9 5, oo_ 10 (.bin .rem (.t 8) (.t 9)), om_ 11 5, om_ 12 0, om_ 13 5, oo_ 14 (.bin .quo (.t 12) (.t 13)), oo_ 15 (.bin .rem (.t 14) (.c (.int .u64 2))), oo_ 16 (.bin .mul (.t 11) (.t 15))] [oo_ 17 (.bin .add (.t 10) (.t 16)), om_ 4 17]) .ret)))
theorem broadsheetref01_Low.code : comp PG [] (Tryz.f134.body.getD .skip) = broadsheetref01_Low.c := by kernel_rfl
theorem broadsheetref01_Low.of : OfE PG 134 2 broadsheetref01_Low.c [(.t 4)] := fnE (nt := 18) mixed Tryz.func134 broadsheetref01_Low.code (by kernel_rfl) (by kernel_rfl) (by kernel_rfl) (by kernel_rfl) (by kernel_rfl) (by kernel_rfl)
def broadsheetref01_Sized.n : Nat := 135
noncomputable def broadsheetref01_Sized.c : C := (.seq (.reg [oo_ 2 (.mv (.c (.bool false)))]) (.seq (.reg [om_ 3 0, oo_ 4 (.bin .eql (.t 3) (.c (.int .i64 1))), om_ 5 4, og_ 6 5 false (.mv (.t 0)), og_ 7 5 false (.bin .eql (.t 6) (.c (.int .i64 2))), oo_ 8 (.pick (.t 5) (.c (.bool true)) (.t 7)), om_ 9 8, og_ 10 9 false (.mv (.t 0)), og_ 11 9 false (.bin .eql (.t 10) (.c (.int .i64 4))), oo_ 12 (.pick (.t 9) (.c (.bool true)) (.t 11)), om_ 13 12, og_ 14 13 false (.mv (.t 0)), og_ 15 13 false (.bin .eql (.t 14) (.c (.int .i64 8))), oo_ 16 (.pick (.t 13) (.c (.bool true)) (.t 15)), om_ 2 16]) .ret))
theorem broadsheetref01_Sized.code : comp PG [] (Tryz.f135.body.getD .skip) = broadsheetref01_Sized.c := by kernel_rfl
theorem broadsheetref01_Sized.of : OfE PG 135 1 broadsheetref01_Sized.c [(.t 2)] := fnE (nt := 17) mixed Tryz.func135 broadsheetref01_Sized.code (by kernel_rfl) (by kernel_rfl) (by kernel_rfl) (by kernel_rfl) (by kernel_rfl) (by kernel_rfl)
def broadsheetref01_half.n : Nat := 136
noncomputable def broadsheetref01_half.c : C := (.seq (.reg [oo_ 2 (.mv (.c (.int .u64 0)))]) (.seq (.reg [oo_ 3 (.mv (.c (.int .u64 128)))]) (.seq (.seq (.reg [oo_ 4 (.mv (.c (.int .i64 1)))]) (.block 0 (.loop (.seq (.seq (.reg [om_ 5 4, om_ 6 0, oo_ 7 (.bin .lss (.t 5) (.t 6))]) (.cond (.t 7) .skip (.exit 0))) (.seq (.block 1 (.reg [om_ 10 3, oo_ 11 (.bin .mul (.t 10) (.c (.int .u64 256))), om_ 3 11])) (.reg [om_ 8 4, oo_ 9 (.bin .add (.t 8) (.c (.int .i64 1))), om_ 4 9])))))) (.seq (.reg [om_ 12 3, om_ 2 12]) .ret))))
theorem broadsheetref01_half.code : comp PG [] (Tryz.f136.body.getD .skip) = broadsheetref01_half.c := by kernel_rfl
theorem broadsheetref01_half.of : OfE PG 136 1 broadsheetref01_half.c [(.t 2)] := fnE (nt := 13) mixed Tryz.func136 broadsheetref01_half.code (by kernel_rfl) (by kernel_rfl) (by kernel_rfl) (by kernel_rfl) (by kernel_rfl) (by kernel_rfl)
def broadsheetref06_Value.n : Nat := 141
noncomputable def broadsheetref06_Value.c : C := (.seq (.reg [oo_ 6 (.mv (.c (.int .i64 0)))]) (.seq (.seq (.reg [om_ 8 1, oo_ 9 (.bin .lss (.t 8) (.c (.int .i64 0))), om_ 10 9, og_ 11 10 false (.mv (.t 1)), og_ 12 10 false (.mv (.t 0)), og_ 13 10 false (.len false (.t 12)), og_ 14 10 false (.bin .geq (.t 11) (.t 13)), oo_ 15 (.pick (.t 10) (.c (.bool true)) (.t 14)), om_ 16 15, og_ 17 16 false (.mv (.t 0)), og_ 18 16 false (.mv (.t 1)), og_ 19 16 false (.iaddr 6 (.t 17) (.t 18)), og_ 20 16 false (.faddr 0 (.t 19)), og_ 21 16 false (.load none (.t 20)), og_ 22 16 false (.bin .neq (.t 21) (.c (.int .i64 9))), oo_ 23 (.pick (.t 16) (.c (.bool true)) (.t 22))]) (.cond (.t 23) (.seq (.reg [oo_ 6 (.mv (.c (.int .i64 (-1))))]) .ret) .skip)) (.seq (.seq (.reg [oo_ 7 (.mv (.c (.int .i64 0)))]) (.block 0 (.loop (.seq (.seq (.reg [om_ 24 7, om_ 25 0, om_ 26 1, oo_ 27 (.iaddr 6 (.t 25) (.t 26)), of_ 28 5 27, ol_ 29 28, oo_ 30 (.len false (.t 29)), oo_ 31 (.bin .lss (.t 24) (.t 30))]) (.cond (.t 31) .skip (.exit 0))) (.seq (.block 1 (.seq (.reg [om_ 34 0, om_ 35 1, oo_ 36 (.iaddr 6 (.t 34) (.t 35)), of_ 37 5 36, ol_ 38 37, om_ 39 7, oo_ 40 (.iaddr 5 (.t 38) (.t 39)), of_ 41 1 40, ol_ 42 41, om_ 43 2, oo_ 44 (.bin .eql (.t 42) (.t 43))]) (.cond (.t 44) (.seq (.reg [om_ 45 7, om_ 6 45]) .ret) .skip))) (.reg [om_ 32 7, oo_ 33 (.bin .add (.t 32) (.c (.int .i64 1))), om_ 7 33])))))) (.seq (.reg [oo_ 6 (.mv (.c (.int .i64 (-1))))]) .ret))))
theorem broadsheetref06_Value.code : comp PG [] (Tryz.f141.body.getD .skip) = broadsheetref06_Value.c := by kernel_rfl
theorem broadsheetref06_Value.of : OfE PG 141 3 broadsheetref06_Value.c [(.t 6)] := fnE (nt := 46) mixed Tryz.func141 broadsheetref06_Value.code (by kernel_rfl) (by kernel_rfl) (by kernel_rfl) (by kernel_rfl) (by kernel_rfl) (by kernel_rfl)
def broadsheetref05_May.n : Nat := 142
noncomputable def broadsheetref05_May.c : C := (.seq (.reg [oo_ 4 (.mv (.c (.bool false)))]) (.seq (.seq (.reg [om_ 7 0, oo_ 8 (.bin .eql (.t 7) (.c (.int .i64 1)))]) (.cond (.t 8) (.seq (.reg [om_ 9 1, oo_ 10 (.bin .lss (.t 9) (.c (.int .u64 2))), om_ 4 10]) .ret) .skip)) (.seq (.seq (.reg [om_ 11 0, oo_ 12 (.call 84 [(.t 11)]), oo_ 13 (.un .not (.t 12))]) (.cond (.t 13) (.seq (.reg [oo_ 4 (.mv (.c (.bool false)))]) .ret) .skip)) (.seq (.seq (.reg [om_ 14 0, oo_ 15 (.call 86 [(.t 14)])]) (.cond (.t 15) (.seq (.reg [om_ 17 1, oo_ 18 (.conv .i64 (.t 17)), om_ 19 0, oo_ 20 (.call 89 [(.t 19)]), oo_ 21 (.call 174 [(.t 18), (.t 20)]), om_ 16 21, oo_ 22 (.extr (.t 16) 0), oo_ 23 (.extr (.t 16) 1), om_ 5 22, om_ 6 23]) (.seq (.reg [om_ 24 6, oo_ 25 (.bin .eql (.t 24) (.c (.int .i64 0))), om_ 4 25]) .ret)) .skip)) (.seq (.reg [om_ 26 0, om_ 27 1, oo_ 28 (.call 87 [(.t 26), (.t 27)]), om_ 29 1, oo_ 30 (.bin .eql (.t 28) (.t 29)), om_ 4 30]) .ret)))))
theorem broadsheetref05_May.code : comp PG [] (Tryz.f142.body.getD .skip) = broadsheetref05_May.c := by kernel_rfl
theorem broadsheetref05_May.of : OfE PG 142 2 broadsheetref05_May.c [(.t 4)] := fnE (nt := 31) mixed Tryz.func142 broadsheetref05_May.code (by kernel_rfl) (by kernel_rfl) (by kernel_rfl) (by kernel_rfl) (by kernel_rfl) (by kernel_rfl)
def types_look_may.n : Nat := 161
noncomputable def types_look_may.c : C := (.seq (.reg [oo_ 4 (.mv (.c (.bool false)))]) (.seq (.seq (.reg [om_ 8 0, oo_ 9 (.nilck (.t 8)), of_ 10 2 9, of_ 11 0 10, ol_ 12 11, oo_ 13 (.bin .eql (.t 12) (.c (.int .i64 9)))]) (.cond (.t 13) (.seq (.reg [om_ 14 1, oo_ 15 (.call 196 [(.c (.int .i64 9)), (.t 14)]), om_ 4 15]) .ret) .skip)) (.seq (.dreg [om_ 16 0, oo_ 17 (.nilck (.t 16)), of_ 18 0 17, ol_ 19 18, om_ 20 0, oo_ 21 (.nilck (.t 20)), of_ 22 2 21, of_ 23 4 22, ol_ 24 23, oo_ 25 (.iaddr 6 (.t 19) (.t 24)), oo_ 26 (.load (some 6) (.t 25)), oo_ 5 (.allc 67 [(.int .i64 0), (.str []), (.int .i64 0), (.int .i64 0), (.int .i64 0), .nilS])] [os_ (.store 6 (.t 5) (.t 26))]) (.seq (.seq (.reg [of_ 27 0 5, ol_ 28 27, oo_ 29 (.bin .eql (.t 28) (.c (.int .i64 9)))]) (.cond (.t 29) (.seq (.dreg [om_ 31 0, oo_ 32 (.nilck (.t 31)), of_ 33 0 32, ol_ 34 33, om_ 35 0, oo_ 36 (.nilck (.t 35)), of_ 37 2 36, of_ 38 4 37, ol_ 39 38, om_ 40 1, oo_ 41 (.call 197 [(.t 34), (.t 39), (.t 40)]), om_ 30 41, oo_ 42 (.extr (.t 30) 0), oo_ 43 (.extr (.t 30) 1), om_ 6 42] [om_ 7 43]) (.seq (.reg [om_ 44 7, om_ 4 44]) .ret)) .skip)) (.seq (.reg [of_ 45 0 5, ol_ 46 45, om_ 47 1, oo_ 48 (.call 196 [(.t 46), (.t 47)]), om_ 4 48]) .ret)))))
theorem types_look_may.code : comp PG [] (Tryz.f161.body.getD .skip) = types_look_may.c := by kernel_rfl
theorem types_look_may.of : OfE PG 161 2 types_look_may.c [(.t 4)] := fnE (nt := 49) mixed Tryz.func161 types_look_may.code (by kernel_rfl) (by kernel_rfl) (by kernel_rfl) (by kernel_rfl) (by kernel_rfl) (by kernel_rfl)
def broadsheetref06_number.n : Nat := 165
noncomputable def broadsheetref06_number.c : C := (.seq (.reg [oo_ 4 (.box 67 (.t 1)), oo_ 6 (.mv (.c (.bool false)))]) (.seq (.seq (.reg [of_ 7 0 4, ol_ 8 7, oo_ 9 (.bin .eql (.t 8) (.c (.int .i64 9)))]) (.cond (.t 9) (.seq (.reg [om_ 10 2, oo_ 11 (.call 142 [(.c (.int .i64 9)), (.t 10)]), om_ 6 11]) .ret) .skip)) (.seq (.seq (.reg [om_ 12 0, of_ 13 4 4, ol_ 14 13, oo_ 15 (.iaddr 6 (.t 12) (.t 14)), of_ 16 0 15, ol_ 17 16, oo_ 18 (.bin .eql (.t 17) (.c (.int .i64 9)))]) (.cond (.t 18) (.seq (.reg [om_ 19 0, of_ 20 4 4, ol_ 21 20, om_ 22 2, oo_ 23 (.call 141 [(.t 19), (.t 21), (.t 22)]), oo_ 24 (.bin .geq (.t 23) (.c (.int .i64 0))), om_ 6 24]) .ret) .skip)) (.seq (.reg [om_ 25 0, of_ 26 4 4, ol_ 27 26, oo_ 28 (.iaddr 6 (.t 25) (.t 27)), of_ 29 0 28, ol_ 30 29, om_ 31 2, oo_ 32 (.call 142 [(.t 30), (.t 31)]), om_ 6 32]) .ret))))
theorem broadsheetref06_number.code : comp PG [] (Tryz.f165.body.getD .skip) = broadsheetref06_number.c := by kernel_rfl
theorem broadsheetref06_number.of : OfE PG 165 3 broadsheetref06_number.c [(.t 6)] := fnE (nt := 33) mixed Tryz.func165 broadsheetref06_number.code (by kernel_rfl) (by kernel_rfl) (by kernel_rfl) (by kernel_rfl) (by kernel_rfl) (by kernel_rfl)
def word_Sign.n : Nat := 166
noncomputable def word_Sign.c : C := (.seq (.reg [oo_ 4 (.mv (.c (.int .i64 0)))]) (.seq (.seq (.reg [om_ 6 1, oo_ 7 (.call 201 [(.t 6)]), oo_ 8 (.un .not (.t 7))]) (.cond (.t 8) (.seq (.reg [oo_ 4 (.mv (.c (.int .i64 0)))]) .ret) .skip)) (.seq (.reg [om_ 9 1, oo_ 10 (.bin .mul (.c (.int .i64 8)) (.t 9)), oo_ 11 (.bin .sub (.c (.int .i64 64)) (.t 10)), oo_ 12 (.conv .u64 (.t 11)), om_ 5 12]) (.seq (.reg [om_ 13 0, om_ 14 5, oo_ 15 (.bin .shl (.t 13) (.t 14)), oo_ 16 (.conv .i64 (.t 15)), om_ 17 5, oo_ 18 (.bin .shr (.t 16) (.t 17)), om_ 4 18]) .ret))))
theorem word_Sign.code : comp PG [] (Tryz.f166.body.getD .skip) = word_Sign.c := by kernel_rfl
theorem word_Sign.of : OfE PG 166 2 word_Sign.c [(.t 4)] := fnE (nt := 19) mixed Tryz.func166 word_Sign.code (by kernel_rfl) (by kernel_rfl) (by kernel_rfl) (by kernel_rfl) (by kernel_rfl) (by kernel_rfl)
def broadsheetref01_Bits.n : Nat := 174
noncomputable def broadsheetref01_Bits.c : C := (.seq (.reg [oo_ 4 (.mv (.c (.int .u64 0))), oo_ 5 (.mv (.c (.int .i64 0)))]) (.seq (.seq (.reg [om_ 7 1, oo_ 8 (.call 135 [(.t 7)]), oo_ 9 (.un .not (.t 8))]) (.cond (.t 9) (.seq (.reg [oo_ 4 (.mv (.c (.int .u64 0))), oo_ 5 (.mv (.c (.int .i64 4)))]) .ret) .skip)) (.seq (.reg [om_ 10 1, oo_ 11 (.call 136 [(.t 10)]), om_ 6 11]) (.seq (.seq (.reg [om_ 12 0, oo_ 13 (.bin .geq (.t 12) (.c (.int .i64 0))), om_ 14 13, og_ 15 14 true (.mv (.t 0)), og_ 16 14 true (.conv .u64 (.t 15)), og_ 17 14 true (.mv (.t 6)), og_ 18 14 true (.bin .geq (.t 16) (.t 17)), oo_ 19 (.pick (.t 14) (.t 18) (.c (.bool false))), om_ 20 19, og_ 21 20 false (.mv (.t 0)), og_ 22 20 false (.bin .lss (.t 21) (.c (.int .i64 0))), og_ 23 20 false (.mv (.t 22)), og_ 24 23 true (.mv (.t 0)), og_ 25 23 true (.bin .add (.t 24) (.c (.int .i64 1))), og_ 26 23 true (.un .neg (.t 25)), og_ 27 23 true (.conv .u64 (.t 26)), og_ 28 23 true (.mv (.t 6)), og_ 29 23 true (.bin .geq (.t 27) (.t 28)), og_ 30 20 false (.pick (.t 23) (.t 29) (.c (.bool false))), oo_ 31 (.pick (.t 20) (.c (.bool true)) (.t 30))]) (.cond (.t 31) (.seq (.reg [oo_ 4 (.mv (.c (.int .u64 0))), oo_ 5 (.mv (.c (.int .i64 7)))]) .ret) .skip)) (.seq (.seq (.reg [om_ 32 0, oo_ 33 (.bin .geq (.t 32) (.c (.int .i64 0)))]) (.cond (.t 33) (.seq (.reg [om_ 34 0, oo_ 35 (.conv .u64 (.t 34)), om_ 4 35, oo_ 5 (.mv (.c (.int .i64 0)))]) .ret) .skip)) (.seq (.reg [om_ 36 6, om_ 37 6, oo_ 38 (.bin .sub (.t 37) (.c (.int .u64 1))), om_ 39 0, oo_ 40 (.bin .add (.t 39) (.c (.int .i64 1))), oo_ 41 (.un .neg (.t 40)), oo_ 42 (.conv .u64 (.t 41)), oo_ 43 (.bin .sub (.t 38) (.t 42)), oo_ 44 (.bin .add (.t 36) (.t 43)), om_ 4 44, oo_ 5 (.mv (.c (.int .i64 0)))]) .ret))))))
theorem broadsheetref01_Bits.code : comp PG [] (Tryz.f174.body.getD .skip) = broadsheetref01_Bits.c := by kernel_rfl
theorem broadsheetref01_Bits.of : OfE PG 174 2 broadsheetref01_Bits.c [(.t 4), (.t 5)] := fnE (nt := 45) mixed Tryz.func174 broadsheetref01_Bits.code (by kernel_rfl) (by kernel_rfl) (by kernel_rfl) (by kernel_rfl) (by kernel_rfl) (by kernel_rfl)
def prim_May.n : Nat := 196
noncomputable def prim_May.c : C := (.seq (.reg [oo_ 4 (.mv (.c (.bool false)))]) (.seq (.reg [om_ 5 0, oo_ 6 (.call 77 [(.t 5)]), om_ 7 6, og_ 8 7 true (.mv (.t 0)), og_ 9 7 true (.mv (.t 1)), og_ 10 7 true (.call 82 [(.t 8), (.t 9)]), og_ 11 7 true (.mv (.t 1)), og_ 12 7 true (.bin .eql (.t 10) (.t 11)), oo_ 13 (.pick (.t 7) (.t 12) (.c (.bool false))), om_ 14 13, og_ 15 14 true (.mv (.t 0)), og_ 16 14 true (.bin .neq (.t 15) (.c (.int .i64 1))), og_ 17 14 true (.mv (.t 16)), og_ 18 17 false (.mv (.t 1)), og_ 19 17 false (.bin .leq (.t 18) (.c (.int .u64 1))), og_ 20 14 true (.pick (.t 17) (.c (.bool true)) (.t 19)), oo_ 21 (.pick (.t 14) (.t 20) (.c (.bool false))), om_ 4 21]) .ret))
theorem prim_May.code : comp PG [] (Tryz.f196.body.getD .skip) = prim_May.c := by kernel_rfl
theorem prim_May.of : OfE PG 196 2 prim_May.c [(.t 4)] := fnE (nt := 22) mixed Tryz.func196 prim_May.code (by kernel_rfl) (by kernel_rfl) (by kernel_rfl) (by kernel_rfl) (by kernel_rfl) (by kernel_rfl)
def types_Value.n : Nat := 197
noncomputable def types_Value.c : C := (.seq (.reg [oo_ 5 (.box 33 (.t 2)), oo_ 6 (.mv (.c (.int .i64 0))), oo_ 7 (.mv (.c (.bool false)))]) (.seq (.reg [om_ 8 0, om_ 9 1, oo_ 10 (.mkfn 216 [] [(.t 5)]), oo_ 11 (.call 78 [(.t 8), (.t 9), (.c (.clo 215 [] [])), (.t 10)]), oo_ 12 (.extr (.t 11) 0), oo_ 13 (.extr (.t 11) 1), om_ 6 12, om_ 7 13]) .ret))
theorem types_Value.code : comp PG [] (Tryz.f197.body.getD .skip) = types_Value.c := by kernel_rfl
theorem types_Value.of : OfE PG 197 3 types_Value.c [(.t 6), (.t 7)] := fnE (nt := 14) mixed Tryz.func197 types_Value.code (by kernel_rfl) (by kernel_rfl) (by kernel_rfl) (by kernel_rfl) (by kernel_rfl) (by kernel_rfl)
def word_sized.n : Nat := 201
noncomputable def word_sized.c : C := (.seq (.reg [oo_ 2 (.mv (.c (.bool false)))]) (.seq (.reg [om_ 3 0, oo_ 4 (.bin .eql (.t 3) (.c (.int .i64 1))), om_ 5 4, og_ 6 5 false (.mv (.t 0)), og_ 7 5 false (.bin .eql (.t 6) (.c (.int .i64 2))), oo_ 8 (.pick (.t 5) (.c (.bool true)) (.t 7)), om_ 9 8, og_ 10 9 false (.mv (.t 0)), og_ 11 9 false (.bin .eql (.t 10) (.c (.int .i64 4))), oo_ 12 (.pick (.t 9) (.c (.bool true)) (.t 11)), om_ 13 12, og_ 14 13 false (.mv (.t 0)), og_ 15 13 false (.bin .eql (.t 14) (.c (.int .i64 8))), oo_ 16 (.pick (.t 13) (.c (.bool true)) (.t 15)), om_ 2 16]) .ret))
theorem word_sized.code : comp PG [] (Tryz.f201.body.getD .skip) = word_sized.c := by kernel_rfl
theorem word_sized.of : OfE PG 201 1 word_sized.c [(.t 2)] := fnE (nt := 17) mixed Tryz.func201 word_sized.code (by kernel_rfl) (by kernel_rfl) (by kernel_rfl) (by kernel_rfl) (by kernel_rfl) (by kernel_rfl)
def broadsheetref01_Byte.n : Nat := 207
noncomputable def broadsheetref01_Byte.c : C := (.seq (.reg [oo_ 2 (.mv (.c (.str [])))]) (.seq (.reg [om_ 3 0, oo_ 4 (.conv .u8 (.t 3)), oo_ 5 (.bslice 5 1 1 [(.int .u8 0)] [(0, (.t 4))]), oo_ 6 (.bytesS (.t 5)), om_ 2 6]) .ret))
theorem broadsheetref01_Byte.code : comp PG [] (Tryz.f207.body.getD .skip) = broadsheetref01_Byte.c := by kernel_rfl
theorem broadsheetref01_Byte.of : OfE PG 207 1 broadsheetref01_Byte.c [(.t 2)] := fnE (nt := 7) mixed Tryz.func207 broadsheetref01_Byte.code (by kernel_rfl) (by kernel_rfl) (by kernel_rfl) (by kernel_rfl) (by kernel_rfl) (by kernel_rfl)
def types_Value_1.n : Nat := 215
noncomputable def types_Value_1.c : C := (.seq (.reg [oo_ 2 (.mv (.c (.bool false)))]) (.seq (.reg [om_ 3 0, oo_ 4 (.bin .eql (.t 3) (.c (.int .i64 9))), om_ 2 4]) .ret))
theorem types_Value_1.code : comp PG [] (Tryz.f215.body.getD .skip) = types_Value_1.c := by kernel_rfl
theorem types_Value_1.of : OfE PG 215 1 types_Value_1.c [(.t 2)] := fnE (nt := 5) mixed Tryz.func215 types_Value_1.code (by kernel_rfl) (by kernel_rfl) (by kernel_rfl) (by kernel_rfl) (by kernel_rfl) (by kernel_rfl)
def types_Value_2.n : Nat := 216
noncomputable def types_Value_2.c : C := (.seq (.reg [oo_ 2 (.box 70 (.t 0)), oo_ 3 (.mv (.c (.bool false)))]) (.seq (.reg [of_ 4 1 2, ol_ 5 4, ol_ 6 1, oo_ 7 (.bin .eql (.t 5) (.t 6)), om_ 3 7]) .ret))
theorem types_Value_2.code : comp PG [] (Tryz.f216.body.getD .skip) = types_Value_2.c := by kernel_rfl
theorem types_Value_2.of' : OfL PG 216 8 types_Value_2.c [(.t 3)] := fnL mixed Tryz.func216 types_Value_2.code (by kernel_rfl) (by kernel_rfl) (by kernel_rfl) (by kernel_rfl) (by kernel_rfl)
end Go.Proofs.YtjaigpidmngaaaaGreat

namespace Go.Proofs.YtjaigpidmngaaaaGreat
set_option maxRecDepth 100000
def broadsheetref08_Digits.n : Nat := 178
noncomputable def broadsheetref08_Digits.c : C := (.seq (.reg [oo_ 2 (.mv (.c (.str [])))]) (.seq (.reg [oo_ 3 (.mv (.c (.str [])))]) (.block 0 (.loop (.block 1 (.seq (.reg [om_ 4 0, oo_ 5 (.bin .rem (.t 4) (.c (.int .u64 10))), oo_ 6 (.conv .i64 (.t 5)), oo_ 7 (.bin .add (.c (.int .i64 48)) (.t 6)), oo_ 8 (.call 207 [(.t 7)]), om_ 9 3, oo_ 10 (.bin .add (.t 8) (.t 9)), om_ 3 10]) (.seq (.reg [om_ 11 0, oo_ 12 (.bin .quo (.t 11) (.c (.int .u64 10))), om_ 0 12]) (.seq (.reg [om_ 13 0, oo_ 14 (.bin .eql (.t 13) (.c (.int .u64 0)))]) (.cond (.t 14) (.seq (.reg [om_ 15 3, om_ 2 15]) .ret) .skip)))))))))
theorem broadsheetref08_Digits.code : comp PG [] (Tryz.f178.body.getD .skip) = broadsheetref08_Digits.c := by kernel_rfl
theorem broadsheetref08_Digits.of : OfE PG 178 1 broadsheetref08_Digits.c [(.t 2)] := fnE (nt := 16) mixed Tryz.func178 broadsheetref08_Digits.code (by kernel_rfl) (by kernel_rfl) (by kernel_rfl) (by kernel_rfl) (by kernel_rfl) (by kernel_rfl)
end Go.Proofs.YtjaigpidmngaaaaGreat

namespace Go.Proofs.YtjaigpidmngaaaaGreat
set_option maxRecDepth 100000
def path_Find.n : Nat := 55
noncomputable def path_Find.c : C := (.seq (.reg [oo_ 3 (.box 22 (.t 0)), oo_ 4 (.box 3 (.t 1)), oo_ 6 (.allc 96 [.nilS]), oo_ 7 (.allc 3 [(.int .i64 0)]), oo_ 8 (.allc 30 [(.int .i64 0)])]) (.seq (.seq (.reg [ol_ 16 3, ol_ 17 4, oo_ 18 (.call 99 [(.t 16), (.t 17)]), oo_ 19 (.un .not (.t 18))]) (.cond (.t 19) (.seq (.reg [os_ (.store 1 (.t 6) (.c .nilS)), os_ (.store 1 (.t 7) (.c (.int .i64 0))), os_ (.store 1 (.t 8) (.c (.int .i64 8)))]) .ret) .skip)) (.seq (.seq (.reg [om_ 20 2, oo_ 21 (.call 100 [(.t 20)])]) (.block 0 (.rangeF (.t 21) [22, 23] (.reg [om_ 10 23]) (.block 1 (.seq (.reg [om_ 24 10, oo_ 25 (.un .not (.t 24))]) (.cond (.t 25) (.seq (.reg [os_ (.store 1 (.t 6) (.c .nilS)), os_ (.store 1 (.t 7) (.c (.int .i64 0))), os_ (.store 1 (.t 8) (.c (.int .i64 1)))]) .ret) .skip)))))) (.seq (.reg [oo_ 11 (.allc 96 [.nilS])]) (.seq (.seq (.reg [om_ 26 2, oo_ 27 (.call 100 [(.t 26)])]) (.block 2 (.rangeF (.t 27) [28, 29] (.reg [oo_ 12 (.allc 145 [(.str []), (.int .i64 0)]), os_ (.store 2 (.t 12) (.t 28))]) (.block 3 (.seq (.reg [ol_ 31 3, ol_ 32 4, oo_ 33 (.load (some 2) (.t 12)), oo_ 34 (.call 101 [(.t 31), (.t 32), (.t 33)]), om_ 30 34, oo_ 35 (.extr (.t 30) 0), oo_ 36 (.extr (.t 30) 1), oo_ 37 (.extr (.t 30) 2), oo_ 13 (.allc 147 [(.bool false), (.int .i64 0)]), os_ (.store 2 (.t 13) (.t 35)), om_ 14 36, om_ 15 37]) (.seq (.seq (.reg [om_ 38 15, oo_ 39 (.bin .neq (.t 38) (.c (.int .i64 0)))]) (.cond (.t 39) (.seq (.reg [om_ 40 15, os_ (.store 1 (.t 6) (.c .nilS)), os_ (.store 1 (.t 7) (.c (.int .i64 0))), os_ (.store 1 (.t 8) (.t 40))]) .ret) .skip)) (.reg [ol_ 41 11, oo_ 42 (.load (some 2) (.t 13)), oo_ 43 (.bslice 147 2 1 [(.bool false), (.int .i64 0)] [(0, (.t 42))]), oo_ 44 (.append 147 false 2 16 (.t 41) (.t 43)), om_ 45 14, os_ (.store 1 (.t 11) (.t 44)), os_ (.store 1 (.t 4) (.t 45))]))))))) (.seq (.dreg [ol_ 46 11, ol_ 47 4, os_ (.store 1 (.t 6) (.t 46))] [os_ (.store 1 (.t 7) (.t 47)), os_ (.store 1 (.t 8) (.c (.int .i64 0)))]) .ret))))))
theorem path_Find.code : comp PG [] (Tryz.f55.body.getD .skip) = path_Find.c := by kernel_rfl
theorem path_Find.of : OfE PG 55 3 path_Find.c [(.cell 6 none), (.cell 7 none), (.cell 8 none)] := fnE (nt := 48) mixed Tryz.func55 path_Find.code (by kernel_rfl) (by kernel_rfl) (by kernel_rfl) (by kernel_rfl) (by kernel_rfl) (by kernel_rfl)
def broadsheetref12_Find.n : Nat := 57
noncomputable def broadsheetref12_Find.c : C := (.seq (.reg [oo_ 6 (.mv (.c .nilS)), oo_ 7 (.mv (.c (.int .i64 0))), oo_ 8 (.mv (.c (.int .i64 0)))]) (.seq (.seq (.reg [om_ 15 0, om_ 16 1, oo_ 17 (.call 105 [(.t 15), (.t 16)]), oo_ 18 (.un .not (.t 17))]) (.cond (.t 18) (.seq (.reg [oo_ 6 (.mv (.c .nilS)), oo_ 7 (.mv (.c (.int .i64 0))), oo_ 8 (.mv (.c (.int .i64 8)))]) .ret) .skip)) (.seq (.reg [om_ 20 2, oo_ 21 (.call 106 [(.t 20)]), om_ 19 21, oo_ 22 (.extr (.t 19) 0), oo_ 23 (.extr (.t 19) 1), om_ 9 22, om_ 10 23]) (.seq (.seq (.reg [om_ 24 10, oo_ 25 (.un .not (.t 24))]) (.cond (.t 25) (.seq (.reg [oo_ 6 (.mv (.c .nilS)), oo_ 7 (.mv (.c (.int .i64 0))), oo_ 8 (.mv (.c (.int .i64 1)))]) .ret) .skip)) (.seq (.reg [oo_ 11 (.mv (.c .nilS))]) (.seq (.seq (.reg [oo_ 12 (.mv (.c (.int .i64 0)))]) (.block 0 (.loop (.seq (.seq (.reg [om_ 26 12, om_ 27 9, oo_ 28 (.len false (.t 27)), oo_ 29 (.bin .lss (.t 26) (.t 28))]) (.cond (.t 29) .skip (.exit 0))) (.seq (.block 1 (.seq (.reg [om_ 32 0, om_ 33 1, oo_ 34 (.iaddr 6 (.t 32) (.t 33)), oo_ 35 (.load (some 6) (.t 34)), oo_ 13 (.allc 67 [(.int .i64 0), (.str []), (.int .i64 0), (.int .i64 0), (.int .i64 0), .nilS]), os_ (.store 6 (.t 13) (.t 35))]) (.seq (.seq (.reg [om_ 36 9, om_ 37 12, oo_ 38 (.iaddr 2 (.t 36) (.t 37)), of_ 39 0 38, ol_ 40 39, oo_ 41 (.bin .eql (.t 40) (.c (.str [])))]) (.cond (.t 41) (.seq (.seq (.reg [of_ 42 0 13, ol_ 43 42, oo_ 44 (.bin .neq (.t 43) (.c (.int .i64 11))), om_ 45 44, og_ 46 45 true (.faddr 0 (.t 13)), og_ 47 45 true (.load none (.t 46)), og_ 48 45 true (.bin .neq (.t 47) (.c (.int .i64 12))), oo_ 49 (.pick (.t 45) (.t 48) (.c (.bool false)))]) (.cond (.t 49) (.seq (.reg [oo_ 6 (.mv (.c .nilS)), oo_ 7 (.mv (.c (.int .i64 0))), oo_ 8 (.mv (.c (.int .i64 4)))]) .ret) .skip)) (.seq (.seq (.dreg [om_ 50 9, om_ 51 12, oo_ 52 (.iaddr 2 (.t 50) (.t 51)), of_ 53 1 52, ol_ 54 53, of_ 55 2 13, ol_ 56 55] [oo_ 57 (.bin .geq (.t 54) (.t 56))]) (.cond (.t 57) (.seq (.reg [oo_ 6 (.mv (.c .nilS)), oo_ 7 (.mv (.c (.int .i64 0))), oo_ 8 (.mv (.c (.int .i64 7)))]) .ret) .skip)) (.seq (.reg [om_ 58 11, om_ 59 9, om_ 60 12, oo_ 61 (.iaddr 2 (.t 59) (.t 60)), of_ 62 1 61, ol_ 63 62, oo_ 64 (.build [(.bool false), (.int .i64 0)] [(0, (1, (.c (.bool true)))), (1, (1, (.t 63)))]), oo_ 65 (.bslice 147 2 1 [(.bool false), (.int .i64 0)] [(0, (.t 64))]), oo_ 66 (.append 147 false 2 16 (.t 58) (.t 65)), om_ 11 66]) (.seq (.reg [of_ 67 3 13, ol_ 68 67, om_ 1 68]) (.exit 1))))) .skip)) (.seq (.seq (.reg [of_ 69 0 13, ol_ 70 69, oo_ 71 (.bin .neq (.t 70) (.c (.int .i64 13))), om_ 72 71, og_ 73 72 true (.faddr 0 (.t 13)), og_ 74 72 true (.load none (.t 73)), og_ 75 72 true (.bin .neq (.t 74) (.c (.int .i64 14))), oo_ 76 (.pick (.t 72) (.t 75) (.c (.bool false)))]) (.cond (.t 76) (.seq (.reg [oo_ 6 (.mv (.c .nilS)), oo_ 7 (.mv (.c (.int .i64 0))), oo_ 8 (.mv (.c (.int .i64 4)))]) .ret) .skip)) (.seq (.reg [om_ 77 0, om_ 78 1, om_ 79 9, om_ 80 12, oo_ 81 (.iaddr 2 (.t 79) (.t 80)), of_ 82 0 81, ol_ 83 82, oo_ 84 (.call 45 [(.t 77), (.t 78), (.t 83)]), om_ 14 84]) (.seq (.seq (.reg [om_ 85 14, oo_ 86 (.bin .lss (.t 85) (.c (.int .i64 0)))]) (.cond (.t 86) (.seq (.reg [oo_ 6 (.mv (.c .nilS)), oo_ 7 (.mv (.c (.int .i64 0))), oo_ 8 (.mv (.c (.int .i64 5)))]) .ret) .skip)) (.seq (.reg [om_ 87 11, om_ 88 14, oo_ 89 (.build [(.bool false), (.int .i64 0)] [(1, (1, (.t 88)))]), oo_ 90 (.bslice 147 2 1 [(.bool false), (.int .i64 0)] [(0, (.t 89))]), oo_ 91 (.append 147 false 2 16 (.t 87) (.t 90)), om_ 11 91]) (.reg [of_ 92 5 13, ol_ 93 92, om_ 94 14, oo_ 95 (.iaddr 5 (.t 93) (.t 94)), of_ 96 2 95, ol_ 97 96, om_ 1 97])))))))) (.reg [om_ 30 12, oo_ 31 (.bin .add (.t 30) (.c (.int .i64 1))), om_ 12 31])))))) (.seq (.reg [om_ 98 11, om_ 99 1, om_ 6 98, om_ 7 99, oo_ 8 (.mv (.c (.int .i64 0)))]) .ret)))))))
theorem broadsheetref12_Find.code : comp PG [] (Tryz.f57.body.getD .skip) = broadsheetref12_Find.c := by kernel_rfl
theorem broadsheetref12_Find.of : OfE PG 57 3 broadsheetref12_Find.c [(.t 6), (.t 7), (.t 8)] := fnE (nt := 100) mixed Tryz.func57 broadsheetref12_Find.code (by kernel_rfl) (by kernel_rfl) (by kernel_rfl) (by kernel_rfl) (by kernel_rfl) (by kernel_rfl)
def path_known.n : Nat := 99
noncomputable def path_known.c : C := (.seq (.reg [oo_ 4 (.mv (.c (.bool false)))]) (.seq (.reg [om_ 5 1, oo_ 6 (.bin .geq (.t 5) (.c (.int .i64 0))), om_ 7 6, og_ 8 7 true (.mv (.t 1)), og_ 9 7 true (.mv (.t 0)), og_ 10 7 true (.len false (.t 9)), og_ 11 7 true (.bin .lss (.t 8) (.t 10)), oo_ 12 (.pick (.t 7) (.t 11) (.c (.bool false))), om_ 13 12, og_ 14 13 true (.mv (.t 0)), og_ 15 13 true (.call 37 [(.t 14)]), og_ 16 13 true (.field 0 none (.t 15)), og_ 17 13 true (.bin .eql (.t 16) (.c (.int .i64 0))), oo_ 18 (.pick (.t 13) (.t 17) (.c (.bool false))), om_ 4 18]) .ret))
theorem path_known.code : comp PG [] (Tryz.f99.body.getD .skip) = path_known.c := by kernel_rfl
theorem path_known.of : OfE PG 99 2 path_known.c [(.t 4)] := fnE (nt := 19) mixed Tryz.func99 path_known.code (by kernel_rfl) (by kernel_rfl) (by kernel_rfl) (by kernel_rfl) (by kernel_rfl) (by kernel_rfl)
def path_pieces.n : Nat := 100
noncomputable def path_pieces.c : C := (.seq (.reg [oo_ 1 (.box 9 (.t 0)), oo_ 2 (.mv (.c .nilF))]) (.seq (.reg [oo_ 3 (.mkfn 145 [] [(.t 1)]), om_ 2 3]) .ret))
theorem path_pieces.code : comp PG [] (Tryz.f100.body.getD .skip) = path_pieces.c := by kernel_rfl
theorem path_pieces.of : OfE PG 100 1 path_pieces.c [(.t 2)] := fnE (nt := 4) mixed Tryz.func100 path_pieces.code (by kernel_rfl) (by kernel_rfl) (by kernel_rfl) (by kernel_rfl) (by kernel_rfl) (by kernel_rfl)
def path_step.n : Nat := 101
noncomputable def path_step.c : C := (.seq (.reg [oo_ 5 (.box 145 (.t 2)), oo_ 6 (.allc 147 [(.bool false), (.int .i64 0)]), oo_ 7 (.mv (.c (.int .i64 0))), oo_ 8 (.mv (.c (.int .i64 0)))]) (.seq (.reg [om_ 12 0, om_ 13 1, oo_ 14 (.iaddr 6 (.t 12) (.t 13)), oo_ 15 (.load (some 6) (.t 14)), oo_ 9 (.allc 67 [(.int .i64 0), (.str []), (.int .i64 0), (.int .i64 0), (.int .i64 0), .nilS]), os_ (.store 6 (.t 9) (.t 15))]) (.seq (.block 0 (.seq (.seq (.reg [of_ 17 0 5, ol_ 18 17, oo_ 19 (.bin .eql (.t 18) (.c (.str []))), om_ 20 19, og_ 21 20 true (.load (some 6) (.t 9)), og_ 22 20 true (.call 102 [(.t 21)]), og_ 23 20 true (.un .not (.t 22)), oo_ 24 (.pick (.t 20) (.t 23) (.c (.bool false))), om_ 16 24]) (.cond (.t 16) .skip (.reg [of_ 25 0 5, ol_ 26 25, oo_ 27 (.bin .neq (.t 26) (.c (.str []))), om_ 28 27, og_ 29 28 true (.load (some 6) (.t 9)), og_ 30 28 true (.call 103 [(.t 29)]), og_ 31 28 true (.un .not (.t 30)), oo_ 32 (.pick (.t 28) (.t 31) (.c (.bool false))), om_ 16 32]))) (.cond (.t 16) (.seq (.reg [oo_ 33 (.build [(.bool false), (.int .i64 0)] []), os_ (.store 2 (.t 6) (.t 33)), oo_ 7 (.mv (.c (.int .i64 0))), oo_ 8 (.mv (.c (.int .i64 4)))]) .ret) (.seq (.reg [of_ 35 0 5, ol_ 36 35, oo_ 37 (.bin .eql (.t 36) (.c (.str []))), om_ 38 37, og_ 39 38 true (.faddr 1 (.t 5)), og_ 40 38 true (.load none (.t 39)), og_ 41 38 true (.faddr 2 (.t 9)), og_ 42 38 true (.load none (.t 41)), og_ 43 38 true (.bin .geq (.t 40) (.t 42)), oo_ 44 (.pick (.t 38) (.t 43) (.c (.bool false))), om_ 34 44]) (.cond (.t 34) (.seq (.reg [oo_ 45 (.build [(.bool false), (.int .i64 0)] []), os_ (.store 2 (.t 6) (.t 45)), oo_ 7 (.mv (.c (.int .i64 0))), oo_ 8 (.mv (.c (.int .i64 7)))]) .ret) (.seq (.reg [of_ 47 0 5, ol_ 48 47, oo_ 49 (.bin .eql (.t 48) (.c (.str []))), om_ 46 49]) (.cond (.t 46) (.seq (.dreg [of_ 50 1 5, ol_ 51 50, oo_ 52 (.build [(.bool false), (.int .i64 0)] [(0, (1, (.c (.bool true)))), (1, (1, (.t 51)))]), of_ 53 3 9, ol_ 54 53, os_ (.store 2 (.t 6) (.t 52))] [om_ 7 54, oo_ 8 (.mv (.c (.int .i64 0)))]) .ret) .skip))))))) (.seq (.reg [om_ 56 0, om_ 57 1, of_ 58 0 5, ol_ 59 58, oo_ 60 (.call 42 [(.t 56), (.t 57), (.t 59)]), om_ 55 60, oo_ 61 (.extr (.t 55) 0), oo_ 62 (.extr (.t 55) 1), om_ 10 61, om_ 11 62]) (.seq (.seq (.reg [om_ 63 11, oo_ 64 (.un .not (.t 63))]) (.cond (.t 64) (.seq (.reg [oo_ 65 (.build [(.bool false), (.int .i64 0)] []), os_ (.store 2 (.t 6) (.t 65)), oo_ 7 (.mv (.c (.int .i64 0))), oo_ 8 (.mv (.c (.int .i64 5)))]) .ret) .skip)) (.seq (.dreg [om_ 66 10, oo_ 67 (.build [(.bool false), (.int .i64 0)] [(1, (1, (.t 66)))]), of_ 68 5 9, ol_ 69 68, om_ 70 10, oo_ 71 (.iaddr 5 (.t 69) (.t 70)), of_ 72 2 71, ol_ 73 72, os_ (.store 2 (.t 6) (.t 67))] [om_ 7 73, oo_ 8 (.mv (.c (.int .i64 0)))]) .ret))))))
theorem path_step.code : comp PG [] (Tryz.f101.body.getD .skip) = path_step.c := by kernel_rfl
theorem path_step.of : OfE PG 101 3 path_step.c [(.cell 6 (some 2)), (.t 7), (.t 8)] := fnE (nt := 74) mixed Tryz.func101 path_step.code (by kernel_rfl) (by kernel_rfl) (by kernel_rfl) (by kernel_rfl) (by kernel_rfl) (by kernel_rfl)
def path_elems.n : Nat := 102
noncomputable def path_elems.c : C := (.seq (.reg [oo_ 1 (.box 67 (.t 0)), oo_ 2 (.mv (.c (.bool false)))]) (.seq (.reg [of_ 3 0 1, ol_ 4 3, oo_ 5 (.bin .eql (.t 4) (.c (.int .i64 11))), om_ 6 5, og_ 7 6 false (.faddr 0 (.t 1)), og_ 8 6 false (.load none (.t 7)), og_ 9 6 false (.bin .eql (.t 8) (.c (.int .i64 12))), oo_ 10 (.pick (.t 6) (.c (.bool true)) (.t 9)), om_ 2 10]) .ret))
theorem path_elems.code : comp PG [] (Tryz.f102.body.getD .skip) = path_elems.c := by kernel_rfl
theorem path_elems.of : OfE PG 102 1 path_elems.c [(.t 2)] := fnE (nt := 11) mixed Tryz.func102 path_elems.code (by kernel_rfl) (by kernel_rfl) (by kernel_rfl) (by kernel_rfl) (by kernel_rfl) (by kernel_rfl)
def path_items.n : Nat := 103
noncomputable def path_items.c : C := (.seq (.reg [oo_ 1 (.box 67 (.t 0)), oo_ 2 (.mv (.c (.bool false)))]) (.seq (.reg [of_ 3 0 1, ol_ 4 3, oo_ 5 (.bin .eql (.t 4) (.c (.int .i64 13))), om_ 6 5, og_ 7 6 false (.faddr 0 (.t 1)), og_ 8 6 false (.load none (.t 7)), og_ 9 6 false (.bin .eql (.t 8) (.c (.int .i64 14))), oo_ 10 (.pick (.t 6) (.c (.bool true)) (.t 9)), om_ 2 10]) .ret))
theorem path_items.code : comp PG [] (Tryz.f103.body.getD .skip) = path_items.c := by kernel_rfl
theorem path_items.of : OfE PG 103 1 path_items.c [(.t 2)] := fnE (nt := 11) mixed Tryz.func103 path_items.code (by kernel_rfl) (by kernel_rfl) (by kernel_rfl) (by kernel_rfl) (by kernel_rfl) (by kernel_rfl)
def broadsheetref12_known.n : Nat := 105
noncomputable def broadsheetref12_known.c : C := (.seq (.reg [oo_ 4 (.mv (.c (.bool false)))]) (.seq (.reg [om_ 5 1, oo_ 6 (.bin .geq (.t 5) (.c (.int .i64 0))), om_ 7 6, og_ 8 7 true (.mv (.t 1)), og_ 9 7 true (.mv (.t 0)), og_ 10 7 true (.len false (.t 9)), og_ 11 7 true (.bin .lss (.t 8) (.t 10)), oo_ 12 (.pick (.t 7) (.t 11) (.c (.bool false))), om_ 13 12, og_ 14 13 true (.mv (.t 0)), og_ 15 13 true (.call 39 [(.t 14)]), og_ 16 13 true (.field 0 none (.t 15)), og_ 17 13 true (.bin .eql (.t 16) (.c (.int .i64 0))), oo_ 18 (.pick (.t 13) (.t 17) (.c (.bool false))), om_ 4 18]) .ret))
theorem broadsheetref12_known.code : comp PG [] (Tryz.f105.body.getD .skip) = broadsheetref12_known.c := by kernel_rfl
theorem broadsheetref12_known.of : OfE PG 105 2 broadsheetref12_known.c [(.t 4)] := fnE (nt := 19) mixed Tryz.func105 broadsheetref12_known.code (by kernel_rfl) (by kernel_rfl) (by kernel_rfl) (by kernel_rfl) (by kernel_rfl) (by kernel_rfl)
def broadsheetref12_Pieces.n : Nat := 106
noncomputable def broadsheetref12_Pieces.c : C := (.seq (.reg [oo_ 2 (.mv (.c .nilS)), oo_ 3 (.mv (.c (.bool false)))]) (.seq (.reg [oo_ 4 (.mv (.c .nilS))]) (.seq (.block 0 (.loop (.seq (.seq (.reg [om_ 9 4, oo_ 10 (.len false (.t 9)), oo_ 11 (.bin .eql (.t 10) (.c (.int .i64 0))), om_ 12 11, og_ 13 12 false (.mv (.t 0)), og_ 14 12 false (.bin .neq (.t 13) (.c (.str []))), oo_ 15 (.pick (.t 12) (.c (.bool true)) (.t 14))]) (.cond (.t 15) .skip (.exit 0))) (.block 1 (.seq (.reg [om_ 17 0, oo_ 18 (.call 152 [(.t 17)]), om_ 16 18, oo_ 19 (.extr (.t 16) 0), oo_ 20 (.extr (.t 16) 1), oo_ 21 (.extr (.t 16) 2), om_ 5 19, om_ 6 20, om_ 7 21]) (.seq (.seq (.reg [om_ 22 7]) (.cond (.t 22) (.seq (.reg [om_ 23 4, om_ 24 5, oo_ 25 (.build [(.str []), (.int .i64 0)] [(1, (1, (.t 24)))]), oo_ 26 (.bslice 156 2 1 [(.str []), (.int .i64 0)] [(0, (.t 25))]), oo_ 27 (.append 156 false 2 24 (.t 23) (.t 26)), om_ 4 27]) (.seq (.reg [om_ 28 6, om_ 0 28]) (.exit 1))) .skip)) (.seq (.seq (.reg [om_ 29 4, oo_ 30 (.len false (.t 29)), oo_ 31 (.bin .gtr (.t 30) (.c (.int .i64 0)))]) (.cond (.t 31) (.seq (.seq (.reg [om_ 32 0, oo_ 33 (.idx (.t 32) (.c (.int .i64 0))), oo_ 34 (.bin .neq (.t 33) (.c (.int .u8 46)))]) (.cond (.t 34) (.seq (.reg [oo_ 2 (.mv (.c .nilS)), oo_ 3 (.mv (.c (.bool false)))]) .ret) .skip)) (.reg [om_ 35 0, oo_ 36 (.slice none (.t 35) (some (.c (.int .i64 1))) none), om_ 0 36])) .skip)) (.seq (.reg [om_ 37 0, oo_ 38 (.call 153 [(.t 37)]), om_ 8 38]) (.seq (.seq (.reg [om_ 39 8, oo_ 40 (.bin .eql (.t 39) (.c (.int .i64 0)))]) (.cond (.t 40) (.seq (.reg [oo_ 2 (.mv (.c .nilS)), oo_ 3 (.mv (.c (.bool false)))]) .ret) .skip)) (.seq (.reg [om_ 41 4, om_ 42 0, om_ 43 8, oo_ 44 (.slice none (.t 42) none (some (.t 43))), oo_ 45 (.build [(.str []), (.int .i64 0)] [(0, (1, (.t 44)))]), oo_ 46 (.bslice 156 2 1 [(.str []), (.int .i64 0)] [(0, (.t 45))]), oo_ 47 (.append 156 false 2 24 (.t 41) (.t 46)), om_ 4 47]) (.reg [om_ 48 0, om_ 49 8, oo_ 50 (.slice none (.t 48) (some (.t 49)) none), om_ 0 50]))))))))))) (.seq (.reg [om_ 51 4, om_ 2 51, oo_ 3 (.mv (.c (.bool true)))]) .ret))))
theorem broadsheetref12_Pieces.code : comp PG [] (Tryz.f106.body.getD .skip) = broadsheetref12_Pieces.c := by kernel_rfl
theorem broadsheetref12_Pieces.of : OfE PG 106 1 broadsheetref12_Pieces.c [(.t 2), (.t 3)] := fnE (nt := 52) mixed Tryz.func106 broadsheetref12_Pieces.code (by kernel_rfl) (by kernel_rfl) (by kernel_rfl) (by kernel_rfl) (by kernel_rfl) (by kernel_rfl)
def path_pieces_1.n : Nat := 145
noncomputable def path_pieces_1.c : C := (.seq (.reg [oo_ 3 (.mv (.c (.bool true)))]) (.block 0 (.loop (.seq (.seq (.reg [om_ 9 3, om_ 10 9, og_ 11 10 false (.load none (.t 1)), og_ 12 10 false (.bin .neq (.t 11) (.c (.str []))), oo_ 13 (.pick (.t 10) (.c (.bool true)) (.t 12))]) (.cond (.t 13) .skip (.exit 0))) (.block 1 (.seq (.seq (.reg [ol_ 15 1, oo_ 16 (.call 146 [(.t 15)]), om_ 14 16, oo_ 17 (.extr (.t 14) 0), oo_ 18 (.extr (.t 14) 1), om_ 4 17, om_ 5 18]) (.seq (.reg [om_ 19 5, oo_ 20 (.bin .gtr (.t 19) (.c (.int .i64 0)))]) (.cond (.t 20) (.seq (.seq (.reg [om_ 21 0, om_ 22 4, oo_ 23 (.build [(.str []), (.int .i64 0)] [(1, (1, (.t 22)))]), oo_ 24 (.callv (.t 21) [(.t 23), (.c (.bool true))]), oo_ 25 (.un .not (.t 24))]) (.cond (.t 25) .ret .skip)) (.seq (.reg [ol_ 26 1, om_ 27 5, oo_ 28 (.slice none (.t 26) (some (.t 27)) none), os_ (.store 1 (.t 1) (.t 28)), oo_ 3 (.mv (.c (.bool false)))]) (.exit 1))) .skip))) (.seq (.seq (.reg [om_ 29 3, oo_ 30 (.un .not (.t 29))]) (.cond (.t 30) (.seq (.reg [ol_ 32 1, oo_ 33 (.call 147 [(.t 32), (.c (.str [46]))]), om_ 31 33, oo_ 34 (.extr (.t 31) 0), oo_ 35 (.extr (.t 31) 1), om_ 6 34, om_ 7 35]) (.seq (.seq (.reg [om_ 36 7, oo_ 37 (.un .not (.t 36))]) (.cond (.t 37) (.seq (.reg [om_ 38 0, oo_ 39 (.build [(.str []), (.int .i64 0)] []), oo_ 40 (.callv (.t 38) [(.t 39), (.c (.bool false))])]) .ret) .skip)) (.reg [om_ 41 6, os_ (.store 1 (.t 1) (.t 41))]))) .skip)) (.seq (.reg [ol_ 42 1, oo_ 43 (.call 148 [(.t 42)]), om_ 8 43]) (.seq (.seq (.reg [om_ 44 8, oo_ 45 (.bin .eql (.t 44) (.c (.int .i64 0)))]) (.cond (.t 45) (.seq (.reg [om_ 46 0, oo_ 47 (.build [(.str []), (.int .i64 0)] []), oo_ 48 (.callv (.t 46) [(.t 47), (.c (.bool false))])]) .ret) .skip)) (.seq (.seq (.reg [om_ 49 0, ol_ 50 1, om_ 51 8, oo_ 52 (.slice none (.t 50) none (some (.t 51))), oo_ 53 (.build [(.str []), (.int .i64 0)] [(0, (1, (.t 52)))]), oo_ 54 (.callv (.t 49) [(.t 53), (.c (.bool true))]), oo_ 55 (.un .not (.t 54))]) (.cond (.t 55) .ret .skip)) (.reg [ol_ 56 1, om_ 57 8, oo_ 58 (.slice none (.t 56) (some (.t 57)) none), os_ (.store 1 (.t 1) (.t 58)), oo_ 3 (.mv (.c (.bool false)))])))))))))))
theorem path_pieces_1.code : comp PG [] (Tryz.f145.body.getD .skip) = path_pieces_1.c := by kernel_rfl
theorem path_pieces_1.of' : OfL PG 145 59 path_pieces_1.c [] := fnL mixed Tryz.func145 path_pieces_1.code (by kernel_rfl) (by kernel_rfl) (by kernel_rfl) (by kernel_rfl) (by kernel_rfl)
def path_number.n : Nat := 146
noncomputable def path_number.c : C := (.seq (.reg [oo_ 2 (.mv (.c (.int .i64 0))), oo_ 3 (.mv (.c (.int .i64 0)))]) (.seq (.reg [om_ 8 0, oo_ 9 (.call 175 [(.t 8), (.c (.int .u8 93))]), om_ 4 9]) (.seq (.seq (.reg [om_ 10 0, oo_ 11 (.len true (.t 10)), oo_ 12 (.bin .lss (.t 11) (.c (.int .i64 3))), om_ 13 12, og_ 14 13 false (.mv (.t 0)), og_ 15 13 false (.idx (.t 14) (.c (.int .i64 0))), og_ 16 13 false (.bin .neq (.t 15) (.c (.int .u8 91))), oo_ 17 (.pick (.t 13) (.c (.bool true)) (.t 16)), om_ 18 17, og_ 19 18 false (.mv (.t 4)), og_ 20 18 false (.bin .lss (.t 19) (.c (.int .i64 2))), oo_ 21 (.pick (.t 18) (.c (.bool true)) (.t 20)), om_ 22 21, og_ 23 22 false (.mv (.t 4)), og_ 24 22 false (.bin .gtr (.t 23) (.c (.int .i64 3))), oo_ 25 (.pick (.t 22) (.c (.bool true)) (.t 24)), om_ 26 25, og_ 27 26 false (.mv (.t 0)), og_ 28 26 false (.idx (.t 27) (.c (.int .i64 1))), og_ 29 26 false (.bin .eql (.t 28) (.c (.int .u8 48))), og_ 30 26 false (.mv (.t 29)), og_ 31 30 true (.mv (.t 4)), og_ 32 30 true (.bin .gtr (.t 31) (.c (.int .i64 2))), og_ 33 26 false (.pick (.t 30) (.t 32) (.c (.bool false))), oo_ 34 (.pick (.t 26) (.c (.bool true)) (.t 33))]) (.cond (.t 34) (.seq (.reg [oo_ 2 (.mv (.c (.int .i64 0))), oo_ 3 (.mv (.c (.int .i64 0)))]) .ret) .skip)) (.seq (.reg [oo_ 5 (.mv (.c (.int .i64 0)))]) (.seq (.seq (.reg [om_ 35 0, om_ 36 4, oo_ 37 (.slice none (.t 35) (some (.c (.int .i64 1))) (some (.t 36))), oo_ 38 (.strB (.t 37)), oo_ 39 (.len false (.t 38)), oo_ 40 (.mv (.c (.int .i64 0)))]) (.block 0 (.loop (.seq (.reg [oo_ 41 (.bin .lss (.t 40) (.t 39))]) (.seq (.cond (.t 41) .skip (.exit 0)) (.seq (.block 1 (.seq (.reg [oo_ 42 (.iaddr 1 (.t 38) (.t 40)), ol_ 43 42, om_ 7 43]) (.seq (.seq (.reg [om_ 44 7, oo_ 45 (.bin .lss (.t 44) (.c (.int .u8 48))), om_ 46 45, og_ 47 46 false (.mv (.t 7)), og_ 48 46 false (.bin .gtr (.t 47) (.c (.int .u8 57))), oo_ 49 (.pick (.t 46) (.c (.bool true)) (.t 48))]) (.cond (.t 49) (.seq (.reg [oo_ 2 (.mv (.c (.int .i64 0))), oo_ 3 (.mv (.c (.int .i64 0)))]) .ret) .skip)) (.reg [om_ 50 5, oo_ 51 (.bin .mul (.t 50) (.c (.int .i64 10))), om_ 52 7, oo_ 53 (.bin .sub (.t 52) (.c (.int .u8 48))), oo_ 54 (.conv .i64 (.t 53)), oo_ 55 (.bin .add (.t 51) (.t 54)), om_ 5 55])))) (.reg [oo_ 56 (.bin .add (.t 40) (.c (.int .i64 1))), om_ 40 56]))))))) (.seq (.reg [om_ 57 5, om_ 58 4, oo_ 59 (.bin .add (.t 58) (.c (.int .i64 1))), om_ 2 57, om_ 3 59]) .ret))))))
theorem path_number.code : comp PG [] (Tryz.f146.body.getD .skip) = path_number.c := by kernel_rfl
theorem path_number.of : OfE PG 146 1 path_number.c [(.t 2), (.t 3)] := fnE (nt := 60) mixed Tryz.func146 path_number.code (by kernel_rfl) (by kernel_rfl) (by kernel_rfl) (by kernel_rfl) (by kernel_rfl) (by kernel_rfl)
def broadsheetref12_elem.n : Nat := 152
noncomputable def broadsheetref12_elem.c : C := (.seq (.reg [oo_ 2 (.mv (.c (.int .i64 0))), oo_ 3 (.mv (.c (.str []))), oo_ 4 (.mv (.c (.bool false)))]) (.seq (.seq (.reg [oo_ 5 (.mv (.c (.int .i64 0)))]) (.block 0 (.loop (.seq (.seq (.reg [om_ 7 5, oo_ 8 (.bin .lss (.t 7) (.c (.int .i64 100)))]) (.cond (.t 8) .skip (.exit 0))) (.seq (.block 1 (.seq (.reg [om_ 11 5, oo_ 12 (.conv .u64 (.t 11)), oo_ 13 (.call 178 [(.t 12)]), oo_ 14 (.bin .add (.c (.str [91])) (.t 13)), oo_ 15 (.bin .add (.t 14) (.c (.str [93]))), om_ 6 15]) (.seq (.reg [om_ 16 0, oo_ 17 (.len true (.t 16)), om_ 18 6, oo_ 19 (.len true (.t 18)), oo_ 20 (.bin .geq (.t 17) (.t 19)), om_ 21 20, og_ 22 21 true (.mv (.t 0)), og_ 23 21 true (.mv (.t 6)), og_ 24 21 true (.len true (.t 23)), og_ 25 21 true (.slice none (.t 22) none (some (.t 24))), og_ 26 21 true (.mv (.t 6)), og_ 27 21 true (.bin .eql (.t 25) (.t 26)), oo_ 28 (.pick (.t 21) (.t 27) (.c (.bool false)))]) (.cond (.t 28) (.seq (.dreg [om_ 29 5, om_ 30 0, om_ 31 6, oo_ 32 (.len true (.t 31)), oo_ 33 (.slice none (.t 30) (some (.t 32)) none), om_ 2 29] [om_ 3 33, oo_ 4 (.mv (.c (.bool true)))]) .ret) .skip)))) (.reg [om_ 9 5, oo_ 10 (.bin .add (.t 9) (.c (.int .i64 1))), om_ 5 10])))))) (.seq (.reg [om_ 34 0, oo_ 2 (.mv (.c (.int .i64 0))), om_ 3 34, oo_ 4 (.mv (.c (.bool false)))]) .ret)))
theorem broadsheetref12_elem.code : comp PG [] (Tryz.f152.body.getD .skip) = broadsheetref12_elem.c := by kernel_rfl
theorem broadsheetref12_elem.of : OfE PG 152 1 broadsheetref12_elem.c [(.t 2), (.t 3), (.t 4)] := fnE (nt := 35) mixed Tryz.func152 broadsheetref12_elem.code (by kernel_rfl) (by kernel_rfl) (by kernel_rfl) (by kernel_rfl) (by kernel_rfl) (by kernel_rfl)
end Go.Proofs.YtjaigpidmngaaaaGreat

namespace Go.Proofs.YtjaigpidmngaaaaGreat
section
variable {α : Type} {p : α → Bool} {l : List α} {i : Nat}
def none' (p : α → Bool) (l : List α) (i : Nat) : Prop := ∀ (k : Nat) (h : k < l.length), k < i → p l[k] = false
theorem none'_zero : none' p l 0 := fun k _ h => by omega
theorem none'_succ (h : none' p l i) (hi : i < l.length) (h2 : p l[i] = false) : none' p l (i + 1) := fun k hk h3 => by
  by_cases e : k = i
  · subst e; exact h2
  · exact h k hk (by omega)
theorem none'_any (h : none' p l l.length) : l.any p = false := by
  rw [List.any_eq_false]
  intro x hx
  obtain ⟨k, hk, rfl⟩ := List.getElem_of_mem hx
  simpa using h k hk hk
theorem none'_end (h : none' p l i) (hi : l.length ≤ i) : l.any p = false := none'_any fun k hk _ => h k hk (by omega)
theorem any_hit (hi : i < l.length) (h : p l[i] = true) : l.any p = true := List.any_eq_true.2 ⟨_, List.getElem_mem hi, h⟩
theorem find_hit : ∀ {l : List α} {i : Nat} (_ : none' p l i) (hi : i < l.length) (_ : p l[i] = true), l.findIdx? p = some i
  | a :: l, 0, _, _, h2 => by simp at h2; simp [List.findIdx?_cons, h2]
  | a :: l, i + 1, h, hi, h2 => by
    have h0 : p a = false := h 0 (by simp) (by omega)
    have h' : none' p l i := fun k hk h3 => h (k + 1) (by simpa using hk) (by omega)
    have := find_hit h' (by simpa using hi) (by simpa using h2)
    simp [List.findIdx?_cons, h0, this]
theorem find_none (h : none' p l i) (hi : l.length ≤ i) : l.findIdx? p = none := by
  rw [List.findIdx?_eq_none_iff]
  intro x hx
  obtain ⟨k, hk, rfl⟩ := List.getElem_of_mem hx
  exact h k hk (by omega)
theorem find_some {n : Nat} (h : l.findIdx? p = some n) : ∃ hn : n < l.length, p l[n] = true ∧ none' p l n := by
  rw [List.findIdx?_eq_some_iff_getElem] at h
  obtain ⟨hn, h1, h2⟩ := h
  exact ⟨hn, h1, fun k hk h3 => by have := h2 k h3; simpa using this⟩
end
def fst0 : List Int → Int
  | [] => 0
  | e :: l => if e ≠ 0 then e else fst0 l
theorem fst0_hit : ∀ {l : List Int} {i : Nat} (_ : ∀ (k : Nat) (h : k < l.length), k < i → l[k] = 0) (hi : i < l.length) (_ : l[i] ≠ 0), fst0 l = l[i]
  | e :: l, 0, _, _, h => by simp at h; simp [fst0, h]
  | e :: l, i + 1, h0, hi, h => by
    have h1 : e = 0 := h0 0 (by simp) (by omega)
    have := fst0_hit (l := l) (i := i) (fun k hk h3 => h0 (k + 1) (by simpa using hk) (by omega)) (by simpa using hi) (by simpa using h)
    simp [fst0, h1, this]
theorem fst0_end : ∀ {l : List Int} (_ : ∀ (k : Nat) (h : k < l.length), l[k] = 0), fst0 l = 0
  | [], _ => rfl
  | e :: l, h => by
    have h1 : e = 0 := h 0 (by simp)
    have := fst0_end (l := l) fun k hk => h (k + 1) (by simpa using hk)
    simp [fst0, h1, this]
end Go.Proofs.YtjaigpidmngaaaaGreat

namespace Go.Proofs.YtjaigpidmngaaaaGreat
theorem drop_at {α : Type} (l : List α) (d : α) (i : Nat) (h : i < l.length) : l.drop i = l.getD i d :: l.drop (i + 1) := by
  rw [List.drop_eq_getElem_cons h]; congr 1; simp [List.getD, h]
theorem take_at {α : Type} (l : List α) (d : α) (i : Nat) (h : i < l.length) : l.take (i + 1) = l.take i ++ [l.getD i d] := by
  rw [List.take_add_one]; congr 1; simp [List.getD, h]
def dig (c : UInt8) : Bool := decide (48 ≤ c.toNat) && decide (c.toNat ≤ 57)
def ltr (c : UInt8) : Bool := (decide (97 ≤ c.toNat) && decide (c.toNat ≤ 122)) || (decide (65 ≤ c.toNat) && decide (c.toNat ≤ 90))
def nam (c : UInt8) : Bool := dig c || c == 95 || ltr c
def blnk (c : UInt8) : Bool := c == 32 || c == 9 || c == 10 || c == 13
def sgn (c : UInt8) : Bool := [61, 60, 62, 40, 41, 46, 91, 93, 45].contains c
def nl : List UInt8 → Nat
  | [] => 0
  | c :: r => if ltr c then 1 + (r.takeWhile nam).length else 0
def dl (s : List UInt8) : Nat := (s.takeWhile dig).length
def numV (s : List UInt8) : Nat := s.foldl (fun a c => 10 * a + (c.toNat - 48)) 0
inductive Q where
  | done (t : List UInt8) (n : Nat)
  | odd (i : Nat)
  | short
def qs : List UInt8 → Nat → List UInt8 → Q
  | [], _, _ => .short
  | [c], i, acc => if c.toNat < 32 ∨ 126 < c.toNat then .odd i else if c = 39 then .done acc (i + 1) else .short
  | c :: d :: r, i, acc =>
    if c.toNat < 32 ∨ 126 < c.toNat then .odd i
    else if c = 39 then (if d = 39 then qs r (i + 2) (acc ++ [39]) else .done acc (i + 1))
    else qs (d :: r) (i + 1) (acc ++ [c])
inductive LR where
  | tok (k : Int) (t : List UInt8) (num n : Nat)
  | bad (e : Int) (off : Nat)
def two (s : List UInt8) : Bool := s.take 2 == [60, 62] || s.take 2 == [60, 61] || s.take 2 == [62, 61]
def lex : List UInt8 → LR
  | [] => .bad 11 0
  | c :: r =>
    if ltr c then .tok 1 ((c :: r).take (nl (c :: r))) 0 (nl (c :: r))
    else if dig c then
      if 1 < dl (c :: r) ∧ c = 48 then .bad 1 0
      else if numV ((c :: r).take (dl (c :: r))) < 18446744073709551616 then .tok 2 ((c :: r).take (dl (c :: r))) (numV ((c :: r).take (dl (c :: r)))) (dl (c :: r))
      else .bad 7 0
    else if c = 39 then match qs r 1 [] with
      | .done t n => .tok 3 t 0 n
      | .odd i => .bad 10 i
      | .short => .bad 2 0
    else if c = 37 then match r with
      | d :: _ => if dig d then .tok 4 [37, d] (d.toNat - 48) 2 else .bad 11 0
      | [] => .bad 11 0
    else if sgn c then .tok 5 ((c :: r).take (if two (c :: r) then 2 else 1)) 0 (if two (c :: r) then 2 else 1)
    else .bad 11 0
def rsv : List (List UInt8) := [[65, 78, 68], [79, 82], [78, 79, 84], [66, 69, 84, 87, 69, 69, 78], [76, 73, 75, 69], [84, 82, 85, 69], [70, 65, 76, 83, 69]]
theorem nl_cons (c : UInt8) (r : List UInt8) : nl (c :: r) = if ltr c = true then 1 + (r.takeWhile nam).length else 0 := rfl
theorem nl_le (s : List UInt8) : nl s ≤ s.length := by
  cases s with
  | nil => exact Nat.le_refl _
  | cons c r =>
    have : (r.takeWhile nam).length ≤ r.length := (List.takeWhile_prefix _).length_le
    rw [nl_cons, List.length_cons]
    split <;> omega
theorem dl_le (s : List UInt8) : dl s ≤ s.length := (List.takeWhile_prefix _).length_le
theorem tw_step {f : UInt8 → Bool} : ∀ {r : List UInt8} {n : Nat}, n ≤ (r.takeWhile f).length → n < r.length → (n < (r.takeWhile f).length ↔ f (r.getD n 0) = true)
  | [], n, _, h => by simp at h
  | d :: r, n, h1, h2 => by
    rw [List.takeWhile_cons] at h1 ⊢
    split
    · rename_i hd
      rw [if_pos hd] at h1
      cases n with
      | zero => simp [hd]
      | succ n => simpa using tw_step (r := r) (n := n) (by simpa using h1) (by simpa using h2)
    · rename_i hd
      rw [if_neg hd] at h1
      have : n = 0 := by simpa using h1
      subst this
      simpa using hd
theorem nl_step {s : List UInt8} {n : Nat} (hn : n ≤ nl s) (hl : n < s.length) : n < nl s ↔ (if n = 0 then ltr (s.getD 0 0) else nam (s.getD n 0)) = true := by
  cases s with
  | nil => simp at hl
  | cons c r =>
    rw [nl_cons] at *
    cases n with
    | zero =>
      rw [if_pos rfl, List.getD_cons_zero]
      split
      · rename_i h; simp only [h, iff_true]; omega
      · rename_i h; simp only [h, Nat.lt_irrefl]
        exact ⟨fun q => q.elim, fun q => by cases q⟩
    | succ n =>
      rw [if_neg (Nat.succ_ne_zero n), List.getD_cons_succ]
      split at hn
      · rename_i h
        rw [if_pos h]
        have hl' : n < r.length := by simpa using hl
        rw [← tw_step (f := nam) (r := r) (n := n) (by omega) hl']
        omega
      · omega
theorem dl_step {s : List UInt8} {n : Nat} (hn : n ≤ dl s) (hl : n < s.length) : n < dl s ↔ dig (s.getD n 0) = true := by
  unfold dl at *
  induction s generalizing n with
  | nil => simp at hl
  | cons d r ih =>
    rw [List.takeWhile_cons] at hn ⊢
    split
    · rename_i hd
      rw [if_pos hd] at hn
      cases n with
      | zero => simp [hd]
      | succ n => simpa using ih (by simpa using hn) (by simpa using hl)
    · rename_i hd
      rw [if_neg hd] at hn
      have : n = 0 := by simpa using hn
      subst this
      simpa using hd
end Go.Proofs.YtjaigpidmngaaaaGreat

namespace Go.Proofs.YtjaigpidmngaaaaGreat
structure It where
  nm : List UInt8
  num : Nat
  ty : Int
  key : Bool
  rest : Bool
structure Ty where
  kd : Int
  nm : List UInt8
  bd : Int
  el : Int
  tg : Int
  its : List It
abbrev it0 : It := ⟨[], 0, 0, false, false⟩
abbrev ty0 : Ty := ⟨0, [], 0, 0, 0, []⟩
def isNum (k : Int) : Bool := decide (1 ≤ k ∧ k ≤ 9)
def kNm (k : Int) : Bool := decide (k = 9 ∨ k = 13 ∨ k = 14)
def kBd (k : Int) : Bool := decide (k = 10 ∨ k = 11 ∨ k = 12)
def kEl (k : Int) : Bool := decide (k = 11 ∨ k = 12)
def kTg (k : Int) : Bool := decide (k = 14)
def tAt (l : List Ty) (t : Int) : Ty := l.getD t.toNat ty0
def szK (k : Int) : Nat := if k = 1 ∨ k = 2 then 1 else if k = 3 ∨ k = 4 then 2 else if k = 5 ∨ k = 6 ∨ k = 9 then 4 else if k = 7 ∨ k = 8 then 8 else 0
def sgK (k : Int) : Bool := decide (k = 3 ∨ k = 5 ∨ k = 7 ∨ k = 9)
def lowN (b n : Nat) : Nat := n % 2 ^ (8 * b)
def sgnI (b n : Nat) : Int := if lowN b n < 2 ^ (8 * b - 1) then (lowN b n : Int) else (lowN b n : Int) - 2 ^ (8 * b)
def wide (i : Int) : Nat := (i % 18446744073709551616).toNat
def lowK (k : Int) (n : Nat) : Nat := if szK k = 0 then 0 else lowN (szK k) n
def upK (k : Int) (n : Nat) : Nat := if sgK k = true then wide (sgnI (szK k) n) else lowK k n
def mayK (k : Int) (n : Nat) : Bool := isNum k && decide (upK k n = n) && (decide (k ≠ 1) || decide (n ≤ 1))
def nameOk (s : List UInt8) : Bool := decide (s ≠ []) && decide (s.length ≤ 16) && decide (nl s = s.length) && !rsv.contains s
def parts (t : Ty) : List Int := (if kEl t.kd = true then [t.el] else []) ++ (if kTg t.kd = true then [t.tg] else []) ++ (if t.kd = 13 ∨ t.kd = 14 then t.its.map (·.ty) else [])
def itMore (k : Int) (x : It) : Bool := decide ((k = 9 ∧ x.ty ≠ 0) ∨ (k ≠ 13 ∧ x.key = true) ∨ (k ≠ 14 ∧ x.rest = true) ∨ ((k = 13 ∨ x.rest = true) ∧ x.num ≠ 0))
def tyMore (t : Ty) : Bool := decide ((kNm t.kd = false ∧ (t.nm ≠ [] ∨ t.its ≠ [])) ∨ (kBd t.kd = false ∧ t.bd ≠ 0) ∨ (kEl t.kd = false ∧ t.el ≠ 0) ∨ (kTg t.kd = false ∧ t.tg ≠ 0))
def formE (t : Ty) : Int := if t.kd < 1 ∨ 14 < t.kd then 4 else if tyMore t = true ∨ t.its.any (itMore t.kd) = true then 1 else 0
def namedE (l : List Ty) (t : Ty) (n : Nat) : Int := if kNm t.kd = true then (if nameOk t.nm = true then (if (l.take n).any (fun x => x.nm == t.nm) = true then 6 else 0) else 5) else 0
def boundE (t : Ty) : Int := if kBd t.kd = true ∧ (64 < t.bd ∨ t.bd < 0 ∨ (kEl t.kd = true ∧ t.bd = 0)) then 7 else 0
def orderE (l : List Ty) (t : Ty) (n : Nat) : Int := if (parts t).any (fun p => decide (p < 0 ∨ (n : Int) ≤ p)) = true then 14 else if t.kd = 14 ∧ isNum (tAt l t.tg).kd = false then 8 else 0
def valIx (l : List Ty) (t : Int) (n : Nat) : Option Nat := if 0 ≤ t ∧ t < l.length ∧ (tAt l t).kd = 9 then (tAt l t).its.findIdx? (fun x => x.num == n) else none
def itemIx (l : List Ty) (t : Int) (s : List UInt8) : Option Nat := if 0 ≤ t ∧ t < l.length ∧ kNm (tAt l t).kd = true then (tAt l t).its.findIdx? (fun x => x.nm == s) else none
def brIx (l : List Ty) (t : Int) (n : Nat) : Option Nat := if 0 ≤ t ∧ t < l.length ∧ (tAt l t).kd = 14 then ((tAt l t).its.findIdx? (fun x => x.num == n && !x.rest)).or ((tAt l t).its.findIdx? (·.rest)) else none
def mayT (l : List Ty) (t : Ty) (n : Nat) : Bool := if t.kd = 9 then mayK 9 n else if (tAt l t.tg).kd = 9 then (valIx l t.tg n).isSome else mayK (tAt l t.tg).kd n
def itemE (l : List Ty) (t : Ty) (i : Nat) : Int :=
  let x := t.its.getD i it0
  if nameOk x.nm = true then
    if (t.its.take i).any (fun y => y.nm == x.nm) = true then 6
    else if t.kd = 13 then (if x.key = true ∧ isNum (tAt l x.ty).kd = false ∧ (tAt l x.ty).kd ≠ 10 then 17 else 0)
    else if x.rest = true then (if i + 1 = t.its.length then 0 else 14)
    else if mayT l t x.num = true then (if (t.its.take i).any (fun y => y.num == x.num) = true then 6 else 0)
    else 7
  else 5
def itemsE (l : List Ty) (t : Ty) : Int := if kNm t.kd = true then (if t.its.length = 0 then 18 else if 16 < t.its.length then 3 else fst0 ((List.range t.its.length).map (itemE l t))) else 0
def dpT (l : List Ty) : Nat → List Nat
  | 0 => []
  | n + 1 => dpT l n ++ [(parts (l.getD n ty0)).foldl (fun m p => if 0 ≤ p ∧ p < (n : Int) then max m ((dpT l n).getD p.toNat 0 + 1) else m) 1]
def deepT (l : List Ty) (t : Int) : Nat := if 0 ≤ t ∧ t < l.length then (dpT l (t.toNat + 1)).getD t.toNat 0 else 0
def deepE (l : List Ty) (n : Nat) : Int := if 6 < deepT l n then 9 else 0
def tyErr (l : List Ty) (n : Nat) : Int := let t := l.getD n ty0
  fst0 [formE t, namedE l t n, boundE t, orderE l t n, itemsE l t, deepE l n]
def tyChk (l : List Ty) : Int × Int := if 32 < l.length then (3, 32) else match (List.range l.length).findIdx? (fun i => decide (tyErr l i ≠ 0)) with
  | some i => (tyErr l i, (i : Nat))
  | none => (0, 0)
end Go.Proofs.YtjaigpidmngaaaaGreat

namespace Go.Proofs.YtjaigpidmngaaaaGreat
theorem numVs_snoc (s : List UInt8) (c : UInt8) : numV (s ++ [c]) = 10 * numV s + (c.toNat - 48) := by simp [numV]
theorem numVs_lt : ∀ s : List UInt8, s.all dig = true → numV s < 10 ^ s.length := by
  intro s
  rw [← List.reverse_reverse s]
  induction s.reverse with
  | nil => simp [numV]
  | cons c l ih =>
    intro h
    rw [List.reverse_cons] at h ⊢
    rw [List.all_append, Bool.and_eq_true] at h
    have h1 := ih h.1
    have h2 : 48 ≤ c.toNat ∧ c.toNat ≤ 57 := by simpa [dig] using h.2
    rw [numVs_snoc, List.length_append, List.length_singleton, Nat.pow_succ]
    omega
def numP (s : List UInt8) : Nat × Nat :=
  if s.length < 3 ∨ s.getD 0 0 ≠ 91 ∨ Lib.indexByte s 93 < 2 ∨ 3 < Lib.indexByte s 93 ∨ (s.getD 1 0 = 48 ∧ 2 < Lib.indexByte s 93) then (0, 0)
  else if ((s.take (Lib.indexByte s 93).toNat).drop 1).all dig = true then (numV ((s.take (Lib.indexByte s 93).toNat).drop 1), (Lib.indexByte s 93).toNat + 1) else (0, 0)
theorem indexByte_lt : ∀ (s : List UInt8) (c : UInt8), -1 ≤ Lib.indexByte s c ∧ Lib.indexByte s c < s.length
  | [], c => by simp [Lib.indexByte]
  | b :: l, c => by
    have ih := indexByte_lt l c
    unfold Lib.indexByte
    simp only [List.length_cons]
    repeat' split
    all_goals omega
theorem numP_le (s : List UInt8) : (numP s).2 ≤ s.length ∧ (numP s).1 ≤ 99 := by
  unfold numP
  have h := indexByte_lt s 93
  split
  · simp
  · rename_i hc
    split
    · rename_i hd
      have h1 := numVs_lt _ hd
      have h2 : ((s.take (Lib.indexByte s 93).toNat).drop 1).length ≤ 2 := by rw [List.length_drop, List.length_take]; omega
      have h3 : 10 ^ ((s.take (Lib.indexByte s 93).toNat).drop 1).length ≤ 10 ^ 2 := Nat.pow_le_pow_right (by decide) h2
      exact ⟨by dsimp only; omega, by dsimp only; omega⟩
    · simp
def dotP : List UInt8 → Option (List UInt8)
  | c :: r => if c = 46 then some r else none
  | [] => none
theorem dotP_some {s r : List UInt8} (h : dotP s = some r) : s = 46 :: r := by
  cases s with
  | nil => cases h
  | cons c q =>
    simp only [dotP] at h
    split at h
    · rename_i e; cases h; rw [e]
    · cases h
abbrev Pc := List UInt8 × Nat × Bool
def pcs (s : List UInt8) (first : Bool) : List Pc :=
  if first = false ∧ s = [] then []
  else if h : 0 < (numP s).2 then ([], (numP s).1, true) :: pcs (s.drop (numP s).2) false
  else match h1 : (if first = true then some s else dotP s) with
    | none => [([], 0, false)]
    | some r => if h2 : nl r = 0 then [([], 0, false)] else (r.take (nl r), 0, true) :: pcs (r.drop (nl r)) false
  termination_by s.length
  decreasing_by
    · rw [List.length_drop]
      have := (numP_le s).1
      omega
    · rw [List.length_drop]
      have h3 := nl_le r
      have h4 : r.length ≤ s.length := by
        cases first with
        | true =>
          have e : some s = some r := h1
          cases e; exact Nat.le_refl _
        | false =>
          have e : dotP s = some r := h1
          rw [dotP_some e]; simp
      omega
theorem pcs_end : pcs [] false = [] := by rw [pcs]; simp
theorem pcs_num {s : List UInt8} {first : Bool} (h0 : ¬ (first = false ∧ s = [])) (h : 0 < (numP s).2) : pcs s first = ([], (numP s).1, true) :: pcs (s.drop (numP s).2) false := by
  rw [pcs, if_neg h0, dif_pos h]
theorem pcs_nodot {s : List UInt8} (h0 : s ≠ []) (h : ¬ 0 < (numP s).2) (hd : dotP s = none) : pcs s false = [([], 0, false)] := by
  rw [pcs, if_neg (fun q => h0 q.2), dif_neg h]
  split
  · rfl
  · rename_i r e
    rw [if_neg (by decide), hd] at e; cases e
theorem pcs_item {s r : List UInt8} {first : Bool} (h0 : ¬ (first = false ∧ s = [])) (h : ¬ 0 < (numP s).2) (hr : (if first = true then some s else dotP s) = some r) : pcs s first = if nl r = 0 then [([], 0, false)] else (r.take (nl r), 0, true) :: pcs (r.drop (nl r)) false := by
  rw [pcs, if_neg h0, dif_neg h]
  split
  · rename_i e; rw [hr] at e; cases e
  · rename_i r' e
    rw [hr] at e
    cases e
    split <;> rfl
end Go.Proofs.YtjaigpidmngaaaaGreat

namespace Go.Proofs.YtjaigpidmngaaaaGreat
inductive Sh where
  | int (k : IntKind)
  | bool
  | str
  | u
  | p (a b : Sh)
  | slice (sz bytes : Nat) (e : Sh)
  | ptr (e : Sh)
  | no
def Sh.rep : Nat → Sh → Sh
  | 0, _ => .u
  | n + 1, a => .p a (Sh.rep n a)
def Sh.Ok : Sh → List AV → Prop
  | .int k, vs => ∃ n, vs = [.int k n] ∧ (Lit.int k n).wf = true
  | .bool, vs => ∃ b, vs = [.bool b]
  | .str, vs => ∃ l : List UInt8, vs = [.str l] ∧ l.length ≤ 140737488351232
  | .u, vs => vs = []
  | .p a b, vs => ∃ x y, vs = x ++ y ∧ a.Ok x ∧ b.Ok y
  | .slice sz bytes e, vs => vs = [.nilS] ∨ ∃ l, vs = [.rows sz l] ∧ l.length * bytes ≤ 140737488351232 ∧ ∀ r ∈ l, e.Ok r
  | .ptr e, vs => vs = [.nilP] ∨ ∃ r, vs = [.fp r] ∧ e.Ok r
  | .no, _ => False
def fieldsSh (P : Program) (sh : TypeId → Option Sh) (tot : Nat) : Nat → List Field → Option Sh
  | o, [] => if o = tot then some .u else none
  | o, f :: r => if f.offset = o then (sh f.type).bind fun a => (fieldsSh P sh tot (o + P.cellsOf f.type) r).map (.p a) else none
def shO (rc : Bool) (P : Program) : Nat → TypeId → Option Sh
  | 0, _ => if rc = true then some .no else none
  | n + 1, t => match P.underlying t with
    | some .bool => some .bool
    | some (.int k) => some (.int k)
    | some .string => some .str
    | some (.struct fs) => fieldsSh P (shO rc P n) (P.cellsOf t) 0 fs.toList
    | some (.array m e) => if P.cellsOf t = m * P.cellsOf e then (shO rc P n e).map (Sh.rep m) else none
    | some (.slice e) => if 0 < P.cellsOf e then (shO rc P n e).map (.slice (P.cellsOf e) (P.bytesOf e)) else none
    | some (.pointer e) => if 0 < P.cellsOf e then (shO rc P n e).map .ptr else none
    | _ => none
abbrev shOf (P : Program) (n : Nat) (t : TypeId) : Option Sh := shO false P n t
section
variable {h : Array Obj}
def PartR (h : Array Obj) (vs : List AV) (cs : List Value) : Prop :=
  vs.length = cs.length ∧ ∀ (i : Nat) v c, vs[i]? = some v → cs[i]? = some c → v.isCell = true ∧ Rl h (fun _ => none) (fun b => b < h.size) v c
theorem PartR.nil : PartR h [] [] := ⟨rfl, by simp⟩
theorem PartR.one {v : AV} {c : Value} (hv : v.isCell = true) (hr : Rl h (fun _ => none) (fun b => b < h.size) v c) : PartR h [v] [c] :=
  ⟨rfl, fun i v' c' h1 h2 => by cases i <;> simp at h1 h2; subst h1; subst h2; exact ⟨hv, hr⟩⟩
theorem PartR.append {a b : List AV} {x y : List Value} (h1 : PartR h a x) (h2 : PartR h b y) : PartR h (a ++ b) (x ++ y) := by
  refine ⟨by simp [h1.1, h2.1], fun i v c q1 q2 => ?_⟩
  rw [List.getElem?_append] at q1 q2
  rw [h1.1] at q1
  split at q1 <;> rename_i hlt
  · rw [if_pos hlt] at q2; exact h1.2 i v c q1 q2
  · rw [if_neg hlt] at q2; exact h2.2 _ v c q1 q2
end
theorem exists_list {α : Type} {Q : Nat → α → Prop} : ∀ (n : Nat), (∀ i, i < n → ∃ r, Q i r) → ∃ l : List α, l.length = n ∧ ∀ (i : Nat) r, l[i]? = some r → Q i r
  | 0, _ => ⟨[], rfl, by simp⟩
  | n + 1, hq => by
    obtain ⟨l, h1, h2⟩ := exists_list n (fun i hi => hq i (by omega))
    obtain ⟨r, hr⟩ := hq n (by omega)
    refine ⟨l ++ [r], by simp [h1], fun i q hi => ?_⟩
    rw [List.getElem?_append] at hi
    split at hi
    · exact h2 i q hi
    · rename_i hlt
      have hl := (List.getElem?_eq_some_iff.1 hi).1
      simp at hl
      have : i = n := by omega
      subst this
      rw [h1] at hi
      simp at hi
      rw [← hi]; exact hr
section
variable {H : Type} {enc : TypeId × Value → H} {P : Program} {w : World} {sp : Nat → Bool}
abbrev Rd (P : Program) (w : World) (enc : TypeId × Value → H) (sp : Nat → Bool) (m : Nat) (s : TypeId → Option Sh) : Prop :=
  ∀ t cs x sh, s t = some sh → DataW.trod enc P w 0 sp true m t cs = some x → (∀ n ∈ x.1.weights P t, n ≤ reachBytes) → ∃ vs, sh.Ok vs ∧ PartR w.heap vs cs
theorem fields_read {m : Nat} {s : TypeId → Option Sh} (ih : Rd P w enc sp m s) {cs : List Value} {tot : Nat} (hcs : cs.length = tot) : ∀ (fs : List Field) (o : Nat) (xs : List (DataW H × List MemPlace)) (sh : Sh), fieldsSh P s tot o fs = some sh → xs.length = fs.length →
    (∀ (i : Nat) f, fs[i]? = some f → DataW.trod enc P w 0 sp true m f.type ((cs.drop f.offset).take (P.cellsOf f.type)) = xs[i]?) →
    (∀ n ∈ DataW.weightsEach P (fs.map (·.type)) (xs.map (·.1)), n ≤ reachBytes) → ∃ vs, sh.Ok vs ∧ PartR w.heap vs (cs.drop o)
  | [], o, xs, sh, hs, hl, _, _ => by
    simp only [fieldsSh] at hs
    split at hs <;> simp only [Option.some.injEq, reduceCtorEq] at hs
    rename_i e
    subst hs
    refine ⟨[], rfl, ?_⟩
    rw [List.drop_eq_nil_of_le (by omega)]
    exact .nil
  | f :: fs, o, xs, sh, hs, hl, hf, hw => by
    simp only [fieldsSh] at hs
    split at hs
    rotate_left
    · cases hs
    rename_i e
    simp only [Option.bind_eq_some_iff, Option.map_eq_some_iff] at hs
    obtain ⟨a, ha, b, hb, rfl⟩ := hs
    cases xs with
    | nil => simp at hl
    | cons x xs =>
      simp only [List.map_cons, DataW.weightsEach, List.mem_append] at hw
      have h0 := hf 0 f rfl
      rw [e] at h0
      simp only [List.getElem?_cons_zero] at h0
      obtain ⟨va, ok1, r1⟩ := ih _ _ _ _ ha h0 (fun n hn => hw n (.inl hn))
      obtain ⟨vb, ok2, r2⟩ := fields_read ih hcs fs _ xs b hb (by simpa using hl) (fun i g hg => by have := hf (i + 1) g (by simpa using hg); simpa using this) (fun n hn => hw n (.inr hn))
      refine ⟨va ++ vb, ⟨va, vb, rfl, ok1, ok2⟩, ?_⟩
      have := r1.append r2
      rw [show o + P.cellsOf f.type = o + P.cellsOf f.type from rfl, ← List.drop_drop, List.take_append_drop] at this
      exact this
theorem arr_read {m : Nat} {s : TypeId → Option Sh} (ih : Rd P w enc sp m s) {cs : List Value} {e : TypeId} {a : Sh} (ha : s e = some a) : ∀ (n j : Nat) (xs : List (DataW H × List MemPlace)), cs.length = (j + n) * P.cellsOf e → xs.length = n →
    (∀ i, i < n → DataW.trod enc P w 0 sp true m e ((cs.drop ((j + i) * P.cellsOf e)).take (P.cellsOf e)) = xs[i]?) →
    (∀ q ∈ DataW.weightsAll P e (xs.map (·.1)), q ≤ reachBytes) → ∃ vs, (Sh.rep n a).Ok vs ∧ PartR w.heap vs (cs.drop (j * P.cellsOf e))
  | 0, j, xs, hcs, hl, _, _ => by
    refine ⟨[], rfl, ?_⟩
    rw [List.drop_eq_nil_of_le (by rw [hcs]; simp)]
    exact .nil
  | n + 1, j, xs, hcs, hl, hf, hw => by
    cases xs with
    | nil => simp at hl
    | cons x xs =>
      simp only [List.map_cons, DataW.weightsAll, List.mem_append] at hw
      have h0 := hf 0 (by omega)
      simp only [Nat.add_zero, List.getElem?_cons_zero] at h0
      obtain ⟨va, ok1, r1⟩ := ih _ _ _ _ ha h0 (fun n hn => hw n (.inl hn))
      obtain ⟨vb, ok2, r2⟩ := arr_read ih ha n (j + 1) xs (by rw [hcs]; congr 1; omega) (by simpa using hl)
        (fun i hi => by have := hf (i + 1) (by omega); rw [show j + 1 + i = j + (i + 1) from by omega]; simpa using this) (fun n hn => hw n (.inr hn))
      refine ⟨va ++ vb, ⟨va, vb, rfl, ok1, ok2⟩, ?_⟩
      have := r1.append r2
      rw [Nat.add_mul, Nat.one_mul, ← List.drop_drop, List.take_append_drop] at this
      exact this
theorem weights_all_mem {e : TypeId} : ∀ {l : List (DataW H)} {d : DataW H}, d ∈ l → ∀ n ∈ d.weights P e, n ∈ DataW.weightsAll P e l
  | [], _, h, _, _ => by cases h
  | x :: l, d, h, n, hn => by
    simp only [DataW.weightsAll, List.mem_append]
    rcases List.mem_cons.1 h with h | h
    · subst h; exact .inl hn
    · exact .inr (weights_all_mem h n hn)
theorem readR {rc : Bool} : ∀ (m n : Nat), (rc = true → m ≤ n) → Rd P w enc sp m (shO rc P n)
  | 0, _, _, t, cs, x, sh, _, h, _ => by simp [DataW.trod] at h
  | m + 1, 0, hmn, t, cs, x, sh, hs, _, _ => by
    simp only [shO] at hs
    split at hs
    · rename_i hr; have := hmn hr; omega
    · cases hs
  | m + 1, n + 1, hmn, t, cs, x, sh, hs, h, hw => by
    have ih := readR m n fun q => by have := hmn q; omega
    simp only [shO] at hs
    split at hs <;> rename_i hu
    · simp only [Option.some.injEq] at hs; subst hs
      obtain ⟨b, rfl⟩ : ∃ b, cs = [.bool b] := by
        unfold DataW.trod at h; rw [hu] at h
        split at h <;> simp_all
      exact ⟨_, ⟨_, rfl⟩, .one rfl (.bool _)⟩
    · rename_i k
      simp only [Option.some.injEq] at hs; subst hs
      obtain ⟨n, rfl, hwf⟩ : ∃ n, cs = [.int k n] ∧ (Lit.int k n).wf = true := by
        unfold DataW.trod at h; rw [hu] at h
        split at h <;> simp_all
      exact ⟨_, ⟨_, rfl, hwf⟩, .one rfl (.int _ _)⟩
    · simp only [Option.some.injEq] at hs; subst hs
      obtain ⟨b, rfl, rfl⟩ : ∃ b, cs = [.string b] ∧ x = (.lit (.string b.data.toList), []) := by
        unfold DataW.trod at h; rw [hu] at h
        split at h <;> simp_all
      have := hw b.data.toList.length (by simp [DataW.weights])
      exact ⟨_, ⟨b.data.toList, rfl, this⟩, .one rfl (.str _ _ rfl)⟩
    · rename_i fs
      obtain ⟨xs, m', e, rfl, hl, hlen, hf⟩ := DataW.trod_struct hu h
      simp only [Nat.add_right_cancel_iff] at e
      subst e
      have := fields_read ih hl fs.toList 0 xs sh hs (by simpa using hlen) (fun i f hi => hf i f (by simpa using hi)) (fun q hq => hw q (by simpa [DataW.weights, hu] using hq))
      simpa using this
    · rename_i k e
      split at hs
      rotate_left
      · cases hs
      rename_i hc
      simp only [Option.map_eq_some_iff] at hs
      obtain ⟨a, ha, rfl⟩ := hs
      obtain ⟨xs, m', e1, rfl, hl, hlen, hf⟩ := DataW.trod_array hu h
      simp only [Nat.add_right_cancel_iff] at e1
      subst e1
      have := arr_read ih ha k 0 xs (by rw [hl, hc]; simp) hlen (fun i hi => by simpa using hf i hi) (fun q hq => hw q (by simpa [DataW.weights, hu] using hq))
      simpa using this
    · rename_i e
      split at hs
      rotate_left
      · cases hs
      rename_i hpos
      simp only [Option.map_eq_some_iff] at hs
      obtain ⟨a, ha, rfl⟩ := hs
      rcases DataW.trod_slice hu h with ⟨rfl, rfl⟩ | ⟨ad, len, cap, elems, rest, m', e1, rfl, rfl, _, hl, _, hlen, hel, _⟩
      · exact ⟨_, .inl rfl, .one rfl .nilS⟩
      · simp only [Nat.add_right_cancel_iff] at e1
        subst e1
        simp only [DataW.weights, hu, List.mem_cons, List.mem_append] at hw
        have hbytes := hw _ (.inl rfl)
        obtain ⟨l, hll, hq⟩ := exists_list (Q := fun i r => a.Ok r ∧ ∃ ci, w.cells? 0 (ad.add (i * P.cellsOf e)) (P.cellsOf e) = some ci ∧ PartR w.heap r ci) len fun i hi => by
          have := hel i hi
          rw [List.getElem?_eq_getElem (by omega)] at this
          simp only [Option.bind_eq_some_iff] at this
          obtain ⟨ci, hc, hd⟩ := this
          obtain ⟨vs, ok, r⟩ := ih _ _ _ _ ha hd (fun q hqq => hw q (.inr (.inl (weights_all_mem (List.mem_map_of_mem (List.getElem_mem (by omega))) q hqq))))
          exact ⟨vs, ok, ci, hc, r⟩
        refine ⟨[.rows (P.cellsOf e) l], .inr ⟨l, rfl, ?_, ?_⟩, .one rfl ?_⟩
        · simp only [List.length_map] at hbytes
          rw [hll, ← hlen]
          exact Nat.le_trans (Nat.mul_le_mul_right _ (Nat.le_add_right _ _)) hbytes
        · intro r hr
          obtain ⟨i, hi⟩ := List.getElem?_of_mem hr
          exact (hq i r hi).1
        · by_cases h0 : len = 0
          · subst h0
            rw [List.eq_nil_of_length_eq_zero hll]
            exact .rowsE _ _ _
          · obtain ⟨r0, hr0⟩ : ∃ r0, l[0]? = some r0 := ⟨_, List.getElem?_eq_getElem (by omega)⟩
            obtain ⟨_, c0, hc0, _⟩ := hq 0 r0 hr0
            have hz := World.cells?_some hc0
            have hz0 := hz.2.2 0 hpos
            rw [List.getElem?_eq_getElem (by omega)] at hz0
            have ea : (ad.add (0 * P.cellsOf e)).add 0 = ad := by simp [Addr.add]
            rw [ea] at hz0
            obtain ⟨b, o, spt⟩ := ad
            have hsp : spt = none ∧ b < w.heap.size := by
              unfold World.cell? at hz0
              simp only at hz0
              cases hb : w.heap[b]? with
              | none => simp [hb] at hz0
              | some ob =>
                refine ⟨?_, (Array.getElem?_eq_some_iff.1 hb).1⟩
                cases ob with
                | cells c t f => rw [hb] at hz0; simp only at hz0; cases spt with | none => rfl | some z => simp at hz0
                | _ => simp [hb] at hz0
            obtain ⟨rfl, hbl⟩ := hsp
            have key : ∀ (i : Nat) r (j : Nat) v, l[i]? = some r → r[j]? = some v → v.isCell = true ∧ ∃ c, hcell w.heap b (o + (i * P.cellsOf e + j)) = some c ∧ Rl w.heap (fun _ => none) (fun b => b < w.heap.size) v c := by
              intro i r j v h1 h2
              obtain ⟨_, ci, hci, hpr⟩ := hq i r h1
              have hz := World.cells?_some hci
              have hj : j < ci.length := by rw [← hpr.1]; exact (List.getElem?_eq_some_iff.1 h2).1
              have h3 := hz.2.2 j (by omega)
              rw [List.getElem?_eq_getElem hj, addr_add, addr_add, cell?_heap] at h3
              obtain ⟨h4, h5⟩ := hpr.2 j v _ h2 (List.getElem?_eq_getElem hj)
              exact ⟨h4, _, by rw [← h3, Nat.add_assoc], h5⟩
            refine .rows _ l b o len cap (fun q => (hcell w.heap b (o + q)).getD undef) hll.symm hl (fun _ => hbl) (fun i r h1 => ?_) (fun i r j v h1 h2 => (key i r j v h1 h2).1) (fun i r j v h1 h2 => ?_) fun i r j v h1 h2 => ?_
            · obtain ⟨_, ci, hci, hpr⟩ := hq i r h1
              rw [hpr.1, (World.cells?_some hci).2.1]
            · obtain ⟨_, c, hc, _⟩ := key i r j v h1 h2
              rw [hc]; rfl
            · obtain ⟨_, c, hc, hr⟩ := key i r j v h1 h2
              rw [hc]; exact hr
    · rename_i e
      split at hs
      rotate_left
      · cases hs
      rename_i hpos
      simp only [Option.map_eq_some_iff] at hs
      obtain ⟨a, ha, rfl⟩ := hs
      have alt : cs = [.pointer none] ∨ ∃ ad ci y, cs = [.pointer (some ad)] ∧ w.cells? 0 ad (P.cellsOf e) = some ci ∧ DataW.trod enc P w 0 sp true m e ci = some y ∧ x.1 = .ptr y.1 := by
        unfold DataW.trod at h; rw [hu] at h
        split at h <;> simp_all
        simp only [Option.bind_eq_some_iff, Function.comp, Option.map_eq_some_iff] at h
        obtain ⟨ci, hc, ⟨y1, y2⟩, hy, hx⟩ := h
        exact ⟨ci, hc, y1, ⟨y2, hy⟩, by rw [← hx]⟩
      rcases alt with rfl | ⟨ad, ci, y, rfl, hc, hy, hx⟩
      · exact ⟨_, .inl rfl, .one rfl .nilP⟩
      · obtain ⟨vs, ok, hpr⟩ := ih _ _ _ _ ha hy (fun q hq => hw q (by rw [hx]; simpa [DataW.weights, hu] using hq))
        refine ⟨[.fp vs], .inr ⟨vs, rfl, ok⟩, .one rfl ?_⟩
        have hz := World.cells?_some hc
        have hz0 := hz.2.2 0 hpos
        rw [List.getElem?_eq_getElem (by omega)] at hz0
        have ea : ad.add 0 = ad := by simp [Addr.add]
        rw [ea] at hz0
        obtain ⟨b, o, spt⟩ := ad
        have hsp : spt = none ∧ b < w.heap.size := by
          unfold World.cell? at hz0
          simp only at hz0
          cases hb : w.heap[b]? with
          | none => simp [hb] at hz0
          | some ob =>
            refine ⟨?_, (Array.getElem?_eq_some_iff.1 hb).1⟩
            cases ob with
            | cells c t f => rw [hb] at hz0; simp only at hz0; cases spt with | none => rfl | some z => simp at hz0
            | _ => simp [hb] at hz0
        obtain ⟨rfl, hbl⟩ := hsp
        have key : ∀ (j : Nat) v, vs[j]? = some v → v.isCell = true ∧ ∃ c, hcell w.heap b (o + j) = some c ∧ Rl w.heap (fun _ => none) (fun b => b < w.heap.size) v c := by
          intro j v h2
          have hj : j < ci.length := by rw [← hpr.1]; exact (List.getElem?_eq_some_iff.1 h2).1
          have h3 := hz.2.2 j (by omega)
          rw [List.getElem?_eq_getElem hj, addr_add, cell?_heap] at h3
          obtain ⟨h4, h5⟩ := hpr.2 j v _ h2 (List.getElem?_eq_getElem hj)
          exact ⟨h4, _, h3, h5⟩
        refine .fp vs b o (fun q => (hcell w.heap b (o + q)).getD undef) (fun _ => hbl) (fun j v h2 => (key j v h2).1) (fun j v h2 => ?_) fun j v h2 => ?_
        · obtain ⟨_, c, hc, _⟩ := key j v h2
          rw [hc]; rfl
        · obtain ⟨_, c, hc, hr⟩ := key j v h2
          rw [hc]; exact hr
    · cases hs
theorem read (m n : Nat) : Rd P w enc sp m (shOf P n) := readR m n fun q => by cases q
end
end Go.Proofs.YtjaigpidmngaaaaGreat

namespace Go.Proofs.YtjaigpidmngaaaaGreat
def isAggT (P : Program) (t : TypeId) : Bool :=
  match P.underlying t with
  | some (.struct _) => true
  | some (.array _ _) => true
  | _ => false
def ArgOk (agg : Bool) (sh : Sh) (av : AV) : Prop :=
  match agg with
  | true => ∃ vs, av = .agg vs ∧ sh.Ok vs
  | false => sh.Ok [av]
section
variable {H : Type} {enc : TypeId × Value → H} {P : Program} {W : World} {sp : Nat → Bool}
theorem okWide_notAgg {r : Reach} {base : Nat} {t : TypeId} {v : Value} (ha : isAggT P t = false) (h : Value.okWide P W r base t v) : v.cells = #[v] := by
  unfold isAggT at ha
  unfold Value.okWide at h
  split at h
  · rename_i hu; simp [hu] at ha
  · rename_i hu; simp [hu] at ha
  · cases v <;> first
      | rfl
      | (exfalso; unfold Cell.okWide at h; split at h <;> rename_i heq <;> first | (cases heq; done) | (unfold Cell.ok at h; split at h <;> rename_i heq2 <;> first | (cases heq2; done) | exact h))
theorem arg_rlR {r : Reach} {base : Nat} {t : TypeId} {v : Value} {d : DataW H} {ps : List MemPlace} (agg : Bool) (hagg : isAggT P t = agg) (hs : ∀ n, ∃ sh, shO true P n t = some sh) (hval : Value.okWide P W r base t v)
    (h : DataW.Trod enc P W 0 sp true t v d ps) (hw : ∀ n ∈ d.weights P t, n ≤ reachBytes) : ∃ av, (∃ n sh, shO true P n t = some sh ∧ ArgOk agg sh av) ∧ Rl W.heap (fun _ => none) (fun b => b < W.heap.size) av v := by
  obtain ⟨fuel, hf⟩ := h
  obtain ⟨sh, hs⟩ := hs fuel
  obtain ⟨vs, ok, hpr⟩ := readR fuel fuel (fun _ => Nat.le_refl _) t _ _ sh hs hf hw
  cases agg with
  | true =>
    obtain ⟨cs, rfl⟩ : ∃ cs, v = .agg cs := by
      unfold isAggT at hagg
      unfold Value.okWide at hval
      split at hagg
      · rename_i hu; simp only [hu] at hval; obtain ⟨cs, e, _⟩ := hval; exact ⟨cs, e⟩
      · rename_i hu; simp only [hu] at hval; obtain ⟨cs, e, _⟩ := hval; exact ⟨cs, e⟩
      · cases hagg
    refine ⟨.agg vs, ⟨fuel, sh, hs, vs, rfl, ok⟩, ?_⟩
    have := Rl.agg (h := W.heap) (ρ := fun _ => none) (Z := fun b => b < W.heap.size) vs cs.toList (by simpa [Value.cells] using hpr.1)
      (fun i v h1 => by
        have hi := (List.getElem?_eq_some_iff.1 h1).1
        rw [hpr.1] at hi
        exact (hpr.2 i v _ h1 (List.getElem?_eq_getElem hi)).1)
      (fun i v x h1 h2 => (hpr.2 i v x h1 (by simpa [Value.cells] using h2)).2)
    simpa using this
  | false =>
    rw [okWide_notAgg hagg hval] at hpr
    have hl := hpr.1
    match vs, hl with
    | [av], _ => exact ⟨av, ⟨fuel, sh, hs, ok⟩, (hpr.2 0 av v rfl rfl).2⟩
theorem good0 (h : Array Obj) (ht : TabG h fun b => b < h.size) : Good h (fun _ => none) (fun b => b < h.size) [] where
  blk := fun id blk h1 => by simp [hget] at h1
  inj := fun i j a b p q o o' h1 => by simp [hget] at h1
  notZ := fun b ⟨id, blk, o, h1, _⟩ => by simp [hget] at h1
  zlt := fun _ h => h
  ids := ⟨0, fun _ _ => rfl⟩
  ty := fun id b o q => by cases q
  tab := ht
theorem law_calls {f : Nat} {args : List AV} {xs : List Value} (h : ACalls P f args [] fun r _ => r = .bool true) (hr : RlL W.heap (fun _ => none) (fun b => b < W.heap.size) args xs) (ht : TabG W.heap fun b => b < W.heap.size := by intro x hx; simp [tabs] at hx) :
    Calls P f xs.toArray W fun e W' => e = .returned (.bool true) ∧ RowKit.Below W.heap.size W W' := by
  refine (h.2 W _ _ xs (good0 W.heap ht) hr).mono fun e w' ⟨x, r, H', ρ', Z', q1, _, hv, ex, k⟩ => ?_
  subst k
  cases hv
  refine ⟨q1, ⟨ex.os, ex.tape, ex.out, ex.size, fun k hk => ex.keep k hk ?_⟩⟩
  rintro ⟨id, blk, o, h1, _⟩
  simp [hget] at h1
end
end Go.Proofs.YtjaigpidmngaaaaGreat

namespace Go.Proofs.YtjaigpidmngaaaaGreat
theorem Sub.refl (H : AH) : Sub H H := fun _ _ h => h
theorem Sub.cons {Hc H : AH} {id : Nat} {b : Blk} (h : Sub Hc H) (hid : hget H id = none) : Sub Hc ((id, b) :: H) := fun j c q => by
  simp only [hget]
  split
  · rename_i e
    have := h j c q
    rw [e, hid] at this
    cases this
  · exact h j c q
theorem FzL.refl (H Hc : AH) (vs : List AV) : FzL H Hc vs vs := ⟨rfl, fun i v v' a b => by rw [a] at b; simp only [Option.some.injEq] at b; rw [b]; exact .refl _⟩
section
variable {P : Program} {f : Nat} {args : List AV} {H : AH} {K : AV → AH → Prop} {r : AV}
theorem callA_of (h : ACalls P f args H K) : callA P f args H K := ⟨args, H, Sub.refl H, FzL.refl _ _ _, .inl h⟩
theorem callA_eq (h : ACalls P f args H fun r' H' => r' = r ∧ H' = H) (k : K r H) : callA P f args H K :=
  callA_of (h.mono fun r' H' ⟨a, b⟩ => by rw [a, b]; exact k)
theorem NoId.plain (h : r.plain = true) : NoId r := fun _ _ _ _ _ q => q.plain h
theorem ACalls.plain (hp : r.plain = true) (h : ACalls P f args [] fun r' _ => r' = r) : ACalls P f args H fun r' H' => r' = r ∧ H' = H :=
  ⟨h.1, fun w ρ Z xs g hr => callA_calls (K := fun r' H' => r' = r ∧ H' = H)
    ⟨args, [], fun _ _ q => (by cases q), FzL.refl _ _ _, .inr (h.mono fun r' _ e => by rw [e]; exact ⟨hp, rfl, rfl⟩)⟩ g hr⟩
theorem callP_plain (hp : r.plain = true) (h : ACalls P f args H fun r' H' => r' = r ∧ H' = H) : callP P f args H r := .inl ⟨NoId.plain hp, h⟩
end
theorem wrap_id {n : Int} (h1 : -9223372036854775808 ≤ n) (h2 : n ≤ 9223372036854775807) : IntKind.i64.wrap n = n := by rw [IntKind.wrap_i64]; omega
end Go.Proofs.YtjaigpidmngaaaaGreat
