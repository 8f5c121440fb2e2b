/- Texts of this proof, one behind the other: CodeA, TabN, MaxIs, ReplMath, ReplSpec, JoinSpec, TokJoin, TokMath, NameSpec, StrSpec, TokSpec, TokBld, TokTake, TokTake2, TokText, TokNext. -/
import Derived.Test.YtlmplofpclaokaaDoorPkA3
import Derived.Test.YtlmplofpclaokaaDoorProg
import Derived.KernelRfl
import GoSem.Core.Region
import Derived.Lib.Replace
import Derived.Lib.IndexBytes
import Derived.Shelf.Strings.Replace
import Derived.Lib.Join
/- Each function's translation is, by reckoning, the abstract code that is written out here; its contract follows from the predicate transformer over that code. -/
namespace Go.Proofs.YtlmplofpclaokaaDoor
set_option autoImplicit false
set_option maxRecDepth 100000
noncomputable abbrev PG : Program := Tryd.prog
theorem mixed : PG.follows .mixedOrders = true := by kernel_rfl
abbrev ty_int64 : Nat := 2
abbrev ty_int : Nat := 3
abbrev ty_bool : Nat := 4
abbrev ty_uint8 : Nat := 5
abbrev ty_abi_BoundsErrorCode : Nat := 6
abbrev ty_runtime_boundsError : Nat := 8
abbrev ty_string : Nat := 9
abbrev ty_runtime_errorString : Nat := 10
abbrev ty_runtime_plainError : Nat := 11
abbrev ty_uintptr : Nat := 12
abbrev ty_runtime_errorAddressString : Nat := 14
abbrev ty_P_runtime_TypeAssertionError : Nat := 15
abbrev ty_P_runtime_PanicNilError : Nat := 16
abbrev ty_P_abi_Type : Nat := 17
abbrev ty_maps_unhashableTypeError : Nat := 19
abbrev ty_int32 : Nat := 21
abbrev ty_S_api_Token : Nat := 22
abbrev ty_uint64 : Nat := 24
abbrev ty_api_Token : Nat := 26
abbrev ty_api_Errno : Nat := 30
abbrev ty_api_Fault : Nat := 32
abbrev ty_S_api_Operand : Nat := 37
abbrev ty_S_api_Expr : Nat := 38
abbrev ty_api_Expr : Nat := 40
abbrev ty_S_string : Nat := 48
abbrev ty_P_token_lexer : Nat := 51
abbrev ty_token_lexer : Nat := 53
abbrev ty_api_Operand : Nat := 58
abbrev ty_P_show_page : Nat := 60
abbrev ty_P_strings_Builder : Nat := 61
abbrev ty_S_uint8 : Nat := 62
abbrev ty_strings_Builder : Nat := 64
abbrev ty_show_page : Nat := 66
abbrev ty_P_expr_parser : Nat := 69
abbrev ty_expr_parser : Nat := 71
abbrev ty_error : Nat := 77
abbrev ty_S_token_kind : Nat := 81
abbrev ty_token_kind : Nat := 85
abbrev ty_P_uint8 : Nat := 90
abbrev ty_unsafe_Pointer : Nat := 100
abbrev ty_uint : Nat := 111
abbrev ty_utf8_acceptRange : Nat := 114
abbrev ty_uint32 : Nat := 118
abbrev ty_runtime_TypeAssertionError : Nat := 135
abbrev ty_runtime_PanicNilError : Nat := 138
abbrev ty_abi_TFlag : Nat := 140
abbrev ty_abi_Kind : Nat := 141
abbrev ty_abi_NameOff : Nat := 143
abbrev ty_abi_TypeOff : Nat := 144
abbrev ty_abi_Type : Nat := 146
def broadsheetlaw14_TokenJoins.n : Nat := 3
noncomputable def broadsheetlaw14_TokenJoins.c : C := (.seq (.reg [⟨(some 4), none, (.mv (.c (.bool false)))⟩]) (.seq (.seq (.reg [⟨(some 7), none, (.mv (.t 0))⟩, ⟨(some 8), none, (.len false (.t 7))⟩, ⟨(some 9), none, (.bin .gtr (.t 8) (.c (.int .i64 200)))⟩, ⟨(some 10), none, (.mv (.t 9))⟩, ⟨(some 11), (some (10, false)), (.mv (.t 1))⟩, ⟨(some 12), (some (10, false)), (.len true (.t 11))⟩, ⟨(some 13), (some (10, false)), (.bin .gtr (.t 12) (.c (.int .i64 2000)))⟩, ⟨(some 14), none, (.pick (.t 10) (.c (.bool true)) (.t 13))⟩]) (.cond (.t 14) (.seq (.reg [⟨(some 15), none, (.call 6 [])⟩, ⟨(some 4), none, (.mv (.t 15))⟩]) .ret) .skip)) (.seq (.reg [⟨(some 5), none, (.mv (.c (.int .i64 0)))⟩]) (.seq (.seq (.reg [⟨(some 6), none, (.mv (.c (.int .i64 0)))⟩]) (.block 0 (.loop (.seq (.seq (.reg [⟨(some 16), none, (.mv (.t 6))⟩, ⟨(some 17), none, (.mv (.t 0))⟩, ⟨(some 18), none, (.len false (.t 17))⟩, ⟨(some 19), none, (.bin .lss (.t 16) (.t 18))⟩]) (.cond (.t 19) .skip (.exit 0))) (.seq (.block 1 (.reg [⟨(some 22), none, (.mv (.t 5))⟩, ⟨(some 23), none, (.mv (.t 0))⟩, ⟨(some 24), none, (.mv (.t 6))⟩, ⟨(some 25), none, (.iaddr 4 (.t 23) (.t 24))⟩, ⟨(some 26), none, (.faddr 1 (.t 25))⟩, ⟨(some 27), none, (.load none (.t 26))⟩, ⟨(some 28), none, (.len true (.t 27))⟩, ⟨(some 29), none, (.bin .add (.t 22) (.t 28))⟩, ⟨(some 30), none, (.mm false [(.t 29), (.c (.int .i64 1048576))])⟩, ⟨(some 5), none, (.mv (.t 30))⟩])) (.reg [⟨(some 20), none, (.mv (.t 6))⟩, ⟨(some 21), none, (.bin .add (.t 20) (.c (.int .i64 1)))⟩, ⟨(some 6), none, (.mv (.t 21))⟩])))))) (.seq (.reg [⟨(some 31), none, (.mv (.t 5))⟩, ⟨(some 32), none, (.bin .gtr (.t 31) (.c (.int .i64 5000)))⟩, ⟨(some 33), none, (.mv (.t 32))⟩, ⟨(some 34), (some (33, false)), (.mv (.t 0))⟩, ⟨(some 35), (some (33, false)), (.call 7 [(.t 34)])⟩, ⟨(some 36), (some (33, false)), (.mv (.t 0))⟩, ⟨(some 37), (some (33, false)), (.call 8 [(.t 36)])⟩, ⟨(some 38), (some (33, false)), (.bin .eql (.t 35) (.t 37))⟩, ⟨(some 39), none, (.pick (.t 33) (.c (.bool true)) (.t 38))⟩, ⟨(some 40), none, (.mv (.t 39))⟩, ⟨(some 41), (some (40, true)), (.mv (.t 1))⟩, ⟨(some 42), (some (40, true)), (.call 9 [(.t 41)])⟩, ⟨(some 43), (some (40, true)), (.mv (.t 1))⟩, ⟨(some 44), (some (40, true)), (.call 10 [(.t 43)])⟩, ⟨(some 45), (some (40, true)), (.bin .eql (.t 42) (.t 44))⟩, ⟨(some 46), none, (.pick (.t 40) (.t 45) (.c (.bool false)))⟩, ⟨(some 47), none, (.mv (.t 46))⟩, ⟨(some 48), (some (47, true)), (.call 6 [])⟩, ⟨(some 49), none, (.pick (.t 47) (.t 48) (.c (.bool false)))⟩, ⟨(some 4), none, (.mv (.t 49))⟩]) .ret)))))
theorem broadsheetlaw14_TokenJoins.code : comp PG [] (Tryd.f3.body.getD .skip) = broadsheetlaw14_TokenJoins.c := by kernel_rfl
theorem broadsheetlaw14_TokenJoins.of {args : List AV} {H : AH} {K : AV → AH → Prop} (hl : args.length = 2) (h : wpA PG broadsheetlaw14_TokenJoins.c none (endA [(.t 4)] K) (initFr args) H) : ACalls PG 3 args H K :=
  ACalls.of_code (fl := []) mixed Tryd.func3 (c := Tryd.f3.body.getD .skip) (by kernel_rfl) (by kernel_rfl) (by rw [hl]; exact of_decide_eq_true (by kernel_rfl)) (by rw [broadsheetlaw14_TokenJoins.code]; kernel_rfl)
    (by rw [broadsheetlaw14_TokenJoins.code, show compRes PG Tryd.f3.results.toList = [(.t 4)] from by kernel_rfl]; exact h)
def broadsheetlaw14_TokenAgain.n : Nat := 4
noncomputable def broadsheetlaw14_TokenAgain.c : C := (.seq (.reg [⟨(some 2), none, (.mv (.c (.bool false)))⟩]) (.seq (.reg [⟨(some 10), none, (.mv (.t 0))⟩, ⟨(some 11), none, (.call 11 [(.t 10)])⟩, ⟨(some 9), none, (.mv (.t 11))⟩, ⟨(some 12), none, (.extr (.t 9) 0)⟩, ⟨(some 13), none, (.extr (.t 9) 1)⟩, ⟨(some 4), none, (.allc 32 [(.int .i64 0), (.int .i64 0)])⟩, ⟨(some 3), none, (.mv (.t 12))⟩, ⟨none, none, (.store 2 (.t 4) (.t 13))⟩]) (.seq (.seq (.reg [⟨(some 14), none, (.faddr 0 (.t 4))⟩, ⟨(some 15), none, (.load none (.t 14))⟩, ⟨(some 16), none, (.bin .neq (.t 15) (.c (.int .i64 0)))⟩]) (.cond (.t 16) (.seq (.reg [⟨(some 17), none, (.mv (.t 3))⟩, ⟨(some 18), none, (.len false (.t 17))⟩, ⟨(some 19), none, (.bin .eql (.t 18) (.c (.int .i64 0)))⟩, ⟨(some 20), none, (.mv (.t 19))⟩, ⟨(some 21), (some (20, true)), (.faddr 1 (.t 4))⟩, ⟨(some 22), (some (20, true)), (.load none (.t 21))⟩, ⟨(some 23), (some (20, true)), (.bin .geq (.t 22) (.c (.int .i64 0)))⟩, ⟨(some 24), (some (20, true)), (.mv (.t 23))⟩, ⟨(some 25), (some (24, true)), (.faddr 1 (.t 4))⟩, ⟨(some 26), (some (24, true)), (.load none (.t 25))⟩, ⟨(some 27), (some (24, true)), (.mv (.t 0))⟩, ⟨(some 28), (some (24, true)), (.len true (.t 27))⟩, ⟨(some 29), (some (24, true)), (.bin .lss (.t 26) (.t 28))⟩, ⟨(some 30), (some (20, true)), (.pick (.t 24) (.t 29) (.c (.bool false)))⟩, ⟨(some 31), (some (20, true)), (.mv (.t 30))⟩, ⟨(some 32), (some (31, false)), (.load (some 2) (.t 4))⟩, ⟨(some 33), (some (31, false)), (.build [(.int .i64 0), (.int .i64 0)] [(0, (1, (.c (.int .i64 3))))])⟩, ⟨(some 34), (some (31, false)), (.aeq false [(.i .i64), (.i .i64)] (.t 32) (.t 33))⟩, ⟨(some 35), (some (20, true)), (.pick (.t 31) (.c (.bool true)) (.t 34))⟩, ⟨(some 36), none, (.pick (.t 20) (.t 35) (.c (.bool false)))⟩, ⟨(some 37), none, (.mv (.t 36))⟩, ⟨(some 38), (some (37, true)), (.call 6 [])⟩, ⟨(some 39), none, (.pick (.t 37) (.t 38) (.c (.bool false)))⟩, ⟨(some 2), none, (.mv (.t 39))⟩]) .ret) .skip)) (.seq (.seq (.reg [⟨(some 5), none, (.mv (.c (.int .i64 0)))⟩]) (.block 0 (.loop (.seq (.seq (.reg [⟨(some 40), none, (.mv (.t 5))⟩, ⟨(some 41), none, (.mv (.t 3))⟩, ⟨(some 42), none, (.len false (.t 41))⟩, ⟨(some 43), none, (.bin .lss (.t 40) (.t 42))⟩]) (.cond (.t 43) .skip (.exit 0))) (.seq (.block 1 (.seq (.dreg [⟨(some 46), none, (.mv (.t 3))⟩, ⟨(some 47), none, (.mv (.t 5))⟩, ⟨(some 48), none, (.iaddr 4 (.t 46) (.t 47))⟩, ⟨(some 49), none, (.faddr 3 (.t 48))⟩, ⟨(some 50), none, (.load none (.t 49))⟩, ⟨(some 51), none, (.bin .lss (.t 50) (.c (.int .i64 0)))⟩, ⟨(some 52), none, (.mv (.t 51))⟩, ⟨(some 53), (some (52, false)), (.mv (.t 3))⟩, ⟨(some 54), (some (52, false)), (.mv (.t 5))⟩, ⟨(some 55), (some (52, false)), (.iaddr 4 (.t 53) (.t 54))⟩, ⟨(some 56), (some (52, false)), (.faddr 3 (.t 55))⟩, ⟨(some 57), (some (52, false)), (.load none (.t 56))⟩, ⟨(some 58), (some (52, false)), (.mv (.t 0))⟩, ⟨(some 59), (some (52, false)), (.len true (.t 58))⟩, ⟨(some 60), (some (52, false)), (.bin .gtr (.t 57) (.t 59))⟩, ⟨(some 61), none, (.pick (.t 52) (.c (.bool true)) (.t 60))⟩, ⟨(some 62), none, (.mv (.t 61))⟩, ⟨(some 63), (some (62, false)), (.mv (.t 5))⟩, ⟨(some 64), (some (62, false)), (.bin .gtr (.t 63) (.c (.int .i64 0)))⟩, ⟨(some 65), (some (62, false)), (.mv (.t 64))⟩, ⟨(some 66), (some (65, true)), (.mv (.t 3))⟩, ⟨(some 67), (some (65, true)), (.mv (.t 5))⟩, ⟨(some 68), (some (65, true)), (.iaddr 4 (.t 66) (.t 67))⟩, ⟨(some 69), (some (65, true)), (.faddr 3 (.t 68))⟩, ⟨(some 70), (some (65, true)), (.load none (.t 69))⟩, ⟨(some 71), (some (65, true)), (.mv (.t 3))⟩, ⟨(some 72), (some (65, true)), (.mv (.t 5))⟩, ⟨(some 73), (some (65, true)), (.bin .sub (.t 72) (.c (.int .i64 1)))⟩, ⟨(some 74), (some (65, true)), (.iaddr 4 (.t 71) (.t 73))⟩, ⟨(some 75), (some (65, true)), (.faddr 3 (.t 74))⟩, ⟨(some 76), (some (65, true)), (.load none (.t 75))⟩, ⟨(some 77), (some (65, true)), (.bin .leq (.t 70) (.t 76))⟩, ⟨(some 78), (some (62, false)), (.pick (.t 65) (.t 77) (.c (.bool false)))⟩, ⟨(some 79), none, (.pick (.t 62) (.c (.bool true)) (.t 78))⟩, ⟨(some 80), none, (.mv (.t 79))⟩, ⟨(some 81), (some (80, false)), (.mv (.t 3))⟩, ⟨(some 82), (some (80, false)), (.mv (.t 5))⟩, ⟨(some 83), (some (80, false)), (.iaddr 4 (.t 81) (.t 82))⟩, ⟨(some 84), (some (80, false)), (.faddr 0 (.t 83))⟩, ⟨(some 85), (some (80, false)), (.load none (.t 84))⟩, ⟨(some 86), (some (80, false)), (.bin .eql (.t 85) (.c (.int .i64 6)))⟩, ⟨(some 87), (some (80, false)), (.mv (.t 5))⟩, ⟨(some 88), (some (80, false)), (.mv (.t 3))⟩, ⟨(some 89), (some (80, false)), (.len false (.t 88))⟩, ⟨(some 90), (some (80, false)), (.bin .sub (.t 89) (.c (.int .i64 1)))⟩, ⟨(some 91), (some (80, false)), (.bin .eql (.t 87) (.t 90))⟩] [⟨(some 92), (some (80, false)), (.beq true (.t 86) (.t 91))⟩, ⟨(some 93), none, (.pick (.t 80) (.c (.bool true)) (.t 92))⟩]) (.cond (.t 93) (.seq (.reg [⟨(some 2), none, (.mv (.c (.bool false)))⟩]) .ret) .skip))) (.reg [⟨(some 44), none, (.mv (.t 5))⟩, ⟨(some 45), none, (.bin .add (.t 44) (.c (.int .i64 1)))⟩, ⟨(some 5), none, (.mv (.t 45))⟩])))))) (.seq (.reg [⟨(some 94), none, (.mv (.t 3))⟩, ⟨(some 95), none, (.call 7 [(.t 94)])⟩, ⟨(some 6), none, (.mv (.t 95))⟩]) (.seq (.reg [⟨(some 97), none, (.mv (.t 6))⟩, ⟨(some 98), none, (.call 11 [(.t 97)])⟩, ⟨(some 96), none, (.mv (.t 98))⟩, ⟨(some 99), none, (.extr (.t 96) 0)⟩, ⟨(some 100), none, (.extr (.t 96) 1)⟩, ⟨(some 8), none, (.allc 32 [(.int .i64 0), (.int .i64 0)])⟩, ⟨(some 7), none, (.mv (.t 99))⟩, ⟨none, none, (.store 2 (.t 8) (.t 100))⟩]) (.seq (.seq (.reg [⟨(some 101), none, (.mv (.t 6))⟩, ⟨(some 102), none, (.len true (.t 101))⟩, ⟨(some 103), none, (.bin .gtr (.t 102) (.c (.int .i64 256)))⟩]) (.cond (.t 103) (.seq (.reg [⟨(some 104), none, (.load (some 2) (.t 8))⟩, ⟨(some 105), none, (.build [(.int .i64 0), (.int .i64 0)] [(0, (1, (.c (.int .i64 3))))])⟩, ⟨(some 106), none, (.aeq false [(.i .i64), (.i .i64)] (.t 104) (.t 105))⟩, ⟨(some 107), none, (.mv (.t 106))⟩, ⟨(some 108), (some (107, true)), (.call 6 [])⟩, ⟨(some 109), none, (.pick (.t 107) (.t 108) (.c (.bool false)))⟩, ⟨(some 2), none, (.mv (.t 109))⟩]) .ret) .skip)) (.seq (.reg [⟨(some 110), none, (.load (some 2) (.t 8))⟩, ⟨(some 111), none, (.build [(.int .i64 0), (.int .i64 0)] [])⟩, ⟨(some 112), none, (.aeq false [(.i .i64), (.i .i64)] (.t 110) (.t 111))⟩, ⟨(some 113), none, (.mv (.t 112))⟩, ⟨(some 114), (some (113, true)), (.mv (.t 3))⟩, ⟨(some 115), (some (113, true)), (.mv (.t 7))⟩, ⟨(some 116), (some (113, true)), (.call 12 [(.t 114), (.t 115), (.c (.bool false))])⟩, ⟨(some 117), none, (.pick (.t 113) (.t 116) (.c (.bool false)))⟩, ⟨(some 118), none, (.mv (.t 117))⟩, ⟨(some 119), (some (118, true)), (.mv (.t 7))⟩, ⟨(some 120), (some (118, true)), (.call 7 [(.t 119)])⟩, ⟨(some 121), (some (118, true)), (.mv (.t 6))⟩, ⟨(some 122), (some (118, true)), (.bin .eql (.t 120) (.t 121))⟩, ⟨(some 123), none, (.pick (.t 118) (.t 122) (.c (.bool false)))⟩, ⟨(some 124), none, (.mv (.t 123))⟩, ⟨(some 125), (some (124, true)), (.call 6 [])⟩, ⟨(some 126), none, (.pick (.t 124) (.t 125) (.c (.bool false)))⟩, ⟨(some 2), none, (.mv (.t 126))⟩]) .ret))))))))
theorem broadsheetlaw14_TokenAgain.code : comp PG [] (Tryd.f4.body.getD .skip) = broadsheetlaw14_TokenAgain.c := by kernel_rfl
theorem broadsheetlaw14_TokenAgain.of {args : List AV} {H : AH} {K : AV → AH → Prop} (hl : args.length = 1) (h : wpA PG broadsheetlaw14_TokenAgain.c none (endA [(.t 2)] K) (initFr args) H) : ACalls PG 4 args H K :=
  ACalls.of_code (fl := []) mixed Tryd.func4 (c := Tryd.f4.body.getD .skip) (by kernel_rfl) (by kernel_rfl) (by rw [hl]; exact of_decide_eq_true (by kernel_rfl)) (by rw [broadsheetlaw14_TokenAgain.code]; kernel_rfl)
    (by rw [broadsheetlaw14_TokenAgain.code, show compRes PG Tryd.f4.results.toList = [(.t 2)] from by kernel_rfl]; exact h)
def broadsheetlaw14_awake.n : Nat := 6
noncomputable def broadsheetlaw14_awake.c : C := (.seq (.reg [⟨(some 0), none, (.mv (.c (.bool false)))⟩]) (.seq (.reg [⟨(some 4), none, (.call 11 [(.c (.str [97, 60, 61, 45, 53]))])⟩, ⟨(some 3), none, (.mv (.t 4))⟩, ⟨(some 5), none, (.extr (.t 3) 0)⟩, ⟨(some 6), none, (.extr (.t 3) 1)⟩, ⟨(some 2), none, (.allc 32 [(.int .i64 0), (.int .i64 0)])⟩, ⟨(some 1), none, (.mv (.t 5))⟩, ⟨none, none, (.store 2 (.t 2) (.t 6))⟩]) (.seq (.reg [⟨(some 7), none, (.load (some 2) (.t 2))⟩, ⟨(some 8), none, (.build [(.int .i64 0), (.int .i64 0)] [])⟩, ⟨(some 9), none, (.aeq false [(.i .i64), (.i .i64)] (.t 7) (.t 8))⟩, ⟨(some 10), none, (.mv (.t 9))⟩, ⟨(some 11), (some (10, true)), (.mv (.t 1))⟩, ⟨(some 12), (some (10, true)), (.len false (.t 11))⟩, ⟨(some 13), (some (10, true)), (.bin .eql (.t 12) (.c (.int .i64 5)))⟩, ⟨(some 14), none, (.pick (.t 10) (.t 13) (.c (.bool false)))⟩, ⟨(some 15), none, (.mv (.t 14))⟩, ⟨(some 16), (some (15, true)), (.mv (.t 1))⟩, ⟨(some 17), (some (15, true)), (.iaddr 4 (.t 16) (.c (.int .i64 3)))⟩, ⟨(some 18), (some (15, true)), (.faddr 2 (.t 17))⟩, ⟨(some 19), (some (15, true)), (.load none (.t 18))⟩, ⟨(some 20), (some (15, true)), (.bin .eql (.t 19) (.c (.int .u64 5)))⟩, ⟨(some 21), none, (.pick (.t 15) (.t 20) (.c (.bool false)))⟩, ⟨(some 22), none, (.mv (.t 21))⟩, ⟨(some 23), (some (22, true)), (.mv (.t 1))⟩, ⟨(some 24), (some (22, true)), (.iaddr 4 (.t 23) (.c (.int .i64 3)))⟩, ⟨(some 25), (some (22, true)), (.faddr 3 (.t 24))⟩, ⟨(some 26), (some (22, true)), (.load none (.t 25))⟩, ⟨(some 27), (some (22, true)), (.bin .eql (.t 26) (.c (.int .i64 4)))⟩, ⟨(some 28), none, (.pick (.t 22) (.t 27) (.c (.bool false)))⟩, ⟨(some 29), none, (.mv (.t 28))⟩, ⟨(some 30), (some (29, true)), (.mv (.t 1))⟩, ⟨(some 31), (some (29, true)), (.iaddr 4 (.t 30) (.c (.int .i64 4)))⟩, ⟨(some 32), (some (29, true)), (.faddr 0 (.t 31))⟩, ⟨(some 33), (some (29, true)), (.load none (.t 32))⟩, ⟨(some 34), (some (29, true)), (.bin .eql (.t 33) (.c (.int .i64 6)))⟩, ⟨(some 35), none, (.pick (.t 29) (.t 34) (.c (.bool false)))⟩, ⟨(some 0), none, (.mv (.t 35))⟩]) .ret)))
theorem broadsheetlaw14_awake.code : comp PG [] (Tryd.f6.body.getD .skip) = broadsheetlaw14_awake.c := by kernel_rfl
theorem broadsheetlaw14_awake.of {args : List AV} {H : AH} {K : AV → AH → Prop} (hl : args.length = 0) (h : wpA PG broadsheetlaw14_awake.c none (endA [(.t 0)] K) (initFr args) H) : ACalls PG 6 args H K :=
  ACalls.of_code (fl := []) mixed Tryd.func6 (c := Tryd.f6.body.getD .skip) (by kernel_rfl) (by kernel_rfl) (by rw [hl]; exact of_decide_eq_true (by kernel_rfl)) (by rw [broadsheetlaw14_awake.code]; kernel_rfl)
    (by rw [broadsheetlaw14_awake.code, show compRes PG Tryd.f6.results.toList = [(.t 0)] from by kernel_rfl]; exact h)
def token_Join.n : Nat := 7
noncomputable def token_Join.c : C := (.seq (.reg [⟨(some 2), none, (.mv (.c (.str [])))⟩]) (.seq (.reg [⟨(some 3), none, (.mv (.c .nilS))⟩]) (.seq (.seq (.reg [⟨(some 6), none, (.mv (.t 0))⟩, ⟨(some 7), none, (.len false (.t 6))⟩, ⟨(some 8), none, (.mv (.c (.int .i64 0)))⟩]) (.block 0 (.loop (.seq (.reg [⟨(some 9), none, (.bin .lss (.t 8) (.t 7))⟩]) (.seq (.cond (.t 9) .skip (.exit 0)) (.seq (.block 1 (.seq (.reg [⟨(some 10), none, (.iaddr 4 (.t 6) (.t 8))⟩, ⟨(some 11), none, (.load (some 4) (.t 10))⟩, ⟨(some 5), none, (.allc 26 [(.int .i64 0), (.str []), (.int .u64 0), (.int .i64 0)])⟩, ⟨none, none, (.store 4 (.t 5) (.t 11))⟩]) (.seq (.seq (.reg [⟨(some 12), none, (.faddr 0 (.t 5))⟩, ⟨(some 13), none, (.load none (.t 12))⟩, ⟨(some 14), none, (.bin .eql (.t 13) (.c (.int .i64 3)))⟩]) (.cond (.t 14) (.reg [⟨(some 15), none, (.faddr 1 (.t 5))⟩, ⟨(some 16), none, (.load none (.t 15))⟩, ⟨(some 17), none, (.call 9 [(.t 16)])⟩, ⟨(some 18), none, (.faddr 1 (.t 5))⟩, ⟨none, none, (.store 1 (.t 18) (.t 17))⟩]) .skip)) (.reg [⟨(some 19), none, (.mv (.t 3))⟩, ⟨(some 20), none, (.faddr 1 (.t 5))⟩, ⟨(some 21), none, (.load none (.t 20))⟩, ⟨(some 22), none, (.bslice 9 1 1 [(.str [])] [(0, (.t 21))])⟩, ⟨(some 23), none, (.append 9 false 1 16 (.t 19) (.t 22))⟩, ⟨(some 3), none, (.mv (.t 23))⟩])))) (.reg [⟨(some 24), none, (.bin .add (.t 8) (.c (.int .i64 1)))⟩, ⟨(some 8), none, (.mv (.t 24))⟩]))))))) (.seq (.reg [⟨(some 25), none, (.mv (.t 3))⟩, ⟨(some 26), none, (.call 18 [(.t 25), (.c (.str [32]))])⟩, ⟨(some 2), none, (.mv (.t 26))⟩]) .ret))))
theorem token_Join.code : comp PG [] (Tryd.f7.body.getD .skip) = token_Join.c := by kernel_rfl
theorem token_Join.of {args : List AV} {H : AH} {K : AV → AH → Prop} (hl : args.length = 1) (h : wpA PG token_Join.c none (endA [(.t 2)] K) (initFr args) H) : ACalls PG 7 args H K :=
  ACalls.of_code (fl := []) mixed Tryd.func7 (c := Tryd.f7.body.getD .skip) (by kernel_rfl) (by kernel_rfl) (by rw [hl]; exact of_decide_eq_true (by kernel_rfl)) (by rw [token_Join.code]; kernel_rfl)
    (by rw [token_Join.code, show compRes PG Tryd.f7.results.toList = [(.t 2)] from by kernel_rfl]; exact h)
def broadsheetref14_Join.n : Nat := 8
noncomputable def broadsheetref14_Join.c : C := (.seq (.reg [⟨(some 2), none, (.mv (.c (.str [])))⟩]) (.seq (.reg [⟨(some 3), none, (.mv (.c (.str [])))⟩]) (.seq (.seq (.reg [⟨(some 4), none, (.mv (.c (.int .i64 0)))⟩]) (.block 0 (.loop (.seq (.seq (.reg [⟨(some 5), none, (.mv (.t 4))⟩, ⟨(some 6), none, (.mv (.t 0))⟩, ⟨(some 7), none, (.len false (.t 6))⟩, ⟨(some 8), none, (.bin .lss (.t 5) (.t 7))⟩]) (.cond (.t 8) .skip (.exit 0))) (.seq (.block 1 (.seq (.seq (.reg [⟨(some 11), none, (.mv (.t 4))⟩, ⟨(some 12), none, (.bin .gtr (.t 11) (.c (.int .i64 0)))⟩]) (.cond (.t 12) (.reg [⟨(some 13), none, (.mv (.t 3))⟩, ⟨(some 14), none, (.bin .add (.t 13) (.c (.str [32])))⟩, ⟨(some 3), none, (.mv (.t 14))⟩]) .skip)) (.seq (.reg [⟨(some 15), none, (.mv (.t 0))⟩, ⟨(some 16), none, (.mv (.t 4))⟩, ⟨(some 17), none, (.iaddr 4 (.t 15) (.t 16))⟩, ⟨(some 18), none, (.faddr 0 (.t 17))⟩, ⟨(some 19), none, (.load none (.t 18))⟩, ⟨(some 20), none, (.bin .eql (.t 19) (.c (.int .i64 3)))⟩]) (.cond (.t 20) (.reg [⟨(some 21), none, (.mv (.t 3))⟩, ⟨(some 22), none, (.mv (.t 0))⟩, ⟨(some 23), none, (.mv (.t 4))⟩, ⟨(some 24), none, (.iaddr 4 (.t 22) (.t 23))⟩, ⟨(some 25), none, (.faddr 1 (.t 24))⟩, ⟨(some 26), none, (.load none (.t 25))⟩, ⟨(some 27), none, (.call 10 [(.t 26)])⟩, ⟨(some 28), none, (.bin .add (.t 21) (.t 27))⟩, ⟨(some 3), none, (.mv (.t 28))⟩]) (.reg [⟨(some 29), none, (.mv (.t 3))⟩, ⟨(some 30), none, (.mv (.t 0))⟩, ⟨(some 31), none, (.mv (.t 4))⟩, ⟨(some 32), none, (.iaddr 4 (.t 30) (.t 31))⟩, ⟨(some 33), none, (.faddr 1 (.t 32))⟩, ⟨(some 34), none, (.load none (.t 33))⟩, ⟨(some 35), none, (.bin .add (.t 29) (.t 34))⟩, ⟨(some 3), none, (.mv (.t 35))⟩]))))) (.reg [⟨(some 9), none, (.mv (.t 4))⟩, ⟨(some 10), none, (.bin .add (.t 9) (.c (.int .i64 1)))⟩, ⟨(some 4), none, (.mv (.t 10))⟩])))))) (.seq (.reg [⟨(some 36), none, (.mv (.t 3))⟩, ⟨(some 2), none, (.mv (.t 36))⟩]) .ret))))
theorem broadsheetref14_Join.code : comp PG [] (Tryd.f8.body.getD .skip) = broadsheetref14_Join.c := by kernel_rfl
theorem broadsheetref14_Join.of {args : List AV} {H : AH} {K : AV → AH → Prop} (hl : args.length = 1) (h : wpA PG broadsheetref14_Join.c none (endA [(.t 2)] K) (initFr args) H) : ACalls PG 8 args H K :=
  ACalls.of_code (fl := []) mixed Tryd.func8 (c := Tryd.f8.body.getD .skip) (by kernel_rfl) (by kernel_rfl) (by rw [hl]; exact of_decide_eq_true (by kernel_rfl)) (by rw [broadsheetref14_Join.code]; kernel_rfl)
    (by rw [broadsheetref14_Join.code, show compRes PG Tryd.f8.results.toList = [(.t 2)] from by kernel_rfl]; exact h)
def token_Quote.n : Nat := 9
noncomputable def token_Quote.c : C := (.seq (.reg [⟨(some 2), none, (.mv (.c (.str [])))⟩]) (.seq (.reg [⟨(some 3), none, (.mv (.t 0))⟩, ⟨(some 4), none, (.call 19 [(.t 3), (.c (.str [39])), (.c (.str [39, 39]))])⟩, ⟨(some 5), none, (.bin .add (.c (.str [39])) (.t 4))⟩, ⟨(some 6), none, (.bin .add (.t 5) (.c (.str [39])))⟩, ⟨(some 2), none, (.mv (.t 6))⟩]) .ret))
theorem token_Quote.code : comp PG [] (Tryd.f9.body.getD .skip) = token_Quote.c := by kernel_rfl
theorem token_Quote.of {args : List AV} {H : AH} {K : AV → AH → Prop} (hl : args.length = 1) (h : wpA PG token_Quote.c none (endA [(.t 2)] K) (initFr args) H) : ACalls PG 9 args H K :=
  ACalls.of_code (fl := []) mixed Tryd.func9 (c := Tryd.f9.body.getD .skip) (by kernel_rfl) (by kernel_rfl) (by rw [hl]; exact of_decide_eq_true (by kernel_rfl)) (by rw [token_Quote.code]; kernel_rfl)
    (by rw [token_Quote.code, show compRes PG Tryd.f9.results.toList = [(.t 2)] from by kernel_rfl]; exact h)
def broadsheetref14_Quote.n : Nat := 10
noncomputable def broadsheetref14_Quote.c : C := (.seq (.reg [⟨(some 2), none, (.mv (.c (.str [])))⟩]) (.seq (.reg [⟨(some 3), none, (.mv (.c (.str [39])))⟩]) (.seq (.seq (.reg [⟨(some 4), none, (.mv (.c (.int .i64 0)))⟩]) (.block 0 (.loop (.seq (.seq (.reg [⟨(some 5), none, (.mv (.t 4))⟩, ⟨(some 6), none, (.mv (.t 0))⟩, ⟨(some 7), none, (.len true (.t 6))⟩, ⟨(some 8), none, (.bin .lss (.t 5) (.t 7))⟩]) (.cond (.t 8) .skip (.exit 0))) (.seq (.block 1 (.seq (.seq (.reg [⟨(some 11), none, (.mv (.t 0))⟩, ⟨(some 12), none, (.mv (.t 4))⟩, ⟨(some 13), none, (.idx (.t 11) (.t 12))⟩, ⟨(some 14), none, (.bin .eql (.t 13) (.c (.int .u8 39)))⟩]) (.cond (.t 14) (.reg [⟨(some 15), none, (.mv (.t 3))⟩, ⟨(some 16), none, (.bin .add (.t 15) (.c (.str [39])))⟩, ⟨(some 3), none, (.mv (.t 16))⟩]) .skip)) (.reg [⟨(some 17), none, (.mv (.t 3))⟩, ⟨(some 18), none, (.mv (.t 0))⟩, ⟨(some 19), none, (.mv (.t 4))⟩, ⟨(some 20), none, (.mv (.t 4))⟩, ⟨(some 21), none, (.bin .add (.t 20) (.c (.int .i64 1)))⟩, ⟨(some 22), none, (.slice none (.t 18) (some (.t 19)) (some (.t 21)))⟩, ⟨(some 23), none, (.bin .add (.t 17) (.t 22))⟩, ⟨(some 3), none, (.mv (.t 23))⟩]))) (.reg [⟨(some 9), none, (.mv (.t 4))⟩, ⟨(some 10), none, (.bin .add (.t 9) (.c (.int .i64 1)))⟩, ⟨(some 4), none, (.mv (.t 10))⟩])))))) (.seq (.reg [⟨(some 24), none, (.mv (.t 3))⟩, ⟨(some 25), none, (.bin .add (.t 24) (.c (.str [39])))⟩, ⟨(some 2), none, (.mv (.t 25))⟩]) .ret))))
theorem broadsheetref14_Quote.code : comp PG [] (Tryd.f10.body.getD .skip) = broadsheetref14_Quote.c := by kernel_rfl
theorem broadsheetref14_Quote.of {args : List AV} {H : AH} {K : AV → AH → Prop} (hl : args.length = 1) (h : wpA PG broadsheetref14_Quote.c none (endA [(.t 2)] K) (initFr args) H) : ACalls PG 10 args H K :=
  ACalls.of_code (fl := []) mixed Tryd.func10 (c := Tryd.f10.body.getD .skip) (by kernel_rfl) (by kernel_rfl) (by rw [hl]; exact of_decide_eq_true (by kernel_rfl)) (by rw [broadsheetref14_Quote.code]; kernel_rfl)
    (by rw [broadsheetref14_Quote.code, show compRes PG Tryd.f10.results.toList = [(.t 2)] from by kernel_rfl]; exact h)
def token_Tokens.n : Nat := 11
noncomputable def token_Tokens.c : C := (.seq (.reg [⟨(some 2), none, (.mv (.c .nilS))⟩, ⟨(some 3), none, (.allc 32 [(.int .i64 0), (.int .i64 0)])⟩]) (.seq (.seq (.reg [⟨(some 9), none, (.mv (.t 0))⟩, ⟨(some 10), none, (.len true (.t 9))⟩, ⟨(some 11), none, (.bin .gtr (.t 10) (.c (.int .i64 256)))⟩]) (.cond (.t 11) (.seq (.reg [⟨(some 12), none, (.build [(.int .i64 0), (.int .i64 0)] [(0, (1, (.c (.int .i64 3))))])⟩, ⟨(some 2), none, (.mv (.c .nilS))⟩, ⟨none, none, (.store 2 (.t 3) (.t 12))⟩]) .ret) .skip)) (.seq (.reg [⟨(some 13), none, (.mv (.t 0))⟩, ⟨(some 14), none, (.build [(.str []), (.int .i64 0)] [(0, (1, (.t 13)))])⟩, ⟨(some 15), none, (.box 53 (.t 14))⟩, ⟨(some 4), none, (.mv (.t 15))⟩]) (.seq (.reg [⟨(some 5), none, (.mv (.c .nilS))⟩]) (.block 0 (.loop (.block 1 (.seq (.block 2 (.loop (.seq (.seq (.reg [⟨(some 16), none, (.mv (.t 4))⟩, ⟨(some 17), none, (.nilck (.t 16))⟩, ⟨(some 18), none, (.faddr 1 (.t 17))⟩, ⟨(some 19), none, (.load none (.t 18))⟩, ⟨(some 20), none, (.mv (.t 0))⟩, ⟨(some 21), none, (.len true (.t 20))⟩, ⟨(some 22), none, (.bin .lss (.t 19) (.t 21))⟩, ⟨(some 23), none, (.mv (.t 22))⟩, ⟨(some 24), (some (23, true)), (.mv (.t 0))⟩, ⟨(some 25), (some (23, true)), (.mv (.t 4))⟩, ⟨(some 26), (some (23, true)), (.nilck (.t 25))⟩, ⟨(some 27), (some (23, true)), (.faddr 1 (.t 26))⟩, ⟨(some 28), (some (23, true)), (.load none (.t 27))⟩, ⟨(some 29), (some (23, true)), (.idx (.t 24) (.t 28))⟩, ⟨(some 30), (some (23, true)), (.call 20 [(.t 29)])⟩, ⟨(some 31), none, (.pick (.t 23) (.t 30) (.c (.bool false)))⟩]) (.cond (.t 31) .skip (.exit 2))) (.block 3 (.reg [⟨(some 32), none, (.mv (.t 4))⟩, ⟨(some 33), none, (.nilck (.t 32))⟩, ⟨(some 34), none, (.faddr 1 (.t 33))⟩, ⟨(some 35), none, (.load none (.t 34))⟩, ⟨(some 36), none, (.bin .add (.t 35) (.c (.int .i64 1)))⟩, ⟨(some 37), none, (.nilck (.t 32))⟩, ⟨(some 38), none, (.faddr 1 (.t 37))⟩, ⟨none, none, (.store 1 (.t 38) (.t 36))⟩]))))) (.seq (.seq (.reg [⟨(some 39), none, (.mv (.t 4))⟩, ⟨(some 40), none, (.nilck (.t 39))⟩, ⟨(some 41), none, (.faddr 1 (.t 40))⟩, ⟨(some 42), none, (.load none (.t 41))⟩, ⟨(some 43), none, (.mv (.t 0))⟩, ⟨(some 44), none, (.len true (.t 43))⟩, ⟨(some 45), none, (.bin .eql (.t 42) (.t 44))⟩]) (.cond (.t 45) (.seq (.reg [⟨(some 46), none, (.mv (.t 5))⟩, ⟨(some 47), none, (.mv (.t 4))⟩, ⟨(some 48), none, (.nilck (.t 47))⟩, ⟨(some 49), none, (.faddr 1 (.t 48))⟩, ⟨(some 50), none, (.load none (.t 49))⟩, ⟨(some 51), none, (.build [(.int .i64 0), (.str []), (.int .u64 0), (.int .i64 0)] [(0, (1, (.c (.int .i64 6)))), (3, (1, (.t 50)))])⟩, ⟨(some 52), none, (.bslice 26 4 1 [(.int .i64 0), (.str []), (.int .u64 0), (.int .i64 0)] [(0, (.t 51))])⟩, ⟨(some 53), none, (.append 26 false 4 40 (.t 46) (.t 52))⟩, ⟨(some 54), none, (.build [(.int .i64 0), (.int .i64 0)] [])⟩, ⟨(some 2), none, (.mv (.t 53))⟩, ⟨none, none, (.store 2 (.t 3) (.t 54))⟩]) .ret) .skip)) (.seq (.reg [⟨(some 55), none, (.mv (.t 4))⟩, ⟨(some 56), none, (.nilck (.t 55))⟩, ⟨(some 57), none, (.faddr 1 (.t 56))⟩, ⟨(some 58), none, (.load none (.t 57))⟩, ⟨(some 6), none, (.mv (.t 58))⟩]) (.seq (.reg [⟨(some 60), none, (.mv (.t 4))⟩, ⟨(some 61), none, (.call 21 [(.t 60)])⟩, ⟨(some 59), none, (.mv (.t 61))⟩, ⟨(some 62), none, (.extr (.t 59) 0)⟩, ⟨(some 63), none, (.extr (.t 59) 1)⟩, ⟨(some 7), none, (.allc 26 [(.int .i64 0), (.str []), (.int .u64 0), (.int .i64 0)])⟩, ⟨(some 8), none, (.allc 32 [(.int .i64 0), (.int .i64 0)])⟩, ⟨none, none, (.store 4 (.t 7) (.t 62))⟩, ⟨none, none, (.store 2 (.t 8) (.t 63))⟩]) (.seq (.seq (.reg [⟨(some 64), none, (.faddr 0 (.t 8))⟩, ⟨(some 65), none, (.load none (.t 64))⟩, ⟨(some 66), none, (.bin .eql (.t 65) (.c (.int .i64 0)))⟩, ⟨(some 67), none, (.mv (.t 66))⟩, ⟨(some 68), (some (67, true)), (.mv (.t 5))⟩, ⟨(some 69), (some (67, true)), (.len false (.t 68))⟩, ⟨(some 70), (some (67, true)), (.bin .eql (.t 69) (.c (.int .i64 64)))⟩, ⟨(some 71), none, (.pick (.t 67) (.t 70) (.c (.bool false)))⟩]) (.cond (.t 71) (.reg [⟨(some 72), none, (.mv (.t 6))⟩, ⟨(some 73), none, (.build [(.int .i64 0), (.int .i64 0)] [(0, (1, (.c (.int .i64 3)))), (1, (1, (.t 72)))])⟩, ⟨none, none, (.store 2 (.t 8) (.t 73))⟩]) .skip)) (.seq (.seq (.reg [⟨(some 74), none, (.faddr 0 (.t 8))⟩, ⟨(some 75), none, (.load none (.t 74))⟩, ⟨(some 76), none, (.bin .neq (.t 75) (.c (.int .i64 0)))⟩]) (.cond (.t 76) (.seq (.dreg [⟨(some 77), none, (.load (some 2) (.t 8))⟩, ⟨(some 2), none, (.mv (.c .nilS))⟩] [⟨none, none, (.store 2 (.t 3) (.t 77))⟩]) .ret) .skip)) (.reg [⟨(some 78), none, (.mv (.t 5))⟩, ⟨(some 79), none, (.load (some 4) (.t 7))⟩, ⟨(some 80), none, (.bslice 26 4 1 [(.int .i64 0), (.str []), (.int .u64 0), (.int .i64 0)] [(0, (.t 79))])⟩, ⟨(some 81), none, (.append 26 false 4 40 (.t 78) (.t 80))⟩, ⟨(some 5), none, (.mv (.t 81))⟩]))))))))))))))
theorem token_Tokens.code : comp PG [] (Tryd.f11.body.getD .skip) = token_Tokens.c := by kernel_rfl
theorem token_Tokens.of {args : List AV} {H : AH} {K : AV → AH → Prop} (hl : args.length = 1) (h : wpA PG token_Tokens.c none (endA [(.t 2), (.cell 3 (some 2))] K) (initFr args) H) : ACalls PG 11 args H K :=
  ACalls.of_code (fl := []) mixed Tryd.func11 (c := Tryd.f11.body.getD .skip) (by kernel_rfl) (by kernel_rfl) (by rw [hl]; exact of_decide_eq_true (by kernel_rfl)) (by rw [token_Tokens.code]; kernel_rfl)
    (by rw [token_Tokens.code, show compRes PG Tryd.f11.results.toList = [(.t 2), (.cell 3 (some 2))] from by kernel_rfl]; exact h)
def broadsheetref14_Same.n : Nat := 12
noncomputable def broadsheetref14_Same.c : C := (.seq (.reg [⟨(some 6), none, (.mv (.c (.bool false)))⟩]) (.seq (.seq (.reg [⟨(some 9), none, (.mv (.t 0))⟩, ⟨(some 10), none, (.len false (.t 9))⟩, ⟨(some 11), none, (.mv (.t 1))⟩, ⟨(some 12), none, (.len false (.t 11))⟩, ⟨(some 13), none, (.bin .neq (.t 10) (.t 12))⟩]) (.cond (.t 13) (.seq (.reg [⟨(some 6), none, (.mv (.c (.bool false)))⟩]) .ret) .skip)) (.seq (.seq (.reg [⟨(some 7), none, (.mv (.c (.int .i64 0)))⟩]) (.block 0 (.loop (.seq (.seq (.reg [⟨(some 14), none, (.mv (.t 7))⟩, ⟨(some 15), none, (.mv (.t 0))⟩, ⟨(some 16), none, (.len false (.t 15))⟩, ⟨(some 17), none, (.bin .lss (.t 14) (.t 16))⟩]) (.cond (.t 17) .skip (.exit 0))) (.seq (.block 1 (.seq (.reg [⟨(some 20), none, (.mv (.t 0))⟩, ⟨(some 21), none, (.mv (.t 7))⟩, ⟨(some 22), none, (.iaddr 4 (.t 20) (.t 21))⟩, ⟨(some 23), none, (.load (some 4) (.t 22))⟩, ⟨(some 8), none, (.allc 26 [(.int .i64 0), (.str []), (.int .u64 0), (.int .i64 0)])⟩, ⟨none, none, (.store 4 (.t 8) (.t 23))⟩]) (.seq (.seq (.reg [⟨(some 24), none, (.mv (.t 2))⟩, ⟨(some 25), none, (.un .not (.t 24))⟩]) (.cond (.t 25) (.reg [⟨(some 26), none, (.mv (.t 1))⟩, ⟨(some 27), none, (.mv (.t 7))⟩, ⟨(some 28), none, (.iaddr 4 (.t 26) (.t 27))⟩, ⟨(some 29), none, (.faddr 3 (.t 28))⟩, ⟨(some 30), none, (.load none (.t 29))⟩, ⟨(some 31), none, (.faddr 3 (.t 8))⟩, ⟨none, none, (.store 1 (.t 31) (.t 30))⟩]) .skip)) (.seq (.dreg [⟨(some 32), none, (.load (some 4) (.t 8))⟩, ⟨(some 33), none, (.mv (.t 1))⟩, ⟨(some 34), none, (.mv (.t 7))⟩, ⟨(some 35), none, (.iaddr 4 (.t 33) (.t 34))⟩, ⟨(some 36), none, (.load (some 4) (.t 35))⟩] [⟨(some 37), none, (.aeq true [(.i .i64), .s, (.i .u64), (.i .i64)] (.t 32) (.t 36))⟩]) (.cond (.t 37) (.seq (.reg [⟨(some 6), none, (.mv (.c (.bool false)))⟩]) .ret) .skip))))) (.reg [⟨(some 18), none, (.mv (.t 7))⟩, ⟨(some 19), none, (.bin .add (.t 18) (.c (.int .i64 1)))⟩, ⟨(some 7), none, (.mv (.t 19))⟩])))))) (.seq (.reg [⟨(some 6), none, (.mv (.c (.bool true)))⟩]) .ret))))
theorem broadsheetref14_Same.code : comp PG [] (Tryd.f12.body.getD .skip) = broadsheetref14_Same.c := by kernel_rfl
theorem broadsheetref14_Same.of {args : List AV} {H : AH} {K : AV → AH → Prop} (hl : args.length = 3) (h : wpA PG broadsheetref14_Same.c none (endA [(.t 6)] K) (initFr args) H) : ACalls PG 12 args H K :=
  ACalls.of_code (fl := []) mixed Tryd.func12 (c := Tryd.f12.body.getD .skip) (by kernel_rfl) (by kernel_rfl) (by rw [hl]; exact of_decide_eq_true (by kernel_rfl)) (by rw [broadsheetref14_Same.code]; kernel_rfl)
    (by rw [broadsheetref14_Same.code, show compRes PG Tryd.f12.results.toList = [(.t 6)] from by kernel_rfl]; exact h)
def strings_Join.n : Nat := 18
noncomputable def strings_Join.c : C := (.seq (.reg [⟨(some 4), none, (.mv (.c (.str [])))⟩]) (.seq (.seq (.reg [⟨(some 11), none, (.mv (.t 0))⟩, ⟨(some 12), none, (.len false (.t 11))⟩]) (.block 0 (.seq (.reg [⟨(some 14), none, (.bin .eql (.t 12) (.c (.int .i64 0)))⟩, ⟨(some 13), none, (.mv (.t 14))⟩]) (.cond (.t 13) (.seq (.reg [⟨(some 4), none, (.mv (.c (.str [])))⟩]) .ret) (.seq (.reg [⟨(some 16), none, (.bin .eql (.t 12) (.c (.int .i64 1)))⟩, ⟨(some 15), none, (.mv (.t 16))⟩]) (.cond (.t 15) (.seq (.reg [⟨(some 17), none, (.mv (.t 0))⟩, ⟨(some 18), none, (.iaddr 1 (.t 17) (.c (.int .i64 0)))⟩, ⟨(some 19), none, (.load none (.t 18))⟩, ⟨(some 4), none, (.mv (.t 19))⟩]) .ret) .skip)))))) (.seq (.reg [⟨(some 5), none, (.mv (.c (.int .i64 0)))⟩]) (.seq (.seq (.reg [⟨(some 20), none, (.mv (.t 1))⟩, ⟨(some 21), none, (.len true (.t 20))⟩, ⟨(some 22), none, (.bin .gtr (.t 21) (.c (.int .i64 0)))⟩]) (.cond (.t 22) (.seq (.seq (.reg [⟨(some 23), none, (.mv (.t 1))⟩, ⟨(some 24), none, (.len true (.t 23))⟩, ⟨(some 25), none, (.mv (.t 0))⟩, ⟨(some 26), none, (.len false (.t 25))⟩, ⟨(some 27), none, (.bin .sub (.t 26) (.c (.int .i64 1)))⟩, ⟨(some 28), none, (.bin .quo (.c (.int .i64 9223372036854775807)) (.t 27))⟩, ⟨(some 29), none, (.bin .geq (.t 24) (.t 28))⟩]) (.cond (.t 29) (.reg [⟨(some 30), none, .bad⟩, ⟨none, none, .bad⟩]) .skip)) (.reg [⟨(some 31), none, (.mv (.t 5))⟩, ⟨(some 32), none, (.mv (.t 1))⟩, ⟨(some 33), none, (.len true (.t 32))⟩, ⟨(some 34), none, (.mv (.t 0))⟩, ⟨(some 35), none, (.len false (.t 34))⟩, ⟨(some 36), none, (.bin .sub (.t 35) (.c (.int .i64 1)))⟩, ⟨(some 37), none, (.bin .mul (.t 33) (.t 36))⟩, ⟨(some 38), none, (.bin .add (.t 31) (.t 37))⟩, ⟨(some 5), none, (.mv (.t 38))⟩])) .skip)) (.seq (.seq (.reg [⟨(some 39), none, (.mv (.t 0))⟩, ⟨(some 40), none, (.len false (.t 39))⟩, ⟨(some 41), none, (.mv (.c (.int .i64 0)))⟩]) (.block 1 (.loop (.seq (.reg [⟨(some 42), none, (.bin .lss (.t 41) (.t 40))⟩]) (.seq (.cond (.t 42) .skip (.exit 1)) (.seq (.block 2 (.seq (.reg [⟨(some 43), none, (.iaddr 1 (.t 39) (.t 41))⟩, ⟨(some 44), none, (.load none (.t 43))⟩, ⟨(some 7), none, (.mv (.t 44))⟩]) (.seq (.seq (.reg [⟨(some 45), none, (.mv (.t 7))⟩, ⟨(some 46), none, (.len true (.t 45))⟩, ⟨(some 47), none, (.mv (.t 5))⟩, ⟨(some 48), none, (.bin .sub (.c (.int .i64 9223372036854775807)) (.t 47))⟩, ⟨(some 49), none, (.bin .gtr (.t 46) (.t 48))⟩]) (.cond (.t 49) (.reg [⟨(some 50), none, .bad⟩, ⟨none, none, .bad⟩]) .skip)) (.reg [⟨(some 51), none, (.mv (.t 5))⟩, ⟨(some 52), none, (.mv (.t 7))⟩, ⟨(some 53), none, (.len true (.t 52))⟩, ⟨(some 54), none, (.bin .add (.t 51) (.t 53))⟩, ⟨(some 5), none, (.mv (.t 54))⟩])))) (.reg [⟨(some 55), none, (.bin .add (.t 41) (.c (.int .i64 1)))⟩, ⟨(some 41), none, (.mv (.t 55))⟩]))))))) (.seq (.reg [⟨(some 8), none, (.allc 64 [.nilP, .nilS])⟩]) (.seq (.reg [⟨(some 56), none, (.mv (.t 5))⟩, ⟨(some 57), none, (.call 29 [(.t 8), (.t 56)])⟩]) (.seq (.reg [⟨(some 58), none, (.mv (.t 0))⟩, ⟨(some 59), none, (.iaddr 1 (.t 58) (.c (.int .i64 0)))⟩, ⟨(some 60), none, (.load none (.t 59))⟩, ⟨(some 61), none, (.call 30 [(.t 8), (.t 60)])⟩]) (.seq (.seq (.reg [⟨(some 62), none, (.mv (.t 0))⟩, ⟨(some 63), none, (.slice (some 1) (.t 62) (some (.c (.int .i64 1))) none)⟩, ⟨(some 64), none, (.len false (.t 63))⟩, ⟨(some 65), none, (.mv (.c (.int .i64 0)))⟩]) (.block 3 (.loop (.seq (.reg [⟨(some 66), none, (.bin .lss (.t 65) (.t 64))⟩]) (.seq (.cond (.t 66) .skip (.exit 3)) (.seq (.block 4 (.seq (.reg [⟨(some 67), none, (.iaddr 1 (.t 63) (.t 65))⟩, ⟨(some 68), none, (.load none (.t 67))⟩, ⟨(some 10), none, (.mv (.t 68))⟩]) (.seq (.reg [⟨(some 69), none, (.mv (.t 1))⟩, ⟨(some 70), none, (.call 30 [(.t 8), (.t 69)])⟩]) (.reg [⟨(some 71), none, (.mv (.t 10))⟩, ⟨(some 72), none, (.call 30 [(.t 8), (.t 71)])⟩])))) (.reg [⟨(some 73), none, (.bin .add (.t 65) (.c (.int .i64 1)))⟩, ⟨(some 65), none, (.mv (.t 73))⟩]))))))) (.seq (.reg [⟨(some 74), none, (.call 24 [(.t 8)])⟩, ⟨(some 4), none, (.mv (.t 74))⟩]) .ret))))))))))
theorem strings_Join.code : comp PG [] (Tryd.f18.body.getD .skip) = strings_Join.c := by kernel_rfl
theorem strings_Join.of {args : List AV} {H : AH} {K : AV → AH → Prop} (hl : args.length = 2) (h : wpA PG strings_Join.c none (endA [(.t 4)] K) (initFr args) H) : ACalls PG 18 args H K :=
  ACalls.of_code (fl := []) mixed Tryd.func18 (c := Tryd.f18.body.getD .skip) (by kernel_rfl) (by kernel_rfl) (by rw [hl]; exact of_decide_eq_true (by kernel_rfl)) (by rw [strings_Join.code]; kernel_rfl)
    (by rw [strings_Join.code, show compRes PG Tryd.f18.results.toList = [(.t 4)] from by kernel_rfl]; exact h)
def strings_ReplaceAll.n : Nat := 19
noncomputable def strings_ReplaceAll.c : C := (.seq (.reg [⟨(some 6), none, (.mv (.c (.str [])))⟩]) (.seq (.reg [⟨(some 7), none, (.mv (.t 0))⟩, ⟨(some 8), none, (.mv (.t 1))⟩, ⟨(some 9), none, (.mv (.t 2))⟩, ⟨(some 10), none, (.call 31 [(.t 7), (.t 8), (.t 9), (.c (.int .i64 (-1)))])⟩, ⟨(some 6), none, (.mv (.t 10))⟩]) .ret))
theorem strings_ReplaceAll.code : comp PG [] (Tryd.f19.body.getD .skip) = strings_ReplaceAll.c := by kernel_rfl
theorem strings_ReplaceAll.of {args : List AV} {H : AH} {K : AV → AH → Prop} (hl : args.length = 3) (h : wpA PG strings_ReplaceAll.c none (endA [(.t 6)] K) (initFr args) H) : ACalls PG 19 args H K :=
  ACalls.of_code (fl := []) mixed Tryd.func19 (c := Tryd.f19.body.getD .skip) (by kernel_rfl) (by kernel_rfl) (by rw [hl]; exact of_decide_eq_true (by kernel_rfl)) (by rw [strings_ReplaceAll.code]; kernel_rfl)
    (by rw [strings_ReplaceAll.code, show compRes PG Tryd.f19.results.toList = [(.t 6)] from by kernel_rfl]; exact h)
def token_blank.n : Nat := 20
noncomputable def token_blank.c : C := (.seq (.reg [⟨(some 2), none, (.mv (.c (.bool false)))⟩]) (.seq (.reg [⟨(some 3), none, (.mv (.t 0))⟩, ⟨(some 4), none, (.bin .eql (.t 3) (.c (.int .u8 32)))⟩, ⟨(some 5), none, (.mv (.t 4))⟩, ⟨(some 6), (some (5, false)), (.mv (.t 0))⟩, ⟨(some 7), (some (5, false)), (.bin .eql (.t 6) (.c (.int .u8 9)))⟩, ⟨(some 8), none, (.pick (.t 5) (.c (.bool true)) (.t 7))⟩, ⟨(some 9), none, (.mv (.t 8))⟩, ⟨(some 10), (some (9, false)), (.mv (.t 0))⟩, ⟨(some 11), (some (9, false)), (.bin .eql (.t 10) (.c (.int .u8 10)))⟩, ⟨(some 12), none, (.pick (.t 9) (.c (.bool true)) (.t 11))⟩, ⟨(some 13), none, (.mv (.t 12))⟩, ⟨(some 14), (some (13, false)), (.mv (.t 0))⟩, ⟨(some 15), (some (13, false)), (.bin .eql (.t 14) (.c (.int .u8 13)))⟩, ⟨(some 16), none, (.pick (.t 13) (.c (.bool true)) (.t 15))⟩, ⟨(some 2), none, (.mv (.t 16))⟩]) .ret))
theorem token_blank.code : comp PG [] (Tryd.f20.body.getD .skip) = token_blank.c := by kernel_rfl
theorem token_blank.of {args : List AV} {H : AH} {K : AV → AH → Prop} (hl : args.length = 1) (h : wpA PG token_blank.c none (endA [(.t 2)] K) (initFr args) H) : ACalls PG 20 args H K :=
  ACalls.of_code (fl := []) mixed Tryd.func20 (c := Tryd.f20.body.getD .skip) (by kernel_rfl) (by kernel_rfl) (by rw [hl]; exact of_decide_eq_true (by kernel_rfl)) (by rw [token_blank.code]; kernel_rfl)
    (by rw [token_blank.code, show compRes PG Tryd.f20.results.toList = [(.t 2)] from by kernel_rfl]; exact h)
def token_lexer_next.n : Nat := 21
noncomputable def token_lexer_next.c : C := (.seq (.reg [⟨(some 2), none, (.allc 26 [(.int .i64 0), (.str []), (.int .u64 0), (.int .i64 0)])⟩, ⟨(some 3), none, (.allc 32 [(.int .i64 0), (.int .i64 0)])⟩]) (.seq (.seq (.reg [⟨(some 6), none, (.call 32 [])⟩, ⟨(some 7), none, (.len false (.t 6))⟩, ⟨(some 8), none, (.mv (.c (.int .i64 0)))⟩]) (.block 0 (.loop (.seq (.reg [⟨(some 9), none, (.bin .lss (.t 8) (.t 7))⟩]) (.seq (.cond (.t 9) .skip (.exit 0)) (.seq (.block 1 (.seq (.reg [⟨(some 10), none, (.iaddr 2 (.t 6) (.t 8))⟩, ⟨(some 11), none, (.load (some 2) (.t 10))⟩, ⟨(some 5), none, (.allc 85 [.nilF, .nilF])⟩, ⟨none, none, (.store 2 (.t 5) (.t 11))⟩]) (.seq (.dreg [⟨(some 12), none, (.faddr 0 (.t 5))⟩, ⟨(some 13), none, (.load none (.t 12))⟩, ⟨(some 14), none, (.mv (.t 0))⟩, ⟨(some 15), none, (.nilck (.t 14))⟩, ⟨(some 16), none, (.faddr 0 (.t 15))⟩, ⟨(some 17), none, (.load none (.t 16))⟩, ⟨(some 18), none, (.mv (.t 0))⟩, ⟨(some 19), none, (.nilck (.t 18))⟩, ⟨(some 20), none, (.faddr 1 (.t 19))⟩, ⟨(some 21), none, (.load none (.t 20))⟩, ⟨(some 22), none, (.idx (.t 17) (.t 21))⟩] [⟨(some 23), none, (.callv (.t 13) [(.t 22)])⟩]) (.cond (.t 23) (.seq (.reg [⟨(some 24), none, (.faddr 1 (.t 5))⟩, ⟨(some 25), none, (.load none (.t 24))⟩, ⟨(some 26), none, (.mv (.t 0))⟩, ⟨(some 27), none, (.callv (.t 25) [(.t 26)])⟩, ⟨(some 28), none, (.extr (.t 27) 0)⟩, ⟨(some 29), none, (.extr (.t 27) 1)⟩, ⟨none, none, (.store 4 (.t 2) (.t 28))⟩, ⟨none, none, (.store 2 (.t 3) (.t 29))⟩]) .ret) .skip)))) (.reg [⟨(some 30), none, (.bin .add (.t 8) (.c (.int .i64 1)))⟩, ⟨(some 8), none, (.mv (.t 30))⟩]))))))) (.seq (.dreg [⟨(some 31), none, (.build [(.int .i64 0), (.str []), (.int .u64 0), (.int .i64 0)] [])⟩, ⟨(some 32), none, (.mv (.t 0))⟩, ⟨(some 33), none, (.nilck (.t 32))⟩, ⟨(some 34), none, (.faddr 1 (.t 33))⟩, ⟨(some 35), none, (.load none (.t 34))⟩, ⟨(some 36), none, (.build [(.int .i64 0), (.int .i64 0)] [(0, (1, (.c (.int .i64 11)))), (1, (1, (.t 35)))])⟩, ⟨none, none, (.store 4 (.t 2) (.t 31))⟩] [⟨none, none, (.store 2 (.t 3) (.t 36))⟩]) .ret)))
theorem token_lexer_next.code : comp PG [] (Tryd.f21.body.getD .skip) = token_lexer_next.c := by kernel_rfl
theorem token_lexer_next.of {args : List AV} {H : AH} {K : AV → AH → Prop} (hl : args.length = 1) (h : wpA PG token_lexer_next.c none (endA [(.cell 2 (some 4)), (.cell 3 (some 2))] K) (initFr args) H) : ACalls PG 21 args H K :=
  ACalls.of_code (fl := []) mixed Tryd.func21 (c := Tryd.f21.body.getD .skip) (by kernel_rfl) (by kernel_rfl) (by rw [hl]; exact of_decide_eq_true (by kernel_rfl)) (by rw [token_lexer_next.code]; kernel_rfl)
    (by rw [token_lexer_next.code, show compRes PG Tryd.f21.results.toList = [(.cell 2 (some 4)), (.cell 3 (some 2))] from by kernel_rfl]; exact h)
def strings_Builder_String.n : Nat := 24
noncomputable def strings_Builder_String.c : C := (.seq (.reg [⟨(some 2), none, (.mv (.c (.str [])))⟩]) (.seq (.dreg [⟨(some 3), none, (.mv (.t 0))⟩, ⟨(some 4), none, (.nilck (.t 3))⟩, ⟨(some 5), none, (.faddr 1 (.t 4))⟩, ⟨(some 6), none, (.load none (.t 5))⟩, ⟨(some 7), none, (.sdata (.t 6))⟩, ⟨(some 8), none, (.mv (.t 0))⟩, ⟨(some 9), none, (.nilck (.t 8))⟩, ⟨(some 10), none, (.faddr 1 (.t 9))⟩, ⟨(some 11), none, (.load none (.t 10))⟩, ⟨(some 12), none, (.len false (.t 11))⟩] [⟨(some 13), none, (.ustr 5 (.t 7) (.t 12))⟩, ⟨(some 2), none, (.mv (.t 13))⟩]) .ret))
theorem strings_Builder_String.code : comp PG [] (Tryd.f24.body.getD .skip) = strings_Builder_String.c := by kernel_rfl
theorem strings_Builder_String.of {args : List AV} {H : AH} {K : AV → AH → Prop} (hl : args.length = 1) (h : wpA PG strings_Builder_String.c none (endA [(.t 2)] K) (initFr args) H) : ACalls PG 24 args H K :=
  ACalls.of_code (fl := []) mixed Tryd.func24 (c := Tryd.f24.body.getD .skip) (by kernel_rfl) (by kernel_rfl) (by rw [hl]; exact of_decide_eq_true (by kernel_rfl)) (by rw [strings_Builder_String.code]; kernel_rfl)
    (by rw [strings_Builder_String.code, show compRes PG Tryd.f24.results.toList = [(.t 2)] from by kernel_rfl]; exact h)
def strings_Builder_Grow.n : Nat := 29
noncomputable def strings_Builder_Grow.c : C := (.seq (.reg [⟨(some 4), none, (.mv (.t 0))⟩, ⟨(some 5), none, (.call 39 [(.t 4)])⟩]) (.seq (.seq (.reg [⟨(some 6), none, (.mv (.t 1))⟩, ⟨(some 7), none, (.bin .lss (.t 6) (.c (.int .i64 0)))⟩]) (.cond (.t 7) (.reg [⟨(some 8), none, .bad⟩, ⟨none, none, .bad⟩]) .skip)) (.seq (.dreg [⟨(some 9), none, (.mv (.t 0))⟩, ⟨(some 10), none, (.nilck (.t 9))⟩, ⟨(some 11), none, (.faddr 1 (.t 10))⟩, ⟨(some 12), none, (.load none (.t 11))⟩, ⟨(some 13), none, .bad⟩, ⟨(some 14), none, (.mv (.t 0))⟩, ⟨(some 15), none, (.nilck (.t 14))⟩, ⟨(some 16), none, (.faddr 1 (.t 15))⟩, ⟨(some 17), none, (.load none (.t 16))⟩, ⟨(some 18), none, (.len false (.t 17))⟩, ⟨(some 19), none, (.bin .sub (.t 13) (.t 18))⟩, ⟨(some 20), none, (.mv (.t 1))⟩] [⟨(some 21), none, (.bin .lss (.t 19) (.t 20))⟩]) (.cond (.t 21) (.reg [⟨(some 22), none, (.mv (.t 0))⟩, ⟨(some 23), none, (.mv (.t 1))⟩, ⟨(some 24), none, (.call 40 [(.t 22), (.t 23)])⟩]) .skip))))
theorem strings_Builder_Grow.code : comp PG [] (Tryd.f29.body.getD .skip) = strings_Builder_Grow.c := by kernel_rfl
theorem strings_Builder_Grow.of {args : List AV} {H : AH} {K : AV → AH → Prop} (hl : args.length = 2) (h : wpA PG strings_Builder_Grow.c none (endA [] K) (initFr args) H) : ACalls PG 29 args H K :=
  ACalls.of_code (fl := []) mixed Tryd.func29 (c := Tryd.f29.body.getD .skip) (by kernel_rfl) (by kernel_rfl) (by rw [hl]; exact of_decide_eq_true (by kernel_rfl)) (by rw [strings_Builder_Grow.code]; kernel_rfl)
    (by rw [strings_Builder_Grow.code, show compRes PG Tryd.f29.results.toList = [] from by kernel_rfl]; exact h)
def strings_Builder_WriteString.n : Nat := 30
noncomputable def strings_Builder_WriteString.c : C := (.seq (.reg [⟨(some 4), none, (.mv (.c (.int .i64 0)))⟩, ⟨(some 5), none, (.mv (.c .nilI))⟩]) (.seq (.reg [⟨(some 6), none, (.mv (.t 0))⟩, ⟨(some 7), none, (.call 39 [(.t 6)])⟩]) (.seq (.reg [⟨(some 8), none, (.mv (.t 0))⟩, ⟨(some 9), none, (.mv (.t 0))⟩, ⟨(some 10), none, (.nilck (.t 9))⟩, ⟨(some 11), none, (.faddr 1 (.t 10))⟩, ⟨(some 12), none, (.load none (.t 11))⟩, ⟨(some 13), none, (.mv (.t 1))⟩, ⟨(some 14), none, (.append 5 true 1 1 (.t 12) (.t 13))⟩, ⟨(some 15), none, (.nilck (.t 8))⟩, ⟨(some 16), none, (.faddr 1 (.t 15))⟩, ⟨none, none, (.store 1 (.t 16) (.t 14))⟩]) (.seq (.reg [⟨(some 17), none, (.mv (.t 1))⟩, ⟨(some 18), none, (.len true (.t 17))⟩, ⟨(some 4), none, (.mv (.t 18))⟩, ⟨(some 5), none, (.mv (.c .nilI))⟩]) .ret))))
theorem strings_Builder_WriteString.code : comp PG [] (Tryd.f30.body.getD .skip) = strings_Builder_WriteString.c := by kernel_rfl
theorem strings_Builder_WriteString.of {args : List AV} {H : AH} {K : AV → AH → Prop} (hl : args.length = 2) (h : wpA PG strings_Builder_WriteString.c none (endA [(.t 4), (.t 5)] K) (initFr args) H) : ACalls PG 30 args H K :=
  ACalls.of_code (fl := []) mixed Tryd.func30 (c := Tryd.f30.body.getD .skip) (by kernel_rfl) (by kernel_rfl) (by rw [hl]; exact of_decide_eq_true (by kernel_rfl)) (by rw [strings_Builder_WriteString.code]; kernel_rfl)
    (by rw [strings_Builder_WriteString.code, show compRes PG Tryd.f30.results.toList = [(.t 4), (.t 5)] from by kernel_rfl]; exact h)
def strings_Replace.n : Nat := 31
noncomputable def strings_Replace.c : C := (.seq (.reg [⟨(some 8), none, (.mv (.c (.str [])))⟩]) (.seq (.seq (.reg [⟨(some 16), none, (.mv (.t 1))⟩, ⟨(some 17), none, (.mv (.t 2))⟩, ⟨(some 18), none, (.bin .eql (.t 16) (.t 17))⟩, ⟨(some 19), none, (.mv (.t 18))⟩, ⟨(some 20), (some (19, false)), (.mv (.t 3))⟩, ⟨(some 21), (some (19, false)), (.bin .eql (.t 20) (.c (.int .i64 0)))⟩, ⟨(some 22), none, (.pick (.t 19) (.c (.bool true)) (.t 21))⟩]) (.cond (.t 22) (.seq (.reg [⟨(some 23), none, (.mv (.t 0))⟩, ⟨(some 8), none, (.mv (.t 23))⟩]) .ret) .skip)) (.seq (.seq (.reg [⟨(some 24), none, (.mv (.t 0))⟩, ⟨(some 25), none, (.mv (.t 1))⟩, ⟨(some 26), none, (.call 41 [(.t 24), (.t 25)])⟩, ⟨(some 9), none, (.mv (.t 26))⟩]) (.seq (.reg [⟨(some 27), none, (.mv (.t 9))⟩, ⟨(some 28), none, (.bin .eql (.t 27) (.c (.int .i64 0)))⟩]) (.cond (.t 28) (.seq (.reg [⟨(some 29), none, (.mv (.t 0))⟩, ⟨(some 8), none, (.mv (.t 29))⟩]) .ret) (.seq (.reg [⟨(some 30), none, (.mv (.t 3))⟩, ⟨(some 31), none, (.bin .lss (.t 30) (.c (.int .i64 0)))⟩, ⟨(some 32), none, (.mv (.t 31))⟩, ⟨(some 33), (some (32, false)), (.mv (.t 9))⟩, ⟨(some 34), (some (32, false)), (.mv (.t 3))⟩, ⟨(some 35), (some (32, false)), (.bin .lss (.t 33) (.t 34))⟩, ⟨(some 36), none, (.pick (.t 32) (.c (.bool true)) (.t 35))⟩]) (.cond (.t 36) (.reg [⟨(some 37), none, (.mv (.t 9))⟩, ⟨(some 3), none, (.mv (.t 37))⟩]) .skip))))) (.seq (.reg [⟨(some 10), none, (.allc 64 [.nilP, .nilS])⟩]) (.seq (.reg [⟨(some 38), none, (.mv (.t 0))⟩, ⟨(some 39), none, (.len true (.t 38))⟩, ⟨(some 40), none, (.mv (.t 3))⟩, ⟨(some 41), none, (.mv (.t 2))⟩, ⟨(some 42), none, (.len true (.t 41))⟩, ⟨(some 43), none, (.mv (.t 1))⟩, ⟨(some 44), none, (.len true (.t 43))⟩, ⟨(some 45), none, (.bin .sub (.t 42) (.t 44))⟩, ⟨(some 46), none, (.bin .mul (.t 40) (.t 45))⟩, ⟨(some 47), none, (.bin .add (.t 39) (.t 46))⟩, ⟨(some 48), none, (.call 29 [(.t 10), (.t 47)])⟩]) (.seq (.reg [⟨(some 11), none, (.mv (.c (.int .i64 0)))⟩]) (.seq (.seq (.reg [⟨(some 49), none, (.mv (.t 1))⟩, ⟨(some 50), none, (.len true (.t 49))⟩, ⟨(some 51), none, (.bin .gtr (.t 50) (.c (.int .i64 0)))⟩]) (.cond (.t 51) (.seq (.reg [⟨(some 52), none, (.mv (.t 3))⟩, ⟨(some 53), none, (.mv (.c (.int .i64 0)))⟩]) (.block 0 (.loop (.seq (.reg [⟨(some 54), none, (.bin .lss (.t 53) (.t 52))⟩]) (.seq (.cond (.t 54) .skip (.exit 0)) (.seq (.block 1 (.seq (.reg [⟨(some 55), none, (.mv (.t 11))⟩, ⟨(some 56), none, (.mv (.t 0))⟩, ⟨(some 57), none, (.mv (.t 11))⟩, ⟨(some 58), none, (.slice none (.t 56) (some (.t 57)) none)⟩, ⟨(some 59), none, (.mv (.t 1))⟩, ⟨(some 60), none, (.call 42 [(.t 58), (.t 59)])⟩, ⟨(some 61), none, (.bin .add (.t 55) (.t 60))⟩, ⟨(some 12), none, (.mv (.t 61))⟩]) (.seq (.reg [⟨(some 62), none, (.mv (.t 0))⟩, ⟨(some 63), none, (.mv (.t 11))⟩, ⟨(some 64), none, (.mv (.t 12))⟩, ⟨(some 65), none, (.slice none (.t 62) (some (.t 63)) (some (.t 64)))⟩, ⟨(some 66), none, (.call 30 [(.t 10), (.t 65)])⟩]) (.seq (.reg [⟨(some 67), none, (.mv (.t 2))⟩, ⟨(some 68), none, (.call 30 [(.t 10), (.t 67)])⟩]) (.reg [⟨(some 69), none, (.mv (.t 12))⟩, ⟨(some 70), none, (.mv (.t 1))⟩, ⟨(some 71), none, (.len true (.t 70))⟩, ⟨(some 72), none, (.bin .add (.t 69) (.t 71))⟩, ⟨(some 11), none, (.mv (.t 72))⟩]))))) (.reg [⟨(some 73), none, (.bin .add (.t 53) (.c (.int .i64 1)))⟩, ⟨(some 53), none, (.mv (.t 73))⟩]))))))) (.seq (.reg [⟨(some 74), none, (.mv (.t 2))⟩, ⟨(some 75), none, (.call 30 [(.t 10), (.t 74)])⟩]) (.seq (.reg [⟨(some 76), none, (.mv (.t 3))⟩, ⟨(some 77), none, (.bin .sub (.t 76) (.c (.int .i64 1)))⟩, ⟨(some 78), none, (.mv (.c (.int .i64 0)))⟩]) (.block 2 (.loop (.seq (.reg [⟨(some 79), none, (.bin .lss (.t 78) (.t 77))⟩]) (.seq (.cond (.t 79) .skip (.exit 2)) (.seq (.block 3 (.seq (.reg [⟨(some 81), none, (.mv (.t 0))⟩, ⟨(some 82), none, (.mv (.t 11))⟩, ⟨(some 83), none, (.slice none (.t 81) (some (.t 82)) none)⟩, ⟨(some 84), none, (.call 43 [(.t 83)])⟩, ⟨(some 80), none, (.mv (.t 84))⟩, ⟨(some 85), none, (.extr (.t 80) 0)⟩, ⟨(some 86), none, (.extr (.t 80) 1)⟩, ⟨(some 13), none, (.mv (.t 85))⟩, ⟨(some 14), none, (.mv (.t 86))⟩]) (.seq (.reg [⟨(some 87), none, (.mv (.t 11))⟩, ⟨(some 88), none, (.mv (.t 14))⟩, ⟨(some 89), none, (.bin .add (.t 87) (.t 88))⟩, ⟨(some 15), none, (.mv (.t 89))⟩]) (.seq (.reg [⟨(some 90), none, (.mv (.t 0))⟩, ⟨(some 91), none, (.mv (.t 11))⟩, ⟨(some 92), none, (.mv (.t 15))⟩, ⟨(some 93), none, (.slice none (.t 90) (some (.t 91)) (some (.t 92)))⟩, ⟨(some 94), none, (.call 30 [(.t 10), (.t 93)])⟩]) (.seq (.reg [⟨(some 95), none, (.mv (.t 2))⟩, ⟨(some 96), none, (.call 30 [(.t 10), (.t 95)])⟩]) (.reg [⟨(some 97), none, (.mv (.t 15))⟩, ⟨(some 11), none, (.mv (.t 97))⟩])))))) (.reg [⟨(some 98), none, (.bin .add (.t 78) (.c (.int .i64 1)))⟩, ⟨(some 78), none, (.mv (.t 98))⟩])))))))))) (.seq (.reg [⟨(some 99), none, (.mv (.t 0))⟩, ⟨(some 100), none, (.mv (.t 11))⟩, ⟨(some 101), none, (.slice none (.t 99) (some (.t 100)) none)⟩, ⟨(some 102), none, (.call 30 [(.t 10), (.t 101)])⟩]) (.seq (.reg [⟨(some 103), none, (.call 24 [(.t 10)])⟩, ⟨(some 8), none, (.mv (.t 103))⟩]) .ret)))))))))
theorem strings_Replace.code : comp PG [] (Tryd.f31.body.getD .skip) = strings_Replace.c := by kernel_rfl
theorem strings_Replace.of {args : List AV} {H : AH} {K : AV → AH → Prop} (hl : args.length = 4) (h : wpA PG strings_Replace.c none (endA [(.t 8)] K) (initFr args) H) : ACalls PG 31 args H K :=
  ACalls.of_code (fl := []) mixed Tryd.func31 (c := Tryd.f31.body.getD .skip) (by kernel_rfl) (by kernel_rfl) (by rw [hl]; exact of_decide_eq_true (by kernel_rfl)) (by rw [strings_Replace.code]; kernel_rfl)
    (by rw [strings_Replace.code, show compRes PG Tryd.f31.results.toList = [(.t 8)] from by kernel_rfl]; exact h)
def token_kinds.n : Nat := 32
noncomputable def token_kinds.c : C := (.seq (.reg [⟨(some 0), none, (.mv (.c .nilS))⟩]) (.seq (.reg [⟨(some 1), none, (.build [.nilF, .nilF] [(0, (1, (.c (.clo 44 [] [])))), (1, (1, (.c (.clo 46 [] []))))])⟩, ⟨(some 2), none, (.build [.nilF, .nilF] [(0, (1, (.c (.clo 47 [] [])))), (1, (1, (.c (.clo 48 [] []))))])⟩, ⟨(some 3), none, (.build [.nilF, .nilF] [(0, (1, (.c (.clo 49 [] [])))), (1, (1, (.c (.clo 50 [] []))))])⟩, ⟨(some 4), none, (.build [.nilF, .nilF] [(0, (1, (.c (.clo 51 [] [])))), (1, (1, (.c (.clo 52 [] []))))])⟩, ⟨(some 5), none, (.build [.nilF, .nilF] [(0, (1, (.c (.clo 53 [] [])))), (1, (1, (.c (.clo 55 [] []))))])⟩, ⟨(some 6), none, (.bslice 85 2 5 [.nilF, .nilF] [(0, (.t 1)), (1, (.t 2)), (2, (.t 3)), (3, (.t 4)), (4, (.t 5))])⟩, ⟨(some 0), none, (.mv (.t 6))⟩]) .ret))
theorem token_kinds.code : comp PG [] (Tryd.f32.body.getD .skip) = token_kinds.c := by kernel_rfl
theorem token_kinds.of {args : List AV} {H : AH} {K : AV → AH → Prop} (hl : args.length = 0) (h : wpA PG token_kinds.c none (endA [(.t 0)] K) (initFr args) H) : ACalls PG 32 args H K :=
  ACalls.of_code (fl := []) mixed Tryd.func32 (c := Tryd.f32.body.getD .skip) (by kernel_rfl) (by kernel_rfl) (by rw [hl]; exact of_decide_eq_true (by kernel_rfl)) (by rw [token_kinds.code]; kernel_rfl)
    (by rw [token_kinds.code, show compRes PG Tryd.f32.results.toList = [(.t 0)] from by kernel_rfl]; exact h)
def strings_Builder_copyCheck.n : Nat := 39
noncomputable def strings_Builder_copyCheck.c : C := (.seq (.reg [⟨(some 2), none, (.mv (.t 0))⟩, ⟨(some 3), none, (.nilck (.t 2))⟩, ⟨(some 4), none, (.faddr 0 (.t 3))⟩, ⟨(some 5), none, (.load none (.t 4))⟩, ⟨(some 6), none, (.ncmpP false (.t 5))⟩]) (.cond (.t 6) (.reg [⟨(some 7), none, (.mv (.t 0))⟩, ⟨(some 8), none, (.mv (.t 0))⟩, ⟨(some 9), none, (.idu (.t 8))⟩, ⟨(some 10), none, (.ext .same [(.t 9)])⟩, ⟨(some 11), none, (.idf [(64, (2, 0))] (.t 10))⟩, ⟨(some 12), none, (.nilck (.t 7))⟩, ⟨(some 13), none, (.faddr 0 (.t 12))⟩, ⟨none, none, (.store 1 (.t 13) (.t 11))⟩]) (.seq (.reg [⟨(some 14), none, (.mv (.t 0))⟩, ⟨(some 15), none, (.nilck (.t 14))⟩, ⟨(some 16), none, (.faddr 0 (.t 15))⟩, ⟨(some 17), none, (.load none (.t 16))⟩, ⟨(some 18), none, (.mv (.t 0))⟩, ⟨(some 19), none, (.peq true (.t 17) (.t 18))⟩]) (.cond (.t 19) .bad .skip))))
theorem strings_Builder_copyCheck.code : comp PG [] (Tryd.f39.body.getD .skip) = strings_Builder_copyCheck.c := by kernel_rfl
theorem strings_Builder_copyCheck.of {args : List AV} {H : AH} {K : AV → AH → Prop} (hl : args.length = 1) (h : wpA PG strings_Builder_copyCheck.c none (endA [] K) (initFr args) H) : ACalls PG 39 args H K :=
  ACalls.of_code (fl := []) mixed Tryd.func39 (c := Tryd.f39.body.getD .skip) (by kernel_rfl) (by kernel_rfl) (by rw [hl]; exact of_decide_eq_true (by kernel_rfl)) (by rw [strings_Builder_copyCheck.code]; kernel_rfl)
    (by rw [strings_Builder_copyCheck.code, show compRes PG Tryd.f39.results.toList = [] from by kernel_rfl]; exact h)
def strings_Builder_grow.n : Nat := 40
noncomputable def strings_Builder_grow.c : C := (.seq (.dreg [⟨(some 5), none, (.mv (.t 0))⟩, ⟨(some 6), none, (.nilck (.t 5))⟩, ⟨(some 7), none, (.faddr 1 (.t 6))⟩, ⟨(some 8), none, (.load none (.t 7))⟩, ⟨(some 9), none, .bad⟩, ⟨(some 10), none, (.bin .mul (.c (.int .i64 2)) (.t 9))⟩, ⟨(some 11), none, (.mv (.t 1))⟩, ⟨(some 12), none, (.bin .add (.t 10) (.t 11))⟩, ⟨(some 13), none, (.call 61 [(.t 12)])⟩, ⟨(some 14), none, (.mv (.t 0))⟩, ⟨(some 15), none, (.nilck (.t 14))⟩, ⟨(some 16), none, (.faddr 1 (.t 15))⟩, ⟨(some 17), none, (.load none (.t 16))⟩, ⟨(some 18), none, (.len false (.t 17))⟩] [⟨(some 19), none, (.slice (some 1) (.t 13) none (some (.t 18)))⟩, ⟨(some 4), none, (.mv (.t 19))⟩]) (.seq (.reg [⟨(some 20), none, (.mv (.t 4))⟩, ⟨(some 21), none, (.mv (.t 0))⟩, ⟨(some 22), none, (.nilck (.t 21))⟩, ⟨(some 23), none, (.faddr 1 (.t 22))⟩, ⟨(some 24), none, (.load none (.t 23))⟩, ⟨(some 25), none, .bad⟩]) (.reg [⟨(some 26), none, (.mv (.t 0))⟩, ⟨(some 27), none, (.mv (.t 4))⟩, ⟨(some 28), none, (.nilck (.t 26))⟩, ⟨(some 29), none, (.faddr 1 (.t 28))⟩, ⟨none, none, (.store 1 (.t 29) (.t 27))⟩])))
theorem strings_Builder_grow.code : comp PG [] (Tryd.f40.body.getD .skip) = strings_Builder_grow.c := by kernel_rfl
theorem strings_Builder_grow.of {args : List AV} {H : AH} {K : AV → AH → Prop} (hl : args.length = 2) (h : wpA PG strings_Builder_grow.c none (endA [] K) (initFr args) H) : ACalls PG 40 args H K :=
  ACalls.of_code (fl := []) mixed Tryd.func40 (c := Tryd.f40.body.getD .skip) (by kernel_rfl) (by kernel_rfl) (by rw [hl]; exact of_decide_eq_true (by kernel_rfl)) (by rw [strings_Builder_grow.code]; kernel_rfl)
    (by rw [strings_Builder_grow.code, show compRes PG Tryd.f40.results.toList = [] from by kernel_rfl]; exact h)
def strings_Count.n : Nat := 41
noncomputable def strings_Count.c : C := (.seq (.reg [⟨(some 4), none, (.mv (.c (.int .i64 0)))⟩]) (.seq (.seq (.reg [⟨(some 7), none, (.mv (.t 1))⟩, ⟨(some 8), none, (.len true (.t 7))⟩, ⟨(some 9), none, (.bin .eql (.t 8) (.c (.int .i64 0)))⟩]) (.cond (.t 9) (.seq (.reg [⟨(some 10), none, (.mv (.t 0))⟩, ⟨(some 11), none, (.call 62 [(.t 10)])⟩, ⟨(some 12), none, (.bin .add (.t 11) (.c (.int .i64 1)))⟩, ⟨(some 4), none, (.mv (.t 12))⟩]) .ret) .skip)) (.seq (.seq (.reg [⟨(some 13), none, (.mv (.t 1))⟩, ⟨(some 14), none, (.len true (.t 13))⟩, ⟨(some 15), none, (.bin .eql (.t 14) (.c (.int .i64 1)))⟩]) (.cond (.t 15) (.seq (.reg [⟨(some 16), none, (.mv (.t 0))⟩, ⟨(some 17), none, (.mv (.t 1))⟩, ⟨(some 18), none, (.idx (.t 17) (.c (.int .i64 0)))⟩, ⟨(some 19), none, (.ext .cnt [(.t 16), (.t 18)])⟩, ⟨(some 4), none, (.mv (.t 19))⟩]) .ret) .skip)) (.seq (.reg [⟨(some 5), none, (.mv (.c (.int .i64 0)))⟩]) (.block 0 (.loop (.block 1 (.seq (.reg [⟨(some 20), none, (.mv (.t 0))⟩, ⟨(some 21), none, (.mv (.t 1))⟩, ⟨(some 22), none, (.call 42 [(.t 20), (.t 21)])⟩, ⟨(some 6), none, (.mv (.t 22))⟩]) (.seq (.seq (.reg [⟨(some 23), none, (.mv (.t 6))⟩, ⟨(some 24), none, (.bin .eql (.t 23) (.c (.int .i64 (-1))))⟩]) (.cond (.t 24) (.seq (.reg [⟨(some 25), none, (.mv (.t 5))⟩, ⟨(some 4), none, (.mv (.t 25))⟩]) .ret) .skip)) (.seq (.reg [⟨(some 26), none, (.mv (.t 5))⟩, ⟨(some 27), none, (.bin .add (.t 26) (.c (.int .i64 1)))⟩, ⟨(some 5), none, (.mv (.t 27))⟩]) (.reg [⟨(some 28), none, (.mv (.t 0))⟩, ⟨(some 29), none, (.mv (.t 6))⟩, ⟨(some 30), none, (.mv (.t 1))⟩, ⟨(some 31), none, (.len true (.t 30))⟩, ⟨(some 32), none, (.bin .add (.t 29) (.t 31))⟩, ⟨(some 33), none, (.slice none (.t 28) (some (.t 32)) none)⟩, ⟨(some 0), none, (.mv (.t 33))⟩])))))))))))
theorem strings_Count.code : comp PG [] (Tryd.f41.body.getD .skip) = strings_Count.c := by kernel_rfl
theorem strings_Count.of {args : List AV} {H : AH} {K : AV → AH → Prop} (hl : args.length = 2) (h : wpA PG strings_Count.c none (endA [(.t 4)] K) (initFr args) H) : ACalls PG 41 args H K :=
  ACalls.of_code (fl := []) mixed Tryd.func41 (c := Tryd.f41.body.getD .skip) (by kernel_rfl) (by kernel_rfl) (by rw [hl]; exact of_decide_eq_true (by kernel_rfl)) (by rw [strings_Count.code]; kernel_rfl)
    (by rw [strings_Count.code, show compRes PG Tryd.f41.results.toList = [(.t 4)] from by kernel_rfl]; exact h)
def strings_Index.n : Nat := 42
noncomputable def strings_Index.c : C := (.seq (.reg [⟨(some 4), none, (.mv (.c (.int .i64 0)))⟩]) (.seq (.reg [⟨(some 5), none, (.mv (.t 0))⟩, ⟨(some 6), none, (.mv (.t 1))⟩, ⟨(some 7), none, (.call 64 [(.t 5), (.t 6)])⟩, ⟨(some 4), none, (.mv (.t 7))⟩]) .ret))
theorem strings_Index.code : comp PG [] (Tryd.f42.body.getD .skip) = strings_Index.c := by kernel_rfl
theorem strings_Index.of {args : List AV} {H : AH} {K : AV → AH → Prop} (hl : args.length = 2) (h : wpA PG strings_Index.c none (endA [(.t 4)] K) (initFr args) H) : ACalls PG 42 args H K :=
  ACalls.of_code (fl := []) mixed Tryd.func42 (c := Tryd.f42.body.getD .skip) (by kernel_rfl) (by kernel_rfl) (by rw [hl]; exact of_decide_eq_true (by kernel_rfl)) (by rw [strings_Index.code]; kernel_rfl)
    (by rw [strings_Index.code, show compRes PG Tryd.f42.results.toList = [(.t 4)] from by kernel_rfl]; exact h)
def token_kinds_1.n : Nat := 44
noncomputable def token_kinds_1.c : C := (.seq (.reg [⟨(some 2), none, (.mv (.c (.bool false)))⟩]) (.seq (.reg [⟨(some 3), none, (.mv (.t 0))⟩, ⟨(some 4), none, (.bslice 5 1 1 [(.int .u8 0)] [(0, (.t 3))])⟩, ⟨(some 5), none, (.bytesS (.t 4))⟩, ⟨(some 6), none, (.call 45 [(.t 5)])⟩, ⟨(some 7), none, (.bin .eql (.t 6) (.c (.int .i64 1)))⟩, ⟨(some 2), none, (.mv (.t 7))⟩]) .ret))
theorem token_kinds_1.code : comp PG [] (Tryd.f44.body.getD .skip) = token_kinds_1.c := by kernel_rfl
theorem token_kinds_1.of {args : List AV} {H : AH} {K : AV → AH → Prop} (hl : args.length = 1) (h : wpA PG token_kinds_1.c none (endA [(.t 2)] K) (initFr args) H) : ACalls PG 44 args H K :=
  ACalls.of_code (fl := []) mixed Tryd.func44 (c := Tryd.f44.body.getD .skip) (by kernel_rfl) (by kernel_rfl) (by rw [hl]; exact of_decide_eq_true (by kernel_rfl)) (by rw [token_kinds_1.code]; kernel_rfl)
    (by rw [token_kinds_1.code, show compRes PG Tryd.f44.results.toList = [(.t 2)] from by kernel_rfl]; exact h)
theorem token_kinds_1.of' {args : List AV} {H : AH} {K : AV → AH → Prop} (hl : args.length ≤ 8) (h : wpA PG token_kinds_1.c none (endA [(.t 2)] K) (initFr args) H) : ACalls PG 44 args H K :=
  ACalls.of_code (fl := []) mixed Tryd.func44 (c := Tryd.f44.body.getD .skip) (by kernel_rfl) (by kernel_rfl) hl (by rw [token_kinds_1.code]; kernel_rfl) (by rw [token_kinds_1.code, show compRes PG Tryd.f44.results.toList = [(.t 2)] from by kernel_rfl]; exact h)
def name_Lead.n : Nat := 45
noncomputable def name_Lead.c : C := (.seq (.reg [⟨(some 2), none, (.mv (.c (.int .i64 0)))⟩]) (.seq (.reg [⟨(some 3), none, (.mv (.c (.int .i64 0)))⟩]) (.seq (.block 0 (.loop (.seq (.seq (.reg [⟨(some 4), none, (.mv (.t 3))⟩, ⟨(some 5), none, (.mv (.t 0))⟩, ⟨(some 6), none, (.len true (.t 5))⟩, ⟨(some 7), none, (.bin .lss (.t 4) (.t 6))⟩, ⟨(some 8), none, (.mv (.t 7))⟩, ⟨(some 9), (some (8, true)), (.mv (.t 0))⟩, ⟨(some 10), (some (8, true)), (.mv (.t 3))⟩, ⟨(some 11), (some (8, true)), (.idx (.t 9) (.t 10))⟩, ⟨(some 12), (some (8, true)), (.mv (.t 3))⟩, ⟨(some 13), (some (8, true)), (.bin .eql (.t 12) (.c (.int .i64 0)))⟩, ⟨(some 14), (some (8, true)), (.call 66 [(.t 11), (.t 13)])⟩, ⟨(some 15), none, (.pick (.t 8) (.t 14) (.c (.bool false)))⟩]) (.cond (.t 15) .skip (.exit 0))) (.block 1 (.reg [⟨(some 16), none, (.mv (.t 3))⟩, ⟨(some 17), none, (.bin .add (.t 16) (.c (.int .i64 1)))⟩, ⟨(some 3), none, (.mv (.t 17))⟩]))))) (.seq (.reg [⟨(some 18), none, (.mv (.t 3))⟩, ⟨(some 2), none, (.mv (.t 18))⟩]) .ret))))
theorem name_Lead.code : comp PG [] (Tryd.f45.body.getD .skip) = name_Lead.c := by kernel_rfl
theorem name_Lead.of {args : List AV} {H : AH} {K : AV → AH → Prop} (hl : args.length = 1) (h : wpA PG name_Lead.c none (endA [(.t 2)] K) (initFr args) H) : ACalls PG 45 args H K :=
  ACalls.of_code (fl := []) mixed Tryd.func45 (c := Tryd.f45.body.getD .skip) (by kernel_rfl) (by kernel_rfl) (by rw [hl]; exact of_decide_eq_true (by kernel_rfl)) (by rw [name_Lead.code]; kernel_rfl)
    (by rw [name_Lead.code, show compRes PG Tryd.f45.results.toList = [(.t 2)] from by kernel_rfl]; exact h)
def token_word.n : Nat := 46
noncomputable def token_word.c : C := (.seq (.reg [⟨(some 2), none, (.allc 26 [(.int .i64 0), (.str []), (.int .u64 0), (.int .i64 0)])⟩, ⟨(some 3), none, (.allc 32 [(.int .i64 0), (.int .i64 0)])⟩]) (.seq (.reg [⟨(some 4), none, (.mv (.t 0))⟩, ⟨(some 5), none, (.mv (.t 0))⟩, ⟨(some 6), none, (.call 68 [(.t 5)])⟩, ⟨(some 7), none, (.call 45 [(.t 6)])⟩, ⟨(some 8), none, (.call 67 [(.t 4), (.c (.int .i64 1)), (.t 7)])⟩, ⟨(some 9), none, (.build [(.int .i64 0), (.int .i64 0)] [])⟩, ⟨none, none, (.store 4 (.t 2) (.t 8))⟩, ⟨none, none, (.store 2 (.t 3) (.t 9))⟩]) .ret))
theorem token_word.code : comp PG [] (Tryd.f46.body.getD .skip) = token_word.c := by kernel_rfl
theorem token_word.of {args : List AV} {H : AH} {K : AV → AH → Prop} (hl : args.length = 1) (h : wpA PG token_word.c none (endA [(.cell 2 (some 4)), (.cell 3 (some 2))] K) (initFr args) H) : ACalls PG 46 args H K :=
  ACalls.of_code (fl := []) mixed Tryd.func46 (c := Tryd.f46.body.getD .skip) (by kernel_rfl) (by kernel_rfl) (by rw [hl]; exact of_decide_eq_true (by kernel_rfl)) (by rw [token_word.code]; kernel_rfl)
    (by rw [token_word.code, show compRes PG Tryd.f46.results.toList = [(.cell 2 (some 4)), (.cell 3 (some 2))] from by kernel_rfl]; exact h)
def token_digit.n : Nat := 47
noncomputable def token_digit.c : C := (.seq (.reg [⟨(some 2), none, (.mv (.c (.bool false)))⟩]) (.seq (.reg [⟨(some 3), none, (.mv (.t 0))⟩, ⟨(some 4), none, (.bin .geq (.t 3) (.c (.int .u8 48)))⟩, ⟨(some 5), none, (.mv (.t 4))⟩, ⟨(some 6), (some (5, true)), (.mv (.t 0))⟩, ⟨(some 7), (some (5, true)), (.bin .leq (.t 6) (.c (.int .u8 57)))⟩, ⟨(some 8), none, (.pick (.t 5) (.t 7) (.c (.bool false)))⟩, ⟨(some 2), none, (.mv (.t 8))⟩]) .ret))
theorem token_digit.code : comp PG [] (Tryd.f47.body.getD .skip) = token_digit.c := by kernel_rfl
theorem token_digit.of {args : List AV} {H : AH} {K : AV → AH → Prop} (hl : args.length = 1) (h : wpA PG token_digit.c none (endA [(.t 2)] K) (initFr args) H) : ACalls PG 47 args H K :=
  ACalls.of_code (fl := []) mixed Tryd.func47 (c := Tryd.f47.body.getD .skip) (by kernel_rfl) (by kernel_rfl) (by rw [hl]; exact of_decide_eq_true (by kernel_rfl)) (by rw [token_digit.code]; kernel_rfl)
    (by rw [token_digit.code, show compRes PG Tryd.f47.results.toList = [(.t 2)] from by kernel_rfl]; exact h)
def token_number.n : Nat := 48
noncomputable def token_number.c : C := (.seq (.reg [⟨(some 2), none, (.allc 26 [(.int .i64 0), (.str []), (.int .u64 0), (.int .i64 0)])⟩, ⟨(some 3), none, (.allc 32 [(.int .i64 0), (.int .i64 0)])⟩]) (.seq (.reg [⟨(some 4), none, (.mv (.c (.int .i64 0)))⟩]) (.seq (.block 0 (.loop (.seq (.seq (.reg [⟨(some 8), none, (.mv (.t 4))⟩, ⟨(some 9), none, (.mv (.t 0))⟩, ⟨(some 10), none, (.call 68 [(.t 9)])⟩, ⟨(some 11), none, (.len true (.t 10))⟩, ⟨(some 12), none, (.bin .lss (.t 8) (.t 11))⟩, ⟨(some 13), none, (.mv (.t 12))⟩, ⟨(some 14), (some (13, true)), (.mv (.t 0))⟩, ⟨(some 15), (some (13, true)), (.call 68 [(.t 14)])⟩, ⟨(some 16), (some (13, true)), (.mv (.t 4))⟩, ⟨(some 17), (some (13, true)), (.idx (.t 15) (.t 16))⟩, ⟨(some 18), (some (13, true)), (.call 47 [(.t 17)])⟩, ⟨(some 19), none, (.pick (.t 13) (.t 18) (.c (.bool false)))⟩]) (.cond (.t 19) .skip (.exit 0))) (.block 1 (.reg [⟨(some 20), none, (.mv (.t 4))⟩, ⟨(some 21), none, (.bin .add (.t 20) (.c (.int .i64 1)))⟩, ⟨(some 4), none, (.mv (.t 21))⟩]))))) (.seq (.reg [⟨(some 22), none, (.mv (.t 0))⟩, ⟨(some 23), none, (.mv (.t 4))⟩, ⟨(some 24), none, (.call 67 [(.t 22), (.c (.int .i64 2)), (.t 23)])⟩, ⟨(some 5), none, (.allc 26 [(.int .i64 0), (.str []), (.int .u64 0), (.int .i64 0)])⟩, ⟨none, none, (.store 4 (.t 5) (.t 24))⟩]) (.seq (.seq (.reg [⟨(some 25), none, (.mv (.t 4))⟩, ⟨(some 26), none, (.bin .gtr (.t 25) (.c (.int .i64 1)))⟩, ⟨(some 27), none, (.mv (.t 26))⟩, ⟨(some 28), (some (27, true)), (.faddr 1 (.t 5))⟩, ⟨(some 29), (some (27, true)), (.load none (.t 28))⟩, ⟨(some 30), (some (27, true)), (.idx (.t 29) (.c (.int .i64 0)))⟩, ⟨(some 31), (some (27, true)), (.bin .eql (.t 30) (.c (.int .u8 48)))⟩, ⟨(some 32), none, (.pick (.t 27) (.t 31) (.c (.bool false)))⟩]) (.cond (.t 32) (.seq (.dreg [⟨(some 33), none, (.load (some 4) (.t 5))⟩, ⟨(some 34), none, (.faddr 3 (.t 5))⟩, ⟨(some 35), none, (.load none (.t 34))⟩, ⟨(some 36), none, (.build [(.int .i64 0), (.int .i64 0)] [(0, (1, (.c (.int .i64 1)))), (1, (1, (.t 35)))])⟩, ⟨none, none, (.store 4 (.t 2) (.t 33))⟩] [⟨none, none, (.store 2 (.t 3) (.t 36))⟩]) .ret) .skip)) (.seq (.seq (.reg [⟨(some 37), none, (.mv (.t 4))⟩, ⟨(some 38), none, (.mv (.c (.int .i64 0)))⟩]) (.block 2 (.loop (.seq (.reg [⟨(some 39), none, (.bin .lss (.t 38) (.t 37))⟩]) (.seq (.cond (.t 39) .skip (.exit 2)) (.seq (.block 3 (.seq (.reg [⟨(some 40), none, (.mv (.t 38))⟩, ⟨(some 6), none, (.mv (.t 40))⟩]) (.seq (.reg [⟨(some 41), none, (.faddr 1 (.t 5))⟩, ⟨(some 42), none, (.load none (.t 41))⟩, ⟨(some 43), none, (.mv (.t 6))⟩, ⟨(some 44), none, (.idx (.t 42) (.t 43))⟩, ⟨(some 45), none, (.bin .sub (.t 44) (.c (.int .u8 48)))⟩, ⟨(some 46), none, (.conv .u64 (.t 45))⟩, ⟨(some 7), none, (.mv (.t 46))⟩]) (.seq (.seq (.reg [⟨(some 47), none, (.faddr 2 (.t 5))⟩, ⟨(some 48), none, (.load none (.t 47))⟩, ⟨(some 49), none, (.mv (.t 7))⟩, ⟨(some 50), none, (.bin .sub (.c (.int .u64 18446744073709551615)) (.t 49))⟩, ⟨(some 51), none, (.bin .quo (.t 50) (.c (.int .u64 10)))⟩, ⟨(some 52), none, (.bin .gtr (.t 48) (.t 51))⟩]) (.cond (.t 52) (.seq (.dreg [⟨(some 53), none, (.load (some 4) (.t 5))⟩, ⟨(some 54), none, (.faddr 3 (.t 5))⟩, ⟨(some 55), none, (.load none (.t 54))⟩, ⟨(some 56), none, (.build [(.int .i64 0), (.int .i64 0)] [(0, (1, (.c (.int .i64 7)))), (1, (1, (.t 55)))])⟩, ⟨none, none, (.store 4 (.t 2) (.t 53))⟩] [⟨none, none, (.store 2 (.t 3) (.t 56))⟩]) .ret) .skip)) (.reg [⟨(some 57), none, (.faddr 2 (.t 5))⟩, ⟨(some 58), none, (.load none (.t 57))⟩, ⟨(some 59), none, (.bin .mul (.c (.int .u64 10)) (.t 58))⟩, ⟨(some 60), none, (.mv (.t 7))⟩, ⟨(some 61), none, (.bin .add (.t 59) (.t 60))⟩, ⟨(some 62), none, (.faddr 2 (.t 5))⟩, ⟨none, none, (.store 1 (.t 62) (.t 61))⟩]))))) (.reg [⟨(some 63), none, (.bin .add (.t 38) (.c (.int .i64 1)))⟩, ⟨(some 38), none, (.mv (.t 63))⟩]))))))) (.seq (.reg [⟨(some 64), none, (.load (some 4) (.t 5))⟩, ⟨(some 65), none, (.build [(.int .i64 0), (.int .i64 0)] [])⟩, ⟨none, none, (.store 4 (.t 2) (.t 64))⟩, ⟨none, none, (.store 2 (.t 3) (.t 65))⟩]) .ret)))))))
theorem token_number.code : comp PG [] (Tryd.f48.body.getD .skip) = token_number.c := by kernel_rfl
theorem token_number.of {args : List AV} {H : AH} {K : AV → AH → Prop} (hl : args.length = 1) (h : wpA PG token_number.c none (endA [(.cell 2 (some 4)), (.cell 3 (some 2))] K) (initFr args) H) : ACalls PG 48 args H K :=
  ACalls.of_code (fl := []) mixed Tryd.func48 (c := Tryd.f48.body.getD .skip) (by kernel_rfl) (by kernel_rfl) (by rw [hl]; exact of_decide_eq_true (by kernel_rfl)) (by rw [token_number.code]; kernel_rfl)
    (by rw [token_number.code, show compRes PG Tryd.f48.results.toList = [(.cell 2 (some 4)), (.cell 3 (some 2))] from by kernel_rfl]; exact h)
def token_kinds_2.n : Nat := 49
noncomputable def token_kinds_2.c : C := (.seq (.reg [⟨(some 2), none, (.mv (.c (.bool false)))⟩]) (.seq (.reg [⟨(some 3), none, (.mv (.t 0))⟩, ⟨(some 4), none, (.bin .eql (.t 3) (.c (.int .u8 39)))⟩, ⟨(some 2), none, (.mv (.t 4))⟩]) .ret))
theorem token_kinds_2.code : comp PG [] (Tryd.f49.body.getD .skip) = token_kinds_2.c := by kernel_rfl
theorem token_kinds_2.of {args : List AV} {H : AH} {K : AV → AH → Prop} (hl : args.length = 1) (h : wpA PG token_kinds_2.c none (endA [(.t 2)] K) (initFr args) H) : ACalls PG 49 args H K :=
  ACalls.of_code (fl := []) mixed Tryd.func49 (c := Tryd.f49.body.getD .skip) (by kernel_rfl) (by kernel_rfl) (by rw [hl]; exact of_decide_eq_true (by kernel_rfl)) (by rw [token_kinds_2.code]; kernel_rfl)
    (by rw [token_kinds_2.code, show compRes PG Tryd.f49.results.toList = [(.t 2)] from by kernel_rfl]; exact h)
theorem token_kinds_2.of' {args : List AV} {H : AH} {K : AV → AH → Prop} (hl : args.length ≤ 5) (h : wpA PG token_kinds_2.c none (endA [(.t 2)] K) (initFr args) H) : ACalls PG 49 args H K :=
  ACalls.of_code (fl := []) mixed Tryd.func49 (c := Tryd.f49.body.getD .skip) (by kernel_rfl) (by kernel_rfl) hl (by rw [token_kinds_2.code]; kernel_rfl) (by rw [token_kinds_2.code, show compRes PG Tryd.f49.results.toList = [(.t 2)] from by kernel_rfl]; exact h)
def token_text.n : Nat := 50
noncomputable def token_text.c : C := (.seq (.reg [⟨(some 2), none, (.allc 26 [(.int .i64 0), (.str []), (.int .u64 0), (.int .i64 0)])⟩, ⟨(some 3), none, (.allc 32 [(.int .i64 0), (.int .i64 0)])⟩]) (.seq (.reg [⟨(some 7), none, (.mv (.t 0))⟩, ⟨(some 8), none, (.nilck (.t 7))⟩, ⟨(some 9), none, (.faddr 1 (.t 8))⟩, ⟨(some 10), none, (.load none (.t 9))⟩, ⟨(some 11), none, (.build [(.int .i64 0), (.str []), (.int .u64 0), (.int .i64 0)] [(0, (1, (.c (.int .i64 3)))), (3, (1, (.t 10)))])⟩, ⟨(some 4), none, (.allc 26 [(.int .i64 0), (.str []), (.int .u64 0), (.int .i64 0)])⟩, ⟨none, none, (.store 4 (.t 4) (.t 11))⟩]) (.seq (.reg [⟨(some 5), none, (.allc 64 [.nilP, .nilS])⟩]) (.seq (.seq (.reg [⟨(some 12), none, (.mv (.t 0))⟩, ⟨(some 13), none, (.nilck (.t 12))⟩, ⟨(some 14), none, (.faddr 1 (.t 13))⟩, ⟨(some 15), none, (.load none (.t 14))⟩, ⟨(some 16), none, (.bin .add (.t 15) (.c (.int .i64 1)))⟩, ⟨(some 17), none, (.nilck (.t 12))⟩, ⟨(some 18), none, (.faddr 1 (.t 17))⟩, ⟨none, none, (.store 1 (.t 18) (.t 16))⟩]) (.block 0 (.loop (.seq (.seq (.dreg [⟨(some 19), none, (.mv (.t 0))⟩, ⟨(some 20), none, (.nilck (.t 19))⟩, ⟨(some 21), none, (.faddr 1 (.t 20))⟩, ⟨(some 22), none, (.load none (.t 21))⟩, ⟨(some 23), none, (.mv (.t 0))⟩, ⟨(some 24), none, (.nilck (.t 23))⟩, ⟨(some 25), none, (.faddr 0 (.t 24))⟩, ⟨(some 26), none, (.load none (.t 25))⟩, ⟨(some 27), none, (.len true (.t 26))⟩] [⟨(some 28), none, (.bin .lss (.t 22) (.t 27))⟩]) (.cond (.t 28) .skip (.exit 0))) (.seq (.block 1 (.seq (.dreg [⟨(some 36), none, (.mv (.t 0))⟩, ⟨(some 37), none, (.nilck (.t 36))⟩, ⟨(some 38), none, (.faddr 0 (.t 37))⟩, ⟨(some 39), none, (.load none (.t 38))⟩, ⟨(some 40), none, (.mv (.t 0))⟩, ⟨(some 41), none, (.nilck (.t 40))⟩, ⟨(some 42), none, (.faddr 1 (.t 41))⟩, ⟨(some 43), none, (.load none (.t 42))⟩] [⟨(some 44), none, (.idx (.t 39) (.t 43))⟩, ⟨(some 6), none, (.mv (.t 44))⟩]) (.block 2 (.seq (.reg [⟨(some 57), none, (.mv (.t 6))⟩, ⟨(some 58), none, (.bin .lss (.t 57) (.c (.int .u8 32)))⟩, ⟨(some 59), none, (.mv (.t 58))⟩, ⟨(some 60), (some (59, false)), (.mv (.t 6))⟩, ⟨(some 61), (some (59, false)), (.bin .gtr (.t 60) (.c (.int .u8 126)))⟩, ⟨(some 62), none, (.pick (.t 59) (.c (.bool true)) (.t 61))⟩, ⟨(some 56), none, (.mv (.t 62))⟩]) (.cond (.t 56) (.seq (.dreg [⟨(some 63), none, (.load (some 4) (.t 4))⟩, ⟨(some 64), none, (.mv (.t 0))⟩, ⟨(some 65), none, (.nilck (.t 64))⟩, ⟨(some 66), none, (.faddr 1 (.t 65))⟩, ⟨(some 67), none, (.load none (.t 66))⟩, ⟨(some 68), none, (.build [(.int .i64 0), (.int .i64 0)] [(0, (1, (.c (.int .i64 10)))), (1, (1, (.t 67)))])⟩, ⟨none, none, (.store 4 (.t 2) (.t 63))⟩] [⟨none, none, (.store 2 (.t 3) (.t 68))⟩]) .ret) (.seq (.reg [⟨(some 70), none, (.mv (.t 6))⟩, ⟨(some 71), none, (.bin .neq (.t 70) (.c (.int .u8 39)))⟩, ⟨(some 69), none, (.mv (.t 71))⟩]) (.cond (.t 69) (.reg [⟨(some 72), none, (.mv (.t 6))⟩, ⟨(some 73), none, (.call 57 [(.t 5), (.t 72)])⟩]) (.seq (.reg [⟨(some 75), none, (.mv (.t 0))⟩, ⟨(some 76), none, (.call 68 [(.t 75)])⟩, ⟨(some 77), none, (.call 69 [(.t 76), (.c (.str [39, 39]))])⟩, ⟨(some 74), none, (.mv (.t 77))⟩]) (.cond (.t 74) (.seq (.reg [⟨(some 78), none, (.mv (.t 6))⟩, ⟨(some 79), none, (.call 57 [(.t 5), (.t 78)])⟩]) (.reg [⟨(some 80), none, (.mv (.t 0))⟩, ⟨(some 81), none, (.nilck (.t 80))⟩, ⟨(some 82), none, (.faddr 1 (.t 81))⟩, ⟨(some 83), none, (.load none (.t 82))⟩, ⟨(some 84), none, (.bin .add (.t 83) (.c (.int .i64 1)))⟩, ⟨(some 85), none, (.nilck (.t 80))⟩, ⟨(some 86), none, (.faddr 1 (.t 85))⟩, ⟨none, none, (.store 1 (.t 86) (.t 84))⟩])) (.seq (.reg [⟨(some 45), none, (.mv (.t 0))⟩, ⟨(some 46), none, (.nilck (.t 45))⟩, ⟨(some 47), none, (.faddr 1 (.t 46))⟩, ⟨(some 48), none, (.load none (.t 47))⟩, ⟨(some 49), none, (.bin .add (.t 48) (.c (.int .i64 1)))⟩, ⟨(some 50), none, (.nilck (.t 45))⟩, ⟨(some 51), none, (.faddr 1 (.t 50))⟩, ⟨none, none, (.store 1 (.t 51) (.t 49))⟩]) (.seq (.reg [⟨(some 52), none, (.call 24 [(.t 5)])⟩, ⟨(some 53), none, (.faddr 1 (.t 4))⟩, ⟨none, none, (.store 1 (.t 53) (.t 52))⟩]) (.seq (.reg [⟨(some 54), none, (.load (some 4) (.t 4))⟩, ⟨(some 55), none, (.build [(.int .i64 0), (.int .i64 0)] [])⟩, ⟨none, none, (.store 4 (.t 2) (.t 54))⟩, ⟨none, none, (.store 2 (.t 3) (.t 55))⟩]) .ret)))))))))))) (.reg [⟨(some 29), none, (.mv (.t 0))⟩, ⟨(some 30), none, (.nilck (.t 29))⟩, ⟨(some 31), none, (.faddr 1 (.t 30))⟩, ⟨(some 32), none, (.load none (.t 31))⟩, ⟨(some 33), none, (.bin .add (.t 32) (.c (.int .i64 1)))⟩, ⟨(some 34), none, (.nilck (.t 29))⟩, ⟨(some 35), none, (.faddr 1 (.t 34))⟩, ⟨none, none, (.store 1 (.t 35) (.t 33))⟩])))))) (.seq (.dreg [⟨(some 87), none, (.load (some 4) (.t 4))⟩, ⟨(some 88), none, (.faddr 3 (.t 4))⟩, ⟨(some 89), none, (.load none (.t 88))⟩, ⟨(some 90), none, (.build [(.int .i64 0), (.int .i64 0)] [(0, (1, (.c (.int .i64 2)))), (1, (1, (.t 89)))])⟩, ⟨none, none, (.store 4 (.t 2) (.t 87))⟩] [⟨none, none, (.store 2 (.t 3) (.t 90))⟩]) .ret)))))
theorem token_text.code : comp PG [] (Tryd.f50.body.getD .skip) = token_text.c := by kernel_rfl
theorem token_text.of {args : List AV} {H : AH} {K : AV → AH → Prop} (hl : args.length = 1) (h : wpA PG token_text.c none (endA [(.cell 2 (some 4)), (.cell 3 (some 2))] K) (initFr args) H) : ACalls PG 50 args H K :=
  ACalls.of_code (fl := []) mixed Tryd.func50 (c := Tryd.f50.body.getD .skip) (by kernel_rfl) (by kernel_rfl) (by rw [hl]; exact of_decide_eq_true (by kernel_rfl)) (by rw [token_text.code]; kernel_rfl)
    (by rw [token_text.code, show compRes PG Tryd.f50.results.toList = [(.cell 2 (some 4)), (.cell 3 (some 2))] from by kernel_rfl]; exact h)
def token_kinds_3.n : Nat := 51
noncomputable def token_kinds_3.c : C := (.seq (.reg [⟨(some 2), none, (.mv (.c (.bool false)))⟩]) (.seq (.reg [⟨(some 3), none, (.mv (.t 0))⟩, ⟨(some 4), none, (.bin .eql (.t 3) (.c (.int .u8 37)))⟩, ⟨(some 2), none, (.mv (.t 4))⟩]) .ret))
theorem token_kinds_3.code : comp PG [] (Tryd.f51.body.getD .skip) = token_kinds_3.c := by kernel_rfl
theorem token_kinds_3.of {args : List AV} {H : AH} {K : AV → AH → Prop} (hl : args.length = 1) (h : wpA PG token_kinds_3.c none (endA [(.t 2)] K) (initFr args) H) : ACalls PG 51 args H K :=
  ACalls.of_code (fl := []) mixed Tryd.func51 (c := Tryd.f51.body.getD .skip) (by kernel_rfl) (by kernel_rfl) (by rw [hl]; exact of_decide_eq_true (by kernel_rfl)) (by rw [token_kinds_3.code]; kernel_rfl)
    (by rw [token_kinds_3.code, show compRes PG Tryd.f51.results.toList = [(.t 2)] from by kernel_rfl]; exact h)
theorem token_kinds_3.of' {args : List AV} {H : AH} {K : AV → AH → Prop} (hl : args.length ≤ 5) (h : wpA PG token_kinds_3.c none (endA [(.t 2)] K) (initFr args) H) : ACalls PG 51 args H K :=
  ACalls.of_code (fl := []) mixed Tryd.func51 (c := Tryd.f51.body.getD .skip) (by kernel_rfl) (by kernel_rfl) hl (by rw [token_kinds_3.code]; kernel_rfl) (by rw [token_kinds_3.code, show compRes PG Tryd.f51.results.toList = [(.t 2)] from by kernel_rfl]; exact h)
def token_param.n : Nat := 52
noncomputable def token_param.c : C := (.seq (.reg [⟨(some 2), none, (.allc 26 [(.int .i64 0), (.str []), (.int .u64 0), (.int .i64 0)])⟩, ⟨(some 3), none, (.allc 32 [(.int .i64 0), (.int .i64 0)])⟩]) (.seq (.seq (.reg [⟨(some 5), none, (.mv (.t 0))⟩, ⟨(some 6), none, (.call 68 [(.t 5)])⟩, ⟨(some 7), none, (.len true (.t 6))⟩, ⟨(some 8), none, (.bin .lss (.t 7) (.c (.int .i64 2)))⟩, ⟨(some 9), none, (.mv (.t 8))⟩, ⟨(some 10), (some (9, false)), (.mv (.t 0))⟩, ⟨(some 11), (some (9, false)), (.call 68 [(.t 10)])⟩, ⟨(some 12), (some (9, false)), (.idx (.t 11) (.c (.int .i64 1)))⟩, ⟨(some 13), (some (9, false)), (.call 47 [(.t 12)])⟩, ⟨(some 14), (some (9, false)), (.un .not (.t 13))⟩, ⟨(some 15), none, (.pick (.t 9) (.c (.bool true)) (.t 14))⟩]) (.cond (.t 15) (.seq (.dreg [⟨(some 16), none, (.build [(.int .i64 0), (.str []), (.int .u64 0), (.int .i64 0)] [])⟩, ⟨(some 17), none, (.mv (.t 0))⟩, ⟨(some 18), none, (.nilck (.t 17))⟩, ⟨(some 19), none, (.faddr 1 (.t 18))⟩, ⟨(some 20), none, (.load none (.t 19))⟩, ⟨(some 21), none, (.build [(.int .i64 0), (.int .i64 0)] [(0, (1, (.c (.int .i64 11)))), (1, (1, (.t 20)))])⟩, ⟨none, none, (.store 4 (.t 2) (.t 16))⟩] [⟨none, none, (.store 2 (.t 3) (.t 21))⟩]) .ret) .skip)) (.seq (.reg [⟨(some 22), none, (.mv (.t 0))⟩, ⟨(some 23), none, (.call 67 [(.t 22), (.c (.int .i64 4)), (.c (.int .i64 2))])⟩, ⟨(some 4), none, (.allc 26 [(.int .i64 0), (.str []), (.int .u64 0), (.int .i64 0)])⟩, ⟨none, none, (.store 4 (.t 4) (.t 23))⟩]) (.seq (.reg [⟨(some 24), none, (.faddr 1 (.t 4))⟩, ⟨(some 25), none, (.load none (.t 24))⟩, ⟨(some 26), none, (.idx (.t 25) (.c (.int .i64 1)))⟩, ⟨(some 27), none, (.bin .sub (.t 26) (.c (.int .u8 48)))⟩, ⟨(some 28), none, (.conv .u64 (.t 27))⟩, ⟨(some 29), none, (.faddr 2 (.t 4))⟩, ⟨none, none, (.store 1 (.t 29) (.t 28))⟩]) (.seq (.reg [⟨(some 30), none, (.load (some 4) (.t 4))⟩, ⟨(some 31), none, (.build [(.int .i64 0), (.int .i64 0)] [])⟩, ⟨none, none, (.store 4 (.t 2) (.t 30))⟩, ⟨none, none, (.store 2 (.t 3) (.t 31))⟩]) .ret)))))
theorem token_param.code : comp PG [] (Tryd.f52.body.getD .skip) = token_param.c := by kernel_rfl
theorem token_param.of {args : List AV} {H : AH} {K : AV → AH → Prop} (hl : args.length = 1) (h : wpA PG token_param.c none (endA [(.cell 2 (some 4)), (.cell 3 (some 2))] K) (initFr args) H) : ACalls PG 52 args H K :=
  ACalls.of_code (fl := []) mixed Tryd.func52 (c := Tryd.f52.body.getD .skip) (by kernel_rfl) (by kernel_rfl) (by rw [hl]; exact of_decide_eq_true (by kernel_rfl)) (by rw [token_param.code]; kernel_rfl)
    (by rw [token_param.code, show compRes PG Tryd.f52.results.toList = [(.cell 2 (some 4)), (.cell 3 (some 2))] from by kernel_rfl]; exact h)
def token_kinds_4.n : Nat := 53
noncomputable def token_kinds_4.c : C := (.seq (.reg [⟨(some 2), none, (.mv (.c (.bool false)))⟩]) (.seq (.reg [⟨(some 3), none, (.mv (.t 0))⟩, ⟨(some 4), none, (.call 54 [(.c (.str [61, 60, 62, 40, 41, 46, 91, 93, 45])), (.t 3)])⟩, ⟨(some 5), none, (.bin .geq (.t 4) (.c (.int .i64 0)))⟩, ⟨(some 2), none, (.mv (.t 5))⟩]) .ret))
theorem token_kinds_4.code : comp PG [] (Tryd.f53.body.getD .skip) = token_kinds_4.c := by kernel_rfl
theorem token_kinds_4.of {args : List AV} {H : AH} {K : AV → AH → Prop} (hl : args.length = 1) (h : wpA PG token_kinds_4.c none (endA [(.t 2)] K) (initFr args) H) : ACalls PG 53 args H K :=
  ACalls.of_code (fl := []) mixed Tryd.func53 (c := Tryd.f53.body.getD .skip) (by kernel_rfl) (by kernel_rfl) (by rw [hl]; exact of_decide_eq_true (by kernel_rfl)) (by rw [token_kinds_4.code]; kernel_rfl)
    (by rw [token_kinds_4.code, show compRes PG Tryd.f53.results.toList = [(.t 2)] from by kernel_rfl]; exact h)
theorem token_kinds_4.of' {args : List AV} {H : AH} {K : AV → AH → Prop} (hl : args.length ≤ 6) (h : wpA PG token_kinds_4.c none (endA [(.t 2)] K) (initFr args) H) : ACalls PG 53 args H K :=
  ACalls.of_code (fl := []) mixed Tryd.func53 (c := Tryd.f53.body.getD .skip) (by kernel_rfl) (by kernel_rfl) hl (by rw [token_kinds_4.code]; kernel_rfl) (by rw [token_kinds_4.code, show compRes PG Tryd.f53.results.toList = [(.t 2)] from by kernel_rfl]; exact h)
def strings_IndexByte.n : Nat := 54
noncomputable def strings_IndexByte.c : C := (.seq (.reg [⟨(some 4), none, (.mv (.c (.int .i64 0)))⟩]) (.seq (.reg [⟨(some 5), none, (.mv (.t 0))⟩, ⟨(some 6), none, (.mv (.t 1))⟩, ⟨(some 7), none, (.call 70 [(.t 5), (.t 6)])⟩, ⟨(some 4), none, (.mv (.t 7))⟩]) .ret))
theorem strings_IndexByte.code : comp PG [] (Tryd.f54.body.getD .skip) = strings_IndexByte.c := by kernel_rfl
theorem strings_IndexByte.of {args : List AV} {H : AH} {K : AV → AH → Prop} (hl : args.length = 2) (h : wpA PG strings_IndexByte.c none (endA [(.t 4)] K) (initFr args) H) : ACalls PG 54 args H K :=
  ACalls.of_code (fl := []) mixed Tryd.func54 (c := Tryd.f54.body.getD .skip) (by kernel_rfl) (by kernel_rfl) (by rw [hl]; exact of_decide_eq_true (by kernel_rfl)) (by rw [strings_IndexByte.code]; kernel_rfl)
    (by rw [strings_IndexByte.code, show compRes PG Tryd.f54.results.toList = [(.t 4)] from by kernel_rfl]; exact h)
def token_sign.n : Nat := 55
noncomputable def token_sign.c : C := (.seq (.reg [⟨(some 2), none, (.allc 26 [(.int .i64 0), (.str []), (.int .u64 0), (.int .i64 0)])⟩, ⟨(some 3), none, (.allc 32 [(.int .i64 0), (.int .i64 0)])⟩]) (.seq (.seq (.reg [⟨(some 6), none, (.bslice 9 1 3 [(.str [])] [(0, (.c (.str [60, 62]))), (1, (.c (.str [60, 61]))), (2, (.c (.str [62, 61])))])⟩, ⟨(some 7), none, (.len false (.t 6))⟩, ⟨(some 8), none, (.mv (.c (.int .i64 0)))⟩]) (.block 0 (.loop (.seq (.reg [⟨(some 9), none, (.bin .lss (.t 8) (.t 7))⟩]) (.seq (.cond (.t 9) .skip (.exit 0)) (.seq (.block 1 (.seq (.reg [⟨(some 10), none, (.iaddr 1 (.t 6) (.t 8))⟩, ⟨(some 11), none, (.load none (.t 10))⟩, ⟨(some 5), none, (.mv (.t 11))⟩]) (.seq (.reg [⟨(some 12), none, (.mv (.t 0))⟩, ⟨(some 13), none, (.call 68 [(.t 12)])⟩, ⟨(some 14), none, (.mv (.t 5))⟩, ⟨(some 15), none, (.call 69 [(.t 13), (.t 14)])⟩]) (.cond (.t 15) (.seq (.reg [⟨(some 16), none, (.mv (.t 0))⟩, ⟨(some 17), none, (.call 67 [(.t 16), (.c (.int .i64 5)), (.c (.int .i64 2))])⟩, ⟨(some 18), none, (.build [(.int .i64 0), (.int .i64 0)] [])⟩, ⟨none, none, (.store 4 (.t 2) (.t 17))⟩, ⟨none, none, (.store 2 (.t 3) (.t 18))⟩]) .ret) .skip)))) (.reg [⟨(some 19), none, (.bin .add (.t 8) (.c (.int .i64 1)))⟩, ⟨(some 8), none, (.mv (.t 19))⟩]))))))) (.seq (.reg [⟨(some 20), none, (.mv (.t 0))⟩, ⟨(some 21), none, (.call 67 [(.t 20), (.c (.int .i64 5)), (.c (.int .i64 1))])⟩, ⟨(some 22), none, (.build [(.int .i64 0), (.int .i64 0)] [])⟩, ⟨none, none, (.store 4 (.t 2) (.t 21))⟩, ⟨none, none, (.store 2 (.t 3) (.t 22))⟩]) .ret)))
theorem token_sign.code : comp PG [] (Tryd.f55.body.getD .skip) = token_sign.c := by kernel_rfl
theorem token_sign.of {args : List AV} {H : AH} {K : AV → AH → Prop} (hl : args.length = 1) (h : wpA PG token_sign.c none (endA [(.cell 2 (some 4)), (.cell 3 (some 2))] K) (initFr args) H) : ACalls PG 55 args H K :=
  ACalls.of_code (fl := []) mixed Tryd.func55 (c := Tryd.f55.body.getD .skip) (by kernel_rfl) (by kernel_rfl) (by rw [hl]; exact of_decide_eq_true (by kernel_rfl)) (by rw [token_sign.code]; kernel_rfl)
    (by rw [token_sign.code, show compRes PG Tryd.f55.results.toList = [(.cell 2 (some 4)), (.cell 3 (some 2))] from by kernel_rfl]; exact h)
def strings_Builder_WriteByte.n : Nat := 57
noncomputable def strings_Builder_WriteByte.c : C := (.seq (.reg [⟨(some 4), none, (.mv (.c .nilI))⟩]) (.seq (.reg [⟨(some 5), none, (.mv (.t 0))⟩, ⟨(some 6), none, (.call 39 [(.t 5)])⟩]) (.seq (.reg [⟨(some 7), none, (.mv (.t 0))⟩, ⟨(some 8), none, (.mv (.t 0))⟩, ⟨(some 9), none, (.nilck (.t 8))⟩, ⟨(some 10), none, (.faddr 1 (.t 9))⟩, ⟨(some 11), none, (.load none (.t 10))⟩, ⟨(some 12), none, (.mv (.t 1))⟩, ⟨(some 13), none, (.bslice 5 1 1 [(.int .u8 0)] [(0, (.t 12))])⟩, ⟨(some 14), none, (.append 5 false 1 1 (.t 11) (.t 13))⟩, ⟨(some 15), none, (.nilck (.t 7))⟩, ⟨(some 16), none, (.faddr 1 (.t 15))⟩, ⟨none, none, (.store 1 (.t 16) (.t 14))⟩]) (.seq (.reg [⟨(some 4), none, (.mv (.c .nilI))⟩]) .ret))))
theorem strings_Builder_WriteByte.code : comp PG [] (Tryd.f57.body.getD .skip) = strings_Builder_WriteByte.c := by kernel_rfl
theorem strings_Builder_WriteByte.of {args : List AV} {H : AH} {K : AV → AH → Prop} (hl : args.length = 2) (h : wpA PG strings_Builder_WriteByte.c none (endA [(.t 4)] K) (initFr args) H) : ACalls PG 57 args H K :=
  ACalls.of_code (fl := []) mixed Tryd.func57 (c := Tryd.f57.body.getD .skip) (by kernel_rfl) (by kernel_rfl) (by rw [hl]; exact of_decide_eq_true (by kernel_rfl)) (by rw [strings_Builder_WriteByte.code]; kernel_rfl)
    (by rw [strings_Builder_WriteByte.code, show compRes PG Tryd.f57.results.toList = [(.t 4)] from by kernel_rfl]; exact h)
def stringslite_Index.n : Nat := 64
noncomputable def stringslite_Index.c : C := (.seq (.reg [⟨(some 4), none, (.mv (.c (.int .i64 0)))⟩]) (.seq (.reg [⟨(some 14), none, (.mv (.t 1))⟩, ⟨(some 15), none, (.len true (.t 14))⟩, ⟨(some 5), none, (.mv (.t 15))⟩]) (.seq (.block 0 (.seq (.reg [⟨(some 17), none, (.mv (.t 5))⟩, ⟨(some 18), none, (.bin .eql (.t 17) (.c (.int .i64 0)))⟩, ⟨(some 19), none, (.mv (.t 18))⟩, ⟨(some 20), (some (19, false)), (.mv (.t 1))⟩, ⟨(some 21), (some (19, false)), (.mv (.t 0))⟩, ⟨(some 22), (some (19, false)), (.bin .eql (.t 20) (.t 21))⟩, ⟨(some 23), none, (.pick (.t 19) (.c (.bool true)) (.t 22))⟩, ⟨(some 16), none, (.mv (.t 23))⟩]) (.cond (.t 16) (.seq (.reg [⟨(some 4), none, (.mv (.c (.int .i64 0)))⟩]) .ret) (.seq (.reg [⟨(some 25), none, (.mv (.t 5))⟩, ⟨(some 26), none, (.bin .eql (.t 25) (.c (.int .i64 1)))⟩, ⟨(some 24), none, (.mv (.t 26))⟩]) (.cond (.t 24) (.seq (.reg [⟨(some 27), none, (.mv (.t 0))⟩, ⟨(some 28), none, (.mv (.t 1))⟩, ⟨(some 29), none, (.idx (.t 28) (.c (.int .i64 0)))⟩, ⟨(some 30), none, (.call 70 [(.t 27), (.t 29)])⟩, ⟨(some 4), none, (.mv (.t 30))⟩]) .ret) (.seq (.reg [⟨(some 32), none, (.mv (.t 5))⟩, ⟨(some 33), none, (.mv (.t 0))⟩, ⟨(some 34), none, (.len true (.t 33))⟩, ⟨(some 35), none, (.bin .geq (.t 32) (.t 34))⟩, ⟨(some 31), none, (.mv (.t 35))⟩]) (.cond (.t 31) (.seq (.reg [⟨(some 4), none, (.mv (.c (.int .i64 (-1))))⟩]) .ret) (.seq (.reg [⟨(some 37), none, (.mv (.t 5))⟩, ⟨(some 38), none, (.load none .bad)⟩, ⟨(some 39), none, (.bin .leq (.t 37) (.t 38))⟩, ⟨(some 40), none, (.mv (.t 39))⟩, ⟨(some 41), (some (40, true)), (.mv (.t 0))⟩, ⟨(some 42), (some (40, true)), (.len true (.t 41))⟩, ⟨(some 43), (some (40, true)), (.bin .leq (.t 42) (.c (.int .i64 64)))⟩, ⟨(some 44), none, (.pick (.t 40) (.t 43) (.c (.bool false)))⟩, ⟨(some 36), none, (.mv (.t 44))⟩]) (.cond (.t 36) (.seq (.reg [⟨(some 45), none, (.mv (.t 0))⟩, ⟨(some 46), none, (.mv (.t 1))⟩, ⟨(some 47), none, (.call 79 [(.t 45), (.t 46)])⟩, ⟨(some 4), none, (.mv (.t 47))⟩]) .ret) .skip))))))))) (.seq (.reg [⟨(some 48), none, (.mv (.t 1))⟩, ⟨(some 49), none, (.idx (.t 48) (.c (.int .i64 0)))⟩, ⟨(some 6), none, (.mv (.t 49))⟩]) (.seq (.reg [⟨(some 50), none, (.mv (.t 1))⟩, ⟨(some 51), none, (.idx (.t 50) (.c (.int .i64 1)))⟩, ⟨(some 7), none, (.mv (.t 51))⟩]) (.seq (.reg [⟨(some 8), none, (.mv (.c (.int .i64 0)))⟩]) (.seq (.reg [⟨(some 52), none, (.mv (.t 0))⟩, ⟨(some 53), none, (.len true (.t 52))⟩, ⟨(some 54), none, (.mv (.t 5))⟩, ⟨(some 55), none, (.bin .sub (.t 53) (.t 54))⟩, ⟨(some 56), none, (.bin .add (.t 55) (.c (.int .i64 1)))⟩, ⟨(some 9), none, (.mv (.t 56))⟩]) (.seq (.reg [⟨(some 10), none, (.mv (.c (.int .i64 0)))⟩]) (.seq (.block 1 (.loop (.seq (.seq (.reg [⟨(some 57), none, (.mv (.t 8))⟩, ⟨(some 58), none, (.mv (.t 9))⟩, ⟨(some 59), none, (.bin .lss (.t 57) (.t 58))⟩]) (.cond (.t 59) .skip (.exit 1))) (.block 2 (.seq (.seq (.reg [⟨(some 60), none, (.mv (.t 0))⟩, ⟨(some 61), none, (.mv (.t 8))⟩, ⟨(some 62), none, (.idx (.t 60) (.t 61))⟩, ⟨(some 63), none, (.mv (.t 6))⟩, ⟨(some 64), none, (.bin .neq (.t 62) (.t 63))⟩]) (.cond (.t 64) (.seq (.reg [⟨(some 65), none, (.mv (.t 0))⟩, ⟨(some 66), none, (.mv (.t 8))⟩, ⟨(some 67), none, (.bin .add (.t 66) (.c (.int .i64 1)))⟩, ⟨(some 68), none, (.mv (.t 9))⟩, ⟨(some 69), none, (.slice none (.t 65) (some (.t 67)) (some (.t 68)))⟩, ⟨(some 70), none, (.mv (.t 6))⟩, ⟨(some 71), none, (.call 70 [(.t 69), (.t 70)])⟩, ⟨(some 11), none, (.mv (.t 71))⟩]) (.seq (.seq (.reg [⟨(some 72), none, (.mv (.t 11))⟩, ⟨(some 73), none, (.bin .lss (.t 72) (.c (.int .i64 0)))⟩]) (.cond (.t 73) (.seq (.reg [⟨(some 4), none, (.mv (.c (.int .i64 (-1))))⟩]) .ret) .skip)) (.reg [⟨(some 74), none, (.mv (.t 8))⟩, ⟨(some 75), none, (.mv (.t 11))⟩, ⟨(some 76), none, (.bin .add (.t 75) (.c (.int .i64 1)))⟩, ⟨(some 77), none, (.bin .add (.t 74) (.t 76))⟩, ⟨(some 8), none, (.mv (.t 77))⟩]))) .skip)) (.seq (.seq (.reg [⟨(some 78), none, (.mv (.t 0))⟩, ⟨(some 79), none, (.mv (.t 8))⟩, ⟨(some 80), none, (.bin .add (.t 79) (.c (.int .i64 1)))⟩, ⟨(some 81), none, (.idx (.t 78) (.t 80))⟩, ⟨(some 82), none, (.mv (.t 7))⟩, ⟨(some 83), none, (.bin .eql (.t 81) (.t 82))⟩, ⟨(some 84), none, (.mv (.t 83))⟩, ⟨(some 85), (some (84, true)), (.mv (.t 0))⟩, ⟨(some 86), (some (84, true)), (.mv (.t 8))⟩, ⟨(some 87), (some (84, true)), (.mv (.t 8))⟩, ⟨(some 88), (some (84, true)), (.mv (.t 5))⟩, ⟨(some 89), (some (84, true)), (.bin .add (.t 87) (.t 88))⟩, ⟨(some 90), (some (84, true)), (.slice none (.t 85) (some (.t 86)) (some (.t 89)))⟩, ⟨(some 91), (some (84, true)), (.mv (.t 1))⟩, ⟨(some 92), (some (84, true)), (.bin .eql (.t 90) (.t 91))⟩, ⟨(some 93), none, (.pick (.t 84) (.t 92) (.c (.bool false)))⟩]) (.cond (.t 93) (.seq (.reg [⟨(some 94), none, (.mv (.t 8))⟩, ⟨(some 4), none, (.mv (.t 94))⟩]) .ret) .skip)) (.seq (.reg [⟨(some 95), none, (.mv (.t 8))⟩, ⟨(some 96), none, (.bin .add (.t 95) (.c (.int .i64 1)))⟩, ⟨(some 8), none, (.mv (.t 96))⟩]) (.seq (.reg [⟨(some 97), none, (.mv (.t 10))⟩, ⟨(some 98), none, (.bin .add (.t 97) (.c (.int .i64 1)))⟩, ⟨(some 10), none, (.mv (.t 98))⟩]) (.seq (.reg [⟨(some 99), none, (.mv (.t 5))⟩, ⟨(some 100), none, (.load none .bad)⟩, ⟨(some 101), none, (.bin .leq (.t 99) (.t 100))⟩, ⟨(some 102), none, (.mv (.t 101))⟩, ⟨(some 103), (some (102, true)), (.mv (.t 10))⟩, ⟨(some 104), (some (102, true)), (.mv (.t 8))⟩, ⟨(some 105), (some (102, true)), (.call 80 [(.t 104)])⟩, ⟨(some 106), (some (102, true)), (.bin .gtr (.t 103) (.t 105))⟩, ⟨(some 107), none, (.pick (.t 102) (.t 106) (.c (.bool false)))⟩]) (.cond (.t 107) (.seq (.reg [⟨(some 108), none, (.mv (.t 0))⟩, ⟨(some 109), none, (.mv (.t 8))⟩, ⟨(some 110), none, (.slice none (.t 108) (some (.t 109)) none)⟩, ⟨(some 111), none, (.mv (.t 1))⟩, ⟨(some 112), none, (.call 79 [(.t 110), (.t 111)])⟩, ⟨(some 12), none, (.mv (.t 112))⟩]) (.seq (.seq (.reg [⟨(some 113), none, (.mv (.t 12))⟩, ⟨(some 114), none, (.bin .geq (.t 113) (.c (.int .i64 0)))⟩]) (.cond (.t 114) (.seq (.reg [⟨(some 115), none, (.mv (.t 12))⟩, ⟨(some 116), none, (.mv (.t 8))⟩, ⟨(some 117), none, (.bin .add (.t 115) (.t 116))⟩, ⟨(some 4), none, (.mv (.t 117))⟩]) .ret) .skip)) (.seq (.reg [⟨(some 4), none, (.mv (.c (.int .i64 (-1))))⟩]) .ret))) (.seq (.reg [⟨(some 118), none, (.mv (.t 5))⟩, ⟨(some 119), none, (.load none .bad)⟩, ⟨(some 120), none, (.bin .gtr (.t 118) (.t 119))⟩, ⟨(some 121), none, (.mv (.t 120))⟩, ⟨(some 122), (some (121, true)), (.mv (.t 10))⟩, ⟨(some 123), (some (121, true)), (.mv (.t 8))⟩, ⟨(some 124), (some (121, true)), (.bin .shr (.t 123) (.c (.int .u64 4)))⟩, ⟨(some 125), (some (121, true)), (.bin .add (.c (.int .i64 4)) (.t 124))⟩, ⟨(some 126), (some (121, true)), (.bin .geq (.t 122) (.t 125))⟩, ⟨(some 127), none, (.pick (.t 121) (.t 126) (.c (.bool false)))⟩, ⟨(some 128), none, (.mv (.t 127))⟩, ⟨(some 129), (some (128, true)), (.mv (.t 8))⟩, ⟨(some 130), (some (128, true)), (.mv (.t 9))⟩, ⟨(some 131), (some (128, true)), (.bin .lss (.t 129) (.t 130))⟩, ⟨(some 132), none, (.pick (.t 128) (.t 131) (.c (.bool false)))⟩]) (.cond (.t 132) (.seq (.reg [⟨(some 133), none, (.mv (.t 0))⟩, ⟨(some 134), none, (.mv (.t 8))⟩, ⟨(some 135), none, (.slice none (.t 133) (some (.t 134)) none)⟩, ⟨(some 136), none, (.mv (.t 1))⟩, ⟨(some 137), none, (.call 81 [(.t 135), (.t 136)])⟩, ⟨(some 13), none, (.mv (.t 137))⟩]) (.seq (.seq (.reg [⟨(some 138), none, (.mv (.t 13))⟩, ⟨(some 139), none, (.bin .lss (.t 138) (.c (.int .i64 0)))⟩]) (.cond (.t 139) (.seq (.reg [⟨(some 4), none, (.mv (.c (.int .i64 (-1))))⟩]) .ret) .skip)) (.seq (.reg [⟨(some 140), none, (.mv (.t 8))⟩, ⟨(some 141), none, (.mv (.t 13))⟩, ⟨(some 142), none, (.bin .add (.t 140) (.t 141))⟩, ⟨(some 4), none, (.mv (.t 142))⟩]) .ret))) .skip)))))))))))) (.seq (.reg [⟨(some 4), none, (.mv (.c (.int .i64 (-1))))⟩]) .ret))))))))))
theorem stringslite_Index.code : comp PG [] (Tryd.f64.body.getD .skip) = stringslite_Index.c := by kernel_rfl
theorem stringslite_Index.of {args : List AV} {H : AH} {K : AV → AH → Prop} (hl : args.length = 2) (h : wpA PG stringslite_Index.c none (endA [(.t 4)] K) (initFr args) H) : ACalls PG 64 args H K :=
  ACalls.of_code (fl := []) mixed Tryd.func64 (c := Tryd.f64.body.getD .skip) (by kernel_rfl) (by kernel_rfl) (by rw [hl]; exact of_decide_eq_true (by kernel_rfl)) (by rw [stringslite_Index.code]; kernel_rfl)
    (by rw [stringslite_Index.code, show compRes PG Tryd.f64.results.toList = [(.t 4)] from by kernel_rfl]; exact h)
def name_may.n : Nat := 66
noncomputable def name_may.c : C := (.seq (.reg [⟨(some 4), none, (.mv (.c (.bool false)))⟩]) (.seq (.block 0 (.seq (.block 2 (.seq (.block 1 (.seq (.seq (.seq (.seq (.reg [⟨(some 6), none, (.mv (.t 0))⟩, ⟨(some 7), none, (.bin .geq (.t 6) (.c (.int .u8 48)))⟩, ⟨(some 8), none, (.mv (.t 7))⟩, ⟨(some 9), (some (8, true)), (.mv (.t 0))⟩, ⟨(some 10), (some (8, true)), (.bin .leq (.t 9) (.c (.int .u8 57)))⟩, ⟨(some 11), none, (.pick (.t 8) (.t 10) (.c (.bool false)))⟩, ⟨(some 5), none, (.mv (.t 11))⟩]) (.cond (.t 5) .skip (.reg [⟨(some 12), none, (.mv (.t 0))⟩, ⟨(some 13), none, (.bin .eql (.t 12) (.c (.int .u8 95)))⟩, ⟨(some 5), none, (.mv (.t 13))⟩]))) (.cond (.t 5) (.exit 1) .skip)) (.seq (.seq (.reg [⟨(some 15), none, (.mv (.t 0))⟩, ⟨(some 16), none, (.bin .geq (.t 15) (.c (.int .u8 97)))⟩, ⟨(some 17), none, (.mv (.t 16))⟩, ⟨(some 18), (some (17, true)), (.mv (.t 0))⟩, ⟨(some 19), (some (17, true)), (.bin .leq (.t 18) (.c (.int .u8 122)))⟩, ⟨(some 20), none, (.pick (.t 17) (.t 19) (.c (.bool false)))⟩, ⟨(some 14), none, (.mv (.t 20))⟩]) (.cond (.t 14) .skip (.reg [⟨(some 21), none, (.mv (.t 0))⟩, ⟨(some 22), none, (.bin .geq (.t 21) (.c (.int .u8 65)))⟩, ⟨(some 23), none, (.mv (.t 22))⟩, ⟨(some 24), (some (23, true)), (.mv (.t 0))⟩, ⟨(some 25), (some (23, true)), (.bin .leq (.t 24) (.c (.int .u8 90)))⟩, ⟨(some 26), none, (.pick (.t 23) (.t 25) (.c (.bool false)))⟩, ⟨(some 14), none, (.mv (.t 26))⟩]))) (.cond (.t 14) (.exit 2) .skip))) (.exit 0))) (.seq (.reg [⟨(some 27), none, (.mv (.t 1))⟩]) (.cond (.t 27) (.seq (.reg [⟨(some 4), none, (.mv (.c (.bool false)))⟩]) .ret) .skip)))) (.seq (.seq (.reg [⟨(some 4), none, (.mv (.c (.bool true)))⟩]) .ret) (.exit 0)))) (.seq (.reg [⟨(some 4), none, (.mv (.c (.bool false)))⟩]) .ret)))
theorem name_may.code : comp PG [] (Tryd.f66.body.getD .skip) = name_may.c := by kernel_rfl
theorem name_may.of {args : List AV} {H : AH} {K : AV → AH → Prop} (hl : args.length = 2) (h : wpA PG name_may.c none (endA [(.t 4)] K) (initFr args) H) : ACalls PG 66 args H K :=
  ACalls.of_code (fl := []) mixed Tryd.func66 (c := Tryd.f66.body.getD .skip) (by kernel_rfl) (by kernel_rfl) (by rw [hl]; exact of_decide_eq_true (by kernel_rfl)) (by rw [name_may.code]; kernel_rfl)
    (by rw [name_may.code, show compRes PG Tryd.f66.results.toList = [(.t 4)] from by kernel_rfl]; exact h)
def token_lexer_cut.n : Nat := 67
noncomputable def token_lexer_cut.c : C := (.seq (.reg [⟨(some 6), none, (.allc 26 [(.int .i64 0), (.str []), (.int .u64 0), (.int .i64 0)])⟩]) (.seq (.dreg [⟨(some 8), none, (.mv (.t 1))⟩, ⟨(some 9), none, (.mv (.t 0))⟩, ⟨(some 10), none, (.call 68 [(.t 9)])⟩, ⟨(some 11), none, (.mv (.t 2))⟩, ⟨(some 12), none, (.slice none (.t 10) none (some (.t 11)))⟩, ⟨(some 13), none, (.mv (.t 0))⟩, ⟨(some 14), none, (.nilck (.t 13))⟩, ⟨(some 15), none, (.faddr 1 (.t 14))⟩, ⟨(some 16), none, (.load none (.t 15))⟩, ⟨(some 17), none, (.build [(.int .i64 0), (.str []), (.int .u64 0), (.int .i64 0)] [(0, (1, (.t 8))), (1, (1, (.t 12))), (3, (1, (.t 16)))])⟩, ⟨(some 7), none, (.allc 26 [(.int .i64 0), (.str []), (.int .u64 0), (.int .i64 0)])⟩] [⟨none, none, (.store 4 (.t 7) (.t 17))⟩]) (.seq (.reg [⟨(some 18), none, (.mv (.t 0))⟩, ⟨(some 19), none, (.nilck (.t 18))⟩, ⟨(some 20), none, (.faddr 1 (.t 19))⟩, ⟨(some 21), none, (.load none (.t 20))⟩, ⟨(some 22), none, (.mv (.t 2))⟩, ⟨(some 23), none, (.bin .add (.t 21) (.t 22))⟩, ⟨(some 24), none, (.nilck (.t 18))⟩, ⟨(some 25), none, (.faddr 1 (.t 24))⟩, ⟨none, none, (.store 1 (.t 25) (.t 23))⟩]) (.seq (.reg [⟨(some 26), none, (.load (some 4) (.t 7))⟩, ⟨none, none, (.store 4 (.t 6) (.t 26))⟩]) .ret))))
theorem token_lexer_cut.code : comp PG [] (Tryd.f67.body.getD .skip) = token_lexer_cut.c := by kernel_rfl
theorem token_lexer_cut.of {args : List AV} {H : AH} {K : AV → AH → Prop} (hl : args.length = 3) (h : wpA PG token_lexer_cut.c none (endA [(.cell 6 (some 4))] K) (initFr args) H) : ACalls PG 67 args H K :=
  ACalls.of_code (fl := []) mixed Tryd.func67 (c := Tryd.f67.body.getD .skip) (by kernel_rfl) (by kernel_rfl) (by rw [hl]; exact of_decide_eq_true (by kernel_rfl)) (by rw [token_lexer_cut.code]; kernel_rfl)
    (by rw [token_lexer_cut.code, show compRes PG Tryd.f67.results.toList = [(.cell 6 (some 4))] from by kernel_rfl]; exact h)
def token_lexer_rest.n : Nat := 68
noncomputable def token_lexer_rest.c : C := (.seq (.reg [⟨(some 2), none, (.mv (.c (.str [])))⟩]) (.seq (.dreg [⟨(some 3), none, (.mv (.t 0))⟩, ⟨(some 4), none, (.nilck (.t 3))⟩, ⟨(some 5), none, (.faddr 0 (.t 4))⟩, ⟨(some 6), none, (.load none (.t 5))⟩, ⟨(some 7), none, (.mv (.t 0))⟩, ⟨(some 8), none, (.nilck (.t 7))⟩, ⟨(some 9), none, (.faddr 1 (.t 8))⟩, ⟨(some 10), none, (.load none (.t 9))⟩] [⟨(some 11), none, (.slice none (.t 6) (some (.t 10)) none)⟩, ⟨(some 2), none, (.mv (.t 11))⟩]) .ret))
theorem token_lexer_rest.code : comp PG [] (Tryd.f68.body.getD .skip) = token_lexer_rest.c := by kernel_rfl
theorem token_lexer_rest.of {args : List AV} {H : AH} {K : AV → AH → Prop} (hl : args.length = 1) (h : wpA PG token_lexer_rest.c none (endA [(.t 2)] K) (initFr args) H) : ACalls PG 68 args H K :=
  ACalls.of_code (fl := []) mixed Tryd.func68 (c := Tryd.f68.body.getD .skip) (by kernel_rfl) (by kernel_rfl) (by rw [hl]; exact of_decide_eq_true (by kernel_rfl)) (by rw [token_lexer_rest.code]; kernel_rfl)
    (by rw [token_lexer_rest.code, show compRes PG Tryd.f68.results.toList = [(.t 2)] from by kernel_rfl]; exact h)
def strings_HasPrefix.n : Nat := 69
noncomputable def strings_HasPrefix.c : C := (.seq (.reg [⟨(some 4), none, (.mv (.c (.bool false)))⟩]) (.seq (.reg [⟨(some 5), none, (.mv (.t 0))⟩, ⟨(some 6), none, (.mv (.t 1))⟩, ⟨(some 7), none, (.call 82 [(.t 5), (.t 6)])⟩, ⟨(some 4), none, (.mv (.t 7))⟩]) .ret))
theorem strings_HasPrefix.code : comp PG [] (Tryd.f69.body.getD .skip) = strings_HasPrefix.c := by kernel_rfl
theorem strings_HasPrefix.of {args : List AV} {H : AH} {K : AV → AH → Prop} (hl : args.length = 2) (h : wpA PG strings_HasPrefix.c none (endA [(.t 4)] K) (initFr args) H) : ACalls PG 69 args H K :=
  ACalls.of_code (fl := []) mixed Tryd.func69 (c := Tryd.f69.body.getD .skip) (by kernel_rfl) (by kernel_rfl) (by rw [hl]; exact of_decide_eq_true (by kernel_rfl)) (by rw [strings_HasPrefix.code]; kernel_rfl)
    (by rw [strings_HasPrefix.code, show compRes PG Tryd.f69.results.toList = [(.t 4)] from by kernel_rfl]; exact h)
def stringslite_IndexByte.n : Nat := 70
noncomputable def stringslite_IndexByte.c : C := (.seq (.reg [⟨(some 4), none, (.mv (.c (.int .i64 0)))⟩]) (.seq (.reg [⟨(some 5), none, (.mv (.t 0))⟩, ⟨(some 6), none, (.mv (.t 1))⟩, ⟨(some 7), none, (.ext .ixb [(.t 5), (.t 6)])⟩, ⟨(some 4), none, (.mv (.t 7))⟩]) .ret))
theorem stringslite_IndexByte.code : comp PG [] (Tryd.f70.body.getD .skip) = stringslite_IndexByte.c := by kernel_rfl
theorem stringslite_IndexByte.of {args : List AV} {H : AH} {K : AV → AH → Prop} (hl : args.length = 2) (h : wpA PG stringslite_IndexByte.c none (endA [(.t 4)] K) (initFr args) H) : ACalls PG 70 args H K :=
  ACalls.of_code (fl := []) mixed Tryd.func70 (c := Tryd.f70.body.getD .skip) (by kernel_rfl) (by kernel_rfl) (by rw [hl]; exact of_decide_eq_true (by kernel_rfl)) (by rw [stringslite_IndexByte.code]; kernel_rfl)
    (by rw [stringslite_IndexByte.code, show compRes PG Tryd.f70.results.toList = [(.t 4)] from by kernel_rfl]; exact h)
def strconv_FormatUint.n : Nat := 72
noncomputable def strconv_FormatUint.c : C := (.seq (.reg [⟨(some 4), none, (.mv (.c (.str [])))⟩]) (.seq (.reg [⟨(some 5), none, (.mv (.t 0))⟩, ⟨(some 6), none, (.mv (.t 1))⟩, ⟨(some 7), none, (.call 86 [(.t 5), (.t 6)])⟩, ⟨(some 4), none, (.mv (.t 7))⟩]) .ret))
theorem strconv_FormatUint.code : comp PG [] (Tryd.f72.body.getD .skip) = strconv_FormatUint.c := by kernel_rfl
theorem strconv_FormatUint.of {args : List AV} {H : AH} {K : AV → AH → Prop} (hl : args.length = 2) (h : wpA PG strconv_FormatUint.c none (endA [(.t 4)] K) (initFr args) H) : ACalls PG 72 args H K :=
  ACalls.of_code (fl := []) mixed Tryd.func72 (c := Tryd.f72.body.getD .skip) (by kernel_rfl) (by kernel_rfl) (by rw [hl]; exact of_decide_eq_true (by kernel_rfl)) (by rw [strconv_FormatUint.code]; kernel_rfl)
    (by rw [strconv_FormatUint.code, show compRes PG Tryd.f72.results.toList = [(.t 4)] from by kernel_rfl]; exact h)
def stringslite_HasPrefix.n : Nat := 82
noncomputable def stringslite_HasPrefix.c : C := (.seq (.reg [⟨(some 4), none, (.mv (.c (.bool false)))⟩]) (.seq (.reg [⟨(some 5), none, (.mv (.t 0))⟩, ⟨(some 6), none, (.len true (.t 5))⟩, ⟨(some 7), none, (.mv (.t 1))⟩, ⟨(some 8), none, (.len true (.t 7))⟩, ⟨(some 9), none, (.bin .geq (.t 6) (.t 8))⟩, ⟨(some 10), none, (.mv (.t 9))⟩, ⟨(some 11), (some (10, true)), (.mv (.t 0))⟩, ⟨(some 12), (some (10, true)), (.mv (.t 1))⟩, ⟨(some 13), (some (10, true)), (.len true (.t 12))⟩, ⟨(some 14), (some (10, true)), (.slice none (.t 11) none (some (.t 13)))⟩, ⟨(some 15), (some (10, true)), (.mv (.t 1))⟩, ⟨(some 16), (some (10, true)), (.bin .eql (.t 14) (.t 15))⟩, ⟨(some 17), none, (.pick (.t 10) (.t 16) (.c (.bool false)))⟩, ⟨(some 4), none, (.mv (.t 17))⟩]) .ret))
theorem stringslite_HasPrefix.code : comp PG [] (Tryd.f82.body.getD .skip) = stringslite_HasPrefix.c := by kernel_rfl
theorem stringslite_HasPrefix.of {args : List AV} {H : AH} {K : AV → AH → Prop} (hl : args.length = 2) (h : wpA PG stringslite_HasPrefix.c none (endA [(.t 4)] K) (initFr args) H) : ACalls PG 82 args H K :=
  ACalls.of_code (fl := []) mixed Tryd.func82 (c := Tryd.f82.body.getD .skip) (by kernel_rfl) (by kernel_rfl) (by rw [hl]; exact of_decide_eq_true (by kernel_rfl)) (by rw [stringslite_HasPrefix.code]; kernel_rfl)
    (by rw [stringslite_HasPrefix.code, show compRes PG Tryd.f82.results.toList = [(.t 4)] from by kernel_rfl]; exact h)
def name_Word.n : Nat := 91
noncomputable def name_Word.c : C := (.seq (.reg [⟨(some 2), none, (.mv (.c (.bool false)))⟩]) (.seq (.seq (.reg [⟨(some 3), none, (.mv (.t 0))⟩]) (.block 0 (.seq (.seq (.reg [⟨(some 5), none, (.bin .eql (.t 3) (.c (.str [65, 78, 68])))⟩, ⟨(some 4), none, (.mv (.t 5))⟩]) (.cond (.t 4) .skip (.seq (.reg [⟨(some 6), none, (.bin .eql (.t 3) (.c (.str [79, 82])))⟩, ⟨(some 4), none, (.mv (.t 6))⟩]) (.cond (.t 4) .skip (.seq (.reg [⟨(some 7), none, (.bin .eql (.t 3) (.c (.str [78, 79, 84])))⟩, ⟨(some 4), none, (.mv (.t 7))⟩]) (.cond (.t 4) .skip (.seq (.reg [⟨(some 8), none, (.bin .eql (.t 3) (.c (.str [66, 69, 84, 87, 69, 69, 78])))⟩, ⟨(some 4), none, (.mv (.t 8))⟩]) (.cond (.t 4) .skip (.seq (.reg [⟨(some 9), none, (.bin .eql (.t 3) (.c (.str [76, 73, 75, 69])))⟩, ⟨(some 4), none, (.mv (.t 9))⟩]) (.cond (.t 4) .skip (.seq (.reg [⟨(some 10), none, (.bin .eql (.t 3) (.c (.str [84, 82, 85, 69])))⟩, ⟨(some 4), none, (.mv (.t 10))⟩]) (.cond (.t 4) .skip (.reg [⟨(some 11), none, (.bin .eql (.t 3) (.c (.str [70, 65, 76, 83, 69])))⟩, ⟨(some 4), none, (.mv (.t 11))⟩]))))))))))))) (.cond (.t 4) (.seq (.reg [⟨(some 2), none, (.mv (.c (.bool true)))⟩]) .ret) .skip)))) (.seq (.reg [⟨(some 2), none, (.mv (.c (.bool false)))⟩]) .ret)))
theorem name_Word.code : comp PG [] (Tryd.f91.body.getD .skip) = name_Word.c := by kernel_rfl
theorem name_Word.of {args : List AV} {H : AH} {K : AV → AH → Prop} (hl : args.length = 1) (h : wpA PG name_Word.c none (endA [(.t 2)] K) (initFr args) H) : ACalls PG 91 args H K :=
  ACalls.of_code (fl := []) mixed Tryd.func91 (c := Tryd.f91.body.getD .skip) (by kernel_rfl) (by kernel_rfl) (by rw [hl]; exact of_decide_eq_true (by kernel_rfl)) (by rw [name_Word.code]; kernel_rfl)
    (by rw [name_Word.code, show compRes PG Tryd.f91.results.toList = [(.t 2)] from by kernel_rfl]; exact h)
end Go.Proofs.YtlmplofpclaokaaDoor

/- The numbers of the package variables that are looked at. -/
namespace Go.Proofs.YtlmplofpclaokaaDoor

abbrev maxG : Nat := 0
end Go.Proofs.YtlmplofpclaokaaDoor

/- The cell of the library's greatest length, of whatever size; texts' sizes. -/
namespace Go.Proofs.YtlmplofpclaokaaDoor
open Go.RowKit
set_option autoImplicit false
theorem max_is {w : World} {Z : Nat → Prop} (h : TabG w.heap Z) : ∃ m, w.cell? ⟨maxG, 0, none⟩ = some (.int .i64 m) := by
  obtain ⟨_, c, q, m, hm⟩ := h (maxG, fun c => ∃ m : Int, c[0]? = some (.int .i64 m)) (by simp [tabs, maxG])
  refine ⟨m, ?_⟩
  unfold World.cell?
  unfold hrow at q
  cases hx : w.heap[maxG]? with
  | none => rw [hx] at q; cases q
  | some o =>
    rw [hx] at q
    cases o with
    | cells c' t f =>
      have : c' = c := Option.some.inj q
      subst this
      simpa using hm
    | _ => cases q
theorem strB {s : ByteArray} {l : List UInt8} (h : s.data.toList = l) : s.size = l.length := by rw [← h]; simp
end Go.Proofs.YtlmplofpclaokaaDoor

/- Every byte of a kind replaced; plain. -/
namespace Go.Proofs.YtlmplofpclaokaaDoor
set_option autoImplicit false
def replB (c : UInt8) (new s : List UInt8) : List UInt8 := s.flatMap fun b => if b = c then new else [b]
theorem replB_cons (c : UInt8) (new : List UInt8) (b : UInt8) (s : List UInt8) : replB c new (b :: s) = (if b = c then new else [b]) ++ replB c new s := by simp [replB]
theorem replK (c : UInt8) (new : List UInt8) : ∀ (s : List UInt8) (k : Nat), Lib.count s [c] = k → Lib.replaceK [c] new k s = replB c new s
  | [], k, h => by
    rw [Lib.count_one] at h
    simp at h
    subst h
    rfl
  | b :: l, k, h => by
    rw [replB_cons]
    by_cases hb : b = c
    · subst hb
      rw [Lib.count_cons_eq] at h
      obtain ⟨m, rfl⟩ : ∃ m, k = m + 1 := ⟨k - 1, by omega⟩
      have hix : Lib.index (b :: l) [b] = ((0 : Nat) : Int) := by rw [Lib.index]; simp [List.isPrefixOf]
      rw [Lib.replaceK_hit _ _ _ _ 0 hix, if_pos rfl, List.take_zero, List.nil_append]
      exact congrArg (new ++ ·) (replK b new l m (by omega))
    · rw [Lib.count_cons_ne _ _ _ hb] at h
      have ih := replK c new l k h
      rw [if_neg hb, ← ih]
      cases k with
      | zero => rfl
      | succ m =>
        obtain ⟨j, hj⟩ := Lib.index_of_count (s := l) (old := [c]) (by omega)
        have hp : ([c] : List UInt8).isPrefixOf (b :: l) = false := by
          simp [List.isPrefixOf]
          exact fun e => hb e.symm
        have hix : Lib.index (b :: l) [c] = ((j + 1 : Nat) : Int) := by
          rw [Lib.index, hp, hj]
          simp
        rw [Lib.replaceK_hit _ _ _ _ _ hix, Lib.replaceK_hit _ _ _ _ _ hj]
        simp
theorem replAll (c : UInt8) (new s : List UInt8) (h : [c] ≠ new) : Lib.replaceAll s [c] new = replB c new s := by
  unfold Lib.replaceAll Lib.replace
  rw [if_neg (by simpa using h)]
  unfold Lib.replaceNum
  rw [if_pos (.inl (by decide))]
  exact replK c new s _ rfl
theorem replB_len (c : UInt8) (new : List UInt8) (h : new.length ≤ 2) : ∀ s : List UInt8, (replB c new s).length ≤ 2 * s.length
  | [] => by simp [replB]
  | b :: l => by
    have := replB_len c new h l
    rw [replB_cons]
    split <;> simp only [List.length_append, List.length_cons, List.length_nil] <;> omega
end Go.Proofs.YtlmplofpclaokaaDoor

/- strings.ReplaceAll of one byte, by the kit's contract. -/
namespace Go.Proofs.YtlmplofpclaokaaDoor
open Go.Shelf Go.RowKit
set_option autoImplicit false
theorem ReplaceAll_spec (c : UInt8) (new s : List UInt8) (hs : s.length ≤ 1000000) (hn : new.length ≤ 2) (hne : [c] ≠ new) (H : AH) : ACalls PG strings_ReplaceAll.n [.str s, .str [c], .str new] H fun r H' => r = .str (replB c new s) ∧ H' = H :=
  (ACalls.belowT (P := PG) (f := strings_ReplaceAll.n) (args := [.str s, .str [c], .str new]) (v := .str (replB c new s)) (by kernel_rfl) fun w ρ Z xs ht hz hr => by
    obtain ⟨x, y, z, rfl, hx, hy, hz⟩ := hr.three
    cases hx with
    | str _ a ha =>
    cases hy with
    | str _ b hb =>
    cases hz with
    | str _ d hd =>
    obtain ⟨m, hm⟩ := max_is ht
    have hc : Lib.countB a b ≤ a.size := by
      have e : Lib.countB a b = Lib.count s [c] := by rw [← hb, ← ha]
      rw [e, Lib.count_one, strB ha]; exact List.count_le_length
    have hal := strB ha
    have hbl := strB hb
    have hdl := strB hd
    have hmul : Lib.countB a b * d.size ≤ 1000000 * 2 := Nat.mul_le_mul (by omega) (by omega)
    have := Any.strings_ReplaceAll lays155 lays155X a b d m w (by omega) hm (by rw [hbl]; exact Nat.le_refl _) (by omega)
    rw [ha, hb, hd, replAll c new s hne] at this
    exact this.mono fun e w' ⟨h1, h2⟩ => ⟨_, h1, .str _ _ rfl, h2⟩).frame H
end Go.Proofs.YtlmplofpclaokaaDoor

/- strings.Join, by the kit's contract. -/
namespace Go.Proofs.YtlmplofpclaokaaDoor
open Go.Shelf Go.RowKit
set_option autoImplicit false
set_option linter.unusedVariables false
def joinRow (l : List (List UInt8)) : List (List AV) := l.map fun s => [.str s]
theorem Join_spec (l : List (List UInt8)) (s : List UInt8) (h1 : l.length ≤ 140737488355328) (h2 : (Lib.join l s).length ≤ 140737488355328) (H : AH) : ACalls PG strings_Join.n [.rows 1 (joinRow l), .str s] H fun r H' => r = .str (Lib.join l s) ∧ H' = H :=
  (ACalls.belowT (P := PG) (f := strings_Join.n) (args := [.rows 1 (joinRow l), .str s]) (v := .str (Lib.join l s)) (by kernel_rfl) fun w ρ Z xs ht hz hr => by
    obtain ⟨x, y, rfl, hx, hy⟩ := hr.two
    cases hy with
    | str _ sb hs =>
    have hlen : (joinRow l).length = l.length := by simp [joinRow]
    generalize hL : joinRow l = L at hx hlen
    cases hx with
    | rowsN =>
      have : l = [] := List.eq_nil_of_length_eq_zero (by simpa using hlen.symm)
      subst this
      exact (Any.strings_Join_none lays156 laysExtra none 0 sb w).mono fun e w' ⟨e1, e2⟩ => ⟨_, e1, .str _ _ rfl, e2 ▸ Below.refl _ _⟩
    | rowsE _ a c =>
      have : l = [] := List.eq_nil_of_length_eq_zero (by simpa using hlen.symm)
      subst this
      exact (Any.strings_Join_none lays156 laysExtra (some a) c sb w).mono fun e w' ⟨e1, e2⟩ => ⟨_, e1, .str _ _ rfl, e2 ▸ Below.refl _ _⟩
    | rows _ _ b o n c f hn hnc hzz hw hcc hm hrr =>
      rcases Nat.eq_zero_or_pos n with h0 | h0
      · have : l = [] := List.eq_nil_of_length_eq_zero (by omega)
        subst this
        subst h0
        exact (Any.strings_Join_none lays156 laysExtra _ c sb w).mono fun e w' ⟨e1, e2⟩ => ⟨_, e1, .str _ _ rfl, e2 ▸ Below.refl _ _⟩
      have hnl : n = l.length := by omega
      subst hL
      have hj : ((l.map fun s => (⟨s.toArray⟩ : ByteArray)).map (·.data.toList)) = l := by
        rw [List.map_map]
        exact List.map_id' l
      have := Any.strings_Join lays156 laysExtra b o c (l.map fun s => ⟨s.toArray⟩) sb w (fun j x hx => by
        obtain ⟨u, hu⟩ : ∃ u, l[j]? = some u ∧ x = ⟨u.toArray⟩ := by
          rw [List.getElem?_map] at hx
          cases hq : l[j]? with
          | none => rw [hq] at hx; cases hx
          | some u => rw [hq] at hx; exact ⟨u, rfl, (Option.some.inj hx).symm⟩
        have hr1 : (joinRow l)[j]? = some [.str u] := by simp [joinRow, hu.1]
        have hc := hm j _ 0 (.str u) hr1 rfl
        have hv := hrr j _ 0 (.str u) hr1 rfl
        simp only [Nat.mul_one, Nat.add_zero] at hc hv
        rw [cell?_heap, hc]
        cases hv' : f j with
        | string t => 
          rw [hv'] at hv
          cases hv with
          | str _ _ ht => rw [hu.2, ← ht]
        | _ => rw [hv'] at hv; cases hv) (hz b (hzz h0)) (by simpa using h1) (by simpa [← hnl] using hnc) (by rw [hj, hs]; exact h2)
      rw [hj, hs] at this
      rw [List.length_map, ← hnl] at this
      exact this.mono fun e w' ⟨e1, e2⟩ => ⟨_, e1, .str _ _ rfl, e2⟩).frame H
end Go.Proofs.YtlmplofpclaokaaDoor

/- Tokens joined, texts in quotes, walked. -/
namespace Go.Proofs.YtlmplofpclaokaaDoor
set_option autoImplicit false
set_option linter.unusedSimpArgs false
set_option linter.unusedVariables false
attribute [local irreducible] callA callP ACalls
abbrev TkI := Int × List UInt8 × Int × Int
abbrev tkI (x : TkI) : List AV := [.int .i64 x.1, .str x.2.1, .int .u64 x.2.2.1, .int .i64 x.2.2.2]
def quoteL (s : List UInt8) : List UInt8 := [39] ++ replB 39 [39, 39] s ++ [39]
def tokT (x : TkI) : List UInt8 := if x.1 = 3 then quoteL x.2.1 else x.2.1
def joinT (l : List TkI) : List UInt8 := Lib.join (l.map tokT) [32]
theorem quoteL_len (s : List UInt8) : (quoteL s).length ≤ 2 * s.length + 2 := by
  have := replB_len 39 [39, 39] (by decide) s
  simp only [quoteL, List.length_append, List.length_cons, List.length_nil]; omega
def lenT (l : List TkI) : Nat := (l.map fun x => x.2.1.length).sum
theorem tokT_len (x : TkI) : (tokT x).length ≤ 2 * x.2.1.length + 2 := by
  unfold tokT
  split
  · exact quoteL_len _
  · omega
theorem joinTail_len (l : List TkI) : (Lib.joinTail [32] (l.map tokT)).length ≤ 2 * lenT l + 3 * l.length := by
  induction l with
  | nil => simp [Lib.joinTail, lenT]
  | cons x l ih =>
    have := tokT_len x
    simp only [Lib.joinTail, lenT, List.map_cons, List.flatten_cons, List.length_append, List.length_cons, List.length_nil, List.sum_cons] at ih ⊢
    omega
theorem joinT_len (l : List TkI) : (joinT l).length ≤ 2 * lenT l + 3 * l.length := by
  cases l with
  | nil => simp [joinT, Lib.join_nil]
  | cons x l =>
    have h1 := tokT_len x
    have h2 := joinTail_len l
    rw [joinT, List.map_cons, Lib.join_cons, List.length_append]
    simp only [lenT, List.map_cons, List.sum_cons, List.length_cons] at h2 ⊢
    omega
theorem lenT_take (l : List TkI) (i : Nat) : lenT (l.take i) ≤ lenT l := by
  have := List.take_append_drop i l
  have h2 : lenT l = lenT (l.take i) + lenT (l.drop i) := by
    unfold lenT
    rw [← List.sum_append, ← List.map_append, this]
  omega
theorem join_snocS (c : UInt8) (l : List (List UInt8)) (x : List UInt8) : Lib.join (l ++ [x]) [c] = Lib.join l [c] ++ ((if l = [] then [] else [c]) ++ x) := by
  cases l with
  | nil => simp [Lib.join_one, Lib.join_nil]
  | cons a l => rw [List.cons_append, Lib.join_cons, Lib.join_cons]; simp [Lib.joinTail]
theorem tok_Quote_spec (s : List UInt8) (hs : s.length ≤ 1000000) (H : AH) : ACalls PG token_Quote.n [.str s] H fun r H' => r = .str (quoteL s) ∧ H' = H := by
  have := replB_len 39 [39, 39] (by decide) s
  refine ACalls.fz (token_Quote.of rfl (wpF_start ?_))
  (first | refine au ?_ | exact au0 | fail)
  first | refine callF_eq (ReplaceAll_spec 39 [39, 39] s hs (by decide) (by decide) _) ?_ | refine callG_eq rfl (ReplaceAll_spec 39 [39, 39] s hs (by decide) (by decide) _) ?_
  (first | refine au ?_ | exact au0 | fail)
  exact ⟨fz_of, sub_of⟩
theorem r14_Quote_spec (s : List UInt8) (hs : s.length ≤ 1000000) (H : AH) : ACalls PG broadsheetref14_Quote.n [.str s] H fun r H' => r = .str (quoteL s) ∧ H' = H := by
  refine ACalls.fz (broadsheetref14_Quote.of rfl (wpF_start ?_))
  (first | refine au ?_ | exact au0 | fail)
  refine loopM (S := Nat) [(0, some _)] (fun i => [(4, some (.int .i64 (i : Nat))), (3, some (.str ([39] ++ replB 39 [39, 39] (s.take i))))]) (fun _ => _) (fun i => s.length - i) (fun i => i ≤ s.length) 0 (by repeat (first | exact trivial | refine And.intro (Or.inl rfl) ?_ | refine And.intro (Or.inr (Exists.intro _ (And.intro rfl (Fz.refl _)))) ?_ | refine And.intro (Or.inr (Exists.intro _ (And.intro rfl (fz_eq (congrArg (AV.int _) (by omega)))))) ?_ | refine And.intro (Or.inr (Exists.intro _ (And.intro rfl (fz_eq (congrArg (AV.own _ _ _) (by (try dsimp only); (try simp only [List.length_append, List.length_map, List.length_cons, List.length_nil, List.length_take, List.length_set, List.length_replicate]); (try dsimp only); first | done | omega)))))) ?_)) (Sub.refl _) (Nat.zero_le _) (fun i hi => ?_)
  have hrl := replB_len 39 [39, 39] (by decide) (s.take i)
  have htl : (s.take i).length = i := by rw [List.length_take]; omega
  (first | refine au ?_ | exact au0 | fail)
  refine bsplit_dec (fun c => ?_) (fun c => ?_)
  · have hil : i < s.length := by omega
    have hg : s.getD (Int.toNat (i : Nat)) 0 = s[i] := by simp [hil]
    have hsl : (s.take (Int.toNat ((i : Int) + 1))).drop (Int.toNat (i : Nat)) = [s[i]] := by
      rw [show Int.toNat ((i : Int) + 1) = i + 1 from by omega, Int.toNat_natCast, List.take_succ_eq_append_getElem hil, List.drop_left' htl]
    have hst : replB 39 [39, 39] (s.take (i + 1)) = replB 39 [39, 39] (s.take i) ++ (if s[i] = 39 then [39, 39] else [s[i]]) := by
      rw [List.take_succ_eq_append_getElem hil]
      unfold replB
      rw [List.flatMap_append]
      simp only [List.flatMap_cons, List.flatMap_nil, List.append_nil]
    generalize s[i] = x at *
    by_cases hx : x = 39
    · have hx2 : (s.getD (Int.toNat (i : Nat)) 0).toNat = 39 := by rw [hg, hx]; rfl
      rw [if_pos hx] at hst
      (first | refine au ?_ | exact au0 | fail)
      rw [hsl]
      (first | refine au ?_ | exact au0 | fail)
      exact nextS (S := Nat) (i + 1) (by rw [hst, hx]; (try simp only [List.append_assoc, List.cons_append, List.nil_append]); exact (by repeat (first | exact trivial | refine And.intro (Or.inl rfl) ?_ | refine And.intro (Or.inr (Exists.intro _ (And.intro rfl (Fz.refl _)))) ?_ | refine And.intro (Or.inr (Exists.intro _ (And.intro rfl (fz_eq (congrArg (AV.int _) (by omega)))))) ?_ | refine And.intro (Or.inr (Exists.intro _ (And.intro rfl (fz_eq (congrArg (AV.own _ _ _) (by (try dsimp only); (try simp only [List.length_append, List.length_map, List.length_cons, List.length_nil, List.length_take, List.length_set, List.length_replicate]); (try dsimp only); first | done | omega)))))) ?_))) sub_of (by omega) hil
    · have hx2 : (s.getD (Int.toNat (i : Nat)) 0).toNat ≠ 39 := by rw [hg]; exact fun q => hx (UInt8.toNat_inj.1 q)
      rw [if_neg hx] at hst
      (first | refine au ?_ | exact au0 | fail)
      rw [hsl]
      (first | refine au ?_ | exact au0 | fail)
      exact nextS (S := Nat) (i + 1) (by rw [hst]; (try simp only [List.append_assoc, List.cons_append, List.nil_append]); exact (by repeat (first | exact trivial | refine And.intro (Or.inl rfl) ?_ | refine And.intro (Or.inr (Exists.intro _ (And.intro rfl (Fz.refl _)))) ?_ | refine And.intro (Or.inr (Exists.intro _ (And.intro rfl (fz_eq (congrArg (AV.int _) (by omega)))))) ?_ | refine And.intro (Or.inr (Exists.intro _ (And.intro rfl (fz_eq (congrArg (AV.own _ _ _) (by (try dsimp only); (try simp only [List.length_append, List.length_map, List.length_cons, List.length_nil, List.length_take, List.length_set, List.length_replicate]); (try dsimp only); first | done | omega)))))) ?_))) sub_of (by omega) hil
  · have : i = s.length := by omega
    subst this
    rw [List.take_length] at hrl ⊢
    (first | refine au ?_ | exact au0 | fail)
    exact ⟨fz_of, sub_of⟩
theorem tok_Join_spec0 (l : List TkI) (hl : l.length ≤ 1000) (hls : ∀ x ∈ l, x.2.1.length ≤ 100000) (hlt : lenT l ≤ 100000) : ACalls PG token_Join.n [.rows 4 (l.map tkI)] [] fun r _ => r = .str (joinT l) := by
  have hlen : (l.map tkI).length = l.length := by simp
  refine ACalls.fzK (token_Join.of rfl (wpF_start ?_))
  (first | refine au ?_ | exact au0 | fail)
  refine loopM (S := Nat × Option Nat) [(6, some _), (7, some _)] (fun s => [(8, some (.int .i64 (s.1 : Nat))), (3, some (accV s.2 1 s.1))]) (fun s => accH s.2 1 (joinRow ((l.take s.1).map tokT)) []) (fun s => l.length - s.1) (fun s => s.1 ≤ l.length ∧ (s.2 = none → s.1 = 0) ∧ ∀ id, s.2 = some id → tag id = ty_string) (0, none) (by repeat (first | exact trivial | refine And.intro (Or.inl rfl) ?_ | refine And.intro (Or.inr (Exists.intro _ (And.intro rfl (Fz.refl _)))) ?_ | refine And.intro (Or.inr (Exists.intro _ (And.intro rfl (fz_eq (congrArg (AV.int _) (by omega)))))) ?_ | refine And.intro (Or.inr (Exists.intro _ (And.intro rfl (fz_eq (congrArg (AV.own _ _ _) (by (try dsimp only); (try simp only [List.length_append, List.length_map, List.length_cons, List.length_nil, List.length_take, List.length_set, List.length_replicate]); (try dsimp only); first | done | omega)))))) ?_)) (Sub.refl _) ⟨Nat.zero_le _, fun _ => rfl, fun id q => by cases q⟩ (fun ⟨i, o⟩ hs => ?_)
  dsimp only at hs
  obtain ⟨hi, ho1, ho2⟩ := hs
  have hjl : (joinRow ((l.take i).map tokT)).length = i := by simp [joinRow]; omega
  rcases o with _ | ida
  · have hi0 := ho1 rfl
    dsimp only [accH, accV]
    (first | refine au ?_ | exact au0 | fail)
    refine bsplit_dec (fun cc => ?_) (fun cc => ?_)
    · have hil : i < l.length := by omega
      have hg : (l.map tkI).getD (Int.toNat (i : Nat)) [] = tkI l[i] := row_get (f := tkI) hil
      have hst : joinRow ((l.take (i + 1)).map tokT) = joinRow ((l.take i).map tokT) ++ [[.str (tokT l[i])]] := by
        rw [List.take_succ_eq_append_getElem hil]
        simp only [joinRow, List.map_append, List.map_cons, List.map_nil]
      have hxl : l[i].2.1.length ≤ 100000 := hls _ (List.getElem_mem hil)
      have htt : tokT l[i] = if l[i].1 = 3 then quoteL l[i].2.1 else l[i].2.1 := rfl
      generalize l[i] = x at *
      obtain ⟨xk, xs, xn, xa⟩ := x
      dsimp only at hxl htt
      (first | refine au ?_ | exact au0 | fail)
      rw [hg]
      (first | refine au ?_ | exact au0 | fail)
      intro id5 hid5 ht5; have n5 := neAll_of hid5; (try simp only [neAll, neAll_hset] at n5); have m5 := n5; (repeat (obtain ⟨_, m5⟩ := m5))
      (first | refine au ?_ | exact au0 | fail)
      by_cases hk : xk = 3
      · rw [if_pos hk] at htt
        subst hk
        (first | refine au ?_ | exact au0 | fail)
        first | refine callF_eq (tok_Quote_spec xs (by omega) _) ?_ | refine callG_eq rfl (tok_Quote_spec xs (by omega) _) ?_
        (first | refine au ?_ | exact au0 | fail)
        rw [← htt]
        refine ⟨_, rfl, (Nat.le_of_ble_eq_true rfl), (fun q => by cases q), fun _ => ?_⟩
        intro id23 hid23 ht23; have n23 := neAll_of hid23; (try simp only [neAll, neAll_hset] at n23); have m23 := n23; (repeat (obtain ⟨_, m23⟩ := m23))
        (first | refine au ?_ | exact au0 | fail)
        refine nextS (S := Nat × Option Nat) (i + 1, some id23) (by (try dsimp only [accH, accV]); exact (by repeat (first | exact trivial | refine And.intro (Or.inl rfl) ?_ | refine And.intro (Or.inr (Exists.intro _ (And.intro rfl (Fz.refl _)))) ?_ | refine And.intro (Or.inr (Exists.intro _ (And.intro rfl (fz_eq (congrArg (AV.int _) (by omega)))))) ?_ | refine And.intro (Or.inr (Exists.intro _ (And.intro rfl (fz_eq (congrArg (AV.own _ _ _) (by (try dsimp only); (try simp only [List.length_append, List.length_map, List.length_cons, List.length_nil, List.length_take, List.length_set, List.length_replicate]); (try dsimp only); first | done | omega)))))) ?_))) (by (try dsimp only [accH, accV]); rw [hst]; rw [show joinRow ((l.take i).map tokT) = [] from by rw [hi0]; rfl, List.nil_append]; exact sub_of) (by dsimp only; omega) ⟨hil, (fun q => by cases q), fun j q => by cases q; exact ht23⟩
      · rw [if_neg hk] at htt
        (first | refine au ?_ | exact au0 | fail)
        rw [← htt]
        refine ⟨_, rfl, (Nat.le_of_ble_eq_true rfl), (fun q => by cases q), fun _ => ?_⟩
        intro id23 hid23 ht23; have n23 := neAll_of hid23; (try simp only [neAll, neAll_hset] at n23); have m23 := n23; (repeat (obtain ⟨_, m23⟩ := m23))
        (first | refine au ?_ | exact au0 | fail)
        refine nextS (S := Nat × Option Nat) (i + 1, some id23) (by (try dsimp only [accH, accV]); exact (by repeat (first | exact trivial | refine And.intro (Or.inl rfl) ?_ | refine And.intro (Or.inr (Exists.intro _ (And.intro rfl (Fz.refl _)))) ?_ | refine And.intro (Or.inr (Exists.intro _ (And.intro rfl (fz_eq (congrArg (AV.int _) (by omega)))))) ?_ | refine And.intro (Or.inr (Exists.intro _ (And.intro rfl (fz_eq (congrArg (AV.own _ _ _) (by (try dsimp only); (try simp only [List.length_append, List.length_map, List.length_cons, List.length_nil, List.length_take, List.length_set, List.length_replicate]); (try dsimp only); first | done | omega)))))) ?_))) (by (try dsimp only [accH, accV]); rw [hst]; rw [show joinRow ((l.take i).map tokT) = [] from by rw [hi0]; rfl, List.nil_append]; exact sub_of) (by dsimp only; omega) ⟨hil, (fun q => by cases q), fun j q => by cases q; exact ht23⟩
    · have hi : i = l.length := by omega
      subst hi
      rw [List.take_length] at *
      have hjl := joinT_len l
      (first | refine au ?_ | exact au0 | fail)
      refine callF_fz (r := .str (joinT l)) (args' := [.rows 1 (joinRow (l.map tokT)), .str [32]]) (.cons ?_ (.cons (.refl _) (.nil _ _))) rfl ((Join_spec (l.map tokT) [32] (by simp; omega) (by have q := joinT_len l; unfold joinT at q; omega) []).mono fun r H' e => e.1) ?_
      · exact accFz (o := none) (n := l.length) (l := joinRow (l.map tokT)) (by simp [joinRow]) (fun q => by rw [List.eq_nil_of_length_eq_zero hi0]; rfl) (fun _ _ => rfl) (FzR.refl _ _ _) (fun r hr => by obtain ⟨s, _, rfl⟩ := List.mem_map.1 hr; rfl)
      (first | refine au ?_ | exact au0 | fail)
      exact fz_of
  · have hti := ho2 ida rfl
    dsimp only [accH, accV]
    (first | refine au ?_ | exact au0 | fail)
    refine bsplit_dec (fun cc => ?_) (fun cc => ?_)
    · have hil : i < l.length := by omega
      have hg : (l.map tkI).getD (Int.toNat (i : Nat)) [] = tkI l[i] := row_get (f := tkI) hil
      have hst : joinRow ((l.take (i + 1)).map tokT) = joinRow ((l.take i).map tokT) ++ [[.str (tokT l[i])]] := by
        rw [List.take_succ_eq_append_getElem hil]
        simp only [joinRow, List.map_append, List.map_cons, List.map_nil]
      have hxl : l[i].2.1.length ≤ 100000 := hls _ (List.getElem_mem hil)
      have htt : tokT l[i] = if l[i].1 = 3 then quoteL l[i].2.1 else l[i].2.1 := rfl
      generalize l[i] = x at *
      obtain ⟨xk, xs, xn, xa⟩ := x
      dsimp only at hxl htt
      (first | refine au ?_ | exact au0 | fail)
      rw [hg]
      (first | refine au ?_ | exact au0 | fail)
      intro id5 hid5 ht5; have n5 := neAll_of hid5; (try simp only [neAll, neAll_hset] at n5); have m5 := n5; (repeat (obtain ⟨_, m5⟩ := m5))
      (first | refine au ?_ | exact au0 | fail)
      by_cases hk : xk = 3
      · rw [if_pos hk] at htt
        subst hk
        (first | refine au ?_ | exact au0 | fail)
        first | refine callF_eq (tok_Quote_spec xs (by omega) _) ?_ | refine callG_eq rfl (tok_Quote_spec xs (by omega) _) ?_
        (first | refine au ?_ | exact au0 | fail)
        rw [← htt]
        refine ⟨_, _, readS_all (by exact hg_of) (by ((try dsimp only); (try simp only [List.length_append, List.length_map, List.length_cons, List.length_nil, List.length_take, List.length_set, List.length_replicate]); (try dsimp only); first | done | omega)), rfl, rfl, rfl, (hti), (by ((try dsimp only); (try simp only [List.length_append, List.length_map, List.length_cons, List.length_nil, List.length_take, List.length_set, List.length_replicate]); (try dsimp only); first | done | omega)), ?_⟩
        intro id23 hid23 ht23; have n23 := neAll_of hid23; (try simp only [neAll, neAll_hset] at n23); have m23 := n23; (repeat (obtain ⟨_, m23⟩ := m23))
        (first | refine au ?_ | exact au0 | fail)
        refine nextS (S := Nat × Option Nat) (i + 1, some id23) (by (try dsimp only [accH, accV]); exact (by repeat (first | exact trivial | refine And.intro (Or.inl rfl) ?_ | refine And.intro (Or.inr (Exists.intro _ (And.intro rfl (Fz.refl _)))) ?_ | refine And.intro (Or.inr (Exists.intro _ (And.intro rfl (fz_eq (congrArg (AV.int _) (by omega)))))) ?_ | refine And.intro (Or.inr (Exists.intro _ (And.intro rfl (fz_eq (congrArg (AV.own _ _ _) (by (try dsimp only); (try simp only [List.length_append, List.length_map, List.length_cons, List.length_nil, List.length_take, List.length_set, List.length_replicate]); (try dsimp only); first | done | omega)))))) ?_))) (by (try dsimp only [accH, accV]); rw [hst]; skip; exact sub_of) (by dsimp only; omega) ⟨hil, (fun q => by cases q), fun j q => by cases q; exact ht23⟩
      · rw [if_neg hk] at htt
        (first | refine au ?_ | exact au0 | fail)
        rw [← htt]
        refine ⟨_, _, readS_all (by exact hg_of) (by ((try dsimp only); (try simp only [List.length_append, List.length_map, List.length_cons, List.length_nil, List.length_take, List.length_set, List.length_replicate]); (try dsimp only); first | done | omega)), rfl, rfl, rfl, (hti), (by ((try dsimp only); (try simp only [List.length_append, List.length_map, List.length_cons, List.length_nil, List.length_take, List.length_set, List.length_replicate]); (try dsimp only); first | done | omega)), ?_⟩
        intro id23 hid23 ht23; have n23 := neAll_of hid23; (try simp only [neAll, neAll_hset] at n23); have m23 := n23; (repeat (obtain ⟨_, m23⟩ := m23))
        (first | refine au ?_ | exact au0 | fail)
        refine nextS (S := Nat × Option Nat) (i + 1, some id23) (by (try dsimp only [accH, accV]); exact (by repeat (first | exact trivial | refine And.intro (Or.inl rfl) ?_ | refine And.intro (Or.inr (Exists.intro _ (And.intro rfl (Fz.refl _)))) ?_ | refine And.intro (Or.inr (Exists.intro _ (And.intro rfl (fz_eq (congrArg (AV.int _) (by omega)))))) ?_ | refine And.intro (Or.inr (Exists.intro _ (And.intro rfl (fz_eq (congrArg (AV.own _ _ _) (by (try dsimp only); (try simp only [List.length_append, List.length_map, List.length_cons, List.length_nil, List.length_take, List.length_set, List.length_replicate]); (try dsimp only); first | done | omega)))))) ?_))) (by (try dsimp only [accH, accV]); rw [hst]; skip; exact sub_of) (by dsimp only; omega) ⟨hil, (fun q => by cases q), fun j q => by cases q; exact ht23⟩
    · have hi : i = l.length := by omega
      subst hi
      rw [List.take_length] at *
      have hjl := joinT_len l
      (first | refine au ?_ | exact au0 | fail)
      refine callF_fz (r := .str (joinT l)) (args' := [.rows 1 (joinRow (l.map tokT)), .str [32]]) (.cons ?_ (.cons (.refl _) (.nil _ _))) rfl ((Join_spec (l.map tokT) [32] (by simp; omega) (by have q := joinT_len l; unfold joinT at q; omega) []).mono fun r H' e => e.1) ?_
      · exact accFz (o := some ida) (n := l.length) (l := joinRow (l.map tokT)) (by simp [joinRow]) (fun q => by cases q) (fun _ _ => rfl) (FzR.refl _ _ _) (fun r hr => by obtain ⟨s, _, rfl⟩ := List.mem_map.1 hr; rfl)
      (first | refine au ?_ | exact au0 | fail)
      exact fz_of
theorem r14_Join_spec0 (l : List TkI) (hl : l.length ≤ 1000) (hls : ∀ x ∈ l, x.2.1.length ≤ 100000) (hlt : lenT l ≤ 100000) : ACalls PG broadsheetref14_Join.n [.rows 4 (l.map tkI)] [] fun r _ => r = .str (joinT l) := by
  have hlen : (l.map tkI).length = l.length := by simp
  refine ACalls.fzK (broadsheetref14_Join.of rfl (wpF_start ?_))
  (first | refine au ?_ | exact au0 | fail)
  refine loopM (S := Nat) [(0, some _)] (fun i => [(4, some (.int .i64 (i : Nat))), (3, some (.str (joinT (l.take i))))]) (fun _ => _) (fun i => l.length - i) (fun i => i ≤ l.length) 0 (by repeat (first | exact trivial | refine And.intro (Or.inl rfl) ?_ | refine And.intro (Or.inr (Exists.intro _ (And.intro rfl (Fz.refl _)))) ?_ | refine And.intro (Or.inr (Exists.intro _ (And.intro rfl (fz_eq (congrArg (AV.int _) (by omega)))))) ?_ | refine And.intro (Or.inr (Exists.intro _ (And.intro rfl (fz_eq (congrArg (AV.own _ _ _) (by (try dsimp only); (try simp only [List.length_append, List.length_map, List.length_cons, List.length_nil, List.length_take, List.length_set, List.length_replicate]); (try dsimp only); first | done | omega)))))) ?_)) (Sub.refl _) (Nat.zero_le _) (fun i hi => ?_)
  have hjl := joinT_len (l.take i)
  have hjs := lenT_take l i
  have htl : (l.take i).length = i := by rw [List.length_take]; omega
  (first | refine au ?_ | exact au0 | fail)
  refine bsplit_dec (fun cc => ?_) (fun cc => ?_)
  · have hil : i < l.length := by omega
    have hg : (l.map tkI).getD (Int.toNat (i : Nat)) [] = tkI l[i] := row_get (f := tkI) hil
    have hst : joinT (l.take (i + 1)) = joinT (l.take i) ++ ((if i = 0 then [] else [32]) ++ tokT l[i]) := by
      rw [List.take_succ_eq_append_getElem hil, joinT, List.map_append, List.map_singleton, join_snocS, joinT]
      congr 2
      have e : (l.take i).map tokT = [] ↔ i = 0 := by
        rw [← List.length_eq_zero_iff, List.length_map, htl]
      by_cases q : i = 0
      · rw [if_pos q, if_pos (e.2 q)]
      · rw [if_neg q, if_neg (fun h => q (e.1 h))]
    have hxl : l[i].2.1.length ≤ 100000 := hls _ (List.getElem_mem hil)
    have htl := tokT_len l[i]
    have htt : tokT l[i] = if l[i].1 = 3 then quoteL l[i].2.1 else l[i].2.1 := rfl
    generalize l[i] = x at *
    obtain ⟨xk, xs, xn, xa⟩ := x
    dsimp only at hxl htt htl
    by_cases h0 : i = 0
    · rw [if_pos h0, List.nil_append] at hst
      (first | refine au ?_ | exact au0 | fail)
      rw [hg]
      (first | refine au ?_ | exact au0 | fail)
      by_cases hk : xk = 3
      · rw [if_pos hk] at htt
        subst hk
        have hql := quoteL_len xs
        (first | refine au ?_ | exact au0 | fail)
        rw [hg]
        (first | refine au ?_ | exact au0 | fail)
        first | refine callF_eq (r14_Quote_spec xs (by omega) _) ?_ | refine callG_eq rfl (r14_Quote_spec xs (by omega) _) ?_
        (first | refine au ?_ | exact au0 | fail)
        exact nextS (S := Nat) (i + 1) (by rw [hst, htt]; exact (by repeat (first | exact trivial | refine And.intro (Or.inl rfl) ?_ | refine And.intro (Or.inr (Exists.intro _ (And.intro rfl (Fz.refl _)))) ?_ | refine And.intro (Or.inr (Exists.intro _ (And.intro rfl (fz_eq (congrArg (AV.int _) (by omega)))))) ?_ | refine And.intro (Or.inr (Exists.intro _ (And.intro rfl (fz_eq (congrArg (AV.own _ _ _) (by (try dsimp only); (try simp only [List.length_append, List.length_map, List.length_cons, List.length_nil, List.length_take, List.length_set, List.length_replicate]); (try dsimp only); first | done | omega)))))) ?_))) (by exact sub_of) (by omega) hil
      · rw [if_neg hk] at htt
        (first | refine au ?_ | exact au0 | fail)
        rw [hg]
        (first | refine au ?_ | exact au0 | fail)
        exact nextS (S := Nat) (i + 1) (by rw [hst, htt]; exact (by repeat (first | exact trivial | refine And.intro (Or.inl rfl) ?_ | refine And.intro (Or.inr (Exists.intro _ (And.intro rfl (Fz.refl _)))) ?_ | refine And.intro (Or.inr (Exists.intro _ (And.intro rfl (fz_eq (congrArg (AV.int _) (by omega)))))) ?_ | refine And.intro (Or.inr (Exists.intro _ (And.intro rfl (fz_eq (congrArg (AV.own _ _ _) (by (try dsimp only); (try simp only [List.length_append, List.length_map, List.length_cons, List.length_nil, List.length_take, List.length_set, List.length_replicate]); (try dsimp only); first | done | omega)))))) ?_))) (by exact sub_of) (by omega) hil
    · rw [if_neg h0, ← List.append_assoc] at hst
      (first | refine au ?_ | exact au0 | fail)
      rw [hg]
      (first | refine au ?_ | exact au0 | fail)
      by_cases hk : xk = 3
      · rw [if_pos hk] at htt
        subst hk
        have hql := quoteL_len xs
        (first | refine au ?_ | exact au0 | fail)
        rw [hg]
        (first | refine au ?_ | exact au0 | fail)
        first | refine callF_eq (r14_Quote_spec xs (by omega) _) ?_ | refine callG_eq rfl (r14_Quote_spec xs (by omega) _) ?_
        (first | refine au ?_ | exact au0 | fail)
        exact nextS (S := Nat) (i + 1) (by rw [hst, htt]; exact (by repeat (first | exact trivial | refine And.intro (Or.inl rfl) ?_ | refine And.intro (Or.inr (Exists.intro _ (And.intro rfl (Fz.refl _)))) ?_ | refine And.intro (Or.inr (Exists.intro _ (And.intro rfl (fz_eq (congrArg (AV.int _) (by omega)))))) ?_ | refine And.intro (Or.inr (Exists.intro _ (And.intro rfl (fz_eq (congrArg (AV.own _ _ _) (by (try dsimp only); (try simp only [List.length_append, List.length_map, List.length_cons, List.length_nil, List.length_take, List.length_set, List.length_replicate]); (try dsimp only); first | done | omega)))))) ?_))) (by exact sub_of) (by omega) hil
      · rw [if_neg hk] at htt
        (first | refine au ?_ | exact au0 | fail)
        rw [hg]
        (first | refine au ?_ | exact au0 | fail)
        exact nextS (S := Nat) (i + 1) (by rw [hst, htt]; exact (by repeat (first | exact trivial | refine And.intro (Or.inl rfl) ?_ | refine And.intro (Or.inr (Exists.intro _ (And.intro rfl (Fz.refl _)))) ?_ | refine And.intro (Or.inr (Exists.intro _ (And.intro rfl (fz_eq (congrArg (AV.int _) (by omega)))))) ?_ | refine And.intro (Or.inr (Exists.intro _ (And.intro rfl (fz_eq (congrArg (AV.own _ _ _) (by (try dsimp only); (try simp only [List.length_append, List.length_map, List.length_cons, List.length_nil, List.length_take, List.length_set, List.length_replicate]); (try dsimp only); first | done | omega)))))) ?_))) (by exact sub_of) (by omega) hil
  · have hi2 : i = l.length := by omega
    subst hi2
    rw [List.take_length]
    (first | refine au ?_ | exact au0 | fail)
    exact fz_of
end Go.Proofs.YtlmplofpclaokaaDoor

/- Tokens of a text; plain. -/
namespace Go.Proofs.YtlmplofpclaokaaDoor
set_option autoImplicit false

theorem drop_at {α : Type} (l : List α) (d : α) (i : Nat) (h : i < l.length) : l.drop i = l.getD i d :: l.drop (i + 1) := by
  rw [List.drop_eq_getElem_cons h]; congr 1; simp [List.getD, h]
theorem take_at {α : Type} (l : List α) (d : α) (i : Nat) (h : i < l.length) : l.take (i + 1) = l.take i ++ [l.getD i d] := by
  rw [List.take_add_one]; congr 1; simp [List.getD, h]
def dig (c : UInt8) : Bool := decide (48 ≤ c.toNat) && decide (c.toNat ≤ 57)
def ltr (c : UInt8) : Bool := (decide (97 ≤ c.toNat) && decide (c.toNat ≤ 122)) || (decide (65 ≤ c.toNat) && decide (c.toNat ≤ 90))
def nam (c : UInt8) : Bool := dig c || c == 95 || ltr c
def blnk (c : UInt8) : Bool := c == 32 || c == 9 || c == 10 || c == 13
def sgn (c : UInt8) : Bool := [61, 60, 62, 40, 41, 46, 91, 93, 45].contains c

/-- With how many bytes of a name a text begins. -/
def nl : List UInt8 → Nat
  | [] => 0
  | c :: r => if ltr c then 1 + (r.takeWhile nam).length else 0
def dl (s : List UInt8) : Nat := (s.takeWhile dig).length
def numV (s : List UInt8) : Nat := s.foldl (fun a c => 10 * a + (c.toNat - 48)) 0

inductive Q where
  | done (t : List UInt8) (n : Nat)
  | odd (i : Nat)
  | short
/-- Behind a quote: i bytes are read, acc is what they stand for. -/
def qs : List UInt8 → Nat → List UInt8 → Q
  | [], _, _ => .short
  | [c], i, acc => if c.toNat < 32 ∨ 126 < c.toNat then .odd i else if c = 39 then .done acc (i + 1) else .short
  | c :: d :: r, i, acc =>
    if c.toNat < 32 ∨ 126 < c.toNat then .odd i
    else if c = 39 then (if d = 39 then qs r (i + 2) (acc ++ [39]) else .done acc (i + 1))
    else qs (d :: r) (i + 1) (acc ++ [c])

inductive LR where
  | tok (k : Int) (t : List UInt8) (num n : Nat)
  | bad (e : Int) (off : Nat)
def two (s : List UInt8) : Bool := s.take 2 == [60, 62] || s.take 2 == [60, 61] || s.take 2 == [62, 61]
/-- The token with which a text begins. -/
def lex : List UInt8 → LR
  | [] => .bad 11 0
  | c :: r =>
    if ltr c then .tok 1 ((c :: r).take (nl (c :: r))) 0 (nl (c :: r))
    else if dig c then
      if 1 < dl (c :: r) ∧ c = 48 then .bad 1 0
      else if numV ((c :: r).take (dl (c :: r))) < 18446744073709551616 then .tok 2 ((c :: r).take (dl (c :: r))) (numV ((c :: r).take (dl (c :: r)))) (dl (c :: r))
      else .bad 7 0
    else if c = 39 then match qs r 1 [] with
      | .done t n => .tok 3 t 0 n
      | .odd i => .bad 10 i
      | .short => .bad 2 0
    else if c = 37 then match r with
      | d :: _ => if dig d then .tok 4 [37, d] (d.toNat - 48) 2 else .bad 11 0
      | [] => .bad 11 0
    else if sgn c then .tok 5 ((c :: r).take (if two (c :: r) then 2 else 1)) 0 (if two (c :: r) then 2 else 1)
    else .bad 11 0

/-- The words of the language. -/
def rsv : List (List UInt8) := [[65, 78, 68], [79, 82], [78, 79, 84], [66, 69, 84, 87, 69, 69, 78], [76, 73, 75, 69], [84, 82, 85, 69], [70, 65, 76, 83, 69]]
theorem nl_cons (c : UInt8) (r : List UInt8) : nl (c :: r) = if ltr c = true then 1 + (r.takeWhile nam).length else 0 := rfl
theorem nl_le (s : List UInt8) : nl s ≤ s.length := by
  cases s with
  | nil => exact Nat.le_refl _
  | cons c r =>
    have : (r.takeWhile nam).length ≤ r.length := (List.takeWhile_prefix _).length_le
    rw [nl_cons, List.length_cons]
    split <;> omega
theorem dl_le (s : List UInt8) : dl s ≤ s.length := (List.takeWhile_prefix _).length_le
theorem tw_step {f : UInt8 → Bool} : ∀ {r : List UInt8} {n : Nat}, n ≤ (r.takeWhile f).length → n < r.length → (n < (r.takeWhile f).length ↔ f (r.getD n 0) = true)
  | [], n, _, h => by simp at h
  | d :: r, n, h1, h2 => by
    rw [List.takeWhile_cons] at h1 ⊢
    split
    · rename_i hd
      rw [if_pos hd] at h1
      cases n with
      | zero => simp [hd]
      | succ n => simpa using tw_step (r := r) (n := n) (by simpa using h1) (by simpa using h2)
    · rename_i hd
      rw [if_neg hd] at h1
      have : n = 0 := by simpa using h1
      subst this
      simpa using hd
/-- Is byte n, behind n of a name, of a name, too? -/
theorem nl_step {s : List UInt8} {n : Nat} (hn : n ≤ nl s) (hl : n < s.length) : n < nl s ↔ (if n = 0 then ltr (s.getD 0 0) else nam (s.getD n 0)) = true := by
  cases s with
  | nil => simp at hl
  | cons c r =>
    rw [nl_cons] at *
    cases n with
    | zero =>
      rw [if_pos rfl, List.getD_cons_zero]
      split
      · rename_i h; simp only [h, iff_true]; omega
      · rename_i h; simp only [h, Nat.lt_irrefl]
        exact ⟨fun q => q.elim, fun q => by cases q⟩
    | succ n =>
      rw [if_neg (Nat.succ_ne_zero n), List.getD_cons_succ]
      split at hn
      · rename_i h
        rw [if_pos h]
        have hl' : n < r.length := by simpa using hl
        rw [← tw_step (f := nam) (r := r) (n := n) (by omega) hl']
        omega
      · omega
theorem dl_step {s : List UInt8} {n : Nat} (hn : n ≤ dl s) (hl : n < s.length) : n < dl s ↔ dig (s.getD n 0) = true := by
  unfold dl at *
  induction s generalizing n with
  | nil => simp at hl
  | cons d r ih =>
    rw [List.takeWhile_cons] at hn ⊢
    split
    · rename_i hd
      rw [if_pos hd] at hn
      cases n with
      | zero => simp [hd]
      | succ n => simpa using ih (by simpa using hn) (by simpa using hl)
    · rename_i hd
      rw [if_neg hd] at hn
      have : n = 0 := by simpa using hn
      subst this
      simpa using hd
end Go.Proofs.YtlmplofpclaokaaDoor

/- Names, walked. -/
namespace Go.Proofs.YtlmplofpclaokaaDoor
set_option autoImplicit false
set_option linter.unusedSimpArgs false
set_option linter.unusedVariables false
--HSET
attribute [local irreducible] callA callP ACalls
abbrev u8A (c : UInt8) : AV := .int .u8 (c.toNat : Nat)
theorem u8lit (c : UInt8) (n : Nat) (hn : n < 256) : ((c.toNat : Nat) : Int) = (n : Int) ↔ c = UInt8.ofNat n := by
  rw [Int.ofNat_inj]
  constructor
  · intro h; apply UInt8.toNat.inj; rw [h, UInt8.toNat_ofNat']; omega
  · intro h; rw [h, UInt8.toNat_ofNat']; omega
theorem dig_iff (c : UInt8) : dig c = true ↔ 48 ≤ c.toNat ∧ c.toNat ≤ 57 := by simp [dig]
theorem ltr_iff (c : UInt8) : ltr c = true ↔ (97 ≤ c.toNat ∧ c.toNat ≤ 122) ∨ (65 ≤ c.toNat ∧ c.toNat ≤ 90) := by simp [ltr]
theorem nat_eq (c : UInt8) (n : Nat) (hn : n < 256) : c = UInt8.ofNat n ↔ c.toNat = n := by
  constructor
  · intro h; rw [h, UInt8.toNat_ofNat']; omega
  · intro h; apply UInt8.toNat.inj; rw [h, UInt8.toNat_ofNat']; omega
theorem nam_iff (c : UInt8) : nam c = true ↔ (48 ≤ c.toNat ∧ c.toNat ≤ 57) ∨ c.toNat = 95 ∨ (97 ≤ c.toNat ∧ c.toNat ≤ 122) ∨ (65 ≤ c.toNat ∧ c.toNat ≤ 90) := by
  simp only [nam, Bool.or_eq_true, dig_iff, ltr_iff, beq_iff_eq]
  rw [show (95 : UInt8) = UInt8.ofNat 95 from rfl, nat_eq c 95 (by decide)]
  omega
theorem blnk_iff (c : UInt8) : blnk c = true ↔ c.toNat = 32 ∨ c.toNat = 9 ∨ c.toNat = 10 ∨ c.toNat = 13 := by
  simp only [blnk, Bool.or_eq_true, beq_iff_eq]
  rw [show (32 : UInt8) = UInt8.ofNat 32 from rfl, show (9 : UInt8) = UInt8.ofNat 9 from rfl, show (10 : UInt8) = UInt8.ofNat 10 from rfl, show (13 : UInt8) = UInt8.ofNat 13 from rfl, nat_eq c 32 (by decide), nat_eq c 9 (by decide), nat_eq c 10 (by decide), nat_eq c 13 (by decide)]
  omega
/-- A Bool by what it says. -/
theorem bool_iff {b : Bool} {p : Prop} [Decidable p] (h : b = true ↔ p) : b = decide p := by
  cases b with
  | true => rw [decide_eq_true (h.1 rfl)]
  | false => rw [decide_eq_false (fun q => by have := h.2 q; cases this)]

theorem name_may_spec (c : UInt8) (first : Bool) (H : AH) : ACalls PG name_may.n [u8A c, .bool first] H fun r H' => r = .bool (if first then ltr c else nam c) ∧ H' = H := by
  refine name_may.of rfl (wpF_start ?_)
  cases first with
  | true =>
    rw [show (if true then ltr c else nam c) = ltr c from rfl, bool_iff (ltr_iff c)]
    (repeat' (first | (refine au ?_; first | refine bsplit_dec (fun _ => ?_) (fun _ => ?_) | refine bsplit_intro (fun _ => ?_) (fun _ => ?_)) | exact au0 | fail)); (all_goals try (first | refine au ?_ | fail))
    all_goals (conv => whnf)
    all_goals exact ⟨congrArg AV.bool (by first | exact (decide_eq_true (by omega)).symm | exact (decide_eq_false (by omega)).symm | exact decide_eq_decide.2 (by omega)), rfl⟩
  | false =>
    rw [show (if false then ltr c else nam c) = nam c from rfl, bool_iff (nam_iff c)]
    (repeat' (first | (refine au ?_; first | refine bsplit_dec (fun _ => ?_) (fun _ => ?_) | refine bsplit_intro (fun _ => ?_) (fun _ => ?_)) | exact au0 | fail)); (all_goals try (first | refine au ?_ | fail))
    all_goals (conv => whnf)
    all_goals exact ⟨congrArg AV.bool (by first | exact (decide_eq_true (by omega)).symm | exact (decide_eq_false (by omega)).symm | exact decide_eq_decide.2 (by omega)), rfl⟩

theorem name_Lead_spec (s : List UInt8) (hs : s.length ≤ 140737488351232) (H : AH) : ACalls PG name_Lead.n [.str s] H fun r H' => r = .int .i64 (nl s : Nat) ∧ H' = H := by
  refine name_Lead.of rfl (wpF_start ?_)
  have hnl := nl_le s
  (first | refine ah ?_ | exact ah0 | fail)
  refine ⟨fun n L H' => ∃ i : Nat, n = s.length - i ∧ i ≤ nl s ∧ L = [(0, some (.str s)), (3, some (.int .i64 i))] ∧ H' = H, ⟨_, H, ?_, Sub.refl _, _, 0, rfl, Nat.zero_le _, rfl, rfl⟩, ?_⟩
  · exact (by repeat (first | exact trivial | refine And.intro (Or.inl rfl) ?_ | refine And.intro (Or.inr (Exists.intro _ (And.intro rfl (Fz.refl _)))) ?_ | refine And.intro (Or.inr (Exists.intro _ (And.intro rfl (fz_eq (congrArg (AV.int _) (by omega)))))) ?_ | refine And.intro (Or.inr (Exists.intro _ (And.intro rfl (fz_eq (congrArg (AV.own _ _ _) (by (try dsimp only); (try simp only [List.length_append, List.length_map, List.length_cons, List.length_nil, List.length_take, List.length_set, List.length_replicate]); (try dsimp only); first | done | omega)))))) ?_))
  · rintro n L H' ⟨i, rfl, hi, rfl, rfl⟩
    (first | refine ah ?_ | exact ah0 | fail)
    refine bsplit_dec (fun h1 => ?_) (fun h1 => ?_)
    · have hst := nl_step hi (by omega)
      (first | refine ah ?_ | exact ah0 | fail)
      refine callF_eq (name_may_spec (s.getD i 0) _ _) ?_
      (first | refine ah ?_ | exact ah0 | fail)
      rw [show (if decide ((i : Int) = 0) = true then ltr (s.getD i 0) else nam (s.getD i 0)) = decide (i < nl s) from by
        rw [show decide (i < nl s) = (if i = 0 then ltr (s.getD 0 0) else nam (s.getD i 0)) from (bool_iff hst.symm).symm]
        by_cases e : i = 0
        · subst e; simp
        · rw [if_neg e, if_neg (by simpa using e)]]
      refine bsplit_dec (fun h2 => ?_) (fun h2 => ?_)
      · (first | refine ah ?_ | exact ah0 | fail)
        refine ⟨[(0, some (.str s)), (3, some (.int .i64 (i + 1 : Nat)))], H', (by repeat (first | exact trivial | refine And.intro (Or.inl rfl) ?_ | refine And.intro (Or.inr (Exists.intro _ (And.intro rfl (Fz.refl _)))) ?_ | refine And.intro (Or.inr (Exists.intro _ (And.intro rfl (fz_eq (congrArg (AV.int _) (by omega)))))) ?_ | refine And.intro (Or.inr (Exists.intro _ (And.intro rfl (fz_eq (congrArg (AV.own _ _ _) (by (try dsimp only); (try simp only [List.length_append, List.length_map, List.length_cons, List.length_nil, List.length_take, List.length_set, List.length_replicate]); (try dsimp only); first | done | omega)))))) ?_)), Sub.refl _, _, ?_, i + 1, rfl, by omega, rfl, rfl⟩
        omega
      · (first | refine ah ?_ | exact ah0 | fail)
        exact ⟨by rw [show i = nl s from by omega], rfl⟩
    · (first | refine ah ?_ | exact ah0 | fail)
      exact ⟨by rw [show i = nl s from by omega], rfl⟩

def fmd (s : List UInt8) : Bool := decide (s ≠ []) && ltr (s.getD 0 0) && s.all nam
theorem all_take {f : UInt8 → Bool} (s : List UInt8) (i : Nat) (h : i < s.length) : (s.take (i + 1)).all f = ((s.take i).all f && f (s.getD i 0)) := by
  rw [take_at s 0 i h, List.all_append]; simp
theorem all_ge {f : UInt8 → Bool} {s : List UInt8} {i : Nat} (h : i < s.length) (hf : f (s.getD i 0) = false) : s.all f = false := by
  rw [List.all_eq_false]
  have e : s.getD i 0 = s[i] := by simp [List.getD, h]
  rw [e] at hf
  exact ⟨s[i], List.getElem_mem h, by rw [hf]; decide⟩
def strRow (l : List (List UInt8)) : List (List AV) := l.map fun x => [.str x]
theorem strRow_len (l : List (List UInt8)) : (strRow l).length = l.length := by simp [strRow]
theorem word_spec (s : List UInt8) (H : AH) : ACalls PG name_Word.n [.str s] H fun r H' => r = .bool (rsv.contains s) ∧ H' = H := by
  refine name_Word.of rfl (wpF_start ?_)
  unfold rsv
  (repeat' (first | (refine au ?_; first | refine bsplit_dec (fun _ => ?_) (fun _ => ?_) | refine bsplit_intro (fun _ => ?_) (fun _ => ?_)) | exact au0 | fail)); (all_goals try (first | refine au ?_ | fail))
  all_goals exact ⟨congrArg AV.bool (by simp_all), rfl⟩
end Go.Proofs.YtlmplofpclaokaaDoor

/- Bytes in texts, walked. -/
namespace Go.Proofs.YtlmplofpclaokaaDoor
set_option autoImplicit false
set_option linter.unusedSimpArgs false
set_option linter.unusedVariables false
--HSET
attribute [local irreducible] callA callP ACalls
theorem stringslite_IndexByte_spec (s : List UInt8) (c : UInt8) (H : AH) : ACalls PG stringslite_IndexByte.n [.str s, u8A c] H fun r H' => r = .int .i64 (Lib.indexByte s c) ∧ H' = H := by
  refine stringslite_IndexByte.of rfl (wpF_start ?_)
  (first | refine ah ?_ | exact ah0 | fail)
  exact ⟨by simp, rfl⟩
theorem strings_IndexByte_spec (s : List UInt8) (c : UInt8) (H : AH) : ACalls PG strings_IndexByte.n [.str s, u8A c] H fun r H' => r = .int .i64 (Lib.indexByte s c) ∧ H' = H := by
  refine strings_IndexByte.of rfl (wpF_start ?_)
  (first | refine ah ?_ | exact ah0 | fail)
  refine callF_eq (stringslite_IndexByte_spec s c _) ?_
  (first | refine ah ?_ | exact ah0 | fail)
theorem indexByte_in : ∀ (s : List UInt8) (c : UInt8), 0 ≤ Lib.indexByte s c ↔ s.contains c = true
  | [], c => by simp [Lib.indexByte]
  | b :: s, c => by
    have ih := indexByte_in s c
    have ge := Lib.indexByte_ge s c
    unfold Lib.indexByte
    simp only [List.contains_cons, Bool.or_eq_true, beq_iff_eq]
    split
    · rename_i h; simp [h]
    · rename_i h
      split
      · rename_i h2
        rw [h2] at ih
        constructor
        · intro q; omega
        · rintro (q | q)
          · exact (h q.symm).elim
          · have := ih.2 q; omega
      · rename_i h2
        constructor
        · intro q; exact .inr (ih.1 (by omega))
        · intro q; omega
end Go.Proofs.YtlmplofpclaokaaDoor

/- What the small functions of 'token' and 'name' compute. -/
namespace Go.Proofs.YtlmplofpclaokaaDoor
set_option autoImplicit false
set_option linter.unusedSimpArgs false
set_option linter.unusedVariables false
--HSET
attribute [local irreducible] callA callP ACalls

theorem token_digit_spec (c : UInt8) (H : AH) : ACalls PG token_digit.n [u8A c] H fun r H' => r = .bool (dig c) ∧ H' = H := by
  rw [bool_iff (dig_iff c)]
  refine token_digit.of rfl (wpF_start ?_)
  (repeat' (first | (refine au ?_; first | refine bsplit_dec (fun _ => ?_) (fun _ => ?_) | refine bsplit_intro (fun _ => ?_) (fun _ => ?_)) | exact au0 | fail)); (all_goals try (first | refine au ?_ | fail))
  all_goals (conv => whnf)
  all_goals exact ⟨congrArg AV.bool (by first | exact (decide_eq_true (by omega)).symm | exact (decide_eq_false (by omega)).symm | exact decide_eq_decide.2 (by omega)), rfl⟩

theorem token_blank_spec (c : UInt8) (H : AH) : ACalls PG token_blank.n [u8A c] H fun r H' => r = .bool (blnk c) ∧ H' = H := by
  rw [bool_iff (blnk_iff c)]
  refine token_blank.of rfl (wpF_start ?_)
  (repeat' (first | (refine au ?_; first | refine bsplit_dec (fun _ => ?_) (fun _ => ?_) | refine bsplit_intro (fun _ => ?_) (fun _ => ?_)) | exact au0 | fail)); (all_goals try (first | refine au ?_ | fail))
  all_goals (conv => whnf)
  all_goals exact ⟨congrArg AV.bool (by first | exact (decide_eq_true (by omega)).symm | exact (decide_eq_false (by omega)).symm | exact decide_eq_decide.2 (by omega)), rfl⟩

/-- What is left of a text, and the text's place. -/
def lx (s : List UInt8) (at' : Nat) : Blk := .rows 2 [[.str s, .int .i64 (at' : Nat)]]
theorem lexer_rest_spec {s : List UInt8} {at' id : Nat} {H : AH} (hg : hget H id = some (lx s at')) (ha : at' ≤ s.length) (hs : s.length ≤ 140737488351232) :
    ACalls PG token_lexer_rest.n [.ptr id 2 0 0] H fun r H' => r = .str (s.drop at') ∧ H' = H := by
  unfold lx at hg
  refine token_lexer_rest.of rfl (wpF_start ?_)
  (first | refine ah ?_ | exact ah0 | fail)
  exact ⟨by simp, rfl⟩

theorem lexer_cut_spec {s : List UInt8} {at' id n : Nat} {k : Int} {H : AH} (hg : hget H id = some (lx s at')) (ha : at' + n ≤ s.length) (hs : s.length ≤ 140737488351232) :
    ACalls PG token_lexer_cut.n [.ptr id 2 0 0, .int .i64 k, .int .i64 n] H fun r H' => r = .agg [.int .i64 k, .str ((s.drop at').take n), .int .u64 0, .int .i64 at'] ∧ H' = hset H id (lx s (at' + n)) := by
  have hg0 := hg
  unfold lx at hg0
  refine ACalls.sub (token_lexer_cut.of rfl (wpF_start ?_))
  (first | refine ah ?_ | exact ah0 | fail)
  intro id6 hid6 ht6
  have n6 : id6 ≠ id := hget_ne_of hid6 hg
  (first | refine ah ?_ | exact ah0 | fail)
  have hdl : (s.drop at').length = s.length - at' := List.length_drop
  refine callG_eq rfl (lexer_rest_spec ((hget_tail n6).trans hg) (by omega) hs) ?_
  (first | refine ah ?_ | exact ah0 | fail)
  intro id7 hid7 ht7
  have n7 : id7 ≠ id := hget_ne_of (hget_fresh hid7).2 hg
  have n76 : id7 ≠ id6 := (hget_fresh hid7).1
  (first | refine ah ?_ | exact ah0 | fail)
  exact Sub.cons (Sub.cons (Sub.refl _) ((hget_set_ne n6).trans hid6)) ((hget_tail n76.symm).trans ((hget_set_ne n7).trans (hget_fresh hid7).2))

/-- The tests of the kinds. -/
theorem kinds1_spec (c : UInt8) (H : AH) : ACalls PG token_kinds_1.n [u8A c] H fun r H' => r = .bool (ltr c) ∧ H' = H := by
  refine token_kinds_1.of rfl (wpF_start ?_)
  (first | refine ah ?_ | exact ah0 | fail)
  refine ⟨_, _, rfl, (show bytesA [[u8A c]] = some [c] from by simp [bytesA]; have := c.toNat_lt; omega), ?_⟩
  (first | refine ah ?_ | exact ah0 | fail)
  refine callF_eq (name_Lead_spec [c] (by simp) _) ?_
  (first | refine ah ?_ | exact ah0 | fail)
  refine ⟨congrArg AV.bool ?_, rfl⟩
  rw [nl_cons]
  cases ltr c <;> simp
theorem kinds2_spec (c : UInt8) (H : AH) : ACalls PG token_kinds_2.n [u8A c] H fun r H' => r = .bool (decide (c = 39)) ∧ H' = H := by
  refine token_kinds_2.of rfl (wpF_start ?_)
  (first | refine ah ?_ | exact ah0 | fail)
  exact ⟨congrArg AV.bool (decide_eq_decide.2 (u8lit c 39 (by decide))), rfl⟩
theorem kinds3_spec (c : UInt8) (H : AH) : ACalls PG token_kinds_3.n [u8A c] H fun r H' => r = .bool (decide (c = 37)) ∧ H' = H := by
  refine token_kinds_3.of rfl (wpF_start ?_)
  (first | refine ah ?_ | exact ah0 | fail)
  exact ⟨congrArg AV.bool (decide_eq_decide.2 (u8lit c 37 (by decide))), rfl⟩
theorem kinds4_spec (c : UInt8) (H : AH) : ACalls PG token_kinds_4.n [u8A c] H fun r H' => r = .bool (sgn c) ∧ H' = H := by
  refine token_kinds_4.of rfl (wpF_start ?_)
  (first | refine ah ?_ | exact ah0 | fail)
  refine callF_eq (strings_IndexByte_spec _ c _) ?_
  (first | refine ah ?_ | exact ah0 | fail)
  exact ⟨congrArg AV.bool (bool_iff (indexByte_in _ c).symm).symm, rfl⟩
theorem stringslite_HasPrefix_spec (s p : List UInt8) (H : AH) : ACalls PG stringslite_HasPrefix.n [.str s, .str p] H fun r H' => r = .bool (decide (p.length ≤ s.length) && decide (s.take p.length = p)) ∧ H' = H := by
  refine stringslite_HasPrefix.of rfl (wpF_start ?_)
  (first | refine ah ?_ | exact ah0 | fail)
  refine bsplit_dec (fun h => ?_) (fun h => ?_)
  · (first | refine ah ?_ | exact ah0 | fail)
    exact ⟨by rw [decide_eq_true (show p.length ≤ s.length from by omega)]; simp, rfl⟩
  · (first | refine ah ?_ | exact ah0 | fail)
    exact ⟨by rw [decide_eq_false (show ¬ p.length ≤ s.length from by omega)]; simp, rfl⟩
theorem strings_HasPrefix_spec (s p : List UInt8) (H : AH) : ACalls PG strings_HasPrefix.n [.str s, .str p] H fun r H' => r = .bool (decide (p.length ≤ s.length) && decide (s.take p.length = p)) ∧ H' = H := by
  refine strings_HasPrefix.of rfl (wpF_start ?_)
  (first | refine ah ?_ | exact ah0 | fail)
  refine callF_eq (stringslite_HasPrefix_spec s p _) ?_
  (first | refine ah ?_ | exact ah0 | fail)
end Go.Proofs.YtlmplofpclaokaaDoor

/- A builder of strings. -/
namespace Go.Proofs.YtlmplofpclaokaaDoor
set_option autoImplicit false
set_option linter.unusedSimpArgs false
set_option linter.unusedVariables false
--HSET
attribute [local irreducible] callA callP ACalls

theorem callF_to {P : Program} {f : Nat} {args : List AV} {H H1 : AH} {K : AV → AH → Prop} {r : AV} (h : ACalls P f args H fun r' H' => r' = r ∧ H' = H1) (k : K r H1) : callF P f args H K :=
  callF_of (h.mono fun r' H' ⟨a, b⟩ => by rw [a, b]; exact k)
/-- The numbers of the types. -/
abbrev tyBld : Nat := ty_strings_Builder
abbrev tyU8 : Nat := ty_uint8
def byteRow (l : List UInt8) : List (List AV) := l.map fun c => [u8A c]
theorem byteRow_len (l : List UInt8) : (byteRow l).length = l.length := by simp [byteRow]
theorem byteRow_bytes (l : List UInt8) : bytesA (byteRow l) = some l := by
  induction l with
  | nil => rfl
  | cons c l ih =>
    have hc := c.toNat_lt
    show bytesA ([u8A c] :: byteRow l) = _
    unfold bytesA
    rw [if_pos (by omega), ih]
    simp

/-- A builder: what it holds, and where its bytes lie. -/
structure Bld (H : AH) (id : Nat) (ob : Option Nat) (l : List UInt8) : Prop where
  tg : tag id = tyBld
  blk : ∃ p v, hget H id = some (.rows 2 [[p, v]]) ∧ (p = .nilP ∨ p = .ptr id 2 0 0) ∧
    ((ob = none ∧ v = .nilS ∧ l = []) ∨ ∃ idb, ob = some idb ∧ v = .own idb 1 0 l.length ∧ hget H idb = some (.rows 1 (byteRow l)) ∧ tag idb = tyU8 ∧ idb ≠ id ∧ 0 < l.length)

theorem copyCheck_spec {id : Nat} {H : AH} {p v : AV} (hg : hget H id = some (.rows 2 [[p, v]])) (hp : p = .nilP ∨ p = .ptr id 2 0 0) (ht : tag id = tyBld) :
    ACalls PG strings_Builder_copyCheck.n [.ptr id 2 0 0] H fun r H' => r = .tup [] ∧ H' = hset H id (.rows 2 [[.ptr id 2 0 0, v]]) := by
  refine ACalls.sub (strings_Builder_copyCheck.of rfl (wpF_start ?_))
  rcases hp with rfl | rfl
  · (first | refine ah ?_ | exact ah0 | fail)
    refine ⟨⟨rfl, by simp⟩, rfl, ?_⟩
    (first | refine ah ?_ | exact ah0 | fail)
    exact Sub.refl _
  · (first | refine ah ?_ | exact ah0 | fail)
    exact sub_hset hg (fun j c _ q => q)

theorem readS_own {H : AH} {id sz lo hi : Nat} {l : List (List AV)} (hg : hget H id = some (.rows sz l)) (h : hi ≤ l.length) : readS H false sz (.own id sz lo hi) = some ((l.take hi).drop lo) := by
  simp [readS, hg, h]
theorem WriteByte_spec {id : Nat} {ob : Option Nat} {l : List UInt8} {c : UInt8} {H : AH} (hb : Bld H id ob l) (hl : l.length ≤ 140737488351232) :
    ACalls PG strings_Builder_WriteByte.n [.ptr id 2 0 0, u8A c] H fun r H' => r = .nilI ∧ ∃ idb, Bld H' id (some idb) (l ++ [c]) ∧ (hget H idb = none ∨ ob = some idb) ∧ ∀ j b, j ≠ id → ob ≠ some j → hget H j = some b → hget H' j = some b := by
  obtain ⟨ht, p, v, hg, hp, hv⟩ := hb
  refine strings_Builder_WriteByte.of rfl (wpF_start ?_)
  (first | refine ah ?_ | exact ah0 | fail)
  refine callF_to (copyCheck_spec hg hp ht) ?_
  have hg1 : hget (hset H id (.rows 2 [[.ptr id 2 0 0, v]])) id = some (.rows 2 [[.ptr id 2 0 0, v]]) := hget_set hg
  have hk1 : ∀ j b, j ≠ id → hget H j = some b → hget (hset H id (.rows 2 [[.ptr id 2 0 0, v]])) j = some b := fun j b q r => (hget_set_ne q).trans r
  have hf1 : ∀ j, j ≠ id → hget (hset H id (.rows 2 [[.ptr id 2 0 0, v]])) j = none → hget H j = none := fun j q r => (hget_set_ne q).symm.trans r
  generalize hset H id (.rows 2 [[.ptr id 2 0 0, v]]) = H1 at *
  rcases hv with ⟨rfl, rfl, rfl⟩ | ⟨idb, rfl, rfl, hgb, htb, hne, hpos⟩
  · (first | refine ah ?_ | exact ah0 | fail)
    refine ⟨_, rfl, by simp, (fun e => by cases e), fun _ => ?_⟩
    intro idn hidn htn
    have nn : idn ≠ id := hget_ne_of hidn hg1
    (first | refine ah ?_ | exact ah0 | fail)
    refine ⟨idn, ⟨ht, .ptr id 2 0 0, .own idn 1 0 1, ?_, .inr rfl, .inr ⟨idn, rfl, rfl, ?_, htn, nn, by simp⟩⟩, .inl (hf1 idn nn hidn), fun j b q _ r => ?_⟩
    · exact (hget_tail nn).trans (hget_set hg1)
    · exact hget_self
    · exact (hget_tail (hget_ne_of hidn (hk1 j b q r))).trans ((hget_set_ne q).trans (hk1 j b q r))
  · have hgb1 := hk1 _ _ hne hgb
    have exs : ((byteRow l).take l.length).drop 0 = byteRow l := by rw [List.drop_zero, ← byteRow_len, List.take_length]
    (first | refine ah ?_ | exact ah0 | fail)
    refine ⟨_, _, (readS_own hgb1 (by rw [byteRow_len]; exact Nat.le_refl _)).trans (congrArg some exs), rfl, rfl, rfl, htb, by rw [byteRow_len]; simp; omega, ?_⟩
    intro idn hidn htn
    have nn : idn ≠ id := hget_ne_of hidn hg1
    have nb : idn ≠ idb := hget_ne_of hidn hgb1
    (first | refine ah ?_ | exact ah0 | fail)
    have hg2 : hget (hdel H1 idb) id = some (.rows 2 [[.ptr id 2 0 0, .own idb 1 0 l.length]]) := (hget_del_ne hne.symm).trans hg1
    refine ⟨idn, ⟨ht, .ptr id 2 0 0, .own idn 1 0 (l ++ [c]).length, ?_, .inr rfl, .inr ⟨idn, rfl, rfl, ?_, htn, nn, by simp⟩⟩, .inl (hf1 idn nn hidn), fun j b q q2 r => ?_⟩
    · refine (hget_tail nn).trans ((hget_set hg2).trans ?_)
      have : (byteRow l).length + ((List.replicate 1 [AV.int .u8 0]).set 0 (u8A c).cells).length = (l ++ [c]).length := by rw [byteRow_len, List.length_append]; rfl
      rw [← this]; rfl
    · refine hget_self.trans ?_
      simp [byteRow]
      rfl
    · have qb : j ≠ idb := fun e => q2 (by rw [e])
      exact (hget_tail (hget_ne_of hidn (hk1 j b q r))).trans ((hget_set_ne q).trans ((hget_del_ne qb).trans (hk1 j b q r)))

theorem String_spec {id : Nat} {ob : Option Nat} {l : List UInt8} {H : AH} (hb : Bld H id ob l) (hl : l.length ≤ 140737488351232) :
    ACalls PG strings_Builder_String.n [.ptr id 2 0 0] H fun r H' => r = .str l ∧ ∀ j b, ob ≠ some j → hget H j = some b → hget H' j = some b := by
  obtain ⟨ht, p, v, hg, hp, hv⟩ := hb
  refine strings_Builder_String.of rfl (wpF_start ?_)
  rcases hv with ⟨rfl, rfl, rfl⟩ | ⟨idb, rfl, rfl, hgb, htb, hne, hpos⟩
  · (first | refine ah ?_ | exact ah0 | fail)
    exact fun j b _ q => q
  · (first | refine ah ?_ | exact ah0 | fail)
    refine ⟨_, l, hgb, ?_, rfl, rfl, rfl, by omega, by rw [byteRow_len]; omega, by omega, htb, ?_⟩
    · rw [show (((l.length - 0 : Nat) : Int)).toNat = (byteRow l).length from by rw [byteRow_len]; omega, List.take_length, byteRow_bytes]
    (first | refine ah ?_ | exact ah0 | fail)
    exact fun j b q r => (hget_del_ne (fun e => q (by rw [e]))).trans r
end Go.Proofs.YtlmplofpclaokaaDoor

/- How tokens are taken. -/
namespace Go.Proofs.YtlmplofpclaokaaDoor
set_option autoImplicit false
set_option linter.unusedSimpArgs false
set_option linter.unusedVariables false
--HSET
attribute [local irreducible] callA callP ACalls

def tokA (k : Int) (t : List UInt8) (num : Int) (at' : Int) : AV := .agg [.int .i64 k, .str t, .int .u64 num, .int .i64 at']
abbrev fltA (e at' : Int) : AV := .agg [.int .i64 e, .int .i64 at']
abbrev tkB (k : Int) (t : List UInt8) (num : Int) (at' : Int) : Blk := .rows 4 [[.int .i64 k, .str t, .int .u64 num, .int .i64 at']]
abbrev flB (e at' : Int) : Blk := .rows 2 [[.int .i64 e, .int .i64 at']]
/-- What was there is there, but for one block. -/
def Keep (id : Nat) (H H' : AH) : Prop := ∀ j b, j ≠ id → hget H j = some b → hget H' j = some b
/-- What is handed back by what takes a token. -/
structure TkK (s : List UInt8) (at' id : Nat) (H : AH) (R : LR) (r : AV) (H' : AH) : Prop where
  tok : ∀ k t num n, R = .tok k t num n → r = .tup [tokA k t num at', fltA 0 0] ∧ hget H' id = some (lx s (at' + n))
  bad : ∀ e off, R = .bad e off → ∃ k t num a, r = .tup [tokA k t num a, fltA e (at' + off : Nat)]
  keep : Keep id H H'
theorem TkK.of_tok {s : List UInt8} {at' id : Nat} {H : AH} {k : Int} {t : List UInt8} {num n : Nat} {r : AV} {H' : AH} (h : r = .tup [tokA k t num at', fltA 0 0]) (h1 : hget H' id = some (lx s (at' + n))) (h2 : Keep id H H') : TkK s at' id H (.tok k t num n) r H' :=
  ⟨fun k t num n e => by cases e; exact ⟨h, h1⟩, (fun e off q => by cases q), h2⟩
theorem TkK.of_bad {s : List UInt8} {at' id : Nat} {H : AH} {e : Int} {off : Nat} {k num a : Int} {t : List UInt8} {r : AV} {H' : AH} (h : r = .tup [tokA k t num a, fltA e (at' + off : Nat)]) (h2 : Keep id H H') : TkK s at' id H (.bad e off) r H' :=
  ⟨fun k t num n e => (by cases e), (fun e' off' q => by cases q; exact ⟨k, t, num, a, h⟩), h2⟩

/-- Two new blocks, for what is handed back. -/
structure Two (H H1 : AH) (id id2 id3 : Nat) : Prop where
  n2 : id2 ≠ id
  n3 : id3 ≠ id
  n32 : id3 ≠ id2
  g2 : hget H1 id2 = some (tkB 0 [] 0 0)
  g3 : hget H1 id3 = some (flB 0 0)
  keep : ∀ j b, hget H j = some b → hget H1 j = some b
  new : ∀ j b, hget H j = some b → j ≠ id2 ∧ j ≠ id3
theorem Two.mk' {H : AH} {id id2 id3 : Nat} {b : Blk} (hg : hget H id = some b) (h2 : hget H id2 = none) (h3 : hget ((id2, tkB 0 [] 0 0) :: H) id3 = none) : Two H ((id3, flB 0 0) :: (id2, tkB 0 [] 0 0) :: H) id id2 id3 := by
  obtain ⟨n32, h3'⟩ := hget_fresh h3
  have n2 := hget_ne_of h2 hg
  have n3 := hget_ne_of h3' hg
  refine ⟨n2, n3, n32, (hget_tail n32).trans hget_self, hget_self, fun j b q => ?_, fun j b q => ⟨(hget_ne_of h2 q).symm, (hget_ne_of h3' q).symm⟩⟩
  exact (hget_tail (hget_ne_of h3' q)).trans ((hget_tail (hget_ne_of h2 q)).trans q)
theorem Two.three {H H1 : AH} {id id2 id3 id4 : Nat} (h : Two H H1 id id2 id3) {b : Blk} (h4 : hget H1 id4 = none) (hg : hget H id = some b) : id4 ≠ id ∧ id4 ≠ id2 ∧ id4 ≠ id3 :=
  ⟨hget_ne_of h4 (h.keep _ _ hg), hget_ne_of h4 h.g2, hget_ne_of h4 h.g3⟩

theorem token_word_spec {s : List UInt8} {at' id : Nat} {H : AH} (hg : hget H id = some (lx s at')) (ha : at' ≤ s.length) (hs : s.length ≤ 140737488351232) :
    ACalls PG token_word.n [.ptr id 2 0 0] H (TkK s at' id H (.tok 1 ((s.drop at').take (nl (s.drop at'))) 0 (nl (s.drop at')))) := by
  have hdl : (s.drop at').length = s.length - at' := List.length_drop
  have hnl := nl_le (s.drop at')
  refine token_word.of rfl (wpF_start ?_)
  (first | refine ah ?_ | exact ah0 | fail)
  intro id2 hid2 ht2
  (first | refine ah ?_ | exact ah0 | fail)
  intro id3 hid3 ht3
  have tw := Two.mk' hg hid2 hid3
  generalize ((id3, Blk.rows [AV.int .i64 0, AV.int .i64 0].length [[AV.int .i64 0, AV.int .i64 0]]) :: (id2, Blk.rows [AV.int .i64 0, AV.str [], AV.int .u64 0, AV.int .i64 0].length [[AV.int .i64 0, AV.str [], AV.int .u64 0, AV.int .i64 0]]) :: H) = H1 at *
  have hg1 := tw.keep _ _ hg
  have hg1' : hget H1 id = some (.rows 2 [[.str s, .int .i64 (at' : Nat)]]) := hg1
  have n2 := tw.n2
  have n3 := tw.n3
  have n32 := tw.n32
  have g2 : hget H1 id2 = some (.rows 4 [[.int .i64 0, .str [], .int .u64 0, .int .i64 0]]) := tw.g2
  have g3 : hget H1 id3 = some (.rows 2 [[.int .i64 0, .int .i64 0]]) := tw.g3
  (first | refine ah ?_ | exact ah0 | fail)
  refine callF_eq (lexer_rest_spec hg1 ha hs) ?_
  (first | refine ah ?_ | exact ah0 | fail)
  refine callF_eq (name_Lead_spec _ (by omega) _) ?_
  (first | refine ah ?_ | exact ah0 | fail)
  refine callF_to (lexer_cut_spec (n := nl (s.drop at')) hg1 (by omega) hs) ?_
  (first | refine ah ?_ | exact ah0 | fail)
  refine TkK.of_tok rfl ?_ (fun j b q r => ?_)
  · exact hg_of
  · obtain ⟨q2, q3⟩ := tw.new j b r
    have := tw.keep j b r
    exact hg_of

end Go.Proofs.YtlmplofpclaokaaDoor

/- How a sign and a parameter are taken. -/
namespace Go.Proofs.YtlmplofpclaokaaDoor
set_option autoImplicit false
set_option linter.unusedSimpArgs false
set_option linter.unusedVariables false
--HSET
attribute [local irreducible] callA callP ACalls

theorem pre2 (s p : List UInt8) (h : p.length = 2) : (decide (p.length ≤ s.length) && decide (s.take p.length = p)) = decide (s.take 2 = p) := by
  rw [h]
  by_cases e : s.take 2 = p
  · have := congrArg List.length e
    rw [List.length_take, h] at this
    simp [e]; omega
  · simp [e]
theorem token_sign_spec {s : List UInt8} {at' id : Nat} {H : AH} (hg : hget H id = some (lx s at')) (ha : at' < s.length) (hs : s.length ≤ 140737488351232) :
    ACalls PG token_sign.n [.ptr id 2 0 0] H (TkK s at' id H (.tok 5 ((s.drop at').take (if two (s.drop at') then 2 else 1)) 0 (if two (s.drop at') then 2 else 1))) := by
  have hdl : (s.drop at').length = s.length - at' := List.length_drop
  refine token_sign.of rfl (wpF_start ?_)
  (first | refine ah ?_ | exact ah0 | fail)
  intro id2 hid2 ht2
  (first | refine ah ?_ | exact ah0 | fail)
  intro id3 hid3 ht3
  have tw := Two.mk' hg hid2 hid3
  generalize ((id3, Blk.rows [AV.int .i64 0, AV.int .i64 0].length [[AV.int .i64 0, AV.int .i64 0]]) :: (id2, Blk.rows [AV.int .i64 0, AV.str [], AV.int .u64 0, AV.int .i64 0].length [[AV.int .i64 0, AV.str [], AV.int .u64 0, AV.int .i64 0]]) :: H) = H1 at *
  have hg1 := tw.keep _ _ hg
  have hg1' : hget H1 id = some (.rows 2 [[.str s, .int .i64 (at' : Nat)]]) := hg1
  have n2 := tw.n2
  have n3 := tw.n3
  have n32 := tw.n32
  have g2 : hget H1 id2 = some (.rows 4 [[.int .i64 0, .str [], .int .u64 0, .int .i64 0]]) := tw.g2
  have g3 : hget H1 id3 = some (.rows 2 [[.int .i64 0, .int .i64 0]]) := tw.g3
  (first | refine ah ?_ | exact ah0 | fail)
  refine ⟨fun n L H' => ∃ i : Nat, n = 3 - i ∧ i ≤ 3 ∧ L = [(0, some (.ptr id 2 0 0)), (2, some (.ptr id2 4 0 0)), (3, some (.ptr id3 2 0 0)), (6, some (.rows 1 [[.str [60, 62]], [.str [60, 61]], [.str [62, 61]]])), (7, some (.int .i64 3)), (8, some (.int .i64 i))] ∧ H' = H1 ∧
    (0 < i → (s.drop at').take 2 ≠ [60, 62]) ∧ (1 < i → (s.drop at').take 2 ≠ [60, 61]) ∧ (2 < i → (s.drop at').take 2 ≠ [62, 61]), ⟨_, H1, ?_, Sub.refl _, _, 0, rfl, Nat.zero_le _, rfl, rfl, (fun h => by omega), (fun h => by omega), (fun h => by omega)⟩, ?_⟩
  · exact (by repeat (first | exact trivial | refine And.intro (Or.inl rfl) ?_ | refine And.intro (Or.inr (Exists.intro _ (And.intro rfl (Fz.refl _)))) ?_ | refine And.intro (Or.inr (Exists.intro _ (And.intro rfl (fz_eq (congrArg (AV.int _) (by omega)))))) ?_ | refine And.intro (Or.inr (Exists.intro _ (And.intro rfl (fz_eq (congrArg (AV.own _ _ _) (by (try dsimp only); (try simp only [List.length_append, List.length_map, List.length_cons, List.length_nil, List.length_take, List.length_set, List.length_replicate]); (try dsimp only); first | done | omega)))))) ?_))
  · rintro n L H' ⟨i, rfl, hi, rfl, rfl, w1, w2, w3⟩
    rcases (show i = 0 ∨ i = 1 ∨ i = 2 ∨ i = 3 from by omega) with rfl | rfl | rfl | rfl
    · (first | refine ah ?_ | exact ah0 | fail)
      refine callF_eq (lexer_rest_spec hg1 (by omega) hs) ?_
      (first | refine ah ?_ | exact ah0 | fail)
      refine callF_eq (strings_HasPrefix_spec _ _ _) ?_
      (first | refine ah ?_ | exact ah0 | fail)
      rw [pre2 _ [60, 62] rfl]
      refine bsplit_dec (fun e => ?_) (fun e => ?_)
      · have l2 := (congrArg List.length e).symm
        rw [List.length_take, hdl] at l2
        simp only [List.length_cons, List.length_nil] at l2
        (first | refine ah ?_ | exact ah0 | fail)
        refine callF_to (lexer_cut_spec (n := 2) hg1 (by omega) hs) ?_
        (first | refine ah ?_ | exact ah0 | fail)
        rw [show two (s.drop at') = true from by simp [two, e], if_pos rfl]
        refine TkK.of_tok rfl ?_ (fun j b q r => ?_)
        · exact hg_of
        · obtain ⟨q2, q3⟩ := tw.new j b r
          have := tw.keep j b r
          exact hg_of
      · (first | refine ah ?_ | exact ah0 | fail)
        refine ⟨[(0, some (.ptr id 2 0 0)), (2, some (.ptr id2 4 0 0)), (3, some (.ptr id3 2 0 0)), (6, some (.rows 1 [[.str [60, 62]], [.str [60, 61]], [.str [62, 61]]])), (7, some (.int .i64 3)), (8, some (.int .i64 (1 : Nat)))], H', (by repeat (first | exact trivial | refine And.intro (Or.inl rfl) ?_ | refine And.intro (Or.inr (Exists.intro _ (And.intro rfl (Fz.refl _)))) ?_ | refine And.intro (Or.inr (Exists.intro _ (And.intro rfl (fz_eq (congrArg (AV.int _) (by omega)))))) ?_ | refine And.intro (Or.inr (Exists.intro _ (And.intro rfl (fz_eq (congrArg (AV.own _ _ _) (by (try dsimp only); (try simp only [List.length_append, List.length_map, List.length_cons, List.length_nil, List.length_take, List.length_set, List.length_replicate]); (try dsimp only); first | done | omega)))))) ?_)), Sub.refl _, _, ?_, 1, rfl, by omega, rfl, rfl, (fun _ => e), (fun h => by omega), (fun h => by omega)⟩
        omega
    · (first | refine ah ?_ | exact ah0 | fail)
      refine callF_eq (lexer_rest_spec hg1 (by omega) hs) ?_
      (first | refine ah ?_ | exact ah0 | fail)
      refine callF_eq (strings_HasPrefix_spec _ _ _) ?_
      (first | refine ah ?_ | exact ah0 | fail)
      rw [pre2 _ [60, 61] rfl]
      refine bsplit_dec (fun e => ?_) (fun e => ?_)
      · have l2 := (congrArg List.length e).symm
        rw [List.length_take, hdl] at l2
        simp only [List.length_cons, List.length_nil] at l2
        (first | refine ah ?_ | exact ah0 | fail)
        refine callF_to (lexer_cut_spec (n := 2) hg1 (by omega) hs) ?_
        (first | refine ah ?_ | exact ah0 | fail)
        rw [show two (s.drop at') = true from by simp [two, e], if_pos rfl]
        refine TkK.of_tok rfl ?_ (fun j b q r => ?_)
        · exact hg_of
        · obtain ⟨q2, q3⟩ := tw.new j b r
          have := tw.keep j b r
          exact hg_of
      · (first | refine ah ?_ | exact ah0 | fail)
        refine ⟨[(0, some (.ptr id 2 0 0)), (2, some (.ptr id2 4 0 0)), (3, some (.ptr id3 2 0 0)), (6, some (.rows 1 [[.str [60, 62]], [.str [60, 61]], [.str [62, 61]]])), (7, some (.int .i64 3)), (8, some (.int .i64 (2 : Nat)))], H', (by repeat (first | exact trivial | refine And.intro (Or.inl rfl) ?_ | refine And.intro (Or.inr (Exists.intro _ (And.intro rfl (Fz.refl _)))) ?_ | refine And.intro (Or.inr (Exists.intro _ (And.intro rfl (fz_eq (congrArg (AV.int _) (by omega)))))) ?_ | refine And.intro (Or.inr (Exists.intro _ (And.intro rfl (fz_eq (congrArg (AV.own _ _ _) (by (try dsimp only); (try simp only [List.length_append, List.length_map, List.length_cons, List.length_nil, List.length_take, List.length_set, List.length_replicate]); (try dsimp only); first | done | omega)))))) ?_)), Sub.refl _, _, ?_, 2, rfl, by omega, rfl, rfl, (fun _ => w1 (by omega)), (fun _ => e), (fun h => by omega)⟩
        omega
    · (first | refine ah ?_ | exact ah0 | fail)
      refine callF_eq (lexer_rest_spec hg1 (by omega) hs) ?_
      (first | refine ah ?_ | exact ah0 | fail)
      refine callF_eq (strings_HasPrefix_spec _ _ _) ?_
      (first | refine ah ?_ | exact ah0 | fail)
      rw [pre2 _ [62, 61] rfl]
      refine bsplit_dec (fun e => ?_) (fun e => ?_)
      · have l2 := (congrArg List.length e).symm
        rw [List.length_take, hdl] at l2
        simp only [List.length_cons, List.length_nil] at l2
        (first | refine ah ?_ | exact ah0 | fail)
        refine callF_to (lexer_cut_spec (n := 2) hg1 (by omega) hs) ?_
        (first | refine ah ?_ | exact ah0 | fail)
        rw [show two (s.drop at') = true from by simp [two, e], if_pos rfl]
        refine TkK.of_tok rfl ?_ (fun j b q r => ?_)
        · exact hg_of
        · obtain ⟨q2, q3⟩ := tw.new j b r
          have := tw.keep j b r
          exact hg_of
      · (first | refine ah ?_ | exact ah0 | fail)
        refine ⟨[(0, some (.ptr id 2 0 0)), (2, some (.ptr id2 4 0 0)), (3, some (.ptr id3 2 0 0)), (6, some (.rows 1 [[.str [60, 62]], [.str [60, 61]], [.str [62, 61]]])), (7, some (.int .i64 3)), (8, some (.int .i64 (3 : Nat)))], H', (by repeat (first | exact trivial | refine And.intro (Or.inl rfl) ?_ | refine And.intro (Or.inr (Exists.intro _ (And.intro rfl (Fz.refl _)))) ?_ | refine And.intro (Or.inr (Exists.intro _ (And.intro rfl (fz_eq (congrArg (AV.int _) (by omega)))))) ?_ | refine And.intro (Or.inr (Exists.intro _ (And.intro rfl (fz_eq (congrArg (AV.own _ _ _) (by (try dsimp only); (try simp only [List.length_append, List.length_map, List.length_cons, List.length_nil, List.length_take, List.length_set, List.length_replicate]); (try dsimp only); first | done | omega)))))) ?_)), Sub.refl _, _, ?_, 3, rfl, by omega, rfl, rfl, (fun _ => w1 (by omega)), (fun _ => w2 (by omega)), (fun _ => e)⟩
        omega
    · (first | refine ah ?_ | exact ah0 | fail)
      refine callF_to (lexer_cut_spec (n := 1) hg1 (by omega) hs) ?_
      (first | refine ah ?_ | exact ah0 | fail)
      rw [show two (s.drop at') = false from by simp [two, w1 (by omega), w2 (by omega), w3 (by omega)], if_neg (by decide)]
      refine TkK.of_tok rfl ?_ (fun j b q r => ?_)
      · exact hg_of
      · obtain ⟨q2, q3⟩ := tw.new j b r
        have := tw.keep j b r
        exact hg_of
theorem token_param_spec {s : List UInt8} {at' id : Nat} {H : AH} (hg : hget H id = some (lx s at')) (ha : at' < s.length) (hs : s.length ≤ 140737488351232) :
    ACalls PG token_param.n [.ptr id 2 0 0] H (TkK s at' id H (if 2 ≤ (s.drop at').length ∧ dig ((s.drop at').getD 1 0) = true then .tok 4 ((s.drop at').take 2) (((s.drop at').getD 1 0).toNat - 48) 2 else .bad 11 0)) := by
  have hdl : (s.drop at').length = s.length - at' := List.length_drop
  refine token_param.of rfl (wpF_start ?_)
  (first | refine ah ?_ | exact ah0 | fail)
  intro id2 hid2 ht2
  (first | refine ah ?_ | exact ah0 | fail)
  intro id3 hid3 ht3
  have tw := Two.mk' hg hid2 hid3
  generalize ((id3, Blk.rows [AV.int .i64 0, AV.int .i64 0].length [[AV.int .i64 0, AV.int .i64 0]]) :: (id2, Blk.rows [AV.int .i64 0, AV.str [], AV.int .u64 0, AV.int .i64 0].length [[AV.int .i64 0, AV.str [], AV.int .u64 0, AV.int .i64 0]]) :: H) = H1 at *
  have hg1 := tw.keep _ _ hg
  have hg1' : hget H1 id = some (.rows 2 [[.str s, .int .i64 (at' : Nat)]]) := hg1
  have n2 := tw.n2
  have n3 := tw.n3
  have n32 := tw.n32
  have g2 : hget H1 id2 = some (.rows 4 [[.int .i64 0, .str [], .int .u64 0, .int .i64 0]]) := tw.g2
  have g3 : hget H1 id3 = some (.rows 2 [[.int .i64 0, .int .i64 0]]) := tw.g3
  (first | refine ah ?_ | exact ah0 | fail)
  refine callF_eq (lexer_rest_spec hg1 (by omega) hs) ?_
  (first | refine ah ?_ | exact ah0 | fail)
  refine bsplit_dec (fun e => ?_) (fun e => ?_)
  · (first | refine ah ?_ | exact ah0 | fail)
    rw [if_neg (fun h => by have := h.1; omega)]
    refine TkK.of_bad rfl (fun j b q r => ?_)
    obtain ⟨q2, q3⟩ := tw.new j b r
    have := tw.keep j b r
    exact hg_of
  · (first | refine ah ?_ | exact ah0 | fail)
    refine callF_eq (lexer_rest_spec hg1 (by omega) hs) ?_
    (first | refine ah ?_ | exact ah0 | fail)
    refine callF_eq (token_digit_spec _ _) ?_
    (first | refine ah ?_ | exact ah0 | fail)
    refine bsplit_intro (fun h => ?_) (fun h => ?_)
    · (first | refine ah ?_ | exact ah0 | fail)
      refine callF_to (lexer_cut_spec (n := 2) hg1 (by omega) hs) ?_
      (first | refine ah ?_ | exact ah0 | fail)
      intro id4 hid4 ht4
      have f4 : id4 ≠ id := hget_ne_of hid4 (hget_set hg1)
      have f42 : id4 ≠ id2 := hget_ne_of hid4 ((hget_set_ne n2).trans g2)
      have f43 : id4 ≠ id3 := hget_ne_of hid4 ((hget_set_ne n3).trans g3)
      have htk : ((s.drop at').take 2).length = 2 := by rw [List.length_take]; omega
      have hgd : ((s.drop at').take 2).getD (Int.toNat 1) 0 = (s.drop at').getD (Int.toNat 1) 0 := by simp [List.getElem?_take]
      have hdg := (dig_iff _).1 h
      have hpos : 2 ≤ (List.drop at' s).length ∧ dig ((List.drop at' s).getD 1 0) = true := ⟨by omega, h⟩
      (first | refine ah ?_ | exact ah0 | fail)
      rw [hgd]
      (first | refine ah ?_ | exact ah0 | fail)
      rw [if_pos hpos]
      have hsub : (((((List.drop at' s).getD 1 0).toNat - 48 : Nat)) : Int) = (((List.drop at' s).getD 1 0).toNat : Int) - 48 := by
        have : 48 ≤ ((List.drop at' s).getD 1 0).toNat := hdg.1
        omega
      refine TkK.of_tok (by unfold tokA; rw [hsub]; rfl) ?_ (fun j b q r => ?_)
      · exact hg_of
      · obtain ⟨q2, q3⟩ := tw.new j b r
        have q4 : j ≠ id4 := (hget_ne_of hid4 ((hget_set_ne q).trans (tw.keep j b r))).symm
        have := tw.keep j b r
        exact hg_of
    · (first | refine ah ?_ | exact ah0 | fail)
      rw [if_neg (fun e2 => by have := e2.2; simp_all)]
      refine TkK.of_bad rfl (fun j b q r => ?_)
      obtain ⟨q2, q3⟩ := tw.new j b r
      have := tw.keep j b r
      exact hg_of

theorem numV_snoc (l : List UInt8) (c : UInt8) : numV (l ++ [c]) = 10 * numV l + (c.toNat - 48) := by simp [numV]
theorem numV_ge : ∀ (l : List UInt8) (a : Nat), a ≤ l.foldl (fun a c => 10 * a + (c.toNat - 48)) a
  | [], a => Nat.le_refl _
  | c :: l, a => Nat.le_trans (by omega) (numV_ge l (10 * a + (c.toNat - 48)))
theorem numV_mono (r : List UInt8) {i n : Nat} (h : i ≤ n) : numV (r.take i) ≤ numV (r.take n) := by
  rw [← List.take_append_drop i (r.take n), List.take_take, Nat.min_eq_left h]
  unfold numV
  rw [List.foldl_append]
  exact numV_ge _ _
theorem lx_at {s : List UInt8} {at' i : Nat} (h : i < (s.drop at').length) : (s.drop at').getD i 0 = s.getD (at' + i) 0 := by
  simp [List.getD, List.getElem?_drop]
theorem token_number_spec {s : List UInt8} {at' id : Nat} {H : AH} (hg : hget H id = some (lx s at')) (ha : at' < s.length) (hd : dig ((s.drop at').getD 0 0) = true) (hs : s.length ≤ 140737488351232) :
    ACalls PG token_number.n [.ptr id 2 0 0] H (TkK s at' id H (
      if 1 < dl (s.drop at') ∧ (s.drop at').getD 0 0 = 48 then .bad 1 0
      else if numV ((s.drop at').take (dl (s.drop at'))) < 18446744073709551616 then .tok 2 ((s.drop at').take (dl (s.drop at'))) (numV ((s.drop at').take (dl (s.drop at')))) (dl (s.drop at'))
      else .bad 7 0)) := by
  have hdl : (s.drop at').length = s.length - at' := List.length_drop
  generalize hr : s.drop at' = r at *
  have hle := dl_le r
  have h1l : 0 < dl r := (dl_step (n := 0) (Nat.zero_le _) (by omega)).2 hd
  refine token_number.of rfl (wpF_start ?_)
  (first | refine ah ?_ | exact ah0 | fail)
  intro id2 hid2 ht2
  (first | refine ah ?_ | exact ah0 | fail)
  intro id3 hid3 ht3
  have tw := Two.mk' hg hid2 hid3
  generalize ((id3, Blk.rows [AV.int .i64 0, AV.int .i64 0].length [[AV.int .i64 0, AV.int .i64 0]]) :: (id2, Blk.rows [AV.int .i64 0, AV.str [], AV.int .u64 0, AV.int .i64 0].length [[AV.int .i64 0, AV.str [], AV.int .u64 0, AV.int .i64 0]]) :: H) = H1 at *
  have hg1 := tw.keep _ _ hg
  have hg1' : hget H1 id = some (.rows 2 [[.str s, .int .i64 (at' : Nat)]]) := hg1
  have n2 := tw.n2
  have n3 := tw.n3
  have n32 := tw.n32
  have g2 : hget H1 id2 = some (.rows 4 [[.int .i64 0, .str [], .int .u64 0, .int .i64 0]]) := tw.g2
  have g3 : hget H1 id3 = some (.rows 2 [[.int .i64 0, .int .i64 0]]) := tw.g3
  (first | refine ac ?_ | exact ac0 | fail)
  refine .inr ⟨[(0, some (.ptr id 2 0 0)), (2, some (.ptr id2 4 0 0)), (3, some (.ptr id3 2 0 0)), (4, some (.int .i64 (dl r : Nat)))], H1, ?_, ?_⟩
  · (first | refine ah ?_ | exact ah0 | fail)
    refine ⟨fun n L H' => ∃ i : Nat, n = r.length - i ∧ i ≤ dl r ∧ L = [(0, some (.ptr id 2 0 0)), (2, some (.ptr id2 4 0 0)), (3, some (.ptr id3 2 0 0)), (4, some (.int .i64 i))] ∧ H' = H1, ⟨_, H1, ?_, Sub.refl _, _, 0, rfl, Nat.zero_le _, rfl, rfl⟩, ?_⟩
    · exact (by repeat (first | exact trivial | refine And.intro (Or.inl rfl) ?_ | refine And.intro (Or.inr (Exists.intro _ (And.intro rfl (Fz.refl _)))) ?_ | refine And.intro (Or.inr (Exists.intro _ (And.intro rfl (fz_eq (congrArg (AV.int _) (by omega)))))) ?_ | refine And.intro (Or.inr (Exists.intro _ (And.intro rfl (fz_eq (congrArg (AV.own _ _ _) (by (try dsimp only); (try simp only [List.length_append, List.length_map, List.length_cons, List.length_nil, List.length_take, List.length_set, List.length_replicate]); (try dsimp only); first | done | omega)))))) ?_))
    · rintro n L H' ⟨i, rfl, hi, rfl, rfl⟩
      (first | refine ah ?_ | exact ah0 | fail)
      refine callF_eq (lexer_rest_spec hg1 (by omega) hs) ?_
      rw [hr]
      (first | refine ah ?_ | exact ah0 | fail)
      refine bsplit_dec (fun h1 => ?_) (fun h1 => ?_)
      · have hst := dl_step hi (by omega)
        (first | refine ah ?_ | exact ah0 | fail)
        refine callF_eq (lexer_rest_spec hg1 (by omega) hs) ?_
        rw [hr]
        (first | refine ah ?_ | exact ah0 | fail)
        refine callF_eq (token_digit_spec _ _) ?_
        rw [show dig (r.getD (i : Int).toNat 0) = decide (i < dl r) from bool_iff hst.symm]
        (first | refine ah ?_ | exact ah0 | fail)
        refine bsplit_dec (fun h2 => ?_) (fun h2 => ?_)
        · (first | refine ah ?_ | exact ah0 | fail)
          refine ⟨[(0, some (.ptr id 2 0 0)), (2, some (.ptr id2 4 0 0)), (3, some (.ptr id3 2 0 0)), (4, some (.int .i64 (i + 1 : Nat)))], H', (by repeat (first | exact trivial | refine And.intro (Or.inl rfl) ?_ | refine And.intro (Or.inr (Exists.intro _ (And.intro rfl (Fz.refl _)))) ?_ | refine And.intro (Or.inr (Exists.intro _ (And.intro rfl (fz_eq (congrArg (AV.int _) (by omega)))))) ?_ | refine And.intro (Or.inr (Exists.intro _ (And.intro rfl (fz_eq (congrArg (AV.own _ _ _) (by (try dsimp only); (try simp only [List.length_append, List.length_map, List.length_cons, List.length_nil, List.length_take, List.length_set, List.length_replicate]); (try dsimp only); first | done | omega)))))) ?_)), Sub.refl _, _, ?_, i + 1, rfl, by omega, rfl, rfl⟩
          omega
        · (first | refine ah ?_ | exact ah0 | fail)
          obtain rfl : i = dl r := by omega
          exact ⟨(by repeat (first | exact trivial | refine And.intro (Or.inl rfl) ?_ | refine And.intro (Or.inr (Exists.intro _ (And.intro rfl (Fz.refl _)))) ?_ | refine And.intro (Or.inr (Exists.intro _ (And.intro rfl (fz_eq (congrArg (AV.int _) (by omega)))))) ?_ | refine And.intro (Or.inr (Exists.intro _ (And.intro rfl (fz_eq (congrArg (AV.own _ _ _) (by (try dsimp only); (try simp only [List.length_append, List.length_map, List.length_cons, List.length_nil, List.length_take, List.length_set, List.length_replicate]); (try dsimp only); first | done | omega)))))) ?_)), Sub.refl _⟩
      · (first | refine ah ?_ | exact ah0 | fail)
        obtain rfl : i = dl r := by omega
        exact ⟨(by repeat (first | exact trivial | refine And.intro (Or.inl rfl) ?_ | refine And.intro (Or.inr (Exists.intro _ (And.intro rfl (Fz.refl _)))) ?_ | refine And.intro (Or.inr (Exists.intro _ (And.intro rfl (fz_eq (congrArg (AV.int _) (by omega)))))) ?_ | refine And.intro (Or.inr (Exists.intro _ (And.intro rfl (fz_eq (congrArg (AV.own _ _ _) (by (try dsimp only); (try simp only [List.length_append, List.length_map, List.length_cons, List.length_nil, List.length_take, List.length_set, List.length_replicate]); (try dsimp only); first | done | omega)))))) ?_)), Sub.refl _⟩
  · (first | refine ah ?_ | exact ah0 | fail)
    refine callF_to (lexer_cut_spec (n := dl r) hg1 (by omega) hs) ?_
    (first | refine ah ?_ | exact ah0 | fail)
    intro id5 hid5 ht5
    have f5 : id5 ≠ id := hget_ne_of hid5 (hget_set hg1)
    have f52 : id5 ≠ id2 := hget_ne_of hid5 ((hget_set_ne n2).trans g2)
    have f53 : id5 ≠ id3 := hget_ne_of hid5 ((hget_set_ne n3).trans g3)
    rw [hr]
    have i3 : hget (hset H1 id (lx s (at' + dl r))) id = some (lx s (at' + dl r)) := hget_set hg1
    have i32 : hget (hset H1 id (lx s (at' + dl r))) id2 = some (.rows 4 [[.int .i64 0, .str [], .int .u64 0, .int .i64 0]]) := (hget_set_ne n2).trans g2
    have i33 : hget (hset H1 id (lx s (at' + dl r))) id3 = some (.rows 2 [[.int .i64 0, .int .i64 0]]) := (hget_set_ne n3).trans g3
    have kp : ∀ j b, j ≠ id → hget H j = some b → hget (hset H1 id (lx s (at' + dl r))) j = some b ∧ j ≠ id2 ∧ j ≠ id3 ∧ j ≠ id5 := fun j b q r =>
      have q5 := (hget_set_ne q).trans (tw.keep j b r)
      ⟨q5, (tw.new j b r).1, (tw.new j b r).2, (hget_ne_of hid5 q5).symm⟩
    generalize hset H1 id (lx s (at' + dl r)) = H3 at *
    have htl : (r.take (dl r)).length = dl r := by rw [List.length_take]; omega
    have ht0 : (r.take (dl r)).getD (Int.toNat 0) 0 = r.getD 0 0 := by simp [List.getElem?_take, h1l]
    by_cases hz : 1 < dl r ∧ r.getD 0 0 = 48
    · have hz1 := hz.1
      rw [if_pos hz]
      (first | refine ah ?_ | exact ah0 | fail)
      rw [ht0, hz.2]
      (first | refine ah ?_ | exact ah0 | fail)
      refine TkK.of_bad rfl (fun j b q r => ?_)
      obtain ⟨q0, q2, q3, q5⟩ := kp j b q r
      exact hg_of
    · rw [if_neg hz]
      (first | refine ac ?_ | exact ac0 | fail)
      refine .inr ⟨[(0, some (.ptr id 2 0 0)), (2, some (.ptr id2 4 0 0)), (3, some (.ptr id3 2 0 0)), (4, some (.int .i64 (dl r : Nat))), (5, some (.ptr id5 4 0 0))], (id5, tkB 2 (r.take (dl r)) 0 at') :: H3, ?_, ?_⟩
      · (first | refine ah ?_ | exact ah0 | fail)
        refine bsplit_dec (fun e1 => ?_) (fun e1 => ?_)
        · (first | refine ah ?_ | exact ah0 | fail)
          rw [ht0]
          refine bsplit_dec (fun e2 => ?_) (fun e2 => ?_)
          · exact absurd ⟨by omega, (u8lit _ 48 (by decide)).1 e2⟩ hz
          · (first | refine ah ?_ | exact ah0 | fail)
            exact ⟨(by repeat (first | exact trivial | refine And.intro (Or.inl rfl) ?_ | refine And.intro (Or.inr (Exists.intro _ (And.intro rfl (Fz.refl _)))) ?_ | refine And.intro (Or.inr (Exists.intro _ (And.intro rfl (fz_eq (congrArg (AV.int _) (by omega)))))) ?_ | refine And.intro (Or.inr (Exists.intro _ (And.intro rfl (fz_eq (congrArg (AV.own _ _ _) (by (try dsimp only); (try simp only [List.length_append, List.length_map, List.length_cons, List.length_nil, List.length_take, List.length_set, List.length_replicate]); (try dsimp only); first | done | omega)))))) ?_)), Sub.refl _⟩
        · (first | refine ah ?_ | exact ah0 | fail)
          exact ⟨(by repeat (first | exact trivial | refine And.intro (Or.inl rfl) ?_ | refine And.intro (Or.inr (Exists.intro _ (And.intro rfl (Fz.refl _)))) ?_ | refine And.intro (Or.inr (Exists.intro _ (And.intro rfl (fz_eq (congrArg (AV.int _) (by omega)))))) ?_ | refine And.intro (Or.inr (Exists.intro _ (And.intro rfl (fz_eq (congrArg (AV.own _ _ _) (by (try dsimp only); (try simp only [List.length_append, List.length_map, List.length_cons, List.length_nil, List.length_take, List.length_set, List.length_replicate]); (try dsimp only); first | done | omega)))))) ?_)), Sub.refl _⟩
      · (first | refine ah ?_ | exact ah0 | fail)
        refine ⟨fun n L H' => ∃ i : Nat, n = dl r - i ∧ i ≤ dl r ∧ numV (r.take i) < 18446744073709551616 ∧ L = [(0, some (.ptr id 2 0 0)), (2, some (.ptr id2 4 0 0)), (3, some (.ptr id3 2 0 0)), (5, some (.ptr id5 4 0 0)), (37, some (.int .i64 (dl r : Nat))), (38, some (.int .i64 i))] ∧ H' = (id5, tkB 2 (r.take (dl r)) (numV (r.take i) : Nat) at') :: H3,
          ⟨_, (id5, tkB 2 (r.take (dl r)) 0 at') :: H3, ?_, Sub.refl _, _, 0, rfl, Nat.zero_le _, by simp [numV], rfl, rfl⟩, ?_⟩
        · exact (by repeat (first | exact trivial | refine And.intro (Or.inl rfl) ?_ | refine And.intro (Or.inr (Exists.intro _ (And.intro rfl (Fz.refl _)))) ?_ | refine And.intro (Or.inr (Exists.intro _ (And.intro rfl (fz_eq (congrArg (AV.int _) (by omega)))))) ?_ | refine And.intro (Or.inr (Exists.intro _ (And.intro rfl (fz_eq (congrArg (AV.own _ _ _) (by (try dsimp only); (try simp only [List.length_append, List.length_map, List.length_cons, List.length_nil, List.length_take, List.length_set, List.length_replicate]); (try dsimp only); first | done | omega)))))) ?_))
        · rintro n L H' ⟨i, rfl, hi, hv, rfl, rfl⟩
          (first | refine ah ?_ | exact ah0 | fail)
          refine bsplit_dec (fun e1 => ?_) (fun e1 => ?_)
          · have hil : i < dl r := by omega
            have hdi := (dig_iff _).1 ((dl_step hi (by omega)).1 hil)
            have hti : (r.take (dl r)).getD (i : Int).toNat 0 = r.getD i 0 := by simp [List.getElem?_take, hil]
            have hsn : numV (r.take (i + 1)) = 10 * numV (r.take i) + ((r.getD i 0).toNat - 48) := by rw [take_at r 0 i (by omega), numV_snoc]
            (first | refine ah ?_ | exact ah0 | fail)
            rw [hti]
            (first | refine ah ?_ | exact ah0 | fail)
            refine bsplit_dec (fun e2 => ?_) (fun e2 => ?_)
            · have hm := numV_mono r (show i + 1 ≤ dl r from hil)
              (first | refine ah ?_ | exact ah0 | fail)
              rw [if_neg (by omega)]
              refine TkK.of_bad rfl (fun j b q r => ?_)
              obtain ⟨q0, q2, q3, q5⟩ := kp j b q r
              exact hg_of
            · (first | refine ah ?_ | exact ah0 | fail)
              refine ⟨[(0, some (.ptr id 2 0 0)), (2, some (.ptr id2 4 0 0)), (3, some (.ptr id3 2 0 0)), (5, some (.ptr id5 4 0 0)), (37, some (.int .i64 (dl r : Nat))), (38, some (.int .i64 (i + 1 : Nat)))], (id5, tkB 2 (r.take (dl r)) (numV (r.take (i + 1)) : Nat) at') :: H3,
                (by repeat (first | exact trivial | refine And.intro (Or.inl rfl) ?_ | refine And.intro (Or.inr (Exists.intro _ (And.intro rfl (Fz.refl _)))) ?_ | refine And.intro (Or.inr (Exists.intro _ (And.intro rfl (fz_eq (congrArg (AV.int _) (by omega)))))) ?_ | refine And.intro (Or.inr (Exists.intro _ (And.intro rfl (fz_eq (congrArg (AV.own _ _ _) (by (try dsimp only); (try simp only [List.length_append, List.length_map, List.length_cons, List.length_nil, List.length_take, List.length_set, List.length_replicate]); (try dsimp only); first | done | omega)))))) ?_)), ?_, _, ?_, i + 1, rfl, by omega, by omega, rfl, rfl⟩
              · rw [show ((numV (r.take (i + 1)) : Nat) : Int) = 10 * (numV (r.take i) : Nat) + (((r.getD i 0).toNat : Int) - 48) from by omega]
                exact Sub.refl _
              · omega
          · obtain rfl : i = dl r := by omega
            (first | refine ah ?_ | exact ah0 | fail)
            rw [if_pos hv]
            refine TkK.of_tok rfl ?_ (fun j b q r => ?_)
            · exact hg_of
            · skip
              obtain ⟨q0, q2, q3, q5⟩ := kp j b q r
              exact hg_of
end Go.Proofs.YtlmplofpclaokaaDoor

/- How a text in quotes is taken. -/
namespace Go.Proofs.YtlmplofpclaokaaDoor
set_option autoImplicit false
set_option linter.unusedSimpArgs false
set_option linter.unusedVariables false
--HSET
attribute [local irreducible] callA callP ACalls

theorem Bld.hset {H : AH} {id j : Nat} {ob : Option Nat} {l : List UInt8} {X : Blk} (h : Bld H id ob l) (h1 : j ≠ id) (h2 : ob ≠ some j) : Bld (hset H j X) id ob l := by
  obtain ⟨ht, p, v, hg, hp, hv⟩ := h
  refine ⟨ht, p, v, (hget_set_ne h1.symm).trans hg, hp, ?_⟩
  rcases hv with hv | ⟨idb, q1, q2, q3, q4, q5⟩
  · exact .inl hv
  · exact .inr ⟨idb, q1, q2, (hget_set_ne (fun e => h2 (by rw [q1, e]))).trans q3, q4, q5⟩

/-- What holds while a text is read: i bytes are read, acc is built. -/
structure TI (s : List UInt8) (at' id : Nat) (H : AH) (id2 id3 id4 id5 : Nat) (ob : Option Nat) (i : Nat) (acc : List UInt8) (H' : AH) : Prop where
  g : hget H' id = some (.rows 2 [[.str s, .int .i64 (at' + i : Nat)]])
  g2 : hget H' id2 = some (.rows 4 [[.int .i64 0, .str [], .int .u64 0, .int .i64 0]])
  g3 : hget H' id3 = some (.rows 2 [[.int .i64 0, .int .i64 0]])
  g4 : hget H' id4 = some (.rows 4 [[.int .i64 3, .str [], .int .u64 0, .int .i64 at']])
  b : Bld H' id5 ob acc
  n2 : id ≠ id2
  n3 : id ≠ id3
  n4 : id ≠ id4
  n5 : id ≠ id5
  n23 : id2 ≠ id3
  n24 : id2 ≠ id4
  n25 : id2 ≠ id5
  n34 : id3 ≠ id4
  n35 : id3 ≠ id5
  n45 : id4 ≠ id5
  o : ob ≠ some id
  o2 : ob ≠ some id2
  o3 : ob ≠ some id3
  o4 : ob ≠ some id4
  k : ∀ j b, j ≠ id → hget H j = some b → hget H' j = some b ∧ j ≠ id2 ∧ j ≠ id3 ∧ j ≠ id4 ∧ j ≠ id5 ∧ ob ≠ some j

theorem TI.step {s : List UInt8} {at' id : Nat} {H : AH} {id2 id3 id4 id5 : Nat} {ob : Option Nat} {i i' : Nat} {acc : List UInt8} {H' : AH} (h : TI s at' id H id2 id3 id4 id5 ob i acc H'):
    TI s at' id H id2 id3 id4 id5 ob i' acc (hset H' id (.rows 2 [[.str s, .int .i64 (at' + i' : Nat)]])) :=
  { h with
    g := hget_set h.g
    g2 := (hget_set_ne h.n2.symm).trans h.g2
    g3 := (hget_set_ne h.n3.symm).trans h.g3
    g4 := (hget_set_ne h.n4.symm).trans h.g4
    b := h.b.hset h.n5 h.o
    k := fun j b q r => ⟨(hget_set_ne q).trans (h.k j b q r).1, (h.k j b q r).2⟩ }
theorem TI.write {s : List UInt8} {at' id : Nat} {H : AH} {id2 id3 id4 id5 : Nat} {ob : Option Nat} {i : Nat} {acc : List UInt8} {H' H2 : AH} {c : UInt8} {idb : Nat} (h : TI s at' id H id2 id3 id4 id5 ob i acc H')
    (h1 : Bld H2 id5 (some idb) (acc ++ [c])) (h2 : hget H' idb = none ∨ ob = some idb) (h3 : ∀ j b, j ≠ id5 → ob ≠ some j → hget H' j = some b → hget H2 j = some b) : TI s at' id H id2 id3 id4 id5 (some idb) i (acc ++ [c]) H2 := by
  have ne : ∀ j b, ob ≠ some j → hget H' j = some b → (some idb : Option Nat) ≠ some j := by
    intro j b q1 q2 e
    cases e
    rcases h2 with h2 | h2
    · rw [h2] at q2; cases q2
    · exact q1 h2
  exact { h with
    g := h3 _ _ h.n5 h.o h.g
    g2 := h3 _ _ h.n25 h.o2 h.g2
    g3 := h3 _ _ h.n35 h.o3 h.g3
    g4 := h3 _ _ h.n45 h.o4 h.g4
    b := h1
    o := ne _ _ h.o h.g
    o2 := ne _ _ h.o2 h.g2
    o3 := ne _ _ h.o3 h.g3
    o4 := ne _ _ h.o4 h.g4
    k := fun j b q r => let ⟨k1, k2, k3, k4, k5, k6⟩ := h.k j b q r; ⟨h3 _ _ k5 k6 k1, k2, k3, k4, k5, ne _ _ k6 k1⟩ }

theorem qs_step (c : UInt8) (r : List UInt8) (i : Nat) (acc : List UInt8) : qs (c :: r) i acc =
    if c.toNat < 32 ∨ 126 < c.toNat then .odd i else if c = 39 then (if r.take 1 = [39] then qs (r.drop 1) (i + 2) (acc ++ [39]) else .done acc (i + 1)) else qs r (i + 1) (acc ++ [c]) := by
  cases r with
  | nil =>
    simp only [qs, List.take_nil, List.drop_nil]
    rw [if_neg (show ¬ ([] : List UInt8) = [39] from by simp)]
  | cons d r =>
    simp only [qs, List.take_succ_cons, List.take_zero, List.drop_succ_cons, List.drop_zero, List.cons.injEq, and_true]
theorem token_text_spec {s : List UInt8} {at' id : Nat} {H : AH} (hg : hget H id = some (lx s at')) (ha : at' < s.length) (hs : s.length ≤ 140737488351232) :
    ACalls PG token_text.n [.ptr id 2 0 0] H (TkK s at' id H (match qs (s.drop (at' + 1)) 1 [] with
      | .done t n => .tok 3 t 0 n
      | .odd i => .bad 10 i
      | .short => .bad 2 0)) := by
  refine token_text.of rfl (wpF_start ?_)
  (first | refine ah ?_ | exact ah0 | fail)
  intro id2 hid2 ht2
  (first | refine ah ?_ | exact ah0 | fail)
  intro id3 hid3 ht3
  have tw := Two.mk' hg hid2 hid3
  generalize ((id3, Blk.rows [AV.int .i64 0, AV.int .i64 0].length [[AV.int .i64 0, AV.int .i64 0]]) :: (id2, Blk.rows [AV.int .i64 0, AV.str [], AV.int .u64 0, AV.int .i64 0].length [[AV.int .i64 0, AV.str [], AV.int .u64 0, AV.int .i64 0]]) :: H) = H1 at *
  have hg1 := tw.keep _ _ hg
  have hg1' : hget H1 id = some (.rows 2 [[.str s, .int .i64 (at' : Nat)]]) := hg1
  have n2 := tw.n2
  have n3 := tw.n3
  have n32 := tw.n32
  have g2 : hget H1 id2 = some (.rows 4 [[.int .i64 0, .str [], .int .u64 0, .int .i64 0]]) := tw.g2
  have g3 : hget H1 id3 = some (.rows 2 [[.int .i64 0, .int .i64 0]]) := tw.g3
  (first | refine ah ?_ | exact ah0 | fail)
  intro id4 hid4 ht4
  have f4 : id4 ≠ id := hget_ne_of hid4 hg1
  have f42 : id4 ≠ id2 := hget_ne_of hid4 g2
  have f43 : id4 ≠ id3 := hget_ne_of hid4 g3
  (first | refine ah ?_ | exact ah0 | fail)
  intro id5 hid5 ht5
  have f5 : id5 ≠ id := hget_ne_of hid5 ((hget_tail f4).trans hg1)
  have f52 : id5 ≠ id2 := hget_ne_of hid5 ((hget_tail f42).trans g2)
  have f53 : id5 ≠ id3 := hget_ne_of hid5 ((hget_tail f43).trans g3)
  have f54 : id5 ≠ id4 := hget_ne_of hid5 hget_self
  (first | refine ah ?_ | exact ah0 | fail)
  have T0 : TI s at' id H id2 id3 id4 id5 none 1 [] ((id5, .rows 2 [[.nilP, .nilS]]) :: (id4, tkB 3 [] 0 at') :: hset H1 id (.rows 2 [[.str s, .int .i64 (at' + 1 : Nat)]])) :=
    { g := (hget_tail f5).trans ((hget_tail f4).trans (hget_set hg1))
      g2 := (hget_tail f52).trans ((hget_tail f42).trans ((hget_set_ne n2).trans g2))
      g3 := (hget_tail f53).trans ((hget_tail f43).trans ((hget_set_ne n3).trans g3))
      g4 := (hget_tail f54).trans hget_self
      b := ⟨ht5, .nilP, .nilS, hget_self, .inl rfl, .inl ⟨rfl, rfl, rfl⟩⟩
      n2 := n2.symm
      n3 := n3.symm
      n4 := f4.symm
      n5 := f5.symm
      n23 := n32.symm
      n24 := f42.symm
      n25 := f52.symm
      n34 := f43.symm
      n35 := f53.symm
      n45 := f54.symm
      o := fun e => by cases e
      o2 := fun e => by cases e
      o3 := fun e => by cases e
      o4 := fun e => by cases e
      k := fun j b q r => by
        have k1 := tw.keep j b r
        have k4 := hget_ne_of hid4 k1
        have k5 := hget_ne_of hid5 ((hget_tail k4).trans k1)
        exact ⟨(hget_tail k5).trans ((hget_tail k4).trans ((hget_set_ne q).trans k1)), (tw.new j b r).1, (tw.new j b r).2, k4.symm, k5.symm, fun e => by cases e⟩ }
  generalize hR : qs (s.drop (at' + 1)) 1 [] = R
  refine ⟨fun n L H' => ∃ (i : Nat) (acc : List UInt8) (ob : Option Nat), n = s.length - (at' + i) ∧ at' + i ≤ s.length ∧ acc.length ≤ i ∧ qs (s.drop (at' + i)) i acc = R ∧
    L = [(0, some (.ptr id 2 0 0)), (2, some (.ptr id2 4 0 0)), (3, some (.ptr id3 2 0 0)), (4, some (.ptr id4 4 0 0)), (5, some (.ptr id5 2 0 0))] ∧ TI s at' id H id2 id3 id4 id5 ob i acc H', ⟨_, _, ?_, ?_, _, 1, [], none, rfl, by omega, by simp, hR, rfl, T0⟩, ?_⟩
  · exact (by repeat (first | exact trivial | refine And.intro (Or.inl rfl) ?_ | refine And.intro (Or.inr (Exists.intro _ (And.intro rfl (Fz.refl _)))) ?_ | refine And.intro (Or.inr (Exists.intro _ (And.intro rfl (fz_eq (congrArg (AV.int _) (by omega)))))) ?_ | refine And.intro (Or.inr (Exists.intro _ (And.intro rfl (fz_eq (congrArg (AV.own _ _ _) (by (try dsimp only); (try simp only [List.length_append, List.length_map, List.length_cons, List.length_nil, List.length_take, List.length_set, List.length_replicate]); (try dsimp only); first | done | omega)))))) ?_))
  · rw [show ((at' + 1 : Nat) : Int) = (at' : Int) + 1 from by omega]
    exact Sub.refl _
  · clear hid2 hid3 hid4 hid5 hg1 hg1' g2 g3 tw T0 hR
    rintro n L H' ⟨i, acc, ob, rfl, hi, hl, hq, rfl, T⟩
    have g := T.g
    have g2 := T.g2
    have g3 := T.g3
    have g4 := T.g4
    (first | refine ah ?_ | exact ah0 | fail)
    refine bsplit_dec (fun h1 => ?_) (fun h1 => ?_)
    · have hlt : at' + i < s.length := by omega
      have hdr : s.drop (at' + i) = s.getD (at' + i) 0 :: s.drop (at' + i + 1) := drop_at s 0 (at' + i) hlt
      rw [hdr, qs_step] at hq
      (first | refine ah ?_ | exact ah0 | fail)
      rw [Int.toNat_natCast]
      have gl : hget H' id = some (lx s (at' + i)) := g
      have hdl : (s.drop (at' + i + 1)).length = s.length - (at' + i + 1) := List.length_drop
      generalize s.getD (at' + i) 0 = c at *
      by_cases ho : c.toNat < 32 ∨ 126 < c.toNat
      · rw [if_pos ho] at hq
        subst hq
        refine bsplit_dec (fun e1 => ?_) (fun e1 => ?_)
        · (first | refine ah ?_ | exact ah0 | fail)
          refine TkK.of_bad rfl (fun j b q r => ?_)
          obtain ⟨k1, k2, k3, k4, k5, k6⟩ := T.k j b q r
          exact hg_of
        · (first | refine ah ?_ | exact ah0 | fail)
          refine TkK.of_bad rfl (fun j b q r => ?_)
          obtain ⟨k1, k2, k3, k4, k5, k6⟩ := T.k j b q r
          exact hg_of
      · rw [if_neg ho] at hq
        by_cases h39 : c = 39
        · subst h39
          rw [if_pos rfl] at hq
          (first | refine ah ?_ | exact ah0 | fail)
          refine callF_eq (lexer_rest_spec gl (by omega) hs) ?_
          (first | refine ah ?_ | exact ah0 | fail)
          refine callF_eq (strings_HasPrefix_spec _ _ _) ?_
          rw [pre2 _ [39, 39] rfl, hdr, show decide (List.take 2 (39 :: List.drop (at' + i + 1) s) = [39, 39]) = decide (List.take 1 (List.drop (at' + i + 1) s) = [39]) from decide_eq_decide.2 (by simp)]
          (first | refine ah ?_ | exact ah0 | fail)
          refine bsplit_dec (fun h2 => ?_) (fun h2 => ?_)
          · rw [if_pos h2] at hq
            have h2l := congrArg List.length h2
            rw [List.length_take, hdl, List.length_singleton] at h2l
            (first | refine ah ?_ | exact ah0 | fail)
            refine callF_of ((WriteByte_spec T.b (by omega)).mono fun rr H2 hh => ?_)
            obtain ⟨rfl, idb, b1, b2, b3⟩ := hh
            have T2 := T.write b1 b2 b3
            have g' := T2.g
            (first | refine ah ?_ | exact ah0 | fail)
            refine ⟨[(0, some (.ptr id 2 0 0)), (2, some (.ptr id2 4 0 0)), (3, some (.ptr id3 2 0 0)), (4, some (.ptr id4 4 0 0)), (5, some (.ptr id5 2 0 0))], _, (by repeat (first | exact trivial | refine And.intro (Or.inl rfl) ?_ | refine And.intro (Or.inr (Exists.intro _ (And.intro rfl (Fz.refl _)))) ?_ | refine And.intro (Or.inr (Exists.intro _ (And.intro rfl (fz_eq (congrArg (AV.int _) (by omega)))))) ?_ | refine And.intro (Or.inr (Exists.intro _ (And.intro rfl (fz_eq (congrArg (AV.own _ _ _) (by (try dsimp only); (try simp only [List.length_append, List.length_map, List.length_cons, List.length_nil, List.length_take, List.length_set, List.length_replicate]); (try dsimp only); first | done | omega)))))) ?_)), Sub.refl _, s.length - (at' + (i + 2)), by omega, i + 2, acc ++ [39], some idb, rfl, by omega, by simp; omega, ?_, rfl, ?_⟩
            · rw [← hq, List.drop_drop]
              rfl
            · have e1 : ((at' + i : Nat) : Int) + 1 = ((at' + (i + 1) : Nat) : Int) := by omega
              have e2 : ((at' + i : Nat) : Int) + 1 + 1 = ((at' + (i + 2) : Nat) : Int) := by omega
              have T4 := (T2.step (i' := i + 1)).step (i' := i + 2)
              rw [← e1, ← e2] at T4
              exact T4
          · rw [if_neg h2] at hq
            subst hq
            have T3 := T.step (i' := i + 1)
            rw [show ((at' + (i + 1) : Nat) : Int) = ((at' + i : Nat) : Int) + 1 from by omega] at T3
            (first | refine ah ?_ | exact ah0 | fail)
            refine callF_of ((String_spec T3.b (by omega)).mono fun rr H2 hh => ?_)
            obtain ⟨rfl, b3⟩ := hh
            have q1 := b3 _ _ T3.o T3.g
            have q2 := b3 _ _ T3.o2 T3.g2
            have q3 := b3 _ _ T3.o3 T3.g3
            have q4 := b3 _ _ T3.o4 T3.g4
            (first | refine ah ?_ | exact ah0 | fail)
            refine TkK.of_tok rfl ?_ (fun j b q r => ?_)
            · have e1 : ((at' + i : Nat) : Int) + 1 = ((at' + (i + 1) : Nat) : Int) := by omega
              have q1' : hget H2 id = some (lx s (at' + (i + 1))) := by unfold lx; rw [← e1]; exact q1
              have := T.n2
              have := T.n3
              have := T.n4
              exact hg_of
            · obtain ⟨k1, k2, k3, k4, k5, k6⟩ := T3.k j b q r
              have := b3 _ _ k6 k1
              exact hg_of
        · rw [if_neg h39] at hq
          have hne : c.toNat ≠ 39 := fun e => h39 ((nat_eq c 39 (by decide)).2 e)
          (first | refine ah ?_ | exact ah0 | fail)
          refine callF_of ((WriteByte_spec T.b (by omega)).mono fun rr H2 hh => ?_)
          obtain ⟨rfl, idb, b1, b2, b3⟩ := hh
          have T2 := T.write b1 b2 b3
          have g' := T2.g
          (first | refine ah ?_ | exact ah0 | fail)
          refine ⟨[(0, some (.ptr id 2 0 0)), (2, some (.ptr id2 4 0 0)), (3, some (.ptr id3 2 0 0)), (4, some (.ptr id4 4 0 0)), (5, some (.ptr id5 2 0 0))], _, (by repeat (first | exact trivial | refine And.intro (Or.inl rfl) ?_ | refine And.intro (Or.inr (Exists.intro _ (And.intro rfl (Fz.refl _)))) ?_ | refine And.intro (Or.inr (Exists.intro _ (And.intro rfl (fz_eq (congrArg (AV.int _) (by omega)))))) ?_ | refine And.intro (Or.inr (Exists.intro _ (And.intro rfl (fz_eq (congrArg (AV.own _ _ _) (by (try dsimp only); (try simp only [List.length_append, List.length_map, List.length_cons, List.length_nil, List.length_take, List.length_set, List.length_replicate]); (try dsimp only); first | done | omega)))))) ?_)), Sub.refl _, s.length - (at' + (i + 1)), by omega, i + 1, acc ++ [c], some idb, rfl, by omega, by simp; omega, hq, rfl, ?_⟩
          have e1 : ((at' + i : Nat) : Int) + 1 = ((at' + (i + 1) : Nat) : Int) := by omega
          have T4 := T2.step (i' := i + 1)
          rw [← e1] at T4
          exact T4
    · have hnil : s.drop (at' + i) = [] := List.drop_eq_nil_of_le (by omega)
      rw [hnil] at hq
      subst hq
      (first | refine ah ?_ | exact ah0 | fail)
      refine TkK.of_bad rfl (fun j b q r => ?_)
      obtain ⟨k1, k2, k3, k4, k5, k6⟩ := T.k j b q r
      exact hg_of
end Go.Proofs.YtlmplofpclaokaaDoor

/- The next token. -/
namespace Go.Proofs.YtlmplofpclaokaaDoor
set_option autoImplicit false
set_option linter.unusedSimpArgs false
set_option linter.unusedVariables false
--HSET
attribute [local irreducible] callA callP ACalls

abbrev kindsV : List (List AV) := [[.clo token_kinds_1.n [] [], .clo token_word.n [] []], [.clo token_digit.n [] [], .clo token_number.n [] []], [.clo token_kinds_2.n [] [], .clo token_text.n [] []], [.clo token_kinds_3.n [] [], .clo token_param.n [] []], [.clo token_kinds_4.n [] [], .clo token_sign.n [] []]]
theorem token_kinds_spec (H : AH) : ACalls PG token_kinds.n [] H fun r H' => r = .rows 2 kindsV ∧ H' = H := by
  refine token_kinds.of rfl (wpF_start ?_)
  (first | refine ah ?_ | exact ah0 | fail)

theorem TkK.opened {s : List UInt8} {at' id : Nat} {H : AH} {R : LR} {r : AV} {H2 : AH} (h : TkK s at' id H R r H2) : ∃ k t num a e p, r = .tup [tokA k t num a, fltA e p] ∧
    ∀ H0 H' : AH, (∀ b, hget H2 id = some b → hget H' id = some b) → Keep id H0 H' → TkK s at' id H0 R r H' := by
  cases hR : R with
  | tok k t num n =>
    obtain ⟨rfl, h2⟩ := h.tok k t num n hR
    exact ⟨k, t, num, at', 0, 0, rfl, fun H0 H' q1 q2 => .of_tok rfl (q1 _ h2) q2⟩
  | bad e off =>
    obtain ⟨k, t, num, a, rfl⟩ := h.bad e off hR
    exact ⟨k, t, num, a, e, _, rfl, fun H0 H' q1 q2 => .of_bad rfl q2⟩

theorem TkK.cong {s : List UInt8} {at' id : Nat} {H : AH} {R R' : LR} {r : AV} {H2 : AH} (h : TkK s at' id H R r H2) (e : R' = R) : TkK s at' id H R' r H2 := by rw [e]; exact h
theorem lex_word (c : UInt8) (r : List UInt8) (h : ltr c = true) : lex (c :: r) = .tok 1 ((c :: r).take (nl (c :: r))) 0 (nl (c :: r)) := by simp only [lex, h, if_true]
theorem lex_num (c : UInt8) (r : List UInt8) (h1 : ltr c = false) (h2 : dig c = true) : lex (c :: r) =
    (if 1 < dl (c :: r) ∧ (c :: r).getD 0 0 = 48 then .bad 1 0
      else if numV ((c :: r).take (dl (c :: r))) < 18446744073709551616 then .tok 2 ((c :: r).take (dl (c :: r))) (numV ((c :: r).take (dl (c :: r)))) (dl (c :: r))
      else .bad 7 0) := by
  simp only [lex, h1, h2, if_true, Bool.false_eq_true, if_false, List.getD_cons_zero]
theorem lex_text (r : List UInt8) : lex (39 :: r) = (match qs r 1 [] with
      | .done t n => .tok 3 t 0 n
      | .odd i => .bad 10 i
      | .short => .bad 2 0) := rfl
theorem lex_param (r : List UInt8) : lex (37 :: r) = (if 2 ≤ (37 :: r).length ∧ dig ((37 :: r).getD 1 0) = true then .tok 4 ((37 :: r).take 2) (((37 :: r).getD 1 0).toNat - 48) 2 else .bad 11 0) := by
  cases r with
  | nil => rfl
  | cons d r =>
    simp only [List.getD_cons_succ, List.getD_cons_zero, List.take_succ_cons, List.take_zero, List.length_cons]
    show (if dig d = true then _ else _) = _
    by_cases h : dig d = true
    · rw [if_pos h, if_pos ⟨by omega, h⟩]
    · rw [if_neg h, if_neg (fun q => h q.2)]
theorem lex_sign (c : UInt8) (r : List UInt8) (h1 : ltr c = false) (h2 : dig c = false) (h3 : c ≠ 39) (h4 : c ≠ 37) (h5 : sgn c = true) : lex (c :: r) = .tok 5 ((c :: r).take (if two (c :: r) then 2 else 1)) 0 (if two (c :: r) then 2 else 1) := by
  simp only [lex, h1, h2, h3, h4, h5, if_true, Bool.false_eq_true, if_false]
theorem lex_none (c : UInt8) (r : List UInt8) (h1 : ltr c = false) (h2 : dig c = false) (h3 : c ≠ 39) (h4 : c ≠ 37) (h5 : sgn c = false) : lex (c :: r) = .bad 11 0 := by
  simp only [lex, h1, h2, h3, h4, h5, Bool.false_eq_true, if_false]
theorem lexer_next_spec {s : List UInt8} {at' id : Nat} {H : AH} (hg : hget H id = some (lx s at')) (ha : at' < s.length) (hs : s.length ≤ 140737488351232) :
    ACalls PG token_lexer_next.n [.ptr id 2 0 0] H (TkK s at' id H (lex (s.drop at'))) := by
  have hdr : s.drop at' = s.getD at' 0 :: s.drop (at' + 1) := drop_at s 0 at' ha
  refine token_lexer_next.of rfl (wpF_start ?_)
  (first | refine ah ?_ | exact ah0 | fail)
  intro id2 hid2 ht2
  (first | refine ah ?_ | exact ah0 | fail)
  intro id3 hid3 ht3
  have tw := Two.mk' hg hid2 hid3
  generalize ((id3, Blk.rows [AV.int .i64 0, AV.int .i64 0].length [[AV.int .i64 0, AV.int .i64 0]]) :: (id2, Blk.rows [AV.int .i64 0, AV.str [], AV.int .u64 0, AV.int .i64 0].length [[AV.int .i64 0, AV.str [], AV.int .u64 0, AV.int .i64 0]]) :: H) = H1 at *
  have hg1 := tw.keep _ _ hg
  have hg1' : hget H1 id = some (.rows 2 [[.str s, .int .i64 (at' : Nat)]]) := hg1
  have n2 := tw.n2
  have n3 := tw.n3
  have n32 := tw.n32
  have g2 : hget H1 id2 = some (.rows 4 [[.int .i64 0, .str [], .int .u64 0, .int .i64 0]]) := tw.g2
  have g3 : hget H1 id3 = some (.rows 2 [[.int .i64 0, .int .i64 0]]) := tw.g3
  (first | refine ah ?_ | exact ah0 | fail)
  refine callF_eq (token_kinds_spec _) ?_
  (first | refine ah ?_ | exact ah0 | fail)
  generalize hc : s.getD at' 0 = c at *
  refine ⟨fun n L H' => ∃ i : Nat, n = 5 - i ∧ i ≤ 5 ∧ L = [(0, some (.ptr id 2 0 0)), (2, some (.ptr id2 4 0 0)), (3, some (.ptr id3 2 0 0)), (6, some (.rows 2 kindsV)), (7, some (.int .i64 5)), (8, some (.int .i64 i))] ∧ H' = H1 ∧
    (0 < i → ltr c = false) ∧ (1 < i → dig c = false) ∧ (2 < i → c ≠ 39) ∧ (3 < i → c ≠ 37) ∧ (4 < i → sgn c = false), ⟨_, H1, ?_, Sub.refl _, _, 0, rfl, Nat.zero_le _, rfl, rfl, (fun h => by omega), (fun h => by omega), (fun h => by omega), (fun h => by omega), (fun h => by omega)⟩, ?_⟩
  · exact (by repeat (first | exact trivial | refine And.intro (Or.inl rfl) ?_ | refine And.intro (Or.inr (Exists.intro _ (And.intro rfl (Fz.refl _)))) ?_ | refine And.intro (Or.inr (Exists.intro _ (And.intro rfl (fz_eq (congrArg (AV.int _) (by omega)))))) ?_ | refine And.intro (Or.inr (Exists.intro _ (And.intro rfl (fz_eq (congrArg (AV.own _ _ _) (by (try dsimp only); (try simp only [List.length_append, List.length_map, List.length_cons, List.length_nil, List.length_take, List.length_set, List.length_replicate]); (try dsimp only); first | done | omega)))))) ?_))
  · rintro n L H' ⟨i, rfl, hi, rfl, rfl, w1, w2, w3, w4, w5⟩
    rcases (show i = 0 ∨ i = 1 ∨ i = 2 ∨ i = 3 ∨ i = 4 ∨ i = 5 from by omega) with rfl | rfl | rfl | rfl | rfl | rfl
    · (first | refine ah ?_ | exact ah0 | fail)
      intro id5 hid5 ht5
      have f5 : id5 ≠ id := hget_ne_of hid5 hg1
      have f52 : id5 ≠ id2 := hget_ne_of hid5 g2
      have f53 : id5 ≠ id3 := hget_ne_of hid5 g3
      (first | refine ah ?_ | exact ah0 | fail)
      rw [Int.toNat_natCast, hc]
      refine callF_eq (kinds1_spec c _) ?_
      (first | refine ah ?_ | exact ah0 | fail)
      refine bsplit_intro (fun e => ?_) (fun e => ?_)
      · (first | refine ah ?_ | exact ah0 | fail)
        refine callF_of ((token_word_spec (s := s) (at' := at') (by exact hg_of) (by omega) hs).mono fun rr H2 hh => ?_)
        replace hh := hh.cong (R' := lex (s.drop at')) (by rw [hdr, lex_word c _ e])
        have k2 := hh.keep id2 _ n2 ((hget_tail f52).trans g2)
        have k3 := hh.keep id3 _ n3 ((hget_tail f53).trans g3)
        obtain ⟨k, t, num, a, e', p, rfl, fin⟩ := hh.opened
        (first | refine ah ?_ | exact ah0 | fail)
        refine fin H _ (fun b q => by exact hg_of) (fun j b q r => ?_)
        have r1 := tw.keep j b r
        have q5 := hget_ne_of hid5 r1
        have r2 := hh.keep j b q ((hget_tail q5).trans r1)
        obtain ⟨q2, q3⟩ := tw.new j b r
        exact hg_of
      · (first | refine ah ?_ | exact ah0 | fail)
        refine ⟨[(0, some (.ptr id 2 0 0)), (2, some (.ptr id2 4 0 0)), (3, some (.ptr id3 2 0 0)), (6, some (.rows 2 kindsV)), (7, some (.int .i64 5)), (8, some (.int .i64 (1 : Nat)))], H', (by repeat (first | exact trivial | refine And.intro (Or.inl rfl) ?_ | refine And.intro (Or.inr (Exists.intro _ (And.intro rfl (Fz.refl _)))) ?_ | refine And.intro (Or.inr (Exists.intro _ (And.intro rfl (fz_eq (congrArg (AV.int _) (by omega)))))) ?_ | refine And.intro (Or.inr (Exists.intro _ (And.intro rfl (fz_eq (congrArg (AV.own _ _ _) (by (try dsimp only); (try simp only [List.length_append, List.length_map, List.length_cons, List.length_nil, List.length_take, List.length_set, List.length_replicate]); (try dsimp only); first | done | omega)))))) ?_)), Sub.skip (Sub.refl _) hid5, _, ?_, 1, rfl, by omega, rfl, rfl, (fun _ => e), (fun h => by omega), (fun h => by omega), (fun h => by omega), (fun h => by omega)⟩
        omega
    · (first | refine ah ?_ | exact ah0 | fail)
      intro id5 hid5 ht5
      have f5 : id5 ≠ id := hget_ne_of hid5 hg1
      have f52 : id5 ≠ id2 := hget_ne_of hid5 g2
      have f53 : id5 ≠ id3 := hget_ne_of hid5 g3
      (first | refine ah ?_ | exact ah0 | fail)
      rw [Int.toNat_natCast, hc]
      refine callF_eq (token_digit_spec c _) ?_
      (first | refine ah ?_ | exact ah0 | fail)
      refine bsplit_intro (fun e => ?_) (fun e => ?_)
      · (first | refine ah ?_ | exact ah0 | fail)
        refine callF_of ((token_number_spec (s := s) (at' := at') (by exact hg_of) (by omega) (by rw [hdr]; exact e) hs).mono fun rr H2 hh => ?_)
        replace hh := hh.cong (R' := lex (s.drop at')) (by rw [hdr, lex_num c _ (w1 (by omega)) e])
        have k2 := hh.keep id2 _ n2 ((hget_tail f52).trans g2)
        have k3 := hh.keep id3 _ n3 ((hget_tail f53).trans g3)
        obtain ⟨k, t, num, a, e', p, rfl, fin⟩ := hh.opened
        (first | refine ah ?_ | exact ah0 | fail)
        refine fin H _ (fun b q => by exact hg_of) (fun j b q r => ?_)
        have r1 := tw.keep j b r
        have q5 := hget_ne_of hid5 r1
        have r2 := hh.keep j b q ((hget_tail q5).trans r1)
        obtain ⟨q2, q3⟩ := tw.new j b r
        exact hg_of
      · (first | refine ah ?_ | exact ah0 | fail)
        refine ⟨[(0, some (.ptr id 2 0 0)), (2, some (.ptr id2 4 0 0)), (3, some (.ptr id3 2 0 0)), (6, some (.rows 2 kindsV)), (7, some (.int .i64 5)), (8, some (.int .i64 (2 : Nat)))], H', (by repeat (first | exact trivial | refine And.intro (Or.inl rfl) ?_ | refine And.intro (Or.inr (Exists.intro _ (And.intro rfl (Fz.refl _)))) ?_ | refine And.intro (Or.inr (Exists.intro _ (And.intro rfl (fz_eq (congrArg (AV.int _) (by omega)))))) ?_ | refine And.intro (Or.inr (Exists.intro _ (And.intro rfl (fz_eq (congrArg (AV.own _ _ _) (by (try dsimp only); (try simp only [List.length_append, List.length_map, List.length_cons, List.length_nil, List.length_take, List.length_set, List.length_replicate]); (try dsimp only); first | done | omega)))))) ?_)), Sub.skip (Sub.refl _) hid5, _, ?_, 2, rfl, by omega, rfl, rfl, (fun _ => w1 (by omega)), (fun _ => e), (fun h => by omega), (fun h => by omega), (fun h => by omega)⟩
        omega
    · (first | refine ah ?_ | exact ah0 | fail)
      intro id5 hid5 ht5
      have f5 : id5 ≠ id := hget_ne_of hid5 hg1
      have f52 : id5 ≠ id2 := hget_ne_of hid5 g2
      have f53 : id5 ≠ id3 := hget_ne_of hid5 g3
      (first | refine ah ?_ | exact ah0 | fail)
      rw [Int.toNat_natCast, hc]
      refine callF_eq (kinds2_spec c _) ?_
      (first | refine ah ?_ | exact ah0 | fail)
      refine bsplit_dec (fun e => ?_) (fun e => ?_)
      · (first | refine ah ?_ | exact ah0 | fail)
        refine callF_of ((token_text_spec (s := s) (at' := at') (by exact hg_of) (by omega) hs).mono fun rr H2 hh => ?_)
        replace hh := hh.cong (R' := lex (s.drop at')) (by rw [hdr, e]; exact lex_text _)
        have k2 := hh.keep id2 _ n2 ((hget_tail f52).trans g2)
        have k3 := hh.keep id3 _ n3 ((hget_tail f53).trans g3)
        obtain ⟨k, t, num, a, e', p, rfl, fin⟩ := hh.opened
        (first | refine ah ?_ | exact ah0 | fail)
        refine fin H _ (fun b q => by exact hg_of) (fun j b q r => ?_)
        have r1 := tw.keep j b r
        have q5 := hget_ne_of hid5 r1
        have r2 := hh.keep j b q ((hget_tail q5).trans r1)
        obtain ⟨q2, q3⟩ := tw.new j b r
        exact hg_of
      · (first | refine ah ?_ | exact ah0 | fail)
        refine ⟨[(0, some (.ptr id 2 0 0)), (2, some (.ptr id2 4 0 0)), (3, some (.ptr id3 2 0 0)), (6, some (.rows 2 kindsV)), (7, some (.int .i64 5)), (8, some (.int .i64 (3 : Nat)))], H', (by repeat (first | exact trivial | refine And.intro (Or.inl rfl) ?_ | refine And.intro (Or.inr (Exists.intro _ (And.intro rfl (Fz.refl _)))) ?_ | refine And.intro (Or.inr (Exists.intro _ (And.intro rfl (fz_eq (congrArg (AV.int _) (by omega)))))) ?_ | refine And.intro (Or.inr (Exists.intro _ (And.intro rfl (fz_eq (congrArg (AV.own _ _ _) (by (try dsimp only); (try simp only [List.length_append, List.length_map, List.length_cons, List.length_nil, List.length_take, List.length_set, List.length_replicate]); (try dsimp only); first | done | omega)))))) ?_)), Sub.skip (Sub.refl _) hid5, _, ?_, 3, rfl, by omega, rfl, rfl, (fun _ => w1 (by omega)), (fun _ => w2 (by omega)), (fun _ => e), (fun h => by omega), (fun h => by omega)⟩
        omega
    · (first | refine ah ?_ | exact ah0 | fail)
      intro id5 hid5 ht5
      have f5 : id5 ≠ id := hget_ne_of hid5 hg1
      have f52 : id5 ≠ id2 := hget_ne_of hid5 g2
      have f53 : id5 ≠ id3 := hget_ne_of hid5 g3
      (first | refine ah ?_ | exact ah0 | fail)
      rw [Int.toNat_natCast, hc]
      refine callF_eq (kinds3_spec c _) ?_
      (first | refine ah ?_ | exact ah0 | fail)
      refine bsplit_dec (fun e => ?_) (fun e => ?_)
      · (first | refine ah ?_ | exact ah0 | fail)
        refine callF_of ((token_param_spec (s := s) (at' := at') (by exact hg_of) (by omega) hs).mono fun rr H2 hh => ?_)
        replace hh := hh.cong (R' := lex (s.drop at')) (by rw [hdr, e]; exact lex_param _)
        have k2 := hh.keep id2 _ n2 ((hget_tail f52).trans g2)
        have k3 := hh.keep id3 _ n3 ((hget_tail f53).trans g3)
        obtain ⟨k, t, num, a, e', p, rfl, fin⟩ := hh.opened
        (first | refine ah ?_ | exact ah0 | fail)
        refine fin H _ (fun b q => by exact hg_of) (fun j b q r => ?_)
        have r1 := tw.keep j b r
        have q5 := hget_ne_of hid5 r1
        have r2 := hh.keep j b q ((hget_tail q5).trans r1)
        obtain ⟨q2, q3⟩ := tw.new j b r
        exact hg_of
      · (first | refine ah ?_ | exact ah0 | fail)
        refine ⟨[(0, some (.ptr id 2 0 0)), (2, some (.ptr id2 4 0 0)), (3, some (.ptr id3 2 0 0)), (6, some (.rows 2 kindsV)), (7, some (.int .i64 5)), (8, some (.int .i64 (4 : Nat)))], H', (by repeat (first | exact trivial | refine And.intro (Or.inl rfl) ?_ | refine And.intro (Or.inr (Exists.intro _ (And.intro rfl (Fz.refl _)))) ?_ | refine And.intro (Or.inr (Exists.intro _ (And.intro rfl (fz_eq (congrArg (AV.int _) (by omega)))))) ?_ | refine And.intro (Or.inr (Exists.intro _ (And.intro rfl (fz_eq (congrArg (AV.own _ _ _) (by (try dsimp only); (try simp only [List.length_append, List.length_map, List.length_cons, List.length_nil, List.length_take, List.length_set, List.length_replicate]); (try dsimp only); first | done | omega)))))) ?_)), Sub.skip (Sub.refl _) hid5, _, ?_, 4, rfl, by omega, rfl, rfl, (fun _ => w1 (by omega)), (fun _ => w2 (by omega)), (fun _ => w3 (by omega)), (fun _ => e), (fun h => by omega)⟩
        omega
    · (first | refine ah ?_ | exact ah0 | fail)
      intro id5 hid5 ht5
      have f5 : id5 ≠ id := hget_ne_of hid5 hg1
      have f52 : id5 ≠ id2 := hget_ne_of hid5 g2
      have f53 : id5 ≠ id3 := hget_ne_of hid5 g3
      (first | refine ah ?_ | exact ah0 | fail)
      rw [Int.toNat_natCast, hc]
      refine callF_eq (kinds4_spec c _) ?_
      (first | refine ah ?_ | exact ah0 | fail)
      refine bsplit_intro (fun e => ?_) (fun e => ?_)
      · (first | refine ah ?_ | exact ah0 | fail)
        refine callF_of ((token_sign_spec (s := s) (at' := at') (by exact hg_of) (by omega) hs).mono fun rr H2 hh => ?_)
        replace hh := hh.cong (R' := lex (s.drop at')) (by rw [hdr, lex_sign c _ (w1 (by omega)) (w2 (by omega)) (w3 (by omega)) (w4 (by omega)) e])
        have k2 := hh.keep id2 _ n2 ((hget_tail f52).trans g2)
        have k3 := hh.keep id3 _ n3 ((hget_tail f53).trans g3)
        obtain ⟨k, t, num, a, e', p, rfl, fin⟩ := hh.opened
        (first | refine ah ?_ | exact ah0 | fail)
        refine fin H _ (fun b q => by exact hg_of) (fun j b q r => ?_)
        have r1 := tw.keep j b r
        have q5 := hget_ne_of hid5 r1
        have r2 := hh.keep j b q ((hget_tail q5).trans r1)
        obtain ⟨q2, q3⟩ := tw.new j b r
        exact hg_of
      · (first | refine ah ?_ | exact ah0 | fail)
        refine ⟨[(0, some (.ptr id 2 0 0)), (2, some (.ptr id2 4 0 0)), (3, some (.ptr id3 2 0 0)), (6, some (.rows 2 kindsV)), (7, some (.int .i64 5)), (8, some (.int .i64 (5 : Nat)))], H', (by repeat (first | exact trivial | refine And.intro (Or.inl rfl) ?_ | refine And.intro (Or.inr (Exists.intro _ (And.intro rfl (Fz.refl _)))) ?_ | refine And.intro (Or.inr (Exists.intro _ (And.intro rfl (fz_eq (congrArg (AV.int _) (by omega)))))) ?_ | refine And.intro (Or.inr (Exists.intro _ (And.intro rfl (fz_eq (congrArg (AV.own _ _ _) (by (try dsimp only); (try simp only [List.length_append, List.length_map, List.length_cons, List.length_nil, List.length_take, List.length_set, List.length_replicate]); (try dsimp only); first | done | omega)))))) ?_)), Sub.skip (Sub.refl _) hid5, _, ?_, 5, rfl, by omega, rfl, rfl, (fun _ => w1 (by omega)), (fun _ => w2 (by omega)), (fun _ => w3 (by omega)), (fun _ => w4 (by omega)), (fun _ => e)⟩
        omega
    · (first | refine ah ?_ | exact ah0 | fail)
      rw [hdr, lex_none c _ (w1 (by omega)) (w2 (by omega)) (w3 (by omega)) (w4 (by omega)) (w5 (by omega))]
      refine TkK.of_bad rfl (fun j b q r => ?_)
      obtain ⟨q2, q3⟩ := tw.new j b r
      have := tw.keep j b r
      exact hg_of
end Go.Proofs.YtlmplofpclaokaaDoor
