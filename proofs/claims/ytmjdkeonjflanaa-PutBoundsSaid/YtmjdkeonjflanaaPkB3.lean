/- Texts of this proof, one behind the other: CodeT, CodeV, CodeF, ListMath, TokMath, TypMath, ValMath, FitMath, SimShape, SimRow, SimLib, SimFast. -/
import Derived.Test.YtmjdkeonjflanaaPkB2
import Derived.KernelRfl
import Derived.ChangeArms
import Derived.OpenShut
import Derived.SizedLaws
import Derived.DataReads
import Derived.Below
import Derived.Carry
import Derived.WalkKit
import Derived.ProofKit
import Derived.ShutString
import Derived.ChangeOld
/- Each function's translation is, by reckoning, the abstract code that is written out here; its contract follows from the predicate transformer over that code. -/
namespace Go.Proofs.Ytmjdkeonjflanaa
set_option autoImplicit false
set_option maxRecDepth 100000
def broadsheetlaw06_Great.n : Nat := 5
noncomputable def broadsheetlaw06_Great.c : C := (.seq (.reg [⟨(some 2), none, (.mv (.c (.bool false)))⟩]) (.seq (.reg [⟨(some 3), none, (.mv (.c (.int .i64 0)))⟩]) (.seq (.seq (.reg [⟨(some 4), none, (.mv (.c (.int .i64 0)))⟩]) (.block 0 (.loop (.seq (.seq (.reg [⟨(some 5), none, (.mv (.t 4))⟩, ⟨(some 6), none, (.mv (.t 0))⟩, ⟨(some 7), none, (.len false (.t 6))⟩, ⟨(some 8), none, (.bin .lss (.t 5) (.t 7))⟩]) (.cond (.t 8) .skip (.exit 0))) (.seq (.block 1 (.reg [⟨(some 11), none, (.mv (.t 3))⟩, ⟨(some 12), none, (.mv (.t 0))⟩, ⟨(some 13), none, (.mv (.t 4))⟩, ⟨(some 14), none, (.iaddr 6 (.t 12) (.t 13))⟩, ⟨(some 15), none, (.faddr 5 (.t 14))⟩, ⟨(some 16), none, (.load none (.t 15))⟩, ⟨(some 17), none, (.len false (.t 16))⟩, ⟨(some 18), none, (.bin .add (.t 11) (.t 17))⟩, ⟨(some 19), none, (.mm false [(.t 18), (.c (.int .i64 1048576))])⟩, ⟨(some 3), none, (.mv (.t 19))⟩])) (.reg [⟨(some 9), none, (.mv (.t 4))⟩, ⟨(some 10), none, (.bin .add (.t 9) (.c (.int .i64 1)))⟩, ⟨(some 4), none, (.mv (.t 10))⟩])))))) (.seq (.reg [⟨(some 20), none, (.mv (.t 0))⟩, ⟨(some 21), none, (.len false (.t 20))⟩, ⟨(some 22), none, (.bin .gtr (.t 21) (.c (.int .i64 100)))⟩, ⟨(some 23), none, (.mv (.t 22))⟩, ⟨(some 24), (some (23, false)), (.mv (.t 3))⟩, ⟨(some 25), (some (23, false)), (.bin .gtr (.t 24) (.c (.int .i64 800)))⟩, ⟨(some 26), none, (.pick (.t 23) (.c (.bool true)) (.t 25))⟩, ⟨(some 2), none, (.mv (.t 26))⟩]) .ret))))
theorem broadsheetlaw06_Great.code : comp PG [] (Try.f5.body.getD .skip) = broadsheetlaw06_Great.c := by kernel_rfl
theorem broadsheetlaw06_Great.of {args : List AV} {H : AH} {K : AV → AH → Prop} (hl : args.length = 1) (h : wpA PG broadsheetlaw06_Great.c none (endA [(.t 2)] K) (initFr args) H) : ACalls PG 5 args H K :=
  ACalls.of_code (fl := []) mixed Try.func5 (c := Try.f5.body.getD .skip) (by kernel_rfl) (by kernel_rfl) (by rw [hl]; exact of_decide_eq_true (by kernel_rfl)) (by rw [broadsheetlaw06_Great.code]; kernel_rfl)
    (by rw [broadsheetlaw06_Great.code, show compRes PG Try.f5.results.toList = [(.t 2)] from by kernel_rfl]; exact h)
def types_Check.n : Nat := 26
noncomputable def types_Check.c : C := (.seq (.reg [⟨(some 2), none, (.allc 71 [(.int .i64 0), (.int .i64 0)])⟩]) (.seq (.seq (.reg [⟨(some 9), none, (.mv (.t 0))⟩, ⟨(some 10), none, (.len false (.t 9))⟩, ⟨(some 11), none, (.bin .gtr (.t 10) (.c (.int .i64 32)))⟩]) (.cond (.t 11) (.seq (.reg [⟨(some 12), none, (.build [(.int .i64 0), (.int .i64 0)] [(0, (1, (.c (.int .i64 3)))), (1, (1, (.c (.int .i64 32))))])⟩, ⟨none, none, (.store 2 (.t 2) (.t 12))⟩]) .ret) .skip)) (.seq (.seq (.reg [⟨(some 13), none, (.mv (.t 0))⟩, ⟨(some 14), none, (.len false (.t 13))⟩, ⟨(some 15), none, (.mv (.c (.int .i64 0)))⟩]) (.block 0 (.loop (.seq (.reg [⟨(some 16), none, (.bin .lss (.t 15) (.t 14))⟩]) (.seq (.cond (.t 16) .skip (.exit 0)) (.seq (.block 1 (.seq (.reg [⟨(some 17), none, (.mv (.t 15))⟩, ⟨(some 18), none, (.iaddr 6 (.t 13) (.t 15))⟩, ⟨(some 19), none, (.load (some 6) (.t 18))⟩, ⟨(some 4), none, (.allc 44 [(.int .i64 0), (.str []), (.int .i64 0), (.int .i64 0), (.int .i64 0), .nilS])⟩, ⟨(some 3), none, (.mv (.t 17))⟩, ⟨none, none, (.store 6 (.t 4) (.t 19))⟩]) (.seq (.reg [⟨(some 20), none, (.mv (.t 0))⟩, ⟨(some 21), none, (.mv (.t 3))⟩, ⟨(some 22), none, (.load (some 6) (.t 4))⟩, ⟨(some 23), none, (.build [.nilS, (.int .i64 0), (.int .i64 0), (.str []), (.int .i64 0), (.int .i64 0), (.int .i64 0), .nilS] [(0, (1, (.t 20))), (1, (1, (.t 21))), (2, (6, (.t 22)))])⟩, ⟨(some 24), none, (.box 99 (.t 23))⟩, ⟨(some 5), none, (.mv (.t 24))⟩]) (.seq (.reg [⟨(some 25), none, (.mv (.t 5))⟩, ⟨(some 26), none, (.mkfn 45 [(.t 25)] [])⟩, ⟨(some 27), none, (.mv (.t 5))⟩, ⟨(some 28), none, (.mkfn 46 [(.t 27)] [])⟩, ⟨(some 29), none, (.mv (.t 5))⟩, ⟨(some 30), none, (.mkfn 47 [(.t 29)] [])⟩, ⟨(some 31), none, (.mv (.t 5))⟩, ⟨(some 32), none, (.mkfn 48 [(.t 31)] [])⟩, ⟨(some 33), none, (.mv (.t 5))⟩, ⟨(some 34), none, (.mkfn 49 [(.t 33)] [])⟩, ⟨(some 35), none, (.mv (.t 5))⟩, ⟨(some 36), none, (.mkfn 50 [(.t 35)] [])⟩, ⟨(some 37), none, (.bslice 100 1 6 [.nilF] [(0, (.t 26)), (1, (.t 28)), (2, (.t 30)), (3, (.t 32)), (4, (.t 34)), (5, (.t 36))])⟩, ⟨(some 38), none, (.len false (.t 37))⟩, ⟨(some 39), none, (.mv (.c (.int .i64 0)))⟩]) (.block 2 (.loop (.seq (.reg [⟨(some 40), none, (.bin .lss (.t 39) (.t 38))⟩]) (.seq (.cond (.t 40) .skip (.exit 2)) (.seq (.block 3 (.seq (.reg [⟨(some 41), none, (.iaddr 1 (.t 37) (.t 39))⟩, ⟨(some 42), none, (.load none (.t 41))⟩, ⟨(some 7), none, (.mv (.t 42))⟩]) (.seq (.reg [⟨(some 43), none, (.mv (.t 7))⟩, ⟨(some 44), none, (.callv (.t 43) [])⟩, ⟨(some 8), none, (.mv (.t 44))⟩]) (.seq (.reg [⟨(some 45), none, (.mv (.t 8))⟩, ⟨(some 46), none, (.bin .neq (.t 45) (.c (.int .i64 0)))⟩]) (.cond (.t 46) (.seq (.reg [⟨(some 47), none, (.mv (.t 8))⟩, ⟨(some 48), none, (.mv (.t 3))⟩, ⟨(some 49), none, (.build [(.int .i64 0), (.int .i64 0)] [(0, (1, (.t 47))), (1, (1, (.t 48)))])⟩, ⟨none, none, (.store 2 (.t 2) (.t 49))⟩]) .ret) .skip))))) (.reg [⟨(some 50), none, (.bin .add (.t 39) (.c (.int .i64 1)))⟩, ⟨(some 39), none, (.mv (.t 50))⟩])))))))))) (.reg [⟨(some 51), none, (.bin .add (.t 15) (.c (.int .i64 1)))⟩, ⟨(some 15), none, (.mv (.t 51))⟩]))))))) (.seq (.reg [⟨(some 52), none, (.build [(.int .i64 0), (.int .i64 0)] [])⟩, ⟨none, none, (.store 2 (.t 2) (.t 52))⟩]) .ret))))
theorem types_Check.code : comp PG [] (Try.f26.body.getD .skip) = types_Check.c := by kernel_rfl
theorem types_Check.of {args : List AV} {H : AH} {K : AV → AH → Prop} (hl : args.length = 1) (h : wpA PG types_Check.c none (endA [(.cell 2 (some 2))] K) (initFr args) H) : ACalls PG 26 args H K :=
  ACalls.of_code (fl := []) mixed Try.func26 (c := Try.f26.body.getD .skip) (by kernel_rfl) (by kernel_rfl) (by rw [hl]; exact of_decide_eq_true (by kernel_rfl)) (by rw [types_Check.code]; kernel_rfl)
    (by rw [types_Check.code, show compRes PG Try.f26.results.toList = [(.cell 2 (some 2))] from by kernel_rfl]; exact h)
def prim_Number.n : Nat := 29
noncomputable def prim_Number.c : C := (.seq (.reg [⟨(some 2), none, (.mv (.c (.bool false)))⟩]) (.seq (.reg [⟨(some 3), none, (.mv (.t 0))⟩, ⟨(some 4), none, (.bin .geq (.t 3) (.c (.int .i64 1)))⟩, ⟨(some 5), none, (.mv (.t 4))⟩, ⟨(some 6), (some (5, true)), (.mv (.t 0))⟩, ⟨(some 7), (some (5, true)), (.bin .leq (.t 6) (.c (.int .i64 9)))⟩, ⟨(some 8), none, (.pick (.t 5) (.t 7) (.c (.bool false)))⟩, ⟨(some 2), none, (.mv (.t 8))⟩]) .ret))
theorem prim_Number.code : comp PG [] (Try.f29.body.getD .skip) = prim_Number.c := by kernel_rfl
theorem prim_Number.of {args : List AV} {H : AH} {K : AV → AH → Prop} (hl : args.length = 1) (h : wpA PG prim_Number.c none (endA [(.t 2)] K) (initFr args) H) : ACalls PG 29 args H K :=
  ACalls.of_code (fl := []) mixed Try.func29 (c := Try.f29.body.getD .skip) (by kernel_rfl) (by kernel_rfl) (by rw [hl]; exact of_decide_eq_true (by kernel_rfl)) (by rw [prim_Number.code]; kernel_rfl)
    (by rw [prim_Number.code, show compRes PG Try.f29.results.toList = [(.t 2)] from by kernel_rfl]; exact h)
def types_look_form.n : Nat := 45
noncomputable def types_look_form.c : C := (.seq (.reg [⟨(some 2), none, (.mv (.c (.int .i64 0)))⟩]) (.seq (.reg [⟨(some 10), none, (.mv (.t 0))⟩, ⟨(some 11), none, (.nilck (.t 10))⟩, ⟨(some 12), none, (.faddr 2 (.t 11))⟩, ⟨(some 13), none, (.load (some 6) (.t 12))⟩, ⟨(some 3), none, (.allc 44 [(.int .i64 0), (.str []), (.int .i64 0), (.int .i64 0), (.int .i64 0), .nilS])⟩, ⟨none, none, (.store 6 (.t 3) (.t 13))⟩]) (.seq (.seq (.reg [⟨(some 14), none, (.faddr 0 (.t 3))⟩, ⟨(some 15), none, (.load none (.t 14))⟩, ⟨(some 16), none, (.bin .lss (.t 15) (.c (.int .i64 1)))⟩, ⟨(some 17), none, (.mv (.t 16))⟩, ⟨(some 18), (some (17, false)), (.faddr 0 (.t 3))⟩, ⟨(some 19), (some (17, false)), (.load none (.t 18))⟩, ⟨(some 20), (some (17, false)), (.bin .gtr (.t 19) (.c (.int .i64 14)))⟩, ⟨(some 21), none, (.pick (.t 17) (.c (.bool true)) (.t 20))⟩]) (.cond (.t 21) (.seq (.reg [⟨(some 2), none, (.mv (.c (.int .i64 4)))⟩]) .ret) .skip)) (.seq (.reg [⟨(some 23), none, (.faddr 0 (.t 3))⟩, ⟨(some 24), none, (.load none (.t 23))⟩, ⟨(some 25), none, (.call 72 [(.t 24)])⟩, ⟨(some 22), none, (.mv (.t 25))⟩, ⟨(some 26), none, (.extr (.t 22) 0)⟩, ⟨(some 27), none, (.extr (.t 22) 1)⟩, ⟨(some 28), none, (.extr (.t 22) 2)⟩, ⟨(some 29), none, (.extr (.t 22) 3)⟩, ⟨(some 4), none, (.mv (.t 26))⟩, ⟨(some 5), none, (.mv (.t 27))⟩, ⟨(some 6), none, (.mv (.t 28))⟩, ⟨(some 7), none, (.mv (.t 29))⟩]) (.seq (.seq (.reg [⟨(some 30), none, (.mv (.t 4))⟩, ⟨(some 31), none, (.un .not (.t 30))⟩, ⟨(some 32), none, (.mv (.t 31))⟩, ⟨(some 33), (some (32, true)), (.faddr 1 (.t 3))⟩, ⟨(some 34), (some (32, true)), (.load none (.t 33))⟩, ⟨(some 35), (some (32, true)), (.bin .neq (.t 34) (.c (.str [])))⟩, ⟨(some 36), (some (32, true)), (.mv (.t 35))⟩, ⟨(some 37), (some (36, false)), (.faddr 5 (.t 3))⟩, ⟨(some 38), (some (36, false)), (.load none (.t 37))⟩, ⟨(some 39), (some (36, false)), (.len false (.t 38))⟩, ⟨(some 40), (some (36, false)), (.bin .gtr (.t 39) (.c (.int .i64 0)))⟩, ⟨(some 41), (some (32, true)), (.pick (.t 36) (.c (.bool true)) (.t 40))⟩, ⟨(some 42), none, (.pick (.t 32) (.t 41) (.c (.bool false)))⟩, ⟨(some 43), none, (.mv (.t 42))⟩, ⟨(some 44), (some (43, false)), (.mv (.t 5))⟩, ⟨(some 45), (some (43, false)), (.un .not (.t 44))⟩, ⟨(some 46), (some (43, false)), (.mv (.t 45))⟩, ⟨(some 47), (some (46, true)), (.faddr 2 (.t 3))⟩, ⟨(some 48), (some (46, true)), (.load none (.t 47))⟩, ⟨(some 49), (some (46, true)), (.bin .neq (.t 48) (.c (.int .i64 0)))⟩, ⟨(some 50), (some (43, false)), (.pick (.t 46) (.t 49) (.c (.bool false)))⟩, ⟨(some 51), none, (.pick (.t 43) (.c (.bool true)) (.t 50))⟩, ⟨(some 52), none, (.mv (.t 51))⟩, ⟨(some 53), (some (52, false)), (.mv (.t 6))⟩, ⟨(some 54), (some (52, false)), (.un .not (.t 53))⟩, ⟨(some 55), (some (52, false)), (.mv (.t 54))⟩, ⟨(some 56), (some (55, true)), (.faddr 3 (.t 3))⟩, ⟨(some 57), (some (55, true)), (.load none (.t 56))⟩, ⟨(some 58), (some (55, true)), (.bin .neq (.t 57) (.c (.int .i64 0)))⟩, ⟨(some 59), (some (52, false)), (.pick (.t 55) (.t 58) (.c (.bool false)))⟩, ⟨(some 60), none, (.pick (.t 52) (.c (.bool true)) (.t 59))⟩, ⟨(some 61), none, (.mv (.t 60))⟩, ⟨(some 62), (some (61, false)), (.mv (.t 7))⟩, ⟨(some 63), (some (61, false)), (.un .not (.t 62))⟩, ⟨(some 64), (some (61, false)), (.mv (.t 63))⟩, ⟨(some 65), (some (64, true)), (.faddr 4 (.t 3))⟩, ⟨(some 66), (some (64, true)), (.load none (.t 65))⟩, ⟨(some 67), (some (64, true)), (.bin .neq (.t 66) (.c (.int .i64 0)))⟩, ⟨(some 68), (some (61, false)), (.pick (.t 64) (.t 67) (.c (.bool false)))⟩, ⟨(some 69), none, (.pick (.t 61) (.c (.bool true)) (.t 68))⟩]) (.cond (.t 69) (.seq (.reg [⟨(some 2), none, (.mv (.c (.int .i64 1)))⟩]) .ret) .skip)) (.seq (.seq (.reg [⟨(some 70), none, (.faddr 5 (.t 3))⟩, ⟨(some 71), none, (.load none (.t 70))⟩, ⟨(some 72), none, (.len false (.t 71))⟩, ⟨(some 73), none, (.mv (.c (.int .i64 0)))⟩]) (.block 0 (.loop (.seq (.reg [⟨(some 74), none, (.bin .lss (.t 73) (.t 72))⟩]) (.seq (.cond (.t 74) .skip (.exit 0)) (.seq (.block 1 (.seq (.reg [⟨(some 75), none, (.iaddr 5 (.t 71) (.t 73))⟩, ⟨(some 76), none, (.load (some 5) (.t 75))⟩, ⟨(some 9), none, (.allc 80 [(.str []), (.int .u64 0), (.int .i64 0), (.bool false), (.bool false)])⟩, ⟨none, none, (.store 5 (.t 9) (.t 76))⟩]) (.seq (.reg [⟨(some 77), none, (.faddr 0 (.t 3))⟩, ⟨(some 78), none, (.load none (.t 77))⟩, ⟨(some 79), none, (.bin .eql (.t 78) (.c (.int .i64 9)))⟩, ⟨(some 80), none, (.mv (.t 79))⟩, ⟨(some 81), (some (80, true)), (.faddr 2 (.t 9))⟩, ⟨(some 82), (some (80, true)), (.load none (.t 81))⟩, ⟨(some 83), (some (80, true)), (.bin .neq (.t 82) (.c (.int .i64 0)))⟩, ⟨(some 84), none, (.pick (.t 80) (.t 83) (.c (.bool false)))⟩, ⟨(some 85), none, (.mv (.t 84))⟩, ⟨(some 86), (some (85, false)), (.faddr 0 (.t 3))⟩, ⟨(some 87), (some (85, false)), (.load none (.t 86))⟩, ⟨(some 88), (some (85, false)), (.bin .neq (.t 87) (.c (.int .i64 13)))⟩, ⟨(some 89), (some (85, false)), (.mv (.t 88))⟩, ⟨(some 90), (some (89, true)), (.faddr 3 (.t 9))⟩, ⟨(some 91), (some (89, true)), (.load none (.t 90))⟩, ⟨(some 92), (some (85, false)), (.pick (.t 89) (.t 91) (.c (.bool false)))⟩, ⟨(some 93), none, (.pick (.t 85) (.c (.bool true)) (.t 92))⟩, ⟨(some 94), none, (.mv (.t 93))⟩, ⟨(some 95), (some (94, false)), (.faddr 0 (.t 3))⟩, ⟨(some 96), (some (94, false)), (.load none (.t 95))⟩, ⟨(some 97), (some (94, false)), (.bin .neq (.t 96) (.c (.int .i64 14)))⟩, ⟨(some 98), (some (94, false)), (.mv (.t 97))⟩, ⟨(some 99), (some (98, true)), (.faddr 4 (.t 9))⟩, ⟨(some 100), (some (98, true)), (.load none (.t 99))⟩, ⟨(some 101), (some (94, false)), (.pick (.t 98) (.t 100) (.c (.bool false)))⟩, ⟨(some 102), none, (.pick (.t 94) (.c (.bool true)) (.t 101))⟩, ⟨(some 103), none, (.mv (.t 102))⟩, ⟨(some 104), (some (103, false)), (.faddr 0 (.t 3))⟩, ⟨(some 105), (some (103, false)), (.load none (.t 104))⟩, ⟨(some 106), (some (103, false)), (.bin .eql (.t 105) (.c (.int .i64 13)))⟩, ⟨(some 107), (some (103, false)), (.mv (.t 106))⟩, ⟨(some 108), (some (107, false)), (.faddr 4 (.t 9))⟩, ⟨(some 109), (some (107, false)), (.load none (.t 108))⟩, ⟨(some 110), (some (103, false)), (.pick (.t 107) (.c (.bool true)) (.t 109))⟩, ⟨(some 111), (some (103, false)), (.mv (.t 110))⟩, ⟨(some 112), (some (111, true)), (.faddr 1 (.t 9))⟩, ⟨(some 113), (some (111, true)), (.load none (.t 112))⟩, ⟨(some 114), (some (111, true)), (.bin .neq (.t 113) (.c (.int .u64 0)))⟩, ⟨(some 115), (some (103, false)), (.pick (.t 111) (.t 114) (.c (.bool false)))⟩, ⟨(some 116), none, (.pick (.t 103) (.c (.bool true)) (.t 115))⟩]) (.cond (.t 116) (.seq (.reg [⟨(some 2), none, (.mv (.c (.int .i64 1)))⟩]) .ret) .skip)))) (.reg [⟨(some 117), none, (.bin .add (.t 73) (.c (.int .i64 1)))⟩, ⟨(some 73), none, (.mv (.t 117))⟩]))))))) (.seq (.reg [⟨(some 2), none, (.mv (.c (.int .i64 0)))⟩]) .ret)))))))
theorem types_look_form.code : comp PG [] (Try.f45.body.getD .skip) = types_look_form.c := by kernel_rfl
theorem types_look_form.of {args : List AV} {H : AH} {K : AV → AH → Prop} (hl : args.length = 1) (h : wpA PG types_look_form.c none (endA [(.t 2)] K) (initFr args) H) : ACalls PG 45 args H K :=
  ACalls.of_code (fl := []) mixed Try.func45 (c := Try.f45.body.getD .skip) (by kernel_rfl) (by kernel_rfl) (by rw [hl]; exact of_decide_eq_true (by kernel_rfl)) (by rw [types_look_form.code]; kernel_rfl)
    (by rw [types_look_form.code, show compRes PG Try.f45.results.toList = [(.t 2)] from by kernel_rfl]; exact h)
def types_look_named.n : Nat := 46
noncomputable def types_look_named.c : C := (.seq (.reg [⟨(some 2), none, (.mv (.c (.int .i64 0)))⟩]) (.seq (.seq (.reg [⟨(some 10), none, (.mv (.t 0))⟩, ⟨(some 11), none, (.nilck (.t 10))⟩, ⟨(some 12), none, (.faddr 2 (.t 11))⟩, ⟨(some 13), none, (.faddr 0 (.t 12))⟩, ⟨(some 14), none, (.load none (.t 13))⟩, ⟨(some 15), none, (.call 72 [(.t 14)])⟩, ⟨(some 9), none, (.mv (.t 15))⟩, ⟨(some 16), none, (.extr (.t 9) 0)⟩, ⟨(some 17), none, (.extr (.t 9) 1)⟩, ⟨(some 18), none, (.extr (.t 9) 2)⟩, ⟨(some 19), none, (.extr (.t 9) 3)⟩, ⟨(some 3), none, (.mv (.t 16))⟩, ⟨(some 4), none, (.mv (.t 17))⟩, ⟨(some 5), none, (.mv (.t 18))⟩, ⟨(some 6), none, (.mv (.t 19))⟩]) (.seq (.reg [⟨(some 20), none, (.mv (.t 3))⟩, ⟨(some 21), none, (.un .not (.t 20))⟩]) (.cond (.t 21) (.seq (.reg [⟨(some 2), none, (.mv (.c (.int .i64 0)))⟩]) .ret) .skip))) (.seq (.seq (.reg [⟨(some 22), none, (.mv (.t 0))⟩, ⟨(some 23), none, (.nilck (.t 22))⟩, ⟨(some 24), none, (.faddr 2 (.t 23))⟩, ⟨(some 25), none, (.faddr 1 (.t 24))⟩, ⟨(some 26), none, (.load none (.t 25))⟩, ⟨(some 27), none, (.call 73 [(.t 26)])⟩, ⟨(some 28), none, (.un .not (.t 27))⟩]) (.cond (.t 28) (.seq (.reg [⟨(some 2), none, (.mv (.c (.int .i64 5)))⟩]) .ret) .skip)) (.seq (.seq (.dreg [⟨(some 29), none, (.mv (.t 0))⟩, ⟨(some 30), none, (.nilck (.t 29))⟩, ⟨(some 31), none, (.faddr 0 (.t 30))⟩, ⟨(some 32), none, (.load none (.t 31))⟩, ⟨(some 33), none, (.mv (.t 0))⟩, ⟨(some 34), none, (.nilck (.t 33))⟩, ⟨(some 35), none, (.faddr 1 (.t 34))⟩, ⟨(some 36), none, (.load none (.t 35))⟩, ⟨(some 37), none, (.slice (some 6) (.t 32) none (some (.t 36)))⟩, ⟨(some 38), none, (.len false (.t 37))⟩, ⟨(some 39), none, (.mv (.c (.int .i64 0)))⟩] []) (.block 0 (.loop (.seq (.reg [⟨(some 40), none, (.bin .lss (.t 39) (.t 38))⟩]) (.seq (.cond (.t 40) .skip (.exit 0)) (.seq (.block 1 (.seq (.reg [⟨(some 41), none, (.iaddr 6 (.t 37) (.t 39))⟩, ⟨(some 42), none, (.load (some 6) (.t 41))⟩, ⟨(some 8), none, (.allc 44 [(.int .i64 0), (.str []), (.int .i64 0), (.int .i64 0), (.int .i64 0), .nilS])⟩, ⟨none, none, (.store 6 (.t 8) (.t 42))⟩]) (.seq (.dreg [⟨(some 43), none, (.faddr 1 (.t 8))⟩, ⟨(some 44), none, (.load none (.t 43))⟩, ⟨(some 45), none, (.mv (.t 0))⟩, ⟨(some 46), none, (.nilck (.t 45))⟩, ⟨(some 47), none, (.faddr 2 (.t 46))⟩, ⟨(some 48), none, (.faddr 1 (.t 47))⟩, ⟨(some 49), none, (.load none (.t 48))⟩] [⟨(some 50), none, (.bin .eql (.t 44) (.t 49))⟩]) (.cond (.t 50) (.seq (.reg [⟨(some 2), none, (.mv (.c (.int .i64 6)))⟩]) .ret) .skip)))) (.reg [⟨(some 51), none, (.bin .add (.t 39) (.c (.int .i64 1)))⟩, ⟨(some 39), none, (.mv (.t 51))⟩]))))))) (.seq (.reg [⟨(some 2), none, (.mv (.c (.int .i64 0)))⟩]) .ret)))))
theorem types_look_named.code : comp PG [] (Try.f46.body.getD .skip) = types_look_named.c := by kernel_rfl
theorem types_look_named.of {args : List AV} {H : AH} {K : AV → AH → Prop} (hl : args.length = 1) (h : wpA PG types_look_named.c none (endA [(.t 2)] K) (initFr args) H) : ACalls PG 46 args H K :=
  ACalls.of_code (fl := []) mixed Try.func46 (c := Try.f46.body.getD .skip) (by kernel_rfl) (by kernel_rfl) (by rw [hl]; exact of_decide_eq_true (by kernel_rfl)) (by rw [types_look_named.code]; kernel_rfl)
    (by rw [types_look_named.code, show compRes PG Try.f46.results.toList = [(.t 2)] from by kernel_rfl]; exact h)
def types_look_bound.n : Nat := 47
noncomputable def types_look_bound.c : C := (.seq (.reg [⟨(some 2), none, (.mv (.c (.int .i64 0)))⟩]) (.seq (.reg [⟨(some 8), none, (.mv (.t 0))⟩, ⟨(some 9), none, (.nilck (.t 8))⟩, ⟨(some 10), none, (.faddr 2 (.t 9))⟩, ⟨(some 11), none, (.faddr 0 (.t 10))⟩, ⟨(some 12), none, (.load none (.t 11))⟩, ⟨(some 13), none, (.call 72 [(.t 12)])⟩, ⟨(some 7), none, (.mv (.t 13))⟩, ⟨(some 14), none, (.extr (.t 7) 0)⟩, ⟨(some 15), none, (.extr (.t 7) 1)⟩, ⟨(some 16), none, (.extr (.t 7) 2)⟩, ⟨(some 17), none, (.extr (.t 7) 3)⟩, ⟨(some 3), none, (.mv (.t 14))⟩, ⟨(some 4), none, (.mv (.t 15))⟩, ⟨(some 5), none, (.mv (.t 16))⟩, ⟨(some 6), none, (.mv (.t 17))⟩]) (.seq (.seq (.reg [⟨(some 18), none, (.mv (.t 4))⟩, ⟨(some 19), none, (.mv (.t 18))⟩, ⟨(some 20), (some (19, true)), (.mv (.t 0))⟩, ⟨(some 21), (some (19, true)), (.nilck (.t 20))⟩, ⟨(some 22), (some (19, true)), (.faddr 2 (.t 21))⟩, ⟨(some 23), (some (19, true)), (.faddr 2 (.t 22))⟩, ⟨(some 24), (some (19, true)), (.load none (.t 23))⟩, ⟨(some 25), (some (19, true)), (.bin .gtr (.t 24) (.c (.int .i64 64)))⟩, ⟨(some 26), (some (19, true)), (.mv (.t 25))⟩, ⟨(some 27), (some (26, false)), (.mv (.t 0))⟩, ⟨(some 28), (some (26, false)), (.nilck (.t 27))⟩, ⟨(some 29), (some (26, false)), (.faddr 2 (.t 28))⟩, ⟨(some 30), (some (26, false)), (.faddr 2 (.t 29))⟩, ⟨(some 31), (some (26, false)), (.load none (.t 30))⟩, ⟨(some 32), (some (26, false)), (.bin .lss (.t 31) (.c (.int .i64 0)))⟩, ⟨(some 33), (some (19, true)), (.pick (.t 26) (.c (.bool true)) (.t 32))⟩, ⟨(some 34), (some (19, true)), (.mv (.t 33))⟩, ⟨(some 35), (some (34, false)), (.mv (.t 5))⟩, ⟨(some 36), (some (34, false)), (.mv (.t 35))⟩, ⟨(some 37), (some (36, true)), (.mv (.t 0))⟩, ⟨(some 38), (some (36, true)), (.nilck (.t 37))⟩, ⟨(some 39), (some (36, true)), (.faddr 2 (.t 38))⟩, ⟨(some 40), (some (36, true)), (.faddr 2 (.t 39))⟩, ⟨(some 41), (some (36, true)), (.load none (.t 40))⟩, ⟨(some 42), (some (36, true)), (.bin .eql (.t 41) (.c (.int .i64 0)))⟩, ⟨(some 43), (some (34, false)), (.pick (.t 36) (.t 42) (.c (.bool false)))⟩, ⟨(some 44), (some (19, true)), (.pick (.t 34) (.c (.bool true)) (.t 43))⟩, ⟨(some 45), none, (.pick (.t 19) (.t 44) (.c (.bool false)))⟩]) (.cond (.t 45) (.seq (.reg [⟨(some 2), none, (.mv (.c (.int .i64 7)))⟩]) .ret) .skip)) (.seq (.reg [⟨(some 2), none, (.mv (.c (.int .i64 0)))⟩]) .ret))))
theorem types_look_bound.code : comp PG [] (Try.f47.body.getD .skip) = types_look_bound.c := by kernel_rfl
theorem types_look_bound.of {args : List AV} {H : AH} {K : AV → AH → Prop} (hl : args.length = 1) (h : wpA PG types_look_bound.c none (endA [(.t 2)] K) (initFr args) H) : ACalls PG 47 args H K :=
  ACalls.of_code (fl := []) mixed Try.func47 (c := Try.f47.body.getD .skip) (by kernel_rfl) (by kernel_rfl) (by rw [hl]; exact of_decide_eq_true (by kernel_rfl)) (by rw [types_look_bound.code]; kernel_rfl)
    (by rw [types_look_bound.code, show compRes PG Try.f47.results.toList = [(.t 2)] from by kernel_rfl]; exact h)
def types_look_order.n : Nat := 48
noncomputable def types_look_order.c : C := (.seq (.reg [⟨(some 2), none, (.mv (.c (.int .i64 0)))⟩]) (.seq (.seq (.reg [⟨(some 5), none, (.mv (.t 0))⟩, ⟨(some 6), none, (.nilck (.t 5))⟩, ⟨(some 7), none, (.faddr 2 (.t 6))⟩, ⟨(some 8), none, (.load (some 6) (.t 7))⟩, ⟨(some 9), none, (.call 74 [(.t 8)])⟩, ⟨(some 10), none, (.len false (.t 9))⟩, ⟨(some 11), none, (.mv (.c (.int .i64 0)))⟩]) (.block 0 (.loop (.seq (.reg [⟨(some 12), none, (.bin .lss (.t 11) (.t 10))⟩]) (.seq (.cond (.t 12) .skip (.exit 0)) (.seq (.block 1 (.seq (.reg [⟨(some 13), none, (.iaddr 1 (.t 9) (.t 11))⟩, ⟨(some 14), none, (.load none (.t 13))⟩, ⟨(some 4), none, (.mv (.t 14))⟩]) (.seq (.reg [⟨(some 15), none, (.mv (.t 4))⟩, ⟨(some 16), none, (.bin .lss (.t 15) (.c (.int .i64 0)))⟩, ⟨(some 17), none, (.mv (.t 16))⟩, ⟨(some 18), (some (17, false)), (.mv (.t 4))⟩, ⟨(some 19), (some (17, false)), (.mv (.t 0))⟩, ⟨(some 20), (some (17, false)), (.nilck (.t 19))⟩, ⟨(some 21), (some (17, false)), (.faddr 1 (.t 20))⟩, ⟨(some 22), (some (17, false)), (.load none (.t 21))⟩, ⟨(some 23), (some (17, false)), (.bin .geq (.t 18) (.t 22))⟩, ⟨(some 24), none, (.pick (.t 17) (.c (.bool true)) (.t 23))⟩]) (.cond (.t 24) (.seq (.reg [⟨(some 2), none, (.mv (.c (.int .i64 14)))⟩]) .ret) .skip)))) (.reg [⟨(some 25), none, (.bin .add (.t 11) (.c (.int .i64 1)))⟩, ⟨(some 11), none, (.mv (.t 25))⟩]))))))) (.seq (.seq (.dreg [⟨(some 26), none, (.mv (.t 0))⟩, ⟨(some 27), none, (.nilck (.t 26))⟩, ⟨(some 28), none, (.faddr 2 (.t 27))⟩, ⟨(some 29), none, (.faddr 0 (.t 28))⟩, ⟨(some 30), none, (.load none (.t 29))⟩, ⟨(some 31), none, (.bin .eql (.t 30) (.c (.int .i64 14)))⟩, ⟨(some 32), none, (.mv (.t 31))⟩, ⟨(some 33), (some (32, true)), (.mv (.t 0))⟩, ⟨(some 34), (some (32, true)), (.nilck (.t 33))⟩, ⟨(some 35), (some (32, true)), (.faddr 0 (.t 34))⟩, ⟨(some 36), (some (32, true)), (.load none (.t 35))⟩, ⟨(some 37), (some (32, true)), (.mv (.t 0))⟩, ⟨(some 38), (some (32, true)), (.nilck (.t 37))⟩, ⟨(some 39), (some (32, true)), (.faddr 2 (.t 38))⟩, ⟨(some 40), (some (32, true)), (.faddr 4 (.t 39))⟩, ⟨(some 41), (some (32, true)), (.load none (.t 40))⟩] [⟨(some 42), (some (32, true)), (.iaddr 6 (.t 36) (.t 41))⟩, ⟨(some 43), (some (32, true)), (.faddr 0 (.t 42))⟩, ⟨(some 44), (some (32, true)), (.load none (.t 43))⟩, ⟨(some 45), (some (32, true)), (.call 29 [(.t 44)])⟩, ⟨(some 46), (some (32, true)), (.un .not (.t 45))⟩, ⟨(some 47), none, (.pick (.t 32) (.t 46) (.c (.bool false)))⟩]) (.cond (.t 47) (.seq (.reg [⟨(some 2), none, (.mv (.c (.int .i64 8)))⟩]) .ret) .skip)) (.seq (.reg [⟨(some 2), none, (.mv (.c (.int .i64 0)))⟩]) .ret))))
theorem types_look_order.code : comp PG [] (Try.f48.body.getD .skip) = types_look_order.c := by kernel_rfl
theorem types_look_order.of {args : List AV} {H : AH} {K : AV → AH → Prop} (hl : args.length = 1) (h : wpA PG types_look_order.c none (endA [(.t 2)] K) (initFr args) H) : ACalls PG 48 args H K :=
  ACalls.of_code (fl := []) mixed Try.func48 (c := Try.f48.body.getD .skip) (by kernel_rfl) (by kernel_rfl) (by rw [hl]; exact of_decide_eq_true (by kernel_rfl)) (by rw [types_look_order.code]; kernel_rfl)
    (by rw [types_look_order.code, show compRes PG Try.f48.results.toList = [(.t 2)] from by kernel_rfl]; exact h)
def types_look_items.n : Nat := 49
noncomputable def types_look_items.c : C := (.seq (.reg [⟨(some 2), none, (.mv (.c (.int .i64 0)))⟩]) (.seq (.seq (.reg [⟨(some 11), none, (.mv (.t 0))⟩, ⟨(some 12), none, (.nilck (.t 11))⟩, ⟨(some 13), none, (.faddr 2 (.t 12))⟩, ⟨(some 14), none, (.faddr 0 (.t 13))⟩, ⟨(some 15), none, (.load none (.t 14))⟩, ⟨(some 16), none, (.call 72 [(.t 15)])⟩, ⟨(some 10), none, (.mv (.t 16))⟩, ⟨(some 17), none, (.extr (.t 10) 0)⟩, ⟨(some 18), none, (.extr (.t 10) 1)⟩, ⟨(some 19), none, (.extr (.t 10) 2)⟩, ⟨(some 20), none, (.extr (.t 10) 3)⟩, ⟨(some 3), none, (.mv (.t 17))⟩, ⟨(some 4), none, (.mv (.t 18))⟩, ⟨(some 5), none, (.mv (.t 19))⟩, ⟨(some 6), none, (.mv (.t 20))⟩]) (.seq (.reg [⟨(some 21), none, (.mv (.t 3))⟩, ⟨(some 22), none, (.un .not (.t 21))⟩]) (.cond (.t 22) (.seq (.reg [⟨(some 2), none, (.mv (.c (.int .i64 0)))⟩]) .ret) .skip))) (.seq (.seq (.reg [⟨(some 23), none, (.mv (.t 0))⟩, ⟨(some 24), none, (.nilck (.t 23))⟩, ⟨(some 25), none, (.faddr 2 (.t 24))⟩, ⟨(some 26), none, (.faddr 5 (.t 25))⟩, ⟨(some 27), none, (.load none (.t 26))⟩, ⟨(some 28), none, (.len false (.t 27))⟩, ⟨(some 7), none, (.mv (.t 28))⟩]) (.block 0 (.seq (.reg [⟨(some 30), none, (.mv (.t 7))⟩, ⟨(some 31), none, (.bin .eql (.t 30) (.c (.int .i64 0)))⟩, ⟨(some 29), none, (.mv (.t 31))⟩]) (.cond (.t 29) (.seq (.reg [⟨(some 2), none, (.mv (.c (.int .i64 18)))⟩]) .ret) (.seq (.reg [⟨(some 33), none, (.mv (.t 7))⟩, ⟨(some 34), none, (.bin .gtr (.t 33) (.c (.int .i64 16)))⟩, ⟨(some 32), none, (.mv (.t 34))⟩]) (.cond (.t 32) (.seq (.reg [⟨(some 2), none, (.mv (.c (.int .i64 3)))⟩]) .ret) .skip)))))) (.seq (.seq (.reg [⟨(some 35), none, (.mv (.t 0))⟩, ⟨(some 36), none, (.nilck (.t 35))⟩, ⟨(some 37), none, (.faddr 2 (.t 36))⟩, ⟨(some 38), none, (.faddr 5 (.t 37))⟩, ⟨(some 39), none, (.load none (.t 38))⟩, ⟨(some 40), none, (.len false (.t 39))⟩, ⟨(some 41), none, (.mv (.c (.int .i64 0)))⟩]) (.block 1 (.loop (.seq (.reg [⟨(some 42), none, (.bin .lss (.t 41) (.t 40))⟩]) (.seq (.cond (.t 42) .skip (.exit 1)) (.seq (.block 2 (.seq (.reg [⟨(some 43), none, (.mv (.t 41))⟩, ⟨(some 8), none, (.mv (.t 43))⟩]) (.seq (.reg [⟨(some 44), none, (.mv (.t 0))⟩, ⟨(some 45), none, (.mv (.t 8))⟩, ⟨(some 46), none, (.call 75 [(.t 44), (.t 45)])⟩, ⟨(some 9), none, (.mv (.t 46))⟩]) (.seq (.reg [⟨(some 47), none, (.mv (.t 9))⟩, ⟨(some 48), none, (.bin .neq (.t 47) (.c (.int .i64 0)))⟩]) (.cond (.t 48) (.seq (.reg [⟨(some 49), none, (.mv (.t 9))⟩, ⟨(some 2), none, (.mv (.t 49))⟩]) .ret) .skip))))) (.reg [⟨(some 50), none, (.bin .add (.t 41) (.c (.int .i64 1)))⟩, ⟨(some 41), none, (.mv (.t 50))⟩]))))))) (.seq (.reg [⟨(some 2), none, (.mv (.c (.int .i64 0)))⟩]) .ret)))))
theorem types_look_items.code : comp PG [] (Try.f49.body.getD .skip) = types_look_items.c := by kernel_rfl
theorem types_look_items.of {args : List AV} {H : AH} {K : AV → AH → Prop} (hl : args.length = 1) (h : wpA PG types_look_items.c none (endA [(.t 2)] K) (initFr args) H) : ACalls PG 49 args H K :=
  ACalls.of_code (fl := []) mixed Try.func49 (c := Try.f49.body.getD .skip) (by kernel_rfl) (by kernel_rfl) (by rw [hl]; exact of_decide_eq_true (by kernel_rfl)) (by rw [types_look_items.code]; kernel_rfl)
    (by rw [types_look_items.code, show compRes PG Try.f49.results.toList = [(.t 2)] from by kernel_rfl]; exact h)
def types_look_deep.n : Nat := 50
noncomputable def types_look_deep.c : C := (.seq (.reg [⟨(some 2), none, (.mv (.c (.int .i64 0)))⟩]) (.seq (.seq (.dreg [⟨(some 3), none, (.mv (.t 0))⟩, ⟨(some 4), none, (.nilck (.t 3))⟩, ⟨(some 5), none, (.faddr 0 (.t 4))⟩, ⟨(some 6), none, (.load none (.t 5))⟩, ⟨(some 7), none, (.mv (.t 0))⟩, ⟨(some 8), none, (.nilck (.t 7))⟩, ⟨(some 9), none, (.faddr 1 (.t 8))⟩, ⟨(some 10), none, (.load none (.t 9))⟩] [⟨(some 11), none, (.call 76 [(.t 6), (.t 10)])⟩, ⟨(some 12), none, (.bin .gtr (.t 11) (.c (.int .i64 6)))⟩]) (.cond (.t 12) (.seq (.reg [⟨(some 2), none, (.mv (.c (.int .i64 9)))⟩]) .ret) .skip)) (.seq (.reg [⟨(some 2), none, (.mv (.c (.int .i64 0)))⟩]) .ret)))
theorem types_look_deep.code : comp PG [] (Try.f50.body.getD .skip) = types_look_deep.c := by kernel_rfl
theorem types_look_deep.of {args : List AV} {H : AH} {K : AV → AH → Prop} (hl : args.length = 1) (h : wpA PG types_look_deep.c none (endA [(.t 2)] K) (initFr args) H) : ACalls PG 50 args H K :=
  ACalls.of_code (fl := []) mixed Try.func50 (c := Try.f50.body.getD .skip) (by kernel_rfl) (by kernel_rfl) (by rw [hl]; exact of_decide_eq_true (by kernel_rfl)) (by rw [types_look_deep.code]; kernel_rfl)
    (by rw [types_look_deep.code, show compRes PG Try.f50.results.toList = [(.t 2)] from by kernel_rfl]; exact h)
def types_Value.n : Nat := 51
noncomputable def types_Value.c : C := (.seq (.reg [⟨(some 5), none, (.box 23 (.t 2))⟩, ⟨(some 6), none, (.mv (.c (.int .i64 0)))⟩, ⟨(some 7), none, (.mv (.c (.bool false)))⟩]) (.seq (.reg [⟨(some 8), none, (.mv (.t 0))⟩, ⟨(some 9), none, (.mv (.t 1))⟩, ⟨(some 10), none, (.mkfn 79 [] [(.t 5)])⟩, ⟨(some 11), none, (.call 77 [(.t 8), (.t 9), (.c (.clo 78 [] [])), (.t 10)])⟩, ⟨(some 12), none, (.extr (.t 11) 0)⟩, ⟨(some 13), none, (.extr (.t 11) 1)⟩, ⟨(some 6), none, (.mv (.t 12))⟩, ⟨(some 7), none, (.mv (.t 13))⟩]) .ret))
theorem types_Value.code : comp PG [] (Try.f51.body.getD .skip) = types_Value.c := by kernel_rfl
theorem types_Value.of {args : List AV} {H : AH} {K : AV → AH → Prop} (hl : args.length = 3) (h : wpA PG types_Value.c none (endA [(.t 6), (.t 7)] K) (initFr args) H) : ACalls PG 51 args H K :=
  ACalls.of_code (fl := []) mixed Try.func51 (c := Try.f51.body.getD .skip) (by kernel_rfl) (by kernel_rfl) (by rw [hl]; exact of_decide_eq_true (by kernel_rfl)) (by rw [types_Value.code]; kernel_rfl)
    (by rw [types_Value.code, show compRes PG Try.f51.results.toList = [(.t 6), (.t 7)] from by kernel_rfl]; exact h)
def prim_May.n : Nat := 52
noncomputable def prim_May.c : C := (.seq (.reg [⟨(some 4), none, (.mv (.c (.bool false)))⟩]) (.seq (.reg [⟨(some 5), none, (.mv (.t 0))⟩, ⟨(some 6), none, (.call 29 [(.t 5)])⟩, ⟨(some 7), none, (.mv (.t 6))⟩, ⟨(some 8), (some (7, true)), (.mv (.t 0))⟩, ⟨(some 9), (some (7, true)), (.mv (.t 1))⟩, ⟨(some 10), (some (7, true)), (.call 80 [(.t 8), (.t 9)])⟩, ⟨(some 11), (some (7, true)), (.mv (.t 1))⟩, ⟨(some 12), (some (7, true)), (.bin .eql (.t 10) (.t 11))⟩, ⟨(some 13), none, (.pick (.t 7) (.t 12) (.c (.bool false)))⟩, ⟨(some 14), none, (.mv (.t 13))⟩, ⟨(some 15), (some (14, true)), (.mv (.t 0))⟩, ⟨(some 16), (some (14, true)), (.bin .neq (.t 15) (.c (.int .i64 1)))⟩, ⟨(some 17), (some (14, true)), (.mv (.t 16))⟩, ⟨(some 18), (some (17, false)), (.mv (.t 1))⟩, ⟨(some 19), (some (17, false)), (.bin .leq (.t 18) (.c (.int .u64 1)))⟩, ⟨(some 20), (some (14, true)), (.pick (.t 17) (.c (.bool true)) (.t 19))⟩, ⟨(some 21), none, (.pick (.t 14) (.t 20) (.c (.bool false)))⟩, ⟨(some 4), none, (.mv (.t 21))⟩]) .ret))
theorem prim_May.code : comp PG [] (Try.f52.body.getD .skip) = prim_May.c := by kernel_rfl
theorem prim_May.of {args : List AV} {H : AH} {K : AV → AH → Prop} (hl : args.length = 2) (h : wpA PG prim_May.c none (endA [(.t 4)] K) (initFr args) H) : ACalls PG 52 args H K :=
  ACalls.of_code (fl := []) mixed Try.func52 (c := Try.f52.body.getD .skip) (by kernel_rfl) (by kernel_rfl) (by rw [hl]; exact of_decide_eq_true (by kernel_rfl)) (by rw [prim_May.code]; kernel_rfl)
    (by rw [prim_May.code, show compRes PG Try.f52.results.toList = [(.t 4)] from by kernel_rfl]; exact h)
def types_Branch.n : Nat := 54
noncomputable def types_Branch.c : C := (.seq (.reg [⟨(some 5), none, (.box 23 (.t 2))⟩, ⟨(some 6), none, (.mv (.c (.int .i64 0)))⟩, ⟨(some 7), none, (.mv (.c (.bool false)))⟩]) (.seq (.reg [⟨(some 8), none, (.mv (.c (.clo 82 [] [])))⟩]) (.seq (.seq (.reg [⟨(some 12), none, (.mv (.t 0))⟩, ⟨(some 13), none, (.mv (.t 1))⟩, ⟨(some 14), none, (.mv (.t 8))⟩, ⟨(some 15), none, (.mkfn 83 [] [(.t 5)])⟩, ⟨(some 16), none, (.call 77 [(.t 12), (.t 13), (.t 14), (.t 15)])⟩, ⟨(some 11), none, (.mv (.t 16))⟩, ⟨(some 17), none, (.extr (.t 11) 0)⟩, ⟨(some 18), none, (.extr (.t 11) 1)⟩, ⟨(some 9), none, (.mv (.t 17))⟩, ⟨(some 10), none, (.mv (.t 18))⟩]) (.seq (.reg [⟨(some 19), none, (.mv (.t 10))⟩]) (.cond (.t 19) (.seq (.reg [⟨(some 20), none, (.mv (.t 9))⟩, ⟨(some 6), none, (.mv (.t 20))⟩, ⟨(some 7), none, (.mv (.c (.bool true)))⟩]) .ret) .skip))) (.seq (.reg [⟨(some 21), none, (.mv (.t 0))⟩, ⟨(some 22), none, (.mv (.t 1))⟩, ⟨(some 23), none, (.mv (.t 8))⟩, ⟨(some 24), none, (.call 77 [(.t 21), (.t 22), (.t 23), (.c (.clo 84 [] []))])⟩, ⟨(some 25), none, (.extr (.t 24) 0)⟩, ⟨(some 26), none, (.extr (.t 24) 1)⟩, ⟨(some 6), none, (.mv (.t 25))⟩, ⟨(some 7), none, (.mv (.t 26))⟩]) .ret))))
theorem types_Branch.code : comp PG [] (Try.f54.body.getD .skip) = types_Branch.c := by kernel_rfl
theorem types_Branch.of {args : List AV} {H : AH} {K : AV → AH → Prop} (hl : args.length = 3) (h : wpA PG types_Branch.c none (endA [(.t 6), (.t 7)] K) (initFr args) H) : ACalls PG 54 args H K :=
  ACalls.of_code (fl := []) mixed Try.func54 (c := Try.f54.body.getD .skip) (by kernel_rfl) (by kernel_rfl) (by rw [hl]; exact of_decide_eq_true (by kernel_rfl)) (by rw [types_Branch.code]; kernel_rfl)
    (by rw [types_Branch.code, show compRes PG Try.f54.results.toList = [(.t 6), (.t 7)] from by kernel_rfl]; exact h)
def prim_Size.n : Nat := 60
noncomputable def prim_Size.c : C := (.seq (.reg [⟨(some 2), none, (.mv (.c (.int .i64 0)))⟩]) (.seq (.reg [⟨(some 3), none, (.mv (.t 0))⟩, ⟨(some 4), none, (.call 87 [(.t 3)])⟩, ⟨(some 5), none, (.field 0 none (.t 4))⟩, ⟨(some 2), none, (.mv (.t 5))⟩]) .ret))
theorem prim_Size.code : comp PG [] (Try.f60.body.getD .skip) = prim_Size.c := by kernel_rfl
theorem prim_Size.of {args : List AV} {H : AH} {K : AV → AH → Prop} (hl : args.length = 1) (h : wpA PG prim_Size.c none (endA [(.t 2)] K) (initFr args) H) : ACalls PG 60 args H K :=
  ACalls.of_code (fl := []) mixed Try.func60 (c := Try.f60.body.getD .skip) (by kernel_rfl) (by kernel_rfl) (by rw [hl]; exact of_decide_eq_true (by kernel_rfl)) (by rw [prim_Size.code]; kernel_rfl)
    (by rw [prim_Size.code, show compRes PG Try.f60.results.toList = [(.t 2)] from by kernel_rfl]; exact h)
def types_has.n : Nat := 72
noncomputable def types_has.c : C := (.seq (.reg [⟨(some 2), none, (.mv (.c (.bool false)))⟩, ⟨(some 3), none, (.mv (.c (.bool false)))⟩, ⟨(some 4), none, (.mv (.c (.bool false)))⟩, ⟨(some 5), none, (.mv (.c (.bool false)))⟩]) (.seq (.seq (.reg [⟨(some 6), none, (.mv (.t 0))⟩]) (.block 0 (.seq (.reg [⟨(some 8), none, (.bin .eql (.t 6) (.c (.int .i64 10)))⟩, ⟨(some 7), none, (.mv (.t 8))⟩]) (.cond (.t 7) (.reg [⟨(some 3), none, (.mv (.c (.bool true)))⟩]) (.seq (.seq (.reg [⟨(some 10), none, (.bin .eql (.t 6) (.c (.int .i64 11)))⟩, ⟨(some 9), none, (.mv (.t 10))⟩]) (.cond (.t 9) .skip (.reg [⟨(some 11), none, (.bin .eql (.t 6) (.c (.int .i64 12)))⟩, ⟨(some 9), none, (.mv (.t 11))⟩]))) (.cond (.t 9) (.reg [⟨(some 3), none, (.mv (.c (.bool true)))⟩, ⟨(some 4), none, (.mv (.c (.bool true)))⟩]) (.seq (.seq (.reg [⟨(some 13), none, (.bin .eql (.t 6) (.c (.int .i64 9)))⟩, ⟨(some 12), none, (.mv (.t 13))⟩]) (.cond (.t 12) .skip (.reg [⟨(some 14), none, (.bin .eql (.t 6) (.c (.int .i64 13)))⟩, ⟨(some 12), none, (.mv (.t 14))⟩]))) (.cond (.t 12) (.reg [⟨(some 2), none, (.mv (.c (.bool true)))⟩]) (.seq (.reg [⟨(some 16), none, (.bin .eql (.t 6) (.c (.int .i64 14)))⟩, ⟨(some 15), none, (.mv (.t 16))⟩]) (.cond (.t 15) (.reg [⟨(some 2), none, (.mv (.c (.bool true)))⟩, ⟨(some 5), none, (.mv (.c (.bool true)))⟩]) .skip)))))))))) (.seq (.reg [⟨(some 17), none, (.mv (.t 2))⟩, ⟨(some 18), none, (.mv (.t 3))⟩, ⟨(some 19), none, (.mv (.t 4))⟩, ⟨(some 20), none, (.mv (.t 5))⟩, ⟨(some 2), none, (.mv (.t 17))⟩, ⟨(some 3), none, (.mv (.t 18))⟩, ⟨(some 4), none, (.mv (.t 19))⟩, ⟨(some 5), none, (.mv (.t 20))⟩]) .ret)))
theorem types_has.code : comp PG [] (Try.f72.body.getD .skip) = types_has.c := by kernel_rfl
theorem types_has.of {args : List AV} {H : AH} {K : AV → AH → Prop} (hl : args.length = 1) (h : wpA PG types_has.c none (endA [(.t 2), (.t 3), (.t 4), (.t 5)] K) (initFr args) H) : ACalls PG 72 args H K :=
  ACalls.of_code (fl := []) mixed Try.func72 (c := Try.f72.body.getD .skip) (by kernel_rfl) (by kernel_rfl) (by rw [hl]; exact of_decide_eq_true (by kernel_rfl)) (by rw [types_has.code]; kernel_rfl)
    (by rw [types_has.code, show compRes PG Try.f72.results.toList = [(.t 2), (.t 3), (.t 4), (.t 5)] from by kernel_rfl]; exact h)
def name_Name.n : Nat := 73
noncomputable def name_Name.c : C := (.seq (.reg [⟨(some 2), none, (.mv (.c (.bool false)))⟩]) (.seq (.reg [⟨(some 3), none, (.mv (.t 0))⟩, ⟨(some 4), none, (.bin .neq (.t 3) (.c (.str [])))⟩, ⟨(some 5), none, (.mv (.t 4))⟩, ⟨(some 6), (some (5, true)), (.mv (.t 0))⟩, ⟨(some 7), (some (5, true)), (.len true (.t 6))⟩, ⟨(some 8), (some (5, true)), (.bin .leq (.t 7) (.c (.int .i64 16)))⟩, ⟨(some 9), none, (.pick (.t 5) (.t 8) (.c (.bool false)))⟩, ⟨(some 10), none, (.mv (.t 9))⟩, ⟨(some 11), (some (10, true)), (.mv (.t 0))⟩, ⟨(some 12), (some (10, true)), (.call 92 [(.t 11)])⟩, ⟨(some 13), (some (10, true)), (.mv (.t 0))⟩, ⟨(some 14), (some (10, true)), (.len true (.t 13))⟩, ⟨(some 15), (some (10, true)), (.bin .eql (.t 12) (.t 14))⟩, ⟨(some 16), none, (.pick (.t 10) (.t 15) (.c (.bool false)))⟩, ⟨(some 17), none, (.mv (.t 16))⟩, ⟨(some 18), (some (17, true)), (.mv (.t 0))⟩, ⟨(some 19), (some (17, true)), (.call 93 [(.t 18)])⟩, ⟨(some 20), (some (17, true)), (.un .not (.t 19))⟩, ⟨(some 21), none, (.pick (.t 17) (.t 20) (.c (.bool false)))⟩, ⟨(some 2), none, (.mv (.t 21))⟩]) .ret))
theorem name_Name.code : comp PG [] (Try.f73.body.getD .skip) = name_Name.c := by kernel_rfl
theorem name_Name.of {args : List AV} {H : AH} {K : AV → AH → Prop} (hl : args.length = 1) (h : wpA PG name_Name.c none (endA [(.t 2)] K) (initFr args) H) : ACalls PG 73 args H K :=
  ACalls.of_code (fl := []) mixed Try.func73 (c := Try.f73.body.getD .skip) (by kernel_rfl) (by kernel_rfl) (by rw [hl]; exact of_decide_eq_true (by kernel_rfl)) (by rw [name_Name.code]; kernel_rfl)
    (by rw [name_Name.code, show compRes PG Try.f73.results.toList = [(.t 2)] from by kernel_rfl]; exact h)
def types_parts.n : Nat := 74
noncomputable def types_parts.c : C := (.seq (.reg [⟨(some 1), none, (.box 44 (.t 0))⟩, ⟨(some 2), none, (.mv (.c .nilS))⟩]) (.seq (.reg [⟨(some 3), none, (.mv (.c .nilS))⟩]) (.seq (.reg [⟨(some 11), none, (.faddr 0 (.t 1))⟩, ⟨(some 12), none, (.load none (.t 11))⟩, ⟨(some 13), none, (.call 72 [(.t 12)])⟩, ⟨(some 10), none, (.mv (.t 13))⟩, ⟨(some 14), none, (.extr (.t 10) 0)⟩, ⟨(some 15), none, (.extr (.t 10) 1)⟩, ⟨(some 16), none, (.extr (.t 10) 2)⟩, ⟨(some 17), none, (.extr (.t 10) 3)⟩, ⟨(some 4), none, (.mv (.t 14))⟩, ⟨(some 5), none, (.mv (.t 15))⟩, ⟨(some 6), none, (.mv (.t 16))⟩, ⟨(some 7), none, (.mv (.t 17))⟩]) (.seq (.seq (.reg [⟨(some 18), none, (.mv (.t 6))⟩]) (.cond (.t 18) (.reg [⟨(some 19), none, (.mv (.t 3))⟩, ⟨(some 20), none, (.faddr 3 (.t 1))⟩, ⟨(some 21), none, (.load none (.t 20))⟩, ⟨(some 22), none, (.bslice 3 1 1 [(.int .i64 0)] [(0, (.t 21))])⟩, ⟨(some 23), none, (.append 3 false 1 8 (.t 19) (.t 22))⟩, ⟨(some 3), none, (.mv (.t 23))⟩]) .skip)) (.seq (.seq (.reg [⟨(some 24), none, (.mv (.t 7))⟩]) (.cond (.t 24) (.reg [⟨(some 25), none, (.mv (.t 3))⟩, ⟨(some 26), none, (.faddr 4 (.t 1))⟩, ⟨(some 27), none, (.load none (.t 26))⟩, ⟨(some 28), none, (.bslice 3 1 1 [(.int .i64 0)] [(0, (.t 27))])⟩, ⟨(some 29), none, (.append 3 false 1 8 (.t 25) (.t 28))⟩, ⟨(some 3), none, (.mv (.t 29))⟩]) .skip)) (.seq (.seq (.reg [⟨(some 30), none, (.faddr 0 (.t 1))⟩, ⟨(some 31), none, (.load none (.t 30))⟩, ⟨(some 32), none, (.bin .eql (.t 31) (.c (.int .i64 13)))⟩, ⟨(some 33), none, (.mv (.t 32))⟩, ⟨(some 34), (some (33, false)), (.faddr 0 (.t 1))⟩, ⟨(some 35), (some (33, false)), (.load none (.t 34))⟩, ⟨(some 36), (some (33, false)), (.bin .eql (.t 35) (.c (.int .i64 14)))⟩, ⟨(some 37), none, (.pick (.t 33) (.c (.bool true)) (.t 36))⟩]) (.cond (.t 37) (.seq (.reg [⟨(some 38), none, (.faddr 5 (.t 1))⟩, ⟨(some 39), none, (.load none (.t 38))⟩, ⟨(some 40), none, (.len false (.t 39))⟩, ⟨(some 41), none, (.mv (.c (.int .i64 0)))⟩]) (.block 0 (.loop (.seq (.reg [⟨(some 42), none, (.bin .lss (.t 41) (.t 40))⟩]) (.seq (.cond (.t 42) .skip (.exit 0)) (.seq (.block 1 (.seq (.reg [⟨(some 43), none, (.iaddr 5 (.t 39) (.t 41))⟩, ⟨(some 44), none, (.load (some 5) (.t 43))⟩, ⟨(some 9), none, (.allc 80 [(.str []), (.int .u64 0), (.int .i64 0), (.bool false), (.bool false)])⟩, ⟨none, none, (.store 5 (.t 9) (.t 44))⟩]) (.reg [⟨(some 45), none, (.mv (.t 3))⟩, ⟨(some 46), none, (.faddr 2 (.t 9))⟩, ⟨(some 47), none, (.load none (.t 46))⟩, ⟨(some 48), none, (.bslice 3 1 1 [(.int .i64 0)] [(0, (.t 47))])⟩, ⟨(some 49), none, (.append 3 false 1 8 (.t 45) (.t 48))⟩, ⟨(some 3), none, (.mv (.t 49))⟩]))) (.reg [⟨(some 50), none, (.bin .add (.t 41) (.c (.int .i64 1)))⟩, ⟨(some 41), none, (.mv (.t 50))⟩]))))))) .skip)) (.seq (.reg [⟨(some 51), none, (.mv (.t 3))⟩, ⟨(some 2), none, (.mv (.t 51))⟩]) .ret)))))))
theorem types_parts.code : comp PG [] (Try.f74.body.getD .skip) = types_parts.c := by kernel_rfl
theorem types_parts.of {args : List AV} {H : AH} {K : AV → AH → Prop} (hl : args.length = 1) (h : wpA PG types_parts.c none (endA [(.t 2)] K) (initFr args) H) : ACalls PG 74 args H K :=
  ACalls.of_code (fl := []) mixed Try.func74 (c := Try.f74.body.getD .skip) (by kernel_rfl) (by kernel_rfl) (by rw [hl]; exact of_decide_eq_true (by kernel_rfl)) (by rw [types_parts.code]; kernel_rfl)
    (by rw [types_parts.code, show compRes PG Try.f74.results.toList = [(.t 2)] from by kernel_rfl]; exact h)
def types_look_item.n : Nat := 75
noncomputable def types_look_item.c : C := (.seq (.reg [⟨(some 4), none, (.mv (.c (.int .i64 0)))⟩]) (.seq (.reg [⟨(some 11), none, (.mv (.t 0))⟩, ⟨(some 12), none, (.nilck (.t 11))⟩, ⟨(some 13), none, (.faddr 2 (.t 12))⟩, ⟨(some 14), none, (.faddr 5 (.t 13))⟩, ⟨(some 15), none, (.load none (.t 14))⟩, ⟨(some 16), none, (.mv (.t 1))⟩, ⟨(some 17), none, (.iaddr 5 (.t 15) (.t 16))⟩, ⟨(some 18), none, (.load (some 5) (.t 17))⟩, ⟨(some 5), none, (.allc 80 [(.str []), (.int .u64 0), (.int .i64 0), (.bool false), (.bool false)])⟩, ⟨none, none, (.store 5 (.t 5) (.t 18))⟩]) (.seq (.seq (.reg [⟨(some 19), none, (.faddr 0 (.t 5))⟩, ⟨(some 20), none, (.load none (.t 19))⟩, ⟨(some 21), none, (.call 73 [(.t 20)])⟩, ⟨(some 22), none, (.un .not (.t 21))⟩]) (.cond (.t 22) (.seq (.reg [⟨(some 4), none, (.mv (.c (.int .i64 5)))⟩]) .ret) .skip)) (.seq (.seq (.reg [⟨(some 23), none, (.mv (.t 0))⟩, ⟨(some 24), none, (.nilck (.t 23))⟩, ⟨(some 25), none, (.faddr 2 (.t 24))⟩, ⟨(some 26), none, (.faddr 5 (.t 25))⟩, ⟨(some 27), none, (.load none (.t 26))⟩, ⟨(some 28), none, (.mv (.t 1))⟩, ⟨(some 29), none, (.slice (some 5) (.t 27) none (some (.t 28)))⟩, ⟨(some 30), none, (.len false (.t 29))⟩, ⟨(some 31), none, (.mv (.c (.int .i64 0)))⟩]) (.block 0 (.loop (.seq (.reg [⟨(some 32), none, (.bin .lss (.t 31) (.t 30))⟩]) (.seq (.cond (.t 32) .skip (.exit 0)) (.seq (.block 1 (.seq (.reg [⟨(some 33), none, (.iaddr 5 (.t 29) (.t 31))⟩, ⟨(some 34), none, (.load (some 5) (.t 33))⟩, ⟨(some 7), none, (.allc 80 [(.str []), (.int .u64 0), (.int .i64 0), (.bool false), (.bool false)])⟩, ⟨none, none, (.store 5 (.t 7) (.t 34))⟩]) (.seq (.reg [⟨(some 35), none, (.faddr 0 (.t 7))⟩, ⟨(some 36), none, (.load none (.t 35))⟩, ⟨(some 37), none, (.faddr 0 (.t 5))⟩, ⟨(some 38), none, (.load none (.t 37))⟩, ⟨(some 39), none, (.bin .eql (.t 36) (.t 38))⟩]) (.cond (.t 39) (.seq (.reg [⟨(some 4), none, (.mv (.c (.int .i64 6)))⟩]) .ret) .skip)))) (.reg [⟨(some 40), none, (.bin .add (.t 31) (.c (.int .i64 1)))⟩, ⟨(some 31), none, (.mv (.t 40))⟩]))))))) (.seq (.block 2 (.seq (.reg [⟨(some 42), none, (.mv (.t 0))⟩, ⟨(some 43), none, (.nilck (.t 42))⟩, ⟨(some 44), none, (.faddr 2 (.t 43))⟩, ⟨(some 45), none, (.faddr 0 (.t 44))⟩, ⟨(some 46), none, (.load none (.t 45))⟩, ⟨(some 47), none, (.bin .eql (.t 46) (.c (.int .i64 13)))⟩, ⟨(some 41), none, (.mv (.t 47))⟩]) (.cond (.t 41) (.seq (.seq (.dreg [⟨(some 48), none, (.mv (.t 0))⟩, ⟨(some 49), none, (.nilck (.t 48))⟩, ⟨(some 50), none, (.faddr 0 (.t 49))⟩, ⟨(some 51), none, (.load none (.t 50))⟩, ⟨(some 52), none, (.faddr 2 (.t 5))⟩, ⟨(some 53), none, (.load none (.t 52))⟩] [⟨(some 54), none, (.iaddr 6 (.t 51) (.t 53))⟩, ⟨(some 55), none, (.faddr 0 (.t 54))⟩, ⟨(some 56), none, (.load none (.t 55))⟩, ⟨(some 8), none, (.mv (.t 56))⟩]) (.seq (.reg [⟨(some 57), none, (.faddr 3 (.t 5))⟩, ⟨(some 58), none, (.load none (.t 57))⟩, ⟨(some 59), none, (.mv (.t 58))⟩, ⟨(some 60), (some (59, true)), (.mv (.t 8))⟩, ⟨(some 61), (some (59, true)), (.call 29 [(.t 60)])⟩, ⟨(some 62), (some (59, true)), (.un .not (.t 61))⟩, ⟨(some 63), none, (.pick (.t 59) (.t 62) (.c (.bool false)))⟩, ⟨(some 64), none, (.mv (.t 63))⟩, ⟨(some 65), (some (64, true)), (.mv (.t 8))⟩, ⟨(some 66), (some (64, true)), (.bin .neq (.t 65) (.c (.int .i64 10)))⟩, ⟨(some 67), none, (.pick (.t 64) (.t 66) (.c (.bool false)))⟩]) (.cond (.t 67) (.seq (.reg [⟨(some 4), none, (.mv (.c (.int .i64 17)))⟩]) .ret) .skip))) (.seq (.reg [⟨(some 4), none, (.mv (.c (.int .i64 0)))⟩]) .ret)) (.seq (.reg [⟨(some 69), none, (.faddr 4 (.t 5))⟩, ⟨(some 70), none, (.load none (.t 69))⟩, ⟨(some 71), none, (.mv (.t 70))⟩, ⟨(some 72), (some (71, true)), (.mv (.t 1))⟩, ⟨(some 73), (some (71, true)), (.mv (.t 0))⟩, ⟨(some 74), (some (71, true)), (.nilck (.t 73))⟩, ⟨(some 75), (some (71, true)), (.faddr 2 (.t 74))⟩, ⟨(some 76), (some (71, true)), (.faddr 5 (.t 75))⟩, ⟨(some 77), (some (71, true)), (.load none (.t 76))⟩, ⟨(some 78), (some (71, true)), (.len false (.t 77))⟩, ⟨(some 79), (some (71, true)), (.bin .sub (.t 78) (.c (.int .i64 1)))⟩, ⟨(some 80), (some (71, true)), (.bin .neq (.t 72) (.t 79))⟩, ⟨(some 81), none, (.pick (.t 71) (.t 80) (.c (.bool false)))⟩, ⟨(some 68), none, (.mv (.t 81))⟩]) (.cond (.t 68) (.seq (.reg [⟨(some 4), none, (.mv (.c (.int .i64 14)))⟩]) .ret) (.seq (.reg [⟨(some 83), none, (.faddr 4 (.t 5))⟩, ⟨(some 84), none, (.load none (.t 83))⟩, ⟨(some 82), none, (.mv (.t 84))⟩]) (.cond (.t 82) (.seq (.reg [⟨(some 4), none, (.mv (.c (.int .i64 0)))⟩]) .ret) (.seq (.reg [⟨(some 86), none, (.mv (.t 0))⟩, ⟨(some 87), none, (.faddr 1 (.t 5))⟩, ⟨(some 88), none, (.load none (.t 87))⟩, ⟨(some 89), none, (.call 94 [(.t 86), (.t 88)])⟩, ⟨(some 90), none, (.un .not (.t 89))⟩, ⟨(some 85), none, (.mv (.t 90))⟩]) (.cond (.t 85) (.seq (.reg [⟨(some 4), none, (.mv (.c (.int .i64 7)))⟩]) .ret) .skip))))))))) (.seq (.seq (.reg [⟨(some 91), none, (.mv (.t 0))⟩, ⟨(some 92), none, (.nilck (.t 91))⟩, ⟨(some 93), none, (.faddr 2 (.t 92))⟩, ⟨(some 94), none, (.faddr 5 (.t 93))⟩, ⟨(some 95), none, (.load none (.t 94))⟩, ⟨(some 96), none, (.mv (.t 1))⟩, ⟨(some 97), none, (.slice (some 5) (.t 95) none (some (.t 96)))⟩, ⟨(some 98), none, (.len false (.t 97))⟩, ⟨(some 99), none, (.mv (.c (.int .i64 0)))⟩]) (.block 3 (.loop (.seq (.reg [⟨(some 100), none, (.bin .lss (.t 99) (.t 98))⟩]) (.seq (.cond (.t 100) .skip (.exit 3)) (.seq (.block 4 (.seq (.reg [⟨(some 101), none, (.iaddr 5 (.t 97) (.t 99))⟩, ⟨(some 102), none, (.load (some 5) (.t 101))⟩, ⟨(some 10), none, (.allc 80 [(.str []), (.int .u64 0), (.int .i64 0), (.bool false), (.bool false)])⟩, ⟨none, none, (.store 5 (.t 10) (.t 102))⟩]) (.seq (.reg [⟨(some 103), none, (.faddr 1 (.t 10))⟩, ⟨(some 104), none, (.load none (.t 103))⟩, ⟨(some 105), none, (.faddr 1 (.t 5))⟩, ⟨(some 106), none, (.load none (.t 105))⟩, ⟨(some 107), none, (.bin .eql (.t 104) (.t 106))⟩]) (.cond (.t 107) (.seq (.reg [⟨(some 4), none, (.mv (.c (.int .i64 6)))⟩]) .ret) .skip)))) (.reg [⟨(some 108), none, (.bin .add (.t 99) (.c (.int .i64 1)))⟩, ⟨(some 99), none, (.mv (.t 108))⟩]))))))) (.seq (.reg [⟨(some 4), none, (.mv (.c (.int .i64 0)))⟩]) .ret)))))))
theorem types_look_item.code : comp PG [] (Try.f75.body.getD .skip) = types_look_item.c := by kernel_rfl
theorem types_look_item.of {args : List AV} {H : AH} {K : AV → AH → Prop} (hl : args.length = 2) (h : wpA PG types_look_item.c none (endA [(.t 4)] K) (initFr args) H) : ACalls PG 75 args H K :=
  ACalls.of_code (fl := []) mixed Try.func75 (c := Try.f75.body.getD .skip) (by kernel_rfl) (by kernel_rfl) (by rw [hl]; exact of_decide_eq_true (by kernel_rfl)) (by rw [types_look_item.code]; kernel_rfl)
    (by rw [types_look_item.code, show compRes PG Try.f75.results.toList = [(.t 4)] from by kernel_rfl]; exact h)
def types_Deep.n : Nat := 76
noncomputable def types_Deep.c : C := (.seq (.reg [⟨(some 4), none, (.mv (.c (.int .i64 0)))⟩]) (.seq (.seq (.reg [⟨(some 9), none, (.mv (.t 1))⟩, ⟨(some 10), none, (.bin .lss (.t 9) (.c (.int .i64 0)))⟩, ⟨(some 11), none, (.mv (.t 10))⟩, ⟨(some 12), (some (11, false)), (.mv (.t 1))⟩, ⟨(some 13), (some (11, false)), (.mv (.t 0))⟩, ⟨(some 14), (some (11, false)), (.len false (.t 13))⟩, ⟨(some 15), (some (11, false)), (.bin .geq (.t 12) (.t 14))⟩, ⟨(some 16), none, (.pick (.t 11) (.c (.bool true)) (.t 15))⟩]) (.cond (.t 16) (.seq (.reg [⟨(some 4), none, (.mv (.c (.int .i64 0)))⟩]) .ret) .skip)) (.seq (.reg [⟨(some 17), none, (.mv (.t 1))⟩, ⟨(some 18), none, (.bin .add (.t 17) (.c (.int .i64 1)))⟩, ⟨(some 19), none, (.mks 3 1 8 [(.int .i64 0)] (.t 18))⟩, ⟨(some 5), none, (.mv (.t 19))⟩]) (.seq (.seq (.reg [⟨(some 20), none, (.mv (.t 5))⟩, ⟨(some 21), none, (.len false (.t 20))⟩, ⟨(some 22), none, (.mv (.c (.int .i64 0)))⟩]) (.block 0 (.loop (.seq (.reg [⟨(some 23), none, (.bin .lss (.t 22) (.t 21))⟩]) (.seq (.cond (.t 23) .skip (.exit 0)) (.seq (.block 1 (.seq (.reg [⟨(some 24), none, (.mv (.t 22))⟩, ⟨(some 6), none, (.mv (.t 24))⟩]) (.seq (.reg [⟨(some 25), none, (.mv (.t 5))⟩, ⟨(some 26), none, (.mv (.t 6))⟩, ⟨(some 27), none, (.iaddr 1 (.t 25) (.t 26))⟩, ⟨none, none, (.store 1 (.t 27) (.c (.int .i64 1)))⟩]) (.seq (.reg [⟨(some 28), none, (.mv (.t 0))⟩, ⟨(some 29), none, (.mv (.t 6))⟩, ⟨(some 30), none, (.iaddr 6 (.t 28) (.t 29))⟩, ⟨(some 31), none, (.load (some 6) (.t 30))⟩, ⟨(some 32), none, (.call 74 [(.t 31)])⟩, ⟨(some 33), none, (.len false (.t 32))⟩, ⟨(some 34), none, (.mv (.c (.int .i64 0)))⟩]) (.block 2 (.loop (.seq (.reg [⟨(some 35), none, (.bin .lss (.t 34) (.t 33))⟩]) (.seq (.cond (.t 35) .skip (.exit 2)) (.seq (.block 3 (.seq (.reg [⟨(some 36), none, (.iaddr 1 (.t 32) (.t 34))⟩, ⟨(some 37), none, (.load none (.t 36))⟩, ⟨(some 8), none, (.mv (.t 37))⟩]) (.seq (.reg [⟨(some 38), none, (.mv (.t 8))⟩, ⟨(some 39), none, (.bin .geq (.t 38) (.c (.int .i64 0)))⟩, ⟨(some 40), none, (.mv (.t 39))⟩, ⟨(some 41), (some (40, true)), (.mv (.t 8))⟩, ⟨(some 42), (some (40, true)), (.mv (.t 6))⟩, ⟨(some 43), (some (40, true)), (.bin .lss (.t 41) (.t 42))⟩, ⟨(some 44), none, (.pick (.t 40) (.t 43) (.c (.bool false)))⟩]) (.cond (.t 44) (.dreg [⟨(some 45), none, (.mv (.t 5))⟩, ⟨(some 46), none, (.mv (.t 6))⟩, ⟨(some 47), none, (.mv (.t 5))⟩, ⟨(some 48), none, (.mv (.t 6))⟩, ⟨(some 49), none, (.iaddr 1 (.t 47) (.t 48))⟩, ⟨(some 50), none, (.load none (.t 49))⟩, ⟨(some 51), none, (.mv (.t 5))⟩, ⟨(some 52), none, (.mv (.t 8))⟩, ⟨(some 53), none, (.iaddr 1 (.t 51) (.t 52))⟩, ⟨(some 54), none, (.load none (.t 53))⟩, ⟨(some 55), none, (.bin .add (.t 54) (.c (.int .i64 1)))⟩, ⟨(some 56), none, (.mm true [(.t 50), (.t 55)])⟩] [⟨(some 57), none, (.iaddr 1 (.t 45) (.t 46))⟩, ⟨none, none, (.store 1 (.t 57) (.t 56))⟩]) .skip)))) (.reg [⟨(some 58), none, (.bin .add (.t 34) (.c (.int .i64 1)))⟩, ⟨(some 34), none, (.mv (.t 58))⟩])))))))))) (.reg [⟨(some 59), none, (.bin .add (.t 22) (.c (.int .i64 1)))⟩, ⟨(some 22), none, (.mv (.t 59))⟩]))))))) (.seq (.reg [⟨(some 60), none, (.mv (.t 5))⟩, ⟨(some 61), none, (.mv (.t 1))⟩, ⟨(some 62), none, (.iaddr 1 (.t 60) (.t 61))⟩, ⟨(some 63), none, (.load none (.t 62))⟩, ⟨(some 4), none, (.mv (.t 63))⟩]) .ret)))))
theorem types_Deep.code : comp PG [] (Try.f76.body.getD .skip) = types_Deep.c := by kernel_rfl
theorem types_Deep.of {args : List AV} {H : AH} {K : AV → AH → Prop} (hl : args.length = 2) (h : wpA PG types_Deep.c none (endA [(.t 4)] K) (initFr args) H) : ACalls PG 76 args H K :=
  ACalls.of_code (fl := []) mixed Try.func76 (c := Try.f76.body.getD .skip) (by kernel_rfl) (by kernel_rfl) (by rw [hl]; exact of_decide_eq_true (by kernel_rfl)) (by rw [types_Deep.code]; kernel_rfl)
    (by rw [types_Deep.code, show compRes PG Try.f76.results.toList = [(.t 4)] from by kernel_rfl]; exact h)
def types_find.n : Nat := 77
noncomputable def types_find.c : C := (.seq (.reg [⟨(some 8), none, (.mv (.c (.int .i64 0)))⟩, ⟨(some 9), none, (.mv (.c (.bool false)))⟩]) (.seq (.seq (.reg [⟨(some 12), none, (.mv (.t 1))⟩, ⟨(some 13), none, (.bin .lss (.t 12) (.c (.int .i64 0)))⟩, ⟨(some 14), none, (.mv (.t 13))⟩, ⟨(some 15), (some (14, false)), (.mv (.t 1))⟩, ⟨(some 16), (some (14, false)), (.mv (.t 0))⟩, ⟨(some 17), (some (14, false)), (.len false (.t 16))⟩, ⟨(some 18), (some (14, false)), (.bin .geq (.t 15) (.t 17))⟩, ⟨(some 19), none, (.pick (.t 14) (.c (.bool true)) (.t 18))⟩, ⟨(some 20), none, (.mv (.t 19))⟩, ⟨(some 21), (some (20, false)), (.mv (.t 2))⟩, ⟨(some 22), (some (20, false)), (.mv (.t 0))⟩, ⟨(some 23), (some (20, false)), (.mv (.t 1))⟩, ⟨(some 24), (some (20, false)), (.iaddr 6 (.t 22) (.t 23))⟩, ⟨(some 25), (some (20, false)), (.faddr 0 (.t 24))⟩, ⟨(some 26), (some (20, false)), (.load none (.t 25))⟩, ⟨(some 27), (some (20, false)), (.callv (.t 21) [(.t 26)])⟩, ⟨(some 28), (some (20, false)), (.un .not (.t 27))⟩, ⟨(some 29), none, (.pick (.t 20) (.c (.bool true)) (.t 28))⟩]) (.cond (.t 29) (.seq (.reg [⟨(some 8), none, (.mv (.c (.int .i64 0)))⟩, ⟨(some 9), none, (.mv (.c (.bool false)))⟩]) .ret) .skip)) (.seq (.seq (.reg [⟨(some 30), none, (.mv (.t 0))⟩, ⟨(some 31), none, (.mv (.t 1))⟩, ⟨(some 32), none, (.iaddr 6 (.t 30) (.t 31))⟩, ⟨(some 33), none, (.faddr 5 (.t 32))⟩, ⟨(some 34), none, (.load none (.t 33))⟩, ⟨(some 35), none, (.len false (.t 34))⟩, ⟨(some 36), none, (.mv (.c (.int .i64 0)))⟩]) (.block 0 (.loop (.seq (.reg [⟨(some 37), none, (.bin .lss (.t 36) (.t 35))⟩]) (.seq (.cond (.t 37) .skip (.exit 0)) (.seq (.block 1 (.seq (.reg [⟨(some 38), none, (.mv (.t 36))⟩, ⟨(some 39), none, (.iaddr 5 (.t 34) (.t 36))⟩, ⟨(some 40), none, (.load (some 5) (.t 39))⟩, ⟨(some 11), none, (.allc 80 [(.str []), (.int .u64 0), (.int .i64 0), (.bool false), (.bool false)])⟩, ⟨(some 10), none, (.mv (.t 38))⟩, ⟨none, none, (.store 5 (.t 11) (.t 40))⟩]) (.seq (.reg [⟨(some 41), none, (.mv (.t 3))⟩, ⟨(some 42), none, (.load (some 5) (.t 11))⟩, ⟨(some 43), none, (.callv (.t 41) [(.t 42)])⟩]) (.cond (.t 43) (.seq (.reg [⟨(some 44), none, (.mv (.t 10))⟩, ⟨(some 8), none, (.mv (.t 44))⟩, ⟨(some 9), none, (.mv (.c (.bool true)))⟩]) .ret) .skip)))) (.reg [⟨(some 45), none, (.bin .add (.t 36) (.c (.int .i64 1)))⟩, ⟨(some 36), none, (.mv (.t 45))⟩]))))))) (.seq (.reg [⟨(some 8), none, (.mv (.c (.int .i64 0)))⟩, ⟨(some 9), none, (.mv (.c (.bool false)))⟩]) .ret))))
theorem types_find.code : comp PG [] (Try.f77.body.getD .skip) = types_find.c := by kernel_rfl
theorem types_find.of {args : List AV} {H : AH} {K : AV → AH → Prop} (hl : args.length = 4) (h : wpA PG types_find.c none (endA [(.t 8), (.t 9)] K) (initFr args) H) : ACalls PG 77 args H K :=
  ACalls.of_code (fl := []) mixed Try.func77 (c := Try.f77.body.getD .skip) (by kernel_rfl) (by kernel_rfl) (by rw [hl]; exact of_decide_eq_true (by kernel_rfl)) (by rw [types_find.code]; kernel_rfl)
    (by rw [types_find.code, show compRes PG Try.f77.results.toList = [(.t 8), (.t 9)] from by kernel_rfl]; exact h)
def types_Value_1.n : Nat := 78
noncomputable def types_Value_1.c : C := (.seq (.reg [⟨(some 2), none, (.mv (.c (.bool false)))⟩]) (.seq (.reg [⟨(some 3), none, (.mv (.t 0))⟩, ⟨(some 4), none, (.bin .eql (.t 3) (.c (.int .i64 9)))⟩, ⟨(some 2), none, (.mv (.t 4))⟩]) .ret))
theorem types_Value_1.code : comp PG [] (Try.f78.body.getD .skip) = types_Value_1.c := by kernel_rfl
theorem types_Value_1.of {args : List AV} {H : AH} {K : AV → AH → Prop} (hl : args.length = 1) (h : wpA PG types_Value_1.c none (endA [(.t 2)] K) (initFr args) H) : ACalls PG 78 args H K :=
  ACalls.of_code (fl := []) mixed Try.func78 (c := Try.f78.body.getD .skip) (by kernel_rfl) (by kernel_rfl) (by rw [hl]; exact of_decide_eq_true (by kernel_rfl)) (by rw [types_Value_1.code]; kernel_rfl)
    (by rw [types_Value_1.code, show compRes PG Try.f78.results.toList = [(.t 2)] from by kernel_rfl]; exact h)
theorem types_Value_1.of' {args : List AV} {H : AH} {K : AV → AH → Prop} (hl : args.length ≤ 5) (h : wpA PG types_Value_1.c none (endA [(.t 2)] K) (initFr args) H) : ACalls PG 78 args H K :=
  ACalls.of_code (fl := []) mixed Try.func78 (c := Try.f78.body.getD .skip) (by kernel_rfl) (by kernel_rfl) hl (by rw [types_Value_1.code]; kernel_rfl) (by rw [types_Value_1.code, show compRes PG Try.f78.results.toList = [(.t 2)] from by kernel_rfl]; exact h)
def types_Value_2.n : Nat := 79
noncomputable def types_Value_2.c : C := (.seq (.reg [⟨(some 2), none, (.box 80 (.t 0))⟩, ⟨(some 3), none, (.mv (.c (.bool false)))⟩]) (.seq (.reg [⟨(some 4), none, (.faddr 1 (.t 2))⟩, ⟨(some 5), none, (.load none (.t 4))⟩, ⟨(some 6), none, (.load none (.t 1))⟩, ⟨(some 7), none, (.bin .eql (.t 5) (.t 6))⟩, ⟨(some 3), none, (.mv (.t 7))⟩]) .ret))
theorem types_Value_2.code : comp PG [] (Try.f79.body.getD .skip) = types_Value_2.c := by kernel_rfl
theorem types_Value_2.of {args : List AV} {H : AH} {K : AV → AH → Prop} (hl : args.length = 1) (h : wpA PG types_Value_2.c none (endA [(.t 3)] K) (initFr args) H) : ACalls PG 79 args H K :=
  ACalls.of_code (fl := []) mixed Try.func79 (c := Try.f79.body.getD .skip) (by kernel_rfl) (by kernel_rfl) (by rw [hl]; exact of_decide_eq_true (by kernel_rfl)) (by rw [types_Value_2.code]; kernel_rfl)
    (by rw [types_Value_2.code, show compRes PG Try.f79.results.toList = [(.t 3)] from by kernel_rfl]; exact h)
theorem types_Value_2.of' {args : List AV} {H : AH} {K : AV → AH → Prop} (hl : args.length ≤ 8) (h : wpA PG types_Value_2.c none (endA [(.t 3)] K) (initFr args) H) : ACalls PG 79 args H K :=
  ACalls.of_code (fl := []) mixed Try.func79 (c := Try.f79.body.getD .skip) (by kernel_rfl) (by kernel_rfl) hl (by rw [types_Value_2.code]; kernel_rfl) (by rw [types_Value_2.code, show compRes PG Try.f79.results.toList = [(.t 3)] from by kernel_rfl]; exact h)
def prim_Up.n : Nat := 80
noncomputable def prim_Up.c : C := (.seq (.reg [⟨(some 4), none, (.mv (.c (.int .u64 0)))⟩]) (.seq (.seq (.reg [⟨(some 5), none, (.mv (.t 0))⟩, ⟨(some 6), none, (.call 95 [(.t 5)])⟩]) (.cond (.t 6) (.seq (.reg [⟨(some 7), none, (.mv (.t 1))⟩, ⟨(some 8), none, (.mv (.t 0))⟩, ⟨(some 9), none, (.call 60 [(.t 8)])⟩, ⟨(some 10), none, (.call 96 [(.t 7), (.t 9)])⟩, ⟨(some 4), none, (.mv (.t 10))⟩]) .ret) .skip)) (.seq (.reg [⟨(some 11), none, (.mv (.t 0))⟩, ⟨(some 12), none, (.mv (.t 1))⟩, ⟨(some 13), none, (.call 91 [(.t 11), (.t 12)])⟩, ⟨(some 4), none, (.mv (.t 13))⟩]) .ret)))
theorem prim_Up.code : comp PG [] (Try.f80.body.getD .skip) = prim_Up.c := by kernel_rfl
theorem prim_Up.of {args : List AV} {H : AH} {K : AV → AH → Prop} (hl : args.length = 2) (h : wpA PG prim_Up.c none (endA [(.t 4)] K) (initFr args) H) : ACalls PG 80 args H K :=
  ACalls.of_code (fl := []) mixed Try.func80 (c := Try.f80.body.getD .skip) (by kernel_rfl) (by kernel_rfl) (by rw [hl]; exact of_decide_eq_true (by kernel_rfl)) (by rw [prim_Up.code]; kernel_rfl)
    (by rw [prim_Up.code, show compRes PG Try.f80.results.toList = [(.t 4)] from by kernel_rfl]; exact h)
def types_Branch_1.n : Nat := 82
noncomputable def types_Branch_1.c : C := (.seq (.reg [⟨(some 2), none, (.mv (.c (.bool false)))⟩]) (.seq (.reg [⟨(some 3), none, (.mv (.t 0))⟩, ⟨(some 4), none, (.bin .eql (.t 3) (.c (.int .i64 14)))⟩, ⟨(some 2), none, (.mv (.t 4))⟩]) .ret))
theorem types_Branch_1.code : comp PG [] (Try.f82.body.getD .skip) = types_Branch_1.c := by kernel_rfl
theorem types_Branch_1.of {args : List AV} {H : AH} {K : AV → AH → Prop} (hl : args.length = 1) (h : wpA PG types_Branch_1.c none (endA [(.t 2)] K) (initFr args) H) : ACalls PG 82 args H K :=
  ACalls.of_code (fl := []) mixed Try.func82 (c := Try.f82.body.getD .skip) (by kernel_rfl) (by kernel_rfl) (by rw [hl]; exact of_decide_eq_true (by kernel_rfl)) (by rw [types_Branch_1.code]; kernel_rfl)
    (by rw [types_Branch_1.code, show compRes PG Try.f82.results.toList = [(.t 2)] from by kernel_rfl]; exact h)
theorem types_Branch_1.of' {args : List AV} {H : AH} {K : AV → AH → Prop} (hl : args.length ≤ 5) (h : wpA PG types_Branch_1.c none (endA [(.t 2)] K) (initFr args) H) : ACalls PG 82 args H K :=
  ACalls.of_code (fl := []) mixed Try.func82 (c := Try.f82.body.getD .skip) (by kernel_rfl) (by kernel_rfl) hl (by rw [types_Branch_1.code]; kernel_rfl) (by rw [types_Branch_1.code, show compRes PG Try.f82.results.toList = [(.t 2)] from by kernel_rfl]; exact h)
def types_Branch_2.n : Nat := 83
noncomputable def types_Branch_2.c : C := (.seq (.reg [⟨(some 2), none, (.box 80 (.t 0))⟩, ⟨(some 3), none, (.mv (.c (.bool false)))⟩]) (.seq (.reg [⟨(some 4), none, (.faddr 1 (.t 2))⟩, ⟨(some 5), none, (.load none (.t 4))⟩, ⟨(some 6), none, (.load none (.t 1))⟩, ⟨(some 7), none, (.bin .eql (.t 5) (.t 6))⟩, ⟨(some 8), none, (.mv (.t 7))⟩, ⟨(some 9), (some (8, true)), (.faddr 4 (.t 2))⟩, ⟨(some 10), (some (8, true)), (.load none (.t 9))⟩, ⟨(some 11), (some (8, true)), (.un .not (.t 10))⟩, ⟨(some 12), none, (.pick (.t 8) (.t 11) (.c (.bool false)))⟩, ⟨(some 3), none, (.mv (.t 12))⟩]) .ret))
theorem types_Branch_2.code : comp PG [] (Try.f83.body.getD .skip) = types_Branch_2.c := by kernel_rfl
theorem types_Branch_2.of {args : List AV} {H : AH} {K : AV → AH → Prop} (hl : args.length = 1) (h : wpA PG types_Branch_2.c none (endA [(.t 3)] K) (initFr args) H) : ACalls PG 83 args H K :=
  ACalls.of_code (fl := []) mixed Try.func83 (c := Try.f83.body.getD .skip) (by kernel_rfl) (by kernel_rfl) (by rw [hl]; exact of_decide_eq_true (by kernel_rfl)) (by rw [types_Branch_2.code]; kernel_rfl)
    (by rw [types_Branch_2.code, show compRes PG Try.f83.results.toList = [(.t 3)] from by kernel_rfl]; exact h)
theorem types_Branch_2.of' {args : List AV} {H : AH} {K : AV → AH → Prop} (hl : args.length ≤ 13) (h : wpA PG types_Branch_2.c none (endA [(.t 3)] K) (initFr args) H) : ACalls PG 83 args H K :=
  ACalls.of_code (fl := []) mixed Try.func83 (c := Try.f83.body.getD .skip) (by kernel_rfl) (by kernel_rfl) hl (by rw [types_Branch_2.code]; kernel_rfl) (by rw [types_Branch_2.code, show compRes PG Try.f83.results.toList = [(.t 3)] from by kernel_rfl]; exact h)
def types_Branch_3.n : Nat := 84
noncomputable def types_Branch_3.c : C := (.seq (.reg [⟨(some 1), none, (.box 80 (.t 0))⟩, ⟨(some 2), none, (.mv (.c (.bool false)))⟩]) (.seq (.reg [⟨(some 3), none, (.faddr 4 (.t 1))⟩, ⟨(some 4), none, (.load none (.t 3))⟩, ⟨(some 2), none, (.mv (.t 4))⟩]) .ret))
theorem types_Branch_3.code : comp PG [] (Try.f84.body.getD .skip) = types_Branch_3.c := by kernel_rfl
theorem types_Branch_3.of {args : List AV} {H : AH} {K : AV → AH → Prop} (hl : args.length = 1) (h : wpA PG types_Branch_3.c none (endA [(.t 2)] K) (initFr args) H) : ACalls PG 84 args H K :=
  ACalls.of_code (fl := []) mixed Try.func84 (c := Try.f84.body.getD .skip) (by kernel_rfl) (by kernel_rfl) (by rw [hl]; exact of_decide_eq_true (by kernel_rfl)) (by rw [types_Branch_3.code]; kernel_rfl)
    (by rw [types_Branch_3.code, show compRes PG Try.f84.results.toList = [(.t 2)] from by kernel_rfl]; exact h)
theorem types_Branch_3.of' {args : List AV} {H : AH} {K : AV → AH → Prop} (hl : args.length ≤ 5) (h : wpA PG types_Branch_3.c none (endA [(.t 2)] K) (initFr args) H) : ACalls PG 84 args H K :=
  ACalls.of_code (fl := []) mixed Try.func84 (c := Try.f84.body.getD .skip) (by kernel_rfl) (by kernel_rfl) hl (by rw [types_Branch_3.code]; kernel_rfl) (by rw [types_Branch_3.code, show compRes PG Try.f84.results.toList = [(.t 2)] from by kernel_rfl]; exact h)
def prim_rows.n : Nat := 87
noncomputable def prim_rows.c : C := (.seq (.reg [⟨(some 2), none, (.allc 123 [(.int .i64 0), (.bool false)])⟩]) (.seq (.reg [⟨(some 4), none, (.build [(.int .i64 0), (.bool false)] [(0, (1, (.c (.int .i64 1)))), (1, (1, (.c (.bool false))))])⟩, ⟨(some 5), none, (.build [(.int .i64 0), (.bool false)] [(0, (1, (.c (.int .i64 1)))), (1, (1, (.c (.bool false))))])⟩, ⟨(some 6), none, (.build [(.int .i64 0), (.bool false)] [(0, (1, (.c (.int .i64 2)))), (1, (1, (.c (.bool true))))])⟩, ⟨(some 7), none, (.build [(.int .i64 0), (.bool false)] [(0, (1, (.c (.int .i64 2)))), (1, (1, (.c (.bool false))))])⟩, ⟨(some 8), none, (.build [(.int .i64 0), (.bool false)] [(0, (1, (.c (.int .i64 4)))), (1, (1, (.c (.bool true))))])⟩, ⟨(some 9), none, (.build [(.int .i64 0), (.bool false)] [(0, (1, (.c (.int .i64 4)))), (1, (1, (.c (.bool false))))])⟩, ⟨(some 10), none, (.build [(.int .i64 0), (.bool false)] [(0, (1, (.c (.int .i64 8)))), (1, (1, (.c (.bool true))))])⟩, ⟨(some 11), none, (.build [(.int .i64 0), (.bool false)] [(0, (1, (.c (.int .i64 8)))), (1, (1, (.c (.bool false))))])⟩, ⟨(some 12), none, (.build [(.int .i64 0), (.bool false)] [(0, (1, (.c (.int .i64 4)))), (1, (1, (.c (.bool true))))])⟩, ⟨(some 13), none, (.build [(.int .i64 0), (.bool false), (.int .i64 0), (.bool false), (.int .i64 0), (.bool false), (.int .i64 0), (.bool false), (.int .i64 0), (.bool false), (.int .i64 0), (.bool false), (.int .i64 0), (.bool false), (.int .i64 0), (.bool false), (.int .i64 0), (.bool false), (.int .i64 0), (.bool false)] [(2, (2, (.t 4))), (4, (2, (.t 5))), (6, (2, (.t 6))), (8, (2, (.t 7))), (10, (2, (.t 8))), (12, (2, (.t 9))), (14, (2, (.t 10))), (16, (2, (.t 11))), (18, (2, (.t 12)))])⟩, ⟨(some 3), none, (.allc 132 [(.int .i64 0), (.bool false), (.int .i64 0), (.bool false), (.int .i64 0), (.bool false), (.int .i64 0), (.bool false), (.int .i64 0), (.bool false), (.int .i64 0), (.bool false), (.int .i64 0), (.bool false), (.int .i64 0), (.bool false), (.int .i64 0), (.bool false), (.int .i64 0), (.bool false)])⟩, ⟨none, none, (.store 20 (.t 3) (.t 13))⟩]) (.seq (.seq (.reg [⟨(some 14), none, (.mv (.t 0))⟩, ⟨(some 15), none, (.call 29 [(.t 14)])⟩, ⟨(some 16), none, (.un .not (.t 15))⟩]) (.cond (.t 16) (.seq (.reg [⟨(some 17), none, (.build [(.int .i64 0), (.bool false)] [])⟩, ⟨none, none, (.store 2 (.t 2) (.t 17))⟩]) .ret) .skip)) (.seq (.reg [⟨(some 18), none, (.mv (.t 0))⟩, ⟨(some 19), none, (.iarr 10 2 (.t 3) (.t 18))⟩, ⟨(some 20), none, (.load (some 2) (.t 19))⟩, ⟨none, none, (.store 2 (.t 2) (.t 20))⟩]) .ret))))
theorem prim_rows.code : comp PG [] (Try.f87.body.getD .skip) = prim_rows.c := by kernel_rfl
theorem prim_rows.of {args : List AV} {H : AH} {K : AV → AH → Prop} (hl : args.length = 1) (h : wpA PG prim_rows.c none (endA [(.cell 2 (some 2))] K) (initFr args) H) : ACalls PG 87 args H K :=
  ACalls.of_code (fl := []) mixed Try.func87 (c := Try.f87.body.getD .skip) (by kernel_rfl) (by kernel_rfl) (by rw [hl]; exact of_decide_eq_true (by kernel_rfl)) (by rw [prim_rows.code]; kernel_rfl)
    (by rw [prim_rows.code, show compRes PG Try.f87.results.toList = [(.cell 2 (some 2))] from by kernel_rfl]; exact h)
def prim_Low.n : Nat := 91
noncomputable def prim_Low.c : C := (.seq (.reg [⟨(some 4), none, (.mv (.c (.int .u64 0)))⟩]) (.seq (.reg [⟨(some 7), none, (.mv (.t 0))⟩, ⟨(some 8), none, (.call 60 [(.t 7)])⟩, ⟨(some 5), none, (.mv (.t 8))⟩]) (.seq (.seq (.reg [⟨(some 9), none, (.mv (.t 5))⟩, ⟨(some 10), none, (.bin .eql (.t 9) (.c (.int .i64 0)))⟩]) (.cond (.t 10) (.seq (.reg [⟨(some 4), none, (.mv (.c (.int .u64 0)))⟩]) .ret) .skip)) (.seq (.reg [⟨(some 11), none, (.mv (.t 5))⟩, ⟨(some 12), none, (.bin .mul (.c (.int .i64 8)) (.t 11))⟩, ⟨(some 13), none, (.bin .sub (.c (.int .i64 64)) (.t 12))⟩, ⟨(some 14), none, (.conv .u64 (.t 13))⟩, ⟨(some 6), none, (.mv (.t 14))⟩]) (.seq (.reg [⟨(some 15), none, (.mv (.t 1))⟩, ⟨(some 16), none, (.mv (.t 6))⟩, ⟨(some 17), none, (.bin .shl (.t 15) (.t 16))⟩, ⟨(some 18), none, (.mv (.t 6))⟩, ⟨(some 19), none, (.bin .shr (.t 17) (.t 18))⟩, ⟨(some 4), none, (.mv (.t 19))⟩]) .ret)))))
theorem prim_Low.code : comp PG [] (Try.f91.body.getD .skip) = prim_Low.c := by kernel_rfl
theorem prim_Low.of {args : List AV} {H : AH} {K : AV → AH → Prop} (hl : args.length = 2) (h : wpA PG prim_Low.c none (endA [(.t 4)] K) (initFr args) H) : ACalls PG 91 args H K :=
  ACalls.of_code (fl := []) mixed Try.func91 (c := Try.f91.body.getD .skip) (by kernel_rfl) (by kernel_rfl) (by rw [hl]; exact of_decide_eq_true (by kernel_rfl)) (by rw [prim_Low.code]; kernel_rfl)
    (by rw [prim_Low.code, show compRes PG Try.f91.results.toList = [(.t 4)] from by kernel_rfl]; exact h)
def types_look_may.n : Nat := 94
noncomputable def types_look_may.c : C := (.seq (.reg [⟨(some 4), none, (.mv (.c (.bool false)))⟩]) (.seq (.seq (.reg [⟨(some 8), none, (.mv (.t 0))⟩, ⟨(some 9), none, (.nilck (.t 8))⟩, ⟨(some 10), none, (.faddr 2 (.t 9))⟩, ⟨(some 11), none, (.faddr 0 (.t 10))⟩, ⟨(some 12), none, (.load none (.t 11))⟩, ⟨(some 13), none, (.bin .eql (.t 12) (.c (.int .i64 9)))⟩]) (.cond (.t 13) (.seq (.reg [⟨(some 14), none, (.mv (.t 1))⟩, ⟨(some 15), none, (.call 52 [(.c (.int .i64 9)), (.t 14)])⟩, ⟨(some 4), none, (.mv (.t 15))⟩]) .ret) .skip)) (.seq (.dreg [⟨(some 16), none, (.mv (.t 0))⟩, ⟨(some 17), none, (.nilck (.t 16))⟩, ⟨(some 18), none, (.faddr 0 (.t 17))⟩, ⟨(some 19), none, (.load none (.t 18))⟩, ⟨(some 20), none, (.mv (.t 0))⟩, ⟨(some 21), none, (.nilck (.t 20))⟩, ⟨(some 22), none, (.faddr 2 (.t 21))⟩, ⟨(some 23), none, (.faddr 4 (.t 22))⟩, ⟨(some 24), none, (.load none (.t 23))⟩, ⟨(some 25), none, (.iaddr 6 (.t 19) (.t 24))⟩, ⟨(some 26), none, (.load (some 6) (.t 25))⟩, ⟨(some 5), none, (.allc 44 [(.int .i64 0), (.str []), (.int .i64 0), (.int .i64 0), (.int .i64 0), .nilS])⟩] [⟨none, none, (.store 6 (.t 5) (.t 26))⟩]) (.seq (.seq (.reg [⟨(some 27), none, (.faddr 0 (.t 5))⟩, ⟨(some 28), none, (.load none (.t 27))⟩, ⟨(some 29), none, (.bin .eql (.t 28) (.c (.int .i64 9)))⟩]) (.cond (.t 29) (.seq (.dreg [⟨(some 31), none, (.mv (.t 0))⟩, ⟨(some 32), none, (.nilck (.t 31))⟩, ⟨(some 33), none, (.faddr 0 (.t 32))⟩, ⟨(some 34), none, (.load none (.t 33))⟩, ⟨(some 35), none, (.mv (.t 0))⟩, ⟨(some 36), none, (.nilck (.t 35))⟩, ⟨(some 37), none, (.faddr 2 (.t 36))⟩, ⟨(some 38), none, (.faddr 4 (.t 37))⟩, ⟨(some 39), none, (.load none (.t 38))⟩, ⟨(some 40), none, (.mv (.t 1))⟩, ⟨(some 41), none, (.call 51 [(.t 34), (.t 39), (.t 40)])⟩, ⟨(some 30), none, (.mv (.t 41))⟩, ⟨(some 42), none, (.extr (.t 30) 0)⟩, ⟨(some 43), none, (.extr (.t 30) 1)⟩, ⟨(some 6), none, (.mv (.t 42))⟩] [⟨(some 7), none, (.mv (.t 43))⟩]) (.seq (.reg [⟨(some 44), none, (.mv (.t 7))⟩, ⟨(some 4), none, (.mv (.t 44))⟩]) .ret)) .skip)) (.seq (.reg [⟨(some 45), none, (.faddr 0 (.t 5))⟩, ⟨(some 46), none, (.load none (.t 45))⟩, ⟨(some 47), none, (.mv (.t 1))⟩, ⟨(some 48), none, (.call 52 [(.t 46), (.t 47)])⟩, ⟨(some 4), none, (.mv (.t 48))⟩]) .ret)))))
theorem types_look_may.code : comp PG [] (Try.f94.body.getD .skip) = types_look_may.c := by kernel_rfl
theorem types_look_may.of {args : List AV} {H : AH} {K : AV → AH → Prop} (hl : args.length = 2) (h : wpA PG types_look_may.c none (endA [(.t 4)] K) (initFr args) H) : ACalls PG 94 args H K :=
  ACalls.of_code (fl := []) mixed Try.func94 (c := Try.f94.body.getD .skip) (by kernel_rfl) (by kernel_rfl) (by rw [hl]; exact of_decide_eq_true (by kernel_rfl)) (by rw [types_look_may.code]; kernel_rfl)
    (by rw [types_look_may.code, show compRes PG Try.f94.results.toList = [(.t 4)] from by kernel_rfl]; exact h)
def prim_Signed.n : Nat := 95
noncomputable def prim_Signed.c : C := (.seq (.reg [⟨(some 2), none, (.mv (.c (.bool false)))⟩]) (.seq (.reg [⟨(some 3), none, (.mv (.t 0))⟩, ⟨(some 4), none, (.call 87 [(.t 3)])⟩, ⟨(some 5), none, (.field 1 none (.t 4))⟩, ⟨(some 2), none, (.mv (.t 5))⟩]) .ret))
theorem prim_Signed.code : comp PG [] (Try.f95.body.getD .skip) = prim_Signed.c := by kernel_rfl
theorem prim_Signed.of {args : List AV} {H : AH} {K : AV → AH → Prop} (hl : args.length = 1) (h : wpA PG prim_Signed.c none (endA [(.t 2)] K) (initFr args) H) : ACalls PG 95 args H K :=
  ACalls.of_code (fl := []) mixed Try.func95 (c := Try.f95.body.getD .skip) (by kernel_rfl) (by kernel_rfl) (by rw [hl]; exact of_decide_eq_true (by kernel_rfl)) (by rw [prim_Signed.code]; kernel_rfl)
    (by rw [prim_Signed.code, show compRes PG Try.f95.results.toList = [(.t 2)] from by kernel_rfl]; exact h)
def word_Wide.n : Nat := 96
noncomputable def word_Wide.c : C := (.seq (.reg [⟨(some 4), none, (.mv (.c (.int .u64 0)))⟩]) (.seq (.reg [⟨(some 5), none, (.mv (.t 0))⟩, ⟨(some 6), none, (.mv (.t 1))⟩, ⟨(some 7), none, (.call 101 [(.t 5), (.t 6)])⟩, ⟨(some 8), none, (.conv .u64 (.t 7))⟩, ⟨(some 4), none, (.mv (.t 8))⟩]) .ret))
theorem word_Wide.code : comp PG [] (Try.f96.body.getD .skip) = word_Wide.c := by kernel_rfl
theorem word_Wide.of {args : List AV} {H : AH} {K : AV → AH → Prop} (hl : args.length = 2) (h : wpA PG word_Wide.c none (endA [(.t 4)] K) (initFr args) H) : ACalls PG 96 args H K :=
  ACalls.of_code (fl := []) mixed Try.func96 (c := Try.f96.body.getD .skip) (by kernel_rfl) (by kernel_rfl) (by rw [hl]; exact of_decide_eq_true (by kernel_rfl)) (by rw [word_Wide.code]; kernel_rfl)
    (by rw [word_Wide.code, show compRes PG Try.f96.results.toList = [(.t 4)] from by kernel_rfl]; exact h)
def word_Put.n : Nat := 98
noncomputable def word_Put.c : C := (.seq (.reg [⟨(some 4), none, (.mv (.c (.str [])))⟩, ⟨(some 5), none, (.mv (.c (.int .i64 0)))⟩]) (.seq (.block 0 (.seq (.reg [⟨(some 9), none, (.mv (.t 1))⟩, ⟨(some 10), none, (.call 102 [(.t 9)])⟩, ⟨(some 11), none, (.un .not (.t 10))⟩, ⟨(some 8), none, (.mv (.t 11))⟩]) (.cond (.t 8) (.seq (.reg [⟨(some 4), none, (.mv (.c (.str [])))⟩, ⟨(some 5), none, (.mv (.c (.int .i64 4)))⟩]) .ret) (.seq (.reg [⟨(some 13), none, (.mv (.t 0))⟩, ⟨(some 14), none, (.mv (.t 1))⟩, ⟨(some 15), none, (.call 103 [(.t 14)])⟩, ⟨(some 16), none, (.bin .andNot (.t 13) (.t 15))⟩, ⟨(some 17), none, (.bin .neq (.t 16) (.c (.int .u64 0)))⟩, ⟨(some 12), none, (.mv (.t 17))⟩]) (.cond (.t 12) (.seq (.reg [⟨(some 4), none, (.mv (.c (.str [])))⟩, ⟨(some 5), none, (.mv (.c (.int .i64 7)))⟩]) .ret) .skip))))) (.seq (.reg [⟨(some 18), none, (.mv (.t 1))⟩, ⟨(some 19), none, (.mks 5 1 1 [(.int .u8 0)] (.t 18))⟩, ⟨(some 6), none, (.mv (.t 19))⟩]) (.seq (.seq (.reg [⟨(some 20), none, (.mv (.t 1))⟩, ⟨(some 21), none, (.mv (.c (.int .i64 0)))⟩]) (.block 1 (.loop (.seq (.reg [⟨(some 22), none, (.bin .lss (.t 21) (.t 20))⟩]) (.seq (.cond (.t 22) .skip (.exit 1)) (.seq (.block 2 (.seq (.reg [⟨(some 23), none, (.mv (.t 21))⟩, ⟨(some 7), none, (.mv (.t 23))⟩]) (.reg [⟨(some 24), none, (.mv (.t 6))⟩, ⟨(some 25), none, (.mv (.t 7))⟩, ⟨(some 26), none, (.mv (.t 0))⟩, ⟨(some 27), none, (.mv (.t 7))⟩, ⟨(some 28), none, (.bin .mul (.c (.int .i64 8)) (.t 27))⟩, ⟨(some 29), none, (.conv .u64 (.t 28))⟩, ⟨(some 30), none, (.bin .shr (.t 26) (.t 29))⟩, ⟨(some 31), none, (.conv .u8 (.t 30))⟩, ⟨(some 32), none, (.iaddr 1 (.t 24) (.t 25))⟩, ⟨none, none, (.store 1 (.t 32) (.t 31))⟩]))) (.reg [⟨(some 33), none, (.bin .add (.t 21) (.c (.int .i64 1)))⟩, ⟨(some 21), none, (.mv (.t 33))⟩]))))))) (.seq (.reg [⟨(some 34), none, (.mv (.t 6))⟩, ⟨(some 35), none, (.bytesS (.t 34))⟩, ⟨(some 4), none, (.mv (.t 35))⟩, ⟨(some 5), none, (.mv (.c (.int .i64 0)))⟩]) .ret)))))
theorem word_Put.code : comp PG [] (Try.f98.body.getD .skip) = word_Put.c := by kernel_rfl
theorem word_Put.of {args : List AV} {H : AH} {K : AV → AH → Prop} (hl : args.length = 2) (h : wpA PG word_Put.c none (endA [(.t 4), (.t 5)] K) (initFr args) H) : ACalls PG 98 args H K :=
  ACalls.of_code (fl := []) mixed Try.func98 (c := Try.f98.body.getD .skip) (by kernel_rfl) (by kernel_rfl) (by rw [hl]; exact of_decide_eq_true (by kernel_rfl)) (by rw [word_Put.code]; kernel_rfl)
    (by rw [word_Put.code, show compRes PG Try.f98.results.toList = [(.t 4), (.t 5)] from by kernel_rfl]; exact h)
def word_Sign.n : Nat := 101
noncomputable def word_Sign.c : C := (.seq (.reg [⟨(some 4), none, (.mv (.c (.int .i64 0)))⟩]) (.seq (.seq (.reg [⟨(some 6), none, (.mv (.t 1))⟩, ⟨(some 7), none, (.call 102 [(.t 6)])⟩, ⟨(some 8), none, (.un .not (.t 7))⟩]) (.cond (.t 8) (.seq (.reg [⟨(some 4), none, (.mv (.c (.int .i64 0)))⟩]) .ret) .skip)) (.seq (.reg [⟨(some 9), none, (.mv (.t 1))⟩, ⟨(some 10), none, (.bin .mul (.c (.int .i64 8)) (.t 9))⟩, ⟨(some 11), none, (.bin .sub (.c (.int .i64 64)) (.t 10))⟩, ⟨(some 12), none, (.conv .u64 (.t 11))⟩, ⟨(some 5), none, (.mv (.t 12))⟩]) (.seq (.reg [⟨(some 13), none, (.mv (.t 0))⟩, ⟨(some 14), none, (.mv (.t 5))⟩, ⟨(some 15), none, (.bin .shl (.t 13) (.t 14))⟩, ⟨(some 16), none, (.conv .i64 (.t 15))⟩, ⟨(some 17), none, (.mv (.t 5))⟩, ⟨(some 18), none, (.bin .shr (.t 16) (.t 17))⟩, ⟨(some 4), none, (.mv (.t 18))⟩]) .ret))))
theorem word_Sign.code : comp PG [] (Try.f101.body.getD .skip) = word_Sign.c := by kernel_rfl
theorem word_Sign.of {args : List AV} {H : AH} {K : AV → AH → Prop} (hl : args.length = 2) (h : wpA PG word_Sign.c none (endA [(.t 4)] K) (initFr args) H) : ACalls PG 101 args H K :=
  ACalls.of_code (fl := []) mixed Try.func101 (c := Try.f101.body.getD .skip) (by kernel_rfl) (by kernel_rfl) (by rw [hl]; exact of_decide_eq_true (by kernel_rfl)) (by rw [word_Sign.code]; kernel_rfl)
    (by rw [word_Sign.code, show compRes PG Try.f101.results.toList = [(.t 4)] from by kernel_rfl]; exact h)
def word_sized.n : Nat := 102
noncomputable def word_sized.c : C := (.seq (.reg [⟨(some 2), none, (.mv (.c (.bool false)))⟩]) (.seq (.reg [⟨(some 3), none, (.mv (.t 0))⟩, ⟨(some 4), none, (.bin .eql (.t 3) (.c (.int .i64 1)))⟩, ⟨(some 5), none, (.mv (.t 4))⟩, ⟨(some 6), (some (5, false)), (.mv (.t 0))⟩, ⟨(some 7), (some (5, false)), (.bin .eql (.t 6) (.c (.int .i64 2)))⟩, ⟨(some 8), none, (.pick (.t 5) (.c (.bool true)) (.t 7))⟩, ⟨(some 9), none, (.mv (.t 8))⟩, ⟨(some 10), (some (9, false)), (.mv (.t 0))⟩, ⟨(some 11), (some (9, false)), (.bin .eql (.t 10) (.c (.int .i64 4)))⟩, ⟨(some 12), none, (.pick (.t 9) (.c (.bool true)) (.t 11))⟩, ⟨(some 13), none, (.mv (.t 12))⟩, ⟨(some 14), (some (13, false)), (.mv (.t 0))⟩, ⟨(some 15), (some (13, false)), (.bin .eql (.t 14) (.c (.int .i64 8)))⟩, ⟨(some 16), none, (.pick (.t 13) (.c (.bool true)) (.t 15))⟩, ⟨(some 2), none, (.mv (.t 16))⟩]) .ret))
theorem word_sized.code : comp PG [] (Try.f102.body.getD .skip) = word_sized.c := by kernel_rfl
theorem word_sized.of {args : List AV} {H : AH} {K : AV → AH → Prop} (hl : args.length = 1) (h : wpA PG word_sized.c none (endA [(.t 2)] K) (initFr args) H) : ACalls PG 102 args H K :=
  ACalls.of_code (fl := []) mixed Try.func102 (c := Try.f102.body.getD .skip) (by kernel_rfl) (by kernel_rfl) (by rw [hl]; exact of_decide_eq_true (by kernel_rfl)) (by rw [word_sized.code]; kernel_rfl)
    (by rw [word_sized.code, show compRes PG Try.f102.results.toList = [(.t 2)] from by kernel_rfl]; exact h)
def word_mask.n : Nat := 103
noncomputable def word_mask.c : C := (.seq (.reg [⟨(some 2), none, (.mv (.c (.int .u64 0)))⟩]) (.seq (.reg [⟨(some 3), none, (.mv (.t 0))⟩, ⟨(some 4), none, (.bin .mul (.c (.int .i64 8)) (.t 3))⟩, ⟨(some 5), none, (.bin .sub (.c (.int .i64 64)) (.t 4))⟩, ⟨(some 6), none, (.conv .u64 (.t 5))⟩, ⟨(some 7), none, (.bin .shr (.c (.int .u64 18446744073709551615)) (.t 6))⟩, ⟨(some 2), none, (.mv (.t 7))⟩]) .ret))
theorem word_mask.code : comp PG [] (Try.f103.body.getD .skip) = word_mask.c := by kernel_rfl
theorem word_mask.of {args : List AV} {H : AH} {K : AV → AH → Prop} (hl : args.length = 1) (h : wpA PG word_mask.c none (endA [(.t 2)] K) (initFr args) H) : ACalls PG 103 args H K :=
  ACalls.of_code (fl := []) mixed Try.func103 (c := Try.f103.body.getD .skip) (by kernel_rfl) (by kernel_rfl) (by rw [hl]; exact of_decide_eq_true (by kernel_rfl)) (by rw [word_mask.code]; kernel_rfl)
    (by rw [word_mask.code, show compRes PG Try.f103.results.toList = [(.t 2)] from by kernel_rfl]; exact h)
end Go.Proofs.Ytmjdkeonjflanaa

/- Each function's translation is, by reckoning, the abstract code that is written out here; its contract follows from the predicate transformer over that code. -/
namespace Go.Proofs.Ytmjdkeonjflanaa
set_option autoImplicit false
set_option maxRecDepth 100000
def broadsheetref08_Much.n : Nat := 6
noncomputable def broadsheetref08_Much.c : C := (.seq (.reg [⟨(some 2), none, (.box 26 (.t 0))⟩, ⟨(some 4), none, (.mv (.c (.bool false)))⟩]) (.seq (.seq (.reg [⟨(some 7), none, (.mv (.t 1))⟩, ⟨(some 8), none, (.bin .gtr (.t 7) (.c (.int .i64 40)))⟩, ⟨(some 9), none, (.mv (.t 8))⟩, ⟨(some 10), (some (9, false)), (.faddr 3 (.t 2))⟩, ⟨(some 11), (some (9, false)), (.load none (.t 10))⟩, ⟨(some 12), (some (9, false)), (.len false (.t 11))⟩, ⟨(some 13), (some (9, false)), (.bin .gtr (.t 12) (.c (.int .i64 300)))⟩, ⟨(some 14), none, (.pick (.t 9) (.c (.bool true)) (.t 13))⟩, ⟨(some 15), none, (.mv (.t 14))⟩, ⟨(some 16), (some (15, false)), (.faddr 2 (.t 2))⟩, ⟨(some 17), (some (15, false)), (.load none (.t 16))⟩, ⟨(some 18), (some (15, false)), (.len true (.t 17))⟩, ⟨(some 19), (some (15, false)), (.bin .gtr (.t 18) (.c (.int .i64 1000)))⟩, ⟨(some 20), none, (.pick (.t 15) (.c (.bool true)) (.t 19))⟩]) (.cond (.t 20) (.seq (.reg [⟨(some 4), none, (.mv (.c (.bool true)))⟩]) .ret) .skip)) (.seq (.reg [⟨(some 5), none, (.mv (.c (.int .i64 0)))⟩]) (.seq (.seq (.reg [⟨(some 6), none, (.mv (.c (.int .i64 0)))⟩]) (.block 0 (.loop (.seq (.seq (.reg [⟨(some 21), none, (.mv (.t 6))⟩, ⟨(some 22), none, (.faddr 3 (.t 2))⟩, ⟨(some 23), none, (.load none (.t 22))⟩, ⟨(some 24), none, (.len false (.t 23))⟩, ⟨(some 25), none, (.bin .lss (.t 21) (.t 24))⟩]) (.cond (.t 25) .skip (.exit 0))) (.seq (.block 1 (.seq (.seq (.dreg [⟨(some 28), none, (.faddr 3 (.t 2))⟩, ⟨(some 29), none, (.load none (.t 28))⟩, ⟨(some 30), none, (.mv (.t 6))⟩, ⟨(some 31), none, (.iaddr 4 (.t 29) (.t 30))⟩, ⟨(some 32), none, (.load (some 4) (.t 31))⟩, ⟨(some 33), none, (.mv (.t 1))⟩, ⟨(some 34), none, (.bin .add (.t 33) (.c (.int .i64 1)))⟩, ⟨(some 35), none, (.faddr 3 (.t 2))⟩, ⟨(some 36), none, (.load none (.t 35))⟩, ⟨(some 37), none, (.len false (.t 36))⟩, ⟨(some 38), none, (.bin .quo (.t 37) (.c (.int .i64 4)))⟩, ⟨(some 39), none, (.bin .add (.t 34) (.t 38))⟩] [⟨(some 40), none, (.call 6 [(.t 32), (.t 39)])⟩]) (.cond (.t 40) (.seq (.reg [⟨(some 4), none, (.mv (.c (.bool true)))⟩]) .ret) .skip)) (.reg [⟨(some 41), none, (.mv (.t 5))⟩, ⟨(some 42), none, (.faddr 3 (.t 2))⟩, ⟨(some 43), none, (.load none (.t 42))⟩, ⟨(some 44), none, (.mv (.t 6))⟩, ⟨(some 45), none, (.iaddr 4 (.t 43) (.t 44))⟩, ⟨(some 46), none, (.load (some 4) (.t 45))⟩, ⟨(some 47), none, (.call 14 [(.t 46)])⟩, ⟨(some 48), none, (.bin .add (.t 41) (.t 47))⟩, ⟨(some 49), none, (.mm false [(.t 48), (.c (.int .i64 100000))])⟩, ⟨(some 5), none, (.mv (.t 49))⟩]))) (.reg [⟨(some 26), none, (.mv (.t 6))⟩, ⟨(some 27), none, (.bin .add (.t 26) (.c (.int .i64 1)))⟩, ⟨(some 6), none, (.mv (.t 27))⟩])))))) (.seq (.reg [⟨(some 50), none, (.mv (.t 5))⟩, ⟨(some 51), none, (.bin .gtr (.t 50) (.c (.int .i64 10000)))⟩, ⟨(some 4), none, (.mv (.t 51))⟩]) .ret)))))
theorem broadsheetref08_Much.code : comp PG [] (Try.f6.body.getD .skip) = broadsheetref08_Much.c := by kernel_rfl
theorem broadsheetref08_Much.of {args : List AV} {H : AH} {K : AV → AH → Prop} (hl : args.length = 2) (h : wpA PG broadsheetref08_Much.c none (endA [(.t 4)] K) (initFr args) H) : ACalls PG 6 args H K :=
  ACalls.of_code (fl := []) mixed Try.func6 (c := Try.f6.body.getD .skip) (by kernel_rfl) (by kernel_rfl) (by rw [hl]; exact of_decide_eq_true (by kernel_rfl)) (by rw [broadsheetref08_Much.code]; kernel_rfl)
    (by rw [broadsheetref08_Much.code, show compRes PG Try.f6.results.toList = [(.t 4)] from by kernel_rfl]; exact h)
def value_Same.n : Nat := 9
noncomputable def value_Same.c : C := (.seq (.reg [⟨(some 2), none, (.box 26 (.t 0))⟩, ⟨(some 3), none, (.box 26 (.t 1))⟩, ⟨(some 4), none, (.mv (.c (.bool false)))⟩]) (.seq (.seq (.reg [⟨(some 7), none, (.faddr 0 (.t 2))⟩, ⟨(some 8), none, (.load none (.t 7))⟩, ⟨(some 9), none, (.faddr 0 (.t 3))⟩, ⟨(some 10), none, (.load none (.t 9))⟩, ⟨(some 11), none, (.bin .neq (.t 8) (.t 10))⟩, ⟨(some 12), none, (.mv (.t 11))⟩, ⟨(some 13), (some (12, false)), (.faddr 1 (.t 2))⟩, ⟨(some 14), (some (12, false)), (.load none (.t 13))⟩, ⟨(some 15), (some (12, false)), (.faddr 1 (.t 3))⟩, ⟨(some 16), (some (12, false)), (.load none (.t 15))⟩, ⟨(some 17), (some (12, false)), (.bin .neq (.t 14) (.t 16))⟩, ⟨(some 18), none, (.pick (.t 12) (.c (.bool true)) (.t 17))⟩, ⟨(some 19), none, (.mv (.t 18))⟩, ⟨(some 20), (some (19, false)), (.faddr 2 (.t 2))⟩, ⟨(some 21), (some (19, false)), (.load none (.t 20))⟩, ⟨(some 22), (some (19, false)), (.faddr 2 (.t 3))⟩, ⟨(some 23), (some (19, false)), (.load none (.t 22))⟩, ⟨(some 24), (some (19, false)), (.bin .neq (.t 21) (.t 23))⟩, ⟨(some 25), none, (.pick (.t 19) (.c (.bool true)) (.t 24))⟩, ⟨(some 26), none, (.mv (.t 25))⟩, ⟨(some 27), (some (26, false)), (.faddr 3 (.t 2))⟩, ⟨(some 28), (some (26, false)), (.load none (.t 27))⟩, ⟨(some 29), (some (26, false)), (.len false (.t 28))⟩, ⟨(some 30), (some (26, false)), (.faddr 3 (.t 3))⟩, ⟨(some 31), (some (26, false)), (.load none (.t 30))⟩, ⟨(some 32), (some (26, false)), (.len false (.t 31))⟩, ⟨(some 33), (some (26, false)), (.bin .neq (.t 29) (.t 32))⟩, ⟨(some 34), none, (.pick (.t 26) (.c (.bool true)) (.t 33))⟩]) (.cond (.t 34) (.seq (.reg [⟨(some 4), none, (.mv (.c (.bool false)))⟩]) .ret) .skip)) (.seq (.seq (.reg [⟨(some 35), none, (.faddr 3 (.t 2))⟩, ⟨(some 36), none, (.load none (.t 35))⟩, ⟨(some 37), none, (.len false (.t 36))⟩, ⟨(some 38), none, (.mv (.c (.int .i64 0)))⟩]) (.block 0 (.loop (.seq (.reg [⟨(some 39), none, (.bin .lss (.t 38) (.t 37))⟩]) (.seq (.cond (.t 39) .skip (.exit 0)) (.seq (.block 1 (.seq (.reg [⟨(some 40), none, (.mv (.t 38))⟩, ⟨(some 41), none, (.iaddr 4 (.t 36) (.t 38))⟩, ⟨(some 42), none, (.load (some 4) (.t 41))⟩, ⟨(some 6), none, (.allc 26 [(.int .i64 0), (.int .u64 0), (.str []), .nilS])⟩, ⟨(some 5), none, (.mv (.t 40))⟩, ⟨none, none, (.store 4 (.t 6) (.t 42))⟩]) (.seq (.dreg [⟨(some 43), none, (.load (some 4) (.t 6))⟩, ⟨(some 44), none, (.faddr 3 (.t 3))⟩, ⟨(some 45), none, (.load none (.t 44))⟩, ⟨(some 46), none, (.mv (.t 5))⟩, ⟨(some 47), none, (.iaddr 4 (.t 45) (.t 46))⟩, ⟨(some 48), none, (.load (some 4) (.t 47))⟩] [⟨(some 49), none, (.call 9 [(.t 43), (.t 48)])⟩, ⟨(some 50), none, (.un .not (.t 49))⟩]) (.cond (.t 50) (.seq (.reg [⟨(some 4), none, (.mv (.c (.bool false)))⟩]) .ret) .skip)))) (.reg [⟨(some 51), none, (.bin .add (.t 38) (.c (.int .i64 1)))⟩, ⟨(some 38), none, (.mv (.t 51))⟩]))))))) (.seq (.reg [⟨(some 4), none, (.mv (.c (.bool true)))⟩]) .ret))))
theorem value_Same.code : comp PG [] (Try.f9.body.getD .skip) = value_Same.c := by kernel_rfl
theorem value_Same.of {args : List AV} {H : AH} {K : AV → AH → Prop} (hl : args.length = 2) (h : wpA PG value_Same.c none (endA [(.t 4)] K) (initFr args) H) : ACalls PG 9 args H K :=
  ACalls.of_code (fl := []) mixed Try.func9 (c := Try.f9.body.getD .skip) (by kernel_rfl) (by kernel_rfl) (by rw [hl]; exact of_decide_eq_true (by kernel_rfl)) (by rw [value_Same.code]; kernel_rfl)
    (by rw [value_Same.code, show compRes PG Try.f9.results.toList = [(.t 4)] from by kernel_rfl]; exact h)
def broadsheetref08_Great.n : Nat := 14
noncomputable def broadsheetref08_Great.c : C := (.seq (.reg [⟨(some 1), none, (.box 26 (.t 0))⟩, ⟨(some 2), none, (.mv (.c (.int .i64 0)))⟩]) (.seq (.reg [⟨(some 5), none, (.faddr 2 (.t 1))⟩, ⟨(some 6), none, (.load none (.t 5))⟩, ⟨(some 7), none, (.len true (.t 6))⟩, ⟨(some 8), none, (.bin .add (.c (.int .i64 1)) (.t 7))⟩, ⟨(some 3), none, (.mv (.t 8))⟩]) (.seq (.seq (.reg [⟨(some 4), none, (.mv (.c (.int .i64 0)))⟩]) (.block 0 (.loop (.seq (.seq (.reg [⟨(some 9), none, (.mv (.t 4))⟩, ⟨(some 10), none, (.faddr 3 (.t 1))⟩, ⟨(some 11), none, (.load none (.t 10))⟩, ⟨(some 12), none, (.len false (.t 11))⟩, ⟨(some 13), none, (.bin .lss (.t 9) (.t 12))⟩]) (.cond (.t 13) .skip (.exit 0))) (.seq (.block 1 (.reg [⟨(some 16), none, (.mv (.t 3))⟩, ⟨(some 17), none, (.faddr 3 (.t 1))⟩, ⟨(some 18), none, (.load none (.t 17))⟩, ⟨(some 19), none, (.mv (.t 4))⟩, ⟨(some 20), none, (.iaddr 4 (.t 18) (.t 19))⟩, ⟨(some 21), none, (.load (some 4) (.t 20))⟩, ⟨(some 22), none, (.call 14 [(.t 21)])⟩, ⟨(some 23), none, (.bin .add (.t 16) (.t 22))⟩, ⟨(some 3), none, (.mv (.t 23))⟩])) (.reg [⟨(some 14), none, (.mv (.t 4))⟩, ⟨(some 15), none, (.bin .add (.t 14) (.c (.int .i64 1)))⟩, ⟨(some 4), none, (.mv (.t 15))⟩])))))) (.seq (.reg [⟨(some 24), none, (.mv (.t 3))⟩, ⟨(some 2), none, (.mv (.t 24))⟩]) .ret))))
theorem broadsheetref08_Great.code : comp PG [] (Try.f14.body.getD .skip) = broadsheetref08_Great.c := by kernel_rfl
theorem broadsheetref08_Great.of {args : List AV} {H : AH} {K : AV → AH → Prop} (hl : args.length = 1) (h : wpA PG broadsheetref08_Great.c none (endA [(.t 2)] K) (initFr args) H) : ACalls PG 14 args H K :=
  ACalls.of_code (fl := []) mixed Try.func14 (c := Try.f14.body.getD .skip) (by kernel_rfl) (by kernel_rfl) (by rw [hl]; exact of_decide_eq_true (by kernel_rfl)) (by rw [broadsheetref08_Great.code]; kernel_rfl)
    (by rw [broadsheetref08_Great.code, show compRes PG Try.f14.results.toList = [(.t 2)] from by kernel_rfl]; exact h)
end Go.Proofs.Ytmjdkeonjflanaa

/- Each function's translation is, by reckoning, the abstract code that is written out here; its contract follows from the predicate transformer over that code. -/
namespace Go.Proofs.Ytmjdkeonjflanaa
set_option autoImplicit false
set_option maxRecDepth 100000
def fits_Fits.n : Nat := 11
noncomputable def fits_Fits.c : C := (.seq (.reg [⟨(some 5), none, (.box 26 (.t 2))⟩, ⟨(some 6), none, (.mv (.c (.int .i64 0)))⟩]) (.seq (.seq (.reg [⟨(some 7), none, (.mv (.t 0))⟩, ⟨(some 8), none, (.mv (.t 1))⟩, ⟨(some 9), none, (.call 18 [(.t 7), (.t 8)])⟩, ⟨(some 10), none, (.un .not (.t 9))⟩]) (.cond (.t 10) (.seq (.reg [⟨(some 6), none, (.mv (.c (.int .i64 8)))⟩]) .ret) .skip)) (.seq (.reg [⟨(some 11), none, (.mv (.t 0))⟩, ⟨(some 12), none, (.build [.nilS] [(0, (1, (.t 11)))])⟩, ⟨(some 13), none, (.mv (.t 1))⟩, ⟨(some 14), none, (.load (some 4) (.t 5))⟩, ⟨(some 15), none, (.call 19 [(.t 12), (.t 13), (.t 14)])⟩, ⟨(some 6), none, (.mv (.t 15))⟩]) .ret)))
theorem fits_Fits.code : comp PG [] (Try.f11.body.getD .skip) = fits_Fits.c := by kernel_rfl
theorem fits_Fits.of {args : List AV} {H : AH} {K : AV → AH → Prop} (hl : args.length = 3) (h : wpA PG fits_Fits.c none (endA [(.t 6)] K) (initFr args) H) : ACalls PG 11 args H K :=
  ACalls.of_code (fl := []) mixed Try.func11 (c := Try.f11.body.getD .skip) (by kernel_rfl) (by kernel_rfl) (by rw [hl]; exact of_decide_eq_true (by kernel_rfl)) (by rw [fits_Fits.code]; kernel_rfl)
    (by rw [fits_Fits.code, show compRes PG Try.f11.results.toList = [(.t 6)] from by kernel_rfl]; exact h)
def fits_known.n : Nat := 18
noncomputable def fits_known.c : C := (.seq (.reg [⟨(some 4), none, (.mv (.c (.bool false)))⟩]) (.seq (.reg [⟨(some 5), none, (.mv (.t 1))⟩, ⟨(some 6), none, (.bin .geq (.t 5) (.c (.int .i64 0)))⟩, ⟨(some 7), none, (.mv (.t 6))⟩, ⟨(some 8), (some (7, true)), (.mv (.t 1))⟩, ⟨(some 9), (some (7, true)), (.mv (.t 0))⟩, ⟨(some 10), (some (7, true)), (.len false (.t 9))⟩, ⟨(some 11), (some (7, true)), (.bin .lss (.t 8) (.t 10))⟩, ⟨(some 12), none, (.pick (.t 7) (.t 11) (.c (.bool false)))⟩, ⟨(some 13), none, (.mv (.t 12))⟩, ⟨(some 14), (some (13, true)), (.mv (.t 0))⟩, ⟨(some 15), (some (13, true)), (.call 26 [(.t 14)])⟩, ⟨(some 16), (some (13, true)), (.field 0 none (.t 15))⟩, ⟨(some 17), (some (13, true)), (.bin .eql (.t 16) (.c (.int .i64 0)))⟩, ⟨(some 18), none, (.pick (.t 13) (.t 17) (.c (.bool false)))⟩, ⟨(some 4), none, (.mv (.t 18))⟩]) .ret))
theorem fits_known.code : comp PG [] (Try.f18.body.getD .skip) = fits_known.c := by kernel_rfl
theorem fits_known.of {args : List AV} {H : AH} {K : AV → AH → Prop} (hl : args.length = 2) (h : wpA PG fits_known.c none (endA [(.t 4)] K) (initFr args) H) : ACalls PG 18 args H K :=
  ACalls.of_code (fl := []) mixed Try.func18 (c := Try.f18.body.getD .skip) (by kernel_rfl) (by kernel_rfl) (by rw [hl]; exact of_decide_eq_true (by kernel_rfl)) (by rw [fits_known.code]; kernel_rfl)
    (by rw [fits_known.code, show compRes PG Try.f18.results.toList = [(.t 4)] from by kernel_rfl]; exact h)
def fits_asker_fits.n : Nat := 19
noncomputable def fits_asker_fits.c : C := (.seq (.reg [⟨(some 3), none, (.box 52 (.t 0))⟩, ⟨(some 5), none, (.box 26 (.t 2))⟩, ⟨(some 6), none, (.mv (.c (.int .i64 0)))⟩]) (.seq (.reg [⟨(some 8), none, (.faddr 0 (.t 3))⟩, ⟨(some 9), none, (.load none (.t 8))⟩, ⟨(some 10), none, (.mv (.t 1))⟩, ⟨(some 11), none, (.iaddr 6 (.t 9) (.t 10))⟩, ⟨(some 12), none, (.load (some 6) (.t 11))⟩, ⟨(some 7), none, (.allc 44 [(.int .i64 0), (.str []), (.int .i64 0), (.int .i64 0), (.int .i64 0), .nilS])⟩, ⟨none, none, (.store 6 (.t 7) (.t 12))⟩]) (.seq (.block 0 (.seq (.reg [⟨(some 14), none, (.faddr 0 (.t 5))⟩, ⟨(some 15), none, (.load none (.t 14))⟩, ⟨(some 16), none, (.faddr 0 (.t 7))⟩, ⟨(some 17), none, (.load none (.t 16))⟩, ⟨(some 18), none, (.bin .neq (.t 15) (.t 17))⟩, ⟨(some 13), none, (.mv (.t 18))⟩]) (.cond (.t 13) (.seq (.reg [⟨(some 6), none, (.mv (.c (.int .i64 4)))⟩]) .ret) (.seq (.reg [⟨(some 20), none, (.load (some 4) (.t 5))⟩, ⟨(some 21), none, (.call 27 [(.t 20)])⟩, ⟨(some 22), none, (.un .not (.t 21))⟩, ⟨(some 23), none, (.mv (.t 22))⟩, ⟨(some 24), (some (23, false)), (.load (some 4) (.t 5))⟩, ⟨(some 25), (some (23, false)), (.call 28 [(.t 24)])⟩, ⟨(some 26), (some (23, false)), (.un .not (.t 25))⟩, ⟨(some 27), none, (.pick (.t 23) (.c (.bool true)) (.t 26))⟩, ⟨(some 19), none, (.mv (.t 27))⟩]) (.cond (.t 19) (.seq (.reg [⟨(some 6), none, (.mv (.c (.int .i64 1)))⟩]) .ret) (.seq (.reg [⟨(some 29), none, (.faddr 0 (.t 7))⟩, ⟨(some 30), none, (.load none (.t 29))⟩, ⟨(some 31), none, (.call 29 [(.t 30)])⟩, ⟨(some 28), none, (.mv (.t 31))⟩]) (.cond (.t 28) (.seq (.seq (.reg [⟨(some 32), none, (.load (some 1) (.t 3))⟩, ⟨(some 33), none, (.mv (.t 1))⟩, ⟨(some 34), none, (.faddr 1 (.t 5))⟩, ⟨(some 35), none, (.load none (.t 34))⟩, ⟨(some 36), none, (.call 30 [(.t 32), (.t 33), (.t 35)])⟩, ⟨(some 37), none, (.un .not (.t 36))⟩]) (.cond (.t 37) (.seq (.reg [⟨(some 6), none, (.mv (.c (.int .i64 7)))⟩]) .ret) .skip)) (.seq (.reg [⟨(some 6), none, (.mv (.c (.int .i64 0)))⟩]) .ret)) (.seq (.reg [⟨(some 39), none, (.faddr 0 (.t 7))⟩, ⟨(some 40), none, (.load none (.t 39))⟩, ⟨(some 41), none, (.bin .eql (.t 40) (.c (.int .i64 10)))⟩, ⟨(some 38), none, (.mv (.t 41))⟩]) (.cond (.t 38) (.seq (.reg [⟨(some 42), none, (.faddr 2 (.t 5))⟩, ⟨(some 43), none, (.load none (.t 42))⟩, ⟨(some 44), none, (.faddr 2 (.t 7))⟩, ⟨(some 45), none, (.load none (.t 44))⟩, ⟨(some 46), none, (.call 31 [(.t 43), (.t 45)])⟩, ⟨(some 6), none, (.mv (.t 46))⟩]) .ret) (.seq (.reg [⟨(some 48), none, (.faddr 0 (.t 7))⟩, ⟨(some 49), none, (.load none (.t 48))⟩, ⟨(some 50), none, (.bin .eql (.t 49) (.c (.int .i64 11)))⟩, ⟨(some 51), none, (.mv (.t 50))⟩, ⟨(some 52), (some (51, true)), (.faddr 3 (.t 5))⟩, ⟨(some 53), (some (51, true)), (.load none (.t 52))⟩, ⟨(some 54), (some (51, true)), (.len false (.t 53))⟩, ⟨(some 55), (some (51, true)), (.faddr 2 (.t 7))⟩, ⟨(some 56), (some (51, true)), (.load none (.t 55))⟩, ⟨(some 57), (some (51, true)), (.bin .gtr (.t 54) (.t 56))⟩, ⟨(some 58), none, (.pick (.t 51) (.t 57) (.c (.bool false)))⟩, ⟨(some 47), none, (.mv (.t 58))⟩]) (.cond (.t 47) (.seq (.reg [⟨(some 6), none, (.mv (.c (.int .i64 3)))⟩]) .ret) (.seq (.reg [⟨(some 60), none, (.faddr 0 (.t 7))⟩, ⟨(some 61), none, (.load none (.t 60))⟩, ⟨(some 62), none, (.bin .eql (.t 61) (.c (.int .i64 11)))⟩, ⟨(some 59), none, (.mv (.t 62))⟩]) (.cond (.t 59) (.seq (.reg [⟨(some 63), none, (.load (some 1) (.t 3))⟩, ⟨(some 64), none, (.load (some 4) (.t 5))⟩, ⟨(some 65), none, (.faddr 3 (.t 5))⟩, ⟨(some 66), none, (.load none (.t 65))⟩, ⟨(some 67), none, (.len false (.t 66))⟩, ⟨(some 68), none, (.mkfn 33 [] [(.t 7)])⟩, ⟨(some 69), none, (.call 32 [(.t 63), (.t 64), (.t 67), (.t 68)])⟩, ⟨(some 6), none, (.mv (.t 69))⟩]) .ret) (.seq (.reg [⟨(some 71), none, (.faddr 0 (.t 7))⟩, ⟨(some 72), none, (.load none (.t 71))⟩, ⟨(some 73), none, (.bin .eql (.t 72) (.c (.int .i64 12)))⟩, ⟨(some 70), none, (.mv (.t 73))⟩]) (.cond (.t 70) (.seq (.reg [⟨(some 74), none, (.load (some 1) (.t 3))⟩, ⟨(some 75), none, (.load (some 4) (.t 5))⟩, ⟨(some 76), none, (.faddr 2 (.t 7))⟩, ⟨(some 77), none, (.load none (.t 76))⟩, ⟨(some 78), none, (.mkfn 34 [] [(.t 7)])⟩, ⟨(some 79), none, (.call 32 [(.t 74), (.t 75), (.t 77), (.t 78)])⟩, ⟨(some 6), none, (.mv (.t 79))⟩]) .ret) (.seq (.reg [⟨(some 81), none, (.faddr 0 (.t 7))⟩, ⟨(some 82), none, (.load none (.t 81))⟩, ⟨(some 83), none, (.bin .eql (.t 82) (.c (.int .i64 13)))⟩, ⟨(some 80), none, (.mv (.t 83))⟩]) (.cond (.t 80) (.seq (.reg [⟨(some 84), none, (.load (some 1) (.t 3))⟩, ⟨(some 85), none, (.load (some 4) (.t 5))⟩, ⟨(some 86), none, (.faddr 5 (.t 7))⟩, ⟨(some 87), none, (.load none (.t 86))⟩, ⟨(some 88), none, (.len false (.t 87))⟩, ⟨(some 89), none, (.mkfn 35 [] [(.t 7)])⟩, ⟨(some 90), none, (.call 32 [(.t 84), (.t 85), (.t 88), (.t 89)])⟩, ⟨(some 6), none, (.mv (.t 90))⟩]) .ret) .skip))))))))))))))))) (.seq (.reg [⟨(some 91), none, (.load (some 1) (.t 3))⟩, ⟨(some 92), none, (.mv (.t 1))⟩, ⟨(some 93), none, (.load (some 4) (.t 5))⟩, ⟨(some 94), none, (.call 36 [(.t 91), (.t 92), (.t 93)])⟩, ⟨(some 6), none, (.mv (.t 94))⟩]) .ret))))
theorem fits_asker_fits.code : comp PG [] (Try.f19.body.getD .skip) = fits_asker_fits.c := by kernel_rfl
theorem fits_asker_fits.of {args : List AV} {H : AH} {K : AV → AH → Prop} (hl : args.length = 3) (h : wpA PG fits_asker_fits.c none (endA [(.t 6)] K) (initFr args) H) : ACalls PG 19 args H K :=
  ACalls.of_code (fl := []) mixed Try.func19 (c := Try.f19.body.getD .skip) (by kernel_rfl) (by kernel_rfl) (by rw [hl]; exact of_decide_eq_true (by kernel_rfl)) (by rw [fits_asker_fits.code]; kernel_rfl)
    (by rw [fits_asker_fits.code, show compRes PG Try.f19.results.toList = [(.t 6)] from by kernel_rfl]; exact h)
def fits_form.n : Nat := 27
noncomputable def fits_form.c : C := (.seq (.reg [⟨(some 1), none, (.box 26 (.t 0))⟩, ⟨(some 2), none, (.mv (.c (.bool false)))⟩]) (.seq (.dreg [⟨(some 6), none, (.faddr 0 (.t 1))⟩, ⟨(some 7), none, (.load none (.t 6))⟩, ⟨(some 8), none, (.bin .eql (.t 7) (.c (.int .i64 10)))⟩, ⟨(some 9), none, (.faddr 0 (.t 1))⟩, ⟨(some 10), none, (.load none (.t 9))⟩, ⟨(some 11), none, (.bin .gtr (.t 10) (.c (.int .i64 10)))⟩, ⟨(some 3), none, (.mv (.t 8))⟩] [⟨(some 4), none, (.mv (.t 11))⟩]) (.seq (.reg [⟨(some 12), none, (.faddr 0 (.t 1))⟩, ⟨(some 13), none, (.load none (.t 12))⟩, ⟨(some 14), none, (.call 29 [(.t 13)])⟩, ⟨(some 15), none, (.mv (.t 14))⟩, ⟨(some 16), (some (15, false)), (.faddr 0 (.t 1))⟩, ⟨(some 17), (some (15, false)), (.load none (.t 16))⟩, ⟨(some 18), (some (15, false)), (.bin .eql (.t 17) (.c (.int .i64 14)))⟩, ⟨(some 19), none, (.pick (.t 15) (.c (.bool true)) (.t 18))⟩, ⟨(some 5), none, (.mv (.t 19))⟩]) (.seq (.reg [⟨(some 20), none, (.mv (.t 5))⟩, ⟨(some 21), none, (.mv (.t 20))⟩, ⟨(some 22), (some (21, false)), (.faddr 1 (.t 1))⟩, ⟨(some 23), (some (21, false)), (.load none (.t 22))⟩, ⟨(some 24), (some (21, false)), (.bin .eql (.t 23) (.c (.int .u64 0)))⟩, ⟨(some 25), (some (21, false)), (.mv (.t 24))⟩, ⟨(some 26), (some (25, true)), (.mv (.t 3))⟩, ⟨(some 27), (some (25, true)), (.mv (.t 26))⟩, ⟨(some 28), (some (27, false)), (.faddr 2 (.t 1))⟩, ⟨(some 29), (some (27, false)), (.load none (.t 28))⟩, ⟨(some 30), (some (27, false)), (.bin .eql (.t 29) (.c (.str [])))⟩, ⟨(some 31), (some (25, true)), (.pick (.t 27) (.c (.bool true)) (.t 30))⟩, ⟨(some 32), (some (21, false)), (.pick (.t 25) (.t 31) (.c (.bool false)))⟩, ⟨(some 33), (some (21, false)), (.mv (.t 32))⟩, ⟨(some 34), (some (33, true)), (.mv (.t 4))⟩, ⟨(some 35), (some (33, true)), (.mv (.t 34))⟩, ⟨(some 36), (some (35, false)), (.faddr 3 (.t 1))⟩, ⟨(some 37), (some (35, false)), (.load none (.t 36))⟩, ⟨(some 38), (some (35, false)), (.len false (.t 37))⟩, ⟨(some 39), (some (35, false)), (.bin .eql (.t 38) (.c (.int .i64 0)))⟩, ⟨(some 40), (some (33, true)), (.pick (.t 35) (.c (.bool true)) (.t 39))⟩, ⟨(some 41), (some (21, false)), (.pick (.t 33) (.t 40) (.c (.bool false)))⟩, ⟨(some 42), none, (.pick (.t 21) (.c (.bool true)) (.t 41))⟩, ⟨(some 2), none, (.mv (.t 42))⟩]) .ret))))
theorem fits_form.code : comp PG [] (Try.f27.body.getD .skip) = fits_form.c := by kernel_rfl
theorem fits_form.of {args : List AV} {H : AH} {K : AV → AH → Prop} (hl : args.length = 1) (h : wpA PG fits_form.c none (endA [(.t 2)] K) (initFr args) H) : ACalls PG 27 args H K :=
  ACalls.of_code (fl := []) mixed Try.func27 (c := Try.f27.body.getD .skip) (by kernel_rfl) (by kernel_rfl) (by rw [hl]; exact of_decide_eq_true (by kernel_rfl)) (by rw [fits_form.code]; kernel_rfl)
    (by rw [fits_form.code, show compRes PG Try.f27.results.toList = [(.t 2)] from by kernel_rfl]; exact h)
def fits_plain.n : Nat := 28
noncomputable def fits_plain.c : C := (.seq (.reg [⟨(some 1), none, (.box 26 (.t 0))⟩, ⟨(some 2), none, (.mv (.c (.bool false)))⟩]) (.seq (.reg [⟨(some 3), none, (.faddr 2 (.t 1))⟩, ⟨(some 4), none, (.load none (.t 3))⟩, ⟨(some 5), none, (.bin .eql (.t 4) (.c (.str [])))⟩, ⟨(some 6), none, (.mv (.t 5))⟩, ⟨(some 7), (some (6, true)), (.faddr 0 (.t 1))⟩, ⟨(some 8), (some (6, true)), (.load none (.t 7))⟩, ⟨(some 9), (some (6, true)), (.bin .eql (.t 8) (.c (.int .i64 14)))⟩, ⟨(some 10), (some (6, true)), (.mv (.t 9))⟩, ⟨(some 11), (some (10, false)), (.faddr 3 (.t 1))⟩, ⟨(some 12), (some (10, false)), (.load none (.t 11))⟩, ⟨(some 13), (some (10, false)), (.len false (.t 12))⟩, ⟨(some 14), (some (10, false)), (.bin .eql (.t 13) (.c (.int .i64 0)))⟩, ⟨(some 15), (some (6, true)), (.pick (.t 10) (.c (.bool true)) (.t 14))⟩, ⟨(some 16), none, (.pick (.t 6) (.t 15) (.c (.bool false)))⟩, ⟨(some 17), none, (.mv (.t 16))⟩, ⟨(some 18), (some (17, false)), (.faddr 0 (.t 1))⟩, ⟨(some 19), (some (17, false)), (.load none (.t 18))⟩, ⟨(some 20), (some (17, false)), (.bin .eql (.t 19) (.c (.int .i64 10)))⟩, ⟨(some 21), none, (.pick (.t 17) (.c (.bool true)) (.t 20))⟩, ⟨(some 22), none, (.mv (.t 21))⟩, ⟨(some 23), (some (22, false)), (.faddr 0 (.t 1))⟩, ⟨(some 24), (some (22, false)), (.load none (.t 23))⟩, ⟨(some 25), (some (22, false)), (.bin .gtr (.t 24) (.c (.int .i64 10)))⟩, ⟨(some 26), (some (22, false)), (.mv (.t 25))⟩, ⟨(some 27), (some (26, true)), (.faddr 0 (.t 1))⟩, ⟨(some 28), (some (26, true)), (.load none (.t 27))⟩, ⟨(some 29), (some (26, true)), (.bin .neq (.t 28) (.c (.int .i64 14)))⟩, ⟨(some 30), (some (22, false)), (.pick (.t 26) (.t 29) (.c (.bool false)))⟩, ⟨(some 31), none, (.pick (.t 22) (.c (.bool true)) (.t 30))⟩, ⟨(some 2), none, (.mv (.t 31))⟩]) .ret))
theorem fits_plain.code : comp PG [] (Try.f28.body.getD .skip) = fits_plain.c := by kernel_rfl
theorem fits_plain.of {args : List AV} {H : AH} {K : AV → AH → Prop} (hl : args.length = 1) (h : wpA PG fits_plain.c none (endA [(.t 2)] K) (initFr args) H) : ACalls PG 28 args H K :=
  ACalls.of_code (fl := []) mixed Try.func28 (c := Try.f28.body.getD .skip) (by kernel_rfl) (by kernel_rfl) (by rw [hl]; exact of_decide_eq_true (by kernel_rfl)) (by rw [fits_plain.code]; kernel_rfl)
    (by rw [fits_plain.code, show compRes PG Try.f28.results.toList = [(.t 2)] from by kernel_rfl]; exact h)
def fits_asker_number.n : Nat := 30
noncomputable def fits_asker_number.c : C := (.seq (.reg [⟨(some 3), none, (.box 52 (.t 0))⟩, ⟨(some 6), none, (.mv (.c (.bool false)))⟩]) (.seq (.seq (.reg [⟨(some 9), none, (.faddr 0 (.t 3))⟩, ⟨(some 10), none, (.load none (.t 9))⟩, ⟨(some 11), none, (.mv (.t 1))⟩, ⟨(some 12), none, (.iaddr 6 (.t 10) (.t 11))⟩, ⟨(some 13), none, (.faddr 0 (.t 12))⟩, ⟨(some 14), none, (.load none (.t 13))⟩, ⟨(some 15), none, (.bin .eql (.t 14) (.c (.int .i64 9)))⟩]) (.cond (.t 15) (.seq (.reg [⟨(some 17), none, (.faddr 0 (.t 3))⟩, ⟨(some 18), none, (.load none (.t 17))⟩, ⟨(some 19), none, (.mv (.t 1))⟩, ⟨(some 20), none, (.mv (.t 2))⟩, ⟨(some 21), none, (.call 51 [(.t 18), (.t 19), (.t 20)])⟩, ⟨(some 16), none, (.mv (.t 21))⟩, ⟨(some 22), none, (.extr (.t 16) 0)⟩, ⟨(some 23), none, (.extr (.t 16) 1)⟩, ⟨(some 7), none, (.mv (.t 22))⟩, ⟨(some 8), none, (.mv (.t 23))⟩]) (.seq (.reg [⟨(some 24), none, (.mv (.t 8))⟩, ⟨(some 6), none, (.mv (.t 24))⟩]) .ret)) .skip)) (.seq (.reg [⟨(some 25), none, (.faddr 0 (.t 3))⟩, ⟨(some 26), none, (.load none (.t 25))⟩, ⟨(some 27), none, (.mv (.t 1))⟩, ⟨(some 28), none, (.iaddr 6 (.t 26) (.t 27))⟩, ⟨(some 29), none, (.faddr 0 (.t 28))⟩, ⟨(some 30), none, (.load none (.t 29))⟩, ⟨(some 31), none, (.mv (.t 2))⟩, ⟨(some 32), none, (.call 52 [(.t 30), (.t 31)])⟩, ⟨(some 6), none, (.mv (.t 32))⟩]) .ret)))
theorem fits_asker_number.code : comp PG [] (Try.f30.body.getD .skip) = fits_asker_number.c := by kernel_rfl
theorem fits_asker_number.of {args : List AV} {H : AH} {K : AV → AH → Prop} (hl : args.length = 3) (h : wpA PG fits_asker_number.c none (endA [(.t 6)] K) (initFr args) H) : ACalls PG 30 args H K :=
  ACalls.of_code (fl := []) mixed Try.func30 (c := Try.f30.body.getD .skip) (by kernel_rfl) (by kernel_rfl) (by rw [hl]; exact of_decide_eq_true (by kernel_rfl)) (by rw [fits_asker_number.code]; kernel_rfl)
    (by rw [fits_asker_number.code, show compRes PG Try.f30.results.toList = [(.t 6)] from by kernel_rfl]; exact h)
def fits_text.n : Nat := 31
noncomputable def fits_text.c : C := (.seq (.reg [⟨(some 4), none, (.mv (.c (.int .i64 0)))⟩]) (.seq (.block 0 (.seq (.reg [⟨(some 6), none, (.mv (.t 0))⟩, ⟨(some 7), none, (.len true (.t 6))⟩, ⟨(some 8), none, (.mv (.t 1))⟩, ⟨(some 9), none, (.bin .gtr (.t 7) (.t 8))⟩, ⟨(some 5), none, (.mv (.t 9))⟩]) (.cond (.t 5) (.seq (.reg [⟨(some 4), none, (.mv (.c (.int .i64 3)))⟩]) .ret) (.seq (.reg [⟨(some 11), none, (.mv (.t 0))⟩, ⟨(some 12), none, (.call 53 [(.t 11), (.c (.int .u8 0))])⟩, ⟨(some 13), none, (.bin .geq (.t 12) (.c (.int .i64 0)))⟩, ⟨(some 10), none, (.mv (.t 13))⟩]) (.cond (.t 10) (.seq (.reg [⟨(some 4), none, (.mv (.c (.int .i64 10)))⟩]) .ret) .skip))))) (.seq (.reg [⟨(some 4), none, (.mv (.c (.int .i64 0)))⟩]) .ret)))
theorem fits_text.code : comp PG [] (Try.f31.body.getD .skip) = fits_text.c := by kernel_rfl
theorem fits_text.of {args : List AV} {H : AH} {K : AV → AH → Prop} (hl : args.length = 2) (h : wpA PG fits_text.c none (endA [(.t 4)] K) (initFr args) H) : ACalls PG 31 args H K :=
  ACalls.of_code (fl := []) mixed Try.func31 (c := Try.f31.body.getD .skip) (by kernel_rfl) (by kernel_rfl) (by rw [hl]; exact of_decide_eq_true (by kernel_rfl)) (by rw [fits_text.code]; kernel_rfl)
    (by rw [fits_text.code, show compRes PG Try.f31.results.toList = [(.t 4)] from by kernel_rfl]; exact h)
def fits_asker_items.n : Nat := 32
noncomputable def fits_asker_items.c : C := (.seq (.reg [⟨(some 4), none, (.box 52 (.t 0))⟩, ⟨(some 5), none, (.box 26 (.t 1))⟩, ⟨(some 8), none, (.mv (.c (.int .i64 0)))⟩]) (.seq (.seq (.reg [⟨(some 12), none, (.faddr 3 (.t 5))⟩, ⟨(some 13), none, (.load none (.t 12))⟩, ⟨(some 14), none, (.len false (.t 13))⟩, ⟨(some 15), none, (.mv (.t 2))⟩, ⟨(some 16), none, (.bin .neq (.t 14) (.t 15))⟩]) (.cond (.t 16) (.seq (.reg [⟨(some 8), none, (.mv (.c (.int .i64 18)))⟩]) .ret) .skip)) (.seq (.seq (.reg [⟨(some 17), none, (.faddr 3 (.t 5))⟩, ⟨(some 18), none, (.load none (.t 17))⟩, ⟨(some 19), none, (.len false (.t 18))⟩, ⟨(some 20), none, (.mv (.c (.int .i64 0)))⟩]) (.block 0 (.loop (.seq (.reg [⟨(some 21), none, (.bin .lss (.t 20) (.t 19))⟩]) (.seq (.cond (.t 21) .skip (.exit 0)) (.seq (.block 1 (.seq (.reg [⟨(some 22), none, (.mv (.t 20))⟩, ⟨(some 23), none, (.iaddr 4 (.t 18) (.t 20))⟩, ⟨(some 24), none, (.load (some 4) (.t 23))⟩, ⟨(some 10), none, (.allc 26 [(.int .i64 0), (.int .u64 0), (.str []), .nilS])⟩, ⟨(some 9), none, (.mv (.t 22))⟩, ⟨none, none, (.store 4 (.t 10) (.t 24))⟩]) (.seq (.dreg [⟨(some 25), none, (.load (some 1) (.t 4))⟩, ⟨(some 26), none, (.mv (.t 3))⟩, ⟨(some 27), none, (.mv (.t 9))⟩, ⟨(some 28), none, (.callv (.t 26) [(.t 27)])⟩, ⟨(some 29), none, (.load (some 4) (.t 10))⟩] [⟨(some 30), none, (.call 19 [(.t 25), (.t 28), (.t 29)])⟩, ⟨(some 11), none, (.mv (.t 30))⟩]) (.seq (.reg [⟨(some 31), none, (.mv (.t 11))⟩, ⟨(some 32), none, (.bin .neq (.t 31) (.c (.int .i64 0)))⟩]) (.cond (.t 32) (.seq (.reg [⟨(some 33), none, (.mv (.t 11))⟩, ⟨(some 8), none, (.mv (.t 33))⟩]) .ret) .skip))))) (.reg [⟨(some 34), none, (.bin .add (.t 20) (.c (.int .i64 1)))⟩, ⟨(some 20), none, (.mv (.t 34))⟩]))))))) (.seq (.reg [⟨(some 8), none, (.mv (.c (.int .i64 0)))⟩]) .ret))))
theorem fits_asker_items.code : comp PG [] (Try.f32.body.getD .skip) = fits_asker_items.c := by kernel_rfl
theorem fits_asker_items.of {args : List AV} {H : AH} {K : AV → AH → Prop} (hl : args.length = 4) (h : wpA PG fits_asker_items.c none (endA [(.t 8)] K) (initFr args) H) : ACalls PG 32 args H K :=
  ACalls.of_code (fl := []) mixed Try.func32 (c := Try.f32.body.getD .skip) (by kernel_rfl) (by kernel_rfl) (by rw [hl]; exact of_decide_eq_true (by kernel_rfl)) (by rw [fits_asker_items.code]; kernel_rfl)
    (by rw [fits_asker_items.code, show compRes PG Try.f32.results.toList = [(.t 8)] from by kernel_rfl]; exact h)
def fits_asker_fits_1.n : Nat := 33
noncomputable def fits_asker_fits_1.c : C := (.seq (.reg [⟨(some 3), none, (.mv (.c (.int .i64 0)))⟩]) (.seq (.reg [⟨(some 4), none, (.faddr 3 (.t 1))⟩, ⟨(some 5), none, (.load none (.t 4))⟩, ⟨(some 3), none, (.mv (.t 5))⟩]) .ret))
theorem fits_asker_fits_1.code : comp PG [] (Try.f33.body.getD .skip) = fits_asker_fits_1.c := by kernel_rfl
theorem fits_asker_fits_1.of {args : List AV} {H : AH} {K : AV → AH → Prop} (hl : args.length = 1) (h : wpA PG fits_asker_fits_1.c none (endA [(.t 3)] K) (initFr args) H) : ACalls PG 33 args H K :=
  ACalls.of_code (fl := []) mixed Try.func33 (c := Try.f33.body.getD .skip) (by kernel_rfl) (by kernel_rfl) (by rw [hl]; exact of_decide_eq_true (by kernel_rfl)) (by rw [fits_asker_fits_1.code]; kernel_rfl)
    (by rw [fits_asker_fits_1.code, show compRes PG Try.f33.results.toList = [(.t 3)] from by kernel_rfl]; exact h)
theorem fits_asker_fits_1.of' {args : List AV} {H : AH} {K : AV → AH → Prop} (hl : args.length ≤ 6) (h : wpA PG fits_asker_fits_1.c none (endA [(.t 3)] K) (initFr args) H) : ACalls PG 33 args H K :=
  ACalls.of_code (fl := []) mixed Try.func33 (c := Try.f33.body.getD .skip) (by kernel_rfl) (by kernel_rfl) hl (by rw [fits_asker_fits_1.code]; kernel_rfl) (by rw [fits_asker_fits_1.code, show compRes PG Try.f33.results.toList = [(.t 3)] from by kernel_rfl]; exact h)
def fits_asker_fits_2.n : Nat := 34
noncomputable def fits_asker_fits_2.c : C := (.seq (.reg [⟨(some 3), none, (.mv (.c (.int .i64 0)))⟩]) (.seq (.reg [⟨(some 4), none, (.faddr 3 (.t 1))⟩, ⟨(some 5), none, (.load none (.t 4))⟩, ⟨(some 3), none, (.mv (.t 5))⟩]) .ret))
theorem fits_asker_fits_2.code : comp PG [] (Try.f34.body.getD .skip) = fits_asker_fits_2.c := by kernel_rfl
theorem fits_asker_fits_2.of {args : List AV} {H : AH} {K : AV → AH → Prop} (hl : args.length = 1) (h : wpA PG fits_asker_fits_2.c none (endA [(.t 3)] K) (initFr args) H) : ACalls PG 34 args H K :=
  ACalls.of_code (fl := []) mixed Try.func34 (c := Try.f34.body.getD .skip) (by kernel_rfl) (by kernel_rfl) (by rw [hl]; exact of_decide_eq_true (by kernel_rfl)) (by rw [fits_asker_fits_2.code]; kernel_rfl)
    (by rw [fits_asker_fits_2.code, show compRes PG Try.f34.results.toList = [(.t 3)] from by kernel_rfl]; exact h)
theorem fits_asker_fits_2.of' {args : List AV} {H : AH} {K : AV → AH → Prop} (hl : args.length ≤ 6) (h : wpA PG fits_asker_fits_2.c none (endA [(.t 3)] K) (initFr args) H) : ACalls PG 34 args H K :=
  ACalls.of_code (fl := []) mixed Try.func34 (c := Try.f34.body.getD .skip) (by kernel_rfl) (by kernel_rfl) hl (by rw [fits_asker_fits_2.code]; kernel_rfl) (by rw [fits_asker_fits_2.code, show compRes PG Try.f34.results.toList = [(.t 3)] from by kernel_rfl]; exact h)
def fits_asker_fits_3.n : Nat := 35
noncomputable def fits_asker_fits_3.c : C := (.seq (.reg [⟨(some 3), none, (.mv (.c (.int .i64 0)))⟩]) (.seq (.reg [⟨(some 4), none, (.faddr 5 (.t 1))⟩, ⟨(some 5), none, (.load none (.t 4))⟩, ⟨(some 6), none, (.mv (.t 0))⟩, ⟨(some 7), none, (.iaddr 5 (.t 5) (.t 6))⟩, ⟨(some 8), none, (.faddr 2 (.t 7))⟩, ⟨(some 9), none, (.load none (.t 8))⟩, ⟨(some 3), none, (.mv (.t 9))⟩]) .ret))
theorem fits_asker_fits_3.code : comp PG [] (Try.f35.body.getD .skip) = fits_asker_fits_3.c := by kernel_rfl
theorem fits_asker_fits_3.of {args : List AV} {H : AH} {K : AV → AH → Prop} (hl : args.length = 1) (h : wpA PG fits_asker_fits_3.c none (endA [(.t 3)] K) (initFr args) H) : ACalls PG 35 args H K :=
  ACalls.of_code (fl := []) mixed Try.func35 (c := Try.f35.body.getD .skip) (by kernel_rfl) (by kernel_rfl) (by rw [hl]; exact of_decide_eq_true (by kernel_rfl)) (by rw [fits_asker_fits_3.code]; kernel_rfl)
    (by rw [fits_asker_fits_3.code, show compRes PG Try.f35.results.toList = [(.t 3)] from by kernel_rfl]; exact h)
theorem fits_asker_fits_3.of' {args : List AV} {H : AH} {K : AV → AH → Prop} (hl : args.length ≤ 10) (h : wpA PG fits_asker_fits_3.c none (endA [(.t 3)] K) (initFr args) H) : ACalls PG 35 args H K :=
  ACalls.of_code (fl := []) mixed Try.func35 (c := Try.f35.body.getD .skip) (by kernel_rfl) (by kernel_rfl) hl (by rw [fits_asker_fits_3.code]; kernel_rfl) (by rw [fits_asker_fits_3.code, show compRes PG Try.f35.results.toList = [(.t 3)] from by kernel_rfl]; exact h)
def fits_asker_union.n : Nat := 36
noncomputable def fits_asker_union.c : C := (.seq (.reg [⟨(some 3), none, (.box 52 (.t 0))⟩, ⟨(some 4), none, (.box 3 (.t 1))⟩, ⟨(some 5), none, (.box 26 (.t 2))⟩, ⟨(some 6), none, (.mv (.c (.int .i64 0)))⟩]) (.seq (.seq (.dreg [⟨(some 9), none, (.load (some 1) (.t 3))⟩, ⟨(some 10), none, (.faddr 0 (.t 3))⟩, ⟨(some 11), none, (.load none (.t 10))⟩, ⟨(some 12), none, (.load none (.t 4))⟩, ⟨(some 13), none, (.iaddr 6 (.t 11) (.t 12))⟩, ⟨(some 14), none, (.faddr 4 (.t 13))⟩, ⟨(some 15), none, (.load none (.t 14))⟩, ⟨(some 16), none, (.faddr 1 (.t 5))⟩, ⟨(some 17), none, (.load none (.t 16))⟩] [⟨(some 18), none, (.call 30 [(.t 9), (.t 15), (.t 17)])⟩, ⟨(some 19), none, (.un .not (.t 18))⟩]) (.cond (.t 19) (.seq (.reg [⟨(some 6), none, (.mv (.c (.int .i64 7)))⟩]) .ret) .skip)) (.seq (.reg [⟨(some 21), none, (.faddr 0 (.t 3))⟩, ⟨(some 22), none, (.load none (.t 21))⟩, ⟨(some 23), none, (.load none (.t 4))⟩, ⟨(some 24), none, (.faddr 1 (.t 5))⟩, ⟨(some 25), none, (.load none (.t 24))⟩, ⟨(some 26), none, (.call 54 [(.t 22), (.t 23), (.t 25)])⟩, ⟨(some 20), none, (.mv (.t 26))⟩, ⟨(some 27), none, (.extr (.t 20) 0)⟩, ⟨(some 28), none, (.extr (.t 20) 1)⟩, ⟨(some 7), none, (.allc 3 [(.int .i64 0)])⟩, ⟨none, none, (.store 1 (.t 7) (.t 27))⟩, ⟨(some 8), none, (.mv (.t 28))⟩]) (.seq (.seq (.reg [⟨(some 29), none, (.mv (.t 8))⟩, ⟨(some 30), none, (.un .not (.t 29))⟩]) (.cond (.t 30) (.seq (.reg [⟨(some 31), none, (.load (some 1) (.t 3))⟩, ⟨(some 32), none, (.load (some 4) (.t 5))⟩, ⟨(some 33), none, (.call 32 [(.t 31), (.t 32), (.c (.int .i64 0)), (.c (.clo 55 [] []))])⟩, ⟨(some 6), none, (.mv (.t 33))⟩]) .ret) .skip)) (.seq (.reg [⟨(some 34), none, (.load (some 1) (.t 3))⟩, ⟨(some 35), none, (.load (some 4) (.t 5))⟩, ⟨(some 36), none, (.mkfn 56 [] [(.t 3), (.t 4), (.t 7)])⟩, ⟨(some 37), none, (.call 32 [(.t 34), (.t 35), (.c (.int .i64 1)), (.t 36)])⟩, ⟨(some 6), none, (.mv (.t 37))⟩]) .ret)))))
theorem fits_asker_union.code : comp PG [] (Try.f36.body.getD .skip) = fits_asker_union.c := by kernel_rfl
theorem fits_asker_union.of {args : List AV} {H : AH} {K : AV → AH → Prop} (hl : args.length = 3) (h : wpA PG fits_asker_union.c none (endA [(.t 6)] K) (initFr args) H) : ACalls PG 36 args H K :=
  ACalls.of_code (fl := []) mixed Try.func36 (c := Try.f36.body.getD .skip) (by kernel_rfl) (by kernel_rfl) (by rw [hl]; exact of_decide_eq_true (by kernel_rfl)) (by rw [fits_asker_union.code]; kernel_rfl)
    (by rw [fits_asker_union.code, show compRes PG Try.f36.results.toList = [(.t 6)] from by kernel_rfl]; exact h)
def fits_asker_union_1.n : Nat := 55
noncomputable def fits_asker_union_1.c : C := (.seq (.reg [⟨(some 2), none, (.mv (.c (.int .i64 0)))⟩]) (.seq (.reg [⟨(some 2), none, (.mv (.c (.int .i64 0)))⟩]) .ret))
theorem fits_asker_union_1.code : comp PG [] (Try.f55.body.getD .skip) = fits_asker_union_1.c := by kernel_rfl
theorem fits_asker_union_1.of {args : List AV} {H : AH} {K : AV → AH → Prop} (hl : args.length = 1) (h : wpA PG fits_asker_union_1.c none (endA [(.t 2)] K) (initFr args) H) : ACalls PG 55 args H K :=
  ACalls.of_code (fl := []) mixed Try.func55 (c := Try.f55.body.getD .skip) (by kernel_rfl) (by kernel_rfl) (by rw [hl]; exact of_decide_eq_true (by kernel_rfl)) (by rw [fits_asker_union_1.code]; kernel_rfl)
    (by rw [fits_asker_union_1.code, show compRes PG Try.f55.results.toList = [(.t 2)] from by kernel_rfl]; exact h)
theorem fits_asker_union_1.of' {args : List AV} {H : AH} {K : AV → AH → Prop} (hl : args.length ≤ 3) (h : wpA PG fits_asker_union_1.c none (endA [(.t 2)] K) (initFr args) H) : ACalls PG 55 args H K :=
  ACalls.of_code (fl := []) mixed Try.func55 (c := Try.f55.body.getD .skip) (by kernel_rfl) (by kernel_rfl) hl (by rw [fits_asker_union_1.code]; kernel_rfl) (by rw [fits_asker_union_1.code, show compRes PG Try.f55.results.toList = [(.t 2)] from by kernel_rfl]; exact h)
def fits_asker_union_2.n : Nat := 56
noncomputable def fits_asker_union_2.c : C := (.seq (.reg [⟨(some 5), none, (.mv (.c (.int .i64 0)))⟩]) (.seq (.dreg [⟨(some 6), none, (.faddr 0 (.t 1))⟩, ⟨(some 7), none, (.load none (.t 6))⟩, ⟨(some 8), none, (.load none (.t 2))⟩, ⟨(some 9), none, (.iaddr 6 (.t 7) (.t 8))⟩, ⟨(some 10), none, (.faddr 5 (.t 9))⟩, ⟨(some 11), none, (.load none (.t 10))⟩, ⟨(some 12), none, (.load none (.t 3))⟩] [⟨(some 13), none, (.iaddr 5 (.t 11) (.t 12))⟩, ⟨(some 14), none, (.faddr 2 (.t 13))⟩, ⟨(some 15), none, (.load none (.t 14))⟩, ⟨(some 5), none, (.mv (.t 15))⟩]) .ret))
theorem fits_asker_union_2.code : comp PG [] (Try.f56.body.getD .skip) = fits_asker_union_2.c := by kernel_rfl
theorem fits_asker_union_2.of {args : List AV} {H : AH} {K : AV → AH → Prop} (hl : args.length = 1) (h : wpA PG fits_asker_union_2.c none (endA [(.t 5)] K) (initFr args) H) : ACalls PG 56 args H K :=
  ACalls.of_code (fl := []) mixed Try.func56 (c := Try.f56.body.getD .skip) (by kernel_rfl) (by kernel_rfl) (by rw [hl]; exact of_decide_eq_true (by kernel_rfl)) (by rw [fits_asker_union_2.code]; kernel_rfl)
    (by rw [fits_asker_union_2.code, show compRes PG Try.f56.results.toList = [(.t 5)] from by kernel_rfl]; exact h)
theorem fits_asker_union_2.of' {args : List AV} {H : AH} {K : AV → AH → Prop} (hl : args.length ≤ 16) (h : wpA PG fits_asker_union_2.c none (endA [(.t 5)] K) (initFr args) H) : ACalls PG 56 args H K :=
  ACalls.of_code (fl := []) mixed Try.func56 (c := Try.f56.body.getD .skip) (by kernel_rfl) (by kernel_rfl) hl (by rw [fits_asker_union_2.code]; kernel_rfl) (by rw [fits_asker_union_2.code, show compRes PG Try.f56.results.toList = [(.t 5)] from by kernel_rfl]; exact h)
end Go.Proofs.Ytmjdkeonjflanaa

/- Lists that are looked through one by one; plain. -/
namespace Go.Proofs.Ytmjdkeonjflanaa
set_option autoImplicit false
section
variable {α : Type} {p : α → Bool} {l : List α} {i : Nat}
/-- Up to here there is none. -/
def none' (p : α → Bool) (l : List α) (i : Nat) : Prop := ∀ (k : Nat) (h : k < l.length), k < i → p l[k] = false
theorem none'_zero : none' p l 0 := fun k _ h => by omega
theorem none'_succ (h : none' p l i) (hi : i < l.length) (h2 : p l[i] = false) : none' p l (i + 1) := fun k hk h3 => by
  by_cases e : k = i
  · subst e; exact h2
  · exact h k hk (by omega)
theorem none'_any (h : none' p l l.length) : l.any p = false := by
  rw [List.any_eq_false]
  intro x hx
  obtain ⟨k, hk, rfl⟩ := List.getElem_of_mem hx
  simpa using h k hk hk
theorem none'_end (h : none' p l i) (hi : l.length ≤ i) : l.any p = false := none'_any fun k hk _ => h k hk (by omega)
theorem any_hit (hi : i < l.length) (h : p l[i] = true) : l.any p = true := List.any_eq_true.2 ⟨_, List.getElem_mem hi, h⟩
theorem any_none' (h : l.any p = false) (n : Nat) : none' p l n := fun k hk _ => by
  rw [List.any_eq_false] at h
  simpa using h _ (List.getElem_mem hk)
theorem find_hit : ∀ {l : List α} {i : Nat} (_ : none' p l i) (hi : i < l.length) (_ : p l[i] = true), l.findIdx? p = some i
  | a :: l, 0, _, _, h2 => by simp at h2; simp [List.findIdx?_cons, h2]
  | a :: l, i + 1, h, hi, h2 => by
    have h0 : p a = false := h 0 (by simp) (by omega)
    have h' : none' p l i := fun k hk h3 => h (k + 1) (by simpa using hk) (by omega)
    have := find_hit h' (by simpa using hi) (by simpa using h2)
    simp [List.findIdx?_cons, h0, this]
theorem find_none (h : none' p l i) (hi : l.length ≤ i) : l.findIdx? p = none := by
  rw [List.findIdx?_eq_none_iff]
  intro x hx
  obtain ⟨k, hk, rfl⟩ := List.getElem_of_mem hx
  exact h k hk (by omega)
theorem find_some {n : Nat} (h : l.findIdx? p = some n) : ∃ hn : n < l.length, p l[n] = true ∧ none' p l n := by
  rw [List.findIdx?_eq_some_iff_getElem] at h
  obtain ⟨hn, h1, h2⟩ := h
  exact ⟨hn, h1, fun k hk h3 => by have := h2 k h3; simpa using this⟩
end
/-- The first that is not 0. -/
def fst0 : List Int → Int
  | [] => 0
  | e :: l => if e ≠ 0 then e else fst0 l
theorem fst0_hit : ∀ {l : List Int} {i : Nat} (_ : ∀ (k : Nat) (h : k < l.length), k < i → l[k] = 0) (hi : i < l.length) (_ : l[i] ≠ 0), fst0 l = l[i]
  | e :: l, 0, _, _, h => by simp at h; simp [fst0, h]
  | e :: l, i + 1, h0, hi, h => by
    have h1 : e = 0 := h0 0 (by simp) (by omega)
    have := fst0_hit (l := l) (i := i) (fun k hk h3 => h0 (k + 1) (by simpa using hk) (by omega)) (by simpa using hi) (by simpa using h)
    simp [fst0, h1, this]
theorem fst0_end : ∀ {l : List Int} (_ : ∀ (k : Nat) (h : k < l.length), l[k] = 0), fst0 l = 0
  | [], _ => rfl
  | e :: l, h => by
    have h1 : e = 0 := h 0 (by simp)
    have := fst0_end (l := l) fun k hk => h (k + 1) (by simpa using hk)
    simp [fst0, h1, this]
end Go.Proofs.Ytmjdkeonjflanaa

/- Tokens of a text; plain. -/
namespace Go.Proofs.Ytmjdkeonjflanaa
set_option autoImplicit false

theorem drop_at {α : Type} (l : List α) (d : α) (i : Nat) (h : i < l.length) : l.drop i = l.getD i d :: l.drop (i + 1) := by
  rw [List.drop_eq_getElem_cons h]; congr 1; simp [List.getD, h]
theorem take_at {α : Type} (l : List α) (d : α) (i : Nat) (h : i < l.length) : l.take (i + 1) = l.take i ++ [l.getD i d] := by
  rw [List.take_add_one]; congr 1; simp [List.getD, h]
def dig (c : UInt8) : Bool := decide (48 ≤ c.toNat) && decide (c.toNat ≤ 57)
def ltr (c : UInt8) : Bool := (decide (97 ≤ c.toNat) && decide (c.toNat ≤ 122)) || (decide (65 ≤ c.toNat) && decide (c.toNat ≤ 90))
def nam (c : UInt8) : Bool := dig c || c == 95 || ltr c
def blnk (c : UInt8) : Bool := c == 32 || c == 9 || c == 10 || c == 13
def sgn (c : UInt8) : Bool := [61, 60, 62, 40, 41, 46, 91, 93, 45].contains c

/-- With how many bytes of a name a text begins. -/
def nl : List UInt8 → Nat
  | [] => 0
  | c :: r => if ltr c then 1 + (r.takeWhile nam).length else 0
def dl (s : List UInt8) : Nat := (s.takeWhile dig).length
def numV (s : List UInt8) : Nat := s.foldl (fun a c => 10 * a + (c.toNat - 48)) 0

inductive Q where
  | done (t : List UInt8) (n : Nat)
  | odd (i : Nat)
  | short
/-- Behind a quote: i bytes are read, acc is what they stand for. -/
def qs : List UInt8 → Nat → List UInt8 → Q
  | [], _, _ => .short
  | [c], i, acc => if c.toNat < 32 ∨ 126 < c.toNat then .odd i else if c = 39 then .done acc (i + 1) else .short
  | c :: d :: r, i, acc =>
    if c.toNat < 32 ∨ 126 < c.toNat then .odd i
    else if c = 39 then (if d = 39 then qs r (i + 2) (acc ++ [39]) else .done acc (i + 1))
    else qs (d :: r) (i + 1) (acc ++ [c])

inductive LR where
  | tok (k : Int) (t : List UInt8) (num n : Nat)
  | bad (e : Int) (off : Nat)
def two (s : List UInt8) : Bool := s.take 2 == [60, 62] || s.take 2 == [60, 61] || s.take 2 == [62, 61]
/-- The token with which a text begins. -/
def lex : List UInt8 → LR
  | [] => .bad 11 0
  | c :: r =>
    if ltr c then .tok 1 ((c :: r).take (nl (c :: r))) 0 (nl (c :: r))
    else if dig c then
      if 1 < dl (c :: r) ∧ c = 48 then .bad 1 0
      else if numV ((c :: r).take (dl (c :: r))) < 18446744073709551616 then .tok 2 ((c :: r).take (dl (c :: r))) (numV ((c :: r).take (dl (c :: r)))) (dl (c :: r))
      else .bad 7 0
    else if c = 39 then match qs r 1 [] with
      | .done t n => .tok 3 t 0 n
      | .odd i => .bad 10 i
      | .short => .bad 2 0
    else if c = 37 then match r with
      | d :: _ => if dig d then .tok 4 [37, d] (d.toNat - 48) 2 else .bad 11 0
      | [] => .bad 11 0
    else if sgn c then .tok 5 ((c :: r).take (if two (c :: r) then 2 else 1)) 0 (if two (c :: r) then 2 else 1)
    else .bad 11 0

/-- The words of the language. -/
def rsv : List (List UInt8) := [[65, 78, 68], [79, 82], [78, 79, 84], [66, 69, 84, 87, 69, 69, 78], [76, 73, 75, 69], [84, 82, 85, 69], [70, 65, 76, 83, 69]]
theorem nl_cons (c : UInt8) (r : List UInt8) : nl (c :: r) = if ltr c = true then 1 + (r.takeWhile nam).length else 0 := rfl
theorem nl_le (s : List UInt8) : nl s ≤ s.length := by
  cases s with
  | nil => exact Nat.le_refl _
  | cons c r =>
    have : (r.takeWhile nam).length ≤ r.length := (List.takeWhile_prefix _).length_le
    rw [nl_cons, List.length_cons]
    split <;> omega
theorem dl_le (s : List UInt8) : dl s ≤ s.length := (List.takeWhile_prefix _).length_le
theorem tw_step {f : UInt8 → Bool} : ∀ {r : List UInt8} {n : Nat}, n ≤ (r.takeWhile f).length → n < r.length → (n < (r.takeWhile f).length ↔ f (r.getD n 0) = true)
  | [], n, _, h => by simp at h
  | d :: r, n, h1, h2 => by
    rw [List.takeWhile_cons] at h1 ⊢
    split
    · rename_i hd
      rw [if_pos hd] at h1
      cases n with
      | zero => simp [hd]
      | succ n => simpa using tw_step (r := r) (n := n) (by simpa using h1) (by simpa using h2)
    · rename_i hd
      rw [if_neg hd] at h1
      have : n = 0 := by simpa using h1
      subst this
      simpa using hd
/-- Is byte n, behind n of a name, of a name, too? -/
theorem nl_step {s : List UInt8} {n : Nat} (hn : n ≤ nl s) (hl : n < s.length) : n < nl s ↔ (if n = 0 then ltr (s.getD 0 0) else nam (s.getD n 0)) = true := by
  cases s with
  | nil => simp at hl
  | cons c r =>
    rw [nl_cons] at *
    cases n with
    | zero =>
      rw [if_pos rfl, List.getD_cons_zero]
      split
      · rename_i h; simp only [h, iff_true]; omega
      · rename_i h; simp only [h, Nat.lt_irrefl]
        exact ⟨fun q => q.elim, fun q => by cases q⟩
    | succ n =>
      rw [if_neg (Nat.succ_ne_zero n), List.getD_cons_succ]
      split at hn
      · rename_i h
        rw [if_pos h]
        have hl' : n < r.length := by simpa using hl
        rw [← tw_step (f := nam) (r := r) (n := n) (by omega) hl']
        omega
      · omega
theorem dl_step {s : List UInt8} {n : Nat} (hn : n ≤ dl s) (hl : n < s.length) : n < dl s ↔ dig (s.getD n 0) = true := by
  unfold dl at *
  induction s generalizing n with
  | nil => simp at hl
  | cons d r ih =>
    rw [List.takeWhile_cons] at hn ⊢
    split
    · rename_i hd
      rw [if_pos hd] at hn
      cases n with
      | zero => simp [hd]
      | succ n => simpa using ih (by simpa using hn) (by simpa using hl)
    · rename_i hd
      rw [if_neg hd] at hn
      have : n = 0 := by simpa using hn
      subst this
      simpa using hd
end Go.Proofs.Ytmjdkeonjflanaa

/- Types, and which may be; plain. -/
namespace Go.Proofs.Ytmjdkeonjflanaa
set_option autoImplicit false
structure It where
  nm : List UInt8
  num : Nat
  ty : Int
  key : Bool
  rest : Bool
structure Ty where
  kd : Int
  nm : List UInt8
  bd : Int
  el : Int
  tg : Int
  its : List It
abbrev it0 : It := ⟨[], 0, 0, false, false⟩
abbrev ty0 : Ty := ⟨0, [], 0, 0, 0, []⟩
def isNum (k : Int) : Bool := decide (1 ≤ k ∧ k ≤ 9)
def kNm (k : Int) : Bool := decide (k = 9 ∨ k = 13 ∨ k = 14)
def kBd (k : Int) : Bool := decide (k = 10 ∨ k = 11 ∨ k = 12)
def kEl (k : Int) : Bool := decide (k = 11 ∨ k = 12)
def kTg (k : Int) : Bool := decide (k = 14)
def tAt (l : List Ty) (t : Int) : Ty := l.getD t.toNat ty0
/-- A kind's bytes. -/
def szK (k : Int) : Nat := if k = 1 ∨ k = 2 then 1 else if k = 3 ∨ k = 4 then 2 else if k = 5 ∨ k = 6 ∨ k = 9 then 4 else if k = 7 ∨ k = 8 then 8 else 0
def sgK (k : Int) : Bool := decide (k = 3 ∨ k = 5 ∨ k = 7 ∨ k = 9)
def lowN (b n : Nat) : Nat := n % 2 ^ (8 * b)
/-- The number with a sign of the lowest bytes. -/
def sgnI (b n : Nat) : Int := if lowN b n < 2 ^ (8 * b - 1) then (lowN b n : Int) else (lowN b n : Int) - 2 ^ (8 * b)
def wide (i : Int) : Nat := (i % 18446744073709551616).toNat
def lowK (k : Int) (n : Nat) : Nat := if szK k = 0 then 0 else lowN (szK k) n
def upK (k : Int) (n : Nat) : Nat := if sgK k = true then wide (sgnI (szK k) n) else lowK k n
def mayK (k : Int) (n : Nat) : Bool := isNum k && decide (upK k n = n) && (decide (k ≠ 1) || decide (n ≤ 1))
def nameOk (s : List UInt8) : Bool := decide (s ≠ []) && decide (s.length ≤ 16) && decide (nl s = s.length) && !rsv.contains s
def parts (t : Ty) : List Int := (if kEl t.kd = true then [t.el] else []) ++ (if kTg t.kd = true then [t.tg] else []) ++ (if t.kd = 13 ∨ t.kd = 14 then t.its.map (·.ty) else [])
def itMore (k : Int) (x : It) : Bool := decide ((k = 9 ∧ x.ty ≠ 0) ∨ (k ≠ 13 ∧ x.key = true) ∨ (k ≠ 14 ∧ x.rest = true) ∨ ((k = 13 ∨ x.rest = true) ∧ x.num ≠ 0))
def tyMore (t : Ty) : Bool := decide ((kNm t.kd = false ∧ (t.nm ≠ [] ∨ t.its ≠ [])) ∨ (kBd t.kd = false ∧ t.bd ≠ 0) ∨ (kEl t.kd = false ∧ t.el ≠ 0) ∨ (kTg t.kd = false ∧ t.tg ≠ 0))
def formE (t : Ty) : Int := if t.kd < 1 ∨ 14 < t.kd then 4 else if tyMore t = true ∨ t.its.any (itMore t.kd) = true then 1 else 0
def namedE (l : List Ty) (t : Ty) (n : Nat) : Int := if kNm t.kd = true then (if nameOk t.nm = true then (if (l.take n).any (fun x => x.nm == t.nm) = true then 6 else 0) else 5) else 0
def boundE (t : Ty) : Int := if kBd t.kd = true ∧ (64 < t.bd ∨ t.bd < 0 ∨ (kEl t.kd = true ∧ t.bd = 0)) then 7 else 0
def orderE (l : List Ty) (t : Ty) (n : Nat) : Int := if (parts t).any (fun p => decide (p < 0 ∨ (n : Int) ≤ p)) = true then 14 else if t.kd = 14 ∧ isNum (tAt l t.tg).kd = false then 8 else 0
def valIx (l : List Ty) (t : Int) (n : Nat) : Option Nat := if 0 ≤ t ∧ t < l.length ∧ (tAt l t).kd = 9 then (tAt l t).its.findIdx? (fun x => x.num == n) else none
def itemIx (l : List Ty) (t : Int) (s : List UInt8) : Option Nat := if 0 ≤ t ∧ t < l.length ∧ kNm (tAt l t).kd = true then (tAt l t).its.findIdx? (fun x => x.nm == s) else none
def brIx (l : List Ty) (t : Int) (n : Nat) : Option Nat := if 0 ≤ t ∧ t < l.length ∧ (tAt l t).kd = 14 then ((tAt l t).its.findIdx? (fun x => x.num == n && !x.rest)).or ((tAt l t).its.findIdx? (·.rest)) else none
def mayT (l : List Ty) (t : Ty) (n : Nat) : Bool := if t.kd = 9 then mayK 9 n else if (tAt l t.tg).kd = 9 then (valIx l t.tg n).isSome else mayK (tAt l t.tg).kd n
def itemE (l : List Ty) (t : Ty) (i : Nat) : Int :=
  let x := t.its.getD i it0
  if nameOk x.nm = true then
    if (t.its.take i).any (fun y => y.nm == x.nm) = true then 6
    else if t.kd = 13 then (if x.key = true ∧ isNum (tAt l x.ty).kd = false ∧ (tAt l x.ty).kd ≠ 10 then 17 else 0)
    else if x.rest = true then (if i + 1 = t.its.length then 0 else 14)
    else if mayT l t x.num = true then (if (t.its.take i).any (fun y => y.num == x.num) = true then 6 else 0)
    else 7
  else 5
def itemsE (l : List Ty) (t : Ty) : Int := if kNm t.kd = true then (if t.its.length = 0 then 18 else if 16 < t.its.length then 3 else fst0 ((List.range t.its.length).map (itemE l t))) else 0
/-- How deep the first types are. -/
def dpT (l : List Ty) : Nat → List Nat
  | 0 => []
  | n + 1 => dpT l n ++ [(parts (l.getD n ty0)).foldl (fun m p => if 0 ≤ p ∧ p < (n : Int) then max m ((dpT l n).getD p.toNat 0 + 1) else m) 1]
def deepT (l : List Ty) (t : Int) : Nat := if 0 ≤ t ∧ t < l.length then (dpT l (t.toNat + 1)).getD t.toNat 0 else 0
def deepE (l : List Ty) (n : Nat) : Int := if 6 < deepT l n then 9 else 0
def tyErr (l : List Ty) (n : Nat) : Int := let t := l.getD n ty0
  fst0 [formE t, namedE l t n, boundE t, orderE l t n, itemsE l t, deepE l n]
/-- What is wrong first, and where. -/
def tyChk (l : List Ty) : Int × Int := if 32 < l.length then (3, 32) else match (List.range l.length).findIdx? (fun i => decide (tyErr l i ≠ 0)) with
  | some i => (tyErr l i, (i : Nat))
  | none => (0, 0)
end Go.Proofs.Ytmjdkeonjflanaa

/- Values, trees; plain. -/
namespace Go.Proofs.Ytmjdkeonjflanaa
set_option autoImplicit false
set_option linter.unusedVariables false
inductive Vl where
  | mk (kd : Int) (num : Nat) (tx : List UInt8) (its : List Vl)
def Vl.kd : Vl → Int | .mk k _ _ _ => k
def Vl.num : Vl → Nat | .mk _ n _ _ => n
def Vl.tx : Vl → List UInt8 | .mk _ _ t _ => t
def Vl.its : Vl → List Vl | .mk _ _ _ l => l
abbrev vl0 : Vl := .mk 0 0 [] []
mutual
def vEq : Vl → Vl → Bool
  | .mk k n t l, .mk k' n' t' l' => decide (k = k') && decide (n = n') && decide (t = t') && vEqs l l'
def vEqs : List Vl → List Vl → Bool
  | [], [] => true
  | a :: l, b :: m => vEq a b && vEqs l m
  | _, _ => false
end
mutual
theorem vEq_iff : ∀ a b : Vl, vEq a b = true ↔ a = b
  | .mk k n t l, .mk k' n' t' l' => by
    simp only [vEq, Bool.and_eq_true, decide_eq_true_eq, Vl.mk.injEq, vEqs_iff l l']
    exact ⟨fun ⟨⟨⟨a, b⟩, c⟩, d⟩ => ⟨a, b, c, d⟩, fun ⟨a, b, c, d⟩ => ⟨⟨⟨a, b⟩, c⟩, d⟩⟩
theorem vEqs_iff : ∀ a b : List Vl, vEqs a b = true ↔ a = b
  | [], [] => by simp [vEqs]
  | a :: l, b :: m => by simp only [vEqs, Bool.and_eq_true, List.cons.injEq, vEq_iff a b, vEqs_iff l m]
  | [], b :: m => by simp [vEqs]
  | a :: l, [] => by simp [vEqs]
end
theorem vEq_refl (a : Vl) : vEq a a = true := (vEq_iff a a).2 rfl
mutual
def vDeep : Vl → Nat
  | .mk _ _ _ l => 1 + vDeeps l
def vDeeps : List Vl → Nat
  | [] => 0
  | a :: l => max (vDeep a) (vDeeps l)
end
mutual
def vGreat : Vl → Nat
  | .mk _ _ t l => 1 + t.length + vGreats l
def vGreats : List Vl → Nat
  | [] => 0
  | a :: l => vGreat a + vGreats l
end
mutual
/-- Too great, or too deep, to be asked. -/
def vMuch : Vl → Nat → Bool
  | .mk _ _ t l, d => decide (40 < d) || decide (300 < l.length) || decide (1000 < t.length) || (vMuchs l (d + 1 + l.length / 4) || decide (10000 < vGreats l))
def vMuchs : List Vl → Nat → Bool
  | [], _ => false
  | a :: l, d => vMuch a d || vMuchs l d
end
theorem vGreats_mem : ∀ {l : List Vl} {x : Vl}, x ∈ l → vGreat x ≤ vGreats l
  | a :: l, x, h => by
    simp only [vGreats]
    rcases List.mem_cons.1 h with rfl | h
    · omega
    · have := vGreats_mem h; omega
theorem vDeeps_mem : ∀ {l : List Vl} {x : Vl}, x ∈ l → vDeep x ≤ vDeeps l
  | a :: l, x, h => by
    simp only [vDeeps]
    rcases List.mem_cons.1 h with rfl | h
    · omega
    · have := vDeeps_mem h; omega
theorem vMuchs_mem : ∀ {l : List Vl} {d : Nat}, vMuchs l d = false → ∀ x ∈ l, vMuch x d = false
  | a :: l, d, h, x, hx => by
    simp only [vMuchs, Bool.or_eq_false_iff] at h
    rcases List.mem_cons.1 hx with rfl | hx
    · exact h.1
    · exact vMuchs_mem h.2 x hx
theorem vMuch_great {v : Vl} {d : Nat} (h : vMuch v d = false) : vGreat v ≤ 11001 := by
  obtain ⟨k, n, t, l⟩ := v
  simp only [vMuch, Bool.or_eq_false_iff, decide_eq_false_iff_not] at h
  simp only [vGreat]
  omega
mutual
theorem vDeep_great : ∀ v : Vl, vDeep v ≤ vGreat v
  | .mk k n t l => by have := vDeeps_greats l; simp only [vDeep, vGreat]; omega
theorem vDeeps_greats : ∀ l : List Vl, vDeeps l ≤ vGreats l
  | [] => Nat.le_refl _
  | a :: l => by have := vDeep_great a; have := vDeeps_greats l; simp only [vDeeps, vGreats]; omega
end
theorem vGreats_len : ∀ l : List Vl, l.length ≤ vGreats l
  | [] => Nat.le_refl _
  | a :: l => by
    have := vGreats_len l
    have : 1 ≤ vGreat a := by obtain ⟨k, n, t, m⟩ := a; simp only [vGreat]; omega
    simp only [vGreats, List.length_cons]; omega
theorem vGreats_take : ∀ (l : List Vl) (i : Nat) (h : i < l.length), vGreats (l.take (i + 1)) = vGreats (l.take i) + vGreat l[i]
  | a :: l, 0, h => by simp [vGreats]
  | a :: l, i + 1, h => by
    have := vGreats_take l i (by simpa using h)
    simp only [List.take_succ_cons, vGreats, List.getElem_cons_succ] at this ⊢
    omega
theorem vDeeps_take : ∀ (l : List Vl) (i : Nat) (h : i < l.length), vDeeps (l.take (i + 1)) = max (vDeeps (l.take i)) (vDeep l[i])
  | a :: l, 0, h => by simp [vDeeps]
  | a :: l, i + 1, h => by
    have := vDeeps_take l i (by simpa using h)
    simp only [List.take_succ_cons, vDeeps, List.getElem_cons_succ] at this ⊢
    omega
theorem vGreats_takeLe : ∀ (l : List Vl) (i : Nat), vGreats (l.take i) ≤ vGreats l
  | [], i => by simp
  | a :: l, 0 => by simp [vGreats]
  | a :: l, i + 1 => by have := vGreats_takeLe l i; simp only [List.take_succ_cons, vGreats]; omega
theorem vDeeps_takeLe : ∀ (l : List Vl) (i : Nat), vDeeps (l.take i) ≤ vDeeps l
  | [], i => by simp
  | a :: l, 0 => by simp [vDeeps]
  | a :: l, i + 1 => by have := vDeeps_takeLe l i; simp only [List.take_succ_cons, vDeeps]; omega
/-- What stands at a place, step by step. -/
def vAt : Vl → List Int → Option Vl
  | v, [] => some v
  | v, n :: l => if 0 ≤ n ∧ n < v.its.length then vAt (v.its.getD n.toNat vl0) l else none
/-- A number's digits. -/
def decD : Nat → Nat → List UInt8
  | 0, _ => []
  | k + 1, n => if n < 10 then [UInt8.ofNat (48 + n)] else decD k (n / 10) ++ [UInt8.ofNat (48 + n % 10)]
def dec (n : Nat) : List UInt8 := decD 20 n
def figH (n : Nat) : UInt8 := UInt8.ofNat (if n < 10 then 48 + n else 87 + n)
def quoC (c : UInt8) : List UInt8 := if c.toNat < 32 ∨ 126 < c.toNat ∨ c = 39 ∨ c = 92 then [92, figH (c.toNat / 16), figH (c.toNat % 16)] else [c]
def quo (s : List UInt8) : List UInt8 := [39] ++ s.flatMap quoC ++ [39]
def numText (k : Int) (n : Nat) : List UInt8 :=
  if k = 1 then (if n % 2 = 1 then [116, 114, 117, 101] else [102, 97, 108, 115, 101])
  else if sgK k = true ∧ sgnI (szK k) n < 0 then 45 :: dec (-(sgnI (szK k) n)).toNat else dec (upK k n)
mutual
def vText : Vl → List UInt8
  | .mk k n t l =>
    if isNum k = true then numText k n
    else if k = 10 then quo t
    else if k = 11 ∨ k = 12 then [91] ++ vTexts [44] l ++ [93]
    else if k = 13 then [40] ++ vTexts [44] l ++ [41]
    else if k = 14 then [60] ++ dec n ++ vTail [58] l ++ [62]
    else [63]
/-- .. one behind the other, a sign between. -/
def vTexts (s : List UInt8) : List Vl → List UInt8
  | [] => []
  | a :: l => vText a ++ vTail s l
def vTail (s : List UInt8) : List Vl → List UInt8
  | [] => []
  | a :: l => s ++ vText a ++ vTail s l
end
end Go.Proofs.Ytmjdkeonjflanaa

/- Which values are of a type; plain. -/
namespace Go.Proofs.Ytmjdkeonjflanaa
set_option autoImplicit false
set_option linter.unusedVariables false
/-- Is what a kind has not its zero value? -/
def vZero (k : Int) (n : Nat) (t : List UInt8) (m : Nat) : Bool := decide (¬ ((n ≠ 0 ∧ 10 ≤ k ∧ k ≤ 13) ∨ (t ≠ [] ∧ k ≠ 10)) ∧ (m = 0 ∨ 11 ≤ k))
def numT (l : List Ty) (t : Int) (n : Nat) : Bool := if (tAt l t).kd = 9 then (valIx l t n).isSome else mayK (tAt l t).kd n
/-- The types that a value's items must have. -/
def partT (l : List Ty) (t : Int) (n m : Nat) : List Int :=
  if (tAt l t).kd = 11 then List.replicate m (tAt l t).el
  else if (tAt l t).kd = 12 then List.replicate (tAt l t).bd.toNat (tAt l t).el
  else if (tAt l t).kd = 13 then (tAt l t).its.map (·.ty)
  else if (tAt l t).kd = 14 then (match brIx l t n with
    | some k => [((tAt l t).its.getD k it0).ty]
    | none => [])
  else []
/-- What is wrong with a value ahead of its items. -/
def fitH (l : List Ty) (t : Int) (k : Int) (n : Nat) (x : List UInt8) (m : Nat) : Int :=
  if k ≠ (tAt l t).kd then 4
  else if vZero k n x m = false then 1
  else if (isNum k = true ∧ numT l t n = false) ∨ (k = 14 ∧ numT l (tAt l t).tg n = false) then 7
  else if k = 10 ∧ (tAt l t).bd < (x.length : Int) then 3
  else if k = 10 ∧ x.contains 0 = true then 10
  else if k = 11 ∧ (tAt l t).bd < (m : Int) then 3
  else if (partT l t n m).length ≠ m then 18
  else 0
mutual
def fitE (l : List Ty) : Int → Vl → Int
  | t, .mk k n x vs => if fitH l t k n x vs.length ≠ 0 then fitH l t k n x vs.length else fitEs l (partT l t n vs.length) vs
def fitEs (l : List Ty) : List Int → List Vl → Int
  | p :: ps, v :: vs => if fitE l p v ≠ 0 then fitE l p v else fitEs l ps vs
  | _, _ => 0
end
theorem fitEs_hit {l : List Ty} : ∀ {ps : List Int} {vs : List Vl} {i : Nat} (h : ∀ (k : Nat) (h1 : k < ps.length) (h2 : k < vs.length), k < i → fitE l ps[k] vs[k] = 0) (h1 : i < ps.length) (h2 : i < vs.length) (_ : fitE l ps[i] vs[i] ≠ 0), fitEs l ps vs = fitE l ps[i] vs[i]
  | p :: ps, v :: vs, 0, _, _, _, hn => by simp at hn; simp [fitEs, hn]
  | p :: ps, v :: vs, i + 1, h, h1, h2, hn => by
    have h0 : fitE l p v = 0 := h 0 (by simp) (by simp) (by omega)
    have := fitEs_hit (l := l) (ps := ps) (vs := vs) (i := i) (fun k a b c => h (k + 1) (by simpa using a) (by simpa using b) (by omega)) (by simpa using h1) (by simpa using h2) hn
    simp only [fitEs, h0, ne_eq, not_true_eq_false, if_false, List.getElem_cons_succ]
    exact this
theorem fitEs_end {l : List Ty} : ∀ {ps : List Int} {vs : List Vl} (_ : ∀ (k : Nat) (h1 : k < ps.length) (h2 : k < vs.length), fitE l ps[k] vs[k] = 0), fitEs l ps vs = 0
  | [], vs, _ => by simp [fitEs]
  | p :: ps, [], _ => by simp [fitEs]
  | p :: ps, v :: vs, h => by
    have h0 : fitE l p v = 0 := h 0 (by simp) (by simp)
    have := fitEs_end (l := l) (ps := ps) (vs := vs) (fun k a b => h (k + 1) (by simpa using a) (by simpa using b))
    simp only [fitEs, h0, ne_eq, not_true_eq_false, if_false]
    exact this
/-- Every type of a list may be. -/
structure TyV (l : List Ty) : Prop where
  len : l.length ≤ 32
  ok : ∀ i, i < l.length → tyErr l i = 0
theorem tyChk_v {l : List Ty} (h : (tyChk l).1 = 0) : TyV l := by
  unfold tyChk at h
  split at h
  · cases h
  · rename_i hl
    refine ⟨by omega, fun i hi => ?_⟩
    split at h
    · rename_i k hk
      obtain ⟨hn, h1, _⟩ := find_some hk
      simp only [List.getElem_range, ne_eq, decide_not, Bool.not_eq_true', decide_eq_false_iff_not] at h1
      exact absurd h h1
    · rename_i hk
      rw [List.findIdx?_eq_none_iff] at hk
      have := hk i (List.mem_range.2 hi)
      simpa using this
theorem fst0_all : ∀ {l : List Int}, fst0 l = 0 → ∀ x ∈ l, x = 0
  | [], _, x, h => by cases h
  | e :: l, h, x, hx => by
    simp only [fst0] at h
    split at h
    · rename_i q; exact absurd h q
    · rename_i q
      rcases List.mem_cons.1 hx with rfl | hx
      · exact Classical.not_not.1 q
      · exact fst0_all h x hx
/-- What is known of a type that may be. -/
structure TyG (l : List Ty) (n : Nat) (t : Ty) : Prop where
  form : formE t = 0
  named : namedE l t n = 0
  bound : boundE t = 0
  order : orderE l t n = 0
  items : itemsE l t = 0
  deep : deepE l n = 0
theorem TyV.at {l : List Ty} (h : TyV l) {i : Nat} (hi : i < l.length) : TyG l i l[i] := by
  have := h.ok i hi
  unfold tyErr at this
  rw [show l.getD i ty0 = l[i] from by simp [List.getD, hi]] at this
  have q := fst0_all this
  exact ⟨q _ (by simp), q _ (by simp), q _ (by simp), q _ (by simp), q _ (by simp), q _ (by simp)⟩
end Go.Proofs.Ytmjdkeonjflanaa

/- What a law's arguments are: from the reading of the form to abstract values. -/
namespace Go.Proofs.Ytmjdkeonjflanaa
set_option autoImplicit false
set_option linter.unusedSimpArgs false
set_option linter.unusedVariables false

/-- The shape of a type: what its cells are. 'u' and 'p': the parts of a struct or an array, one behind the other. -/
inductive Sh where
  | int (k : IntKind)
  | bool
  | str
  | u
  | p (a b : Sh)
  | slice (sz bytes : Nat) (e : Sh)
  | ptr (e : Sh)
  | no

def Sh.rep : Nat → Sh → Sh
  | 0, _ => .u
  | n + 1, a => .p a (Sh.rep n a)

def Sh.Ok : Sh → List AV → Prop
  | .int k, vs => ∃ n, vs = [.int k n] ∧ (Lit.int k n).wf = true
  | .bool, vs => ∃ b, vs = [.bool b]
  | .str, vs => ∃ l : List UInt8, vs = [.str l] ∧ l.length ≤ 140737488351232
  | .u, vs => vs = []
  | .p a b, vs => ∃ x y, vs = x ++ y ∧ a.Ok x ∧ b.Ok y
  | .slice sz bytes e, vs => vs = [.nilS] ∨ ∃ l, vs = [.rows sz l] ∧ l.length * bytes ≤ 140737488351232 ∧ ∀ r ∈ l, e.Ok r
  | .ptr e, vs => vs = [.nilP] ∨ ∃ r, vs = [.fp r] ∧ e.Ok r
  | .no, _ => False

def fieldsSh (P : Program) (sh : TypeId → Option Sh) (tot : Nat) : Nat → List Field → Option Sh
  | o, [] => if o = tot then some .u else none
  | o, f :: r => if f.offset = o then (sh f.type).bind fun a => (fieldsSh P sh tot (o + P.cellsOf f.type) r).map (.p a) else none

/-- 'rc': a type that holds itself is followed as deep as the fuel lets. -/
def shO (rc : Bool) (P : Program) : Nat → TypeId → Option Sh
  | 0, _ => if rc = true then some .no else none
  | n + 1, t => match P.underlying t with
    | some .bool => some .bool
    | some (.int k) => some (.int k)
    | some .string => some .str
    | some (.struct fs) => fieldsSh P (shO rc P n) (P.cellsOf t) 0 fs.toList
    | some (.array m e) => if P.cellsOf t = m * P.cellsOf e then (shO rc P n e).map (Sh.rep m) else none
    | some (.slice e) => if 0 < P.cellsOf e then (shO rc P n e).map (.slice (P.cellsOf e) (P.bytesOf e)) else none
    | some (.pointer e) => if 0 < P.cellsOf e then (shO rc P n e).map .ptr else none
    | _ => none

abbrev shOf (P : Program) (n : Nat) (t : TypeId) : Option Sh := shO false P n t

section
variable {h : Array Obj}

/-- Cells and their values. -/
def PartR (h : Array Obj) (vs : List AV) (cs : List Value) : Prop :=
  vs.length = cs.length ∧ ∀ (i : Nat) v c, vs[i]? = some v → cs[i]? = some c → v.isCell = true ∧ Rl h (fun _ => none) (fun b => b < h.size) v c

theorem PartR.nil : PartR h [] [] := ⟨rfl, by simp⟩
theorem PartR.one {v : AV} {c : Value} (hv : v.isCell = true) (hr : Rl h (fun _ => none) (fun b => b < h.size) v c) : PartR h [v] [c] :=
  ⟨rfl, fun i v' c' h1 h2 => by cases i <;> simp at h1 h2; subst h1; subst h2; exact ⟨hv, hr⟩⟩
theorem PartR.append {a b : List AV} {x y : List Value} (h1 : PartR h a x) (h2 : PartR h b y) : PartR h (a ++ b) (x ++ y) := by
  refine ⟨by simp [h1.1, h2.1], fun i v c q1 q2 => ?_⟩
  rw [List.getElem?_append] at q1 q2
  rw [h1.1] at q1
  split at q1 <;> rename_i hlt
  · rw [if_pos hlt] at q2; exact h1.2 i v c q1 q2
  · rw [if_neg hlt] at q2; exact h2.2 _ v c q1 q2
end

theorem exists_list {α : Type} {Q : Nat → α → Prop} : ∀ (n : Nat), (∀ i, i < n → ∃ r, Q i r) → ∃ l : List α, l.length = n ∧ ∀ (i : Nat) r, l[i]? = some r → Q i r
  | 0, _ => ⟨[], rfl, by simp⟩
  | n + 1, hq => by
    obtain ⟨l, h1, h2⟩ := exists_list n (fun i hi => hq i (by omega))
    obtain ⟨r, hr⟩ := hq n (by omega)
    refine ⟨l ++ [r], by simp [h1], fun i q hi => ?_⟩
    rw [List.getElem?_append] at hi
    split at hi
    · exact h2 i q hi
    · rename_i hlt
      have hl := (List.getElem?_eq_some_iff.1 hi).1
      simp at hl
      have : i = n := by omega
      subst this
      rw [h1] at hi
      simp at hi
      rw [← hi]; exact hr

section
variable {H : Type} {enc : TypeId × Value → H} {P : Program} {w : World} {sp : Nat → Bool}

abbrev Rd (P : Program) (w : World) (enc : TypeId × Value → H) (sp : Nat → Bool) (m : Nat) (s : TypeId → Option Sh) : Prop :=
  ∀ t cs x sh, s t = some sh → DataW.trod enc P w 0 sp true m t cs = some x → (∀ n ∈ x.1.weights P t, n ≤ reachBytes) → ∃ vs, sh.Ok vs ∧ PartR w.heap vs cs

theorem fields_read {m : Nat} {s : TypeId → Option Sh} (ih : Rd P w enc sp m s) {cs : List Value} {tot : Nat} (hcs : cs.length = tot) : ∀ (fs : List Field) (o : Nat) (xs : List (DataW H × List MemPlace)) (sh : Sh), fieldsSh P s tot o fs = some sh → xs.length = fs.length →
    (∀ (i : Nat) f, fs[i]? = some f → DataW.trod enc P w 0 sp true m f.type ((cs.drop f.offset).take (P.cellsOf f.type)) = xs[i]?) →
    (∀ n ∈ DataW.weightsEach P (fs.map (·.type)) (xs.map (·.1)), n ≤ reachBytes) → ∃ vs, sh.Ok vs ∧ PartR w.heap vs (cs.drop o)
  | [], o, xs, sh, hs, hl, _, _ => by
    simp only [fieldsSh] at hs
    split at hs <;> simp only [Option.some.injEq, reduceCtorEq] at hs
    rename_i e
    subst hs
    refine ⟨[], rfl, ?_⟩
    rw [List.drop_eq_nil_of_le (by omega)]
    exact .nil
  | f :: fs, o, xs, sh, hs, hl, hf, hw => by
    simp only [fieldsSh] at hs
    split at hs
    rotate_left
    · cases hs
    rename_i e
    simp only [Option.bind_eq_some_iff, Option.map_eq_some_iff] at hs
    obtain ⟨a, ha, b, hb, rfl⟩ := hs
    cases xs with
    | nil => simp at hl
    | cons x xs =>
      simp only [List.map_cons, DataW.weightsEach, List.mem_append] at hw
      have h0 := hf 0 f rfl
      rw [e] at h0
      simp only [List.getElem?_cons_zero] at h0
      obtain ⟨va, ok1, r1⟩ := ih _ _ _ _ ha h0 (fun n hn => hw n (.inl hn))
      obtain ⟨vb, ok2, r2⟩ := fields_read ih hcs fs _ xs b hb (by simpa using hl) (fun i g hg => by have := hf (i + 1) g (by simpa using hg); simpa using this) (fun n hn => hw n (.inr hn))
      refine ⟨va ++ vb, ⟨va, vb, rfl, ok1, ok2⟩, ?_⟩
      have := r1.append r2
      rw [show o + P.cellsOf f.type = o + P.cellsOf f.type from rfl, ← List.drop_drop, List.take_append_drop] at this
      exact this

theorem arr_read {m : Nat} {s : TypeId → Option Sh} (ih : Rd P w enc sp m s) {cs : List Value} {e : TypeId} {a : Sh} (ha : s e = some a) : ∀ (n j : Nat) (xs : List (DataW H × List MemPlace)), cs.length = (j + n) * P.cellsOf e → xs.length = n →
    (∀ i, i < n → DataW.trod enc P w 0 sp true m e ((cs.drop ((j + i) * P.cellsOf e)).take (P.cellsOf e)) = xs[i]?) →
    (∀ q ∈ DataW.weightsAll P e (xs.map (·.1)), q ≤ reachBytes) → ∃ vs, (Sh.rep n a).Ok vs ∧ PartR w.heap vs (cs.drop (j * P.cellsOf e))
  | 0, j, xs, hcs, hl, _, _ => by
    refine ⟨[], rfl, ?_⟩
    rw [List.drop_eq_nil_of_le (by rw [hcs]; simp)]
    exact .nil
  | n + 1, j, xs, hcs, hl, hf, hw => by
    cases xs with
    | nil => simp at hl
    | cons x xs =>
      simp only [List.map_cons, DataW.weightsAll, List.mem_append] at hw
      have h0 := hf 0 (by omega)
      simp only [Nat.add_zero, List.getElem?_cons_zero] at h0
      obtain ⟨va, ok1, r1⟩ := ih _ _ _ _ ha h0 (fun n hn => hw n (.inl hn))
      obtain ⟨vb, ok2, r2⟩ := arr_read ih ha n (j + 1) xs (by rw [hcs]; congr 1; omega) (by simpa using hl)
        (fun i hi => by have := hf (i + 1) (by omega); rw [show j + 1 + i = j + (i + 1) from by omega]; simpa using this) (fun n hn => hw n (.inr hn))
      refine ⟨va ++ vb, ⟨va, vb, rfl, ok1, ok2⟩, ?_⟩
      have := r1.append r2
      rw [Nat.add_mul, Nat.one_mul, ← List.drop_drop, List.take_append_drop] at this
      exact this

theorem weights_all_mem {e : TypeId} : ∀ {l : List (DataW H)} {d : DataW H}, d ∈ l → ∀ n ∈ d.weights P e, n ∈ DataW.weightsAll P e l
  | [], _, h, _, _ => by cases h
  | x :: l, d, h, n, hn => by
    simp only [DataW.weightsAll, List.mem_append]
    rcases List.mem_cons.1 h with h | h
    · subst h; exact .inl hn
    · exact .inr (weights_all_mem h n hn)

theorem readR {rc : Bool} : ∀ (m n : Nat), (rc = true → m ≤ n) → Rd P w enc sp m (shO rc P n)
  | 0, _, _, t, cs, x, sh, _, h, _ => by simp [DataW.trod] at h
  | m + 1, 0, hmn, t, cs, x, sh, hs, _, _ => by
    simp only [shO] at hs
    split at hs
    · rename_i hr; have := hmn hr; omega
    · cases hs
  | m + 1, n + 1, hmn, t, cs, x, sh, hs, h, hw => by
    have ih := readR m n fun q => by have := hmn q; omega
    simp only [shO] at hs
    split at hs <;> rename_i hu
    · simp only [Option.some.injEq] at hs; subst hs
      obtain ⟨b, rfl⟩ : ∃ b, cs = [.bool b] := by
        unfold DataW.trod at h; rw [hu] at h
        split at h <;> simp_all
      exact ⟨_, ⟨_, rfl⟩, .one rfl (.bool _)⟩
    · rename_i k
      simp only [Option.some.injEq] at hs; subst hs
      obtain ⟨n, rfl, hwf⟩ : ∃ n, cs = [.int k n] ∧ (Lit.int k n).wf = true := by
        unfold DataW.trod at h; rw [hu] at h
        split at h <;> simp_all
      exact ⟨_, ⟨_, rfl, hwf⟩, .one rfl (.int _ _)⟩
    · simp only [Option.some.injEq] at hs; subst hs
      obtain ⟨b, rfl, rfl⟩ : ∃ b, cs = [.string b] ∧ x = (.lit (.string b.data.toList), []) := by
        unfold DataW.trod at h; rw [hu] at h
        split at h <;> simp_all
      have := hw b.data.toList.length (by simp [DataW.weights])
      exact ⟨_, ⟨b.data.toList, rfl, this⟩, .one rfl (.str _ _ rfl)⟩
    · rename_i fs
      obtain ⟨xs, m', e, rfl, hl, hlen, hf⟩ := DataW.trod_struct hu h
      simp only [Nat.add_right_cancel_iff] at e
      subst e
      have := fields_read ih hl fs.toList 0 xs sh hs (by simpa using hlen) (fun i f hi => hf i f (by simpa using hi)) (fun q hq => hw q (by simpa [DataW.weights, hu] using hq))
      simpa using this
    · rename_i k e
      split at hs
      rotate_left
      · cases hs
      rename_i hc
      simp only [Option.map_eq_some_iff] at hs
      obtain ⟨a, ha, rfl⟩ := hs
      obtain ⟨xs, m', e1, rfl, hl, hlen, hf⟩ := DataW.trod_array hu h
      simp only [Nat.add_right_cancel_iff] at e1
      subst e1
      have := arr_read ih ha k 0 xs (by rw [hl, hc]; simp) hlen (fun i hi => by simpa using hf i hi) (fun q hq => hw q (by simpa [DataW.weights, hu] using hq))
      simpa using this
    · rename_i e
      split at hs
      rotate_left
      · cases hs
      rename_i hpos
      simp only [Option.map_eq_some_iff] at hs
      obtain ⟨a, ha, rfl⟩ := hs
      rcases DataW.trod_slice hu h with ⟨rfl, rfl⟩ | ⟨ad, len, cap, elems, rest, m', e1, rfl, rfl, _, hl, _, hlen, hel, _⟩
      · exact ⟨_, .inl rfl, .one rfl .nilS⟩
      · simp only [Nat.add_right_cancel_iff] at e1
        subst e1
        simp only [DataW.weights, hu, List.mem_cons, List.mem_append] at hw
        have hbytes := hw _ (.inl rfl)
        obtain ⟨l, hll, hq⟩ := exists_list (Q := fun i r => a.Ok r ∧ ∃ ci, w.cells? 0 (ad.add (i * P.cellsOf e)) (P.cellsOf e) = some ci ∧ PartR w.heap r ci) len fun i hi => by
          have := hel i hi
          rw [List.getElem?_eq_getElem (by omega)] at this
          simp only [Option.bind_eq_some_iff] at this
          obtain ⟨ci, hc, hd⟩ := this
          obtain ⟨vs, ok, r⟩ := ih _ _ _ _ ha hd (fun q hqq => hw q (.inr (.inl (weights_all_mem (List.mem_map_of_mem (List.getElem_mem (by omega))) q hqq))))
          exact ⟨vs, ok, ci, hc, r⟩
        refine ⟨[.rows (P.cellsOf e) l], .inr ⟨l, rfl, ?_, ?_⟩, .one rfl ?_⟩
        · simp only [List.length_map] at hbytes
          rw [hll, ← hlen]
          exact Nat.le_trans (Nat.mul_le_mul_right _ (Nat.le_add_right _ _)) hbytes
        · intro r hr
          obtain ⟨i, hi⟩ := List.getElem?_of_mem hr
          exact (hq i r hi).1
        · by_cases h0 : len = 0
          · subst h0
            rw [List.eq_nil_of_length_eq_zero hll]
            exact .rowsE _ _ _
          · obtain ⟨r0, hr0⟩ : ∃ r0, l[0]? = some r0 := ⟨_, List.getElem?_eq_getElem (by omega)⟩
            obtain ⟨_, c0, hc0, _⟩ := hq 0 r0 hr0
            have hz := World.cells?_some hc0
            have hz0 := hz.2.2 0 hpos
            rw [List.getElem?_eq_getElem (by omega)] at hz0
            have ea : (ad.add (0 * P.cellsOf e)).add 0 = ad := by simp [Addr.add]
            rw [ea] at hz0
            obtain ⟨b, o, spt⟩ := ad
            have hsp : spt = none ∧ b < w.heap.size := by
              unfold World.cell? at hz0
              simp only at hz0
              cases hb : w.heap[b]? with
              | none => simp [hb] at hz0
              | some ob =>
                refine ⟨?_, (Array.getElem?_eq_some_iff.1 hb).1⟩
                cases ob with
                | cells c t f => rw [hb] at hz0; simp only at hz0; cases spt with | none => rfl | some z => simp at hz0
                | _ => simp [hb] at hz0
            obtain ⟨rfl, hbl⟩ := hsp
            have key : ∀ (i : Nat) r (j : Nat) v, l[i]? = some r → r[j]? = some v → v.isCell = true ∧ ∃ c, hcell w.heap b (o + (i * P.cellsOf e + j)) = some c ∧ Rl w.heap (fun _ => none) (fun b => b < w.heap.size) v c := by
              intro i r j v h1 h2
              obtain ⟨_, ci, hci, hpr⟩ := hq i r h1
              have hz := World.cells?_some hci
              have hj : j < ci.length := by rw [← hpr.1]; exact (List.getElem?_eq_some_iff.1 h2).1
              have h3 := hz.2.2 j (by omega)
              rw [List.getElem?_eq_getElem hj, addr_add, addr_add, cell?_heap] at h3
              obtain ⟨h4, h5⟩ := hpr.2 j v _ h2 (List.getElem?_eq_getElem hj)
              exact ⟨h4, _, by rw [← h3, Nat.add_assoc], h5⟩
            refine .rows _ l b o len cap (fun q => (hcell w.heap b (o + q)).getD undef) hll.symm hl (fun _ => hbl) (fun i r h1 => ?_) (fun i r j v h1 h2 => (key i r j v h1 h2).1) (fun i r j v h1 h2 => ?_) fun i r j v h1 h2 => ?_
            · obtain ⟨_, ci, hci, hpr⟩ := hq i r h1
              rw [hpr.1, (World.cells?_some hci).2.1]
            · obtain ⟨_, c, hc, _⟩ := key i r j v h1 h2
              rw [hc]; rfl
            · obtain ⟨_, c, hc, hr⟩ := key i r j v h1 h2
              rw [hc]; exact hr
    · rename_i e
      split at hs
      rotate_left
      · cases hs
      rename_i hpos
      simp only [Option.map_eq_some_iff] at hs
      obtain ⟨a, ha, rfl⟩ := hs
      have alt : cs = [.pointer none] ∨ ∃ ad ci y, cs = [.pointer (some ad)] ∧ w.cells? 0 ad (P.cellsOf e) = some ci ∧ DataW.trod enc P w 0 sp true m e ci = some y ∧ x.1 = .ptr y.1 := by
        unfold DataW.trod at h; rw [hu] at h
        split at h <;> simp_all
        simp only [Option.bind_eq_some_iff, Function.comp, Option.map_eq_some_iff] at h
        obtain ⟨ci, hc, ⟨y1, y2⟩, hy, hx⟩ := h
        exact ⟨ci, hc, y1, ⟨y2, hy⟩, by rw [← hx]⟩
      rcases alt with rfl | ⟨ad, ci, y, rfl, hc, hy, hx⟩
      · exact ⟨_, .inl rfl, .one rfl .nilP⟩
      · obtain ⟨vs, ok, hpr⟩ := ih _ _ _ _ ha hy (fun q hq => hw q (by rw [hx]; simpa [DataW.weights, hu] using hq))
        refine ⟨[.fp vs], .inr ⟨vs, rfl, ok⟩, .one rfl ?_⟩
        have hz := World.cells?_some hc
        have hz0 := hz.2.2 0 hpos
        rw [List.getElem?_eq_getElem (by omega)] at hz0
        have ea : ad.add 0 = ad := by simp [Addr.add]
        rw [ea] at hz0
        obtain ⟨b, o, spt⟩ := ad
        have hsp : spt = none ∧ b < w.heap.size := by
          unfold World.cell? at hz0
          simp only at hz0
          cases hb : w.heap[b]? with
          | none => simp [hb] at hz0
          | some ob =>
            refine ⟨?_, (Array.getElem?_eq_some_iff.1 hb).1⟩
            cases ob with
            | cells c t f => rw [hb] at hz0; simp only at hz0; cases spt with | none => rfl | some z => simp at hz0
            | _ => simp [hb] at hz0
        obtain ⟨rfl, hbl⟩ := hsp
        have key : ∀ (j : Nat) v, vs[j]? = some v → v.isCell = true ∧ ∃ c, hcell w.heap b (o + j) = some c ∧ Rl w.heap (fun _ => none) (fun b => b < w.heap.size) v c := by
          intro j v h2
          have hj : j < ci.length := by rw [← hpr.1]; exact (List.getElem?_eq_some_iff.1 h2).1
          have h3 := hz.2.2 j (by omega)
          rw [List.getElem?_eq_getElem hj, addr_add, cell?_heap] at h3
          obtain ⟨h4, h5⟩ := hpr.2 j v _ h2 (List.getElem?_eq_getElem hj)
          exact ⟨h4, _, h3, h5⟩
        refine .fp vs b o (fun q => (hcell w.heap b (o + q)).getD undef) (fun _ => hbl) (fun j v h2 => (key j v h2).1) (fun j v h2 => ?_) fun j v h2 => ?_
        · obtain ⟨_, c, hc, _⟩ := key j v h2
          rw [hc]; rfl
        · obtain ⟨_, c, hc, hr⟩ := key j v h2
          rw [hc]; exact hr
    · cases hs
theorem read (m n : Nat) : Rd P w enc sp m (shOf P n) := readR m n fun q => by cases q
end
end Go.Proofs.Ytmjdkeonjflanaa

/- From a contract to a row. -/
namespace Go.Proofs.Ytmjdkeonjflanaa
set_option autoImplicit false
set_option linter.unusedSimpArgs false
set_option linter.unusedVariables false

def isAggT (P : Program) (t : TypeId) : Bool :=
  match P.underlying t with
  | some (.struct _) => true
  | some (.array _ _) => true
  | _ => false

/-- An argument of a shape. -/
def ArgOk (agg : Bool) (sh : Sh) (av : AV) : Prop :=
  match agg with
  | true => ∃ vs, av = .agg vs ∧ sh.Ok vs
  | false => sh.Ok [av]

section
variable {H : Type} {enc : TypeId × Value → H} {P : Program} {W : World} {sp : Nat → Bool}

theorem okWide_notAgg {r : Reach} {base : Nat} {t : TypeId} {v : Value} (ha : isAggT P t = false) (h : Value.okWide P W r base t v) : v.cells = #[v] := by
  unfold isAggT at ha
  unfold Value.okWide at h
  split at h
  · rename_i hu; simp [hu] at ha
  · rename_i hu; simp [hu] at ha
  · cases v <;> first
      | rfl
      | (exfalso; unfold Cell.okWide at h; split at h <;> rename_i heq <;> first | (cases heq; done) | (unfold Cell.ok at h; split at h <;> rename_i heq2 <;> first | (cases heq2; done) | exact h))

theorem arg_rl {r : Reach} {base n : Nat} {t : TypeId} {v : Value} {d : DataW H} {ps : List MemPlace} {sh : Sh} (agg : Bool) (hagg : isAggT P t = agg) (hs : shOf P n t = some sh) (hval : Value.okWide P W r base t v)
    (h : DataW.Trod enc P W 0 sp true t v d ps) (hw : ∀ n ∈ d.weights P t, n ≤ reachBytes) : ∃ av, ArgOk agg sh av ∧ Rl W.heap (fun _ => none) (fun b => b < W.heap.size) av v := by
  obtain ⟨fuel, hf⟩ := h
  obtain ⟨vs, ok, hpr⟩ := read fuel n t _ _ sh hs hf hw
  cases agg with
  | true =>
    obtain ⟨cs, rfl⟩ : ∃ cs, v = .agg cs := by
      unfold isAggT at hagg
      unfold Value.okWide at hval
      split at hagg
      · rename_i hu; simp only [hu] at hval; obtain ⟨cs, e, _⟩ := hval; exact ⟨cs, e⟩
      · rename_i hu; simp only [hu] at hval; obtain ⟨cs, e, _⟩ := hval; exact ⟨cs, e⟩
      · cases hagg
    refine ⟨.agg vs, ⟨vs, rfl, ok⟩, ?_⟩
    have := Rl.agg (h := W.heap) (ρ := fun _ => none) (Z := fun b => b < W.heap.size) vs cs.toList (by simpa [Value.cells] using hpr.1)
      (fun i v h1 => by
        have hi := (List.getElem?_eq_some_iff.1 h1).1
        rw [hpr.1] at hi
        exact (hpr.2 i v _ h1 (List.getElem?_eq_getElem hi)).1)
      (fun i v x h1 h2 => (hpr.2 i v x h1 (by simpa [Value.cells] using h2)).2)
    simpa using this
  | false =>
    rw [okWide_notAgg hagg hval] at hpr
    have hl := hpr.1
    match vs, hl with
    | [av], _ => exact ⟨av, ok, (hpr.2 0 av v rfl rfl).2⟩

/-- .. of a type that holds itself. -/
theorem arg_rlR {r : Reach} {base : Nat} {t : TypeId} {v : Value} {d : DataW H} {ps : List MemPlace} (agg : Bool) (hagg : isAggT P t = agg) (hs : ∀ n, ∃ sh, shO true P n t = some sh) (hval : Value.okWide P W r base t v)
    (h : DataW.Trod enc P W 0 sp true t v d ps) (hw : ∀ n ∈ d.weights P t, n ≤ reachBytes) : ∃ av, (∃ n sh, shO true P n t = some sh ∧ ArgOk agg sh av) ∧ Rl W.heap (fun _ => none) (fun b => b < W.heap.size) av v := by
  obtain ⟨fuel, hf⟩ := h
  obtain ⟨sh, hs⟩ := hs fuel
  obtain ⟨vs, ok, hpr⟩ := readR fuel fuel (fun _ => Nat.le_refl _) t _ _ sh hs hf hw
  cases agg with
  | true =>
    obtain ⟨cs, rfl⟩ : ∃ cs, v = .agg cs := by
      unfold isAggT at hagg
      unfold Value.okWide at hval
      split at hagg
      · rename_i hu; simp only [hu] at hval; obtain ⟨cs, e, _⟩ := hval; exact ⟨cs, e⟩
      · rename_i hu; simp only [hu] at hval; obtain ⟨cs, e, _⟩ := hval; exact ⟨cs, e⟩
      · cases hagg
    refine ⟨.agg vs, ⟨fuel, sh, hs, vs, rfl, ok⟩, ?_⟩
    have := Rl.agg (h := W.heap) (ρ := fun _ => none) (Z := fun b => b < W.heap.size) vs cs.toList (by simpa [Value.cells] using hpr.1)
      (fun i v h1 => by
        have hi := (List.getElem?_eq_some_iff.1 h1).1
        rw [hpr.1] at hi
        exact (hpr.2 i v _ h1 (List.getElem?_eq_getElem hi)).1)
      (fun i v x h1 h2 => (hpr.2 i v x h1 (by simpa [Value.cells] using h2)).2)
    simpa using this
  | false =>
    rw [okWide_notAgg hagg hval] at hpr
    have hl := hpr.1
    match vs, hl with
    | [av], _ => exact ⟨av, ⟨fuel, sh, hs, ok⟩, (hpr.2 0 av v rfl rfl).2⟩

theorem good0 (h : Array Obj) : Good h (fun _ => none) (fun b => b < h.size) [] where
  blk := fun id blk h1 => by simp [hget] at h1
  inj := fun i j a b p q o o' h1 => by simp [hget] at h1
  notZ := fun b ⟨id, blk, o, h1, _⟩ => by simp [hget] at h1
  zlt := fun _ h => h
  ids := ⟨0, fun _ _ => rfl⟩
  ty := fun id b o q => by cases q

/-- A law's call: true, and what was there is there still. -/
theorem law_calls {f : Nat} {args : List AV} {xs : List Value} (h : ACalls P f args [] fun r _ => r = .bool true) (hr : RlL W.heap (fun _ => none) (fun b => b < W.heap.size) args xs) :
    Calls P f xs.toArray W fun e W' => e = .returned (.bool true) ∧ RowKit.Below W.heap.size W W' := by
  refine (h.2 W _ _ xs (good0 W.heap) hr).mono fun e w' ⟨x, r, H', ρ', Z', q1, _, hv, ex, k⟩ => ?_
  subst k
  cases hv
  refine ⟨q1, ⟨ex.os, ex.tape, ex.out, ex.size, fun k hk => ex.keep k hk ?_⟩⟩
  rintro ⟨id, blk, o, h1, _⟩
  simp [hget] at h1
end
end Go.Proofs.Ytmjdkeonjflanaa

/- Words for those who use the predicate transformer. -/
namespace Go.Proofs.Ytmjdkeonjflanaa
set_option autoImplicit false
set_option linter.unusedSimpArgs false
set_option linter.unusedVariables false

theorem Sub.refl (H : AH) : Sub H H := fun _ _ h => h
theorem Sub.cons {Hc H : AH} {id : Nat} {b : Blk} (h : Sub Hc H) (hid : hget H id = none) : Sub Hc ((id, b) :: H) := fun j c q => by
  simp only [hget]
  split
  · rename_i e
    have := h j c q
    rw [e, hid] at this
    cases this
  · exact h j c q
theorem FzL.refl (H Hc : AH) (vs : List AV) : FzL H Hc vs vs := ⟨rfl, fun i v v' a b => by rw [a] at b; simp only [Option.some.injEq] at b; rw [b]; exact .refl _⟩

section
variable {P : Program} {f : Nat} {args : List AV} {H : AH} {K : AV → AH → Prop} {r : AV}

/-- A call by its contract. -/
theorem callA_of (h : ACalls P f args H K) : callA P f args H K := ⟨args, H, Sub.refl H, FzL.refl _ _ _, .inl h⟩
theorem callA_eq (h : ACalls P f args H fun r' H' => r' = r ∧ H' = H) (k : K r H) : callA P f args H K :=
  callA_of (h.mono fun r' H' ⟨a, b⟩ => by rw [a, b]; exact k)
theorem ACalls_eq (h : ACalls P f args H fun r' H' => r' = r ∧ H' = H) (k : K r H) : ACalls P f args H K :=
  h.mono fun r' H' ⟨a, b⟩ => by rw [a, b]; exact k
theorem NoId.plain (h : r.plain = true) : NoId r := fun _ _ _ _ _ q => q.plain h
/-- A function that owns nothing of the caller's and hands back a plain value. -/
theorem ACalls.plain (hp : r.plain = true) (h : ACalls P f args [] fun r' _ => r' = r) : ACalls P f args H fun r' H' => r' = r ∧ H' = H :=
  ⟨h.1, fun w ρ Z xs g hr => callA_calls (K := fun r' H' => r' = r ∧ H' = H)
    ⟨args, [], fun _ _ q => (by cases q), FzL.refl _ _ _, .inr (h.mono fun r' _ e => by rw [e]; exact ⟨hp, rfl, rfl⟩)⟩ g hr⟩
theorem callP_plain (hp : r.plain = true) (h : ACalls P f args H fun r' H' => r' = r ∧ H' = H) : callP P f args H r := .inl ⟨NoId.plain hp, h⟩

end

theorem wrap_id {n : Int} (h1 : -9223372036854775808 ≤ n) (h2 : n ≤ 9223372036854775807) : IntKind.i64.wrap n = n := by rw [IntKind.wrap_i64]; omega

theorem OA_some {α : Type} (x : α) (f : α → Prop) : OA (some x) f = f x := rfl
theorem OA_none {α : Type} (f : α → Prop) : OA (none : Option α) f = False := rfl
theorem OA_ite {α : Type} (c : Prop) [Decidable c] (x y : Option α) (f : α → Prop) : OA (if c then x else y) f = if c then OA x f else OA y f := by split <;> rfl
theorem ite_bind {α β : Type} (c : Prop) [Decidable c] (x y : Option α) (f : α → Option β) : (if c then x else y).bind f = if c then x.bind f else y.bind f := by split <;> rfl
theorem ite_false_and (c p : Prop) [Decidable c] : (if c then p else False) = (c ∧ p) := by
  apply propext
  split
  · rename_i h; exact ⟨fun q => ⟨h, q⟩, fun q => q.2⟩
  · rename_i h; exact ⟨fun q => q.elim, fun q => h q.1⟩
theorem ex_bool {b : Bool} {p : Bool → Prop} : (∃ q, some (AV.bool b) = some (AV.bool q) ∧ p q) = p b := by
  apply propext
  constructor
  · rintro ⟨q, h, k⟩; simp only [Option.some.injEq, AV.bool.injEq] at h; rw [h]; exact k
  · exact fun k => ⟨b, rfl, k⟩
theorem Fr.set_get (s : Fr) (d t : Nat) (x : AV) : (s.set d x) t = if t = d then some x else s t := rfl
theorem Fr.clr_get (s : Fr) (d t : Nat) : (s.clr d) t = if t = d then none else s t := rfl
theorem initFr_get (args : List AV) (t : Nat) : initFr args t = args[t]? := rfl

end Go.Proofs.Ytmjdkeonjflanaa

/- The predicate transformer over frames that are lists: made to be reduced head first. -/
namespace Go.Proofs.Ytmjdkeonjflanaa
set_option autoImplicit false
set_option linter.unusedSimpArgs false
set_option linter.unusedVariables false

/-- A frame as a list, the newest entry first. -/
abbrev FL := List (Nat × Option AV)

noncomputable def FL.get (L : FL) (t : Nat) : Option AV := @List.rec (Nat × Option AV) (fun _ => Option AV) none (fun p _ ih => match Nat.beq t p.1 with
    | true => p.2
    | false => ih) L

noncomputable def frm (L : FL) : Fr := fun t => L.get t

theorem FL.get_cons (d t : Nat) (x : Option AV) (L : FL) : FL.get ((d, x) :: L) t = if t = d then x else L.get t := by
  show (match Nat.beq t d with | true => x | false => L.get t) = _
  cases h : Nat.beq t d with
  | true => rw [if_pos (Nat.eq_of_beq_eq_true h)]
  | false => rw [if_neg (fun e => by rw [e, Nat.beq_refl] at h; cases h)]

theorem frm_set (L : FL) (d : Nat) (x : AV) : frm ((d, some x) :: L) = (frm L).set d x := by
  funext t; simp only [frm, FL.get_cons, Fr.set]
theorem frm_clr (L : FL) (d : Nat) : frm ((d, none) :: L) = (frm L).clr d := by
  funext t; simp only [frm, FL.get_cons, Fr.clr]

def putL (L : FL) (d : Option Nat) (x : AV) : FL := match d with | some d => (d, some x) :: L | none => L
def delL (L : FL) (d : Option Nat) : FL := match d with | some d => (d, none) :: L | none => L
/-- .. and what follows, the new frame being there. -/
def putK (L : FL) (d : Option Nat) (x : AV) (k : FL → Prop) : Prop := match d with | some d => k ((d, some x) :: L) | none => k L
def delK (L : FL) (d : Option Nat) (k : FL → Prop) : Prop := match d with | some d => k ((d, none) :: L) | none => k L
theorem putK_eq (L : FL) (d : Option Nat) (x : AV) (k : FL → Prop) : putK L d x k = k (putL L d x) := by cases d <;> rfl
theorem delK_eq (L : FL) (d : Option Nat) (k : FL → Prop) : delK L d k = k (delL L d) := by cases d <;> rfl
theorem frm_put (L : FL) (d : Option Nat) (x : AV) : frm (putL L d x) = (frm L).put d x := by cases d with | none => rfl | some d => exact frm_set L d x
theorem frm_del (L : FL) (d : Option Nat) : frm (delL L d) = (frm L).del d := by cases d with | none => rfl | some d => exact frm_clr L d

/-- All that the first frame knows the second one knows. -/
def covers : FL → FL → Prop
  | [], _ => True
  | (t, some v) :: r, L => L.get t = some v ∧ covers r L
  | (_, none) :: r, L => covers r L

theorem covers_sub : ∀ (M L : FL), covers M L → SubFr (frm M) (frm L)
  | [], L, _, t, v, h => by cases h
  | (d, some x) :: M, L, hc, t, v, h => by
    simp only [frm, FL.get_cons] at h
    split at h
    · rename_i e; simp only [Option.some.injEq] at h; rw [← h, e]; exact hc.1
    · exact covers_sub M L hc.2 t v h
  | (d, none) :: M, L, hc, t, v, h => by
    simp only [frm, FL.get_cons] at h
    split at h
    · cases h
    · exact covers_sub M L hc t v h

noncomputable def memN (t : Nat) (l : List Nat) : Bool := @List.rec Nat (fun _ => Bool) false (fun a _ ih => match Nat.beq t a with
  | true => true
  | false => ih) l
theorem memN_mem {t : Nat} : ∀ {l : List Nat}, memN t l = true → t ∈ l
  | [], h => by cases h
  | a :: l, h => by
    have h' : (match Nat.beq t a with | true => true | false => memN t l) = true := h
    split at h'
    · rename_i e; rw [Nat.eq_of_beq_eq_true e]; exact List.mem_cons_self
    · exact List.mem_cons_of_mem _ (memN_mem h')
/-- .. and may be frozen; what is shadowed is left out of account. -/
def coversS (H Hc : AH) : List Nat → FL → FL → Prop
  | _, [], _ => True
  | seen, (t, some v') :: r, L => (memN t seen = true ∨ ∃ v, L.get t = some v ∧ Fz H Hc v v') ∧ coversS H Hc (t :: seen) r L
  | seen, (t, none) :: r, L => coversS H Hc (t :: seen) r L
abbrev coversZ (H Hc : AH) (M L : FL) : Prop := coversS H Hc [] M L
theorem coversS_sub {H Hc : AH} : ∀ (M L : FL) (seen : List Nat), coversS H Hc seen M L → ∀ t v', t ∉ seen → frm M t = some v' → ∃ v, frm L t = some v ∧ Fz H Hc v v'
  | [], L, _, _, t, v, _, h => by cases h
  | (d, some x) :: M, L, seen, hc, t, v, hn, h => by
    simp only [frm, FL.get_cons] at h
    split at h
    · rename_i e
      simp only [Option.some.injEq] at h
      rw [← h, e]
      rcases hc.1 with q | q
      · exact absurd (memN_mem q) (e ▸ hn)
      · exact q
    · rename_i e
      exact coversS_sub M L _ hc.2 t v (by simp [e, hn]) h
  | (d, none) :: M, L, seen, hc, t, v, hn, h => by
    simp only [frm, FL.get_cons] at h
    split at h
    · cases h
    · rename_i e
      exact coversS_sub M L _ hc t v (by simp [e, hn]) h

theorem coversZ_sub {H Hc : AH} (M L : FL) (h : coversZ H Hc M L) : SubFz H Hc (frm M) (frm L) := fun t v q => coversS_sub M L [] h t v (by simp) q

/-! ### Operations, by what follows -/
def evX (L : FL) (x : X) (k : AV → Prop) : Prop :=
  match x with
  | .t n => match L.get n with
    | some v => k v
    | none => False
  | .c v => k v
  | .bad => False

def evXs (L : FL) : List X → (List AV → Prop) → Prop
  | [], k => k []
  | x :: xs, k => evX L x fun v => evXs L xs fun vs => k (v :: vs)

def evX3 (L : FL) : List (Nat × Nat × X) → (List (Nat × Nat × AV) → Prop) → Prop
  | [], k => k []
  | (o, z, x) :: xs, k => evX L x fun v => evX3 L xs fun vs => k ((o, z, v) :: vs)

def evX2 (L : FL) : List (Nat × X) → (List (Nat × AV) → Prop) → Prop
  | [], k => k []
  | (i, x) :: xs, k => evX L x fun v => evX2 L xs fun vs => k ((i, v) :: vs)

def evXO (L : FL) (d : Int) (x : Option X) (k : Int → Prop) : Prop :=
  match x with
  | none => k d
  | some x => evX L x fun v => match v with
    | .int _ n => k n
    | _ => False

def oA {α : Type} (o : Option α) (k : α → Prop) : Prop :=
  match o with
  | some x => k x
  | none => False

def kEq : IntKind → IntKind → Bool
  | .i8, .i8 => true
  | .i16, .i16 => true
  | .i32, .i32 => true
  | .i64, .i64 => true
  | .u8, .u8 => true
  | .u16, .u16 => true
  | .u32, .u32 => true
  | .u64, .u64 => true
  | _, _ => false
theorem kEq_eq {a b : IntKind} (h : kEq a b = true) : a = b := by cases a <;> cases b <;> first | rfl | cases h

def kG (a b : IntKind) (k : Prop) : Prop := match kEq a b with
  | true => k
  | false => False
def nG (a b : Nat) (k : Prop) : Prop := match Nat.beq a b with
  | true => k
  | false => False
theorem kG_of {a b : IntKind} {k : Prop} (h : kG a b k) : a = b ∧ k := by
  unfold kG at h
  split at h
  · rename_i e; exact ⟨kEq_eq e, h⟩
  · exact h.elim
theorem nG_of {a b : Nat} {k : Prop} (h : nG a b k) : a = b ∧ k := by
  unfold nG at h
  split at h
  · rename_i e; exact ⟨Nat.eq_of_beq_eq_true e, h⟩
  · exact h.elim

/-- A number brought into its kind's range: a place to stop. (A structure: nothing unfolds it.) -/
structure rng (w : Int) (k : Int → Prop) : Prop where
  out : k w
theorem rng_any {w : Int} {k : Int → Prop} (h : k w) : rng w k := ⟨h⟩
theorem rng_id {w n : Int} {k : Int → Prop} (e : w = n) (h : k n) : rng w k := by rw [e]; exact ⟨h⟩
theorem rng_i64 {n : Int} {k : Int → Prop} (h1 : -9223372036854775808 ≤ n) (h2 : n ≤ 9223372036854775807) (h : k n) : rng (IntKind.wrap .i64 n) k := rng_id (wrap_id h1 h2) h
theorem rng_u8 {n : Int} {k : Int → Prop} (h1 : 0 ≤ n) (h2 : n ≤ 255) (h : k n) : rng (IntKind.wrap .u8 n) k := rng_id (by simp only [IntKind.wrap, IntKind.bits, IntKind.signed, Bool.false_and, Bool.false_eq_true, if_false]; omega) h
theorem rng_u16 {n : Int} {k : Int → Prop} (h1 : 0 ≤ n) (h2 : n ≤ 65535) (h : k n) : rng (IntKind.wrap .u16 n) k := rng_id (by simp only [IntKind.wrap, IntKind.bits, IntKind.signed, Bool.false_and, Bool.false_eq_true, if_false]; omega) h
theorem rng_u32 {n : Int} {k : Int → Prop} (h1 : 0 ≤ n) (h2 : n ≤ 4294967295) (h : k n) : rng (IntKind.wrap .u32 n) k := rng_id (by simp only [IntKind.wrap, IntKind.bits, IntKind.signed, Bool.false_and, Bool.false_eq_true, if_false]; omega) h
theorem rng_u64 {n : Int} {k : Int → Prop} (h1 : 0 ≤ n) (h2 : n ≤ 18446744073709551615) (h : k n) : rng (IntKind.wrap .u64 n) k := rng_id (by simp only [IntKind.wrap, IntKind.bits, IntKind.signed, Bool.false_and, Bool.false_eq_true, if_false]; omega) h

/-- A block is written. -/
structure hsetK (H : AH) (id : Nat) (b : Blk) (k : AH → Prop) : Prop where
  out : k (hset H id b)
/-- .. what it holds being reckoned first. -/
structure hsetN (H : AH) (id : Nat) (b : Blk) (k : AH → Prop) : Prop where
  out : k (hset H id b)
theorem hsetN_of {H : AH} {id : Nat} {b b' : Blk} {k : AH → Prop} (e : b = b') (h : hsetK H id b' k) : hsetN H id b k := ⟨by rw [e]; exact h.out⟩
theorem hsetK_any {H : AH} {id : Nat} {b : Blk} {k : AH → Prop} (h : k (hset H id b)) : hsetK H id b k := ⟨h⟩
theorem hsetK_top {H : AH} {id : Nat} {b c : Blk} {k : AH → Prop} (h : k ((id, c) :: H)) : hsetK ((id, b) :: H) id c k := ⟨by rw [show hset ((id, b) :: H) id c = (id, c) :: H from by simp [hset]]; exact h⟩
theorem hsetK_down {T : AH} {i id : Nat} {b c : Blk} {k : AH → Prop} (h : i ≠ id) (h2 : hsetK T id b fun T' => k ((i, c) :: T')) : hsetK ((i, c) :: T) id b k :=
  ⟨by rw [show hset ((i, c) :: T) id b = (i, c) :: hset T id b from by simp only [hset]; rw [if_neg (fun e => h e.symm)]]; exact h2.out⟩
def opF (L : FL) (H : AH) (co : CO) (k : Rs → Prop) : Prop :=
  match co with
  | .mv x => evX L x fun v => k (.val v)
  | .pick c a b => evX L c fun v => match v with
    | .bool q => match q with
      | true => evX L a fun v => k (.val v)
      | false => evX L b fun v => k (.val v)
    | _ => False
  | .box T x => evX L x fun v => allCells v.cells = true ∧ k (.fresh T (.rows v.cells.length [v.cells]) (fun id => .ptr id v.cells.length 0 0) H)
  | .allc T zs => k (.fresh T (.rows zs.length [zs]) (fun id => .ptr id zs.length 0 0) H)
  | .load n x => evX L x fun v => match v with
    | .fp cs => oA (partA cs 0 n) fun r => k (.val r)
    | .ptr id sz i j => ∃ l r, hget H id = some (.rows sz l) ∧ l[i]? = some r ∧ oA (partA (r.drop j) 0 n) fun v => k (.val v)
    | _ => False
  | .store n x y => evX L x fun v => evX L y fun z => match v with
    | .ptr id sz i j => ∃ l r, hget H id = some (.rows sz l) ∧ l[i]? = some r ∧ z.cells.length = n ∧ allCells z.cells = true ∧ j + n ≤ r.length ∧ hsetN H id (.rows sz (l.set i (over r j z.cells))) fun H' => k (.upd H')
    | _ => False
  | .faddr off x => evX L x fun v => match v with
    | .ptr id sz i j => k (.val (.ptr id sz i (j + off)))
    | .fp cs => k (.val (.fp (cs.drop off)))
    | _ => False
  | .iaddr sz x i => evX L x fun v => evX L i fun w => match w with
    | .int _ n => match v with
      | .rows sz' l => nG sz' sz ((0 ≤ n ∧ n < l.length) ∧ k (.val (.fp (l.getD n.toNat []))))
      | .own id sz' lo hi => nG sz' sz ((0 ≤ n ∧ n < ((hi - lo : Nat) : Int)) ∧ k (.val (.ptr id sz (lo + n.toNat) 0)))
      | _ => False
    | _ => False
  | .iarr len sz x i => evX L x fun v => evX L i fun w => match w with
    | .int _ n => (0 ≤ n ∧ n < len) ∧ match v with
      | .ptr id z a j => k (.val (.ptr id z a (j + n.toNat * sz)))
      | .fp cs => k (.val (.fp (cs.drop (n.toNat * sz))))
      | _ => False
    | _ => False
  | .field off n x => evX L x fun v => match v with
    | .agg cs => oA (partA cs off n) fun r => k (.val r)
    | _ => False
  | .idx x i => evX L x fun v => evX L i fun w => match v with
    | .str l => match w with
      | .int _ n => (0 ≤ n ∧ n < l.length) ∧ k (.val (.int .u8 ((l.getD n.toNat 0).toNat : Int)))
      | _ => False
    | _ => False
  | .idxA len sz n x i => evX L x fun v => evX L i fun w => match v with
    | .agg cs => match w with
      | .int _ a => (0 ≤ a ∧ a < len) ∧ oA (partA cs (a.toNat * sz) n) fun r => k (.val r)
      | _ => False
    | _ => False
  | .bin op x y => evX L x fun a => evX L y fun b => match a with
    | .int ka m => match b with
      | .int kb n => match op with
        | .quo => kG ka kb (n ≠ 0 ∧ rng (IntKind.wrap ka (m.tdiv n)) fun z => k (.val (.int ka z)))
        | .rem => kG ka kb (n ≠ 0 ∧ k (.val (.int ka (m.tmod n))))
        | .shl => 0 ≤ n ∧ rng (IntKind.wrap ka (m * 2 ^ (min n.toNat ka.bits))) fun z => k (.val (.int ka z))
        | .shr => 0 ≤ n ∧ k (.val (.int ka (m.fdiv (2 ^ (min n.toNat ka.bits)))))
        | .add => kG ka kb (rng (IntKind.wrap ka (m + n)) fun z => k (.val (.int ka z)))
        | .sub => kG ka kb (rng (IntKind.wrap ka (m - n)) fun z => k (.val (.int ka z)))
        | .mul => kG ka kb (rng (IntKind.wrap ka (m * n)) fun z => k (.val (.int ka z)))
        | op => kG ka kb (oA (binInt op ka m n) fun r => k (.val r))
      | _ => False
    | .str p => match b with
      | .str q => match op with
        | .add => ((p.length + q.length : Nat) : Int) ≤ 9223372036854775807 ∧ k (.val (.str (p ++ q)))
        | op => oA (binStr op p q) fun r => k (.val r)
      | _ => False
    | _ => False
  | .beq neg x y => evX L x fun a => evX L y fun b => match a with
    | .bool p => match b with
      | .bool q => k (.val (.bool (match neg with | true => !(p == q) | false => (p == q))))
      | _ => False
    | _ => False
  | .ncmpS neg x => evX L x fun a => match a with
    | .nilS => k (.val (.bool (match neg with | true => false | false => true)))
    | .own _ _ _ _ => k (.val (.bool (match neg with | true => true | false => false)))
    | .rows _ l => l ≠ [] ∧ k (.val (.bool (match neg with | true => true | false => false)))
    | _ => False
  | .ncmpP neg x => evX L x fun a => oA (isNilP a) fun b => k (.val (.bool (match neg with | true => !b | false => b)))
  | .aeq neg sh x y => evX L x fun a => evX L y fun b => match a with
    | .agg xs => match b with
      | .agg ys => ∃ r, eqCells sh xs ys = some r ∧ k (.val (.bool (match neg with | true => !r | false => r)))
      | _ => False
    | _ => False
  | .un op x => evX L x fun a => oA (unV op a) fun r => k (.val r)
  | .conv kd x => evX L x fun a => match a with
    | .int _ n => rng (IntKind.wrap kd n) fun z => k (.val (.int kd z))
    | _ => False
  | .convS x => evX L x fun a => match a with
    | .str l => k (.val (.str l))
    | _ => False
  | .bytesS x => evX L x fun v => ∃ ys l, readS H false 1 v = some ys ∧ bytesA ys = some l ∧ k (.val (.str l))
  | .ext e xs => evXs L xs fun vs => oA (extA e vs) fun v => k (.val v)
  | .build zs parts => evX3 L parts fun ps => ∃ cs, overs zs ps = some cs ∧ allCells cs = true ∧ k (.val (.agg cs))
  | .bslice T sz n zs parts => evX2 L parts fun ps => ∃ l, setRows sz (List.replicate n zs) ps = some l ∧ l.all allCells = true ∧
      match n with
      | 0 => k (.fresh T (.rows sz []) (fun id => .own id sz 0 0) H)
      | _ + 1 => k (.val (.rows sz l))
  | .bsliceO T sz n zs parts => evX2 L parts fun ps => ∃ l, setRows sz (List.replicate n zs) ps = some l ∧ l.all allCells = true ∧ k (.fresh T (.rows sz l) (fun id => .own id sz 0 n) H)
  | .slice kk x lo hi => evX L x fun v => oA (lenA kk.isNone v) fun n => evXO L 0 lo fun a => evXO L n hi fun b => (0 ≤ a ∧ a ≤ b ∧ b ≤ n) ∧
      match v with
      | .str l => k (.val (.str ((l.take b.toNat).drop a.toNat)))
      | .rows sz l => kk = some sz ∧ k (.val (.rows sz ((l.take b.toNat).drop a.toNat)))
      | .nilS => k (.val .nilS)
      | .own id sz l _ => kk = some sz ∧ k (.val (.own id sz (l + a.toNat) (l + b.toNat)))
      | _ => False
  | .mks T sz bytes zs n => evX L n fun v => match v with
    | .int _ a => (0 ≤ a ∧ a * bytes ≤ 140737488355328) ∧ k (.fresh T (.rows sz (List.replicate a.toNat zs)) (fun id => .own id sz 0 a.toNat) H)
    | _ => False
  | .len str x => evX L x fun v => oA (lenA str v) fun n => k (.val (.int .i64 n))
  | .append T str sz bytes x y => evX L x fun v => evX L y fun z => match v with
    | .nilS => ∃ ys, readS H str sz z = some ys ∧ ys.length * bytes ≤ 140737488355328 ∧ (ys = [] → k (.val .nilS)) ∧ (ys ≠ [] → k (.fresh T (.rows sz ys) (fun id => .own id sz 0 ys.length) H))
    | .own id sz' lo hi => ∃ xs ys, readS H false sz (.own id sz' lo hi) = some xs ∧ readS H str sz z = some ys ∧ sz' = sz ∧ lo = 0 ∧ tag id = T ∧ (xs.length + ys.length) * bytes ≤ 140737488355328 ∧
        k (.fresh T (.rows sz (xs ++ ys)) (fun id => .own id sz 0 (xs.length + ys.length)) (hdel H id))
    | .emp => ∃ ys, readS H str sz z = some ys ∧ ys.length * bytes ≤ 140737488355328 ∧ (ys = [] → k (.val .emp)) ∧ (ys ≠ [] → k (.fresh T (.rows sz ys) (fun id => .own id sz 0 ys.length) H))
    | _ => False
  | .mm mx xs => evXs L xs fun vs => oA (mm2 mx vs) fun v => k (.val v)
  | .extr x i => evX L x fun v => match v with
    | .tup vs => oA (vs[i]?) fun r => k (.val r)
    | _ => False
  | .call f xs => evXs L xs fun vs => k (.call f vs)
  | .callv g xs => evX L g fun c => evXs L xs fun vs => match c with
    | .clo f first caps => k (.call f (first ++ vs ++ caps))
    | _ => False
  | .mkfn f first caps => evXs L first fun us => evXs L caps fun vs => k (.val (.clo f us vs))
  | .idu x => evX L x fun v => match v with
    | .nilP => k (.val .nilP)
    | .ptr id sz i j => ∃ l, hget H id = some (.rows sz l) ∧ i < l.length ∧ j < sz ∧ k (.val (.ptr id sz i j))
    | _ => False
  | .idf als x => evX L x fun v => match v with
    | .nilP => k (.val .nilP)
    | .ptr id sz i j => ∃ l, hget H id = some (.rows sz l) ∧ ∃ u, tag id = u ∧ (i = 0 ∧ 0 < l.length) ∧ als.contains (u, sz, j) = true ∧ k (.val (.ptr id sz 0 j))
    | _ => False
  | .peq neg x y => evX L x fun a => evX L y fun b => match a with
    | .ptr id sz i j => match b with
      | .ptr id' sz' i' j' => (id = id' ∧ sz = sz' ∧ i = i' ∧ j = j') ∧ k (.val (.bool (!neg)))
      | _ => False
    | _ => False
  | .sdata x => evX L x fun v => match v with
    | .nilS => k (.val .nilP)
    | .own id sz lo hi => lo < hi ∧ k (.val (.ptr id sz lo 0))
    | _ => False
  | .ustr u x n => evX L x fun v => evX L n fun w => match v with
    | .nilP => match w with
      | .int .i64 q => q = 0 ∧ k (.val (.str []))
      | _ => False
    | .ptr id sz i j => match w with
      | .int .i64 q => ∃ l b, hget H id = some (.rows 1 l) ∧ bytesA (l.take q.toNat) = some b ∧ sz = 1 ∧ i = 0 ∧ j = 0 ∧ 0 < q ∧ q ≤ l.length ∧ q ≤ 9223372036854775807 ∧ tag id = u ∧ k (.valH (.str b) (hdel H id))
      | _ => False
    | _ => False
  | .nilck x => evX L x fun v => match v with
    | .ptr _ _ _ _ => k (.val v)
    | .fp _ => k (.val v)
    | _ => False
  | .bad => False

theorem evX_of {L : FL} {x : X} {k : AV → Prop} (h : evX L x k) : ∃ v, ev (frm L) x = some v ∧ k v := by
  cases x with
  | t n =>
    simp only [evX] at h
    simp only [ev, frm]
    cases hg : L.get n with
    | none => rw [hg] at h; exact h.elim
    | some v => rw [hg] at h; exact ⟨v, rfl, h⟩
  | c v => exact ⟨v, rfl, h⟩
  | bad => exact h.elim

theorem evXs_of {L : FL} : ∀ {xs : List X} {k : List AV → Prop}, evXs L xs k → ∃ vs, evL (frm L) xs = some vs ∧ k vs
  | [], k, h => ⟨[], rfl, h⟩
  | x :: xs, k, h => by
    obtain ⟨v, h1, h2⟩ := evX_of h
    obtain ⟨vs, h3, h4⟩ := evXs_of h2
    exact ⟨v :: vs, by simp [evL, h1, h3], h4⟩

theorem evX3_of {L : FL} : ∀ {xs : List (Nat × Nat × X)} {k : List (Nat × Nat × AV) → Prop}, evX3 L xs k → ∃ vs, evParts3 (frm L) xs = some vs ∧ k vs
  | [], k, h => ⟨[], rfl, h⟩
  | (o, z, x) :: xs, k, h => by
    obtain ⟨v, h1, h2⟩ := evX_of h
    obtain ⟨vs, h3, h4⟩ := evX3_of h2
    exact ⟨(o, z, v) :: vs, by simp [evParts3, h1, h3], h4⟩

theorem evX2_of {L : FL} : ∀ {xs : List (Nat × X)} {k : List (Nat × AV) → Prop}, evX2 L xs k → ∃ vs, evParts2 (frm L) xs = some vs ∧ k vs
  | [], k, h => ⟨[], rfl, h⟩
  | (i, x) :: xs, k, h => by
    obtain ⟨v, h1, h2⟩ := evX_of h
    obtain ⟨vs, h3, h4⟩ := evX2_of h2
    exact ⟨(i, v) :: vs, by simp [evParts2, h1, h3], h4⟩

theorem evXO_of {L : FL} {d : Int} {x : Option X} {k : Int → Prop} (h : evXO L d x k) : ∃ n, evO (frm L) d x = some n ∧ k n := by
  cases x with
  | none => exact ⟨d, rfl, h⟩
  | some x =>
    obtain ⟨v, h1, h2⟩ := evX_of h
    cases v <;> try exact h2.elim
    exact ⟨_, by simp only [evO, h1, Option.bind_some], h2⟩

theorem oA_of {α : Type} {o : Option α} {k : α → Prop} (h : oA o k) : ∃ x, o = some x ∧ k x := by
  cases o with
  | none => exact h.elim
  | some x => exact ⟨x, rfl, h⟩

theorem opF_of {L : FL} {H : AH} {co : CO} {k : Rs → Prop} (h : opF L H co k) : ∃ rs, evalOp (frm L) H co = some rs ∧ k rs := by
  cases co <;> simp only [opF] at h
  case mv x =>
    obtain ⟨v, h1, h2⟩ := evX_of h
    exact ⟨_, by simp only [evalOp, h1, Option.bind_some], h2⟩
  case pick c x y =>
    obtain ⟨v, h1, h2⟩ := evX_of h
    cases v <;> try exact h2.elim
    rename_i q
    cases q with
    | true => obtain ⟨u, h3, h4⟩ := evX_of h2; exact ⟨_, by simp only [evalOp, h1, h3, Option.bind_some, if_true], h4⟩
    | false => obtain ⟨u, h3, h4⟩ := evX_of h2; exact ⟨_, by simp only [evalOp, h1, h3, Option.bind_some, Bool.false_eq_true, if_false], h4⟩
  case box T x =>
    obtain ⟨v, h1, h2⟩ := evX_of h
    exact ⟨_, by simp only [evalOp, h1, Option.bind_some, h2.1, if_true], h2.2⟩
  case allc T zs => exact ⟨_, rfl, h⟩
  case load n x =>
    obtain ⟨v, h1, h2⟩ := evX_of h
    cases v <;> try exact h2.elim
    case fp cs =>
      obtain ⟨r, h3, h4⟩ := oA_of h2
      exact ⟨_, by simp only [evalOp, h1, readA, Option.bind_some, h3], h4⟩
    case ptr id sz i j =>
      obtain ⟨l, r, h3, h4, h5⟩ := h2
      obtain ⟨u, h6, h7⟩ := oA_of h5
      exact ⟨_, by simp only [evalOp, h1, readA, Option.bind_some, h3, if_true, h4, Option.map_some, h6], h7⟩
  case store n x y =>
    obtain ⟨v, h1, h2⟩ := evX_of h
    obtain ⟨z, h3, h4⟩ := evX_of h2
    cases v <;> try exact h4.elim
    obtain ⟨l, r, h5, h6, h7, h8, h9, h10⟩ := h4
    replace h10 := h10.out
    exact ⟨_, by simp only [evalOp, h1, h3, Option.bind_some, h5, h6, h7, h8, h9, and_self, if_true], h10⟩
  case faddr off x =>
    obtain ⟨v, h1, h2⟩ := evX_of h
    cases v <;> first | exact h2.elim | exact ⟨_, by simp only [evalOp, h1, Option.bind_some], h2⟩
  case iaddr sz x i =>
    obtain ⟨v, h1, h2⟩ := evX_of h
    obtain ⟨w, h3, h4⟩ := evX_of h2
    cases w <;> try exact h4.elim
    cases v <;> try exact h4.elim
    · obtain ⟨h5, ⟨h6, h7⟩, h8⟩ := nG_of h4; exact ⟨_, by simp only [evalOp, h1, h3, Option.bind_some, h5, h6, h7, and_self, if_true], h8⟩
    · obtain ⟨h5, ⟨h6, h7⟩, h8⟩ := nG_of h4; exact ⟨_, by simp only [evalOp, h1, h3, Option.bind_some, h5, h6, h7, and_self, if_true], h8⟩
  case iarr len sz x i =>
    obtain ⟨v, h1, h2⟩ := evX_of h
    obtain ⟨w, h3, h4⟩ := evX_of h2
    cases w <;> try exact h4.elim
    cases v <;> first | exact h4.2.elim | (exact ⟨_, by simp only [evalOp, h1, h3, Option.bind_some, h4.1, and_self, if_true], h4.2⟩)
  case field off n x =>
    obtain ⟨v, h1, h2⟩ := evX_of h
    cases v <;> try exact h2.elim
    obtain ⟨r, h3, h4⟩ := oA_of h2
    exact ⟨_, by simp only [evalOp, h1, Option.bind_some, h3], h4⟩
  case idx x i =>
    obtain ⟨v, h1, h2⟩ := evX_of h
    obtain ⟨w, h3, h4⟩ := evX_of h2
    cases v <;> try exact h4.elim
    cases w <;> try exact h4.elim
    exact ⟨_, by simp only [evalOp, h1, h3, Option.bind_some, h4.1, and_self, if_true], h4.2⟩
  case idxA len sz n x i =>
    obtain ⟨v, h1, h2⟩ := evX_of h
    obtain ⟨w, h3, h4⟩ := evX_of h2
    cases v <;> try exact h4.elim
    cases w <;> try exact h4.elim
    obtain ⟨r, h5, h6⟩ := oA_of h4.2
    exact ⟨_, by simp only [evalOp, h1, h3, Option.bind_some, h4.1, and_self, if_true, h5], h6⟩
  case bin op x y =>
    obtain ⟨v, h1, h2⟩ := evX_of h
    obtain ⟨w, h3, h4⟩ := evX_of h2
    cases v <;> try exact h4.elim
    · cases w <;> try exact h4.elim
      cases op
      case quo => obtain ⟨rfl, h6, h7⟩ := kG_of h4; exact ⟨_, by simp only [evalOp, h1, h3, Option.bind_some, binV, if_true, binInt, if_pos h6], h7.out⟩
      case rem => obtain ⟨rfl, h6, h7⟩ := kG_of h4; exact ⟨_, by simp only [evalOp, h1, h3, Option.bind_some, binV, if_true, binInt, if_pos h6], h7⟩
      case shl => exact ⟨_, by simp only [evalOp, h1, h3, Option.bind_some, binV, h4.1, if_true], h4.2.out⟩
      case shr => exact ⟨_, by simp only [evalOp, h1, h3, Option.bind_some, binV, h4.1, if_true], h4.2⟩
      case add => obtain ⟨rfl, h6⟩ := kG_of h4; exact ⟨_, by simp only [evalOp, h1, h3, Option.bind_some, binV, if_true, binInt], h6.out⟩
      case sub => obtain ⟨rfl, h6⟩ := kG_of h4; exact ⟨_, by simp only [evalOp, h1, h3, Option.bind_some, binV, if_true, binInt], h6.out⟩
      case mul => obtain ⟨rfl, h6⟩ := kG_of h4; exact ⟨_, by simp only [evalOp, h1, h3, Option.bind_some, binV, if_true, binInt], h6.out⟩
      all_goals (obtain ⟨h5, h6⟩ := kG_of h4; obtain ⟨r, h7, h8⟩ := oA_of h6; exact ⟨_, by simp only [evalOp, h1, h3, Option.bind_some, binV, if_pos h5, h7], h8⟩)
    · cases w <;> try exact h4.elim
      cases op
      case add => exact ⟨_, by simp only [evalOp, h1, h3, Option.bind_some, binV, binStr, if_pos h4.1], h4.2⟩
      all_goals (obtain ⟨r, h7, h8⟩ := oA_of h4; exact ⟨_, by simp only [evalOp, h1, h3, Option.bind_some, binV, h7], h8⟩)
  case beq neg x y =>
    obtain ⟨v, h1, h2⟩ := evX_of h
    obtain ⟨w, h3, h4⟩ := evX_of h2
    cases v <;> try exact h4.elim
    cases w <;> try exact h4.elim
    cases neg <;> exact ⟨_, by simp only [evalOp, h1, h3, Option.bind_some, if_true, Bool.false_eq_true, if_false], h4⟩
  case ncmpS neg x =>
    obtain ⟨v, h1, h2⟩ := evX_of h
    cases v <;> try exact h2.elim
    · cases neg <;> exact ⟨_, by simp only [evalOp, h1, Option.bind_some, isNilS, if_pos h2.1, if_true, Bool.false_eq_true, if_false, Bool.not_false], h2.2⟩
    · cases neg <;> exact ⟨_, by simp only [evalOp, h1, Option.bind_some, isNilS, if_true, Bool.false_eq_true, if_false, Bool.not_true], h2⟩
    · cases neg <;> exact ⟨_, by simp only [evalOp, h1, Option.bind_some, isNilS, if_true, Bool.false_eq_true, if_false, Bool.not_false], h2⟩
  case ncmpP neg x =>
    obtain ⟨v, h1, h2⟩ := evX_of h
    obtain ⟨b, h3, h4⟩ := oA_of h2
    cases neg <;> exact ⟨_, by simp only [evalOp, h1, Option.bind_some, h3, if_true, Bool.false_eq_true, if_false], h4⟩
  case aeq neg sh x y =>
    obtain ⟨v, h1, h2⟩ := evX_of h
    obtain ⟨w, h3, h4⟩ := evX_of h2
    cases v <;> try exact h4.elim
    cases w <;> try exact h4.elim
    obtain ⟨r, h5, h6⟩ := h4
    cases neg <;> exact ⟨_, by simp only [evalOp, h1, h3, Option.bind_some, h5, if_true, Bool.false_eq_true, if_false], h6⟩
  case un op x =>
    obtain ⟨v, h1, h2⟩ := evX_of h
    obtain ⟨r, h3, h4⟩ := oA_of h2
    exact ⟨_, by simp only [evalOp, h1, Option.bind_some, h3], h4⟩
  case conv kd x =>
    obtain ⟨v, h1, h2⟩ := evX_of h
    cases v <;> try exact h2.elim
    exact ⟨_, by simp only [evalOp, h1, Option.bind_some], rng.out h2⟩
  case convS x =>
    obtain ⟨v, h1, h2⟩ := evX_of h
    cases v <;> try exact h2.elim
    exact ⟨_, by simp only [evalOp, h1, Option.bind_some], h2⟩
  case bytesS x =>
    obtain ⟨v, h1, ys, l, h2, h3, h4⟩ := evX_of h
    exact ⟨_, by simp only [evalOp, h1, h2, h3, Option.bind_some], h4⟩
  case ext e xs =>
    obtain ⟨vs, h1, h2⟩ := evXs_of h
    obtain ⟨r, h3, h4⟩ := oA_of h2
    exact ⟨_, by simp only [evalOp, h1, Option.bind_some, h3], h4⟩
  case build zs ps =>
    obtain ⟨vs, h1, cs, h2, h3, h4⟩ := evX3_of h
    exact ⟨_, by simp only [evalOp, h1, Option.bind_some, h2, h3, if_true], h4⟩
  case bslice T sz n zs ps =>
    obtain ⟨vs, h1, l, h2, h3, h4⟩ := evX2_of h
    cases n with
    | zero => exact ⟨_, by simp only [evalOp, h1, Option.bind_some, h2, h3, if_true], h4⟩
    | succ n => exact ⟨_, by simp only [evalOp, h1, Option.bind_some, h2, h3, if_true, Nat.add_eq_zero_iff, Nat.one_ne_zero, and_false, if_false], h4⟩
  case bsliceO T sz n zs ps =>
    obtain ⟨vs, h1, l, h2, h3, h4⟩ := evX2_of h
    exact ⟨_, by simp only [evalOp, h1, Option.bind_some, h2, h3, if_true], h4⟩
  case slice kk x lo hi =>
    obtain ⟨v, h1, h2⟩ := evX_of h
    obtain ⟨n, h3, h4⟩ := oA_of h2
    obtain ⟨p, h5, h6⟩ := evXO_of h4
    obtain ⟨q, h7, h8, h9⟩ := evXO_of h6
    cases v <;> try exact h9.elim
    · exact ⟨_, by simp only [evalOp, h1, Option.bind_some, sliceA, h3, h5, h7, if_pos h8, cutA], h9⟩
    · exact ⟨_, by simp only [evalOp, h1, Option.bind_some, sliceA, h3, h5, h7, if_pos h8, cutA, if_pos h9.1], h9.2⟩
    · exact ⟨_, by simp only [evalOp, h1, Option.bind_some, sliceA, h3, h5, h7, if_pos h8, cutA], h9⟩
    · exact ⟨_, by simp only [evalOp, h1, Option.bind_some, sliceA, h3, h5, h7, if_pos h8, cutA, if_pos h9.1], h9.2⟩
  case mks T sz bytes zs n =>
    obtain ⟨v, h1, h2⟩ := evX_of h
    cases v <;> try exact h2.elim
    exact ⟨_, by simp only [evalOp, h1, Option.bind_some, if_pos h2.1], h2.2⟩
  case len str x =>
    obtain ⟨v, h1, h2⟩ := evX_of h
    obtain ⟨n, h3, h4⟩ := oA_of h2
    exact ⟨_, by simp only [evalOp, h1, Option.bind_some, h3], h4⟩
  case append T str sz bytes x y =>
    obtain ⟨v, h1, h2⟩ := evX_of h
    obtain ⟨z, h3, h4⟩ := evX_of h2
    cases v <;> try exact h4.elim
    · obtain ⟨ys, h5, h6, h7, h8⟩ := h4
      by_cases he : ys = []
      · exact ⟨_, by simp only [evalOp, h1, h3, Option.bind_some, h5, if_pos he], h7 he⟩
      · exact ⟨_, by simp only [evalOp, h1, h3, Option.bind_some, h5, if_neg he, if_pos h6], h8 he⟩
    · obtain ⟨xs, ys, h5, h6, h7, h8, h9, h10, h11⟩ := h4
      exact ⟨_, by simp only [evalOp, h1, h3, Option.bind_some, h5, h6, if_pos (And.intro h7 (And.intro h8 (And.intro h9 h10)))], h11⟩
    · obtain ⟨ys, h5, h6, h7, h8⟩ := h4
      by_cases he : ys = []
      · exact ⟨_, by simp only [evalOp, h1, h3, Option.bind_some, h5, if_pos he], h7 he⟩
      · exact ⟨_, by simp only [evalOp, h1, h3, Option.bind_some, h5, if_neg he, if_pos h6], h8 he⟩
  case mm mx xs =>
    obtain ⟨vs, h1, h2⟩ := evXs_of h
    obtain ⟨r, h3, h4⟩ := oA_of h2
    exact ⟨_, by simp only [evalOp, h1, Option.bind_some, h3], h4⟩
  case extr x i =>
    obtain ⟨v, h1, h2⟩ := evX_of h
    cases v <;> try exact h2.elim
    obtain ⟨r, h3, h4⟩ := oA_of h2
    exact ⟨_, by simp only [evalOp, h1, Option.bind_some, h3], h4⟩
  case call f xs =>
    obtain ⟨vs, h1, h2⟩ := evXs_of h
    exact ⟨_, by simp only [evalOp, h1, Option.bind_some], h2⟩
  case callv g xs =>
    obtain ⟨c, h1, h2⟩ := evX_of h
    obtain ⟨vs, h3, h4⟩ := evXs_of h2
    cases c <;> try exact h4.elim
    exact ⟨_, by simp only [evalOp, h1, h3, Option.bind_some], h4⟩
  case mkfn f us xs =>
    obtain ⟨vs, h1, h2⟩ := evXs_of h
    obtain ⟨vs2, h3, h4⟩ := evXs_of h2
    exact ⟨_, by simp only [evalOp, h1, h3, Option.bind_some], h4⟩
  case idu x =>
    obtain ⟨v, h1, h2⟩ := evX_of h
    cases v <;> try exact h2.elim
    · obtain ⟨l, h3, h4, h5, h6⟩ := h2
      exact ⟨_, by simp [evalOp, h1, h3, h4, h5], h6⟩
    · exact ⟨_, by simp only [evalOp, h1, Option.bind_some], h2⟩
  case idf als x =>
    obtain ⟨v, h1, h2⟩ := evX_of h
    cases v <;> try exact h2.elim
    · obtain ⟨l, h3, u, h4, h5, h6, h9⟩ := h2
      subst h4
      exact ⟨_, by simp only [evalOp, h1, Option.bind_some, h3]; exact if_pos ⟨by trivial, h5.1, h5.2, h6⟩, h9⟩
    · exact ⟨_, by simp only [evalOp, h1, Option.bind_some], h2⟩
  case peq neg x y =>
    obtain ⟨v, h1, h2⟩ := evX_of h
    obtain ⟨w, h3, h4⟩ := evX_of h2
    cases v <;> try exact h4.elim
    cases w <;> try exact h4.elim
    exact ⟨_, by simp only [evalOp, h1, h3, Option.bind_some, if_pos h4.1], h4.2⟩
  case sdata x =>
    obtain ⟨v, h1, h2⟩ := evX_of h
    cases v <;> try exact h2.elim
    · exact ⟨_, by simp only [evalOp, h1, Option.bind_some], h2⟩
    · exact ⟨_, by simp only [evalOp, h1, Option.bind_some, if_pos h2.1], h2.2⟩
  case ustr u x n =>
    obtain ⟨v, h1, h2⟩ := evX_of h
    obtain ⟨w, h3, h4⟩ := evX_of h2
    cases v <;> try exact h4.elim
    · cases w <;> try exact h4.elim
      rename_i kd q
      cases kd <;> try exact h4.elim
      obtain ⟨l, b, h5, h6, h7, h8, h9, h10, h11, h12, h13, h14⟩ := h4
      exact ⟨_, by subst h8; subst h9; simp [evalOp, h1, h3, h5, h6, h7, h10, h11, h12, h13], h14⟩
    · cases w <;> try exact h4.elim
      rename_i kd q
      cases kd <;> try exact h4.elim
      exact ⟨_, by simp only [evalOp, h1, h3, Option.bind_some, if_pos h4.1], h4.2⟩
  case nilck x =>
    obtain ⟨v, h1, h2⟩ := evX_of h
    cases v <;> first | exact h2.elim | exact ⟨_, by simp only [evalOp, h1, Option.bind_some], h2⟩

end Go.Proofs.Ytmjdkeonjflanaa
