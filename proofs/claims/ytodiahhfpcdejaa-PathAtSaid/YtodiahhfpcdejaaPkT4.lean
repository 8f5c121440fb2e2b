/- Texts of this proof, one behind the other: CodeV, CodeF, CodeP, SimShape, SimRow, SimLib, SimFast. -/
import Derived.Test.YtodiahhfpcdejaaPkT3
import Derived.KernelRfl
import Derived.ChangeArms
import Derived.OpenShut
import Derived.SizedLaws
import Derived.DataReads
import Derived.Below
import Derived.Carry
import Derived.WalkKit
import Derived.ProofKit
import Derived.ShutString
import Derived.ChangeOld
/- Each function's translation is, by reckoning, the abstract code that is written out here; its contract follows from the predicate transformer over that code. -/
namespace Go.Proofs.Ytodiahhfpcdejaa
set_option autoImplicit false
set_option maxRecDepth 100000
def broadsheetref08_Much.n : Nat := 10
noncomputable def broadsheetref08_Much.c : C := (.seq (.reg [⟨(some 2), none, (.box 26 (.t 0))⟩, ⟨(some 4), none, (.mv (.c (.bool false)))⟩]) (.seq (.seq (.reg [⟨(some 7), none, (.mv (.t 1))⟩, ⟨(some 8), none, (.bin .gtr (.t 7) (.c (.int .i64 40)))⟩, ⟨(some 9), none, (.mv (.t 8))⟩, ⟨(some 10), (some (9, false)), (.faddr 3 (.t 2))⟩, ⟨(some 11), (some (9, false)), (.load none (.t 10))⟩, ⟨(some 12), (some (9, false)), (.len false (.t 11))⟩, ⟨(some 13), (some (9, false)), (.bin .gtr (.t 12) (.c (.int .i64 300)))⟩, ⟨(some 14), none, (.pick (.t 9) (.c (.bool true)) (.t 13))⟩, ⟨(some 15), none, (.mv (.t 14))⟩, ⟨(some 16), (some (15, false)), (.faddr 2 (.t 2))⟩, ⟨(some 17), (some (15, false)), (.load none (.t 16))⟩, ⟨(some 18), (some (15, false)), (.len true (.t 17))⟩, ⟨(some 19), (some (15, false)), (.bin .gtr (.t 18) (.c (.int .i64 1000)))⟩, ⟨(some 20), none, (.pick (.t 15) (.c (.bool true)) (.t 19))⟩]) (.cond (.t 20) (.seq (.reg [⟨(some 4), none, (.mv (.c (.bool true)))⟩]) .ret) .skip)) (.seq (.reg [⟨(some 5), none, (.mv (.c (.int .i64 0)))⟩]) (.seq (.seq (.reg [⟨(some 6), none, (.mv (.c (.int .i64 0)))⟩]) (.block 0 (.loop (.seq (.seq (.reg [⟨(some 21), none, (.mv (.t 6))⟩, ⟨(some 22), none, (.faddr 3 (.t 2))⟩, ⟨(some 23), none, (.load none (.t 22))⟩, ⟨(some 24), none, (.len false (.t 23))⟩, ⟨(some 25), none, (.bin .lss (.t 21) (.t 24))⟩]) (.cond (.t 25) .skip (.exit 0))) (.seq (.block 1 (.seq (.seq (.dreg [⟨(some 28), none, (.faddr 3 (.t 2))⟩, ⟨(some 29), none, (.load none (.t 28))⟩, ⟨(some 30), none, (.mv (.t 6))⟩, ⟨(some 31), none, (.iaddr 4 (.t 29) (.t 30))⟩, ⟨(some 32), none, (.load (some 4) (.t 31))⟩, ⟨(some 33), none, (.mv (.t 1))⟩, ⟨(some 34), none, (.bin .add (.t 33) (.c (.int .i64 1)))⟩, ⟨(some 35), none, (.faddr 3 (.t 2))⟩, ⟨(some 36), none, (.load none (.t 35))⟩, ⟨(some 37), none, (.len false (.t 36))⟩, ⟨(some 38), none, (.bin .quo (.t 37) (.c (.int .i64 4)))⟩, ⟨(some 39), none, (.bin .add (.t 34) (.t 38))⟩] [⟨(some 40), none, (.call 10 [(.t 32), (.t 39)])⟩]) (.cond (.t 40) (.seq (.reg [⟨(some 4), none, (.mv (.c (.bool true)))⟩]) .ret) .skip)) (.reg [⟨(some 41), none, (.mv (.t 5))⟩, ⟨(some 42), none, (.faddr 3 (.t 2))⟩, ⟨(some 43), none, (.load none (.t 42))⟩, ⟨(some 44), none, (.mv (.t 6))⟩, ⟨(some 45), none, (.iaddr 4 (.t 43) (.t 44))⟩, ⟨(some 46), none, (.load (some 4) (.t 45))⟩, ⟨(some 47), none, (.call 35 [(.t 46)])⟩, ⟨(some 48), none, (.bin .add (.t 41) (.t 47))⟩, ⟨(some 49), none, (.mm false [(.t 48), (.c (.int .i64 100000))])⟩, ⟨(some 5), none, (.mv (.t 49))⟩]))) (.reg [⟨(some 26), none, (.mv (.t 6))⟩, ⟨(some 27), none, (.bin .add (.t 26) (.c (.int .i64 1)))⟩, ⟨(some 6), none, (.mv (.t 27))⟩])))))) (.seq (.reg [⟨(some 50), none, (.mv (.t 5))⟩, ⟨(some 51), none, (.bin .gtr (.t 50) (.c (.int .i64 10000)))⟩, ⟨(some 4), none, (.mv (.t 51))⟩]) .ret)))))
theorem broadsheetref08_Much.code : comp PG [] (Try.f10.body.getD .skip) = broadsheetref08_Much.c := by kernel_rfl
theorem broadsheetref08_Much.of {args : List AV} {H : AH} {K : AV → AH → Prop} (hl : args.length = 2) (h : wpA PG broadsheetref08_Much.c none (endA [(.t 4)] K) (initFr args) H) : ACalls PG 10 args H K :=
  ACalls.of_code (fl := []) mixed Try.func10 (c := Try.f10.body.getD .skip) (by kernel_rfl) (by kernel_rfl) (by rw [hl]; exact of_decide_eq_true (by kernel_rfl)) (by rw [broadsheetref08_Much.code]; kernel_rfl)
    (by rw [broadsheetref08_Much.code, show compRes PG Try.f10.results.toList = [(.t 4)] from by kernel_rfl]; exact h)
def value_Deep.n : Nat := 14
noncomputable def value_Deep.c : C := (.seq (.reg [⟨(some 1), none, (.box 26 (.t 0))⟩, ⟨(some 2), none, (.mv (.c (.int .i64 0)))⟩]) (.seq (.reg [⟨(some 3), none, (.mv (.c (.int .i64 0)))⟩]) (.seq (.seq (.reg [⟨(some 6), none, (.faddr 3 (.t 1))⟩, ⟨(some 7), none, (.load none (.t 6))⟩, ⟨(some 8), none, (.len false (.t 7))⟩, ⟨(some 9), none, (.mv (.c (.int .i64 0)))⟩]) (.block 0 (.loop (.seq (.reg [⟨(some 10), none, (.bin .lss (.t 9) (.t 8))⟩]) (.seq (.cond (.t 10) .skip (.exit 0)) (.seq (.block 1 (.seq (.reg [⟨(some 11), none, (.iaddr 4 (.t 7) (.t 9))⟩, ⟨(some 12), none, (.load (some 4) (.t 11))⟩, ⟨(some 5), none, (.allc 26 [(.int .i64 0), (.int .u64 0), (.str []), .nilS])⟩, ⟨none, none, (.store 4 (.t 5) (.t 12))⟩]) (.reg [⟨(some 13), none, (.mv (.t 3))⟩, ⟨(some 14), none, (.load (some 4) (.t 5))⟩, ⟨(some 15), none, (.call 14 [(.t 14)])⟩, ⟨(some 16), none, (.mm true [(.t 13), (.t 15)])⟩, ⟨(some 3), none, (.mv (.t 16))⟩]))) (.reg [⟨(some 17), none, (.bin .add (.t 9) (.c (.int .i64 1)))⟩, ⟨(some 9), none, (.mv (.t 17))⟩]))))))) (.seq (.reg [⟨(some 18), none, (.mv (.t 3))⟩, ⟨(some 19), none, (.bin .add (.t 18) (.c (.int .i64 1)))⟩, ⟨(some 2), none, (.mv (.t 19))⟩]) .ret))))
theorem value_Deep.code : comp PG [] (Try.f14.body.getD .skip) = value_Deep.c := by kernel_rfl
theorem value_Deep.of {args : List AV} {H : AH} {K : AV → AH → Prop} (hl : args.length = 1) (h : wpA PG value_Deep.c none (endA [(.t 2)] K) (initFr args) H) : ACalls PG 14 args H K :=
  ACalls.of_code (fl := []) mixed Try.func14 (c := Try.f14.body.getD .skip) (by kernel_rfl) (by kernel_rfl) (by rw [hl]; exact of_decide_eq_true (by kernel_rfl)) (by rw [value_Deep.code]; kernel_rfl)
    (by rw [value_Deep.code, show compRes PG Try.f14.results.toList = [(.t 2)] from by kernel_rfl]; exact h)
def broadsheetref08_Same.n : Nat := 18
noncomputable def broadsheetref08_Same.c : C := (.seq (.reg [⟨(some 2), none, (.box 26 (.t 0))⟩, ⟨(some 3), none, (.box 26 (.t 1))⟩, ⟨(some 4), none, (.mv (.c (.bool false)))⟩]) (.seq (.seq (.reg [⟨(some 6), none, (.faddr 0 (.t 2))⟩, ⟨(some 7), none, (.load none (.t 6))⟩, ⟨(some 8), none, (.faddr 0 (.t 3))⟩, ⟨(some 9), none, (.load none (.t 8))⟩, ⟨(some 10), none, (.bin .neq (.t 7) (.t 9))⟩, ⟨(some 11), none, (.mv (.t 10))⟩, ⟨(some 12), (some (11, false)), (.faddr 1 (.t 2))⟩, ⟨(some 13), (some (11, false)), (.load none (.t 12))⟩, ⟨(some 14), (some (11, false)), (.faddr 1 (.t 3))⟩, ⟨(some 15), (some (11, false)), (.load none (.t 14))⟩, ⟨(some 16), (some (11, false)), (.bin .neq (.t 13) (.t 15))⟩, ⟨(some 17), none, (.pick (.t 11) (.c (.bool true)) (.t 16))⟩, ⟨(some 18), none, (.mv (.t 17))⟩, ⟨(some 19), (some (18, false)), (.faddr 2 (.t 2))⟩, ⟨(some 20), (some (18, false)), (.load none (.t 19))⟩, ⟨(some 21), (some (18, false)), (.faddr 2 (.t 3))⟩, ⟨(some 22), (some (18, false)), (.load none (.t 21))⟩, ⟨(some 23), (some (18, false)), (.bin .neq (.t 20) (.t 22))⟩, ⟨(some 24), none, (.pick (.t 18) (.c (.bool true)) (.t 23))⟩, ⟨(some 25), none, (.mv (.t 24))⟩, ⟨(some 26), (some (25, false)), (.faddr 3 (.t 2))⟩, ⟨(some 27), (some (25, false)), (.load none (.t 26))⟩, ⟨(some 28), (some (25, false)), (.len false (.t 27))⟩, ⟨(some 29), (some (25, false)), (.faddr 3 (.t 3))⟩, ⟨(some 30), (some (25, false)), (.load none (.t 29))⟩, ⟨(some 31), (some (25, false)), (.len false (.t 30))⟩, ⟨(some 32), (some (25, false)), (.bin .neq (.t 28) (.t 31))⟩, ⟨(some 33), none, (.pick (.t 25) (.c (.bool true)) (.t 32))⟩]) (.cond (.t 33) (.seq (.reg [⟨(some 4), none, (.mv (.c (.bool false)))⟩]) .ret) .skip)) (.seq (.seq (.reg [⟨(some 5), none, (.mv (.c (.int .i64 0)))⟩]) (.block 0 (.loop (.seq (.seq (.reg [⟨(some 34), none, (.mv (.t 5))⟩, ⟨(some 35), none, (.faddr 3 (.t 2))⟩, ⟨(some 36), none, (.load none (.t 35))⟩, ⟨(some 37), none, (.len false (.t 36))⟩, ⟨(some 38), none, (.bin .lss (.t 34) (.t 37))⟩]) (.cond (.t 38) .skip (.exit 0))) (.seq (.block 1 (.seq (.dreg [⟨(some 41), none, (.faddr 3 (.t 2))⟩, ⟨(some 42), none, (.load none (.t 41))⟩, ⟨(some 43), none, (.mv (.t 5))⟩, ⟨(some 44), none, (.iaddr 4 (.t 42) (.t 43))⟩, ⟨(some 45), none, (.load (some 4) (.t 44))⟩, ⟨(some 46), none, (.faddr 3 (.t 3))⟩, ⟨(some 47), none, (.load none (.t 46))⟩, ⟨(some 48), none, (.mv (.t 5))⟩, ⟨(some 49), none, (.iaddr 4 (.t 47) (.t 48))⟩, ⟨(some 50), none, (.load (some 4) (.t 49))⟩] [⟨(some 51), none, (.call 18 [(.t 45), (.t 50)])⟩, ⟨(some 52), none, (.un .not (.t 51))⟩]) (.cond (.t 52) (.seq (.reg [⟨(some 4), none, (.mv (.c (.bool false)))⟩]) .ret) .skip))) (.reg [⟨(some 39), none, (.mv (.t 5))⟩, ⟨(some 40), none, (.bin .add (.t 39) (.c (.int .i64 1)))⟩, ⟨(some 5), none, (.mv (.t 40))⟩])))))) (.seq (.reg [⟨(some 4), none, (.mv (.c (.bool true)))⟩]) .ret))))
theorem broadsheetref08_Same.code : comp PG [] (Try.f18.body.getD .skip) = broadsheetref08_Same.c := by kernel_rfl
theorem broadsheetref08_Same.of {args : List AV} {H : AH} {K : AV → AH → Prop} (hl : args.length = 2) (h : wpA PG broadsheetref08_Same.c none (endA [(.t 4)] K) (initFr args) H) : ACalls PG 18 args H K :=
  ACalls.of_code (fl := []) mixed Try.func18 (c := Try.f18.body.getD .skip) (by kernel_rfl) (by kernel_rfl) (by rw [hl]; exact of_decide_eq_true (by kernel_rfl)) (by rw [broadsheetref08_Same.code]; kernel_rfl)
    (by rw [broadsheetref08_Same.code, show compRes PG Try.f18.results.toList = [(.t 4)] from by kernel_rfl]; exact h)
def value_Great.n : Nat := 19
noncomputable def value_Great.c : C := (.seq (.reg [⟨(some 1), none, (.box 26 (.t 0))⟩, ⟨(some 2), none, (.mv (.c (.int .i64 0)))⟩]) (.seq (.reg [⟨(some 6), none, (.faddr 2 (.t 1))⟩, ⟨(some 7), none, (.load none (.t 6))⟩, ⟨(some 8), none, (.len true (.t 7))⟩, ⟨(some 9), none, (.bin .add (.c (.int .i64 1)) (.t 8))⟩, ⟨(some 3), none, (.mv (.t 9))⟩]) (.seq (.seq (.reg [⟨(some 10), none, (.faddr 3 (.t 1))⟩, ⟨(some 11), none, (.load none (.t 10))⟩, ⟨(some 12), none, (.len false (.t 11))⟩, ⟨(some 13), none, (.mv (.c (.int .i64 0)))⟩]) (.block 0 (.loop (.seq (.reg [⟨(some 14), none, (.bin .lss (.t 13) (.t 12))⟩]) (.seq (.cond (.t 14) .skip (.exit 0)) (.seq (.block 1 (.seq (.reg [⟨(some 15), none, (.iaddr 4 (.t 11) (.t 13))⟩, ⟨(some 16), none, (.load (some 4) (.t 15))⟩, ⟨(some 5), none, (.allc 26 [(.int .i64 0), (.int .u64 0), (.str []), .nilS])⟩, ⟨none, none, (.store 4 (.t 5) (.t 16))⟩]) (.reg [⟨(some 17), none, (.mv (.t 3))⟩, ⟨(some 18), none, (.load (some 4) (.t 5))⟩, ⟨(some 19), none, (.call 19 [(.t 18)])⟩, ⟨(some 20), none, (.bin .add (.t 17) (.t 19))⟩, ⟨(some 3), none, (.mv (.t 20))⟩]))) (.reg [⟨(some 21), none, (.bin .add (.t 13) (.c (.int .i64 1)))⟩, ⟨(some 13), none, (.mv (.t 21))⟩]))))))) (.seq (.reg [⟨(some 22), none, (.mv (.t 3))⟩, ⟨(some 2), none, (.mv (.t 22))⟩]) .ret))))
theorem value_Great.code : comp PG [] (Try.f19.body.getD .skip) = value_Great.c := by kernel_rfl
theorem value_Great.of {args : List AV} {H : AH} {K : AV → AH → Prop} (hl : args.length = 1) (h : wpA PG value_Great.c none (endA [(.t 2)] K) (initFr args) H) : ACalls PG 19 args H K :=
  ACalls.of_code (fl := []) mixed Try.func19 (c := Try.f19.body.getD .skip) (by kernel_rfl) (by kernel_rfl) (by rw [hl]; exact of_decide_eq_true (by kernel_rfl)) (by rw [value_Great.code]; kernel_rfl)
    (by rw [value_Great.code, show compRes PG Try.f19.results.toList = [(.t 2)] from by kernel_rfl]; exact h)
def value_Same.n : Nat := 27
noncomputable def value_Same.c : C := (.seq (.reg [⟨(some 2), none, (.box 26 (.t 0))⟩, ⟨(some 3), none, (.box 26 (.t 1))⟩, ⟨(some 4), none, (.mv (.c (.bool false)))⟩]) (.seq (.seq (.reg [⟨(some 7), none, (.faddr 0 (.t 2))⟩, ⟨(some 8), none, (.load none (.t 7))⟩, ⟨(some 9), none, (.faddr 0 (.t 3))⟩, ⟨(some 10), none, (.load none (.t 9))⟩, ⟨(some 11), none, (.bin .neq (.t 8) (.t 10))⟩, ⟨(some 12), none, (.mv (.t 11))⟩, ⟨(some 13), (some (12, false)), (.faddr 1 (.t 2))⟩, ⟨(some 14), (some (12, false)), (.load none (.t 13))⟩, ⟨(some 15), (some (12, false)), (.faddr 1 (.t 3))⟩, ⟨(some 16), (some (12, false)), (.load none (.t 15))⟩, ⟨(some 17), (some (12, false)), (.bin .neq (.t 14) (.t 16))⟩, ⟨(some 18), none, (.pick (.t 12) (.c (.bool true)) (.t 17))⟩, ⟨(some 19), none, (.mv (.t 18))⟩, ⟨(some 20), (some (19, false)), (.faddr 2 (.t 2))⟩, ⟨(some 21), (some (19, false)), (.load none (.t 20))⟩, ⟨(some 22), (some (19, false)), (.faddr 2 (.t 3))⟩, ⟨(some 23), (some (19, false)), (.load none (.t 22))⟩, ⟨(some 24), (some (19, false)), (.bin .neq (.t 21) (.t 23))⟩, ⟨(some 25), none, (.pick (.t 19) (.c (.bool true)) (.t 24))⟩, ⟨(some 26), none, (.mv (.t 25))⟩, ⟨(some 27), (some (26, false)), (.faddr 3 (.t 2))⟩, ⟨(some 28), (some (26, false)), (.load none (.t 27))⟩, ⟨(some 29), (some (26, false)), (.len false (.t 28))⟩, ⟨(some 30), (some (26, false)), (.faddr 3 (.t 3))⟩, ⟨(some 31), (some (26, false)), (.load none (.t 30))⟩, ⟨(some 32), (some (26, false)), (.len false (.t 31))⟩, ⟨(some 33), (some (26, false)), (.bin .neq (.t 29) (.t 32))⟩, ⟨(some 34), none, (.pick (.t 26) (.c (.bool true)) (.t 33))⟩]) (.cond (.t 34) (.seq (.reg [⟨(some 4), none, (.mv (.c (.bool false)))⟩]) .ret) .skip)) (.seq (.seq (.reg [⟨(some 35), none, (.faddr 3 (.t 2))⟩, ⟨(some 36), none, (.load none (.t 35))⟩, ⟨(some 37), none, (.len false (.t 36))⟩, ⟨(some 38), none, (.mv (.c (.int .i64 0)))⟩]) (.block 0 (.loop (.seq (.reg [⟨(some 39), none, (.bin .lss (.t 38) (.t 37))⟩]) (.seq (.cond (.t 39) .skip (.exit 0)) (.seq (.block 1 (.seq (.reg [⟨(some 40), none, (.mv (.t 38))⟩, ⟨(some 41), none, (.iaddr 4 (.t 36) (.t 38))⟩, ⟨(some 42), none, (.load (some 4) (.t 41))⟩, ⟨(some 6), none, (.allc 26 [(.int .i64 0), (.int .u64 0), (.str []), .nilS])⟩, ⟨(some 5), none, (.mv (.t 40))⟩, ⟨none, none, (.store 4 (.t 6) (.t 42))⟩]) (.seq (.dreg [⟨(some 43), none, (.load (some 4) (.t 6))⟩, ⟨(some 44), none, (.faddr 3 (.t 3))⟩, ⟨(some 45), none, (.load none (.t 44))⟩, ⟨(some 46), none, (.mv (.t 5))⟩, ⟨(some 47), none, (.iaddr 4 (.t 45) (.t 46))⟩, ⟨(some 48), none, (.load (some 4) (.t 47))⟩] [⟨(some 49), none, (.call 27 [(.t 43), (.t 48)])⟩, ⟨(some 50), none, (.un .not (.t 49))⟩]) (.cond (.t 50) (.seq (.reg [⟨(some 4), none, (.mv (.c (.bool false)))⟩]) .ret) .skip)))) (.reg [⟨(some 51), none, (.bin .add (.t 38) (.c (.int .i64 1)))⟩, ⟨(some 38), none, (.mv (.t 51))⟩]))))))) (.seq (.reg [⟨(some 4), none, (.mv (.c (.bool true)))⟩]) .ret))))
theorem value_Same.code : comp PG [] (Try.f27.body.getD .skip) = value_Same.c := by kernel_rfl
theorem value_Same.of {args : List AV} {H : AH} {K : AV → AH → Prop} (hl : args.length = 2) (h : wpA PG value_Same.c none (endA [(.t 4)] K) (initFr args) H) : ACalls PG 27 args H K :=
  ACalls.of_code (fl := []) mixed Try.func27 (c := Try.f27.body.getD .skip) (by kernel_rfl) (by kernel_rfl) (by rw [hl]; exact of_decide_eq_true (by kernel_rfl)) (by rw [value_Same.code]; kernel_rfl)
    (by rw [value_Same.code, show compRes PG Try.f27.results.toList = [(.t 4)] from by kernel_rfl]; exact h)
def broadsheetref08_Great.n : Nat := 35
noncomputable def broadsheetref08_Great.c : C := (.seq (.reg [⟨(some 1), none, (.box 26 (.t 0))⟩, ⟨(some 2), none, (.mv (.c (.int .i64 0)))⟩]) (.seq (.reg [⟨(some 5), none, (.faddr 2 (.t 1))⟩, ⟨(some 6), none, (.load none (.t 5))⟩, ⟨(some 7), none, (.len true (.t 6))⟩, ⟨(some 8), none, (.bin .add (.c (.int .i64 1)) (.t 7))⟩, ⟨(some 3), none, (.mv (.t 8))⟩]) (.seq (.seq (.reg [⟨(some 4), none, (.mv (.c (.int .i64 0)))⟩]) (.block 0 (.loop (.seq (.seq (.reg [⟨(some 9), none, (.mv (.t 4))⟩, ⟨(some 10), none, (.faddr 3 (.t 1))⟩, ⟨(some 11), none, (.load none (.t 10))⟩, ⟨(some 12), none, (.len false (.t 11))⟩, ⟨(some 13), none, (.bin .lss (.t 9) (.t 12))⟩]) (.cond (.t 13) .skip (.exit 0))) (.seq (.block 1 (.reg [⟨(some 16), none, (.mv (.t 3))⟩, ⟨(some 17), none, (.faddr 3 (.t 1))⟩, ⟨(some 18), none, (.load none (.t 17))⟩, ⟨(some 19), none, (.mv (.t 4))⟩, ⟨(some 20), none, (.iaddr 4 (.t 18) (.t 19))⟩, ⟨(some 21), none, (.load (some 4) (.t 20))⟩, ⟨(some 22), none, (.call 35 [(.t 21)])⟩, ⟨(some 23), none, (.bin .add (.t 16) (.t 22))⟩, ⟨(some 3), none, (.mv (.t 23))⟩])) (.reg [⟨(some 14), none, (.mv (.t 4))⟩, ⟨(some 15), none, (.bin .add (.t 14) (.c (.int .i64 1)))⟩, ⟨(some 4), none, (.mv (.t 15))⟩])))))) (.seq (.reg [⟨(some 24), none, (.mv (.t 3))⟩, ⟨(some 2), none, (.mv (.t 24))⟩]) .ret))))
theorem broadsheetref08_Great.code : comp PG [] (Try.f35.body.getD .skip) = broadsheetref08_Great.c := by kernel_rfl
theorem broadsheetref08_Great.of {args : List AV} {H : AH} {K : AV → AH → Prop} (hl : args.length = 1) (h : wpA PG broadsheetref08_Great.c none (endA [(.t 2)] K) (initFr args) H) : ACalls PG 35 args H K :=
  ACalls.of_code (fl := []) mixed Try.func35 (c := Try.f35.body.getD .skip) (by kernel_rfl) (by kernel_rfl) (by rw [hl]; exact of_decide_eq_true (by kernel_rfl)) (by rw [broadsheetref08_Great.code]; kernel_rfl)
    (by rw [broadsheetref08_Great.code, show compRes PG Try.f35.results.toList = [(.t 2)] from by kernel_rfl]; exact h)
def broadsheetref08_Hex.n : Nat := 65
noncomputable def broadsheetref08_Hex.c : C := (.seq (.reg [⟨(some 2), none, (.mv (.c (.str [])))⟩]) (.seq (.reg [⟨(some 3), none, (.mv (.t 0))⟩, ⟨(some 4), none, (.conv .i64 (.t 3))⟩, ⟨(some 5), none, (.bin .quo (.t 4) (.c (.int .i64 16)))⟩, ⟨(some 6), none, (.call 94 [(.t 5)])⟩, ⟨(some 7), none, (.mv (.t 0))⟩, ⟨(some 8), none, (.conv .i64 (.t 7))⟩, ⟨(some 9), none, (.bin .rem (.t 8) (.c (.int .i64 16)))⟩, ⟨(some 10), none, (.call 94 [(.t 9)])⟩, ⟨(some 11), none, (.bin .add (.t 6) (.t 10))⟩, ⟨(some 2), none, (.mv (.t 11))⟩]) .ret))
theorem broadsheetref08_Hex.code : comp PG [] (Try.f65.body.getD .skip) = broadsheetref08_Hex.c := by kernel_rfl
theorem broadsheetref08_Hex.of {args : List AV} {H : AH} {K : AV → AH → Prop} (hl : args.length = 1) (h : wpA PG broadsheetref08_Hex.c none (endA [(.t 2)] K) (initFr args) H) : ACalls PG 65 args H K :=
  ACalls.of_code (fl := []) mixed Try.func65 (c := Try.f65.body.getD .skip) (by kernel_rfl) (by kernel_rfl) (by rw [hl]; exact of_decide_eq_true (by kernel_rfl)) (by rw [broadsheetref08_Hex.code]; kernel_rfl)
    (by rw [broadsheetref08_Hex.code, show compRes PG Try.f65.results.toList = [(.t 2)] from by kernel_rfl]; exact h)
def broadsheetref08_figure.n : Nat := 94
noncomputable def broadsheetref08_figure.c : C := (.seq (.reg [⟨(some 2), none, (.mv (.c (.str [])))⟩]) (.seq (.seq (.reg [⟨(some 3), none, (.mv (.t 0))⟩, ⟨(some 4), none, (.bin .lss (.t 3) (.c (.int .i64 10)))⟩]) (.cond (.t 4) (.seq (.reg [⟨(some 5), none, (.mv (.t 0))⟩, ⟨(some 6), none, (.bin .add (.c (.int .i64 48)) (.t 5))⟩, ⟨(some 7), none, (.call 117 [(.t 6)])⟩, ⟨(some 2), none, (.mv (.t 7))⟩]) .ret) .skip)) (.seq (.reg [⟨(some 8), none, (.mv (.t 0))⟩, ⟨(some 9), none, (.bin .add (.c (.int .i64 97)) (.t 8))⟩, ⟨(some 10), none, (.bin .sub (.t 9) (.c (.int .i64 10)))⟩, ⟨(some 11), none, (.call 117 [(.t 10)])⟩, ⟨(some 2), none, (.mv (.t 11))⟩]) .ret)))
theorem broadsheetref08_figure.code : comp PG [] (Try.f94.body.getD .skip) = broadsheetref08_figure.c := by kernel_rfl
theorem broadsheetref08_figure.of {args : List AV} {H : AH} {K : AV → AH → Prop} (hl : args.length = 1) (h : wpA PG broadsheetref08_figure.c none (endA [(.t 2)] K) (initFr args) H) : ACalls PG 94 args H K :=
  ACalls.of_code (fl := []) mixed Try.func94 (c := Try.f94.body.getD .skip) (by kernel_rfl) (by kernel_rfl) (by rw [hl]; exact of_decide_eq_true (by kernel_rfl)) (by rw [broadsheetref08_figure.code]; kernel_rfl)
    (by rw [broadsheetref08_figure.code, show compRes PG Try.f94.results.toList = [(.t 2)] from by kernel_rfl]; exact h)
end Go.Proofs.Ytodiahhfpcdejaa

/- Each function's translation is, by reckoning, the abstract code that is written out here; its contract follows from the predicate transformer over that code. -/
namespace Go.Proofs.Ytodiahhfpcdejaa
set_option autoImplicit false
set_option maxRecDepth 100000
def broadsheetlaw09_FitsTells.n : Nat := 3
noncomputable def broadsheetlaw09_FitsTells.c : C := (.seq (.reg [⟨(some 5), none, (.box 26 (.t 2))⟩, ⟨(some 6), none, (.mv (.c (.bool false)))⟩]) (.seq (.seq (.reg [⟨(some 7), none, (.mv (.t 0))⟩, ⟨(some 8), none, (.call 9 [(.t 7)])⟩, ⟨(some 9), none, (.mv (.t 8))⟩, ⟨(some 10), (some (9, false)), (.load (some 4) (.t 5))⟩, ⟨(some 11), (some (9, false)), (.call 10 [(.t 10), (.c (.int .i64 0))])⟩, ⟨(some 12), none, (.pick (.t 9) (.c (.bool true)) (.t 11))⟩]) (.cond (.t 12) (.seq (.reg [⟨(some 13), none, (.call 11 [])⟩, ⟨(some 6), none, (.mv (.t 13))⟩]) .ret) .skip)) (.seq (.dreg [⟨(some 14), none, (.mv (.t 0))⟩, ⟨(some 15), none, (.mv (.t 1))⟩, ⟨(some 16), none, (.load (some 4) (.t 5))⟩, ⟨(some 17), none, (.call 12 [(.t 14), (.t 15), (.t 16)])⟩, ⟨(some 18), none, (.mv (.t 0))⟩, ⟨(some 19), none, (.mv (.t 1))⟩, ⟨(some 20), none, (.load (some 4) (.t 5))⟩] [⟨(some 21), none, (.call 13 [(.t 18), (.t 19), (.t 20)])⟩, ⟨(some 22), none, (.bin .eql (.t 17) (.t 21))⟩, ⟨(some 23), none, (.mv (.t 22))⟩, ⟨(some 24), (some (23, true)), (.call 11 [])⟩, ⟨(some 25), none, (.pick (.t 23) (.t 24) (.c (.bool false)))⟩, ⟨(some 6), none, (.mv (.t 25))⟩]) .ret)))
theorem broadsheetlaw09_FitsTells.code : comp PG [] (Try.f3.body.getD .skip) = broadsheetlaw09_FitsTells.c := by kernel_rfl
theorem broadsheetlaw09_FitsTells.of {args : List AV} {H : AH} {K : AV → AH → Prop} (hl : args.length = 3) (h : wpA PG broadsheetlaw09_FitsTells.c none (endA [(.t 6)] K) (initFr args) H) : ACalls PG 3 args H K :=
  ACalls.of_code (fl := []) mixed Try.func3 (c := Try.f3.body.getD .skip) (by kernel_rfl) (by kernel_rfl) (by rw [hl]; exact of_decide_eq_true (by kernel_rfl)) (by rw [broadsheetlaw09_FitsTells.code]; kernel_rfl)
    (by rw [broadsheetlaw09_FitsTells.code, show compRes PG Try.f3.results.toList = [(.t 6)] from by kernel_rfl]; exact h)
def broadsheetlaw09_FitsParts.n : Nat := 4
noncomputable def broadsheetlaw09_FitsParts.c : C := (.seq (.reg [⟨(some 5), none, (.box 26 (.t 2))⟩, ⟨(some 6), none, (.mv (.c (.bool false)))⟩]) (.seq (.seq (.reg [⟨(some 11), none, (.mv (.t 0))⟩, ⟨(some 12), none, (.call 9 [(.t 11)])⟩, ⟨(some 13), none, (.mv (.t 12))⟩, ⟨(some 14), (some (13, false)), (.load (some 4) (.t 5))⟩, ⟨(some 15), (some (13, false)), (.call 10 [(.t 14), (.c (.int .i64 0))])⟩, ⟨(some 16), none, (.pick (.t 13) (.c (.bool true)) (.t 15))⟩, ⟨(some 17), none, (.mv (.t 16))⟩, ⟨(some 18), (some (17, false)), (.mv (.t 0))⟩, ⟨(some 19), (some (17, false)), (.mv (.t 1))⟩, ⟨(some 20), (some (17, false)), (.load (some 4) (.t 5))⟩, ⟨(some 21), (some (17, false)), (.call 12 [(.t 18), (.t 19), (.t 20)])⟩, ⟨(some 22), (some (17, false)), (.bin .neq (.t 21) (.c (.int .i64 0)))⟩, ⟨(some 23), none, (.pick (.t 17) (.c (.bool true)) (.t 22))⟩]) (.cond (.t 23) (.seq (.reg [⟨(some 24), none, (.call 11 [])⟩, ⟨(some 6), none, (.mv (.t 24))⟩]) .ret) .skip)) (.seq (.seq (.dreg [⟨(some 25), none, (.load (some 4) (.t 5))⟩, ⟨(some 26), none, (.call 14 [(.t 25)])⟩, ⟨(some 27), none, (.mv (.t 0))⟩, ⟨(some 28), none, (.mv (.t 1))⟩, ⟨(some 29), none, (.call 15 [(.t 27), (.t 28)])⟩, ⟨(some 30), none, (.bin .gtr (.t 26) (.t 29))⟩, ⟨(some 31), none, (.mv (.t 30))⟩, ⟨(some 32), (some (31, false)), (.faddr 0 (.t 5))⟩, ⟨(some 33), (some (31, false)), (.load none (.t 32))⟩, ⟨(some 34), (some (31, false)), (.mv (.t 0))⟩, ⟨(some 35), (some (31, false)), (.mv (.t 1))⟩, ⟨(some 36), (some (31, false)), (.iaddr 6 (.t 34) (.t 35))⟩, ⟨(some 37), (some (31, false)), (.faddr 0 (.t 36))⟩, ⟨(some 38), (some (31, false)), (.load none (.t 37))⟩] [⟨(some 39), (some (31, false)), (.bin .neq (.t 33) (.t 38))⟩, ⟨(some 40), none, (.pick (.t 31) (.c (.bool true)) (.t 39))⟩]) (.cond (.t 40) (.seq (.reg [⟨(some 6), none, (.mv (.c (.bool false)))⟩]) .ret) .skip)) (.seq (.seq (.reg [⟨(some 7), none, (.mv (.c (.int .i64 0)))⟩]) (.block 0 (.loop (.seq (.seq (.reg [⟨(some 41), none, (.mv (.t 7))⟩, ⟨(some 42), none, (.faddr 3 (.t 5))⟩, ⟨(some 43), none, (.load none (.t 42))⟩, ⟨(some 44), none, (.len false (.t 43))⟩, ⟨(some 45), none, (.bin .lss (.t 41) (.t 44))⟩]) (.cond (.t 45) .skip (.exit 0))) (.seq (.block 1 (.seq (.reg [⟨(some 48), none, (.mv (.t 0))⟩, ⟨(some 49), none, (.mv (.t 1))⟩, ⟨(some 50), none, (.iaddr 6 (.t 48) (.t 49))⟩, ⟨(some 51), none, (.faddr 3 (.t 50))⟩, ⟨(some 52), none, (.load none (.t 51))⟩, ⟨(some 8), none, (.mv (.t 52))⟩]) (.seq (.seq (.reg [⟨(some 53), none, (.faddr 0 (.t 5))⟩, ⟨(some 54), none, (.load none (.t 53))⟩, ⟨(some 55), none, (.bin .eql (.t 54) (.c (.int .i64 13)))⟩]) (.cond (.t 55) (.reg [⟨(some 56), none, (.mv (.t 0))⟩, ⟨(some 57), none, (.mv (.t 1))⟩, ⟨(some 58), none, (.iaddr 6 (.t 56) (.t 57))⟩, ⟨(some 59), none, (.faddr 5 (.t 58))⟩, ⟨(some 60), none, (.load none (.t 59))⟩, ⟨(some 61), none, (.mv (.t 7))⟩, ⟨(some 62), none, (.iaddr 5 (.t 60) (.t 61))⟩, ⟨(some 63), none, (.faddr 2 (.t 62))⟩, ⟨(some 64), none, (.load none (.t 63))⟩, ⟨(some 8), none, (.mv (.t 64))⟩]) .skip)) (.seq (.reg [⟨(some 65), none, (.faddr 0 (.t 5))⟩, ⟨(some 66), none, (.load none (.t 65))⟩, ⟨(some 67), none, (.bin .neq (.t 66) (.c (.int .i64 14)))⟩, ⟨(some 68), none, (.mv (.t 67))⟩, ⟨(some 69), (some (68, true)), (.mv (.t 0))⟩, ⟨(some 70), (some (68, true)), (.mv (.t 8))⟩, ⟨(some 71), (some (68, true)), (.faddr 3 (.t 5))⟩, ⟨(some 72), (some (68, true)), (.load none (.t 71))⟩, ⟨(some 73), (some (68, true)), (.mv (.t 7))⟩, ⟨(some 74), (some (68, true)), (.iaddr 4 (.t 72) (.t 73))⟩, ⟨(some 75), (some (68, true)), (.load (some 4) (.t 74))⟩, ⟨(some 76), (some (68, true)), (.call 12 [(.t 69), (.t 70), (.t 75)])⟩, ⟨(some 77), (some (68, true)), (.bin .neq (.t 76) (.c (.int .i64 0)))⟩, ⟨(some 78), none, (.pick (.t 68) (.t 77) (.c (.bool false)))⟩]) (.cond (.t 78) (.seq (.reg [⟨(some 6), none, (.mv (.c (.bool false)))⟩]) .ret) .skip))))) (.reg [⟨(some 46), none, (.mv (.t 7))⟩, ⟨(some 47), none, (.bin .add (.t 46) (.c (.int .i64 1)))⟩, ⟨(some 7), none, (.mv (.t 47))⟩])))))) (.seq (.seq (.reg [⟨(some 79), none, (.faddr 0 (.t 5))⟩, ⟨(some 80), none, (.load none (.t 79))⟩, ⟨(some 81), none, (.bin .neq (.t 80) (.c (.int .i64 12)))⟩, ⟨(some 82), none, (.mv (.t 81))⟩, ⟨(some 83), (some (82, true)), (.faddr 0 (.t 5))⟩, ⟨(some 84), (some (82, true)), (.load none (.t 83))⟩, ⟨(some 85), (some (82, true)), (.bin .neq (.t 84) (.c (.int .i64 13)))⟩, ⟨(some 86), none, (.pick (.t 82) (.t 85) (.c (.bool false)))⟩]) (.cond (.t 86) (.seq (.reg [⟨(some 87), none, (.call 11 [])⟩, ⟨(some 6), none, (.mv (.t 87))⟩]) .ret) .skip)) (.seq (.dreg [⟨(some 88), none, (.load (some 4) (.t 5))⟩, ⟨(some 89), none, (.load (some 4) (.t 5))⟩, ⟨(some 9), none, (.allc 26 [(.int .i64 0), (.int .u64 0), (.str []), .nilS])⟩, ⟨(some 10), none, (.allc 26 [(.int .i64 0), (.int .u64 0), (.str []), .nilS])⟩, ⟨none, none, (.store 4 (.t 9) (.t 88))⟩] [⟨none, none, (.store 4 (.t 10) (.t 89))⟩]) (.seq (.reg [⟨(some 90), none, (.faddr 3 (.t 5))⟩, ⟨(some 91), none, (.load none (.t 90))⟩, ⟨(some 92), none, (.slice (some 4) (.t 91) (some (.c (.int .i64 1))) none)⟩, ⟨(some 93), none, (.faddr 3 (.t 9))⟩, ⟨none, none, (.store 1 (.t 93) (.t 92))⟩]) (.seq (.dreg [⟨(some 94), none, (.mv (.c .emp))⟩, ⟨(some 95), none, (.faddr 3 (.t 5))⟩, ⟨(some 96), none, (.load none (.t 95))⟩, ⟨(some 97), none, (.append 26 false 4 56 (.t 94) (.t 96))⟩, ⟨(some 98), none, (.faddr 3 (.t 5))⟩, ⟨(some 99), none, (.load none (.t 98))⟩, ⟨(some 100), none, (.iaddr 4 (.t 99) (.c (.int .i64 0)))⟩, ⟨(some 101), none, (.load (some 4) (.t 100))⟩, ⟨(some 102), none, (.bslice 26 4 1 [(.int .i64 0), (.int .u64 0), (.str []), .nilS] [(0, (.t 101))])⟩] [⟨(some 103), none, (.append 26 false 4 56 (.t 97) (.t 102))⟩, ⟨(some 104), none, (.faddr 3 (.t 10))⟩, ⟨none, none, (.store 1 (.t 104) (.t 103))⟩]) (.seq (.reg [⟨(some 105), none, (.mv (.t 0))⟩, ⟨(some 106), none, (.mv (.t 1))⟩, ⟨(some 107), none, (.load (some 4) (.t 9))⟩, ⟨(some 108), none, (.call 12 [(.t 105), (.t 106), (.t 107)])⟩, ⟨(some 109), none, (.bin .eql (.t 108) (.c (.int .i64 18)))⟩, ⟨(some 110), none, (.mv (.t 109))⟩, ⟨(some 111), (some (110, true)), (.mv (.t 0))⟩, ⟨(some 112), (some (110, true)), (.mv (.t 1))⟩, ⟨(some 113), (some (110, true)), (.load (some 4) (.t 10))⟩, ⟨(some 114), (some (110, true)), (.call 12 [(.t 111), (.t 112), (.t 113)])⟩, ⟨(some 115), (some (110, true)), (.bin .eql (.t 114) (.c (.int .i64 18)))⟩, ⟨(some 116), none, (.pick (.t 110) (.t 115) (.c (.bool false)))⟩, ⟨(some 117), none, (.mv (.t 116))⟩, ⟨(some 118), (some (117, true)), (.call 11 [])⟩, ⟨(some 119), none, (.pick (.t 117) (.t 118) (.c (.bool false)))⟩, ⟨(some 6), none, (.mv (.t 119))⟩]) .ret)))))))))
theorem broadsheetlaw09_FitsParts.code : comp PG [94] (Try.f4.body.getD .skip) = broadsheetlaw09_FitsParts.c := by kernel_rfl
theorem broadsheetlaw09_FitsParts.of {args : List AV} {H : AH} {K : AV → AH → Prop} (hl : args.length = 3) (h : wpA PG broadsheetlaw09_FitsParts.c none (endA [(.t 6)] K) (initFr args) H) : ACalls PG 4 args H K :=
  ACalls.of_code (fl := [94]) mixed Try.func4 (c := Try.f4.body.getD .skip) (by kernel_rfl) (by kernel_rfl) (by rw [hl]; exact of_decide_eq_true (by kernel_rfl)) (by rw [broadsheetlaw09_FitsParts.code]; kernel_rfl)
    (by rw [broadsheetlaw09_FitsParts.code, show compRes PG Try.f4.results.toList = [(.t 6)] from by kernel_rfl]; exact h)
def broadsheetlaw09_FitsBlank.n : Nat := 5
noncomputable def broadsheetlaw09_FitsBlank.c : C := (.seq (.reg [⟨(some 4), none, (.mv (.c (.bool false)))⟩]) (.seq (.seq (.reg [⟨(some 9), none, (.mv (.t 0))⟩, ⟨(some 10), none, (.call 9 [(.t 9)])⟩]) (.cond (.t 10) (.seq (.reg [⟨(some 11), none, (.call 11 [])⟩, ⟨(some 4), none, (.mv (.t 11))⟩]) .ret) .skip)) (.seq (.reg [⟨(some 13), none, (.mv (.t 0))⟩, ⟨(some 14), none, (.mv (.t 1))⟩, ⟨(some 15), none, (.call 16 [(.t 13), (.t 14)])⟩, ⟨(some 12), none, (.mv (.t 15))⟩, ⟨(some 16), none, (.extr (.t 12) 0)⟩, ⟨(some 17), none, (.extr (.t 12) 1)⟩, ⟨(some 5), none, (.allc 26 [(.int .i64 0), (.int .u64 0), (.str []), .nilS])⟩, ⟨none, none, (.store 4 (.t 5) (.t 16))⟩, ⟨(some 6), none, (.mv (.t 17))⟩]) (.seq (.reg [⟨(some 19), none, (.mv (.t 0))⟩, ⟨(some 20), none, (.mv (.t 1))⟩, ⟨(some 21), none, (.call 17 [(.t 19), (.t 20)])⟩, ⟨(some 18), none, (.mv (.t 21))⟩, ⟨(some 22), none, (.extr (.t 18) 0)⟩, ⟨(some 23), none, (.extr (.t 18) 1)⟩, ⟨(some 7), none, (.allc 26 [(.int .i64 0), (.int .u64 0), (.str []), .nilS])⟩, ⟨none, none, (.store 4 (.t 7) (.t 22))⟩, ⟨(some 8), none, (.mv (.t 23))⟩]) (.seq (.seq (.reg [⟨(some 24), none, (.mv (.t 6))⟩, ⟨(some 25), none, (.mv (.t 8))⟩, ⟨(some 26), none, (.beq true (.t 24) (.t 25))⟩, ⟨(some 27), none, (.mv (.t 26))⟩, ⟨(some 28), (some (27, false)), (.load (some 4) (.t 5))⟩, ⟨(some 29), (some (27, false)), (.load (some 4) (.t 7))⟩, ⟨(some 30), (some (27, false)), (.call 18 [(.t 28), (.t 29)])⟩, ⟨(some 31), (some (27, false)), (.un .not (.t 30))⟩, ⟨(some 32), none, (.pick (.t 27) (.c (.bool true)) (.t 31))⟩]) (.cond (.t 32) (.seq (.reg [⟨(some 4), none, (.mv (.c (.bool false)))⟩]) .ret) .skip)) (.seq (.reg [⟨(some 33), none, (.mv (.t 6))⟩, ⟨(some 34), none, (.un .not (.t 33))⟩, ⟨(some 35), none, (.mv (.t 34))⟩, ⟨(some 36), (some (35, false)), (.mv (.t 0))⟩, ⟨(some 37), (some (35, false)), (.mv (.t 1))⟩, ⟨(some 38), (some (35, false)), (.load (some 4) (.t 5))⟩, ⟨(some 39), (some (35, false)), (.call 12 [(.t 36), (.t 37), (.t 38)])⟩, ⟨(some 40), (some (35, false)), (.bin .eql (.t 39) (.c (.int .i64 0)))⟩, ⟨(some 41), (some (35, false)), (.mv (.t 40))⟩, ⟨(some 42), (some (41, true)), (.load (some 4) (.t 5))⟩, ⟨(some 43), (some (41, true)), (.call 19 [(.t 42)])⟩, ⟨(some 44), (some (41, true)), (.bin .leq (.t 43) (.c (.int .i64 2000)))⟩, ⟨(some 45), (some (35, false)), (.pick (.t 41) (.t 44) (.c (.bool false)))⟩, ⟨(some 46), none, (.pick (.t 35) (.c (.bool true)) (.t 45))⟩, ⟨(some 47), none, (.mv (.t 46))⟩, ⟨(some 48), (some (47, true)), (.call 11 [])⟩, ⟨(some 49), none, (.pick (.t 47) (.t 48) (.c (.bool false)))⟩, ⟨(some 4), none, (.mv (.t 49))⟩]) .ret))))))
theorem broadsheetlaw09_FitsBlank.code : comp PG [] (Try.f5.body.getD .skip) = broadsheetlaw09_FitsBlank.c := by kernel_rfl
theorem broadsheetlaw09_FitsBlank.of {args : List AV} {H : AH} {K : AV → AH → Prop} (hl : args.length = 2) (h : wpA PG broadsheetlaw09_FitsBlank.c none (endA [(.t 4)] K) (initFr args) H) : ACalls PG 5 args H K :=
  ACalls.of_code (fl := []) mixed Try.func5 (c := Try.f5.body.getD .skip) (by kernel_rfl) (by kernel_rfl) (by rw [hl]; exact of_decide_eq_true (by kernel_rfl)) (by rw [broadsheetlaw09_FitsBlank.code]; kernel_rfl)
    (by rw [broadsheetlaw09_FitsBlank.code, show compRes PG Try.f5.results.toList = [(.t 4)] from by kernel_rfl]; exact h)
def broadsheetlaw09_awake.n : Nat := 11
noncomputable def broadsheetlaw09_awake.c : C := (.seq (.reg [⟨(some 0), none, (.mv (.c (.bool false)))⟩]) (.seq (.reg [⟨(some 2), none, (.build [(.str []), (.int .u64 0), (.int .i64 0), (.bool false), (.bool false)] [(0, (1, (.c (.str [97]))))])⟩, ⟨(some 3), none, (.build [(.str []), (.int .u64 0), (.int .i64 0), (.bool false), (.bool false)] [(0, (1, (.c (.str [98])))), (1, (1, (.c (.int .u64 1))))])⟩, ⟨(some 4), none, (.bslice 39 5 2 [(.str []), (.int .u64 0), (.int .i64 0), (.bool false), (.bool false)] [(0, (.t 2)), (1, (.t 3))])⟩, ⟨(some 5), none, (.build [(.int .i64 0), (.str []), (.int .i64 0), (.int .i64 0), (.int .i64 0), .nilS] [(0, (1, (.c (.int .i64 9)))), (1, (1, (.c (.str [69])))), (5, (1, (.t 4)))])⟩, ⟨(some 6), none, (.bslice 37 6 1 [(.int .i64 0), (.str []), (.int .i64 0), (.int .i64 0), (.int .i64 0), .nilS] [(0, (.t 5))])⟩, ⟨(some 1), none, (.mv (.t 6))⟩]) (.seq (.reg [⟨(some 7), none, (.mv (.t 1))⟩, ⟨(some 8), none, (.build [(.int .i64 0), (.int .u64 0), (.str []), .nilS] [(0, (1, (.c (.int .i64 9)))), (1, (1, (.c (.int .u64 2))))])⟩, ⟨(some 9), none, (.call 12 [(.t 7), (.c (.int .i64 0)), (.t 8)])⟩, ⟨(some 10), none, (.bin .eql (.t 9) (.c (.int .i64 7)))⟩, ⟨(some 11), none, (.mv (.t 10))⟩, ⟨(some 12), (some (11, true)), (.mv (.t 1))⟩, ⟨(some 13), (some (11, true)), (.build [(.int .i64 0), (.int .u64 0), (.str []), .nilS] [(0, (1, (.c (.int .i64 9)))), (1, (1, (.c (.int .u64 1))))])⟩, ⟨(some 14), (some (11, true)), (.call 12 [(.t 12), (.c (.int .i64 0)), (.t 13)])⟩, ⟨(some 15), (some (11, true)), (.bin .eql (.t 14) (.c (.int .i64 0)))⟩, ⟨(some 16), none, (.pick (.t 11) (.t 15) (.c (.bool false)))⟩, ⟨(some 0), none, (.mv (.t 16))⟩]) .ret)))
theorem broadsheetlaw09_awake.code : comp PG [] (Try.f11.body.getD .skip) = broadsheetlaw09_awake.c := by kernel_rfl
theorem broadsheetlaw09_awake.of {args : List AV} {H : AH} {K : AV → AH → Prop} (hl : args.length = 0) (h : wpA PG broadsheetlaw09_awake.c none (endA [(.t 0)] K) (initFr args) H) : ACalls PG 11 args H K :=
  ACalls.of_code (fl := []) mixed Try.func11 (c := Try.f11.body.getD .skip) (by kernel_rfl) (by kernel_rfl) (by rw [hl]; exact of_decide_eq_true (by kernel_rfl)) (by rw [broadsheetlaw09_awake.code]; kernel_rfl)
    (by rw [broadsheetlaw09_awake.code, show compRes PG Try.f11.results.toList = [(.t 0)] from by kernel_rfl]; exact h)
def fits_Fits.n : Nat := 12
noncomputable def fits_Fits.c : C := (.seq (.reg [⟨(some 5), none, (.box 26 (.t 2))⟩, ⟨(some 6), none, (.mv (.c (.int .i64 0)))⟩]) (.seq (.seq (.reg [⟨(some 7), none, (.mv (.t 0))⟩, ⟨(some 8), none, (.mv (.t 1))⟩, ⟨(some 9), none, (.call 36 [(.t 7), (.t 8)])⟩, ⟨(some 10), none, (.un .not (.t 9))⟩]) (.cond (.t 10) (.seq (.reg [⟨(some 6), none, (.mv (.c (.int .i64 8)))⟩]) .ret) .skip)) (.seq (.reg [⟨(some 11), none, (.mv (.t 0))⟩, ⟨(some 12), none, (.build [.nilS] [(0, (1, (.t 11)))])⟩, ⟨(some 13), none, (.mv (.t 1))⟩, ⟨(some 14), none, (.load (some 4) (.t 5))⟩, ⟨(some 15), none, (.call 37 [(.t 12), (.t 13), (.t 14)])⟩, ⟨(some 6), none, (.mv (.t 15))⟩]) .ret)))
theorem fits_Fits.code : comp PG [] (Try.f12.body.getD .skip) = fits_Fits.c := by kernel_rfl
theorem fits_Fits.of {args : List AV} {H : AH} {K : AV → AH → Prop} (hl : args.length = 3) (h : wpA PG fits_Fits.c none (endA [(.t 6)] K) (initFr args) H) : ACalls PG 12 args H K :=
  ACalls.of_code (fl := []) mixed Try.func12 (c := Try.f12.body.getD .skip) (by kernel_rfl) (by kernel_rfl) (by rw [hl]; exact of_decide_eq_true (by kernel_rfl)) (by rw [fits_Fits.code]; kernel_rfl)
    (by rw [fits_Fits.code, show compRes PG Try.f12.results.toList = [(.t 6)] from by kernel_rfl]; exact h)
def broadsheetref09_Fits.n : Nat := 13
noncomputable def broadsheetref09_Fits.c : C := (.seq (.reg [⟨(some 5), none, (.box 26 (.t 2))⟩, ⟨(some 6), none, (.mv (.c (.int .i64 0)))⟩]) (.seq (.seq (.reg [⟨(some 7), none, (.mv (.t 0))⟩, ⟨(some 8), none, (.call 38 [(.t 7)])⟩, ⟨(some 9), none, (.field 0 none (.t 8))⟩, ⟨(some 10), none, (.bin .neq (.t 9) (.c (.int .i64 0)))⟩, ⟨(some 11), none, (.mv (.t 10))⟩, ⟨(some 12), (some (11, false)), (.mv (.t 1))⟩, ⟨(some 13), (some (11, false)), (.bin .lss (.t 12) (.c (.int .i64 0)))⟩, ⟨(some 14), none, (.pick (.t 11) (.c (.bool true)) (.t 13))⟩, ⟨(some 15), none, (.mv (.t 14))⟩, ⟨(some 16), (some (15, false)), (.mv (.t 1))⟩, ⟨(some 17), (some (15, false)), (.mv (.t 0))⟩, ⟨(some 18), (some (15, false)), (.len false (.t 17))⟩, ⟨(some 19), (some (15, false)), (.bin .geq (.t 16) (.t 18))⟩, ⟨(some 20), none, (.pick (.t 15) (.c (.bool true)) (.t 19))⟩]) (.cond (.t 20) (.seq (.reg [⟨(some 6), none, (.mv (.c (.int .i64 8)))⟩]) .ret) .skip)) (.seq (.reg [⟨(some 21), none, (.mv (.t 0))⟩, ⟨(some 22), none, (.mv (.t 1))⟩, ⟨(some 23), none, (.load (some 4) (.t 5))⟩, ⟨(some 24), none, (.call 39 [(.t 21), (.t 22), (.t 23)])⟩, ⟨(some 6), none, (.mv (.t 24))⟩]) .ret)))
theorem broadsheetref09_Fits.code : comp PG [] (Try.f13.body.getD .skip) = broadsheetref09_Fits.c := by kernel_rfl
theorem broadsheetref09_Fits.of {args : List AV} {H : AH} {K : AV → AH → Prop} (hl : args.length = 3) (h : wpA PG broadsheetref09_Fits.c none (endA [(.t 6)] K) (initFr args) H) : ACalls PG 13 args H K :=
  ACalls.of_code (fl := []) mixed Try.func13 (c := Try.f13.body.getD .skip) (by kernel_rfl) (by kernel_rfl) (by rw [hl]; exact of_decide_eq_true (by kernel_rfl)) (by rw [broadsheetref09_Fits.code]; kernel_rfl)
    (by rw [broadsheetref09_Fits.code, show compRes PG Try.f13.results.toList = [(.t 6)] from by kernel_rfl]; exact h)
def fits_Blank.n : Nat := 16
noncomputable def fits_Blank.c : C := (.seq (.reg [⟨(some 4), none, (.allc 26 [(.int .i64 0), (.int .u64 0), (.str []), .nilS])⟩, ⟨(some 5), none, (.mv (.c (.bool false)))⟩]) (.seq (.seq (.reg [⟨(some 6), none, (.mv (.t 0))⟩, ⟨(some 7), none, (.mv (.t 1))⟩, ⟨(some 8), none, (.call 36 [(.t 6), (.t 7)])⟩, ⟨(some 9), none, (.un .not (.t 8))⟩]) (.cond (.t 9) (.seq (.reg [⟨(some 10), none, (.build [(.int .i64 0), (.int .u64 0), (.str []), .nilS] [])⟩, ⟨none, none, (.store 4 (.t 4) (.t 10))⟩, ⟨(some 5), none, (.mv (.c (.bool false)))⟩]) .ret) .skip)) (.seq (.reg [⟨(some 11), none, (.mv (.t 0))⟩, ⟨(some 12), none, (.build [.nilS] [(0, (1, (.t 11)))])⟩, ⟨(some 13), none, (.mv (.t 1))⟩, ⟨(some 14), none, (.call 41 [(.t 12), (.t 13)])⟩, ⟨(some 15), none, (.extr (.t 14) 0)⟩, ⟨(some 16), none, (.extr (.t 14) 1)⟩, ⟨none, none, (.store 4 (.t 4) (.t 15))⟩, ⟨(some 5), none, (.mv (.t 16))⟩]) .ret)))
theorem fits_Blank.code : comp PG [] (Try.f16.body.getD .skip) = fits_Blank.c := by kernel_rfl
theorem fits_Blank.of {args : List AV} {H : AH} {K : AV → AH → Prop} (hl : args.length = 2) (h : wpA PG fits_Blank.c none (endA [(.cell 4 (some 4)), (.t 5)] K) (initFr args) H) : ACalls PG 16 args H K :=
  ACalls.of_code (fl := []) mixed Try.func16 (c := Try.f16.body.getD .skip) (by kernel_rfl) (by kernel_rfl) (by rw [hl]; exact of_decide_eq_true (by kernel_rfl)) (by rw [fits_Blank.code]; kernel_rfl)
    (by rw [fits_Blank.code, show compRes PG Try.f16.results.toList = [(.cell 4 (some 4)), (.t 5)] from by kernel_rfl]; exact h)
def broadsheetref09_Blank.n : Nat := 17
noncomputable def broadsheetref09_Blank.c : C := (.seq (.reg [⟨(some 4), none, (.allc 26 [(.int .i64 0), (.int .u64 0), (.str []), .nilS])⟩, ⟨(some 5), none, (.mv (.c (.bool false)))⟩]) (.seq (.seq (.reg [⟨(some 6), none, (.mv (.t 0))⟩, ⟨(some 7), none, (.call 38 [(.t 6)])⟩, ⟨(some 8), none, (.field 0 none (.t 7))⟩, ⟨(some 9), none, (.bin .neq (.t 8) (.c (.int .i64 0)))⟩, ⟨(some 10), none, (.mv (.t 9))⟩, ⟨(some 11), (some (10, false)), (.mv (.t 1))⟩, ⟨(some 12), (some (10, false)), (.bin .lss (.t 11) (.c (.int .i64 0)))⟩, ⟨(some 13), none, (.pick (.t 10) (.c (.bool true)) (.t 12))⟩, ⟨(some 14), none, (.mv (.t 13))⟩, ⟨(some 15), (some (14, false)), (.mv (.t 1))⟩, ⟨(some 16), (some (14, false)), (.mv (.t 0))⟩, ⟨(some 17), (some (14, false)), (.len false (.t 16))⟩, ⟨(some 18), (some (14, false)), (.bin .geq (.t 15) (.t 17))⟩, ⟨(some 19), none, (.pick (.t 14) (.c (.bool true)) (.t 18))⟩, ⟨(some 20), none, (.mv (.t 19))⟩, ⟨(some 21), (some (20, false)), (.mv (.t 0))⟩, ⟨(some 22), (some (20, false)), (.mv (.t 1))⟩, ⟨(some 23), (some (20, false)), (.call 42 [(.t 21), (.t 22)])⟩, ⟨(some 24), (some (20, false)), (.mv (.t 1))⟩, ⟨(some 25), (some (20, false)), (.iaddr 1 (.t 23) (.t 24))⟩, ⟨(some 26), (some (20, false)), (.load none (.t 25))⟩, ⟨(some 27), (some (20, false)), (.bin .gtr (.t 26) (.c (.int .i64 2000)))⟩, ⟨(some 28), none, (.pick (.t 20) (.c (.bool true)) (.t 27))⟩]) (.cond (.t 28) (.seq (.reg [⟨(some 29), none, (.build [(.int .i64 0), (.int .u64 0), (.str []), .nilS] [])⟩, ⟨none, none, (.store 4 (.t 4) (.t 29))⟩, ⟨(some 5), none, (.mv (.c (.bool false)))⟩]) .ret) .skip)) (.seq (.reg [⟨(some 30), none, (.mv (.t 0))⟩, ⟨(some 31), none, (.mv (.t 1))⟩, ⟨(some 32), none, (.call 43 [(.t 30), (.t 31)])⟩, ⟨none, none, (.store 4 (.t 4) (.t 32))⟩, ⟨(some 5), none, (.mv (.c (.bool true)))⟩]) .ret)))
theorem broadsheetref09_Blank.code : comp PG [] (Try.f17.body.getD .skip) = broadsheetref09_Blank.c := by kernel_rfl
theorem broadsheetref09_Blank.of {args : List AV} {H : AH} {K : AV → AH → Prop} (hl : args.length = 2) (h : wpA PG broadsheetref09_Blank.c none (endA [(.cell 4 (some 4)), (.t 5)] K) (initFr args) H) : ACalls PG 17 args H K :=
  ACalls.of_code (fl := []) mixed Try.func17 (c := Try.f17.body.getD .skip) (by kernel_rfl) (by kernel_rfl) (by rw [hl]; exact of_decide_eq_true (by kernel_rfl)) (by rw [broadsheetref09_Blank.code]; kernel_rfl)
    (by rw [broadsheetref09_Blank.code, show compRes PG Try.f17.results.toList = [(.cell 4 (some 4)), (.t 5)] from by kernel_rfl]; exact h)
def fits_known.n : Nat := 36
noncomputable def fits_known.c : C := (.seq (.reg [⟨(some 4), none, (.mv (.c (.bool false)))⟩]) (.seq (.reg [⟨(some 5), none, (.mv (.t 1))⟩, ⟨(some 6), none, (.bin .geq (.t 5) (.c (.int .i64 0)))⟩, ⟨(some 7), none, (.mv (.t 6))⟩, ⟨(some 8), (some (7, true)), (.mv (.t 1))⟩, ⟨(some 9), (some (7, true)), (.mv (.t 0))⟩, ⟨(some 10), (some (7, true)), (.len false (.t 9))⟩, ⟨(some 11), (some (7, true)), (.bin .lss (.t 8) (.t 10))⟩, ⟨(some 12), none, (.pick (.t 7) (.t 11) (.c (.bool false)))⟩, ⟨(some 13), none, (.mv (.t 12))⟩, ⟨(some 14), (some (13, true)), (.mv (.t 0))⟩, ⟨(some 15), (some (13, true)), (.call 22 [(.t 14)])⟩, ⟨(some 16), (some (13, true)), (.field 0 none (.t 15))⟩, ⟨(some 17), (some (13, true)), (.bin .eql (.t 16) (.c (.int .i64 0)))⟩, ⟨(some 18), none, (.pick (.t 13) (.t 17) (.c (.bool false)))⟩, ⟨(some 4), none, (.mv (.t 18))⟩]) .ret))
theorem fits_known.code : comp PG [] (Try.f36.body.getD .skip) = fits_known.c := by kernel_rfl
theorem fits_known.of {args : List AV} {H : AH} {K : AV → AH → Prop} (hl : args.length = 2) (h : wpA PG fits_known.c none (endA [(.t 4)] K) (initFr args) H) : ACalls PG 36 args H K :=
  ACalls.of_code (fl := []) mixed Try.func36 (c := Try.f36.body.getD .skip) (by kernel_rfl) (by kernel_rfl) (by rw [hl]; exact of_decide_eq_true (by kernel_rfl)) (by rw [fits_known.code]; kernel_rfl)
    (by rw [fits_known.code, show compRes PG Try.f36.results.toList = [(.t 4)] from by kernel_rfl]; exact h)
def fits_asker_fits.n : Nat := 37
noncomputable def fits_asker_fits.c : C := (.seq (.reg [⟨(some 3), none, (.box 70 (.t 0))⟩, ⟨(some 5), none, (.box 26 (.t 2))⟩, ⟨(some 6), none, (.mv (.c (.int .i64 0)))⟩]) (.seq (.reg [⟨(some 8), none, (.faddr 0 (.t 3))⟩, ⟨(some 9), none, (.load none (.t 8))⟩, ⟨(some 10), none, (.mv (.t 1))⟩, ⟨(some 11), none, (.iaddr 6 (.t 9) (.t 10))⟩, ⟨(some 12), none, (.load (some 6) (.t 11))⟩, ⟨(some 7), none, (.allc 37 [(.int .i64 0), (.str []), (.int .i64 0), (.int .i64 0), (.int .i64 0), .nilS])⟩, ⟨none, none, (.store 6 (.t 7) (.t 12))⟩]) (.seq (.block 0 (.seq (.reg [⟨(some 14), none, (.faddr 0 (.t 5))⟩, ⟨(some 15), none, (.load none (.t 14))⟩, ⟨(some 16), none, (.faddr 0 (.t 7))⟩, ⟨(some 17), none, (.load none (.t 16))⟩, ⟨(some 18), none, (.bin .neq (.t 15) (.t 17))⟩, ⟨(some 13), none, (.mv (.t 18))⟩]) (.cond (.t 13) (.seq (.reg [⟨(some 6), none, (.mv (.c (.int .i64 4)))⟩]) .ret) (.seq (.reg [⟨(some 20), none, (.load (some 4) (.t 5))⟩, ⟨(some 21), none, (.call 66 [(.t 20)])⟩, ⟨(some 22), none, (.un .not (.t 21))⟩, ⟨(some 23), none, (.mv (.t 22))⟩, ⟨(some 24), (some (23, false)), (.load (some 4) (.t 5))⟩, ⟨(some 25), (some (23, false)), (.call 67 [(.t 24)])⟩, ⟨(some 26), (some (23, false)), (.un .not (.t 25))⟩, ⟨(some 27), none, (.pick (.t 23) (.c (.bool true)) (.t 26))⟩, ⟨(some 19), none, (.mv (.t 27))⟩]) (.cond (.t 19) (.seq (.reg [⟨(some 6), none, (.mv (.c (.int .i64 1)))⟩]) .ret) (.seq (.reg [⟨(some 29), none, (.faddr 0 (.t 7))⟩, ⟨(some 30), none, (.load none (.t 29))⟩, ⟨(some 31), none, (.call 68 [(.t 30)])⟩, ⟨(some 28), none, (.mv (.t 31))⟩]) (.cond (.t 28) (.seq (.seq (.reg [⟨(some 32), none, (.load (some 1) (.t 3))⟩, ⟨(some 33), none, (.mv (.t 1))⟩, ⟨(some 34), none, (.faddr 1 (.t 5))⟩, ⟨(some 35), none, (.load none (.t 34))⟩, ⟨(some 36), none, (.call 69 [(.t 32), (.t 33), (.t 35)])⟩, ⟨(some 37), none, (.un .not (.t 36))⟩]) (.cond (.t 37) (.seq (.reg [⟨(some 6), none, (.mv (.c (.int .i64 7)))⟩]) .ret) .skip)) (.seq (.reg [⟨(some 6), none, (.mv (.c (.int .i64 0)))⟩]) .ret)) (.seq (.reg [⟨(some 39), none, (.faddr 0 (.t 7))⟩, ⟨(some 40), none, (.load none (.t 39))⟩, ⟨(some 41), none, (.bin .eql (.t 40) (.c (.int .i64 10)))⟩, ⟨(some 38), none, (.mv (.t 41))⟩]) (.cond (.t 38) (.seq (.reg [⟨(some 42), none, (.faddr 2 (.t 5))⟩, ⟨(some 43), none, (.load none (.t 42))⟩, ⟨(some 44), none, (.faddr 2 (.t 7))⟩, ⟨(some 45), none, (.load none (.t 44))⟩, ⟨(some 46), none, (.call 70 [(.t 43), (.t 45)])⟩, ⟨(some 6), none, (.mv (.t 46))⟩]) .ret) (.seq (.reg [⟨(some 48), none, (.faddr 0 (.t 7))⟩, ⟨(some 49), none, (.load none (.t 48))⟩, ⟨(some 50), none, (.bin .eql (.t 49) (.c (.int .i64 11)))⟩, ⟨(some 51), none, (.mv (.t 50))⟩, ⟨(some 52), (some (51, true)), (.faddr 3 (.t 5))⟩, ⟨(some 53), (some (51, true)), (.load none (.t 52))⟩, ⟨(some 54), (some (51, true)), (.len false (.t 53))⟩, ⟨(some 55), (some (51, true)), (.faddr 2 (.t 7))⟩, ⟨(some 56), (some (51, true)), (.load none (.t 55))⟩, ⟨(some 57), (some (51, true)), (.bin .gtr (.t 54) (.t 56))⟩, ⟨(some 58), none, (.pick (.t 51) (.t 57) (.c (.bool false)))⟩, ⟨(some 47), none, (.mv (.t 58))⟩]) (.cond (.t 47) (.seq (.reg [⟨(some 6), none, (.mv (.c (.int .i64 3)))⟩]) .ret) (.seq (.reg [⟨(some 60), none, (.faddr 0 (.t 7))⟩, ⟨(some 61), none, (.load none (.t 60))⟩, ⟨(some 62), none, (.bin .eql (.t 61) (.c (.int .i64 11)))⟩, ⟨(some 59), none, (.mv (.t 62))⟩]) (.cond (.t 59) (.seq (.reg [⟨(some 63), none, (.load (some 1) (.t 3))⟩, ⟨(some 64), none, (.load (some 4) (.t 5))⟩, ⟨(some 65), none, (.faddr 3 (.t 5))⟩, ⟨(some 66), none, (.load none (.t 65))⟩, ⟨(some 67), none, (.len false (.t 66))⟩, ⟨(some 68), none, (.mkfn 72 [] [(.t 7)])⟩, ⟨(some 69), none, (.call 71 [(.t 63), (.t 64), (.t 67), (.t 68)])⟩, ⟨(some 6), none, (.mv (.t 69))⟩]) .ret) (.seq (.reg [⟨(some 71), none, (.faddr 0 (.t 7))⟩, ⟨(some 72), none, (.load none (.t 71))⟩, ⟨(some 73), none, (.bin .eql (.t 72) (.c (.int .i64 12)))⟩, ⟨(some 70), none, (.mv (.t 73))⟩]) (.cond (.t 70) (.seq (.reg [⟨(some 74), none, (.load (some 1) (.t 3))⟩, ⟨(some 75), none, (.load (some 4) (.t 5))⟩, ⟨(some 76), none, (.faddr 2 (.t 7))⟩, ⟨(some 77), none, (.load none (.t 76))⟩, ⟨(some 78), none, (.mkfn 73 [] [(.t 7)])⟩, ⟨(some 79), none, (.call 71 [(.t 74), (.t 75), (.t 77), (.t 78)])⟩, ⟨(some 6), none, (.mv (.t 79))⟩]) .ret) (.seq (.reg [⟨(some 81), none, (.faddr 0 (.t 7))⟩, ⟨(some 82), none, (.load none (.t 81))⟩, ⟨(some 83), none, (.bin .eql (.t 82) (.c (.int .i64 13)))⟩, ⟨(some 80), none, (.mv (.t 83))⟩]) (.cond (.t 80) (.seq (.reg [⟨(some 84), none, (.load (some 1) (.t 3))⟩, ⟨(some 85), none, (.load (some 4) (.t 5))⟩, ⟨(some 86), none, (.faddr 5 (.t 7))⟩, ⟨(some 87), none, (.load none (.t 86))⟩, ⟨(some 88), none, (.len false (.t 87))⟩, ⟨(some 89), none, (.mkfn 74 [] [(.t 7)])⟩, ⟨(some 90), none, (.call 71 [(.t 84), (.t 85), (.t 88), (.t 89)])⟩, ⟨(some 6), none, (.mv (.t 90))⟩]) .ret) .skip))))))))))))))))) (.seq (.reg [⟨(some 91), none, (.load (some 1) (.t 3))⟩, ⟨(some 92), none, (.mv (.t 1))⟩, ⟨(some 93), none, (.load (some 4) (.t 5))⟩, ⟨(some 94), none, (.call 75 [(.t 91), (.t 92), (.t 93)])⟩, ⟨(some 6), none, (.mv (.t 94))⟩]) .ret))))
theorem fits_asker_fits.code : comp PG [] (Try.f37.body.getD .skip) = fits_asker_fits.c := by kernel_rfl
theorem fits_asker_fits.of {args : List AV} {H : AH} {K : AV → AH → Prop} (hl : args.length = 3) (h : wpA PG fits_asker_fits.c none (endA [(.t 6)] K) (initFr args) H) : ACalls PG 37 args H K :=
  ACalls.of_code (fl := []) mixed Try.func37 (c := Try.f37.body.getD .skip) (by kernel_rfl) (by kernel_rfl) (by rw [hl]; exact of_decide_eq_true (by kernel_rfl)) (by rw [fits_asker_fits.code]; kernel_rfl)
    (by rw [fits_asker_fits.code, show compRes PG Try.f37.results.toList = [(.t 6)] from by kernel_rfl]; exact h)
def broadsheetref09_fits.n : Nat := 39
noncomputable def broadsheetref09_fits.c : C := (.seq (.reg [⟨(some 5), none, (.box 26 (.t 2))⟩, ⟨(some 6), none, (.mv (.c (.int .i64 0)))⟩]) (.seq (.reg [⟨(some 13), none, (.mv (.t 0))⟩, ⟨(some 14), none, (.mv (.t 1))⟩, ⟨(some 15), none, (.iaddr 6 (.t 13) (.t 14))⟩, ⟨(some 16), none, (.load (some 6) (.t 15))⟩, ⟨(some 7), none, (.allc 37 [(.int .i64 0), (.str []), (.int .i64 0), (.int .i64 0), (.int .i64 0), .nilS])⟩, ⟨none, none, (.store 6 (.t 7) (.t 16))⟩]) (.seq (.seq (.reg [⟨(some 17), none, (.faddr 0 (.t 5))⟩, ⟨(some 18), none, (.load none (.t 17))⟩, ⟨(some 19), none, (.faddr 0 (.t 7))⟩, ⟨(some 20), none, (.load none (.t 19))⟩, ⟨(some 21), none, (.bin .neq (.t 18) (.t 20))⟩]) (.cond (.t 21) (.seq (.reg [⟨(some 6), none, (.mv (.c (.int .i64 4)))⟩]) .ret) .skip)) (.seq (.seq (.reg [⟨(some 22), none, (.load (some 4) (.t 5))⟩, ⟨(some 23), none, (.call 77 [(.t 22)])⟩, ⟨(some 24), none, (.un .not (.t 23))⟩]) (.cond (.t 24) (.seq (.reg [⟨(some 6), none, (.mv (.c (.int .i64 1)))⟩]) .ret) .skip)) (.seq (.seq (.reg [⟨(some 25), none, (.faddr 0 (.t 7))⟩, ⟨(some 26), none, (.load none (.t 25))⟩, ⟨(some 27), none, (.bin .leq (.t 26) (.c (.int .i64 9)))⟩, ⟨(some 28), none, (.mv (.t 27))⟩, ⟨(some 29), (some (28, true)), (.mv (.t 0))⟩, ⟨(some 30), (some (28, true)), (.mv (.t 1))⟩, ⟨(some 31), (some (28, true)), (.faddr 1 (.t 5))⟩, ⟨(some 32), (some (28, true)), (.load none (.t 31))⟩, ⟨(some 33), (some (28, true)), (.call 78 [(.t 29), (.t 30), (.t 32)])⟩, ⟨(some 34), (some (28, true)), (.un .not (.t 33))⟩, ⟨(some 35), none, (.pick (.t 28) (.t 34) (.c (.bool false)))⟩, ⟨(some 36), none, (.mv (.t 35))⟩, ⟨(some 37), (some (36, false)), (.faddr 0 (.t 7))⟩, ⟨(some 38), (some (36, false)), (.load none (.t 37))⟩, ⟨(some 39), (some (36, false)), (.bin .eql (.t 38) (.c (.int .i64 14)))⟩, ⟨(some 40), (some (36, false)), (.mv (.t 39))⟩, ⟨(some 41), (some (40, true)), (.mv (.t 0))⟩, ⟨(some 42), (some (40, true)), (.faddr 4 (.t 7))⟩, ⟨(some 43), (some (40, true)), (.load none (.t 42))⟩, ⟨(some 44), (some (40, true)), (.faddr 1 (.t 5))⟩, ⟨(some 45), (some (40, true)), (.load none (.t 44))⟩, ⟨(some 46), (some (40, true)), (.call 78 [(.t 41), (.t 43), (.t 45)])⟩, ⟨(some 47), (some (40, true)), (.un .not (.t 46))⟩, ⟨(some 48), (some (36, false)), (.pick (.t 40) (.t 47) (.c (.bool false)))⟩, ⟨(some 49), none, (.pick (.t 36) (.c (.bool true)) (.t 48))⟩]) (.cond (.t 49) (.seq (.reg [⟨(some 6), none, (.mv (.c (.int .i64 7)))⟩]) .ret) .skip)) (.seq (.seq (.reg [⟨(some 50), none, (.faddr 2 (.t 5))⟩, ⟨(some 51), none, (.load none (.t 50))⟩, ⟨(some 52), none, (.len true (.t 51))⟩, ⟨(some 53), none, (.faddr 2 (.t 7))⟩, ⟨(some 54), none, (.load none (.t 53))⟩, ⟨(some 55), none, (.bin .gtr (.t 52) (.t 54))⟩, ⟨(some 56), none, (.mv (.t 55))⟩, ⟨(some 57), (some (56, true)), (.faddr 0 (.t 7))⟩, ⟨(some 58), (some (56, true)), (.load none (.t 57))⟩, ⟨(some 59), (some (56, true)), (.bin .eql (.t 58) (.c (.int .i64 10)))⟩, ⟨(some 60), none, (.pick (.t 56) (.t 59) (.c (.bool false)))⟩]) (.cond (.t 60) (.seq (.reg [⟨(some 6), none, (.mv (.c (.int .i64 3)))⟩]) .ret) .skip)) (.seq (.seq (.reg [⟨(some 8), none, (.mv (.c (.int .i64 0)))⟩]) (.block 0 (.loop (.seq (.seq (.reg [⟨(some 61), none, (.mv (.t 8))⟩, ⟨(some 62), none, (.faddr 2 (.t 5))⟩, ⟨(some 63), none, (.load none (.t 62))⟩, ⟨(some 64), none, (.len true (.t 63))⟩, ⟨(some 65), none, (.bin .lss (.t 61) (.t 64))⟩]) (.cond (.t 65) .skip (.exit 0))) (.seq (.block 1 (.seq (.reg [⟨(some 68), none, (.faddr 2 (.t 5))⟩, ⟨(some 69), none, (.load none (.t 68))⟩, ⟨(some 70), none, (.mv (.t 8))⟩, ⟨(some 71), none, (.idx (.t 69) (.t 70))⟩, ⟨(some 72), none, (.bin .eql (.t 71) (.c (.int .u8 0)))⟩]) (.cond (.t 72) (.seq (.reg [⟨(some 6), none, (.mv (.c (.int .i64 10)))⟩]) .ret) .skip))) (.reg [⟨(some 66), none, (.mv (.t 8))⟩, ⟨(some 67), none, (.bin .add (.t 66) (.c (.int .i64 1)))⟩, ⟨(some 8), none, (.mv (.t 67))⟩])))))) (.seq (.reg [⟨(some 74), none, (.mv (.t 0))⟩, ⟨(some 75), none, (.mv (.t 1))⟩, ⟨(some 76), none, (.load (some 4) (.t 5))⟩, ⟨(some 77), none, (.call 79 [(.t 74), (.t 75), (.t 76)])⟩, ⟨(some 73), none, (.mv (.t 77))⟩, ⟨(some 78), none, (.extr (.t 73) 0)⟩, ⟨(some 79), none, (.extr (.t 73) 1)⟩, ⟨(some 9), none, (.mv (.t 78))⟩, ⟨(some 10), none, (.mv (.t 79))⟩]) (.seq (.seq (.reg [⟨(some 80), none, (.mv (.t 10))⟩, ⟨(some 81), none, (.un .not (.t 80))⟩]) (.cond (.t 81) (.seq (.reg [⟨(some 6), none, (.mv (.c (.int .i64 3)))⟩]) .ret) .skip)) (.seq (.seq (.reg [⟨(some 82), none, (.mv (.t 9))⟩, ⟨(some 83), none, (.len false (.t 82))⟩, ⟨(some 84), none, (.faddr 3 (.t 5))⟩, ⟨(some 85), none, (.load none (.t 84))⟩, ⟨(some 86), none, (.len false (.t 85))⟩, ⟨(some 87), none, (.bin .neq (.t 83) (.t 86))⟩]) (.cond (.t 87) (.seq (.reg [⟨(some 6), none, (.mv (.c (.int .i64 18)))⟩]) .ret) .skip)) (.seq (.seq (.reg [⟨(some 11), none, (.mv (.c (.int .i64 0)))⟩]) (.block 2 (.loop (.seq (.seq (.reg [⟨(some 88), none, (.mv (.t 11))⟩, ⟨(some 89), none, (.mv (.t 9))⟩, ⟨(some 90), none, (.len false (.t 89))⟩, ⟨(some 91), none, (.bin .lss (.t 88) (.t 90))⟩]) (.cond (.t 91) .skip (.exit 2))) (.seq (.block 3 (.seq (.dreg [⟨(some 94), none, (.mv (.t 0))⟩, ⟨(some 95), none, (.mv (.t 9))⟩, ⟨(some 96), none, (.mv (.t 11))⟩, ⟨(some 97), none, (.iaddr 1 (.t 95) (.t 96))⟩, ⟨(some 98), none, (.load none (.t 97))⟩, ⟨(some 99), none, (.faddr 3 (.t 5))⟩, ⟨(some 100), none, (.load none (.t 99))⟩, ⟨(some 101), none, (.mv (.t 11))⟩, ⟨(some 102), none, (.iaddr 4 (.t 100) (.t 101))⟩, ⟨(some 103), none, (.load (some 4) (.t 102))⟩] [⟨(some 104), none, (.call 39 [(.t 94), (.t 98), (.t 103)])⟩, ⟨(some 12), none, (.mv (.t 104))⟩]) (.seq (.reg [⟨(some 105), none, (.mv (.t 12))⟩, ⟨(some 106), none, (.bin .neq (.t 105) (.c (.int .i64 0)))⟩]) (.cond (.t 106) (.seq (.reg [⟨(some 107), none, (.mv (.t 12))⟩, ⟨(some 6), none, (.mv (.t 107))⟩]) .ret) .skip)))) (.reg [⟨(some 92), none, (.mv (.t 11))⟩, ⟨(some 93), none, (.bin .add (.t 92) (.c (.int .i64 1)))⟩, ⟨(some 11), none, (.mv (.t 93))⟩])))))) (.seq (.reg [⟨(some 6), none, (.mv (.c (.int .i64 0)))⟩]) .ret))))))))))))
theorem broadsheetref09_fits.code : comp PG [] (Try.f39.body.getD .skip) = broadsheetref09_fits.c := by kernel_rfl
theorem broadsheetref09_fits.of {args : List AV} {H : AH} {K : AV → AH → Prop} (hl : args.length = 3) (h : wpA PG broadsheetref09_fits.c none (endA [(.t 6)] K) (initFr args) H) : ACalls PG 39 args H K :=
  ACalls.of_code (fl := []) mixed Try.func39 (c := Try.f39.body.getD .skip) (by kernel_rfl) (by kernel_rfl) (by rw [hl]; exact of_decide_eq_true (by kernel_rfl)) (by rw [broadsheetref09_fits.code]; kernel_rfl)
    (by rw [broadsheetref09_fits.code, show compRes PG Try.f39.results.toList = [(.t 6)] from by kernel_rfl]; exact h)
def fits_asker_blank.n : Nat := 41
noncomputable def fits_asker_blank.c : C := (.seq (.reg [⟨(some 2), none, (.box 70 (.t 0))⟩, ⟨(some 4), none, (.allc 26 [(.int .i64 0), (.int .u64 0), (.str []), .nilS])⟩, ⟨(some 5), none, (.mv (.c (.bool false)))⟩]) (.seq (.reg [⟨(some 19), none, (.faddr 0 (.t 2))⟩, ⟨(some 20), none, (.load none (.t 19))⟩, ⟨(some 21), none, (.mv (.t 1))⟩, ⟨(some 22), none, (.iaddr 6 (.t 20) (.t 21))⟩, ⟨(some 23), none, (.load (some 6) (.t 22))⟩, ⟨(some 6), none, (.allc 37 [(.int .i64 0), (.str []), (.int .i64 0), (.int .i64 0), (.int .i64 0), .nilS])⟩, ⟨none, none, (.store 6 (.t 6) (.t 23))⟩]) (.seq (.reg [⟨(some 24), none, (.faddr 0 (.t 6))⟩, ⟨(some 25), none, (.load none (.t 24))⟩, ⟨(some 26), none, (.build [(.int .i64 0), (.int .u64 0), (.str []), .nilS] [(0, (1, (.t 25)))])⟩, ⟨(some 7), none, (.allc 26 [(.int .i64 0), (.int .u64 0), (.str []), .nilS])⟩, ⟨none, none, (.store 4 (.t 7) (.t 26))⟩]) (.seq (.reg [⟨(some 8), none, (.mv (.c .nilS))⟩]) (.seq (.seq (.reg [⟨(some 27), none, (.faddr 0 (.t 6))⟩, ⟨(some 28), none, (.load none (.t 27))⟩]) (.block 0 (.seq (.reg [⟨(some 30), none, (.bin .eql (.t 28) (.c (.int .i64 9)))⟩, ⟨(some 29), none, (.mv (.t 30))⟩]) (.cond (.t 29) (.reg [⟨(some 31), none, (.faddr 5 (.t 6))⟩, ⟨(some 32), none, (.load none (.t 31))⟩, ⟨(some 33), none, (.iaddr 5 (.t 32) (.c (.int .i64 0)))⟩, ⟨(some 34), none, (.faddr 1 (.t 33))⟩, ⟨(some 35), none, (.load none (.t 34))⟩, ⟨(some 36), none, (.faddr 1 (.t 7))⟩, ⟨none, none, (.store 1 (.t 36) (.t 35))⟩]) (.seq (.reg [⟨(some 38), none, (.bin .eql (.t 28) (.c (.int .i64 12)))⟩, ⟨(some 37), none, (.mv (.t 38))⟩]) (.cond (.t 37) (.seq (.reg [⟨(some 39), none, (.faddr 2 (.t 6))⟩, ⟨(some 40), none, (.load none (.t 39))⟩, ⟨(some 41), none, (.mv (.c (.int .i64 0)))⟩]) (.block 1 (.loop (.seq (.reg [⟨(some 42), none, (.bin .lss (.t 41) (.t 40))⟩]) (.seq (.cond (.t 42) .skip (.exit 1)) (.seq (.block 2 (.reg [⟨(some 43), none, (.mv (.t 8))⟩, ⟨(some 44), none, (.faddr 3 (.t 6))⟩, ⟨(some 45), none, (.load none (.t 44))⟩, ⟨(some 46), none, (.bslice 3 1 1 [(.int .i64 0)] [(0, (.t 45))])⟩, ⟨(some 47), none, (.append 3 false 1 8 (.t 43) (.t 46))⟩, ⟨(some 8), none, (.mv (.t 47))⟩])) (.reg [⟨(some 48), none, (.bin .add (.t 41) (.c (.int .i64 1)))⟩, ⟨(some 41), none, (.mv (.t 48))⟩]))))))) (.seq (.reg [⟨(some 50), none, (.bin .eql (.t 28) (.c (.int .i64 13)))⟩, ⟨(some 49), none, (.mv (.t 50))⟩]) (.cond (.t 49) (.seq (.reg [⟨(some 51), none, (.faddr 5 (.t 6))⟩, ⟨(some 52), none, (.load none (.t 51))⟩, ⟨(some 53), none, (.len false (.t 52))⟩, ⟨(some 54), none, (.mv (.c (.int .i64 0)))⟩]) (.block 3 (.loop (.seq (.reg [⟨(some 55), none, (.bin .lss (.t 54) (.t 53))⟩]) (.seq (.cond (.t 55) .skip (.exit 3)) (.seq (.block 4 (.seq (.reg [⟨(some 56), none, (.iaddr 5 (.t 52) (.t 54))⟩, ⟨(some 57), none, (.load (some 5) (.t 56))⟩, ⟨(some 10), none, (.allc 39 [(.str []), (.int .u64 0), (.int .i64 0), (.bool false), (.bool false)])⟩, ⟨none, none, (.store 5 (.t 10) (.t 57))⟩]) (.reg [⟨(some 58), none, (.mv (.t 8))⟩, ⟨(some 59), none, (.faddr 2 (.t 10))⟩, ⟨(some 60), none, (.load none (.t 59))⟩, ⟨(some 61), none, (.bslice 3 1 1 [(.int .i64 0)] [(0, (.t 60))])⟩, ⟨(some 62), none, (.append 3 false 1 8 (.t 58) (.t 61))⟩, ⟨(some 8), none, (.mv (.t 62))⟩]))) (.reg [⟨(some 63), none, (.bin .add (.t 54) (.c (.int .i64 1)))⟩, ⟨(some 54), none, (.mv (.t 63))⟩]))))))) (.seq (.reg [⟨(some 65), none, (.bin .eql (.t 28) (.c (.int .i64 14)))⟩, ⟨(some 64), none, (.mv (.t 65))⟩]) (.cond (.t 64) (.seq (.seq (.reg [⟨(some 66), none, (.faddr 0 (.t 2))⟩, ⟨(some 67), none, (.load none (.t 66))⟩, ⟨(some 68), none, (.faddr 4 (.t 6))⟩, ⟨(some 69), none, (.load none (.t 68))⟩, ⟨(some 70), none, (.iaddr 6 (.t 67) (.t 69))⟩, ⟨(some 71), none, (.load (some 6) (.t 70))⟩, ⟨(some 11), none, (.allc 37 [(.int .i64 0), (.str []), (.int .i64 0), (.int .i64 0), (.int .i64 0), .nilS])⟩, ⟨none, none, (.store 6 (.t 11) (.t 71))⟩]) (.seq (.reg [⟨(some 72), none, (.faddr 0 (.t 11))⟩, ⟨(some 73), none, (.load none (.t 72))⟩, ⟨(some 74), none, (.bin .eql (.t 73) (.c (.int .i64 9)))⟩]) (.cond (.t 74) (.reg [⟨(some 75), none, (.faddr 5 (.t 11))⟩, ⟨(some 76), none, (.load none (.t 75))⟩, ⟨(some 77), none, (.iaddr 5 (.t 76) (.c (.int .i64 0)))⟩, ⟨(some 78), none, (.faddr 1 (.t 77))⟩, ⟨(some 79), none, (.load none (.t 78))⟩, ⟨(some 80), none, (.faddr 1 (.t 7))⟩, ⟨none, none, (.store 1 (.t 80) (.t 79))⟩]) .skip))) (.seq (.reg [⟨(some 82), none, (.faddr 0 (.t 2))⟩, ⟨(some 83), none, (.load none (.t 82))⟩, ⟨(some 84), none, (.mv (.t 1))⟩, ⟨(some 85), none, (.faddr 1 (.t 7))⟩, ⟨(some 86), none, (.load none (.t 85))⟩, ⟨(some 87), none, (.call 48 [(.t 83), (.t 84), (.t 86)])⟩, ⟨(some 81), none, (.mv (.t 87))⟩, ⟨(some 88), none, (.extr (.t 81) 0)⟩, ⟨(some 89), none, (.extr (.t 81) 1)⟩, ⟨(some 12), none, (.mv (.t 88))⟩, ⟨(some 13), none, (.mv (.t 89))⟩]) (.seq (.reg [⟨(some 90), none, (.mv (.t 13))⟩]) (.cond (.t 90) (.reg [⟨(some 91), none, (.mv (.t 8))⟩, ⟨(some 92), none, (.faddr 5 (.t 6))⟩, ⟨(some 93), none, (.load none (.t 92))⟩, ⟨(some 94), none, (.mv (.t 12))⟩, ⟨(some 95), none, (.iaddr 5 (.t 93) (.t 94))⟩, ⟨(some 96), none, (.faddr 2 (.t 95))⟩, ⟨(some 97), none, (.load none (.t 96))⟩, ⟨(some 98), none, (.bslice 3 1 1 [(.int .i64 0)] [(0, (.t 97))])⟩, ⟨(some 99), none, (.append 3 false 1 8 (.t 91) (.t 98))⟩, ⟨(some 8), none, (.mv (.t 99))⟩]) .skip)))) .skip)))))))))) (.seq (.reg [⟨(some 14), none, (.mv (.c (.int .i64 1)))⟩]) (.seq (.seq (.reg [⟨(some 100), none, (.mv (.t 8))⟩, ⟨(some 101), none, (.len false (.t 100))⟩, ⟨(some 102), none, (.mv (.c (.int .i64 0)))⟩]) (.block 5 (.loop (.seq (.reg [⟨(some 103), none, (.bin .lss (.t 102) (.t 101))⟩]) (.seq (.cond (.t 103) .skip (.exit 5)) (.seq (.block 6 (.seq (.reg [⟨(some 104), none, (.iaddr 1 (.t 100) (.t 102))⟩, ⟨(some 105), none, (.load none (.t 104))⟩, ⟨(some 16), none, (.mv (.t 105))⟩]) (.seq (.reg [⟨(some 107), none, (.load (some 1) (.t 2))⟩, ⟨(some 108), none, (.mv (.t 16))⟩, ⟨(some 109), none, (.call 41 [(.t 107), (.t 108)])⟩, ⟨(some 106), none, (.mv (.t 109))⟩, ⟨(some 110), none, (.extr (.t 106) 0)⟩, ⟨(some 111), none, (.extr (.t 106) 1)⟩, ⟨(some 17), none, (.allc 26 [(.int .i64 0), (.int .u64 0), (.str []), .nilS])⟩, ⟨none, none, (.store 4 (.t 17) (.t 110))⟩, ⟨(some 18), none, (.mv (.t 111))⟩]) (.seq (.reg [⟨(some 112), none, (.mv (.t 14))⟩, ⟨(some 113), none, (.load (some 4) (.t 17))⟩, ⟨(some 114), none, (.call 19 [(.t 113)])⟩, ⟨(some 115), none, (.bin .add (.t 112) (.t 114))⟩, ⟨(some 14), none, (.mv (.t 115))⟩]) (.seq (.seq (.reg [⟨(some 116), none, (.mv (.t 18))⟩, ⟨(some 117), none, (.un .not (.t 116))⟩, ⟨(some 118), none, (.mv (.t 117))⟩, ⟨(some 119), (some (118, false)), (.mv (.t 14))⟩, ⟨(some 120), (some (118, false)), (.bin .gtr (.t 119) (.c (.int .i64 2000)))⟩, ⟨(some 121), none, (.pick (.t 118) (.c (.bool true)) (.t 120))⟩]) (.cond (.t 121) (.seq (.reg [⟨(some 122), none, (.build [(.int .i64 0), (.int .u64 0), (.str []), .nilS] [])⟩, ⟨none, none, (.store 4 (.t 4) (.t 122))⟩, ⟨(some 5), none, (.mv (.c (.bool false)))⟩]) .ret) .skip)) (.reg [⟨(some 123), none, (.faddr 3 (.t 7))⟩, ⟨(some 124), none, (.load none (.t 123))⟩, ⟨(some 125), none, (.load (some 4) (.t 17))⟩, ⟨(some 126), none, (.bslice 26 4 1 [(.int .i64 0), (.int .u64 0), (.str []), .nilS] [(0, (.t 125))])⟩, ⟨(some 127), none, (.append 26 false 4 56 (.t 124) (.t 126))⟩, ⟨(some 128), none, (.faddr 3 (.t 7))⟩, ⟨none, none, (.store 1 (.t 128) (.t 127))⟩])))))) (.reg [⟨(some 129), none, (.bin .add (.t 102) (.c (.int .i64 1)))⟩, ⟨(some 102), none, (.mv (.t 129))⟩]))))))) (.seq (.reg [⟨(some 130), none, (.load (some 4) (.t 7))⟩, ⟨none, none, (.store 4 (.t 4) (.t 130))⟩, ⟨(some 5), none, (.mv (.c (.bool true)))⟩]) .ret))))))))
theorem fits_asker_blank.code : comp PG [] (Try.f41.body.getD .skip) = fits_asker_blank.c := by kernel_rfl
theorem fits_asker_blank.of {args : List AV} {H : AH} {K : AV → AH → Prop} (hl : args.length = 2) (h : wpA PG fits_asker_blank.c none (endA [(.cell 4 (some 4)), (.t 5)] K) (initFr args) H) : ACalls PG 41 args H K :=
  ACalls.of_code (fl := []) mixed Try.func41 (c := Try.f41.body.getD .skip) (by kernel_rfl) (by kernel_rfl) (by rw [hl]; exact of_decide_eq_true (by kernel_rfl)) (by rw [fits_asker_blank.code]; kernel_rfl)
    (by rw [fits_asker_blank.code, show compRes PG Try.f41.results.toList = [(.cell 4 (some 4)), (.t 5)] from by kernel_rfl]; exact h)
def broadsheetref09_great.n : Nat := 42
noncomputable def broadsheetref09_great.c : C := (.seq (.reg [⟨(some 4), none, (.mv (.c .nilS))⟩]) (.seq (.reg [⟨(some 5), none, (.mv (.c .nilS))⟩]) (.seq (.seq (.reg [⟨(some 6), none, (.mv (.c (.int .i64 0)))⟩]) (.block 0 (.loop (.seq (.seq (.reg [⟨(some 11), none, (.mv (.t 6))⟩, ⟨(some 12), none, (.mv (.t 1))⟩, ⟨(some 13), none, (.bin .leq (.t 11) (.t 12))⟩]) (.cond (.t 13) .skip (.exit 0))) (.seq (.block 1 (.seq (.reg [⟨(some 7), none, (.mv (.c (.int .i64 1)))⟩]) (.seq (.reg [⟨(some 17), none, (.mv (.t 0))⟩, ⟨(some 18), none, (.mv (.t 6))⟩, ⟨(some 19), none, (.mv (.t 0))⟩, ⟨(some 20), none, (.mv (.t 6))⟩, ⟨(some 21), none, (.call 81 [(.t 19), (.t 20)])⟩, ⟨(some 22), none, (.call 79 [(.t 17), (.t 18), (.t 21)])⟩, ⟨(some 16), none, (.mv (.t 22))⟩, ⟨(some 23), none, (.extr (.t 16) 0)⟩, ⟨(some 24), none, (.extr (.t 16) 1)⟩, ⟨(some 8), none, (.mv (.t 23))⟩, ⟨(some 9), none, (.mv (.t 24))⟩]) (.seq (.seq (.reg [⟨(some 10), none, (.mv (.c (.int .i64 0)))⟩]) (.block 2 (.loop (.seq (.seq (.reg [⟨(some 25), none, (.mv (.t 10))⟩, ⟨(some 26), none, (.mv (.t 8))⟩, ⟨(some 27), none, (.len false (.t 26))⟩, ⟨(some 28), none, (.bin .lss (.t 25) (.t 27))⟩]) (.cond (.t 28) .skip (.exit 2))) (.seq (.block 3 (.reg [⟨(some 31), none, (.mv (.t 7))⟩, ⟨(some 32), none, (.mv (.t 5))⟩, ⟨(some 33), none, (.mv (.t 8))⟩, ⟨(some 34), none, (.mv (.t 10))⟩, ⟨(some 35), none, (.iaddr 1 (.t 33) (.t 34))⟩, ⟨(some 36), none, (.load none (.t 35))⟩, ⟨(some 37), none, (.iaddr 1 (.t 32) (.t 36))⟩, ⟨(some 38), none, (.load none (.t 37))⟩, ⟨(some 39), none, (.bin .add (.t 31) (.t 38))⟩, ⟨(some 7), none, (.mv (.t 39))⟩])) (.reg [⟨(some 29), none, (.mv (.t 10))⟩, ⟨(some 30), none, (.bin .add (.t 29) (.c (.int .i64 1)))⟩, ⟨(some 10), none, (.mv (.t 30))⟩])))))) (.seq (.seq (.reg [⟨(some 40), none, (.mv (.t 7))⟩, ⟨(some 41), none, (.bin .gtr (.t 40) (.c (.int .i64 2000)))⟩]) (.cond (.t 41) (.reg [⟨(some 7), none, (.mv (.c (.int .i64 3000)))⟩]) .skip)) (.reg [⟨(some 42), none, (.mv (.t 5))⟩, ⟨(some 43), none, (.mv (.t 7))⟩, ⟨(some 44), none, (.bslice 3 1 1 [(.int .i64 0)] [(0, (.t 43))])⟩, ⟨(some 45), none, (.append 3 false 1 8 (.t 42) (.t 44))⟩, ⟨(some 5), none, (.mv (.t 45))⟩])))))) (.reg [⟨(some 14), none, (.mv (.t 6))⟩, ⟨(some 15), none, (.bin .add (.t 14) (.c (.int .i64 1)))⟩, ⟨(some 6), none, (.mv (.t 15))⟩])))))) (.seq (.reg [⟨(some 46), none, (.mv (.t 5))⟩, ⟨(some 4), none, (.mv (.t 46))⟩]) .ret))))
theorem broadsheetref09_great.code : comp PG [] (Try.f42.body.getD .skip) = broadsheetref09_great.c := by kernel_rfl
theorem broadsheetref09_great.of {args : List AV} {H : AH} {K : AV → AH → Prop} (hl : args.length = 2) (h : wpA PG broadsheetref09_great.c none (endA [(.t 4)] K) (initFr args) H) : ACalls PG 42 args H K :=
  ACalls.of_code (fl := []) mixed Try.func42 (c := Try.f42.body.getD .skip) (by kernel_rfl) (by kernel_rfl) (by rw [hl]; exact of_decide_eq_true (by kernel_rfl)) (by rw [broadsheetref09_great.code]; kernel_rfl)
    (by rw [broadsheetref09_great.code, show compRes PG Try.f42.results.toList = [(.t 4)] from by kernel_rfl]; exact h)
def broadsheetref09_made.n : Nat := 43
noncomputable def broadsheetref09_made.c : C := (.seq (.reg [⟨(some 4), none, (.allc 26 [(.int .i64 0), (.int .u64 0), (.str []), .nilS])⟩]) (.seq (.reg [⟨(some 9), none, (.mv (.t 0))⟩, ⟨(some 10), none, (.mv (.t 1))⟩, ⟨(some 11), none, (.call 81 [(.t 9), (.t 10)])⟩, ⟨(some 5), none, (.allc 26 [(.int .i64 0), (.int .u64 0), (.str []), .nilS])⟩, ⟨none, none, (.store 4 (.t 5) (.t 11))⟩]) (.seq (.reg [⟨(some 13), none, (.mv (.t 0))⟩, ⟨(some 14), none, (.mv (.t 1))⟩, ⟨(some 15), none, (.load (some 4) (.t 5))⟩, ⟨(some 16), none, (.call 79 [(.t 13), (.t 14), (.t 15)])⟩, ⟨(some 12), none, (.mv (.t 16))⟩, ⟨(some 17), none, (.extr (.t 12) 0)⟩, ⟨(some 18), none, (.extr (.t 12) 1)⟩, ⟨(some 6), none, (.mv (.t 17))⟩, ⟨(some 7), none, (.mv (.t 18))⟩]) (.seq (.seq (.reg [⟨(some 8), none, (.mv (.c (.int .i64 0)))⟩]) (.block 0 (.loop (.seq (.seq (.reg [⟨(some 19), none, (.mv (.t 8))⟩, ⟨(some 20), none, (.mv (.t 6))⟩, ⟨(some 21), none, (.len false (.t 20))⟩, ⟨(some 22), none, (.bin .lss (.t 19) (.t 21))⟩]) (.cond (.t 22) .skip (.exit 0))) (.seq (.block 1 (.dreg [⟨(some 25), none, (.faddr 3 (.t 5))⟩, ⟨(some 26), none, (.load none (.t 25))⟩, ⟨(some 27), none, (.mv (.t 0))⟩, ⟨(some 28), none, (.mv (.t 6))⟩, ⟨(some 29), none, (.mv (.t 8))⟩, ⟨(some 30), none, (.iaddr 1 (.t 28) (.t 29))⟩, ⟨(some 31), none, (.load none (.t 30))⟩, ⟨(some 32), none, (.call 43 [(.t 27), (.t 31)])⟩, ⟨(some 33), none, (.bslice 26 4 1 [(.int .i64 0), (.int .u64 0), (.str []), .nilS] [(0, (.t 32))])⟩] [⟨(some 34), none, (.append 26 false 4 56 (.t 26) (.t 33))⟩, ⟨(some 35), none, (.faddr 3 (.t 5))⟩, ⟨none, none, (.store 1 (.t 35) (.t 34))⟩])) (.reg [⟨(some 23), none, (.mv (.t 8))⟩, ⟨(some 24), none, (.bin .add (.t 23) (.c (.int .i64 1)))⟩, ⟨(some 8), none, (.mv (.t 24))⟩])))))) (.seq (.reg [⟨(some 36), none, (.load (some 4) (.t 5))⟩, ⟨none, none, (.store 4 (.t 4) (.t 36))⟩]) .ret)))))
theorem broadsheetref09_made.code : comp PG [] (Try.f43.body.getD .skip) = broadsheetref09_made.c := by kernel_rfl
theorem broadsheetref09_made.of {args : List AV} {H : AH} {K : AV → AH → Prop} (hl : args.length = 2) (h : wpA PG broadsheetref09_made.c none (endA [(.cell 4 (some 4))] K) (initFr args) H) : ACalls PG 43 args H K :=
  ACalls.of_code (fl := []) mixed Try.func43 (c := Try.f43.body.getD .skip) (by kernel_rfl) (by kernel_rfl) (by rw [hl]; exact of_decide_eq_true (by kernel_rfl)) (by rw [broadsheetref09_made.code]; kernel_rfl)
    (by rw [broadsheetref09_made.code, show compRes PG Try.f43.results.toList = [(.cell 4 (some 4))] from by kernel_rfl]; exact h)
def fits_form.n : Nat := 66
noncomputable def fits_form.c : C := (.seq (.reg [⟨(some 1), none, (.box 26 (.t 0))⟩, ⟨(some 2), none, (.mv (.c (.bool false)))⟩]) (.seq (.dreg [⟨(some 6), none, (.faddr 0 (.t 1))⟩, ⟨(some 7), none, (.load none (.t 6))⟩, ⟨(some 8), none, (.bin .eql (.t 7) (.c (.int .i64 10)))⟩, ⟨(some 9), none, (.faddr 0 (.t 1))⟩, ⟨(some 10), none, (.load none (.t 9))⟩, ⟨(some 11), none, (.bin .gtr (.t 10) (.c (.int .i64 10)))⟩, ⟨(some 3), none, (.mv (.t 8))⟩] [⟨(some 4), none, (.mv (.t 11))⟩]) (.seq (.reg [⟨(some 12), none, (.faddr 0 (.t 1))⟩, ⟨(some 13), none, (.load none (.t 12))⟩, ⟨(some 14), none, (.call 68 [(.t 13)])⟩, ⟨(some 15), none, (.mv (.t 14))⟩, ⟨(some 16), (some (15, false)), (.faddr 0 (.t 1))⟩, ⟨(some 17), (some (15, false)), (.load none (.t 16))⟩, ⟨(some 18), (some (15, false)), (.bin .eql (.t 17) (.c (.int .i64 14)))⟩, ⟨(some 19), none, (.pick (.t 15) (.c (.bool true)) (.t 18))⟩, ⟨(some 5), none, (.mv (.t 19))⟩]) (.seq (.reg [⟨(some 20), none, (.mv (.t 5))⟩, ⟨(some 21), none, (.mv (.t 20))⟩, ⟨(some 22), (some (21, false)), (.faddr 1 (.t 1))⟩, ⟨(some 23), (some (21, false)), (.load none (.t 22))⟩, ⟨(some 24), (some (21, false)), (.bin .eql (.t 23) (.c (.int .u64 0)))⟩, ⟨(some 25), (some (21, false)), (.mv (.t 24))⟩, ⟨(some 26), (some (25, true)), (.mv (.t 3))⟩, ⟨(some 27), (some (25, true)), (.mv (.t 26))⟩, ⟨(some 28), (some (27, false)), (.faddr 2 (.t 1))⟩, ⟨(some 29), (some (27, false)), (.load none (.t 28))⟩, ⟨(some 30), (some (27, false)), (.bin .eql (.t 29) (.c (.str [])))⟩, ⟨(some 31), (some (25, true)), (.pick (.t 27) (.c (.bool true)) (.t 30))⟩, ⟨(some 32), (some (21, false)), (.pick (.t 25) (.t 31) (.c (.bool false)))⟩, ⟨(some 33), (some (21, false)), (.mv (.t 32))⟩, ⟨(some 34), (some (33, true)), (.mv (.t 4))⟩, ⟨(some 35), (some (33, true)), (.mv (.t 34))⟩, ⟨(some 36), (some (35, false)), (.faddr 3 (.t 1))⟩, ⟨(some 37), (some (35, false)), (.load none (.t 36))⟩, ⟨(some 38), (some (35, false)), (.len false (.t 37))⟩, ⟨(some 39), (some (35, false)), (.bin .eql (.t 38) (.c (.int .i64 0)))⟩, ⟨(some 40), (some (33, true)), (.pick (.t 35) (.c (.bool true)) (.t 39))⟩, ⟨(some 41), (some (21, false)), (.pick (.t 33) (.t 40) (.c (.bool false)))⟩, ⟨(some 42), none, (.pick (.t 21) (.c (.bool true)) (.t 41))⟩, ⟨(some 2), none, (.mv (.t 42))⟩]) .ret))))
theorem fits_form.code : comp PG [] (Try.f66.body.getD .skip) = fits_form.c := by kernel_rfl
theorem fits_form.of {args : List AV} {H : AH} {K : AV → AH → Prop} (hl : args.length = 1) (h : wpA PG fits_form.c none (endA [(.t 2)] K) (initFr args) H) : ACalls PG 66 args H K :=
  ACalls.of_code (fl := []) mixed Try.func66 (c := Try.f66.body.getD .skip) (by kernel_rfl) (by kernel_rfl) (by rw [hl]; exact of_decide_eq_true (by kernel_rfl)) (by rw [fits_form.code]; kernel_rfl)
    (by rw [fits_form.code, show compRes PG Try.f66.results.toList = [(.t 2)] from by kernel_rfl]; exact h)
def fits_plain.n : Nat := 67
noncomputable def fits_plain.c : C := (.seq (.reg [⟨(some 1), none, (.box 26 (.t 0))⟩, ⟨(some 2), none, (.mv (.c (.bool false)))⟩]) (.seq (.reg [⟨(some 3), none, (.faddr 2 (.t 1))⟩, ⟨(some 4), none, (.load none (.t 3))⟩, ⟨(some 5), none, (.bin .eql (.t 4) (.c (.str [])))⟩, ⟨(some 6), none, (.mv (.t 5))⟩, ⟨(some 7), (some (6, true)), (.faddr 0 (.t 1))⟩, ⟨(some 8), (some (6, true)), (.load none (.t 7))⟩, ⟨(some 9), (some (6, true)), (.bin .eql (.t 8) (.c (.int .i64 14)))⟩, ⟨(some 10), (some (6, true)), (.mv (.t 9))⟩, ⟨(some 11), (some (10, false)), (.faddr 3 (.t 1))⟩, ⟨(some 12), (some (10, false)), (.load none (.t 11))⟩, ⟨(some 13), (some (10, false)), (.len false (.t 12))⟩, ⟨(some 14), (some (10, false)), (.bin .eql (.t 13) (.c (.int .i64 0)))⟩, ⟨(some 15), (some (6, true)), (.pick (.t 10) (.c (.bool true)) (.t 14))⟩, ⟨(some 16), none, (.pick (.t 6) (.t 15) (.c (.bool false)))⟩, ⟨(some 17), none, (.mv (.t 16))⟩, ⟨(some 18), (some (17, false)), (.faddr 0 (.t 1))⟩, ⟨(some 19), (some (17, false)), (.load none (.t 18))⟩, ⟨(some 20), (some (17, false)), (.bin .eql (.t 19) (.c (.int .i64 10)))⟩, ⟨(some 21), none, (.pick (.t 17) (.c (.bool true)) (.t 20))⟩, ⟨(some 22), none, (.mv (.t 21))⟩, ⟨(some 23), (some (22, false)), (.faddr 0 (.t 1))⟩, ⟨(some 24), (some (22, false)), (.load none (.t 23))⟩, ⟨(some 25), (some (22, false)), (.bin .gtr (.t 24) (.c (.int .i64 10)))⟩, ⟨(some 26), (some (22, false)), (.mv (.t 25))⟩, ⟨(some 27), (some (26, true)), (.faddr 0 (.t 1))⟩, ⟨(some 28), (some (26, true)), (.load none (.t 27))⟩, ⟨(some 29), (some (26, true)), (.bin .neq (.t 28) (.c (.int .i64 14)))⟩, ⟨(some 30), (some (22, false)), (.pick (.t 26) (.t 29) (.c (.bool false)))⟩, ⟨(some 31), none, (.pick (.t 22) (.c (.bool true)) (.t 30))⟩, ⟨(some 2), none, (.mv (.t 31))⟩]) .ret))
theorem fits_plain.code : comp PG [] (Try.f67.body.getD .skip) = fits_plain.c := by kernel_rfl
theorem fits_plain.of {args : List AV} {H : AH} {K : AV → AH → Prop} (hl : args.length = 1) (h : wpA PG fits_plain.c none (endA [(.t 2)] K) (initFr args) H) : ACalls PG 67 args H K :=
  ACalls.of_code (fl := []) mixed Try.func67 (c := Try.f67.body.getD .skip) (by kernel_rfl) (by kernel_rfl) (by rw [hl]; exact of_decide_eq_true (by kernel_rfl)) (by rw [fits_plain.code]; kernel_rfl)
    (by rw [fits_plain.code, show compRes PG Try.f67.results.toList = [(.t 2)] from by kernel_rfl]; exact h)
def fits_asker_number.n : Nat := 69
noncomputable def fits_asker_number.c : C := (.seq (.reg [⟨(some 3), none, (.box 70 (.t 0))⟩, ⟨(some 6), none, (.mv (.c (.bool false)))⟩]) (.seq (.seq (.reg [⟨(some 9), none, (.faddr 0 (.t 3))⟩, ⟨(some 10), none, (.load none (.t 9))⟩, ⟨(some 11), none, (.mv (.t 1))⟩, ⟨(some 12), none, (.iaddr 6 (.t 10) (.t 11))⟩, ⟨(some 13), none, (.faddr 0 (.t 12))⟩, ⟨(some 14), none, (.load none (.t 13))⟩, ⟨(some 15), none, (.bin .eql (.t 14) (.c (.int .i64 9)))⟩]) (.cond (.t 15) (.seq (.reg [⟨(some 17), none, (.faddr 0 (.t 3))⟩, ⟨(some 18), none, (.load none (.t 17))⟩, ⟨(some 19), none, (.mv (.t 1))⟩, ⟨(some 20), none, (.mv (.t 2))⟩, ⟨(some 21), none, (.call 95 [(.t 18), (.t 19), (.t 20)])⟩, ⟨(some 16), none, (.mv (.t 21))⟩, ⟨(some 22), none, (.extr (.t 16) 0)⟩, ⟨(some 23), none, (.extr (.t 16) 1)⟩, ⟨(some 7), none, (.mv (.t 22))⟩, ⟨(some 8), none, (.mv (.t 23))⟩]) (.seq (.reg [⟨(some 24), none, (.mv (.t 8))⟩, ⟨(some 6), none, (.mv (.t 24))⟩]) .ret)) .skip)) (.seq (.reg [⟨(some 25), none, (.faddr 0 (.t 3))⟩, ⟨(some 26), none, (.load none (.t 25))⟩, ⟨(some 27), none, (.mv (.t 1))⟩, ⟨(some 28), none, (.iaddr 6 (.t 26) (.t 27))⟩, ⟨(some 29), none, (.faddr 0 (.t 28))⟩, ⟨(some 30), none, (.load none (.t 29))⟩, ⟨(some 31), none, (.mv (.t 2))⟩, ⟨(some 32), none, (.call 96 [(.t 30), (.t 31)])⟩, ⟨(some 6), none, (.mv (.t 32))⟩]) .ret)))
theorem fits_asker_number.code : comp PG [] (Try.f69.body.getD .skip) = fits_asker_number.c := by kernel_rfl
theorem fits_asker_number.of {args : List AV} {H : AH} {K : AV → AH → Prop} (hl : args.length = 3) (h : wpA PG fits_asker_number.c none (endA [(.t 6)] K) (initFr args) H) : ACalls PG 69 args H K :=
  ACalls.of_code (fl := []) mixed Try.func69 (c := Try.f69.body.getD .skip) (by kernel_rfl) (by kernel_rfl) (by rw [hl]; exact of_decide_eq_true (by kernel_rfl)) (by rw [fits_asker_number.code]; kernel_rfl)
    (by rw [fits_asker_number.code, show compRes PG Try.f69.results.toList = [(.t 6)] from by kernel_rfl]; exact h)
def fits_text.n : Nat := 70
noncomputable def fits_text.c : C := (.seq (.reg [⟨(some 4), none, (.mv (.c (.int .i64 0)))⟩]) (.seq (.block 0 (.seq (.reg [⟨(some 6), none, (.mv (.t 0))⟩, ⟨(some 7), none, (.len true (.t 6))⟩, ⟨(some 8), none, (.mv (.t 1))⟩, ⟨(some 9), none, (.bin .gtr (.t 7) (.t 8))⟩, ⟨(some 5), none, (.mv (.t 9))⟩]) (.cond (.t 5) (.seq (.reg [⟨(some 4), none, (.mv (.c (.int .i64 3)))⟩]) .ret) (.seq (.reg [⟨(some 11), none, (.mv (.t 0))⟩, ⟨(some 12), none, (.call 97 [(.t 11), (.c (.int .u8 0))])⟩, ⟨(some 13), none, (.bin .geq (.t 12) (.c (.int .i64 0)))⟩, ⟨(some 10), none, (.mv (.t 13))⟩]) (.cond (.t 10) (.seq (.reg [⟨(some 4), none, (.mv (.c (.int .i64 10)))⟩]) .ret) .skip))))) (.seq (.reg [⟨(some 4), none, (.mv (.c (.int .i64 0)))⟩]) .ret)))
theorem fits_text.code : comp PG [] (Try.f70.body.getD .skip) = fits_text.c := by kernel_rfl
theorem fits_text.of {args : List AV} {H : AH} {K : AV → AH → Prop} (hl : args.length = 2) (h : wpA PG fits_text.c none (endA [(.t 4)] K) (initFr args) H) : ACalls PG 70 args H K :=
  ACalls.of_code (fl := []) mixed Try.func70 (c := Try.f70.body.getD .skip) (by kernel_rfl) (by kernel_rfl) (by rw [hl]; exact of_decide_eq_true (by kernel_rfl)) (by rw [fits_text.code]; kernel_rfl)
    (by rw [fits_text.code, show compRes PG Try.f70.results.toList = [(.t 4)] from by kernel_rfl]; exact h)
def fits_asker_items.n : Nat := 71
noncomputable def fits_asker_items.c : C := (.seq (.reg [⟨(some 4), none, (.box 70 (.t 0))⟩, ⟨(some 5), none, (.box 26 (.t 1))⟩, ⟨(some 8), none, (.mv (.c (.int .i64 0)))⟩]) (.seq (.seq (.reg [⟨(some 12), none, (.faddr 3 (.t 5))⟩, ⟨(some 13), none, (.load none (.t 12))⟩, ⟨(some 14), none, (.len false (.t 13))⟩, ⟨(some 15), none, (.mv (.t 2))⟩, ⟨(some 16), none, (.bin .neq (.t 14) (.t 15))⟩]) (.cond (.t 16) (.seq (.reg [⟨(some 8), none, (.mv (.c (.int .i64 18)))⟩]) .ret) .skip)) (.seq (.seq (.reg [⟨(some 17), none, (.faddr 3 (.t 5))⟩, ⟨(some 18), none, (.load none (.t 17))⟩, ⟨(some 19), none, (.len false (.t 18))⟩, ⟨(some 20), none, (.mv (.c (.int .i64 0)))⟩]) (.block 0 (.loop (.seq (.reg [⟨(some 21), none, (.bin .lss (.t 20) (.t 19))⟩]) (.seq (.cond (.t 21) .skip (.exit 0)) (.seq (.block 1 (.seq (.reg [⟨(some 22), none, (.mv (.t 20))⟩, ⟨(some 23), none, (.iaddr 4 (.t 18) (.t 20))⟩, ⟨(some 24), none, (.load (some 4) (.t 23))⟩, ⟨(some 10), none, (.allc 26 [(.int .i64 0), (.int .u64 0), (.str []), .nilS])⟩, ⟨(some 9), none, (.mv (.t 22))⟩, ⟨none, none, (.store 4 (.t 10) (.t 24))⟩]) (.seq (.dreg [⟨(some 25), none, (.load (some 1) (.t 4))⟩, ⟨(some 26), none, (.mv (.t 3))⟩, ⟨(some 27), none, (.mv (.t 9))⟩, ⟨(some 28), none, (.callv (.t 26) [(.t 27)])⟩, ⟨(some 29), none, (.load (some 4) (.t 10))⟩] [⟨(some 30), none, (.call 37 [(.t 25), (.t 28), (.t 29)])⟩, ⟨(some 11), none, (.mv (.t 30))⟩]) (.seq (.reg [⟨(some 31), none, (.mv (.t 11))⟩, ⟨(some 32), none, (.bin .neq (.t 31) (.c (.int .i64 0)))⟩]) (.cond (.t 32) (.seq (.reg [⟨(some 33), none, (.mv (.t 11))⟩, ⟨(some 8), none, (.mv (.t 33))⟩]) .ret) .skip))))) (.reg [⟨(some 34), none, (.bin .add (.t 20) (.c (.int .i64 1)))⟩, ⟨(some 20), none, (.mv (.t 34))⟩]))))))) (.seq (.reg [⟨(some 8), none, (.mv (.c (.int .i64 0)))⟩]) .ret))))
theorem fits_asker_items.code : comp PG [] (Try.f71.body.getD .skip) = fits_asker_items.c := by kernel_rfl
theorem fits_asker_items.of {args : List AV} {H : AH} {K : AV → AH → Prop} (hl : args.length = 4) (h : wpA PG fits_asker_items.c none (endA [(.t 8)] K) (initFr args) H) : ACalls PG 71 args H K :=
  ACalls.of_code (fl := []) mixed Try.func71 (c := Try.f71.body.getD .skip) (by kernel_rfl) (by kernel_rfl) (by rw [hl]; exact of_decide_eq_true (by kernel_rfl)) (by rw [fits_asker_items.code]; kernel_rfl)
    (by rw [fits_asker_items.code, show compRes PG Try.f71.results.toList = [(.t 8)] from by kernel_rfl]; exact h)
def fits_asker_fits_1.n : Nat := 72
noncomputable def fits_asker_fits_1.c : C := (.seq (.reg [⟨(some 3), none, (.mv (.c (.int .i64 0)))⟩]) (.seq (.reg [⟨(some 4), none, (.faddr 3 (.t 1))⟩, ⟨(some 5), none, (.load none (.t 4))⟩, ⟨(some 3), none, (.mv (.t 5))⟩]) .ret))
theorem fits_asker_fits_1.code : comp PG [] (Try.f72.body.getD .skip) = fits_asker_fits_1.c := by kernel_rfl
theorem fits_asker_fits_1.of {args : List AV} {H : AH} {K : AV → AH → Prop} (hl : args.length = 1) (h : wpA PG fits_asker_fits_1.c none (endA [(.t 3)] K) (initFr args) H) : ACalls PG 72 args H K :=
  ACalls.of_code (fl := []) mixed Try.func72 (c := Try.f72.body.getD .skip) (by kernel_rfl) (by kernel_rfl) (by rw [hl]; exact of_decide_eq_true (by kernel_rfl)) (by rw [fits_asker_fits_1.code]; kernel_rfl)
    (by rw [fits_asker_fits_1.code, show compRes PG Try.f72.results.toList = [(.t 3)] from by kernel_rfl]; exact h)
theorem fits_asker_fits_1.of' {args : List AV} {H : AH} {K : AV → AH → Prop} (hl : args.length ≤ 6) (h : wpA PG fits_asker_fits_1.c none (endA [(.t 3)] K) (initFr args) H) : ACalls PG 72 args H K :=
  ACalls.of_code (fl := []) mixed Try.func72 (c := Try.f72.body.getD .skip) (by kernel_rfl) (by kernel_rfl) hl (by rw [fits_asker_fits_1.code]; kernel_rfl) (by rw [fits_asker_fits_1.code, show compRes PG Try.f72.results.toList = [(.t 3)] from by kernel_rfl]; exact h)
def fits_asker_fits_2.n : Nat := 73
noncomputable def fits_asker_fits_2.c : C := (.seq (.reg [⟨(some 3), none, (.mv (.c (.int .i64 0)))⟩]) (.seq (.reg [⟨(some 4), none, (.faddr 3 (.t 1))⟩, ⟨(some 5), none, (.load none (.t 4))⟩, ⟨(some 3), none, (.mv (.t 5))⟩]) .ret))
theorem fits_asker_fits_2.code : comp PG [] (Try.f73.body.getD .skip) = fits_asker_fits_2.c := by kernel_rfl
theorem fits_asker_fits_2.of {args : List AV} {H : AH} {K : AV → AH → Prop} (hl : args.length = 1) (h : wpA PG fits_asker_fits_2.c none (endA [(.t 3)] K) (initFr args) H) : ACalls PG 73 args H K :=
  ACalls.of_code (fl := []) mixed Try.func73 (c := Try.f73.body.getD .skip) (by kernel_rfl) (by kernel_rfl) (by rw [hl]; exact of_decide_eq_true (by kernel_rfl)) (by rw [fits_asker_fits_2.code]; kernel_rfl)
    (by rw [fits_asker_fits_2.code, show compRes PG Try.f73.results.toList = [(.t 3)] from by kernel_rfl]; exact h)
theorem fits_asker_fits_2.of' {args : List AV} {H : AH} {K : AV → AH → Prop} (hl : args.length ≤ 6) (h : wpA PG fits_asker_fits_2.c none (endA [(.t 3)] K) (initFr args) H) : ACalls PG 73 args H K :=
  ACalls.of_code (fl := []) mixed Try.func73 (c := Try.f73.body.getD .skip) (by kernel_rfl) (by kernel_rfl) hl (by rw [fits_asker_fits_2.code]; kernel_rfl) (by rw [fits_asker_fits_2.code, show compRes PG Try.f73.results.toList = [(.t 3)] from by kernel_rfl]; exact h)
def fits_asker_fits_3.n : Nat := 74
noncomputable def fits_asker_fits_3.c : C := (.seq (.reg [⟨(some 3), none, (.mv (.c (.int .i64 0)))⟩]) (.seq (.reg [⟨(some 4), none, (.faddr 5 (.t 1))⟩, ⟨(some 5), none, (.load none (.t 4))⟩, ⟨(some 6), none, (.mv (.t 0))⟩, ⟨(some 7), none, (.iaddr 5 (.t 5) (.t 6))⟩, ⟨(some 8), none, (.faddr 2 (.t 7))⟩, ⟨(some 9), none, (.load none (.t 8))⟩, ⟨(some 3), none, (.mv (.t 9))⟩]) .ret))
theorem fits_asker_fits_3.code : comp PG [] (Try.f74.body.getD .skip) = fits_asker_fits_3.c := by kernel_rfl
theorem fits_asker_fits_3.of {args : List AV} {H : AH} {K : AV → AH → Prop} (hl : args.length = 1) (h : wpA PG fits_asker_fits_3.c none (endA [(.t 3)] K) (initFr args) H) : ACalls PG 74 args H K :=
  ACalls.of_code (fl := []) mixed Try.func74 (c := Try.f74.body.getD .skip) (by kernel_rfl) (by kernel_rfl) (by rw [hl]; exact of_decide_eq_true (by kernel_rfl)) (by rw [fits_asker_fits_3.code]; kernel_rfl)
    (by rw [fits_asker_fits_3.code, show compRes PG Try.f74.results.toList = [(.t 3)] from by kernel_rfl]; exact h)
theorem fits_asker_fits_3.of' {args : List AV} {H : AH} {K : AV → AH → Prop} (hl : args.length ≤ 10) (h : wpA PG fits_asker_fits_3.c none (endA [(.t 3)] K) (initFr args) H) : ACalls PG 74 args H K :=
  ACalls.of_code (fl := []) mixed Try.func74 (c := Try.f74.body.getD .skip) (by kernel_rfl) (by kernel_rfl) hl (by rw [fits_asker_fits_3.code]; kernel_rfl) (by rw [fits_asker_fits_3.code, show compRes PG Try.f74.results.toList = [(.t 3)] from by kernel_rfl]; exact h)
def fits_asker_union.n : Nat := 75
noncomputable def fits_asker_union.c : C := (.seq (.reg [⟨(some 3), none, (.box 70 (.t 0))⟩, ⟨(some 4), none, (.box 3 (.t 1))⟩, ⟨(some 5), none, (.box 26 (.t 2))⟩, ⟨(some 6), none, (.mv (.c (.int .i64 0)))⟩]) (.seq (.seq (.dreg [⟨(some 9), none, (.load (some 1) (.t 3))⟩, ⟨(some 10), none, (.faddr 0 (.t 3))⟩, ⟨(some 11), none, (.load none (.t 10))⟩, ⟨(some 12), none, (.load none (.t 4))⟩, ⟨(some 13), none, (.iaddr 6 (.t 11) (.t 12))⟩, ⟨(some 14), none, (.faddr 4 (.t 13))⟩, ⟨(some 15), none, (.load none (.t 14))⟩, ⟨(some 16), none, (.faddr 1 (.t 5))⟩, ⟨(some 17), none, (.load none (.t 16))⟩] [⟨(some 18), none, (.call 69 [(.t 9), (.t 15), (.t 17)])⟩, ⟨(some 19), none, (.un .not (.t 18))⟩]) (.cond (.t 19) (.seq (.reg [⟨(some 6), none, (.mv (.c (.int .i64 7)))⟩]) .ret) .skip)) (.seq (.reg [⟨(some 21), none, (.faddr 0 (.t 3))⟩, ⟨(some 22), none, (.load none (.t 21))⟩, ⟨(some 23), none, (.load none (.t 4))⟩, ⟨(some 24), none, (.faddr 1 (.t 5))⟩, ⟨(some 25), none, (.load none (.t 24))⟩, ⟨(some 26), none, (.call 48 [(.t 22), (.t 23), (.t 25)])⟩, ⟨(some 20), none, (.mv (.t 26))⟩, ⟨(some 27), none, (.extr (.t 20) 0)⟩, ⟨(some 28), none, (.extr (.t 20) 1)⟩, ⟨(some 7), none, (.allc 3 [(.int .i64 0)])⟩, ⟨none, none, (.store 1 (.t 7) (.t 27))⟩, ⟨(some 8), none, (.mv (.t 28))⟩]) (.seq (.seq (.reg [⟨(some 29), none, (.mv (.t 8))⟩, ⟨(some 30), none, (.un .not (.t 29))⟩]) (.cond (.t 30) (.seq (.reg [⟨(some 31), none, (.load (some 1) (.t 3))⟩, ⟨(some 32), none, (.load (some 4) (.t 5))⟩, ⟨(some 33), none, (.call 71 [(.t 31), (.t 32), (.c (.int .i64 0)), (.c (.clo 98 [] []))])⟩, ⟨(some 6), none, (.mv (.t 33))⟩]) .ret) .skip)) (.seq (.reg [⟨(some 34), none, (.load (some 1) (.t 3))⟩, ⟨(some 35), none, (.load (some 4) (.t 5))⟩, ⟨(some 36), none, (.mkfn 99 [] [(.t 3), (.t 4), (.t 7)])⟩, ⟨(some 37), none, (.call 71 [(.t 34), (.t 35), (.c (.int .i64 1)), (.t 36)])⟩, ⟨(some 6), none, (.mv (.t 37))⟩]) .ret)))))
theorem fits_asker_union.code : comp PG [] (Try.f75.body.getD .skip) = fits_asker_union.c := by kernel_rfl
theorem fits_asker_union.of {args : List AV} {H : AH} {K : AV → AH → Prop} (hl : args.length = 3) (h : wpA PG fits_asker_union.c none (endA [(.t 6)] K) (initFr args) H) : ACalls PG 75 args H K :=
  ACalls.of_code (fl := []) mixed Try.func75 (c := Try.f75.body.getD .skip) (by kernel_rfl) (by kernel_rfl) (by rw [hl]; exact of_decide_eq_true (by kernel_rfl)) (by rw [fits_asker_union.code]; kernel_rfl)
    (by rw [fits_asker_union.code, show compRes PG Try.f75.results.toList = [(.t 6)] from by kernel_rfl]; exact h)
def broadsheetref09_zero.n : Nat := 77
noncomputable def broadsheetref09_zero.c : C := (.seq (.reg [⟨(some 1), none, (.box 26 (.t 0))⟩, ⟨(some 2), none, (.mv (.c (.bool false)))⟩]) (.seq (.seq (.reg [⟨(some 3), none, (.faddr 1 (.t 1))⟩, ⟨(some 4), none, (.load none (.t 3))⟩, ⟨(some 5), none, (.bin .neq (.t 4) (.c (.int .u64 0)))⟩, ⟨(some 6), none, (.mv (.t 5))⟩, ⟨(some 7), (some (6, true)), (.faddr 0 (.t 1))⟩, ⟨(some 8), (some (6, true)), (.load none (.t 7))⟩, ⟨(some 9), (some (6, true)), (.bin .geq (.t 8) (.c (.int .i64 10)))⟩, ⟨(some 10), none, (.pick (.t 6) (.t 9) (.c (.bool false)))⟩, ⟨(some 11), none, (.mv (.t 10))⟩, ⟨(some 12), (some (11, true)), (.faddr 0 (.t 1))⟩, ⟨(some 13), (some (11, true)), (.load none (.t 12))⟩, ⟨(some 14), (some (11, true)), (.bin .leq (.t 13) (.c (.int .i64 13)))⟩, ⟨(some 15), none, (.pick (.t 11) (.t 14) (.c (.bool false)))⟩, ⟨(some 16), none, (.mv (.t 15))⟩, ⟨(some 17), (some (16, false)), (.faddr 2 (.t 1))⟩, ⟨(some 18), (some (16, false)), (.load none (.t 17))⟩, ⟨(some 19), (some (16, false)), (.bin .neq (.t 18) (.c (.str [])))⟩, ⟨(some 20), (some (16, false)), (.mv (.t 19))⟩, ⟨(some 21), (some (20, true)), (.faddr 0 (.t 1))⟩, ⟨(some 22), (some (20, true)), (.load none (.t 21))⟩, ⟨(some 23), (some (20, true)), (.bin .neq (.t 22) (.c (.int .i64 10)))⟩, ⟨(some 24), (some (16, false)), (.pick (.t 20) (.t 23) (.c (.bool false)))⟩, ⟨(some 25), none, (.pick (.t 16) (.c (.bool true)) (.t 24))⟩]) (.cond (.t 25) (.seq (.reg [⟨(some 2), none, (.mv (.c (.bool false)))⟩]) .ret) .skip)) (.seq (.reg [⟨(some 26), none, (.faddr 3 (.t 1))⟩, ⟨(some 27), none, (.load none (.t 26))⟩, ⟨(some 28), none, (.len false (.t 27))⟩, ⟨(some 29), none, (.bin .eql (.t 28) (.c (.int .i64 0)))⟩, ⟨(some 30), none, (.mv (.t 29))⟩, ⟨(some 31), (some (30, false)), (.faddr 0 (.t 1))⟩, ⟨(some 32), (some (30, false)), (.load none (.t 31))⟩, ⟨(some 33), (some (30, false)), (.bin .geq (.t 32) (.c (.int .i64 11)))⟩, ⟨(some 34), none, (.pick (.t 30) (.c (.bool true)) (.t 33))⟩, ⟨(some 2), none, (.mv (.t 34))⟩]) .ret)))
theorem broadsheetref09_zero.code : comp PG [] (Try.f77.body.getD .skip) = broadsheetref09_zero.c := by kernel_rfl
theorem broadsheetref09_zero.of {args : List AV} {H : AH} {K : AV → AH → Prop} (hl : args.length = 1) (h : wpA PG broadsheetref09_zero.c none (endA [(.t 2)] K) (initFr args) H) : ACalls PG 77 args H K :=
  ACalls.of_code (fl := []) mixed Try.func77 (c := Try.f77.body.getD .skip) (by kernel_rfl) (by kernel_rfl) (by rw [hl]; exact of_decide_eq_true (by kernel_rfl)) (by rw [broadsheetref09_zero.code]; kernel_rfl)
    (by rw [broadsheetref09_zero.code, show compRes PG Try.f77.results.toList = [(.t 2)] from by kernel_rfl]; exact h)
def broadsheetref09_number.n : Nat := 78
noncomputable def broadsheetref09_number.c : C := (.seq (.reg [⟨(some 6), none, (.mv (.c (.bool false)))⟩]) (.seq (.seq (.reg [⟨(some 7), none, (.mv (.t 0))⟩, ⟨(some 8), none, (.mv (.t 1))⟩, ⟨(some 9), none, (.iaddr 6 (.t 7) (.t 8))⟩, ⟨(some 10), none, (.faddr 0 (.t 9))⟩, ⟨(some 11), none, (.load none (.t 10))⟩, ⟨(some 12), none, (.bin .eql (.t 11) (.c (.int .i64 9)))⟩]) (.cond (.t 12) (.seq (.reg [⟨(some 13), none, (.mv (.t 0))⟩, ⟨(some 14), none, (.mv (.t 1))⟩, ⟨(some 15), none, (.mv (.t 2))⟩, ⟨(some 16), none, (.call 107 [(.t 13), (.t 14), (.t 15)])⟩, ⟨(some 17), none, (.bin .geq (.t 16) (.c (.int .i64 0)))⟩, ⟨(some 6), none, (.mv (.t 17))⟩]) .ret) .skip)) (.seq (.reg [⟨(some 18), none, (.mv (.t 0))⟩, ⟨(some 19), none, (.mv (.t 1))⟩, ⟨(some 20), none, (.iaddr 6 (.t 18) (.t 19))⟩, ⟨(some 21), none, (.faddr 0 (.t 20))⟩, ⟨(some 22), none, (.load none (.t 21))⟩, ⟨(some 23), none, (.mv (.t 2))⟩, ⟨(some 24), none, (.call 108 [(.t 22), (.t 23)])⟩, ⟨(some 6), none, (.mv (.t 24))⟩]) .ret)))
theorem broadsheetref09_number.code : comp PG [] (Try.f78.body.getD .skip) = broadsheetref09_number.c := by kernel_rfl
theorem broadsheetref09_number.of {args : List AV} {H : AH} {K : AV → AH → Prop} (hl : args.length = 3) (h : wpA PG broadsheetref09_number.c none (endA [(.t 6)] K) (initFr args) H) : ACalls PG 78 args H K :=
  ACalls.of_code (fl := []) mixed Try.func78 (c := Try.f78.body.getD .skip) (by kernel_rfl) (by kernel_rfl) (by rw [hl]; exact of_decide_eq_true (by kernel_rfl)) (by rw [broadsheetref09_number.code]; kernel_rfl)
    (by rw [broadsheetref09_number.code, show compRes PG Try.f78.results.toList = [(.t 6)] from by kernel_rfl]; exact h)
def broadsheetref09_Parts.n : Nat := 79
noncomputable def broadsheetref09_Parts.c : C := (.seq (.reg [⟨(some 5), none, (.box 26 (.t 2))⟩, ⟨(some 6), none, (.mv (.c .nilS))⟩, ⟨(some 7), none, (.mv (.c (.bool false)))⟩]) (.seq (.reg [⟨(some 14), none, (.mv (.t 0))⟩, ⟨(some 15), none, (.mv (.t 1))⟩, ⟨(some 16), none, (.iaddr 6 (.t 14) (.t 15))⟩, ⟨(some 17), none, (.load (some 6) (.t 16))⟩, ⟨(some 8), none, (.allc 37 [(.int .i64 0), (.str []), (.int .i64 0), (.int .i64 0), (.int .i64 0), .nilS])⟩, ⟨none, none, (.store 6 (.t 8) (.t 17))⟩]) (.seq (.reg [⟨(some 9), none, (.mv (.c .nilS))⟩]) (.seq (.seq (.reg [⟨(some 18), none, (.faddr 0 (.t 8))⟩, ⟨(some 19), none, (.load none (.t 18))⟩]) (.block 0 (.seq (.reg [⟨(some 21), none, (.bin .eql (.t 19) (.c (.int .i64 11)))⟩, ⟨(some 20), none, (.mv (.t 21))⟩]) (.cond (.t 20) (.seq (.seq (.reg [⟨(some 10), none, (.mv (.c (.int .i64 0)))⟩]) (.block 1 (.loop (.seq (.seq (.reg [⟨(some 22), none, (.mv (.t 10))⟩, ⟨(some 23), none, (.faddr 3 (.t 5))⟩, ⟨(some 24), none, (.load none (.t 23))⟩, ⟨(some 25), none, (.len false (.t 24))⟩, ⟨(some 26), none, (.bin .lss (.t 22) (.t 25))⟩]) (.cond (.t 26) .skip (.exit 1))) (.seq (.block 2 (.reg [⟨(some 29), none, (.mv (.t 9))⟩, ⟨(some 30), none, (.faddr 3 (.t 8))⟩, ⟨(some 31), none, (.load none (.t 30))⟩, ⟨(some 32), none, (.bslice 3 1 1 [(.int .i64 0)] [(0, (.t 31))])⟩, ⟨(some 33), none, (.append 3 false 1 8 (.t 29) (.t 32))⟩, ⟨(some 9), none, (.mv (.t 33))⟩])) (.reg [⟨(some 27), none, (.mv (.t 10))⟩, ⟨(some 28), none, (.bin .add (.t 27) (.c (.int .i64 1)))⟩, ⟨(some 10), none, (.mv (.t 28))⟩])))))) (.seq (.dreg [⟨(some 34), none, (.mv (.t 9))⟩, ⟨(some 35), none, (.mv (.t 9))⟩, ⟨(some 36), none, (.len false (.t 35))⟩, ⟨(some 37), none, (.faddr 2 (.t 8))⟩, ⟨(some 38), none, (.load none (.t 37))⟩, ⟨(some 39), none, (.bin .leq (.t 36) (.t 38))⟩, ⟨(some 6), none, (.mv (.t 34))⟩] [⟨(some 7), none, (.mv (.t 39))⟩]) .ret)) (.seq (.reg [⟨(some 41), none, (.bin .eql (.t 19) (.c (.int .i64 12)))⟩, ⟨(some 40), none, (.mv (.t 41))⟩]) (.cond (.t 40) (.seq (.reg [⟨(some 11), none, (.mv (.c (.int .i64 0)))⟩]) (.block 3 (.loop (.seq (.seq (.reg [⟨(some 42), none, (.mv (.t 11))⟩, ⟨(some 43), none, (.faddr 2 (.t 8))⟩, ⟨(some 44), none, (.load none (.t 43))⟩, ⟨(some 45), none, (.bin .lss (.t 42) (.t 44))⟩]) (.cond (.t 45) .skip (.exit 3))) (.seq (.block 4 (.reg [⟨(some 48), none, (.mv (.t 9))⟩, ⟨(some 49), none, (.faddr 3 (.t 8))⟩, ⟨(some 50), none, (.load none (.t 49))⟩, ⟨(some 51), none, (.bslice 3 1 1 [(.int .i64 0)] [(0, (.t 50))])⟩, ⟨(some 52), none, (.append 3 false 1 8 (.t 48) (.t 51))⟩, ⟨(some 9), none, (.mv (.t 52))⟩])) (.reg [⟨(some 46), none, (.mv (.t 11))⟩, ⟨(some 47), none, (.bin .add (.t 46) (.c (.int .i64 1)))⟩, ⟨(some 11), none, (.mv (.t 47))⟩])))))) (.seq (.reg [⟨(some 54), none, (.bin .eql (.t 19) (.c (.int .i64 13)))⟩, ⟨(some 53), none, (.mv (.t 54))⟩]) (.cond (.t 53) (.seq (.reg [⟨(some 12), none, (.mv (.c (.int .i64 0)))⟩]) (.block 5 (.loop (.seq (.seq (.reg [⟨(some 55), none, (.mv (.t 12))⟩, ⟨(some 56), none, (.faddr 5 (.t 8))⟩, ⟨(some 57), none, (.load none (.t 56))⟩, ⟨(some 58), none, (.len false (.t 57))⟩, ⟨(some 59), none, (.bin .lss (.t 55) (.t 58))⟩]) (.cond (.t 59) .skip (.exit 5))) (.seq (.block 6 (.reg [⟨(some 62), none, (.mv (.t 9))⟩, ⟨(some 63), none, (.faddr 5 (.t 8))⟩, ⟨(some 64), none, (.load none (.t 63))⟩, ⟨(some 65), none, (.mv (.t 12))⟩, ⟨(some 66), none, (.iaddr 5 (.t 64) (.t 65))⟩, ⟨(some 67), none, (.faddr 2 (.t 66))⟩, ⟨(some 68), none, (.load none (.t 67))⟩, ⟨(some 69), none, (.bslice 3 1 1 [(.int .i64 0)] [(0, (.t 68))])⟩, ⟨(some 70), none, (.append 3 false 1 8 (.t 62) (.t 69))⟩, ⟨(some 9), none, (.mv (.t 70))⟩])) (.reg [⟨(some 60), none, (.mv (.t 12))⟩, ⟨(some 61), none, (.bin .add (.t 60) (.c (.int .i64 1)))⟩, ⟨(some 12), none, (.mv (.t 61))⟩])))))) (.seq (.reg [⟨(some 72), none, (.bin .eql (.t 19) (.c (.int .i64 14)))⟩, ⟨(some 71), none, (.mv (.t 72))⟩]) (.cond (.t 71) (.seq (.reg [⟨(some 73), none, (.mv (.t 0))⟩, ⟨(some 74), none, (.mv (.t 1))⟩, ⟨(some 75), none, (.faddr 1 (.t 5))⟩, ⟨(some 76), none, (.load none (.t 75))⟩, ⟨(some 77), none, (.call 56 [(.t 73), (.t 74), (.t 76)])⟩, ⟨(some 13), none, (.mv (.t 77))⟩]) (.seq (.reg [⟨(some 78), none, (.mv (.t 13))⟩, ⟨(some 79), none, (.bin .geq (.t 78) (.c (.int .i64 0)))⟩]) (.cond (.t 79) (.reg [⟨(some 80), none, (.mv (.t 9))⟩, ⟨(some 81), none, (.faddr 5 (.t 8))⟩, ⟨(some 82), none, (.load none (.t 81))⟩, ⟨(some 83), none, (.mv (.t 13))⟩, ⟨(some 84), none, (.iaddr 5 (.t 82) (.t 83))⟩, ⟨(some 85), none, (.faddr 2 (.t 84))⟩, ⟨(some 86), none, (.load none (.t 85))⟩, ⟨(some 87), none, (.bslice 3 1 1 [(.int .i64 0)] [(0, (.t 86))])⟩, ⟨(some 88), none, (.append 3 false 1 8 (.t 80) (.t 87))⟩, ⟨(some 9), none, (.mv (.t 88))⟩]) .skip))) .skip)))))))))) (.seq (.reg [⟨(some 89), none, (.mv (.t 9))⟩, ⟨(some 6), none, (.mv (.t 89))⟩, ⟨(some 7), none, (.mv (.c (.bool true)))⟩]) .ret)))))
theorem broadsheetref09_Parts.code : comp PG [] (Try.f79.body.getD .skip) = broadsheetref09_Parts.c := by kernel_rfl
theorem broadsheetref09_Parts.of {args : List AV} {H : AH} {K : AV → AH → Prop} (hl : args.length = 3) (h : wpA PG broadsheetref09_Parts.c none (endA [(.t 6), (.t 7)] K) (initFr args) H) : ACalls PG 79 args H K :=
  ACalls.of_code (fl := []) mixed Try.func79 (c := Try.f79.body.getD .skip) (by kernel_rfl) (by kernel_rfl) (by rw [hl]; exact of_decide_eq_true (by kernel_rfl)) (by rw [broadsheetref09_Parts.code]; kernel_rfl)
    (by rw [broadsheetref09_Parts.code, show compRes PG Try.f79.results.toList = [(.t 6), (.t 7)] from by kernel_rfl]; exact h)
def broadsheetref09_start.n : Nat := 81
noncomputable def broadsheetref09_start.c : C := (.seq (.reg [⟨(some 4), none, (.allc 26 [(.int .i64 0), (.int .u64 0), (.str []), .nilS])⟩]) (.seq (.reg [⟨(some 7), none, (.mv (.t 0))⟩, ⟨(some 8), none, (.mv (.t 1))⟩, ⟨(some 9), none, (.iaddr 6 (.t 7) (.t 8))⟩, ⟨(some 10), none, (.load (some 6) (.t 9))⟩, ⟨(some 5), none, (.allc 37 [(.int .i64 0), (.str []), (.int .i64 0), (.int .i64 0), (.int .i64 0), .nilS])⟩, ⟨none, none, (.store 6 (.t 5) (.t 10))⟩]) (.seq (.reg [⟨(some 11), none, (.faddr 0 (.t 5))⟩, ⟨(some 12), none, (.load none (.t 11))⟩, ⟨(some 13), none, (.build [(.int .i64 0), (.int .u64 0), (.str []), .nilS] [(0, (1, (.t 12)))])⟩, ⟨(some 6), none, (.allc 26 [(.int .i64 0), (.int .u64 0), (.str []), .nilS])⟩, ⟨none, none, (.store 4 (.t 6) (.t 13))⟩]) (.seq (.seq (.reg [⟨(some 14), none, (.faddr 0 (.t 5))⟩, ⟨(some 15), none, (.load none (.t 14))⟩, ⟨(some 16), none, (.bin .eql (.t 15) (.c (.int .i64 9)))⟩]) (.cond (.t 16) (.reg [⟨(some 17), none, (.faddr 5 (.t 5))⟩, ⟨(some 18), none, (.load none (.t 17))⟩, ⟨(some 19), none, (.iaddr 5 (.t 18) (.c (.int .i64 0)))⟩, ⟨(some 20), none, (.faddr 1 (.t 19))⟩, ⟨(some 21), none, (.load none (.t 20))⟩, ⟨(some 22), none, (.faddr 1 (.t 6))⟩, ⟨none, none, (.store 1 (.t 22) (.t 21))⟩]) .skip)) (.seq (.seq (.reg [⟨(some 23), none, (.faddr 0 (.t 5))⟩, ⟨(some 24), none, (.load none (.t 23))⟩, ⟨(some 25), none, (.bin .eql (.t 24) (.c (.int .i64 14)))⟩, ⟨(some 26), none, (.mv (.t 25))⟩, ⟨(some 27), (some (26, true)), (.mv (.t 0))⟩, ⟨(some 28), (some (26, true)), (.faddr 4 (.t 5))⟩, ⟨(some 29), (some (26, true)), (.load none (.t 28))⟩, ⟨(some 30), (some (26, true)), (.iaddr 6 (.t 27) (.t 29))⟩, ⟨(some 31), (some (26, true)), (.faddr 0 (.t 30))⟩, ⟨(some 32), (some (26, true)), (.load none (.t 31))⟩, ⟨(some 33), (some (26, true)), (.bin .eql (.t 32) (.c (.int .i64 9)))⟩, ⟨(some 34), none, (.pick (.t 26) (.t 33) (.c (.bool false)))⟩]) (.cond (.t 34) (.reg [⟨(some 35), none, (.mv (.t 0))⟩, ⟨(some 36), none, (.faddr 4 (.t 5))⟩, ⟨(some 37), none, (.load none (.t 36))⟩, ⟨(some 38), none, (.iaddr 6 (.t 35) (.t 37))⟩, ⟨(some 39), none, (.faddr 5 (.t 38))⟩, ⟨(some 40), none, (.load none (.t 39))⟩, ⟨(some 41), none, (.iaddr 5 (.t 40) (.c (.int .i64 0)))⟩, ⟨(some 42), none, (.faddr 1 (.t 41))⟩, ⟨(some 43), none, (.load none (.t 42))⟩, ⟨(some 44), none, (.faddr 1 (.t 6))⟩, ⟨none, none, (.store 1 (.t 44) (.t 43))⟩]) .skip)) (.seq (.reg [⟨(some 45), none, (.load (some 4) (.t 6))⟩, ⟨none, none, (.store 4 (.t 4) (.t 45))⟩]) .ret))))))
theorem broadsheetref09_start.code : comp PG [] (Try.f81.body.getD .skip) = broadsheetref09_start.c := by kernel_rfl
theorem broadsheetref09_start.of {args : List AV} {H : AH} {K : AV → AH → Prop} (hl : args.length = 2) (h : wpA PG broadsheetref09_start.c none (endA [(.cell 4 (some 4))] K) (initFr args) H) : ACalls PG 81 args H K :=
  ACalls.of_code (fl := []) mixed Try.func81 (c := Try.f81.body.getD .skip) (by kernel_rfl) (by kernel_rfl) (by rw [hl]; exact of_decide_eq_true (by kernel_rfl)) (by rw [broadsheetref09_start.code]; kernel_rfl)
    (by rw [broadsheetref09_start.code, show compRes PG Try.f81.results.toList = [(.cell 4 (some 4))] from by kernel_rfl]; exact h)
def fits_asker_union_1.n : Nat := 98
noncomputable def fits_asker_union_1.c : C := (.seq (.reg [⟨(some 2), none, (.mv (.c (.int .i64 0)))⟩]) (.seq (.reg [⟨(some 2), none, (.mv (.c (.int .i64 0)))⟩]) .ret))
theorem fits_asker_union_1.code : comp PG [] (Try.f98.body.getD .skip) = fits_asker_union_1.c := by kernel_rfl
theorem fits_asker_union_1.of {args : List AV} {H : AH} {K : AV → AH → Prop} (hl : args.length = 1) (h : wpA PG fits_asker_union_1.c none (endA [(.t 2)] K) (initFr args) H) : ACalls PG 98 args H K :=
  ACalls.of_code (fl := []) mixed Try.func98 (c := Try.f98.body.getD .skip) (by kernel_rfl) (by kernel_rfl) (by rw [hl]; exact of_decide_eq_true (by kernel_rfl)) (by rw [fits_asker_union_1.code]; kernel_rfl)
    (by rw [fits_asker_union_1.code, show compRes PG Try.f98.results.toList = [(.t 2)] from by kernel_rfl]; exact h)
theorem fits_asker_union_1.of' {args : List AV} {H : AH} {K : AV → AH → Prop} (hl : args.length ≤ 3) (h : wpA PG fits_asker_union_1.c none (endA [(.t 2)] K) (initFr args) H) : ACalls PG 98 args H K :=
  ACalls.of_code (fl := []) mixed Try.func98 (c := Try.f98.body.getD .skip) (by kernel_rfl) (by kernel_rfl) hl (by rw [fits_asker_union_1.code]; kernel_rfl) (by rw [fits_asker_union_1.code, show compRes PG Try.f98.results.toList = [(.t 2)] from by kernel_rfl]; exact h)
def fits_asker_union_2.n : Nat := 99
noncomputable def fits_asker_union_2.c : C := (.seq (.reg [⟨(some 5), none, (.mv (.c (.int .i64 0)))⟩]) (.seq (.dreg [⟨(some 6), none, (.faddr 0 (.t 1))⟩, ⟨(some 7), none, (.load none (.t 6))⟩, ⟨(some 8), none, (.load none (.t 2))⟩, ⟨(some 9), none, (.iaddr 6 (.t 7) (.t 8))⟩, ⟨(some 10), none, (.faddr 5 (.t 9))⟩, ⟨(some 11), none, (.load none (.t 10))⟩, ⟨(some 12), none, (.load none (.t 3))⟩] [⟨(some 13), none, (.iaddr 5 (.t 11) (.t 12))⟩, ⟨(some 14), none, (.faddr 2 (.t 13))⟩, ⟨(some 15), none, (.load none (.t 14))⟩, ⟨(some 5), none, (.mv (.t 15))⟩]) .ret))
theorem fits_asker_union_2.code : comp PG [] (Try.f99.body.getD .skip) = fits_asker_union_2.c := by kernel_rfl
theorem fits_asker_union_2.of {args : List AV} {H : AH} {K : AV → AH → Prop} (hl : args.length = 1) (h : wpA PG fits_asker_union_2.c none (endA [(.t 5)] K) (initFr args) H) : ACalls PG 99 args H K :=
  ACalls.of_code (fl := []) mixed Try.func99 (c := Try.f99.body.getD .skip) (by kernel_rfl) (by kernel_rfl) (by rw [hl]; exact of_decide_eq_true (by kernel_rfl)) (by rw [fits_asker_union_2.code]; kernel_rfl)
    (by rw [fits_asker_union_2.code, show compRes PG Try.f99.results.toList = [(.t 5)] from by kernel_rfl]; exact h)
theorem fits_asker_union_2.of' {args : List AV} {H : AH} {K : AV → AH → Prop} (hl : args.length ≤ 16) (h : wpA PG fits_asker_union_2.c none (endA [(.t 5)] K) (initFr args) H) : ACalls PG 99 args H K :=
  ACalls.of_code (fl := []) mixed Try.func99 (c := Try.f99.body.getD .skip) (by kernel_rfl) (by kernel_rfl) hl (by rw [fits_asker_union_2.code]; kernel_rfl) (by rw [fits_asker_union_2.code, show compRes PG Try.f99.results.toList = [(.t 5)] from by kernel_rfl]; exact h)
end Go.Proofs.Ytodiahhfpcdejaa

/- Each function's translation is, by reckoning, the abstract code that is written out here; its contract follows from the predicate transformer over that code. -/
namespace Go.Proofs.Ytodiahhfpcdejaa
set_option autoImplicit false
set_option maxRecDepth 100000
def broadsheetlaw12_PathAt.n : Nat := 6
noncomputable def broadsheetlaw12_PathAt.c : C := (.seq (.reg [⟨(some 4), none, (.box 26 (.t 1))⟩, ⟨(some 5), none, (.box 46 (.t 2))⟩, ⟨(some 6), none, (.mv (.c (.bool false)))⟩]) (.seq (.seq (.reg [⟨(some 11), none, (.mv (.t 0))⟩, ⟨(some 12), none, (.call 9 [(.t 11)])⟩, ⟨(some 13), none, (.mv (.t 12))⟩, ⟨(some 14), (some (13, false)), (.load (some 4) (.t 4))⟩, ⟨(some 15), (some (13, false)), (.call 10 [(.t 14), (.c (.int .i64 0))])⟩, ⟨(some 16), none, (.pick (.t 13) (.c (.bool true)) (.t 15))⟩, ⟨(some 17), none, (.mv (.t 16))⟩, ⟨(some 18), (some (17, false)), (.faddr 1 (.t 5))⟩, ⟨(some 19), (some (17, false)), (.load none (.t 18))⟩, ⟨(some 20), (some (17, false)), (.len false (.t 19))⟩, ⟨(some 21), (some (17, false)), (.bin .gtr (.t 20) (.c (.int .i64 100)))⟩, ⟨(some 22), none, (.pick (.t 17) (.c (.bool true)) (.t 21))⟩]) (.cond (.t 22) (.seq (.reg [⟨(some 23), none, (.call 20 [])⟩, ⟨(some 6), none, (.mv (.t 23))⟩]) .ret) .skip)) (.seq (.reg [⟨(some 25), none, (.mv (.t 0))⟩, ⟨(some 26), none, (.faddr 0 (.t 5))⟩, ⟨(some 27), none, (.load none (.t 26))⟩, ⟨(some 28), none, (.faddr 1 (.t 5))⟩, ⟨(some 29), none, (.load none (.t 28))⟩, ⟨(some 30), none, (.load (some 4) (.t 4))⟩, ⟨(some 31), none, (.call 21 [(.t 25), (.t 27), (.t 29), (.t 30)])⟩, ⟨(some 24), none, (.mv (.t 31))⟩, ⟨(some 32), none, (.extr (.t 24) 0)⟩, ⟨(some 33), none, (.extr (.t 24) 1)⟩, ⟨(some 7), none, (.allc 26 [(.int .i64 0), (.int .u64 0), (.str []), .nilS])⟩, ⟨none, none, (.store 4 (.t 7) (.t 32))⟩, ⟨(some 8), none, (.mv (.t 33))⟩]) (.seq (.seq (.reg [⟨(some 34), none, (.mv (.t 0))⟩, ⟨(some 35), none, (.faddr 0 (.t 5))⟩, ⟨(some 36), none, (.load none (.t 35))⟩, ⟨(some 37), none, (.load (some 4) (.t 4))⟩, ⟨(some 38), none, (.call 13 [(.t 34), (.t 36), (.t 37)])⟩, ⟨(some 39), none, (.bin .neq (.t 38) (.c (.int .i64 0)))⟩]) (.cond (.t 39) (.seq (.reg [⟨(some 40), none, (.mv (.t 8))⟩, ⟨(some 41), none, (.mv (.t 40))⟩, ⟨(some 42), (some (41, false)), (.load (some 4) (.t 7))⟩, ⟨(some 43), (some (41, false)), (.build [(.int .i64 0), (.int .u64 0), (.str []), .nilS] [])⟩, ⟨(some 44), (some (41, false)), (.call 18 [(.t 42), (.t 43)])⟩, ⟨(some 45), none, (.pick (.t 41) (.c (.bool true)) (.t 44))⟩, ⟨(some 46), none, (.mv (.t 45))⟩, ⟨(some 47), (some (46, true)), (.mv (.t 0))⟩, ⟨(some 48), (some (46, true)), (.call 22 [(.t 47)])⟩, ⟨(some 49), (some (46, true)), (.field 0 none (.t 48))⟩, ⟨(some 50), (some (46, true)), (.bin .eql (.t 49) (.c (.int .i64 0)))⟩, ⟨(some 51), (some (46, true)), (.mv (.t 50))⟩, ⟨(some 52), (some (51, false)), (.mv (.t 8))⟩, ⟨(some 53), (some (51, false)), (.un .not (.t 52))⟩, ⟨(some 54), (some (46, true)), (.pick (.t 51) (.c (.bool true)) (.t 53))⟩, ⟨(some 55), none, (.pick (.t 46) (.t 54) (.c (.bool false)))⟩, ⟨(some 56), none, (.mv (.t 55))⟩, ⟨(some 57), (some (56, true)), (.call 20 [])⟩, ⟨(some 58), none, (.pick (.t 56) (.t 57) (.c (.bool false)))⟩, ⟨(some 6), none, (.mv (.t 58))⟩]) .ret) .skip)) (.seq (.reg [⟨(some 60), none, (.mv (.t 0))⟩, ⟨(some 61), none, (.faddr 0 (.t 5))⟩, ⟨(some 62), none, (.load none (.t 61))⟩, ⟨(some 63), none, (.faddr 1 (.t 5))⟩, ⟨(some 64), none, (.load none (.t 63))⟩, ⟨(some 65), none, (.load (some 4) (.t 4))⟩, ⟨(some 66), none, (.call 23 [(.t 60), (.t 62), (.t 64), (.t 65)])⟩, ⟨(some 59), none, (.mv (.t 66))⟩, ⟨(some 67), none, (.extr (.t 59) 0)⟩, ⟨(some 68), none, (.extr (.t 59) 1)⟩, ⟨(some 9), none, (.allc 26 [(.int .i64 0), (.int .u64 0), (.str []), .nilS])⟩, ⟨none, none, (.store 4 (.t 9) (.t 67))⟩, ⟨(some 10), none, (.mv (.t 68))⟩]) (.seq (.reg [⟨(some 69), none, (.mv (.t 8))⟩, ⟨(some 70), none, (.mv (.t 10))⟩, ⟨(some 71), none, (.beq false (.t 69) (.t 70))⟩, ⟨(some 72), none, (.mv (.t 71))⟩, ⟨(some 73), (some (72, true)), (.load (some 4) (.t 7))⟩, ⟨(some 74), (some (72, true)), (.load (some 4) (.t 9))⟩, ⟨(some 75), (some (72, true)), (.call 18 [(.t 73), (.t 74)])⟩, ⟨(some 76), none, (.pick (.t 72) (.t 75) (.c (.bool false)))⟩, ⟨(some 77), none, (.mv (.t 76))⟩, ⟨(some 78), (some (77, true)), (.call 20 [])⟩, ⟨(some 79), none, (.pick (.t 77) (.t 78) (.c (.bool false)))⟩, ⟨(some 6), none, (.mv (.t 79))⟩]) .ret))))))
theorem broadsheetlaw12_PathAt.code : comp PG [] (Try.f6.body.getD .skip) = broadsheetlaw12_PathAt.c := by kernel_rfl
theorem broadsheetlaw12_PathAt.of {args : List AV} {H : AH} {K : AV → AH → Prop} (hl : args.length = 3) (h : wpA PG broadsheetlaw12_PathAt.c none (endA [(.t 6)] K) (initFr args) H) : ACalls PG 6 args H K :=
  ACalls.of_code (fl := []) mixed Try.func6 (c := Try.f6.body.getD .skip) (by kernel_rfl) (by kernel_rfl) (by rw [hl]; exact of_decide_eq_true (by kernel_rfl)) (by rw [broadsheetlaw12_PathAt.code]; kernel_rfl)
    (by rw [broadsheetlaw12_PathAt.code, show compRes PG Try.f6.results.toList = [(.t 6)] from by kernel_rfl]; exact h)
def broadsheetlaw12_awake.n : Nat := 20
noncomputable def broadsheetlaw12_awake.c : C := (.seq (.reg [⟨(some 0), none, (.mv (.c (.bool false)))⟩]) (.seq (.reg [⟨(some 5), none, (.build [(.int .i64 0), (.str []), (.int .i64 0), (.int .i64 0), (.int .i64 0), .nilS] [(0, (1, (.c (.int .i64 2))))])⟩, ⟨(some 6), none, (.build [(.int .i64 0), (.str []), (.int .i64 0), (.int .i64 0), (.int .i64 0), .nilS] [(0, (1, (.c (.int .i64 11)))), (2, (1, (.c (.int .i64 3))))])⟩, ⟨(some 7), none, (.build [(.str []), (.int .u64 0), (.int .i64 0), (.bool false), (.bool false)] [(0, (1, (.c (.str [98])))), (2, (1, (.c (.int .i64 1))))])⟩, ⟨(some 8), none, (.bslice 39 5 1 [(.str []), (.int .u64 0), (.int .i64 0), (.bool false), (.bool false)] [(0, (.t 7))])⟩, ⟨(some 9), none, (.build [(.int .i64 0), (.str []), (.int .i64 0), (.int .i64 0), (.int .i64 0), .nilS] [(0, (1, (.c (.int .i64 13)))), (1, (1, (.c (.str [80])))), (5, (1, (.t 8)))])⟩, ⟨(some 10), none, (.build [(.str []), (.int .u64 0), (.int .i64 0), (.bool false), (.bool false)] [(0, (1, (.c (.str [97])))), (2, (1, (.c (.int .i64 2))))])⟩, ⟨(some 11), none, (.bslice 39 5 1 [(.str []), (.int .u64 0), (.int .i64 0), (.bool false), (.bool false)] [(0, (.t 10))])⟩, ⟨(some 12), none, (.build [(.int .i64 0), (.str []), (.int .i64 0), (.int .i64 0), (.int .i64 0), .nilS] [(0, (1, (.c (.int .i64 13)))), (1, (1, (.c (.str [81])))), (5, (1, (.t 11)))])⟩, ⟨(some 13), none, (.bslice 37 6 4 [(.int .i64 0), (.str []), (.int .i64 0), (.int .i64 0), (.int .i64 0), .nilS] [(0, (.t 5)), (1, (.t 6)), (2, (.t 9)), (3, (.t 12))])⟩, ⟨(some 1), none, (.mv (.t 13))⟩]) (.seq (.reg [⟨(some 15), none, (.mv (.t 1))⟩, ⟨(some 16), none, (.call 44 [(.t 15), (.c (.int .i64 3)), (.c (.str [97, 46, 98, 91, 50, 93]))])⟩, ⟨(some 14), none, (.mv (.t 16))⟩, ⟨(some 17), none, (.extr (.t 14) 0)⟩, ⟨(some 18), none, (.extr (.t 14) 1)⟩, ⟨(some 19), none, (.extr (.t 14) 2)⟩, ⟨(some 2), none, (.mv (.t 17))⟩, ⟨(some 3), none, (.mv (.t 18))⟩, ⟨(some 4), none, (.mv (.t 19))⟩]) (.seq (.reg [⟨(some 20), none, (.mv (.t 4))⟩, ⟨(some 21), none, (.bin .eql (.t 20) (.c (.int .i64 0)))⟩, ⟨(some 22), none, (.mv (.t 21))⟩, ⟨(some 23), (some (22, true)), (.mv (.t 3))⟩, ⟨(some 24), (some (22, true)), (.bin .eql (.t 23) (.c (.int .i64 0)))⟩, ⟨(some 25), none, (.pick (.t 22) (.t 24) (.c (.bool false)))⟩, ⟨(some 26), none, (.mv (.t 25))⟩, ⟨(some 27), (some (26, true)), (.mv (.t 2))⟩, ⟨(some 28), (some (26, true)), (.len false (.t 27))⟩, ⟨(some 29), (some (26, true)), (.bin .eql (.t 28) (.c (.int .i64 3)))⟩, ⟨(some 30), none, (.pick (.t 26) (.t 29) (.c (.bool false)))⟩, ⟨(some 31), none, (.mv (.t 30))⟩, ⟨(some 32), (some (31, true)), (.mv (.t 2))⟩, ⟨(some 33), (some (31, true)), (.iaddr 2 (.t 32) (.c (.int .i64 2)))⟩, ⟨(some 34), (some (31, true)), (.load (some 2) (.t 33))⟩, ⟨(some 35), (some (31, true)), (.build [(.bool false), (.int .i64 0)] [(0, (1, (.c (.bool true)))), (1, (1, (.c (.int .i64 2))))])⟩, ⟨(some 36), (some (31, true)), (.aeq false [.b, (.i .i64)] (.t 34) (.t 35))⟩, ⟨(some 37), none, (.pick (.t 31) (.t 36) (.c (.bool false)))⟩, ⟨(some 0), none, (.mv (.t 37))⟩]) .ret))))
theorem broadsheetlaw12_awake.code : comp PG [] (Try.f20.body.getD .skip) = broadsheetlaw12_awake.c := by kernel_rfl
theorem broadsheetlaw12_awake.of {args : List AV} {H : AH} {K : AV → AH → Prop} (hl : args.length = 0) (h : wpA PG broadsheetlaw12_awake.c none (endA [(.t 0)] K) (initFr args) H) : ACalls PG 20 args H K :=
  ACalls.of_code (fl := []) mixed Try.func20 (c := Try.f20.body.getD .skip) (by kernel_rfl) (by kernel_rfl) (by rw [hl]; exact of_decide_eq_true (by kernel_rfl)) (by rw [broadsheetlaw12_awake.code]; kernel_rfl)
    (by rw [broadsheetlaw12_awake.code, show compRes PG Try.f20.results.toList = [(.t 0)] from by kernel_rfl]; exact h)
def path_At.n : Nat := 21
noncomputable def path_At.c : C := (.seq (.reg [⟨(some 7), none, (.box 26 (.t 3))⟩, ⟨(some 8), none, (.allc 26 [(.int .i64 0), (.int .u64 0), (.str []), .nilS])⟩, ⟨(some 9), none, (.mv (.c (.bool false)))⟩]) (.seq (.seq (.reg [⟨(some 17), none, (.mv (.t 0))⟩, ⟨(some 18), none, (.mv (.t 1))⟩, ⟨(some 19), none, (.call 45 [(.t 17), (.t 18)])⟩, ⟨(some 20), none, (.un .not (.t 19))⟩]) (.cond (.t 20) (.seq (.reg [⟨(some 21), none, (.build [(.int .i64 0), (.int .u64 0), (.str []), .nilS] [])⟩, ⟨none, none, (.store 4 (.t 8) (.t 21))⟩, ⟨(some 9), none, (.mv (.c (.bool false)))⟩]) .ret) .skip)) (.seq (.seq (.reg [⟨(some 22), none, (.mv (.t 2))⟩, ⟨(some 23), none, (.len false (.t 22))⟩, ⟨(some 24), none, (.mv (.c (.int .i64 0)))⟩]) (.block 0 (.loop (.seq (.reg [⟨(some 25), none, (.bin .lss (.t 24) (.t 23))⟩]) (.seq (.cond (.t 25) .skip (.exit 0)) (.seq (.block 1 (.seq (.reg [⟨(some 26), none, (.iaddr 2 (.t 22) (.t 24))⟩, ⟨(some 27), none, (.load (some 2) (.t 26))⟩, ⟨(some 11), none, (.allc 79 [(.bool false), (.int .i64 0)])⟩, ⟨none, none, (.store 2 (.t 11) (.t 27))⟩]) (.seq (.dreg [⟨(some 28), none, (.mv (.t 1))⟩, ⟨(some 29), none, (.mv (.t 0))⟩, ⟨(some 30), none, (.mv (.t 1))⟩, ⟨(some 31), none, (.iaddr 6 (.t 29) (.t 30))⟩, ⟨(some 32), none, (.load (some 6) (.t 31))⟩, ⟨(some 13), none, (.allc 37 [(.int .i64 0), (.str []), (.int .i64 0), (.int .i64 0), (.int .i64 0), .nilS])⟩, ⟨(some 12), none, (.mv (.t 28))⟩] [⟨none, none, (.store 6 (.t 13) (.t 32))⟩]) (.seq (.reg [⟨(some 33), none, (.faddr 1 (.t 11))⟩, ⟨(some 34), none, (.load none (.t 33))⟩, ⟨(some 14), none, (.mv (.t 34))⟩]) (.seq (.block 2 (.seq (.dreg [⟨(some 43), none, (.faddr 0 (.t 11))⟩, ⟨(some 44), none, (.load none (.t 43))⟩, ⟨(some 45), none, (.load (some 6) (.t 13))⟩, ⟨(some 46), none, (.call 46 [(.t 45)])⟩] [⟨(some 47), none, (.beq true (.t 44) (.t 46))⟩, ⟨(some 48), none, (.mv (.t 47))⟩, ⟨(some 49), (some (48, false)), (.faddr 0 (.t 11))⟩, ⟨(some 50), (some (48, false)), (.load none (.t 49))⟩, ⟨(some 51), (some (48, false)), (.un .not (.t 50))⟩, ⟨(some 52), (some (48, false)), (.mv (.t 51))⟩, ⟨(some 53), (some (52, true)), (.load (some 6) (.t 13))⟩, ⟨(some 54), (some (52, true)), (.call 47 [(.t 53)])⟩, ⟨(some 55), (some (52, true)), (.un .not (.t 54))⟩, ⟨(some 56), (some (48, false)), (.pick (.t 52) (.t 55) (.c (.bool false)))⟩, ⟨(some 57), none, (.pick (.t 48) (.c (.bool true)) (.t 56))⟩, ⟨(some 58), none, (.mv (.t 57))⟩, ⟨(some 59), (some (58, false)), (.faddr 1 (.t 11))⟩, ⟨(some 60), (some (58, false)), (.load none (.t 59))⟩, ⟨(some 61), (some (58, false)), (.bin .lss (.t 60) (.c (.int .i64 0)))⟩, ⟨(some 62), none, (.pick (.t 58) (.c (.bool true)) (.t 61))⟩, ⟨(some 42), none, (.mv (.t 62))⟩]) (.cond (.t 42) (.seq (.reg [⟨(some 63), none, (.build [(.int .i64 0), (.int .u64 0), (.str []), .nilS] [])⟩, ⟨none, none, (.store 4 (.t 8) (.t 63))⟩, ⟨(some 9), none, (.mv (.c (.bool false)))⟩]) .ret) (.seq (.reg [⟨(some 65), none, (.faddr 0 (.t 11))⟩, ⟨(some 66), none, (.load none (.t 65))⟩, ⟨(some 64), none, (.mv (.t 66))⟩]) (.cond (.t 64) (.reg [⟨(some 67), none, (.faddr 3 (.t 13))⟩, ⟨(some 68), none, (.load none (.t 67))⟩, ⟨(some 1), none, (.mv (.t 68))⟩]) (.seq (.reg [⟨(some 70), none, (.faddr 1 (.t 11))⟩, ⟨(some 71), none, (.load none (.t 70))⟩, ⟨(some 72), none, (.faddr 5 (.t 13))⟩, ⟨(some 73), none, (.load none (.t 72))⟩, ⟨(some 74), none, (.len false (.t 73))⟩, ⟨(some 75), none, (.bin .geq (.t 71) (.t 74))⟩, ⟨(some 69), none, (.mv (.t 75))⟩]) (.cond (.t 69) (.seq (.reg [⟨(some 76), none, (.build [(.int .i64 0), (.int .u64 0), (.str []), .nilS] [])⟩, ⟨none, none, (.store 4 (.t 8) (.t 76))⟩, ⟨(some 9), none, (.mv (.c (.bool false)))⟩]) .ret) (.reg [⟨(some 35), none, (.faddr 5 (.t 13))⟩, ⟨(some 36), none, (.load none (.t 35))⟩, ⟨(some 37), none, (.faddr 1 (.t 11))⟩, ⟨(some 38), none, (.load none (.t 37))⟩, ⟨(some 39), none, (.iaddr 5 (.t 36) (.t 38))⟩, ⟨(some 40), none, (.faddr 2 (.t 39))⟩, ⟨(some 41), none, (.load none (.t 40))⟩, ⟨(some 1), none, (.mv (.t 41))⟩])))))))) (.seq (.seq (.reg [⟨(some 77), none, (.faddr 0 (.t 13))⟩, ⟨(some 78), none, (.load none (.t 77))⟩, ⟨(some 79), none, (.bin .eql (.t 78) (.c (.int .i64 14)))⟩]) (.cond (.t 79) (.seq (.reg [⟨(some 81), none, (.mv (.t 0))⟩, ⟨(some 82), none, (.mv (.t 12))⟩, ⟨(some 83), none, (.faddr 1 (.t 7))⟩, ⟨(some 84), none, (.load none (.t 83))⟩, ⟨(some 85), none, (.call 48 [(.t 81), (.t 82), (.t 84)])⟩, ⟨(some 80), none, (.mv (.t 85))⟩, ⟨(some 86), none, (.extr (.t 80) 0)⟩, ⟨(some 87), none, (.extr (.t 80) 1)⟩, ⟨(some 15), none, (.mv (.t 86))⟩, ⟨(some 16), none, (.mv (.t 87))⟩]) (.seq (.seq (.reg [⟨(some 88), none, (.mv (.t 16))⟩, ⟨(some 89), none, (.un .not (.t 88))⟩, ⟨(some 90), none, (.mv (.t 89))⟩, ⟨(some 91), (some (90, false)), (.mv (.t 15))⟩, ⟨(some 92), (some (90, false)), (.faddr 1 (.t 11))⟩, ⟨(some 93), (some (90, false)), (.load none (.t 92))⟩, ⟨(some 94), (some (90, false)), (.bin .neq (.t 91) (.t 93))⟩, ⟨(some 95), none, (.pick (.t 90) (.c (.bool true)) (.t 94))⟩]) (.cond (.t 95) (.seq (.reg [⟨(some 96), none, (.build [(.int .i64 0), (.int .u64 0), (.str []), .nilS] [])⟩, ⟨none, none, (.store 4 (.t 8) (.t 96))⟩, ⟨(some 9), none, (.mv (.c (.bool false)))⟩]) .ret) .skip)) (.reg [⟨(some 14), none, (.mv (.c (.int .i64 0)))⟩]))) .skip)) (.seq (.seq (.reg [⟨(some 97), none, (.mv (.t 14))⟩, ⟨(some 98), none, (.faddr 3 (.t 7))⟩, ⟨(some 99), none, (.load none (.t 98))⟩, ⟨(some 100), none, (.len false (.t 99))⟩, ⟨(some 101), none, (.bin .geq (.t 97) (.t 100))⟩]) (.cond (.t 101) (.seq (.reg [⟨(some 102), none, (.build [(.int .i64 0), (.int .u64 0), (.str []), .nilS] [])⟩, ⟨none, none, (.store 4 (.t 8) (.t 102))⟩, ⟨(some 9), none, (.mv (.c (.bool false)))⟩]) .ret) .skip)) (.reg [⟨(some 103), none, (.faddr 3 (.t 7))⟩, ⟨(some 104), none, (.load none (.t 103))⟩, ⟨(some 105), none, (.mv (.t 14))⟩, ⟨(some 106), none, (.iaddr 4 (.t 104) (.t 105))⟩, ⟨(some 107), none, (.load (some 4) (.t 106))⟩, ⟨none, none, (.store 4 (.t 7) (.t 107))⟩])))))))) (.reg [⟨(some 108), none, (.bin .add (.t 24) (.c (.int .i64 1)))⟩, ⟨(some 24), none, (.mv (.t 108))⟩]))))))) (.seq (.reg [⟨(some 109), none, (.load (some 4) (.t 7))⟩, ⟨none, none, (.store 4 (.t 8) (.t 109))⟩, ⟨(some 9), none, (.mv (.c (.bool true)))⟩]) .ret))))
theorem path_At.code : comp PG [] (Try.f21.body.getD .skip) = path_At.c := by kernel_rfl
theorem path_At.of {args : List AV} {H : AH} {K : AV → AH → Prop} (hl : args.length = 4) (h : wpA PG path_At.c none (endA [(.cell 8 (some 4)), (.t 9)] K) (initFr args) H) : ACalls PG 21 args H K :=
  ACalls.of_code (fl := []) mixed Try.func21 (c := Try.f21.body.getD .skip) (by kernel_rfl) (by kernel_rfl) (by rw [hl]; exact of_decide_eq_true (by kernel_rfl)) (by rw [path_At.code]; kernel_rfl)
    (by rw [path_At.code, show compRes PG Try.f21.results.toList = [(.cell 8 (some 4)), (.t 9)] from by kernel_rfl]; exact h)
def broadsheetref12_At.n : Nat := 23
noncomputable def broadsheetref12_At.c : C := (.seq (.reg [⟨(some 7), none, (.box 26 (.t 3))⟩, ⟨(some 8), none, (.allc 26 [(.int .i64 0), (.int .u64 0), (.str []), .nilS])⟩, ⟨(some 9), none, (.mv (.c (.bool false)))⟩]) (.seq (.seq (.reg [⟨(some 12), none, (.mv (.t 2))⟩, ⟨(some 13), none, (.len false (.t 12))⟩, ⟨(some 14), none, (.bin .eql (.t 13) (.c (.int .i64 0)))⟩]) (.cond (.t 14) (.seq (.reg [⟨(some 15), none, (.load (some 4) (.t 7))⟩, ⟨none, none, (.store 4 (.t 8) (.t 15))⟩, ⟨(some 9), none, (.mv (.c (.bool true)))⟩]) .ret) .skip)) (.seq (.reg [⟨(some 16), none, (.mv (.t 0))⟩, ⟨(some 17), none, (.mv (.t 1))⟩, ⟨(some 18), none, (.mv (.t 2))⟩, ⟨(some 19), none, (.iaddr 2 (.t 18) (.c (.int .i64 0)))⟩, ⟨(some 20), none, (.load (some 2) (.t 19))⟩, ⟨(some 21), none, (.call 55 [(.t 16), (.t 17), (.t 20)])⟩, ⟨(some 10), none, (.mv (.t 21))⟩]) (.seq (.seq (.reg [⟨(some 22), none, (.mv (.t 10))⟩, ⟨(some 23), none, (.bin .lss (.t 22) (.c (.int .i64 0)))⟩]) (.cond (.t 23) (.seq (.reg [⟨(some 24), none, (.build [(.int .i64 0), (.int .u64 0), (.str []), .nilS] [])⟩, ⟨none, none, (.store 4 (.t 8) (.t 24))⟩, ⟨(some 9), none, (.mv (.c (.bool false)))⟩]) .ret) .skip)) (.seq (.reg [⟨(some 25), none, (.mv (.t 2))⟩, ⟨(some 26), none, (.iaddr 2 (.t 25) (.c (.int .i64 0)))⟩, ⟨(some 27), none, (.faddr 1 (.t 26))⟩, ⟨(some 28), none, (.load none (.t 27))⟩, ⟨(some 11), none, (.mv (.t 28))⟩]) (.seq (.seq (.reg [⟨(some 29), none, (.mv (.t 0))⟩, ⟨(some 30), none, (.mv (.t 1))⟩, ⟨(some 31), none, (.iaddr 6 (.t 29) (.t 30))⟩, ⟨(some 32), none, (.faddr 0 (.t 31))⟩, ⟨(some 33), none, (.load none (.t 32))⟩, ⟨(some 34), none, (.bin .eql (.t 33) (.c (.int .i64 14)))⟩]) (.cond (.t 34) (.seq (.seq (.reg [⟨(some 35), none, (.mv (.t 0))⟩, ⟨(some 36), none, (.mv (.t 1))⟩, ⟨(some 37), none, (.faddr 1 (.t 7))⟩, ⟨(some 38), none, (.load none (.t 37))⟩, ⟨(some 39), none, (.call 56 [(.t 35), (.t 36), (.t 38)])⟩, ⟨(some 40), none, (.mv (.t 11))⟩, ⟨(some 41), none, (.bin .neq (.t 39) (.t 40))⟩]) (.cond (.t 41) (.seq (.reg [⟨(some 42), none, (.build [(.int .i64 0), (.int .u64 0), (.str []), .nilS] [])⟩, ⟨none, none, (.store 4 (.t 8) (.t 42))⟩, ⟨(some 9), none, (.mv (.c (.bool false)))⟩]) .ret) .skip)) (.reg [⟨(some 11), none, (.mv (.c (.int .i64 0)))⟩])) .skip)) (.seq (.seq (.reg [⟨(some 43), none, (.mv (.t 11))⟩, ⟨(some 44), none, (.faddr 3 (.t 7))⟩, ⟨(some 45), none, (.load none (.t 44))⟩, ⟨(some 46), none, (.len false (.t 45))⟩, ⟨(some 47), none, (.bin .geq (.t 43) (.t 46))⟩]) (.cond (.t 47) (.seq (.reg [⟨(some 48), none, (.build [(.int .i64 0), (.int .u64 0), (.str []), .nilS] [])⟩, ⟨none, none, (.store 4 (.t 8) (.t 48))⟩, ⟨(some 9), none, (.mv (.c (.bool false)))⟩]) .ret) .skip)) (.seq (.dreg [⟨(some 49), none, (.mv (.t 0))⟩, ⟨(some 50), none, (.mv (.t 10))⟩, ⟨(some 51), none, (.mv (.t 2))⟩, ⟨(some 52), none, (.slice (some 2) (.t 51) (some (.c (.int .i64 1))) none)⟩, ⟨(some 53), none, (.faddr 3 (.t 7))⟩, ⟨(some 54), none, (.load none (.t 53))⟩, ⟨(some 55), none, (.mv (.t 11))⟩, ⟨(some 56), none, (.iaddr 4 (.t 54) (.t 55))⟩, ⟨(some 57), none, (.load (some 4) (.t 56))⟩, ⟨(some 58), none, (.call 23 [(.t 49), (.t 50), (.t 52), (.t 57)])⟩, ⟨(some 59), none, (.extr (.t 58) 0)⟩, ⟨(some 60), none, (.extr (.t 58) 1)⟩] [⟨none, none, (.store 4 (.t 8) (.t 59))⟩, ⟨(some 9), none, (.mv (.t 60))⟩]) .ret))))))))
theorem broadsheetref12_At.code : comp PG [] (Try.f23.body.getD .skip) = broadsheetref12_At.c := by kernel_rfl
theorem broadsheetref12_At.of {args : List AV} {H : AH} {K : AV → AH → Prop} (hl : args.length = 4) (h : wpA PG broadsheetref12_At.c none (endA [(.cell 8 (some 4)), (.t 9)] K) (initFr args) H) : ACalls PG 23 args H K :=
  ACalls.of_code (fl := []) mixed Try.func23 (c := Try.f23.body.getD .skip) (by kernel_rfl) (by kernel_rfl) (by rw [hl]; exact of_decide_eq_true (by kernel_rfl)) (by rw [broadsheetref12_At.code]; kernel_rfl)
    (by rw [broadsheetref12_At.code, show compRes PG Try.f23.results.toList = [(.cell 8 (some 4)), (.t 9)] from by kernel_rfl]; exact h)
def path_Find.n : Nat := 44
noncomputable def path_Find.c : C := (.seq (.reg [⟨(some 3), none, (.box 22 (.t 0))⟩, ⟨(some 4), none, (.box 3 (.t 1))⟩, ⟨(some 6), none, (.allc 44 [.nilS])⟩, ⟨(some 7), none, (.allc 3 [(.int .i64 0)])⟩, ⟨(some 8), none, (.allc 30 [(.int .i64 0)])⟩]) (.seq (.seq (.reg [⟨(some 16), none, (.load none (.t 3))⟩, ⟨(some 17), none, (.load none (.t 4))⟩, ⟨(some 18), none, (.call 45 [(.t 16), (.t 17)])⟩, ⟨(some 19), none, (.un .not (.t 18))⟩]) (.cond (.t 19) (.seq (.reg [⟨none, none, (.store 1 (.t 6) (.c .nilS))⟩, ⟨none, none, (.store 1 (.t 7) (.c (.int .i64 0)))⟩, ⟨none, none, (.store 1 (.t 8) (.c (.int .i64 8)))⟩]) .ret) .skip)) (.seq (.seq (.reg [⟨(some 20), none, (.mv (.t 2))⟩, ⟨(some 21), none, (.call 82 [(.t 20)])⟩]) (.block 0 (.rangeF (.t 21) [22, 23] (.reg [⟨(some 10), none, (.mv (.t 23))⟩]) (.block 1 (.seq (.reg [⟨(some 24), none, (.mv (.t 10))⟩, ⟨(some 25), none, (.un .not (.t 24))⟩]) (.cond (.t 25) (.seq (.reg [⟨none, none, (.store 1 (.t 6) (.c .nilS))⟩, ⟨none, none, (.store 1 (.t 7) (.c (.int .i64 0)))⟩, ⟨none, none, (.store 1 (.t 8) (.c (.int .i64 1)))⟩]) .ret) .skip)))))) (.seq (.reg [⟨(some 11), none, (.allc 44 [.nilS])⟩]) (.seq (.seq (.reg [⟨(some 26), none, (.mv (.t 2))⟩, ⟨(some 27), none, (.call 82 [(.t 26)])⟩]) (.block 2 (.rangeF (.t 27) [28, 29] (.reg [⟨(some 12), none, (.allc 127 [(.str []), (.int .i64 0)])⟩, ⟨none, none, (.store 2 (.t 12) (.t 28))⟩]) (.block 3 (.seq (.reg [⟨(some 31), none, (.load none (.t 3))⟩, ⟨(some 32), none, (.load none (.t 4))⟩, ⟨(some 33), none, (.load (some 2) (.t 12))⟩, ⟨(some 34), none, (.call 83 [(.t 31), (.t 32), (.t 33)])⟩, ⟨(some 30), none, (.mv (.t 34))⟩, ⟨(some 35), none, (.extr (.t 30) 0)⟩, ⟨(some 36), none, (.extr (.t 30) 1)⟩, ⟨(some 37), none, (.extr (.t 30) 2)⟩, ⟨(some 13), none, (.allc 79 [(.bool false), (.int .i64 0)])⟩, ⟨none, none, (.store 2 (.t 13) (.t 35))⟩, ⟨(some 14), none, (.mv (.t 36))⟩, ⟨(some 15), none, (.mv (.t 37))⟩]) (.seq (.seq (.reg [⟨(some 38), none, (.mv (.t 15))⟩, ⟨(some 39), none, (.bin .neq (.t 38) (.c (.int .i64 0)))⟩]) (.cond (.t 39) (.seq (.reg [⟨(some 40), none, (.mv (.t 15))⟩, ⟨none, none, (.store 1 (.t 6) (.c .nilS))⟩, ⟨none, none, (.store 1 (.t 7) (.c (.int .i64 0)))⟩, ⟨none, none, (.store 1 (.t 8) (.t 40))⟩]) .ret) .skip)) (.reg [⟨(some 41), none, (.load none (.t 11))⟩, ⟨(some 42), none, (.load (some 2) (.t 13))⟩, ⟨(some 43), none, (.bslice 79 2 1 [(.bool false), (.int .i64 0)] [(0, (.t 42))])⟩, ⟨(some 44), none, (.append 79 false 2 16 (.t 41) (.t 43))⟩, ⟨(some 45), none, (.mv (.t 14))⟩, ⟨none, none, (.store 1 (.t 11) (.t 44))⟩, ⟨none, none, (.store 1 (.t 4) (.t 45))⟩]))))))) (.seq (.dreg [⟨(some 46), none, (.load none (.t 11))⟩, ⟨(some 47), none, (.load none (.t 4))⟩, ⟨none, none, (.store 1 (.t 6) (.t 46))⟩] [⟨none, none, (.store 1 (.t 7) (.t 47))⟩, ⟨none, none, (.store 1 (.t 8) (.c (.int .i64 0)))⟩]) .ret))))))
theorem path_Find.code : comp PG [] (Try.f44.body.getD .skip) = path_Find.c := by kernel_rfl
theorem path_Find.of {args : List AV} {H : AH} {K : AV → AH → Prop} (hl : args.length = 3) (h : wpA PG path_Find.c none (endA [(.cell 6 none), (.cell 7 none), (.cell 8 none)] K) (initFr args) H) : ACalls PG 44 args H K :=
  ACalls.of_code (fl := []) mixed Try.func44 (c := Try.f44.body.getD .skip) (by kernel_rfl) (by kernel_rfl) (by rw [hl]; exact of_decide_eq_true (by kernel_rfl)) (by rw [path_Find.code]; kernel_rfl)
    (by rw [path_Find.code, show compRes PG Try.f44.results.toList = [(.cell 6 none), (.cell 7 none), (.cell 8 none)] from by kernel_rfl]; exact h)
def path_known.n : Nat := 45
noncomputable def path_known.c : C := (.seq (.reg [⟨(some 4), none, (.mv (.c (.bool false)))⟩]) (.seq (.reg [⟨(some 5), none, (.mv (.t 1))⟩, ⟨(some 6), none, (.bin .geq (.t 5) (.c (.int .i64 0)))⟩, ⟨(some 7), none, (.mv (.t 6))⟩, ⟨(some 8), (some (7, true)), (.mv (.t 1))⟩, ⟨(some 9), (some (7, true)), (.mv (.t 0))⟩, ⟨(some 10), (some (7, true)), (.len false (.t 9))⟩, ⟨(some 11), (some (7, true)), (.bin .lss (.t 8) (.t 10))⟩, ⟨(some 12), none, (.pick (.t 7) (.t 11) (.c (.bool false)))⟩, ⟨(some 13), none, (.mv (.t 12))⟩, ⟨(some 14), (some (13, true)), (.mv (.t 0))⟩, ⟨(some 15), (some (13, true)), (.call 22 [(.t 14)])⟩, ⟨(some 16), (some (13, true)), (.field 0 none (.t 15))⟩, ⟨(some 17), (some (13, true)), (.bin .eql (.t 16) (.c (.int .i64 0)))⟩, ⟨(some 18), none, (.pick (.t 13) (.t 17) (.c (.bool false)))⟩, ⟨(some 4), none, (.mv (.t 18))⟩]) .ret))
theorem path_known.code : comp PG [] (Try.f45.body.getD .skip) = path_known.c := by kernel_rfl
theorem path_known.of {args : List AV} {H : AH} {K : AV → AH → Prop} (hl : args.length = 2) (h : wpA PG path_known.c none (endA [(.t 4)] K) (initFr args) H) : ACalls PG 45 args H K :=
  ACalls.of_code (fl := []) mixed Try.func45 (c := Try.f45.body.getD .skip) (by kernel_rfl) (by kernel_rfl) (by rw [hl]; exact of_decide_eq_true (by kernel_rfl)) (by rw [path_known.code]; kernel_rfl)
    (by rw [path_known.code, show compRes PG Try.f45.results.toList = [(.t 4)] from by kernel_rfl]; exact h)
def path_elems.n : Nat := 46
noncomputable def path_elems.c : C := (.seq (.reg [⟨(some 1), none, (.box 37 (.t 0))⟩, ⟨(some 2), none, (.mv (.c (.bool false)))⟩]) (.seq (.reg [⟨(some 3), none, (.faddr 0 (.t 1))⟩, ⟨(some 4), none, (.load none (.t 3))⟩, ⟨(some 5), none, (.bin .eql (.t 4) (.c (.int .i64 11)))⟩, ⟨(some 6), none, (.mv (.t 5))⟩, ⟨(some 7), (some (6, false)), (.faddr 0 (.t 1))⟩, ⟨(some 8), (some (6, false)), (.load none (.t 7))⟩, ⟨(some 9), (some (6, false)), (.bin .eql (.t 8) (.c (.int .i64 12)))⟩, ⟨(some 10), none, (.pick (.t 6) (.c (.bool true)) (.t 9))⟩, ⟨(some 2), none, (.mv (.t 10))⟩]) .ret))
theorem path_elems.code : comp PG [] (Try.f46.body.getD .skip) = path_elems.c := by kernel_rfl
theorem path_elems.of {args : List AV} {H : AH} {K : AV → AH → Prop} (hl : args.length = 1) (h : wpA PG path_elems.c none (endA [(.t 2)] K) (initFr args) H) : ACalls PG 46 args H K :=
  ACalls.of_code (fl := []) mixed Try.func46 (c := Try.f46.body.getD .skip) (by kernel_rfl) (by kernel_rfl) (by rw [hl]; exact of_decide_eq_true (by kernel_rfl)) (by rw [path_elems.code]; kernel_rfl)
    (by rw [path_elems.code, show compRes PG Try.f46.results.toList = [(.t 2)] from by kernel_rfl]; exact h)
def path_items.n : Nat := 47
noncomputable def path_items.c : C := (.seq (.reg [⟨(some 1), none, (.box 37 (.t 0))⟩, ⟨(some 2), none, (.mv (.c (.bool false)))⟩]) (.seq (.reg [⟨(some 3), none, (.faddr 0 (.t 1))⟩, ⟨(some 4), none, (.load none (.t 3))⟩, ⟨(some 5), none, (.bin .eql (.t 4) (.c (.int .i64 13)))⟩, ⟨(some 6), none, (.mv (.t 5))⟩, ⟨(some 7), (some (6, false)), (.faddr 0 (.t 1))⟩, ⟨(some 8), (some (6, false)), (.load none (.t 7))⟩, ⟨(some 9), (some (6, false)), (.bin .eql (.t 8) (.c (.int .i64 14)))⟩, ⟨(some 10), none, (.pick (.t 6) (.c (.bool true)) (.t 9))⟩, ⟨(some 2), none, (.mv (.t 10))⟩]) .ret))
theorem path_items.code : comp PG [] (Try.f47.body.getD .skip) = path_items.c := by kernel_rfl
theorem path_items.of {args : List AV} {H : AH} {K : AV → AH → Prop} (hl : args.length = 1) (h : wpA PG path_items.c none (endA [(.t 2)] K) (initFr args) H) : ACalls PG 47 args H K :=
  ACalls.of_code (fl := []) mixed Try.func47 (c := Try.f47.body.getD .skip) (by kernel_rfl) (by kernel_rfl) (by rw [hl]; exact of_decide_eq_true (by kernel_rfl)) (by rw [path_items.code]; kernel_rfl)
    (by rw [path_items.code, show compRes PG Try.f47.results.toList = [(.t 2)] from by kernel_rfl]; exact h)
def broadsheetref12_Next.n : Nat := 55
noncomputable def broadsheetref12_Next.c : C := (.seq (.reg [⟨(some 5), none, (.box 79 (.t 2))⟩, ⟨(some 6), none, (.mv (.c (.int .i64 0)))⟩]) (.seq (.reg [⟨(some 8), none, (.mv (.t 0))⟩, ⟨(some 9), none, (.mv (.t 1))⟩, ⟨(some 10), none, (.iaddr 6 (.t 8) (.t 9))⟩, ⟨(some 11), none, (.load (some 6) (.t 10))⟩, ⟨(some 7), none, (.allc 37 [(.int .i64 0), (.str []), (.int .i64 0), (.int .i64 0), (.int .i64 0), .nilS])⟩, ⟨none, none, (.store 6 (.t 7) (.t 11))⟩]) (.seq (.seq (.reg [⟨(some 12), none, (.faddr 1 (.t 5))⟩, ⟨(some 13), none, (.load none (.t 12))⟩, ⟨(some 14), none, (.bin .lss (.t 13) (.c (.int .i64 0)))⟩]) (.cond (.t 14) (.seq (.reg [⟨(some 6), none, (.mv (.c (.int .i64 (-1))))⟩]) .ret) .skip)) (.seq (.seq (.reg [⟨(some 15), none, (.faddr 0 (.t 5))⟩, ⟨(some 16), none, (.load none (.t 15))⟩, ⟨(some 17), none, (.mv (.t 16))⟩, ⟨(some 18), (some (17, true)), (.faddr 0 (.t 7))⟩, ⟨(some 19), (some (17, true)), (.load none (.t 18))⟩, ⟨(some 20), (some (17, true)), (.bin .eql (.t 19) (.c (.int .i64 11)))⟩, ⟨(some 21), (some (17, true)), (.mv (.t 20))⟩, ⟨(some 22), (some (21, false)), (.faddr 0 (.t 7))⟩, ⟨(some 23), (some (21, false)), (.load none (.t 22))⟩, ⟨(some 24), (some (21, false)), (.bin .eql (.t 23) (.c (.int .i64 12)))⟩, ⟨(some 25), (some (17, true)), (.pick (.t 21) (.c (.bool true)) (.t 24))⟩, ⟨(some 26), none, (.pick (.t 17) (.t 25) (.c (.bool false)))⟩, ⟨(some 27), none, (.mv (.t 26))⟩, ⟨(some 28), (some (27, true)), (.faddr 1 (.t 5))⟩, ⟨(some 29), (some (27, true)), (.load none (.t 28))⟩, ⟨(some 30), (some (27, true)), (.faddr 2 (.t 7))⟩, ⟨(some 31), (some (27, true)), (.load none (.t 30))⟩, ⟨(some 32), (some (27, true)), (.bin .lss (.t 29) (.t 31))⟩, ⟨(some 33), none, (.pick (.t 27) (.t 32) (.c (.bool false)))⟩]) (.cond (.t 33) (.seq (.reg [⟨(some 34), none, (.faddr 3 (.t 7))⟩, ⟨(some 35), none, (.load none (.t 34))⟩, ⟨(some 6), none, (.mv (.t 35))⟩]) .ret) .skip)) (.seq (.seq (.reg [⟨(some 36), none, (.faddr 0 (.t 5))⟩, ⟨(some 37), none, (.load none (.t 36))⟩, ⟨(some 38), none, (.un .not (.t 37))⟩, ⟨(some 39), none, (.mv (.t 38))⟩, ⟨(some 40), (some (39, true)), (.faddr 0 (.t 7))⟩, ⟨(some 41), (some (39, true)), (.load none (.t 40))⟩, ⟨(some 42), (some (39, true)), (.bin .eql (.t 41) (.c (.int .i64 13)))⟩, ⟨(some 43), (some (39, true)), (.mv (.t 42))⟩, ⟨(some 44), (some (43, false)), (.faddr 0 (.t 7))⟩, ⟨(some 45), (some (43, false)), (.load none (.t 44))⟩, ⟨(some 46), (some (43, false)), (.bin .eql (.t 45) (.c (.int .i64 14)))⟩, ⟨(some 47), (some (39, true)), (.pick (.t 43) (.c (.bool true)) (.t 46))⟩, ⟨(some 48), none, (.pick (.t 39) (.t 47) (.c (.bool false)))⟩, ⟨(some 49), none, (.mv (.t 48))⟩, ⟨(some 50), (some (49, true)), (.faddr 1 (.t 5))⟩, ⟨(some 51), (some (49, true)), (.load none (.t 50))⟩, ⟨(some 52), (some (49, true)), (.faddr 5 (.t 7))⟩, ⟨(some 53), (some (49, true)), (.load none (.t 52))⟩, ⟨(some 54), (some (49, true)), (.len false (.t 53))⟩, ⟨(some 55), (some (49, true)), (.bin .lss (.t 51) (.t 54))⟩, ⟨(some 56), none, (.pick (.t 49) (.t 55) (.c (.bool false)))⟩]) (.cond (.t 56) (.seq (.reg [⟨(some 57), none, (.faddr 5 (.t 7))⟩, ⟨(some 58), none, (.load none (.t 57))⟩, ⟨(some 59), none, (.faddr 1 (.t 5))⟩, ⟨(some 60), none, (.load none (.t 59))⟩, ⟨(some 61), none, (.iaddr 5 (.t 58) (.t 60))⟩, ⟨(some 62), none, (.faddr 2 (.t 61))⟩, ⟨(some 63), none, (.load none (.t 62))⟩, ⟨(some 6), none, (.mv (.t 63))⟩]) .ret) .skip)) (.seq (.reg [⟨(some 6), none, (.mv (.c (.int .i64 (-1))))⟩]) .ret))))))
theorem broadsheetref12_Next.code : comp PG [] (Try.f55.body.getD .skip) = broadsheetref12_Next.c := by kernel_rfl
theorem broadsheetref12_Next.of {args : List AV} {H : AH} {K : AV → AH → Prop} (hl : args.length = 3) (h : wpA PG broadsheetref12_Next.c none (endA [(.t 6)] K) (initFr args) H) : ACalls PG 55 args H K :=
  ACalls.of_code (fl := []) mixed Try.func55 (c := Try.f55.body.getD .skip) (by kernel_rfl) (by kernel_rfl) (by rw [hl]; exact of_decide_eq_true (by kernel_rfl)) (by rw [broadsheetref12_Next.code]; kernel_rfl)
    (by rw [broadsheetref12_Next.code, show compRes PG Try.f55.results.toList = [(.t 6)] from by kernel_rfl]; exact h)
def path_pieces.n : Nat := 82
noncomputable def path_pieces.c : C := (.seq (.reg [⟨(some 1), none, (.box 9 (.t 0))⟩, ⟨(some 2), none, (.mv (.c .nilF))⟩]) (.seq (.reg [⟨(some 3), none, (.mkfn 109 [] [(.t 1)])⟩, ⟨(some 2), none, (.mv (.t 3))⟩]) .ret))
theorem path_pieces.code : comp PG [] (Try.f82.body.getD .skip) = path_pieces.c := by kernel_rfl
theorem path_pieces.of {args : List AV} {H : AH} {K : AV → AH → Prop} (hl : args.length = 1) (h : wpA PG path_pieces.c none (endA [(.t 2)] K) (initFr args) H) : ACalls PG 82 args H K :=
  ACalls.of_code (fl := []) mixed Try.func82 (c := Try.f82.body.getD .skip) (by kernel_rfl) (by kernel_rfl) (by rw [hl]; exact of_decide_eq_true (by kernel_rfl)) (by rw [path_pieces.code]; kernel_rfl)
    (by rw [path_pieces.code, show compRes PG Try.f82.results.toList = [(.t 2)] from by kernel_rfl]; exact h)
def path_step.n : Nat := 83
noncomputable def path_step.c : C := (.seq (.reg [⟨(some 5), none, (.box 127 (.t 2))⟩, ⟨(some 6), none, (.allc 79 [(.bool false), (.int .i64 0)])⟩, ⟨(some 7), none, (.mv (.c (.int .i64 0)))⟩, ⟨(some 8), none, (.mv (.c (.int .i64 0)))⟩]) (.seq (.reg [⟨(some 12), none, (.mv (.t 0))⟩, ⟨(some 13), none, (.mv (.t 1))⟩, ⟨(some 14), none, (.iaddr 6 (.t 12) (.t 13))⟩, ⟨(some 15), none, (.load (some 6) (.t 14))⟩, ⟨(some 9), none, (.allc 37 [(.int .i64 0), (.str []), (.int .i64 0), (.int .i64 0), (.int .i64 0), .nilS])⟩, ⟨none, none, (.store 6 (.t 9) (.t 15))⟩]) (.seq (.block 0 (.seq (.seq (.reg [⟨(some 17), none, (.faddr 0 (.t 5))⟩, ⟨(some 18), none, (.load none (.t 17))⟩, ⟨(some 19), none, (.bin .eql (.t 18) (.c (.str [])))⟩, ⟨(some 20), none, (.mv (.t 19))⟩, ⟨(some 21), (some (20, true)), (.load (some 6) (.t 9))⟩, ⟨(some 22), (some (20, true)), (.call 46 [(.t 21)])⟩, ⟨(some 23), (some (20, true)), (.un .not (.t 22))⟩, ⟨(some 24), none, (.pick (.t 20) (.t 23) (.c (.bool false)))⟩, ⟨(some 16), none, (.mv (.t 24))⟩]) (.cond (.t 16) .skip (.reg [⟨(some 25), none, (.faddr 0 (.t 5))⟩, ⟨(some 26), none, (.load none (.t 25))⟩, ⟨(some 27), none, (.bin .neq (.t 26) (.c (.str [])))⟩, ⟨(some 28), none, (.mv (.t 27))⟩, ⟨(some 29), (some (28, true)), (.load (some 6) (.t 9))⟩, ⟨(some 30), (some (28, true)), (.call 47 [(.t 29)])⟩, ⟨(some 31), (some (28, true)), (.un .not (.t 30))⟩, ⟨(some 32), none, (.pick (.t 28) (.t 31) (.c (.bool false)))⟩, ⟨(some 16), none, (.mv (.t 32))⟩]))) (.cond (.t 16) (.seq (.reg [⟨(some 33), none, (.build [(.bool false), (.int .i64 0)] [])⟩, ⟨none, none, (.store 2 (.t 6) (.t 33))⟩, ⟨(some 7), none, (.mv (.c (.int .i64 0)))⟩, ⟨(some 8), none, (.mv (.c (.int .i64 4)))⟩]) .ret) (.seq (.reg [⟨(some 35), none, (.faddr 0 (.t 5))⟩, ⟨(some 36), none, (.load none (.t 35))⟩, ⟨(some 37), none, (.bin .eql (.t 36) (.c (.str [])))⟩, ⟨(some 38), none, (.mv (.t 37))⟩, ⟨(some 39), (some (38, true)), (.faddr 1 (.t 5))⟩, ⟨(some 40), (some (38, true)), (.load none (.t 39))⟩, ⟨(some 41), (some (38, true)), (.faddr 2 (.t 9))⟩, ⟨(some 42), (some (38, true)), (.load none (.t 41))⟩, ⟨(some 43), (some (38, true)), (.bin .geq (.t 40) (.t 42))⟩, ⟨(some 44), none, (.pick (.t 38) (.t 43) (.c (.bool false)))⟩, ⟨(some 34), none, (.mv (.t 44))⟩]) (.cond (.t 34) (.seq (.reg [⟨(some 45), none, (.build [(.bool false), (.int .i64 0)] [])⟩, ⟨none, none, (.store 2 (.t 6) (.t 45))⟩, ⟨(some 7), none, (.mv (.c (.int .i64 0)))⟩, ⟨(some 8), none, (.mv (.c (.int .i64 7)))⟩]) .ret) (.seq (.reg [⟨(some 47), none, (.faddr 0 (.t 5))⟩, ⟨(some 48), none, (.load none (.t 47))⟩, ⟨(some 49), none, (.bin .eql (.t 48) (.c (.str [])))⟩, ⟨(some 46), none, (.mv (.t 49))⟩]) (.cond (.t 46) (.seq (.dreg [⟨(some 50), none, (.faddr 1 (.t 5))⟩, ⟨(some 51), none, (.load none (.t 50))⟩, ⟨(some 52), none, (.build [(.bool false), (.int .i64 0)] [(0, (1, (.c (.bool true)))), (1, (1, (.t 51)))])⟩, ⟨(some 53), none, (.faddr 3 (.t 9))⟩, ⟨(some 54), none, (.load none (.t 53))⟩, ⟨none, none, (.store 2 (.t 6) (.t 52))⟩] [⟨(some 7), none, (.mv (.t 54))⟩, ⟨(some 8), none, (.mv (.c (.int .i64 0)))⟩]) .ret) .skip))))))) (.seq (.reg [⟨(some 56), none, (.mv (.t 0))⟩, ⟨(some 57), none, (.mv (.t 1))⟩, ⟨(some 58), none, (.faddr 0 (.t 5))⟩, ⟨(some 59), none, (.load none (.t 58))⟩, ⟨(some 60), none, (.call 113 [(.t 56), (.t 57), (.t 59)])⟩, ⟨(some 55), none, (.mv (.t 60))⟩, ⟨(some 61), none, (.extr (.t 55) 0)⟩, ⟨(some 62), none, (.extr (.t 55) 1)⟩, ⟨(some 10), none, (.mv (.t 61))⟩, ⟨(some 11), none, (.mv (.t 62))⟩]) (.seq (.seq (.reg [⟨(some 63), none, (.mv (.t 11))⟩, ⟨(some 64), none, (.un .not (.t 63))⟩]) (.cond (.t 64) (.seq (.reg [⟨(some 65), none, (.build [(.bool false), (.int .i64 0)] [])⟩, ⟨none, none, (.store 2 (.t 6) (.t 65))⟩, ⟨(some 7), none, (.mv (.c (.int .i64 0)))⟩, ⟨(some 8), none, (.mv (.c (.int .i64 5)))⟩]) .ret) .skip)) (.seq (.dreg [⟨(some 66), none, (.mv (.t 10))⟩, ⟨(some 67), none, (.build [(.bool false), (.int .i64 0)] [(1, (1, (.t 66)))])⟩, ⟨(some 68), none, (.faddr 5 (.t 9))⟩, ⟨(some 69), none, (.load none (.t 68))⟩, ⟨(some 70), none, (.mv (.t 10))⟩, ⟨(some 71), none, (.iaddr 5 (.t 69) (.t 70))⟩, ⟨(some 72), none, (.faddr 2 (.t 71))⟩, ⟨(some 73), none, (.load none (.t 72))⟩, ⟨none, none, (.store 2 (.t 6) (.t 67))⟩] [⟨(some 7), none, (.mv (.t 73))⟩, ⟨(some 8), none, (.mv (.c (.int .i64 0)))⟩]) .ret))))))
theorem path_step.code : comp PG [] (Try.f83.body.getD .skip) = path_step.c := by kernel_rfl
theorem path_step.of {args : List AV} {H : AH} {K : AV → AH → Prop} (hl : args.length = 3) (h : wpA PG path_step.c none (endA [(.cell 6 (some 2)), (.t 7), (.t 8)] K) (initFr args) H) : ACalls PG 83 args H K :=
  ACalls.of_code (fl := []) mixed Try.func83 (c := Try.f83.body.getD .skip) (by kernel_rfl) (by kernel_rfl) (by rw [hl]; exact of_decide_eq_true (by kernel_rfl)) (by rw [path_step.code]; kernel_rfl)
    (by rw [path_step.code, show compRes PG Try.f83.results.toList = [(.cell 6 (some 2)), (.t 7), (.t 8)] from by kernel_rfl]; exact h)
def path_pieces_1.n : Nat := 109
noncomputable def path_pieces_1.c : C := (.seq (.reg [⟨(some 3), none, (.mv (.c (.bool true)))⟩]) (.block 0 (.loop (.seq (.seq (.reg [⟨(some 9), none, (.mv (.t 3))⟩, ⟨(some 10), none, (.mv (.t 9))⟩, ⟨(some 11), (some (10, false)), (.load none (.t 1))⟩, ⟨(some 12), (some (10, false)), (.bin .neq (.t 11) (.c (.str [])))⟩, ⟨(some 13), none, (.pick (.t 10) (.c (.bool true)) (.t 12))⟩]) (.cond (.t 13) .skip (.exit 0))) (.block 1 (.seq (.seq (.reg [⟨(some 15), none, (.load none (.t 1))⟩, ⟨(some 16), none, (.call 110 [(.t 15)])⟩, ⟨(some 14), none, (.mv (.t 16))⟩, ⟨(some 17), none, (.extr (.t 14) 0)⟩, ⟨(some 18), none, (.extr (.t 14) 1)⟩, ⟨(some 4), none, (.mv (.t 17))⟩, ⟨(some 5), none, (.mv (.t 18))⟩]) (.seq (.reg [⟨(some 19), none, (.mv (.t 5))⟩, ⟨(some 20), none, (.bin .gtr (.t 19) (.c (.int .i64 0)))⟩]) (.cond (.t 20) (.seq (.seq (.reg [⟨(some 21), none, (.mv (.t 0))⟩, ⟨(some 22), none, (.mv (.t 4))⟩, ⟨(some 23), none, (.build [(.str []), (.int .i64 0)] [(1, (1, (.t 22)))])⟩, ⟨(some 24), none, (.callv (.t 21) [(.t 23), (.c (.bool true))])⟩, ⟨(some 25), none, (.un .not (.t 24))⟩]) (.cond (.t 25) .ret .skip)) (.seq (.reg [⟨(some 26), none, (.load none (.t 1))⟩, ⟨(some 27), none, (.mv (.t 5))⟩, ⟨(some 28), none, (.slice none (.t 26) (some (.t 27)) none)⟩, ⟨none, none, (.store 1 (.t 1) (.t 28))⟩, ⟨(some 3), none, (.mv (.c (.bool false)))⟩]) (.exit 1))) .skip))) (.seq (.seq (.reg [⟨(some 29), none, (.mv (.t 3))⟩, ⟨(some 30), none, (.un .not (.t 29))⟩]) (.cond (.t 30) (.seq (.reg [⟨(some 32), none, (.load none (.t 1))⟩, ⟨(some 33), none, (.call 111 [(.t 32), (.c (.str [46]))])⟩, ⟨(some 31), none, (.mv (.t 33))⟩, ⟨(some 34), none, (.extr (.t 31) 0)⟩, ⟨(some 35), none, (.extr (.t 31) 1)⟩, ⟨(some 6), none, (.mv (.t 34))⟩, ⟨(some 7), none, (.mv (.t 35))⟩]) (.seq (.seq (.reg [⟨(some 36), none, (.mv (.t 7))⟩, ⟨(some 37), none, (.un .not (.t 36))⟩]) (.cond (.t 37) (.seq (.reg [⟨(some 38), none, (.mv (.t 0))⟩, ⟨(some 39), none, (.build [(.str []), (.int .i64 0)] [])⟩, ⟨(some 40), none, (.callv (.t 38) [(.t 39), (.c (.bool false))])⟩]) .ret) .skip)) (.reg [⟨(some 41), none, (.mv (.t 6))⟩, ⟨none, none, (.store 1 (.t 1) (.t 41))⟩]))) .skip)) (.seq (.reg [⟨(some 42), none, (.load none (.t 1))⟩, ⟨(some 43), none, (.call 112 [(.t 42)])⟩, ⟨(some 8), none, (.mv (.t 43))⟩]) (.seq (.seq (.reg [⟨(some 44), none, (.mv (.t 8))⟩, ⟨(some 45), none, (.bin .eql (.t 44) (.c (.int .i64 0)))⟩]) (.cond (.t 45) (.seq (.reg [⟨(some 46), none, (.mv (.t 0))⟩, ⟨(some 47), none, (.build [(.str []), (.int .i64 0)] [])⟩, ⟨(some 48), none, (.callv (.t 46) [(.t 47), (.c (.bool false))])⟩]) .ret) .skip)) (.seq (.seq (.reg [⟨(some 49), none, (.mv (.t 0))⟩, ⟨(some 50), none, (.load none (.t 1))⟩, ⟨(some 51), none, (.mv (.t 8))⟩, ⟨(some 52), none, (.slice none (.t 50) none (some (.t 51)))⟩, ⟨(some 53), none, (.build [(.str []), (.int .i64 0)] [(0, (1, (.t 52)))])⟩, ⟨(some 54), none, (.callv (.t 49) [(.t 53), (.c (.bool true))])⟩, ⟨(some 55), none, (.un .not (.t 54))⟩]) (.cond (.t 55) .ret .skip)) (.reg [⟨(some 56), none, (.load none (.t 1))⟩, ⟨(some 57), none, (.mv (.t 8))⟩, ⟨(some 58), none, (.slice none (.t 56) (some (.t 57)) none)⟩, ⟨none, none, (.store 1 (.t 1) (.t 58))⟩, ⟨(some 3), none, (.mv (.c (.bool false)))⟩])))))))))))
theorem path_pieces_1.code : comp PG [] (Try.f109.body.getD .skip) = path_pieces_1.c := by kernel_rfl
theorem path_pieces_1.of {args : List AV} {H : AH} {K : AV → AH → Prop} (hl : args.length = 1) (h : wpA PG path_pieces_1.c none (endA [] K) (initFr args) H) : ACalls PG 109 args H K :=
  ACalls.of_code (fl := []) mixed Try.func109 (c := Try.f109.body.getD .skip) (by kernel_rfl) (by kernel_rfl) (by rw [hl]; exact of_decide_eq_true (by kernel_rfl)) (by rw [path_pieces_1.code]; kernel_rfl)
    (by rw [path_pieces_1.code, show compRes PG Try.f109.results.toList = [] from by kernel_rfl]; exact h)
theorem path_pieces_1.of' {args : List AV} {H : AH} {K : AV → AH → Prop} (hl : args.length ≤ 59) (h : wpA PG path_pieces_1.c none (endA [] K) (initFr args) H) : ACalls PG 109 args H K :=
  ACalls.of_code (fl := []) mixed Try.func109 (c := Try.f109.body.getD .skip) (by kernel_rfl) (by kernel_rfl) hl (by rw [path_pieces_1.code]; kernel_rfl) (by rw [path_pieces_1.code, show compRes PG Try.f109.results.toList = [] from by kernel_rfl]; exact h)
def path_number.n : Nat := 110
noncomputable def path_number.c : C := (.seq (.reg [⟨(some 2), none, (.mv (.c (.int .i64 0)))⟩, ⟨(some 3), none, (.mv (.c (.int .i64 0)))⟩]) (.seq (.reg [⟨(some 8), none, (.mv (.t 0))⟩, ⟨(some 9), none, (.call 97 [(.t 8), (.c (.int .u8 93))])⟩, ⟨(some 4), none, (.mv (.t 9))⟩]) (.seq (.seq (.reg [⟨(some 10), none, (.mv (.t 0))⟩, ⟨(some 11), none, (.len true (.t 10))⟩, ⟨(some 12), none, (.bin .lss (.t 11) (.c (.int .i64 3)))⟩, ⟨(some 13), none, (.mv (.t 12))⟩, ⟨(some 14), (some (13, false)), (.mv (.t 0))⟩, ⟨(some 15), (some (13, false)), (.idx (.t 14) (.c (.int .i64 0)))⟩, ⟨(some 16), (some (13, false)), (.bin .neq (.t 15) (.c (.int .u8 91)))⟩, ⟨(some 17), none, (.pick (.t 13) (.c (.bool true)) (.t 16))⟩, ⟨(some 18), none, (.mv (.t 17))⟩, ⟨(some 19), (some (18, false)), (.mv (.t 4))⟩, ⟨(some 20), (some (18, false)), (.bin .lss (.t 19) (.c (.int .i64 2)))⟩, ⟨(some 21), none, (.pick (.t 18) (.c (.bool true)) (.t 20))⟩, ⟨(some 22), none, (.mv (.t 21))⟩, ⟨(some 23), (some (22, false)), (.mv (.t 4))⟩, ⟨(some 24), (some (22, false)), (.bin .gtr (.t 23) (.c (.int .i64 3)))⟩, ⟨(some 25), none, (.pick (.t 22) (.c (.bool true)) (.t 24))⟩, ⟨(some 26), none, (.mv (.t 25))⟩, ⟨(some 27), (some (26, false)), (.mv (.t 0))⟩, ⟨(some 28), (some (26, false)), (.idx (.t 27) (.c (.int .i64 1)))⟩, ⟨(some 29), (some (26, false)), (.bin .eql (.t 28) (.c (.int .u8 48)))⟩, ⟨(some 30), (some (26, false)), (.mv (.t 29))⟩, ⟨(some 31), (some (30, true)), (.mv (.t 4))⟩, ⟨(some 32), (some (30, true)), (.bin .gtr (.t 31) (.c (.int .i64 2)))⟩, ⟨(some 33), (some (26, false)), (.pick (.t 30) (.t 32) (.c (.bool false)))⟩, ⟨(some 34), none, (.pick (.t 26) (.c (.bool true)) (.t 33))⟩]) (.cond (.t 34) (.seq (.reg [⟨(some 2), none, (.mv (.c (.int .i64 0)))⟩, ⟨(some 3), none, (.mv (.c (.int .i64 0)))⟩]) .ret) .skip)) (.seq (.reg [⟨(some 5), none, (.mv (.c (.int .i64 0)))⟩]) (.seq (.seq (.reg [⟨(some 35), none, (.mv (.t 0))⟩, ⟨(some 36), none, (.mv (.t 4))⟩, ⟨(some 37), none, (.slice none (.t 35) (some (.c (.int .i64 1))) (some (.t 36)))⟩, ⟨(some 38), none, (.strB (.t 37))⟩, ⟨(some 39), none, (.len false (.t 38))⟩, ⟨(some 40), none, (.mv (.c (.int .i64 0)))⟩]) (.block 0 (.loop (.seq (.reg [⟨(some 41), none, (.bin .lss (.t 40) (.t 39))⟩]) (.seq (.cond (.t 41) .skip (.exit 0)) (.seq (.block 1 (.seq (.reg [⟨(some 42), none, (.iaddr 1 (.t 38) (.t 40))⟩, ⟨(some 43), none, (.load none (.t 42))⟩, ⟨(some 7), none, (.mv (.t 43))⟩]) (.seq (.seq (.reg [⟨(some 44), none, (.mv (.t 7))⟩, ⟨(some 45), none, (.bin .lss (.t 44) (.c (.int .u8 48)))⟩, ⟨(some 46), none, (.mv (.t 45))⟩, ⟨(some 47), (some (46, false)), (.mv (.t 7))⟩, ⟨(some 48), (some (46, false)), (.bin .gtr (.t 47) (.c (.int .u8 57)))⟩, ⟨(some 49), none, (.pick (.t 46) (.c (.bool true)) (.t 48))⟩]) (.cond (.t 49) (.seq (.reg [⟨(some 2), none, (.mv (.c (.int .i64 0)))⟩, ⟨(some 3), none, (.mv (.c (.int .i64 0)))⟩]) .ret) .skip)) (.reg [⟨(some 50), none, (.mv (.t 5))⟩, ⟨(some 51), none, (.bin .mul (.t 50) (.c (.int .i64 10)))⟩, ⟨(some 52), none, (.mv (.t 7))⟩, ⟨(some 53), none, (.bin .sub (.t 52) (.c (.int .u8 48)))⟩, ⟨(some 54), none, (.conv .i64 (.t 53))⟩, ⟨(some 55), none, (.bin .add (.t 51) (.t 54))⟩, ⟨(some 5), none, (.mv (.t 55))⟩])))) (.reg [⟨(some 56), none, (.bin .add (.t 40) (.c (.int .i64 1)))⟩, ⟨(some 40), none, (.mv (.t 56))⟩]))))))) (.seq (.reg [⟨(some 57), none, (.mv (.t 5))⟩, ⟨(some 58), none, (.mv (.t 4))⟩, ⟨(some 59), none, (.bin .add (.t 58) (.c (.int .i64 1)))⟩, ⟨(some 2), none, (.mv (.t 57))⟩, ⟨(some 3), none, (.mv (.t 59))⟩]) .ret))))))
theorem path_number.code : comp PG [] (Try.f110.body.getD .skip) = path_number.c := by kernel_rfl
theorem path_number.of {args : List AV} {H : AH} {K : AV → AH → Prop} (hl : args.length = 1) (h : wpA PG path_number.c none (endA [(.t 2), (.t 3)] K) (initFr args) H) : ACalls PG 110 args H K :=
  ACalls.of_code (fl := []) mixed Try.func110 (c := Try.f110.body.getD .skip) (by kernel_rfl) (by kernel_rfl) (by rw [hl]; exact of_decide_eq_true (by kernel_rfl)) (by rw [path_number.code]; kernel_rfl)
    (by rw [path_number.code, show compRes PG Try.f110.results.toList = [(.t 2), (.t 3)] from by kernel_rfl]; exact h)
end Go.Proofs.Ytodiahhfpcdejaa

/- What a law's arguments are: from the reading of the form to abstract values. -/
namespace Go.Proofs.Ytodiahhfpcdejaa
set_option autoImplicit false
set_option linter.unusedSimpArgs false
set_option linter.unusedVariables false

/-- The shape of a type: what its cells are. 'u' and 'p': the parts of a struct or an array, one behind the other. -/
inductive Sh where
  | int (k : IntKind)
  | bool
  | str
  | u
  | p (a b : Sh)
  | slice (sz bytes : Nat) (e : Sh)
  | ptr (e : Sh)
  | no

def Sh.rep : Nat → Sh → Sh
  | 0, _ => .u
  | n + 1, a => .p a (Sh.rep n a)

def Sh.Ok : Sh → List AV → Prop
  | .int k, vs => ∃ n, vs = [.int k n] ∧ (Lit.int k n).wf = true
  | .bool, vs => ∃ b, vs = [.bool b]
  | .str, vs => ∃ l : List UInt8, vs = [.str l] ∧ l.length ≤ 140737488351232
  | .u, vs => vs = []
  | .p a b, vs => ∃ x y, vs = x ++ y ∧ a.Ok x ∧ b.Ok y
  | .slice sz bytes e, vs => vs = [.nilS] ∨ ∃ l, vs = [.rows sz l] ∧ l.length * bytes ≤ 140737488351232 ∧ ∀ r ∈ l, e.Ok r
  | .ptr e, vs => vs = [.nilP] ∨ ∃ r, vs = [.fp r] ∧ e.Ok r
  | .no, _ => False

def fieldsSh (P : Program) (sh : TypeId → Option Sh) (tot : Nat) : Nat → List Field → Option Sh
  | o, [] => if o = tot then some .u else none
  | o, f :: r => if f.offset = o then (sh f.type).bind fun a => (fieldsSh P sh tot (o + P.cellsOf f.type) r).map (.p a) else none

/-- 'rc': a type that holds itself is followed as deep as the fuel lets. -/
def shO (rc : Bool) (P : Program) : Nat → TypeId → Option Sh
  | 0, _ => if rc = true then some .no else none
  | n + 1, t => match P.underlying t with
    | some .bool => some .bool
    | some (.int k) => some (.int k)
    | some .string => some .str
    | some (.struct fs) => fieldsSh P (shO rc P n) (P.cellsOf t) 0 fs.toList
    | some (.array m e) => if P.cellsOf t = m * P.cellsOf e then (shO rc P n e).map (Sh.rep m) else none
    | some (.slice e) => if 0 < P.cellsOf e then (shO rc P n e).map (.slice (P.cellsOf e) (P.bytesOf e)) else none
    | some (.pointer e) => if 0 < P.cellsOf e then (shO rc P n e).map .ptr else none
    | _ => none

abbrev shOf (P : Program) (n : Nat) (t : TypeId) : Option Sh := shO false P n t

section
variable {h : Array Obj}

/-- Cells and their values. -/
def PartR (h : Array Obj) (vs : List AV) (cs : List Value) : Prop :=
  vs.length = cs.length ∧ ∀ (i : Nat) v c, vs[i]? = some v → cs[i]? = some c → v.isCell = true ∧ Rl h (fun _ => none) (fun b => b < h.size) v c

theorem PartR.nil : PartR h [] [] := ⟨rfl, by simp⟩
theorem PartR.one {v : AV} {c : Value} (hv : v.isCell = true) (hr : Rl h (fun _ => none) (fun b => b < h.size) v c) : PartR h [v] [c] :=
  ⟨rfl, fun i v' c' h1 h2 => by cases i <;> simp at h1 h2; subst h1; subst h2; exact ⟨hv, hr⟩⟩
theorem PartR.append {a b : List AV} {x y : List Value} (h1 : PartR h a x) (h2 : PartR h b y) : PartR h (a ++ b) (x ++ y) := by
  refine ⟨by simp [h1.1, h2.1], fun i v c q1 q2 => ?_⟩
  rw [List.getElem?_append] at q1 q2
  rw [h1.1] at q1
  split at q1 <;> rename_i hlt
  · rw [if_pos hlt] at q2; exact h1.2 i v c q1 q2
  · rw [if_neg hlt] at q2; exact h2.2 _ v c q1 q2
end

theorem exists_list {α : Type} {Q : Nat → α → Prop} : ∀ (n : Nat), (∀ i, i < n → ∃ r, Q i r) → ∃ l : List α, l.length = n ∧ ∀ (i : Nat) r, l[i]? = some r → Q i r
  | 0, _ => ⟨[], rfl, by simp⟩
  | n + 1, hq => by
    obtain ⟨l, h1, h2⟩ := exists_list n (fun i hi => hq i (by omega))
    obtain ⟨r, hr⟩ := hq n (by omega)
    refine ⟨l ++ [r], by simp [h1], fun i q hi => ?_⟩
    rw [List.getElem?_append] at hi
    split at hi
    · exact h2 i q hi
    · rename_i hlt
      have hl := (List.getElem?_eq_some_iff.1 hi).1
      simp at hl
      have : i = n := by omega
      subst this
      rw [h1] at hi
      simp at hi
      rw [← hi]; exact hr

section
variable {H : Type} {enc : TypeId × Value → H} {P : Program} {w : World} {sp : Nat → Bool}

abbrev Rd (P : Program) (w : World) (enc : TypeId × Value → H) (sp : Nat → Bool) (m : Nat) (s : TypeId → Option Sh) : Prop :=
  ∀ t cs x sh, s t = some sh → DataW.trod enc P w 0 sp true m t cs = some x → (∀ n ∈ x.1.weights P t, n ≤ reachBytes) → ∃ vs, sh.Ok vs ∧ PartR w.heap vs cs

theorem fields_read {m : Nat} {s : TypeId → Option Sh} (ih : Rd P w enc sp m s) {cs : List Value} {tot : Nat} (hcs : cs.length = tot) : ∀ (fs : List Field) (o : Nat) (xs : List (DataW H × List MemPlace)) (sh : Sh), fieldsSh P s tot o fs = some sh → xs.length = fs.length →
    (∀ (i : Nat) f, fs[i]? = some f → DataW.trod enc P w 0 sp true m f.type ((cs.drop f.offset).take (P.cellsOf f.type)) = xs[i]?) →
    (∀ n ∈ DataW.weightsEach P (fs.map (·.type)) (xs.map (·.1)), n ≤ reachBytes) → ∃ vs, sh.Ok vs ∧ PartR w.heap vs (cs.drop o)
  | [], o, xs, sh, hs, hl, _, _ => by
    simp only [fieldsSh] at hs
    split at hs <;> simp only [Option.some.injEq, reduceCtorEq] at hs
    rename_i e
    subst hs
    refine ⟨[], rfl, ?_⟩
    rw [List.drop_eq_nil_of_le (by omega)]
    exact .nil
  | f :: fs, o, xs, sh, hs, hl, hf, hw => by
    simp only [fieldsSh] at hs
    split at hs
    rotate_left
    · cases hs
    rename_i e
    simp only [Option.bind_eq_some_iff, Option.map_eq_some_iff] at hs
    obtain ⟨a, ha, b, hb, rfl⟩ := hs
    cases xs with
    | nil => simp at hl
    | cons x xs =>
      simp only [List.map_cons, DataW.weightsEach, List.mem_append] at hw
      have h0 := hf 0 f rfl
      rw [e] at h0
      simp only [List.getElem?_cons_zero] at h0
      obtain ⟨va, ok1, r1⟩ := ih _ _ _ _ ha h0 (fun n hn => hw n (.inl hn))
      obtain ⟨vb, ok2, r2⟩ := fields_read ih hcs fs _ xs b hb (by simpa using hl) (fun i g hg => by have := hf (i + 1) g (by simpa using hg); simpa using this) (fun n hn => hw n (.inr hn))
      refine ⟨va ++ vb, ⟨va, vb, rfl, ok1, ok2⟩, ?_⟩
      have := r1.append r2
      rw [show o + P.cellsOf f.type = o + P.cellsOf f.type from rfl, ← List.drop_drop, List.take_append_drop] at this
      exact this

theorem arr_read {m : Nat} {s : TypeId → Option Sh} (ih : Rd P w enc sp m s) {cs : List Value} {e : TypeId} {a : Sh} (ha : s e = some a) : ∀ (n j : Nat) (xs : List (DataW H × List MemPlace)), cs.length = (j + n) * P.cellsOf e → xs.length = n →
    (∀ i, i < n → DataW.trod enc P w 0 sp true m e ((cs.drop ((j + i) * P.cellsOf e)).take (P.cellsOf e)) = xs[i]?) →
    (∀ q ∈ DataW.weightsAll P e (xs.map (·.1)), q ≤ reachBytes) → ∃ vs, (Sh.rep n a).Ok vs ∧ PartR w.heap vs (cs.drop (j * P.cellsOf e))
  | 0, j, xs, hcs, hl, _, _ => by
    refine ⟨[], rfl, ?_⟩
    rw [List.drop_eq_nil_of_le (by rw [hcs]; simp)]
    exact .nil
  | n + 1, j, xs, hcs, hl, hf, hw => by
    cases xs with
    | nil => simp at hl
    | cons x xs =>
      simp only [List.map_cons, DataW.weightsAll, List.mem_append] at hw
      have h0 := hf 0 (by omega)
      simp only [Nat.add_zero, List.getElem?_cons_zero] at h0
      obtain ⟨va, ok1, r1⟩ := ih _ _ _ _ ha h0 (fun n hn => hw n (.inl hn))
      obtain ⟨vb, ok2, r2⟩ := arr_read ih ha n (j + 1) xs (by rw [hcs]; congr 1; omega) (by simpa using hl)
        (fun i hi => by have := hf (i + 1) (by omega); rw [show j + 1 + i = j + (i + 1) from by omega]; simpa using this) (fun n hn => hw n (.inr hn))
      refine ⟨va ++ vb, ⟨va, vb, rfl, ok1, ok2⟩, ?_⟩
      have := r1.append r2
      rw [Nat.add_mul, Nat.one_mul, ← List.drop_drop, List.take_append_drop] at this
      exact this

theorem weights_all_mem {e : TypeId} : ∀ {l : List (DataW H)} {d : DataW H}, d ∈ l → ∀ n ∈ d.weights P e, n ∈ DataW.weightsAll P e l
  | [], _, h, _, _ => by cases h
  | x :: l, d, h, n, hn => by
    simp only [DataW.weightsAll, List.mem_append]
    rcases List.mem_cons.1 h with h | h
    · subst h; exact .inl hn
    · exact .inr (weights_all_mem h n hn)

theorem readR {rc : Bool} : ∀ (m n : Nat), (rc = true → m ≤ n) → Rd P w enc sp m (shO rc P n)
  | 0, _, _, t, cs, x, sh, _, h, _ => by simp [DataW.trod] at h
  | m + 1, 0, hmn, t, cs, x, sh, hs, _, _ => by
    simp only [shO] at hs
    split at hs
    · rename_i hr; have := hmn hr; omega
    · cases hs
  | m + 1, n + 1, hmn, t, cs, x, sh, hs, h, hw => by
    have ih := readR m n fun q => by have := hmn q; omega
    simp only [shO] at hs
    split at hs <;> rename_i hu
    · simp only [Option.some.injEq] at hs; subst hs
      obtain ⟨b, rfl⟩ : ∃ b, cs = [.bool b] := by
        unfold DataW.trod at h; rw [hu] at h
        split at h <;> simp_all
      exact ⟨_, ⟨_, rfl⟩, .one rfl (.bool _)⟩
    · rename_i k
      simp only [Option.some.injEq] at hs; subst hs
      obtain ⟨n, rfl, hwf⟩ : ∃ n, cs = [.int k n] ∧ (Lit.int k n).wf = true := by
        unfold DataW.trod at h; rw [hu] at h
        split at h <;> simp_all
      exact ⟨_, ⟨_, rfl, hwf⟩, .one rfl (.int _ _)⟩
    · simp only [Option.some.injEq] at hs; subst hs
      obtain ⟨b, rfl, rfl⟩ : ∃ b, cs = [.string b] ∧ x = (.lit (.string b.data.toList), []) := by
        unfold DataW.trod at h; rw [hu] at h
        split at h <;> simp_all
      have := hw b.data.toList.length (by simp [DataW.weights])
      exact ⟨_, ⟨b.data.toList, rfl, this⟩, .one rfl (.str _ _ rfl)⟩
    · rename_i fs
      obtain ⟨xs, m', e, rfl, hl, hlen, hf⟩ := DataW.trod_struct hu h
      simp only [Nat.add_right_cancel_iff] at e
      subst e
      have := fields_read ih hl fs.toList 0 xs sh hs (by simpa using hlen) (fun i f hi => hf i f (by simpa using hi)) (fun q hq => hw q (by simpa [DataW.weights, hu] using hq))
      simpa using this
    · rename_i k e
      split at hs
      rotate_left
      · cases hs
      rename_i hc
      simp only [Option.map_eq_some_iff] at hs
      obtain ⟨a, ha, rfl⟩ := hs
      obtain ⟨xs, m', e1, rfl, hl, hlen, hf⟩ := DataW.trod_array hu h
      simp only [Nat.add_right_cancel_iff] at e1
      subst e1
      have := arr_read ih ha k 0 xs (by rw [hl, hc]; simp) hlen (fun i hi => by simpa using hf i hi) (fun q hq => hw q (by simpa [DataW.weights, hu] using hq))
      simpa using this
    · rename_i e
      split at hs
      rotate_left
      · cases hs
      rename_i hpos
      simp only [Option.map_eq_some_iff] at hs
      obtain ⟨a, ha, rfl⟩ := hs
      rcases DataW.trod_slice hu h with ⟨rfl, rfl⟩ | ⟨ad, len, cap, elems, rest, m', e1, rfl, rfl, _, hl, _, hlen, hel, _⟩
      · exact ⟨_, .inl rfl, .one rfl .nilS⟩
      · simp only [Nat.add_right_cancel_iff] at e1
        subst e1
        simp only [DataW.weights, hu, List.mem_cons, List.mem_append] at hw
        have hbytes := hw _ (.inl rfl)
        obtain ⟨l, hll, hq⟩ := exists_list (Q := fun i r => a.Ok r ∧ ∃ ci, w.cells? 0 (ad.add (i * P.cellsOf e)) (P.cellsOf e) = some ci ∧ PartR w.heap r ci) len fun i hi => by
          have := hel i hi
          rw [List.getElem?_eq_getElem (by omega)] at this
          simp only [Option.bind_eq_some_iff] at this
          obtain ⟨ci, hc, hd⟩ := this
          obtain ⟨vs, ok, r⟩ := ih _ _ _ _ ha hd (fun q hqq => hw q (.inr (.inl (weights_all_mem (List.mem_map_of_mem (List.getElem_mem (by omega))) q hqq))))
          exact ⟨vs, ok, ci, hc, r⟩
        refine ⟨[.rows (P.cellsOf e) l], .inr ⟨l, rfl, ?_, ?_⟩, .one rfl ?_⟩
        · simp only [List.length_map] at hbytes
          rw [hll, ← hlen]
          exact Nat.le_trans (Nat.mul_le_mul_right _ (Nat.le_add_right _ _)) hbytes
        · intro r hr
          obtain ⟨i, hi⟩ := List.getElem?_of_mem hr
          exact (hq i r hi).1
        · by_cases h0 : len = 0
          · subst h0
            rw [List.eq_nil_of_length_eq_zero hll]
            exact .rowsE _ _ _
          · obtain ⟨r0, hr0⟩ : ∃ r0, l[0]? = some r0 := ⟨_, List.getElem?_eq_getElem (by omega)⟩
            obtain ⟨_, c0, hc0, _⟩ := hq 0 r0 hr0
            have hz := World.cells?_some hc0
            have hz0 := hz.2.2 0 hpos
            rw [List.getElem?_eq_getElem (by omega)] at hz0
            have ea : (ad.add (0 * P.cellsOf e)).add 0 = ad := by simp [Addr.add]
            rw [ea] at hz0
            obtain ⟨b, o, spt⟩ := ad
            have hsp : spt = none ∧ b < w.heap.size := by
              unfold World.cell? at hz0
              simp only at hz0
              cases hb : w.heap[b]? with
              | none => simp [hb] at hz0
              | some ob =>
                refine ⟨?_, (Array.getElem?_eq_some_iff.1 hb).1⟩
                cases ob with
                | cells c t f => rw [hb] at hz0; simp only at hz0; cases spt with | none => rfl | some z => simp at hz0
                | _ => simp [hb] at hz0
            obtain ⟨rfl, hbl⟩ := hsp
            have key : ∀ (i : Nat) r (j : Nat) v, l[i]? = some r → r[j]? = some v → v.isCell = true ∧ ∃ c, hcell w.heap b (o + (i * P.cellsOf e + j)) = some c ∧ Rl w.heap (fun _ => none) (fun b => b < w.heap.size) v c := by
              intro i r j v h1 h2
              obtain ⟨_, ci, hci, hpr⟩ := hq i r h1
              have hz := World.cells?_some hci
              have hj : j < ci.length := by rw [← hpr.1]; exact (List.getElem?_eq_some_iff.1 h2).1
              have h3 := hz.2.2 j (by omega)
              rw [List.getElem?_eq_getElem hj, addr_add, addr_add, cell?_heap] at h3
              obtain ⟨h4, h5⟩ := hpr.2 j v _ h2 (List.getElem?_eq_getElem hj)
              exact ⟨h4, _, by rw [← h3, Nat.add_assoc], h5⟩
            refine .rows _ l b o len cap (fun q => (hcell w.heap b (o + q)).getD undef) hll.symm hl (fun _ => hbl) (fun i r h1 => ?_) (fun i r j v h1 h2 => (key i r j v h1 h2).1) (fun i r j v h1 h2 => ?_) fun i r j v h1 h2 => ?_
            · obtain ⟨_, ci, hci, hpr⟩ := hq i r h1
              rw [hpr.1, (World.cells?_some hci).2.1]
            · obtain ⟨_, c, hc, _⟩ := key i r j v h1 h2
              rw [hc]; rfl
            · obtain ⟨_, c, hc, hr⟩ := key i r j v h1 h2
              rw [hc]; exact hr
    · rename_i e
      split at hs
      rotate_left
      · cases hs
      rename_i hpos
      simp only [Option.map_eq_some_iff] at hs
      obtain ⟨a, ha, rfl⟩ := hs
      have alt : cs = [.pointer none] ∨ ∃ ad ci y, cs = [.pointer (some ad)] ∧ w.cells? 0 ad (P.cellsOf e) = some ci ∧ DataW.trod enc P w 0 sp true m e ci = some y ∧ x.1 = .ptr y.1 := by
        unfold DataW.trod at h; rw [hu] at h
        split at h <;> simp_all
        simp only [Option.bind_eq_some_iff, Function.comp, Option.map_eq_some_iff] at h
        obtain ⟨ci, hc, ⟨y1, y2⟩, hy, hx⟩ := h
        exact ⟨ci, hc, y1, ⟨y2, hy⟩, by rw [← hx]⟩
      rcases alt with rfl | ⟨ad, ci, y, rfl, hc, hy, hx⟩
      · exact ⟨_, .inl rfl, .one rfl .nilP⟩
      · obtain ⟨vs, ok, hpr⟩ := ih _ _ _ _ ha hy (fun q hq => hw q (by rw [hx]; simpa [DataW.weights, hu] using hq))
        refine ⟨[.fp vs], .inr ⟨vs, rfl, ok⟩, .one rfl ?_⟩
        have hz := World.cells?_some hc
        have hz0 := hz.2.2 0 hpos
        rw [List.getElem?_eq_getElem (by omega)] at hz0
        have ea : ad.add 0 = ad := by simp [Addr.add]
        rw [ea] at hz0
        obtain ⟨b, o, spt⟩ := ad
        have hsp : spt = none ∧ b < w.heap.size := by
          unfold World.cell? at hz0
          simp only at hz0
          cases hb : w.heap[b]? with
          | none => simp [hb] at hz0
          | some ob =>
            refine ⟨?_, (Array.getElem?_eq_some_iff.1 hb).1⟩
            cases ob with
            | cells c t f => rw [hb] at hz0; simp only at hz0; cases spt with | none => rfl | some z => simp at hz0
            | _ => simp [hb] at hz0
        obtain ⟨rfl, hbl⟩ := hsp
        have key : ∀ (j : Nat) v, vs[j]? = some v → v.isCell = true ∧ ∃ c, hcell w.heap b (o + j) = some c ∧ Rl w.heap (fun _ => none) (fun b => b < w.heap.size) v c := by
          intro j v h2
          have hj : j < ci.length := by rw [← hpr.1]; exact (List.getElem?_eq_some_iff.1 h2).1
          have h3 := hz.2.2 j (by omega)
          rw [List.getElem?_eq_getElem hj, addr_add, cell?_heap] at h3
          obtain ⟨h4, h5⟩ := hpr.2 j v _ h2 (List.getElem?_eq_getElem hj)
          exact ⟨h4, _, h3, h5⟩
        refine .fp vs b o (fun q => (hcell w.heap b (o + q)).getD undef) (fun _ => hbl) (fun j v h2 => (key j v h2).1) (fun j v h2 => ?_) fun j v h2 => ?_
        · obtain ⟨_, c, hc, _⟩ := key j v h2
          rw [hc]; rfl
        · obtain ⟨_, c, hc, hr⟩ := key j v h2
          rw [hc]; exact hr
    · cases hs
theorem read (m n : Nat) : Rd P w enc sp m (shOf P n) := readR m n fun q => by cases q
end
end Go.Proofs.Ytodiahhfpcdejaa

/- From a contract to a row. -/
namespace Go.Proofs.Ytodiahhfpcdejaa
set_option autoImplicit false
set_option linter.unusedSimpArgs false
set_option linter.unusedVariables false

def isAggT (P : Program) (t : TypeId) : Bool :=
  match P.underlying t with
  | some (.struct _) => true
  | some (.array _ _) => true
  | _ => false

/-- An argument of a shape. -/
def ArgOk (agg : Bool) (sh : Sh) (av : AV) : Prop :=
  match agg with
  | true => ∃ vs, av = .agg vs ∧ sh.Ok vs
  | false => sh.Ok [av]

section
variable {H : Type} {enc : TypeId × Value → H} {P : Program} {W : World} {sp : Nat → Bool}

theorem okWide_notAgg {r : Reach} {base : Nat} {t : TypeId} {v : Value} (ha : isAggT P t = false) (h : Value.okWide P W r base t v) : v.cells = #[v] := by
  unfold isAggT at ha
  unfold Value.okWide at h
  split at h
  · rename_i hu; simp [hu] at ha
  · rename_i hu; simp [hu] at ha
  · cases v <;> first
      | rfl
      | (exfalso; unfold Cell.okWide at h; split at h <;> rename_i heq <;> first | (cases heq; done) | (unfold Cell.ok at h; split at h <;> rename_i heq2 <;> first | (cases heq2; done) | exact h))

theorem arg_rl {r : Reach} {base n : Nat} {t : TypeId} {v : Value} {d : DataW H} {ps : List MemPlace} {sh : Sh} (agg : Bool) (hagg : isAggT P t = agg) (hs : shOf P n t = some sh) (hval : Value.okWide P W r base t v)
    (h : DataW.Trod enc P W 0 sp true t v d ps) (hw : ∀ n ∈ d.weights P t, n ≤ reachBytes) : ∃ av, ArgOk agg sh av ∧ Rl W.heap (fun _ => none) (fun b => b < W.heap.size) av v := by
  obtain ⟨fuel, hf⟩ := h
  obtain ⟨vs, ok, hpr⟩ := read fuel n t _ _ sh hs hf hw
  cases agg with
  | true =>
    obtain ⟨cs, rfl⟩ : ∃ cs, v = .agg cs := by
      unfold isAggT at hagg
      unfold Value.okWide at hval
      split at hagg
      · rename_i hu; simp only [hu] at hval; obtain ⟨cs, e, _⟩ := hval; exact ⟨cs, e⟩
      · rename_i hu; simp only [hu] at hval; obtain ⟨cs, e, _⟩ := hval; exact ⟨cs, e⟩
      · cases hagg
    refine ⟨.agg vs, ⟨vs, rfl, ok⟩, ?_⟩
    have := Rl.agg (h := W.heap) (ρ := fun _ => none) (Z := fun b => b < W.heap.size) vs cs.toList (by simpa [Value.cells] using hpr.1)
      (fun i v h1 => by
        have hi := (List.getElem?_eq_some_iff.1 h1).1
        rw [hpr.1] at hi
        exact (hpr.2 i v _ h1 (List.getElem?_eq_getElem hi)).1)
      (fun i v x h1 h2 => (hpr.2 i v x h1 (by simpa [Value.cells] using h2)).2)
    simpa using this
  | false =>
    rw [okWide_notAgg hagg hval] at hpr
    have hl := hpr.1
    match vs, hl with
    | [av], _ => exact ⟨av, ok, (hpr.2 0 av v rfl rfl).2⟩

/-- .. of a type that holds itself. -/
theorem arg_rlR {r : Reach} {base : Nat} {t : TypeId} {v : Value} {d : DataW H} {ps : List MemPlace} (agg : Bool) (hagg : isAggT P t = agg) (hs : ∀ n, ∃ sh, shO true P n t = some sh) (hval : Value.okWide P W r base t v)
    (h : DataW.Trod enc P W 0 sp true t v d ps) (hw : ∀ n ∈ d.weights P t, n ≤ reachBytes) : ∃ av, (∃ n sh, shO true P n t = some sh ∧ ArgOk agg sh av) ∧ Rl W.heap (fun _ => none) (fun b => b < W.heap.size) av v := by
  obtain ⟨fuel, hf⟩ := h
  obtain ⟨sh, hs⟩ := hs fuel
  obtain ⟨vs, ok, hpr⟩ := readR fuel fuel (fun _ => Nat.le_refl _) t _ _ sh hs hf hw
  cases agg with
  | true =>
    obtain ⟨cs, rfl⟩ : ∃ cs, v = .agg cs := by
      unfold isAggT at hagg
      unfold Value.okWide at hval
      split at hagg
      · rename_i hu; simp only [hu] at hval; obtain ⟨cs, e, _⟩ := hval; exact ⟨cs, e⟩
      · rename_i hu; simp only [hu] at hval; obtain ⟨cs, e, _⟩ := hval; exact ⟨cs, e⟩
      · cases hagg
    refine ⟨.agg vs, ⟨fuel, sh, hs, vs, rfl, ok⟩, ?_⟩
    have := Rl.agg (h := W.heap) (ρ := fun _ => none) (Z := fun b => b < W.heap.size) vs cs.toList (by simpa [Value.cells] using hpr.1)
      (fun i v h1 => by
        have hi := (List.getElem?_eq_some_iff.1 h1).1
        rw [hpr.1] at hi
        exact (hpr.2 i v _ h1 (List.getElem?_eq_getElem hi)).1)
      (fun i v x h1 h2 => (hpr.2 i v x h1 (by simpa [Value.cells] using h2)).2)
    simpa using this
  | false =>
    rw [okWide_notAgg hagg hval] at hpr
    have hl := hpr.1
    match vs, hl with
    | [av], _ => exact ⟨av, ⟨fuel, sh, hs, ok⟩, (hpr.2 0 av v rfl rfl).2⟩

theorem good0 (h : Array Obj) (ht : TabG h fun b => b < h.size) : Good h (fun _ => none) (fun b => b < h.size) [] where
  blk := fun id blk h1 => by simp [hget] at h1
  inj := fun i j a b p q o o' h1 => by simp [hget] at h1
  notZ := fun b ⟨id, blk, o, h1, _⟩ => by simp [hget] at h1
  zlt := fun _ h => h
  ids := ⟨0, fun _ _ => rfl⟩
  ty := fun id b o q => by cases q
  tab := ht

/-- A law's call: true, and what was there is there still. -/
theorem law_calls {f : Nat} {args : List AV} {xs : List Value} (h : ACalls P f args [] fun r _ => r = .bool true) (hr : RlL W.heap (fun _ => none) (fun b => b < W.heap.size) args xs) (ht : TabG W.heap fun b => b < W.heap.size := by intro x hx; simp [tabs] at hx) :
    Calls P f xs.toArray W fun e W' => e = .returned (.bool true) ∧ RowKit.Below W.heap.size W W' := by
  refine (h.2 W _ _ xs (good0 W.heap ht) hr).mono fun e w' ⟨x, r, H', ρ', Z', q1, _, hv, ex, k⟩ => ?_
  subst k
  cases hv
  refine ⟨q1, ⟨ex.os, ex.tape, ex.out, ex.size, fun k hk => ex.keep k hk ?_⟩⟩
  rintro ⟨id, blk, o, h1, _⟩
  simp [hget] at h1
end
end Go.Proofs.Ytodiahhfpcdejaa

/- Words for those who use the predicate transformer. -/
namespace Go.Proofs.Ytodiahhfpcdejaa
set_option autoImplicit false
set_option linter.unusedSimpArgs false
set_option linter.unusedVariables false

theorem Sub.refl (H : AH) : Sub H H := fun _ _ h => h
theorem Sub.cons {Hc H : AH} {id : Nat} {b : Blk} (h : Sub Hc H) (hid : hget H id = none) : Sub Hc ((id, b) :: H) := fun j c q => by
  simp only [hget]
  split
  · rename_i e
    have := h j c q
    rw [e, hid] at this
    cases this
  · exact h j c q
theorem FzL.refl (H Hc : AH) (vs : List AV) : FzL H Hc vs vs := ⟨rfl, fun i v v' a b => by rw [a] at b; simp only [Option.some.injEq] at b; rw [b]; exact .refl _⟩

section
variable {P : Program} {f : Nat} {args : List AV} {H : AH} {K : AV → AH → Prop} {r : AV}

/-- A call by its contract. -/
theorem callA_of (h : ACalls P f args H K) : callA P f args H K := ⟨args, H, Sub.refl H, FzL.refl _ _ _, .inl h⟩
theorem callA_eq (h : ACalls P f args H fun r' H' => r' = r ∧ H' = H) (k : K r H) : callA P f args H K :=
  callA_of (h.mono fun r' H' ⟨a, b⟩ => by rw [a, b]; exact k)
theorem ACalls_eq (h : ACalls P f args H fun r' H' => r' = r ∧ H' = H) (k : K r H) : ACalls P f args H K :=
  h.mono fun r' H' ⟨a, b⟩ => by rw [a, b]; exact k
theorem NoId.plain (h : r.plain = true) : NoId r := fun _ _ _ _ _ q => q.plain h
/-- A function that owns nothing of the caller's and hands back a plain value. -/
theorem ACalls.plain (hp : r.plain = true) (h : ACalls P f args [] fun r' _ => r' = r) : ACalls P f args H fun r' H' => r' = r ∧ H' = H :=
  ⟨h.1, fun w ρ Z xs g hr => callA_calls (K := fun r' H' => r' = r ∧ H' = H)
    ⟨args, [], fun _ _ q => (by cases q), FzL.refl _ _ _, .inr (h.mono fun r' _ e => by rw [e]; exact ⟨hp, rfl, rfl⟩)⟩ g hr⟩
theorem callP_plain (hp : r.plain = true) (h : ACalls P f args H fun r' H' => r' = r ∧ H' = H) : callP P f args H r := .inl ⟨NoId.plain hp, h⟩

end

theorem wrap_id {n : Int} (h1 : -9223372036854775808 ≤ n) (h2 : n ≤ 9223372036854775807) : IntKind.i64.wrap n = n := by rw [IntKind.wrap_i64]; omega

theorem OA_some {α : Type} (x : α) (f : α → Prop) : OA (some x) f = f x := rfl
theorem OA_none {α : Type} (f : α → Prop) : OA (none : Option α) f = False := rfl
theorem OA_ite {α : Type} (c : Prop) [Decidable c] (x y : Option α) (f : α → Prop) : OA (if c then x else y) f = if c then OA x f else OA y f := by split <;> rfl
theorem ite_bind {α β : Type} (c : Prop) [Decidable c] (x y : Option α) (f : α → Option β) : (if c then x else y).bind f = if c then x.bind f else y.bind f := by split <;> rfl
theorem ite_false_and (c p : Prop) [Decidable c] : (if c then p else False) = (c ∧ p) := by
  apply propext
  split
  · rename_i h; exact ⟨fun q => ⟨h, q⟩, fun q => q.2⟩
  · rename_i h; exact ⟨fun q => q.elim, fun q => h q.1⟩
theorem ex_bool {b : Bool} {p : Bool → Prop} : (∃ q, some (AV.bool b) = some (AV.bool q) ∧ p q) = p b := by
  apply propext
  constructor
  · rintro ⟨q, h, k⟩; simp only [Option.some.injEq, AV.bool.injEq] at h; rw [h]; exact k
  · exact fun k => ⟨b, rfl, k⟩
theorem Fr.set_get (s : Fr) (d t : Nat) (x : AV) : (s.set d x) t = if t = d then some x else s t := rfl
theorem Fr.clr_get (s : Fr) (d t : Nat) : (s.clr d) t = if t = d then none else s t := rfl
theorem initFr_get (args : List AV) (t : Nat) : initFr args t = args[t]? := rfl

end Go.Proofs.Ytodiahhfpcdejaa

/- The predicate transformer over frames that are lists: made to be reduced head first. -/
namespace Go.Proofs.Ytodiahhfpcdejaa
set_option autoImplicit false
set_option linter.unusedSimpArgs false
set_option linter.unusedVariables false

/-- A frame as a list, the newest entry first. -/
abbrev FL := List (Nat × Option AV)

noncomputable def FL.get (L : FL) (t : Nat) : Option AV := @List.rec (Nat × Option AV) (fun _ => Option AV) none (fun p _ ih => match Nat.beq t p.1 with
    | true => p.2
    | false => ih) L

noncomputable def frm (L : FL) : Fr := fun t => L.get t

theorem FL.get_cons (d t : Nat) (x : Option AV) (L : FL) : FL.get ((d, x) :: L) t = if t = d then x else L.get t := by
  show (match Nat.beq t d with | true => x | false => L.get t) = _
  cases h : Nat.beq t d with
  | true => rw [if_pos (Nat.eq_of_beq_eq_true h)]
  | false => rw [if_neg (fun e => by rw [e, Nat.beq_refl] at h; cases h)]

theorem frm_set (L : FL) (d : Nat) (x : AV) : frm ((d, some x) :: L) = (frm L).set d x := by
  funext t; simp only [frm, FL.get_cons, Fr.set]
theorem frm_clr (L : FL) (d : Nat) : frm ((d, none) :: L) = (frm L).clr d := by
  funext t; simp only [frm, FL.get_cons, Fr.clr]

def putL (L : FL) (d : Option Nat) (x : AV) : FL := match d with | some d => (d, some x) :: L | none => L
def delL (L : FL) (d : Option Nat) : FL := match d with | some d => (d, none) :: L | none => L
/-- .. and what follows, the new frame being there. -/
def putK (L : FL) (d : Option Nat) (x : AV) (k : FL → Prop) : Prop := match d with | some d => k ((d, some x) :: L) | none => k L
def delK (L : FL) (d : Option Nat) (k : FL → Prop) : Prop := match d with | some d => k ((d, none) :: L) | none => k L
theorem putK_eq (L : FL) (d : Option Nat) (x : AV) (k : FL → Prop) : putK L d x k = k (putL L d x) := by cases d <;> rfl
theorem delK_eq (L : FL) (d : Option Nat) (k : FL → Prop) : delK L d k = k (delL L d) := by cases d <;> rfl
theorem frm_put (L : FL) (d : Option Nat) (x : AV) : frm (putL L d x) = (frm L).put d x := by cases d with | none => rfl | some d => exact frm_set L d x
theorem frm_del (L : FL) (d : Option Nat) : frm (delL L d) = (frm L).del d := by cases d with | none => rfl | some d => exact frm_clr L d

/-- All that the first frame knows the second one knows. -/
def covers : FL → FL → Prop
  | [], _ => True
  | (t, some v) :: r, L => L.get t = some v ∧ covers r L
  | (_, none) :: r, L => covers r L

theorem covers_sub : ∀ (M L : FL), covers M L → SubFr (frm M) (frm L)
  | [], L, _, t, v, h => by cases h
  | (d, some x) :: M, L, hc, t, v, h => by
    simp only [frm, FL.get_cons] at h
    split at h
    · rename_i e; simp only [Option.some.injEq] at h; rw [← h, e]; exact hc.1
    · exact covers_sub M L hc.2 t v h
  | (d, none) :: M, L, hc, t, v, h => by
    simp only [frm, FL.get_cons] at h
    split at h
    · cases h
    · exact covers_sub M L hc t v h

noncomputable def memN (t : Nat) (l : List Nat) : Bool := @List.rec Nat (fun _ => Bool) false (fun a _ ih => match Nat.beq t a with
  | true => true
  | false => ih) l
theorem memN_mem {t : Nat} : ∀ {l : List Nat}, memN t l = true → t ∈ l
  | [], h => by cases h
  | a :: l, h => by
    have h' : (match Nat.beq t a with | true => true | false => memN t l) = true := h
    split at h'
    · rename_i e; rw [Nat.eq_of_beq_eq_true e]; exact List.mem_cons_self
    · exact List.mem_cons_of_mem _ (memN_mem h')
/-- .. and may be frozen; what is shadowed is left out of account. -/
def coversS (H Hc : AH) : List Nat → FL → FL → Prop
  | _, [], _ => True
  | seen, (t, some v') :: r, L => (memN t seen = true ∨ ∃ v, L.get t = some v ∧ Fz H Hc v v') ∧ coversS H Hc (t :: seen) r L
  | seen, (t, none) :: r, L => coversS H Hc (t :: seen) r L
abbrev coversZ (H Hc : AH) (M L : FL) : Prop := coversS H Hc [] M L
theorem coversS_sub {H Hc : AH} : ∀ (M L : FL) (seen : List Nat), coversS H Hc seen M L → ∀ t v', t ∉ seen → frm M t = some v' → ∃ v, frm L t = some v ∧ Fz H Hc v v'
  | [], L, _, _, t, v, _, h => by cases h
  | (d, some x) :: M, L, seen, hc, t, v, hn, h => by
    simp only [frm, FL.get_cons] at h
    split at h
    · rename_i e
      simp only [Option.some.injEq] at h
      rw [← h, e]
      rcases hc.1 with q | q
      · exact absurd (memN_mem q) (e ▸ hn)
      · exact q
    · rename_i e
      exact coversS_sub M L _ hc.2 t v (by simp [e, hn]) h
  | (d, none) :: M, L, seen, hc, t, v, hn, h => by
    simp only [frm, FL.get_cons] at h
    split at h
    · cases h
    · rename_i e
      exact coversS_sub M L _ hc t v (by simp [e, hn]) h

theorem coversZ_sub {H Hc : AH} (M L : FL) (h : coversZ H Hc M L) : SubFz H Hc (frm M) (frm L) := fun t v q => coversS_sub M L [] h t v (by simp) q

/-! ### Operations, by what follows -/
def evX (L : FL) (x : X) (k : AV → Prop) : Prop :=
  match x with
  | .t n => match L.get n with
    | some v => k v
    | none => False
  | .c v => k v
  | .bad => False

def evXs (L : FL) : List X → (List AV → Prop) → Prop
  | [], k => k []
  | x :: xs, k => evX L x fun v => evXs L xs fun vs => k (v :: vs)

def evX3 (L : FL) : List (Nat × Nat × X) → (List (Nat × Nat × AV) → Prop) → Prop
  | [], k => k []
  | (o, z, x) :: xs, k => evX L x fun v => evX3 L xs fun vs => k ((o, z, v) :: vs)

def evX2 (L : FL) : List (Nat × X) → (List (Nat × AV) → Prop) → Prop
  | [], k => k []
  | (i, x) :: xs, k => evX L x fun v => evX2 L xs fun vs => k ((i, v) :: vs)

def evXO (L : FL) (d : Int) (x : Option X) (k : Int → Prop) : Prop :=
  match x with
  | none => k d
  | some x => evX L x fun v => match v with
    | .int _ n => k n
    | _ => False

def oA {α : Type} (o : Option α) (k : α → Prop) : Prop :=
  match o with
  | some x => k x
  | none => False

def kEq : IntKind → IntKind → Bool
  | .i8, .i8 => true
  | .i16, .i16 => true
  | .i32, .i32 => true
  | .i64, .i64 => true
  | .u8, .u8 => true
  | .u16, .u16 => true
  | .u32, .u32 => true
  | .u64, .u64 => true
  | _, _ => false
theorem kEq_eq {a b : IntKind} (h : kEq a b = true) : a = b := by cases a <;> cases b <;> first | rfl | cases h

def kG (a b : IntKind) (k : Prop) : Prop := match kEq a b with
  | true => k
  | false => False
def nG (a b : Nat) (k : Prop) : Prop := match Nat.beq a b with
  | true => k
  | false => False
theorem kG_of {a b : IntKind} {k : Prop} (h : kG a b k) : a = b ∧ k := by
  unfold kG at h
  split at h
  · rename_i e; exact ⟨kEq_eq e, h⟩
  · exact h.elim
theorem nG_of {a b : Nat} {k : Prop} (h : nG a b k) : a = b ∧ k := by
  unfold nG at h
  split at h
  · rename_i e; exact ⟨Nat.eq_of_beq_eq_true e, h⟩
  · exact h.elim

/-- A number brought into its kind's range: a place to stop. (A structure: nothing unfolds it.) -/
structure rng (w : Int) (k : Int → Prop) : Prop where
  out : k w
theorem rng_any {w : Int} {k : Int → Prop} (h : k w) : rng w k := ⟨h⟩
theorem rng_id {w n : Int} {k : Int → Prop} (e : w = n) (h : k n) : rng w k := by rw [e]; exact ⟨h⟩
theorem rng_i64 {n : Int} {k : Int → Prop} (h1 : -9223372036854775808 ≤ n) (h2 : n ≤ 9223372036854775807) (h : k n) : rng (IntKind.wrap .i64 n) k := rng_id (wrap_id h1 h2) h
theorem rng_u8 {n : Int} {k : Int → Prop} (h1 : 0 ≤ n) (h2 : n ≤ 255) (h : k n) : rng (IntKind.wrap .u8 n) k := rng_id (by simp only [IntKind.wrap, IntKind.bits, IntKind.signed, Bool.false_and, Bool.false_eq_true, if_false]; omega) h
theorem rng_u16 {n : Int} {k : Int → Prop} (h1 : 0 ≤ n) (h2 : n ≤ 65535) (h : k n) : rng (IntKind.wrap .u16 n) k := rng_id (by simp only [IntKind.wrap, IntKind.bits, IntKind.signed, Bool.false_and, Bool.false_eq_true, if_false]; omega) h
theorem rng_u32 {n : Int} {k : Int → Prop} (h1 : 0 ≤ n) (h2 : n ≤ 4294967295) (h : k n) : rng (IntKind.wrap .u32 n) k := rng_id (by simp only [IntKind.wrap, IntKind.bits, IntKind.signed, Bool.false_and, Bool.false_eq_true, if_false]; omega) h
theorem rng_u64 {n : Int} {k : Int → Prop} (h1 : 0 ≤ n) (h2 : n ≤ 18446744073709551615) (h : k n) : rng (IntKind.wrap .u64 n) k := rng_id (by simp only [IntKind.wrap, IntKind.bits, IntKind.signed, Bool.false_and, Bool.false_eq_true, if_false]; omega) h

/-- A block is written. -/
structure hsetK (H : AH) (id : Nat) (b : Blk) (k : AH → Prop) : Prop where
  out : k (hset H id b)
/-- .. what it holds being reckoned first. -/
structure hsetN (H : AH) (id : Nat) (b : Blk) (k : AH → Prop) : Prop where
  out : k (hset H id b)
theorem hsetN_of {H : AH} {id : Nat} {b b' : Blk} {k : AH → Prop} (e : b = b') (h : hsetK H id b' k) : hsetN H id b k := ⟨by rw [e]; exact h.out⟩
theorem hsetK_any {H : AH} {id : Nat} {b : Blk} {k : AH → Prop} (h : k (hset H id b)) : hsetK H id b k := ⟨h⟩
theorem hsetK_top {H : AH} {id : Nat} {b c : Blk} {k : AH → Prop} (h : k ((id, c) :: H)) : hsetK ((id, b) :: H) id c k := ⟨by rw [show hset ((id, b) :: H) id c = (id, c) :: H from by simp [hset]]; exact h⟩
theorem hsetK_down {T : AH} {i id : Nat} {b c : Blk} {k : AH → Prop} (h : i ≠ id) (h2 : hsetK T id b fun T' => k ((i, c) :: T')) : hsetK ((i, c) :: T) id b k :=
  ⟨by rw [show hset ((i, c) :: T) id b = (i, c) :: hset T id b from by simp only [hset]; rw [if_neg (fun e => h e.symm)]]; exact h2.out⟩
def opF (L : FL) (H : AH) (co : CO) (k : Rs → Prop) : Prop :=
  match co with
  | .mv x => evX L x fun v => k (.val v)
  | .pick c a b => evX L c fun v => match v with
    | .bool q => match q with
      | true => evX L a fun v => k (.val v)
      | false => evX L b fun v => k (.val v)
    | _ => False
  | .box T x => evX L x fun v => allCells v.cells = true ∧ k (.fresh T (.rows v.cells.length [v.cells]) (fun id => .ptr id v.cells.length 0 0) H)
  | .allc T zs => k (.fresh T (.rows zs.length [zs]) (fun id => .ptr id zs.length 0 0) H)
  | .load n x => evX L x fun v => match v with
    | .fp cs => oA (partA cs 0 n) fun r => k (.val r)
    | .ptr id sz i j => ∃ l r, hget H id = some (.rows sz l) ∧ l[i]? = some r ∧ oA (partA (r.drop j) 0 n) fun v => k (.val v)
    | _ => False
  | .store n x y => evX L x fun v => evX L y fun z => match v with
    | .ptr id sz i j => ∃ l r, hget H id = some (.rows sz l) ∧ l[i]? = some r ∧ z.cells.length = n ∧ allCells z.cells = true ∧ j + n ≤ r.length ∧ hsetN H id (.rows sz (l.set i (over r j z.cells))) fun H' => k (.upd H')
    | _ => False
  | .faddr off x => evX L x fun v => match v with
    | .ptr id sz i j => k (.val (.ptr id sz i (j + off)))
    | .fp cs => k (.val (.fp (cs.drop off)))
    | _ => False
  | .iaddr sz x i => evX L x fun v => evX L i fun w => match w with
    | .int _ n => match v with
      | .rows sz' l => nG sz' sz ((0 ≤ n ∧ n < l.length) ∧ k (.val (.fp (l.getD n.toNat []))))
      | .own id sz' lo hi => nG sz' sz ((0 ≤ n ∧ n < ((hi - lo : Nat) : Int)) ∧ k (.val (.ptr id sz (lo + n.toNat) 0)))
      | _ => False
    | _ => False
  | .iarr len sz x i => evX L x fun v => evX L i fun w => match w with
    | .int _ n => (0 ≤ n ∧ n < len) ∧ match v with
      | .ptr id z a j => k (.val (.ptr id z a (j + n.toNat * sz)))
      | .fp cs => k (.val (.fp (cs.drop (n.toNat * sz))))
      | _ => False
    | _ => False
  | .field off n x => evX L x fun v => match v with
    | .agg cs => oA (partA cs off n) fun r => k (.val r)
    | _ => False
  | .idx x i => evX L x fun v => evX L i fun w => match v with
    | .str l => match w with
      | .int _ n => (0 ≤ n ∧ n < l.length) ∧ k (.val (.int .u8 ((l.getD n.toNat 0).toNat : Int)))
      | _ => False
    | _ => False
  | .idxA len sz n x i => evX L x fun v => evX L i fun w => match v with
    | .agg cs => match w with
      | .int _ a => (0 ≤ a ∧ a < len) ∧ oA (partA cs (a.toNat * sz) n) fun r => k (.val r)
      | _ => False
    | _ => False
  | .bin op x y => evX L x fun a => evX L y fun b => match a with
    | .int ka m => match b with
      | .int kb n => match op with
        | .quo => kG ka kb (n ≠ 0 ∧ rng (IntKind.wrap ka (m.tdiv n)) fun z => k (.val (.int ka z)))
        | .rem => kG ka kb (n ≠ 0 ∧ k (.val (.int ka (m.tmod n))))
        | .shl => 0 ≤ n ∧ rng (IntKind.wrap ka (m * 2 ^ (min n.toNat ka.bits))) fun z => k (.val (.int ka z))
        | .shr => 0 ≤ n ∧ k (.val (.int ka (m.fdiv (2 ^ (min n.toNat ka.bits)))))
        | .add => kG ka kb (rng (IntKind.wrap ka (m + n)) fun z => k (.val (.int ka z)))
        | .sub => kG ka kb (rng (IntKind.wrap ka (m - n)) fun z => k (.val (.int ka z)))
        | .mul => kG ka kb (rng (IntKind.wrap ka (m * n)) fun z => k (.val (.int ka z)))
        | op => kG ka kb (oA (binInt op ka m n) fun r => k (.val r))
      | _ => False
    | .str p => match b with
      | .str q => match op with
        | .add => ((p.length + q.length : Nat) : Int) ≤ 9223372036854775807 ∧ k (.val (.str (p ++ q)))
        | op => oA (binStr op p q) fun r => k (.val r)
      | _ => False
    | _ => False
  | .beq neg x y => evX L x fun a => evX L y fun b => match a with
    | .bool p => match b with
      | .bool q => k (.val (.bool (match neg with | true => !(p == q) | false => (p == q))))
      | _ => False
    | _ => False
  | .ncmpS neg x => evX L x fun a => match a with
    | .nilS => k (.val (.bool (match neg with | true => false | false => true)))
    | .own _ _ _ _ => k (.val (.bool (match neg with | true => true | false => false)))
    | .rows _ l => l ≠ [] ∧ k (.val (.bool (match neg with | true => true | false => false)))
    | _ => False
  | .ncmpP neg x => evX L x fun a => oA (isNilP a) fun b => k (.val (.bool (match neg with | true => !b | false => b)))
  | .aeq neg sh x y => evX L x fun a => evX L y fun b => match a with
    | .agg xs => match b with
      | .agg ys => ∃ r, eqCells sh xs ys = some r ∧ k (.val (.bool (match neg with | true => !r | false => r)))
      | _ => False
    | _ => False
  | .un op x => evX L x fun a => oA (unV op a) fun r => k (.val r)
  | .conv kd x => evX L x fun a => match a with
    | .int _ n => rng (IntKind.wrap kd n) fun z => k (.val (.int kd z))
    | _ => False
  | .convS x => evX L x fun a => match a with
    | .str l => k (.val (.str l))
    | _ => False
  | .bytesS x => evX L x fun v => ∃ ys l, readS H false 1 v = some ys ∧ bytesA ys = some l ∧ k (.val (.str l))
  | .strB x => evX L x fun v => match v with
    | .str l => k (.val (.rows 1 (l.map fun c => [.int .u8 (c.toNat : Int)])))
    | _ => False
  | .ext e xs => evXs L xs fun vs => oA (extA e vs) fun v => k (.val v)
  | .build zs parts => evX3 L parts fun ps => ∃ cs, overs zs ps = some cs ∧ allCells cs = true ∧ k (.val (.agg cs))
  | .bslice T sz n zs parts => evX2 L parts fun ps => ∃ l, setRows sz (List.replicate n zs) ps = some l ∧ l.all allCells = true ∧
      match n with
      | 0 => k (.fresh T (.rows sz []) (fun id => .own id sz 0 0) H)
      | _ + 1 => k (.val (.rows sz l))
  | .bsliceO T sz n zs parts => evX2 L parts fun ps => ∃ l, setRows sz (List.replicate n zs) ps = some l ∧ l.all allCells = true ∧ k (.fresh T (.rows sz l) (fun id => .own id sz 0 n) H)
  | .slice kk x lo hi => evX L x fun v => oA (lenA kk.isNone v) fun n => evXO L 0 lo fun a => evXO L n hi fun b => (0 ≤ a ∧ a ≤ b ∧ b ≤ n) ∧
      match v with
      | .str l => k (.val (.str ((l.take b.toNat).drop a.toNat)))
      | .rows sz l => kk = some sz ∧ k (.val (.rows sz ((l.take b.toNat).drop a.toNat)))
      | .nilS => k (.val .nilS)
      | .own id sz l _ => kk = some sz ∧ k (.val (.own id sz (l + a.toNat) (l + b.toNat)))
      | _ => False
  | .mks T sz bytes zs n => evX L n fun v => match v with
    | .int _ a => (0 ≤ a ∧ a * bytes ≤ 140737488355328) ∧ k (.fresh T (.rows sz (List.replicate a.toNat zs)) (fun id => .own id sz 0 a.toNat) H)
    | _ => False
  | .len str x => evX L x fun v => oA (lenA str v) fun n => k (.val (.int .i64 n))
  | .append T str sz bytes x y => evX L x fun v => evX L y fun z => match v with
    | .nilS => ∃ ys, readS H str sz z = some ys ∧ ys.length * bytes ≤ 140737488355328 ∧ (ys = [] → k (.val .nilS)) ∧ (ys ≠ [] → k (.fresh T (.rows sz ys) (fun id => .own id sz 0 ys.length) H))
    | .own id sz' lo hi => ∃ xs ys, readS H false sz (.own id sz' lo hi) = some xs ∧ readS H str sz z = some ys ∧ sz' = sz ∧ lo = 0 ∧ tag id = T ∧ (xs.length + ys.length) * bytes ≤ 140737488355328 ∧
        k (.fresh T (.rows sz (xs ++ ys)) (fun id => .own id sz 0 (xs.length + ys.length)) (hdel H id))
    | .emp => ∃ ys, readS H str sz z = some ys ∧ ys.length * bytes ≤ 140737488355328 ∧ (ys = [] → k (.val .emp)) ∧ (ys ≠ [] → k (.fresh T (.rows sz ys) (fun id => .own id sz 0 ys.length) H))
    | _ => False
  | .mm mx xs => evXs L xs fun vs => oA (mm2 mx vs) fun v => k (.val v)
  | .extr x i => evX L x fun v => match v with
    | .tup vs => oA (vs[i]?) fun r => k (.val r)
    | _ => False
  | .call f xs => evXs L xs fun vs => k (.call f vs)
  | .callv g xs => evX L g fun c => evXs L xs fun vs => match c with
    | .clo f first caps => k (.call f (first ++ vs ++ caps))
    | .yld id => k (.yield id vs)
    | _ => False
  | .mkfn f first caps => evXs L first fun us => evXs L caps fun vs => k (.val (.clo f us vs))
  | .idu x => evX L x fun v => match v with
    | .nilP => k (.val .nilP)
    | .ptr id sz i j => ∃ l, hget H id = some (.rows sz l) ∧ i < l.length ∧ j < sz ∧ k (.val (.ptr id sz i j))
    | _ => False
  | .idf als x => evX L x fun v => match v with
    | .nilP => k (.val .nilP)
    | .ptr id sz i j => ∃ l, hget H id = some (.rows sz l) ∧ ∃ u, tag id = u ∧ (i = 0 ∧ 0 < l.length) ∧ als.contains (u, sz, j) = true ∧ k (.val (.ptr id sz 0 j))
    | _ => False
  | .peq neg x y => evX L x fun a => evX L y fun b => match a with
    | .ptr id sz i j => match b with
      | .ptr id' sz' i' j' => (id = id' ∧ sz = sz' ∧ i = i' ∧ j = j') ∧ k (.val (.bool (!neg)))
      | _ => False
    | _ => False
  | .sdata x => evX L x fun v => match v with
    | .nilS => k (.val .nilP)
    | .own id sz lo hi => lo < hi ∧ k (.val (.ptr id sz lo 0))
    | _ => False
  | .ustr u x n => evX L x fun v => evX L n fun w => match v with
    | .nilP => match w with
      | .int .i64 q => q = 0 ∧ k (.val (.str []))
      | _ => False
    | .ptr id sz i j => match w with
      | .int .i64 q => ∃ l b, hget H id = some (.rows 1 l) ∧ bytesA (l.take q.toNat) = some b ∧ sz = 1 ∧ i = 0 ∧ j = 0 ∧ 0 < q ∧ q ≤ l.length ∧ q ≤ 9223372036854775807 ∧ tag id = u ∧ k (.valH (.str b) (hdel H id))
      | _ => False
    | _ => False
  | .nilck x => evX L x fun v => match v with
    | .ptr _ _ _ _ => k (.val v)
    | .fp _ => k (.val v)
    | _ => False
  | .bad => False

theorem evX_of {L : FL} {x : X} {k : AV → Prop} (h : evX L x k) : ∃ v, ev (frm L) x = some v ∧ k v := by
  cases x with
  | t n =>
    simp only [evX] at h
    simp only [ev, frm]
    cases hg : L.get n with
    | none => rw [hg] at h; exact h.elim
    | some v => rw [hg] at h; exact ⟨v, rfl, h⟩
  | c v => exact ⟨v, rfl, h⟩
  | bad => exact h.elim

theorem evXs_of {L : FL} : ∀ {xs : List X} {k : List AV → Prop}, evXs L xs k → ∃ vs, evL (frm L) xs = some vs ∧ k vs
  | [], k, h => ⟨[], rfl, h⟩
  | x :: xs, k, h => by
    obtain ⟨v, h1, h2⟩ := evX_of h
    obtain ⟨vs, h3, h4⟩ := evXs_of h2
    exact ⟨v :: vs, by simp [evL, h1, h3], h4⟩

theorem evX3_of {L : FL} : ∀ {xs : List (Nat × Nat × X)} {k : List (Nat × Nat × AV) → Prop}, evX3 L xs k → ∃ vs, evParts3 (frm L) xs = some vs ∧ k vs
  | [], k, h => ⟨[], rfl, h⟩
  | (o, z, x) :: xs, k, h => by
    obtain ⟨v, h1, h2⟩ := evX_of h
    obtain ⟨vs, h3, h4⟩ := evX3_of h2
    exact ⟨(o, z, v) :: vs, by simp [evParts3, h1, h3], h4⟩

theorem evX2_of {L : FL} : ∀ {xs : List (Nat × X)} {k : List (Nat × AV) → Prop}, evX2 L xs k → ∃ vs, evParts2 (frm L) xs = some vs ∧ k vs
  | [], k, h => ⟨[], rfl, h⟩
  | (i, x) :: xs, k, h => by
    obtain ⟨v, h1, h2⟩ := evX_of h
    obtain ⟨vs, h3, h4⟩ := evX2_of h2
    exact ⟨(i, v) :: vs, by simp [evParts2, h1, h3], h4⟩

theorem evXO_of {L : FL} {d : Int} {x : Option X} {k : Int → Prop} (h : evXO L d x k) : ∃ n, evO (frm L) d x = some n ∧ k n := by
  cases x with
  | none => exact ⟨d, rfl, h⟩
  | some x =>
    obtain ⟨v, h1, h2⟩ := evX_of h
    cases v <;> try exact h2.elim
    exact ⟨_, by simp only [evO, h1, Option.bind_some], h2⟩

theorem oA_of {α : Type} {o : Option α} {k : α → Prop} (h : oA o k) : ∃ x, o = some x ∧ k x := by
  cases o with
  | none => exact h.elim
  | some x => exact ⟨x, rfl, h⟩

theorem opF_of {L : FL} {H : AH} {co : CO} {k : Rs → Prop} (h : opF L H co k) : ∃ rs, evalOp (frm L) H co = some rs ∧ k rs := by
  cases co <;> simp only [opF] at h
  case mv x =>
    obtain ⟨v, h1, h2⟩ := evX_of h
    exact ⟨_, by simp only [evalOp, h1, Option.bind_some], h2⟩
  case pick c x y =>
    obtain ⟨v, h1, h2⟩ := evX_of h
    cases v <;> try exact h2.elim
    rename_i q
    cases q with
    | true => obtain ⟨u, h3, h4⟩ := evX_of h2; exact ⟨_, by simp only [evalOp, h1, h3, Option.bind_some, if_true], h4⟩
    | false => obtain ⟨u, h3, h4⟩ := evX_of h2; exact ⟨_, by simp only [evalOp, h1, h3, Option.bind_some, Bool.false_eq_true, if_false], h4⟩
  case box T x =>
    obtain ⟨v, h1, h2⟩ := evX_of h
    exact ⟨_, by simp only [evalOp, h1, Option.bind_some, h2.1, if_true], h2.2⟩
  case allc T zs => exact ⟨_, rfl, h⟩
  case load n x =>
    obtain ⟨v, h1, h2⟩ := evX_of h
    cases v <;> try exact h2.elim
    case fp cs =>
      obtain ⟨r, h3, h4⟩ := oA_of h2
      exact ⟨_, by simp only [evalOp, h1, readA, Option.bind_some, h3], h4⟩
    case ptr id sz i j =>
      obtain ⟨l, r, h3, h4, h5⟩ := h2
      obtain ⟨u, h6, h7⟩ := oA_of h5
      exact ⟨_, by simp only [evalOp, h1, readA, Option.bind_some, h3, if_true, h4, Option.map_some, h6], h7⟩
  case store n x y =>
    obtain ⟨v, h1, h2⟩ := evX_of h
    obtain ⟨z, h3, h4⟩ := evX_of h2
    cases v <;> try exact h4.elim
    obtain ⟨l, r, h5, h6, h7, h8, h9, h10⟩ := h4
    replace h10 := h10.out
    exact ⟨_, by simp only [evalOp, h1, h3, Option.bind_some, h5, h6, h7, h8, h9, and_self, if_true], h10⟩
  case faddr off x =>
    obtain ⟨v, h1, h2⟩ := evX_of h
    cases v <;> first | exact h2.elim | exact ⟨_, by simp only [evalOp, h1, Option.bind_some], h2⟩
  case iaddr sz x i =>
    obtain ⟨v, h1, h2⟩ := evX_of h
    obtain ⟨w, h3, h4⟩ := evX_of h2
    cases w <;> try exact h4.elim
    cases v <;> try exact h4.elim
    · obtain ⟨h5, ⟨h6, h7⟩, h8⟩ := nG_of h4; exact ⟨_, by simp only [evalOp, h1, h3, Option.bind_some, h5, h6, h7, and_self, if_true], h8⟩
    · obtain ⟨h5, ⟨h6, h7⟩, h8⟩ := nG_of h4; exact ⟨_, by simp only [evalOp, h1, h3, Option.bind_some, h5, h6, h7, and_self, if_true], h8⟩
  case iarr len sz x i =>
    obtain ⟨v, h1, h2⟩ := evX_of h
    obtain ⟨w, h3, h4⟩ := evX_of h2
    cases w <;> try exact h4.elim
    cases v <;> first | exact h4.2.elim | (exact ⟨_, by simp only [evalOp, h1, h3, Option.bind_some, h4.1, and_self, if_true], h4.2⟩)
  case field off n x =>
    obtain ⟨v, h1, h2⟩ := evX_of h
    cases v <;> try exact h2.elim
    obtain ⟨r, h3, h4⟩ := oA_of h2
    exact ⟨_, by simp only [evalOp, h1, Option.bind_some, h3], h4⟩
  case idx x i =>
    obtain ⟨v, h1, h2⟩ := evX_of h
    obtain ⟨w, h3, h4⟩ := evX_of h2
    cases v <;> try exact h4.elim
    cases w <;> try exact h4.elim
    exact ⟨_, by simp only [evalOp, h1, h3, Option.bind_some, h4.1, and_self, if_true], h4.2⟩
  case idxA len sz n x i =>
    obtain ⟨v, h1, h2⟩ := evX_of h
    obtain ⟨w, h3, h4⟩ := evX_of h2
    cases v <;> try exact h4.elim
    cases w <;> try exact h4.elim
    obtain ⟨r, h5, h6⟩ := oA_of h4.2
    exact ⟨_, by simp only [evalOp, h1, h3, Option.bind_some, h4.1, and_self, if_true, h5], h6⟩
  case bin op x y =>
    obtain ⟨v, h1, h2⟩ := evX_of h
    obtain ⟨w, h3, h4⟩ := evX_of h2
    cases v <;> try exact h4.elim
    · cases w <;> try exact h4.elim
      cases op
      case quo => obtain ⟨rfl, h6, h7⟩ := kG_of h4; exact ⟨_, by simp only [evalOp, h1, h3, Option.bind_some, binV, if_true, binInt, if_pos h6], h7.out⟩
      case rem => obtain ⟨rfl, h6, h7⟩ := kG_of h4; exact ⟨_, by simp only [evalOp, h1, h3, Option.bind_some, binV, if_true, binInt, if_pos h6], h7⟩
      case shl => exact ⟨_, by simp only [evalOp, h1, h3, Option.bind_some, binV, h4.1, if_true], h4.2.out⟩
      case shr => exact ⟨_, by simp only [evalOp, h1, h3, Option.bind_some, binV, h4.1, if_true], h4.2⟩
      case add => obtain ⟨rfl, h6⟩ := kG_of h4; exact ⟨_, by simp only [evalOp, h1, h3, Option.bind_some, binV, if_true, binInt], h6.out⟩
      case sub => obtain ⟨rfl, h6⟩ := kG_of h4; exact ⟨_, by simp only [evalOp, h1, h3, Option.bind_some, binV, if_true, binInt], h6.out⟩
      case mul => obtain ⟨rfl, h6⟩ := kG_of h4; exact ⟨_, by simp only [evalOp, h1, h3, Option.bind_some, binV, if_true, binInt], h6.out⟩
      all_goals (obtain ⟨h5, h6⟩ := kG_of h4; obtain ⟨r, h7, h8⟩ := oA_of h6; exact ⟨_, by simp only [evalOp, h1, h3, Option.bind_some, binV, if_pos h5, h7], h8⟩)
    · cases w <;> try exact h4.elim
      cases op
      case add => exact ⟨_, by simp only [evalOp, h1, h3, Option.bind_some, binV, binStr, if_pos h4.1], h4.2⟩
      all_goals (obtain ⟨r, h7, h8⟩ := oA_of h4; exact ⟨_, by simp only [evalOp, h1, h3, Option.bind_some, binV, h7], h8⟩)
  case beq neg x y =>
    obtain ⟨v, h1, h2⟩ := evX_of h
    obtain ⟨w, h3, h4⟩ := evX_of h2
    cases v <;> try exact h4.elim
    cases w <;> try exact h4.elim
    cases neg <;> exact ⟨_, by simp only [evalOp, h1, h3, Option.bind_some, if_true, Bool.false_eq_true, if_false], h4⟩
  case ncmpS neg x =>
    obtain ⟨v, h1, h2⟩ := evX_of h
    cases v <;> try exact h2.elim
    · cases neg <;> exact ⟨_, by simp only [evalOp, h1, Option.bind_some, isNilS, if_pos h2.1, if_true, Bool.false_eq_true, if_false, Bool.not_false], h2.2⟩
    · cases neg <;> exact ⟨_, by simp only [evalOp, h1, Option.bind_some, isNilS, if_true, Bool.false_eq_true, if_false, Bool.not_true], h2⟩
    · cases neg <;> exact ⟨_, by simp only [evalOp, h1, Option.bind_some, isNilS, if_true, Bool.false_eq_true, if_false, Bool.not_false], h2⟩
  case ncmpP neg x =>
    obtain ⟨v, h1, h2⟩ := evX_of h
    obtain ⟨b, h3, h4⟩ := oA_of h2
    cases neg <;> exact ⟨_, by simp only [evalOp, h1, Option.bind_some, h3, if_true, Bool.false_eq_true, if_false], h4⟩
  case aeq neg sh x y =>
    obtain ⟨v, h1, h2⟩ := evX_of h
    obtain ⟨w, h3, h4⟩ := evX_of h2
    cases v <;> try exact h4.elim
    cases w <;> try exact h4.elim
    obtain ⟨r, h5, h6⟩ := h4
    cases neg <;> exact ⟨_, by simp only [evalOp, h1, h3, Option.bind_some, h5, if_true, Bool.false_eq_true, if_false], h6⟩
  case un op x =>
    obtain ⟨v, h1, h2⟩ := evX_of h
    obtain ⟨r, h3, h4⟩ := oA_of h2
    exact ⟨_, by simp only [evalOp, h1, Option.bind_some, h3], h4⟩
  case conv kd x =>
    obtain ⟨v, h1, h2⟩ := evX_of h
    cases v <;> try exact h2.elim
    exact ⟨_, by simp only [evalOp, h1, Option.bind_some], rng.out h2⟩
  case convS x =>
    obtain ⟨v, h1, h2⟩ := evX_of h
    cases v <;> try exact h2.elim
    exact ⟨_, by simp only [evalOp, h1, Option.bind_some], h2⟩
  case strB x =>
    obtain ⟨v, h1, h2⟩ := evX_of h
    cases v <;> first | exact h2.elim | exact ⟨_, by simp only [evalOp, h1, Option.bind_some], h2⟩
  case bytesS x =>
    obtain ⟨v, h1, ys, l, h2, h3, h4⟩ := evX_of h
    exact ⟨_, by simp only [evalOp, h1, h2, h3, Option.bind_some], h4⟩
  case ext e xs =>
    obtain ⟨vs, h1, h2⟩ := evXs_of h
    obtain ⟨r, h3, h4⟩ := oA_of h2
    exact ⟨_, by simp only [evalOp, h1, Option.bind_some, h3], h4⟩
  case build zs ps =>
    obtain ⟨vs, h1, cs, h2, h3, h4⟩ := evX3_of h
    exact ⟨_, by simp only [evalOp, h1, Option.bind_some, h2, h3, if_true], h4⟩
  case bslice T sz n zs ps =>
    obtain ⟨vs, h1, l, h2, h3, h4⟩ := evX2_of h
    cases n with
    | zero => exact ⟨_, by simp only [evalOp, h1, Option.bind_some, h2, h3, if_true], h4⟩
    | succ n => exact ⟨_, by simp only [evalOp, h1, Option.bind_some, h2, h3, if_true, Nat.add_eq_zero_iff, Nat.one_ne_zero, and_false, if_false], h4⟩
  case bsliceO T sz n zs ps =>
    obtain ⟨vs, h1, l, h2, h3, h4⟩ := evX2_of h
    exact ⟨_, by simp only [evalOp, h1, Option.bind_some, h2, h3, if_true], h4⟩
  case slice kk x lo hi =>
    obtain ⟨v, h1, h2⟩ := evX_of h
    obtain ⟨n, h3, h4⟩ := oA_of h2
    obtain ⟨p, h5, h6⟩ := evXO_of h4
    obtain ⟨q, h7, h8, h9⟩ := evXO_of h6
    cases v <;> try exact h9.elim
    · exact ⟨_, by simp only [evalOp, h1, Option.bind_some, sliceA, h3, h5, h7, if_pos h8, cutA], h9⟩
    · exact ⟨_, by simp only [evalOp, h1, Option.bind_some, sliceA, h3, h5, h7, if_pos h8, cutA, if_pos h9.1], h9.2⟩
    · exact ⟨_, by simp only [evalOp, h1, Option.bind_some, sliceA, h3, h5, h7, if_pos h8, cutA], h9⟩
    · exact ⟨_, by simp only [evalOp, h1, Option.bind_some, sliceA, h3, h5, h7, if_pos h8, cutA, if_pos h9.1], h9.2⟩
  case mks T sz bytes zs n =>
    obtain ⟨v, h1, h2⟩ := evX_of h
    cases v <;> try exact h2.elim
    exact ⟨_, by simp only [evalOp, h1, Option.bind_some, if_pos h2.1], h2.2⟩
  case len str x =>
    obtain ⟨v, h1, h2⟩ := evX_of h
    obtain ⟨n, h3, h4⟩ := oA_of h2
    exact ⟨_, by simp only [evalOp, h1, Option.bind_some, h3], h4⟩
  case append T str sz bytes x y =>
    obtain ⟨v, h1, h2⟩ := evX_of h
    obtain ⟨z, h3, h4⟩ := evX_of h2
    cases v <;> try exact h4.elim
    · obtain ⟨ys, h5, h6, h7, h8⟩ := h4
      by_cases he : ys = []
      · exact ⟨_, by simp only [evalOp, h1, h3, Option.bind_some, h5, if_pos he], h7 he⟩
      · exact ⟨_, by simp only [evalOp, h1, h3, Option.bind_some, h5, if_neg he, if_pos h6], h8 he⟩
    · obtain ⟨xs, ys, h5, h6, h7, h8, h9, h10, h11⟩ := h4
      exact ⟨_, by simp only [evalOp, h1, h3, Option.bind_some, h5, h6, if_pos (And.intro h7 (And.intro h8 (And.intro h9 h10)))], h11⟩
    · obtain ⟨ys, h5, h6, h7, h8⟩ := h4
      by_cases he : ys = []
      · exact ⟨_, by simp only [evalOp, h1, h3, Option.bind_some, h5, if_pos he], h7 he⟩
      · exact ⟨_, by simp only [evalOp, h1, h3, Option.bind_some, h5, if_neg he, if_pos h6], h8 he⟩
  case mm mx xs =>
    obtain ⟨vs, h1, h2⟩ := evXs_of h
    obtain ⟨r, h3, h4⟩ := oA_of h2
    exact ⟨_, by simp only [evalOp, h1, Option.bind_some, h3], h4⟩
  case extr x i =>
    obtain ⟨v, h1, h2⟩ := evX_of h
    cases v <;> try exact h2.elim
    obtain ⟨r, h3, h4⟩ := oA_of h2
    exact ⟨_, by simp only [evalOp, h1, Option.bind_some, h3], h4⟩
  case call f xs =>
    obtain ⟨vs, h1, h2⟩ := evXs_of h
    exact ⟨_, by simp only [evalOp, h1, Option.bind_some], h2⟩
  case callv g xs =>
    obtain ⟨c, h1, h2⟩ := evX_of h
    obtain ⟨vs, h3, h4⟩ := evXs_of h2
    cases c <;> try exact h4.elim
    all_goals exact ⟨_, by simp only [evalOp, h1, h3, Option.bind_some], h4⟩
  case mkfn f us xs =>
    obtain ⟨vs, h1, h2⟩ := evXs_of h
    obtain ⟨vs2, h3, h4⟩ := evXs_of h2
    exact ⟨_, by simp only [evalOp, h1, h3, Option.bind_some], h4⟩
  case idu x =>
    obtain ⟨v, h1, h2⟩ := evX_of h
    cases v <;> try exact h2.elim
    · obtain ⟨l, h3, h4, h5, h6⟩ := h2
      exact ⟨_, by simp [evalOp, h1, h3, h4, h5], h6⟩
    · exact ⟨_, by simp only [evalOp, h1, Option.bind_some], h2⟩
  case idf als x =>
    obtain ⟨v, h1, h2⟩ := evX_of h
    cases v <;> try exact h2.elim
    · obtain ⟨l, h3, u, h4, h5, h6, h9⟩ := h2
      subst h4
      exact ⟨_, by simp only [evalOp, h1, Option.bind_some, h3]; exact if_pos ⟨by trivial, h5.1, h5.2, h6⟩, h9⟩
    · exact ⟨_, by simp only [evalOp, h1, Option.bind_some], h2⟩
  case peq neg x y =>
    obtain ⟨v, h1, h2⟩ := evX_of h
    obtain ⟨w, h3, h4⟩ := evX_of h2
    cases v <;> try exact h4.elim
    cases w <;> try exact h4.elim
    exact ⟨_, by simp only [evalOp, h1, h3, Option.bind_some, if_pos h4.1], h4.2⟩
  case sdata x =>
    obtain ⟨v, h1, h2⟩ := evX_of h
    cases v <;> try exact h2.elim
    · exact ⟨_, by simp only [evalOp, h1, Option.bind_some], h2⟩
    · exact ⟨_, by simp only [evalOp, h1, Option.bind_some, if_pos h2.1], h2.2⟩
  case ustr u x n =>
    obtain ⟨v, h1, h2⟩ := evX_of h
    obtain ⟨w, h3, h4⟩ := evX_of h2
    cases v <;> try exact h4.elim
    · cases w <;> try exact h4.elim
      rename_i kd q
      cases kd <;> try exact h4.elim
      obtain ⟨l, b, h5, h6, h7, h8, h9, h10, h11, h12, h13, h14⟩ := h4
      exact ⟨_, by subst h8; subst h9; simp [evalOp, h1, h3, h5, h6, h7, h10, h11, h12, h13], h14⟩
    · cases w <;> try exact h4.elim
      rename_i kd q
      cases kd <;> try exact h4.elim
      exact ⟨_, by simp only [evalOp, h1, h3, Option.bind_some, if_pos h4.1], h4.2⟩
  case nilck x =>
    obtain ⟨v, h1, h2⟩ := evX_of h
    cases v <;> first | exact h2.elim | exact ⟨_, by simp only [evalOp, h1, Option.bind_some], h2⟩

end Go.Proofs.Ytodiahhfpcdejaa
