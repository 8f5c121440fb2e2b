/- Texts of this proof, one behind the other: CodeT, CodeV, NameSpec, PrimSpec, RPrimSpec, TypSpec, TypSpec2, TypSpec3. -/
import Derived.Test.YtodiahhfpcdejaaDoorPkP3
import Derived.KernelRfl
/- Each function's translation is, by reckoning, the abstract code that is written out here; its contract follows from the predicate transformer over that code. -/
namespace Go.Proofs.YtodiahhfpcdejaaDoor
set_option autoImplicit false
set_option maxRecDepth 100000
def broadsheetlaw06_Great.n : Nat := 19
noncomputable def broadsheetlaw06_Great.c : C := (.seq (.reg [⟨(some 2), none, (.mv (.c (.bool false)))⟩]) (.seq (.reg [⟨(some 3), none, (.mv (.c (.int .i64 0)))⟩]) (.seq (.seq (.reg [⟨(some 4), none, (.mv (.c (.int .i64 0)))⟩]) (.block 0 (.loop (.seq (.seq (.reg [⟨(some 5), none, (.mv (.t 4))⟩, ⟨(some 6), none, (.mv (.t 0))⟩, ⟨(some 7), none, (.len false (.t 6))⟩, ⟨(some 8), none, (.bin .lss (.t 5) (.t 7))⟩]) (.cond (.t 8) .skip (.exit 0))) (.seq (.block 1 (.reg [⟨(some 11), none, (.mv (.t 3))⟩, ⟨(some 12), none, (.mv (.t 0))⟩, ⟨(some 13), none, (.mv (.t 4))⟩, ⟨(some 14), none, (.iaddr 6 (.t 12) (.t 13))⟩, ⟨(some 15), none, (.faddr 5 (.t 14))⟩, ⟨(some 16), none, (.load none (.t 15))⟩, ⟨(some 17), none, (.len false (.t 16))⟩, ⟨(some 18), none, (.bin .add (.t 11) (.t 17))⟩, ⟨(some 19), none, (.mm false [(.t 18), (.c (.int .i64 1048576))])⟩, ⟨(some 3), none, (.mv (.t 19))⟩])) (.reg [⟨(some 9), none, (.mv (.t 4))⟩, ⟨(some 10), none, (.bin .add (.t 9) (.c (.int .i64 1)))⟩, ⟨(some 4), none, (.mv (.t 10))⟩])))))) (.seq (.reg [⟨(some 20), none, (.mv (.t 0))⟩, ⟨(some 21), none, (.len false (.t 20))⟩, ⟨(some 22), none, (.bin .gtr (.t 21) (.c (.int .i64 100)))⟩, ⟨(some 23), none, (.mv (.t 22))⟩, ⟨(some 24), (some (23, false)), (.mv (.t 3))⟩, ⟨(some 25), (some (23, false)), (.bin .gtr (.t 24) (.c (.int .i64 800)))⟩, ⟨(some 26), none, (.pick (.t 23) (.c (.bool true)) (.t 25))⟩, ⟨(some 2), none, (.mv (.t 26))⟩]) .ret))))
theorem broadsheetlaw06_Great.code : comp PG [] (Tryd.f19.body.getD .skip) = broadsheetlaw06_Great.c := by kernel_rfl
theorem broadsheetlaw06_Great.of {args : List AV} {H : AH} {K : AV → AH → Prop} (hl : args.length = 1) (h : wpA PG broadsheetlaw06_Great.c none (endA [(.t 2)] K) (initFr args) H) : ACalls PG 19 args H K :=
  ACalls.of_code (fl := []) mixed Tryd.func19 (c := Tryd.f19.body.getD .skip) (by kernel_rfl) (by kernel_rfl) (by rw [hl]; exact of_decide_eq_true (by kernel_rfl)) (by rw [broadsheetlaw06_Great.code]; kernel_rfl)
    (by rw [broadsheetlaw06_Great.code, show compRes PG Tryd.f19.results.toList = [(.t 2)] from by kernel_rfl]; exact h)
def prim_Number.n : Nat := 26
noncomputable def prim_Number.c : C := (.seq (.reg [⟨(some 2), none, (.mv (.c (.bool false)))⟩]) (.seq (.reg [⟨(some 3), none, (.mv (.t 0))⟩, ⟨(some 4), none, (.bin .geq (.t 3) (.c (.int .i64 1)))⟩, ⟨(some 5), none, (.mv (.t 4))⟩, ⟨(some 6), (some (5, true)), (.mv (.t 0))⟩, ⟨(some 7), (some (5, true)), (.bin .leq (.t 6) (.c (.int .i64 9)))⟩, ⟨(some 8), none, (.pick (.t 5) (.t 7) (.c (.bool false)))⟩, ⟨(some 2), none, (.mv (.t 8))⟩]) .ret))
theorem prim_Number.code : comp PG [] (Tryd.f26.body.getD .skip) = prim_Number.c := by kernel_rfl
theorem prim_Number.of {args : List AV} {H : AH} {K : AV → AH → Prop} (hl : args.length = 1) (h : wpA PG prim_Number.c none (endA [(.t 2)] K) (initFr args) H) : ACalls PG 26 args H K :=
  ACalls.of_code (fl := []) mixed Tryd.func26 (c := Tryd.f26.body.getD .skip) (by kernel_rfl) (by kernel_rfl) (by rw [hl]; exact of_decide_eq_true (by kernel_rfl)) (by rw [prim_Number.code]; kernel_rfl)
    (by rw [prim_Number.code, show compRes PG Tryd.f26.results.toList = [(.t 2)] from by kernel_rfl]; exact h)
def prim_Datum.n : Nat := 28
noncomputable def prim_Datum.c : C := (.seq (.reg [⟨(some 4), none, (.allc 52 [(.int .i64 0), (.bool false), (.int .u64 0), (.str [])])⟩]) (.seq (.reg [⟨(some 5), none, (.mv (.t 0))⟩, ⟨(some 6), none, (.mv (.t 1))⟩, ⟨(some 7), none, (.call 50 [(.t 5), (.t 6)])⟩, ⟨(some 1), none, (.mv (.t 7))⟩]) (.seq (.block 0 (.seq (.reg [⟨(some 9), none, (.mv (.t 0))⟩, ⟨(some 10), none, (.call 26 [(.t 9)])⟩, ⟨(some 11), none, (.un .not (.t 10))⟩, ⟨(some 8), none, (.mv (.t 11))⟩]) (.cond (.t 8) (.seq (.reg [⟨(some 12), none, (.build [(.int .i64 0), (.bool false), (.int .u64 0), (.str [])] [])⟩, ⟨none, none, (.store 4 (.t 4) (.t 12))⟩]) .ret) (.seq (.reg [⟨(some 14), none, (.mv (.t 0))⟩, ⟨(some 15), none, (.bin .eql (.t 14) (.c (.int .i64 1)))⟩, ⟨(some 13), none, (.mv (.t 15))⟩]) (.cond (.t 13) (.seq (.reg [⟨(some 16), none, (.mv (.t 1))⟩, ⟨(some 17), none, (.bin .and (.t 16) (.c (.int .u64 1)))⟩, ⟨(some 18), none, (.build [(.int .i64 0), (.bool false), (.int .u64 0), (.str [])] [(0, (1, (.c (.int .i64 3)))), (2, (1, (.t 17)))])⟩, ⟨none, none, (.store 4 (.t 4) (.t 18))⟩]) .ret) (.seq (.reg [⟨(some 20), none, (.mv (.t 0))⟩, ⟨(some 21), none, (.call 51 [(.t 20)])⟩, ⟨(some 22), none, (.mv (.t 21))⟩, ⟨(some 23), (some (22, true)), (.mv (.t 1))⟩, ⟨(some 24), (some (22, true)), (.conv .i64 (.t 23))⟩, ⟨(some 25), (some (22, true)), (.bin .lss (.t 24) (.c (.int .i64 0)))⟩, ⟨(some 26), none, (.pick (.t 22) (.t 25) (.c (.bool false)))⟩, ⟨(some 19), none, (.mv (.t 26))⟩]) (.cond (.t 19) (.seq (.reg [⟨(some 27), none, (.mv (.t 1))⟩, ⟨(some 28), none, (.un .neg (.t 27))⟩, ⟨(some 29), none, (.build [(.int .i64 0), (.bool false), (.int .u64 0), (.str [])] [(0, (1, (.c (.int .i64 1)))), (1, (1, (.c (.bool true)))), (2, (1, (.t 28)))])⟩, ⟨none, none, (.store 4 (.t 4) (.t 29))⟩]) .ret) .skip))))))) (.seq (.reg [⟨(some 30), none, (.mv (.t 1))⟩, ⟨(some 31), none, (.build [(.int .i64 0), (.bool false), (.int .u64 0), (.str [])] [(0, (1, (.c (.int .i64 1)))), (2, (1, (.t 30)))])⟩, ⟨none, none, (.store 4 (.t 4) (.t 31))⟩]) .ret))))
theorem prim_Datum.code : comp PG [] (Tryd.f28.body.getD .skip) = prim_Datum.c := by kernel_rfl
theorem prim_Datum.of {args : List AV} {H : AH} {K : AV → AH → Prop} (hl : args.length = 2) (h : wpA PG prim_Datum.c none (endA [(.cell 4 (some 4))] K) (initFr args) H) : ACalls PG 28 args H K :=
  ACalls.of_code (fl := []) mixed Tryd.func28 (c := Tryd.f28.body.getD .skip) (by kernel_rfl) (by kernel_rfl) (by rw [hl]; exact of_decide_eq_true (by kernel_rfl)) (by rw [prim_Datum.code]; kernel_rfl)
    (by rw [prim_Datum.code, show compRes PG Tryd.f28.results.toList = [(.cell 4 (some 4))] from by kernel_rfl]; exact h)
def broadsheetref05_Number.n : Nat := 33
noncomputable def broadsheetref05_Number.c : C := (.seq (.reg [⟨(some 2), none, (.mv (.c (.bool false)))⟩]) (.seq (.reg [⟨(some 3), none, (.mv (.t 0))⟩, ⟨(some 4), none, (.bin .geq (.t 3) (.c (.int .i64 1)))⟩, ⟨(some 5), none, (.mv (.t 4))⟩, ⟨(some 6), (some (5, true)), (.mv (.t 0))⟩, ⟨(some 7), (some (5, true)), (.bin .leq (.t 6) (.c (.int .i64 9)))⟩, ⟨(some 8), none, (.pick (.t 5) (.t 7) (.c (.bool false)))⟩, ⟨(some 2), none, (.mv (.t 8))⟩]) .ret))
theorem broadsheetref05_Number.code : comp PG [] (Tryd.f33.body.getD .skip) = broadsheetref05_Number.c := by kernel_rfl
theorem broadsheetref05_Number.of {args : List AV} {H : AH} {K : AV → AH → Prop} (hl : args.length = 1) (h : wpA PG broadsheetref05_Number.c none (endA [(.t 2)] K) (initFr args) H) : ACalls PG 33 args H K :=
  ACalls.of_code (fl := []) mixed Tryd.func33 (c := Tryd.f33.body.getD .skip) (by kernel_rfl) (by kernel_rfl) (by rw [hl]; exact of_decide_eq_true (by kernel_rfl)) (by rw [broadsheetref05_Number.code]; kernel_rfl)
    (by rw [broadsheetref05_Number.code, show compRes PG Tryd.f33.results.toList = [(.t 2)] from by kernel_rfl]; exact h)
def broadsheetref05_Datum.n : Nat := 34
noncomputable def broadsheetref05_Datum.c : C := (.seq (.reg [⟨(some 4), none, (.allc 52 [(.int .i64 0), (.bool false), (.int .u64 0), (.str [])])⟩]) (.seq (.seq (.reg [⟨(some 6), none, (.mv (.t 0))⟩, ⟨(some 7), none, (.call 33 [(.t 6)])⟩, ⟨(some 8), none, (.un .not (.t 7))⟩]) (.cond (.t 8) (.seq (.reg [⟨(some 9), none, (.build [(.int .i64 0), (.bool false), (.int .u64 0), (.str [])] [])⟩, ⟨none, none, (.store 4 (.t 4) (.t 9))⟩]) .ret) .skip)) (.seq (.seq (.reg [⟨(some 10), none, (.mv (.t 0))⟩, ⟨(some 11), none, (.bin .eql (.t 10) (.c (.int .i64 1)))⟩]) (.cond (.t 11) (.seq (.reg [⟨(some 12), none, (.mv (.t 1))⟩, ⟨(some 13), none, (.bin .rem (.t 12) (.c (.int .u64 2)))⟩, ⟨(some 14), none, (.build [(.int .i64 0), (.bool false), (.int .u64 0), (.str [])] [(0, (1, (.c (.int .i64 3)))), (2, (1, (.t 13)))])⟩, ⟨none, none, (.store 4 (.t 4) (.t 14))⟩]) .ret) .skip)) (.seq (.seq (.reg [⟨(some 15), none, (.mv (.t 0))⟩, ⟨(some 16), none, (.call 54 [(.t 15)])⟩, ⟨(some 17), none, (.un .not (.t 16))⟩]) (.cond (.t 17) (.seq (.reg [⟨(some 18), none, (.mv (.t 0))⟩, ⟨(some 19), none, (.mv (.t 1))⟩, ⟨(some 20), none, (.call 55 [(.t 18), (.t 19)])⟩, ⟨(some 21), none, (.build [(.int .i64 0), (.bool false), (.int .u64 0), (.str [])] [(0, (1, (.c (.int .i64 1)))), (2, (1, (.t 20)))])⟩, ⟨none, none, (.store 4 (.t 4) (.t 21))⟩]) .ret) .skip)) (.seq (.reg [⟨(some 22), none, (.mv (.t 1))⟩, ⟨(some 23), none, (.mv (.t 0))⟩, ⟨(some 24), none, (.call 57 [(.t 23)])⟩, ⟨(some 25), none, (.call 56 [(.t 22), (.t 24)])⟩, ⟨(some 5), none, (.mv (.t 25))⟩]) (.seq (.seq (.reg [⟨(some 26), none, (.mv (.t 5))⟩, ⟨(some 27), none, (.bin .lss (.t 26) (.c (.int .i64 0)))⟩]) (.cond (.t 27) (.seq (.reg [⟨(some 28), none, (.mv (.t 5))⟩, ⟨(some 29), none, (.bin .add (.t 28) (.c (.int .i64 1)))⟩, ⟨(some 30), none, (.un .neg (.t 29))⟩, ⟨(some 31), none, (.conv .u64 (.t 30))⟩, ⟨(some 32), none, (.bin .add (.t 31) (.c (.int .u64 1)))⟩, ⟨(some 33), none, (.build [(.int .i64 0), (.bool false), (.int .u64 0), (.str [])] [(0, (1, (.c (.int .i64 1)))), (1, (1, (.c (.bool true)))), (2, (1, (.t 32)))])⟩, ⟨none, none, (.store 4 (.t 4) (.t 33))⟩]) .ret) .skip)) (.seq (.reg [⟨(some 34), none, (.mv (.t 5))⟩, ⟨(some 35), none, (.conv .u64 (.t 34))⟩, ⟨(some 36), none, (.build [(.int .i64 0), (.bool false), (.int .u64 0), (.str [])] [(0, (1, (.c (.int .i64 1)))), (2, (1, (.t 35)))])⟩, ⟨none, none, (.store 4 (.t 4) (.t 36))⟩]) .ret)))))))
theorem broadsheetref05_Datum.code : comp PG [] (Tryd.f34.body.getD .skip) = broadsheetref05_Datum.c := by kernel_rfl
theorem broadsheetref05_Datum.of {args : List AV} {H : AH} {K : AV → AH → Prop} (hl : args.length = 2) (h : wpA PG broadsheetref05_Datum.c none (endA [(.cell 4 (some 4))] K) (initFr args) H) : ACalls PG 34 args H K :=
  ACalls.of_code (fl := []) mixed Tryd.func34 (c := Tryd.f34.body.getD .skip) (by kernel_rfl) (by kernel_rfl) (by rw [hl]; exact of_decide_eq_true (by kernel_rfl)) (by rw [broadsheetref05_Datum.code]; kernel_rfl)
    (by rw [broadsheetref05_Datum.code, show compRes PG Tryd.f34.results.toList = [(.cell 4 (some 4))] from by kernel_rfl]; exact h)
def types_Branch.n : Nat := 46
noncomputable def types_Branch.c : C := (.seq (.reg [⟨(some 5), none, (.box 22 (.t 2))⟩, ⟨(some 6), none, (.mv (.c (.int .i64 0)))⟩, ⟨(some 7), none, (.mv (.c (.bool false)))⟩]) (.seq (.reg [⟨(some 8), none, (.mv (.c (.clo 68 [] [])))⟩]) (.seq (.seq (.reg [⟨(some 12), none, (.mv (.t 0))⟩, ⟨(some 13), none, (.mv (.t 1))⟩, ⟨(some 14), none, (.mv (.t 8))⟩, ⟨(some 15), none, (.mkfn 70 [] [(.t 5)])⟩, ⟨(some 16), none, (.call 69 [(.t 12), (.t 13), (.t 14), (.t 15)])⟩, ⟨(some 11), none, (.mv (.t 16))⟩, ⟨(some 17), none, (.extr (.t 11) 0)⟩, ⟨(some 18), none, (.extr (.t 11) 1)⟩, ⟨(some 9), none, (.mv (.t 17))⟩, ⟨(some 10), none, (.mv (.t 18))⟩]) (.seq (.reg [⟨(some 19), none, (.mv (.t 10))⟩]) (.cond (.t 19) (.seq (.reg [⟨(some 20), none, (.mv (.t 9))⟩, ⟨(some 6), none, (.mv (.t 20))⟩, ⟨(some 7), none, (.mv (.c (.bool true)))⟩]) .ret) .skip))) (.seq (.reg [⟨(some 21), none, (.mv (.t 0))⟩, ⟨(some 22), none, (.mv (.t 1))⟩, ⟨(some 23), none, (.mv (.t 8))⟩, ⟨(some 24), none, (.call 69 [(.t 21), (.t 22), (.t 23), (.c (.clo 71 [] []))])⟩, ⟨(some 25), none, (.extr (.t 24) 0)⟩, ⟨(some 26), none, (.extr (.t 24) 1)⟩, ⟨(some 6), none, (.mv (.t 25))⟩, ⟨(some 7), none, (.mv (.t 26))⟩]) .ret))))
theorem types_Branch.code : comp PG [] (Tryd.f46.body.getD .skip) = types_Branch.c := by kernel_rfl
theorem types_Branch.of {args : List AV} {H : AH} {K : AV → AH → Prop} (hl : args.length = 3) (h : wpA PG types_Branch.c none (endA [(.t 6), (.t 7)] K) (initFr args) H) : ACalls PG 46 args H K :=
  ACalls.of_code (fl := []) mixed Tryd.func46 (c := Tryd.f46.body.getD .skip) (by kernel_rfl) (by kernel_rfl) (by rw [hl]; exact of_decide_eq_true (by kernel_rfl)) (by rw [types_Branch.code]; kernel_rfl)
    (by rw [types_Branch.code, show compRes PG Tryd.f46.results.toList = [(.t 6), (.t 7)] from by kernel_rfl]; exact h)
def prim_Up.n : Nat := 50
noncomputable def prim_Up.c : C := (.seq (.reg [⟨(some 4), none, (.mv (.c (.int .u64 0)))⟩]) (.seq (.seq (.reg [⟨(some 5), none, (.mv (.t 0))⟩, ⟨(some 6), none, (.call 51 [(.t 5)])⟩]) (.cond (.t 6) (.seq (.reg [⟨(some 7), none, (.mv (.t 1))⟩, ⟨(some 8), none, (.mv (.t 0))⟩, ⟨(some 9), none, (.call 83 [(.t 8)])⟩, ⟨(some 10), none, (.call 82 [(.t 7), (.t 9)])⟩, ⟨(some 4), none, (.mv (.t 10))⟩]) .ret) .skip)) (.seq (.reg [⟨(some 11), none, (.mv (.t 0))⟩, ⟨(some 12), none, (.mv (.t 1))⟩, ⟨(some 13), none, (.call 84 [(.t 11), (.t 12)])⟩, ⟨(some 4), none, (.mv (.t 13))⟩]) .ret)))
theorem prim_Up.code : comp PG [] (Tryd.f50.body.getD .skip) = prim_Up.c := by kernel_rfl
theorem prim_Up.of {args : List AV} {H : AH} {K : AV → AH → Prop} (hl : args.length = 2) (h : wpA PG prim_Up.c none (endA [(.t 4)] K) (initFr args) H) : ACalls PG 50 args H K :=
  ACalls.of_code (fl := []) mixed Tryd.func50 (c := Tryd.f50.body.getD .skip) (by kernel_rfl) (by kernel_rfl) (by rw [hl]; exact of_decide_eq_true (by kernel_rfl)) (by rw [prim_Up.code]; kernel_rfl)
    (by rw [prim_Up.code, show compRes PG Tryd.f50.results.toList = [(.t 4)] from by kernel_rfl]; exact h)
def prim_Signed.n : Nat := 51
noncomputable def prim_Signed.c : C := (.seq (.reg [⟨(some 2), none, (.mv (.c (.bool false)))⟩]) (.seq (.reg [⟨(some 3), none, (.mv (.t 0))⟩, ⟨(some 4), none, (.call 85 [(.t 3)])⟩, ⟨(some 5), none, (.field 1 none (.t 4))⟩, ⟨(some 2), none, (.mv (.t 5))⟩]) .ret))
theorem prim_Signed.code : comp PG [] (Tryd.f51.body.getD .skip) = prim_Signed.c := by kernel_rfl
theorem prim_Signed.of {args : List AV} {H : AH} {K : AV → AH → Prop} (hl : args.length = 1) (h : wpA PG prim_Signed.c none (endA [(.t 2)] K) (initFr args) H) : ACalls PG 51 args H K :=
  ACalls.of_code (fl := []) mixed Tryd.func51 (c := Tryd.f51.body.getD .skip) (by kernel_rfl) (by kernel_rfl) (by rw [hl]; exact of_decide_eq_true (by kernel_rfl)) (by rw [prim_Signed.code]; kernel_rfl)
    (by rw [prim_Signed.code, show compRes PG Tryd.f51.results.toList = [(.t 2)] from by kernel_rfl]; exact h)
def broadsheetref05_Signed.n : Nat := 54
noncomputable def broadsheetref05_Signed.c : C := (.seq (.reg [⟨(some 2), none, (.mv (.c (.bool false)))⟩]) (.seq (.reg [⟨(some 3), none, (.mv (.t 0))⟩, ⟨(some 4), none, (.bin .eql (.t 3) (.c (.int .i64 3)))⟩, ⟨(some 5), none, (.mv (.t 4))⟩, ⟨(some 6), (some (5, false)), (.mv (.t 0))⟩, ⟨(some 7), (some (5, false)), (.bin .eql (.t 6) (.c (.int .i64 5)))⟩, ⟨(some 8), none, (.pick (.t 5) (.c (.bool true)) (.t 7))⟩, ⟨(some 9), none, (.mv (.t 8))⟩, ⟨(some 10), (some (9, false)), (.mv (.t 0))⟩, ⟨(some 11), (some (9, false)), (.bin .eql (.t 10) (.c (.int .i64 7)))⟩, ⟨(some 12), none, (.pick (.t 9) (.c (.bool true)) (.t 11))⟩, ⟨(some 13), none, (.mv (.t 12))⟩, ⟨(some 14), (some (13, false)), (.mv (.t 0))⟩, ⟨(some 15), (some (13, false)), (.bin .eql (.t 14) (.c (.int .i64 9)))⟩, ⟨(some 16), none, (.pick (.t 13) (.c (.bool true)) (.t 15))⟩, ⟨(some 2), none, (.mv (.t 16))⟩]) .ret))
theorem broadsheetref05_Signed.code : comp PG [] (Tryd.f54.body.getD .skip) = broadsheetref05_Signed.c := by kernel_rfl
theorem broadsheetref05_Signed.of {args : List AV} {H : AH} {K : AV → AH → Prop} (hl : args.length = 1) (h : wpA PG broadsheetref05_Signed.c none (endA [(.t 2)] K) (initFr args) H) : ACalls PG 54 args H K :=
  ACalls.of_code (fl := []) mixed Tryd.func54 (c := Tryd.f54.body.getD .skip) (by kernel_rfl) (by kernel_rfl) (by rw [hl]; exact of_decide_eq_true (by kernel_rfl)) (by rw [broadsheetref05_Signed.code]; kernel_rfl)
    (by rw [broadsheetref05_Signed.code, show compRes PG Tryd.f54.results.toList = [(.t 2)] from by kernel_rfl]; exact h)
def broadsheetref05_Low.n : Nat := 55
noncomputable def broadsheetref05_Low.c : C := (.seq (.reg [⟨(some 4), none, (.mv (.c (.int .u64 0)))⟩]) (.seq (.seq (.reg [⟨(some 5), none, (.mv (.t 0))⟩, ⟨(some 6), none, (.call 33 [(.t 5)])⟩, ⟨(some 7), none, (.un .not (.t 6))⟩]) (.cond (.t 7) (.seq (.reg [⟨(some 4), none, (.mv (.c (.int .u64 0)))⟩]) .ret) .skip)) (.seq (.reg [⟨(some 8), none, (.mv (.t 1))⟩, ⟨(some 9), none, (.mv (.t 0))⟩, ⟨(some 10), none, (.call 57 [(.t 9)])⟩, ⟨(some 11), none, (.call 91 [(.t 8), (.t 10)])⟩, ⟨(some 4), none, (.mv (.t 11))⟩]) .ret)))
theorem broadsheetref05_Low.code : comp PG [] (Tryd.f55.body.getD .skip) = broadsheetref05_Low.c := by kernel_rfl
theorem broadsheetref05_Low.of {args : List AV} {H : AH} {K : AV → AH → Prop} (hl : args.length = 2) (h : wpA PG broadsheetref05_Low.c none (endA [(.t 4)] K) (initFr args) H) : ACalls PG 55 args H K :=
  ACalls.of_code (fl := []) mixed Tryd.func55 (c := Tryd.f55.body.getD .skip) (by kernel_rfl) (by kernel_rfl) (by rw [hl]; exact of_decide_eq_true (by kernel_rfl)) (by rw [broadsheetref05_Low.code]; kernel_rfl)
    (by rw [broadsheetref05_Low.code, show compRes PG Tryd.f55.results.toList = [(.t 4)] from by kernel_rfl]; exact h)
def broadsheetref01_Sign.n : Nat := 56
noncomputable def broadsheetref01_Sign.c : C := (.seq (.reg [⟨(some 4), none, (.mv (.c (.int .i64 0)))⟩]) (.seq (.seq (.reg [⟨(some 6), none, (.mv (.t 1))⟩, ⟨(some 7), none, (.call 92 [(.t 6)])⟩, ⟨(some 8), none, (.un .not (.t 7))⟩]) (.cond (.t 8) (.seq (.reg [⟨(some 4), none, (.mv (.c (.int .i64 0)))⟩]) .ret) .skip)) (.seq (.reg [⟨(some 9), none, (.mv (.t 0))⟩, ⟨(some 10), none, (.mv (.t 1))⟩, ⟨(some 11), none, (.call 91 [(.t 9), (.t 10)])⟩, ⟨(some 0), none, (.mv (.t 11))⟩]) (.seq (.reg [⟨(some 12), none, (.mv (.t 1))⟩, ⟨(some 13), none, (.call 93 [(.t 12)])⟩, ⟨(some 5), none, (.mv (.t 13))⟩]) (.seq (.seq (.reg [⟨(some 14), none, (.mv (.t 0))⟩, ⟨(some 15), none, (.mv (.t 5))⟩, ⟨(some 16), none, (.bin .lss (.t 14) (.t 15))⟩]) (.cond (.t 16) (.seq (.reg [⟨(some 17), none, (.mv (.t 0))⟩, ⟨(some 18), none, (.conv .i64 (.t 17))⟩, ⟨(some 4), none, (.mv (.t 18))⟩]) .ret) .skip)) (.seq (.reg [⟨(some 19), none, (.mv (.t 0))⟩, ⟨(some 20), none, (.mv (.t 5))⟩, ⟨(some 21), none, (.bin .sub (.t 19) (.t 20))⟩, ⟨(some 22), none, (.conv .i64 (.t 21))⟩, ⟨(some 23), none, (.mv (.t 5))⟩, ⟨(some 24), none, (.bin .sub (.t 23) (.c (.int .u64 1)))⟩, ⟨(some 25), none, (.conv .i64 (.t 24))⟩, ⟨(some 26), none, (.bin .sub (.t 22) (.t 25))⟩, ⟨(some 27), none, (.bin .sub (.t 26) (.c (.int .i64 1)))⟩, ⟨(some 4), none, (.mv (.t 27))⟩]) .ret))))))
theorem broadsheetref01_Sign.code : comp PG [] (Tryd.f56.body.getD .skip) = broadsheetref01_Sign.c := by kernel_rfl
theorem broadsheetref01_Sign.of {args : List AV} {H : AH} {K : AV → AH → Prop} (hl : args.length = 2) (h : wpA PG broadsheetref01_Sign.c none (endA [(.t 4)] K) (initFr args) H) : ACalls PG 56 args H K :=
  ACalls.of_code (fl := []) mixed Tryd.func56 (c := Tryd.f56.body.getD .skip) (by kernel_rfl) (by kernel_rfl) (by rw [hl]; exact of_decide_eq_true (by kernel_rfl)) (by rw [broadsheetref01_Sign.code]; kernel_rfl)
    (by rw [broadsheetref01_Sign.code, show compRes PG Tryd.f56.results.toList = [(.t 4)] from by kernel_rfl]; exact h)
def broadsheetref05_Size.n : Nat := 57
noncomputable def broadsheetref05_Size.c : C := (.seq (.reg [⟨(some 2), none, (.mv (.c (.int .i64 0)))⟩]) (.seq (.seq (.reg [⟨(some 3), none, (.mv (.t 0))⟩]) (.block 0 (.seq (.seq (.reg [⟨(some 5), none, (.bin .eql (.t 3) (.c (.int .i64 1)))⟩, ⟨(some 4), none, (.mv (.t 5))⟩]) (.cond (.t 4) .skip (.reg [⟨(some 6), none, (.bin .eql (.t 3) (.c (.int .i64 2)))⟩, ⟨(some 4), none, (.mv (.t 6))⟩]))) (.cond (.t 4) (.seq (.reg [⟨(some 2), none, (.mv (.c (.int .i64 1)))⟩]) .ret) (.seq (.seq (.reg [⟨(some 8), none, (.bin .eql (.t 3) (.c (.int .i64 3)))⟩, ⟨(some 7), none, (.mv (.t 8))⟩]) (.cond (.t 7) .skip (.reg [⟨(some 9), none, (.bin .eql (.t 3) (.c (.int .i64 4)))⟩, ⟨(some 7), none, (.mv (.t 9))⟩]))) (.cond (.t 7) (.seq (.reg [⟨(some 2), none, (.mv (.c (.int .i64 2)))⟩]) .ret) (.seq (.seq (.reg [⟨(some 11), none, (.bin .eql (.t 3) (.c (.int .i64 5)))⟩, ⟨(some 10), none, (.mv (.t 11))⟩]) (.cond (.t 10) .skip (.seq (.reg [⟨(some 12), none, (.bin .eql (.t 3) (.c (.int .i64 6)))⟩, ⟨(some 10), none, (.mv (.t 12))⟩]) (.cond (.t 10) .skip (.reg [⟨(some 13), none, (.bin .eql (.t 3) (.c (.int .i64 9)))⟩, ⟨(some 10), none, (.mv (.t 13))⟩]))))) (.cond (.t 10) (.seq (.reg [⟨(some 2), none, (.mv (.c (.int .i64 4)))⟩]) .ret) (.seq (.seq (.reg [⟨(some 15), none, (.bin .eql (.t 3) (.c (.int .i64 7)))⟩, ⟨(some 14), none, (.mv (.t 15))⟩]) (.cond (.t 14) .skip (.reg [⟨(some 16), none, (.bin .eql (.t 3) (.c (.int .i64 8)))⟩, ⟨(some 14), none, (.mv (.t 16))⟩]))) (.cond (.t 14) (.seq (.reg [⟨(some 2), none, (.mv (.c (.int .i64 8)))⟩]) .ret) .skip)))))))))) (.seq (.reg [⟨(some 2), none, (.mv (.c (.int .i64 0)))⟩]) .ret)))
theorem broadsheetref05_Size.code : comp PG [] (Tryd.f57.body.getD .skip) = broadsheetref05_Size.c := by kernel_rfl
theorem broadsheetref05_Size.of {args : List AV} {H : AH} {K : AV → AH → Prop} (hl : args.length = 1) (h : wpA PG broadsheetref05_Size.c none (endA [(.t 2)] K) (initFr args) H) : ACalls PG 57 args H K :=
  ACalls.of_code (fl := []) mixed Tryd.func57 (c := Tryd.f57.body.getD .skip) (by kernel_rfl) (by kernel_rfl) (by rw [hl]; exact of_decide_eq_true (by kernel_rfl)) (by rw [broadsheetref05_Size.code]; kernel_rfl)
    (by rw [broadsheetref05_Size.code, show compRes PG Tryd.f57.results.toList = [(.t 2)] from by kernel_rfl]; exact h)
def broadsheetref01_Byte.n : Nat := 58
noncomputable def broadsheetref01_Byte.c : C := (.seq (.reg [⟨(some 2), none, (.mv (.c (.str [])))⟩]) (.seq (.reg [⟨(some 3), none, (.mv (.t 0))⟩, ⟨(some 4), none, (.conv .u8 (.t 3))⟩, ⟨(some 5), none, (.bslice 5 1 1 [(.int .u8 0)] [(0, (.t 4))])⟩, ⟨(some 6), none, (.bytesS (.t 5))⟩, ⟨(some 2), none, (.mv (.t 6))⟩]) .ret))
theorem broadsheetref01_Byte.code : comp PG [] (Tryd.f58.body.getD .skip) = broadsheetref01_Byte.c := by kernel_rfl
theorem broadsheetref01_Byte.of {args : List AV} {H : AH} {K : AV → AH → Prop} (hl : args.length = 1) (h : wpA PG broadsheetref01_Byte.c none (endA [(.t 2)] K) (initFr args) H) : ACalls PG 58 args H K :=
  ACalls.of_code (fl := []) mixed Tryd.func58 (c := Tryd.f58.body.getD .skip) (by kernel_rfl) (by kernel_rfl) (by rw [hl]; exact of_decide_eq_true (by kernel_rfl)) (by rw [broadsheetref01_Byte.code]; kernel_rfl)
    (by rw [broadsheetref01_Byte.code, show compRes PG Tryd.f58.results.toList = [(.t 2)] from by kernel_rfl]; exact h)
def types_Check.n : Nat := 60
noncomputable def types_Check.c : C := (.seq (.reg [⟨(some 2), none, (.allc 100 [(.int .i64 0), (.int .i64 0)])⟩]) (.seq (.seq (.reg [⟨(some 9), none, (.mv (.t 0))⟩, ⟨(some 10), none, (.len false (.t 9))⟩, ⟨(some 11), none, (.bin .gtr (.t 10) (.c (.int .i64 32)))⟩]) (.cond (.t 11) (.seq (.reg [⟨(some 12), none, (.build [(.int .i64 0), (.int .i64 0)] [(0, (1, (.c (.int .i64 3)))), (1, (1, (.c (.int .i64 32))))])⟩, ⟨none, none, (.store 2 (.t 2) (.t 12))⟩]) .ret) .skip)) (.seq (.seq (.reg [⟨(some 13), none, (.mv (.t 0))⟩, ⟨(some 14), none, (.len false (.t 13))⟩, ⟨(some 15), none, (.mv (.c (.int .i64 0)))⟩]) (.block 0 (.loop (.seq (.reg [⟨(some 16), none, (.bin .lss (.t 15) (.t 14))⟩]) (.seq (.cond (.t 16) .skip (.exit 0)) (.seq (.block 1 (.seq (.reg [⟨(some 17), none, (.mv (.t 15))⟩, ⟨(some 18), none, (.iaddr 6 (.t 13) (.t 15))⟩, ⟨(some 19), none, (.load (some 6) (.t 18))⟩, ⟨(some 4), none, (.allc 62 [(.int .i64 0), (.str []), (.int .i64 0), (.int .i64 0), (.int .i64 0), .nilS])⟩, ⟨(some 3), none, (.mv (.t 17))⟩, ⟨none, none, (.store 6 (.t 4) (.t 19))⟩]) (.seq (.reg [⟨(some 20), none, (.mv (.t 0))⟩, ⟨(some 21), none, (.mv (.t 3))⟩, ⟨(some 22), none, (.load (some 6) (.t 4))⟩, ⟨(some 23), none, (.build [.nilS, (.int .i64 0), (.int .i64 0), (.str []), (.int .i64 0), (.int .i64 0), (.int .i64 0), .nilS] [(0, (1, (.t 20))), (1, (1, (.t 21))), (2, (6, (.t 22)))])⟩, ⟨(some 24), none, (.box 129 (.t 23))⟩, ⟨(some 5), none, (.mv (.t 24))⟩]) (.seq (.reg [⟨(some 25), none, (.mv (.t 5))⟩, ⟨(some 26), none, (.mkfn 95 [(.t 25)] [])⟩, ⟨(some 27), none, (.mv (.t 5))⟩, ⟨(some 28), none, (.mkfn 96 [(.t 27)] [])⟩, ⟨(some 29), none, (.mv (.t 5))⟩, ⟨(some 30), none, (.mkfn 97 [(.t 29)] [])⟩, ⟨(some 31), none, (.mv (.t 5))⟩, ⟨(some 32), none, (.mkfn 98 [(.t 31)] [])⟩, ⟨(some 33), none, (.mv (.t 5))⟩, ⟨(some 34), none, (.mkfn 99 [(.t 33)] [])⟩, ⟨(some 35), none, (.mv (.t 5))⟩, ⟨(some 36), none, (.mkfn 100 [(.t 35)] [])⟩, ⟨(some 37), none, (.bslice 130 1 6 [.nilF] [(0, (.t 26)), (1, (.t 28)), (2, (.t 30)), (3, (.t 32)), (4, (.t 34)), (5, (.t 36))])⟩, ⟨(some 38), none, (.len false (.t 37))⟩, ⟨(some 39), none, (.mv (.c (.int .i64 0)))⟩]) (.block 2 (.loop (.seq (.reg [⟨(some 40), none, (.bin .lss (.t 39) (.t 38))⟩]) (.seq (.cond (.t 40) .skip (.exit 2)) (.seq (.block 3 (.seq (.reg [⟨(some 41), none, (.iaddr 1 (.t 37) (.t 39))⟩, ⟨(some 42), none, (.load none (.t 41))⟩, ⟨(some 7), none, (.mv (.t 42))⟩]) (.seq (.reg [⟨(some 43), none, (.mv (.t 7))⟩, ⟨(some 44), none, (.callv (.t 43) [])⟩, ⟨(some 8), none, (.mv (.t 44))⟩]) (.seq (.reg [⟨(some 45), none, (.mv (.t 8))⟩, ⟨(some 46), none, (.bin .neq (.t 45) (.c (.int .i64 0)))⟩]) (.cond (.t 46) (.seq (.reg [⟨(some 47), none, (.mv (.t 8))⟩, ⟨(some 48), none, (.mv (.t 3))⟩, ⟨(some 49), none, (.build [(.int .i64 0), (.int .i64 0)] [(0, (1, (.t 47))), (1, (1, (.t 48)))])⟩, ⟨none, none, (.store 2 (.t 2) (.t 49))⟩]) .ret) .skip))))) (.reg [⟨(some 50), none, (.bin .add (.t 39) (.c (.int .i64 1)))⟩, ⟨(some 39), none, (.mv (.t 50))⟩])))))))))) (.reg [⟨(some 51), none, (.bin .add (.t 15) (.c (.int .i64 1)))⟩, ⟨(some 15), none, (.mv (.t 51))⟩]))))))) (.seq (.reg [⟨(some 52), none, (.build [(.int .i64 0), (.int .i64 0)] [])⟩, ⟨none, none, (.store 2 (.t 2) (.t 52))⟩]) .ret))))
theorem types_Check.code : comp PG [] (Tryd.f60.body.getD .skip) = types_Check.c := by kernel_rfl
theorem types_Check.of {args : List AV} {H : AH} {K : AV → AH → Prop} (hl : args.length = 1) (h : wpA PG types_Check.c none (endA [(.cell 2 (some 2))] K) (initFr args) H) : ACalls PG 60 args H K :=
  ACalls.of_code (fl := []) mixed Tryd.func60 (c := Tryd.f60.body.getD .skip) (by kernel_rfl) (by kernel_rfl) (by rw [hl]; exact of_decide_eq_true (by kernel_rfl)) (by rw [types_Check.code]; kernel_rfl)
    (by rw [types_Check.code, show compRes PG Tryd.f60.results.toList = [(.cell 2 (some 2))] from by kernel_rfl]; exact h)
def types_Item.n : Nat := 67
noncomputable def types_Item.c : C := (.seq (.reg [⟨(some 5), none, (.box 9 (.t 2))⟩, ⟨(some 6), none, (.mv (.c (.int .i64 0)))⟩, ⟨(some 7), none, (.mv (.c (.bool false)))⟩]) (.seq (.reg [⟨(some 8), none, (.mv (.t 0))⟩, ⟨(some 9), none, (.mv (.t 1))⟩, ⟨(some 10), none, (.mkfn 108 [] [(.t 5)])⟩, ⟨(some 11), none, (.call 69 [(.t 8), (.t 9), (.c (.clo 106 [] [])), (.t 10)])⟩, ⟨(some 12), none, (.extr (.t 11) 0)⟩, ⟨(some 13), none, (.extr (.t 11) 1)⟩, ⟨(some 6), none, (.mv (.t 12))⟩, ⟨(some 7), none, (.mv (.t 13))⟩]) .ret))
theorem types_Item.code : comp PG [] (Tryd.f67.body.getD .skip) = types_Item.c := by kernel_rfl
theorem types_Item.of {args : List AV} {H : AH} {K : AV → AH → Prop} (hl : args.length = 3) (h : wpA PG types_Item.c none (endA [(.t 6), (.t 7)] K) (initFr args) H) : ACalls PG 67 args H K :=
  ACalls.of_code (fl := []) mixed Tryd.func67 (c := Tryd.f67.body.getD .skip) (by kernel_rfl) (by kernel_rfl) (by rw [hl]; exact of_decide_eq_true (by kernel_rfl)) (by rw [types_Item.code]; kernel_rfl)
    (by rw [types_Item.code, show compRes PG Tryd.f67.results.toList = [(.t 6), (.t 7)] from by kernel_rfl]; exact h)
def types_Branch_1.n : Nat := 68
noncomputable def types_Branch_1.c : C := (.seq (.reg [⟨(some 2), none, (.mv (.c (.bool false)))⟩]) (.seq (.reg [⟨(some 3), none, (.mv (.t 0))⟩, ⟨(some 4), none, (.bin .eql (.t 3) (.c (.int .i64 14)))⟩, ⟨(some 2), none, (.mv (.t 4))⟩]) .ret))
theorem types_Branch_1.code : comp PG [] (Tryd.f68.body.getD .skip) = types_Branch_1.c := by kernel_rfl
theorem types_Branch_1.of {args : List AV} {H : AH} {K : AV → AH → Prop} (hl : args.length = 1) (h : wpA PG types_Branch_1.c none (endA [(.t 2)] K) (initFr args) H) : ACalls PG 68 args H K :=
  ACalls.of_code (fl := []) mixed Tryd.func68 (c := Tryd.f68.body.getD .skip) (by kernel_rfl) (by kernel_rfl) (by rw [hl]; exact of_decide_eq_true (by kernel_rfl)) (by rw [types_Branch_1.code]; kernel_rfl)
    (by rw [types_Branch_1.code, show compRes PG Tryd.f68.results.toList = [(.t 2)] from by kernel_rfl]; exact h)
theorem types_Branch_1.of' {args : List AV} {H : AH} {K : AV → AH → Prop} (hl : args.length ≤ 5) (h : wpA PG types_Branch_1.c none (endA [(.t 2)] K) (initFr args) H) : ACalls PG 68 args H K :=
  ACalls.of_code (fl := []) mixed Tryd.func68 (c := Tryd.f68.body.getD .skip) (by kernel_rfl) (by kernel_rfl) hl (by rw [types_Branch_1.code]; kernel_rfl) (by rw [types_Branch_1.code, show compRes PG Tryd.f68.results.toList = [(.t 2)] from by kernel_rfl]; exact h)
def types_find.n : Nat := 69
noncomputable def types_find.c : C := (.seq (.reg [⟨(some 8), none, (.mv (.c (.int .i64 0)))⟩, ⟨(some 9), none, (.mv (.c (.bool false)))⟩]) (.seq (.seq (.reg [⟨(some 12), none, (.mv (.t 1))⟩, ⟨(some 13), none, (.bin .lss (.t 12) (.c (.int .i64 0)))⟩, ⟨(some 14), none, (.mv (.t 13))⟩, ⟨(some 15), (some (14, false)), (.mv (.t 1))⟩, ⟨(some 16), (some (14, false)), (.mv (.t 0))⟩, ⟨(some 17), (some (14, false)), (.len false (.t 16))⟩, ⟨(some 18), (some (14, false)), (.bin .geq (.t 15) (.t 17))⟩, ⟨(some 19), none, (.pick (.t 14) (.c (.bool true)) (.t 18))⟩, ⟨(some 20), none, (.mv (.t 19))⟩, ⟨(some 21), (some (20, false)), (.mv (.t 2))⟩, ⟨(some 22), (some (20, false)), (.mv (.t 0))⟩, ⟨(some 23), (some (20, false)), (.mv (.t 1))⟩, ⟨(some 24), (some (20, false)), (.iaddr 6 (.t 22) (.t 23))⟩, ⟨(some 25), (some (20, false)), (.faddr 0 (.t 24))⟩, ⟨(some 26), (some (20, false)), (.load none (.t 25))⟩, ⟨(some 27), (some (20, false)), (.callv (.t 21) [(.t 26)])⟩, ⟨(some 28), (some (20, false)), (.un .not (.t 27))⟩, ⟨(some 29), none, (.pick (.t 20) (.c (.bool true)) (.t 28))⟩]) (.cond (.t 29) (.seq (.reg [⟨(some 8), none, (.mv (.c (.int .i64 0)))⟩, ⟨(some 9), none, (.mv (.c (.bool false)))⟩]) .ret) .skip)) (.seq (.seq (.reg [⟨(some 30), none, (.mv (.t 0))⟩, ⟨(some 31), none, (.mv (.t 1))⟩, ⟨(some 32), none, (.iaddr 6 (.t 30) (.t 31))⟩, ⟨(some 33), none, (.faddr 5 (.t 32))⟩, ⟨(some 34), none, (.load none (.t 33))⟩, ⟨(some 35), none, (.len false (.t 34))⟩, ⟨(some 36), none, (.mv (.c (.int .i64 0)))⟩]) (.block 0 (.loop (.seq (.reg [⟨(some 37), none, (.bin .lss (.t 36) (.t 35))⟩]) (.seq (.cond (.t 37) .skip (.exit 0)) (.seq (.block 1 (.seq (.reg [⟨(some 38), none, (.mv (.t 36))⟩, ⟨(some 39), none, (.iaddr 5 (.t 34) (.t 36))⟩, ⟨(some 40), none, (.load (some 5) (.t 39))⟩, ⟨(some 11), none, (.allc 64 [(.str []), (.int .u64 0), (.int .i64 0), (.bool false), (.bool false)])⟩, ⟨(some 10), none, (.mv (.t 38))⟩, ⟨none, none, (.store 5 (.t 11) (.t 40))⟩]) (.seq (.reg [⟨(some 41), none, (.mv (.t 3))⟩, ⟨(some 42), none, (.load (some 5) (.t 11))⟩, ⟨(some 43), none, (.callv (.t 41) [(.t 42)])⟩]) (.cond (.t 43) (.seq (.reg [⟨(some 44), none, (.mv (.t 10))⟩, ⟨(some 8), none, (.mv (.t 44))⟩, ⟨(some 9), none, (.mv (.c (.bool true)))⟩]) .ret) .skip)))) (.reg [⟨(some 45), none, (.bin .add (.t 36) (.c (.int .i64 1)))⟩, ⟨(some 36), none, (.mv (.t 45))⟩]))))))) (.seq (.reg [⟨(some 8), none, (.mv (.c (.int .i64 0)))⟩, ⟨(some 9), none, (.mv (.c (.bool false)))⟩]) .ret))))
theorem types_find.code : comp PG [] (Tryd.f69.body.getD .skip) = types_find.c := by kernel_rfl
theorem types_find.of {args : List AV} {H : AH} {K : AV → AH → Prop} (hl : args.length = 4) (h : wpA PG types_find.c none (endA [(.t 8), (.t 9)] K) (initFr args) H) : ACalls PG 69 args H K :=
  ACalls.of_code (fl := []) mixed Tryd.func69 (c := Tryd.f69.body.getD .skip) (by kernel_rfl) (by kernel_rfl) (by rw [hl]; exact of_decide_eq_true (by kernel_rfl)) (by rw [types_find.code]; kernel_rfl)
    (by rw [types_find.code, show compRes PG Tryd.f69.results.toList = [(.t 8), (.t 9)] from by kernel_rfl]; exact h)
def types_Branch_2.n : Nat := 70
noncomputable def types_Branch_2.c : C := (.seq (.reg [⟨(some 2), none, (.box 64 (.t 0))⟩, ⟨(some 3), none, (.mv (.c (.bool false)))⟩]) (.seq (.reg [⟨(some 4), none, (.faddr 1 (.t 2))⟩, ⟨(some 5), none, (.load none (.t 4))⟩, ⟨(some 6), none, (.load none (.t 1))⟩, ⟨(some 7), none, (.bin .eql (.t 5) (.t 6))⟩, ⟨(some 8), none, (.mv (.t 7))⟩, ⟨(some 9), (some (8, true)), (.faddr 4 (.t 2))⟩, ⟨(some 10), (some (8, true)), (.load none (.t 9))⟩, ⟨(some 11), (some (8, true)), (.un .not (.t 10))⟩, ⟨(some 12), none, (.pick (.t 8) (.t 11) (.c (.bool false)))⟩, ⟨(some 3), none, (.mv (.t 12))⟩]) .ret))
theorem types_Branch_2.code : comp PG [] (Tryd.f70.body.getD .skip) = types_Branch_2.c := by kernel_rfl
theorem types_Branch_2.of {args : List AV} {H : AH} {K : AV → AH → Prop} (hl : args.length = 1) (h : wpA PG types_Branch_2.c none (endA [(.t 3)] K) (initFr args) H) : ACalls PG 70 args H K :=
  ACalls.of_code (fl := []) mixed Tryd.func70 (c := Tryd.f70.body.getD .skip) (by kernel_rfl) (by kernel_rfl) (by rw [hl]; exact of_decide_eq_true (by kernel_rfl)) (by rw [types_Branch_2.code]; kernel_rfl)
    (by rw [types_Branch_2.code, show compRes PG Tryd.f70.results.toList = [(.t 3)] from by kernel_rfl]; exact h)
theorem types_Branch_2.of' {args : List AV} {H : AH} {K : AV → AH → Prop} (hl : args.length ≤ 13) (h : wpA PG types_Branch_2.c none (endA [(.t 3)] K) (initFr args) H) : ACalls PG 70 args H K :=
  ACalls.of_code (fl := []) mixed Tryd.func70 (c := Tryd.f70.body.getD .skip) (by kernel_rfl) (by kernel_rfl) hl (by rw [types_Branch_2.code]; kernel_rfl) (by rw [types_Branch_2.code, show compRes PG Tryd.f70.results.toList = [(.t 3)] from by kernel_rfl]; exact h)
def types_Branch_3.n : Nat := 71
noncomputable def types_Branch_3.c : C := (.seq (.reg [⟨(some 1), none, (.box 64 (.t 0))⟩, ⟨(some 2), none, (.mv (.c (.bool false)))⟩]) (.seq (.reg [⟨(some 3), none, (.faddr 4 (.t 1))⟩, ⟨(some 4), none, (.load none (.t 3))⟩, ⟨(some 2), none, (.mv (.t 4))⟩]) .ret))
theorem types_Branch_3.code : comp PG [] (Tryd.f71.body.getD .skip) = types_Branch_3.c := by kernel_rfl
theorem types_Branch_3.of {args : List AV} {H : AH} {K : AV → AH → Prop} (hl : args.length = 1) (h : wpA PG types_Branch_3.c none (endA [(.t 2)] K) (initFr args) H) : ACalls PG 71 args H K :=
  ACalls.of_code (fl := []) mixed Tryd.func71 (c := Tryd.f71.body.getD .skip) (by kernel_rfl) (by kernel_rfl) (by rw [hl]; exact of_decide_eq_true (by kernel_rfl)) (by rw [types_Branch_3.code]; kernel_rfl)
    (by rw [types_Branch_3.code, show compRes PG Tryd.f71.results.toList = [(.t 2)] from by kernel_rfl]; exact h)
theorem types_Branch_3.of' {args : List AV} {H : AH} {K : AV → AH → Prop} (hl : args.length ≤ 5) (h : wpA PG types_Branch_3.c none (endA [(.t 2)] K) (initFr args) H) : ACalls PG 71 args H K :=
  ACalls.of_code (fl := []) mixed Tryd.func71 (c := Tryd.f71.body.getD .skip) (by kernel_rfl) (by kernel_rfl) hl (by rw [types_Branch_3.code]; kernel_rfl) (by rw [types_Branch_3.code, show compRes PG Tryd.f71.results.toList = [(.t 2)] from by kernel_rfl]; exact h)
def word_Wide.n : Nat := 82
noncomputable def word_Wide.c : C := (.seq (.reg [⟨(some 4), none, (.mv (.c (.int .u64 0)))⟩]) (.seq (.reg [⟨(some 5), none, (.mv (.t 0))⟩, ⟨(some 6), none, (.mv (.t 1))⟩, ⟨(some 7), none, (.call 113 [(.t 5), (.t 6)])⟩, ⟨(some 8), none, (.conv .u64 (.t 7))⟩, ⟨(some 4), none, (.mv (.t 8))⟩]) .ret))
theorem word_Wide.code : comp PG [] (Tryd.f82.body.getD .skip) = word_Wide.c := by kernel_rfl
theorem word_Wide.of {args : List AV} {H : AH} {K : AV → AH → Prop} (hl : args.length = 2) (h : wpA PG word_Wide.c none (endA [(.t 4)] K) (initFr args) H) : ACalls PG 82 args H K :=
  ACalls.of_code (fl := []) mixed Tryd.func82 (c := Tryd.f82.body.getD .skip) (by kernel_rfl) (by kernel_rfl) (by rw [hl]; exact of_decide_eq_true (by kernel_rfl)) (by rw [word_Wide.code]; kernel_rfl)
    (by rw [word_Wide.code, show compRes PG Tryd.f82.results.toList = [(.t 4)] from by kernel_rfl]; exact h)
def prim_Size.n : Nat := 83
noncomputable def prim_Size.c : C := (.seq (.reg [⟨(some 2), none, (.mv (.c (.int .i64 0)))⟩]) (.seq (.reg [⟨(some 3), none, (.mv (.t 0))⟩, ⟨(some 4), none, (.call 85 [(.t 3)])⟩, ⟨(some 5), none, (.field 0 none (.t 4))⟩, ⟨(some 2), none, (.mv (.t 5))⟩]) .ret))
theorem prim_Size.code : comp PG [] (Tryd.f83.body.getD .skip) = prim_Size.c := by kernel_rfl
theorem prim_Size.of {args : List AV} {H : AH} {K : AV → AH → Prop} (hl : args.length = 1) (h : wpA PG prim_Size.c none (endA [(.t 2)] K) (initFr args) H) : ACalls PG 83 args H K :=
  ACalls.of_code (fl := []) mixed Tryd.func83 (c := Tryd.f83.body.getD .skip) (by kernel_rfl) (by kernel_rfl) (by rw [hl]; exact of_decide_eq_true (by kernel_rfl)) (by rw [prim_Size.code]; kernel_rfl)
    (by rw [prim_Size.code, show compRes PG Tryd.f83.results.toList = [(.t 2)] from by kernel_rfl]; exact h)
def prim_Low.n : Nat := 84
noncomputable def prim_Low.c : C := (.seq (.reg [⟨(some 4), none, (.mv (.c (.int .u64 0)))⟩]) (.seq (.reg [⟨(some 7), none, (.mv (.t 0))⟩, ⟨(some 8), none, (.call 83 [(.t 7)])⟩, ⟨(some 5), none, (.mv (.t 8))⟩]) (.seq (.seq (.reg [⟨(some 9), none, (.mv (.t 5))⟩, ⟨(some 10), none, (.bin .eql (.t 9) (.c (.int .i64 0)))⟩]) (.cond (.t 10) (.seq (.reg [⟨(some 4), none, (.mv (.c (.int .u64 0)))⟩]) .ret) .skip)) (.seq (.reg [⟨(some 11), none, (.mv (.t 5))⟩, ⟨(some 12), none, (.bin .mul (.c (.int .i64 8)) (.t 11))⟩, ⟨(some 13), none, (.bin .sub (.c (.int .i64 64)) (.t 12))⟩, ⟨(some 14), none, (.conv .u64 (.t 13))⟩, ⟨(some 6), none, (.mv (.t 14))⟩]) (.seq (.reg [⟨(some 15), none, (.mv (.t 1))⟩, ⟨(some 16), none, (.mv (.t 6))⟩, ⟨(some 17), none, (.bin .shl (.t 15) (.t 16))⟩, ⟨(some 18), none, (.mv (.t 6))⟩, ⟨(some 19), none, (.bin .shr (.t 17) (.t 18))⟩, ⟨(some 4), none, (.mv (.t 19))⟩]) .ret)))))
theorem prim_Low.code : comp PG [] (Tryd.f84.body.getD .skip) = prim_Low.c := by kernel_rfl
theorem prim_Low.of {args : List AV} {H : AH} {K : AV → AH → Prop} (hl : args.length = 2) (h : wpA PG prim_Low.c none (endA [(.t 4)] K) (initFr args) H) : ACalls PG 84 args H K :=
  ACalls.of_code (fl := []) mixed Tryd.func84 (c := Tryd.f84.body.getD .skip) (by kernel_rfl) (by kernel_rfl) (by rw [hl]; exact of_decide_eq_true (by kernel_rfl)) (by rw [prim_Low.code]; kernel_rfl)
    (by rw [prim_Low.code, show compRes PG Tryd.f84.results.toList = [(.t 4)] from by kernel_rfl]; exact h)
def prim_rows.n : Nat := 85
noncomputable def prim_rows.c : C := (.seq (.reg [⟨(some 2), none, (.allc 118 [(.int .i64 0), (.bool false)])⟩]) (.seq (.reg [⟨(some 4), none, (.build [(.int .i64 0), (.bool false)] [(0, (1, (.c (.int .i64 1)))), (1, (1, (.c (.bool false))))])⟩, ⟨(some 5), none, (.build [(.int .i64 0), (.bool false)] [(0, (1, (.c (.int .i64 1)))), (1, (1, (.c (.bool false))))])⟩, ⟨(some 6), none, (.build [(.int .i64 0), (.bool false)] [(0, (1, (.c (.int .i64 2)))), (1, (1, (.c (.bool true))))])⟩, ⟨(some 7), none, (.build [(.int .i64 0), (.bool false)] [(0, (1, (.c (.int .i64 2)))), (1, (1, (.c (.bool false))))])⟩, ⟨(some 8), none, (.build [(.int .i64 0), (.bool false)] [(0, (1, (.c (.int .i64 4)))), (1, (1, (.c (.bool true))))])⟩, ⟨(some 9), none, (.build [(.int .i64 0), (.bool false)] [(0, (1, (.c (.int .i64 4)))), (1, (1, (.c (.bool false))))])⟩, ⟨(some 10), none, (.build [(.int .i64 0), (.bool false)] [(0, (1, (.c (.int .i64 8)))), (1, (1, (.c (.bool true))))])⟩, ⟨(some 11), none, (.build [(.int .i64 0), (.bool false)] [(0, (1, (.c (.int .i64 8)))), (1, (1, (.c (.bool false))))])⟩, ⟨(some 12), none, (.build [(.int .i64 0), (.bool false)] [(0, (1, (.c (.int .i64 4)))), (1, (1, (.c (.bool true))))])⟩, ⟨(some 13), none, (.build [(.int .i64 0), (.bool false), (.int .i64 0), (.bool false), (.int .i64 0), (.bool false), (.int .i64 0), (.bool false), (.int .i64 0), (.bool false), (.int .i64 0), (.bool false), (.int .i64 0), (.bool false), (.int .i64 0), (.bool false), (.int .i64 0), (.bool false), (.int .i64 0), (.bool false)] [(2, (2, (.t 4))), (4, (2, (.t 5))), (6, (2, (.t 6))), (8, (2, (.t 7))), (10, (2, (.t 8))), (12, (2, (.t 9))), (14, (2, (.t 10))), (16, (2, (.t 11))), (18, (2, (.t 12)))])⟩, ⟨(some 3), none, (.allc 139 [(.int .i64 0), (.bool false), (.int .i64 0), (.bool false), (.int .i64 0), (.bool false), (.int .i64 0), (.bool false), (.int .i64 0), (.bool false), (.int .i64 0), (.bool false), (.int .i64 0), (.bool false), (.int .i64 0), (.bool false), (.int .i64 0), (.bool false), (.int .i64 0), (.bool false)])⟩, ⟨none, none, (.store 20 (.t 3) (.t 13))⟩]) (.seq (.seq (.reg [⟨(some 14), none, (.mv (.t 0))⟩, ⟨(some 15), none, (.call 26 [(.t 14)])⟩, ⟨(some 16), none, (.un .not (.t 15))⟩]) (.cond (.t 16) (.seq (.reg [⟨(some 17), none, (.build [(.int .i64 0), (.bool false)] [])⟩, ⟨none, none, (.store 2 (.t 2) (.t 17))⟩]) .ret) .skip)) (.seq (.reg [⟨(some 18), none, (.mv (.t 0))⟩, ⟨(some 19), none, (.iarr 10 2 (.t 3) (.t 18))⟩, ⟨(some 20), none, (.load (some 2) (.t 19))⟩, ⟨none, none, (.store 2 (.t 2) (.t 20))⟩]) .ret))))
theorem prim_rows.code : comp PG [] (Tryd.f85.body.getD .skip) = prim_rows.c := by kernel_rfl
theorem prim_rows.of {args : List AV} {H : AH} {K : AV → AH → Prop} (hl : args.length = 1) (h : wpA PG prim_rows.c none (endA [(.cell 2 (some 2))] K) (initFr args) H) : ACalls PG 85 args H K :=
  ACalls.of_code (fl := []) mixed Tryd.func85 (c := Tryd.f85.body.getD .skip) (by kernel_rfl) (by kernel_rfl) (by rw [hl]; exact of_decide_eq_true (by kernel_rfl)) (by rw [prim_rows.code]; kernel_rfl)
    (by rw [prim_rows.code, show compRes PG Tryd.f85.results.toList = [(.cell 2 (some 2))] from by kernel_rfl]; exact h)
def broadsheetref01_Low.n : Nat := 91
noncomputable def broadsheetref01_Low.c : C := (.seq (.reg [⟨(some 4), none, (.mv (.c (.int .u64 0)))⟩]) (.seq (.reg [⟨(some 6), none, (.mv (.t 1))⟩, ⟨(some 7), none, (.call 93 [(.t 6)])⟩, ⟨(some 5), none, (.mv (.t 7))⟩]) (.seq (.dreg [⟨(some 8), none, (.mv (.t 0))⟩, ⟨(some 9), none, (.mv (.t 5))⟩, ⟨(some 10), none, (.bin .rem (.t 8) (.t 9))⟩, ⟨(some 11), none, (.mv (.t 5))⟩, ⟨(some 12), none, (.mv (.t 0))⟩, ⟨(some 13), none, (.mv (.t 5))⟩, ⟨(some 14), none, (.bin .quo (.t 12) (.t 13))⟩, ⟨(some 15), none, (.bin .rem (.t 14) (.c (.int .u64 2)))⟩, ⟨(some 16), none, (.bin .mul (.t 11) (.t 15))⟩] [⟨(some 17), none, (.bin .add (.t 10) (.t 16))⟩, ⟨(some 4), none, (.mv (.t 17))⟩]) .ret)))
theorem broadsheetref01_Low.code : comp PG [] (Tryd.f91.body.getD .skip) = broadsheetref01_Low.c := by kernel_rfl
theorem broadsheetref01_Low.of {args : List AV} {H : AH} {K : AV → AH → Prop} (hl : args.length = 2) (h : wpA PG broadsheetref01_Low.c none (endA [(.t 4)] K) (initFr args) H) : ACalls PG 91 args H K :=
  ACalls.of_code (fl := []) mixed Tryd.func91 (c := Tryd.f91.body.getD .skip) (by kernel_rfl) (by kernel_rfl) (by rw [hl]; exact of_decide_eq_true (by kernel_rfl)) (by rw [broadsheetref01_Low.code]; kernel_rfl)
    (by rw [broadsheetref01_Low.code, show compRes PG Tryd.f91.results.toList = [(.t 4)] from by kernel_rfl]; exact h)
def broadsheetref01_Sized.n : Nat := 92
noncomputable def broadsheetref01_Sized.c : C := (.seq (.reg [⟨(some 2), none, (.mv (.c (.bool false)))⟩]) (.seq (.reg [⟨(some 3), none, (.mv (.t 0))⟩, ⟨(some 4), none, (.bin .eql (.t 3) (.c (.int .i64 1)))⟩, ⟨(some 5), none, (.mv (.t 4))⟩, ⟨(some 6), (some (5, false)), (.mv (.t 0))⟩, ⟨(some 7), (some (5, false)), (.bin .eql (.t 6) (.c (.int .i64 2)))⟩, ⟨(some 8), none, (.pick (.t 5) (.c (.bool true)) (.t 7))⟩, ⟨(some 9), none, (.mv (.t 8))⟩, ⟨(some 10), (some (9, false)), (.mv (.t 0))⟩, ⟨(some 11), (some (9, false)), (.bin .eql (.t 10) (.c (.int .i64 4)))⟩, ⟨(some 12), none, (.pick (.t 9) (.c (.bool true)) (.t 11))⟩, ⟨(some 13), none, (.mv (.t 12))⟩, ⟨(some 14), (some (13, false)), (.mv (.t 0))⟩, ⟨(some 15), (some (13, false)), (.bin .eql (.t 14) (.c (.int .i64 8)))⟩, ⟨(some 16), none, (.pick (.t 13) (.c (.bool true)) (.t 15))⟩, ⟨(some 2), none, (.mv (.t 16))⟩]) .ret))
theorem broadsheetref01_Sized.code : comp PG [] (Tryd.f92.body.getD .skip) = broadsheetref01_Sized.c := by kernel_rfl
theorem broadsheetref01_Sized.of {args : List AV} {H : AH} {K : AV → AH → Prop} (hl : args.length = 1) (h : wpA PG broadsheetref01_Sized.c none (endA [(.t 2)] K) (initFr args) H) : ACalls PG 92 args H K :=
  ACalls.of_code (fl := []) mixed Tryd.func92 (c := Tryd.f92.body.getD .skip) (by kernel_rfl) (by kernel_rfl) (by rw [hl]; exact of_decide_eq_true (by kernel_rfl)) (by rw [broadsheetref01_Sized.code]; kernel_rfl)
    (by rw [broadsheetref01_Sized.code, show compRes PG Tryd.f92.results.toList = [(.t 2)] from by kernel_rfl]; exact h)
def broadsheetref01_half.n : Nat := 93
noncomputable def broadsheetref01_half.c : C := (.seq (.reg [⟨(some 2), none, (.mv (.c (.int .u64 0)))⟩]) (.seq (.reg [⟨(some 3), none, (.mv (.c (.int .u64 128)))⟩]) (.seq (.seq (.reg [⟨(some 4), none, (.mv (.c (.int .i64 1)))⟩]) (.block 0 (.loop (.seq (.seq (.reg [⟨(some 5), none, (.mv (.t 4))⟩, ⟨(some 6), none, (.mv (.t 0))⟩, ⟨(some 7), none, (.bin .lss (.t 5) (.t 6))⟩]) (.cond (.t 7) .skip (.exit 0))) (.seq (.block 1 (.reg [⟨(some 10), none, (.mv (.t 3))⟩, ⟨(some 11), none, (.bin .mul (.t 10) (.c (.int .u64 256)))⟩, ⟨(some 3), none, (.mv (.t 11))⟩])) (.reg [⟨(some 8), none, (.mv (.t 4))⟩, ⟨(some 9), none, (.bin .add (.t 8) (.c (.int .i64 1)))⟩, ⟨(some 4), none, (.mv (.t 9))⟩])))))) (.seq (.reg [⟨(some 12), none, (.mv (.t 3))⟩, ⟨(some 2), none, (.mv (.t 12))⟩]) .ret))))
theorem broadsheetref01_half.code : comp PG [] (Tryd.f93.body.getD .skip) = broadsheetref01_half.c := by kernel_rfl
theorem broadsheetref01_half.of {args : List AV} {H : AH} {K : AV → AH → Prop} (hl : args.length = 1) (h : wpA PG broadsheetref01_half.c none (endA [(.t 2)] K) (initFr args) H) : ACalls PG 93 args H K :=
  ACalls.of_code (fl := []) mixed Tryd.func93 (c := Tryd.f93.body.getD .skip) (by kernel_rfl) (by kernel_rfl) (by rw [hl]; exact of_decide_eq_true (by kernel_rfl)) (by rw [broadsheetref01_half.code]; kernel_rfl)
    (by rw [broadsheetref01_half.code, show compRes PG Tryd.f93.results.toList = [(.t 2)] from by kernel_rfl]; exact h)
def types_look_form.n : Nat := 95
noncomputable def types_look_form.c : C := (.seq (.reg [⟨(some 2), none, (.mv (.c (.int .i64 0)))⟩]) (.seq (.reg [⟨(some 10), none, (.mv (.t 0))⟩, ⟨(some 11), none, (.nilck (.t 10))⟩, ⟨(some 12), none, (.faddr 2 (.t 11))⟩, ⟨(some 13), none, (.load (some 6) (.t 12))⟩, ⟨(some 3), none, (.allc 62 [(.int .i64 0), (.str []), (.int .i64 0), (.int .i64 0), (.int .i64 0), .nilS])⟩, ⟨none, none, (.store 6 (.t 3) (.t 13))⟩]) (.seq (.seq (.reg [⟨(some 14), none, (.faddr 0 (.t 3))⟩, ⟨(some 15), none, (.load none (.t 14))⟩, ⟨(some 16), none, (.bin .lss (.t 15) (.c (.int .i64 1)))⟩, ⟨(some 17), none, (.mv (.t 16))⟩, ⟨(some 18), (some (17, false)), (.faddr 0 (.t 3))⟩, ⟨(some 19), (some (17, false)), (.load none (.t 18))⟩, ⟨(some 20), (some (17, false)), (.bin .gtr (.t 19) (.c (.int .i64 14)))⟩, ⟨(some 21), none, (.pick (.t 17) (.c (.bool true)) (.t 20))⟩]) (.cond (.t 21) (.seq (.reg [⟨(some 2), none, (.mv (.c (.int .i64 4)))⟩]) .ret) .skip)) (.seq (.reg [⟨(some 23), none, (.faddr 0 (.t 3))⟩, ⟨(some 24), none, (.load none (.t 23))⟩, ⟨(some 25), none, (.call 107 [(.t 24)])⟩, ⟨(some 22), none, (.mv (.t 25))⟩, ⟨(some 26), none, (.extr (.t 22) 0)⟩, ⟨(some 27), none, (.extr (.t 22) 1)⟩, ⟨(some 28), none, (.extr (.t 22) 2)⟩, ⟨(some 29), none, (.extr (.t 22) 3)⟩, ⟨(some 4), none, (.mv (.t 26))⟩, ⟨(some 5), none, (.mv (.t 27))⟩, ⟨(some 6), none, (.mv (.t 28))⟩, ⟨(some 7), none, (.mv (.t 29))⟩]) (.seq (.seq (.reg [⟨(some 30), none, (.mv (.t 4))⟩, ⟨(some 31), none, (.un .not (.t 30))⟩, ⟨(some 32), none, (.mv (.t 31))⟩, ⟨(some 33), (some (32, true)), (.faddr 1 (.t 3))⟩, ⟨(some 34), (some (32, true)), (.load none (.t 33))⟩, ⟨(some 35), (some (32, true)), (.bin .neq (.t 34) (.c (.str [])))⟩, ⟨(some 36), (some (32, true)), (.mv (.t 35))⟩, ⟨(some 37), (some (36, false)), (.faddr 5 (.t 3))⟩, ⟨(some 38), (some (36, false)), (.load none (.t 37))⟩, ⟨(some 39), (some (36, false)), (.len false (.t 38))⟩, ⟨(some 40), (some (36, false)), (.bin .gtr (.t 39) (.c (.int .i64 0)))⟩, ⟨(some 41), (some (32, true)), (.pick (.t 36) (.c (.bool true)) (.t 40))⟩, ⟨(some 42), none, (.pick (.t 32) (.t 41) (.c (.bool false)))⟩, ⟨(some 43), none, (.mv (.t 42))⟩, ⟨(some 44), (some (43, false)), (.mv (.t 5))⟩, ⟨(some 45), (some (43, false)), (.un .not (.t 44))⟩, ⟨(some 46), (some (43, false)), (.mv (.t 45))⟩, ⟨(some 47), (some (46, true)), (.faddr 2 (.t 3))⟩, ⟨(some 48), (some (46, true)), (.load none (.t 47))⟩, ⟨(some 49), (some (46, true)), (.bin .neq (.t 48) (.c (.int .i64 0)))⟩, ⟨(some 50), (some (43, false)), (.pick (.t 46) (.t 49) (.c (.bool false)))⟩, ⟨(some 51), none, (.pick (.t 43) (.c (.bool true)) (.t 50))⟩, ⟨(some 52), none, (.mv (.t 51))⟩, ⟨(some 53), (some (52, false)), (.mv (.t 6))⟩, ⟨(some 54), (some (52, false)), (.un .not (.t 53))⟩, ⟨(some 55), (some (52, false)), (.mv (.t 54))⟩, ⟨(some 56), (some (55, true)), (.faddr 3 (.t 3))⟩, ⟨(some 57), (some (55, true)), (.load none (.t 56))⟩, ⟨(some 58), (some (55, true)), (.bin .neq (.t 57) (.c (.int .i64 0)))⟩, ⟨(some 59), (some (52, false)), (.pick (.t 55) (.t 58) (.c (.bool false)))⟩, ⟨(some 60), none, (.pick (.t 52) (.c (.bool true)) (.t 59))⟩, ⟨(some 61), none, (.mv (.t 60))⟩, ⟨(some 62), (some (61, false)), (.mv (.t 7))⟩, ⟨(some 63), (some (61, false)), (.un .not (.t 62))⟩, ⟨(some 64), (some (61, false)), (.mv (.t 63))⟩, ⟨(some 65), (some (64, true)), (.faddr 4 (.t 3))⟩, ⟨(some 66), (some (64, true)), (.load none (.t 65))⟩, ⟨(some 67), (some (64, true)), (.bin .neq (.t 66) (.c (.int .i64 0)))⟩, ⟨(some 68), (some (61, false)), (.pick (.t 64) (.t 67) (.c (.bool false)))⟩, ⟨(some 69), none, (.pick (.t 61) (.c (.bool true)) (.t 68))⟩]) (.cond (.t 69) (.seq (.reg [⟨(some 2), none, (.mv (.c (.int .i64 1)))⟩]) .ret) .skip)) (.seq (.seq (.reg [⟨(some 70), none, (.faddr 5 (.t 3))⟩, ⟨(some 71), none, (.load none (.t 70))⟩, ⟨(some 72), none, (.len false (.t 71))⟩, ⟨(some 73), none, (.mv (.c (.int .i64 0)))⟩]) (.block 0 (.loop (.seq (.reg [⟨(some 74), none, (.bin .lss (.t 73) (.t 72))⟩]) (.seq (.cond (.t 74) .skip (.exit 0)) (.seq (.block 1 (.seq (.reg [⟨(some 75), none, (.iaddr 5 (.t 71) (.t 73))⟩, ⟨(some 76), none, (.load (some 5) (.t 75))⟩, ⟨(some 9), none, (.allc 64 [(.str []), (.int .u64 0), (.int .i64 0), (.bool false), (.bool false)])⟩, ⟨none, none, (.store 5 (.t 9) (.t 76))⟩]) (.seq (.reg [⟨(some 77), none, (.faddr 0 (.t 3))⟩, ⟨(some 78), none, (.load none (.t 77))⟩, ⟨(some 79), none, (.bin .eql (.t 78) (.c (.int .i64 9)))⟩, ⟨(some 80), none, (.mv (.t 79))⟩, ⟨(some 81), (some (80, true)), (.faddr 2 (.t 9))⟩, ⟨(some 82), (some (80, true)), (.load none (.t 81))⟩, ⟨(some 83), (some (80, true)), (.bin .neq (.t 82) (.c (.int .i64 0)))⟩, ⟨(some 84), none, (.pick (.t 80) (.t 83) (.c (.bool false)))⟩, ⟨(some 85), none, (.mv (.t 84))⟩, ⟨(some 86), (some (85, false)), (.faddr 0 (.t 3))⟩, ⟨(some 87), (some (85, false)), (.load none (.t 86))⟩, ⟨(some 88), (some (85, false)), (.bin .neq (.t 87) (.c (.int .i64 13)))⟩, ⟨(some 89), (some (85, false)), (.mv (.t 88))⟩, ⟨(some 90), (some (89, true)), (.faddr 3 (.t 9))⟩, ⟨(some 91), (some (89, true)), (.load none (.t 90))⟩, ⟨(some 92), (some (85, false)), (.pick (.t 89) (.t 91) (.c (.bool false)))⟩, ⟨(some 93), none, (.pick (.t 85) (.c (.bool true)) (.t 92))⟩, ⟨(some 94), none, (.mv (.t 93))⟩, ⟨(some 95), (some (94, false)), (.faddr 0 (.t 3))⟩, ⟨(some 96), (some (94, false)), (.load none (.t 95))⟩, ⟨(some 97), (some (94, false)), (.bin .neq (.t 96) (.c (.int .i64 14)))⟩, ⟨(some 98), (some (94, false)), (.mv (.t 97))⟩, ⟨(some 99), (some (98, true)), (.faddr 4 (.t 9))⟩, ⟨(some 100), (some (98, true)), (.load none (.t 99))⟩, ⟨(some 101), (some (94, false)), (.pick (.t 98) (.t 100) (.c (.bool false)))⟩, ⟨(some 102), none, (.pick (.t 94) (.c (.bool true)) (.t 101))⟩, ⟨(some 103), none, (.mv (.t 102))⟩, ⟨(some 104), (some (103, false)), (.faddr 0 (.t 3))⟩, ⟨(some 105), (some (103, false)), (.load none (.t 104))⟩, ⟨(some 106), (some (103, false)), (.bin .eql (.t 105) (.c (.int .i64 13)))⟩, ⟨(some 107), (some (103, false)), (.mv (.t 106))⟩, ⟨(some 108), (some (107, false)), (.faddr 4 (.t 9))⟩, ⟨(some 109), (some (107, false)), (.load none (.t 108))⟩, ⟨(some 110), (some (103, false)), (.pick (.t 107) (.c (.bool true)) (.t 109))⟩, ⟨(some 111), (some (103, false)), (.mv (.t 110))⟩, ⟨(some 112), (some (111, true)), (.faddr 1 (.t 9))⟩, ⟨(some 113), (some (111, true)), (.load none (.t 112))⟩, ⟨(some 114), (some (111, true)), (.bin .neq (.t 113) (.c (.int .u64 0)))⟩, ⟨(some 115), (some (103, false)), (.pick (.t 111) (.t 114) (.c (.bool false)))⟩, ⟨(some 116), none, (.pick (.t 103) (.c (.bool true)) (.t 115))⟩]) (.cond (.t 116) (.seq (.reg [⟨(some 2), none, (.mv (.c (.int .i64 1)))⟩]) .ret) .skip)))) (.reg [⟨(some 117), none, (.bin .add (.t 73) (.c (.int .i64 1)))⟩, ⟨(some 73), none, (.mv (.t 117))⟩]))))))) (.seq (.reg [⟨(some 2), none, (.mv (.c (.int .i64 0)))⟩]) .ret)))))))
theorem types_look_form.code : comp PG [] (Tryd.f95.body.getD .skip) = types_look_form.c := by kernel_rfl
theorem types_look_form.of {args : List AV} {H : AH} {K : AV → AH → Prop} (hl : args.length = 1) (h : wpA PG types_look_form.c none (endA [(.t 2)] K) (initFr args) H) : ACalls PG 95 args H K :=
  ACalls.of_code (fl := []) mixed Tryd.func95 (c := Tryd.f95.body.getD .skip) (by kernel_rfl) (by kernel_rfl) (by rw [hl]; exact of_decide_eq_true (by kernel_rfl)) (by rw [types_look_form.code]; kernel_rfl)
    (by rw [types_look_form.code, show compRes PG Tryd.f95.results.toList = [(.t 2)] from by kernel_rfl]; exact h)
def types_look_named.n : Nat := 96
noncomputable def types_look_named.c : C := (.seq (.reg [⟨(some 2), none, (.mv (.c (.int .i64 0)))⟩]) (.seq (.seq (.reg [⟨(some 10), none, (.mv (.t 0))⟩, ⟨(some 11), none, (.nilck (.t 10))⟩, ⟨(some 12), none, (.faddr 2 (.t 11))⟩, ⟨(some 13), none, (.faddr 0 (.t 12))⟩, ⟨(some 14), none, (.load none (.t 13))⟩, ⟨(some 15), none, (.call 107 [(.t 14)])⟩, ⟨(some 9), none, (.mv (.t 15))⟩, ⟨(some 16), none, (.extr (.t 9) 0)⟩, ⟨(some 17), none, (.extr (.t 9) 1)⟩, ⟨(some 18), none, (.extr (.t 9) 2)⟩, ⟨(some 19), none, (.extr (.t 9) 3)⟩, ⟨(some 3), none, (.mv (.t 16))⟩, ⟨(some 4), none, (.mv (.t 17))⟩, ⟨(some 5), none, (.mv (.t 18))⟩, ⟨(some 6), none, (.mv (.t 19))⟩]) (.seq (.reg [⟨(some 20), none, (.mv (.t 3))⟩, ⟨(some 21), none, (.un .not (.t 20))⟩]) (.cond (.t 21) (.seq (.reg [⟨(some 2), none, (.mv (.c (.int .i64 0)))⟩]) .ret) .skip))) (.seq (.seq (.reg [⟨(some 22), none, (.mv (.t 0))⟩, ⟨(some 23), none, (.nilck (.t 22))⟩, ⟨(some 24), none, (.faddr 2 (.t 23))⟩, ⟨(some 25), none, (.faddr 1 (.t 24))⟩, ⟨(some 26), none, (.load none (.t 25))⟩, ⟨(some 27), none, (.call 120 [(.t 26)])⟩, ⟨(some 28), none, (.un .not (.t 27))⟩]) (.cond (.t 28) (.seq (.reg [⟨(some 2), none, (.mv (.c (.int .i64 5)))⟩]) .ret) .skip)) (.seq (.seq (.dreg [⟨(some 29), none, (.mv (.t 0))⟩, ⟨(some 30), none, (.nilck (.t 29))⟩, ⟨(some 31), none, (.faddr 0 (.t 30))⟩, ⟨(some 32), none, (.load none (.t 31))⟩, ⟨(some 33), none, (.mv (.t 0))⟩, ⟨(some 34), none, (.nilck (.t 33))⟩, ⟨(some 35), none, (.faddr 1 (.t 34))⟩, ⟨(some 36), none, (.load none (.t 35))⟩, ⟨(some 37), none, (.slice (some 6) (.t 32) none (some (.t 36)))⟩, ⟨(some 38), none, (.len false (.t 37))⟩, ⟨(some 39), none, (.mv (.c (.int .i64 0)))⟩] []) (.block 0 (.loop (.seq (.reg [⟨(some 40), none, (.bin .lss (.t 39) (.t 38))⟩]) (.seq (.cond (.t 40) .skip (.exit 0)) (.seq (.block 1 (.seq (.reg [⟨(some 41), none, (.iaddr 6 (.t 37) (.t 39))⟩, ⟨(some 42), none, (.load (some 6) (.t 41))⟩, ⟨(some 8), none, (.allc 62 [(.int .i64 0), (.str []), (.int .i64 0), (.int .i64 0), (.int .i64 0), .nilS])⟩, ⟨none, none, (.store 6 (.t 8) (.t 42))⟩]) (.seq (.dreg [⟨(some 43), none, (.faddr 1 (.t 8))⟩, ⟨(some 44), none, (.load none (.t 43))⟩, ⟨(some 45), none, (.mv (.t 0))⟩, ⟨(some 46), none, (.nilck (.t 45))⟩, ⟨(some 47), none, (.faddr 2 (.t 46))⟩, ⟨(some 48), none, (.faddr 1 (.t 47))⟩, ⟨(some 49), none, (.load none (.t 48))⟩] [⟨(some 50), none, (.bin .eql (.t 44) (.t 49))⟩]) (.cond (.t 50) (.seq (.reg [⟨(some 2), none, (.mv (.c (.int .i64 6)))⟩]) .ret) .skip)))) (.reg [⟨(some 51), none, (.bin .add (.t 39) (.c (.int .i64 1)))⟩, ⟨(some 39), none, (.mv (.t 51))⟩]))))))) (.seq (.reg [⟨(some 2), none, (.mv (.c (.int .i64 0)))⟩]) .ret)))))
theorem types_look_named.code : comp PG [] (Tryd.f96.body.getD .skip) = types_look_named.c := by kernel_rfl
theorem types_look_named.of {args : List AV} {H : AH} {K : AV → AH → Prop} (hl : args.length = 1) (h : wpA PG types_look_named.c none (endA [(.t 2)] K) (initFr args) H) : ACalls PG 96 args H K :=
  ACalls.of_code (fl := []) mixed Tryd.func96 (c := Tryd.f96.body.getD .skip) (by kernel_rfl) (by kernel_rfl) (by rw [hl]; exact of_decide_eq_true (by kernel_rfl)) (by rw [types_look_named.code]; kernel_rfl)
    (by rw [types_look_named.code, show compRes PG Tryd.f96.results.toList = [(.t 2)] from by kernel_rfl]; exact h)
def types_look_bound.n : Nat := 97
noncomputable def types_look_bound.c : C := (.seq (.reg [⟨(some 2), none, (.mv (.c (.int .i64 0)))⟩]) (.seq (.reg [⟨(some 8), none, (.mv (.t 0))⟩, ⟨(some 9), none, (.nilck (.t 8))⟩, ⟨(some 10), none, (.faddr 2 (.t 9))⟩, ⟨(some 11), none, (.faddr 0 (.t 10))⟩, ⟨(some 12), none, (.load none (.t 11))⟩, ⟨(some 13), none, (.call 107 [(.t 12)])⟩, ⟨(some 7), none, (.mv (.t 13))⟩, ⟨(some 14), none, (.extr (.t 7) 0)⟩, ⟨(some 15), none, (.extr (.t 7) 1)⟩, ⟨(some 16), none, (.extr (.t 7) 2)⟩, ⟨(some 17), none, (.extr (.t 7) 3)⟩, ⟨(some 3), none, (.mv (.t 14))⟩, ⟨(some 4), none, (.mv (.t 15))⟩, ⟨(some 5), none, (.mv (.t 16))⟩, ⟨(some 6), none, (.mv (.t 17))⟩]) (.seq (.seq (.reg [⟨(some 18), none, (.mv (.t 4))⟩, ⟨(some 19), none, (.mv (.t 18))⟩, ⟨(some 20), (some (19, true)), (.mv (.t 0))⟩, ⟨(some 21), (some (19, true)), (.nilck (.t 20))⟩, ⟨(some 22), (some (19, true)), (.faddr 2 (.t 21))⟩, ⟨(some 23), (some (19, true)), (.faddr 2 (.t 22))⟩, ⟨(some 24), (some (19, true)), (.load none (.t 23))⟩, ⟨(some 25), (some (19, true)), (.bin .gtr (.t 24) (.c (.int .i64 64)))⟩, ⟨(some 26), (some (19, true)), (.mv (.t 25))⟩, ⟨(some 27), (some (26, false)), (.mv (.t 0))⟩, ⟨(some 28), (some (26, false)), (.nilck (.t 27))⟩, ⟨(some 29), (some (26, false)), (.faddr 2 (.t 28))⟩, ⟨(some 30), (some (26, false)), (.faddr 2 (.t 29))⟩, ⟨(some 31), (some (26, false)), (.load none (.t 30))⟩, ⟨(some 32), (some (26, false)), (.bin .lss (.t 31) (.c (.int .i64 0)))⟩, ⟨(some 33), (some (19, true)), (.pick (.t 26) (.c (.bool true)) (.t 32))⟩, ⟨(some 34), (some (19, true)), (.mv (.t 33))⟩, ⟨(some 35), (some (34, false)), (.mv (.t 5))⟩, ⟨(some 36), (some (34, false)), (.mv (.t 35))⟩, ⟨(some 37), (some (36, true)), (.mv (.t 0))⟩, ⟨(some 38), (some (36, true)), (.nilck (.t 37))⟩, ⟨(some 39), (some (36, true)), (.faddr 2 (.t 38))⟩, ⟨(some 40), (some (36, true)), (.faddr 2 (.t 39))⟩, ⟨(some 41), (some (36, true)), (.load none (.t 40))⟩, ⟨(some 42), (some (36, true)), (.bin .eql (.t 41) (.c (.int .i64 0)))⟩, ⟨(some 43), (some (34, false)), (.pick (.t 36) (.t 42) (.c (.bool false)))⟩, ⟨(some 44), (some (19, true)), (.pick (.t 34) (.c (.bool true)) (.t 43))⟩, ⟨(some 45), none, (.pick (.t 19) (.t 44) (.c (.bool false)))⟩]) (.cond (.t 45) (.seq (.reg [⟨(some 2), none, (.mv (.c (.int .i64 7)))⟩]) .ret) .skip)) (.seq (.reg [⟨(some 2), none, (.mv (.c (.int .i64 0)))⟩]) .ret))))
theorem types_look_bound.code : comp PG [] (Tryd.f97.body.getD .skip) = types_look_bound.c := by kernel_rfl
theorem types_look_bound.of {args : List AV} {H : AH} {K : AV → AH → Prop} (hl : args.length = 1) (h : wpA PG types_look_bound.c none (endA [(.t 2)] K) (initFr args) H) : ACalls PG 97 args H K :=
  ACalls.of_code (fl := []) mixed Tryd.func97 (c := Tryd.f97.body.getD .skip) (by kernel_rfl) (by kernel_rfl) (by rw [hl]; exact of_decide_eq_true (by kernel_rfl)) (by rw [types_look_bound.code]; kernel_rfl)
    (by rw [types_look_bound.code, show compRes PG Tryd.f97.results.toList = [(.t 2)] from by kernel_rfl]; exact h)
def types_look_order.n : Nat := 98
noncomputable def types_look_order.c : C := (.seq (.reg [⟨(some 2), none, (.mv (.c (.int .i64 0)))⟩]) (.seq (.seq (.reg [⟨(some 5), none, (.mv (.t 0))⟩, ⟨(some 6), none, (.nilck (.t 5))⟩, ⟨(some 7), none, (.faddr 2 (.t 6))⟩, ⟨(some 8), none, (.load (some 6) (.t 7))⟩, ⟨(some 9), none, (.call 121 [(.t 8)])⟩, ⟨(some 10), none, (.len false (.t 9))⟩, ⟨(some 11), none, (.mv (.c (.int .i64 0)))⟩]) (.block 0 (.loop (.seq (.reg [⟨(some 12), none, (.bin .lss (.t 11) (.t 10))⟩]) (.seq (.cond (.t 12) .skip (.exit 0)) (.seq (.block 1 (.seq (.reg [⟨(some 13), none, (.iaddr 1 (.t 9) (.t 11))⟩, ⟨(some 14), none, (.load none (.t 13))⟩, ⟨(some 4), none, (.mv (.t 14))⟩]) (.seq (.reg [⟨(some 15), none, (.mv (.t 4))⟩, ⟨(some 16), none, (.bin .lss (.t 15) (.c (.int .i64 0)))⟩, ⟨(some 17), none, (.mv (.t 16))⟩, ⟨(some 18), (some (17, false)), (.mv (.t 4))⟩, ⟨(some 19), (some (17, false)), (.mv (.t 0))⟩, ⟨(some 20), (some (17, false)), (.nilck (.t 19))⟩, ⟨(some 21), (some (17, false)), (.faddr 1 (.t 20))⟩, ⟨(some 22), (some (17, false)), (.load none (.t 21))⟩, ⟨(some 23), (some (17, false)), (.bin .geq (.t 18) (.t 22))⟩, ⟨(some 24), none, (.pick (.t 17) (.c (.bool true)) (.t 23))⟩]) (.cond (.t 24) (.seq (.reg [⟨(some 2), none, (.mv (.c (.int .i64 14)))⟩]) .ret) .skip)))) (.reg [⟨(some 25), none, (.bin .add (.t 11) (.c (.int .i64 1)))⟩, ⟨(some 11), none, (.mv (.t 25))⟩]))))))) (.seq (.seq (.dreg [⟨(some 26), none, (.mv (.t 0))⟩, ⟨(some 27), none, (.nilck (.t 26))⟩, ⟨(some 28), none, (.faddr 2 (.t 27))⟩, ⟨(some 29), none, (.faddr 0 (.t 28))⟩, ⟨(some 30), none, (.load none (.t 29))⟩, ⟨(some 31), none, (.bin .eql (.t 30) (.c (.int .i64 14)))⟩, ⟨(some 32), none, (.mv (.t 31))⟩, ⟨(some 33), (some (32, true)), (.mv (.t 0))⟩, ⟨(some 34), (some (32, true)), (.nilck (.t 33))⟩, ⟨(some 35), (some (32, true)), (.faddr 0 (.t 34))⟩, ⟨(some 36), (some (32, true)), (.load none (.t 35))⟩, ⟨(some 37), (some (32, true)), (.mv (.t 0))⟩, ⟨(some 38), (some (32, true)), (.nilck (.t 37))⟩, ⟨(some 39), (some (32, true)), (.faddr 2 (.t 38))⟩, ⟨(some 40), (some (32, true)), (.faddr 4 (.t 39))⟩, ⟨(some 41), (some (32, true)), (.load none (.t 40))⟩] [⟨(some 42), (some (32, true)), (.iaddr 6 (.t 36) (.t 41))⟩, ⟨(some 43), (some (32, true)), (.faddr 0 (.t 42))⟩, ⟨(some 44), (some (32, true)), (.load none (.t 43))⟩, ⟨(some 45), (some (32, true)), (.call 26 [(.t 44)])⟩, ⟨(some 46), (some (32, true)), (.un .not (.t 45))⟩, ⟨(some 47), none, (.pick (.t 32) (.t 46) (.c (.bool false)))⟩]) (.cond (.t 47) (.seq (.reg [⟨(some 2), none, (.mv (.c (.int .i64 8)))⟩]) .ret) .skip)) (.seq (.reg [⟨(some 2), none, (.mv (.c (.int .i64 0)))⟩]) .ret))))
theorem types_look_order.code : comp PG [] (Tryd.f98.body.getD .skip) = types_look_order.c := by kernel_rfl
theorem types_look_order.of {args : List AV} {H : AH} {K : AV → AH → Prop} (hl : args.length = 1) (h : wpA PG types_look_order.c none (endA [(.t 2)] K) (initFr args) H) : ACalls PG 98 args H K :=
  ACalls.of_code (fl := []) mixed Tryd.func98 (c := Tryd.f98.body.getD .skip) (by kernel_rfl) (by kernel_rfl) (by rw [hl]; exact of_decide_eq_true (by kernel_rfl)) (by rw [types_look_order.code]; kernel_rfl)
    (by rw [types_look_order.code, show compRes PG Tryd.f98.results.toList = [(.t 2)] from by kernel_rfl]; exact h)
def types_look_items.n : Nat := 99
noncomputable def types_look_items.c : C := (.seq (.reg [⟨(some 2), none, (.mv (.c (.int .i64 0)))⟩]) (.seq (.seq (.reg [⟨(some 11), none, (.mv (.t 0))⟩, ⟨(some 12), none, (.nilck (.t 11))⟩, ⟨(some 13), none, (.faddr 2 (.t 12))⟩, ⟨(some 14), none, (.faddr 0 (.t 13))⟩, ⟨(some 15), none, (.load none (.t 14))⟩, ⟨(some 16), none, (.call 107 [(.t 15)])⟩, ⟨(some 10), none, (.mv (.t 16))⟩, ⟨(some 17), none, (.extr (.t 10) 0)⟩, ⟨(some 18), none, (.extr (.t 10) 1)⟩, ⟨(some 19), none, (.extr (.t 10) 2)⟩, ⟨(some 20), none, (.extr (.t 10) 3)⟩, ⟨(some 3), none, (.mv (.t 17))⟩, ⟨(some 4), none, (.mv (.t 18))⟩, ⟨(some 5), none, (.mv (.t 19))⟩, ⟨(some 6), none, (.mv (.t 20))⟩]) (.seq (.reg [⟨(some 21), none, (.mv (.t 3))⟩, ⟨(some 22), none, (.un .not (.t 21))⟩]) (.cond (.t 22) (.seq (.reg [⟨(some 2), none, (.mv (.c (.int .i64 0)))⟩]) .ret) .skip))) (.seq (.seq (.reg [⟨(some 23), none, (.mv (.t 0))⟩, ⟨(some 24), none, (.nilck (.t 23))⟩, ⟨(some 25), none, (.faddr 2 (.t 24))⟩, ⟨(some 26), none, (.faddr 5 (.t 25))⟩, ⟨(some 27), none, (.load none (.t 26))⟩, ⟨(some 28), none, (.len false (.t 27))⟩, ⟨(some 7), none, (.mv (.t 28))⟩]) (.block 0 (.seq (.reg [⟨(some 30), none, (.mv (.t 7))⟩, ⟨(some 31), none, (.bin .eql (.t 30) (.c (.int .i64 0)))⟩, ⟨(some 29), none, (.mv (.t 31))⟩]) (.cond (.t 29) (.seq (.reg [⟨(some 2), none, (.mv (.c (.int .i64 18)))⟩]) .ret) (.seq (.reg [⟨(some 33), none, (.mv (.t 7))⟩, ⟨(some 34), none, (.bin .gtr (.t 33) (.c (.int .i64 16)))⟩, ⟨(some 32), none, (.mv (.t 34))⟩]) (.cond (.t 32) (.seq (.reg [⟨(some 2), none, (.mv (.c (.int .i64 3)))⟩]) .ret) .skip)))))) (.seq (.seq (.reg [⟨(some 35), none, (.mv (.t 0))⟩, ⟨(some 36), none, (.nilck (.t 35))⟩, ⟨(some 37), none, (.faddr 2 (.t 36))⟩, ⟨(some 38), none, (.faddr 5 (.t 37))⟩, ⟨(some 39), none, (.load none (.t 38))⟩, ⟨(some 40), none, (.len false (.t 39))⟩, ⟨(some 41), none, (.mv (.c (.int .i64 0)))⟩]) (.block 1 (.loop (.seq (.reg [⟨(some 42), none, (.bin .lss (.t 41) (.t 40))⟩]) (.seq (.cond (.t 42) .skip (.exit 1)) (.seq (.block 2 (.seq (.reg [⟨(some 43), none, (.mv (.t 41))⟩, ⟨(some 8), none, (.mv (.t 43))⟩]) (.seq (.reg [⟨(some 44), none, (.mv (.t 0))⟩, ⟨(some 45), none, (.mv (.t 8))⟩, ⟨(some 46), none, (.call 122 [(.t 44), (.t 45)])⟩, ⟨(some 9), none, (.mv (.t 46))⟩]) (.seq (.reg [⟨(some 47), none, (.mv (.t 9))⟩, ⟨(some 48), none, (.bin .neq (.t 47) (.c (.int .i64 0)))⟩]) (.cond (.t 48) (.seq (.reg [⟨(some 49), none, (.mv (.t 9))⟩, ⟨(some 2), none, (.mv (.t 49))⟩]) .ret) .skip))))) (.reg [⟨(some 50), none, (.bin .add (.t 41) (.c (.int .i64 1)))⟩, ⟨(some 41), none, (.mv (.t 50))⟩]))))))) (.seq (.reg [⟨(some 2), none, (.mv (.c (.int .i64 0)))⟩]) .ret)))))
theorem types_look_items.code : comp PG [] (Tryd.f99.body.getD .skip) = types_look_items.c := by kernel_rfl
theorem types_look_items.of {args : List AV} {H : AH} {K : AV → AH → Prop} (hl : args.length = 1) (h : wpA PG types_look_items.c none (endA [(.t 2)] K) (initFr args) H) : ACalls PG 99 args H K :=
  ACalls.of_code (fl := []) mixed Tryd.func99 (c := Tryd.f99.body.getD .skip) (by kernel_rfl) (by kernel_rfl) (by rw [hl]; exact of_decide_eq_true (by kernel_rfl)) (by rw [types_look_items.code]; kernel_rfl)
    (by rw [types_look_items.code, show compRes PG Tryd.f99.results.toList = [(.t 2)] from by kernel_rfl]; exact h)
def types_look_deep.n : Nat := 100
noncomputable def types_look_deep.c : C := (.seq (.reg [⟨(some 2), none, (.mv (.c (.int .i64 0)))⟩]) (.seq (.seq (.dreg [⟨(some 3), none, (.mv (.t 0))⟩, ⟨(some 4), none, (.nilck (.t 3))⟩, ⟨(some 5), none, (.faddr 0 (.t 4))⟩, ⟨(some 6), none, (.load none (.t 5))⟩, ⟨(some 7), none, (.mv (.t 0))⟩, ⟨(some 8), none, (.nilck (.t 7))⟩, ⟨(some 9), none, (.faddr 1 (.t 8))⟩, ⟨(some 10), none, (.load none (.t 9))⟩] [⟨(some 11), none, (.call 123 [(.t 6), (.t 10)])⟩, ⟨(some 12), none, (.bin .gtr (.t 11) (.c (.int .i64 6)))⟩]) (.cond (.t 12) (.seq (.reg [⟨(some 2), none, (.mv (.c (.int .i64 9)))⟩]) .ret) .skip)) (.seq (.reg [⟨(some 2), none, (.mv (.c (.int .i64 0)))⟩]) .ret)))
theorem types_look_deep.code : comp PG [] (Tryd.f100.body.getD .skip) = types_look_deep.c := by kernel_rfl
theorem types_look_deep.of {args : List AV} {H : AH} {K : AV → AH → Prop} (hl : args.length = 1) (h : wpA PG types_look_deep.c none (endA [(.t 2)] K) (initFr args) H) : ACalls PG 100 args H K :=
  ACalls.of_code (fl := []) mixed Tryd.func100 (c := Tryd.f100.body.getD .skip) (by kernel_rfl) (by kernel_rfl) (by rw [hl]; exact of_decide_eq_true (by kernel_rfl)) (by rw [types_look_deep.code]; kernel_rfl)
    (by rw [types_look_deep.code, show compRes PG Tryd.f100.results.toList = [(.t 2)] from by kernel_rfl]; exact h)
def types_Item_1.n : Nat := 106
noncomputable def types_Item_1.c : C := (.seq (.reg [⟨(some 2), none, (.mv (.c (.bool false)))⟩]) (.seq (.reg [⟨(some 8), none, (.mv (.t 0))⟩, ⟨(some 9), none, (.call 107 [(.t 8)])⟩, ⟨(some 7), none, (.mv (.t 9))⟩, ⟨(some 10), none, (.extr (.t 7) 0)⟩, ⟨(some 11), none, (.extr (.t 7) 1)⟩, ⟨(some 12), none, (.extr (.t 7) 2)⟩, ⟨(some 13), none, (.extr (.t 7) 3)⟩, ⟨(some 3), none, (.mv (.t 10))⟩, ⟨(some 4), none, (.mv (.t 11))⟩, ⟨(some 5), none, (.mv (.t 12))⟩, ⟨(some 6), none, (.mv (.t 13))⟩]) (.seq (.reg [⟨(some 14), none, (.mv (.t 3))⟩, ⟨(some 2), none, (.mv (.t 14))⟩]) .ret)))
theorem types_Item_1.code : comp PG [] (Tryd.f106.body.getD .skip) = types_Item_1.c := by kernel_rfl
theorem types_Item_1.of {args : List AV} {H : AH} {K : AV → AH → Prop} (hl : args.length = 1) (h : wpA PG types_Item_1.c none (endA [(.t 2)] K) (initFr args) H) : ACalls PG 106 args H K :=
  ACalls.of_code (fl := []) mixed Tryd.func106 (c := Tryd.f106.body.getD .skip) (by kernel_rfl) (by kernel_rfl) (by rw [hl]; exact of_decide_eq_true (by kernel_rfl)) (by rw [types_Item_1.code]; kernel_rfl)
    (by rw [types_Item_1.code, show compRes PG Tryd.f106.results.toList = [(.t 2)] from by kernel_rfl]; exact h)
theorem types_Item_1.of' {args : List AV} {H : AH} {K : AV → AH → Prop} (hl : args.length ≤ 15) (h : wpA PG types_Item_1.c none (endA [(.t 2)] K) (initFr args) H) : ACalls PG 106 args H K :=
  ACalls.of_code (fl := []) mixed Tryd.func106 (c := Tryd.f106.body.getD .skip) (by kernel_rfl) (by kernel_rfl) hl (by rw [types_Item_1.code]; kernel_rfl) (by rw [types_Item_1.code, show compRes PG Tryd.f106.results.toList = [(.t 2)] from by kernel_rfl]; exact h)
def types_has.n : Nat := 107
noncomputable def types_has.c : C := (.seq (.reg [⟨(some 2), none, (.mv (.c (.bool false)))⟩, ⟨(some 3), none, (.mv (.c (.bool false)))⟩, ⟨(some 4), none, (.mv (.c (.bool false)))⟩, ⟨(some 5), none, (.mv (.c (.bool false)))⟩]) (.seq (.seq (.reg [⟨(some 6), none, (.mv (.t 0))⟩]) (.block 0 (.seq (.reg [⟨(some 8), none, (.bin .eql (.t 6) (.c (.int .i64 10)))⟩, ⟨(some 7), none, (.mv (.t 8))⟩]) (.cond (.t 7) (.reg [⟨(some 3), none, (.mv (.c (.bool true)))⟩]) (.seq (.seq (.reg [⟨(some 10), none, (.bin .eql (.t 6) (.c (.int .i64 11)))⟩, ⟨(some 9), none, (.mv (.t 10))⟩]) (.cond (.t 9) .skip (.reg [⟨(some 11), none, (.bin .eql (.t 6) (.c (.int .i64 12)))⟩, ⟨(some 9), none, (.mv (.t 11))⟩]))) (.cond (.t 9) (.reg [⟨(some 3), none, (.mv (.c (.bool true)))⟩, ⟨(some 4), none, (.mv (.c (.bool true)))⟩]) (.seq (.seq (.reg [⟨(some 13), none, (.bin .eql (.t 6) (.c (.int .i64 9)))⟩, ⟨(some 12), none, (.mv (.t 13))⟩]) (.cond (.t 12) .skip (.reg [⟨(some 14), none, (.bin .eql (.t 6) (.c (.int .i64 13)))⟩, ⟨(some 12), none, (.mv (.t 14))⟩]))) (.cond (.t 12) (.reg [⟨(some 2), none, (.mv (.c (.bool true)))⟩]) (.seq (.reg [⟨(some 16), none, (.bin .eql (.t 6) (.c (.int .i64 14)))⟩, ⟨(some 15), none, (.mv (.t 16))⟩]) (.cond (.t 15) (.reg [⟨(some 2), none, (.mv (.c (.bool true)))⟩, ⟨(some 5), none, (.mv (.c (.bool true)))⟩]) .skip)))))))))) (.seq (.reg [⟨(some 17), none, (.mv (.t 2))⟩, ⟨(some 18), none, (.mv (.t 3))⟩, ⟨(some 19), none, (.mv (.t 4))⟩, ⟨(some 20), none, (.mv (.t 5))⟩, ⟨(some 2), none, (.mv (.t 17))⟩, ⟨(some 3), none, (.mv (.t 18))⟩, ⟨(some 4), none, (.mv (.t 19))⟩, ⟨(some 5), none, (.mv (.t 20))⟩]) .ret)))
theorem types_has.code : comp PG [] (Tryd.f107.body.getD .skip) = types_has.c := by kernel_rfl
theorem types_has.of {args : List AV} {H : AH} {K : AV → AH → Prop} (hl : args.length = 1) (h : wpA PG types_has.c none (endA [(.t 2), (.t 3), (.t 4), (.t 5)] K) (initFr args) H) : ACalls PG 107 args H K :=
  ACalls.of_code (fl := []) mixed Tryd.func107 (c := Tryd.f107.body.getD .skip) (by kernel_rfl) (by kernel_rfl) (by rw [hl]; exact of_decide_eq_true (by kernel_rfl)) (by rw [types_has.code]; kernel_rfl)
    (by rw [types_has.code, show compRes PG Tryd.f107.results.toList = [(.t 2), (.t 3), (.t 4), (.t 5)] from by kernel_rfl]; exact h)
def types_Item_2.n : Nat := 108
noncomputable def types_Item_2.c : C := (.seq (.reg [⟨(some 2), none, (.box 64 (.t 0))⟩, ⟨(some 3), none, (.mv (.c (.bool false)))⟩]) (.seq (.reg [⟨(some 4), none, (.faddr 0 (.t 2))⟩, ⟨(some 5), none, (.load none (.t 4))⟩, ⟨(some 6), none, (.load none (.t 1))⟩, ⟨(some 7), none, (.bin .eql (.t 5) (.t 6))⟩, ⟨(some 3), none, (.mv (.t 7))⟩]) .ret))
theorem types_Item_2.code : comp PG [] (Tryd.f108.body.getD .skip) = types_Item_2.c := by kernel_rfl
theorem types_Item_2.of {args : List AV} {H : AH} {K : AV → AH → Prop} (hl : args.length = 1) (h : wpA PG types_Item_2.c none (endA [(.t 3)] K) (initFr args) H) : ACalls PG 108 args H K :=
  ACalls.of_code (fl := []) mixed Tryd.func108 (c := Tryd.f108.body.getD .skip) (by kernel_rfl) (by kernel_rfl) (by rw [hl]; exact of_decide_eq_true (by kernel_rfl)) (by rw [types_Item_2.code]; kernel_rfl)
    (by rw [types_Item_2.code, show compRes PG Tryd.f108.results.toList = [(.t 3)] from by kernel_rfl]; exact h)
theorem types_Item_2.of' {args : List AV} {H : AH} {K : AV → AH → Prop} (hl : args.length ≤ 8) (h : wpA PG types_Item_2.c none (endA [(.t 3)] K) (initFr args) H) : ACalls PG 108 args H K :=
  ACalls.of_code (fl := []) mixed Tryd.func108 (c := Tryd.f108.body.getD .skip) (by kernel_rfl) (by kernel_rfl) hl (by rw [types_Item_2.code]; kernel_rfl) (by rw [types_Item_2.code, show compRes PG Tryd.f108.results.toList = [(.t 3)] from by kernel_rfl]; exact h)
def types_Value.n : Nat := 109
noncomputable def types_Value.c : C := (.seq (.reg [⟨(some 5), none, (.box 22 (.t 2))⟩, ⟨(some 6), none, (.mv (.c (.int .i64 0)))⟩, ⟨(some 7), none, (.mv (.c (.bool false)))⟩]) (.seq (.reg [⟨(some 8), none, (.mv (.t 0))⟩, ⟨(some 9), none, (.mv (.t 1))⟩, ⟨(some 10), none, (.mkfn 127 [] [(.t 5)])⟩, ⟨(some 11), none, (.call 69 [(.t 8), (.t 9), (.c (.clo 126 [] [])), (.t 10)])⟩, ⟨(some 12), none, (.extr (.t 11) 0)⟩, ⟨(some 13), none, (.extr (.t 11) 1)⟩, ⟨(some 6), none, (.mv (.t 12))⟩, ⟨(some 7), none, (.mv (.t 13))⟩]) .ret))
theorem types_Value.code : comp PG [] (Tryd.f109.body.getD .skip) = types_Value.c := by kernel_rfl
theorem types_Value.of {args : List AV} {H : AH} {K : AV → AH → Prop} (hl : args.length = 3) (h : wpA PG types_Value.c none (endA [(.t 6), (.t 7)] K) (initFr args) H) : ACalls PG 109 args H K :=
  ACalls.of_code (fl := []) mixed Tryd.func109 (c := Tryd.f109.body.getD .skip) (by kernel_rfl) (by kernel_rfl) (by rw [hl]; exact of_decide_eq_true (by kernel_rfl)) (by rw [types_Value.code]; kernel_rfl)
    (by rw [types_Value.code, show compRes PG Tryd.f109.results.toList = [(.t 6), (.t 7)] from by kernel_rfl]; exact h)
def prim_May.n : Nat := 110
noncomputable def prim_May.c : C := (.seq (.reg [⟨(some 4), none, (.mv (.c (.bool false)))⟩]) (.seq (.reg [⟨(some 5), none, (.mv (.t 0))⟩, ⟨(some 6), none, (.call 26 [(.t 5)])⟩, ⟨(some 7), none, (.mv (.t 6))⟩, ⟨(some 8), (some (7, true)), (.mv (.t 0))⟩, ⟨(some 9), (some (7, true)), (.mv (.t 1))⟩, ⟨(some 10), (some (7, true)), (.call 50 [(.t 8), (.t 9)])⟩, ⟨(some 11), (some (7, true)), (.mv (.t 1))⟩, ⟨(some 12), (some (7, true)), (.bin .eql (.t 10) (.t 11))⟩, ⟨(some 13), none, (.pick (.t 7) (.t 12) (.c (.bool false)))⟩, ⟨(some 14), none, (.mv (.t 13))⟩, ⟨(some 15), (some (14, true)), (.mv (.t 0))⟩, ⟨(some 16), (some (14, true)), (.bin .neq (.t 15) (.c (.int .i64 1)))⟩, ⟨(some 17), (some (14, true)), (.mv (.t 16))⟩, ⟨(some 18), (some (17, false)), (.mv (.t 1))⟩, ⟨(some 19), (some (17, false)), (.bin .leq (.t 18) (.c (.int .u64 1)))⟩, ⟨(some 20), (some (14, true)), (.pick (.t 17) (.c (.bool true)) (.t 19))⟩, ⟨(some 21), none, (.pick (.t 14) (.t 20) (.c (.bool false)))⟩, ⟨(some 4), none, (.mv (.t 21))⟩]) .ret))
theorem prim_May.code : comp PG [] (Tryd.f110.body.getD .skip) = prim_May.c := by kernel_rfl
theorem prim_May.of {args : List AV} {H : AH} {K : AV → AH → Prop} (hl : args.length = 2) (h : wpA PG prim_May.c none (endA [(.t 4)] K) (initFr args) H) : ACalls PG 110 args H K :=
  ACalls.of_code (fl := []) mixed Tryd.func110 (c := Tryd.f110.body.getD .skip) (by kernel_rfl) (by kernel_rfl) (by rw [hl]; exact of_decide_eq_true (by kernel_rfl)) (by rw [prim_May.code]; kernel_rfl)
    (by rw [prim_May.code, show compRes PG Tryd.f110.results.toList = [(.t 4)] from by kernel_rfl]; exact h)
def word_Sign.n : Nat := 113
noncomputable def word_Sign.c : C := (.seq (.reg [⟨(some 4), none, (.mv (.c (.int .i64 0)))⟩]) (.seq (.seq (.reg [⟨(some 6), none, (.mv (.t 1))⟩, ⟨(some 7), none, (.call 128 [(.t 6)])⟩, ⟨(some 8), none, (.un .not (.t 7))⟩]) (.cond (.t 8) (.seq (.reg [⟨(some 4), none, (.mv (.c (.int .i64 0)))⟩]) .ret) .skip)) (.seq (.reg [⟨(some 9), none, (.mv (.t 1))⟩, ⟨(some 10), none, (.bin .mul (.c (.int .i64 8)) (.t 9))⟩, ⟨(some 11), none, (.bin .sub (.c (.int .i64 64)) (.t 10))⟩, ⟨(some 12), none, (.conv .u64 (.t 11))⟩, ⟨(some 5), none, (.mv (.t 12))⟩]) (.seq (.reg [⟨(some 13), none, (.mv (.t 0))⟩, ⟨(some 14), none, (.mv (.t 5))⟩, ⟨(some 15), none, (.bin .shl (.t 13) (.t 14))⟩, ⟨(some 16), none, (.conv .i64 (.t 15))⟩, ⟨(some 17), none, (.mv (.t 5))⟩, ⟨(some 18), none, (.bin .shr (.t 16) (.t 17))⟩, ⟨(some 4), none, (.mv (.t 18))⟩]) .ret))))
theorem word_Sign.code : comp PG [] (Tryd.f113.body.getD .skip) = word_Sign.c := by kernel_rfl
theorem word_Sign.of {args : List AV} {H : AH} {K : AV → AH → Prop} (hl : args.length = 2) (h : wpA PG word_Sign.c none (endA [(.t 4)] K) (initFr args) H) : ACalls PG 113 args H K :=
  ACalls.of_code (fl := []) mixed Tryd.func113 (c := Tryd.f113.body.getD .skip) (by kernel_rfl) (by kernel_rfl) (by rw [hl]; exact of_decide_eq_true (by kernel_rfl)) (by rw [word_Sign.code]; kernel_rfl)
    (by rw [word_Sign.code, show compRes PG Tryd.f113.results.toList = [(.t 4)] from by kernel_rfl]; exact h)
def name_Name.n : Nat := 120
noncomputable def name_Name.c : C := (.seq (.reg [⟨(some 2), none, (.mv (.c (.bool false)))⟩]) (.seq (.reg [⟨(some 3), none, (.mv (.t 0))⟩, ⟨(some 4), none, (.bin .neq (.t 3) (.c (.str [])))⟩, ⟨(some 5), none, (.mv (.t 4))⟩, ⟨(some 6), (some (5, true)), (.mv (.t 0))⟩, ⟨(some 7), (some (5, true)), (.len true (.t 6))⟩, ⟨(some 8), (some (5, true)), (.bin .leq (.t 7) (.c (.int .i64 16)))⟩, ⟨(some 9), none, (.pick (.t 5) (.t 8) (.c (.bool false)))⟩, ⟨(some 10), none, (.mv (.t 9))⟩, ⟨(some 11), (some (10, true)), (.mv (.t 0))⟩, ⟨(some 12), (some (10, true)), (.call 66 [(.t 11)])⟩, ⟨(some 13), (some (10, true)), (.mv (.t 0))⟩, ⟨(some 14), (some (10, true)), (.len true (.t 13))⟩, ⟨(some 15), (some (10, true)), (.bin .eql (.t 12) (.t 14))⟩, ⟨(some 16), none, (.pick (.t 10) (.t 15) (.c (.bool false)))⟩, ⟨(some 17), none, (.mv (.t 16))⟩, ⟨(some 18), (some (17, true)), (.mv (.t 0))⟩, ⟨(some 19), (some (17, true)), (.call 132 [(.t 18)])⟩, ⟨(some 20), (some (17, true)), (.un .not (.t 19))⟩, ⟨(some 21), none, (.pick (.t 17) (.t 20) (.c (.bool false)))⟩, ⟨(some 2), none, (.mv (.t 21))⟩]) .ret))
theorem name_Name.code : comp PG [] (Tryd.f120.body.getD .skip) = name_Name.c := by kernel_rfl
theorem name_Name.of {args : List AV} {H : AH} {K : AV → AH → Prop} (hl : args.length = 1) (h : wpA PG name_Name.c none (endA [(.t 2)] K) (initFr args) H) : ACalls PG 120 args H K :=
  ACalls.of_code (fl := []) mixed Tryd.func120 (c := Tryd.f120.body.getD .skip) (by kernel_rfl) (by kernel_rfl) (by rw [hl]; exact of_decide_eq_true (by kernel_rfl)) (by rw [name_Name.code]; kernel_rfl)
    (by rw [name_Name.code, show compRes PG Tryd.f120.results.toList = [(.t 2)] from by kernel_rfl]; exact h)
def types_parts.n : Nat := 121
noncomputable def types_parts.c : C := (.seq (.reg [⟨(some 1), none, (.box 62 (.t 0))⟩, ⟨(some 2), none, (.mv (.c .nilS))⟩]) (.seq (.reg [⟨(some 3), none, (.mv (.c .nilS))⟩]) (.seq (.reg [⟨(some 11), none, (.faddr 0 (.t 1))⟩, ⟨(some 12), none, (.load none (.t 11))⟩, ⟨(some 13), none, (.call 107 [(.t 12)])⟩, ⟨(some 10), none, (.mv (.t 13))⟩, ⟨(some 14), none, (.extr (.t 10) 0)⟩, ⟨(some 15), none, (.extr (.t 10) 1)⟩, ⟨(some 16), none, (.extr (.t 10) 2)⟩, ⟨(some 17), none, (.extr (.t 10) 3)⟩, ⟨(some 4), none, (.mv (.t 14))⟩, ⟨(some 5), none, (.mv (.t 15))⟩, ⟨(some 6), none, (.mv (.t 16))⟩, ⟨(some 7), none, (.mv (.t 17))⟩]) (.seq (.seq (.reg [⟨(some 18), none, (.mv (.t 6))⟩]) (.cond (.t 18) (.reg [⟨(some 19), none, (.mv (.t 3))⟩, ⟨(some 20), none, (.faddr 3 (.t 1))⟩, ⟨(some 21), none, (.load none (.t 20))⟩, ⟨(some 22), none, (.bslice 3 1 1 [(.int .i64 0)] [(0, (.t 21))])⟩, ⟨(some 23), none, (.append 3 false 1 8 (.t 19) (.t 22))⟩, ⟨(some 3), none, (.mv (.t 23))⟩]) .skip)) (.seq (.seq (.reg [⟨(some 24), none, (.mv (.t 7))⟩]) (.cond (.t 24) (.reg [⟨(some 25), none, (.mv (.t 3))⟩, ⟨(some 26), none, (.faddr 4 (.t 1))⟩, ⟨(some 27), none, (.load none (.t 26))⟩, ⟨(some 28), none, (.bslice 3 1 1 [(.int .i64 0)] [(0, (.t 27))])⟩, ⟨(some 29), none, (.append 3 false 1 8 (.t 25) (.t 28))⟩, ⟨(some 3), none, (.mv (.t 29))⟩]) .skip)) (.seq (.seq (.reg [⟨(some 30), none, (.faddr 0 (.t 1))⟩, ⟨(some 31), none, (.load none (.t 30))⟩, ⟨(some 32), none, (.bin .eql (.t 31) (.c (.int .i64 13)))⟩, ⟨(some 33), none, (.mv (.t 32))⟩, ⟨(some 34), (some (33, false)), (.faddr 0 (.t 1))⟩, ⟨(some 35), (some (33, false)), (.load none (.t 34))⟩, ⟨(some 36), (some (33, false)), (.bin .eql (.t 35) (.c (.int .i64 14)))⟩, ⟨(some 37), none, (.pick (.t 33) (.c (.bool true)) (.t 36))⟩]) (.cond (.t 37) (.seq (.reg [⟨(some 38), none, (.faddr 5 (.t 1))⟩, ⟨(some 39), none, (.load none (.t 38))⟩, ⟨(some 40), none, (.len false (.t 39))⟩, ⟨(some 41), none, (.mv (.c (.int .i64 0)))⟩]) (.block 0 (.loop (.seq (.reg [⟨(some 42), none, (.bin .lss (.t 41) (.t 40))⟩]) (.seq (.cond (.t 42) .skip (.exit 0)) (.seq (.block 1 (.seq (.reg [⟨(some 43), none, (.iaddr 5 (.t 39) (.t 41))⟩, ⟨(some 44), none, (.load (some 5) (.t 43))⟩, ⟨(some 9), none, (.allc 64 [(.str []), (.int .u64 0), (.int .i64 0), (.bool false), (.bool false)])⟩, ⟨none, none, (.store 5 (.t 9) (.t 44))⟩]) (.reg [⟨(some 45), none, (.mv (.t 3))⟩, ⟨(some 46), none, (.faddr 2 (.t 9))⟩, ⟨(some 47), none, (.load none (.t 46))⟩, ⟨(some 48), none, (.bslice 3 1 1 [(.int .i64 0)] [(0, (.t 47))])⟩, ⟨(some 49), none, (.append 3 false 1 8 (.t 45) (.t 48))⟩, ⟨(some 3), none, (.mv (.t 49))⟩]))) (.reg [⟨(some 50), none, (.bin .add (.t 41) (.c (.int .i64 1)))⟩, ⟨(some 41), none, (.mv (.t 50))⟩]))))))) .skip)) (.seq (.reg [⟨(some 51), none, (.mv (.t 3))⟩, ⟨(some 2), none, (.mv (.t 51))⟩]) .ret)))))))
theorem types_parts.code : comp PG [] (Tryd.f121.body.getD .skip) = types_parts.c := by kernel_rfl
theorem types_parts.of {args : List AV} {H : AH} {K : AV → AH → Prop} (hl : args.length = 1) (h : wpA PG types_parts.c none (endA [(.t 2)] K) (initFr args) H) : ACalls PG 121 args H K :=
  ACalls.of_code (fl := []) mixed Tryd.func121 (c := Tryd.f121.body.getD .skip) (by kernel_rfl) (by kernel_rfl) (by rw [hl]; exact of_decide_eq_true (by kernel_rfl)) (by rw [types_parts.code]; kernel_rfl)
    (by rw [types_parts.code, show compRes PG Tryd.f121.results.toList = [(.t 2)] from by kernel_rfl]; exact h)
def types_look_item.n : Nat := 122
noncomputable def types_look_item.c : C := (.seq (.reg [⟨(some 4), none, (.mv (.c (.int .i64 0)))⟩]) (.seq (.reg [⟨(some 11), none, (.mv (.t 0))⟩, ⟨(some 12), none, (.nilck (.t 11))⟩, ⟨(some 13), none, (.faddr 2 (.t 12))⟩, ⟨(some 14), none, (.faddr 5 (.t 13))⟩, ⟨(some 15), none, (.load none (.t 14))⟩, ⟨(some 16), none, (.mv (.t 1))⟩, ⟨(some 17), none, (.iaddr 5 (.t 15) (.t 16))⟩, ⟨(some 18), none, (.load (some 5) (.t 17))⟩, ⟨(some 5), none, (.allc 64 [(.str []), (.int .u64 0), (.int .i64 0), (.bool false), (.bool false)])⟩, ⟨none, none, (.store 5 (.t 5) (.t 18))⟩]) (.seq (.seq (.reg [⟨(some 19), none, (.faddr 0 (.t 5))⟩, ⟨(some 20), none, (.load none (.t 19))⟩, ⟨(some 21), none, (.call 120 [(.t 20)])⟩, ⟨(some 22), none, (.un .not (.t 21))⟩]) (.cond (.t 22) (.seq (.reg [⟨(some 4), none, (.mv (.c (.int .i64 5)))⟩]) .ret) .skip)) (.seq (.seq (.reg [⟨(some 23), none, (.mv (.t 0))⟩, ⟨(some 24), none, (.nilck (.t 23))⟩, ⟨(some 25), none, (.faddr 2 (.t 24))⟩, ⟨(some 26), none, (.faddr 5 (.t 25))⟩, ⟨(some 27), none, (.load none (.t 26))⟩, ⟨(some 28), none, (.mv (.t 1))⟩, ⟨(some 29), none, (.slice (some 5) (.t 27) none (some (.t 28)))⟩, ⟨(some 30), none, (.len false (.t 29))⟩, ⟨(some 31), none, (.mv (.c (.int .i64 0)))⟩]) (.block 0 (.loop (.seq (.reg [⟨(some 32), none, (.bin .lss (.t 31) (.t 30))⟩]) (.seq (.cond (.t 32) .skip (.exit 0)) (.seq (.block 1 (.seq (.reg [⟨(some 33), none, (.iaddr 5 (.t 29) (.t 31))⟩, ⟨(some 34), none, (.load (some 5) (.t 33))⟩, ⟨(some 7), none, (.allc 64 [(.str []), (.int .u64 0), (.int .i64 0), (.bool false), (.bool false)])⟩, ⟨none, none, (.store 5 (.t 7) (.t 34))⟩]) (.seq (.reg [⟨(some 35), none, (.faddr 0 (.t 7))⟩, ⟨(some 36), none, (.load none (.t 35))⟩, ⟨(some 37), none, (.faddr 0 (.t 5))⟩, ⟨(some 38), none, (.load none (.t 37))⟩, ⟨(some 39), none, (.bin .eql (.t 36) (.t 38))⟩]) (.cond (.t 39) (.seq (.reg [⟨(some 4), none, (.mv (.c (.int .i64 6)))⟩]) .ret) .skip)))) (.reg [⟨(some 40), none, (.bin .add (.t 31) (.c (.int .i64 1)))⟩, ⟨(some 31), none, (.mv (.t 40))⟩]))))))) (.seq (.block 2 (.seq (.reg [⟨(some 42), none, (.mv (.t 0))⟩, ⟨(some 43), none, (.nilck (.t 42))⟩, ⟨(some 44), none, (.faddr 2 (.t 43))⟩, ⟨(some 45), none, (.faddr 0 (.t 44))⟩, ⟨(some 46), none, (.load none (.t 45))⟩, ⟨(some 47), none, (.bin .eql (.t 46) (.c (.int .i64 13)))⟩, ⟨(some 41), none, (.mv (.t 47))⟩]) (.cond (.t 41) (.seq (.seq (.dreg [⟨(some 48), none, (.mv (.t 0))⟩, ⟨(some 49), none, (.nilck (.t 48))⟩, ⟨(some 50), none, (.faddr 0 (.t 49))⟩, ⟨(some 51), none, (.load none (.t 50))⟩, ⟨(some 52), none, (.faddr 2 (.t 5))⟩, ⟨(some 53), none, (.load none (.t 52))⟩] [⟨(some 54), none, (.iaddr 6 (.t 51) (.t 53))⟩, ⟨(some 55), none, (.faddr 0 (.t 54))⟩, ⟨(some 56), none, (.load none (.t 55))⟩, ⟨(some 8), none, (.mv (.t 56))⟩]) (.seq (.reg [⟨(some 57), none, (.faddr 3 (.t 5))⟩, ⟨(some 58), none, (.load none (.t 57))⟩, ⟨(some 59), none, (.mv (.t 58))⟩, ⟨(some 60), (some (59, true)), (.mv (.t 8))⟩, ⟨(some 61), (some (59, true)), (.call 26 [(.t 60)])⟩, ⟨(some 62), (some (59, true)), (.un .not (.t 61))⟩, ⟨(some 63), none, (.pick (.t 59) (.t 62) (.c (.bool false)))⟩, ⟨(some 64), none, (.mv (.t 63))⟩, ⟨(some 65), (some (64, true)), (.mv (.t 8))⟩, ⟨(some 66), (some (64, true)), (.bin .neq (.t 65) (.c (.int .i64 10)))⟩, ⟨(some 67), none, (.pick (.t 64) (.t 66) (.c (.bool false)))⟩]) (.cond (.t 67) (.seq (.reg [⟨(some 4), none, (.mv (.c (.int .i64 17)))⟩]) .ret) .skip))) (.seq (.reg [⟨(some 4), none, (.mv (.c (.int .i64 0)))⟩]) .ret)) (.seq (.reg [⟨(some 69), none, (.faddr 4 (.t 5))⟩, ⟨(some 70), none, (.load none (.t 69))⟩, ⟨(some 71), none, (.mv (.t 70))⟩, ⟨(some 72), (some (71, true)), (.mv (.t 1))⟩, ⟨(some 73), (some (71, true)), (.mv (.t 0))⟩, ⟨(some 74), (some (71, true)), (.nilck (.t 73))⟩, ⟨(some 75), (some (71, true)), (.faddr 2 (.t 74))⟩, ⟨(some 76), (some (71, true)), (.faddr 5 (.t 75))⟩, ⟨(some 77), (some (71, true)), (.load none (.t 76))⟩, ⟨(some 78), (some (71, true)), (.len false (.t 77))⟩, ⟨(some 79), (some (71, true)), (.bin .sub (.t 78) (.c (.int .i64 1)))⟩, ⟨(some 80), (some (71, true)), (.bin .neq (.t 72) (.t 79))⟩, ⟨(some 81), none, (.pick (.t 71) (.t 80) (.c (.bool false)))⟩, ⟨(some 68), none, (.mv (.t 81))⟩]) (.cond (.t 68) (.seq (.reg [⟨(some 4), none, (.mv (.c (.int .i64 14)))⟩]) .ret) (.seq (.reg [⟨(some 83), none, (.faddr 4 (.t 5))⟩, ⟨(some 84), none, (.load none (.t 83))⟩, ⟨(some 82), none, (.mv (.t 84))⟩]) (.cond (.t 82) (.seq (.reg [⟨(some 4), none, (.mv (.c (.int .i64 0)))⟩]) .ret) (.seq (.reg [⟨(some 86), none, (.mv (.t 0))⟩, ⟨(some 87), none, (.faddr 1 (.t 5))⟩, ⟨(some 88), none, (.load none (.t 87))⟩, ⟨(some 89), none, (.call 133 [(.t 86), (.t 88)])⟩, ⟨(some 90), none, (.un .not (.t 89))⟩, ⟨(some 85), none, (.mv (.t 90))⟩]) (.cond (.t 85) (.seq (.reg [⟨(some 4), none, (.mv (.c (.int .i64 7)))⟩]) .ret) .skip))))))))) (.seq (.seq (.reg [⟨(some 91), none, (.mv (.t 0))⟩, ⟨(some 92), none, (.nilck (.t 91))⟩, ⟨(some 93), none, (.faddr 2 (.t 92))⟩, ⟨(some 94), none, (.faddr 5 (.t 93))⟩, ⟨(some 95), none, (.load none (.t 94))⟩, ⟨(some 96), none, (.mv (.t 1))⟩, ⟨(some 97), none, (.slice (some 5) (.t 95) none (some (.t 96)))⟩, ⟨(some 98), none, (.len false (.t 97))⟩, ⟨(some 99), none, (.mv (.c (.int .i64 0)))⟩]) (.block 3 (.loop (.seq (.reg [⟨(some 100), none, (.bin .lss (.t 99) (.t 98))⟩]) (.seq (.cond (.t 100) .skip (.exit 3)) (.seq (.block 4 (.seq (.reg [⟨(some 101), none, (.iaddr 5 (.t 97) (.t 99))⟩, ⟨(some 102), none, (.load (some 5) (.t 101))⟩, ⟨(some 10), none, (.allc 64 [(.str []), (.int .u64 0), (.int .i64 0), (.bool false), (.bool false)])⟩, ⟨none, none, (.store 5 (.t 10) (.t 102))⟩]) (.seq (.reg [⟨(some 103), none, (.faddr 1 (.t 10))⟩, ⟨(some 104), none, (.load none (.t 103))⟩, ⟨(some 105), none, (.faddr 1 (.t 5))⟩, ⟨(some 106), none, (.load none (.t 105))⟩, ⟨(some 107), none, (.bin .eql (.t 104) (.t 106))⟩]) (.cond (.t 107) (.seq (.reg [⟨(some 4), none, (.mv (.c (.int .i64 6)))⟩]) .ret) .skip)))) (.reg [⟨(some 108), none, (.bin .add (.t 99) (.c (.int .i64 1)))⟩, ⟨(some 99), none, (.mv (.t 108))⟩]))))))) (.seq (.reg [⟨(some 4), none, (.mv (.c (.int .i64 0)))⟩]) .ret)))))))
theorem types_look_item.code : comp PG [] (Tryd.f122.body.getD .skip) = types_look_item.c := by kernel_rfl
theorem types_look_item.of {args : List AV} {H : AH} {K : AV → AH → Prop} (hl : args.length = 2) (h : wpA PG types_look_item.c none (endA [(.t 4)] K) (initFr args) H) : ACalls PG 122 args H K :=
  ACalls.of_code (fl := []) mixed Tryd.func122 (c := Tryd.f122.body.getD .skip) (by kernel_rfl) (by kernel_rfl) (by rw [hl]; exact of_decide_eq_true (by kernel_rfl)) (by rw [types_look_item.code]; kernel_rfl)
    (by rw [types_look_item.code, show compRes PG Tryd.f122.results.toList = [(.t 4)] from by kernel_rfl]; exact h)
def types_Deep.n : Nat := 123
noncomputable def types_Deep.c : C := (.seq (.reg [⟨(some 4), none, (.mv (.c (.int .i64 0)))⟩]) (.seq (.seq (.reg [⟨(some 9), none, (.mv (.t 1))⟩, ⟨(some 10), none, (.bin .lss (.t 9) (.c (.int .i64 0)))⟩, ⟨(some 11), none, (.mv (.t 10))⟩, ⟨(some 12), (some (11, false)), (.mv (.t 1))⟩, ⟨(some 13), (some (11, false)), (.mv (.t 0))⟩, ⟨(some 14), (some (11, false)), (.len false (.t 13))⟩, ⟨(some 15), (some (11, false)), (.bin .geq (.t 12) (.t 14))⟩, ⟨(some 16), none, (.pick (.t 11) (.c (.bool true)) (.t 15))⟩]) (.cond (.t 16) (.seq (.reg [⟨(some 4), none, (.mv (.c (.int .i64 0)))⟩]) .ret) .skip)) (.seq (.reg [⟨(some 17), none, (.mv (.t 1))⟩, ⟨(some 18), none, (.bin .add (.t 17) (.c (.int .i64 1)))⟩, ⟨(some 19), none, (.mks 3 1 8 [(.int .i64 0)] (.t 18))⟩, ⟨(some 5), none, (.mv (.t 19))⟩]) (.seq (.seq (.reg [⟨(some 20), none, (.mv (.t 5))⟩, ⟨(some 21), none, (.len false (.t 20))⟩, ⟨(some 22), none, (.mv (.c (.int .i64 0)))⟩]) (.block 0 (.loop (.seq (.reg [⟨(some 23), none, (.bin .lss (.t 22) (.t 21))⟩]) (.seq (.cond (.t 23) .skip (.exit 0)) (.seq (.block 1 (.seq (.reg [⟨(some 24), none, (.mv (.t 22))⟩, ⟨(some 6), none, (.mv (.t 24))⟩]) (.seq (.reg [⟨(some 25), none, (.mv (.t 5))⟩, ⟨(some 26), none, (.mv (.t 6))⟩, ⟨(some 27), none, (.iaddr 1 (.t 25) (.t 26))⟩, ⟨none, none, (.store 1 (.t 27) (.c (.int .i64 1)))⟩]) (.seq (.reg [⟨(some 28), none, (.mv (.t 0))⟩, ⟨(some 29), none, (.mv (.t 6))⟩, ⟨(some 30), none, (.iaddr 6 (.t 28) (.t 29))⟩, ⟨(some 31), none, (.load (some 6) (.t 30))⟩, ⟨(some 32), none, (.call 121 [(.t 31)])⟩, ⟨(some 33), none, (.len false (.t 32))⟩, ⟨(some 34), none, (.mv (.c (.int .i64 0)))⟩]) (.block 2 (.loop (.seq (.reg [⟨(some 35), none, (.bin .lss (.t 34) (.t 33))⟩]) (.seq (.cond (.t 35) .skip (.exit 2)) (.seq (.block 3 (.seq (.reg [⟨(some 36), none, (.iaddr 1 (.t 32) (.t 34))⟩, ⟨(some 37), none, (.load none (.t 36))⟩, ⟨(some 8), none, (.mv (.t 37))⟩]) (.seq (.reg [⟨(some 38), none, (.mv (.t 8))⟩, ⟨(some 39), none, (.bin .geq (.t 38) (.c (.int .i64 0)))⟩, ⟨(some 40), none, (.mv (.t 39))⟩, ⟨(some 41), (some (40, true)), (.mv (.t 8))⟩, ⟨(some 42), (some (40, true)), (.mv (.t 6))⟩, ⟨(some 43), (some (40, true)), (.bin .lss (.t 41) (.t 42))⟩, ⟨(some 44), none, (.pick (.t 40) (.t 43) (.c (.bool false)))⟩]) (.cond (.t 44) (.dreg [⟨(some 45), none, (.mv (.t 5))⟩, ⟨(some 46), none, (.mv (.t 6))⟩, ⟨(some 47), none, (.mv (.t 5))⟩, ⟨(some 48), none, (.mv (.t 6))⟩, ⟨(some 49), none, (.iaddr 1 (.t 47) (.t 48))⟩, ⟨(some 50), none, (.load none (.t 49))⟩, ⟨(some 51), none, (.mv (.t 5))⟩, ⟨(some 52), none, (.mv (.t 8))⟩, ⟨(some 53), none, (.iaddr 1 (.t 51) (.t 52))⟩, ⟨(some 54), none, (.load none (.t 53))⟩, ⟨(some 55), none, (.bin .add (.t 54) (.c (.int .i64 1)))⟩, ⟨(some 56), none, (.mm true [(.t 50), (.t 55)])⟩] [⟨(some 57), none, (.iaddr 1 (.t 45) (.t 46))⟩, ⟨none, none, (.store 1 (.t 57) (.t 56))⟩]) .skip)))) (.reg [⟨(some 58), none, (.bin .add (.t 34) (.c (.int .i64 1)))⟩, ⟨(some 34), none, (.mv (.t 58))⟩])))))))))) (.reg [⟨(some 59), none, (.bin .add (.t 22) (.c (.int .i64 1)))⟩, ⟨(some 22), none, (.mv (.t 59))⟩]))))))) (.seq (.reg [⟨(some 60), none, (.mv (.t 5))⟩, ⟨(some 61), none, (.mv (.t 1))⟩, ⟨(some 62), none, (.iaddr 1 (.t 60) (.t 61))⟩, ⟨(some 63), none, (.load none (.t 62))⟩, ⟨(some 4), none, (.mv (.t 63))⟩]) .ret)))))
theorem types_Deep.code : comp PG [] (Tryd.f123.body.getD .skip) = types_Deep.c := by kernel_rfl
theorem types_Deep.of {args : List AV} {H : AH} {K : AV → AH → Prop} (hl : args.length = 2) (h : wpA PG types_Deep.c none (endA [(.t 4)] K) (initFr args) H) : ACalls PG 123 args H K :=
  ACalls.of_code (fl := []) mixed Tryd.func123 (c := Tryd.f123.body.getD .skip) (by kernel_rfl) (by kernel_rfl) (by rw [hl]; exact of_decide_eq_true (by kernel_rfl)) (by rw [types_Deep.code]; kernel_rfl)
    (by rw [types_Deep.code, show compRes PG Tryd.f123.results.toList = [(.t 4)] from by kernel_rfl]; exact h)
def types_Value_1.n : Nat := 126
noncomputable def types_Value_1.c : C := (.seq (.reg [⟨(some 2), none, (.mv (.c (.bool false)))⟩]) (.seq (.reg [⟨(some 3), none, (.mv (.t 0))⟩, ⟨(some 4), none, (.bin .eql (.t 3) (.c (.int .i64 9)))⟩, ⟨(some 2), none, (.mv (.t 4))⟩]) .ret))
theorem types_Value_1.code : comp PG [] (Tryd.f126.body.getD .skip) = types_Value_1.c := by kernel_rfl
theorem types_Value_1.of {args : List AV} {H : AH} {K : AV → AH → Prop} (hl : args.length = 1) (h : wpA PG types_Value_1.c none (endA [(.t 2)] K) (initFr args) H) : ACalls PG 126 args H K :=
  ACalls.of_code (fl := []) mixed Tryd.func126 (c := Tryd.f126.body.getD .skip) (by kernel_rfl) (by kernel_rfl) (by rw [hl]; exact of_decide_eq_true (by kernel_rfl)) (by rw [types_Value_1.code]; kernel_rfl)
    (by rw [types_Value_1.code, show compRes PG Tryd.f126.results.toList = [(.t 2)] from by kernel_rfl]; exact h)
theorem types_Value_1.of' {args : List AV} {H : AH} {K : AV → AH → Prop} (hl : args.length ≤ 5) (h : wpA PG types_Value_1.c none (endA [(.t 2)] K) (initFr args) H) : ACalls PG 126 args H K :=
  ACalls.of_code (fl := []) mixed Tryd.func126 (c := Tryd.f126.body.getD .skip) (by kernel_rfl) (by kernel_rfl) hl (by rw [types_Value_1.code]; kernel_rfl) (by rw [types_Value_1.code, show compRes PG Tryd.f126.results.toList = [(.t 2)] from by kernel_rfl]; exact h)
def types_Value_2.n : Nat := 127
noncomputable def types_Value_2.c : C := (.seq (.reg [⟨(some 2), none, (.box 64 (.t 0))⟩, ⟨(some 3), none, (.mv (.c (.bool false)))⟩]) (.seq (.reg [⟨(some 4), none, (.faddr 1 (.t 2))⟩, ⟨(some 5), none, (.load none (.t 4))⟩, ⟨(some 6), none, (.load none (.t 1))⟩, ⟨(some 7), none, (.bin .eql (.t 5) (.t 6))⟩, ⟨(some 3), none, (.mv (.t 7))⟩]) .ret))
theorem types_Value_2.code : comp PG [] (Tryd.f127.body.getD .skip) = types_Value_2.c := by kernel_rfl
theorem types_Value_2.of {args : List AV} {H : AH} {K : AV → AH → Prop} (hl : args.length = 1) (h : wpA PG types_Value_2.c none (endA [(.t 3)] K) (initFr args) H) : ACalls PG 127 args H K :=
  ACalls.of_code (fl := []) mixed Tryd.func127 (c := Tryd.f127.body.getD .skip) (by kernel_rfl) (by kernel_rfl) (by rw [hl]; exact of_decide_eq_true (by kernel_rfl)) (by rw [types_Value_2.code]; kernel_rfl)
    (by rw [types_Value_2.code, show compRes PG Tryd.f127.results.toList = [(.t 3)] from by kernel_rfl]; exact h)
theorem types_Value_2.of' {args : List AV} {H : AH} {K : AV → AH → Prop} (hl : args.length ≤ 8) (h : wpA PG types_Value_2.c none (endA [(.t 3)] K) (initFr args) H) : ACalls PG 127 args H K :=
  ACalls.of_code (fl := []) mixed Tryd.func127 (c := Tryd.f127.body.getD .skip) (by kernel_rfl) (by kernel_rfl) hl (by rw [types_Value_2.code]; kernel_rfl) (by rw [types_Value_2.code, show compRes PG Tryd.f127.results.toList = [(.t 3)] from by kernel_rfl]; exact h)
def word_sized.n : Nat := 128
noncomputable def word_sized.c : C := (.seq (.reg [⟨(some 2), none, (.mv (.c (.bool false)))⟩]) (.seq (.reg [⟨(some 3), none, (.mv (.t 0))⟩, ⟨(some 4), none, (.bin .eql (.t 3) (.c (.int .i64 1)))⟩, ⟨(some 5), none, (.mv (.t 4))⟩, ⟨(some 6), (some (5, false)), (.mv (.t 0))⟩, ⟨(some 7), (some (5, false)), (.bin .eql (.t 6) (.c (.int .i64 2)))⟩, ⟨(some 8), none, (.pick (.t 5) (.c (.bool true)) (.t 7))⟩, ⟨(some 9), none, (.mv (.t 8))⟩, ⟨(some 10), (some (9, false)), (.mv (.t 0))⟩, ⟨(some 11), (some (9, false)), (.bin .eql (.t 10) (.c (.int .i64 4)))⟩, ⟨(some 12), none, (.pick (.t 9) (.c (.bool true)) (.t 11))⟩, ⟨(some 13), none, (.mv (.t 12))⟩, ⟨(some 14), (some (13, false)), (.mv (.t 0))⟩, ⟨(some 15), (some (13, false)), (.bin .eql (.t 14) (.c (.int .i64 8)))⟩, ⟨(some 16), none, (.pick (.t 13) (.c (.bool true)) (.t 15))⟩, ⟨(some 2), none, (.mv (.t 16))⟩]) .ret))
theorem word_sized.code : comp PG [] (Tryd.f128.body.getD .skip) = word_sized.c := by kernel_rfl
theorem word_sized.of {args : List AV} {H : AH} {K : AV → AH → Prop} (hl : args.length = 1) (h : wpA PG word_sized.c none (endA [(.t 2)] K) (initFr args) H) : ACalls PG 128 args H K :=
  ACalls.of_code (fl := []) mixed Tryd.func128 (c := Tryd.f128.body.getD .skip) (by kernel_rfl) (by kernel_rfl) (by rw [hl]; exact of_decide_eq_true (by kernel_rfl)) (by rw [word_sized.code]; kernel_rfl)
    (by rw [word_sized.code, show compRes PG Tryd.f128.results.toList = [(.t 2)] from by kernel_rfl]; exact h)
def types_look_may.n : Nat := 133
noncomputable def types_look_may.c : C := (.seq (.reg [⟨(some 4), none, (.mv (.c (.bool false)))⟩]) (.seq (.seq (.reg [⟨(some 8), none, (.mv (.t 0))⟩, ⟨(some 9), none, (.nilck (.t 8))⟩, ⟨(some 10), none, (.faddr 2 (.t 9))⟩, ⟨(some 11), none, (.faddr 0 (.t 10))⟩, ⟨(some 12), none, (.load none (.t 11))⟩, ⟨(some 13), none, (.bin .eql (.t 12) (.c (.int .i64 9)))⟩]) (.cond (.t 13) (.seq (.reg [⟨(some 14), none, (.mv (.t 1))⟩, ⟨(some 15), none, (.call 110 [(.c (.int .i64 9)), (.t 14)])⟩, ⟨(some 4), none, (.mv (.t 15))⟩]) .ret) .skip)) (.seq (.dreg [⟨(some 16), none, (.mv (.t 0))⟩, ⟨(some 17), none, (.nilck (.t 16))⟩, ⟨(some 18), none, (.faddr 0 (.t 17))⟩, ⟨(some 19), none, (.load none (.t 18))⟩, ⟨(some 20), none, (.mv (.t 0))⟩, ⟨(some 21), none, (.nilck (.t 20))⟩, ⟨(some 22), none, (.faddr 2 (.t 21))⟩, ⟨(some 23), none, (.faddr 4 (.t 22))⟩, ⟨(some 24), none, (.load none (.t 23))⟩, ⟨(some 25), none, (.iaddr 6 (.t 19) (.t 24))⟩, ⟨(some 26), none, (.load (some 6) (.t 25))⟩, ⟨(some 5), none, (.allc 62 [(.int .i64 0), (.str []), (.int .i64 0), (.int .i64 0), (.int .i64 0), .nilS])⟩] [⟨none, none, (.store 6 (.t 5) (.t 26))⟩]) (.seq (.seq (.reg [⟨(some 27), none, (.faddr 0 (.t 5))⟩, ⟨(some 28), none, (.load none (.t 27))⟩, ⟨(some 29), none, (.bin .eql (.t 28) (.c (.int .i64 9)))⟩]) (.cond (.t 29) (.seq (.dreg [⟨(some 31), none, (.mv (.t 0))⟩, ⟨(some 32), none, (.nilck (.t 31))⟩, ⟨(some 33), none, (.faddr 0 (.t 32))⟩, ⟨(some 34), none, (.load none (.t 33))⟩, ⟨(some 35), none, (.mv (.t 0))⟩, ⟨(some 36), none, (.nilck (.t 35))⟩, ⟨(some 37), none, (.faddr 2 (.t 36))⟩, ⟨(some 38), none, (.faddr 4 (.t 37))⟩, ⟨(some 39), none, (.load none (.t 38))⟩, ⟨(some 40), none, (.mv (.t 1))⟩, ⟨(some 41), none, (.call 109 [(.t 34), (.t 39), (.t 40)])⟩, ⟨(some 30), none, (.mv (.t 41))⟩, ⟨(some 42), none, (.extr (.t 30) 0)⟩, ⟨(some 43), none, (.extr (.t 30) 1)⟩, ⟨(some 6), none, (.mv (.t 42))⟩] [⟨(some 7), none, (.mv (.t 43))⟩]) (.seq (.reg [⟨(some 44), none, (.mv (.t 7))⟩, ⟨(some 4), none, (.mv (.t 44))⟩]) .ret)) .skip)) (.seq (.reg [⟨(some 45), none, (.faddr 0 (.t 5))⟩, ⟨(some 46), none, (.load none (.t 45))⟩, ⟨(some 47), none, (.mv (.t 1))⟩, ⟨(some 48), none, (.call 110 [(.t 46), (.t 47)])⟩, ⟨(some 4), none, (.mv (.t 48))⟩]) .ret)))))
theorem types_look_may.code : comp PG [] (Tryd.f133.body.getD .skip) = types_look_may.c := by kernel_rfl
theorem types_look_may.of {args : List AV} {H : AH} {K : AV → AH → Prop} (hl : args.length = 2) (h : wpA PG types_look_may.c none (endA [(.t 4)] K) (initFr args) H) : ACalls PG 133 args H K :=
  ACalls.of_code (fl := []) mixed Tryd.func133 (c := Tryd.f133.body.getD .skip) (by kernel_rfl) (by kernel_rfl) (by rw [hl]; exact of_decide_eq_true (by kernel_rfl)) (by rw [types_look_may.code]; kernel_rfl)
    (by rw [types_look_may.code, show compRes PG Tryd.f133.results.toList = [(.t 4)] from by kernel_rfl]; exact h)
end Go.Proofs.YtodiahhfpcdejaaDoor

/- Each function's translation is, by reckoning, the abstract code that is written out here; its contract follows from the predicate transformer over that code. -/
namespace Go.Proofs.YtodiahhfpcdejaaDoor
set_option autoImplicit false
set_option maxRecDepth 100000
def broadsheetlaw08_ValueSame.n : Nat := 3
noncomputable def broadsheetlaw08_ValueSame.c : C := (.seq (.reg [⟨(some 2), none, (.box 25 (.t 0))⟩, ⟨(some 3), none, (.box 25 (.t 1))⟩, ⟨(some 4), none, (.mv (.c (.bool false)))⟩]) (.seq (.seq (.reg [⟨(some 5), none, (.load (some 4) (.t 2))⟩, ⟨(some 6), none, (.call 7 [(.t 5), (.c (.int .i64 0))])⟩, ⟨(some 7), none, (.mv (.t 6))⟩, ⟨(some 8), (some (7, false)), (.load (some 4) (.t 3))⟩, ⟨(some 9), (some (7, false)), (.call 7 [(.t 8), (.c (.int .i64 0))])⟩, ⟨(some 10), none, (.pick (.t 7) (.c (.bool true)) (.t 9))⟩]) (.cond (.t 10) (.seq (.reg [⟨(some 11), none, (.call 8 [])⟩, ⟨(some 4), none, (.mv (.t 11))⟩]) .ret) .skip)) (.seq (.dreg [⟨(some 12), none, (.load (some 4) (.t 2))⟩, ⟨(some 13), none, (.load (some 4) (.t 3))⟩, ⟨(some 14), none, (.call 9 [(.t 12), (.t 13)])⟩, ⟨(some 15), none, (.load (some 4) (.t 2))⟩, ⟨(some 16), none, (.load (some 4) (.t 3))⟩, ⟨(some 17), none, (.call 10 [(.t 15), (.t 16)])⟩, ⟨(some 18), none, (.beq false (.t 14) (.t 17))⟩, ⟨(some 19), none, (.mv (.t 18))⟩, ⟨(some 20), (some (19, true)), (.load (some 4) (.t 2))⟩, ⟨(some 21), (some (19, true)), (.load (some 4) (.t 2))⟩] [⟨(some 22), (some (19, true)), (.call 9 [(.t 20), (.t 21)])⟩, ⟨(some 23), none, (.pick (.t 19) (.t 22) (.c (.bool false)))⟩, ⟨(some 24), none, (.mv (.t 23))⟩, ⟨(some 25), (some (24, true)), (.call 8 [])⟩, ⟨(some 26), none, (.pick (.t 24) (.t 25) (.c (.bool false)))⟩, ⟨(some 4), none, (.mv (.t 26))⟩]) .ret)))
theorem broadsheetlaw08_ValueSame.code : comp PG [] (Tryd.f3.body.getD .skip) = broadsheetlaw08_ValueSame.c := by kernel_rfl
theorem broadsheetlaw08_ValueSame.of {args : List AV} {H : AH} {K : AV → AH → Prop} (hl : args.length = 2) (h : wpA PG broadsheetlaw08_ValueSame.c none (endA [(.t 4)] K) (initFr args) H) : ACalls PG 3 args H K :=
  ACalls.of_code (fl := []) mixed Tryd.func3 (c := Tryd.f3.body.getD .skip) (by kernel_rfl) (by kernel_rfl) (by rw [hl]; exact of_decide_eq_true (by kernel_rfl)) (by rw [broadsheetlaw08_ValueSame.code]; kernel_rfl)
    (by rw [broadsheetlaw08_ValueSame.code, show compRes PG Tryd.f3.results.toList = [(.t 4)] from by kernel_rfl]; exact h)
def broadsheetlaw08_ValueTells.n : Nat := 4
noncomputable def broadsheetlaw08_ValueTells.c : C := (.seq (.reg [⟨(some 2), none, (.box 25 (.t 0))⟩, ⟨(some 4), none, (.mv (.c (.bool false)))⟩]) (.seq (.seq (.reg [⟨(some 9), none, (.load (some 4) (.t 2))⟩, ⟨(some 10), none, (.call 7 [(.t 9), (.c (.int .i64 0))])⟩]) (.cond (.t 10) (.seq (.reg [⟨(some 11), none, (.call 8 [])⟩, ⟨(some 4), none, (.mv (.t 11))⟩]) .ret) .skip)) (.seq (.reg [⟨(some 13), none, (.load (some 4) (.t 2))⟩, ⟨(some 14), none, (.mv (.t 1))⟩, ⟨(some 15), none, (.call 11 [(.t 13), (.t 14)])⟩, ⟨(some 12), none, (.mv (.t 15))⟩, ⟨(some 16), none, (.extr (.t 12) 0)⟩, ⟨(some 17), none, (.extr (.t 12) 1)⟩, ⟨(some 5), none, (.allc 25 [(.int .i64 0), (.int .u64 0), (.str []), .nilS])⟩, ⟨none, none, (.store 4 (.t 5) (.t 16))⟩, ⟨(some 6), none, (.mv (.t 17))⟩]) (.seq (.reg [⟨(some 19), none, (.load (some 4) (.t 2))⟩, ⟨(some 20), none, (.mv (.t 1))⟩, ⟨(some 21), none, (.call 12 [(.t 19), (.t 20)])⟩, ⟨(some 18), none, (.mv (.t 21))⟩, ⟨(some 22), none, (.extr (.t 18) 0)⟩, ⟨(some 23), none, (.extr (.t 18) 1)⟩, ⟨(some 7), none, (.allc 25 [(.int .i64 0), (.int .u64 0), (.str []), .nilS])⟩, ⟨none, none, (.store 4 (.t 7) (.t 22))⟩, ⟨(some 8), none, (.mv (.t 23))⟩]) (.seq (.dreg [⟨(some 24), none, (.load (some 4) (.t 2))⟩, ⟨(some 25), none, (.call 13 [(.t 24)])⟩, ⟨(some 26), none, (.load (some 4) (.t 2))⟩, ⟨(some 27), none, (.call 14 [(.t 26)])⟩, ⟨(some 28), none, (.bin .eql (.t 25) (.t 27))⟩, ⟨(some 29), none, (.mv (.t 28))⟩, ⟨(some 30), (some (29, true)), (.load (some 4) (.t 2))⟩, ⟨(some 31), (some (29, true)), (.call 15 [(.t 30)])⟩, ⟨(some 32), (some (29, true)), (.load (some 4) (.t 2))⟩, ⟨(some 33), (some (29, true)), (.call 16 [(.t 32)])⟩, ⟨(some 34), (some (29, true)), (.bin .eql (.t 31) (.t 33))⟩, ⟨(some 35), none, (.pick (.t 29) (.t 34) (.c (.bool false)))⟩, ⟨(some 36), none, (.mv (.t 35))⟩, ⟨(some 37), (some (36, true)), (.load (some 4) (.t 2))⟩, ⟨(some 38), (some (36, true)), (.call 17 [(.t 37)])⟩, ⟨(some 39), (some (36, true)), (.load (some 4) (.t 2))⟩, ⟨(some 40), (some (36, true)), (.call 18 [(.t 39)])⟩, ⟨(some 41), (some (36, true)), (.bin .eql (.t 38) (.t 40))⟩, ⟨(some 42), none, (.pick (.t 36) (.t 41) (.c (.bool false)))⟩, ⟨(some 43), none, (.mv (.t 42))⟩, ⟨(some 44), (some (43, true)), (.load (some 4) (.t 5))⟩, ⟨(some 45), (some (43, true)), (.load (some 4) (.t 7))⟩, ⟨(some 46), (some (43, true)), (.call 10 [(.t 44), (.t 45)])⟩, ⟨(some 47), none, (.pick (.t 43) (.t 46) (.c (.bool false)))⟩, ⟨(some 48), none, (.mv (.t 47))⟩, ⟨(some 49), (some (48, true)), (.mv (.t 6))⟩, ⟨(some 50), (some (48, true)), (.mv (.t 8))⟩] [⟨(some 51), (some (48, true)), (.beq false (.t 49) (.t 50))⟩, ⟨(some 52), none, (.pick (.t 48) (.t 51) (.c (.bool false)))⟩, ⟨(some 53), none, (.mv (.t 52))⟩, ⟨(some 54), (some (53, true)), (.call 8 [])⟩, ⟨(some 55), none, (.pick (.t 53) (.t 54) (.c (.bool false)))⟩, ⟨(some 4), none, (.mv (.t 55))⟩]) .ret)))))
theorem broadsheetlaw08_ValueTells.code : comp PG [] (Tryd.f4.body.getD .skip) = broadsheetlaw08_ValueTells.c := by kernel_rfl
theorem broadsheetlaw08_ValueTells.of {args : List AV} {H : AH} {K : AV → AH → Prop} (hl : args.length = 2) (h : wpA PG broadsheetlaw08_ValueTells.c none (endA [(.t 4)] K) (initFr args) H) : ACalls PG 4 args H K :=
  ACalls.of_code (fl := []) mixed Tryd.func4 (c := Tryd.f4.body.getD .skip) (by kernel_rfl) (by kernel_rfl) (by rw [hl]; exact of_decide_eq_true (by kernel_rfl)) (by rw [broadsheetlaw08_ValueTells.code]; kernel_rfl)
    (by rw [broadsheetlaw08_ValueTells.code, show compRes PG Tryd.f4.results.toList = [(.t 4)] from by kernel_rfl]; exact h)
def broadsheetlaw08_ValueParts.n : Nat := 5
noncomputable def broadsheetlaw08_ValueParts.c : C := (.seq (.reg [⟨(some 2), none, (.box 25 (.t 0))⟩, ⟨(some 3), none, (.box 25 (.t 1))⟩, ⟨(some 4), none, (.mv (.c (.bool false)))⟩]) (.seq (.seq (.reg [⟨(some 13), none, (.load (some 4) (.t 2))⟩, ⟨(some 14), none, (.call 7 [(.t 13), (.c (.int .i64 0))])⟩, ⟨(some 15), none, (.mv (.t 14))⟩, ⟨(some 16), (some (15, false)), (.load (some 4) (.t 3))⟩, ⟨(some 17), (some (15, false)), (.call 7 [(.t 16), (.c (.int .i64 0))])⟩, ⟨(some 18), none, (.pick (.t 15) (.c (.bool true)) (.t 17))⟩]) (.cond (.t 18) (.seq (.reg [⟨(some 19), none, (.call 8 [])⟩, ⟨(some 4), none, (.mv (.t 19))⟩]) .ret) .skip)) (.seq (.reg [⟨(some 20), none, (.load (some 4) (.t 2))⟩, ⟨(some 21), none, (.load (some 4) (.t 3))⟩, ⟨(some 22), none, (.call 9 [(.t 20), (.t 21)])⟩, ⟨(some 5), none, (.mv (.t 22))⟩]) (.seq (.seq (.dreg [⟨(some 23), none, (.mv (.t 5))⟩, ⟨(some 24), none, (.load (some 4) (.t 3))⟩, ⟨(some 25), none, (.load (some 4) (.t 2))⟩, ⟨(some 26), none, (.call 9 [(.t 24), (.t 25)])⟩, ⟨(some 27), none, (.beq true (.t 23) (.t 26))⟩, ⟨(some 28), none, (.mv (.t 27))⟩, ⟨(some 29), (some (28, false)), (.mv (.t 5))⟩, ⟨(some 30), (some (28, false)), (.mv (.t 29))⟩, ⟨(some 31), (some (30, true)), (.load (some 4) (.t 2))⟩, ⟨(some 32), (some (30, true)), (.call 17 [(.t 31)])⟩, ⟨(some 33), (some (30, true)), (.load (some 4) (.t 3))⟩, ⟨(some 34), (some (30, true)), (.call 17 [(.t 33)])⟩, ⟨(some 35), (some (30, true)), (.bin .neq (.t 32) (.t 34))⟩, ⟨(some 36), (some (30, true)), (.mv (.t 35))⟩, ⟨(some 37), (some (36, false)), (.load (some 4) (.t 2))⟩, ⟨(some 38), (some (36, false)), (.call 13 [(.t 37)])⟩, ⟨(some 39), (some (36, false)), (.load (some 4) (.t 3))⟩, ⟨(some 40), (some (36, false)), (.call 13 [(.t 39)])⟩, ⟨(some 41), (some (36, false)), (.bin .neq (.t 38) (.t 40))⟩, ⟨(some 42), (some (30, true)), (.pick (.t 36) (.c (.bool true)) (.t 41))⟩, ⟨(some 43), (some (30, true)), (.mv (.t 42))⟩, ⟨(some 44), (some (43, false)), (.load (some 4) (.t 2))⟩, ⟨(some 45), (some (43, false)), (.call 15 [(.t 44)])⟩, ⟨(some 46), (some (43, false)), (.load (some 4) (.t 3))⟩] [⟨(some 47), (some (43, false)), (.call 15 [(.t 46)])⟩, ⟨(some 48), (some (43, false)), (.bin .neq (.t 45) (.t 47))⟩, ⟨(some 49), (some (30, true)), (.pick (.t 43) (.c (.bool true)) (.t 48))⟩, ⟨(some 50), (some (28, false)), (.pick (.t 30) (.t 49) (.c (.bool false)))⟩, ⟨(some 51), none, (.pick (.t 28) (.c (.bool true)) (.t 50))⟩]) (.cond (.t 51) (.seq (.reg [⟨(some 4), none, (.mv (.c (.bool false)))⟩]) .ret) .skip)) (.seq (.seq (.reg [⟨(some 6), none, (.mv (.c (.int .i64 0)))⟩]) (.block 0 (.loop (.seq (.seq (.reg [⟨(some 52), none, (.mv (.t 6))⟩, ⟨(some 53), none, (.faddr 3 (.t 2))⟩, ⟨(some 54), none, (.load none (.t 53))⟩, ⟨(some 55), none, (.len false (.t 54))⟩, ⟨(some 56), none, (.bin .lss (.t 52) (.t 55))⟩]) (.cond (.t 56) .skip (.exit 0))) (.seq (.block 1 (.seq (.reg [⟨(some 60), none, (.load (some 4) (.t 2))⟩, ⟨(some 61), none, (.mv (.t 6))⟩, ⟨(some 62), none, (.bslice 3 1 1 [(.int .i64 0)] [(0, (.t 61))])⟩, ⟨(some 63), none, (.call 11 [(.t 60), (.t 62)])⟩, ⟨(some 59), none, (.mv (.t 63))⟩, ⟨(some 64), none, (.extr (.t 59) 0)⟩, ⟨(some 65), none, (.extr (.t 59) 1)⟩, ⟨(some 7), none, (.allc 25 [(.int .i64 0), (.int .u64 0), (.str []), .nilS])⟩, ⟨none, none, (.store 4 (.t 7) (.t 64))⟩, ⟨(some 8), none, (.mv (.t 65))⟩]) (.seq (.dreg [⟨(some 66), none, (.mv (.t 8))⟩, ⟨(some 67), none, (.un .not (.t 66))⟩, ⟨(some 68), none, (.mv (.t 67))⟩, ⟨(some 69), (some (68, false)), (.load (some 4) (.t 7))⟩, ⟨(some 70), (some (68, false)), (.faddr 3 (.t 2))⟩, ⟨(some 71), (some (68, false)), (.load none (.t 70))⟩, ⟨(some 72), (some (68, false)), (.mv (.t 6))⟩, ⟨(some 73), (some (68, false)), (.iaddr 4 (.t 71) (.t 72))⟩, ⟨(some 74), (some (68, false)), (.load (some 4) (.t 73))⟩, ⟨(some 75), (some (68, false)), (.call 9 [(.t 69), (.t 74)])⟩, ⟨(some 76), (some (68, false)), (.un .not (.t 75))⟩, ⟨(some 77), none, (.pick (.t 68) (.c (.bool true)) (.t 76))⟩, ⟨(some 78), none, (.mv (.t 77))⟩, ⟨(some 79), (some (78, false)), (.load (some 4) (.t 7))⟩, ⟨(some 80), (some (78, false)), (.call 13 [(.t 79)])⟩, ⟨(some 81), (some (78, false)), (.load (some 4) (.t 2))⟩, ⟨(some 82), (some (78, false)), (.call 13 [(.t 81)])⟩, ⟨(some 83), (some (78, false)), (.bin .geq (.t 80) (.t 82))⟩, ⟨(some 84), none, (.pick (.t 78) (.c (.bool true)) (.t 83))⟩, ⟨(some 85), none, (.mv (.t 84))⟩, ⟨(some 86), (some (85, false)), (.load (some 4) (.t 7))⟩, ⟨(some 87), (some (85, false)), (.call 15 [(.t 86)])⟩, ⟨(some 88), (some (85, false)), (.load (some 4) (.t 2))⟩] [⟨(some 89), (some (85, false)), (.call 15 [(.t 88)])⟩, ⟨(some 90), (some (85, false)), (.bin .geq (.t 87) (.t 89))⟩, ⟨(some 91), none, (.pick (.t 85) (.c (.bool true)) (.t 90))⟩]) (.cond (.t 91) (.seq (.reg [⟨(some 4), none, (.mv (.c (.bool false)))⟩]) .ret) .skip)))) (.reg [⟨(some 57), none, (.mv (.t 6))⟩, ⟨(some 58), none, (.bin .add (.t 57) (.c (.int .i64 1)))⟩, ⟨(some 6), none, (.mv (.t 58))⟩])))))) (.seq (.reg [⟨(some 93), none, (.load (some 4) (.t 2))⟩, ⟨(some 94), none, (.call 11 [(.t 93), (.c .nilS)])⟩, ⟨(some 92), none, (.mv (.t 94))⟩, ⟨(some 95), none, (.extr (.t 92) 0)⟩, ⟨(some 96), none, (.extr (.t 92) 1)⟩, ⟨(some 9), none, (.allc 25 [(.int .i64 0), (.int .u64 0), (.str []), .nilS])⟩, ⟨none, none, (.store 4 (.t 9) (.t 95))⟩, ⟨(some 10), none, (.mv (.t 96))⟩]) (.seq (.reg [⟨(some 98), none, (.load (some 4) (.t 2))⟩, ⟨(some 99), none, (.faddr 3 (.t 2))⟩, ⟨(some 100), none, (.load none (.t 99))⟩, ⟨(some 101), none, (.len false (.t 100))⟩, ⟨(some 102), none, (.bslice 3 1 1 [(.int .i64 0)] [(0, (.t 101))])⟩, ⟨(some 103), none, (.call 11 [(.t 98), (.t 102)])⟩, ⟨(some 97), none, (.mv (.t 103))⟩, ⟨(some 104), none, (.extr (.t 97) 0)⟩, ⟨(some 105), none, (.extr (.t 97) 1)⟩, ⟨(some 11), none, (.allc 25 [(.int .i64 0), (.int .u64 0), (.str []), .nilS])⟩, ⟨none, none, (.store 4 (.t 11) (.t 104))⟩, ⟨(some 12), none, (.mv (.t 105))⟩]) (.seq (.reg [⟨(some 106), none, (.mv (.t 10))⟩, ⟨(some 107), none, (.mv (.t 106))⟩, ⟨(some 108), (some (107, true)), (.load (some 4) (.t 9))⟩, ⟨(some 109), (some (107, true)), (.load (some 4) (.t 2))⟩, ⟨(some 110), (some (107, true)), (.call 9 [(.t 108), (.t 109)])⟩, ⟨(some 111), none, (.pick (.t 107) (.t 110) (.c (.bool false)))⟩, ⟨(some 112), none, (.mv (.t 111))⟩, ⟨(some 113), (some (112, true)), (.mv (.t 12))⟩, ⟨(some 114), (some (112, true)), (.un .not (.t 113))⟩, ⟨(some 115), none, (.pick (.t 112) (.t 114) (.c (.bool false)))⟩, ⟨(some 116), none, (.mv (.t 115))⟩, ⟨(some 117), (some (116, true)), (.call 8 [])⟩, ⟨(some 118), none, (.pick (.t 116) (.t 117) (.c (.bool false)))⟩, ⟨(some 4), none, (.mv (.t 118))⟩]) .ret))))))))
theorem broadsheetlaw08_ValueParts.code : comp PG [] (Tryd.f5.body.getD .skip) = broadsheetlaw08_ValueParts.c := by kernel_rfl
theorem broadsheetlaw08_ValueParts.of {args : List AV} {H : AH} {K : AV → AH → Prop} (hl : args.length = 2) (h : wpA PG broadsheetlaw08_ValueParts.c none (endA [(.t 4)] K) (initFr args) H) : ACalls PG 5 args H K :=
  ACalls.of_code (fl := []) mixed Tryd.func5 (c := Tryd.f5.body.getD .skip) (by kernel_rfl) (by kernel_rfl) (by rw [hl]; exact of_decide_eq_true (by kernel_rfl)) (by rw [broadsheetlaw08_ValueParts.code]; kernel_rfl)
    (by rw [broadsheetlaw08_ValueParts.code, show compRes PG Tryd.f5.results.toList = [(.t 4)] from by kernel_rfl]; exact h)
def broadsheetref08_Much.n : Nat := 7
noncomputable def broadsheetref08_Much.c : C := (.seq (.reg [⟨(some 2), none, (.box 25 (.t 0))⟩, ⟨(some 4), none, (.mv (.c (.bool false)))⟩]) (.seq (.seq (.reg [⟨(some 7), none, (.mv (.t 1))⟩, ⟨(some 8), none, (.bin .gtr (.t 7) (.c (.int .i64 40)))⟩, ⟨(some 9), none, (.mv (.t 8))⟩, ⟨(some 10), (some (9, false)), (.faddr 3 (.t 2))⟩, ⟨(some 11), (some (9, false)), (.load none (.t 10))⟩, ⟨(some 12), (some (9, false)), (.len false (.t 11))⟩, ⟨(some 13), (some (9, false)), (.bin .gtr (.t 12) (.c (.int .i64 300)))⟩, ⟨(some 14), none, (.pick (.t 9) (.c (.bool true)) (.t 13))⟩, ⟨(some 15), none, (.mv (.t 14))⟩, ⟨(some 16), (some (15, false)), (.faddr 2 (.t 2))⟩, ⟨(some 17), (some (15, false)), (.load none (.t 16))⟩, ⟨(some 18), (some (15, false)), (.len true (.t 17))⟩, ⟨(some 19), (some (15, false)), (.bin .gtr (.t 18) (.c (.int .i64 1000)))⟩, ⟨(some 20), none, (.pick (.t 15) (.c (.bool true)) (.t 19))⟩]) (.cond (.t 20) (.seq (.reg [⟨(some 4), none, (.mv (.c (.bool true)))⟩]) .ret) .skip)) (.seq (.reg [⟨(some 5), none, (.mv (.c (.int .i64 0)))⟩]) (.seq (.seq (.reg [⟨(some 6), none, (.mv (.c (.int .i64 0)))⟩]) (.block 0 (.loop (.seq (.seq (.reg [⟨(some 21), none, (.mv (.t 6))⟩, ⟨(some 22), none, (.faddr 3 (.t 2))⟩, ⟨(some 23), none, (.load none (.t 22))⟩, ⟨(some 24), none, (.len false (.t 23))⟩, ⟨(some 25), none, (.bin .lss (.t 21) (.t 24))⟩]) (.cond (.t 25) .skip (.exit 0))) (.seq (.block 1 (.seq (.seq (.dreg [⟨(some 28), none, (.faddr 3 (.t 2))⟩, ⟨(some 29), none, (.load none (.t 28))⟩, ⟨(some 30), none, (.mv (.t 6))⟩, ⟨(some 31), none, (.iaddr 4 (.t 29) (.t 30))⟩, ⟨(some 32), none, (.load (some 4) (.t 31))⟩, ⟨(some 33), none, (.mv (.t 1))⟩, ⟨(some 34), none, (.bin .add (.t 33) (.c (.int .i64 1)))⟩, ⟨(some 35), none, (.faddr 3 (.t 2))⟩, ⟨(some 36), none, (.load none (.t 35))⟩, ⟨(some 37), none, (.len false (.t 36))⟩, ⟨(some 38), none, (.bin .quo (.t 37) (.c (.int .i64 4)))⟩, ⟨(some 39), none, (.bin .add (.t 34) (.t 38))⟩] [⟨(some 40), none, (.call 7 [(.t 32), (.t 39)])⟩]) (.cond (.t 40) (.seq (.reg [⟨(some 4), none, (.mv (.c (.bool true)))⟩]) .ret) .skip)) (.reg [⟨(some 41), none, (.mv (.t 5))⟩, ⟨(some 42), none, (.faddr 3 (.t 2))⟩, ⟨(some 43), none, (.load none (.t 42))⟩, ⟨(some 44), none, (.mv (.t 6))⟩, ⟨(some 45), none, (.iaddr 4 (.t 43) (.t 44))⟩, ⟨(some 46), none, (.load (some 4) (.t 45))⟩, ⟨(some 47), none, (.call 16 [(.t 46)])⟩, ⟨(some 48), none, (.bin .add (.t 41) (.t 47))⟩, ⟨(some 49), none, (.mm false [(.t 48), (.c (.int .i64 100000))])⟩, ⟨(some 5), none, (.mv (.t 49))⟩]))) (.reg [⟨(some 26), none, (.mv (.t 6))⟩, ⟨(some 27), none, (.bin .add (.t 26) (.c (.int .i64 1)))⟩, ⟨(some 6), none, (.mv (.t 27))⟩])))))) (.seq (.reg [⟨(some 50), none, (.mv (.t 5))⟩, ⟨(some 51), none, (.bin .gtr (.t 50) (.c (.int .i64 10000)))⟩, ⟨(some 4), none, (.mv (.t 51))⟩]) .ret)))))
theorem broadsheetref08_Much.code : comp PG [] (Tryd.f7.body.getD .skip) = broadsheetref08_Much.c := by kernel_rfl
theorem broadsheetref08_Much.of {args : List AV} {H : AH} {K : AV → AH → Prop} (hl : args.length = 2) (h : wpA PG broadsheetref08_Much.c none (endA [(.t 4)] K) (initFr args) H) : ACalls PG 7 args H K :=
  ACalls.of_code (fl := []) mixed Tryd.func7 (c := Tryd.f7.body.getD .skip) (by kernel_rfl) (by kernel_rfl) (by rw [hl]; exact of_decide_eq_true (by kernel_rfl)) (by rw [broadsheetref08_Much.code]; kernel_rfl)
    (by rw [broadsheetref08_Much.code, show compRes PG Tryd.f7.results.toList = [(.t 4)] from by kernel_rfl]; exact h)
def broadsheetlaw08_awake.n : Nat := 8
noncomputable def broadsheetlaw08_awake.c : C := (.seq (.reg [⟨(some 0), none, (.mv (.c (.bool false)))⟩]) (.seq (.reg [⟨(some 1), none, (.build [(.int .i64 0), (.int .u64 0), (.str []), .nilS] [(0, (1, (.c (.int .i64 3)))), (1, (1, (.c (.int .u64 65535))))])⟩, ⟨(some 2), none, (.build [(.int .i64 0), (.int .u64 0), (.str []), .nilS] [(0, (1, (.c (.int .i64 10)))), (2, (1, (.c (.str [105, 116, 39, 115]))))])⟩, ⟨(some 3), none, (.bslice 25 4 2 [(.int .i64 0), (.int .u64 0), (.str []), .nilS] [(0, (.t 1)), (1, (.t 2))])⟩, ⟨(some 4), none, (.build [(.int .i64 0), (.int .u64 0), (.str []), .nilS] [(0, (1, (.c (.int .i64 13)))), (3, (1, (.t 3)))])⟩, ⟨(some 5), none, (.call 17 [(.t 4)])⟩, ⟨(some 6), none, (.bin .eql (.t 5) (.c (.str [40, 45, 49, 44, 39, 105, 116, 92, 50, 55, 115, 39, 41])))⟩, ⟨(some 0), none, (.mv (.t 6))⟩]) .ret))
theorem broadsheetlaw08_awake.code : comp PG [] (Tryd.f8.body.getD .skip) = broadsheetlaw08_awake.c := by kernel_rfl
theorem broadsheetlaw08_awake.of {args : List AV} {H : AH} {K : AV → AH → Prop} (hl : args.length = 0) (h : wpA PG broadsheetlaw08_awake.c none (endA [(.t 0)] K) (initFr args) H) : ACalls PG 8 args H K :=
  ACalls.of_code (fl := []) mixed Tryd.func8 (c := Tryd.f8.body.getD .skip) (by kernel_rfl) (by kernel_rfl) (by rw [hl]; exact of_decide_eq_true (by kernel_rfl)) (by rw [broadsheetlaw08_awake.code]; kernel_rfl)
    (by rw [broadsheetlaw08_awake.code, show compRes PG Tryd.f8.results.toList = [(.t 0)] from by kernel_rfl]; exact h)
def value_Same.n : Nat := 9
noncomputable def value_Same.c : C := (.seq (.reg [⟨(some 2), none, (.box 25 (.t 0))⟩, ⟨(some 3), none, (.box 25 (.t 1))⟩, ⟨(some 4), none, (.mv (.c (.bool false)))⟩]) (.seq (.seq (.reg [⟨(some 7), none, (.faddr 0 (.t 2))⟩, ⟨(some 8), none, (.load none (.t 7))⟩, ⟨(some 9), none, (.faddr 0 (.t 3))⟩, ⟨(some 10), none, (.load none (.t 9))⟩, ⟨(some 11), none, (.bin .neq (.t 8) (.t 10))⟩, ⟨(some 12), none, (.mv (.t 11))⟩, ⟨(some 13), (some (12, false)), (.faddr 1 (.t 2))⟩, ⟨(some 14), (some (12, false)), (.load none (.t 13))⟩, ⟨(some 15), (some (12, false)), (.faddr 1 (.t 3))⟩, ⟨(some 16), (some (12, false)), (.load none (.t 15))⟩, ⟨(some 17), (some (12, false)), (.bin .neq (.t 14) (.t 16))⟩, ⟨(some 18), none, (.pick (.t 12) (.c (.bool true)) (.t 17))⟩, ⟨(some 19), none, (.mv (.t 18))⟩, ⟨(some 20), (some (19, false)), (.faddr 2 (.t 2))⟩, ⟨(some 21), (some (19, false)), (.load none (.t 20))⟩, ⟨(some 22), (some (19, false)), (.faddr 2 (.t 3))⟩, ⟨(some 23), (some (19, false)), (.load none (.t 22))⟩, ⟨(some 24), (some (19, false)), (.bin .neq (.t 21) (.t 23))⟩, ⟨(some 25), none, (.pick (.t 19) (.c (.bool true)) (.t 24))⟩, ⟨(some 26), none, (.mv (.t 25))⟩, ⟨(some 27), (some (26, false)), (.faddr 3 (.t 2))⟩, ⟨(some 28), (some (26, false)), (.load none (.t 27))⟩, ⟨(some 29), (some (26, false)), (.len false (.t 28))⟩, ⟨(some 30), (some (26, false)), (.faddr 3 (.t 3))⟩, ⟨(some 31), (some (26, false)), (.load none (.t 30))⟩, ⟨(some 32), (some (26, false)), (.len false (.t 31))⟩, ⟨(some 33), (some (26, false)), (.bin .neq (.t 29) (.t 32))⟩, ⟨(some 34), none, (.pick (.t 26) (.c (.bool true)) (.t 33))⟩]) (.cond (.t 34) (.seq (.reg [⟨(some 4), none, (.mv (.c (.bool false)))⟩]) .ret) .skip)) (.seq (.seq (.reg [⟨(some 35), none, (.faddr 3 (.t 2))⟩, ⟨(some 36), none, (.load none (.t 35))⟩, ⟨(some 37), none, (.len false (.t 36))⟩, ⟨(some 38), none, (.mv (.c (.int .i64 0)))⟩]) (.block 0 (.loop (.seq (.reg [⟨(some 39), none, (.bin .lss (.t 38) (.t 37))⟩]) (.seq (.cond (.t 39) .skip (.exit 0)) (.seq (.block 1 (.seq (.reg [⟨(some 40), none, (.mv (.t 38))⟩, ⟨(some 41), none, (.iaddr 4 (.t 36) (.t 38))⟩, ⟨(some 42), none, (.load (some 4) (.t 41))⟩, ⟨(some 6), none, (.allc 25 [(.int .i64 0), (.int .u64 0), (.str []), .nilS])⟩, ⟨(some 5), none, (.mv (.t 40))⟩, ⟨none, none, (.store 4 (.t 6) (.t 42))⟩]) (.seq (.dreg [⟨(some 43), none, (.load (some 4) (.t 6))⟩, ⟨(some 44), none, (.faddr 3 (.t 3))⟩, ⟨(some 45), none, (.load none (.t 44))⟩, ⟨(some 46), none, (.mv (.t 5))⟩, ⟨(some 47), none, (.iaddr 4 (.t 45) (.t 46))⟩, ⟨(some 48), none, (.load (some 4) (.t 47))⟩] [⟨(some 49), none, (.call 9 [(.t 43), (.t 48)])⟩, ⟨(some 50), none, (.un .not (.t 49))⟩]) (.cond (.t 50) (.seq (.reg [⟨(some 4), none, (.mv (.c (.bool false)))⟩]) .ret) .skip)))) (.reg [⟨(some 51), none, (.bin .add (.t 38) (.c (.int .i64 1)))⟩, ⟨(some 38), none, (.mv (.t 51))⟩]))))))) (.seq (.reg [⟨(some 4), none, (.mv (.c (.bool true)))⟩]) .ret))))
theorem value_Same.code : comp PG [] (Tryd.f9.body.getD .skip) = value_Same.c := by kernel_rfl
theorem value_Same.of {args : List AV} {H : AH} {K : AV → AH → Prop} (hl : args.length = 2) (h : wpA PG value_Same.c none (endA [(.t 4)] K) (initFr args) H) : ACalls PG 9 args H K :=
  ACalls.of_code (fl := []) mixed Tryd.func9 (c := Tryd.f9.body.getD .skip) (by kernel_rfl) (by kernel_rfl) (by rw [hl]; exact of_decide_eq_true (by kernel_rfl)) (by rw [value_Same.code]; kernel_rfl)
    (by rw [value_Same.code, show compRes PG Tryd.f9.results.toList = [(.t 4)] from by kernel_rfl]; exact h)
def broadsheetref08_Same.n : Nat := 10
noncomputable def broadsheetref08_Same.c : C := (.seq (.reg [⟨(some 2), none, (.box 25 (.t 0))⟩, ⟨(some 3), none, (.box 25 (.t 1))⟩, ⟨(some 4), none, (.mv (.c (.bool false)))⟩]) (.seq (.seq (.reg [⟨(some 6), none, (.faddr 0 (.t 2))⟩, ⟨(some 7), none, (.load none (.t 6))⟩, ⟨(some 8), none, (.faddr 0 (.t 3))⟩, ⟨(some 9), none, (.load none (.t 8))⟩, ⟨(some 10), none, (.bin .neq (.t 7) (.t 9))⟩, ⟨(some 11), none, (.mv (.t 10))⟩, ⟨(some 12), (some (11, false)), (.faddr 1 (.t 2))⟩, ⟨(some 13), (some (11, false)), (.load none (.t 12))⟩, ⟨(some 14), (some (11, false)), (.faddr 1 (.t 3))⟩, ⟨(some 15), (some (11, false)), (.load none (.t 14))⟩, ⟨(some 16), (some (11, false)), (.bin .neq (.t 13) (.t 15))⟩, ⟨(some 17), none, (.pick (.t 11) (.c (.bool true)) (.t 16))⟩, ⟨(some 18), none, (.mv (.t 17))⟩, ⟨(some 19), (some (18, false)), (.faddr 2 (.t 2))⟩, ⟨(some 20), (some (18, false)), (.load none (.t 19))⟩, ⟨(some 21), (some (18, false)), (.faddr 2 (.t 3))⟩, ⟨(some 22), (some (18, false)), (.load none (.t 21))⟩, ⟨(some 23), (some (18, false)), (.bin .neq (.t 20) (.t 22))⟩, ⟨(some 24), none, (.pick (.t 18) (.c (.bool true)) (.t 23))⟩, ⟨(some 25), none, (.mv (.t 24))⟩, ⟨(some 26), (some (25, false)), (.faddr 3 (.t 2))⟩, ⟨(some 27), (some (25, false)), (.load none (.t 26))⟩, ⟨(some 28), (some (25, false)), (.len false (.t 27))⟩, ⟨(some 29), (some (25, false)), (.faddr 3 (.t 3))⟩, ⟨(some 30), (some (25, false)), (.load none (.t 29))⟩, ⟨(some 31), (some (25, false)), (.len false (.t 30))⟩, ⟨(some 32), (some (25, false)), (.bin .neq (.t 28) (.t 31))⟩, ⟨(some 33), none, (.pick (.t 25) (.c (.bool true)) (.t 32))⟩]) (.cond (.t 33) (.seq (.reg [⟨(some 4), none, (.mv (.c (.bool false)))⟩]) .ret) .skip)) (.seq (.seq (.reg [⟨(some 5), none, (.mv (.c (.int .i64 0)))⟩]) (.block 0 (.loop (.seq (.seq (.reg [⟨(some 34), none, (.mv (.t 5))⟩, ⟨(some 35), none, (.faddr 3 (.t 2))⟩, ⟨(some 36), none, (.load none (.t 35))⟩, ⟨(some 37), none, (.len false (.t 36))⟩, ⟨(some 38), none, (.bin .lss (.t 34) (.t 37))⟩]) (.cond (.t 38) .skip (.exit 0))) (.seq (.block 1 (.seq (.dreg [⟨(some 41), none, (.faddr 3 (.t 2))⟩, ⟨(some 42), none, (.load none (.t 41))⟩, ⟨(some 43), none, (.mv (.t 5))⟩, ⟨(some 44), none, (.iaddr 4 (.t 42) (.t 43))⟩, ⟨(some 45), none, (.load (some 4) (.t 44))⟩, ⟨(some 46), none, (.faddr 3 (.t 3))⟩, ⟨(some 47), none, (.load none (.t 46))⟩, ⟨(some 48), none, (.mv (.t 5))⟩, ⟨(some 49), none, (.iaddr 4 (.t 47) (.t 48))⟩, ⟨(some 50), none, (.load (some 4) (.t 49))⟩] [⟨(some 51), none, (.call 10 [(.t 45), (.t 50)])⟩, ⟨(some 52), none, (.un .not (.t 51))⟩]) (.cond (.t 52) (.seq (.reg [⟨(some 4), none, (.mv (.c (.bool false)))⟩]) .ret) .skip))) (.reg [⟨(some 39), none, (.mv (.t 5))⟩, ⟨(some 40), none, (.bin .add (.t 39) (.c (.int .i64 1)))⟩, ⟨(some 5), none, (.mv (.t 40))⟩])))))) (.seq (.reg [⟨(some 4), none, (.mv (.c (.bool true)))⟩]) .ret))))
theorem broadsheetref08_Same.code : comp PG [] (Tryd.f10.body.getD .skip) = broadsheetref08_Same.c := by kernel_rfl
theorem broadsheetref08_Same.of {args : List AV} {H : AH} {K : AV → AH → Prop} (hl : args.length = 2) (h : wpA PG broadsheetref08_Same.c none (endA [(.t 4)] K) (initFr args) H) : ACalls PG 10 args H K :=
  ACalls.of_code (fl := []) mixed Tryd.func10 (c := Tryd.f10.body.getD .skip) (by kernel_rfl) (by kernel_rfl) (by rw [hl]; exact of_decide_eq_true (by kernel_rfl)) (by rw [broadsheetref08_Same.code]; kernel_rfl)
    (by rw [broadsheetref08_Same.code, show compRes PG Tryd.f10.results.toList = [(.t 4)] from by kernel_rfl]; exact h)
def value_At.n : Nat := 11
noncomputable def value_At.c : C := (.seq (.reg [⟨(some 2), none, (.box 25 (.t 0))⟩, ⟨(some 4), none, (.allc 25 [(.int .i64 0), (.int .u64 0), (.str []), .nilS])⟩, ⟨(some 5), none, (.mv (.c (.bool false)))⟩]) (.seq (.seq (.reg [⟨(some 8), none, (.mv (.t 1))⟩, ⟨(some 9), none, (.len false (.t 8))⟩, ⟨(some 10), none, (.mv (.c (.int .i64 0)))⟩]) (.block 0 (.loop (.seq (.reg [⟨(some 11), none, (.bin .lss (.t 10) (.t 9))⟩]) (.seq (.cond (.t 11) .skip (.exit 0)) (.seq (.block 1 (.seq (.reg [⟨(some 12), none, (.iaddr 1 (.t 8) (.t 10))⟩, ⟨(some 13), none, (.load none (.t 12))⟩, ⟨(some 7), none, (.mv (.t 13))⟩]) (.seq (.seq (.reg [⟨(some 14), none, (.mv (.t 7))⟩, ⟨(some 15), none, (.bin .lss (.t 14) (.c (.int .i64 0)))⟩, ⟨(some 16), none, (.mv (.t 15))⟩, ⟨(some 17), (some (16, false)), (.mv (.t 7))⟩, ⟨(some 18), (some (16, false)), (.faddr 3 (.t 2))⟩, ⟨(some 19), (some (16, false)), (.load none (.t 18))⟩, ⟨(some 20), (some (16, false)), (.len false (.t 19))⟩, ⟨(some 21), (some (16, false)), (.bin .geq (.t 17) (.t 20))⟩, ⟨(some 22), none, (.pick (.t 16) (.c (.bool true)) (.t 21))⟩]) (.cond (.t 22) (.seq (.reg [⟨(some 23), none, (.build [(.int .i64 0), (.int .u64 0), (.str []), .nilS] [])⟩, ⟨none, none, (.store 4 (.t 4) (.t 23))⟩, ⟨(some 5), none, (.mv (.c (.bool false)))⟩]) .ret) .skip)) (.reg [⟨(some 24), none, (.faddr 3 (.t 2))⟩, ⟨(some 25), none, (.load none (.t 24))⟩, ⟨(some 26), none, (.mv (.t 7))⟩, ⟨(some 27), none, (.iaddr 4 (.t 25) (.t 26))⟩, ⟨(some 28), none, (.load (some 4) (.t 27))⟩, ⟨none, none, (.store 4 (.t 2) (.t 28))⟩])))) (.reg [⟨(some 29), none, (.bin .add (.t 10) (.c (.int .i64 1)))⟩, ⟨(some 10), none, (.mv (.t 29))⟩]))))))) (.seq (.reg [⟨(some 30), none, (.load (some 4) (.t 2))⟩, ⟨none, none, (.store 4 (.t 4) (.t 30))⟩, ⟨(some 5), none, (.mv (.c (.bool true)))⟩]) .ret)))
theorem value_At.code : comp PG [] (Tryd.f11.body.getD .skip) = value_At.c := by kernel_rfl
theorem value_At.of {args : List AV} {H : AH} {K : AV → AH → Prop} (hl : args.length = 2) (h : wpA PG value_At.c none (endA [(.cell 4 (some 4)), (.t 5)] K) (initFr args) H) : ACalls PG 11 args H K :=
  ACalls.of_code (fl := []) mixed Tryd.func11 (c := Tryd.f11.body.getD .skip) (by kernel_rfl) (by kernel_rfl) (by rw [hl]; exact of_decide_eq_true (by kernel_rfl)) (by rw [value_At.code]; kernel_rfl)
    (by rw [value_At.code, show compRes PG Tryd.f11.results.toList = [(.cell 4 (some 4)), (.t 5)] from by kernel_rfl]; exact h)
def broadsheetref08_At.n : Nat := 12
noncomputable def broadsheetref08_At.c : C := (.seq (.reg [⟨(some 2), none, (.box 25 (.t 0))⟩, ⟨(some 4), none, (.allc 25 [(.int .i64 0), (.int .u64 0), (.str []), .nilS])⟩, ⟨(some 5), none, (.mv (.c (.bool false)))⟩]) (.seq (.seq (.reg [⟨(some 6), none, (.mv (.t 1))⟩, ⟨(some 7), none, (.len false (.t 6))⟩, ⟨(some 8), none, (.bin .eql (.t 7) (.c (.int .i64 0)))⟩]) (.cond (.t 8) (.seq (.reg [⟨(some 9), none, (.load (some 4) (.t 2))⟩, ⟨none, none, (.store 4 (.t 4) (.t 9))⟩, ⟨(some 5), none, (.mv (.c (.bool true)))⟩]) .ret) .skip)) (.seq (.seq (.dreg [⟨(some 10), none, (.mv (.t 1))⟩, ⟨(some 11), none, (.iaddr 1 (.t 10) (.c (.int .i64 0)))⟩, ⟨(some 12), none, (.load none (.t 11))⟩, ⟨(some 13), none, (.bin .lss (.t 12) (.c (.int .i64 0)))⟩, ⟨(some 14), none, (.mv (.t 13))⟩, ⟨(some 15), (some (14, false)), (.mv (.t 1))⟩, ⟨(some 16), (some (14, false)), (.iaddr 1 (.t 15) (.c (.int .i64 0)))⟩, ⟨(some 17), (some (14, false)), (.load none (.t 16))⟩, ⟨(some 18), (some (14, false)), (.faddr 3 (.t 2))⟩, ⟨(some 19), (some (14, false)), (.load none (.t 18))⟩, ⟨(some 20), (some (14, false)), (.len false (.t 19))⟩] [⟨(some 21), (some (14, false)), (.bin .geq (.t 17) (.t 20))⟩, ⟨(some 22), none, (.pick (.t 14) (.c (.bool true)) (.t 21))⟩]) (.cond (.t 22) (.seq (.reg [⟨(some 23), none, (.build [(.int .i64 0), (.int .u64 0), (.str []), .nilS] [])⟩, ⟨none, none, (.store 4 (.t 4) (.t 23))⟩, ⟨(some 5), none, (.mv (.c (.bool false)))⟩]) .ret) .skip)) (.seq (.dreg [⟨(some 24), none, (.faddr 3 (.t 2))⟩, ⟨(some 25), none, (.load none (.t 24))⟩, ⟨(some 26), none, (.mv (.t 1))⟩, ⟨(some 27), none, (.iaddr 1 (.t 26) (.c (.int .i64 0)))⟩, ⟨(some 28), none, (.load none (.t 27))⟩, ⟨(some 29), none, (.iaddr 4 (.t 25) (.t 28))⟩, ⟨(some 30), none, (.load (some 4) (.t 29))⟩, ⟨(some 31), none, (.mv (.t 1))⟩, ⟨(some 32), none, (.slice (some 1) (.t 31) (some (.c (.int .i64 1))) none)⟩, ⟨(some 33), none, (.call 12 [(.t 30), (.t 32)])⟩, ⟨(some 34), none, (.extr (.t 33) 0)⟩, ⟨(some 35), none, (.extr (.t 33) 1)⟩] [⟨none, none, (.store 4 (.t 4) (.t 34))⟩, ⟨(some 5), none, (.mv (.t 35))⟩]) .ret))))
theorem broadsheetref08_At.code : comp PG [] (Tryd.f12.body.getD .skip) = broadsheetref08_At.c := by kernel_rfl
theorem broadsheetref08_At.of {args : List AV} {H : AH} {K : AV → AH → Prop} (hl : args.length = 2) (h : wpA PG broadsheetref08_At.c none (endA [(.cell 4 (some 4)), (.t 5)] K) (initFr args) H) : ACalls PG 12 args H K :=
  ACalls.of_code (fl := []) mixed Tryd.func12 (c := Tryd.f12.body.getD .skip) (by kernel_rfl) (by kernel_rfl) (by rw [hl]; exact of_decide_eq_true (by kernel_rfl)) (by rw [broadsheetref08_At.code]; kernel_rfl)
    (by rw [broadsheetref08_At.code, show compRes PG Tryd.f12.results.toList = [(.cell 4 (some 4)), (.t 5)] from by kernel_rfl]; exact h)
def value_Deep.n : Nat := 13
noncomputable def value_Deep.c : C := (.seq (.reg [⟨(some 1), none, (.box 25 (.t 0))⟩, ⟨(some 2), none, (.mv (.c (.int .i64 0)))⟩]) (.seq (.reg [⟨(some 3), none, (.mv (.c (.int .i64 0)))⟩]) (.seq (.seq (.reg [⟨(some 6), none, (.faddr 3 (.t 1))⟩, ⟨(some 7), none, (.load none (.t 6))⟩, ⟨(some 8), none, (.len false (.t 7))⟩, ⟨(some 9), none, (.mv (.c (.int .i64 0)))⟩]) (.block 0 (.loop (.seq (.reg [⟨(some 10), none, (.bin .lss (.t 9) (.t 8))⟩]) (.seq (.cond (.t 10) .skip (.exit 0)) (.seq (.block 1 (.seq (.reg [⟨(some 11), none, (.iaddr 4 (.t 7) (.t 9))⟩, ⟨(some 12), none, (.load (some 4) (.t 11))⟩, ⟨(some 5), none, (.allc 25 [(.int .i64 0), (.int .u64 0), (.str []), .nilS])⟩, ⟨none, none, (.store 4 (.t 5) (.t 12))⟩]) (.reg [⟨(some 13), none, (.mv (.t 3))⟩, ⟨(some 14), none, (.load (some 4) (.t 5))⟩, ⟨(some 15), none, (.call 13 [(.t 14)])⟩, ⟨(some 16), none, (.mm true [(.t 13), (.t 15)])⟩, ⟨(some 3), none, (.mv (.t 16))⟩]))) (.reg [⟨(some 17), none, (.bin .add (.t 9) (.c (.int .i64 1)))⟩, ⟨(some 9), none, (.mv (.t 17))⟩]))))))) (.seq (.reg [⟨(some 18), none, (.mv (.t 3))⟩, ⟨(some 19), none, (.bin .add (.t 18) (.c (.int .i64 1)))⟩, ⟨(some 2), none, (.mv (.t 19))⟩]) .ret))))
theorem value_Deep.code : comp PG [] (Tryd.f13.body.getD .skip) = value_Deep.c := by kernel_rfl
theorem value_Deep.of {args : List AV} {H : AH} {K : AV → AH → Prop} (hl : args.length = 1) (h : wpA PG value_Deep.c none (endA [(.t 2)] K) (initFr args) H) : ACalls PG 13 args H K :=
  ACalls.of_code (fl := []) mixed Tryd.func13 (c := Tryd.f13.body.getD .skip) (by kernel_rfl) (by kernel_rfl) (by rw [hl]; exact of_decide_eq_true (by kernel_rfl)) (by rw [value_Deep.code]; kernel_rfl)
    (by rw [value_Deep.code, show compRes PG Tryd.f13.results.toList = [(.t 2)] from by kernel_rfl]; exact h)
def broadsheetref08_Deep.n : Nat := 14
noncomputable def broadsheetref08_Deep.c : C := (.seq (.reg [⟨(some 1), none, (.box 25 (.t 0))⟩, ⟨(some 2), none, (.mv (.c (.int .i64 0)))⟩]) (.seq (.reg [⟨(some 3), none, (.mv (.c (.int .i64 1)))⟩]) (.seq (.seq (.reg [⟨(some 4), none, (.mv (.c (.int .i64 0)))⟩]) (.block 0 (.loop (.seq (.seq (.reg [⟨(some 6), none, (.mv (.t 4))⟩, ⟨(some 7), none, (.faddr 3 (.t 1))⟩, ⟨(some 8), none, (.load none (.t 7))⟩, ⟨(some 9), none, (.len false (.t 8))⟩, ⟨(some 10), none, (.bin .lss (.t 6) (.t 9))⟩]) (.cond (.t 10) .skip (.exit 0))) (.seq (.block 1 (.seq (.reg [⟨(some 13), none, (.faddr 3 (.t 1))⟩, ⟨(some 14), none, (.load none (.t 13))⟩, ⟨(some 15), none, (.mv (.t 4))⟩, ⟨(some 16), none, (.iaddr 4 (.t 14) (.t 15))⟩, ⟨(some 17), none, (.load (some 4) (.t 16))⟩, ⟨(some 18), none, (.call 14 [(.t 17)])⟩, ⟨(some 19), none, (.bin .add (.t 18) (.c (.int .i64 1)))⟩, ⟨(some 5), none, (.mv (.t 19))⟩]) (.seq (.reg [⟨(some 20), none, (.mv (.t 5))⟩, ⟨(some 21), none, (.mv (.t 3))⟩, ⟨(some 22), none, (.bin .gtr (.t 20) (.t 21))⟩]) (.cond (.t 22) (.reg [⟨(some 23), none, (.mv (.t 5))⟩, ⟨(some 3), none, (.mv (.t 23))⟩]) .skip)))) (.reg [⟨(some 11), none, (.mv (.t 4))⟩, ⟨(some 12), none, (.bin .add (.t 11) (.c (.int .i64 1)))⟩, ⟨(some 4), none, (.mv (.t 12))⟩])))))) (.seq (.reg [⟨(some 24), none, (.mv (.t 3))⟩, ⟨(some 2), none, (.mv (.t 24))⟩]) .ret))))
theorem broadsheetref08_Deep.code : comp PG [] (Tryd.f14.body.getD .skip) = broadsheetref08_Deep.c := by kernel_rfl
theorem broadsheetref08_Deep.of {args : List AV} {H : AH} {K : AV → AH → Prop} (hl : args.length = 1) (h : wpA PG broadsheetref08_Deep.c none (endA [(.t 2)] K) (initFr args) H) : ACalls PG 14 args H K :=
  ACalls.of_code (fl := []) mixed Tryd.func14 (c := Tryd.f14.body.getD .skip) (by kernel_rfl) (by kernel_rfl) (by rw [hl]; exact of_decide_eq_true (by kernel_rfl)) (by rw [broadsheetref08_Deep.code]; kernel_rfl)
    (by rw [broadsheetref08_Deep.code, show compRes PG Tryd.f14.results.toList = [(.t 2)] from by kernel_rfl]; exact h)
def value_Great.n : Nat := 15
noncomputable def value_Great.c : C := (.seq (.reg [⟨(some 1), none, (.box 25 (.t 0))⟩, ⟨(some 2), none, (.mv (.c (.int .i64 0)))⟩]) (.seq (.reg [⟨(some 6), none, (.faddr 2 (.t 1))⟩, ⟨(some 7), none, (.load none (.t 6))⟩, ⟨(some 8), none, (.len true (.t 7))⟩, ⟨(some 9), none, (.bin .add (.c (.int .i64 1)) (.t 8))⟩, ⟨(some 3), none, (.mv (.t 9))⟩]) (.seq (.seq (.reg [⟨(some 10), none, (.faddr 3 (.t 1))⟩, ⟨(some 11), none, (.load none (.t 10))⟩, ⟨(some 12), none, (.len false (.t 11))⟩, ⟨(some 13), none, (.mv (.c (.int .i64 0)))⟩]) (.block 0 (.loop (.seq (.reg [⟨(some 14), none, (.bin .lss (.t 13) (.t 12))⟩]) (.seq (.cond (.t 14) .skip (.exit 0)) (.seq (.block 1 (.seq (.reg [⟨(some 15), none, (.iaddr 4 (.t 11) (.t 13))⟩, ⟨(some 16), none, (.load (some 4) (.t 15))⟩, ⟨(some 5), none, (.allc 25 [(.int .i64 0), (.int .u64 0), (.str []), .nilS])⟩, ⟨none, none, (.store 4 (.t 5) (.t 16))⟩]) (.reg [⟨(some 17), none, (.mv (.t 3))⟩, ⟨(some 18), none, (.load (some 4) (.t 5))⟩, ⟨(some 19), none, (.call 15 [(.t 18)])⟩, ⟨(some 20), none, (.bin .add (.t 17) (.t 19))⟩, ⟨(some 3), none, (.mv (.t 20))⟩]))) (.reg [⟨(some 21), none, (.bin .add (.t 13) (.c (.int .i64 1)))⟩, ⟨(some 13), none, (.mv (.t 21))⟩]))))))) (.seq (.reg [⟨(some 22), none, (.mv (.t 3))⟩, ⟨(some 2), none, (.mv (.t 22))⟩]) .ret))))
theorem value_Great.code : comp PG [] (Tryd.f15.body.getD .skip) = value_Great.c := by kernel_rfl
theorem value_Great.of {args : List AV} {H : AH} {K : AV → AH → Prop} (hl : args.length = 1) (h : wpA PG value_Great.c none (endA [(.t 2)] K) (initFr args) H) : ACalls PG 15 args H K :=
  ACalls.of_code (fl := []) mixed Tryd.func15 (c := Tryd.f15.body.getD .skip) (by kernel_rfl) (by kernel_rfl) (by rw [hl]; exact of_decide_eq_true (by kernel_rfl)) (by rw [value_Great.code]; kernel_rfl)
    (by rw [value_Great.code, show compRes PG Tryd.f15.results.toList = [(.t 2)] from by kernel_rfl]; exact h)
def broadsheetref08_Great.n : Nat := 16
noncomputable def broadsheetref08_Great.c : C := (.seq (.reg [⟨(some 1), none, (.box 25 (.t 0))⟩, ⟨(some 2), none, (.mv (.c (.int .i64 0)))⟩]) (.seq (.reg [⟨(some 5), none, (.faddr 2 (.t 1))⟩, ⟨(some 6), none, (.load none (.t 5))⟩, ⟨(some 7), none, (.len true (.t 6))⟩, ⟨(some 8), none, (.bin .add (.c (.int .i64 1)) (.t 7))⟩, ⟨(some 3), none, (.mv (.t 8))⟩]) (.seq (.seq (.reg [⟨(some 4), none, (.mv (.c (.int .i64 0)))⟩]) (.block 0 (.loop (.seq (.seq (.reg [⟨(some 9), none, (.mv (.t 4))⟩, ⟨(some 10), none, (.faddr 3 (.t 1))⟩, ⟨(some 11), none, (.load none (.t 10))⟩, ⟨(some 12), none, (.len false (.t 11))⟩, ⟨(some 13), none, (.bin .lss (.t 9) (.t 12))⟩]) (.cond (.t 13) .skip (.exit 0))) (.seq (.block 1 (.reg [⟨(some 16), none, (.mv (.t 3))⟩, ⟨(some 17), none, (.faddr 3 (.t 1))⟩, ⟨(some 18), none, (.load none (.t 17))⟩, ⟨(some 19), none, (.mv (.t 4))⟩, ⟨(some 20), none, (.iaddr 4 (.t 18) (.t 19))⟩, ⟨(some 21), none, (.load (some 4) (.t 20))⟩, ⟨(some 22), none, (.call 16 [(.t 21)])⟩, ⟨(some 23), none, (.bin .add (.t 16) (.t 22))⟩, ⟨(some 3), none, (.mv (.t 23))⟩])) (.reg [⟨(some 14), none, (.mv (.t 4))⟩, ⟨(some 15), none, (.bin .add (.t 14) (.c (.int .i64 1)))⟩, ⟨(some 4), none, (.mv (.t 15))⟩])))))) (.seq (.reg [⟨(some 24), none, (.mv (.t 3))⟩, ⟨(some 2), none, (.mv (.t 24))⟩]) .ret))))
theorem broadsheetref08_Great.code : comp PG [] (Tryd.f16.body.getD .skip) = broadsheetref08_Great.c := by kernel_rfl
theorem broadsheetref08_Great.of {args : List AV} {H : AH} {K : AV → AH → Prop} (hl : args.length = 1) (h : wpA PG broadsheetref08_Great.c none (endA [(.t 2)] K) (initFr args) H) : ACalls PG 16 args H K :=
  ACalls.of_code (fl := []) mixed Tryd.func16 (c := Tryd.f16.body.getD .skip) (by kernel_rfl) (by kernel_rfl) (by rw [hl]; exact of_decide_eq_true (by kernel_rfl)) (by rw [broadsheetref08_Great.code]; kernel_rfl)
    (by rw [broadsheetref08_Great.code, show compRes PG Tryd.f16.results.toList = [(.t 2)] from by kernel_rfl]; exact h)
def value_Text.n : Nat := 17
noncomputable def value_Text.c : C := (.seq (.reg [⟨(some 1), none, (.box 25 (.t 0))⟩, ⟨(some 2), none, (.mv (.c (.str [])))⟩]) (.seq (.block 0 (.seq (.reg [⟨(some 5), none, (.faddr 0 (.t 1))⟩, ⟨(some 6), none, (.load none (.t 5))⟩, ⟨(some 7), none, (.call 26 [(.t 6)])⟩, ⟨(some 4), none, (.mv (.t 7))⟩]) (.cond (.t 4) (.seq (.reg [⟨(some 8), none, (.faddr 0 (.t 1))⟩, ⟨(some 9), none, (.load none (.t 8))⟩, ⟨(some 10), none, (.faddr 1 (.t 1))⟩, ⟨(some 11), none, (.load none (.t 10))⟩, ⟨(some 12), none, (.call 28 [(.t 9), (.t 11)])⟩, ⟨(some 13), none, (.call 27 [(.t 12)])⟩, ⟨(some 2), none, (.mv (.t 13))⟩]) .ret) (.seq (.reg [⟨(some 15), none, (.faddr 0 (.t 1))⟩, ⟨(some 16), none, (.load none (.t 15))⟩, ⟨(some 17), none, (.bin .eql (.t 16) (.c (.int .i64 10)))⟩, ⟨(some 14), none, (.mv (.t 17))⟩]) (.cond (.t 14) (.seq (.reg [⟨(some 18), none, (.faddr 2 (.t 1))⟩, ⟨(some 19), none, (.load none (.t 18))⟩, ⟨(some 20), none, (.call 29 [(.t 19)])⟩, ⟨(some 2), none, (.mv (.t 20))⟩]) .ret) (.seq (.reg [⟨(some 22), none, (.faddr 0 (.t 1))⟩, ⟨(some 23), none, (.load none (.t 22))⟩, ⟨(some 24), none, (.bin .eql (.t 23) (.c (.int .i64 11)))⟩, ⟨(some 25), none, (.mv (.t 24))⟩, ⟨(some 26), (some (25, false)), (.faddr 0 (.t 1))⟩, ⟨(some 27), (some (25, false)), (.load none (.t 26))⟩, ⟨(some 28), (some (25, false)), (.bin .eql (.t 27) (.c (.int .i64 12)))⟩, ⟨(some 29), none, (.pick (.t 25) (.c (.bool true)) (.t 28))⟩, ⟨(some 21), none, (.mv (.t 29))⟩]) (.cond (.t 21) (.seq (.reg [⟨(some 30), none, (.faddr 3 (.t 1))⟩, ⟨(some 31), none, (.load none (.t 30))⟩, ⟨(some 32), none, (.call 31 [(.t 31)])⟩, ⟨(some 33), none, (.call 30 [(.c (.str [91])), (.c (.str [44])), (.c (.str [93])), (.t 32)])⟩, ⟨(some 2), none, (.mv (.t 33))⟩]) .ret) (.seq (.reg [⟨(some 35), none, (.faddr 0 (.t 1))⟩, ⟨(some 36), none, (.load none (.t 35))⟩, ⟨(some 37), none, (.bin .eql (.t 36) (.c (.int .i64 13)))⟩, ⟨(some 34), none, (.mv (.t 37))⟩]) (.cond (.t 34) (.seq (.reg [⟨(some 38), none, (.faddr 3 (.t 1))⟩, ⟨(some 39), none, (.load none (.t 38))⟩, ⟨(some 40), none, (.call 31 [(.t 39)])⟩, ⟨(some 41), none, (.call 30 [(.c (.str [40])), (.c (.str [44])), (.c (.str [41])), (.t 40)])⟩, ⟨(some 2), none, (.mv (.t 41))⟩]) .ret) (.seq (.reg [⟨(some 43), none, (.faddr 0 (.t 1))⟩, ⟨(some 44), none, (.load none (.t 43))⟩, ⟨(some 45), none, (.bin .eql (.t 44) (.c (.int .i64 14)))⟩, ⟨(some 42), none, (.mv (.t 45))⟩]) (.cond (.t 42) (.seq (.dreg [⟨(some 46), none, (.faddr 1 (.t 1))⟩, ⟨(some 47), none, (.load none (.t 46))⟩, ⟨(some 48), none, (.call 32 [(.t 47), (.c (.int .i64 10))])⟩, ⟨(some 49), none, (.bsliceO 9 1 1 [(.str [])] [(0, (.t 48))])⟩, ⟨(some 50), none, (.faddr 3 (.t 1))⟩, ⟨(some 51), none, (.load none (.t 50))⟩, ⟨(some 52), none, (.call 31 [(.t 51)])⟩] [⟨(some 53), none, (.append 9 false 1 16 (.t 49) (.t 52))⟩, ⟨(some 3), none, (.mv (.t 53))⟩]) (.seq (.reg [⟨(some 54), none, (.mv (.t 3))⟩, ⟨(some 55), none, (.call 30 [(.c (.str [60])), (.c (.str [58])), (.c (.str [62])), (.t 54)])⟩, ⟨(some 2), none, (.mv (.t 55))⟩]) .ret)) .skip))))))))))) (.seq (.reg [⟨(some 2), none, (.mv (.c (.str [63])))⟩]) .ret)))
theorem value_Text.code : comp PG [49] (Tryd.f17.body.getD .skip) = value_Text.c := by kernel_rfl
theorem value_Text.of {args : List AV} {H : AH} {K : AV → AH → Prop} (hl : args.length = 1) (h : wpA PG value_Text.c none (endA [(.t 2)] K) (initFr args) H) : ACalls PG 17 args H K :=
  ACalls.of_code (fl := [49]) mixed Tryd.func17 (c := Tryd.f17.body.getD .skip) (by kernel_rfl) (by kernel_rfl) (by rw [hl]; exact of_decide_eq_true (by kernel_rfl)) (by rw [value_Text.code]; kernel_rfl)
    (by rw [value_Text.code, show compRes PG Tryd.f17.results.toList = [(.t 2)] from by kernel_rfl]; exact h)
def broadsheetref08_Text.n : Nat := 18
noncomputable def broadsheetref08_Text.c : C := (.seq (.reg [⟨(some 1), none, (.box 25 (.t 0))⟩, ⟨(some 2), none, (.mv (.c (.str [])))⟩]) (.seq (.seq (.reg [⟨(some 6), none, (.faddr 0 (.t 1))⟩, ⟨(some 7), none, (.load none (.t 6))⟩, ⟨(some 8), none, (.call 33 [(.t 7)])⟩]) (.cond (.t 8) (.seq (.reg [⟨(some 9), none, (.faddr 0 (.t 1))⟩, ⟨(some 10), none, (.load none (.t 9))⟩, ⟨(some 11), none, (.faddr 1 (.t 1))⟩, ⟨(some 12), none, (.load none (.t 11))⟩, ⟨(some 13), none, (.call 34 [(.t 10), (.t 12)])⟩, ⟨(some 3), none, (.allc 52 [(.int .i64 0), (.bool false), (.int .u64 0), (.str [])])⟩, ⟨none, none, (.store 4 (.t 3) (.t 13))⟩]) (.seq (.seq (.reg [⟨(some 14), none, (.faddr 0 (.t 3))⟩, ⟨(some 15), none, (.load none (.t 14))⟩, ⟨(some 16), none, (.bin .eql (.t 15) (.c (.int .i64 3)))⟩]) (.cond (.t 16) (.seq (.seq (.reg [⟨(some 17), none, (.faddr 2 (.t 3))⟩, ⟨(some 18), none, (.load none (.t 17))⟩, ⟨(some 19), none, (.bin .eql (.t 18) (.c (.int .u64 1)))⟩]) (.cond (.t 19) (.seq (.reg [⟨(some 2), none, (.mv (.c (.str [116, 114, 117, 101])))⟩]) .ret) .skip)) (.seq (.reg [⟨(some 2), none, (.mv (.c (.str [102, 97, 108, 115, 101])))⟩]) .ret)) .skip)) (.seq (.seq (.reg [⟨(some 20), none, (.faddr 1 (.t 3))⟩, ⟨(some 21), none, (.load none (.t 20))⟩]) (.cond (.t 21) (.seq (.reg [⟨(some 22), none, (.faddr 2 (.t 3))⟩, ⟨(some 23), none, (.load none (.t 22))⟩, ⟨(some 24), none, (.call 35 [(.t 23)])⟩, ⟨(some 25), none, (.bin .add (.c (.str [45])) (.t 24))⟩, ⟨(some 2), none, (.mv (.t 25))⟩]) .ret) .skip)) (.seq (.reg [⟨(some 26), none, (.faddr 2 (.t 3))⟩, ⟨(some 27), none, (.load none (.t 26))⟩, ⟨(some 28), none, (.call 35 [(.t 27)])⟩, ⟨(some 2), none, (.mv (.t 28))⟩]) .ret)))) .skip)) (.seq (.reg [⟨(some 4), none, (.mv (.c (.str [])))⟩]) (.seq (.seq (.reg [⟨(some 5), none, (.mv (.c (.int .i64 0)))⟩]) (.block 0 (.loop (.seq (.seq (.reg [⟨(some 29), none, (.mv (.t 5))⟩, ⟨(some 30), none, (.faddr 3 (.t 1))⟩, ⟨(some 31), none, (.load none (.t 30))⟩, ⟨(some 32), none, (.len false (.t 31))⟩, ⟨(some 33), none, (.bin .lss (.t 29) (.t 32))⟩]) (.cond (.t 33) .skip (.exit 0))) (.seq (.block 1 (.seq (.seq (.reg [⟨(some 36), none, (.faddr 0 (.t 1))⟩, ⟨(some 37), none, (.load none (.t 36))⟩, ⟨(some 38), none, (.bin .eql (.t 37) (.c (.int .i64 14)))⟩]) (.cond (.t 38) (.reg [⟨(some 39), none, (.mv (.t 4))⟩, ⟨(some 40), none, (.bin .add (.t 39) (.c (.str [58])))⟩, ⟨(some 4), none, (.mv (.t 40))⟩]) (.seq (.reg [⟨(some 41), none, (.mv (.t 5))⟩, ⟨(some 42), none, (.bin .gtr (.t 41) (.c (.int .i64 0)))⟩]) (.cond (.t 42) (.reg [⟨(some 43), none, (.mv (.t 4))⟩, ⟨(some 44), none, (.bin .add (.t 43) (.c (.str [44])))⟩, ⟨(some 4), none, (.mv (.t 44))⟩]) .skip)))) (.reg [⟨(some 45), none, (.mv (.t 4))⟩, ⟨(some 46), none, (.faddr 3 (.t 1))⟩, ⟨(some 47), none, (.load none (.t 46))⟩, ⟨(some 48), none, (.mv (.t 5))⟩, ⟨(some 49), none, (.iaddr 4 (.t 47) (.t 48))⟩, ⟨(some 50), none, (.load (some 4) (.t 49))⟩, ⟨(some 51), none, (.call 18 [(.t 50)])⟩, ⟨(some 52), none, (.bin .add (.t 45) (.t 51))⟩, ⟨(some 4), none, (.mv (.t 52))⟩]))) (.reg [⟨(some 34), none, (.mv (.t 5))⟩, ⟨(some 35), none, (.bin .add (.t 34) (.c (.int .i64 1)))⟩, ⟨(some 5), none, (.mv (.t 35))⟩])))))) (.seq (.seq (.reg [⟨(some 53), none, (.faddr 0 (.t 1))⟩, ⟨(some 54), none, (.load none (.t 53))⟩]) (.block 2 (.seq (.reg [⟨(some 56), none, (.bin .eql (.t 54) (.c (.int .i64 10)))⟩, ⟨(some 55), none, (.mv (.t 56))⟩]) (.cond (.t 55) (.seq (.reg [⟨(some 57), none, (.faddr 2 (.t 1))⟩, ⟨(some 58), none, (.load none (.t 57))⟩, ⟨(some 59), none, (.call 36 [(.t 58)])⟩, ⟨(some 2), none, (.mv (.t 59))⟩]) .ret) (.seq (.seq (.reg [⟨(some 61), none, (.bin .eql (.t 54) (.c (.int .i64 11)))⟩, ⟨(some 60), none, (.mv (.t 61))⟩]) (.cond (.t 60) .skip (.reg [⟨(some 62), none, (.bin .eql (.t 54) (.c (.int .i64 12)))⟩, ⟨(some 60), none, (.mv (.t 62))⟩]))) (.cond (.t 60) (.seq (.reg [⟨(some 63), none, (.mv (.t 4))⟩, ⟨(some 64), none, (.bin .add (.c (.str [91])) (.t 63))⟩, ⟨(some 65), none, (.bin .add (.t 64) (.c (.str [93])))⟩, ⟨(some 2), none, (.mv (.t 65))⟩]) .ret) (.seq (.reg [⟨(some 67), none, (.bin .eql (.t 54) (.c (.int .i64 13)))⟩, ⟨(some 66), none, (.mv (.t 67))⟩]) (.cond (.t 66) (.seq (.reg [⟨(some 68), none, (.mv (.t 4))⟩, ⟨(some 69), none, (.bin .add (.c (.str [40])) (.t 68))⟩, ⟨(some 70), none, (.bin .add (.t 69) (.c (.str [41])))⟩, ⟨(some 2), none, (.mv (.t 70))⟩]) .ret) (.seq (.reg [⟨(some 72), none, (.bin .eql (.t 54) (.c (.int .i64 14)))⟩, ⟨(some 71), none, (.mv (.t 72))⟩]) (.cond (.t 71) (.seq (.reg [⟨(some 73), none, (.faddr 1 (.t 1))⟩, ⟨(some 74), none, (.load none (.t 73))⟩, ⟨(some 75), none, (.call 35 [(.t 74)])⟩, ⟨(some 76), none, (.bin .add (.c (.str [60])) (.t 75))⟩, ⟨(some 77), none, (.mv (.t 4))⟩, ⟨(some 78), none, (.bin .add (.t 76) (.t 77))⟩, ⟨(some 79), none, (.bin .add (.t 78) (.c (.str [62])))⟩, ⟨(some 2), none, (.mv (.t 79))⟩]) .ret) .skip)))))))))) (.seq (.reg [⟨(some 2), none, (.mv (.c (.str [63])))⟩]) .ret))))))
theorem broadsheetref08_Text.code : comp PG [] (Tryd.f18.body.getD .skip) = broadsheetref08_Text.c := by kernel_rfl
theorem broadsheetref08_Text.of {args : List AV} {H : AH} {K : AV → AH → Prop} (hl : args.length = 1) (h : wpA PG broadsheetref08_Text.c none (endA [(.t 2)] K) (initFr args) H) : ACalls PG 18 args H K :=
  ACalls.of_code (fl := []) mixed Tryd.func18 (c := Tryd.f18.body.getD .skip) (by kernel_rfl) (by kernel_rfl) (by rw [hl]; exact of_decide_eq_true (by kernel_rfl)) (by rw [broadsheetref08_Text.code]; kernel_rfl)
    (by rw [broadsheetref08_Text.code, show compRes PG Tryd.f18.results.toList = [(.t 2)] from by kernel_rfl]; exact h)
def value_number.n : Nat := 27
noncomputable def value_number.c : C := (.seq (.reg [⟨(some 1), none, (.box 52 (.t 0))⟩, ⟨(some 2), none, (.mv (.c (.str [])))⟩]) (.seq (.reg [⟨(some 4), none, (.faddr 2 (.t 1))⟩, ⟨(some 5), none, (.load none (.t 4))⟩, ⟨(some 6), none, (.call 32 [(.t 5), (.c (.int .i64 10))])⟩, ⟨(some 3), none, (.mv (.t 6))⟩]) (.seq (.block 0 (.seq (.reg [⟨(some 8), none, (.faddr 0 (.t 1))⟩, ⟨(some 9), none, (.load none (.t 8))⟩, ⟨(some 10), none, (.bin .eql (.t 9) (.c (.int .i64 3)))⟩, ⟨(some 7), none, (.mv (.t 10))⟩]) (.cond (.t 7) (.seq (.reg [⟨(some 11), none, (.faddr 2 (.t 1))⟩, ⟨(some 12), none, (.load none (.t 11))⟩, ⟨(some 13), none, (.bin .eql (.t 12) (.c (.int .u64 1)))⟩, ⟨(some 14), none, (.call 49 [(.t 13)])⟩, ⟨(some 2), none, (.mv (.t 14))⟩]) .ret) (.seq (.reg [⟨(some 16), none, (.faddr 1 (.t 1))⟩, ⟨(some 17), none, (.load none (.t 16))⟩, ⟨(some 15), none, (.mv (.t 17))⟩]) (.cond (.t 15) (.seq (.reg [⟨(some 18), none, (.mv (.t 3))⟩, ⟨(some 19), none, (.bin .add (.c (.str [45])) (.t 18))⟩, ⟨(some 2), none, (.mv (.t 19))⟩]) .ret) .skip))))) (.seq (.reg [⟨(some 20), none, (.mv (.t 3))⟩, ⟨(some 2), none, (.mv (.t 20))⟩]) .ret))))
theorem value_number.code : comp PG [] (Tryd.f27.body.getD .skip) = value_number.c := by kernel_rfl
theorem value_number.of {args : List AV} {H : AH} {K : AV → AH → Prop} (hl : args.length = 1) (h : wpA PG value_number.c none (endA [(.t 2)] K) (initFr args) H) : ACalls PG 27 args H K :=
  ACalls.of_code (fl := []) mixed Tryd.func27 (c := Tryd.f27.body.getD .skip) (by kernel_rfl) (by kernel_rfl) (by rw [hl]; exact of_decide_eq_true (by kernel_rfl)) (by rw [value_number.code]; kernel_rfl)
    (by rw [value_number.code, show compRes PG Tryd.f27.results.toList = [(.t 2)] from by kernel_rfl]; exact h)
def value_quoted.n : Nat := 29
noncomputable def value_quoted.c : C := (.seq (.reg [⟨(some 2), none, (.mv (.c (.str [])))⟩]) (.seq (.reg [⟨(some 3), none, (.allc 71 [.nilP, .nilS])⟩]) (.seq (.seq (.reg [⟨(some 6), none, (.mv (.t 0))⟩, ⟨(some 7), none, (.len true (.t 6))⟩, ⟨(some 8), none, (.mv (.c (.int .i64 0)))⟩]) (.block 0 (.loop (.seq (.reg [⟨(some 9), none, (.bin .lss (.t 8) (.t 7))⟩]) (.seq (.cond (.t 9) .skip (.exit 0)) (.seq (.block 1 (.seq (.reg [⟨(some 10), none, (.mv (.t 8))⟩, ⟨(some 4), none, (.mv (.t 10))⟩]) (.seq (.reg [⟨(some 11), none, (.mv (.t 0))⟩, ⟨(some 12), none, (.mv (.t 4))⟩, ⟨(some 13), none, (.idx (.t 11) (.t 12))⟩, ⟨(some 5), none, (.mv (.t 13))⟩]) (.seq (.seq (.reg [⟨(some 14), none, (.mv (.t 5))⟩, ⟨(some 15), none, (.bin .lss (.t 14) (.c (.int .u8 32)))⟩, ⟨(some 16), none, (.mv (.t 15))⟩, ⟨(some 17), (some (16, false)), (.mv (.t 5))⟩, ⟨(some 18), (some (16, false)), (.bin .gtr (.t 17) (.c (.int .u8 126)))⟩, ⟨(some 19), none, (.pick (.t 16) (.c (.bool true)) (.t 18))⟩, ⟨(some 20), none, (.mv (.t 19))⟩, ⟨(some 21), (some (20, false)), (.mv (.t 5))⟩, ⟨(some 22), (some (20, false)), (.bin .eql (.t 21) (.c (.int .u8 39)))⟩, ⟨(some 23), none, (.pick (.t 20) (.c (.bool true)) (.t 22))⟩, ⟨(some 24), none, (.mv (.t 23))⟩, ⟨(some 25), (some (24, false)), (.mv (.t 5))⟩, ⟨(some 26), (some (24, false)), (.bin .eql (.t 25) (.c (.int .u8 92)))⟩, ⟨(some 27), none, (.pick (.t 24) (.c (.bool true)) (.t 26))⟩]) (.cond (.t 27) (.seq (.dreg [⟨(some 28), none, (.mv (.t 5))⟩, ⟨(some 29), none, (.bin .shr (.t 28) (.c (.int .u64 4)))⟩, ⟨(some 30), none, (.mv (.t 5))⟩, ⟨(some 31), none, (.bin .shr (.t 30) (.c (.int .u64 4)))⟩, ⟨(some 32), none, (.bin .add (.t 31) (.c (.int .u8 1)))⟩, ⟨(some 33), none, (.slice none (.c (.str [48, 49, 50, 51, 52, 53, 54, 55, 56, 57, 97, 98, 99, 100, 101, 102])) (some (.t 29)) (some (.t 32)))⟩, ⟨(some 34), none, (.bin .add (.c (.str [92])) (.t 33))⟩, ⟨(some 35), none, (.mv (.t 5))⟩, ⟨(some 36), none, (.bin .and (.t 35) (.c (.int .u8 15)))⟩, ⟨(some 37), none, (.mv (.t 5))⟩, ⟨(some 38), none, (.bin .and (.t 37) (.c (.int .u8 15)))⟩, ⟨(some 39), none, (.bin .add (.t 38) (.c (.int .u8 1)))⟩, ⟨(some 40), none, (.slice none (.c (.str [48, 49, 50, 51, 52, 53, 54, 55, 56, 57, 97, 98, 99, 100, 101, 102])) (some (.t 36)) (some (.t 39)))⟩] [⟨(some 41), none, (.bin .add (.t 34) (.t 40))⟩, ⟨(some 42), none, (.call 40 [(.t 3), (.t 41)])⟩]) (.exit 1)) .skip)) (.reg [⟨(some 43), none, (.mv (.t 5))⟩, ⟨(some 44), none, (.call 42 [(.t 3), (.t 43)])⟩]))))) (.reg [⟨(some 45), none, (.bin .add (.t 8) (.c (.int .i64 1)))⟩, ⟨(some 8), none, (.mv (.t 45))⟩]))))))) (.seq (.reg [⟨(some 46), none, (.call 43 [(.t 3)])⟩, ⟨(some 47), none, (.bin .add (.c (.str [39])) (.t 46))⟩, ⟨(some 48), none, (.bin .add (.t 47) (.c (.str [39])))⟩, ⟨(some 2), none, (.mv (.t 48))⟩]) .ret))))
theorem value_quoted.code : comp PG [] (Tryd.f29.body.getD .skip) = value_quoted.c := by kernel_rfl
theorem value_quoted.of {args : List AV} {H : AH} {K : AV → AH → Prop} (hl : args.length = 1) (h : wpA PG value_quoted.c none (endA [(.t 2)] K) (initFr args) H) : ACalls PG 29 args H K :=
  ACalls.of_code (fl := []) mixed Tryd.func29 (c := Tryd.f29.body.getD .skip) (by kernel_rfl) (by kernel_rfl) (by rw [hl]; exact of_decide_eq_true (by kernel_rfl)) (by rw [value_quoted.code]; kernel_rfl)
    (by rw [value_quoted.code, show compRes PG Tryd.f29.results.toList = [(.t 2)] from by kernel_rfl]; exact h)
def value_between.n : Nat := 30
noncomputable def value_between.c : C := (.seq (.reg [⟨(some 8), none, (.mv (.c (.str [])))⟩]) (.seq (.reg [⟨(some 9), none, (.mv (.t 0))⟩, ⟨(some 10), none, (.mv (.t 3))⟩, ⟨(some 11), none, (.mv (.t 1))⟩, ⟨(some 12), none, (.call 52 [(.t 10), (.t 11)])⟩, ⟨(some 13), none, (.bin .add (.t 9) (.t 12))⟩, ⟨(some 14), none, (.mv (.t 2))⟩, ⟨(some 15), none, (.bin .add (.t 13) (.t 14))⟩, ⟨(some 8), none, (.mv (.t 15))⟩]) .ret))
theorem value_between.code : comp PG [] (Tryd.f30.body.getD .skip) = value_between.c := by kernel_rfl
theorem value_between.of {args : List AV} {H : AH} {K : AV → AH → Prop} (hl : args.length = 4) (h : wpA PG value_between.c none (endA [(.t 8)] K) (initFr args) H) : ACalls PG 30 args H K :=
  ACalls.of_code (fl := []) mixed Tryd.func30 (c := Tryd.f30.body.getD .skip) (by kernel_rfl) (by kernel_rfl) (by rw [hl]; exact of_decide_eq_true (by kernel_rfl)) (by rw [value_between.code]; kernel_rfl)
    (by rw [value_between.code, show compRes PG Tryd.f30.results.toList = [(.t 8)] from by kernel_rfl]; exact h)
def value_texts.n : Nat := 31
noncomputable def value_texts.c : C := (.seq (.reg [⟨(some 2), none, (.mv (.c .nilS))⟩]) (.seq (.reg [⟨(some 3), none, (.mv (.c .nilS))⟩]) (.seq (.seq (.reg [⟨(some 6), none, (.mv (.t 0))⟩, ⟨(some 7), none, (.len false (.t 6))⟩, ⟨(some 8), none, (.mv (.c (.int .i64 0)))⟩]) (.block 0 (.loop (.seq (.reg [⟨(some 9), none, (.bin .lss (.t 8) (.t 7))⟩]) (.seq (.cond (.t 9) .skip (.exit 0)) (.seq (.block 1 (.seq (.reg [⟨(some 10), none, (.iaddr 4 (.t 6) (.t 8))⟩, ⟨(some 11), none, (.load (some 4) (.t 10))⟩, ⟨(some 5), none, (.allc 25 [(.int .i64 0), (.int .u64 0), (.str []), .nilS])⟩, ⟨none, none, (.store 4 (.t 5) (.t 11))⟩]) (.reg [⟨(some 12), none, (.mv (.t 3))⟩, ⟨(some 13), none, (.load (some 4) (.t 5))⟩, ⟨(some 14), none, (.call 17 [(.t 13)])⟩, ⟨(some 15), none, (.bslice 9 1 1 [(.str [])] [(0, (.t 14))])⟩, ⟨(some 16), none, (.append 9 false 1 16 (.t 12) (.t 15))⟩, ⟨(some 3), none, (.mv (.t 16))⟩]))) (.reg [⟨(some 17), none, (.bin .add (.t 8) (.c (.int .i64 1)))⟩, ⟨(some 8), none, (.mv (.t 17))⟩]))))))) (.seq (.reg [⟨(some 18), none, (.mv (.t 3))⟩, ⟨(some 2), none, (.mv (.t 18))⟩]) .ret))))
theorem value_texts.code : comp PG [] (Tryd.f31.body.getD .skip) = value_texts.c := by kernel_rfl
theorem value_texts.of {args : List AV} {H : AH} {K : AV → AH → Prop} (hl : args.length = 1) (h : wpA PG value_texts.c none (endA [(.t 2)] K) (initFr args) H) : ACalls PG 31 args H K :=
  ACalls.of_code (fl := []) mixed Tryd.func31 (c := Tryd.f31.body.getD .skip) (by kernel_rfl) (by kernel_rfl) (by rw [hl]; exact of_decide_eq_true (by kernel_rfl)) (by rw [value_texts.code]; kernel_rfl)
    (by rw [value_texts.code, show compRes PG Tryd.f31.results.toList = [(.t 2)] from by kernel_rfl]; exact h)
def broadsheetref08_Digits.n : Nat := 35
noncomputable def broadsheetref08_Digits.c : C := (.seq (.reg [⟨(some 2), none, (.mv (.c (.str [])))⟩]) (.seq (.reg [⟨(some 3), none, (.mv (.c (.str [])))⟩]) (.block 0 (.loop (.block 1 (.seq (.reg [⟨(some 4), none, (.mv (.t 0))⟩, ⟨(some 5), none, (.bin .rem (.t 4) (.c (.int .u64 10)))⟩, ⟨(some 6), none, (.conv .i64 (.t 5))⟩, ⟨(some 7), none, (.bin .add (.c (.int .i64 48)) (.t 6))⟩, ⟨(some 8), none, (.call 58 [(.t 7)])⟩, ⟨(some 9), none, (.mv (.t 3))⟩, ⟨(some 10), none, (.bin .add (.t 8) (.t 9))⟩, ⟨(some 3), none, (.mv (.t 10))⟩]) (.seq (.reg [⟨(some 11), none, (.mv (.t 0))⟩, ⟨(some 12), none, (.bin .quo (.t 11) (.c (.int .u64 10)))⟩, ⟨(some 0), none, (.mv (.t 12))⟩]) (.seq (.reg [⟨(some 13), none, (.mv (.t 0))⟩, ⟨(some 14), none, (.bin .eql (.t 13) (.c (.int .u64 0)))⟩]) (.cond (.t 14) (.seq (.reg [⟨(some 15), none, (.mv (.t 3))⟩, ⟨(some 2), none, (.mv (.t 15))⟩]) .ret) .skip)))))))))
theorem broadsheetref08_Digits.code : comp PG [] (Tryd.f35.body.getD .skip) = broadsheetref08_Digits.c := by kernel_rfl
theorem broadsheetref08_Digits.of {args : List AV} {H : AH} {K : AV → AH → Prop} (hl : args.length = 1) (h : wpA PG broadsheetref08_Digits.c none (endA [(.t 2)] K) (initFr args) H) : ACalls PG 35 args H K :=
  ACalls.of_code (fl := []) mixed Tryd.func35 (c := Tryd.f35.body.getD .skip) (by kernel_rfl) (by kernel_rfl) (by rw [hl]; exact of_decide_eq_true (by kernel_rfl)) (by rw [broadsheetref08_Digits.code]; kernel_rfl)
    (by rw [broadsheetref08_Digits.code, show compRes PG Tryd.f35.results.toList = [(.t 2)] from by kernel_rfl]; exact h)
def broadsheetref08_quoted.n : Nat := 36
noncomputable def broadsheetref08_quoted.c : C := (.seq (.reg [⟨(some 2), none, (.mv (.c (.str [])))⟩]) (.seq (.reg [⟨(some 3), none, (.mv (.c (.str [39])))⟩]) (.seq (.seq (.reg [⟨(some 4), none, (.mv (.c (.int .i64 0)))⟩]) (.block 0 (.loop (.seq (.seq (.reg [⟨(some 5), none, (.mv (.t 4))⟩, ⟨(some 6), none, (.mv (.t 0))⟩, ⟨(some 7), none, (.len true (.t 6))⟩, ⟨(some 8), none, (.bin .lss (.t 5) (.t 7))⟩]) (.cond (.t 8) .skip (.exit 0))) (.seq (.block 1 (.seq (.reg [⟨(some 11), none, (.mv (.t 0))⟩, ⟨(some 12), none, (.mv (.t 4))⟩, ⟨(some 13), none, (.idx (.t 11) (.t 12))⟩, ⟨(some 14), none, (.bin .geq (.t 13) (.c (.int .u8 32)))⟩, ⟨(some 15), none, (.mv (.t 14))⟩, ⟨(some 16), (some (15, true)), (.mv (.t 0))⟩, ⟨(some 17), (some (15, true)), (.mv (.t 4))⟩, ⟨(some 18), (some (15, true)), (.idx (.t 16) (.t 17))⟩, ⟨(some 19), (some (15, true)), (.bin .leq (.t 18) (.c (.int .u8 126)))⟩, ⟨(some 20), none, (.pick (.t 15) (.t 19) (.c (.bool false)))⟩, ⟨(some 21), none, (.mv (.t 20))⟩, ⟨(some 22), (some (21, true)), (.mv (.t 0))⟩, ⟨(some 23), (some (21, true)), (.mv (.t 4))⟩, ⟨(some 24), (some (21, true)), (.idx (.t 22) (.t 23))⟩, ⟨(some 25), (some (21, true)), (.bin .neq (.t 24) (.c (.int .u8 39)))⟩, ⟨(some 26), none, (.pick (.t 21) (.t 25) (.c (.bool false)))⟩, ⟨(some 27), none, (.mv (.t 26))⟩, ⟨(some 28), (some (27, true)), (.mv (.t 0))⟩, ⟨(some 29), (some (27, true)), (.mv (.t 4))⟩, ⟨(some 30), (some (27, true)), (.idx (.t 28) (.t 29))⟩, ⟨(some 31), (some (27, true)), (.bin .neq (.t 30) (.c (.int .u8 92)))⟩, ⟨(some 32), none, (.pick (.t 27) (.t 31) (.c (.bool false)))⟩]) (.cond (.t 32) (.reg [⟨(some 33), none, (.mv (.t 3))⟩, ⟨(some 34), none, (.mv (.t 0))⟩, ⟨(some 35), none, (.mv (.t 4))⟩, ⟨(some 36), none, (.mv (.t 4))⟩, ⟨(some 37), none, (.bin .add (.t 36) (.c (.int .i64 1)))⟩, ⟨(some 38), none, (.slice none (.t 34) (some (.t 35)) (some (.t 37)))⟩, ⟨(some 39), none, (.bin .add (.t 33) (.t 38))⟩, ⟨(some 3), none, (.mv (.t 39))⟩]) (.dreg [⟨(some 40), none, (.mv (.t 3))⟩, ⟨(some 41), none, (.call 58 [(.c (.int .i64 92))])⟩, ⟨(some 42), none, (.mv (.t 0))⟩, ⟨(some 43), none, (.mv (.t 4))⟩, ⟨(some 44), none, (.idx (.t 42) (.t 43))⟩, ⟨(some 45), none, (.call 59 [(.t 44)])⟩, ⟨(some 46), none, (.bin .add (.t 41) (.t 45))⟩] [⟨(some 47), none, (.bin .add (.t 40) (.t 46))⟩, ⟨(some 3), none, (.mv (.t 47))⟩])))) (.reg [⟨(some 9), none, (.mv (.t 4))⟩, ⟨(some 10), none, (.bin .add (.t 9) (.c (.int .i64 1)))⟩, ⟨(some 4), none, (.mv (.t 10))⟩])))))) (.seq (.reg [⟨(some 48), none, (.mv (.t 3))⟩, ⟨(some 49), none, (.bin .add (.t 48) (.c (.str [39])))⟩, ⟨(some 2), none, (.mv (.t 49))⟩]) .ret))))
theorem broadsheetref08_quoted.code : comp PG [] (Tryd.f36.body.getD .skip) = broadsheetref08_quoted.c := by kernel_rfl
theorem broadsheetref08_quoted.of {args : List AV} {H : AH} {K : AV → AH → Prop} (hl : args.length = 1) (h : wpA PG broadsheetref08_quoted.c none (endA [(.t 2)] K) (initFr args) H) : ACalls PG 36 args H K :=
  ACalls.of_code (fl := []) mixed Tryd.func36 (c := Tryd.f36.body.getD .skip) (by kernel_rfl) (by kernel_rfl) (by rw [hl]; exact of_decide_eq_true (by kernel_rfl)) (by rw [broadsheetref08_quoted.code]; kernel_rfl)
    (by rw [broadsheetref08_quoted.code, show compRes PG Tryd.f36.results.toList = [(.t 2)] from by kernel_rfl]; exact h)
def broadsheetref08_Hex.n : Nat := 59
noncomputable def broadsheetref08_Hex.c : C := (.seq (.reg [⟨(some 2), none, (.mv (.c (.str [])))⟩]) (.seq (.reg [⟨(some 3), none, (.mv (.t 0))⟩, ⟨(some 4), none, (.conv .i64 (.t 3))⟩, ⟨(some 5), none, (.bin .quo (.t 4) (.c (.int .i64 16)))⟩, ⟨(some 6), none, (.call 94 [(.t 5)])⟩, ⟨(some 7), none, (.mv (.t 0))⟩, ⟨(some 8), none, (.conv .i64 (.t 7))⟩, ⟨(some 9), none, (.bin .rem (.t 8) (.c (.int .i64 16)))⟩, ⟨(some 10), none, (.call 94 [(.t 9)])⟩, ⟨(some 11), none, (.bin .add (.t 6) (.t 10))⟩, ⟨(some 2), none, (.mv (.t 11))⟩]) .ret))
theorem broadsheetref08_Hex.code : comp PG [] (Tryd.f59.body.getD .skip) = broadsheetref08_Hex.c := by kernel_rfl
theorem broadsheetref08_Hex.of {args : List AV} {H : AH} {K : AV → AH → Prop} (hl : args.length = 1) (h : wpA PG broadsheetref08_Hex.c none (endA [(.t 2)] K) (initFr args) H) : ACalls PG 59 args H K :=
  ACalls.of_code (fl := []) mixed Tryd.func59 (c := Tryd.f59.body.getD .skip) (by kernel_rfl) (by kernel_rfl) (by rw [hl]; exact of_decide_eq_true (by kernel_rfl)) (by rw [broadsheetref08_Hex.code]; kernel_rfl)
    (by rw [broadsheetref08_Hex.code, show compRes PG Tryd.f59.results.toList = [(.t 2)] from by kernel_rfl]; exact h)
def broadsheetref08_figure.n : Nat := 94
noncomputable def broadsheetref08_figure.c : C := (.seq (.reg [⟨(some 2), none, (.mv (.c (.str [])))⟩]) (.seq (.seq (.reg [⟨(some 3), none, (.mv (.t 0))⟩, ⟨(some 4), none, (.bin .lss (.t 3) (.c (.int .i64 10)))⟩]) (.cond (.t 4) (.seq (.reg [⟨(some 5), none, (.mv (.t 0))⟩, ⟨(some 6), none, (.bin .add (.c (.int .i64 48)) (.t 5))⟩, ⟨(some 7), none, (.call 58 [(.t 6)])⟩, ⟨(some 2), none, (.mv (.t 7))⟩]) .ret) .skip)) (.seq (.reg [⟨(some 8), none, (.mv (.t 0))⟩, ⟨(some 9), none, (.bin .add (.c (.int .i64 97)) (.t 8))⟩, ⟨(some 10), none, (.bin .sub (.t 9) (.c (.int .i64 10)))⟩, ⟨(some 11), none, (.call 58 [(.t 10)])⟩, ⟨(some 2), none, (.mv (.t 11))⟩]) .ret)))
theorem broadsheetref08_figure.code : comp PG [] (Tryd.f94.body.getD .skip) = broadsheetref08_figure.c := by kernel_rfl
theorem broadsheetref08_figure.of {args : List AV} {H : AH} {K : AV → AH → Prop} (hl : args.length = 1) (h : wpA PG broadsheetref08_figure.c none (endA [(.t 2)] K) (initFr args) H) : ACalls PG 94 args H K :=
  ACalls.of_code (fl := []) mixed Tryd.func94 (c := Tryd.f94.body.getD .skip) (by kernel_rfl) (by kernel_rfl) (by rw [hl]; exact of_decide_eq_true (by kernel_rfl)) (by rw [broadsheetref08_figure.code]; kernel_rfl)
    (by rw [broadsheetref08_figure.code, show compRes PG Tryd.f94.results.toList = [(.t 2)] from by kernel_rfl]; exact h)
end Go.Proofs.YtodiahhfpcdejaaDoor

/- Names, walked. -/
namespace Go.Proofs.YtodiahhfpcdejaaDoor
set_option autoImplicit false
set_option linter.unusedSimpArgs false
set_option linter.unusedVariables false
--HSET
attribute [local irreducible] callA callP ACalls
abbrev u8A (c : UInt8) : AV := .int .u8 (c.toNat : Nat)
theorem u8lit (c : UInt8) (n : Nat) (hn : n < 256) : ((c.toNat : Nat) : Int) = (n : Int) ↔ c = UInt8.ofNat n := by
  rw [Int.ofNat_inj]
  constructor
  · intro h; apply UInt8.toNat.inj; rw [h, UInt8.toNat_ofNat']; omega
  · intro h; rw [h, UInt8.toNat_ofNat']; omega
theorem dig_iff (c : UInt8) : dig c = true ↔ 48 ≤ c.toNat ∧ c.toNat ≤ 57 := by simp [dig]
theorem ltr_iff (c : UInt8) : ltr c = true ↔ (97 ≤ c.toNat ∧ c.toNat ≤ 122) ∨ (65 ≤ c.toNat ∧ c.toNat ≤ 90) := by simp [ltr]
theorem nat_eq (c : UInt8) (n : Nat) (hn : n < 256) : c = UInt8.ofNat n ↔ c.toNat = n := by
  constructor
  · intro h; rw [h, UInt8.toNat_ofNat']; omega
  · intro h; apply UInt8.toNat.inj; rw [h, UInt8.toNat_ofNat']; omega
theorem nam_iff (c : UInt8) : nam c = true ↔ (48 ≤ c.toNat ∧ c.toNat ≤ 57) ∨ c.toNat = 95 ∨ (97 ≤ c.toNat ∧ c.toNat ≤ 122) ∨ (65 ≤ c.toNat ∧ c.toNat ≤ 90) := by
  simp only [nam, Bool.or_eq_true, dig_iff, ltr_iff, beq_iff_eq]
  rw [show (95 : UInt8) = UInt8.ofNat 95 from rfl, nat_eq c 95 (by decide)]
  omega
theorem blnk_iff (c : UInt8) : blnk c = true ↔ c.toNat = 32 ∨ c.toNat = 9 ∨ c.toNat = 10 ∨ c.toNat = 13 := by
  simp only [blnk, Bool.or_eq_true, beq_iff_eq]
  rw [show (32 : UInt8) = UInt8.ofNat 32 from rfl, show (9 : UInt8) = UInt8.ofNat 9 from rfl, show (10 : UInt8) = UInt8.ofNat 10 from rfl, show (13 : UInt8) = UInt8.ofNat 13 from rfl, nat_eq c 32 (by decide), nat_eq c 9 (by decide), nat_eq c 10 (by decide), nat_eq c 13 (by decide)]
  omega
/-- A Bool by what it says. -/
theorem bool_iff {b : Bool} {p : Prop} [Decidable p] (h : b = true ↔ p) : b = decide p := by
  cases b with
  | true => rw [decide_eq_true (h.1 rfl)]
  | false => rw [decide_eq_false (fun q => by have := h.2 q; cases this)]

theorem name_may_spec (c : UInt8) (first : Bool) (H : AH) : ACalls PG name_may.n [u8A c, .bool first] H fun r H' => r = .bool (if first then ltr c else nam c) ∧ H' = H := by
  refine name_may.of rfl (wpF_start ?_)
  cases first with
  | true =>
    rw [show (if true then ltr c else nam c) = ltr c from rfl, bool_iff (ltr_iff c)]
    (repeat' (first | (refine au ?_; first | refine bsplit_dec (fun _ => ?_) (fun _ => ?_) | refine bsplit_intro (fun _ => ?_) (fun _ => ?_)) | exact au0 | fail)); (all_goals try (first | refine au ?_ | fail))
    all_goals (conv => whnf)
    all_goals exact ⟨congrArg AV.bool (by first | exact (decide_eq_true (by omega)).symm | exact (decide_eq_false (by omega)).symm | exact decide_eq_decide.2 (by omega)), rfl⟩
  | false =>
    rw [show (if false then ltr c else nam c) = nam c from rfl, bool_iff (nam_iff c)]
    (repeat' (first | (refine au ?_; first | refine bsplit_dec (fun _ => ?_) (fun _ => ?_) | refine bsplit_intro (fun _ => ?_) (fun _ => ?_)) | exact au0 | fail)); (all_goals try (first | refine au ?_ | fail))
    all_goals (conv => whnf)
    all_goals exact ⟨congrArg AV.bool (by first | exact (decide_eq_true (by omega)).symm | exact (decide_eq_false (by omega)).symm | exact decide_eq_decide.2 (by omega)), rfl⟩

theorem name_Lead_spec (s : List UInt8) (hs : s.length ≤ 140737488351232) (H : AH) : ACalls PG name_Lead.n [.str s] H fun r H' => r = .int .i64 (nl s : Nat) ∧ H' = H := by
  refine name_Lead.of rfl (wpF_start ?_)
  have hnl := nl_le s
  (first | refine ah ?_ | exact ah0 | fail)
  refine ⟨fun n L H' => ∃ i : Nat, n = s.length - i ∧ i ≤ nl s ∧ L = [(0, some (.str s)), (3, some (.int .i64 i))] ∧ H' = H, ⟨_, H, ?_, Sub.refl _, _, 0, rfl, Nat.zero_le _, rfl, rfl⟩, ?_⟩
  · exact (by repeat (first | exact trivial | refine And.intro (Or.inl rfl) ?_ | refine And.intro (Or.inr (Exists.intro _ (And.intro rfl (Fz.refl _)))) ?_ | refine And.intro (Or.inr (Exists.intro _ (And.intro rfl (fz_eq (congrArg (AV.int _) (by omega)))))) ?_ | refine And.intro (Or.inr (Exists.intro _ (And.intro rfl (fz_eq (congrArg (AV.own _ _ _) (by (try dsimp only); (try simp only [List.length_append, List.length_map, List.length_cons, List.length_nil, List.length_take, List.length_set, List.length_replicate]); (try dsimp only); first | done | omega)))))) ?_))
  · rintro n L H' ⟨i, rfl, hi, rfl, rfl⟩
    (first | refine ah ?_ | exact ah0 | fail)
    refine bsplit_dec (fun h1 => ?_) (fun h1 => ?_)
    · have hst := nl_step hi (by omega)
      (first | refine ah ?_ | exact ah0 | fail)
      refine callF_eq (name_may_spec (s.getD i 0) _ _) ?_
      (first | refine ah ?_ | exact ah0 | fail)
      rw [show (if decide ((i : Int) = 0) = true then ltr (s.getD i 0) else nam (s.getD i 0)) = decide (i < nl s) from by
        rw [show decide (i < nl s) = (if i = 0 then ltr (s.getD 0 0) else nam (s.getD i 0)) from (bool_iff hst.symm).symm]
        by_cases e : i = 0
        · subst e; simp
        · rw [if_neg e, if_neg (by simpa using e)]]
      refine bsplit_dec (fun h2 => ?_) (fun h2 => ?_)
      · (first | refine ah ?_ | exact ah0 | fail)
        refine ⟨[(0, some (.str s)), (3, some (.int .i64 (i + 1 : Nat)))], H', (by repeat (first | exact trivial | refine And.intro (Or.inl rfl) ?_ | refine And.intro (Or.inr (Exists.intro _ (And.intro rfl (Fz.refl _)))) ?_ | refine And.intro (Or.inr (Exists.intro _ (And.intro rfl (fz_eq (congrArg (AV.int _) (by omega)))))) ?_ | refine And.intro (Or.inr (Exists.intro _ (And.intro rfl (fz_eq (congrArg (AV.own _ _ _) (by (try dsimp only); (try simp only [List.length_append, List.length_map, List.length_cons, List.length_nil, List.length_take, List.length_set, List.length_replicate]); (try dsimp only); first | done | omega)))))) ?_)), Sub.refl _, _, ?_, i + 1, rfl, by omega, rfl, rfl⟩
        omega
      · (first | refine ah ?_ | exact ah0 | fail)
        exact ⟨by rw [show i = nl s from by omega], rfl⟩
    · (first | refine ah ?_ | exact ah0 | fail)
      exact ⟨by rw [show i = nl s from by omega], rfl⟩

def fmd (s : List UInt8) : Bool := decide (s ≠ []) && ltr (s.getD 0 0) && s.all nam
theorem all_take {f : UInt8 → Bool} (s : List UInt8) (i : Nat) (h : i < s.length) : (s.take (i + 1)).all f = ((s.take i).all f && f (s.getD i 0)) := by
  rw [take_at s 0 i h, List.all_append]; simp
theorem all_ge {f : UInt8 → Bool} {s : List UInt8} {i : Nat} (h : i < s.length) (hf : f (s.getD i 0) = false) : s.all f = false := by
  rw [List.all_eq_false]
  have e : s.getD i 0 = s[i] := by simp [List.getD, h]
  rw [e] at hf
  exact ⟨s[i], List.getElem_mem h, by rw [hf]; decide⟩
def strRow (l : List (List UInt8)) : List (List AV) := l.map fun x => [.str x]
theorem strRow_len (l : List (List UInt8)) : (strRow l).length = l.length := by simp [strRow]
theorem word_spec (s : List UInt8) (H : AH) : ACalls PG name_Word.n [.str s] H fun r H' => r = .bool (rsv.contains s) ∧ H' = H := by
  refine name_Word.of rfl (wpF_start ?_)
  unfold rsv
  (repeat' (first | (refine au ?_; first | refine bsplit_dec (fun _ => ?_) (fun _ => ?_) | refine bsplit_intro (fun _ => ?_) (fun _ => ?_)) | exact au0 | fail)); (all_goals try (first | refine au ?_ | fail))
  all_goals exact ⟨congrArg AV.bool (by simp_all), rfl⟩
end Go.Proofs.YtodiahhfpcdejaaDoor

/- Plain numbers, walked. -/
namespace Go.Proofs.YtodiahhfpcdejaaDoor
set_option autoImplicit false
set_option linter.unusedSimpArgs false
set_option linter.unusedVariables false
attribute [local irreducible] callA callP ACalls
theorem kinds9 {k : Int} (h : isNum k = true) : k = 1 ∨ k = 2 ∨ k = 3 ∨ k = 4 ∨ k = 5 ∨ k = 6 ∨ k = 7 ∨ k = 8 ∨ k = 9 := by
  simp only [isNum, decide_eq_true_eq] at h; omega
theorem szK_no {k : Int} (h : isNum k = false) : szK k = 0 ∧ sgK k = false := by
  simp only [isNum, decide_eq_false_iff_not] at h
  unfold szK sgK
  exact ⟨by repeat (rw [if_neg (by omega)]), decide_eq_false (by omega)⟩
theorem szK_num {k : Int} (h : isNum k = true) : szK k = 1 ∨ szK k = 2 ∨ szK k = 4 ∨ szK k = 8 := by
  rcases kinds9 h with rfl | rfl | rfl | rfl | rfl | rfl | rfl | rfl | rfl <;> simp [szK]
theorem prim_Number_spec (k : Int) (H : AH) : ACalls PG prim_Number.n [.int .i64 k] H fun r H' => r = .bool (isNum k) ∧ H' = H := by
  refine ACalls.fz (prim_Number.of rfl (wpF_start ?_))
  unfold isNum
  (repeat' (first | (refine au ?_; first | refine bsplit_dec (fun _ => ?_) (fun _ => ?_) | refine bsplit_intro (fun _ => ?_) (fun _ => ?_)) | exact au0 | fail)); (all_goals try (first | refine au ?_ | fail))
  all_goals exact ⟨fz_eq (congrArg AV.bool (by first | exact (decide_eq_false (by omega)).symm | exact decide_eq_decide.2 (by omega))), sub_of⟩
theorem prim_rows_spec0 (k : Int) : ACalls PG prim_rows.n [.int .i64 k] [] fun r _ => r = .agg [.int .i64 (szK k : Nat), .bool (sgK k)] := by
  refine prim_rows.of rfl (wpF_start ?_)
  (first | refine au ?_ | exact au0 | fail)
  intro id2 hid2 ht2; have n2 := neAll_of hid2; (try simp only [neAll, neAll_hset] at n2); have m2 := n2; (repeat (obtain ⟨_, m2⟩ := m2))
  (first | refine au ?_ | exact au0 | fail)
  intro id3 hid3 ht3; have n3 := neAll_of hid3; (try simp only [neAll, neAll_hset] at n3); have m3 := n3; (repeat (obtain ⟨_, m3⟩ := m3))
  (first | refine au ?_ | exact au0 | fail)
  first | refine callF_eq (prim_Number_spec _ _) ?_ | refine callG_eq rfl (prim_Number_spec _ _) ?_
  (first | refine au ?_ | exact au0 | fail)
  cases h : isNum k with
  | false =>
    rw [(szK_no h).1, (szK_no h).2]
    (first | refine au ?_ | exact au0 | fail)
    rfl
  | true =>
    rcases kinds9 h with rfl | rfl | rfl | rfl | rfl | rfl | rfl | rfl | rfl
    all_goals (first | refine au ?_ | exact au0 | fail)
    all_goals rfl
theorem prim_rows_spec (k : Int) (H : AH) : ACalls PG prim_rows.n [.int .i64 k] H fun r H' => r = .agg [.int .i64 (szK k : Nat), .bool (sgK k)] ∧ H' = H := (prim_rows_spec0 k).frame H
theorem szK_five (k : Int) : szK k = 0 ∨ szK k = 1 ∨ szK k = 2 ∨ szK k = 4 ∨ szK k = 8 := by
  cases h : isNum k with
  | false => exact .inl (szK_no h).1
  | true => exact .inr (szK_num h)
theorem prim_Size_spec (k : Int) (H : AH) : ACalls PG prim_Size.n [.int .i64 k] H fun r H' => r = .int .i64 (szK k : Nat) ∧ H' = H := by
  refine ACalls.fz (prim_Size.of rfl (wpF_start ?_))
  (first | refine au ?_ | exact au0 | fail)
  first | refine callF_eq (prim_rows_spec _ _) ?_ | refine callG_eq rfl (prim_rows_spec _ _) ?_
  (first | refine au ?_ | exact au0 | fail)
  exact ⟨fz_of, sub_of⟩
theorem prim_Signed_spec (k : Int) (H : AH) : ACalls PG prim_Signed.n [.int .i64 k] H fun r H' => r = .bool (sgK k) ∧ H' = H := by
  refine ACalls.fz (prim_Signed.of rfl (wpF_start ?_))
  (first | refine au ?_ | exact au0 | fail)
  first | refine callF_eq (prim_rows_spec _ _) ?_ | refine callG_eq rfl (prim_rows_spec _ _) ?_
  (first | refine au ?_ | exact au0 | fail)
  exact ⟨fz_of, sub_of⟩
theorem wrap_u64 (x : Int) : IntKind.wrap .u64 x = x % 18446744073709551616 := by
  simp only [IntKind.wrap, IntKind.bits, IntKind.signed, Bool.false_and, Bool.false_eq_true, if_false]; omega
theorem wrap_i64 (x : Int) : IntKind.wrap .i64 x = if x % 18446744073709551616 < 9223372036854775808 then x % 18446744073709551616 else x % 18446744073709551616 - 18446744073709551616 := by
  simp only [IntKind.wrap, IntKind.bits, IntKind.signed, Bool.true_and]
  split <;> rename_i h <;> split <;> simp_all <;> omega
theorem low_shift {b : Nat} (hb : b = 1 ∨ b = 2 ∨ b = 4 ∨ b = 8) (n : Nat) : Int.fdiv (IntKind.wrap .u64 ((n : Int) * 2 ^ min (Int.toNat (64 - 8 * (b : Nat))) (IntKind.bits .u64))) (2 ^ min (Int.toNat (64 - 8 * (b : Nat))) (IntKind.bits .u64)) = (lowN b n : Nat) := by
  rw [wrap_u64]
  unfold lowN
  rcases hb with rfl | rfl | rfl | rfl
  · rw [show (2 : Int) ^ min (Int.toNat (64 - 8 * ((1 : Nat) : Int))) (IntKind.bits .u64) = 72057594037927936 from by decide, Int.fdiv_eq_ediv_of_nonneg _ (by decide)]; omega
  · rw [show (2 : Int) ^ min (Int.toNat (64 - 8 * ((2 : Nat) : Int))) (IntKind.bits .u64) = 281474976710656 from by decide, Int.fdiv_eq_ediv_of_nonneg _ (by decide)]; omega
  · rw [show (2 : Int) ^ min (Int.toNat (64 - 8 * ((4 : Nat) : Int))) (IntKind.bits .u64) = 4294967296 from by decide, Int.fdiv_eq_ediv_of_nonneg _ (by decide)]; omega
  · rw [show (2 : Int) ^ min (Int.toNat (64 - 8 * ((8 : Nat) : Int))) (IntKind.bits .u64) = 1 from by decide, Int.fdiv_eq_ediv_of_nonneg _ (by decide)]; omega
theorem sgn_shift {b : Nat} (hb : b = 1 ∨ b = 2 ∨ b = 4 ∨ b = 8) (n : Nat) : Int.fdiv (IntKind.wrap .i64 (IntKind.wrap .u64 ((n : Int) * 2 ^ min (Int.toNat (64 - 8 * (b : Nat))) (IntKind.bits .u64)))) (2 ^ min (Int.toNat (64 - 8 * (b : Nat))) (IntKind.bits .i64)) = sgnI b n := by
  rw [wrap_u64, wrap_i64]
  unfold sgnI lowN
  rw [show IntKind.bits .i64 = IntKind.bits .u64 from rfl]
  rcases hb with rfl | rfl | rfl | rfl
  · rw [show (2 : Int) ^ min (Int.toNat (64 - 8 * ((1 : Nat) : Int))) (IntKind.bits .u64) = 72057594037927936 from by decide, Int.fdiv_eq_ediv_of_nonneg _ (by decide)]; repeat' split <;> omega
  · rw [show (2 : Int) ^ min (Int.toNat (64 - 8 * ((2 : Nat) : Int))) (IntKind.bits .u64) = 281474976710656 from by decide, Int.fdiv_eq_ediv_of_nonneg _ (by decide)]; repeat' split <;> omega
  · rw [show (2 : Int) ^ min (Int.toNat (64 - 8 * ((4 : Nat) : Int))) (IntKind.bits .u64) = 4294967296 from by decide, Int.fdiv_eq_ediv_of_nonneg _ (by decide)]; repeat' split <;> omega
  · rw [show (2 : Int) ^ min (Int.toNat (64 - 8 * ((8 : Nat) : Int))) (IntKind.bits .u64) = 1 from by decide, Int.fdiv_eq_ediv_of_nonneg _ (by decide)]; repeat' split <;> omega
theorem prim_Low_spec (k : Int) (n : Nat) (H : AH) : ACalls PG prim_Low.n [.int .i64 k, .int .u64 (n : Nat)] H fun r H' => r = .int .u64 (lowK k n : Nat) ∧ H' = H := by
  refine ACalls.fz (prim_Low.of rfl (wpF_start ?_))
  (first | refine au ?_ | exact au0 | fail)
  first | refine callF_eq (prim_Size_spec _ _) ?_ | refine callG_eq rfl (prim_Size_spec _ _) ?_
  have h5 := szK_five k
  unfold lowK
  by_cases e : szK k = 0
  · rw [if_pos e, e]
    (first | refine au ?_ | exact au0 | fail)
    exact ⟨fz_of, sub_of⟩
  · rw [if_neg e]
    have hb : szK k = 1 ∨ szK k = 2 ∨ szK k = 4 ∨ szK k = 8 := by omega
    generalize szK k = b at *
    (first | refine au ?_ | exact au0 | fail)
    refine rng_any ?_
    (first | refine au ?_ | exact au0 | fail)
    exact ⟨fz_eq (congrArg (AV.int .u64) (low_shift hb n)), sub_of⟩
theorem word_sized_spec (b : Int) (H : AH) : ACalls PG word_sized.n [.int .i64 b] H fun r H' => r = .bool (decide (b = 1 ∨ b = 2 ∨ b = 4 ∨ b = 8)) ∧ H' = H := by
  refine ACalls.fz (word_sized.of rfl (wpF_start ?_))
  (repeat' (first | (refine au ?_; first | refine bsplit_dec (fun _ => ?_) (fun _ => ?_) | refine bsplit_intro (fun _ => ?_) (fun _ => ?_)) | exact au0 | fail)); (all_goals try (first | refine au ?_ | fail))
  all_goals exact ⟨fz_eq (congrArg AV.bool (by first | exact (decide_eq_true (by omega)).symm | exact decide_eq_decide.2 (by omega))), sub_of⟩
theorem word_Sign_spec (b n : Nat) (hb : b = 1 ∨ b = 2 ∨ b = 4 ∨ b = 8) (H : AH) : ACalls PG word_Sign.n [.int .u64 (n : Nat), .int .i64 (b : Nat)] H fun r H' => r = .int .i64 (sgnI b n) ∧ H' = H := by
  refine ACalls.fz (word_Sign.of rfl (wpF_start ?_))
  (first | refine au ?_ | exact au0 | fail)
  first | refine callF_eq (word_sized_spec _ _) ?_ | refine callG_eq rfl (word_sized_spec _ _) ?_
  rw [decide_eq_true (by omega)]
  (first | refine au ?_ | exact au0 | fail)
  refine rng_any ?_
  (first | refine au ?_ | exact au0 | fail)
  refine rng_any ?_
  (first | refine au ?_ | exact au0 | fail)
  exact ⟨fz_eq (congrArg (AV.int .i64) (sgn_shift hb n)), sub_of⟩
theorem sgnI_range {b : Nat} (hb : b = 1 ∨ b = 2 ∨ b = 4 ∨ b = 8) (n : Nat) : -9223372036854775808 ≤ sgnI b n ∧ sgnI b n ≤ 9223372036854775807 := by
  unfold sgnI lowN
  rcases hb with rfl | rfl | rfl | rfl <;> (split <;> omega)
theorem word_Wide_spec (b n : Nat) (hb : b = 1 ∨ b = 2 ∨ b = 4 ∨ b = 8) (H : AH) : ACalls PG word_Wide.n [.int .u64 (n : Nat), .int .i64 (b : Nat)] H fun r H' => r = .int .u64 (wide (sgnI b n) : Nat) ∧ H' = H := by
  refine ACalls.fz (word_Wide.of rfl (wpF_start ?_))
  (first | refine au ?_ | exact au0 | fail)
  first | refine callF_eq (word_Sign_spec b n hb _) ?_ | refine callG_eq rfl (word_Sign_spec b n hb _) ?_
  (first | refine au ?_ | exact au0 | fail)
  refine rng_any ?_
  (first | refine au ?_ | exact au0 | fail)
  exact ⟨fz_eq (congrArg (AV.int .u64) (by rw [wrap_u64]; unfold wide; omega)), sub_of⟩
theorem sgK_num {k : Int} (h : sgK k = true) : isNum k = true := by
  simp only [sgK, decide_eq_true_eq] at h
  exact decide_eq_true (by omega)
theorem prim_Up_spec (k : Int) (n : Nat) (H : AH) : ACalls PG prim_Up.n [.int .i64 k, .int .u64 (n : Nat)] H fun r H' => r = .int .u64 (upK k n : Nat) ∧ H' = H := by
  refine ACalls.fz (prim_Up.of rfl (wpF_start ?_))
  (first | refine au ?_ | exact au0 | fail)
  first | refine callF_eq (prim_Signed_spec _ _) ?_ | refine callG_eq rfl (prim_Signed_spec _ _) ?_
  unfold upK
  cases h : sgK k with
  | true =>
    have hb := szK_num (sgK_num h)
    (first | refine au ?_ | exact au0 | fail)
    first | refine callF_eq (prim_Size_spec _ _) ?_ | refine callG_eq rfl (prim_Size_spec _ _) ?_
    (first | refine au ?_ | exact au0 | fail)
    first | refine callF_eq (word_Wide_spec _ n hb _) ?_ | refine callG_eq rfl (word_Wide_spec _ n hb _) ?_
    (first | refine au ?_ | exact au0 | fail)
    exact ⟨fz_of, sub_of⟩
  | false =>
    (first | refine au ?_ | exact au0 | fail)
    first | refine callF_eq (prim_Low_spec _ n _) ?_ | refine callG_eq rfl (prim_Low_spec _ n _) ?_
    (first | refine au ?_ | exact au0 | fail)
    exact ⟨fz_of, sub_of⟩
theorem prim_May_spec (k : Int) (n : Nat) (H : AH) : ACalls PG prim_May.n [.int .i64 k, .int .u64 (n : Nat)] H fun r H' => r = .bool (mayK k n) ∧ H' = H := by
  refine ACalls.fz (prim_May.of rfl (wpF_start ?_))
  rw [show mayK k n = decide ((1 ≤ k ∧ k ≤ 9) ∧ upK k n = n ∧ (k ≠ 1 ∨ n ≤ 1)) from by simp [mayK, isNum, Bool.decide_and, Bool.decide_or, Bool.and_assoc]]
  (repeat' (first | (refine au ?_; first | refine callF_eq (prim_Number_spec _ _) ?_ | refine callF_eq (prim_Up_spec _ n _) ?_ | refine bsplit_dec (fun _ => ?_) (fun _ => ?_) | refine bsplit_intro (fun _ => ?_) (fun _ => ?_)) | exact au0 | fail)); (all_goals try (first | refine au ?_ | fail))
  all_goals exact ⟨fz_eq (congrArg AV.bool (by first | exact (decide_eq_true (by omega)).symm | exact (decide_eq_false (by omega)).symm | exact decide_eq_decide.2 (by omega) | rfl)), sub_of⟩
end Go.Proofs.YtodiahhfpcdejaaDoor

/- Plain numbers in the reference, walked. -/
namespace Go.Proofs.YtodiahhfpcdejaaDoor
set_option autoImplicit false
set_option linter.unusedSimpArgs false
set_option linter.unusedVariables false
attribute [local irreducible] callA callP ACalls
theorem r5_Number_spec (k : Int) (H : AH) : ACalls PG broadsheetref05_Number.n [.int .i64 k] H fun r H' => r = .bool (isNum k) ∧ H' = H := by
  refine ACalls.fz (broadsheetref05_Number.of rfl (wpF_start ?_))
  unfold isNum
  (repeat' (first | (refine au ?_; first | refine bsplit_dec (fun _ => ?_) (fun _ => ?_) | refine bsplit_intro (fun _ => ?_) (fun _ => ?_)) | exact au0 | fail)); (all_goals try (first | refine au ?_ | fail))
  all_goals exact ⟨fz_eq (congrArg AV.bool (by first | exact (decide_eq_true (by omega)).symm | exact (decide_eq_false (by omega)).symm | exact decide_eq_decide.2 (by omega) | rfl)), sub_of⟩
theorem r5_Signed_spec (k : Int) (H : AH) : ACalls PG broadsheetref05_Signed.n [.int .i64 k] H fun r H' => r = .bool (sgK k) ∧ H' = H := by
  refine ACalls.fz (broadsheetref05_Signed.of rfl (wpF_start ?_))
  unfold sgK
  (repeat' (first | (refine au ?_; first | refine bsplit_dec (fun _ => ?_) (fun _ => ?_) | refine bsplit_intro (fun _ => ?_) (fun _ => ?_)) | exact au0 | fail)); (all_goals try (first | refine au ?_ | fail))
  all_goals exact ⟨fz_eq (congrArg AV.bool (by first | exact (decide_eq_true (by omega)).symm | exact (decide_eq_false (by omega)).symm | exact decide_eq_decide.2 (by omega) | rfl)), sub_of⟩
theorem r5_Size_spec (k : Int) (H : AH) : ACalls PG broadsheetref05_Size.n [.int .i64 k] H fun r H' => r = .int .i64 (szK k : Nat) ∧ H' = H := by
  refine ACalls.fz (broadsheetref05_Size.of rfl (wpF_start ?_))
  unfold szK
  (repeat' (first | (refine au ?_; first | refine bsplit_dec (fun _ => ?_) (fun _ => ?_) | refine bsplit_intro (fun _ => ?_) (fun _ => ?_)) | exact au0 | fail)); (all_goals try (first | refine au ?_ | fail))
  all_goals exact ⟨fz_eq (congrArg (AV.int .i64) (by (repeat' split) <;> omega)), sub_of⟩
theorem r1_Sized_spec (b : Int) (H : AH) : ACalls PG broadsheetref01_Sized.n [.int .i64 b] H fun r H' => r = .bool (decide (b = 1 ∨ b = 2 ∨ b = 4 ∨ b = 8)) ∧ H' = H := by
  refine ACalls.fz (broadsheetref01_Sized.of rfl (wpF_start ?_))
  (repeat' (first | (refine au ?_; first | refine bsplit_dec (fun _ => ?_) (fun _ => ?_) | refine bsplit_intro (fun _ => ?_) (fun _ => ?_)) | exact au0 | fail)); (all_goals try (first | refine au ?_ | fail))
  all_goals exact ⟨fz_eq (congrArg AV.bool (by first | exact (decide_eq_true (by omega)).symm | exact (decide_eq_false (by omega)).symm | exact decide_eq_decide.2 (by omega) | rfl)), sub_of⟩
/-- Half of what a size holds. -/
def hlf (b : Nat) : Nat := 128 * 256 ^ (b - 1)
theorem hlf_eq {b : Nat} (hb : b = 1 ∨ b = 2 ∨ b = 4 ∨ b = 8) : (b = 1 ∧ hlf b = 128) ∨ (b = 2 ∧ hlf b = 32768) ∨ (b = 4 ∧ hlf b = 2147483648) ∨ (b = 8 ∧ hlf b = 9223372036854775808) := by
  rcases hb with rfl | rfl | rfl | rfl <;> decide
theorem r1_half_spec (b : Nat) (h1 : 1 ≤ b) (h8 : b ≤ 8) (H : AH) : ACalls PG broadsheetref01_half.n [.int .i64 (b : Nat)] H fun r H' => r = .int .u64 (hlf b : Nat) ∧ H' = H := by
  refine ACalls.fz (broadsheetref01_half.of rfl (wpF_start ?_))
  (first | refine au ?_ | exact au0 | fail)
  refine loopS (S := Nat) (fun i => [(3, some (.int .u64 (128 * 256 ^ i : Nat))), (4, some (.int .i64 (i + 1 : Nat)))]) (fun _ => _) (fun i => b - i) (fun i => i + 1 ≤ b) 0 h1 (fun i hi => ?_)
  have hp : 256 ^ i ≤ 256 ^ 7 := Nat.pow_le_pow_right (by decide) (by omega)
  have hp7 : 256 ^ 7 = 72057594037927936 := by decide
  have hs : 256 ^ (i + 1) = 256 ^ i * 256 := Nat.pow_succ ..
  have hm : i + 1 < b → 256 ^ i ≤ 256 ^ 6 := fun q => Nat.pow_le_pow_right (by decide) (by omega)
  have hp6 : 256 ^ 6 = 281474976710656 := by decide
  have hh : hlf (i + 1) = 128 * 256 ^ i := rfl
  generalize 256 ^ i = p at *
  (first | refine au ?_ | exact au0 | fail)
  refine bsplit_dec (fun c => ?_) (fun c => ?_)
  · have hm' := hm (by omega)
    (first | refine au ?_ | exact au0 | fail)
    refine nextS ((i + 1 : Nat)) (by repeat (first | exact trivial | refine And.intro (Or.inl rfl) ?_ | refine And.intro (Or.inr (Exists.intro _ (And.intro rfl (Fz.refl _)))) ?_ | refine And.intro (Or.inr (Exists.intro _ (And.intro rfl (fz_eq (congrArg (AV.int _) (by omega)))))) ?_ | refine And.intro (Or.inr (Exists.intro _ (And.intro rfl (fz_eq (congrArg (AV.own _ _ _) (by (try dsimp only); (try simp only [List.length_append, List.length_map, List.length_cons, List.length_nil, List.length_take, List.length_set, List.length_replicate]); (try dsimp only); first | done | omega)))))) ?_)) (by exact sub_of) (by first | omega | (dsimp only; omega)) ?_; (try dsimp only)
    omega
  · (first | refine au ?_ | exact au0 | fail)
    obtain rfl : b = i + 1 := by omega
    rw [hh]
    exact ⟨fz_of, sub_of⟩
theorem r1_Low_spec (b n : Nat) (hb : b = 1 ∨ b = 2 ∨ b = 4 ∨ b = 8) (hn : n < 18446744073709551616) (H : AH) : ACalls PG broadsheetref01_Low.n [.int .u64 (n : Nat), .int .i64 (b : Nat)] H fun r H' => r = .int .u64 (lowN b n : Nat) ∧ H' = H := by
  refine ACalls.fz (broadsheetref01_Low.of rfl (wpF_start ?_))
  (first | refine au ?_ | exact au0 | fail)
  first | refine callF_eq (r1_half_spec b (by omega) (by omega) _) ?_ | refine callG_eq rfl (r1_half_spec b (by omega) (by omega) _) ?_
  unfold lowN
  rcases hlf_eq hb with ⟨rfl, e⟩ | ⟨rfl, e⟩ | ⟨rfl, e⟩ | ⟨rfl, e⟩
  all_goals rw [e]
  all_goals (first | refine au ?_ | exact au0 | fail)
  all_goals exact ⟨fz_eq (congrArg (AV.int .u64) (by rw [Int.tmod_eq_emod_of_nonneg (by omega), Int.tmod_eq_emod_of_nonneg (by omega), wrap_u64, wrap_u64]; omega)), sub_of⟩
/-- A number's two's complement. -/
def bitsR (b : Nat) (m : Int) : Int × Int := if -(hlf b : Int) ≤ m ∧ m < hlf b then (m % (2 * hlf b : Int), 0) else (0, 7)
theorem wide_may {b n : Nat} (hb : b = 1 ∨ b = 2 ∨ b = 4 ∨ b = 8) (hn : n < 18446744073709551616) : wide (sgnI b n) = n ↔ (bitsR b (IntKind.wrap .i64 (n : Nat))).2 = 0 := by
  rw [wrap_i64]
  unfold wide sgnI bitsR lowN
  rcases hlf_eq hb with ⟨rfl, e⟩ | ⟨rfl, e⟩ | ⟨rfl, e⟩ | ⟨rfl, e⟩
  all_goals rw [e]
  all_goals (repeat' split) <;> (first | (constructor <;> intro <;> omega) | (simp only [] at *; constructor <;> intro q <;> omega))
theorem wrapI_range (n : Nat) : -9223372036854775808 ≤ IntKind.wrap .i64 (n : Nat) ∧ IntKind.wrap .i64 (n : Nat) ≤ 9223372036854775807 := by
  rw [wrap_i64]; split <;> omega
theorem r5_Low_spec (k : Int) (n : Nat) (hn : n < 18446744073709551616) (H : AH) : ACalls PG broadsheetref05_Low.n [.int .i64 k, .int .u64 (n : Nat)] H fun r H' => r = .int .u64 (lowK k n : Nat) ∧ H' = H := by
  refine ACalls.fz (broadsheetref05_Low.of rfl (wpF_start ?_))
  (first | refine au ?_ | exact au0 | fail)
  first | refine callF_eq (r5_Number_spec _ _) ?_ | refine callG_eq rfl (r5_Number_spec _ _) ?_
  unfold lowK
  cases h : isNum k with
  | false =>
    rw [(szK_no h).1]
    (first | refine au ?_ | exact au0 | fail)
    exact ⟨fz_of, sub_of⟩
  | true =>
    have hb := szK_num h
    rw [if_neg (by omega)]
    (first | refine au ?_ | exact au0 | fail)
    first | refine callF_eq (r5_Size_spec _ _) ?_ | refine callG_eq rfl (r5_Size_spec _ _) ?_
    (first | refine au ?_ | exact au0 | fail)
    first | refine callF_eq (r1_Low_spec _ n hb hn _) ?_ | refine callG_eq rfl (r1_Low_spec _ n hb hn _) ?_
    (first | refine au ?_ | exact au0 | fail)
    exact ⟨fz_of, sub_of⟩
end Go.Proofs.YtodiahhfpcdejaaDoor

/- Types, walked. -/
namespace Go.Proofs.YtodiahhfpcdejaaDoor
set_option autoImplicit false
set_option linter.unusedSimpArgs false
set_option linter.unusedVariables false
attribute [local irreducible] callA callP ACalls
/-- Items, types, as they lie in memory. -/
abbrev itR (x : It) : List AV := [.str x.nm, .int .u64 (x.num : Nat), .int .i64 x.ty, .bool x.key, .bool x.rest]
abbrev tyR (t : Ty) : List AV := [.int .i64 t.kd, .str t.nm, .int .i64 t.bd, .int .i64 t.el, .int .i64 t.tg, .rows 5 (t.its.map itR)]
abbrev tysA (l : List Ty) : AV := .rows 6 (l.map tyR)
abbrev inR (n : Int) : List AV := [.int .i64 n]
theorem has_spec (k : Int) (H : AH) : ACalls PG types_has.n [.int .i64 k] H fun r H' => r = .tup [.bool (kNm k), .bool (kBd k), .bool (kEl k), .bool (kTg k)] ∧ H' = H := by
  refine ACalls.fz (types_has.of rfl (wpF_start ?_))
  unfold kNm kBd kEl kTg
  (repeat' (first | (refine au ?_; first | refine bsplit_dec (fun _ => ?_) (fun _ => ?_) | refine bsplit_intro (fun _ => ?_) (fun _ => ?_)) | exact au0 | fail)); (all_goals try (first | refine au ?_ | fail))
  all_goals (refine ⟨fz_eq ?_, sub_of⟩; simp only [AV.tup.injEq, List.cons.injEq, AV.bool.injEq, and_true]; refine ⟨?_, ?_, ?_, ?_⟩ <;> first | exact (decide_eq_true (by omega)).symm | exact (decide_eq_false (by omega)).symm)
theorem rng4 (k : Int) : (kEl k = true ∧ kTg k = false ∧ k ≠ 13 ∧ k ≠ 14) ∨ (kEl k = false ∧ kTg k = true ∧ k = 14) ∨ (kEl k = false ∧ kTg k = false ∧ k = 13) ∨ (kEl k = false ∧ kTg k = false ∧ k ≠ 13 ∧ k ≠ 14) := by
  unfold kEl kTg
  by_cases h1 : k = 11 ∨ k = 12
  · exact .inl ⟨decide_eq_true h1, decide_eq_false (by omega), by omega, by omega⟩
  · by_cases h2 : k = 14
    · exact .inr (.inl ⟨decide_eq_false h1, decide_eq_true h2, h2⟩)
    · by_cases h3 : k = 13
      · exact .inr (.inr (.inl ⟨decide_eq_false h1, decide_eq_false h2, h3⟩))
      · exact .inr (.inr (.inr ⟨decide_eq_false h1, decide_eq_false h2, h3, h2⟩))
theorem parts_el {t : Ty} (h : kEl t.kd = true) (h2 : kTg t.kd = false) (h3 : t.kd ≠ 13) (h4 : t.kd ≠ 14) : parts t = [t.el] := by
  unfold parts; rw [h, h2, if_neg (show ¬ (t.kd = 13 ∨ t.kd = 14) by omega)]; rfl
theorem parts_tg {t : Ty} (h : kEl t.kd = false) (h2 : kTg t.kd = true) (h3 : t.kd = 14) : parts t = t.tg :: t.its.map (·.ty) := by
  unfold parts; rw [h, h2, if_pos (show t.kd = 13 ∨ t.kd = 14 by omega)]; rfl
theorem parts_st {t : Ty} (h : kEl t.kd = false) (h2 : kTg t.kd = false) (h3 : t.kd = 13) : parts t = t.its.map (·.ty) := by
  unfold parts; rw [h, h2, if_pos (show t.kd = 13 ∨ t.kd = 14 by omega)]; rfl
theorem parts_no {t : Ty} (h : kEl t.kd = false) (h2 : kTg t.kd = false) (h3 : t.kd ≠ 13) (h4 : t.kd ≠ 14) : parts t = [] := by
  unfold parts; rw [h, h2, if_neg (show ¬ (t.kd = 13 ∨ t.kd = 14) by omega)]; rfl
theorem parts_spec0 (t : Ty) (ht : t.its.length ≤ 4000000000000) : ACalls PG types_parts.n [.agg (tyR t)] [] fun r _ => r = .rows 1 ((parts t).map inR) := by
  refine ACalls.fzK (types_parts.of rfl (wpF_start ?_))
  have hlen : (t.its.map itR).length = t.its.length := by simp
  (first | refine au ?_ | exact au0 | fail)
  intro id1 hid1 ht1; have n1 := neAll_of hid1; (try simp only [neAll, neAll_hset] at n1); have m1 := n1; (repeat (obtain ⟨_, m1⟩ := m1))
  (first | refine au ?_ | exact au0 | fail)
  first | refine callF_eq (has_spec _ _) ?_ | refine callG_eq rfl (has_spec _ _) ?_
  rcases rng4 t.kd with ⟨h1, h2, h3, h4⟩ | ⟨h1, h2, h3⟩ | ⟨h1, h2, h3⟩ | ⟨h1, h2, h3, h4⟩
  · rw [h1, h2, parts_el h1 h2 h3 h4]
    (first | refine au ?_ | exact au0 | fail)
    refine ⟨_, rfl, (Nat.le_of_ble_eq_true rfl), (fun q => by cases q), fun _ => ?_⟩
    intro id2 hid2 ht2; have n2 := neAll_of hid2; (try simp only [neAll, neAll_hset] at n2); have m2 := n2; (repeat (obtain ⟨_, m2⟩ := m2))
    (first | refine au ?_ | exact au0 | fail)
    exact Fz.ownL hget_self rfl (FzR.refl _ _ _) (map_w (f := inR) (fun _ => rfl) _)
  · rw [h1, h2, parts_tg h1 h2 h3]
    (first | refine au ?_ | exact au0 | fail)
    refine ⟨_, rfl, (Nat.le_of_ble_eq_true rfl), (fun q => by cases q), fun _ => ?_⟩
    intro id2 hid2 ht2; have n2 := neAll_of hid2; (try simp only [neAll, neAll_hset] at n2); have m2 := n2; (repeat (obtain ⟨_, m2⟩ := m2))
    (first | refine au ?_ | exact au0 | fail)
    obtain ⟨pre, hpre⟩ : ∃ pre : List Int, pre = [t.tg] := ⟨_, rfl⟩
    have hpl : pre.length = 1 := by rw [hpre]; rfl
    refine loopS (S := Nat × Option Nat) (fun s => [(3, some (accV s.2 1 (pre.length + s.1))), (41, some (.int .i64 (s.1 : Nat)))]) (fun s => accH s.2 1 (pre.map inR ++ ((t.its.take s.1).map fun x => inR x.ty)) [(id1, .rows 6 [tyR t])]) (fun s => t.its.length - s.1) (fun s => s.1 ≤ t.its.length ∧ (s.2 = none → pre.length + s.1 = 0) ∧ ∀ id, s.2 = some id → tag id = ty_int ∧ id ≠ id1) (0, some id2) ⟨Nat.zero_le _, by simp, fun id q => by cases q; exact ⟨ht2, by omega⟩⟩ (fun ⟨i, o⟩ hs => ?_) (by repeat (first | exact trivial | refine And.intro (Or.inl rfl) ?_ | refine And.intro (Or.inr (Exists.intro _ (And.intro rfl (Fz.refl _)))) ?_ | refine And.intro (Or.inr (Exists.intro _ (And.intro rfl (fz_eq (congrArg (AV.int _) (by omega)))))) ?_ | refine And.intro (Or.inr (Exists.intro _ (And.intro rfl (fz_eq (congrArg (AV.own _ _ _) (by (try dsimp only); (try simp only [List.length_append, List.length_map, List.length_cons, List.length_nil, List.length_take, List.length_set, List.length_replicate]); (try dsimp only); first | done | omega)))))) ?_)) (by subst hpre; exact sub_of)
    dsimp only at hs
    rcases hs with ⟨hi, ho1, ho2⟩
    have hge : ∀ h : i < t.its.length, (t.its.map itR).getD (Int.toNat (i : Nat)) [] = itR t.its[i] := fun h => row_get h
    have htk : ∀ h : i < t.its.length, ((t.its.take (i + 1)).map fun x => inR x.ty) = ((t.its.take i).map fun x => inR x.ty) ++ [inR t.its[i].ty] := fun h => take_map_succ _ _ _ h
    have htl : (t.its.take i).length = i := by rw [List.length_take]; omega
    (first | refine au ?_ | exact au0 | fail)
    refine bsplit_dec (fun c => ?_) (fun c => ?_)
    · have hil : i < t.its.length := by omega
      replace hge := hge hil
      replace htk := htk hil
      generalize t.its[i] = x at *
      rcases o with _ | ida
      · (first | refine au ?_ | exact au0 | fail)
        rw [hge]
        (first | refine au ?_ | exact au0 | fail)
        intro id9 hid9 ht9; have n9 := neAll_of hid9; (try simp only [neAll, neAll_hset] at n9); have m9 := n9; (repeat (obtain ⟨_, m9⟩ := m9))
        (first | refine au ?_ | exact au0 | fail)
        refine ⟨_, rfl, (Nat.le_of_ble_eq_true rfl), (fun q => by cases q), fun _ => ?_⟩
        intro id47 hid47 ht47; have n47 := neAll_of hid47; (try simp only [neAll, neAll_hset] at n47); have m47 := n47; (repeat (obtain ⟨_, m47⟩ := m47))
        (first | refine au ?_ | exact au0 | fail)
        have hp := ho1 rfl
        refine nextS (S := Nat × Option Nat) (i + 1, some id47) (by repeat (first | exact trivial | refine And.intro (Or.inl rfl) ?_ | refine And.intro (Or.inr (Exists.intro _ (And.intro rfl (Fz.refl _)))) ?_ | refine And.intro (Or.inr (Exists.intro _ (And.intro rfl (fz_eq (congrArg (AV.int _) (by omega)))))) ?_ | refine And.intro (Or.inr (Exists.intro _ (And.intro rfl (fz_eq (congrArg (AV.own _ _ _) (by (try dsimp only); (try simp only [List.length_append, List.length_map, List.length_cons, List.length_nil, List.length_take, List.length_set, List.length_replicate]); (try dsimp only); first | done | omega)))))) ?_)) ?_ (by dsimp only; omega) ⟨hil, by simp, fun j q => ?_⟩
        · dsimp only [accH]
          rw [htk, show pre = [] from List.eq_nil_of_length_eq_zero (by omega), show i = 0 from by omega]
          exact sub_of
        · simp only [Option.some.injEq] at q
          subst q
          exact ⟨ht47, by omega⟩
      · obtain ⟨hti, hdi⟩ := ho2 ida rfl
        (first | refine au ?_ | exact au0 | fail)
        rw [hge]
        (first | refine au ?_ | exact au0 | fail)
        intro id9 hid9 ht9; have n9 := neAll_of hid9; (try simp only [neAll, neAll_hset] at n9); have m9 := n9; (repeat (obtain ⟨_, m9⟩ := m9))
        (first | refine au ?_ | exact au0 | fail)
        refine ⟨_, _, readS_all (by exact hg_of) (by ((try dsimp only); (try simp only [List.length_append, List.length_map, List.length_cons, List.length_nil, List.length_take, List.length_set, List.length_replicate]); (try dsimp only); first | done | omega)), rfl, rfl, rfl, (hti), (by ((try dsimp only); (try simp only [List.length_append, List.length_map, List.length_cons, List.length_nil, List.length_take, List.length_set, List.length_replicate]); (try dsimp only); first | done | omega)), ?_⟩
        intro id47 hid47 ht47; have n47 := neAll_of hid47; (try simp only [neAll, neAll_hset] at n47); have m47 := n47; (repeat (obtain ⟨_, m47⟩ := m47))
        (first | refine au ?_ | exact au0 | fail)
        refine nextS (S := Nat × Option Nat) (i + 1, some id47) (by repeat (first | exact trivial | refine And.intro (Or.inl rfl) ?_ | refine And.intro (Or.inr (Exists.intro _ (And.intro rfl (Fz.refl _)))) ?_ | refine And.intro (Or.inr (Exists.intro _ (And.intro rfl (fz_eq (congrArg (AV.int _) (by omega)))))) ?_ | refine And.intro (Or.inr (Exists.intro _ (And.intro rfl (fz_eq (congrArg (AV.own _ _ _) (by (try dsimp only); (try simp only [List.length_append, List.length_map, List.length_cons, List.length_nil, List.length_take, List.length_set, List.length_replicate]); (try dsimp only); first | done | omega)))))) ?_)) ?_ (by dsimp only; omega) ⟨hil, by simp, fun j q => ?_⟩
        · dsimp only [accH]
          rw [htk, ← List.append_assoc]
          exact sub_of
        · simp only [Option.some.injEq] at q
          subst q
          exact ⟨ht47, by omega⟩
    · (first | refine au ?_ | exact au0 | fail)
      obtain rfl : i = t.its.length := by omega
      rw [List.take_length]
      refine accFz (by ((try dsimp only); (try simp only [List.length_append, List.length_map, List.length_cons, List.length_nil, List.length_take, List.length_set, List.length_replicate]); (try dsimp only); first | done | omega)) (fun q => ?_) (fun _ _ => rfl) ?_ (map_w (f := inR) (fun _ => rfl) _)
      · have := ho1 q
        rw [List.eq_nil_of_length_eq_zero (show pre.length = 0 by omega), List.eq_nil_of_length_eq_zero (show t.its.length = 0 by omega)]
        rfl
      · rw [hpre]
        simp only [List.map_cons, List.map_nil, List.map_map, List.cons_append, List.nil_append]
        exact FzR.refl _ _ _
  · rw [h1, h2, parts_st h1 h2 h3]
    (first | refine au ?_ | exact au0 | fail)
    obtain ⟨pre, hpre⟩ : ∃ pre : List Int, pre = [] := ⟨_, rfl⟩
    have hpl : pre.length = 0 := by rw [hpre]; rfl
    refine loopS (S := Nat × Option Nat) (fun s => [(3, some (accV s.2 1 (pre.length + s.1))), (41, some (.int .i64 (s.1 : Nat)))]) (fun s => accH s.2 1 (pre.map inR ++ ((t.its.take s.1).map fun x => inR x.ty)) [(id1, .rows 6 [tyR t])]) (fun s => t.its.length - s.1) (fun s => s.1 ≤ t.its.length ∧ (s.2 = none → pre.length + s.1 = 0) ∧ ∀ id, s.2 = some id → tag id = ty_int ∧ id ≠ id1) (0, none) ⟨Nat.zero_le _, by simp [hpl], fun id q => by cases q⟩ (fun ⟨i, o⟩ hs => ?_) (by repeat (first | exact trivial | refine And.intro (Or.inl rfl) ?_ | refine And.intro (Or.inr (Exists.intro _ (And.intro rfl (Fz.refl _)))) ?_ | refine And.intro (Or.inr (Exists.intro _ (And.intro rfl (fz_eq (congrArg (AV.int _) (by omega)))))) ?_ | refine And.intro (Or.inr (Exists.intro _ (And.intro rfl (fz_eq (congrArg (AV.own _ _ _) (by (try dsimp only); (try simp only [List.length_append, List.length_map, List.length_cons, List.length_nil, List.length_take, List.length_set, List.length_replicate]); (try dsimp only); first | done | omega)))))) ?_)) (by subst hpre; exact sub_of)
    dsimp only at hs
    rcases hs with ⟨hi, ho1, ho2⟩
    have hge : ∀ h : i < t.its.length, (t.its.map itR).getD (Int.toNat (i : Nat)) [] = itR t.its[i] := fun h => row_get h
    have htk : ∀ h : i < t.its.length, ((t.its.take (i + 1)).map fun x => inR x.ty) = ((t.its.take i).map fun x => inR x.ty) ++ [inR t.its[i].ty] := fun h => take_map_succ _ _ _ h
    have htl : (t.its.take i).length = i := by rw [List.length_take]; omega
    (first | refine au ?_ | exact au0 | fail)
    refine bsplit_dec (fun c => ?_) (fun c => ?_)
    · have hil : i < t.its.length := by omega
      replace hge := hge hil
      replace htk := htk hil
      generalize t.its[i] = x at *
      rcases o with _ | ida
      · (first | refine au ?_ | exact au0 | fail)
        rw [hge]
        (first | refine au ?_ | exact au0 | fail)
        intro id9 hid9 ht9; have n9 := neAll_of hid9; (try simp only [neAll, neAll_hset] at n9); have m9 := n9; (repeat (obtain ⟨_, m9⟩ := m9))
        (first | refine au ?_ | exact au0 | fail)
        refine ⟨_, rfl, (Nat.le_of_ble_eq_true rfl), (fun q => by cases q), fun _ => ?_⟩
        intro id47 hid47 ht47; have n47 := neAll_of hid47; (try simp only [neAll, neAll_hset] at n47); have m47 := n47; (repeat (obtain ⟨_, m47⟩ := m47))
        (first | refine au ?_ | exact au0 | fail)
        have hp := ho1 rfl
        refine nextS (S := Nat × Option Nat) (i + 1, some id47) (by repeat (first | exact trivial | refine And.intro (Or.inl rfl) ?_ | refine And.intro (Or.inr (Exists.intro _ (And.intro rfl (Fz.refl _)))) ?_ | refine And.intro (Or.inr (Exists.intro _ (And.intro rfl (fz_eq (congrArg (AV.int _) (by omega)))))) ?_ | refine And.intro (Or.inr (Exists.intro _ (And.intro rfl (fz_eq (congrArg (AV.own _ _ _) (by (try dsimp only); (try simp only [List.length_append, List.length_map, List.length_cons, List.length_nil, List.length_take, List.length_set, List.length_replicate]); (try dsimp only); first | done | omega)))))) ?_)) ?_ (by dsimp only; omega) ⟨hil, by simp, fun j q => ?_⟩
        · dsimp only [accH]
          rw [htk, show pre = [] from List.eq_nil_of_length_eq_zero (by omega), show i = 0 from by omega]
          exact sub_of
        · simp only [Option.some.injEq] at q
          subst q
          exact ⟨ht47, by omega⟩
      · obtain ⟨hti, hdi⟩ := ho2 ida rfl
        (first | refine au ?_ | exact au0 | fail)
        rw [hge]
        (first | refine au ?_ | exact au0 | fail)
        intro id9 hid9 ht9; have n9 := neAll_of hid9; (try simp only [neAll, neAll_hset] at n9); have m9 := n9; (repeat (obtain ⟨_, m9⟩ := m9))
        (first | refine au ?_ | exact au0 | fail)
        refine ⟨_, _, readS_all (by exact hg_of) (by ((try dsimp only); (try simp only [List.length_append, List.length_map, List.length_cons, List.length_nil, List.length_take, List.length_set, List.length_replicate]); (try dsimp only); first | done | omega)), rfl, rfl, rfl, (hti), (by ((try dsimp only); (try simp only [List.length_append, List.length_map, List.length_cons, List.length_nil, List.length_take, List.length_set, List.length_replicate]); (try dsimp only); first | done | omega)), ?_⟩
        intro id47 hid47 ht47; have n47 := neAll_of hid47; (try simp only [neAll, neAll_hset] at n47); have m47 := n47; (repeat (obtain ⟨_, m47⟩ := m47))
        (first | refine au ?_ | exact au0 | fail)
        refine nextS (S := Nat × Option Nat) (i + 1, some id47) (by repeat (first | exact trivial | refine And.intro (Or.inl rfl) ?_ | refine And.intro (Or.inr (Exists.intro _ (And.intro rfl (Fz.refl _)))) ?_ | refine And.intro (Or.inr (Exists.intro _ (And.intro rfl (fz_eq (congrArg (AV.int _) (by omega)))))) ?_ | refine And.intro (Or.inr (Exists.intro _ (And.intro rfl (fz_eq (congrArg (AV.own _ _ _) (by (try dsimp only); (try simp only [List.length_append, List.length_map, List.length_cons, List.length_nil, List.length_take, List.length_set, List.length_replicate]); (try dsimp only); first | done | omega)))))) ?_)) ?_ (by dsimp only; omega) ⟨hil, by simp, fun j q => ?_⟩
        · dsimp only [accH]
          rw [htk, ← List.append_assoc]
          exact sub_of
        · simp only [Option.some.injEq] at q
          subst q
          exact ⟨ht47, by omega⟩
    · (first | refine au ?_ | exact au0 | fail)
      obtain rfl : i = t.its.length := by omega
      rw [List.take_length]
      refine accFz (by ((try dsimp only); (try simp only [List.length_append, List.length_map, List.length_cons, List.length_nil, List.length_take, List.length_set, List.length_replicate]); (try dsimp only); first | done | omega)) (fun q => ?_) (fun _ _ => rfl) ?_ (map_w (f := inR) (fun _ => rfl) _)
      · have := ho1 q
        rw [List.eq_nil_of_length_eq_zero (show pre.length = 0 by omega), List.eq_nil_of_length_eq_zero (show t.its.length = 0 by omega)]
        rfl
      · rw [hpre]
        simp only [List.map_cons, List.map_nil, List.map_map, List.cons_append, List.nil_append]
        exact FzR.refl _ _ _
  · rw [h1, h2, parts_no h1 h2 h3 h4]
    (first | refine au ?_ | exact au0 | fail)
    exact Fz.nil _
end Go.Proofs.YtodiahhfpcdejaaDoor

/- Types, walked: what is asked of a type. -/
namespace Go.Proofs.YtodiahhfpcdejaaDoor
set_option autoImplicit false
set_option linter.unusedSimpArgs false
set_option linter.unusedVariables false
attribute [local irreducible] callA callP ACalls
/-- What a type is asked with. -/
abbrev kB (l : List Ty) (n : Nat) (t : Ty) : Blk := .rows 8 [[tysA l, .int .i64 (n : Nat), .int .i64 t.kd, .str t.nm, .int .i64 t.bd, .int .i64 t.el, .int .i64 t.tg, .rows 5 (t.its.map itR)]]
/-- Sizes that memory lets be. -/
structure TyOk (t : Ty) : Prop where
  nm : t.nm.length ≤ 140737488351232
  its : t.its.length ≤ 4000000000000
  nms : ∀ x ∈ t.its, x.nm.length ≤ 140737488351232
  nums : ∀ x ∈ t.its, x.num < 18446744073709551616
structure TysOk (l : List Ty) : Prop where
  len : l.length ≤ 4000000000000
  all : ∀ t ∈ l, TyOk t
theorem kd4 {k : Int} (h : kNm k = true) : k = 9 ∨ k = 13 ∨ k = 14 := by simpa [kNm] using h
theorem kinds5 {k : Int} (h : ¬ (k < 1 ∨ 14 < k)) : (kNm k = false ∧ kBd k = false ∧ kEl k = false ∧ kTg k = false ∧ k ≤ 8) ∨ (kNm k = true ∧ kBd k = false ∧ kEl k = false ∧ kTg k = false ∧ (k = 9 ∨ k = 13)) ∨
    (kNm k = false ∧ kBd k = true ∧ kEl k = false ∧ kTg k = false ∧ k = 10) ∨ (kNm k = false ∧ kBd k = true ∧ kEl k = true ∧ kTg k = false ∧ (k = 11 ∨ k = 12)) ∨ (kNm k = true ∧ kBd k = false ∧ kEl k = false ∧ kTg k = true ∧ k = 14) := by
  have hk : k = 1 ∨ k = 2 ∨ k = 3 ∨ k = 4 ∨ k = 5 ∨ k = 6 ∨ k = 7 ∨ k = 8 ∨ k = 9 ∨ k = 10 ∨ k = 11 ∨ k = 12 ∨ k = 13 ∨ k = 14 := by omega
  rcases hk with rfl | rfl | rfl | rfl | rfl | rfl | rfl | rfl | rfl | rfl | rfl | rfl | rfl | rfl <;> decide
set_option maxHeartbeats 4000000 in
theorem form_spec (l : List Ty) (n : Nat) (t : Ty) (hok : TyOk t) (id : Nat) : SW PG types_look_form.n [.ptr id 8 0 0] id (kB l n t) [] (.int .i64 (formE t)) (kB l n t) := by
  have hlen : (t.its.map itR).length = t.its.length := by simp
  have hli := hok.its
  refine ACalls.fz (types_look_form.of rfl (wpF_start ?_))
  (first | refine au ?_ | exact au0 | fail)
  intro id3 hid3 ht3; have n3 := neAll_of hid3; (try simp only [neAll, neAll_hset] at n3); have m3 := n3; (repeat (obtain ⟨_, m3⟩ := m3))
  (first | refine au ?_ | exact au0 | fail)
  unfold formE
  by_cases hk : t.kd < 1 ∨ 14 < t.kd
  · rw [if_pos hk]
    (repeat' (first | (refine au ?_; first | refine bsplit_dec (fun _ => ?_) (fun _ => ?_) | refine bsplit_intro (fun _ => ?_) (fun _ => ?_)) | exact au0 | fail)); (all_goals try (first | refine au ?_ | fail))
    all_goals first | omega | exact ⟨fz_of, sub_of⟩
  rw [if_neg hk]
  refine bsplit_f (decide_eq_false (by omega)) ?_
  (first | refine au ?_ | exact au0 | fail)
  first | refine callF_eq (has_spec _ _) ?_ | refine callG_eq rfl (has_spec _ _) ?_
  have h0 : (0 : Int) < (t.its.map itR).length ↔ t.its ≠ [] := by rw [hlen]; cases t.its <;> simp
  rcases kinds5 hk with ⟨hN, hB, hE, hT, hh⟩ | ⟨hN, hB, hE, hT, hh⟩ | ⟨hN, hB, hE, hT, hh⟩ | ⟨hN, hB, hE, hT, hh⟩ | ⟨hN, hB, hE, hT, hh⟩
  all_goals by_cases hm : tyMore t = true
  all_goals simp only [hm, true_or, false_or, if_true]
  all_goals simp only [tyMore, decide_eq_true_eq] at hm
  all_goals rw [hN, hB, hE, hT] at hm ⊢
  all_goals (first | refine au ?_ | exact au0 | fail)
  all_goals (repeat' (first | (refine au ?_; first | refine bsplit_dec (fun _ => ?_) (fun _ => ?_) | refine bsplit_intro (fun _ => ?_) (fun _ => ?_)) | exact au0 | fail)); (all_goals try (first | refine au ?_ | fail))
  all_goals try (first | (exfalso; simp_all; done) | exact ⟨fz_of, sub_of⟩)
  all_goals refine loopL [(3, some _), (71, some _), (72, some _)] 73 0 t.its.length (none' (itMore t.kd) t.its) (by repeat (first | exact trivial | refine And.intro (Or.inl rfl) ?_ | refine And.intro (Or.inr (Exists.intro _ (And.intro rfl (Fz.refl _)))) ?_ | refine And.intro (Or.inr (Exists.intro _ (And.intro rfl (fz_eq (congrArg (AV.int _) (by omega)))))) ?_ | refine And.intro (Or.inr (Exists.intro _ (And.intro rfl (fz_eq (congrArg (AV.own _ _ _) (by (try dsimp only); (try simp only [List.length_append, List.length_map, List.length_cons, List.length_nil, List.length_take, List.length_set, List.length_replicate]); (try dsimp only); first | done | omega)))))) ?_)) (Nat.zero_le _) none'_zero (fun i hi hn => ?_)
  all_goals (first | refine au ?_ | exact au0 | fail)
  all_goals try refine bsplit_dec (fun c => ?_) (fun c => ?_)
  all_goals try (first | refine au ?_ | exact au0 | fail)
  all_goals first
    | (rw [none'_end hn (by omega)]; exact ⟨fz_of, sub_of⟩)
    | (exfalso; simp_all; done)
    | skip
  all_goals have hil : i < t.its.length := by omega
  all_goals have hge := row_get (f := itR) hil
  all_goals have hany : itMore t.kd t.its[i] = true → t.its.any (itMore t.kd) = true := any_hit hil
  all_goals have hnx := none'_succ hn hil
  all_goals generalize t.its[i] = x at *
  all_goals (first | refine au ?_ | exact au0 | fail)
  all_goals rw [hge]
  all_goals (first | refine au ?_ | exact au0 | fail)
  all_goals intro id9 hid9 ht9; have n9 := neAll_of hid9; (try simp only [neAll, neAll_hset] at n9); have m9 := n9; (repeat (obtain ⟨_, m9⟩ := m9))
  all_goals (repeat' (first | (refine au ?_; first | refine bsplit_dec (fun _ => ?_) (fun _ => ?_) | refine bsplit_intro (fun _ => ?_) (fun _ => ?_)) | exact au0 | fail)); (all_goals try (first | refine au ?_ | fail))
  all_goals first
    | (rw [hany (by unfold itMore; apply decide_eq_true; simp_all)]; exact ⟨fz_of, sub_of⟩)
    | (refine nextN (by repeat (first | exact trivial | refine And.intro (Or.inl rfl) ?_ | refine And.intro (Or.inr (Exists.intro _ (And.intro rfl (Fz.refl _)))) ?_ | refine And.intro (Or.inr (Exists.intro _ (And.intro rfl (fz_eq (congrArg (AV.int _) (by omega)))))) ?_ | refine And.intro (Or.inr (Exists.intro _ (And.intro rfl (fz_eq (congrArg (AV.own _ _ _) (by (try dsimp only); (try simp only [List.length_append, List.length_map, List.length_cons, List.length_nil, List.length_take, List.length_set, List.length_replicate]); (try dsimp only); first | done | omega)))))) ?_)) (by exact sub_of) (by omega) (hnx (by unfold itMore; apply decide_eq_false; simp_all)))
    | skip
end Go.Proofs.YtodiahhfpcdejaaDoor

/- Types, walked: a type's name and bound. -/
namespace Go.Proofs.YtodiahhfpcdejaaDoor
set_option autoImplicit false
set_option linter.unusedSimpArgs false
set_option linter.unusedVariables false
attribute [local irreducible] callA callP ACalls
theorem name_Name_spec (s : List UInt8) (hs : s.length ≤ 140737488351232) (H : AH) : ACalls PG name_Name.n [.str s] H fun r H' => r = .bool (nameOk s) ∧ H' = H := by
  refine ACalls.fz (name_Name.of rfl (wpF_start ?_))
  have e : nameOk s = decide (s ≠ [] ∧ s.length ≤ 16 ∧ nl s = s.length ∧ rsv.contains s = false) := by
    unfold nameOk
    cases h : rsv.contains s <;> simp [Bool.decide_and, Bool.and_assoc]
  rw [e]
  have hnl := nl_le s
  (repeat' (first | (refine au ?_; first | refine callF_eq (name_Lead_spec s hs _) ?_ | refine callF_eq (word_spec s _) ?_ | refine bsplit_dec (fun _ => ?_) (fun _ => ?_) | refine bsplit_intro (fun _ => ?_) (fun _ => ?_)) | exact au0 | fail)); (all_goals try (first | refine au ?_ | fail))
  all_goals (refine ⟨fz_eq (congrArg AV.bool ?_), sub_of⟩; first | (symm; apply decide_eq_false; simp_all; done) | (symm; apply decide_eq_true; simp_all; done) | (simp_all; done) | (symm; apply decide_eq_false; rintro ⟨_, h1, h2, _⟩; omega) | (cases hr : rsv.contains s; exact (decide_eq_true ⟨by assumption, by omega, by omega, rfl⟩).symm; exact (decide_eq_false (by simp)).symm))
theorem bound_spec (l : List Ty) (n : Nat) (t : Ty) (id : Nat) : SW PG types_look_bound.n [.ptr id 8 0 0] id (kB l n t) [] (.int .i64 (boundE t)) (kB l n t) := by
  refine ACalls.fz (types_look_bound.of rfl (wpF_start ?_))
  (first | refine au ?_ | exact au0 | fail)
  first | refine callF_eq (has_spec _ _) ?_ | refine callG_eq rfl (has_spec _ _) ?_
  unfold boundE
  cases hB : kBd t.kd <;> cases hE : kEl t.kd
  all_goals (first | refine au ?_ | exact au0 | fail)
  all_goals (repeat' (first | (refine au ?_; first | refine bsplit_dec (fun _ => ?_) (fun _ => ?_) | refine bsplit_intro (fun _ => ?_) (fun _ => ?_)) | exact au0 | fail)); (all_goals try (first | refine au ?_ | fail))
  all_goals (refine ⟨fz_eq (congrArg (AV.int .i64) ?_), sub_of⟩; first | (rw [if_pos (by simp_all)]; done) | (rw [if_neg (by simp_all)]; done) | skip)
theorem any_take {α : Type} {p : α → Bool} {l : List α} {n : Nat} : (l.take n).any p = true ↔ ∃ (i : Nat) (h : i < l.length), i < n ∧ p l[i] = true := by
  rw [List.any_eq_true]
  constructor
  · rintro ⟨x, hx, hp⟩
    obtain ⟨i, hi, rfl⟩ := List.getElem_of_mem hx
    rw [List.length_take] at hi
    exact ⟨i, by omega, by omega, by simpa using hp⟩
  · rintro ⟨i, hi, hn, hp⟩
    exact ⟨l[i], by rw [List.mem_iff_getElem]; exact ⟨i, by rw [List.length_take]; omega, by simp⟩, hp⟩
theorem take_any_no {α : Type} {p : α → Bool} {l : List α} {n i : Nat} (h : none' p l i) (hn : n ≤ i) : (l.take n).any p = false := by
  rw [Bool.eq_false_iff, ne_eq, any_take]
  rintro ⟨j, hj, hjn, hp⟩
  rw [h j hj (by omega)] at hp; cases hp
theorem named_spec (l : List Ty) (n : Nat) (t : Ty) (hok : TyOk t) (hl : TysOk l) (hn : n ≤ l.length) (id : Nat) : SW PG types_look_named.n [.ptr id 8 0 0] id (kB l n t) [] (.int .i64 (namedE l t n)) (kB l n t) := by
  have hlen : (l.map tyR).length = l.length := by simp
  have hll := hl.len
  refine ACalls.fz (types_look_named.of rfl (wpF_start ?_))
  unfold namedE
  (first | refine au ?_ | exact au0 | fail)
  first | refine callF_eq (has_spec _ _) ?_ | refine callG_eq rfl (has_spec _ _) ?_
  cases hN : kNm t.kd
  · (first | refine au ?_ | exact au0 | fail)
    exact ⟨fz_of, sub_of⟩
  (first | refine au ?_ | exact au0 | fail)
  first | refine callF_eq (name_Name_spec _ hok.nm _) ?_ | refine callG_eq rfl (name_Name_spec _ hok.nm _) ?_
  cases hO : nameOk t.nm
  · (first | refine au ?_ | exact au0 | fail)
    exact ⟨fz_of, sub_of⟩
  (first | refine au ?_ | exact au0 | fail)
  have e1 : List.drop (Int.toNat 0) (List.take (Int.toNat (n : Nat)) (l.map tyR)) = (l.take n).map tyR := by simp
  have hl2 : (l.take n).length = n := by rw [List.length_take]; omega
  rw [e1]
  have hlen2 : ((l.take n).map tyR).length = n := by simp; omega
  refine loopL [(0, some _), (37, some _), (38, some _)] 39 0 n (none' (fun x => x.nm == t.nm) (l.take n)) (by repeat (first | exact trivial | refine And.intro (Or.inl rfl) ?_ | refine And.intro (Or.inr (Exists.intro _ (And.intro rfl (Fz.refl _)))) ?_ | refine And.intro (Or.inr (Exists.intro _ (And.intro rfl (fz_eq (congrArg (AV.int _) (by omega)))))) ?_ | refine And.intro (Or.inr (Exists.intro _ (And.intro rfl (fz_eq (congrArg (AV.own _ _ _) (by (try dsimp only); (try simp only [List.length_append, List.length_map, List.length_cons, List.length_nil, List.length_take, List.length_set, List.length_replicate]); (try dsimp only); first | done | omega)))))) ?_)) (Nat.zero_le _) none'_zero (fun i hi hno => ?_)
  (first | refine au ?_ | exact au0 | fail)
  refine bsplit_dec (fun c => ?_) (fun c => ?_)
  · have hil : i < (l.take n).length := by omega
    have hge := row_get (f := tyR) hil
    have hany : ((l.take n)[i].nm == t.nm) = true → (l.take n).any (fun x => x.nm == t.nm) = true := any_hit (p := fun x : Ty => x.nm == t.nm) hil
    have hnx := none'_succ hno hil
    generalize (l.take n)[i] = x at *
    (first | refine au ?_ | exact au0 | fail)
    rw [hge]
    (first | refine au ?_ | exact au0 | fail)
    intro id8 hid8 ht8; have n8 := neAll_of hid8; (try simp only [neAll, neAll_hset] at n8); have m8 := n8; (repeat (obtain ⟨_, m8⟩ := m8))
    (first | refine au ?_ | exact au0 | fail)
    refine bsplit_dec (fun h => ?_) (fun h => ?_)
    · (first | refine au ?_ | exact au0 | fail)
      rw [hany (by simpa using h)]
      exact ⟨fz_of, sub_of⟩
    · (first | refine au ?_ | exact au0 | fail)
      refine nextN (by repeat (first | exact trivial | refine And.intro (Or.inl rfl) ?_ | refine And.intro (Or.inr (Exists.intro _ (And.intro rfl (Fz.refl _)))) ?_ | refine And.intro (Or.inr (Exists.intro _ (And.intro rfl (fz_eq (congrArg (AV.int _) (by omega)))))) ?_ | refine And.intro (Or.inr (Exists.intro _ (And.intro rfl (fz_eq (congrArg (AV.own _ _ _) (by (try dsimp only); (try simp only [List.length_append, List.length_map, List.length_cons, List.length_nil, List.length_take, List.length_set, List.length_replicate]); (try dsimp only); first | done | omega)))))) ?_)) (by exact sub_of) (by omega) (hnx (by simpa using h))
  · (first | refine au ?_ | exact au0 | fail)
    rw [none'_end hno (by omega)]
    exact ⟨fz_of, sub_of⟩
theorem parts_spec (t : Ty) (ht : t.its.length ≤ 4000000000000) (H : AH) : ACalls PG types_parts.n [.agg (tyR t)] H fun r H' => r = .rows 1 ((parts t).map inR) ∧ H' = H := (parts_spec0 t ht).frame H
theorem parts_len (t : Ty) : (parts t).length ≤ t.its.length + 2 := by
  unfold parts
  simp only [List.length_append]
  have : (if kEl t.kd = true then [t.el] else []).length ≤ 1 := by split <;> simp
  have : (if kTg t.kd = true then [t.tg] else []).length ≤ 1 := by split <;> simp
  have : (if t.kd = 13 ∨ t.kd = 14 then t.its.map (·.ty) else []).length ≤ t.its.length := by split <;> simp
  omega
theorem parts_tag {t : Ty} (h : t.kd = 14) : t.tg ∈ parts t := by
  unfold parts; rw [show kTg t.kd = true from by simp [kTg, h], if_pos rfl]; simp
theorem order_spec (l : List Ty) (n : Nat) (t : Ty) (hok : TyOk t) (hl : TysOk l) (hn : n < l.length) (id : Nat) : SW PG types_look_order.n [.ptr id 8 0 0] id (kB l n t) [] (.int .i64 (orderE l t n)) (kB l n t) := by
  have hlen : (l.map tyR).length = l.length := by simp
  have hll := hl.len
  have hil := hok.its
  have hpl := parts_len t
  have hplm : ((parts t).map inR).length = (parts t).length := by simp
  refine ACalls.fz (types_look_order.of rfl (wpF_start ?_))
  unfold orderE
  (first | refine au ?_ | exact au0 | fail)
  first | refine callF_eq (parts_spec t hok.its _) ?_ | refine callG_eq rfl (parts_spec t hok.its _) ?_
  (first | refine au ?_ | exact au0 | fail)
  refine loopL [(0, some _), (9, some _), (10, some _)] 11 0 (parts t).length (none' (fun p => decide (p < 0 ∨ (n : Int) ≤ p)) (parts t)) (by repeat (first | exact trivial | refine And.intro (Or.inl rfl) ?_ | refine And.intro (Or.inr (Exists.intro _ (And.intro rfl (Fz.refl _)))) ?_ | refine And.intro (Or.inr (Exists.intro _ (And.intro rfl (fz_eq (congrArg (AV.int _) (by omega)))))) ?_ | refine And.intro (Or.inr (Exists.intro _ (And.intro rfl (fz_eq (congrArg (AV.own _ _ _) (by (try dsimp only); (try simp only [List.length_append, List.length_map, List.length_cons, List.length_nil, List.length_take, List.length_set, List.length_replicate]); (try dsimp only); first | done | omega)))))) ?_)) (Nat.zero_le _) none'_zero (fun i hi hno => ?_)
  (first | refine au ?_ | exact au0 | fail)
  refine bsplit_dec (fun c => ?_) (fun c => ?_)
  · have hpi : i < (parts t).length := by omega
    have hge := row_get (f := inR) hpi
    have hany : decide ((parts t)[i] < 0 ∨ (n : Int) ≤ (parts t)[i]) = true → (parts t).any (fun p => decide (p < 0 ∨ (n : Int) ≤ p)) = true := any_hit (p := fun p => decide (p < 0 ∨ (n : Int) ≤ p)) hpi
    have hnx := none'_succ hno hpi
    generalize (parts t)[i] = x at *
    (first | refine au ?_ | exact au0 | fail)
    rw [hge]
    (first | refine au ?_ | exact au0 | fail)
    (repeat' (first | (refine au ?_; first | refine bsplit_dec (fun _ => ?_) (fun _ => ?_) | refine bsplit_intro (fun _ => ?_) (fun _ => ?_)) | exact au0 | fail)); (all_goals try (first | refine au ?_ | fail))
    · rw [hany (decide_eq_true (by omega))]
      exact ⟨fz_of, sub_of⟩
    · rw [hany (decide_eq_true (by omega))]
      exact ⟨fz_of, sub_of⟩
    · refine nextN (by repeat (first | exact trivial | refine And.intro (Or.inl rfl) ?_ | refine And.intro (Or.inr (Exists.intro _ (And.intro rfl (Fz.refl _)))) ?_ | refine And.intro (Or.inr (Exists.intro _ (And.intro rfl (fz_eq (congrArg (AV.int _) (by omega)))))) ?_ | refine And.intro (Or.inr (Exists.intro _ (And.intro rfl (fz_eq (congrArg (AV.own _ _ _) (by (try dsimp only); (try simp only [List.length_append, List.length_map, List.length_cons, List.length_nil, List.length_take, List.length_set, List.length_replicate]); (try dsimp only); first | done | omega)))))) ?_)) (by exact sub_of) (by omega) (hnx (decide_eq_false (by omega)))
  · have hany := none'_end hno (show (parts t).length ≤ i by omega)
    rw [hany]
    (first | refine au ?_ | exact au0 | fail)
    refine bsplit_dec (fun h => ?_) (fun h => ?_)
    · have hm := parts_tag h
      rw [List.any_eq_false] at hany
      have hq := hany _ hm
      simp only [decide_eq_true_eq] at hq
      have hge := row_get (f := tyR) (l := l) (i := t.tg.toNat) (by omega)
      rw [Int.toNat_natCast] at hge
      have htt : tAt l t.tg = l[t.tg.toNat]'(by omega) := by unfold tAt; simp [List.getD, show t.tg.toNat < l.length from by omega]
      generalize l[t.tg.toNat]'(by omega) = g at *
      (first | refine au ?_ | exact au0 | fail)
      rw [hge]
      (first | refine au ?_ | exact au0 | fail)
      first | refine callF_eq (prim_Number_spec _ _) ?_ | refine callG_eq rfl (prim_Number_spec _ _) ?_
      rw [htt]
      cases hI : isNum g.kd
      · (first | refine au ?_ | exact au0 | fail)
        exact ⟨fz_eq (by simp [h]), sub_of⟩
      · (first | refine au ?_ | exact au0 | fail)
        exact ⟨fz_eq (by simp), sub_of⟩
    · (first | refine au ?_ | exact au0 | fail)
      exact ⟨fz_eq (by simp [h]), sub_of⟩
end Go.Proofs.YtodiahhfpcdejaaDoor
