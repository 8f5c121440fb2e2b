/- Words for those who use the predicate transformer. -/
import Derived.Test.YtlmplofpclaokaaSimSound
namespace Go.Proofs.Ytlmplofpclaokaa
set_option autoImplicit false
set_option linter.unusedSimpArgs false
set_option linter.unusedVariables false

theorem Sub.refl (H : AH) : Sub H H := fun _ _ h => h
theorem Sub.cons {Hc H : AH} {id : Nat} {b : Blk} (h : Sub Hc H) (hid : hget H id = none) : Sub Hc ((id, b) :: H) := fun j c q => by
  simp only [hget]
  split
  · rename_i e
    have := h j c q
    rw [e, hid] at this
    cases this
  · exact h j c q
theorem FzL.refl (H Hc : AH) (vs : List AV) : FzL H Hc vs vs := ⟨rfl, fun i v v' a b => by rw [a] at b; simp only [Option.some.injEq] at b; rw [b]; exact .refl _⟩

section
variable {P : Program} {f : Nat} {args : List AV} {H : AH} {K : AV → AH → Prop} {r : AV}

/-- A call by its contract. -/
theorem callA_of (h : ACalls P f args H K) : callA P f args H K := ⟨args, H, Sub.refl H, FzL.refl _ _ _, .inl h⟩
theorem callA_eq (h : ACalls P f args H fun r' H' => r' = r ∧ H' = H) (k : K r H) : callA P f args H K :=
  callA_of (h.mono fun r' H' ⟨a, b⟩ => by rw [a, b]; exact k)
theorem ACalls_eq (h : ACalls P f args H fun r' H' => r' = r ∧ H' = H) (k : K r H) : ACalls P f args H K :=
  h.mono fun r' H' ⟨a, b⟩ => by rw [a, b]; exact k
theorem NoId.plain (h : r.plain = true) : NoId r := fun _ _ _ _ _ q => q.plain h
/-- A function that owns nothing of the caller's and hands back a plain value. -/
theorem ACalls.plain (hp : r.plain = true) (h : ACalls P f args [] fun r' _ => r' = r) : ACalls P f args H fun r' H' => r' = r ∧ H' = H :=
  ⟨h.1, fun w ρ Z xs g hr => callA_calls (K := fun r' H' => r' = r ∧ H' = H)
    ⟨args, [], fun _ _ q => (by cases q), FzL.refl _ _ _, .inr (h.mono fun r' _ e => by rw [e]; exact ⟨hp, rfl, rfl⟩)⟩ g hr⟩
theorem callP_plain (hp : r.plain = true) (h : ACalls P f args H fun r' H' => r' = r ∧ H' = H) : callP P f args H r := .inl ⟨NoId.plain hp, h⟩

end

theorem wrap_id {n : Int} (h1 : -9223372036854775808 ≤ n) (h2 : n ≤ 9223372036854775807) : IntKind.i64.wrap n = n := by rw [IntKind.wrap_i64]; omega

theorem OA_some {α : Type} (x : α) (f : α → Prop) : OA (some x) f = f x := rfl
theorem OA_none {α : Type} (f : α → Prop) : OA (none : Option α) f = False := rfl
theorem OA_ite {α : Type} (c : Prop) [Decidable c] (x y : Option α) (f : α → Prop) : OA (if c then x else y) f = if c then OA x f else OA y f := by split <;> rfl
theorem ite_bind {α β : Type} (c : Prop) [Decidable c] (x y : Option α) (f : α → Option β) : (if c then x else y).bind f = if c then x.bind f else y.bind f := by split <;> rfl
theorem ite_false_and (c p : Prop) [Decidable c] : (if c then p else False) = (c ∧ p) := by
  apply propext
  split
  · rename_i h; exact ⟨fun q => ⟨h, q⟩, fun q => q.2⟩
  · rename_i h; exact ⟨fun q => q.elim, fun q => h q.1⟩
theorem ex_bool {b : Bool} {p : Bool → Prop} : (∃ q, some (AV.bool b) = some (AV.bool q) ∧ p q) = p b := by
  apply propext
  constructor
  · rintro ⟨q, h, k⟩; simp only [Option.some.injEq, AV.bool.injEq] at h; rw [h]; exact k
  · exact fun k => ⟨b, rfl, k⟩
theorem Fr.set_get (s : Fr) (d t : Nat) (x : AV) : (s.set d x) t = if t = d then some x else s t := rfl
theorem Fr.clr_get (s : Fr) (d t : Nat) : (s.clr d) t = if t = d then none else s t := rfl
theorem initFr_get (args : List AV) (t : Nat) : initFr args t = args[t]? := rfl

end Go.Proofs.Ytlmplofpclaokaa
