/- The operations of the model that touch no memory, and reading, met by what abstract values say. -/
import Derived.Test.YtlmplofpclaokaaSimWp
import Derived.Laws.AppendOwn
import Derived.Laws.MakeOwn
import Derived.Laws.Slices
import Derived.Laws.StructEq
namespace Go.Proofs.Ytlmplofpclaokaa
set_option autoImplicit false
set_option linter.unusedSimpArgs false
set_option linter.unusedVariables false

def FR (h : Array Obj) (ρ : Loc) (Z : Nat → Prop) (s : Fr) (a : Act) : Prop := ∀ t v, s t = some v → Rl h ρ Z v (a.tmps.getD t undef)

section
variable {h : Array Obj} {ρ : Loc} {Z : Nat → Prop} {s : Fr} {a : Act}

theorem constAV1_rl {v : Value} {x : AV} (hh : constAV1 v = some x) : Rl h ρ Z x v ∧ (x.isCell = true) := by
  unfold constAV1 at hh
  split at hh <;> simp only [Option.some.injEq, reduceCtorEq] at hh <;> subst hh
  · exact ⟨.int _ _, rfl⟩
  · exact ⟨.bool _, rfl⟩
  · exact ⟨.str _ _ rfl, rfl⟩
  · exact ⟨.nilS, rfl⟩
  · exact ⟨.nilP, rfl⟩
  · exact ⟨.nilF, rfl⟩
  · exact ⟨.nilI, rfl⟩

theorem constL_rl : ∀ {vs : List Value} {as : List AV}, constL vs = some as → as.length = vs.length ∧
    ∀ (i : Nat) x v, as[i]? = some x → vs[i]? = some v → Rl h ρ Z x v ∧ x.isCell = true
  | [], as, hh => by simp [constL] at hh; subst hh; simp
  | v :: vs, as, hh => by
    simp only [constL, Option.bind_eq_some_iff] at hh
    obtain ⟨x, h1, xs, h2, h3⟩ := hh
    simp only [Option.some.injEq] at h3
    subst h3
    obtain ⟨hl, hr⟩ := constL_rl h2
    refine ⟨by simp [hl], fun i y u h4 h5 => ?_⟩
    cases i with
    | zero => simp at h4 h5; subst h4; subst h5; exact constAV1_rl h1
    | succ i => simp at h4 h5; exact hr i y u h4 h5

theorem constAV_rl {v : Value} {x : AV} (hh : constAV v = some x) : Rl h ρ Z x v := by
  unfold constAV at hh
  split at hh
  · rename_i cs
    simp only [Option.map_eq_some_iff] at hh
    obtain ⟨as, h1, rfl⟩ := hh
    obtain ⟨hl, hr⟩ := constL_rl (h := h) (ρ := ρ) (Z := Z) h1
    have := Rl.agg (h := h) (ρ := ρ) (Z := Z) as cs.toList hl (fun i v hv => by
      have hi : i < cs.toList.length := by rw [← hl]; exact (List.getElem?_eq_some_iff.1 hv).1
      exact (hr i v _ hv (List.getElem?_eq_getElem hi)).2) (fun i v x h2 h3 => (hr i v x h2 h3).1)
    simpa using this
  · exact (constAV1_rl hh).1

/-- What is said of a value's cells. -/
def CellsRl (h : Array Obj) (ρ : Loc) (Z : Nat → Prop) (cs : List AV) (xs : List Value) : Prop :=
  cs.length = xs.length ∧ ∀ (i : Nat) c x, cs[i]? = some c → xs[i]? = some x → c.isCell = true ∧ Rl h ρ Z c x

theorem constCells_rl {v : Value} {cs : List AV} (hh : constCells v = some cs) : CellsRl h ρ Z cs v.cells.toList := by
  unfold constCells at hh
  split at hh
  · obtain ⟨hl, hr⟩ := constL_rl (h := h) (ρ := ρ) (Z := Z) hh
    exact ⟨hl, fun i c x h1 h2 => (hr i c x h1 h2).symm⟩
  · rename_i hne
    simp only [Option.map_eq_some_iff] at hh
    obtain ⟨x, h1, rfl⟩ := hh
    have hc : v.cells = #[v] := by
      cases v <;> first | rfl | (exact absurd rfl (hne _))
    rw [hc]
    refine ⟨rfl, fun i c y h2 h3 => ?_⟩
    cases i with
    | zero => simp at h2 h3; subst h2; subst h3; exact (constAV1_rl h1).symm
    | succ i => simp at h2

theorem Rl.one {c : AV} {x : Value} (hr : Rl h ρ Z c x) (hc : c.isCell = true) : x.oneCell' = true := by
  cases hr <;> first | rfl | (simp [AV.isCell] at hc)

theorem Rl.cells {v : AV} {x : Value} (hr : Rl h ρ Z v x) (hc : allCells v.cells = true) : CellsRl h ρ Z v.cells x.cells.toList := by
  cases hr with
  | agg cs vs hl hcc hr =>
    simp only [AV.cells, Value.cells]
    exact ⟨by simpa using hl, fun i c x h1 h2 => ⟨hcc i c h1, hr i c x h1 (by simpa using h2)⟩⟩
  | tup cs vs hl hr => simp [allCells, AV.cells, AV.isCell] at hc
  | _ =>
    simp only [AV.cells, Value.cells]
    refine ⟨rfl, fun i c y h1 h2 => ?_⟩
    cases i with
    | zero => simp at h1 h2; subst h1; subst h2; exact ⟨rfl, by first | (constructor; done) | (constructor <;> assumption)⟩
    | succ i => simp at h1

theorem ev_rl (hF : FR h ρ Z s a) {x : Operand} {v : AV} (hx : ev s (cx x) = some v) : Rl h ρ Z v (a.eval x) := by
  cases x with
  | tmp t => exact hF t v hx
  | const c =>
    simp only [cx] at hx
    cases hc : constAV c with
    | none => simp [hc, ev] at hx
    | some y => simp only [hc, ev, Option.some.injEq] at hx; subst hx; exact constAV_rl hc
  | global g => simp [cx, ev] at hx
  | func f =>
    simp only [cx, ev, Option.some.injEq] at hx
    subst hx
    exact .clo f [] [] [] [] rfl rfl (by simp) (by simp)

theorem RlL.nil : RlL h ρ Z [] [] := ⟨rfl, by simp⟩
theorem RlL.cons {v : AV} {x : Value} {vs : List AV} {xs : List Value} (h1 : Rl h ρ Z v x) (h2 : RlL h ρ Z vs xs) : RlL h ρ Z (v :: vs) (x :: xs) :=
  ⟨by simp [h2.1], fun i u y a b => by
    cases i with
    | zero => simp at a b; subst a; subst b; exact h1
    | succ i => simp at a b; exact h2.2 i u y a b⟩
theorem RlL.append {vs vs' : List AV} {xs xs' : List Value} (h1 : RlL h ρ Z vs xs) (h2 : RlL h ρ Z vs' xs') : RlL h ρ Z (vs ++ vs') (xs ++ xs') := by
  refine ⟨by simp [h1.1, h2.1], fun i u y a b => ?_⟩
  have hl := h1.1
  by_cases hi : i < vs.length
  · rw [List.getElem?_append_left hi] at a
    rw [List.getElem?_append_left (by omega)] at b
    exact h1.2 i u y a b
  · rw [List.getElem?_append_right (by omega)] at a
    rw [List.getElem?_append_right (by omega)] at b
    rw [← hl] at b
    exact h2.2 _ u y a b

theorem evL_rl (hF : FR h ρ Z s a) : ∀ {xs : List Operand} {vs : List AV}, evL s (cxL xs) = some vs → RlL h ρ Z vs (xs.map a.eval)
  | [], vs, hh => by simp [cxL, evL] at hh; subst hh; exact .nil
  | x :: xs, vs, hh => by
    simp only [cxL, evL, Option.bind_eq_some_iff] at hh
    obtain ⟨v, h1, us, h2, h3⟩ := hh
    simp only [Option.some.injEq] at h3
    subst h3
    exact .cons (ev_rl hF h1) (evL_rl hF h2)

/-- Reading at an address. -/
theorem readA_rl {H : AH} (g : Good h ρ Z H) {v : AV} {x : Value} {cs : List AV} (hr : Rl h ρ Z v x) (hc : readA H v = some cs) :
    ∃ b o, x = .pointer (some ⟨b, o, none⟩) ∧ ∀ (k : Nat) c, cs[k]? = some c → c.isCell = true ∧ ∃ y, hcell h b (o + k) = some y ∧ Rl h ρ Z c y := by
  cases hr with
  | ptr id sz i j b o0 hρ =>
    simp only [readA] at hc
    cases hg : hget H id with
    | none => simp [hg] at hc
    | some blk =>
      cases blk with
      | rows sz' l =>
        simp only [hg] at hc
        split at hc
        · rename_i e
          subst e
          simp only [Option.map_eq_some_iff] at hc
          obtain ⟨r, h1, rfl⟩ := hc
          obtain ⟨b', o0', h2, ds, e, h3, h4, h5, h6⟩ := g.blk id _ hg
          rw [hρ] at h2
          obtain ⟨rfl, rfl⟩ : b = b' ∧ o0 = o0' := by simpa using h2
          refine ⟨b, _, rfl, fun k c hk => ?_⟩
          rw [List.getElem?_drop] at hk
          obtain ⟨h7, y, h8, h9⟩ := h6 i r _ c h1 hk
          refine ⟨h7, y, ?_, h9⟩
          unfold hcell
          rw [h3]
          simp only
          rw [← h8]
          congr 1
          omega
        · cases hc
  | fp cs' b o f hz hcc hm hr =>
    simp only [readA, Option.some.injEq] at hc
    subst hc
    exact ⟨b, o, rfl, fun k c hk => ⟨hcc k c hk, f k, hm k c hk, hr k c hk⟩⟩
  | _ => simp [readA] at hc

end
end Go.Proofs.Ytlmplofpclaokaa
