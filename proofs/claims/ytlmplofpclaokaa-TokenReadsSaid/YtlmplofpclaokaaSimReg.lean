/- Regions: in the order of the text, and in any order. -/
import Derived.Test.YtlmplofpclaokaaSimCall
namespace Go.Proofs.Ytlmplofpclaokaa
set_option autoImplicit false
set_option linter.unusedSimpArgs false
set_option linter.unusedVariables false

/-- Where a run began: a world, a place of ids, what nobody writes, what is owned; how many temporaries. -/
structure Beg where
  w : World
  ρ : Loc
  Z : Nat → Prop
  O : Nat → Prop
  N : Nat

structure Inv (B : Beg) (w : World) (ρ : Loc) (Z : Nat → Prop) (H : AH) (s : Fr) (a : Act) : Prop where
  good : Good w.heap ρ Z H
  fr : FR w.heap ρ Z s a
  ext : Ext B.w B.ρ B.Z B.O w ρ Z (Own ρ H)
  size : a.tmps.size = B.N
  defers : a.defers = []

def LQ (B : Beg) (Q : Exit → Fr → AH → Prop) : Exit → Act → World → Prop := fun e a w => ∃ s H ρ Z, Inv B w ρ Z H s a ∧ Q e s H

section
variable {P : Program} {w : World} {ρ : Loc} {Z : Nat → Prop} {H : AH} {s : Fr} {a : Act} {B : Beg} {fl : List Nat}

theorem FR.ext {w' : World} {ρ' : Loc} {Z' O' : Nat → Prop} (g : Good w.heap ρ Z H) (h : FR w.heap ρ Z s a) (e : Ext w ρ Z (Own ρ H) w' ρ' Z' O') : FR w'.heap ρ' Z' s a :=
  fun t v q => (h t v q).ext e g.notZ g.zlt

theorem getD_put {d t : Nat} {x : Value} (hd : d < a.tmps.size) : (a.put (some d) x).tmps.getD t undef = if t = d then x else a.tmps.getD t undef := by
  simp only [Act.put, Array.getD_eq_getD_getElem?, Array.getElem?_setIfInBounds]
  by_cases e : d = t
  · subst e; simp [hd]
  · rw [if_neg e, if_neg (fun q => e q.symm)]

theorem FR.put {dst : Option Nat} {v : AV} {x : Value} (h : FR w.heap ρ Z s a) (hd : ∀ d, dst = some d → d < a.tmps.size) (hr : Rl w.heap ρ Z v x) : FR w.heap ρ Z (s.put dst v) (a.put dst x) := by
  cases dst with
  | none => exact h
  | some d =>
    intro t u q
    rw [getD_put (hd d rfl)]
    simp only [Fr.put, Fr.set] at q
    split at q
    · rename_i e; rw [if_pos e]; simp only [Option.some.injEq] at q; rw [← q]; exact hr
    · rename_i e; rw [if_neg e]; exact h t u q

theorem FR.del {dst : Option Nat} {x : Value} (h : FR w.heap ρ Z s a) (hd : ∀ d, dst = some d → d < a.tmps.size) : FR w.heap ρ Z (s.del dst) (a.put dst x) := by
  cases dst with
  | none => exact h
  | some d =>
    intro t u q
    rw [getD_put (hd d rfl)]
    simp only [Fr.del, Fr.clr] at q
    split at q
    · cases q
    · rename_i e; rw [if_neg e]; exact h t u q

theorem size_put (dst : Option Nat) (x : Value) : (a.put dst x).tmps.size = a.tmps.size := by cases dst <;> simp [Act.put]
theorem defers_put (dst : Option Nat) (x : Value) : (a.put dst x).defers = a.defers := by cases dst <;> rfl

/-- An operation that the abstract one lets by. -/
theorem step_out {o : Oper} {rs : Rs} {K : Fr → AH → Prop} {next : Act → World → Prop} {Q : Exit → Act → World → Prop} (hi : Inv B w ρ Z H s a) (hd : ∀ d, o.dst = some d → d < B.N) (he : evalOp s H (compOp P (litOf fl o.dst) o.op) = some rs)
    (hk : applyRs P rs o.dst s H K) (hn : ∀ a' w' ρ' Z' H' s', Inv B w' ρ' Z' H' s' a' → K s' H' → next a' w') : o.wp P a w next Q := by
  have ho := op_out hi.good hi.fr he
  have hd' : ∀ d, o.dst = some d → d < a.tmps.size := fun d q => by rw [hi.size]; exact hd d q
  unfold Oper.wp
  cases rs with
  | val v =>
    obtain ⟨x, w', Z', hr, g, hv, e⟩ := ho
    rw [hr, Oper.upon_value]
    exact hn _ _ ρ Z' H _ ⟨g, (hi.fr.ext hi.good e).put hd' hv, hi.ext.trans e, by rw [size_put]; exact hi.size, by rw [defers_put]; exact hi.defers⟩ hk
  | upd H' =>
    obtain ⟨w', hr, g, e⟩ := ho
    rw [hr, Oper.upon_skip]
    exact hn _ _ ρ Z H' _ ⟨g, (hi.fr.ext hi.good e).del hd', hi.ext.trans e, by rw [size_put]; exact hi.size, by rw [defers_put]; exact hi.defers⟩ hk
  | valH v H' =>
    obtain ⟨x, w', Z', hr, g, hv, e⟩ := ho
    rw [hr, Oper.upon_value]
    exact hn _ _ ρ Z' H' _ ⟨g, (hi.fr.ext hi.good e).put hd' hv, hi.ext.trans e, by rw [size_put]; exact hi.size, by rw [defers_put]; exact hi.defers⟩ hk
  | fresh T blk vf H' =>
    obtain ⟨N0, hN0⟩ := hi.good.ids
    obtain ⟨N, hle, htg⟩ := exists_tag N0 T
    have hN : ρ N = none := hN0 N hle
    obtain ⟨x, w', ρ', hr, _, g, hv, e⟩ := ho N hN htg
    have hfresh : hget H N = none := by
      cases hh : hget H N with
      | none => rfl
      | some b =>
        obtain ⟨k, o, q, _⟩ := hi.good.blk N b hh
        rw [hN] at q
        cases q
    rw [hr, Oper.upon_value]
    exact hn _ _ ρ' Z _ _ ⟨g, (hi.fr.ext hi.good e).put hd' hv, hi.ext.trans e, by rw [size_put]; exact hi.size, by rw [defers_put]; exact hi.defers⟩ (hk N hfresh htg)
  | call f args =>
    have hcl : callable P f = true := by
      obtain ⟨_, _, _, _, h | h⟩ := hk
      · exact h.1
      · exact h.1
    obtain ⟨xs, hr, hl⟩ := ho hcl
    rw [hr, Oper.upon_enter]
    refine (callA_calls hk hi.good hl).mono fun e w' ⟨x, r, H', ρ', Z', q1, g, hv, ex, k⟩ => ?_
    subst q1
    exact hn _ _ ρ' Z' H' _ ⟨g, (hi.fr.ext hi.good ex).put hd' hv, hi.ext.trans ex, by rw [size_put]; exact hi.size, by rw [defers_put]; exact hi.defers⟩ k

theorem yielded_of {ops : Array Oper} {o oj : Oper} {j d : Nat} {want q : Bool} (hF : FR w.heap ρ Z s a) (hg : o.guard = some (j, want)) (hj : ops[j]? = some oj) (hdst : oj.dst = some d) (hs : s d = some (.bool q)) :
    Region.wanted o (yielded ops a.tmps) = (q == want) := by
  have hr := hF d _ hs
  have hb : a.tmps[d]? = some (.bool q) := by
    generalize hx : a.tmps.getD d undef = x at hr
    cases hr
    rw [Array.getD_eq_getD_getElem?] at hx
    cases hh : a.tmps[d]? with
    | none => rw [hh] at hx; simp [undef] at hx
    | some y => rw [hh] at hx; simpa using hx
  simp only [Region.wanted, hg, yielded, hj, Option.bind_some, hdst, hb]
  cases q <;> cases want <;> rfl

/-- What was not carried out is not wanted by any guard. -/
theorem yielded_un {ops : Array Oper} {o oj : Oper} {j d : Nat} {want : Bool} (hF : FR w.heap ρ Z s a) (hg : o.guard = some (j, want)) (hj : ops[j]? = some oj) (hdst : oj.dst = some d) (hs : s d = some (.tup [])) :
    Region.wanted o (yielded ops a.tmps) = false := by
  have hr := hF d _ hs
  generalize hx : a.tmps.getD d undef = x at hr
  cases hr with
  | tup cs vs hl hq =>
    rw [Array.getD_eq_getD_getElem?] at hx
    simp only [Region.wanted, hg, yielded, hj, Option.bind_some, hdst]
    cases hh : a.tmps[d]? with
    | none => cases want <;> rfl
    | some y => rw [hh] at hx; simp only [Option.getD_some] at hx; rw [hx]; cases want <;> rfl

theorem Rl_un (h : Array Obj) (ρ : Loc) (Z : Nat → Prop) : Rl h ρ Z (.tup []) undef := .tup [] [] rfl (by simp)

theorem compOper_guard {ops : Array Oper} {o : Oper} {g : Option (Nat × Bool)} (h : guardOf ops o.guard = some g) : compOper P fl ops o = { dst := o.dst, guard := g, co := compOp P (litOf fl o.dst) o.op } := by
  unfold compOper; rw [h]

theorem guardOf_some {ops : Array Oper} {gd : Option (Nat × Bool)} {d : Nat} {q : Bool} (h : guardOf ops gd = some (some (d, q))) : ∃ j oj, gd = some (j, q) ∧ ops[j]? = some oj ∧ oj.dst = some d := by
  cases gd with
  | none => simp [guardOf] at h
  | some p =>
    obtain ⟨j, q'⟩ := p
    simp only [guardOf] at h
    cases hj : ops[j]? with
    | none => simp [hj] at h
    | some oj =>
      simp only [hj] at h
      cases hd : oj.dst with
      | none => simp [hd] at h
      | some d' =>
        simp only [hd, Option.some.injEq, Prod.mk.injEq] at h
        obtain ⟨rfl, rfl⟩ := h
        exact ⟨j, oj, rfl, hj, hd⟩

theorem guardOf_none {ops : Array Oper} {gd : Option (Nat × Bool)} (h : guardOf ops gd = some none) : gd = none := by
  cases gd with
  | none => rfl
  | some p =>
    obtain ⟨j, q'⟩ := p
    simp only [guardOf] at h
    cases hj : ops[j]? with
    | none => simp [hj] at h
    | some oj =>
      simp only [hj] at h
      cases hd : oj.dst <;> simp [hd] at h

/-- One operation, guard and all. -/
theorem oper_out {ops : Array Oper} {o : Oper} {os : List COp} {K : Fr → AH → Prop} {next : Act → World → Prop} {Q : Exit → Act → World → Prop} (hi : Inv B w ρ Z H s a) (hd : ∀ d, o.dst = some d → d < B.N)
    (h : wpOps P (compOper P fl ops o :: os) K s H) (hn : ∀ a' w' ρ' Z' H' s', Inv B w' ρ' Z' H' s' a' → wpOps P os K s' H' → next a' w') :
    if Region.wanted o (yielded ops a.tmps) then o.wp P a w next Q else next (a.put o.dst undef) w := by
  have hd' : ∀ d, o.dst = some d → d < a.tmps.size := fun d q => by rw [hi.size]; exact hd d q
  cases hg : guardOf ops o.guard with
  | none =>
    unfold compOper at h
    rw [hg] at h
    simp [wpOps, evalOp, OA] at h
  | some gd =>
    rw [compOper_guard hg] at h
    cases gd with
    | none =>
      have hgn := guardOf_none hg
      simp only [wpOps, OA_iff] at h
      obtain ⟨rs, he, hk⟩ := h
      rw [if_pos (by simp [Region.wanted, hgn])]
      exact step_out hi hd he hk hn
    | some p =>
      obtain ⟨d, want⟩ := p
      obtain ⟨j, oj, hgj, hj, hdst⟩ := guardOf_some hg
      simp only [wpOps, OA_iff] at h
      rcases h with ⟨q, hs, h1, h2⟩ | ⟨hs, h2⟩
      rotate_left
      · rw [if_neg (by rw [yielded_un hi.fr hgj hj hdst hs]; simp)]
        exact hn _ _ ρ Z H _ ⟨hi.good, hi.fr.put hd' (Rl_un _ _ _), hi.ext, by rw [size_put]; exact hi.size, by rw [defers_put]; exact hi.defers⟩ h2
      have hw := yielded_of hi.fr hgj hj hdst hs
      by_cases hq : q = want
      · rw [if_pos (by rw [hw]; simp [hq])]
        obtain ⟨rs, he, hk⟩ := h1 hq
        exact step_out hi hd he hk hn
      · rw [if_neg (by rw [hw]; simpa using hq)]
        have hq' : q = !want := by cases q <;> cases want <;> simp_all
        exact hn _ _ ρ Z H _ ⟨hi.good, hi.fr.put hd' (Rl_un _ _ _), hi.ext, by rw [size_put]; exact hi.size, by rw [defers_put]; exact hi.defers⟩ (h2 hq')

def dstOk (N : Nat) (o : COp) : Bool := match o.dst with | some d => decide (d < N) | none => true

theorem compOper_dst {fl : List Nat} (ops : Array Oper) (o : Oper) : (compOper P fl ops o).dst = o.dst := by unfold compOper; split <;> rfl

theorem dstOk_spec {ops : Array Oper} {o : Oper} {N : Nat} (h : dstOk N (compOper P fl ops o) = true) : ∀ d, o.dst = some d → d < N := by
  intro d hd
  unfold dstOk at h
  rw [compOper_dst, hd] at h
  simpa using h

theorem wpOps_list {ops : Array Oper} {K : Fr → AH → Prop} {Q : Exit → Act → World → Prop} (hQ : ∀ a' w' ρ' Z' H' s', Inv B w' ρ' Z' H' s' a' → K s' H' → Q .normal a' w') :
    ∀ (l : List Oper) (w : World) (ρ : Loc) (Z : Nat → Prop) (H : AH) (s : Fr) (a : Act), (compOps P fl ops l).all (dstOk B.N) = true → Inv B w ρ Z H s a → wpOps P (compOps P fl ops l) K s H → wpList P ops Q l a w
  | [], w, ρ, Z, H, s, a, _, hi, h => by
    simp only [compOps, wpOps] at h
    exact hQ _ _ _ _ _ _ hi h
  | o :: l, w, ρ, Z, H, s, a, hd, hi, h => by
    simp only [compOps, List.all_cons, Bool.and_eq_true] at hd h
    have := oper_out (Q := Q) (next := wpList P ops Q l) hi (dstOk_spec hd.1) h fun a' w' ρ' Z' H' s' hi' hk' => wpOps_list hQ l w' ρ' Z' H' s' a' hd.2 hi' hk'
    unfold wpList
    split
    · rename_i hw; rw [if_pos hw] at this; exact .inl this
    · rename_i hw; rw [if_neg hw] at this; exact this

/-! ### What an operation looks at -/
theorem ev_congr {s s' : Fr} {x : X} (h : ∀ t ∈ x.looks, s t = s' t) : ev s x = ev s' x := by
  cases x with
  | t n => exact h n (by simp [X.looks])
  | _ => rfl
theorem evL_congr {s s' : Fr} : ∀ {xs : List X}, (∀ t ∈ looksL xs, s t = s' t) → evL s xs = evL s' xs
  | [], _ => rfl
  | x :: xs, h => by
    simp only [evL, ev_congr (x := x) (fun t ht => h t (by simp [looksL, ht])), evL_congr (xs := xs) (fun t ht => h t (by simp [looksL, ht]))]
theorem ev3_congr {s s' : Fr} : ∀ {xs : List (Nat × Nat × X)}, (∀ t ∈ looks3 xs, s t = s' t) → evParts3 s xs = evParts3 s' xs
  | [], _ => rfl
  | (o, z, x) :: xs, h => by
    simp only [evParts3, ev_congr (x := x) (fun t ht => h t (by simp [looks3, ht])), ev3_congr (xs := xs) (fun t ht => h t (by simp [looks3, ht]))]
theorem ev2_congr {s s' : Fr} : ∀ {xs : List (Nat × X)}, (∀ t ∈ looks2 xs, s t = s' t) → evParts2 s xs = evParts2 s' xs
  | [], _ => rfl
  | (i, x) :: xs, h => by
    simp only [evParts2, ev_congr (x := x) (fun t ht => h t (by simp [looks2, ht])), ev2_congr (xs := xs) (fun t ht => h t (by simp [looks2, ht]))]
theorem evO_congr {s s' : Fr} {d : Int} {x : Option X} (h : ∀ t ∈ looksO x, s t = s' t) : evO s d x = evO s' d x := by
  cases x with
  | none => rfl
  | some x => simp only [evO, ev_congr (x := x) (fun t ht => h t (by simp [looksO, ht]))]

theorem evalOp_congr {s s' : Fr} {co : CO} (h : ∀ t ∈ co.looks, s t = s' t) : evalOp s H co = evalOp s' H co := by
  cases co <;> simp only [CO.looks] at h <;> simp only [evalOp]
  case pick c x y => rw [ev_congr (x := c) (fun t ht => h t (by simp [ht])), ev_congr (x := x) (fun t ht => h t (by simp [ht])), ev_congr (x := y) (fun t ht => h t (by simp [ht]))]
  case build zs ps => rw [ev3_congr h]
  case bslice T sz n zs ps => rw [ev2_congr h]
  case bsliceO T sz n zs ps => rw [ev2_congr h]
  case slice k x lo hi =>
    rw [ev_congr (x := x) (fun t ht => h t (by simp [ht]))]
    simp only [sliceA, evO_congr (x := lo) (fun t ht => h t (by simp [ht])), evO_congr (x := hi) (fun t ht => h t (by simp [ht]))]
  case mm mx xs => rw [evL_congr h]
  case ext k xs => rw [evL_congr h]
  case call f xs => rw [evL_congr h]
  case mkfn f us xs => rw [evL_congr (xs := us) (fun t ht => h t (by simp [ht])), evL_congr (xs := xs) (fun t ht => h t (by simp [ht]))]
  case callv f xs => rw [ev_congr (x := f) (fun t ht => h t (by simp [ht])), evL_congr (xs := xs) (fun t ht => h t (by simp [ht]))]
  all_goals first
    | rfl
    | (rw [ev_congr h]; done)
    | (rename_i x y; rw [ev_congr (x := x) (fun t ht => h t (by simp [ht])), ev_congr (x := y) (fun t ht => h t (by simp [ht]))]; done)
    | (rename_i n x y; rw [ev_congr (x := x) (fun t ht => h t (by simp [ht])), ev_congr (x := y) (fun t ht => h t (by simp [ht]))]; done)

end
end Go.Proofs.Ytlmplofpclaokaa
