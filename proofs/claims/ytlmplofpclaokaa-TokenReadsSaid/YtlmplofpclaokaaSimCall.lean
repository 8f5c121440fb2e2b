/- Calls; what is not owned by a callee stays. -/
import Derived.Test.YtlmplofpclaokaaSimOp
namespace Go.Proofs.Ytlmplofpclaokaa
set_option autoImplicit false
set_option linter.unusedSimpArgs false
set_option linter.unusedVariables false

section
variable {P : Program} {w : World} {ρ : Loc} {Z : Nat → Prop} {H : AH}

theorem Rl.plain0 {h h' : Array Obj} {ρ' : Loc} {Z' : Nat → Prop} {v : AV} {x : Value} (hr : Rl h ρ Z v x) (hp : v.plain0 = true) : Rl h' ρ' Z' v x := by
  cases hr <;> first | (simp [AV.plain0] at hp; done) | constructor
  assumption

theorem Rl.plain1 {h h' : Array Obj} {ρ' : Loc} {Z' : Nat → Prop} {v : AV} {x : Value} (hr : Rl h ρ Z v x) (hp : v.plain1 = true) : Rl h' ρ' Z' v x := by
  have hr' := hr
  cases hr with
  | agg cs vs hl hc hr =>
    refine .agg cs vs hl hc fun i v x h1 h2 => (hr i v x h1 h2).plain0 ?_
    exact (List.all_eq_true.1 (by simpa [AV.plain1] using hp)) v (List.mem_of_getElem? h1)
  | _ => exact hr'.plain0 hp

theorem Rl.plain {h h' : Array Obj} {ρ' : Loc} {Z' : Nat → Prop} {v : AV} {x : Value} (hr : Rl h ρ Z v x) (hp : v.plain = true) : Rl h' ρ' Z' v x := by
  have hr' := hr
  cases hr with
  | tup cs vs hl hr =>
    refine .tup cs vs hl fun i v x h1 h2 => (hr i v x h1 h2).plain1 ?_
    exact (List.all_eq_true.1 (by simpa [AV.plain] using hp)) v (List.mem_of_getElem? h1)
  | _ => exact hr'.plain1 hp

/-- What a part of the owned blocks went through, the others beside it. -/
theorem Good.frame {w' : World} {ρ' : Loc} {Z' : Nat → Prop} {H0 H0' HS HS' : AH} (g : Good w.heap ρ Z HS) (hs : Sub H0 HS) (e : Ext w ρ Z (Own ρ H0) w' ρ' Z' (Own ρ' H0')) (g' : Good w'.heap ρ' Z' H0')
    (h1 : ∀ id b, hget HS' id = some b → hget H0' id = some b ∨ (hget HS id = some b ∧ hget H0 id = none)) :
    Good w'.heap ρ' Z' HS' ∧ Ext w ρ Z (Own ρ HS) w' ρ' Z' (Own ρ' HS') := by
  have notO : ∀ id b k o, hget HS id = some b → hget H0 id = none → ρ id = some (k, o) → ¬ Own ρ H0 k := by
    rintro id b k o q1 q2 q3 ⟨j, bl, o', q4, q5⟩
    have hne : id ≠ j := fun e1 => by rw [e1, q4] at q2; cases q2
    exact g.inj id j _ _ _ _ _ _ q1 (hs _ _ q4) q3 q5 hne rfl
  have old : ∀ id b, hget HS id = some b → hget H0 id = none → ∃ k o, ρ' id = some (k, o) ∧ ρ id = some (k, o) ∧ k < w.heap.size ∧ ¬ Own ρ H0 k ∧ ¬ Z k ∧ BlkR w'.heap ρ' Z' k o b := by
    intro id b q1 q2
    obtain ⟨k, o, q3, q4⟩ := g.blk id b q1
    have q5 := notO id b k o q1 q2 q3
    have q6 := q4.lt
    refine ⟨k, o, e.loc _ _ q3, q3, q6, q5, g.notZ k ⟨id, b, o, q1, q3⟩, q4.mono (e.keep k q6 q5) fun v x r => r.ext e (fun b q => g.notZ b (q.of_sub hs)) g.zlt⟩
  refine ⟨⟨fun id b q => ?_, fun i j a b p q o o' q1 q2 q3 q4 hne => ?_, fun k q hz => ?_, g'.zlt, g'.ids, g'.ty⟩, ?_⟩
  · rcases h1 id b q with q | ⟨q1, q2⟩
    · exact g'.blk id b q
    · obtain ⟨k, o, q3, _, _, _, _, q4⟩ := old id b q1 q2
      exact ⟨k, o, q3, q4⟩
  · rcases h1 i a q1 with r1 | ⟨r1, r2⟩ <;> rcases h1 j b q2 with s1 | ⟨s1, s2⟩
    · exact g'.inj i j a b p q o o' r1 s1 q3 q4 hne
    · obtain ⟨k, o2, t1, t2, t3, t4, _, _⟩ := old j b s1 s2
      rw [q4] at t1
      simp only [Option.some.injEq, Prod.mk.injEq] at t1
      obtain ⟨rfl, rfl⟩ := t1
      rintro rfl
      rcases e.own p ⟨i, a, o, r1, q3⟩ with u | u
      · exact t4 u
      · omega
    · obtain ⟨k, o2, t1, t2, t3, t4, _, _⟩ := old i a r1 r2
      rw [q3] at t1
      simp only [Option.some.injEq, Prod.mk.injEq] at t1
      obtain ⟨rfl, rfl⟩ := t1
      rintro rfl
      rcases e.own p ⟨j, b, o', s1, q4⟩ with u | u
      · exact t4 u
      · omega
    · obtain ⟨k, o2, t1, t2, _⟩ := old i a r1 r2
      obtain ⟨k', o2', t1', t2', _⟩ := old j b s1 s2
      rw [q3] at t1
      rw [q4] at t1'
      simp only [Option.some.injEq, Prod.mk.injEq] at t1 t1'
      obtain ⟨rfl, rfl⟩ := t1
      obtain ⟨rfl, rfl⟩ := t1'
      exact g.inj i j a b _ _ _ _ r1 s1 t2 t2' hne
  · obtain ⟨id, b, o, q1, q2⟩ := q
    rcases h1 id b q1 with q1 | ⟨q1, q3⟩
    · exact g'.notZ k ⟨id, b, o, q1, q2⟩ hz
    · obtain ⟨k', o2, t1, t2, t3, t4, t5, _⟩ := old id b q1 q3
      rw [q2] at t1
      simp only [Option.some.injEq, Prod.mk.injEq] at t1
      obtain ⟨rfl, rfl⟩ := t1
      rcases e.znew k hz with u | u | u
      · exact t5 u
      · exact t4 u
      · omega
  · refine { e with keep := fun k hk hO => e.keep k hk fun q => hO (q.of_sub hs), znew := fun k q => ?_, own := fun k q => ?_ }
    · rcases e.znew k q with u | u | u
      · exact .inl u
      · exact .inr (.inl (u.of_sub hs))
      · exact .inr (.inr u)
    · obtain ⟨id, b, o, q1, q2⟩ := q
      rcases h1 id b q1 with q1 | ⟨q1, q3⟩
      · rcases e.own k ⟨id, b, o, q1, q2⟩ with u | u
        · exact .inl (u.of_sub hs)
        · exact .inr u
      · obtain ⟨k', o2, t1, t2, _⟩ := old id b q1 q3
        rw [q2] at t1
        simp only [Option.some.injEq, Prod.mk.injEq] at t1
        obtain ⟨rfl, rfl⟩ := t1
        exact .inl ⟨id, b, o, q1, t2⟩

/-- Nothing is owned, and something is frozen for the call alone. -/
theorem ext_back {w' : World} {ρ' : Loc} {Zc Z' : Nat → Prop} {H' : AH} (g : Good w.heap ρ Z H) (hz : ∀ b, Z b → Zc b) (e : Ext w ρ Zc (Own ρ []) w' ρ' Z' (Own ρ' H')) (g' : Good w'.heap ρ' Z' H') :
    Good w'.heap ρ' Z H ∧ Ext w ρ Z (Own ρ H) w' ρ' Z (Own ρ' H) := by
  have no : ∀ b, ¬ Own ρ [] b := by rintro b ⟨id, bl, o, q, _⟩; cases q
  have e1 : Ext w ρ Z (Own ρ []) w' ρ' Z (Own ρ' []) :=
    { e with zmono := fun _ q => q, znew := fun _ q => .inl q, own := by rintro b ⟨id, bl, o, q, _⟩; cases q }
  have g1 : Good w'.heap ρ' Z [] :=
    { blk := by intro id b q; cases q
      inj := by intro i j a b p q o o' q1; cases q1
      notZ := by rintro b ⟨id, bl, o, q, _⟩; cases q
      zlt := fun b q => Nat.lt_of_lt_of_le (g.zlt b q) e.size
      ids := g'.ids
      ty := g'.ty }
  exact g.frame (H0 := []) (H0' := []) (by intro id b q; cases q) e1 g1 (fun id b q => .inr ⟨q, rfl⟩)

theorem callA_calls {f : Nat} {args : List AV} {xs : List Value} {K : AV → AH → Prop} (h : callA P f args H K) (g : Good w.heap ρ Z H) (hr : RlL w.heap ρ Z args xs) :
    Calls P f xs.toArray w fun e w' => ∃ x r H' ρ' Z', e = .returned x ∧ Good w'.heap ρ' Z' H' ∧ Rl w'.heap ρ' Z' r x ∧ Ext w ρ Z (Own ρ H) w' ρ' Z' (Own ρ' H') ∧ K r H' := by
  obtain ⟨args', Hc, hs, hf, h | h⟩ := h
  · have gc := g.freeze hs
    refine (h.2 w ρ _ xs gc (hr.freeze g hf)).mono fun e w' ⟨x, r, H', ρ', Z', a, b, c, d, k⟩ => ⟨x, r, H', ρ', Z', a, b, c, ?_, k⟩
    refine { d with keep := fun k hk hO => d.keep k hk fun q => hO (q.of_sub hs), zmono := fun k q => d.zmono k (.inl q), znew := fun k q => ?_, own := fun k q => ?_ }
    · rcases d.znew k q with u | u | u
      · rcases u with u | u
        · exact .inl u
        · exact .inr (.inl u.own)
      · exact .inr (.inl (u.of_sub hs))
      · exact .inr (.inr u)
    · rcases d.own k q with u | u
      · exact .inl (u.of_sub hs)
      · exact .inr u
  · have gc : Good w.heap ρ (fun b => Z b ∨ Drop ρ H Hc b) [] := (g.freeze hs).forget (by intro id b q; cases q)
    refine (h.2 w ρ _ xs gc (hr.freeze g hf)).mono fun e w' ⟨x, r, H', ρ', Z', a, b, c, d, k⟩ => ?_
    obtain ⟨q1, q2⟩ := ext_back g (fun _ q => .inl q) d b
    exact ⟨x, r, H, ρ', Z, a, q1, c.plain k.1, q2, k.2⟩

/-- What was known of the ids before is known behind the call. -/
theorem Rl.back {h h0 : Array Obj} {ρ' : Loc} {Z' Z0 : Nat → Prop} {v : AV} {x : Value} (hr : Rl h ρ' Z' v x) (hρ : ∀ id p, ρ id = some p → ρ' id = some p) : ∀ x0, Rl h0 ρ Z0 v x0 → Rl h ρ Z' v x := by
  have same : ∀ id p q, ρ' id = some p → ρ id = some q → ρ id = some p := fun id p q h1 h2 => by
    rw [hρ id q h2] at h1
    simp only [Option.some.injEq] at h1
    rw [← h1]; exact h2
  have part : ∀ {cs : List AV} {vs : List Value} {i : Nat} {v : AV}, cs.length = vs.length → cs[i]? = some v → ∃ x, vs[i]? = some x := fun hl h1 => by
    have := (List.getElem?_eq_some_iff.1 h1).1
    exact ⟨_, List.getElem?_eq_getElem (by omega)⟩
  induction hr with
  | int k n => exact fun _ _ => .int k n
  | bool b => exact fun _ _ => .bool b
  | str l s e => exact fun _ _ => .str l s e
  | agg cs vs hl hc hr ih =>
    intro x0 h0
    cases h0 with
    | agg _ vs0 hl0 hc0 hr0 =>
      refine .agg cs vs hl hc fun i v x h1 h2 => ?_
      obtain ⟨y, hy⟩ := part hl0 h1
      exact ih i v x h1 h2 y (hr0 i v y h1 hy)
  | tup cs vs hl hr ih =>
    intro x0 h0
    cases h0 with
    | tup _ vs0 hl0 hr0 =>
      refine .tup cs vs hl fun i v x h1 h2 => ?_
      obtain ⟨y, hy⟩ := part hl0 h1
      exact ih i v x h1 h2 y (hr0 i v y h1 hy)
  | rows sz l b o n c f hn hnc hz hw hcc hm hr ih =>
    intro x0 h0
    cases h0 with
    | rows _ _ b0 o0 n0 c0 f0 hn0 hnc0 hz0 hw0 hcc0 hm0 hr0 => exact .rows sz l b o n c f hn hnc hz hw hcc hm fun i r j v h1 h2 => ih i r j v h1 h2 _ (hr0 i r j v h1 h2)
    | rowsN _ => exact .rows sz [] b o n c f hn hnc hz hw hcc hm fun i r j v h1 h2 => by simp at h1
    | rowsE _ _ _ => exact .rows sz [] b o n c f hn hnc hz hw hcc hm fun i r j v h1 h2 => by simp at h1
  | rowsN sz => exact fun _ _ => .rowsN sz
  | rowsE sz a c => exact fun _ _ => .rowsE sz a c
  | nilS => exact fun _ _ => .nilS
  | own id sz lo hi b o0 o n c m hq hlo hn hnc ho hm hcap =>
    intro x0 h0
    cases h0 with
    | own _ _ _ _ b' o0' _ _ _ _ hq' => exact .own id sz lo hi b o0 o n c m (same _ _ _ hq hq') hlo hn hnc ho hm hcap
  | ptr id sz i j b o0 hq =>
    intro x0 h0
    cases h0 with
    | ptr _ _ _ _ b' o0' hq' => exact .ptr id sz i j b o0 (same _ _ _ hq hq')
  | fp cs b o f hz hcc hm hr ih =>
    intro x0 h0
    cases h0 with
    | fp _ b0 o0 f0 hz0 hcc0 hm0 hr0 => exact .fp cs b o f hz hcc hm fun i v h1 => ih i v h1 _ (hr0 i v h1)
  | nilP => exact fun _ _ => .nilP
  | clo f fs us cs vs hf hl hq hr ihq ih =>
    intro x0 h0
    cases h0 with
    | clo _ _ us0 _ vs0 hf0 hl0 hq0 hr0 =>
      refine .clo f fs us cs vs hf hl (fun i v x h1 h2 => ?_) fun i v x h1 h2 => ?_
      · obtain ⟨y, hy⟩ := part hf0 h1
        exact ihq i v x h1 h2 y (hq0 i v y h1 hy)
      · obtain ⟨y, hy⟩ := part hl0 h1
        exact ih i v x h1 h2 y (hr0 i v y h1 hy)
  | nilI => exact fun _ _ => .nilI
  | nilF => exact fun _ _ => .nilF

theorem Good.back {w' : World} {ρ' : Loc} {Z' : Nat → Prop} (g : Good w.heap ρ Z H) (g' : Good w'.heap ρ' Z' H) (e : Ext w ρ Z (Own ρ H) w' ρ' Z' (Own ρ' H)) :
    Good w'.heap ρ Z' H ∧ Ext w ρ Z (Own ρ H) w' ρ Z' (Own ρ H) := by
  have at_ : ∀ id blk, hget H id = some blk → ∃ p, ρ id = some p ∧ ρ' id = some p := fun id blk q => by
    obtain ⟨b, o, q1, _⟩ := g.blk id blk q
    exact ⟨_, q1, e.loc _ _ q1⟩
  have own : Own ρ' H = Own ρ H := by
    funext b
    apply propext
    constructor
    · rintro ⟨id, bl, o, q, r⟩
      obtain ⟨p, q1, q2⟩ := at_ id bl q
      rw [r] at q2
      exact ⟨id, bl, o, q, by rw [q1, q2]⟩
    · rintro ⟨id, bl, o, q, r⟩
      exact ⟨id, bl, o, q, e.loc _ _ r⟩
  refine ⟨⟨fun id blk q => ?_, fun i j a b p q o o' q1 q2 q3 q4 => g'.inj i j a b p q o o' q1 q2 (e.loc _ _ q3) (e.loc _ _ q4), fun b q => g'.notZ b (by rw [own]; exact q), g'.zlt, g.ids, fun id b o q => g'.ty id b o (e.loc _ _ q)⟩, ?_⟩
  · obtain ⟨b, o, q1, q2⟩ := g.blk id blk q
    obtain ⟨b', o', q1', q2'⟩ := g'.blk id blk q
    rw [e.loc _ _ q1] at q1'
    simp only [Option.some.injEq, Prod.mk.injEq] at q1'
    obtain ⟨rfl, rfl⟩ := q1'
    refine ⟨b, o, q1, ?_⟩
    cases blk with
    | rows sz l =>
      obtain ⟨cs, et, r1, r2, r3, r4⟩ := q2
      obtain ⟨cs', et', r1', r2', r3', r4'⟩ := q2'
      refine ⟨cs', et', r1', r2', r3', fun i r j v h1 h2 => ?_⟩
      obtain ⟨c, y, c1, c2⟩ := r4' i r j v h1 h2
      obtain ⟨_, y0, _, c20⟩ := r4 i r j v h1 h2
      exact ⟨c, y, c1, c2.back e.loc y0 c20⟩
  · rw [own] at e
    exact { e with loc := fun _ _ q => q }

theorem callP_calls {f : Nat} {args : List AV} {xs : List Value} {r : AV} {HS : AH} (h : callP P f args H r) (g : Good w.heap ρ Z HS) (hsub : Sub H HS) (hr : RlL w.heap ρ Z args xs) :
    Calls P f xs.toArray w fun e w' => ∃ x Z', e = .returned x ∧ Good w'.heap ρ Z' HS ∧ Rl w'.heap ρ Z' r x ∧ Ext w ρ Z (Own ρ HS) w' ρ Z' (Own ρ HS) := by
  rcases h with ⟨hno, h⟩ | ⟨args', Hc, hs, hf, hp, h⟩
  · refine (h.2 w ρ Z xs (g.forget hsub) hr).mono fun e w' ⟨x, r', H', ρ', Z', a, b, c, d, k1, k2⟩ => ?_
    subst k1
    subst k2
    obtain ⟨q1, q2⟩ := g.frame hsub d b (HS' := HS) fun id bl q => by
      cases hh : hget H' id with
      | none => exact .inr ⟨q, rfl⟩
      | some b' => have := hsub _ _ hh; rw [q] at this; exact .inl this.symm
    obtain ⟨q3, q4⟩ := g.back q1 q2
    exact ⟨x, Z', a, q3, hno _ _ _ _ _ c, q4⟩
  · have g0 := g.forget hsub
    have gc : Good w.heap ρ (fun b => Z b ∨ Drop ρ H Hc b) [] := (g0.freeze hs).forget (by intro id b q; cases q)
    refine (h.2 w ρ _ xs gc (hr.freeze g0 hf)).mono fun e w' ⟨x, r', H', ρ', Z', a, b, c, d, k⟩ => ?_
    subst k
    obtain ⟨q1, q2⟩ := ext_back g (fun _ q => .inl q) d b
    obtain ⟨q3, q4⟩ := g.back q1 q2
    exact ⟨x, Z, a, q3, c.plain hp, q4⟩

end
end Go.Proofs.Ytlmplofpclaokaa
