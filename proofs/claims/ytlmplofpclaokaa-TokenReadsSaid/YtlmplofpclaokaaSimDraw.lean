/- Regions whose order is open. -/
import Derived.Test.YtlmplofpclaokaaSimReg
namespace Go.Proofs.Ytlmplofpclaokaa
set_option autoImplicit false
set_option linter.unusedSimpArgs false
set_option linter.unusedVariables false

/-- What an operation does to the frame and to what is owned: nothing there; a value; a value and a new block. -/
inductive Ef where
  | no
  | v (x : AV)
  | nb (x : AV) (id : Nat) (b : Blk)
  | st (id : Nat) (b b' : Blk)

def Ef.fr (e : Ef) (d : Option Nat) (s : Fr) : Fr :=
  match e with
  | .no => s.put d (.tup [])
  | .v x => s.put d x
  | .nb x _ _ => s.put d x
  | .st _ _ _ => s.del d

def Ef.hp (e : Ef) (H : AH) : AH :=
  match e with
  | .nb _ id b => (id, b) :: H
  | .st id _ b' => hset H id b'
  | _ => H

/-- The type of the elements of a block that an operation makes. -/
def CO.ty : CO → Nat
  | .box T _ => T
  | .allc T _ => T
  | .bslice T _ _ _ _ => T
  | .bsliceO T _ _ _ _ => T
  | .mks T _ _ _ _ => T
  | .append T _ _ _ _ _ => T
  | _ => 0
theorem evalOp_ty {s : Fr} {H : AH} {co : CO} {T : Nat} {blk : Blk} {vf : Nat → AV} {H' : AH} (h : evalOp s H co = some (.fresh T blk vf H')) : T = co.ty := by
  cases co <;> simp only [evalOp, Option.bind_eq_some_iff, Option.some.injEq, reduceCtorEq, and_false, exists_false] at h
  case box =>
    obtain ⟨v, _, h⟩ := h
    split at h <;> simp only [Option.some.injEq, Rs.fresh.injEq, reduceCtorEq] at h
    exact h.1.symm
  case allc => simp only [Rs.fresh.injEq] at h; exact h.1.symm
  case bslice =>
    obtain ⟨_, _, _, _, h⟩ := h
    split at h
    · split at h <;> simp only [Option.some.injEq, Rs.fresh.injEq, reduceCtorEq] at h
      exact h.1.symm
    · cases h
  case bsliceO =>
    obtain ⟨_, _, _, _, h⟩ := h
    split at h <;> simp only [Option.some.injEq, Rs.fresh.injEq, reduceCtorEq] at h
    exact h.1.symm
  case mks =>
    obtain ⟨_, _, h⟩ := h
    split at h
    · split at h <;> simp only [Option.some.injEq, Rs.fresh.injEq, reduceCtorEq] at h
      exact h.1.symm
    · cases h
  case append =>
    obtain ⟨_, _, _, _, _, _, h⟩ := h
    split at h
    · split at h
      · simp at h
      · split at h <;> simp only [Option.some.injEq, Rs.fresh.injEq, reduceCtorEq] at h
        exact h.1.symm
    · simp only [Option.bind_eq_some_iff] at h
      obtain ⟨_, _, h⟩ := h
      split at h <;> simp only [Option.some.injEq, Rs.fresh.injEq, reduceCtorEq] at h
      exact h.1.symm
    · cases h
  all_goals (exfalso; repeat' (first | (cases h; done) | (obtain ⟨_, h⟩ := h) | split at h | (simp [Option.bind_eq_some_iff] at h; done) | (simp only [Option.bind_eq_some_iff] at h)))

/-- Why an operation has its effect: by the frame that it looks at. -/
def EfOk (P : Program) (H0 D : AH) (idf : Nat → Nat) (i : Nat) (o : COp) (s : Fr) (e : Ef) : Prop :=
  (∃ g want, o.guard = some (g, want) ∧ (s g = some (.bool (!want)) ∨ s g = some (.tup [])) ∧ e = .no) ∨
  ((o.guard = none ∨ ∃ g want, o.guard = some (g, want) ∧ s g = some (.bool want)) ∧
    ((∃ v, evalOp s H0 o.co = some (.val v) ∧ e = .v v) ∨ (∃ T blk vf, evalOp s H0 o.co = some (.fresh T blk vf H0) ∧ tag (idf i) = T ∧ e = .nb (vf (idf i)) (idf i) blk) ∨
      (∃ f args r, evalOp s H0 o.co = some (.call f args) ∧ callP P f args H0 r ∧ e = .v r) ∨
      ∃ id b H' b', hget D id = some b ∧ evalOp s [(id, b)] o.co = some (.upd H') ∧ hget H' id = some b' ∧ e = .st id b b'))

theorem EfOk.mono {P : Program} {H0 D D' : AH} {idf : Nat → Nat} {i : Nat} {o : COp} {s : Fr} {e : Ef} (hs : Sub D D') : EfOk P H0 D idf i o s e → EfOk P H0 D' idf i o s e
  | .inl h => .inl h
  | .inr ⟨g, h⟩ => .inr ⟨g, match h with
    | .inl h => .inl h
    | .inr (.inl h) => .inr (.inl h)
    | .inr (.inr (.inl h)) => .inr (.inr (.inl h))
    | .inr (.inr (.inr ⟨id, b, H', b', h1, h2⟩)) => .inr (.inr (.inr ⟨id, b, H', b', hs _ _ h1, h2⟩))⟩

/-- The frame before operation i, the first number being k. -/
def frAt (s : Fr) : List COp → List Ef → Fr
  | o :: os, e :: es => frAt (e.fr o.dst s) os es
  | _, _ => s
def hpAt (H : AH) : List Ef → AH
  | [] => H
  | e :: es => hpAt (e.hp H) es

section
variable {P : Program} {w : World} {ρ : Loc} {Z : Nat → Prop} {H : AH} {s : Fr} {a : Act} {B : Beg}

theorem hdel_sub (D : AH) (id : Nat) : Sub (hdel D id) D := by
  intro j b q
  rw [hget_hdel] at q
  split at q
  · cases q
  · exact q
/-- The effects, one by one. -/
theorem wpDraw_effects {H0 : AH} {idf : Nat → Nat} {K : Fr → AH → Prop} (hinj : ∀ i j, idf i = idf j → i = j) (os : List COp) : ∀ (k : Nat) (s : Fr) (D H : AH), (∀ (i : Nat) o, os[i]? = some o → tag (idf (k + i)) = o.co.ty) → wpDraw P os K s H0 D H → (∀ j, k ≤ j → hget H (idf j) = none) →
    ∃ es : List Ef, es.length = os.length ∧ K (frAt s os es) (hpAt H es) ∧ (∀ (i : Nat) o e, os[i]? = some o → es[i]? = some e → EfOk P H0 D idf (k + i) o (frAt s (os.take i) (es.take i)) e) ∧
      (∀ (i : Nat) id b b', es[i]? = some (.st id b b') → hget D id = some b) ∧ ∀ (i j : Nat) id b b' c c', es[i]? = some (.st id b b') → es[j]? = some (.st id c c') → i = j := by
  induction os with
  | nil => exact fun k s D H _ h _ => ⟨[], rfl, h, by simp, by simp, by simp⟩
  | cons o os ih =>
    intro k s D H htg h hid
    have htg1 : ∀ (i : Nat) o, os[i]? = some o → tag (idf (k + 1 + i)) = o.co.ty := fun i o' q => by
      rw [show k + 1 + i = k + (i + 1) from by omega]; exact htg (i + 1) o' (by simpa using q)
    have next : ∀ (e : Ef) (D' : AH), EfOk P H0 D idf k o s e → Sub D' D → (∀ id b b', e = .st id b b' → hget D id = some b ∧ hget D' id = none) → wpDraw P os K (e.fr o.dst s) H0 D' (e.hp H) → (∀ j, k + 1 ≤ j → hget (e.hp H) (idf j) = none) →
        ∃ es : List Ef, es.length = (o :: os).length ∧ K (frAt s (o :: os) es) (hpAt H es) ∧ (∀ (i : Nat) o' e', (o :: os)[i]? = some o' → es[i]? = some e' → EfOk P H0 D idf (k + i) o' (frAt s ((o :: os).take i) (es.take i)) e') ∧
          (∀ (i : Nat) id b b', es[i]? = some (.st id b b') → hget D id = some b) ∧ ∀ (i j : Nat) id b b' c c', es[i]? = some (.st id b b') → es[j]? = some (.st id c c') → i = j := by
      intro e D' he hD hst hw hid'
      obtain ⟨es, h1, h2, h3, h4, h5⟩ := ih (k + 1) _ D' _ htg1 hw hid'
      refine ⟨e :: es, by simp [h1], h2, fun i o' e' q1 q2 => ?_, fun i id b b' q => ?_, fun i j id b b' c c' q1 q2 => ?_⟩
      · cases i with
        | zero => simp at q1 q2; subst q1; subst q2; simp only [Nat.add_zero, List.take_zero, frAt]; exact he
        | succ i =>
          simp at q1 q2
          have := (h3 i o' e' q1 q2).mono hD
          rw [show k + (i + 1) = k + 1 + i from by omega]
          simpa [frAt] using this
      · cases i with
        | zero => simp at q; exact (hst id b b' q).1
        | succ i => simp at q; exact hD _ _ (h4 i id b b' q)
      · cases i with
        | zero =>
          cases j with
          | zero => rfl
          | succ j =>
            simp at q1 q2
            have := h4 j id c c' q2
            rw [(hst id b b' q1).2] at this
            cases this
        | succ i =>
          cases j with
          | zero =>
            simp at q1 q2
            have := h4 i id b b' q1
            rw [(hst id c c' q2).2] at this
            cases this
          | succ j => simp at q1 q2; rw [h5 i j id b b' c c' q1 q2]
    have run : (o.guard = none ∨ ∃ g want, o.guard = some (g, want) ∧ s g = some (.bool want)) → (drawSt P o s H0 D H fun s' D' H' => wpDraw P os K s' H0 D' H') →
        ∃ es : List Ef, es.length = (o :: os).length ∧ K (frAt s (o :: os) es) (hpAt H es) ∧ (∀ (i : Nat) o' e', (o :: os)[i]? = some o' → es[i]? = some e' → EfOk P H0 D idf (k + i) o' (frAt s ((o :: os).take i) (es.take i)) e') ∧
          (∀ (i : Nat) id b b', es[i]? = some (.st id b b') → hget D id = some b) ∧ ∀ (i j : Nat) id b b' c c', es[i]? = some (.st id b b') → es[j]? = some (.st id c c') → i = j := by
      rintro hgd (hh | ⟨id, b, H', b', hb, he, hb', hd⟩)
      · simp only [OA_iff] at hh
        obtain ⟨rs, he, hd⟩ := hh
        cases rs with
        | val v => exact next (.v v) D (.inr ⟨hgd, .inl ⟨v, he, rfl⟩⟩) (fun _ _ q => q) (fun _ _ _ q => by cases q) hd (fun j hj => hid j (by omega))
        | upd H' => exact hd.elim
        | valH v H' => exact hd.elim
        | fresh T blk vf H' =>
          obtain ⟨rfl, hd⟩ := hd
          have htT : tag (idf k) = T := by rw [evalOp_ty he]; exact htg 0 o rfl
          refine next (.nb (vf (idf k)) (idf k) blk) D (.inr ⟨hgd, .inr (.inl ⟨T, blk, vf, he, htT, rfl⟩)⟩) (fun _ _ q => q) (fun _ _ _ q => by cases q) (hd (idf k) (hid k (Nat.le_refl _)) htT) fun j hj => ?_
          simp only [Ef.hp, hget]
          rw [if_neg (fun q => by have := hinj _ _ q; omega)]
          exact hid j (by omega)
        | call f args =>
          obtain ⟨r, hr, hd⟩ := hd
          exact next (.v r) D (.inr ⟨hgd, .inr (.inr (.inl ⟨f, args, r, he, hr, rfl⟩))⟩) (fun _ _ q => q) (fun _ _ _ q => by cases q) hd (fun j hj => hid j (by omega))
      · refine next (.st id b b') (hdel D id) (.inr ⟨hgd, .inr (.inr (.inr ⟨id, b, H', b', hb, he, hb', rfl⟩))⟩) (hdel_sub D id) (fun id2 b2 b2' q => ?_) hd fun j hj => ?_
        · cases q
          exact ⟨hb, by rw [hget_hdel, if_pos rfl]⟩
        · simp only [Ef.hp]
          rw [hget_hset]
          split
          · rename_i e1; rw [← e1, hid j (by omega)]; rfl
          · exact hid j (by omega)
    simp only [wpDraw] at h
    split at h
    · rename_i hg; exact run (.inl hg) h
    · rename_i g want hg
      rcases h with ⟨q, hs, h1, h2⟩ | ⟨hs, h2⟩
      rotate_left
      · exact next .no D (.inl ⟨g, want, hg, .inr hs, rfl⟩) (fun _ _ q => q) (fun _ _ _ q => by cases q) h2 (fun j hj => hid j (by omega))
      by_cases hq : q = want
      · exact run (.inr ⟨g, want, hg, by rw [hs, hq]⟩) (h1 hq)
      · have hq' : q = !want := by cases q <;> cases want <;> simp_all
        exact next .no D (.inl ⟨g, want, hg, .inl (by rw [hs, hq']), rfl⟩) (fun _ _ q => q) (fun _ _ _ q => by cases q) (h2 hq') (fun j hj => hid j (by omega))

/-! ### The Bools over a region -/
theorem before_spec {ops : Array Oper} (hb : edgesBack ops = true) (S : Nat → Prop) (hS : ∀ j o, S j → ops[j]? = some o → ∀ e ∈ o.after, Region.binds .any e = true → S e.on) :
    ∀ j o, ops[j]? = some o → (∀ e ∈ o.after, Region.binds .any e = true → S e.on) → ∀ i, bitOf (Region.before ops) j i = true → S i := by
  have back : ∀ j o, ops[j]? = some o → ∀ e ∈ o.after, Region.binds .any e = true → e.on < j := by
    intro j o hj e he hbd
    unfold edgesBack at hb
    rw [List.all_eq_true] at hb
    have hm : (o, j) ∈ ops.toList.zipIdx := by
      rw [List.mem_zipIdx_iff_getElem?]
      simpa using hj
    have h1 := hb _ hm
    rw [List.all_eq_true] at h1
    have h2 := h1 e (by simpa using he)
    simpa [hbd] using h2
  -- the masks, as they are built
  have key : ∀ (l : List Oper) (acc : Array Nat), (∀ j, l[j]? = ops[acc.size + j]?) →
      (∀ j i, j < acc.size → (acc.getD j 0).testBit i = true → ∀ o, ops[j]? = some o → (∀ e ∈ o.after, Region.binds .any e = true → S e.on) → S i) →
      ∀ j i, ((l.foldl (fun (acc : Array Nat) (o : Oper) => acc.push (o.after.foldl (fun s e => if Region.binds .any e then s ||| 2 ^ e.on ||| acc.getD e.on 0 else s) 0)) acc).getD j 0).testBit i = true →
        ∀ o, ops[j]? = some o → (∀ e ∈ o.after, Region.binds .any e = true → S e.on) → S i := by
    intro l
    induction l with
    | nil =>
      intro acc _ hacc j i hbit o ho hpre
      by_cases hj : j < acc.size
      · exact hacc j i hj hbit o ho hpre
      · simp only [List.foldl_nil] at hbit
        rw [Array.getD_eq_getD_getElem?, Array.getElem?_eq_none (by omega)] at hbit
        simp at hbit
    | cons q l ih =>
      intro acc hl hacc
      simp only [List.foldl_cons]
      refine ih _ (fun j => ?_) fun j i hj hbit o ho hpre => ?_
      · have := hl (j + 1)
        simp only [List.getElem?_cons_succ] at this
        rw [this]
        simp only [Array.size_push]
        congr 1
        omega
      · simp only [Array.size_push] at hj
        by_cases hjs : j < acc.size
        · refine hacc j i hjs ?_ o ho hpre
          rw [Array.getD_eq_getD_getElem?, Array.getElem?_push, if_neg (by omega)] at hbit
          rw [Array.getD_eq_getD_getElem?]
          exact hbit
        · have hje : j = acc.size := by omega
          subst hje
          have hqo : q = o := by
            have := hl 0
            simp only [List.getElem?_cons_zero, Nat.add_zero] at this
            rw [ho] at this
            simpa using this
          subst hqo
          rw [Array.getD_eq_getD_getElem?, Array.getElem?_push, if_pos rfl, Option.getD_some, ← Array.foldl_toList] at hbit
          -- one edge after another
          have edge : ∀ (es : List Edge) (m : Nat), (∀ e ∈ es, e ∈ q.after.toList) →
              (es.foldl (fun s e => if Region.binds .any e then s ||| 2 ^ e.on ||| acc.getD e.on 0 else s) m).testBit i = true → m.testBit i = true ∨ S i := by
            intro es
            induction es with
            | nil => intro m _ h; exact .inl h
            | cons e es ihe =>
              intro m hes h
              simp only [List.foldl_cons] at h
              rcases ihe _ (fun e' he' => hes e' (List.mem_cons_of_mem _ he')) h with h | h
              · split at h
                · rename_i hbd
                  simp only [Nat.testBit_or, Bool.or_eq_true] at h
                  have hein : e ∈ q.after := by simpa using hes e List.mem_cons_self
                  rcases h with (h | h) | h
                  · exact .inl h
                  · rw [Nat.testBit_two_pow] at h
                    right
                    have : e.on = i := by simpa using h
                    rw [← this]
                    exact hpre e hein hbd
                  · right
                    have hlt := back _ _ ho e hein hbd
                    obtain ⟨oe, hoe⟩ : ∃ oe, ops[e.on]? = some oe := ⟨_, Array.getElem?_eq_getElem (by have := (Array.getElem?_eq_some_iff.1 ho).1; omega)⟩
                    exact hacc e.on i hlt h oe hoe (fun e' he' hb' => hS e.on oe (hpre e hein hbd) hoe e' he' hb')
                · exact .inl h
              · exact .inr h
          rcases edge q.after.toList 0 (fun _ h => h) hbit with h | h
          · simp at h
          · exact h
  intro j o ho hpre i hbit
  refine key ops.toList #[] (fun j => by simp) (fun j i hj => by simp at hj) j i ?_ o ho hpre
  unfold bitOf Region.before at hbit
  rw [← Array.foldl_toList] at hbit
  exact hbit

end
end Go.Proofs.Ytlmplofpclaokaa
