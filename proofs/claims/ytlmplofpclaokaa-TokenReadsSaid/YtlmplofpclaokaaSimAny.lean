/- One walk in the order of the text serves every order. -/
import Derived.Test.YtlmplofpclaokaaSimDraw
namespace Go.Proofs.Ytlmplofpclaokaa
set_option autoImplicit false
set_option linter.unusedSimpArgs false
set_option linter.unusedVariables false

def Ef.val : Ef → Option AV
  | .no => some (.tup [])
  | .v x => some x
  | .nb x _ _ => some x
  | .st _ _ _ => none

section
variable {P : Program} {w : World} {ρ : Loc} {Z : Nat → Prop} {H : AH} {s : Fr} {a : Act} {B : Beg} {fl : List Nat}

theorem Ef.fr_get (e : Ef) (d : Option Nat) (s : Fr) (t : Nat) : e.fr d s t = if d = some t then e.val else s t := by
  cases e <;> cases d <;> simp only [Ef.fr, Ef.val, Fr.put, Fr.del, Fr.set, Fr.clr]
  all_goals first
    | (simp; done)
    | (rename_i d; by_cases q : t = d
       · subst q; simp
       · rw [if_neg q, if_neg (by simpa using fun e1 => q e1.symm)])

theorem frAt_none (t : Nat) : ∀ (os : List COp) (es : List Ef) (s : Fr), (∀ (j : Nat) o, os[j]? = some o → o.dst ≠ some t) → frAt s os es t = s t
  | [], es, s, _ => by simp [frAt]
  | o :: os, [], s, _ => by simp [frAt]
  | o :: os, e :: es, s, h => by
    simp only [frAt]
    rw [frAt_none t os es _ (fun j o' q => h (j + 1) o' (by simpa using q)), Ef.fr_get, if_neg (h 0 o rfl)]

theorem frAt_some (t : Nat) : ∀ (os : List COp) (es : List Ef) (s : Fr) (j : Nat) (o : COp) (e : Ef), os[j]? = some o → es[j]? = some e → o.dst = some t →
    (∀ (j' : Nat) o', os[j']? = some o' → j' ≠ j → o'.dst ≠ some t) → frAt s os es t = e.val
  | [], es, s, j, o, e, h, _, _, _ => by simp at h
  | o' :: os, [], s, j, o, e, _, h, _, _ => by simp at h
  | o' :: os, e' :: es, s, j, o, e, h1, h2, h3, h4 => by
    simp only [frAt]
    cases j with
    | zero =>
      simp at h1 h2
      subst h1
      subst h2
      rw [frAt_none t os es _ (fun j o2 q => h4 (j + 1) o2 (by simpa using q) (by omega)), Ef.fr_get, if_pos h3]
    | succ j =>
      simp at h1 h2
      exact frAt_some t os es _ j o e h1 h2 h3 fun j' o2 q hne => h4 (j' + 1) o2 (by simpa using q) (by omega)

/-- No two of them write the same block. -/
def Once (es : List Ef) : Prop := es.Pairwise fun e e' => ∀ id b b' c c', e = .st id b b' → e' ≠ .st id c c'
theorem hpAt_get {idf : Nat → Nat} (hinj : ∀ i j, idf i = idf j → i = j) : ∀ (es : List Ef) (k : Nat) (H : AH), (∀ (i : Nat) x id b, es[i]? = some (.nb x id b) → id = idf (k + i)) → (∀ j, k ≤ j → hget H (idf j) = none) →
    (∀ id b b', Ef.st id b b' ∈ es → ∃ c, hget H id = some c) → Once es →
    ∀ id b, hget (hpAt H es) id = some b ↔ (∃ x, Ef.nb x id b ∈ es) ∨ (∃ b0, Ef.st id b0 b ∈ es) ∨ (hget H id = some b ∧ ∀ b0 b1, Ef.st id b0 b1 ∉ es)
  | [], k, H, _, _, _, _, id, b => by simp [hpAt]
  | e :: es, k, H, h1, h2, h3, h4, id, b => by
    have h4' := List.pairwise_cons.1 h4
    have rest : ∀ H', (∀ j, k + 1 ≤ j → hget H' (idf j) = none) → (∀ id b b', Ef.st id b b' ∈ es → ∃ c, hget H' id = some c) →
        (hget (hpAt H' es) id = some b ↔ (∃ x, Ef.nb x id b ∈ es) ∨ (∃ b0, Ef.st id b0 b ∈ es) ∨ (hget H' id = some b ∧ ∀ b0 b1, Ef.st id b0 b1 ∉ es)) := fun H' hH' h3' =>
      hpAt_get hinj es (k + 1) H' (fun i x id b q => by rw [show k + 1 + i = k + (i + 1) from by omega]; exact h1 (i + 1) x id b (by simpa using q)) hH' h3' h4'.2 id b
    have h3t : ∀ id b b', Ef.st id b b' ∈ es → ∃ c, hget H id = some c := fun id b b' q => h3 id b b' (List.mem_cons_of_mem _ q)
    simp only [hpAt]
    cases e with
    | no =>
      rw [show (Ef.no).hp H = H from rfl, rest H (fun j hj => h2 j (by omega)) h3t]
      simp
    | v y =>
      rw [show (Ef.v y).hp H = H from rfl, rest H (fun j hj => h2 j (by omega)) h3t]
      simp
    | nb y id' b' =>
      have hid := h1 0 y id' b' rfl
      simp only [Nat.add_zero] at hid
      have hno : hget H id' = none := by rw [hid]; exact h2 k (Nat.le_refl _)
      have nost : ∀ b0 b1, Ef.st id' b0 b1 ∉ es := fun b0 b1 q => by
        obtain ⟨c, hc⟩ := h3t id' b0 b1 q
        rw [hno] at hc
        cases hc
      rw [show (Ef.nb y id' b').hp H = (id', b') :: H from rfl, rest ((id', b') :: H) (fun j hj => by
        simp only [hget]
        rw [if_neg (fun q => by rw [hid] at q; have := hinj _ _ q; omega)]
        exact h2 j (by omega)) (fun id b b' q => by
        obtain ⟨c, hc⟩ := h3t id b b' q
        simp only [hget]
        split
        · exact ⟨_, rfl⟩
        · exact ⟨c, hc⟩)]
      simp only [List.mem_cons, Ef.nb.injEq, reduceCtorEq, false_or, hget]
      constructor
      · rintro (⟨x, q⟩ | q | ⟨q, q2⟩)
        · exact .inl ⟨x, .inr q⟩
        · exact .inr (.inl q)
        · split at q
          · rename_i e1
            simp only [Option.some.injEq] at q
            exact .inl ⟨y, .inl ⟨rfl, e1, q.symm⟩⟩
          · exact .inr (.inr ⟨q, q2⟩)
      · rintro (⟨x, ⟨rfl, rfl, rfl⟩ | q⟩ | q | ⟨q, q2⟩)
        · exact .inr (.inr ⟨by simp, nost⟩)
        · exact .inl ⟨x, q⟩
        · exact .inr (.inl q)
        · refine .inr (.inr ⟨?_, q2⟩)
          rw [if_neg (fun e1 => by rw [e1, hno] at q; cases q)]
          exact q
    | st id' b0' b' =>
      obtain ⟨c', hc'⟩ := h3 id' b0' b' List.mem_cons_self
      have nost : ∀ b0 b1, Ef.st id' b0 b1 ∉ es := fun b0 b1 q => h4'.1 _ q id' b0' b' b0 b1 rfl rfl
      rw [show (Ef.st id' b0' b').hp H = hset H id' b' from rfl, rest (hset H id' b') (fun j hj => by
        rw [hget_hset]
        split
        · rename_i e1; rw [← e1, h2 j (by omega)]; rfl
        · exact h2 j (by omega)) (fun id b b' q => by
        obtain ⟨c, hc⟩ := h3t id b b' q
        rw [hget_hset]
        split
        · rename_i e1; rw [← e1, hc]; exact ⟨_, rfl⟩
        · exact ⟨c, hc⟩)]
      simp only [List.mem_cons, Ef.st.injEq, reduceCtorEq, false_or, hget_hset]
      constructor
      · rintro (q | ⟨b0, q⟩ | ⟨q, q2⟩)
        · exact .inl q
        · exact .inr (.inl ⟨b0, .inr q⟩)
        · split at q
          · rename_i e1
            rw [hc'] at q
            simp only [Option.map_some, Option.some.injEq] at q
            exact .inr (.inl ⟨b0', .inl ⟨e1, rfl, q.symm⟩⟩)
          · rename_i e1
            refine .inr (.inr ⟨q, fun b0 b1 q3 => ?_⟩)
            rcases q3 with ⟨q3, _⟩ | q3
            · exact e1 q3
            · exact q2 b0 b1 q3
      · rintro (q | ⟨b0, ⟨rfl, rfl, rfl⟩ | q⟩ | ⟨q, q2⟩)
        · exact .inl q
        · refine .inr (.inr ⟨?_, nost⟩)
          rw [if_pos rfl, hc']
          rfl
        · exact .inr (.inl ⟨b0, q⟩)
        · refine .inr (.inr ⟨?_, fun b0 b1 q3 => q2 b0 b1 (.inr q3)⟩)
          rw [if_neg (fun e1 => q2 b0' b' (.inl ⟨e1, rfl, rfl⟩))]
          exact q

theorem Own.congr {H H' : AH} (h : ∀ id b, hget H id = some b ↔ hget H' id = some b) : Own ρ H' = Own ρ H := by
  funext b
  apply propext
  constructor
  · rintro ⟨id, bl, o, q, r⟩; exact ⟨id, bl, o, (h id bl).2 q, r⟩
  · rintro ⟨id, bl, o, q, r⟩; exact ⟨id, bl, o, (h id bl).1 q, r⟩

theorem Good.congr {H H' : AH} (g : Good w.heap ρ Z H) (h : ∀ id b, hget H id = some b ↔ hget H' id = some b) : Good w.heap ρ Z H' := g.forget fun id b q => (h id b).2 q

theorem nodup_len : ∀ (k : Nat) (S : List Nat), S.Nodup → (∀ x ∈ S, x < k) → S.length ≤ k
  | 0, S, _, h => by
    cases S with
    | nil => simp
    | cons x S => exact absurd (h x List.mem_cons_self) (by omega)
  | k + 1, S, hn, h => by
    have := nodup_len k (S.erase k) (hn.erase k) fun x hx => by
      have h1 := h x (List.mem_of_mem_erase hx)
      have h2 : x ≠ k := fun e => by rw [e] at hx; exact hn.not_mem_erase hx
      omega
    rw [List.length_erase] at this
    split at this <;> omega

/-- The facts of a Bool over a region. -/
theorem drawOk_spec {ops : Array Oper} {cs : List COp} {k : Nat} (h : drawOk ops cs k = true) : edgesBack ops = true ∧
    ∀ (i j : Nat) p o, cs[i]? = some p → cs[j]? = some o → i ≠ j →
      (∀ d, p.dst = some d → o.dst ≠ some d) ∧ (∀ d, p.dst = some d → d ∈ o.looks → if i < j then bitOf (Region.before ops) j i = true else bitOf (Region.before ops) i j = true) ∧
      (k ≤ j → i < j → bitOf (Region.before ops) j i = true) := by
  simp only [drawOk, Bool.and_eq_true] at h
  refine ⟨h.1, fun i j p o hi hj hne => ?_⟩
  have h2 := h.2
  rw [List.all_eq_true] at h2
  have h3 := h2 (o, j) (by rw [List.mem_zipIdx_iff_getElem?]; simpa using hj)
  rw [List.all_eq_true] at h3
  have h4 := h3 (p, i) (by rw [List.mem_zipIdx_iff_getElem?]; simpa using hi)
  simp only [Bool.or_eq_true, decide_eq_true_eq, hne, false_or, Bool.and_eq_true] at h4
  obtain ⟨h5, h6⟩ := h4
  refine ⟨fun d hd => ?_, fun d hd hl => ?_, fun h7 h8 => ?_⟩
  · rw [hd] at h5
    simp only [Bool.and_eq_true, Bool.not_eq_true'] at h5
    have := h5.1
    simpa using this
  · rw [hd] at h5
    simp only [Bool.and_eq_true, Bool.not_eq_true', Bool.or_eq_true] at h5
    rcases h5.2 with h7 | h7
    · rw [List.contains_iff_mem.2 hl] at h7; cases h7
    · split at h7 <;> rename_i h8
      · rw [if_pos (by simpa using h8)]; exact h7
      · rw [if_neg (by simpa using h8)]; exact h7
  · rcases h6 with (h6 | h6) | h6
    · omega
    · omega
    · exact h6

theorem compOps_get {fl : List Nat} (ops : Array Oper) : ∀ (l : List Oper) (i : Nat), (compOps P fl ops l)[i]? = (l[i]?).map (compOper P fl ops)
  | [], i => by simp [compOps]
  | o :: l, i => by
    cases i with
    | zero => simp [compOps]
    | succ i => simp only [compOps, List.getElem?_cons_succ]; exact compOps_get ops l i

end
end Go.Proofs.Ytlmplofpclaokaa
