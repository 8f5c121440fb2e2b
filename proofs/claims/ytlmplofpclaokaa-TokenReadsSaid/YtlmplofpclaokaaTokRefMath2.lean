/- Texts in quotes and numbers, as the reference has them; plain. -/
import Derived.Test.YtlmplofpclaokaaTokRefMath
namespace Go.Proofs.Ytlmplofpclaokaa
set_option autoImplicit false
set_option linter.unusedSimpArgs false
set_option linter.unusedVariables false

/-- The first end of a text in quotes. -/
def qz : List UInt8 → Nat → List UInt8 → Option (List UInt8 × Nat)
  | [], _, _ => none
  | [c], i, acc => if c = 39 then some (acc, i + 1) else none
  | c :: d :: r, i, acc => if c = 39 then (if d = 39 then qz r (i + 2) (acc ++ [39]) else some (acc, i + 1)) else qz (d :: r) (i + 1) (acc ++ [c])
theorem qz_of : ∀ (N : Nat) (r : List UInt8), r.length ≤ N → ∀ (i : Nat) (acc : List UInt8) (m : Nat) (t : List UInt8), m ≤ r.length → qdr (r.take m) acc = some t → (m = r.length ∨ r.getD m 0 ≠ 39) → qz r i acc = some (t, i + m)
  | _, [], _, i, acc, m, t, hm, h, _ => by simp [qdr] at h
  | _, [c], _, i, acc, m, t, hm, h, _ => by
    rcases (show m = 0 ∨ m = 1 from by simp at hm; omega) with rfl | rfl
    · simp [qdr] at h
    · simp only [List.take_succ_cons, List.take_zero, qdr] at h
      split at h
      · rename_i hc
        cases h
        simp [qz, hc]
      · cases h
  | 0, c :: d :: r, hN, _, _, _, _, _, _, _ => by simp at hN
  | N + 1, c :: d :: r, hN, i, acc, m, t, hm, h, he => by
    simp only [List.length_cons] at hN hm he
    match m with
    | 0 => simp [qdr] at h
    | 1 =>
      simp only [List.take_succ_cons, List.take_zero, qdr] at h
      split at h
      · rename_i hc
        cases h
        have hd : d ≠ 39 := by
          rcases he with he | he
          · omega
          · exact he
        simp [qz, hc, hd]
      · cases h
    | m + 2 =>
      simp only [List.take_succ_cons, qdr] at h
      unfold qz
      split at h
      · rename_i hc
        rw [if_pos hc]
        split at h
        · rename_i hd
          rw [if_pos hd, qz_of N r (by omega) (i + 2) _ m t (by omega) h (by
            rcases he with he | he
            · exact .inl (by omega)
            · exact .inr he)]
          rw [show i + 2 + m = i + (m + 2) from by omega]
        · cases h
      · rename_i hc
        rw [if_neg hc, qz_of N (d :: r) (by simp only [List.length_cons]; omega) (i + 1) _ (m + 1) t (by simp only [List.length_cons]; omega) (by simpa using h) (by
          rcases he with he | he
          · exact .inl (by simp only [List.length_cons]; omega)
          · exact .inr he)]
        rw [show i + 1 + (m + 1) = i + (m + 2) from by omega]
theorem qz_to : ∀ (N : Nat) (r : List UInt8), r.length ≤ N → ∀ (i : Nat) (acc t : List UInt8) (n : Nat), qz r i acc = some (t, n) → ∃ m, n = i + m ∧ 1 ≤ m ∧ m ≤ r.length ∧ qdr (r.take m) acc = some t ∧ (m = r.length ∨ r.getD m 0 ≠ 39)
  | _, [], _, i, acc, t, n, h => by cases h
  | _, [c], _, i, acc, t, n, h => by
    simp only [qz] at h
    split at h
    · rename_i hc
      cases h
      exact ⟨1, rfl, Nat.le_refl _, by simp, by simp [qdr, hc], .inl rfl⟩
    · cases h
  | 0, c :: d :: r, hN, _, _, _, _, _ => by simp at hN
  | N + 1, c :: d :: r, hN, i, acc, t, n, h => by
    simp only [List.length_cons] at hN
    simp only [qz] at h
    split at h
    · rename_i hc
      split at h
      · rename_i hd
        obtain ⟨m, e, h1, h2, h3, h4⟩ := qz_to N r (by omega) _ _ _ _ h
        refine ⟨m + 2, by omega, by omega, by simp only [List.length_cons]; omega, ?_, ?_⟩
        · simp only [List.take_succ_cons, qdr, hc, hd, if_true]; exact h3
        · rcases h4 with h4 | h4
          · exact .inl (by simp only [List.length_cons]; omega)
          · exact .inr h4
      · rename_i hd
        cases h
        exact ⟨1, rfl, Nat.le_refl _, by simp, by simp [qdr, hc], .inr hd⟩
    · rename_i hc
      obtain ⟨m, e, h1, h2, h3, h4⟩ := qz_to N (d :: r) (by simp only [List.length_cons]; omega) _ _ _ _ h
      obtain ⟨m, rfl⟩ : ∃ m', m = m' + 1 := ⟨m - 1, by omega⟩
      simp only [List.length_cons] at h2
      refine ⟨m + 2, by omega, by omega, by simp only [List.length_cons]; omega, ?_, ?_⟩
      · simp only [List.take_succ_cons, qdr, hc, if_false]
        simpa using h3
      · rcases h4 with h4 | h4
        · exact .inl (by simp only [List.length_cons] at h4 ⊢; omega)
        · exact .inr h4
theorem longest_39 (r : List UInt8) : longest (39 :: r) = match qz r 1 [] with
    | some (_, n) => (n, 3)
    | none => (0, 0) := by
  have key : ∀ m n best k, n + m = r.length + 2 → 1 ≤ n → ((k = 0 ∧ best = 0) ∨ k = 3) → (∀ n', 1 ≤ n' → n' < n → ¬ ((qdr (r.take (n' - 1)) []).isSome = true ∧ (n' - 1 = r.length ∨ r.getD (n' - 1) 0 ≠ 39))) → lg (39 :: r) m n best k = match qz r 1 [] with
      | some (_, n) => (n, 3)
      | none => (0, 0) := by
    intro m
    induction m with
    | zero =>
      intro n best k e1 e2 e3 e4
      have hz : qz r 1 [] = none := by
        cases hq : qz r 1 [] with
        | none => rfl
        | some p =>
          obtain ⟨t, n0⟩ := p
          obtain ⟨m, f1, f2, f3, f4, f5⟩ := qz_to _ r (Nat.le_refl _) _ _ _ _ hq
          exact (e4 (m + 1) (by omega) (by omega) (by rw [show m + 1 - 1 = m from rfl, f4]; exact ⟨rfl, f5⟩)).elim
      rw [hz]
      unfold lg
      rcases e3 with ⟨rfl, rfl⟩ | rfl <;> rfl
    | succ m ih =>
      intro n best k e1 e2 e3 e4
      have hk : kd ((39 :: r).take n) = if (qdr (r.take (n - 1)) []).isSome = true then 3 else 0 := by rw [take_cons1 _ _ e2, kd_39]
      have hg : (39 :: r).getD n 0 = r.getD (n - 1) 0 := by
        obtain ⟨n', rfl⟩ : ∃ n', n = n' + 1 := ⟨n - 1, by omega⟩
        rfl
      have next : ¬ ((qdr (r.take (n - 1)) []).isSome = true ∧ (n - 1 = r.length ∨ r.getD (n - 1) 0 ≠ 39)) → ∀ best k, ((k = 0 ∧ best = 0) ∨ k = 3) → lg (39 :: r) m (n + 1) best k = match qz r 1 [] with
          | some (_, n) => (n, 3)
          | none => (0, 0) := fun hs best k e3 => by
        refine ih (n + 1) best k (by omega) (by omega) e3 fun n' q1 q2 => ?_
        by_cases e : n' = n
        · subst e; exact hs
        · exact e4 n' q1 (by omega)
      unfold lg
      rw [hk, hg, List.length_cons]
      by_cases hs : (qdr (r.take (n - 1)) []).isSome = true
      · rw [if_pos hs]
        by_cases he : n - 1 = r.length ∨ r.getD (n - 1) 0 ≠ 39
        · rw [if_pos ⟨rfl, he.imp (fun e => by omega) id⟩]
          obtain ⟨t, ht⟩ := Option.isSome_iff_exists.1 hs
          rw [qz_of _ r (Nat.le_refl _) 1 [] (n - 1) t (by omega) ht he, show 1 + (n - 1) = n from by omega]
        · rw [if_neg (fun q => he (q.2.imp (fun e => by omega) id)), if_neg (fun q => q.1 rfl), if_pos (by decide)]
          exact next (fun q => he q.2) _ _ (.inr rfl)
      · rw [if_neg hs, if_neg (fun q => by omega), if_neg (fun q => q.1 rfl), if_neg (by decide)]
        exact next (fun q => hs q.1) _ _ e3
  exact key _ 1 0 0 (by simp; omega) (Nat.le_refl _) (.inl ⟨rfl, rfl⟩) fun n' q1 q2 => by omega

/-- The first byte that may not be. -/
def oddB (c : UInt8) : Bool := decide (c.toNat < 32) || decide (126 < c.toNat)
def fo : List UInt8 → Option Nat
  | [] => none
  | c :: r => if oddB c = true then some 0 else (fo r).map (· + 1)
theorem oddB_iff (c : UInt8) : oddB c = true ↔ (c.toNat < 32 ∨ 126 < c.toNat) := by simp [oddB]
theorem qs_eq : ∀ (N : Nat) (r : List UInt8), r.length ≤ N → ∀ (i : Nat) (acc : List UInt8), qs r i acc = match qz r i acc with
    | some (t, n) => (match fo (r.take (n - i)) with
      | some j => .odd (i + j)
      | none => .done t n)
    | none => match fo r with
      | some j => .odd (i + j)
      | none => .short
  | _, [], _, i, acc => rfl
  | _, [c], _, i, acc => by
    simp only [qs, qz]
    by_cases ho : c.toNat < 32 ∨ 126 < c.toNat
    · have hb := (oddB_iff c).2 ho
      rw [if_pos ho]
      split
      · rename_i e; split at e
        · cases e; rw [show i + 1 - i = 1 from by omega]; simp [fo, hb]
        · cases e
      · simp [fo, hb]
    · have hb : oddB c = false := by cases q : oddB c with | false => rfl | true => exact (ho ((oddB_iff c).1 q)).elim
      rw [if_neg ho]
      by_cases hc : c = 39
      · rw [if_pos hc, if_pos hc]
        simp only [show i + 1 - i = 1 from by omega]
        simp [fo, hb]
      · rw [if_neg hc, if_neg hc]
        simp [fo, hb]
  | 0, c :: d :: r, hN, _, _ => by simp at hN
  | N + 1, c :: d :: r, hN, i, acc => by
    simp only [List.length_cons] at hN
    by_cases ho : c.toNat < 32 ∨ 126 < c.toNat
    · have hb := (oddB_iff c).2 ho
      simp only [qs]
      rw [if_pos ho]
      cases hq : qz (c :: d :: r) i acc with
      | none => simp [fo, hb]
      | some p =>
        obtain ⟨t, n⟩ := p
        obtain ⟨m, f1, f2, f3, f4, f5⟩ := qz_to _ _ (Nat.le_refl _) _ _ _ _ hq
        obtain ⟨m, rfl⟩ : ∃ m', m = m' + 1 := ⟨m - 1, by omega⟩
        simp only [f1, show i + (m + 1) - i = m + 1 from by omega, List.take_succ_cons]
        simp [fo, hb]
    · have hb : oddB c = false := by cases q : oddB c with | false => rfl | true => exact (ho ((oddB_iff c).1 q)).elim
      simp only [qs, qz]
      rw [if_neg ho]
      by_cases hc : c = 39
      · rw [if_pos hc, if_pos hc]
        by_cases hd : d = 39
        · rw [if_pos hd, if_pos hd, qs_eq N r (by omega)]
          have hbd : oddB d = false := by rw [hd]; rfl
          cases hq : qz r (i + 2) (acc ++ [39]) with
          | none =>
            simp only [fo, hb, hbd]
            cases fo r with
            | none => rfl
            | some j => simp; omega
          | some p =>
            obtain ⟨t, n⟩ := p
            obtain ⟨m, f1, f2, f3, f4, f5⟩ := qz_to _ _ (Nat.le_refl _) _ _ _ _ hq
            simp only [f1, show i + 2 + m - (i + 2) = m from by omega, show i + 2 + m - i = m + 2 from by omega, List.take_succ_cons, fo, hb, hbd]
            cases fo (r.take m) with
            | none => rfl
            | some j => simp; omega
        · rw [if_neg hd, if_neg hd]
          simp only [show i + 1 - i = 1 from by omega]
          simp [fo, hb]
      · rw [if_neg hc, if_neg hc, qs_eq N (d :: r) (by simp only [List.length_cons]; omega)]
        cases hq : qz (d :: r) (i + 1) (acc ++ [c]) with
        | none =>
          simp only []
          rw [show fo (c :: d :: r) = (fo (d :: r)).map (· + 1) from by rw [fo, hb]; rfl]
          cases fo (d :: r) with
          | none => rfl
          | some j => simp; omega
        | some p =>
          obtain ⟨t, n⟩ := p
          obtain ⟨m, f1, f2, f3, f4, f5⟩ := qz_to _ _ (Nat.le_refl _) _ _ _ _ hq
          simp only [f1, show i + 1 + m - (i + 1) = m from by omega, show i + 1 + m - i = m + 1 from by omega]
          rw [List.take_succ_cons, show ∀ l, fo (c :: l) = (fo l).map (· + 1) from fun l => by rw [fo, hb]; rfl]
          cases fo ((d :: r).take m) with
          | none => rfl
          | some j => simp; omega

/-! ### Numbers -/
theorem numV_from (l : List UInt8) : ∀ a, l.foldl (fun a c => 10 * a + (c.toNat - 48)) a = a * 10 ^ l.length + numV l := by
  induction l with
  | nil => intro a; simp [numV]
  | cons c l ih =>
    intro a
    rw [List.foldl_cons, ih]
    rw [show numV (c :: l) = (c.toNat - 48) * 10 ^ l.length + numV l from by unfold numV; rw [List.foldl_cons, ← numV, Nat.mul_zero, Nat.zero_add]; exact ih _]
    rw [List.length_cons, Nat.pow_succ, Nat.add_mul, ← Nat.add_assoc]
    congr 1
    congr 1
    rw [Nat.mul_comm 10 a, Nat.mul_assoc, Nat.mul_comm 10]
theorem numV_cons (c : UInt8) (l : List UInt8) : numV (c :: l) = (c.toNat - 48) * 10 ^ l.length + numV l := by
  unfold numV; rw [List.foldl_cons, ← numV, Nat.mul_zero, Nat.zero_add]; exact numV_from l _
theorem numV_lt {l : List UInt8} (h : l.all dig = true) : numV l < 10 ^ l.length := by
  induction l with
  | nil => decide
  | cons c l ih =>
    rw [List.all_cons, Bool.and_eq_true] at h
    have hd := (dig_iff c).1 h.1
    have := ih h.2
    rw [numV_cons, List.length_cons, Nat.pow_succ]
    have h9 : (c.toNat - 48) * 10 ^ l.length ≤ 9 * 10 ^ l.length := Nat.mul_le_mul_right _ (by omega)
    omega
theorem less_num : ∀ {a b : List UInt8}, a.length = b.length → a.all dig = true → b.all dig = true → (Op.bytesLess a b = true ↔ numV a < numV b)
  | [], [], _, _, _ => by simp [Op.bytesLess, numV]
  | [], d :: b, h, _, _ => by simp at h
  | c :: a, [], h, _, _ => by simp at h
  | c :: a, d :: b, h, h1, h2 => by
    simp only [List.length_cons, Nat.add_right_cancel_iff] at h
    rw [List.all_cons, Bool.and_eq_true] at h1 h2
    have hc := (dig_iff c).1 h1.1
    have hd := (dig_iff d).1 h2.1
    have la := numV_lt h1.2
    have lb := numV_lt h2.2
    have ih := less_num h h1.2 h2.2
    rw [numV_cons, numV_cons, h]
    rw [h] at la
    unfold Op.bytesLess
    rw [Bool.or_eq_true, Bool.and_eq_true, decide_eq_true_eq, beq_iff_eq, ih, UInt8.lt_iff_toNat_lt]
    rcases Nat.lt_trichotomy c.toNat d.toNat with q | q | q
    · have : (c.toNat - 48 + 1) * 10 ^ b.length ≤ (d.toNat - 48) * 10 ^ b.length := Nat.mul_le_mul_right _ (by omega)
      rw [Nat.add_mul, Nat.one_mul] at this
      constructor
      · intro _; omega
      · intro _; exact .inl q
    · have e : c = d := UInt8.toNat.inj q
      subst e
      constructor
      · rintro (q | ⟨_, q⟩)
        · exact absurd q (Nat.lt_irrefl _)
        · omega
      · intro q; exact .inr ⟨rfl, by omega⟩
    · have : (d.toNat - 48 + 1) * 10 ^ b.length ≤ (c.toNat - 48) * 10 ^ b.length := Nat.mul_le_mul_right _ (by omega)
      rw [Nat.add_mul, Nat.one_mul] at this
      constructor
      · rintro (q2 | ⟨e, _⟩)
        · omega
        · rw [e] at q; exact absurd q (Nat.lt_irrefl _)
      · intro _; omega
def maxT : List UInt8 := [49, 56, 52, 52, 54, 55, 52, 52, 48, 55, 51, 55, 48, 57, 53, 53, 49, 54, 49, 53]
theorem num_eq : ∀ {a b : List UInt8}, a.length = b.length → a.all dig = true → b.all dig = true → numV a = numV b → a = b
  | [], [], _, _, _, _ => rfl
  | [], d :: b, h, _, _, _ => by simp at h
  | c :: a, [], h, _, _, _ => by simp at h
  | c :: a, d :: b, h, h1, h2, e => by
    simp only [List.length_cons, Nat.add_right_cancel_iff] at h
    rw [List.all_cons, Bool.and_eq_true] at h1 h2
    have hc := (dig_iff c).1 h1.1
    have hd := (dig_iff d).1 h2.1
    have la := numV_lt h1.2
    have lb := numV_lt h2.2
    rw [numV_cons, numV_cons, h] at e
    rw [h] at la
    have q : c.toNat = d.toNat := by
      rcases Nat.lt_trichotomy c.toNat d.toNat with q | q | q
      · have : (c.toNat - 48 + 1) * 10 ^ b.length ≤ (d.toNat - 48) * 10 ^ b.length := Nat.mul_le_mul_right _ (by omega)
        rw [Nat.add_mul, Nat.one_mul] at this
        omega
      · exact q
      · have : (d.toNat - 48 + 1) * 10 ^ b.length ≤ (c.toNat - 48) * 10 ^ b.length := Nat.mul_le_mul_right _ (by omega)
        rw [Nat.add_mul, Nat.one_mul] at this
        omega
    have e1 : c = d := UInt8.toNat.inj q
    subst e1
    rw [num_eq h h1.2 h2.2 (by omega)]
/-- Is a number too great? -/
theorem num_big {a : List UInt8} (h : a.all dig = true) (h0 : a.length ≤ 1 ∨ a.getD 0 0 ≠ 48) : (20 < a.length ∨ (a.length = 20 ∧ (!(Op.bytesLess a maxT || decide (a = maxT))) = true)) ↔ 18446744073709551616 ≤ numV a := by
  have hm : numV maxT = 18446744073709551615 := by decide
  have lt := numV_lt h
  rcases Nat.lt_trichotomy a.length 20 with q | q | q
  · have : 10 ^ a.length ≤ 10 ^ 19 := Nat.pow_le_pow_right (by decide) (by omega)
    constructor
    · omega
    · intro w; omega
  · have hl : a.length = maxT.length := q
    have l1 := less_num hl h (by decide)
    rw [hm] at l1
    have l2 : a = maxT ↔ numV a = 18446744073709551615 := ⟨fun e => by rw [e, hm], fun e => num_eq hl h (by decide) (by rw [e, hm])⟩
    rw [Bool.not_eq_true', Bool.or_eq_false_iff, decide_eq_false_iff_not, l2, Bool.eq_false_iff, Ne, l1]
    omega
  · cases a with
    | nil => simp at q
    | cons c l =>
      rw [List.all_cons, Bool.and_eq_true] at h
      have hd := (dig_iff c).1 h.1
      rw [List.length_cons] at q h0
      have hc : c.toNat ≠ 48 := by
        rcases h0 with h0 | h0
        · omega
        · exact fun e => h0 ((nat_eq c 48 (by decide)).2 e)
      rw [numV_cons]
      have h1 : 1 * 10 ^ l.length ≤ (c.toNat - 48) * 10 ^ l.length := Nat.mul_le_mul_right _ (by omega)
      have h2 : 10 ^ 20 ≤ 10 ^ l.length := Nat.pow_le_pow_right (by decide) (by omega)
      rw [List.length_cons]
      constructor
      · intro _; omega
      · intro _; exact .inl q
end Go.Proofs.Ytlmplofpclaokaa
