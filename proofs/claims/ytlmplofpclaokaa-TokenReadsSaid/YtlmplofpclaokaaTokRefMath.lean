/- The longest beginning that is a token; plain. -/
import Derived.Test.YtlmplofpclaokaaTokRef
namespace Go.Proofs.Ytlmplofpclaokaa
set_option autoImplicit false
set_option linter.unusedSimpArgs false
set_option linter.unusedVariables false

theorem ltr_nam {c : UInt8} (h : ltr c = true) : nam c = true := by simp [nam, h]
theorem dig_not_ltr {c : UInt8} (h : dig c = true) : ltr c = false := by
  cases hh : ltr c with
  | false => rfl
  | true => rw [dig_iff] at h; rw [ltr_iff] at hh; omega
theorem tw_all {f : UInt8 → Bool} : ∀ {r : List UInt8} {n : Nat}, n ≤ (r.takeWhile f).length → (r.take n).all f = true
  | [], n, _ => by simp
  | c :: r, 0, _ => rfl
  | c :: r, n + 1, h => by
    rw [List.takeWhile_cons] at h
    split at h
    · rename_i hc
      rw [List.take_succ_cons, List.all_cons, hc, tw_all (by simpa using h)]; rfl
    · simp at h
theorem tw_full {f : UInt8 → Bool} : ∀ {r : List UInt8}, (r.takeWhile f).length = r.length ↔ r.all f = true
  | [] => by simp
  | c :: r => by
    rw [List.takeWhile_cons, List.all_cons]
    cases hc : f c with
    | true => simp [tw_full (f := f) (r := r)]
    | false => simp
theorem fmd_take {s : List UInt8} {n : Nat} (hn : n ≤ nl s) (hl : n < s.length) : fmd (s.take (n + 1)) = decide (n < nl s) := by
  cases s with
  | nil => simp at hl
  | cons c r =>
    rw [nl_cons] at hn ⊢
    unfold fmd
    rw [List.take_succ_cons, decide_eq_true (by simp), List.getD_cons_zero, List.all_cons]
    cases hc : ltr c with
    | false => rw [decide_eq_false (by simp)]; rfl
    | true =>
      rw [hc, if_pos rfl] at hn
      rw [ltr_nam hc, if_pos rfl]
      simp only [Bool.true_and]
      have hl' : n ≤ r.length := by simpa using Nat.le_of_lt_succ (by simpa using hl)
      cases n with
      | zero => simp; omega
      | succ n =>
        have hl2 : n < r.length := hl'
        rw [all_take _ _ hl2, tw_all (show n ≤ (r.takeWhile nam).length by omega), Bool.true_and]
        have := tw_step (f := nam) (r := r) (n := n) (by omega) hl2
        exact bool_iff (by rw [← this]; omega)

def signs : List (List UInt8) := [[61], [60, 62], [60], [60, 61], [62], [62, 61], [40], [41], [46], [91], [93], [45]]
def qdr : List UInt8 → List UInt8 → Option (List UInt8)
  | [], _ => none
  | [c], acc => if c = 39 then some acc else none
  | c :: d :: r, acc => if c = 39 then (if d = 39 then qdr r (acc ++ [39]) else none) else qdr (d :: r) (acc ++ [c])
def qd (s : List UInt8) : Option (List UInt8) := if s.getD 0 0 = 39 ∧ 2 ≤ s.length then qdr (s.drop 1) [] else none
/-- Of which kind a text is. -/
def kd (s : List UInt8) : Nat :=
  if nl s = s.length then 1 else if s ≠ [] ∧ s.all dig = true then 2 else if (qd s).isSome = true then 3
  else if s.length = 2 ∧ s.getD 0 0 = 37 ∧ dig (s.getD 1 0) = true then 4 else if signs.contains s = true then 5 else 0

theorem signs_head {c : UInt8} {r : List UInt8} (h : signs.contains (c :: r) = true) : sgn c = true := by
  simp only [signs, List.contains_cons, Bool.or_eq_true, List.contains_nil, Bool.false_eq_true, or_false, beq_iff_eq, List.cons.injEq] at h
  rcases h with h | h | h | h | h | h | h | h | h | h | h | h <;> (rw [h.1]; rfl)
theorem sgn_not {c : UInt8} (h : sgn c = true) : ltr c = false ∧ dig c = false ∧ c ≠ 39 ∧ c ≠ 37 := by
  have : ∀ d ∈ ([61, 60, 62, 40, 41, 46, 91, 93, 45] : List UInt8), ltr d = false ∧ dig d = false ∧ d ≠ 39 ∧ d ≠ 37 := by decide
  exact this c (by simpa [sgn] using h)
theorem kd_nl {c : UInt8} {r : List UInt8} (h : ltr c = false) : kd (c :: r) = if (c :: r).all dig = true then 2 else if (qd (c :: r)).isSome = true then 3
    else if (c :: r).length = 2 ∧ (c :: r).getD 0 0 = 37 ∧ dig ((c :: r).getD 1 0) = true then 4 else if signs.contains (c :: r) = true then 5 else 0 := by
  have e : nl (c :: r) = 0 := by rw [nl_cons, h]; rfl
  unfold kd
  rw [if_neg (by rw [e]; simp)]
  by_cases q : (c :: r).all dig = true
  · rw [if_pos ⟨by simp, q⟩, if_pos q]
  · rw [if_neg (fun w => q w.2), if_neg q]
theorem kd_nd {c : UInt8} {r : List UInt8} (h : ltr c = false) (h2 : dig c = false) : kd (c :: r) = if (qd (c :: r)).isSome = true then 3
    else if (c :: r).length = 2 ∧ (c :: r).getD 0 0 = 37 ∧ dig ((c :: r).getD 1 0) = true then 4 else if signs.contains (c :: r) = true then 5 else 0 := by
  rw [kd_nl h, if_neg (by rw [List.all_cons, h2]; simp)]
theorem qd_not {c : UInt8} {r : List UInt8} (h : c ≠ 39) : (qd (c :: r)).isSome = false := by
  unfold qd
  rw [if_neg (fun q => h q.1)]; rfl
theorem qd_39 (r : List UInt8) : qd (39 :: r) = qdr r [] := by
  cases r with
  | nil => rfl
  | cons d r => unfold qd; rw [if_pos ⟨rfl, by simp⟩]; rfl
theorem kd_ltr {c : UInt8} {r : List UInt8} (h : ltr c = true) : kd (c :: r) = if r.all nam = true then 1 else 0 := by
  unfold kd
  rw [nl_cons, if_pos h, List.length_cons]
  by_cases ha : r.all nam = true
  · rw [if_pos (by rw [tw_full.2 ha]; omega), if_pos ha]
  · have hne : (r.takeWhile nam).length ≠ r.length := fun e => ha (tw_full.1 e)
    have h1 : dig c = false := by
      cases hd : dig c with
      | false => rfl
      | true => rw [dig_not_ltr hd] at h; cases h
    have h2 : c ≠ 39 := fun e => by rw [e] at h; cases h
    have h3 : c ≠ 37 := fun e => by rw [e] at h; cases h
    rw [if_neg (by omega), if_neg (fun q => by have := q.2; rw [List.all_cons, h1] at this; cases this), if_neg (by rw [qd_not h2]; decide), if_neg (fun q => h3 q.2.1), if_neg (fun q => by have := (sgn_not (signs_head q)).1; rw [h] at this; cases this), if_neg ha]
theorem kd_dig {c : UInt8} {r : List UInt8} (h : dig c = true) : kd (c :: r) = if r.all dig = true then 2 else 0 := by
  have hl := dig_not_ltr h
  have h2 : c ≠ 39 := fun e => by rw [e] at h; cases h
  have h3 : c ≠ 37 := fun e => by rw [e] at h; cases h
  rw [kd_nl hl, List.all_cons, h, Bool.true_and]
  by_cases ha : r.all dig = true
  · rw [if_pos ha, if_pos ha]
  · rw [if_neg ha, if_neg ha, if_neg (by rw [qd_not h2]; decide), if_neg (fun q => h3 q.2.1), if_neg (fun q => by have := (sgn_not (signs_head q)).2.1; rw [h] at this; cases this)]
theorem kd_39 (r : List UInt8) : kd (39 :: r) = if (qdr r []).isSome = true then 3 else 0 := by
  rw [kd_nd rfl rfl, qd_39]
  by_cases h : (qdr r []).isSome = true
  · rw [if_pos h, if_pos h]
  · rw [if_neg h, if_neg h, if_neg (fun q => absurd q.2.1 (by decide : ¬ (39 : UInt8) = 37)), if_neg (fun q => (sgn_not (signs_head q)).2.2.1 rfl)]
theorem kd_37 (r : List UInt8) : kd (37 :: r) = if r.length = 1 ∧ dig (r.getD 0 0) = true then 4 else 0 := by
  rw [kd_nd rfl rfl, if_neg (by rw [qd_not (by decide)]; decide), if_neg (c := signs.contains _ = true) (fun q => (sgn_not (signs_head q)).2.2.2 rfl)]
  by_cases h : r.length = 1 ∧ dig (r.getD 0 0) = true
  · rw [if_pos h, if_pos ⟨by rw [List.length_cons, h.1], rfl, h.2⟩]
  · rw [if_neg h, if_neg (fun q => h ⟨by have := q.1; rw [List.length_cons] at this; omega, q.2.2⟩)]
theorem kd_sgn {c : UInt8} {r : List UInt8} (h1 : ltr c = false) (h2 : dig c = false) (h3 : c ≠ 39) (h4 : c ≠ 37) : kd (c :: r) = if signs.contains (c :: r) = true then 5 else 0 := by
  rw [kd_nd h1 h2, if_neg (by rw [qd_not h3]; decide), if_neg (fun q => h4 q.2.1)]

/-- The longest beginning, as it is sought. -/
def lg (s : List UInt8) : Nat → Nat → Nat → Nat → Nat × Nat
  | 0, _, best, k => if k = 3 then (0, 0) else (best, k)
  | m + 1, n, best, k =>
    if kd (s.take n) = 3 ∧ (n = s.length ∨ s.getD n 0 ≠ 39) then (n, 3)
    else if s.getD 0 0 ≠ 39 ∧ kd (s.take n) = 0 ∧ 1 < n then (best, k)
    else if 0 < kd (s.take n) then lg s m (n + 1) n (kd (s.take n)) else lg s m (n + 1) best k
def longest (s : List UInt8) : Nat × Nat := lg s s.length 1 0 0

theorem lg_run {s : List UInt8} {N K : Nat} (h39 : s.getD 0 0 ≠ 39) (hK : K ≠ 3) (hK0 : 0 < K) (hN : 1 ≤ N) (hNl : N ≤ s.length) (hk : ∀ n, 2 ≤ n → n ≤ N → kd (s.take n) = K)
    (h1 : kd (s.take 1) = K ∨ (kd (s.take 1) = 0 ∧ 2 ≤ N)) (h0 : N < s.length → kd (s.take (N + 1)) = 0) : longest s = (N, K) := by
  have run : ∀ m n best k, n + m = s.length + 1 → 2 ≤ n → n ≤ N + 1 → ((best = n - 1 ∧ k = K) ∨ (n = 2 ∧ 2 ≤ N ∧ k = 0)) → lg s m n best k = (N, K) := by
    intro m
    induction m with
    | zero =>
      intro n best k e1 e2 e3 e4
      unfold lg
      rcases e4 with ⟨rfl, rfl⟩ | ⟨rfl, e5, rfl⟩
      · rw [if_neg hK, show n - 1 = N from by omega]
      · omega
    | succ m ih =>
      intro n best k e1 e2 e3 e4
      unfold lg
      by_cases hn : n ≤ N
      · rw [hk n e2 hn, if_neg (fun q => hK q.1), if_neg (fun q => by omega), if_pos hK0]
        exact ih (n + 1) n K (by omega) (by omega) (by omega) (.inl ⟨rfl, rfl⟩)
      · obtain rfl : n = N + 1 := by omega
        rw [h0 (by omega), if_neg (fun q => by omega), if_pos ⟨h39, rfl, by omega⟩]
        rcases e4 with ⟨rfl, rfl⟩ | ⟨e5, e6, rfl⟩
        · rfl
        · omega
  unfold longest
  obtain ⟨m, hm⟩ : ∃ m, s.length = m + 1 := ⟨s.length - 1, by omega⟩
  rw [hm]
  unfold lg
  rcases h1 with h1 | ⟨h1, h2⟩
  · rw [h1, if_neg (fun q => hK q.1), if_neg (fun q => by omega), if_pos hK0]
    exact run m 2 1 K (by omega) (by omega) (by omega) (.inl ⟨rfl, rfl⟩)
  · rw [h1, if_neg (fun q => by omega), if_neg (fun q => by omega), if_neg (by omega)]
    exact run m 2 0 0 (by omega) (by omega) (by omega) (.inr ⟨rfl, h2, rfl⟩)
theorem lg_none {s : List UInt8} (h39 : s.getD 0 0 ≠ 39) (hl : 1 ≤ s.length) (h1 : kd (s.take 1) = 0) (h2 : 2 ≤ s.length → kd (s.take 2) = 0) : longest s = (0, 0) := by
  unfold longest
  obtain ⟨m, hm⟩ : ∃ m, s.length = m + 1 := ⟨s.length - 1, by omega⟩
  rw [hm]
  unfold lg
  rw [h1, if_neg (fun q => by omega), if_neg (fun q => by omega), if_neg (by omega)]
  cases m with
  | zero => rfl
  | succ m =>
    unfold lg
    rw [h2 (by omega), if_neg (fun q => by omega), if_pos ⟨h39, rfl, by omega⟩]

theorem take_cons1 (c : UInt8) (r : List UInt8) {n : Nat} (h : 1 ≤ n) : (c :: r).take n = c :: r.take (n - 1) := by
  obtain ⟨m, rfl⟩ : ∃ m, n = m + 1 := ⟨n - 1, by omega⟩
  rfl
theorem longest_ltr {c : UInt8} {r : List UInt8} (h : ltr c = true) : longest (c :: r) = (nl (c :: r), 1) := by
  have hn : nl (c :: r) = 1 + (r.takeWhile nam).length := by rw [nl_cons, if_pos h]
  have hle := nl_le (c :: r)
  rw [List.length_cons] at hle
  have ok : ∀ n, 1 ≤ n → n ≤ nl (c :: r) → kd ((c :: r).take n) = 1 := fun n h1 h2 => by
    rw [take_cons1 _ _ h1, kd_ltr h, if_pos (tw_all (by omega))]
  refine lg_run (fun e => by rw [show c = 39 from e] at h; cases h) (by decide) (by decide) (by omega) (by simpa using hle) (fun n h1 h2 => ok n (by omega) h2) (.inl (ok 1 (Nat.le_refl _) (by omega))) fun h2 => ?_
  rw [List.length_cons] at h2
  rw [take_cons1 _ _ (by omega), kd_ltr h, if_neg]
  rw [show nl (c :: r) + 1 - 1 = (r.takeWhile nam).length + 1 from by omega, all_take _ _ (by omega)]
  have := tw_step (f := nam) (r := r) (n := (r.takeWhile nam).length) (Nat.le_refl _) (by omega)
  intro q
  rw [Bool.and_eq_true] at q
  exact absurd (this.2 q.2) (Nat.lt_irrefl _)
theorem dl_cons {c : UInt8} {r : List UInt8} (h : dig c = true) : dl (c :: r) = 1 + (r.takeWhile dig).length := by
  unfold dl; rw [List.takeWhile_cons, if_pos h, List.length_cons]; omega
theorem longest_dig {c : UInt8} {r : List UInt8} (h : dig c = true) : longest (c :: r) = (dl (c :: r), 2) := by
  have hn : dl (c :: r) = 1 + (r.takeWhile dig).length := dl_cons h
  have hle := dl_le (c :: r)
  rw [List.length_cons] at hle
  have ok : ∀ n, 1 ≤ n → n ≤ dl (c :: r) → kd ((c :: r).take n) = 2 := fun n h1 h2 => by
    rw [take_cons1 _ _ h1, kd_dig h, if_pos (tw_all (by omega))]
  refine lg_run (fun e => by rw [show c = 39 from e] at h; cases h) (by decide) (by decide) (by omega) (by simpa using hle) (fun n h1 h2 => ok n (by omega) h2) (.inl (ok 1 (Nat.le_refl _) (by omega))) fun h2 => ?_
  rw [List.length_cons] at h2
  rw [take_cons1 _ _ (by omega), kd_dig h, if_neg]
  rw [show dl (c :: r) + 1 - 1 = (r.takeWhile dig).length + 1 from by omega, all_take _ _ (by omega)]
  have := tw_step (f := dig) (r := r) (n := (r.takeWhile dig).length) (Nat.le_refl _) (by omega)
  intro q
  rw [Bool.and_eq_true] at q
  exact absurd (this.2 q.2) (Nat.lt_irrefl _)
theorem longest_37 (r : List UInt8) : longest (37 :: r) = if 1 ≤ r.length ∧ dig (r.getD 0 0) = true then (2, 4) else (0, 0) := by
  split
  · rename_i h
    refine lg_run (s := 37 :: r) (N := 2) (fun e => absurd e (by decide : ¬ (37 : UInt8) = 39)) (by decide) (by decide) (by decide) (by rw [List.length_cons]; omega) (fun n h1 h2 => ?_) (.inr ⟨?_, by decide⟩) fun h2 => ?_
    · obtain rfl : n = 2 := by omega
      rw [take_cons1 _ _ (by omega), kd_37, if_pos]
      cases r with
      | nil => simp at h
      | cons d r => simpa using h.2
    · rw [take_cons1 _ _ (by omega), kd_37, if_neg (by simp)]
    · rw [take_cons1 _ _ (by omega), kd_37, if_neg]
      rw [List.length_cons] at h2
      rw [List.length_take]
      omega
  · rename_i h
    refine lg_none (s := 37 :: r) (fun e => absurd e (by decide : ¬ (37 : UInt8) = 39)) (by simp) ?_ fun h2 => ?_
    · rw [take_cons1 _ _ (by omega), kd_37, if_neg (by simp)]
    · rw [take_cons1 _ _ (by omega), kd_37, if_neg]
      cases r with
      | nil => simp
      | cons d r => intro q; exact h ⟨by simp, by simpa using q.2⟩
theorem signs_1 {c : UInt8} : signs.contains [c] = sgn c := by
  rw [Bool.eq_iff_iff]
  simp [signs, sgn]
theorem signs_2 {c d : UInt8} : signs.contains [c, d] = two [c, d] := by
  rw [Bool.eq_iff_iff]
  simp [signs, two, or_assoc]
theorem signs_3 {c d e : UInt8} {r : List UInt8} : signs.contains (c :: d :: e :: r) = false := by
  simp [signs]
theorem longest_sgn {c : UInt8} {r : List UInt8} (h : sgn c = true) : longest (c :: r) = (if two (c :: r) then 2 else 1, 5) := by
  obtain ⟨h1, h2, h3, h4⟩ := sgn_not h
  have k1 : kd [c] = 5 := by rw [kd_sgn h1 h2 h3 h4, signs_1, h]; rfl
  cases r with
  | nil =>
    rw [show two [c] = false from by simp [two]]
    exact lg_run (N := 1) h3 (by decide) (by decide) (by decide) (by simp) (fun n q1 q2 => by omega) (.inl k1) (fun q => by simp at q)
  | cons d r =>
    have t2 : two (c :: d :: r) = two [c, d] := rfl
    have k2 : kd [c, d] = if two [c, d] = true then 5 else 0 := by rw [kd_sgn h1 h2 h3 h4, signs_2]
    rw [t2]
    cases ht : two [c, d] with
    | true =>
      refine lg_run (N := 2) h3 (by decide) (by decide) (by decide) (by simp) (fun n q1 q2 => ?_) (.inl k1) (fun q => ?_)
      · obtain rfl : n = 2 := by omega
        show kd [c, d] = 5
        rw [k2, ht]; rfl
      · cases r with
        | nil => simp at q
        | cons e r => show kd [c, d, e] = 0; rw [kd_sgn h1 h2 h3 h4, signs_3]; rfl
    | false =>
      refine lg_run (N := 1) h3 (by decide) (by decide) (by decide) (by simp) (fun n q1 q2 => by omega) (.inl k1) (fun q => ?_)
      show kd [c, d] = 0
      rw [k2, ht]; rfl
theorem longest_no {c : UInt8} {r : List UInt8} (h1 : ltr c = false) (h2 : dig c = false) (h3 : c ≠ 39) (h4 : c ≠ 37) (h5 : sgn c = false) : longest (c :: r) = (0, 0) := by
  have key : ∀ r, kd (c :: r) = 0 := fun r => by
    rw [kd_sgn h1 h2 h3 h4, if_neg]
    intro q
    rw [signs_head q] at h5; cases h5
  refine lg_none h3 (by simp) (key _) fun q => ?_
  rw [take_cons1 _ _ (by omega)]
  exact key _
end Go.Proofs.Ytlmplofpclaokaa
