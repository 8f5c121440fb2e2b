/- What the reference's small functions compute. -/
import Derived.Test.YtlmplofpclaokaaTokTokens
namespace Go.Proofs.Ytlmplofpclaokaa
set_option autoImplicit false
set_option linter.unusedSimpArgs false
set_option linter.unusedVariables false
attribute [local irreducible] callA callP ACalls

theorem ref_Digit_spec (c : UInt8) (H : AH) : ACalls PG broadsheetref04_Digit.n [u8A c] H fun r H' => r = .bool (dig c) ∧ H' = H := by
  rw [bool_iff (dig_iff c)]
  refine broadsheetref04_Digit.of rfl (wpF_start ?_)
  (repeat' (first | (refine au ?_; first | refine bsplit_dec (fun _ => ?_) (fun _ => ?_) | refine bsplit_intro (fun _ => ?_) (fun _ => ?_)) | exact au0 | fail)); (all_goals try (first | refine au ?_ | fail))
  all_goals (conv => whnf)
  all_goals exact ⟨congrArg AV.bool (by first | exact (decide_eq_true (by omega)).symm | exact (decide_eq_false (by omega)).symm | exact decide_eq_decide.2 (by omega)), rfl⟩
theorem ref_Letter_spec (c : UInt8) (H : AH) : ACalls PG broadsheetref04_Letter.n [u8A c] H fun r H' => r = .bool (ltr c) ∧ H' = H := by
  rw [bool_iff (ltr_iff c)]
  refine broadsheetref04_Letter.of rfl (wpF_start ?_)
  (repeat' (first | (refine au ?_; first | refine bsplit_dec (fun _ => ?_) (fun _ => ?_) | refine bsplit_intro (fun _ => ?_) (fun _ => ?_)) | exact au0 | fail)); (all_goals try (first | refine au ?_ | fail))
  all_goals (conv => whnf)
  all_goals exact ⟨congrArg AV.bool (by first | exact (decide_eq_true (by omega)).symm | exact (decide_eq_false (by omega)).symm | exact decide_eq_decide.2 (by omega)), rfl⟩

def fmd (s : List UInt8) : Bool := decide (s ≠ []) && ltr (s.getD 0 0) && s.all nam
theorem all_take {f : UInt8 → Bool} (s : List UInt8) (i : Nat) (h : i < s.length) : (s.take (i + 1)).all f = ((s.take i).all f && f (s.getD i 0)) := by
  rw [take_at s 0 i h, List.all_append]; simp
theorem all_ge {f : UInt8 → Bool} {s : List UInt8} {i : Nat} (h : i < s.length) (hf : f (s.getD i 0) = false) : s.all f = false := by
  rw [List.all_eq_false]
  have e : s.getD i 0 = s[i] := by simp [List.getD, h]
  rw [e] at hf
  exact ⟨s[i], List.getElem_mem h, by rw [hf]; decide⟩
theorem ref_formed_spec (s : List UInt8) (hs : s.length ≤ 140737488351232) (H : AH) : ACalls PG broadsheetref04_formed.n [.str s] H fun r H' => r = .bool (fmd s) ∧ H' = H := by
  refine broadsheetref04_formed.of rfl (wpF_start ?_)
  (first | refine au ?_ | exact au0 | fail)
  by_cases h0 : s = []
  · subst h0
    (first | refine au ?_ | exact au0 | fail)
  · have hl : 0 < s.length := List.length_pos_iff.2 h0
    rw [decide_eq_false h0]
    (first | refine au ?_ | exact au0 | fail)
    refine callF_eq (ref_Letter_spec _ _) ?_
    (first | refine au ?_ | exact au0 | fail)
    refine bsplit_intro (fun e => ?_) (fun e => ?_)
    · (first | refine au ?_ | exact au0 | fail)
      refine ⟨fun n L H' => ∃ i : Nat, n = s.length - i ∧ i ≤ s.length ∧ (s.take i).all nam = true ∧ L = [(0, some (.str s)), (3, some (.int .i64 i))] ∧ H' = H, ⟨_, H, ?_, Sub.refl _, _, 0, rfl, Nat.zero_le _, rfl, rfl, rfl⟩, ?_⟩
      · exact (by repeat (first | exact trivial | refine And.intro (Exists.intro _ (And.intro rfl (Fz.refl _))) ?_))
      · rintro n L H' ⟨i, rfl, hi, ha, rfl, rfl⟩
        (first | refine au ?_ | exact au0 | fail)
        refine bsplit_dec (fun h1 => ?_) (fun h1 => ?_)
        · have at1 := all_take (f := nam) s i (by omega)
          (first | refine au ?_ | exact au0 | fail)
          refine callF_eq (ref_Letter_spec _ _) ?_
          rw [Int.toNat_natCast]
          have hn := nam_iff (s.getD i 0)
          rw [← dig_iff, ← nat_eq _ 95 (by decide), ← ltr_iff] at hn
          cases hL : ltr (s.getD i 0) with
          | true =>
            (first | refine au ?_ | exact au0 | fail)
            refine ⟨[(0, some (.str s)), (3, some (.int .i64 (i + 1 : Nat)))], H', (by repeat (first | exact trivial | refine And.intro (Exists.intro _ (And.intro rfl (Fz.refl _))) ?_)), Sub.refl _, _, ?_, i + 1, rfl, by omega, by rw [at1, ha, hn.2 (.inr (.inr hL))]; rfl, rfl, rfl⟩
            omega
          | false =>
            (first | refine au ?_ | exact au0 | fail)
            refine callF_eq (ref_Digit_spec _ _) ?_
            rw [Int.toNat_natCast]
            cases hD : dig (s.getD i 0) with
            | true =>
              (first | refine au ?_ | exact au0 | fail)
              refine ⟨[(0, some (.str s)), (3, some (.int .i64 (i + 1 : Nat)))], H', (by repeat (first | exact trivial | refine And.intro (Exists.intro _ (And.intro rfl (Fz.refl _))) ?_)), Sub.refl _, _, ?_, i + 1, rfl, by omega, by rw [at1, ha, hn.2 (.inl hD)]; rfl, rfl, rfl⟩
              omega
            | false =>
              (first | refine au ?_ | exact au0 | fail)
              rw [Int.toNat_natCast]
              refine bsplit_dec (fun h2 => ?_) (fun h2 => ?_)
              · (first | refine au ?_ | exact au0 | fail)
                refine ⟨congrArg AV.bool ?_, rfl⟩
                have h3 : ¬ s.getD i 0 = UInt8.ofNat 95 := fun e => h2 ((u8lit _ 95 (by decide)).2 e)
                have hf : nam (s.getD i 0) = false := by
                  cases hh : nam (s.getD i 0) with
                  | false => rfl
                  | true =>
                    rcases hn.1 hh with q | q | q
                    · rw [hD] at q; cases q
                    · exact (h3 q).elim
                    · rw [hL] at q; cases q
                unfold fmd
                rw [all_ge (by omega) hf]; simp
              · (first | refine au ?_ | exact au0 | fail)
                have h3 : s.getD i 0 = UInt8.ofNat 95 := Classical.byContradiction fun e => h2 (fun q => e ((u8lit _ 95 (by decide)).1 q))
                refine ⟨[(0, some (.str s)), (3, some (.int .i64 (i + 1 : Nat)))], H', (by repeat (first | exact trivial | refine And.intro (Exists.intro _ (And.intro rfl (Fz.refl _))) ?_)), Sub.refl _, _, ?_, i + 1, rfl, by omega, by rw [at1, ha, hn.2 (.inr (.inl h3))]; rfl, rfl, rfl⟩
                omega
        · (first | refine au ?_ | exact au0 | fail)
          obtain rfl : i = s.length := by omega
          rw [List.take_length] at ha
          refine ⟨congrArg AV.bool ?_, rfl⟩
          have e : ltr (s.getD 0 0) = true := e
          unfold fmd
          rw [e, ha, decide_eq_true h0]; rfl
    · (first | refine au ?_ | exact au0 | fail)
      exact ⟨congrArg AV.bool (by have e : ltr (s.getD 0 0) = false := e; unfold fmd; rw [e]; simp), rfl⟩
end Go.Proofs.Ytlmplofpclaokaa
