/- What the reference's functions on tokens compute, further. -/
import Derived.Test.YtlmplofpclaokaaTokRef2
namespace Go.Proofs.Ytlmplofpclaokaa
set_option autoImplicit false
set_option linter.unusedSimpArgs false
set_option linter.unusedVariables false
attribute [local irreducible] callA callP ACalls

theorem ACalls.keepSub {P : Program} {f : Nat} {args : List AV} {H : AH} {K : AV → Prop} (h : ACalls P f args H fun r H' => K r ∧ Sub H H') : ACalls P f args H fun r H' => K r ∧ H' = H :=
  h.freeze fun r H' ⟨a, b⟩ => ⟨r, H, b, .refl _, a, rfl⟩

theorem ref_kind_spec (s : List UInt8) (hs : s.length ≤ 140737488351230) (H : AH) : ACalls PG broadsheetref14_kind.n [.str s] H fun r H' => r = .int .i64 (kd s : Nat) ∧ H' = H := by
  have hle := nl_le s
  refine broadsheetref14_kind.of rfl (wpF_start ?_)
  (first | refine au ?_ | exact au0 | fail)
  refine callF_eq (ref_Lead_spec s hs _) ?_
  (first | refine au ?_ | exact au0 | fail)
  unfold kd
  refine bsplit_dec (fun h1 => ?_) (fun h1 => ?_)
  · (first | refine au ?_ | exact au0 | fail)
    rw [if_pos (by omega)]
    exact ⟨rfl, rfl⟩
  · rw [if_neg (show ¬ nl s = s.length by omega)]
    (first | refine au ?_ | exact au0 | fail)
    refine callF_eq (ref_digits_spec s (by omega) _) ?_
    (first | refine au ?_ | exact au0 | fail)
    refine bsplit_dec (fun h2 => ?_) (fun h2 => ?_)
    · (first | refine au ?_ | exact au0 | fail)
      rw [if_pos h2]
      exact ⟨rfl, rfl⟩
    · rw [if_neg h2]
      (first | refine au ?_ | exact au0 | fail)
      refine callF_eq (ref_Quoted_spec s hs _) ?_
      cases hq : qd s with
      | some t =>
        rw [if_pos (by rfl)]
        (first | refine au ?_ | exact au0 | fail)
      | none =>
        rw [if_neg (by intro q; cases q)]
        (first | refine ab ?_ | exact ab0 | fail)
        refine .inl (.inl ?_)
        by_cases h4 : s.length = 2 ∧ s.getD 0 0 = 37 ∧ dig (s.getD 1 0) = true
        · rw [if_pos h4]
          have hl := h4.1
          (first | refine au ?_ | exact au0 | fail)
          rw [show s.getD (Int.toNat 0) 0 = 37 from h4.2.1]
          (first | refine au ?_ | exact au0 | fail)
          refine callF_eq (ref_Digit_spec _ _) ?_
          rw [show dig (s.getD (Int.toNat 1) 0) = true from h4.2.2]
          (first | refine au ?_ | exact au0 | fail)
        · rw [if_neg h4]
          (first | refine ab ?_ | exact ab0 | fail)
          refine .inr ⟨[(0, some (.str s))], H, ?_, ?_⟩
          · (first | refine au ?_ | exact au0 | fail)
            refine bsplit_dec (fun h5 => ?_) (fun h5 => ?_)
            · (first | refine au ?_ | exact au0 | fail)
              refine bsplit_dec (fun h6 => ?_) (fun h6 => ?_)
              · (first | refine au ?_ | exact au0 | fail)
                refine callF_eq (ref_Digit_spec _ _) ?_
                have h7 : dig (s.getD (Int.toNat 1) 0) = false := by
                  cases hh : dig (s.getD (Int.toNat 1) 0) with
                  | false => rfl
                  | true => exact (h4 ⟨by omega, (u8lit _ 37 (by decide)).1 h6, hh⟩).elim
                rw [h7]
                (first | refine au ?_ | exact au0 | fail)
                exact ⟨(by repeat (first | exact trivial | refine And.intro (Exists.intro _ (And.intro rfl (Fz.refl _))) ?_)), Sub.refl _⟩
              · (first | refine au ?_ | exact au0 | fail)
                exact ⟨(by repeat (first | exact trivial | refine And.intro (Exists.intro _ (And.intro rfl (Fz.refl _))) ?_)), Sub.refl _⟩
            · (first | refine au ?_ | exact au0 | fail)
              exact ⟨(by repeat (first | exact trivial | refine And.intro (Exists.intro _ (And.intro rfl (Fz.refl _))) ?_)), Sub.refl _⟩
          · (first | refine au ?_ | exact au0 | fail)
            refine callF_of ((ref_Find_spec signs (by decide) s _).mono fun rr H2 hh => ?_)
            obtain ⟨⟨v, rfl, hv, hv2, hv3⟩, rfl⟩ := hh
            (first | refine au ?_ | exact au0 | fail)
            refine bsplit_dec (fun h5 => ?_) (fun h5 => ?_)
            · (first | refine au ?_ | exact au0 | fail)
              rw [if_pos (hv.1 h5)]
              exact ⟨rfl, rfl⟩
            · (first | refine au ?_ | exact au0 | fail)
              rw [if_neg (mt hv.2 h5)]
              exact ⟨rfl, rfl⟩

theorem kd_le (s : List UInt8) : kd s ≤ 5 := by
  unfold kd
  repeat' split
  all_goals omega
theorem ref_longest_spec (s : List UInt8) (hs : s.length ≤ 140737488351230) (h0 : s ≠ []) (H : AH) : ACalls PG broadsheetref14_longest.n [.str s] H fun r H' => r = .tup [.int .i64 ((longest s).1 : Nat), .int .i64 ((longest s).2 : Nat)] ∧ H' = H := by
  have hpos : 0 < s.length := List.length_pos_iff.2 h0
  refine broadsheetref14_longest.of rfl (wpF_start ?_)
  unfold longest
  generalize hR : lg s s.length 1 0 0 = R
  (first | refine au ?_ | exact au0 | fail)
  refine ⟨fun n L H' => ∃ (i b k : Nat), n = s.length + 1 - i ∧ 1 ≤ i ∧ i ≤ s.length + 1 ∧ b ≤ s.length ∧ k ≤ 5 ∧ lg s (s.length + 1 - i) i b k = R ∧ L = [(0, some (.str s)), (4, some (.int .i64 b)), (5, some (.int .i64 k)), (6, some (.int .i64 i))] ∧ H' = H,
    ⟨_, H, ?_, Sub.refl _, _, 1, 0, 0, rfl, Nat.le_refl _, by omega, by omega, by omega, hR, rfl, rfl⟩, ?_⟩
  · exact (by repeat (first | exact trivial | refine And.intro (Exists.intro _ (And.intro rfl (Fz.refl _))) ?_))
  · clear hR
    rintro n L H' ⟨i, b, k, rfl, hi, hi2, hb, hk, hR, rfl, rfl⟩
    (first | refine au ?_ | exact au0 | fail)
    refine bsplit_dec (fun h1 => ?_) (fun h1 => ?_)
    · have hile : i ≤ s.length := by omega
      have htl : (s.take i).length = i := by rw [List.length_take]; omega
      have hkd := kd_le (s.take i)
      rw [show s.length + 1 - i = (s.length + 1 - (i + 1)) + 1 from by omega] at hR
      unfold lg at hR
      (first | refine au ?_ | exact au0 | fail)
      rw [show List.drop (Int.toNat 0) (s.take (i : Int).toNat) = s.take i from by rw [Int.toNat_natCast]; rfl]
      refine callF_eq (ref_kind_spec _ (by omega) _) ?_
      generalize kd (s.take i) = c at *
      have go : ∀ b' k' : Nat, b' ≤ s.length → k' ≤ 5 → lg s (s.length + 1 - (i + 1)) (i + 1) b' k' = R → ∃ n, n < s.length + 1 - i ∧ ∃ (i2 b2 k2 : Nat), n = s.length + 1 - i2 ∧ 1 ≤ i2 ∧ i2 ≤ s.length + 1 ∧ b2 ≤ s.length ∧ k2 ≤ 5 ∧ lg s (s.length + 1 - i2) i2 b2 k2 = R ∧ [(0, some (AV.str s)), (4, some (.int .i64 b')), (5, some (.int .i64 k')), (6, some (.int .i64 (i + 1 : Nat)))] = [(0, some (AV.str s)), (4, some (.int .i64 b2)), (5, some (.int .i64 k2)), (6, some (.int .i64 i2))] ∧ H' = H' :=
        fun b' k' q1 q2 q3 => ⟨_, by omega, i + 1, b', k', rfl, by omega, by omega, q1, q2, q3, rfl, rfl⟩
      by_cases hc : c = 0
      · subst hc
        rw [if_neg (fun q => by omega)] at hR
        (first | refine au ?_ | exact au0 | fail)
        refine bsplit_dec (fun h2 => ?_) (fun h2 => ?_)
        · have h2' : s.getD 0 0 ≠ 39 := fun e => h2 (by rw [show s.getD (Int.toNat 0) 0 = 39 from e]; rfl)
          (first | refine au ?_ | exact au0 | fail)
          refine bsplit_dec (fun h3 => ?_) (fun h3 => ?_)
          · rw [if_pos ⟨h2', rfl, by omega⟩] at hR
            (first | refine au ?_ | exact au0 | fail)
            rw [← hR]
            exact ⟨rfl, rfl⟩
          · rw [if_neg (fun q => by omega), if_neg (by decide)] at hR
            (first | refine au ?_ | exact au0 | fail)
            exact ⟨[(0, some (.str s)), (4, some (.int .i64 b)), (5, some (.int .i64 k)), (6, some (.int .i64 (i + 1 : Nat)))], H', (by repeat (first | exact trivial | refine And.intro (Exists.intro _ (And.intro rfl (Fz.refl _))) ?_)), Sub.refl _, go b k hb hk hR⟩
        · have h2' : s.getD 0 0 = 39 := Classical.byContradiction fun e => h2 (fun q => e ((u8lit _ 39 (by decide)).1 q))
          rw [if_neg (fun q => q.1 h2'), if_neg (by decide)] at hR
          (first | refine au ?_ | exact au0 | fail)
          exact ⟨[(0, some (.str s)), (4, some (.int .i64 b)), (5, some (.int .i64 k)), (6, some (.int .i64 (i + 1 : Nat)))], H', (by repeat (first | exact trivial | refine And.intro (Exists.intro _ (And.intro rfl (Fz.refl _))) ?_)), Sub.refl _, go b k hb hk hR⟩
      · have hcp : 0 < c := by omega
        by_cases h3 : c = 3
        · subst h3
          (first | refine au ?_ | exact au0 | fail)
          refine bsplit_dec (fun h2 => ?_) (fun h2 => ?_)
          · rw [if_pos ⟨rfl, .inl (by omega)⟩] at hR
            (first | refine au ?_ | exact au0 | fail)
            rw [← hR]
            exact ⟨rfl, rfl⟩
          · (first | refine au ?_ | exact au0 | fail)
            rw [Int.toNat_natCast]
            refine bsplit_dec (fun h4 => ?_) (fun h4 => ?_)
            · rw [if_pos ⟨rfl, .inr (fun e => h4 (by rw [e]; rfl))⟩] at hR
              (first | refine au ?_ | exact au0 | fail)
              rw [← hR]
              exact ⟨rfl, rfl⟩
            · have h4' : s.getD i 0 = 39 := Classical.byContradiction fun e => h4 (fun q => e ((u8lit _ 39 (by decide)).1 q))
              rw [if_neg (fun q => q.2.elim (fun e => by omega) (fun e => e h4')), if_neg (fun q => by omega), if_pos (by decide)] at hR
              (first | refine au ?_ | exact au0 | fail)
              refine bsplit_dec (fun h5 => ?_) (fun h5 => ?_)
              · (first | refine au ?_ | exact au0 | fail)
                exact ⟨[(0, some (.str s)), (4, some (.int .i64 i)), (5, some (.int .i64 3)), (6, some (.int .i64 (i + 1 : Nat)))], H', (by repeat (first | exact trivial | refine And.intro (Exists.intro _ (And.intro rfl (Fz.refl _))) ?_)), Sub.refl _, go i 3 hile hkd hR⟩
              · (first | refine au ?_ | exact au0 | fail)
                exact ⟨[(0, some (.str s)), (4, some (.int .i64 i)), (5, some (.int .i64 3)), (6, some (.int .i64 (i + 1 : Nat)))], H', (by repeat (first | exact trivial | refine And.intro (Exists.intro _ (And.intro rfl (Fz.refl _))) ?_)), Sub.refl _, go i 3 hile hkd hR⟩
        · rw [if_neg (fun q => h3 q.1), if_neg (fun q => by omega), if_pos hcp] at hR
          (first | refine au ?_ | exact au0 | fail)
          refine bsplit_dec (fun h5 => ?_) (fun h5 => ?_)
          · (first | refine au ?_ | exact au0 | fail)
            exact ⟨[(0, some (.str s)), (4, some (.int .i64 i)), (5, some (.int .i64 c)), (6, some (.int .i64 (i + 1 : Nat)))], H', (by repeat (first | exact trivial | refine And.intro (Exists.intro _ (And.intro rfl (Fz.refl _))) ?_)), Sub.refl _, go i c hile hkd hR⟩
          · (first | refine au ?_ | exact au0 | fail)
            exact ⟨[(0, some (.str s)), (4, some (.int .i64 i)), (5, some (.int .i64 c)), (6, some (.int .i64 (i + 1 : Nat)))], H', (by repeat (first | exact trivial | refine And.intro (Exists.intro _ (And.intro rfl (Fz.refl _))) ?_)), Sub.refl _, go i c hile hkd hR⟩
    · obtain rfl : i = s.length + 1 := by omega
      rw [show s.length + 1 - (s.length + 1) = 0 from by omega] at hR
      unfold lg at hR
      (first | refine au ?_ | exact au0 | fail)
      refine bsplit_dec (fun h5 => ?_) (fun h5 => ?_)
      · rw [if_pos (by omega)] at hR
        (first | refine au ?_ | exact au0 | fail)
        rw [← hR]
        exact ⟨rfl, rfl⟩
      · rw [if_neg (by omega)] at hR
        (first | refine au ?_ | exact au0 | fail)
        rw [← hR]
        exact ⟨rfl, rfl⟩
end Go.Proofs.Ytlmplofpclaokaa
