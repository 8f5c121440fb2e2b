/- One token, as the reference takes it: the walk. -/
import Derived.Test.YtlmplofpclaokaaTokRef4
namespace Go.Proofs.Ytlmplofpclaokaa
set_option autoImplicit false
set_option linter.unusedSimpArgs false
set_option linter.unusedVariables false
attribute [local irreducible] callA callP ACalls

structure OneK (R : LR) (at' : Nat) (r : AV) : Prop where
  tok : ∀ k t num n, R = .tok k t num n → r = .tup [tokA k t num at', .int .i64 (n : Nat), fltA 0 0]
  bad : ∀ e off, R = .bad e off → ∃ k t num a m, r = .tup [tokA k t num a, .int .i64 m, fltA e (at' + off : Nat)]
theorem OneK.of_tok {at' : Nat} {k : Int} {t : List UInt8} {num n : Nat} {r : AV} (h : r = .tup [tokA k t num at', .int .i64 (n : Nat), fltA 0 0]) : OneK (.tok k t num n) at' r :=
  ⟨(fun k t num n e => by cases e; exact h), (fun e off q => by cases q)⟩
theorem OneK.of_bad {at' : Nat} {e : Int} {off : Nat} {k num a m : Int} {t : List UInt8} {r : AV} (h : r = .tup [tokA k t num a, .int .i64 m, fltA e (at' + off : Nat)]) : OneK (.bad e off) at' r :=
  ⟨(fun k t num n e => by cases e), (fun e' off' q => by cases q; exact ⟨k, t, num, a, m, h⟩)⟩
theorem slcn (s : List UInt8) (a n : Nat) : List.drop a (s.take (a + n)) = (s.drop a).take n := by rw [List.take_drop]
theorem sub_two {H : AH} {id2 id3 : Nat} {b2 b2' b3 : Blk} (h2 : hget H id2 = none) (h3 : hget ((id2, b2') :: H) id3 = none) : Sub H ((id3, b3) :: (id2, b2) :: H) := by
  obtain ⟨n, h3'⟩ := hget_fresh h3
  refine Sub.skip (Sub.skip (Sub.refl _) h2) ((hget_tail n.symm).trans h3')

set_option maxHeartbeats 4000000 in
theorem ref_one_spec (s : List UInt8) (at' : Nat) (ha : at' < s.length) (hs : s.length ≤ 140737488351230) (H : AH) :
    ACalls PG broadsheetref14_one.n [.str s, .int .i64 at'] H fun r H' => OneK (lex (s.drop at')) at' r ∧ H' = H := by
  have hdl : (s.drop at').length = s.length - at' := List.length_drop
  have hL := longest_le (s.drop at')
  have hdr : s.drop at' = s.getD at' 0 :: s.drop (at' + 1) := drop_at s 0 at' ha
  have hne : s.drop at' ≠ [] := fun e => by rw [e] at hdl; simp at hdl; omega
  have hrest : List.drop (at' : Int).toNat (s.take (s.length : Int).toNat) = s.drop at' := by rw [Int.toNat_natCast, Int.toNat_natCast, List.take_length]
  refine ACalls.keepSub (K := fun r => OneK (lex (s.drop at')) at' r) (broadsheetref14_one.of rfl (wpF_start ?_))
  (first | refine au ?_ | exact au0 | fail)
  intro id2 hid2 ht2
  (first | refine au ?_ | exact au0 | fail)
  intro id3 hid3 ht3
  obtain ⟨n32, hid3'⟩ := hget_fresh hid3
  (first | refine au ?_ | exact au0 | fail)
  rw [Int.toNat_natCast]
  by_cases h39 : s.getD at' 0 = 39
  · rw [h39] at hdr
    rw [h39]
    (first | refine au ?_ | exact au0 | fail)
    refine callF_eq (ref_odd_spec s at' ha hs _) ?_
    have hlen : (39 :: s.drop (at' + 1)).length = (s.drop (at' + 1)).length + 1 := rfl
    have hfo : ∀ l, fo (39 :: l) = (fo l).map (· + 1) := fun l => rfl
    have hdl1 := hdl
    rw [hdr, hlen] at hdl1
    cases hq : qz (s.drop (at' + 1)) 1 [] with
    | some p =>
      obtain ⟨t, n⟩ := p
      obtain ⟨m, f1, f2, f3, f4, f5⟩ := qz_to _ _ (Nat.le_refl _) _ _ _ _ hq
      have hlo : longest (s.drop at') = (n, 3) := by rw [hdr, longest_39, hq]
      have hfr : fo ((s.drop at').take (if 0 < (longest (s.drop at')).1 then (longest (s.drop at')).1 else (s.drop at').length)) = (fo ((s.drop (at' + 1)).take (n - 1))).map (· + 1) := by
        rw [hlo, if_pos (show 0 < n by omega), hdr, take_cons1 _ _ (by omega), hfo]
      have hlx : lex (s.drop at') = (match fo ((s.drop (at' + 1)).take (n - 1)) with
        | some j => .bad 10 (j + 1)
        | none => .tok 3 t 0 n) := by
        rw [hdr, lex_text, qs_eq _ _ (Nat.le_refl _), hq]
        simp only []
        cases fo ((s.drop (at' + 1)).take (n - 1)) with
        | none => rfl
        | some j => show LR.bad 10 (1 + j) = _; rw [Nat.add_comm]
      rw [hfr]
      cases hf : fo ((s.drop (at' + 1)).take (n - 1)) with
      | some j =>
        rw [hlx, hf]
        rw [show oddV at' (Option.map (· + 1) (some j)) = ((at' + (j + 1) : Nat) : Int) from rfl]
        (first | refine au ?_ | exact au0 | fail)
        exact ⟨OneK.of_bad rfl, sub_two hid2 hid3⟩
      | none =>
        rw [hf] at hlx
        rw [show oddV at' (Option.map (· + 1) none) = -1 from rfl]
        (first | refine au ?_ | exact au0 | fail)
        rw [hrest]
        refine callF_eq (ref_longest_spec _ (by omega) hne _) ?_
        rw [hlo]
        rw [hlo] at hL
        have hL' : n ≤ s.length - at' := by rw [← List.length_drop]; exact hL
        (first | refine au ?_ | exact au0 | fail)
        intro id10 hid10 ht10
        obtain ⟨m3, hid10'⟩ := hget_fresh hid10
        obtain ⟨m2, hid10''⟩ := hget_fresh hid10'
        (first | refine au ?_ | exact au0 | fail)
        rw [show List.drop (at' : Int).toNat (s.take ((at' : Int) + (n : Nat)).toNat) = (s.drop at').take n from by rw [show ((at' : Int) + (n : Nat)).toNat = at' + n from by omega, Int.toNat_natCast, slcn]]
        refine callF_eq (ref_Quoted_spec _ (by rw [List.length_take]; omega) _) ?_
        rw [hdr, take_cons1 _ _ (by omega), qd_39, show n - 1 = m from by omega, f4, ← hdr]
        (first | refine au ?_ | exact au0 | fail)
        rw [hlx]
        exact ⟨OneK.of_tok rfl, Sub.skip (sub_two hid2 hid3) ((hget_tail m3.symm).trans ((hget_tail m2.symm).trans hid10''))⟩
    | none =>
      have hlo : longest (s.drop at') = (0, 0) := by rw [hdr, longest_39, hq]
      have hfr : fo ((s.drop at').take (if 0 < (longest (s.drop at')).1 then (longest (s.drop at')).1 else (s.drop at').length)) = (fo (s.drop (at' + 1))).map (· + 1) := by
        rw [hlo, if_neg (by decide), List.take_length, hdr, hfo]
      have hlx : lex (s.drop at') = (match fo (s.drop (at' + 1)) with
        | some j => .bad 10 (j + 1)
        | none => .bad 2 0) := by
        rw [hdr, lex_text, qs_eq _ _ (Nat.le_refl _), hq]
        simp only []
        cases fo (s.drop (at' + 1)) with
        | none => rfl
        | some j => show LR.bad 10 (1 + j) = _; rw [Nat.add_comm]
      rw [hfr]
      cases hf : fo (s.drop (at' + 1)) with
      | some j =>
        rw [hlx, hf]
        rw [show oddV at' (Option.map (· + 1) (some j)) = ((at' + (j + 1) : Nat) : Int) from rfl]
        (first | refine au ?_ | exact au0 | fail)
        exact ⟨OneK.of_bad rfl, sub_two hid2 hid3⟩
      | none =>
        rw [hf] at hlx
        rw [show oddV at' (Option.map (· + 1) none) = -1 from rfl]
        (first | refine au ?_ | exact au0 | fail)
        rw [hrest]
        refine callF_eq (ref_longest_spec _ (by omega) hne _) ?_
        rw [hlo]
        (first | refine au ?_ | exact au0 | fail)
        refine callF_eq (ref_bad_spec s at' ha hs _) ?_
        rw [h39, hlx]
        (first | refine au ?_ | exact au0 | fail)
        exact ⟨OneK.of_bad rfl, sub_two hid2 hid3⟩
  · have hn39 : (s.getD at' 0).toNat ≠ 39 := fun e => h39 ((nat_eq _ 39 (by decide)).2 e)
    rw [hdl] at hL
    cases hl : ltr (s.getD at' 0) with
    | true =>
      have hlo : longest (s.drop at') = (nl (s.drop at'), 1) := by rw [hdr]; exact longest_ltr hl
      have hlx : lex (s.drop at') = .tok 1 ((s.drop at').take (nl (s.drop at'))) 0 (nl (s.drop at')) := by rw [hdr]; exact lex_word _ _ hl
      have hpos := (lex_bound hlx).1
      rw [hlx]
      generalize nl (s.drop at') = n at *
      (first | refine au ?_ | exact au0 | fail)
      rw [hrest]
      have hsp := ref_longest_spec (s.drop at') (by omega) hne
      rw [hlo] at hsp hL
      dsimp only at hsp hL
      refine callF_eq (hsp _) ?_
      (first | refine au ?_ | exact au0 | fail)
      intro id10 hid10 ht10
      obtain ⟨m3, hid10'⟩ := hget_fresh hid10
      obtain ⟨m2, hid10''⟩ := hget_fresh hid10'
      (first | refine au ?_ | exact au0 | fail)
      rw [show List.drop (at' : Int).toNat (s.take ((at' : Int) + (n : Nat)).toNat) = (s.drop at').take n from by rw [show ((at' : Int) + (n : Nat)).toNat = at' + n from by omega, Int.toNat_natCast, slcn]]
      exact ⟨OneK.of_tok rfl, Sub.skip (sub_two hid2 hid3) ((hget_tail m3.symm).trans ((hget_tail m2.symm).trans hid10''))⟩
    | false =>
      cases hd : dig (s.getD at' 0) with
      | true =>
        have hlo : longest (s.drop at') = (dl (s.drop at'), 2) := by rw [hdr]; exact longest_dig hd
        have hlx := lex_num (s.getD at' 0) (s.drop (at' + 1)) hl hd
        rw [← hdr, show (s.drop at').getD 0 0 = s.getD at' 0 from by rw [hdr]; rfl] at hlx
        have hpos : 1 ≤ dl (s.drop at') := (dl_step (s := s.drop at') (n := 0) (Nat.zero_le _) (by omega)).2 (by rw [hdr]; exact hd)
        have hall : ((s.drop at').take (dl (s.drop at'))).all dig = true := tw_all (Nat.le_refl _)
        rw [hlx]
        generalize dl (s.drop at') = n at *
        (first | refine au ?_ | exact au0 | fail)
        rw [hrest]
        have hsp := ref_longest_spec (s.drop at') (by omega) hne
        rw [hlo] at hsp hL
        dsimp only at hsp hL
        refine callF_eq (hsp _) ?_
        have hL' : n ≤ s.length - at' := hL
        (first | refine au ?_ | exact au0 | fail)
        intro id10 hid10 ht10
        obtain ⟨m3, hid10'⟩ := hget_fresh hid10
        obtain ⟨m2, hid10''⟩ := hget_fresh hid10'
        (first | refine au ?_ | exact au0 | fail)
        rw [show List.drop (at' : Int).toNat (s.take ((at' : Int) + (n : Nat)).toNat) = (s.drop at').take n from by rw [show ((at' : Int) + (n : Nat)).toNat = at' + n from by omega, Int.toNat_natCast, slcn]]
        by_cases hz : 1 < n ∧ s.getD at' 0 = 48
        · have hz1 := hz.1
          rw [if_pos hz]
          (first | refine au ?_ | exact au0 | fail)
          rw [Int.toNat_natCast, hz.2]
          (first | refine au ?_ | exact au0 | fail)
          exact ⟨OneK.of_bad rfl, Sub.skip (sub_two hid2 hid3) ((hget_tail m3.symm).trans ((hget_tail m2.symm).trans hid10''))⟩
        · rw [if_neg hz]
          have htl : ((s.drop at').take n).length = n := by rw [List.length_take]; omega
          have hnz : ((s.drop at').take n).length ≤ 1 ∨ ((s.drop at').take n).getD 0 0 ≠ 48 := by
            rw [show ((s.drop at').take n).getD 0 0 = s.getD at' 0 from by rw [hdr, take_cons1 _ _ hpos]; rfl, htl]
            rcases Nat.lt_or_ge 1 n with q | q
            · exact .inr (fun e => hz ⟨q, e⟩)
            · exact .inl q
          refine bsplit_dec (fun q1 => ?_) (fun q1 => ?_)
          · (first | refine au ?_ | exact au0 | fail)
            rw [Int.toNat_natCast]
            refine bsplit_dec (fun q2 => ?_) (fun q2 => ?_)
            · exact absurd ⟨by omega, (u8lit _ 48 (by decide)).1 q2⟩ hz
            · skip
              (first | refine au ?_ | exact au0 | fail)
              refine callF_eq (ref_num_spec _ (by omega) hall hnz _) ?_
              by_cases hv : numV ((s.drop at').take n) < 18446744073709551616
              · rw [if_pos hv, if_pos hv]
                (first | refine au ?_ | exact au0 | fail)
                exact ⟨OneK.of_tok rfl, Sub.skip (sub_two hid2 hid3) ((hget_tail m3.symm).trans ((hget_tail m2.symm).trans hid10''))⟩
              · rw [if_neg hv, if_neg hv]
                (first | refine au ?_ | exact au0 | fail)
                exact ⟨OneK.of_bad rfl, Sub.skip (sub_two hid2 hid3) ((hget_tail m3.symm).trans ((hget_tail m2.symm).trans hid10''))⟩
          · skip
            (first | refine au ?_ | exact au0 | fail)
            refine callF_eq (ref_num_spec _ (by omega) hall hnz _) ?_
            by_cases hv : numV ((s.drop at').take n) < 18446744073709551616
            · rw [if_pos hv, if_pos hv]
              (first | refine au ?_ | exact au0 | fail)
              exact ⟨OneK.of_tok rfl, Sub.skip (sub_two hid2 hid3) ((hget_tail m3.symm).trans ((hget_tail m2.symm).trans hid10''))⟩
            · rw [if_neg hv, if_neg hv]
              (first | refine au ?_ | exact au0 | fail)
              exact ⟨OneK.of_bad rfl, Sub.skip (sub_two hid2 hid3) ((hget_tail m3.symm).trans ((hget_tail m2.symm).trans hid10''))⟩
      | false =>
        by_cases h37 : s.getD at' 0 = 37
        · have hlo := longest_37 (s.drop (at' + 1))
          have hlx := lex_param (s.drop (at' + 1))
          rw [← h37, ← hdr] at hlo hlx
          have hg1 : (s.drop (at' + 1)).getD 0 0 = (s.drop at').getD 1 0 := by rw [hdr]; rfl
          have hdl2 : (s.drop (at' + 1)).length = s.length - (at' + 1) := List.length_drop
          rw [hg1, hdl2] at hlo
          rw [hdl] at hlx
          by_cases hp : 2 ≤ s.length - at' ∧ dig ((s.drop at').getD 1 0) = true
          · rw [if_pos hp] at hlx
            rw [if_pos ⟨by omega, hp.2⟩] at hlo
            have hp1 := hp.1
            have hdg := (dig_iff _).1 hp.2
            rw [hlx]
            (first | refine au ?_ | exact au0 | fail)
            rw [hrest]
            have hsp := ref_longest_spec (s.drop at') (by omega) hne
            rw [hlo] at hsp hL
            dsimp only at hsp hL
            refine callF_eq (hsp _) ?_
            (first | refine au ?_ | exact au0 | fail)
            intro id10 hid10 ht10
            obtain ⟨m3, hid10'⟩ := hget_fresh hid10
            obtain ⟨m2, hid10''⟩ := hget_fresh hid10'
            (first | refine au ?_ | exact au0 | fail)
            rw [show List.drop (at' : Int).toNat (s.take ((at' : Int) + (2 : Nat)).toNat) = (s.drop at').take 2 from by rw [show ((at' : Int) + (2 : Nat)).toNat = at' + 2 from by omega, Int.toNat_natCast, slcn]]
            have htk : ((s.drop at').take 2).length = 2 := by rw [List.length_take]; omega
            have hgd : ((s.drop at').take 2).getD (Int.toNat 1) 0 = (s.drop at').getD 1 0 := by simp [List.getElem?_take]
            (first | refine au ?_ | exact au0 | fail)
            rw [hgd]
            (first | refine au ?_ | exact au0 | fail)
            have hsub : (((((List.drop at' s).getD 1 0).toNat - 48 : Nat)) : Int) = (((List.drop at' s).getD 1 0).toNat : Int) - 48 := by omega
            exact ⟨OneK.of_tok (by unfold tokA; rw [hsub]; rfl), Sub.skip (sub_two hid2 hid3) ((hget_tail m3.symm).trans ((hget_tail m2.symm).trans hid10''))⟩
          · rw [if_neg hp] at hlx
            rw [if_neg (fun q => hp ⟨by omega, q.2⟩)] at hlo
            rw [hlx]
            (first | refine au ?_ | exact au0 | fail)
            rw [hrest]
            have hsp := ref_longest_spec (s.drop at') (by omega) hne
            rw [hlo] at hsp hL
            dsimp only at hsp hL
            refine callF_eq (hsp _) ?_
            (first | refine au ?_ | exact au0 | fail)
            refine callF_eq (ref_bad_spec s at' ha hs _) ?_
            rw [if_neg h39]
            (first | refine au ?_ | exact au0 | fail)
            exact ⟨OneK.of_bad rfl, sub_two hid2 hid3⟩
        · cases hsg : sgn (s.getD at' 0) with
          | true =>
            have hlo := longest_sgn (c := s.getD at' 0) (r := s.drop (at' + 1)) hsg
            have hlx := lex_sign (s.getD at' 0) (s.drop (at' + 1)) hl hd h39 h37 hsg
            rw [← hdr] at hlo hlx
            have hpos := (lex_bound hlx).1
            rw [hlx]
            generalize (if two (s.drop at') = true then 2 else 1) = n at *
            (first | refine au ?_ | exact au0 | fail)
            rw [hrest]
            have hsp := ref_longest_spec (s.drop at') (by omega) hne
            rw [hlo] at hsp hL
            dsimp only at hsp hL
            refine callF_eq (hsp _) ?_
            (first | refine au ?_ | exact au0 | fail)
            intro id10 hid10 ht10
            obtain ⟨m3, hid10'⟩ := hget_fresh hid10
            obtain ⟨m2, hid10''⟩ := hget_fresh hid10'
            (first | refine au ?_ | exact au0 | fail)
            rw [show List.drop (at' : Int).toNat (s.take ((at' : Int) + (n : Nat)).toNat) = (s.drop at').take n from by rw [show ((at' : Int) + (n : Nat)).toNat = at' + n from by omega, Int.toNat_natCast, slcn]]
            exact ⟨OneK.of_tok rfl, Sub.skip (sub_two hid2 hid3) ((hget_tail m3.symm).trans ((hget_tail m2.symm).trans hid10''))⟩
          | false =>
            have hlo := longest_no (c := s.getD at' 0) (r := s.drop (at' + 1)) hl hd h39 h37 hsg
            have hlx := lex_none (s.getD at' 0) (s.drop (at' + 1)) hl hd h39 h37 hsg
            rw [← hdr] at hlo hlx
            rw [hlx]
            (first | refine au ?_ | exact au0 | fail)
            rw [hrest]
            have hsp := ref_longest_spec (s.drop at') (by omega) hne
            rw [hlo] at hsp hL
            dsimp only at hsp hL
            refine callF_eq (hsp _) ?_
            (first | refine au ?_ | exact au0 | fail)
            refine callF_eq (ref_bad_spec s at' ha hs _) ?_
            rw [if_neg h39]
            (first | refine au ?_ | exact au0 | fail)
            exact ⟨OneK.of_bad rfl, sub_two hid2 hid3⟩
end Go.Proofs.Ytlmplofpclaokaa
