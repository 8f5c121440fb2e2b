/- Texts of this proof, one behind the other: TokTake2, TokText, TokNext, TokLex, TokTokens, CodeE, ExprSpec, ExprSpec2, ExprTest. -/
import Derived.Test.YtlmplofpclaokaaPkS3
import Derived.KernelRfl
/- How a sign and a parameter are taken. -/
namespace Go.Proofs.Ytlmplofpclaokaa
set_option autoImplicit false
set_option linter.unusedSimpArgs false
set_option linter.unusedVariables false
--HSET
attribute [local irreducible] callA callP ACalls

theorem pre2 (s p : List UInt8) (h : p.length = 2) : (decide (p.length ≤ s.length) && decide (s.take p.length = p)) = decide (s.take 2 = p) := by
  rw [h]
  by_cases e : s.take 2 = p
  · have := congrArg List.length e
    rw [List.length_take, h] at this
    simp [e]; omega
  · simp [e]
theorem token_sign_spec {s : List UInt8} {at' id : Nat} {H : AH} (hg : hget H id = some (lx s at')) (ha : at' < s.length) (hs : s.length ≤ 140737488351232) :
    ACalls PG token_sign.n [.ptr id 2 0 0] H (TkK s at' id H (.tok 5 ((s.drop at').take (if two (s.drop at') then 2 else 1)) 0 (if two (s.drop at') then 2 else 1))) := by
  have hdl : (s.drop at').length = s.length - at' := List.length_drop
  refine token_sign.of rfl (wpF_start ?_)
  (first | refine ah ?_ | exact ah0 | fail)
  intro id2 hid2 ht2
  (first | refine ah ?_ | exact ah0 | fail)
  intro id3 hid3 ht3
  have tw := Two.mk' hg hid2 hid3
  generalize ((id3, Blk.rows [AV.int .i64 0, AV.int .i64 0].length [[AV.int .i64 0, AV.int .i64 0]]) :: (id2, Blk.rows [AV.int .i64 0, AV.str [], AV.int .u64 0, AV.int .i64 0].length [[AV.int .i64 0, AV.str [], AV.int .u64 0, AV.int .i64 0]]) :: H) = H1 at *
  have hg1 := tw.keep _ _ hg
  have hg1' : hget H1 id = some (.rows 2 [[.str s, .int .i64 (at' : Nat)]]) := hg1
  have n2 := tw.n2
  have n3 := tw.n3
  have n32 := tw.n32
  have g2 : hget H1 id2 = some (.rows 4 [[.int .i64 0, .str [], .int .u64 0, .int .i64 0]]) := tw.g2
  have g3 : hget H1 id3 = some (.rows 2 [[.int .i64 0, .int .i64 0]]) := tw.g3
  (first | refine ah ?_ | exact ah0 | fail)
  refine ⟨fun n L H' => ∃ i : Nat, n = 3 - i ∧ i ≤ 3 ∧ L = [(0, some (.ptr id 2 0 0)), (2, some (.ptr id2 4 0 0)), (3, some (.ptr id3 2 0 0)), (6, some (.rows 1 [[.str [60, 62]], [.str [60, 61]], [.str [62, 61]]])), (7, some (.int .i64 3)), (8, some (.int .i64 i))] ∧ H' = H1 ∧
    (0 < i → (s.drop at').take 2 ≠ [60, 62]) ∧ (1 < i → (s.drop at').take 2 ≠ [60, 61]) ∧ (2 < i → (s.drop at').take 2 ≠ [62, 61]), ⟨_, H1, ?_, Sub.refl _, _, 0, rfl, Nat.zero_le _, rfl, rfl, (fun h => by omega), (fun h => by omega), (fun h => by omega)⟩, ?_⟩
  · exact (by repeat (first | exact trivial | refine And.intro (Or.inl rfl) ?_ | refine And.intro (Or.inr (Exists.intro _ (And.intro rfl (Fz.refl _)))) ?_))
  · rintro n L H' ⟨i, rfl, hi, rfl, rfl, w1, w2, w3⟩
    rcases (show i = 0 ∨ i = 1 ∨ i = 2 ∨ i = 3 from by omega) with rfl | rfl | rfl | rfl
    · (first | refine ah ?_ | exact ah0 | fail)
      refine callF_eq (lexer_rest_spec hg1 (by omega) hs) ?_
      (first | refine ah ?_ | exact ah0 | fail)
      refine callF_eq (strings_HasPrefix_spec _ _ _) ?_
      (first | refine ah ?_ | exact ah0 | fail)
      rw [pre2 _ [60, 62] rfl]
      refine bsplit_dec (fun e => ?_) (fun e => ?_)
      · have l2 := (congrArg List.length e).symm
        rw [List.length_take, hdl] at l2
        simp only [List.length_cons, List.length_nil] at l2
        (first | refine ah ?_ | exact ah0 | fail)
        refine callF_to (lexer_cut_spec (n := 2) hg1 (by omega) hs) ?_
        (first | refine ah ?_ | exact ah0 | fail)
        rw [show two (s.drop at') = true from by simp [two, e], if_pos rfl]
        refine TkK.of_tok rfl ?_ (fun j b q r => ?_)
        · exact hg_of
        · obtain ⟨q2, q3⟩ := tw.new j b r
          have := tw.keep j b r
          exact hg_of
      · (first | refine ah ?_ | exact ah0 | fail)
        refine ⟨[(0, some (.ptr id 2 0 0)), (2, some (.ptr id2 4 0 0)), (3, some (.ptr id3 2 0 0)), (6, some (.rows 1 [[.str [60, 62]], [.str [60, 61]], [.str [62, 61]]])), (7, some (.int .i64 3)), (8, some (.int .i64 (1 : Nat)))], H', (by repeat (first | exact trivial | refine And.intro (Or.inl rfl) ?_ | refine And.intro (Or.inr (Exists.intro _ (And.intro rfl (Fz.refl _)))) ?_)), Sub.refl _, _, ?_, 1, rfl, by omega, rfl, rfl, (fun _ => e), (fun h => by omega), (fun h => by omega)⟩
        omega
    · (first | refine ah ?_ | exact ah0 | fail)
      refine callF_eq (lexer_rest_spec hg1 (by omega) hs) ?_
      (first | refine ah ?_ | exact ah0 | fail)
      refine callF_eq (strings_HasPrefix_spec _ _ _) ?_
      (first | refine ah ?_ | exact ah0 | fail)
      rw [pre2 _ [60, 61] rfl]
      refine bsplit_dec (fun e => ?_) (fun e => ?_)
      · have l2 := (congrArg List.length e).symm
        rw [List.length_take, hdl] at l2
        simp only [List.length_cons, List.length_nil] at l2
        (first | refine ah ?_ | exact ah0 | fail)
        refine callF_to (lexer_cut_spec (n := 2) hg1 (by omega) hs) ?_
        (first | refine ah ?_ | exact ah0 | fail)
        rw [show two (s.drop at') = true from by simp [two, e], if_pos rfl]
        refine TkK.of_tok rfl ?_ (fun j b q r => ?_)
        · exact hg_of
        · obtain ⟨q2, q3⟩ := tw.new j b r
          have := tw.keep j b r
          exact hg_of
      · (first | refine ah ?_ | exact ah0 | fail)
        refine ⟨[(0, some (.ptr id 2 0 0)), (2, some (.ptr id2 4 0 0)), (3, some (.ptr id3 2 0 0)), (6, some (.rows 1 [[.str [60, 62]], [.str [60, 61]], [.str [62, 61]]])), (7, some (.int .i64 3)), (8, some (.int .i64 (2 : Nat)))], H', (by repeat (first | exact trivial | refine And.intro (Or.inl rfl) ?_ | refine And.intro (Or.inr (Exists.intro _ (And.intro rfl (Fz.refl _)))) ?_)), Sub.refl _, _, ?_, 2, rfl, by omega, rfl, rfl, (fun _ => w1 (by omega)), (fun _ => e), (fun h => by omega)⟩
        omega
    · (first | refine ah ?_ | exact ah0 | fail)
      refine callF_eq (lexer_rest_spec hg1 (by omega) hs) ?_
      (first | refine ah ?_ | exact ah0 | fail)
      refine callF_eq (strings_HasPrefix_spec _ _ _) ?_
      (first | refine ah ?_ | exact ah0 | fail)
      rw [pre2 _ [62, 61] rfl]
      refine bsplit_dec (fun e => ?_) (fun e => ?_)
      · have l2 := (congrArg List.length e).symm
        rw [List.length_take, hdl] at l2
        simp only [List.length_cons, List.length_nil] at l2
        (first | refine ah ?_ | exact ah0 | fail)
        refine callF_to (lexer_cut_spec (n := 2) hg1 (by omega) hs) ?_
        (first | refine ah ?_ | exact ah0 | fail)
        rw [show two (s.drop at') = true from by simp [two, e], if_pos rfl]
        refine TkK.of_tok rfl ?_ (fun j b q r => ?_)
        · exact hg_of
        · obtain ⟨q2, q3⟩ := tw.new j b r
          have := tw.keep j b r
          exact hg_of
      · (first | refine ah ?_ | exact ah0 | fail)
        refine ⟨[(0, some (.ptr id 2 0 0)), (2, some (.ptr id2 4 0 0)), (3, some (.ptr id3 2 0 0)), (6, some (.rows 1 [[.str [60, 62]], [.str [60, 61]], [.str [62, 61]]])), (7, some (.int .i64 3)), (8, some (.int .i64 (3 : Nat)))], H', (by repeat (first | exact trivial | refine And.intro (Or.inl rfl) ?_ | refine And.intro (Or.inr (Exists.intro _ (And.intro rfl (Fz.refl _)))) ?_)), Sub.refl _, _, ?_, 3, rfl, by omega, rfl, rfl, (fun _ => w1 (by omega)), (fun _ => w2 (by omega)), (fun _ => e)⟩
        omega
    · (first | refine ah ?_ | exact ah0 | fail)
      refine callF_to (lexer_cut_spec (n := 1) hg1 (by omega) hs) ?_
      (first | refine ah ?_ | exact ah0 | fail)
      rw [show two (s.drop at') = false from by simp [two, w1 (by omega), w2 (by omega), w3 (by omega)], if_neg (by decide)]
      refine TkK.of_tok rfl ?_ (fun j b q r => ?_)
      · exact hg_of
      · obtain ⟨q2, q3⟩ := tw.new j b r
        have := tw.keep j b r
        exact hg_of
theorem token_param_spec {s : List UInt8} {at' id : Nat} {H : AH} (hg : hget H id = some (lx s at')) (ha : at' < s.length) (hs : s.length ≤ 140737488351232) :
    ACalls PG token_param.n [.ptr id 2 0 0] H (TkK s at' id H (if 2 ≤ (s.drop at').length ∧ dig ((s.drop at').getD 1 0) = true then .tok 4 ((s.drop at').take 2) (((s.drop at').getD 1 0).toNat - 48) 2 else .bad 11 0)) := by
  have hdl : (s.drop at').length = s.length - at' := List.length_drop
  refine token_param.of rfl (wpF_start ?_)
  (first | refine ah ?_ | exact ah0 | fail)
  intro id2 hid2 ht2
  (first | refine ah ?_ | exact ah0 | fail)
  intro id3 hid3 ht3
  have tw := Two.mk' hg hid2 hid3
  generalize ((id3, Blk.rows [AV.int .i64 0, AV.int .i64 0].length [[AV.int .i64 0, AV.int .i64 0]]) :: (id2, Blk.rows [AV.int .i64 0, AV.str [], AV.int .u64 0, AV.int .i64 0].length [[AV.int .i64 0, AV.str [], AV.int .u64 0, AV.int .i64 0]]) :: H) = H1 at *
  have hg1 := tw.keep _ _ hg
  have hg1' : hget H1 id = some (.rows 2 [[.str s, .int .i64 (at' : Nat)]]) := hg1
  have n2 := tw.n2
  have n3 := tw.n3
  have n32 := tw.n32
  have g2 : hget H1 id2 = some (.rows 4 [[.int .i64 0, .str [], .int .u64 0, .int .i64 0]]) := tw.g2
  have g3 : hget H1 id3 = some (.rows 2 [[.int .i64 0, .int .i64 0]]) := tw.g3
  (first | refine ah ?_ | exact ah0 | fail)
  refine callF_eq (lexer_rest_spec hg1 (by omega) hs) ?_
  (first | refine ah ?_ | exact ah0 | fail)
  refine bsplit_dec (fun e => ?_) (fun e => ?_)
  · (first | refine ah ?_ | exact ah0 | fail)
    rw [if_neg (fun h => by have := h.1; omega)]
    refine TkK.of_bad rfl (fun j b q r => ?_)
    obtain ⟨q2, q3⟩ := tw.new j b r
    have := tw.keep j b r
    exact hg_of
  · (first | refine ah ?_ | exact ah0 | fail)
    refine callF_eq (lexer_rest_spec hg1 (by omega) hs) ?_
    (first | refine ah ?_ | exact ah0 | fail)
    refine callF_eq (token_digit_spec _ _) ?_
    (first | refine ah ?_ | exact ah0 | fail)
    refine bsplit_intro (fun h => ?_) (fun h => ?_)
    · (first | refine ah ?_ | exact ah0 | fail)
      refine callF_to (lexer_cut_spec (n := 2) hg1 (by omega) hs) ?_
      (first | refine ah ?_ | exact ah0 | fail)
      intro id4 hid4 ht4
      have f4 : id4 ≠ id := hget_ne_of hid4 (hget_set hg1)
      have f42 : id4 ≠ id2 := hget_ne_of hid4 ((hget_set_ne n2).trans g2)
      have f43 : id4 ≠ id3 := hget_ne_of hid4 ((hget_set_ne n3).trans g3)
      have htk : ((s.drop at').take 2).length = 2 := by rw [List.length_take]; omega
      have hgd : ((s.drop at').take 2).getD (Int.toNat 1) 0 = (s.drop at').getD (Int.toNat 1) 0 := by simp [List.getElem?_take]
      have hdg := (dig_iff _).1 h
      have hpos : 2 ≤ (List.drop at' s).length ∧ dig ((List.drop at' s).getD 1 0) = true := ⟨by omega, h⟩
      (first | refine ah ?_ | exact ah0 | fail)
      rw [hgd]
      (first | refine ah ?_ | exact ah0 | fail)
      rw [if_pos hpos]
      have hsub : (((((List.drop at' s).getD 1 0).toNat - 48 : Nat)) : Int) = (((List.drop at' s).getD 1 0).toNat : Int) - 48 := by
        have : 48 ≤ ((List.drop at' s).getD 1 0).toNat := hdg.1
        omega
      refine TkK.of_tok (by unfold tokA; rw [hsub]; rfl) ?_ (fun j b q r => ?_)
      · exact hg_of
      · obtain ⟨q2, q3⟩ := tw.new j b r
        have q4 : j ≠ id4 := (hget_ne_of hid4 ((hget_set_ne q).trans (tw.keep j b r))).symm
        have := tw.keep j b r
        exact hg_of
    · (first | refine ah ?_ | exact ah0 | fail)
      rw [if_neg (fun e2 => by have := e2.2; simp_all)]
      refine TkK.of_bad rfl (fun j b q r => ?_)
      obtain ⟨q2, q3⟩ := tw.new j b r
      have := tw.keep j b r
      exact hg_of

theorem numV_snoc (l : List UInt8) (c : UInt8) : numV (l ++ [c]) = 10 * numV l + (c.toNat - 48) := by simp [numV]
theorem numV_ge : ∀ (l : List UInt8) (a : Nat), a ≤ l.foldl (fun a c => 10 * a + (c.toNat - 48)) a
  | [], a => Nat.le_refl _
  | c :: l, a => Nat.le_trans (by omega) (numV_ge l (10 * a + (c.toNat - 48)))
theorem numV_mono (r : List UInt8) {i n : Nat} (h : i ≤ n) : numV (r.take i) ≤ numV (r.take n) := by
  rw [← List.take_append_drop i (r.take n), List.take_take, Nat.min_eq_left h]
  unfold numV
  rw [List.foldl_append]
  exact numV_ge _ _
theorem lx_at {s : List UInt8} {at' i : Nat} (h : i < (s.drop at').length) : (s.drop at').getD i 0 = s.getD (at' + i) 0 := by
  simp [List.getD, List.getElem?_drop]
theorem token_number_spec {s : List UInt8} {at' id : Nat} {H : AH} (hg : hget H id = some (lx s at')) (ha : at' < s.length) (hd : dig ((s.drop at').getD 0 0) = true) (hs : s.length ≤ 140737488351232) :
    ACalls PG token_number.n [.ptr id 2 0 0] H (TkK s at' id H (
      if 1 < dl (s.drop at') ∧ (s.drop at').getD 0 0 = 48 then .bad 1 0
      else if numV ((s.drop at').take (dl (s.drop at'))) < 18446744073709551616 then .tok 2 ((s.drop at').take (dl (s.drop at'))) (numV ((s.drop at').take (dl (s.drop at')))) (dl (s.drop at'))
      else .bad 7 0)) := by
  have hdl : (s.drop at').length = s.length - at' := List.length_drop
  generalize hr : s.drop at' = r at *
  have hle := dl_le r
  have h1l : 0 < dl r := (dl_step (n := 0) (Nat.zero_le _) (by omega)).2 hd
  refine token_number.of rfl (wpF_start ?_)
  (first | refine ah ?_ | exact ah0 | fail)
  intro id2 hid2 ht2
  (first | refine ah ?_ | exact ah0 | fail)
  intro id3 hid3 ht3
  have tw := Two.mk' hg hid2 hid3
  generalize ((id3, Blk.rows [AV.int .i64 0, AV.int .i64 0].length [[AV.int .i64 0, AV.int .i64 0]]) :: (id2, Blk.rows [AV.int .i64 0, AV.str [], AV.int .u64 0, AV.int .i64 0].length [[AV.int .i64 0, AV.str [], AV.int .u64 0, AV.int .i64 0]]) :: H) = H1 at *
  have hg1 := tw.keep _ _ hg
  have hg1' : hget H1 id = some (.rows 2 [[.str s, .int .i64 (at' : Nat)]]) := hg1
  have n2 := tw.n2
  have n3 := tw.n3
  have n32 := tw.n32
  have g2 : hget H1 id2 = some (.rows 4 [[.int .i64 0, .str [], .int .u64 0, .int .i64 0]]) := tw.g2
  have g3 : hget H1 id3 = some (.rows 2 [[.int .i64 0, .int .i64 0]]) := tw.g3
  (first | refine ac ?_ | exact ac0 | fail)
  refine .inr ⟨[(0, some (.ptr id 2 0 0)), (2, some (.ptr id2 4 0 0)), (3, some (.ptr id3 2 0 0)), (4, some (.int .i64 (dl r : Nat)))], H1, ?_, ?_⟩
  · (first | refine ah ?_ | exact ah0 | fail)
    refine ⟨fun n L H' => ∃ i : Nat, n = r.length - i ∧ i ≤ dl r ∧ L = [(0, some (.ptr id 2 0 0)), (2, some (.ptr id2 4 0 0)), (3, some (.ptr id3 2 0 0)), (4, some (.int .i64 i))] ∧ H' = H1, ⟨_, H1, ?_, Sub.refl _, _, 0, rfl, Nat.zero_le _, rfl, rfl⟩, ?_⟩
    · exact (by repeat (first | exact trivial | refine And.intro (Or.inl rfl) ?_ | refine And.intro (Or.inr (Exists.intro _ (And.intro rfl (Fz.refl _)))) ?_))
    · rintro n L H' ⟨i, rfl, hi, rfl, rfl⟩
      (first | refine ah ?_ | exact ah0 | fail)
      refine callF_eq (lexer_rest_spec hg1 (by omega) hs) ?_
      rw [hr]
      (first | refine ah ?_ | exact ah0 | fail)
      refine bsplit_dec (fun h1 => ?_) (fun h1 => ?_)
      · have hst := dl_step hi (by omega)
        (first | refine ah ?_ | exact ah0 | fail)
        refine callF_eq (lexer_rest_spec hg1 (by omega) hs) ?_
        rw [hr]
        (first | refine ah ?_ | exact ah0 | fail)
        refine callF_eq (token_digit_spec _ _) ?_
        rw [show dig (r.getD (i : Int).toNat 0) = decide (i < dl r) from bool_iff hst.symm]
        (first | refine ah ?_ | exact ah0 | fail)
        refine bsplit_dec (fun h2 => ?_) (fun h2 => ?_)
        · (first | refine ah ?_ | exact ah0 | fail)
          refine ⟨[(0, some (.ptr id 2 0 0)), (2, some (.ptr id2 4 0 0)), (3, some (.ptr id3 2 0 0)), (4, some (.int .i64 (i + 1 : Nat)))], H', (by repeat (first | exact trivial | refine And.intro (Or.inl rfl) ?_ | refine And.intro (Or.inr (Exists.intro _ (And.intro rfl (Fz.refl _)))) ?_)), Sub.refl _, _, ?_, i + 1, rfl, by omega, rfl, rfl⟩
          omega
        · (first | refine ah ?_ | exact ah0 | fail)
          obtain rfl : i = dl r := by omega
          exact ⟨(by repeat (first | exact trivial | refine And.intro (Or.inl rfl) ?_ | refine And.intro (Or.inr (Exists.intro _ (And.intro rfl (Fz.refl _)))) ?_)), Sub.refl _⟩
      · (first | refine ah ?_ | exact ah0 | fail)
        obtain rfl : i = dl r := by omega
        exact ⟨(by repeat (first | exact trivial | refine And.intro (Or.inl rfl) ?_ | refine And.intro (Or.inr (Exists.intro _ (And.intro rfl (Fz.refl _)))) ?_)), Sub.refl _⟩
  · (first | refine ah ?_ | exact ah0 | fail)
    refine callF_to (lexer_cut_spec (n := dl r) hg1 (by omega) hs) ?_
    (first | refine ah ?_ | exact ah0 | fail)
    intro id5 hid5 ht5
    have f5 : id5 ≠ id := hget_ne_of hid5 (hget_set hg1)
    have f52 : id5 ≠ id2 := hget_ne_of hid5 ((hget_set_ne n2).trans g2)
    have f53 : id5 ≠ id3 := hget_ne_of hid5 ((hget_set_ne n3).trans g3)
    rw [hr]
    have i3 : hget (hset H1 id (lx s (at' + dl r))) id = some (lx s (at' + dl r)) := hget_set hg1
    have i32 : hget (hset H1 id (lx s (at' + dl r))) id2 = some (.rows 4 [[.int .i64 0, .str [], .int .u64 0, .int .i64 0]]) := (hget_set_ne n2).trans g2
    have i33 : hget (hset H1 id (lx s (at' + dl r))) id3 = some (.rows 2 [[.int .i64 0, .int .i64 0]]) := (hget_set_ne n3).trans g3
    have kp : ∀ j b, j ≠ id → hget H j = some b → hget (hset H1 id (lx s (at' + dl r))) j = some b ∧ j ≠ id2 ∧ j ≠ id3 ∧ j ≠ id5 := fun j b q r =>
      have q5 := (hget_set_ne q).trans (tw.keep j b r)
      ⟨q5, (tw.new j b r).1, (tw.new j b r).2, (hget_ne_of hid5 q5).symm⟩
    generalize hset H1 id (lx s (at' + dl r)) = H3 at *
    have htl : (r.take (dl r)).length = dl r := by rw [List.length_take]; omega
    have ht0 : (r.take (dl r)).getD (Int.toNat 0) 0 = r.getD 0 0 := by simp [List.getElem?_take, h1l]
    by_cases hz : 1 < dl r ∧ r.getD 0 0 = 48
    · have hz1 := hz.1
      rw [if_pos hz]
      (first | refine ah ?_ | exact ah0 | fail)
      rw [ht0, hz.2]
      (first | refine ah ?_ | exact ah0 | fail)
      refine TkK.of_bad rfl (fun j b q r => ?_)
      obtain ⟨q0, q2, q3, q5⟩ := kp j b q r
      exact hg_of
    · rw [if_neg hz]
      (first | refine ac ?_ | exact ac0 | fail)
      refine .inr ⟨[(0, some (.ptr id 2 0 0)), (2, some (.ptr id2 4 0 0)), (3, some (.ptr id3 2 0 0)), (4, some (.int .i64 (dl r : Nat))), (5, some (.ptr id5 4 0 0))], (id5, tkB 2 (r.take (dl r)) 0 at') :: H3, ?_, ?_⟩
      · (first | refine ah ?_ | exact ah0 | fail)
        refine bsplit_dec (fun e1 => ?_) (fun e1 => ?_)
        · (first | refine ah ?_ | exact ah0 | fail)
          rw [ht0]
          refine bsplit_dec (fun e2 => ?_) (fun e2 => ?_)
          · exact absurd ⟨by omega, (u8lit _ 48 (by decide)).1 e2⟩ hz
          · (first | refine ah ?_ | exact ah0 | fail)
            exact ⟨(by repeat (first | exact trivial | refine And.intro (Or.inl rfl) ?_ | refine And.intro (Or.inr (Exists.intro _ (And.intro rfl (Fz.refl _)))) ?_)), Sub.refl _⟩
        · (first | refine ah ?_ | exact ah0 | fail)
          exact ⟨(by repeat (first | exact trivial | refine And.intro (Or.inl rfl) ?_ | refine And.intro (Or.inr (Exists.intro _ (And.intro rfl (Fz.refl _)))) ?_)), Sub.refl _⟩
      · (first | refine ah ?_ | exact ah0 | fail)
        refine ⟨fun n L H' => ∃ i : Nat, n = dl r - i ∧ i ≤ dl r ∧ numV (r.take i) < 18446744073709551616 ∧ L = [(0, some (.ptr id 2 0 0)), (2, some (.ptr id2 4 0 0)), (3, some (.ptr id3 2 0 0)), (5, some (.ptr id5 4 0 0)), (37, some (.int .i64 (dl r : Nat))), (38, some (.int .i64 i))] ∧ H' = (id5, tkB 2 (r.take (dl r)) (numV (r.take i) : Nat) at') :: H3,
          ⟨_, (id5, tkB 2 (r.take (dl r)) 0 at') :: H3, ?_, Sub.refl _, _, 0, rfl, Nat.zero_le _, by simp [numV], rfl, rfl⟩, ?_⟩
        · exact (by repeat (first | exact trivial | refine And.intro (Or.inl rfl) ?_ | refine And.intro (Or.inr (Exists.intro _ (And.intro rfl (Fz.refl _)))) ?_))
        · rintro n L H' ⟨i, rfl, hi, hv, rfl, rfl⟩
          (first | refine ah ?_ | exact ah0 | fail)
          refine bsplit_dec (fun e1 => ?_) (fun e1 => ?_)
          · have hil : i < dl r := by omega
            have hdi := (dig_iff _).1 ((dl_step hi (by omega)).1 hil)
            have hti : (r.take (dl r)).getD (i : Int).toNat 0 = r.getD i 0 := by simp [List.getElem?_take, hil]
            have hsn : numV (r.take (i + 1)) = 10 * numV (r.take i) + ((r.getD i 0).toNat - 48) := by rw [take_at r 0 i (by omega), numV_snoc]
            (first | refine ah ?_ | exact ah0 | fail)
            rw [hti]
            (first | refine ah ?_ | exact ah0 | fail)
            refine bsplit_dec (fun e2 => ?_) (fun e2 => ?_)
            · have hm := numV_mono r (show i + 1 ≤ dl r from hil)
              (first | refine ah ?_ | exact ah0 | fail)
              rw [if_neg (by omega)]
              refine TkK.of_bad rfl (fun j b q r => ?_)
              obtain ⟨q0, q2, q3, q5⟩ := kp j b q r
              exact hg_of
            · (first | refine ah ?_ | exact ah0 | fail)
              refine ⟨[(0, some (.ptr id 2 0 0)), (2, some (.ptr id2 4 0 0)), (3, some (.ptr id3 2 0 0)), (5, some (.ptr id5 4 0 0)), (37, some (.int .i64 (dl r : Nat))), (38, some (.int .i64 (i + 1 : Nat)))], (id5, tkB 2 (r.take (dl r)) (numV (r.take (i + 1)) : Nat) at') :: H3,
                (by repeat (first | exact trivial | refine And.intro (Or.inl rfl) ?_ | refine And.intro (Or.inr (Exists.intro _ (And.intro rfl (Fz.refl _)))) ?_)), ?_, _, ?_, i + 1, rfl, by omega, by omega, rfl, rfl⟩
              · rw [show ((numV (r.take (i + 1)) : Nat) : Int) = 10 * (numV (r.take i) : Nat) + (((r.getD i 0).toNat : Int) - 48) from by omega]
                exact Sub.refl _
              · omega
          · obtain rfl : i = dl r := by omega
            (first | refine ah ?_ | exact ah0 | fail)
            rw [if_pos hv]
            refine TkK.of_tok rfl ?_ (fun j b q r => ?_)
            · exact hg_of
            · skip
              obtain ⟨q0, q2, q3, q5⟩ := kp j b q r
              exact hg_of
end Go.Proofs.Ytlmplofpclaokaa

/- How a text in quotes is taken. -/
namespace Go.Proofs.Ytlmplofpclaokaa
set_option autoImplicit false
set_option linter.unusedSimpArgs false
set_option linter.unusedVariables false
--HSET
attribute [local irreducible] callA callP ACalls

theorem Bld.hset {H : AH} {id j : Nat} {ob : Option Nat} {l : List UInt8} {X : Blk} (h : Bld H id ob l) (h1 : j ≠ id) (h2 : ob ≠ some j) : Bld (hset H j X) id ob l := by
  obtain ⟨ht, p, v, hg, hp, hv⟩ := h
  refine ⟨ht, p, v, (hget_set_ne h1.symm).trans hg, hp, ?_⟩
  rcases hv with hv | ⟨idb, q1, q2, q3, q4, q5⟩
  · exact .inl hv
  · exact .inr ⟨idb, q1, q2, (hget_set_ne (fun e => h2 (by rw [q1, e]))).trans q3, q4, q5⟩

/-- What holds while a text is read: i bytes are read, acc is built. -/
structure TI (s : List UInt8) (at' id : Nat) (H : AH) (id2 id3 id4 id5 : Nat) (ob : Option Nat) (i : Nat) (acc : List UInt8) (H' : AH) : Prop where
  g : hget H' id = some (.rows 2 [[.str s, .int .i64 (at' + i : Nat)]])
  g2 : hget H' id2 = some (.rows 4 [[.int .i64 0, .str [], .int .u64 0, .int .i64 0]])
  g3 : hget H' id3 = some (.rows 2 [[.int .i64 0, .int .i64 0]])
  g4 : hget H' id4 = some (.rows 4 [[.int .i64 3, .str [], .int .u64 0, .int .i64 at']])
  b : Bld H' id5 ob acc
  n2 : id ≠ id2
  n3 : id ≠ id3
  n4 : id ≠ id4
  n5 : id ≠ id5
  n23 : id2 ≠ id3
  n24 : id2 ≠ id4
  n25 : id2 ≠ id5
  n34 : id3 ≠ id4
  n35 : id3 ≠ id5
  n45 : id4 ≠ id5
  o : ob ≠ some id
  o2 : ob ≠ some id2
  o3 : ob ≠ some id3
  o4 : ob ≠ some id4
  k : ∀ j b, j ≠ id → hget H j = some b → hget H' j = some b ∧ j ≠ id2 ∧ j ≠ id3 ∧ j ≠ id4 ∧ j ≠ id5 ∧ ob ≠ some j

theorem TI.step {s : List UInt8} {at' id : Nat} {H : AH} {id2 id3 id4 id5 : Nat} {ob : Option Nat} {i i' : Nat} {acc : List UInt8} {H' : AH} (h : TI s at' id H id2 id3 id4 id5 ob i acc H'):
    TI s at' id H id2 id3 id4 id5 ob i' acc (hset H' id (.rows 2 [[.str s, .int .i64 (at' + i' : Nat)]])) :=
  { h with
    g := hget_set h.g
    g2 := (hget_set_ne h.n2.symm).trans h.g2
    g3 := (hget_set_ne h.n3.symm).trans h.g3
    g4 := (hget_set_ne h.n4.symm).trans h.g4
    b := h.b.hset h.n5 h.o
    k := fun j b q r => ⟨(hget_set_ne q).trans (h.k j b q r).1, (h.k j b q r).2⟩ }
theorem TI.write {s : List UInt8} {at' id : Nat} {H : AH} {id2 id3 id4 id5 : Nat} {ob : Option Nat} {i : Nat} {acc : List UInt8} {H' H2 : AH} {c : UInt8} {idb : Nat} (h : TI s at' id H id2 id3 id4 id5 ob i acc H')
    (h1 : Bld H2 id5 (some idb) (acc ++ [c])) (h2 : hget H' idb = none ∨ ob = some idb) (h3 : ∀ j b, j ≠ id5 → ob ≠ some j → hget H' j = some b → hget H2 j = some b) : TI s at' id H id2 id3 id4 id5 (some idb) i (acc ++ [c]) H2 := by
  have ne : ∀ j b, ob ≠ some j → hget H' j = some b → (some idb : Option Nat) ≠ some j := by
    intro j b q1 q2 e
    cases e
    rcases h2 with h2 | h2
    · rw [h2] at q2; cases q2
    · exact q1 h2
  exact { h with
    g := h3 _ _ h.n5 h.o h.g
    g2 := h3 _ _ h.n25 h.o2 h.g2
    g3 := h3 _ _ h.n35 h.o3 h.g3
    g4 := h3 _ _ h.n45 h.o4 h.g4
    b := h1
    o := ne _ _ h.o h.g
    o2 := ne _ _ h.o2 h.g2
    o3 := ne _ _ h.o3 h.g3
    o4 := ne _ _ h.o4 h.g4
    k := fun j b q r => let ⟨k1, k2, k3, k4, k5, k6⟩ := h.k j b q r; ⟨h3 _ _ k5 k6 k1, k2, k3, k4, k5, ne _ _ k6 k1⟩ }

theorem qs_step (c : UInt8) (r : List UInt8) (i : Nat) (acc : List UInt8) : qs (c :: r) i acc =
    if c.toNat < 32 ∨ 126 < c.toNat then .odd i else if c = 39 then (if r.take 1 = [39] then qs (r.drop 1) (i + 2) (acc ++ [39]) else .done acc (i + 1)) else qs r (i + 1) (acc ++ [c]) := by
  cases r with
  | nil =>
    simp only [qs, List.take_nil, List.drop_nil]
    rw [if_neg (show ¬ ([] : List UInt8) = [39] from by simp)]
  | cons d r =>
    simp only [qs, List.take_succ_cons, List.take_zero, List.drop_succ_cons, List.drop_zero, List.cons.injEq, and_true]
theorem token_text_spec {s : List UInt8} {at' id : Nat} {H : AH} (hg : hget H id = some (lx s at')) (ha : at' < s.length) (hs : s.length ≤ 140737488351232) :
    ACalls PG token_text.n [.ptr id 2 0 0] H (TkK s at' id H (match qs (s.drop (at' + 1)) 1 [] with
      | .done t n => .tok 3 t 0 n
      | .odd i => .bad 10 i
      | .short => .bad 2 0)) := by
  refine token_text.of rfl (wpF_start ?_)
  (first | refine ah ?_ | exact ah0 | fail)
  intro id2 hid2 ht2
  (first | refine ah ?_ | exact ah0 | fail)
  intro id3 hid3 ht3
  have tw := Two.mk' hg hid2 hid3
  generalize ((id3, Blk.rows [AV.int .i64 0, AV.int .i64 0].length [[AV.int .i64 0, AV.int .i64 0]]) :: (id2, Blk.rows [AV.int .i64 0, AV.str [], AV.int .u64 0, AV.int .i64 0].length [[AV.int .i64 0, AV.str [], AV.int .u64 0, AV.int .i64 0]]) :: H) = H1 at *
  have hg1 := tw.keep _ _ hg
  have hg1' : hget H1 id = some (.rows 2 [[.str s, .int .i64 (at' : Nat)]]) := hg1
  have n2 := tw.n2
  have n3 := tw.n3
  have n32 := tw.n32
  have g2 : hget H1 id2 = some (.rows 4 [[.int .i64 0, .str [], .int .u64 0, .int .i64 0]]) := tw.g2
  have g3 : hget H1 id3 = some (.rows 2 [[.int .i64 0, .int .i64 0]]) := tw.g3
  (first | refine ah ?_ | exact ah0 | fail)
  intro id4 hid4 ht4
  have f4 : id4 ≠ id := hget_ne_of hid4 hg1
  have f42 : id4 ≠ id2 := hget_ne_of hid4 g2
  have f43 : id4 ≠ id3 := hget_ne_of hid4 g3
  (first | refine ah ?_ | exact ah0 | fail)
  intro id5 hid5 ht5
  have f5 : id5 ≠ id := hget_ne_of hid5 ((hget_tail f4).trans hg1)
  have f52 : id5 ≠ id2 := hget_ne_of hid5 ((hget_tail f42).trans g2)
  have f53 : id5 ≠ id3 := hget_ne_of hid5 ((hget_tail f43).trans g3)
  have f54 : id5 ≠ id4 := hget_ne_of hid5 hget_self
  (first | refine ah ?_ | exact ah0 | fail)
  have T0 : TI s at' id H id2 id3 id4 id5 none 1 [] ((id5, .rows 2 [[.nilP, .nilS]]) :: (id4, tkB 3 [] 0 at') :: hset H1 id (.rows 2 [[.str s, .int .i64 (at' + 1 : Nat)]])) :=
    { g := (hget_tail f5).trans ((hget_tail f4).trans (hget_set hg1))
      g2 := (hget_tail f52).trans ((hget_tail f42).trans ((hget_set_ne n2).trans g2))
      g3 := (hget_tail f53).trans ((hget_tail f43).trans ((hget_set_ne n3).trans g3))
      g4 := (hget_tail f54).trans hget_self
      b := ⟨ht5, .nilP, .nilS, hget_self, .inl rfl, .inl ⟨rfl, rfl, rfl⟩⟩
      n2 := n2.symm
      n3 := n3.symm
      n4 := f4.symm
      n5 := f5.symm
      n23 := n32.symm
      n24 := f42.symm
      n25 := f52.symm
      n34 := f43.symm
      n35 := f53.symm
      n45 := f54.symm
      o := fun e => by cases e
      o2 := fun e => by cases e
      o3 := fun e => by cases e
      o4 := fun e => by cases e
      k := fun j b q r => by
        have k1 := tw.keep j b r
        have k4 := hget_ne_of hid4 k1
        have k5 := hget_ne_of hid5 ((hget_tail k4).trans k1)
        exact ⟨(hget_tail k5).trans ((hget_tail k4).trans ((hget_set_ne q).trans k1)), (tw.new j b r).1, (tw.new j b r).2, k4.symm, k5.symm, fun e => by cases e⟩ }
  generalize hR : qs (s.drop (at' + 1)) 1 [] = R
  refine ⟨fun n L H' => ∃ (i : Nat) (acc : List UInt8) (ob : Option Nat), n = s.length - (at' + i) ∧ at' + i ≤ s.length ∧ acc.length ≤ i ∧ qs (s.drop (at' + i)) i acc = R ∧
    L = [(0, some (.ptr id 2 0 0)), (2, some (.ptr id2 4 0 0)), (3, some (.ptr id3 2 0 0)), (4, some (.ptr id4 4 0 0)), (5, some (.ptr id5 2 0 0))] ∧ TI s at' id H id2 id3 id4 id5 ob i acc H', ⟨_, _, ?_, ?_, _, 1, [], none, rfl, by omega, by simp, hR, rfl, T0⟩, ?_⟩
  · exact (by repeat (first | exact trivial | refine And.intro (Or.inl rfl) ?_ | refine And.intro (Or.inr (Exists.intro _ (And.intro rfl (Fz.refl _)))) ?_))
  · rw [show ((at' + 1 : Nat) : Int) = (at' : Int) + 1 from by omega]
    exact Sub.refl _
  · clear hid2 hid3 hid4 hid5 hg1 hg1' g2 g3 tw T0 hR
    rintro n L H' ⟨i, acc, ob, rfl, hi, hl, hq, rfl, T⟩
    have g := T.g
    have g2 := T.g2
    have g3 := T.g3
    have g4 := T.g4
    (first | refine ah ?_ | exact ah0 | fail)
    refine bsplit_dec (fun h1 => ?_) (fun h1 => ?_)
    · have hlt : at' + i < s.length := by omega
      have hdr : s.drop (at' + i) = s.getD (at' + i) 0 :: s.drop (at' + i + 1) := drop_at s 0 (at' + i) hlt
      rw [hdr, qs_step] at hq
      (first | refine ah ?_ | exact ah0 | fail)
      rw [Int.toNat_natCast]
      have gl : hget H' id = some (lx s (at' + i)) := g
      have hdl : (s.drop (at' + i + 1)).length = s.length - (at' + i + 1) := List.length_drop
      generalize s.getD (at' + i) 0 = c at *
      by_cases ho : c.toNat < 32 ∨ 126 < c.toNat
      · rw [if_pos ho] at hq
        subst hq
        refine bsplit_dec (fun e1 => ?_) (fun e1 => ?_)
        · (first | refine ah ?_ | exact ah0 | fail)
          refine TkK.of_bad rfl (fun j b q r => ?_)
          obtain ⟨k1, k2, k3, k4, k5, k6⟩ := T.k j b q r
          exact hg_of
        · (first | refine ah ?_ | exact ah0 | fail)
          refine TkK.of_bad rfl (fun j b q r => ?_)
          obtain ⟨k1, k2, k3, k4, k5, k6⟩ := T.k j b q r
          exact hg_of
      · rw [if_neg ho] at hq
        by_cases h39 : c = 39
        · subst h39
          rw [if_pos rfl] at hq
          (first | refine ah ?_ | exact ah0 | fail)
          refine callF_eq (lexer_rest_spec gl (by omega) hs) ?_
          (first | refine ah ?_ | exact ah0 | fail)
          refine callF_eq (strings_HasPrefix_spec _ _ _) ?_
          rw [pre2 _ [39, 39] rfl, hdr, show decide (List.take 2 (39 :: List.drop (at' + i + 1) s) = [39, 39]) = decide (List.take 1 (List.drop (at' + i + 1) s) = [39]) from decide_eq_decide.2 (by simp)]
          (first | refine ah ?_ | exact ah0 | fail)
          refine bsplit_dec (fun h2 => ?_) (fun h2 => ?_)
          · rw [if_pos h2] at hq
            have h2l := congrArg List.length h2
            rw [List.length_take, hdl, List.length_singleton] at h2l
            (first | refine ah ?_ | exact ah0 | fail)
            refine callF_of ((WriteByte_spec T.b (by omega)).mono fun rr H2 hh => ?_)
            obtain ⟨rfl, idb, b1, b2, b3⟩ := hh
            have T2 := T.write b1 b2 b3
            have g' := T2.g
            (first | refine ah ?_ | exact ah0 | fail)
            refine ⟨[(0, some (.ptr id 2 0 0)), (2, some (.ptr id2 4 0 0)), (3, some (.ptr id3 2 0 0)), (4, some (.ptr id4 4 0 0)), (5, some (.ptr id5 2 0 0))], _, (by repeat (first | exact trivial | refine And.intro (Or.inl rfl) ?_ | refine And.intro (Or.inr (Exists.intro _ (And.intro rfl (Fz.refl _)))) ?_)), Sub.refl _, s.length - (at' + (i + 2)), by omega, i + 2, acc ++ [39], some idb, rfl, by omega, by simp; omega, ?_, rfl, ?_⟩
            · rw [← hq, List.drop_drop]
              rfl
            · have e1 : ((at' + i : Nat) : Int) + 1 = ((at' + (i + 1) : Nat) : Int) := by omega
              have e2 : ((at' + i : Nat) : Int) + 1 + 1 = ((at' + (i + 2) : Nat) : Int) := by omega
              have T4 := (T2.step (i' := i + 1)).step (i' := i + 2)
              rw [← e1, ← e2] at T4
              exact T4
          · rw [if_neg h2] at hq
            subst hq
            have T3 := T.step (i' := i + 1)
            rw [show ((at' + (i + 1) : Nat) : Int) = ((at' + i : Nat) : Int) + 1 from by omega] at T3
            (first | refine ah ?_ | exact ah0 | fail)
            refine callF_of ((String_spec T3.b (by omega)).mono fun rr H2 hh => ?_)
            obtain ⟨rfl, b3⟩ := hh
            have q1 := b3 _ _ T3.o T3.g
            have q2 := b3 _ _ T3.o2 T3.g2
            have q3 := b3 _ _ T3.o3 T3.g3
            have q4 := b3 _ _ T3.o4 T3.g4
            (first | refine ah ?_ | exact ah0 | fail)
            refine TkK.of_tok rfl ?_ (fun j b q r => ?_)
            · have e1 : ((at' + i : Nat) : Int) + 1 = ((at' + (i + 1) : Nat) : Int) := by omega
              have q1' : hget H2 id = some (lx s (at' + (i + 1))) := by unfold lx; rw [← e1]; exact q1
              have := T.n2
              have := T.n3
              have := T.n4
              exact hg_of
            · obtain ⟨k1, k2, k3, k4, k5, k6⟩ := T3.k j b q r
              have := b3 _ _ k6 k1
              exact hg_of
        · rw [if_neg h39] at hq
          have hne : c.toNat ≠ 39 := fun e => h39 ((nat_eq c 39 (by decide)).2 e)
          (first | refine ah ?_ | exact ah0 | fail)
          refine callF_of ((WriteByte_spec T.b (by omega)).mono fun rr H2 hh => ?_)
          obtain ⟨rfl, idb, b1, b2, b3⟩ := hh
          have T2 := T.write b1 b2 b3
          have g' := T2.g
          (first | refine ah ?_ | exact ah0 | fail)
          refine ⟨[(0, some (.ptr id 2 0 0)), (2, some (.ptr id2 4 0 0)), (3, some (.ptr id3 2 0 0)), (4, some (.ptr id4 4 0 0)), (5, some (.ptr id5 2 0 0))], _, (by repeat (first | exact trivial | refine And.intro (Or.inl rfl) ?_ | refine And.intro (Or.inr (Exists.intro _ (And.intro rfl (Fz.refl _)))) ?_)), Sub.refl _, s.length - (at' + (i + 1)), by omega, i + 1, acc ++ [c], some idb, rfl, by omega, by simp; omega, hq, rfl, ?_⟩
          have e1 : ((at' + i : Nat) : Int) + 1 = ((at' + (i + 1) : Nat) : Int) := by omega
          have T4 := T2.step (i' := i + 1)
          rw [← e1] at T4
          exact T4
    · have hnil : s.drop (at' + i) = [] := List.drop_eq_nil_of_le (by omega)
      rw [hnil] at hq
      subst hq
      (first | refine ah ?_ | exact ah0 | fail)
      refine TkK.of_bad rfl (fun j b q r => ?_)
      obtain ⟨k1, k2, k3, k4, k5, k6⟩ := T.k j b q r
      exact hg_of
end Go.Proofs.Ytlmplofpclaokaa

/- The next token. -/
namespace Go.Proofs.Ytlmplofpclaokaa
set_option autoImplicit false
set_option linter.unusedSimpArgs false
set_option linter.unusedVariables false
--HSET
attribute [local irreducible] callA callP ACalls

abbrev kindsV : List (List AV) := [[.clo token_kinds_1.n [] [], .clo token_word.n [] []], [.clo token_digit.n [] [], .clo token_number.n [] []], [.clo token_kinds_2.n [] [], .clo token_text.n [] []], [.clo token_kinds_3.n [] [], .clo token_param.n [] []], [.clo token_kinds_4.n [] [], .clo token_sign.n [] []]]
theorem token_kinds_spec (H : AH) : ACalls PG token_kinds.n [] H fun r H' => r = .rows 2 kindsV ∧ H' = H := by
  refine token_kinds.of rfl (wpF_start ?_)
  (first | refine ah ?_ | exact ah0 | fail)

theorem TkK.opened {s : List UInt8} {at' id : Nat} {H : AH} {R : LR} {r : AV} {H2 : AH} (h : TkK s at' id H R r H2) : ∃ k t num a e p, r = .tup [tokA k t num a, fltA e p] ∧
    ∀ H0 H' : AH, (∀ b, hget H2 id = some b → hget H' id = some b) → Keep id H0 H' → TkK s at' id H0 R r H' := by
  cases hR : R with
  | tok k t num n =>
    obtain ⟨rfl, h2⟩ := h.tok k t num n hR
    exact ⟨k, t, num, at', 0, 0, rfl, fun H0 H' q1 q2 => .of_tok rfl (q1 _ h2) q2⟩
  | bad e off =>
    obtain ⟨k, t, num, a, rfl⟩ := h.bad e off hR
    exact ⟨k, t, num, a, e, _, rfl, fun H0 H' q1 q2 => .of_bad rfl q2⟩

theorem TkK.cong {s : List UInt8} {at' id : Nat} {H : AH} {R R' : LR} {r : AV} {H2 : AH} (h : TkK s at' id H R r H2) (e : R' = R) : TkK s at' id H R' r H2 := by rw [e]; exact h
theorem lex_word (c : UInt8) (r : List UInt8) (h : ltr c = true) : lex (c :: r) = .tok 1 ((c :: r).take (nl (c :: r))) 0 (nl (c :: r)) := by simp only [lex, h, if_true]
theorem lex_num (c : UInt8) (r : List UInt8) (h1 : ltr c = false) (h2 : dig c = true) : lex (c :: r) =
    (if 1 < dl (c :: r) ∧ (c :: r).getD 0 0 = 48 then .bad 1 0
      else if numV ((c :: r).take (dl (c :: r))) < 18446744073709551616 then .tok 2 ((c :: r).take (dl (c :: r))) (numV ((c :: r).take (dl (c :: r)))) (dl (c :: r))
      else .bad 7 0) := by
  simp only [lex, h1, h2, if_true, Bool.false_eq_true, if_false, List.getD_cons_zero]
theorem lex_text (r : List UInt8) : lex (39 :: r) = (match qs r 1 [] with
      | .done t n => .tok 3 t 0 n
      | .odd i => .bad 10 i
      | .short => .bad 2 0) := rfl
theorem lex_param (r : List UInt8) : lex (37 :: r) = (if 2 ≤ (37 :: r).length ∧ dig ((37 :: r).getD 1 0) = true then .tok 4 ((37 :: r).take 2) (((37 :: r).getD 1 0).toNat - 48) 2 else .bad 11 0) := by
  cases r with
  | nil => rfl
  | cons d r =>
    simp only [List.getD_cons_succ, List.getD_cons_zero, List.take_succ_cons, List.take_zero, List.length_cons]
    show (if dig d = true then _ else _) = _
    by_cases h : dig d = true
    · rw [if_pos h, if_pos ⟨by omega, h⟩]
    · rw [if_neg h, if_neg (fun q => h q.2)]
theorem lex_sign (c : UInt8) (r : List UInt8) (h1 : ltr c = false) (h2 : dig c = false) (h3 : c ≠ 39) (h4 : c ≠ 37) (h5 : sgn c = true) : lex (c :: r) = .tok 5 ((c :: r).take (if two (c :: r) then 2 else 1)) 0 (if two (c :: r) then 2 else 1) := by
  simp only [lex, h1, h2, h3, h4, h5, if_true, Bool.false_eq_true, if_false]
theorem lex_none (c : UInt8) (r : List UInt8) (h1 : ltr c = false) (h2 : dig c = false) (h3 : c ≠ 39) (h4 : c ≠ 37) (h5 : sgn c = false) : lex (c :: r) = .bad 11 0 := by
  simp only [lex, h1, h2, h3, h4, h5, Bool.false_eq_true, if_false]
theorem lexer_next_spec {s : List UInt8} {at' id : Nat} {H : AH} (hg : hget H id = some (lx s at')) (ha : at' < s.length) (hs : s.length ≤ 140737488351232) :
    ACalls PG token_lexer_next.n [.ptr id 2 0 0] H (TkK s at' id H (lex (s.drop at'))) := by
  have hdr : s.drop at' = s.getD at' 0 :: s.drop (at' + 1) := drop_at s 0 at' ha
  refine token_lexer_next.of rfl (wpF_start ?_)
  (first | refine ah ?_ | exact ah0 | fail)
  intro id2 hid2 ht2
  (first | refine ah ?_ | exact ah0 | fail)
  intro id3 hid3 ht3
  have tw := Two.mk' hg hid2 hid3
  generalize ((id3, Blk.rows [AV.int .i64 0, AV.int .i64 0].length [[AV.int .i64 0, AV.int .i64 0]]) :: (id2, Blk.rows [AV.int .i64 0, AV.str [], AV.int .u64 0, AV.int .i64 0].length [[AV.int .i64 0, AV.str [], AV.int .u64 0, AV.int .i64 0]]) :: H) = H1 at *
  have hg1 := tw.keep _ _ hg
  have hg1' : hget H1 id = some (.rows 2 [[.str s, .int .i64 (at' : Nat)]]) := hg1
  have n2 := tw.n2
  have n3 := tw.n3
  have n32 := tw.n32
  have g2 : hget H1 id2 = some (.rows 4 [[.int .i64 0, .str [], .int .u64 0, .int .i64 0]]) := tw.g2
  have g3 : hget H1 id3 = some (.rows 2 [[.int .i64 0, .int .i64 0]]) := tw.g3
  (first | refine ah ?_ | exact ah0 | fail)
  refine callF_eq (token_kinds_spec _) ?_
  (first | refine ah ?_ | exact ah0 | fail)
  generalize hc : s.getD at' 0 = c at *
  refine ⟨fun n L H' => ∃ i : Nat, n = 5 - i ∧ i ≤ 5 ∧ L = [(0, some (.ptr id 2 0 0)), (2, some (.ptr id2 4 0 0)), (3, some (.ptr id3 2 0 0)), (6, some (.rows 2 kindsV)), (7, some (.int .i64 5)), (8, some (.int .i64 i))] ∧ H' = H1 ∧
    (0 < i → ltr c = false) ∧ (1 < i → dig c = false) ∧ (2 < i → c ≠ 39) ∧ (3 < i → c ≠ 37) ∧ (4 < i → sgn c = false), ⟨_, H1, ?_, Sub.refl _, _, 0, rfl, Nat.zero_le _, rfl, rfl, (fun h => by omega), (fun h => by omega), (fun h => by omega), (fun h => by omega), (fun h => by omega)⟩, ?_⟩
  · exact (by repeat (first | exact trivial | refine And.intro (Or.inl rfl) ?_ | refine And.intro (Or.inr (Exists.intro _ (And.intro rfl (Fz.refl _)))) ?_))
  · rintro n L H' ⟨i, rfl, hi, rfl, rfl, w1, w2, w3, w4, w5⟩
    rcases (show i = 0 ∨ i = 1 ∨ i = 2 ∨ i = 3 ∨ i = 4 ∨ i = 5 from by omega) with rfl | rfl | rfl | rfl | rfl | rfl
    · (first | refine ah ?_ | exact ah0 | fail)
      intro id5 hid5 ht5
      have f5 : id5 ≠ id := hget_ne_of hid5 hg1
      have f52 : id5 ≠ id2 := hget_ne_of hid5 g2
      have f53 : id5 ≠ id3 := hget_ne_of hid5 g3
      (first | refine ah ?_ | exact ah0 | fail)
      rw [Int.toNat_natCast, hc]
      refine callF_eq (kinds1_spec c _) ?_
      (first | refine ah ?_ | exact ah0 | fail)
      refine bsplit_intro (fun e => ?_) (fun e => ?_)
      · (first | refine ah ?_ | exact ah0 | fail)
        refine callF_of ((token_word_spec (s := s) (at' := at') (by exact hg_of) (by omega) hs).mono fun rr H2 hh => ?_)
        replace hh := hh.cong (R' := lex (s.drop at')) (by rw [hdr, lex_word c _ e])
        have k2 := hh.keep id2 _ n2 ((hget_tail f52).trans g2)
        have k3 := hh.keep id3 _ n3 ((hget_tail f53).trans g3)
        obtain ⟨k, t, num, a, e', p, rfl, fin⟩ := hh.opened
        (first | refine ah ?_ | exact ah0 | fail)
        refine fin H _ (fun b q => by exact hg_of) (fun j b q r => ?_)
        have r1 := tw.keep j b r
        have q5 := hget_ne_of hid5 r1
        have r2 := hh.keep j b q ((hget_tail q5).trans r1)
        obtain ⟨q2, q3⟩ := tw.new j b r
        exact hg_of
      · (first | refine ah ?_ | exact ah0 | fail)
        refine ⟨[(0, some (.ptr id 2 0 0)), (2, some (.ptr id2 4 0 0)), (3, some (.ptr id3 2 0 0)), (6, some (.rows 2 kindsV)), (7, some (.int .i64 5)), (8, some (.int .i64 (1 : Nat)))], H', (by repeat (first | exact trivial | refine And.intro (Or.inl rfl) ?_ | refine And.intro (Or.inr (Exists.intro _ (And.intro rfl (Fz.refl _)))) ?_)), Sub.skip (Sub.refl _) hid5, _, ?_, 1, rfl, by omega, rfl, rfl, (fun _ => e), (fun h => by omega), (fun h => by omega), (fun h => by omega), (fun h => by omega)⟩
        omega
    · (first | refine ah ?_ | exact ah0 | fail)
      intro id5 hid5 ht5
      have f5 : id5 ≠ id := hget_ne_of hid5 hg1
      have f52 : id5 ≠ id2 := hget_ne_of hid5 g2
      have f53 : id5 ≠ id3 := hget_ne_of hid5 g3
      (first | refine ah ?_ | exact ah0 | fail)
      rw [Int.toNat_natCast, hc]
      refine callF_eq (token_digit_spec c _) ?_
      (first | refine ah ?_ | exact ah0 | fail)
      refine bsplit_intro (fun e => ?_) (fun e => ?_)
      · (first | refine ah ?_ | exact ah0 | fail)
        refine callF_of ((token_number_spec (s := s) (at' := at') (by exact hg_of) (by omega) (by rw [hdr]; exact e) hs).mono fun rr H2 hh => ?_)
        replace hh := hh.cong (R' := lex (s.drop at')) (by rw [hdr, lex_num c _ (w1 (by omega)) e])
        have k2 := hh.keep id2 _ n2 ((hget_tail f52).trans g2)
        have k3 := hh.keep id3 _ n3 ((hget_tail f53).trans g3)
        obtain ⟨k, t, num, a, e', p, rfl, fin⟩ := hh.opened
        (first | refine ah ?_ | exact ah0 | fail)
        refine fin H _ (fun b q => by exact hg_of) (fun j b q r => ?_)
        have r1 := tw.keep j b r
        have q5 := hget_ne_of hid5 r1
        have r2 := hh.keep j b q ((hget_tail q5).trans r1)
        obtain ⟨q2, q3⟩ := tw.new j b r
        exact hg_of
      · (first | refine ah ?_ | exact ah0 | fail)
        refine ⟨[(0, some (.ptr id 2 0 0)), (2, some (.ptr id2 4 0 0)), (3, some (.ptr id3 2 0 0)), (6, some (.rows 2 kindsV)), (7, some (.int .i64 5)), (8, some (.int .i64 (2 : Nat)))], H', (by repeat (first | exact trivial | refine And.intro (Or.inl rfl) ?_ | refine And.intro (Or.inr (Exists.intro _ (And.intro rfl (Fz.refl _)))) ?_)), Sub.skip (Sub.refl _) hid5, _, ?_, 2, rfl, by omega, rfl, rfl, (fun _ => w1 (by omega)), (fun _ => e), (fun h => by omega), (fun h => by omega), (fun h => by omega)⟩
        omega
    · (first | refine ah ?_ | exact ah0 | fail)
      intro id5 hid5 ht5
      have f5 : id5 ≠ id := hget_ne_of hid5 hg1
      have f52 : id5 ≠ id2 := hget_ne_of hid5 g2
      have f53 : id5 ≠ id3 := hget_ne_of hid5 g3
      (first | refine ah ?_ | exact ah0 | fail)
      rw [Int.toNat_natCast, hc]
      refine callF_eq (kinds2_spec c _) ?_
      (first | refine ah ?_ | exact ah0 | fail)
      refine bsplit_dec (fun e => ?_) (fun e => ?_)
      · (first | refine ah ?_ | exact ah0 | fail)
        refine callF_of ((token_text_spec (s := s) (at' := at') (by exact hg_of) (by omega) hs).mono fun rr H2 hh => ?_)
        replace hh := hh.cong (R' := lex (s.drop at')) (by rw [hdr, e]; exact lex_text _)
        have k2 := hh.keep id2 _ n2 ((hget_tail f52).trans g2)
        have k3 := hh.keep id3 _ n3 ((hget_tail f53).trans g3)
        obtain ⟨k, t, num, a, e', p, rfl, fin⟩ := hh.opened
        (first | refine ah ?_ | exact ah0 | fail)
        refine fin H _ (fun b q => by exact hg_of) (fun j b q r => ?_)
        have r1 := tw.keep j b r
        have q5 := hget_ne_of hid5 r1
        have r2 := hh.keep j b q ((hget_tail q5).trans r1)
        obtain ⟨q2, q3⟩ := tw.new j b r
        exact hg_of
      · (first | refine ah ?_ | exact ah0 | fail)
        refine ⟨[(0, some (.ptr id 2 0 0)), (2, some (.ptr id2 4 0 0)), (3, some (.ptr id3 2 0 0)), (6, some (.rows 2 kindsV)), (7, some (.int .i64 5)), (8, some (.int .i64 (3 : Nat)))], H', (by repeat (first | exact trivial | refine And.intro (Or.inl rfl) ?_ | refine And.intro (Or.inr (Exists.intro _ (And.intro rfl (Fz.refl _)))) ?_)), Sub.skip (Sub.refl _) hid5, _, ?_, 3, rfl, by omega, rfl, rfl, (fun _ => w1 (by omega)), (fun _ => w2 (by omega)), (fun _ => e), (fun h => by omega), (fun h => by omega)⟩
        omega
    · (first | refine ah ?_ | exact ah0 | fail)
      intro id5 hid5 ht5
      have f5 : id5 ≠ id := hget_ne_of hid5 hg1
      have f52 : id5 ≠ id2 := hget_ne_of hid5 g2
      have f53 : id5 ≠ id3 := hget_ne_of hid5 g3
      (first | refine ah ?_ | exact ah0 | fail)
      rw [Int.toNat_natCast, hc]
      refine callF_eq (kinds3_spec c _) ?_
      (first | refine ah ?_ | exact ah0 | fail)
      refine bsplit_dec (fun e => ?_) (fun e => ?_)
      · (first | refine ah ?_ | exact ah0 | fail)
        refine callF_of ((token_param_spec (s := s) (at' := at') (by exact hg_of) (by omega) hs).mono fun rr H2 hh => ?_)
        replace hh := hh.cong (R' := lex (s.drop at')) (by rw [hdr, e]; exact lex_param _)
        have k2 := hh.keep id2 _ n2 ((hget_tail f52).trans g2)
        have k3 := hh.keep id3 _ n3 ((hget_tail f53).trans g3)
        obtain ⟨k, t, num, a, e', p, rfl, fin⟩ := hh.opened
        (first | refine ah ?_ | exact ah0 | fail)
        refine fin H _ (fun b q => by exact hg_of) (fun j b q r => ?_)
        have r1 := tw.keep j b r
        have q5 := hget_ne_of hid5 r1
        have r2 := hh.keep j b q ((hget_tail q5).trans r1)
        obtain ⟨q2, q3⟩ := tw.new j b r
        exact hg_of
      · (first | refine ah ?_ | exact ah0 | fail)
        refine ⟨[(0, some (.ptr id 2 0 0)), (2, some (.ptr id2 4 0 0)), (3, some (.ptr id3 2 0 0)), (6, some (.rows 2 kindsV)), (7, some (.int .i64 5)), (8, some (.int .i64 (4 : Nat)))], H', (by repeat (first | exact trivial | refine And.intro (Or.inl rfl) ?_ | refine And.intro (Or.inr (Exists.intro _ (And.intro rfl (Fz.refl _)))) ?_)), Sub.skip (Sub.refl _) hid5, _, ?_, 4, rfl, by omega, rfl, rfl, (fun _ => w1 (by omega)), (fun _ => w2 (by omega)), (fun _ => w3 (by omega)), (fun _ => e), (fun h => by omega)⟩
        omega
    · (first | refine ah ?_ | exact ah0 | fail)
      intro id5 hid5 ht5
      have f5 : id5 ≠ id := hget_ne_of hid5 hg1
      have f52 : id5 ≠ id2 := hget_ne_of hid5 g2
      have f53 : id5 ≠ id3 := hget_ne_of hid5 g3
      (first | refine ah ?_ | exact ah0 | fail)
      rw [Int.toNat_natCast, hc]
      refine callF_eq (kinds4_spec c _) ?_
      (first | refine ah ?_ | exact ah0 | fail)
      refine bsplit_intro (fun e => ?_) (fun e => ?_)
      · (first | refine ah ?_ | exact ah0 | fail)
        refine callF_of ((token_sign_spec (s := s) (at' := at') (by exact hg_of) (by omega) hs).mono fun rr H2 hh => ?_)
        replace hh := hh.cong (R' := lex (s.drop at')) (by rw [hdr, lex_sign c _ (w1 (by omega)) (w2 (by omega)) (w3 (by omega)) (w4 (by omega)) e])
        have k2 := hh.keep id2 _ n2 ((hget_tail f52).trans g2)
        have k3 := hh.keep id3 _ n3 ((hget_tail f53).trans g3)
        obtain ⟨k, t, num, a, e', p, rfl, fin⟩ := hh.opened
        (first | refine ah ?_ | exact ah0 | fail)
        refine fin H _ (fun b q => by exact hg_of) (fun j b q r => ?_)
        have r1 := tw.keep j b r
        have q5 := hget_ne_of hid5 r1
        have r2 := hh.keep j b q ((hget_tail q5).trans r1)
        obtain ⟨q2, q3⟩ := tw.new j b r
        exact hg_of
      · (first | refine ah ?_ | exact ah0 | fail)
        refine ⟨[(0, some (.ptr id 2 0 0)), (2, some (.ptr id2 4 0 0)), (3, some (.ptr id3 2 0 0)), (6, some (.rows 2 kindsV)), (7, some (.int .i64 5)), (8, some (.int .i64 (5 : Nat)))], H', (by repeat (first | exact trivial | refine And.intro (Or.inl rfl) ?_ | refine And.intro (Or.inr (Exists.intro _ (And.intro rfl (Fz.refl _)))) ?_)), Sub.skip (Sub.refl _) hid5, _, ?_, 5, rfl, by omega, rfl, rfl, (fun _ => w1 (by omega)), (fun _ => w2 (by omega)), (fun _ => w3 (by omega)), (fun _ => w4 (by omega)), (fun _ => e)⟩
        omega
    · (first | refine ah ?_ | exact ah0 | fail)
      rw [hdr, lex_none c _ (w1 (by omega)) (w2 (by omega)) (w3 (by omega)) (w4 (by omega)) (w5 (by omega))]
      refine TkK.of_bad rfl (fun j b q r => ?_)
      obtain ⟨q2, q3⟩ := tw.new j b r
      have := tw.keep j b r
      exact hg_of
end Go.Proofs.Ytlmplofpclaokaa

/- All tokens of a text; plain. -/
namespace Go.Proofs.Ytlmplofpclaokaa
set_option autoImplicit false

theorem qs_bound : ∀ (m : Nat) (r : List UInt8) (i : Nat) (acc t : List UInt8) (n : Nat), r.length ≤ m → qs r i acc = .done t n → i < n ∧ n ≤ i + r.length
  | m, [], i, acc, t, n, _, h => by cases h
  | m, [c], i, acc, t, n, _, h => by
    simp only [qs] at h
    split at h
    · cases h
    · split at h
      · cases h; simp
      · cases h
  | 0, c :: d :: r, i, acc, t, n, hm, h => by simp at hm
  | m + 1, c :: d :: r, i, acc, t, n, hm, h => by
    simp only [List.length_cons] at hm ⊢
    simp only [qs] at h
    split at h
    · cases h
    · split at h
      · split at h
        · have := qs_bound m r _ _ t n (by omega) h
          omega
        · cases h; omega
      · have := qs_bound m (d :: r) _ _ t n (by simp; omega) h
        simp only [List.length_cons] at this
        omega
theorem lex_cons (c : UInt8) (r : List UInt8) : lex (c :: r) =
    if ltr c then .tok 1 ((c :: r).take (nl (c :: r))) 0 (nl (c :: r))
    else if dig c then
      if 1 < dl (c :: r) ∧ c = 48 then .bad 1 0
      else if numV ((c :: r).take (dl (c :: r))) < 18446744073709551616 then .tok 2 ((c :: r).take (dl (c :: r))) (numV ((c :: r).take (dl (c :: r)))) (dl (c :: r))
      else .bad 7 0
    else if c = 39 then match qs r 1 [] with
      | .done t n => .tok 3 t 0 n
      | .odd i => .bad 10 i
      | .short => .bad 2 0
    else if c = 37 then match r with
      | d :: _ => if dig d then .tok 4 [37, d] (d.toNat - 48) 2 else .bad 11 0
      | [] => .bad 11 0
    else if sgn c then .tok 5 ((c :: r).take (if two (c :: r) then 2 else 1)) 0 (if two (c :: r) then 2 else 1)
    else .bad 11 0 := rfl
theorem lex_bound {l : List UInt8} {k : Int} {t : List UInt8} {num n : Nat} (h : lex l = .tok k t num n) : 1 ≤ n ∧ n ≤ l.length := by
  cases l with
  | nil => cases h
  | cons c r =>
    rw [lex_cons] at h
    split at h
    · rename_i hc
      cases h
      refine ⟨?_, nl_le _⟩
      rw [nl_cons, if_pos hc]; omega
    · split at h
      · rename_i hd
        have h1 : 1 ≤ dl (c :: r) := (dl_step (s := c :: r) (n := 0) (Nat.zero_le _) (by simp)).2 hd
        split at h
        · cases h
        · split at h
          · cases h; exact ⟨h1, dl_le _⟩
          · cases h
      · split at h
        · split at h
          · rename_i e; cases h
            have := qs_bound _ _ _ _ _ _ (Nat.le_refl _) e
            simp only [List.length_cons]; omega
          · cases h
          · cases h
        · split at h
          · split at h
            · split at h
              · cases h; simp
              · cases h
            · cases h
          · split at h
            · cases h
              split
              · rename_i h2
                refine ⟨by omega, ?_⟩
                cases r with
                | nil => simp [two] at h2
                | cons d r => simp
              · simp
            · cases h
theorem lex_err {l : List UInt8} {e : Int} {off : Nat} (h : lex l = .bad e off) : 0 < e ∧ e < 100 := by
  cases l with
  | nil => cases h; decide
  | cons c r =>
    rw [lex_cons] at h
    repeat' split at h
    all_goals first | (cases h; decide) | cases h

inductive TR where
  | ok (l : List (Int × List UInt8 × Nat × Nat))
  | bad (e : Int) (p : Nat)
def TR.pre (l : List (Int × List UInt8 × Nat × Nat)) : TR → TR
  | .ok l' => .ok (l ++ l')
  | .bad e p => .bad e p
theorem TR.pre_pre (l l' : List (Int × List UInt8 × Nat × Nat)) (R : TR) : TR.pre l (TR.pre l' R) = TR.pre (l ++ l') R := by cases R <;> simp [TR.pre]
theorem TR.pre_nil (R : TR) : TR.pre [] R = R := by cases R <;> rfl

/-- The tokens from a byte on, n tokens being there. -/
def tks (s : List UInt8) (a n : Nat) : TR :=
    if a < s.length then
      if blnk (s.getD a 0) then tks s (a + 1) n
      else match lex (s.drop a) with
        | .bad e off => .bad e (a + off)
        | .tok k t num m => if n = 64 then .bad 3 a else TR.pre [(k, t, num, a)] (tks s (a + (m - 1) + 1) (n + 1))
    else .ok [(6, [], 0, s.length)]
  termination_by s.length - a
  decreasing_by all_goals omega
theorem tks_end {s : List UInt8} {a n : Nat} (h : s.length ≤ a) : tks s a n = .ok [(6, [], 0, s.length)] := by
  rw [tks, if_neg (by omega)]
theorem tks_eq {s : List UInt8} {a n : Nat} (h : a < s.length) : tks s a n =
    if blnk (s.getD a 0) then tks s (a + 1) n
      else match lex (s.drop a) with
        | .bad e off => .bad e (a + off)
        | .tok k t num m => if n = 64 then .bad 3 a else TR.pre [(k, t, num, a)] (tks s (a + m) (n + 1)) := by
  rw [tks, if_pos h]
  split
  · rfl
  · split
    · rfl
    · rename_i k t num m e
      have := lex_bound e
      rw [show a + (m - 1) + 1 = a + m from by omega]
def tokens (s : List UInt8) : TR := if 256 < s.length then .bad 3 0 else tks s 0 0
end Go.Proofs.Ytlmplofpclaokaa

/- What Tokens computes. -/
namespace Go.Proofs.Ytlmplofpclaokaa
set_option autoImplicit false
set_option linter.unusedSimpArgs false
set_option linter.unusedVariables false
--HSET
attribute [local irreducible] callA callP ACalls

/-- A slice that is owned, or nil. -/
structure OwnS (H : AH) (T sz : Nat) (v : AV) (l : List (List AV)) : Prop where
  or : (v = .nilS ∧ l = []) ∨ ∃ id, v = .own id sz 0 l.length ∧ hget H id = some (.rows sz l) ∧ tag id = T ∧ 0 < l.length
abbrev tkR (x : Int × List UInt8 × Nat × Nat) : List AV := [.int .i64 x.1, .str x.2.1, .int .u64 (x.2.2.1 : Nat), .int .i64 (x.2.2.2 : Nat)]
theorem tkR_len (l : List (Int × List UInt8 × Nat × Nat)) : ∀ (i : Nat) r, (l.map tkR)[i]? = some r → r.length = 4 := by
  intro i r h
  rw [List.getElem?_map] at h
  cases hh : l[i]? with
  | none => rw [hh] at h; cases h
  | some x => rw [hh] at h; simp at h; rw [← h]; rfl

structure TS (s : List UInt8) (id3 id4 at' : Nat) (v : AV) (l : List (Int × List UInt8 × Nat × Nat)) (H : AH) : Prop where
  g4 : hget H id4 = some (.rows 2 [[.str s, .int .i64 (at' : Nat)]])
  g3 : hget H id3 = some (.rows 2 [[.int .i64 0, .int .i64 0]])
  n : id3 ≠ id4
  s : OwnS H ty_api_Token 4 v (l.map tkR)
  len : l.length ≤ 64
theorem TS.own {s : List UInt8} {id3 id4 at' : Nat} {v : AV} {l : List (Int × List UInt8 × Nat × Nat)} {H : AH} (h : TS s id3 id4 at' v l H) : (v = .nilS ∧ l = []) ∨ ∃ id, v = .own id 4 0 l.length ∧ hget H id = some (.rows 4 (l.map tkR)) ∧ tag id = ty_api_Token ∧ 0 < l.length ∧ id ≠ id3 ∧ id ≠ id4 := by
  rcases h.s.or with ⟨q1, q2⟩ | ⟨id, q1, q2, q3, q4⟩
  · exact .inl ⟨q1, by simpa using q2⟩
  · refine .inr ⟨id, by rw [q1, List.length_map], q2, q3, by simpa using q4, fun e => ?_, fun e => ?_⟩
    · rw [e, h.g3] at q2; cases q2
    · rw [e, h.g4] at q2; cases q2
theorem TS.step {s : List UInt8} {id3 id4 at' b' : Nat} {v : AV} {l : List (Int × List UInt8 × Nat × Nat)} {H : AH} (h : TS s id3 id4 at' v l H) : TS s id3 id4 b' v l (hset H id4 (.rows 2 [[.str s, .int .i64 (b' : Nat)]])) := by
  refine ⟨hget_set h.g4, (hget_set_ne h.n).trans h.g3, h.n, ⟨?_⟩, h.len⟩
  rcases h.own with ⟨q1, q2⟩ | ⟨id, q1, q2, q3, q4, q5, q6⟩
  · exact .inl ⟨q1, by rw [q2]; rfl⟩
  · exact .inr ⟨id, by rw [q1, List.length_map], (hget_set_ne q6).trans q2, q3, by simpa using q4⟩

/-- What Tokens hands back. -/
structure TokR (R : TR) (r : AV) : Prop where
  ok : ∀ l, R = .ok l → r = .tup [.rows 4 (l.map tkR), fltA 0 0]
  bad : ∀ e p, R = .bad e p → r = .tup [.nilS, fltA e (p : Nat)]
/-- .. what is owned told. -/
structure TokO (R : TR) (r : AV) (H : AH) : Prop where
  ok : ∀ l, R = .ok l → ∃ id, r = .tup [.own id 4 0 l.length, fltA 0 0] ∧ hget H id = some (.rows 4 (l.map tkR))
  bad : ∀ e p, R = .bad e p → r = .tup [.nilS, fltA e (p : Nat)]
theorem TokO.of_bad {e : Int} {p : Nat} {r : AV} {H : AH} (h : r = .tup [.nilS, fltA e (p : Nat)]) : TokO (.bad e p) r H := ⟨(fun _ q => by cases q), fun e p q => by cases q; exact h⟩
theorem TokO.of_ok {l : List (Int × List UInt8 × Nat × Nat)} {r : AV} {H : AH} {id : Nat} (h : r = .tup [.own id 4 0 l.length, fltA 0 0]) (h2 : hget H id = some (.rows 4 (l.map tkR))) : TokO (.ok l) r H :=
  ⟨fun _ q => by cases q; exact ⟨id, h, h2⟩, fun _ _ q => by cases q⟩

def bl (s : List UInt8) (a : Nat) : Nat := ((s.drop a).takeWhile blnk).length
theorem bl_step {s : List UInt8} {a i : Nat} (hi : i ≤ bl s a) (h : a + i < s.length) : i < bl s a ↔ blnk (s.getD (a + i) 0) = true := by
  have := tw_step (f := blnk) (r := s.drop a) (n := i) hi (by rw [List.length_drop]; omega)
  rw [show (s.drop a).getD i 0 = s.getD (a + i) 0 from by simp [List.getD]] at this
  exact this
theorem bl_stop (s : List UInt8) (a : Nat) : a + bl s a < s.length → blnk (s.getD (a + bl s a) 0) = false := fun h => by
  have := bl_step (Nat.le_refl (bl s a)) h
  cases hh : blnk (s.getD (a + bl s a) 0) with
  | false => rfl
  | true => exact absurd (this.2 hh) (Nat.lt_irrefl _)
theorem tks_skip (s : List UInt8) (a n : Nat) : tks s a n = tks s (a + bl s a) n := by
  have key : ∀ i, i ≤ bl s a → tks s a n = tks s (a + i) n := by
    intro i
    induction i with
    | zero => intro _; rfl
    | succ i ih =>
      intro h
      rw [ih (by omega)]
      have hl : a + i < s.length := by
        have := (List.takeWhile_prefix (l := s.drop a) blnk).length_le
        rw [List.length_drop] at this
        unfold bl at h
        omega
      rw [tks_eq hl, if_pos ((bl_step (by omega) hl).1 (by omega))]
      rfl
  exact key _ (Nat.le_refl _)
set_option maxHeartbeats 1000000 in
theorem Tokens_spec0 {s : List UInt8} (hs : s.length ≤ 140737488351232) : ACalls PG token_Tokens.n [.str s] [] (TokO (tokens s)) := by
  refine token_Tokens.of rfl (wpF_start ?_)
  unfold tokens
  (first | refine ah ?_ | exact ah0 | fail)
  intro id3 hid3 ht3
  (first | refine ah ?_ | exact ah0 | fail)
  refine bsplit_dec (fun e1 => ?_) (fun e1 => ?_)
  · (first | refine ah ?_ | exact ah0 | fail)
    rw [if_pos (by omega)]
    exact TokO.of_bad rfl
  · rw [if_neg (by omega)]
    have hle : s.length ≤ 256 := by omega
    (first | refine ah ?_ | exact ah0 | fail)
    intro id4 hid4 ht4
    have n34 : id3 ≠ id4 := (hget_fresh hid4).1.symm
    (first | refine ah ?_ | exact ah0 | fail)
    generalize hR : tks s 0 0 = R
    refine ⟨fun n L H' => ∃ (a : Nat) (v : AV) (l : List (Int × List UInt8 × Nat × Nat)), n = s.length - a ∧ a ≤ s.length ∧ TR.pre l (tks s a l.length) = R ∧ L = [(0, some (.str s)), (3, some (.ptr id3 2 0 0)), (4, some (.ptr id4 2 0 0)), (5, some v)] ∧ TS s id3 id4 a v l H',
      ⟨_, _, ?_, Sub.refl _, _, 0, .nilS, [], rfl, Nat.zero_le _, (TR.pre_nil _).trans hR, rfl, ?_⟩, ?_⟩
    · exact (by repeat (first | exact trivial | refine And.intro (Or.inl rfl) ?_ | refine And.intro (Or.inr (Exists.intro _ (And.intro rfl (Fz.refl _)))) ?_))
    · exact ⟨hget_self, (hget_tail n34.symm).trans hget_self, n34, ⟨.inl ⟨rfl, rfl⟩⟩, by simp⟩
    · clear hid3 hid4 hR
      rintro n L H' ⟨a, v, l, rfl, ha, hR, rfl, T⟩
      have g4 := T.g4
      have hbl : bl s a ≤ s.length - a := by
        have := (List.takeWhile_prefix (l := s.drop a) blnk).length_le
        rw [List.length_drop] at this
        exact this
      (first | refine ac ?_ | exact ac0 | fail)
      refine .inr ⟨[(0, some (.str s)), (3, some (.ptr id3 2 0 0)), (4, some (.ptr id4 2 0 0)), (5, some v)], hset H' id4 (.rows 2 [[.str s, .int .i64 (a + bl s a : Nat)]]), ?_, ?_⟩
      · (first | refine ah ?_ | exact ah0 | fail)
        refine ⟨fun n L H'' => ∃ i, n = bl s a - i ∧ i ≤ bl s a ∧ L = [(0, some (.str s)), (3, some (.ptr id3 2 0 0)), (4, some (.ptr id4 2 0 0)), (5, some v)] ∧ H'' = hset H' id4 (.rows 2 [[.str s, .int .i64 (a + i : Nat)]]), ⟨_, hset H' id4 (.rows 2 [[.str s, .int .i64 (a + 0 : Nat)]]), ?_, sub_hset g4 (fun _ _ _ q => q), _, 0, rfl, Nat.zero_le _, rfl, rfl⟩, ?_⟩
        · exact (by repeat (first | exact trivial | refine And.intro (Or.inl rfl) ?_ | refine And.intro (Or.inr (Exists.intro _ (And.intro rfl (Fz.refl _)))) ?_))
        · rintro n L H'' ⟨i, rfl, hi, rfl, rfl⟩
          have g : hget (hset H' id4 (.rows 2 [[.str s, .int .i64 (a + i : Nat)]])) id4 = some (.rows 2 [[.str s, .int .i64 (a + i : Nat)]]) := hget_set g4
          have hst := bl_step (s := s) (a := a) (i := i) hi
          (first | refine ah ?_ | exact ah0 | fail)
          refine bsplit_dec (fun e2 => ?_) (fun e2 => ?_)
          · (first | refine ah ?_ | exact ah0 | fail)
            refine callF_eq (token_blank_spec _ _) ?_
            rw [Int.toNat_natCast, show blnk (s.getD (a + i) 0) = decide (i < bl s a) from bool_iff (hst (by omega)).symm]
            (first | refine ah ?_ | exact ah0 | fail)
            refine bsplit_dec (fun e3 => ?_) (fun e3 => ?_)
            · (first | refine ah ?_ | exact ah0 | fail)
              refine ⟨[(0, some (.str s)), (3, some (.ptr id3 2 0 0)), (4, some (.ptr id4 2 0 0)), (5, some v)], hset H' id4 (.rows 2 [[.str s, .int .i64 (a + (i + 1) : Nat)]]), (by repeat (first | exact trivial | refine And.intro (Or.inl rfl) ?_ | refine And.intro (Or.inr (Exists.intro _ (And.intro rfl (Fz.refl _)))) ?_)), ?_, _, ?_, i + 1, rfl, by omega, rfl, rfl⟩
              · rw [show ((a + (i + 1) : Nat) : Int) = ((a + i : Nat) : Int) + 1 from by omega]
                exact sub_hset (hget_set g) (fun j c q1 q2 => (hget_set_ne q1).trans ((hget_set_ne q1).trans q2))
              · omega
            · (first | refine ah ?_ | exact ah0 | fail)
              obtain rfl : i = bl s a := by omega
              exact ⟨(by repeat (first | exact trivial | refine And.intro (Or.inl rfl) ?_ | refine And.intro (Or.inr (Exists.intro _ (And.intro rfl (Fz.refl _)))) ?_)), Sub.refl _⟩
          · (first | refine ah ?_ | exact ah0 | fail)
            obtain rfl : i = bl s a := by omega
            exact ⟨(by repeat (first | exact trivial | refine And.intro (Or.inl rfl) ?_ | refine And.intro (Or.inr (Exists.intro _ (And.intro rfl (Fz.refl _)))) ?_)), Sub.refl _⟩
      · rw [tks_skip] at hR
        have hnb := bl_stop s a
        have ha' : a + bl s a ≤ s.length := by omega
        have T1 := T.step (b' := a + bl s a)
        have hle1 : a ≤ a + bl s a := Nat.le_add_right _ _
        generalize a + bl s a = a1 at *
        generalize hset H' id4 (.rows 2 [[.str s, .int .i64 (a1 : Nat)]]) = H1 at *
        clear T g4
        have g4 := T1.g4
        have g3 := T1.g3
        (first | refine ah ?_ | exact ah0 | fail)
        refine bsplit_dec (fun e2 => ?_) (fun e2 => ?_)
        · rw [tks_end (by omega)] at hR
          subst hR
          rcases T1.own with ⟨rfl, rfl⟩ | ⟨ids, rfl, gs, ts, pos, ns3, ns4⟩
          · obtain rfl : a1 = s.length := by omega
            (first | refine ah ?_ | exact ah0 | fail)
            refine ⟨_, rfl, by simp, (fun e => by cases e), fun _ => ?_⟩
            intro idn hidn htn
            have nn3 := hget_ne_of hidn g3
            (first | refine ah ?_ | exact ah0 | fail)
            exact TokO.of_ok (l := [(6, [], 0, s.length)]) rfl hget_self
          · obtain rfl : a1 = s.length := by omega
            have len := T1.len
            have exs : (((l.map tkR).take l.length).drop 0) = l.map tkR := by rw [List.drop_zero, show l.length = (l.map tkR).length from by simp, List.take_length]
            (first | refine ah ?_ | exact ah0 | fail)
            refine ⟨_, _, (readS_own gs (by simp)).trans (congrArg some exs), rfl, rfl, rfl, ts, by simp; omega, ?_⟩
            intro idn hidn htn
            have nn3 := hget_ne_of hidn g3
            (first | refine ah ?_ | exact ah0 | fail)
            refine TokO.of_ok (l := l ++ [(6, [], 0, s.length)]) (id := idn) ?_ ?_
            · have hln : (l ++ [((6 : Int), ([] : List UInt8), 0, s.length)]).length = (l.map tkR).length + 1 := by simp
              rw [hln]
              rfl
            · rw [List.map_append]
              exact hget_self
        · have hlt : a1 < s.length := by omega
          rw [tks_eq hlt, hnb hlt, if_neg (by decide)] at hR
          (first | refine ah ?_ | exact ah0 | fail)
          refine callF_of ((lexer_next_spec (s := s) (at' := a1) g4 hlt hs).mono fun rr H2 hh => ?_)
          have k3 := hh.keep id3 _ n34 g3
          cases hx : lex (s.drop a1) with
          | bad e off =>
            obtain ⟨k, t, num, ap, rfl⟩ := hh.bad e off hx
            have := lex_err hx
            rw [hx] at hR
            subst hR
            (first | refine ah ?_ | exact ah0 | fail)
            intro id7 hid7 ht7
            (first | refine ah ?_ | exact ah0 | fail)
            intro id8 hid8 ht8
            have n73 := hget_ne_of hid7 k3
            have n83 := hget_ne_of hid8 ((hget_tail n73).trans k3)
            have n87 := (hget_fresh hid8).1
            (first | refine ah ?_ | exact ah0 | fail)
            exact TokO.of_bad rfl
          | tok k t num m =>
            obtain ⟨rfl, g4n⟩ := hh.tok k t num m hx
            have bd := lex_bound hx
            rw [List.length_drop] at bd
            rw [hx] at hR
            (first | refine ah ?_ | exact ah0 | fail)
            intro id7 hid7 ht7
            (first | refine ah ?_ | exact ah0 | fail)
            intro id8 hid8 ht8
            have n73 := hget_ne_of hid7 k3
            have n83 := hget_ne_of hid8 ((hget_tail n73).trans k3)
            have n87 := (hget_fresh hid8).1
            have n74 := hget_ne_of hid7 g4n
            have n84 := hget_ne_of hid8 ((hget_tail n74).trans g4n)
            have len := T1.len
            replace hR : TR.pre l (if l.length = 64 then TR.bad 3 a1 else TR.pre [(k, t, num, a1)] (tks s (a1 + m) (l.length + 1))) = R := hR
            by_cases h64 : l.length = 64
            · rw [if_pos h64] at hR
              subst hR
              rcases T1.own with ⟨rfl, rfl⟩ | ⟨ids, rfl, gs, ts, pos, ns3, ns4⟩
              · cases h64
              · (first | refine ah ?_ | exact ah0 | fail)
                exact TokO.of_bad rfl
            · rw [if_neg h64, TR.pre_pre] at hR
              have hln : (l ++ [(k, t, num, a1)]).length = l.length + 1 := by simp
              rw [← hln] at hR
              rcases T1.own with ⟨rfl, rfl⟩ | ⟨ids, rfl, gs, ts, pos, ns3, ns4⟩
              · (first | refine ah ?_ | exact ah0 | fail)
                refine ⟨_, rfl, by simp, (fun e => by cases e), fun _ => ?_⟩
                intro idn hidn htn
                (first | refine ah ?_ | exact ah0 | fail)
                refine ⟨[(0, some (.str s)), (3, some (.ptr id3 2 0 0)), (4, some (.ptr id4 2 0 0)), (5, some (.own idn 4 0 1))], _, (by repeat (first | exact trivial | refine And.intro (Or.inl rfl) ?_ | refine And.intro (Or.inr (Exists.intro _ (And.intro rfl (Fz.refl _)))) ?_)), Sub.refl _, _, ?_, a1 + m, _, _, rfl, by omega, hR, rfl, ?_⟩
                · omega
                · have q8 := (hget_fresh hidn)
                  have q7 := (hget_fresh q8.2)
                  have m4 := hget_ne_of q7.2 g4n
                  have m3 := hget_ne_of q7.2 k3
                  exact ⟨by exact hg_of, by exact hg_of, n34, ⟨.inr ⟨idn, rfl, hget_self, htn, by simp⟩⟩, by simp⟩
              · have exs : (((l.map tkR).take l.length).drop 0) = l.map tkR := by rw [List.drop_zero, show l.length = (l.map tkR).length from by simp, List.take_length]
                have gs2 := hh.keep ids _ ns4 gs
                have n7s := hget_ne_of hid7 gs2
                have n8s := hget_ne_of hid8 ((hget_tail n7s).trans gs2)
                (first | refine ah ?_ | exact ah0 | fail)
                refine ⟨_, _, (readS_own (by exact hg_of) (by simp)).trans (congrArg some exs), rfl, rfl, rfl, ts, by simp; omega, ?_⟩
                intro idn hidn htn
                have q0 : ∀ j b, j ≠ ids → j ≠ id7 → j ≠ id8 → hget H2 j = some b → idn ≠ j := fun j b r1 r2 r3 r4 => hget_ne_of hidn (show hget _ j = some b by exact hg_of)
                (first | refine ah ?_ | exact ah0 | fail)
                have m4 := q0 id4 _ ns4.symm n74.symm n84.symm g4n
                have m3 := q0 id3 _ ns3.symm n73.symm n83.symm k3
                refine ⟨[(0, some (.str s)), (3, some (.ptr id3 2 0 0)), (4, some (.ptr id4 2 0 0)), (5, some (.own idn 4 0 ((l.map tkR).length + 1)))], _, (by repeat (first | exact trivial | refine And.intro (Or.inl rfl) ?_ | refine And.intro (Or.inr (Exists.intro _ (And.intro rfl (Fz.refl _)))) ?_)), Sub.refl _, _, ?_, a1 + m, _, _, rfl, by omega, hR, rfl, ?_⟩
                · omega
                · exact ⟨by exact hg_of, by exact hg_of, n34, ⟨.inr ⟨idn, by simp, by rw [List.map_append]; exact hget_self, htn, by simp⟩⟩, by simp; omega⟩
end Go.Proofs.Ytlmplofpclaokaa

/- Each function's translation is, by reckoning, the abstract code that is written out here; its contract follows from the predicate transformer over that code. -/
namespace Go.Proofs.Ytlmplofpclaokaa
set_option autoImplicit false
set_option maxRecDepth 100000
def broadsheetlaw15_ExprReads.n : Nat := 4
noncomputable def broadsheetlaw15_ExprReads.c : C := (.seq (.reg [⟨(some 2), none, (.mv (.c (.bool false)))⟩]) (.seq (.reg [⟨(some 8), none, (.mv (.t 0))⟩, ⟨(some 9), none, (.call 11 [(.t 8)])⟩, ⟨(some 7), none, (.mv (.t 9))⟩, ⟨(some 10), none, (.extr (.t 7) 0)⟩, ⟨(some 11), none, (.extr (.t 7) 1)⟩, ⟨(some 3), none, (.allc 34 [(.int .i64 0), (.int .i64 0), .nilS, .nilS])⟩, ⟨(some 4), none, (.allc 25 [(.int .i64 0), (.int .i64 0)])⟩, ⟨none, none, (.store 4 (.t 3) (.t 10))⟩, ⟨none, none, (.store 2 (.t 4) (.t 11))⟩]) (.seq (.reg [⟨(some 13), none, (.mv (.t 0))⟩, ⟨(some 14), none, (.call 12 [(.t 13)])⟩, ⟨(some 12), none, (.mv (.t 14))⟩, ⟨(some 15), none, (.extr (.t 12) 0)⟩, ⟨(some 16), none, (.extr (.t 12) 1)⟩, ⟨(some 5), none, (.allc 34 [(.int .i64 0), (.int .i64 0), .nilS, .nilS])⟩, ⟨(some 6), none, (.allc 25 [(.int .i64 0), (.int .i64 0)])⟩, ⟨none, none, (.store 4 (.t 5) (.t 15))⟩, ⟨none, none, (.store 2 (.t 6) (.t 16))⟩]) (.seq (.reg [⟨(some 17), none, (.load (some 4) (.t 3))⟩, ⟨(some 18), none, (.load (some 4) (.t 5))⟩, ⟨(some 19), none, (.call 13 [(.t 17), (.t 18)])⟩, ⟨(some 20), none, (.mv (.t 19))⟩, ⟨(some 21), (some (20, true)), (.load (some 2) (.t 4))⟩, ⟨(some 22), (some (20, true)), (.load (some 2) (.t 6))⟩, ⟨(some 23), (some (20, true)), (.aeq false [(.i .i64), (.i .i64)] (.t 21) (.t 22))⟩, ⟨(some 24), none, (.pick (.t 20) (.t 23) (.c (.bool false)))⟩, ⟨(some 25), none, (.mv (.t 24))⟩, ⟨(some 26), (some (25, true)), (.call 14 [])⟩, ⟨(some 27), none, (.pick (.t 25) (.t 26) (.c (.bool false)))⟩, ⟨(some 2), none, (.mv (.t 27))⟩]) .ret))))
theorem broadsheetlaw15_ExprReads.code : comp PG [] (Try.f4.body.getD .skip) = broadsheetlaw15_ExprReads.c := by kernel_rfl
theorem broadsheetlaw15_ExprReads.of {args : List AV} {H : AH} {K : AV → AH → Prop} (hl : args.length = 1) (h : wpA PG broadsheetlaw15_ExprReads.c none (endA [(.t 2)] K) (initFr args) H) : ACalls PG 4 args H K :=
  ACalls.of_code (fl := []) mixed Try.func4 (c := Try.f4.body.getD .skip) (by kernel_rfl) (by kernel_rfl) (by rw [hl]; exact of_decide_eq_true (by kernel_rfl)) (by rw [broadsheetlaw15_ExprReads.code]; kernel_rfl)
    (by rw [broadsheetlaw15_ExprReads.code, show compRes PG Try.f4.results.toList = [(.t 2)] from by kernel_rfl]; exact h)
def broadsheetlaw15_ExprBrackets.n : Nat := 5
noncomputable def broadsheetlaw15_ExprBrackets.c : C := (.seq (.reg [⟨(some 4), none, (.mv (.c (.bool false)))⟩]) (.seq (.seq (.reg [⟨(some 17), none, (.mv (.t 0))⟩, ⟨(some 18), none, (.len true (.t 17))⟩, ⟨(some 19), none, (.bin .gtr (.t 18) (.c (.int .i64 120)))⟩, ⟨(some 20), none, (.mv (.t 19))⟩, ⟨(some 21), (some (20, false)), (.mv (.t 1))⟩, ⟨(some 22), (some (20, false)), (.len true (.t 21))⟩, ⟨(some 23), (some (20, false)), (.bin .gtr (.t 22) (.c (.int .i64 120)))⟩, ⟨(some 24), none, (.pick (.t 20) (.c (.bool true)) (.t 23))⟩]) (.cond (.t 24) (.seq (.reg [⟨(some 25), none, (.call 14 [])⟩, ⟨(some 4), none, (.mv (.t 25))⟩]) .ret) .skip)) (.seq (.reg [⟨(some 27), none, (.mv (.t 0))⟩, ⟨(some 28), none, (.call 11 [(.t 27)])⟩, ⟨(some 26), none, (.mv (.t 28))⟩, ⟨(some 29), none, (.extr (.t 26) 0)⟩, ⟨(some 30), none, (.extr (.t 26) 1)⟩, ⟨(some 5), none, (.allc 34 [(.int .i64 0), (.int .i64 0), .nilS, .nilS])⟩, ⟨(some 6), none, (.allc 25 [(.int .i64 0), (.int .i64 0)])⟩, ⟨none, none, (.store 4 (.t 5) (.t 29))⟩, ⟨none, none, (.store 2 (.t 6) (.t 30))⟩]) (.seq (.reg [⟨(some 32), none, (.mv (.t 0))⟩, ⟨(some 33), none, (.bin .add (.c (.str [40])) (.t 32))⟩, ⟨(some 34), none, (.bin .add (.t 33) (.c (.str [41])))⟩, ⟨(some 35), none, (.call 11 [(.t 34)])⟩, ⟨(some 31), none, (.mv (.t 35))⟩, ⟨(some 36), none, (.extr (.t 31) 0)⟩, ⟨(some 37), none, (.extr (.t 31) 1)⟩, ⟨(some 7), none, (.allc 34 [(.int .i64 0), (.int .i64 0), .nilS, .nilS])⟩, ⟨(some 8), none, (.allc 25 [(.int .i64 0), (.int .i64 0)])⟩, ⟨none, none, (.store 4 (.t 7) (.t 36))⟩, ⟨none, none, (.store 2 (.t 8) (.t 37))⟩]) (.seq (.seq (.reg [⟨(some 38), none, (.faddr 0 (.t 6))⟩, ⟨(some 39), none, (.load none (.t 38))⟩, ⟨(some 40), none, (.bin .neq (.t 39) (.c (.int .i64 0)))⟩, ⟨(some 41), none, (.mv (.t 40))⟩, ⟨(some 42), (some (41, true)), (.faddr 0 (.t 8))⟩, ⟨(some 43), (some (41, true)), (.load none (.t 42))⟩, ⟨(some 44), (some (41, true)), (.bin .eql (.t 43) (.c (.int .i64 0)))⟩, ⟨(some 45), none, (.pick (.t 41) (.t 44) (.c (.bool false)))⟩, ⟨(some 46), none, (.mv (.t 45))⟩, ⟨(some 47), (some (46, false)), (.faddr 0 (.t 6))⟩, ⟨(some 48), (some (46, false)), (.load none (.t 47))⟩, ⟨(some 49), (some (46, false)), (.bin .eql (.t 48) (.c (.int .i64 0)))⟩, ⟨(some 50), (some (46, false)), (.mv (.t 49))⟩, ⟨(some 51), (some (50, true)), (.faddr 0 (.t 8))⟩, ⟨(some 52), (some (50, true)), (.load none (.t 51))⟩, ⟨(some 53), (some (50, true)), (.bin .neq (.t 52) (.c (.int .i64 0)))⟩, ⟨(some 54), (some (46, false)), (.pick (.t 50) (.t 53) (.c (.bool false)))⟩, ⟨(some 55), (some (46, false)), (.mv (.t 54))⟩, ⟨(some 56), (some (55, true)), (.faddr 0 (.t 8))⟩, ⟨(some 57), (some (55, true)), (.load none (.t 56))⟩, ⟨(some 58), (some (55, true)), (.bin .neq (.t 57) (.c (.int .i64 9)))⟩, ⟨(some 59), (some (46, false)), (.pick (.t 55) (.t 58) (.c (.bool false)))⟩, ⟨(some 60), (some (46, false)), (.mv (.t 59))⟩, ⟨(some 61), (some (60, true)), (.faddr 0 (.t 8))⟩, ⟨(some 62), (some (60, true)), (.load none (.t 61))⟩, ⟨(some 63), (some (60, true)), (.bin .neq (.t 62) (.c (.int .i64 3)))⟩, ⟨(some 64), (some (46, false)), (.pick (.t 60) (.t 63) (.c (.bool false)))⟩, ⟨(some 65), none, (.pick (.t 46) (.c (.bool true)) (.t 64))⟩, ⟨(some 66), none, (.mv (.t 65))⟩, ⟨(some 67), (some (66, false)), (.faddr 0 (.t 6))⟩, ⟨(some 68), (some (66, false)), (.load none (.t 67))⟩, ⟨(some 69), (some (66, false)), (.bin .eql (.t 68) (.c (.int .i64 0)))⟩, ⟨(some 70), (some (66, false)), (.mv (.t 69))⟩, ⟨(some 71), (some (70, true)), (.faddr 0 (.t 8))⟩, ⟨(some 72), (some (70, true)), (.load none (.t 71))⟩, ⟨(some 73), (some (70, true)), (.bin .eql (.t 72) (.c (.int .i64 0)))⟩, ⟨(some 74), (some (66, false)), (.pick (.t 70) (.t 73) (.c (.bool false)))⟩, ⟨(some 75), (some (66, false)), (.mv (.t 74))⟩, ⟨(some 76), (some (75, true)), (.load (some 4) (.t 5))⟩, ⟨(some 77), (some (75, true)), (.load (some 4) (.t 7))⟩, ⟨(some 78), (some (75, true)), (.call 13 [(.t 76), (.t 77)])⟩, ⟨(some 79), (some (75, true)), (.un .not (.t 78))⟩, ⟨(some 80), (some (66, false)), (.pick (.t 75) (.t 79) (.c (.bool false)))⟩, ⟨(some 81), none, (.pick (.t 66) (.c (.bool true)) (.t 80))⟩]) (.cond (.t 81) (.seq (.reg [⟨(some 82), none, (.faddr 0 (.t 6))⟩, ⟨(some 83), none, (.load none (.t 82))⟩, ⟨(some 84), none, (.bin .neq (.t 83) (.c (.int .i64 0)))⟩, ⟨(some 85), none, (.mv (.t 84))⟩, ⟨(some 86), (some (85, true)), (.mv (.t 0))⟩, ⟨(some 87), (some (85, true)), (.call 15 [(.t 86)])⟩, ⟨(some 88), none, (.pick (.t 85) (.t 87) (.c (.bool false)))⟩, ⟨(some 89), none, (.mv (.t 88))⟩, ⟨(some 90), (some (89, true)), (.call 14 [])⟩, ⟨(some 91), none, (.pick (.t 89) (.t 90) (.c (.bool false)))⟩, ⟨(some 4), none, (.mv (.t 91))⟩]) .ret) .skip)) (.seq (.reg [⟨(some 93), none, (.mv (.t 0))⟩, ⟨(some 94), none, (.bin .add (.c (.str [78, 79, 84, 32, 40])) (.t 93))⟩, ⟨(some 95), none, (.bin .add (.t 94) (.c (.str [41])))⟩, ⟨(some 96), none, (.call 11 [(.t 95)])⟩, ⟨(some 92), none, (.mv (.t 96))⟩, ⟨(some 97), none, (.extr (.t 92) 0)⟩, ⟨(some 98), none, (.extr (.t 92) 1)⟩, ⟨(some 9), none, (.allc 34 [(.int .i64 0), (.int .i64 0), .nilS, .nilS])⟩, ⟨(some 10), none, (.allc 25 [(.int .i64 0), (.int .i64 0)])⟩, ⟨none, none, (.store 4 (.t 9) (.t 97))⟩, ⟨none, none, (.store 2 (.t 10) (.t 98))⟩]) (.seq (.seq (.dreg [⟨(some 99), none, (.faddr 0 (.t 6))⟩, ⟨(some 100), none, (.load none (.t 99))⟩, ⟨(some 101), none, (.bin .eql (.t 100) (.c (.int .i64 0)))⟩, ⟨(some 102), none, (.mv (.t 101))⟩, ⟨(some 103), (some (102, true)), (.faddr 0 (.t 10))⟩, ⟨(some 104), (some (102, true)), (.load none (.t 103))⟩, ⟨(some 105), (some (102, true)), (.bin .eql (.t 104) (.c (.int .i64 0)))⟩, ⟨(some 106), none, (.pick (.t 102) (.t 105) (.c (.bool false)))⟩, ⟨(some 107), none, (.mv (.t 106))⟩, ⟨(some 108), (some (107, true)), (.faddr 0 (.t 9))⟩, ⟨(some 109), (some (107, true)), (.load none (.t 108))⟩, ⟨(some 110), (some (107, true)), (.bin .neq (.t 109) (.c (.int .i64 4)))⟩, ⟨(some 111), (some (107, true)), (.mv (.t 110))⟩, ⟨(some 112), (some (111, false)), (.faddr 3 (.t 9))⟩, ⟨(some 113), (some (111, false)), (.load none (.t 112))⟩, ⟨(some 114), (some (111, false)), (.len false (.t 113))⟩, ⟨(some 115), (some (111, false)), (.bin .neq (.t 114) (.c (.int .i64 1)))⟩, ⟨(some 116), (some (107, true)), (.pick (.t 111) (.c (.bool true)) (.t 115))⟩, ⟨(some 117), (some (107, true)), (.mv (.t 116))⟩, ⟨(some 118), (some (117, false)), (.faddr 3 (.t 9))⟩, ⟨(some 119), (some (117, false)), (.load none (.t 118))⟩, ⟨(some 120), (some (117, false)), (.iaddr 4 (.t 119) (.c (.int .i64 0)))⟩, ⟨(some 121), (some (117, false)), (.load (some 4) (.t 120))⟩, ⟨(some 122), (some (117, false)), (.load (some 4) (.t 5))⟩] [⟨(some 123), (some (117, false)), (.call 13 [(.t 121), (.t 122)])⟩, ⟨(some 124), (some (117, false)), (.un .not (.t 123))⟩, ⟨(some 125), (some (107, true)), (.pick (.t 117) (.c (.bool true)) (.t 124))⟩, ⟨(some 126), none, (.pick (.t 107) (.t 125) (.c (.bool false)))⟩]) (.cond (.t 126) (.seq (.reg [⟨(some 4), none, (.mv (.c (.bool false)))⟩]) .ret) .skip)) (.seq (.reg [⟨(some 128), none, (.mv (.t 1))⟩, ⟨(some 129), none, (.call 11 [(.t 128)])⟩, ⟨(some 127), none, (.mv (.t 129))⟩, ⟨(some 130), none, (.extr (.t 127) 0)⟩, ⟨(some 131), none, (.extr (.t 127) 1)⟩, ⟨(some 11), none, (.allc 34 [(.int .i64 0), (.int .i64 0), .nilS, .nilS])⟩, ⟨(some 12), none, (.allc 25 [(.int .i64 0), (.int .i64 0)])⟩, ⟨none, none, (.store 4 (.t 11) (.t 130))⟩, ⟨none, none, (.store 2 (.t 12) (.t 131))⟩]) (.seq (.reg [⟨(some 133), none, (.mv (.t 0))⟩, ⟨(some 134), none, (.bin .add (.c (.str [40])) (.t 133))⟩, ⟨(some 135), none, (.bin .add (.t 134) (.c (.str [41, 32, 65, 78, 68, 32, 40])))⟩, ⟨(some 136), none, (.mv (.t 1))⟩, ⟨(some 137), none, (.bin .add (.t 135) (.t 136))⟩, ⟨(some 138), none, (.bin .add (.t 137) (.c (.str [41])))⟩, ⟨(some 139), none, (.call 11 [(.t 138)])⟩, ⟨(some 132), none, (.mv (.t 139))⟩, ⟨(some 140), none, (.extr (.t 132) 0)⟩, ⟨(some 141), none, (.extr (.t 132) 1)⟩, ⟨(some 13), none, (.allc 34 [(.int .i64 0), (.int .i64 0), .nilS, .nilS])⟩, ⟨(some 14), none, (.allc 25 [(.int .i64 0), (.int .i64 0)])⟩, ⟨none, none, (.store 4 (.t 13) (.t 140))⟩, ⟨none, none, (.store 2 (.t 14) (.t 141))⟩]) (.seq (.seq (.dreg [⟨(some 142), none, (.faddr 0 (.t 6))⟩, ⟨(some 143), none, (.load none (.t 142))⟩, ⟨(some 144), none, (.bin .eql (.t 143) (.c (.int .i64 0)))⟩, ⟨(some 145), none, (.mv (.t 144))⟩, ⟨(some 146), (some (145, true)), (.faddr 0 (.t 12))⟩, ⟨(some 147), (some (145, true)), (.load none (.t 146))⟩, ⟨(some 148), (some (145, true)), (.bin .eql (.t 147) (.c (.int .i64 0)))⟩, ⟨(some 149), none, (.pick (.t 145) (.t 148) (.c (.bool false)))⟩, ⟨(some 150), none, (.mv (.t 149))⟩, ⟨(some 151), (some (150, true)), (.faddr 0 (.t 14))⟩, ⟨(some 152), (some (150, true)), (.load none (.t 151))⟩, ⟨(some 153), (some (150, true)), (.bin .eql (.t 152) (.c (.int .i64 0)))⟩, ⟨(some 154), none, (.pick (.t 150) (.t 153) (.c (.bool false)))⟩, ⟨(some 155), none, (.mv (.t 154))⟩, ⟨(some 156), (some (155, true)), (.faddr 0 (.t 13))⟩, ⟨(some 157), (some (155, true)), (.load none (.t 156))⟩, ⟨(some 158), (some (155, true)), (.bin .neq (.t 157) (.c (.int .i64 5)))⟩, ⟨(some 159), (some (155, true)), (.mv (.t 158))⟩, ⟨(some 160), (some (159, false)), (.faddr 3 (.t 13))⟩, ⟨(some 161), (some (159, false)), (.load none (.t 160))⟩, ⟨(some 162), (some (159, false)), (.len false (.t 161))⟩, ⟨(some 163), (some (159, false)), (.bin .neq (.t 162) (.c (.int .i64 2)))⟩, ⟨(some 164), (some (155, true)), (.pick (.t 159) (.c (.bool true)) (.t 163))⟩, ⟨(some 165), (some (155, true)), (.mv (.t 164))⟩, ⟨(some 166), (some (165, false)), (.faddr 3 (.t 13))⟩, ⟨(some 167), (some (165, false)), (.load none (.t 166))⟩, ⟨(some 168), (some (165, false)), (.iaddr 4 (.t 167) (.c (.int .i64 0)))⟩, ⟨(some 169), (some (165, false)), (.load (some 4) (.t 168))⟩, ⟨(some 170), (some (165, false)), (.load (some 4) (.t 5))⟩, ⟨(some 171), (some (165, false)), (.call 13 [(.t 169), (.t 170)])⟩, ⟨(some 172), (some (165, false)), (.un .not (.t 171))⟩, ⟨(some 173), (some (155, true)), (.pick (.t 165) (.c (.bool true)) (.t 172))⟩, ⟨(some 174), (some (155, true)), (.mv (.t 173))⟩, ⟨(some 175), (some (174, false)), (.faddr 3 (.t 13))⟩, ⟨(some 176), (some (174, false)), (.load none (.t 175))⟩, ⟨(some 177), (some (174, false)), (.iaddr 4 (.t 176) (.c (.int .i64 1)))⟩, ⟨(some 178), (some (174, false)), (.load (some 4) (.t 177))⟩, ⟨(some 179), (some (174, false)), (.load (some 4) (.t 11))⟩] [⟨(some 180), (some (174, false)), (.call 13 [(.t 178), (.t 179)])⟩, ⟨(some 181), (some (174, false)), (.un .not (.t 180))⟩, ⟨(some 182), (some (155, true)), (.pick (.t 174) (.c (.bool true)) (.t 181))⟩, ⟨(some 183), none, (.pick (.t 155) (.t 182) (.c (.bool false)))⟩]) (.cond (.t 183) (.seq (.reg [⟨(some 4), none, (.mv (.c (.bool false)))⟩]) .ret) .skip)) (.seq (.reg [⟨(some 185), none, (.mv (.t 0))⟩, ⟨(some 186), none, (.bin .add (.c (.str [40])) (.t 185))⟩, ⟨(some 187), none, (.bin .add (.t 186) (.c (.str [41, 32, 79, 82, 32, 40])))⟩, ⟨(some 188), none, (.mv (.t 1))⟩, ⟨(some 189), none, (.bin .add (.t 187) (.t 188))⟩, ⟨(some 190), none, (.bin .add (.t 189) (.c (.str [41])))⟩, ⟨(some 191), none, (.call 11 [(.t 190)])⟩, ⟨(some 184), none, (.mv (.t 191))⟩, ⟨(some 192), none, (.extr (.t 184) 0)⟩, ⟨(some 193), none, (.extr (.t 184) 1)⟩, ⟨(some 15), none, (.allc 34 [(.int .i64 0), (.int .i64 0), .nilS, .nilS])⟩, ⟨(some 16), none, (.allc 25 [(.int .i64 0), (.int .i64 0)])⟩, ⟨none, none, (.store 4 (.t 15) (.t 192))⟩, ⟨none, none, (.store 2 (.t 16) (.t 193))⟩]) (.seq (.dreg [⟨(some 194), none, (.faddr 0 (.t 6))⟩, ⟨(some 195), none, (.load none (.t 194))⟩, ⟨(some 196), none, (.bin .neq (.t 195) (.c (.int .i64 0)))⟩, ⟨(some 197), none, (.mv (.t 196))⟩, ⟨(some 198), (some (197, false)), (.faddr 0 (.t 12))⟩, ⟨(some 199), (some (197, false)), (.load none (.t 198))⟩, ⟨(some 200), (some (197, false)), (.bin .neq (.t 199) (.c (.int .i64 0)))⟩, ⟨(some 201), none, (.pick (.t 197) (.c (.bool true)) (.t 200))⟩, ⟨(some 202), none, (.mv (.t 201))⟩, ⟨(some 203), (some (202, false)), (.faddr 0 (.t 16))⟩, ⟨(some 204), (some (202, false)), (.load none (.t 203))⟩, ⟨(some 205), (some (202, false)), (.bin .neq (.t 204) (.c (.int .i64 0)))⟩, ⟨(some 206), none, (.pick (.t 202) (.c (.bool true)) (.t 205))⟩, ⟨(some 207), none, (.mv (.t 206))⟩, ⟨(some 208), (some (207, false)), (.faddr 0 (.t 15))⟩, ⟨(some 209), (some (207, false)), (.load none (.t 208))⟩, ⟨(some 210), (some (207, false)), (.bin .eql (.t 209) (.c (.int .i64 6)))⟩, ⟨(some 211), (some (207, false)), (.mv (.t 210))⟩, ⟨(some 212), (some (211, true)), (.faddr 3 (.t 15))⟩, ⟨(some 213), (some (211, true)), (.load none (.t 212))⟩, ⟨(some 214), (some (211, true)), (.len false (.t 213))⟩, ⟨(some 215), (some (211, true)), (.bin .eql (.t 214) (.c (.int .i64 2)))⟩, ⟨(some 216), (some (207, false)), (.pick (.t 211) (.t 215) (.c (.bool false)))⟩, ⟨(some 217), (some (207, false)), (.mv (.t 216))⟩, ⟨(some 218), (some (217, true)), (.faddr 3 (.t 15))⟩, ⟨(some 219), (some (217, true)), (.load none (.t 218))⟩, ⟨(some 220), (some (217, true)), (.iaddr 4 (.t 219) (.c (.int .i64 0)))⟩, ⟨(some 221), (some (217, true)), (.load (some 4) (.t 220))⟩, ⟨(some 222), (some (217, true)), (.load (some 4) (.t 5))⟩, ⟨(some 223), (some (217, true)), (.call 13 [(.t 221), (.t 222)])⟩, ⟨(some 224), (some (207, false)), (.pick (.t 217) (.t 223) (.c (.bool false)))⟩, ⟨(some 225), (some (207, false)), (.mv (.t 224))⟩, ⟨(some 226), (some (225, true)), (.faddr 3 (.t 15))⟩, ⟨(some 227), (some (225, true)), (.load none (.t 226))⟩, ⟨(some 228), (some (225, true)), (.iaddr 4 (.t 227) (.c (.int .i64 1)))⟩, ⟨(some 229), (some (225, true)), (.load (some 4) (.t 228))⟩, ⟨(some 230), (some (225, true)), (.load (some 4) (.t 11))⟩] [⟨(some 231), (some (225, true)), (.call 13 [(.t 229), (.t 230)])⟩, ⟨(some 232), (some (207, false)), (.pick (.t 225) (.t 231) (.c (.bool false)))⟩, ⟨(some 233), none, (.pick (.t 207) (.c (.bool true)) (.t 232))⟩, ⟨(some 234), none, (.mv (.t 233))⟩, ⟨(some 235), (some (234, true)), (.call 14 [])⟩, ⟨(some 236), none, (.pick (.t 234) (.t 235) (.c (.bool false)))⟩, ⟨(some 4), none, (.mv (.t 236))⟩]) .ret))))))))))))
theorem broadsheetlaw15_ExprBrackets.code : comp PG [] (Try.f5.body.getD .skip) = broadsheetlaw15_ExprBrackets.c := by kernel_rfl
theorem broadsheetlaw15_ExprBrackets.of {args : List AV} {H : AH} {K : AV → AH → Prop} (hl : args.length = 2) (h : wpA PG broadsheetlaw15_ExprBrackets.c none (endA [(.t 4)] K) (initFr args) H) : ACalls PG 5 args H K :=
  ACalls.of_code (fl := []) mixed Try.func5 (c := Try.f5.body.getD .skip) (by kernel_rfl) (by kernel_rfl) (by rw [hl]; exact of_decide_eq_true (by kernel_rfl)) (by rw [broadsheetlaw15_ExprBrackets.code]; kernel_rfl)
    (by rw [broadsheetlaw15_ExprBrackets.code, show compRes PG Try.f5.results.toList = [(.t 4)] from by kernel_rfl]; exact h)
def broadsheetlaw15_ExprSizes.n : Nat := 6
noncomputable def broadsheetlaw15_ExprSizes.c : C := (.seq (.reg [⟨(some 1), none, (.box 34 (.t 0))⟩, ⟨(some 2), none, (.mv (.c (.bool false)))⟩]) (.seq (.dreg [⟨(some 3), none, (.load (some 4) (.t 1))⟩, ⟨(some 4), none, (.call 16 [(.t 3), (.c (.int .i64 0))])⟩, ⟨(some 5), none, (.mv (.t 4))⟩, ⟨(some 6), (some (5, false)), (.load (some 4) (.t 1))⟩, ⟨(some 7), (some (5, false)), (.call 17 [(.t 6)])⟩, ⟨(some 8), (some (5, false)), (.load (some 4) (.t 1))⟩, ⟨(some 9), (some (5, false)), (.call 18 [(.t 8)])⟩, ⟨(some 10), (some (5, false)), (.bin .eql (.t 7) (.t 9))⟩, ⟨(some 11), (some (5, false)), (.mv (.t 10))⟩, ⟨(some 12), (some (11, true)), (.load (some 4) (.t 1))⟩, ⟨(some 13), (some (11, true)), (.call 19 [(.t 12)])⟩, ⟨(some 14), (some (11, true)), (.load (some 4) (.t 1))⟩] [⟨(some 15), (some (11, true)), (.call 20 [(.t 14)])⟩, ⟨(some 16), (some (11, true)), (.bin .eql (.t 13) (.t 15))⟩, ⟨(some 17), (some (5, false)), (.pick (.t 11) (.t 16) (.c (.bool false)))⟩, ⟨(some 18), none, (.pick (.t 5) (.c (.bool true)) (.t 17))⟩, ⟨(some 19), none, (.mv (.t 18))⟩, ⟨(some 20), (some (19, true)), (.call 14 [])⟩, ⟨(some 21), none, (.pick (.t 19) (.t 20) (.c (.bool false)))⟩, ⟨(some 2), none, (.mv (.t 21))⟩]) .ret))
theorem broadsheetlaw15_ExprSizes.code : comp PG [] (Try.f6.body.getD .skip) = broadsheetlaw15_ExprSizes.c := by kernel_rfl
theorem broadsheetlaw15_ExprSizes.of {args : List AV} {H : AH} {K : AV → AH → Prop} (hl : args.length = 1) (h : wpA PG broadsheetlaw15_ExprSizes.c none (endA [(.t 2)] K) (initFr args) H) : ACalls PG 6 args H K :=
  ACalls.of_code (fl := []) mixed Try.func6 (c := Try.f6.body.getD .skip) (by kernel_rfl) (by kernel_rfl) (by rw [hl]; exact of_decide_eq_true (by kernel_rfl)) (by rw [broadsheetlaw15_ExprSizes.code]; kernel_rfl)
    (by rw [broadsheetlaw15_ExprSizes.code, show compRes PG Try.f6.results.toList = [(.t 2)] from by kernel_rfl]; exact h)
def expr_Parse.n : Nat := 11
noncomputable def expr_Parse.c : C := (.seq (.reg [⟨(some 2), none, (.allc 34 [(.int .i64 0), (.int .i64 0), .nilS, .nilS])⟩, ⟨(some 3), none, (.allc 25 [(.int .i64 0), (.int .i64 0)])⟩]) (.seq (.reg [⟨(some 9), none, (.mv (.t 0))⟩, ⟨(some 10), none, (.call 7 [(.t 9)])⟩, ⟨(some 8), none, (.mv (.t 10))⟩, ⟨(some 11), none, (.extr (.t 8) 0)⟩, ⟨(some 12), none, (.extr (.t 8) 1)⟩, ⟨(some 5), none, (.allc 25 [(.int .i64 0), (.int .i64 0)])⟩, ⟨(some 4), none, (.mv (.t 11))⟩, ⟨none, none, (.store 2 (.t 5) (.t 12))⟩]) (.seq (.seq (.reg [⟨(some 13), none, (.faddr 0 (.t 5))⟩, ⟨(some 14), none, (.load none (.t 13))⟩, ⟨(some 15), none, (.bin .neq (.t 14) (.c (.int .i64 0)))⟩]) (.cond (.t 15) (.seq (.dreg [⟨(some 16), none, (.build [(.int .i64 0), (.int .i64 0), .nilS, .nilS] [])⟩, ⟨(some 17), none, (.load (some 2) (.t 5))⟩, ⟨none, none, (.store 4 (.t 2) (.t 16))⟩] [⟨none, none, (.store 2 (.t 3) (.t 17))⟩]) .ret) .skip)) (.seq (.reg [⟨(some 18), none, (.mv (.t 4))⟩, ⟨(some 19), none, (.build [.nilS, (.int .i64 0), (.int .i64 0), (.int .i64 0), (.int .i64 0)] [(0, (1, (.t 18)))])⟩, ⟨(some 20), none, (.box 55 (.t 19))⟩, ⟨(some 6), none, (.mv (.t 20))⟩]) (.seq (.reg [⟨(some 21), none, (.mv (.t 6))⟩, ⟨(some 22), none, (.call 24 [(.t 21)])⟩, ⟨(some 7), none, (.allc 34 [(.int .i64 0), (.int .i64 0), .nilS, .nilS])⟩, ⟨none, none, (.store 4 (.t 7) (.t 22))⟩]) (.seq (.seq (.reg [⟨(some 23), none, (.mv (.t 6))⟩, ⟨(some 24), none, (.call 25 [(.t 23)])⟩, ⟨(some 25), none, (.un .not (.t 24))⟩, ⟨(some 26), none, (.mv (.t 25))⟩, ⟨(some 27), (some (26, true)), (.mv (.t 6))⟩, ⟨(some 28), (some (26, true)), (.call 26 [(.t 27)])⟩, ⟨(some 29), (some (26, true)), (.field 0 none (.t 28))⟩, ⟨(some 30), (some (26, true)), (.bin .neq (.t 29) (.c (.int .i64 6)))⟩, ⟨(some 31), none, (.pick (.t 26) (.t 30) (.c (.bool false)))⟩]) (.cond (.t 31) (.reg [⟨(some 32), none, (.mv (.t 6))⟩, ⟨(some 33), none, (.call 27 [(.t 32), (.c (.int .i64 11))])⟩]) .skip)) (.seq (.seq (.reg [⟨(some 34), none, (.mv (.t 6))⟩, ⟨(some 35), none, (.call 25 [(.t 34)])⟩]) (.cond (.t 35) (.seq (.dreg [⟨(some 36), none, (.build [(.int .i64 0), (.int .i64 0), .nilS, .nilS] [])⟩, ⟨(some 37), none, (.mv (.t 6))⟩, ⟨(some 38), none, (.nilck (.t 37))⟩, ⟨(some 39), none, (.faddr 3 (.t 38))⟩, ⟨(some 40), none, (.load (some 2) (.t 39))⟩, ⟨none, none, (.store 4 (.t 2) (.t 36))⟩] [⟨none, none, (.store 2 (.t 3) (.t 40))⟩]) .ret) .skip)) (.seq (.reg [⟨(some 41), none, (.load (some 4) (.t 7))⟩, ⟨(some 42), none, (.build [(.int .i64 0), (.int .i64 0)] [])⟩, ⟨none, none, (.store 4 (.t 2) (.t 41))⟩, ⟨none, none, (.store 2 (.t 3) (.t 42))⟩]) .ret))))))))
theorem expr_Parse.code : comp PG [] (Try.f11.body.getD .skip) = expr_Parse.c := by kernel_rfl
theorem expr_Parse.of {args : List AV} {H : AH} {K : AV → AH → Prop} (hl : args.length = 1) (h : wpA PG expr_Parse.c none (endA [(.cell 2 (some 4)), (.cell 3 (some 2))] K) (initFr args) H) : ACalls PG 11 args H K :=
  ACalls.of_code (fl := []) mixed Try.func11 (c := Try.f11.body.getD .skip) (by kernel_rfl) (by kernel_rfl) (by rw [hl]; exact of_decide_eq_true (by kernel_rfl)) (by rw [expr_Parse.code]; kernel_rfl)
    (by rw [expr_Parse.code, show compRes PG Try.f11.results.toList = [(.cell 2 (some 4)), (.cell 3 (some 2))] from by kernel_rfl]; exact h)
def broadsheetref15_Parse.n : Nat := 12
noncomputable def broadsheetref15_Parse.c : C := (.seq (.reg [⟨(some 2), none, (.allc 34 [(.int .i64 0), (.int .i64 0), .nilS, .nilS])⟩, ⟨(some 3), none, (.allc 25 [(.int .i64 0), (.int .i64 0)])⟩]) (.seq (.reg [⟨(some 9), none, (.mv (.t 0))⟩, ⟨(some 10), none, (.call 8 [(.t 9)])⟩, ⟨(some 8), none, (.mv (.t 10))⟩, ⟨(some 11), none, (.extr (.t 8) 0)⟩, ⟨(some 12), none, (.extr (.t 8) 1)⟩, ⟨(some 5), none, (.allc 25 [(.int .i64 0), (.int .i64 0)])⟩, ⟨(some 4), none, (.mv (.t 11))⟩, ⟨none, none, (.store 2 (.t 5) (.t 12))⟩]) (.seq (.seq (.reg [⟨(some 13), none, (.faddr 0 (.t 5))⟩, ⟨(some 14), none, (.load none (.t 13))⟩, ⟨(some 15), none, (.bin .neq (.t 14) (.c (.int .i64 0)))⟩]) (.cond (.t 15) (.seq (.dreg [⟨(some 16), none, (.build [(.int .i64 0), (.int .i64 0), .nilS, .nilS] [])⟩, ⟨(some 17), none, (.load (some 2) (.t 5))⟩, ⟨none, none, (.store 4 (.t 2) (.t 16))⟩] [⟨none, none, (.store 2 (.t 3) (.t 17))⟩]) .ret) .skip)) (.seq (.reg [⟨(some 19), none, (.mv (.t 4))⟩, ⟨(some 20), none, (.build [(.int .i64 0), (.int .i64 0), (.int .i64 0), (.int .i64 0)] [])⟩, ⟨(some 21), none, (.call 28 [(.t 19), (.t 20), (.c (.int .i64 6))])⟩, ⟨(some 18), none, (.mv (.t 21))⟩, ⟨(some 22), none, (.extr (.t 18) 0)⟩, ⟨(some 23), none, (.extr (.t 18) 1)⟩, ⟨(some 6), none, (.allc 34 [(.int .i64 0), (.int .i64 0), .nilS, .nilS])⟩, ⟨(some 7), none, (.allc 60 [(.int .i64 0), (.int .i64 0), (.int .i64 0), (.int .i64 0)])⟩, ⟨none, none, (.store 4 (.t 6) (.t 22))⟩, ⟨none, none, (.store 4 (.t 7) (.t 23))⟩]) (.seq (.seq (.reg [⟨(some 24), none, (.mv (.t 4))⟩, ⟨(some 25), none, (.faddr 0 (.t 7))⟩, ⟨(some 26), none, (.load none (.t 25))⟩, ⟨(some 27), none, (.iaddr 4 (.t 24) (.t 26))⟩, ⟨(some 28), none, (.faddr 0 (.t 27))⟩, ⟨(some 29), none, (.load none (.t 28))⟩, ⟨(some 30), none, (.bin .neq (.t 29) (.c (.int .i64 6)))⟩]) (.cond (.t 30) (.reg [⟨(some 31), none, (.mv (.t 4))⟩, ⟨(some 32), none, (.load (some 4) (.t 7))⟩, ⟨(some 33), none, (.call 29 [(.t 31), (.t 32), (.c (.int .i64 11))])⟩, ⟨none, none, (.store 4 (.t 7) (.t 33))⟩]) .skip)) (.seq (.seq (.reg [⟨(some 34), none, (.faddr 2 (.t 7))⟩, ⟨(some 35), none, (.faddr 0 (.t 34))⟩, ⟨(some 36), none, (.load none (.t 35))⟩, ⟨(some 37), none, (.bin .neq (.t 36) (.c (.int .i64 0)))⟩]) (.cond (.t 37) (.seq (.dreg [⟨(some 38), none, (.build [(.int .i64 0), (.int .i64 0), .nilS, .nilS] [])⟩, ⟨(some 39), none, (.faddr 2 (.t 7))⟩, ⟨(some 40), none, (.load (some 2) (.t 39))⟩, ⟨none, none, (.store 4 (.t 2) (.t 38))⟩] [⟨none, none, (.store 2 (.t 3) (.t 40))⟩]) .ret) .skip)) (.seq (.dreg [⟨(some 41), none, (.load (some 4) (.t 6))⟩, ⟨(some 42), none, (.faddr 2 (.t 7))⟩, ⟨(some 43), none, (.load (some 2) (.t 42))⟩, ⟨none, none, (.store 4 (.t 2) (.t 41))⟩] [⟨none, none, (.store 2 (.t 3) (.t 43))⟩]) .ret)))))))
theorem broadsheetref15_Parse.code : comp PG [] (Try.f12.body.getD .skip) = broadsheetref15_Parse.c := by kernel_rfl
theorem broadsheetref15_Parse.of {args : List AV} {H : AH} {K : AV → AH → Prop} (hl : args.length = 1) (h : wpA PG broadsheetref15_Parse.c none (endA [(.cell 2 (some 4)), (.cell 3 (some 2))] K) (initFr args) H) : ACalls PG 12 args H K :=
  ACalls.of_code (fl := []) mixed Try.func12 (c := Try.f12.body.getD .skip) (by kernel_rfl) (by kernel_rfl) (by rw [hl]; exact of_decide_eq_true (by kernel_rfl)) (by rw [broadsheetref15_Parse.code]; kernel_rfl)
    (by rw [broadsheetref15_Parse.code, show compRes PG Try.f12.results.toList = [(.cell 2 (some 4)), (.cell 3 (some 2))] from by kernel_rfl]; exact h)
def broadsheetref15_Same.n : Nat := 13
noncomputable def broadsheetref15_Same.c : C := (.seq (.reg [⟨(some 2), none, (.box 34 (.t 0))⟩, ⟨(some 3), none, (.box 34 (.t 1))⟩, ⟨(some 4), none, (.mv (.c (.bool false)))⟩]) (.seq (.seq (.reg [⟨(some 7), none, (.faddr 0 (.t 2))⟩, ⟨(some 8), none, (.load none (.t 7))⟩, ⟨(some 9), none, (.faddr 0 (.t 3))⟩, ⟨(some 10), none, (.load none (.t 9))⟩, ⟨(some 11), none, (.bin .neq (.t 8) (.t 10))⟩, ⟨(some 12), none, (.mv (.t 11))⟩, ⟨(some 13), (some (12, false)), (.faddr 1 (.t 2))⟩, ⟨(some 14), (some (12, false)), (.load none (.t 13))⟩, ⟨(some 15), (some (12, false)), (.faddr 1 (.t 3))⟩, ⟨(some 16), (some (12, false)), (.load none (.t 15))⟩, ⟨(some 17), (some (12, false)), (.bin .neq (.t 14) (.t 16))⟩, ⟨(some 18), none, (.pick (.t 12) (.c (.bool true)) (.t 17))⟩, ⟨(some 19), none, (.mv (.t 18))⟩, ⟨(some 20), (some (19, false)), (.faddr 2 (.t 2))⟩, ⟨(some 21), (some (19, false)), (.load none (.t 20))⟩, ⟨(some 22), (some (19, false)), (.len false (.t 21))⟩, ⟨(some 23), (some (19, false)), (.faddr 2 (.t 3))⟩, ⟨(some 24), (some (19, false)), (.load none (.t 23))⟩, ⟨(some 25), (some (19, false)), (.len false (.t 24))⟩, ⟨(some 26), (some (19, false)), (.bin .neq (.t 22) (.t 25))⟩, ⟨(some 27), none, (.pick (.t 19) (.c (.bool true)) (.t 26))⟩, ⟨(some 28), none, (.mv (.t 27))⟩, ⟨(some 29), (some (28, false)), (.faddr 3 (.t 2))⟩, ⟨(some 30), (some (28, false)), (.load none (.t 29))⟩, ⟨(some 31), (some (28, false)), (.len false (.t 30))⟩, ⟨(some 32), (some (28, false)), (.faddr 3 (.t 3))⟩, ⟨(some 33), (some (28, false)), (.load none (.t 32))⟩, ⟨(some 34), (some (28, false)), (.len false (.t 33))⟩, ⟨(some 35), (some (28, false)), (.bin .neq (.t 31) (.t 34))⟩, ⟨(some 36), none, (.pick (.t 28) (.c (.bool true)) (.t 35))⟩]) (.cond (.t 36) (.seq (.reg [⟨(some 4), none, (.mv (.c (.bool false)))⟩]) .ret) .skip)) (.seq (.seq (.reg [⟨(some 5), none, (.mv (.c (.int .i64 0)))⟩]) (.block 0 (.loop (.seq (.seq (.reg [⟨(some 37), none, (.mv (.t 5))⟩, ⟨(some 38), none, (.faddr 2 (.t 2))⟩, ⟨(some 39), none, (.load none (.t 38))⟩, ⟨(some 40), none, (.len false (.t 39))⟩, ⟨(some 41), none, (.bin .lss (.t 37) (.t 40))⟩]) (.cond (.t 41) .skip (.exit 0))) (.seq (.block 1 (.seq (.dreg [⟨(some 44), none, (.faddr 2 (.t 2))⟩, ⟨(some 45), none, (.load none (.t 44))⟩, ⟨(some 46), none, (.mv (.t 5))⟩, ⟨(some 47), none, (.iaddr 4 (.t 45) (.t 46))⟩, ⟨(some 48), none, (.load (some 4) (.t 47))⟩, ⟨(some 49), none, (.faddr 2 (.t 3))⟩, ⟨(some 50), none, (.load none (.t 49))⟩, ⟨(some 51), none, (.mv (.t 5))⟩, ⟨(some 52), none, (.iaddr 4 (.t 50) (.t 51))⟩, ⟨(some 53), none, (.load (some 4) (.t 52))⟩] [⟨(some 54), none, (.aeq true [(.i .i64), .s, .b, (.i .u64)] (.t 48) (.t 53))⟩]) (.cond (.t 54) (.seq (.reg [⟨(some 4), none, (.mv (.c (.bool false)))⟩]) .ret) .skip))) (.reg [⟨(some 42), none, (.mv (.t 5))⟩, ⟨(some 43), none, (.bin .add (.t 42) (.c (.int .i64 1)))⟩, ⟨(some 5), none, (.mv (.t 43))⟩])))))) (.seq (.seq (.reg [⟨(some 6), none, (.mv (.c (.int .i64 0)))⟩]) (.block 2 (.loop (.seq (.seq (.reg [⟨(some 55), none, (.mv (.t 6))⟩, ⟨(some 56), none, (.faddr 3 (.t 2))⟩, ⟨(some 57), none, (.load none (.t 56))⟩, ⟨(some 58), none, (.len false (.t 57))⟩, ⟨(some 59), none, (.bin .lss (.t 55) (.t 58))⟩]) (.cond (.t 59) .skip (.exit 2))) (.seq (.block 3 (.seq (.dreg [⟨(some 62), none, (.faddr 3 (.t 2))⟩, ⟨(some 63), none, (.load none (.t 62))⟩, ⟨(some 64), none, (.mv (.t 6))⟩, ⟨(some 65), none, (.iaddr 4 (.t 63) (.t 64))⟩, ⟨(some 66), none, (.load (some 4) (.t 65))⟩, ⟨(some 67), none, (.faddr 3 (.t 3))⟩, ⟨(some 68), none, (.load none (.t 67))⟩, ⟨(some 69), none, (.mv (.t 6))⟩, ⟨(some 70), none, (.iaddr 4 (.t 68) (.t 69))⟩, ⟨(some 71), none, (.load (some 4) (.t 70))⟩] [⟨(some 72), none, (.call 13 [(.t 66), (.t 71)])⟩, ⟨(some 73), none, (.un .not (.t 72))⟩]) (.cond (.t 73) (.seq (.reg [⟨(some 4), none, (.mv (.c (.bool false)))⟩]) .ret) .skip))) (.reg [⟨(some 60), none, (.mv (.t 6))⟩, ⟨(some 61), none, (.bin .add (.t 60) (.c (.int .i64 1)))⟩, ⟨(some 6), none, (.mv (.t 61))⟩])))))) (.seq (.reg [⟨(some 4), none, (.mv (.c (.bool true)))⟩]) .ret)))))
theorem broadsheetref15_Same.code : comp PG [] (Try.f13.body.getD .skip) = broadsheetref15_Same.c := by kernel_rfl
theorem broadsheetref15_Same.of {args : List AV} {H : AH} {K : AV → AH → Prop} (hl : args.length = 2) (h : wpA PG broadsheetref15_Same.c none (endA [(.t 4)] K) (initFr args) H) : ACalls PG 13 args H K :=
  ACalls.of_code (fl := []) mixed Try.func13 (c := Try.f13.body.getD .skip) (by kernel_rfl) (by kernel_rfl) (by rw [hl]; exact of_decide_eq_true (by kernel_rfl)) (by rw [broadsheetref15_Same.code]; kernel_rfl)
    (by rw [broadsheetref15_Same.code, show compRes PG Try.f13.results.toList = [(.t 4)] from by kernel_rfl]; exact h)
def broadsheetlaw15_awake.n : Nat := 14
noncomputable def broadsheetlaw15_awake.c : C := (.seq (.reg [⟨(some 0), none, (.mv (.c (.bool false)))⟩]) (.seq (.reg [⟨(some 4), none, (.call 11 [(.c (.str [97, 32, 61, 32, 49, 32, 65, 78, 68, 32, 78, 79, 84, 32, 98, 32, 61, 32, 50, 32, 79, 82, 32, 99, 32, 76, 73, 75, 69, 32, 39, 120, 37, 39]))])⟩, ⟨(some 3), none, (.mv (.t 4))⟩, ⟨(some 5), none, (.extr (.t 3) 0)⟩, ⟨(some 6), none, (.extr (.t 3) 1)⟩, ⟨(some 1), none, (.allc 34 [(.int .i64 0), (.int .i64 0), .nilS, .nilS])⟩, ⟨(some 2), none, (.allc 25 [(.int .i64 0), (.int .i64 0)])⟩, ⟨none, none, (.store 4 (.t 1) (.t 5))⟩, ⟨none, none, (.store 2 (.t 2) (.t 6))⟩]) (.seq (.reg [⟨(some 7), none, (.load (some 2) (.t 2))⟩, ⟨(some 8), none, (.build [(.int .i64 0), (.int .i64 0)] [])⟩, ⟨(some 9), none, (.aeq false [(.i .i64), (.i .i64)] (.t 7) (.t 8))⟩, ⟨(some 10), none, (.mv (.t 9))⟩, ⟨(some 11), (some (10, true)), (.faddr 0 (.t 1))⟩, ⟨(some 12), (some (10, true)), (.load none (.t 11))⟩, ⟨(some 13), (some (10, true)), (.bin .eql (.t 12) (.c (.int .i64 6)))⟩, ⟨(some 14), none, (.pick (.t 10) (.t 13) (.c (.bool false)))⟩, ⟨(some 15), none, (.mv (.t 14))⟩, ⟨(some 16), (some (15, true)), (.faddr 3 (.t 1))⟩, ⟨(some 17), (some (15, true)), (.load none (.t 16))⟩, ⟨(some 18), (some (15, true)), (.len false (.t 17))⟩, ⟨(some 19), (some (15, true)), (.bin .eql (.t 18) (.c (.int .i64 2)))⟩, ⟨(some 20), none, (.pick (.t 15) (.t 19) (.c (.bool false)))⟩, ⟨(some 21), none, (.mv (.t 20))⟩, ⟨(some 22), (some (21, true)), (.faddr 3 (.t 1))⟩, ⟨(some 23), (some (21, true)), (.load none (.t 22))⟩, ⟨(some 24), (some (21, true)), (.iaddr 4 (.t 23) (.c (.int .i64 0)))⟩, ⟨(some 25), (some (21, true)), (.faddr 0 (.t 24))⟩, ⟨(some 26), (some (21, true)), (.load none (.t 25))⟩, ⟨(some 27), (some (21, true)), (.bin .eql (.t 26) (.c (.int .i64 5)))⟩, ⟨(some 28), none, (.pick (.t 21) (.t 27) (.c (.bool false)))⟩, ⟨(some 29), none, (.mv (.t 28))⟩, ⟨(some 30), (some (29, true)), (.faddr 3 (.t 1))⟩, ⟨(some 31), (some (29, true)), (.load none (.t 30))⟩, ⟨(some 32), (some (29, true)), (.iaddr 4 (.t 31) (.c (.int .i64 0)))⟩, ⟨(some 33), (some (29, true)), (.faddr 3 (.t 32))⟩, ⟨(some 34), (some (29, true)), (.load none (.t 33))⟩, ⟨(some 35), (some (29, true)), (.len false (.t 34))⟩, ⟨(some 36), (some (29, true)), (.bin .eql (.t 35) (.c (.int .i64 2)))⟩, ⟨(some 37), none, (.pick (.t 29) (.t 36) (.c (.bool false)))⟩, ⟨(some 38), none, (.mv (.t 37))⟩, ⟨(some 39), (some (38, true)), (.faddr 3 (.t 1))⟩, ⟨(some 40), (some (38, true)), (.load none (.t 39))⟩, ⟨(some 41), (some (38, true)), (.iaddr 4 (.t 40) (.c (.int .i64 0)))⟩, ⟨(some 42), (some (38, true)), (.faddr 3 (.t 41))⟩, ⟨(some 43), (some (38, true)), (.load none (.t 42))⟩, ⟨(some 44), (some (38, true)), (.iaddr 4 (.t 43) (.c (.int .i64 1)))⟩, ⟨(some 45), (some (38, true)), (.faddr 0 (.t 44))⟩, ⟨(some 46), (some (38, true)), (.load none (.t 45))⟩, ⟨(some 47), (some (38, true)), (.bin .eql (.t 46) (.c (.int .i64 4)))⟩, ⟨(some 48), none, (.pick (.t 38) (.t 47) (.c (.bool false)))⟩, ⟨(some 49), none, (.mv (.t 48))⟩, ⟨(some 50), (some (49, true)), (.faddr 3 (.t 1))⟩, ⟨(some 51), (some (49, true)), (.load none (.t 50))⟩, ⟨(some 52), (some (49, true)), (.iaddr 4 (.t 51) (.c (.int .i64 1)))⟩, ⟨(some 53), (some (49, true)), (.faddr 0 (.t 52))⟩, ⟨(some 54), (some (49, true)), (.load none (.t 53))⟩, ⟨(some 55), (some (49, true)), (.bin .eql (.t 54) (.c (.int .i64 3)))⟩, ⟨(some 56), none, (.pick (.t 49) (.t 55) (.c (.bool false)))⟩, ⟨(some 0), none, (.mv (.t 56))⟩]) .ret)))
theorem broadsheetlaw15_awake.code : comp PG [] (Try.f14.body.getD .skip) = broadsheetlaw15_awake.c := by kernel_rfl
theorem broadsheetlaw15_awake.of {args : List AV} {H : AH} {K : AV → AH → Prop} (hl : args.length = 0) (h : wpA PG broadsheetlaw15_awake.c none (endA [(.t 0)] K) (initFr args) H) : ACalls PG 14 args H K :=
  ACalls.of_code (fl := []) mixed Try.func14 (c := Try.f14.body.getD .skip) (by kernel_rfl) (by kernel_rfl) (by rw [hl]; exact of_decide_eq_true (by kernel_rfl)) (by rw [broadsheetlaw15_awake.code]; kernel_rfl)
    (by rw [broadsheetlaw15_awake.code, show compRes PG Try.f14.results.toList = [(.t 0)] from by kernel_rfl]; exact h)
def broadsheetlaw15_spans.n : Nat := 15
noncomputable def broadsheetlaw15_spans.c : C := (.seq (.reg [⟨(some 2), none, (.mv (.c (.bool false)))⟩]) (.seq (.seq (.reg [⟨(some 3), none, (.mv (.c (.int .i64 0)))⟩]) (.block 0 (.loop (.seq (.seq (.reg [⟨(some 4), none, (.mv (.t 3))⟩, ⟨(some 5), none, (.mv (.t 0))⟩, ⟨(some 6), none, (.len true (.t 5))⟩, ⟨(some 7), none, (.bin .lss (.t 4) (.t 6))⟩]) (.cond (.t 7) .skip (.exit 0))) (.seq (.block 1 (.seq (.reg [⟨(some 10), none, (.mv (.t 0))⟩, ⟨(some 11), none, (.mv (.t 3))⟩, ⟨(some 12), none, (.idx (.t 10) (.t 11))⟩, ⟨(some 13), none, (.bin .eql (.t 12) (.c (.int .u8 41)))⟩]) (.cond (.t 13) (.seq (.reg [⟨(some 2), none, (.mv (.c (.bool true)))⟩]) .ret) .skip))) (.reg [⟨(some 8), none, (.mv (.t 3))⟩, ⟨(some 9), none, (.bin .add (.t 8) (.c (.int .i64 1)))⟩, ⟨(some 3), none, (.mv (.t 9))⟩])))))) (.seq (.reg [⟨(some 2), none, (.mv (.c (.bool false)))⟩]) .ret)))
theorem broadsheetlaw15_spans.code : comp PG [] (Try.f15.body.getD .skip) = broadsheetlaw15_spans.c := by kernel_rfl
theorem broadsheetlaw15_spans.of {args : List AV} {H : AH} {K : AV → AH → Prop} (hl : args.length = 1) (h : wpA PG broadsheetlaw15_spans.c none (endA [(.t 2)] K) (initFr args) H) : ACalls PG 15 args H K :=
  ACalls.of_code (fl := []) mixed Try.func15 (c := Try.f15.body.getD .skip) (by kernel_rfl) (by kernel_rfl) (by rw [hl]; exact of_decide_eq_true (by kernel_rfl)) (by rw [broadsheetlaw15_spans.code]; kernel_rfl)
    (by rw [broadsheetlaw15_spans.code, show compRes PG Try.f15.results.toList = [(.t 2)] from by kernel_rfl]; exact h)
def broadsheetref15_Great.n : Nat := 16
noncomputable def broadsheetref15_Great.c : C := (.seq (.reg [⟨(some 2), none, (.box 34 (.t 0))⟩, ⟨(some 4), none, (.mv (.c (.bool false)))⟩]) (.seq (.seq (.reg [⟨(some 8), none, (.mv (.t 1))⟩, ⟨(some 9), none, (.bin .gtr (.t 8) (.c (.int .i64 40)))⟩, ⟨(some 10), none, (.mv (.t 9))⟩, ⟨(some 11), (some (10, false)), (.faddr 3 (.t 2))⟩, ⟨(some 12), (some (10, false)), (.load none (.t 11))⟩, ⟨(some 13), (some (10, false)), (.len false (.t 12))⟩, ⟨(some 14), (some (10, false)), (.bin .gtr (.t 13) (.c (.int .i64 100)))⟩, ⟨(some 15), none, (.pick (.t 10) (.c (.bool true)) (.t 14))⟩, ⟨(some 16), none, (.mv (.t 15))⟩, ⟨(some 17), (some (16, false)), (.faddr 2 (.t 2))⟩, ⟨(some 18), (some (16, false)), (.load none (.t 17))⟩, ⟨(some 19), (some (16, false)), (.len false (.t 18))⟩, ⟨(some 20), (some (16, false)), (.bin .gtr (.t 19) (.c (.int .i64 100)))⟩, ⟨(some 21), none, (.pick (.t 16) (.c (.bool true)) (.t 20))⟩]) (.cond (.t 21) (.seq (.reg [⟨(some 4), none, (.mv (.c (.bool true)))⟩]) .ret) .skip)) (.seq (.reg [⟨(some 5), none, (.mv (.c (.int .i64 0)))⟩]) (.seq (.seq (.reg [⟨(some 6), none, (.mv (.c (.int .i64 0)))⟩]) (.block 0 (.loop (.seq (.seq (.reg [⟨(some 22), none, (.mv (.t 6))⟩, ⟨(some 23), none, (.faddr 2 (.t 2))⟩, ⟨(some 24), none, (.load none (.t 23))⟩, ⟨(some 25), none, (.len false (.t 24))⟩, ⟨(some 26), none, (.bin .lss (.t 22) (.t 25))⟩]) (.cond (.t 26) .skip (.exit 0))) (.seq (.block 1 (.reg [⟨(some 29), none, (.mv (.t 5))⟩, ⟨(some 30), none, (.faddr 2 (.t 2))⟩, ⟨(some 31), none, (.load none (.t 30))⟩, ⟨(some 32), none, (.mv (.t 6))⟩, ⟨(some 33), none, (.iaddr 4 (.t 31) (.t 32))⟩, ⟨(some 34), none, (.faddr 1 (.t 33))⟩, ⟨(some 35), none, (.load none (.t 34))⟩, ⟨(some 36), none, (.len true (.t 35))⟩, ⟨(some 37), none, (.bin .add (.t 29) (.t 36))⟩, ⟨(some 38), none, (.mm false [(.t 37), (.c (.int .i64 100000))])⟩, ⟨(some 5), none, (.mv (.t 38))⟩])) (.reg [⟨(some 27), none, (.mv (.t 6))⟩, ⟨(some 28), none, (.bin .add (.t 27) (.c (.int .i64 1)))⟩, ⟨(some 6), none, (.mv (.t 28))⟩])))))) (.seq (.seq (.reg [⟨(some 7), none, (.mv (.c (.int .i64 0)))⟩]) (.block 2 (.loop (.seq (.seq (.reg [⟨(some 39), none, (.mv (.t 7))⟩, ⟨(some 40), none, (.faddr 3 (.t 2))⟩, ⟨(some 41), none, (.load none (.t 40))⟩, ⟨(some 42), none, (.len false (.t 41))⟩, ⟨(some 43), none, (.bin .lss (.t 39) (.t 42))⟩]) (.cond (.t 43) .skip (.exit 2))) (.seq (.block 3 (.seq (.seq (.reg [⟨(some 46), none, (.faddr 3 (.t 2))⟩, ⟨(some 47), none, (.load none (.t 46))⟩, ⟨(some 48), none, (.mv (.t 7))⟩, ⟨(some 49), none, (.iaddr 4 (.t 47) (.t 48))⟩, ⟨(some 50), none, (.load (some 4) (.t 49))⟩, ⟨(some 51), none, (.mv (.t 1))⟩, ⟨(some 52), none, (.bin .add (.t 51) (.c (.int .i64 1)))⟩, ⟨(some 53), none, (.call 16 [(.t 50), (.t 52)])⟩]) (.cond (.t 53) (.seq (.reg [⟨(some 4), none, (.mv (.c (.bool true)))⟩]) .ret) .skip)) (.reg [⟨(some 54), none, (.mv (.t 5))⟩, ⟨(some 55), none, (.faddr 3 (.t 2))⟩, ⟨(some 56), none, (.load none (.t 55))⟩, ⟨(some 57), none, (.mv (.t 7))⟩, ⟨(some 58), none, (.iaddr 4 (.t 56) (.t 57))⟩, ⟨(some 59), none, (.load (some 4) (.t 58))⟩, ⟨(some 60), none, (.call 20 [(.t 59)])⟩, ⟨(some 61), none, (.bin .add (.t 54) (.t 60))⟩, ⟨(some 62), none, (.mm false [(.t 61), (.c (.int .i64 100000))])⟩, ⟨(some 5), none, (.mv (.t 62))⟩]))) (.reg [⟨(some 44), none, (.mv (.t 7))⟩, ⟨(some 45), none, (.bin .add (.t 44) (.c (.int .i64 1)))⟩, ⟨(some 7), none, (.mv (.t 45))⟩])))))) (.seq (.reg [⟨(some 63), none, (.mv (.t 5))⟩, ⟨(some 64), none, (.bin .gtr (.t 63) (.c (.int .i64 3000)))⟩, ⟨(some 4), none, (.mv (.t 64))⟩]) .ret))))))
theorem broadsheetref15_Great.code : comp PG [] (Try.f16.body.getD .skip) = broadsheetref15_Great.c := by kernel_rfl
theorem broadsheetref15_Great.of {args : List AV} {H : AH} {K : AV → AH → Prop} (hl : args.length = 2) (h : wpA PG broadsheetref15_Great.c none (endA [(.t 4)] K) (initFr args) H) : ACalls PG 16 args H K :=
  ACalls.of_code (fl := []) mixed Try.func16 (c := Try.f16.body.getD .skip) (by kernel_rfl) (by kernel_rfl) (by rw [hl]; exact of_decide_eq_true (by kernel_rfl)) (by rw [broadsheetref15_Great.code]; kernel_rfl)
    (by rw [broadsheetref15_Great.code, show compRes PG Try.f16.results.toList = [(.t 4)] from by kernel_rfl]; exact h)
def expr_Deep.n : Nat := 17
noncomputable def expr_Deep.c : C := (.seq (.reg [⟨(some 1), none, (.box 34 (.t 0))⟩, ⟨(some 2), none, (.mv (.c (.int .i64 0)))⟩]) (.seq (.reg [⟨(some 3), none, (.mv (.c (.int .i64 0)))⟩]) (.seq (.seq (.reg [⟨(some 6), none, (.faddr 3 (.t 1))⟩, ⟨(some 7), none, (.load none (.t 6))⟩, ⟨(some 8), none, (.len false (.t 7))⟩, ⟨(some 9), none, (.mv (.c (.int .i64 0)))⟩]) (.block 0 (.loop (.seq (.reg [⟨(some 10), none, (.bin .lss (.t 9) (.t 8))⟩]) (.seq (.cond (.t 10) .skip (.exit 0)) (.seq (.block 1 (.seq (.reg [⟨(some 11), none, (.iaddr 4 (.t 7) (.t 9))⟩, ⟨(some 12), none, (.load (some 4) (.t 11))⟩, ⟨(some 5), none, (.allc 34 [(.int .i64 0), (.int .i64 0), .nilS, .nilS])⟩, ⟨none, none, (.store 4 (.t 5) (.t 12))⟩]) (.reg [⟨(some 13), none, (.mv (.t 3))⟩, ⟨(some 14), none, (.load (some 4) (.t 5))⟩, ⟨(some 15), none, (.call 17 [(.t 14)])⟩, ⟨(some 16), none, (.mm true [(.t 13), (.t 15)])⟩, ⟨(some 3), none, (.mv (.t 16))⟩]))) (.reg [⟨(some 17), none, (.bin .add (.t 9) (.c (.int .i64 1)))⟩, ⟨(some 9), none, (.mv (.t 17))⟩]))))))) (.seq (.reg [⟨(some 18), none, (.mv (.t 3))⟩, ⟨(some 19), none, (.bin .add (.t 18) (.c (.int .i64 1)))⟩, ⟨(some 2), none, (.mv (.t 19))⟩]) .ret))))
theorem expr_Deep.code : comp PG [] (Try.f17.body.getD .skip) = expr_Deep.c := by kernel_rfl
theorem expr_Deep.of {args : List AV} {H : AH} {K : AV → AH → Prop} (hl : args.length = 1) (h : wpA PG expr_Deep.c none (endA [(.t 2)] K) (initFr args) H) : ACalls PG 17 args H K :=
  ACalls.of_code (fl := []) mixed Try.func17 (c := Try.f17.body.getD .skip) (by kernel_rfl) (by kernel_rfl) (by rw [hl]; exact of_decide_eq_true (by kernel_rfl)) (by rw [expr_Deep.code]; kernel_rfl)
    (by rw [expr_Deep.code, show compRes PG Try.f17.results.toList = [(.t 2)] from by kernel_rfl]; exact h)
def broadsheetref15_Deep.n : Nat := 18
noncomputable def broadsheetref15_Deep.c : C := (.seq (.reg [⟨(some 1), none, (.box 34 (.t 0))⟩, ⟨(some 2), none, (.mv (.c (.int .i64 0)))⟩]) (.seq (.reg [⟨(some 3), none, (.mv (.c (.int .i64 1)))⟩]) (.seq (.seq (.reg [⟨(some 4), none, (.mv (.c (.int .i64 0)))⟩]) (.block 0 (.loop (.seq (.seq (.reg [⟨(some 6), none, (.mv (.t 4))⟩, ⟨(some 7), none, (.faddr 3 (.t 1))⟩, ⟨(some 8), none, (.load none (.t 7))⟩, ⟨(some 9), none, (.len false (.t 8))⟩, ⟨(some 10), none, (.bin .lss (.t 6) (.t 9))⟩]) (.cond (.t 10) .skip (.exit 0))) (.seq (.block 1 (.seq (.reg [⟨(some 13), none, (.faddr 3 (.t 1))⟩, ⟨(some 14), none, (.load none (.t 13))⟩, ⟨(some 15), none, (.mv (.t 4))⟩, ⟨(some 16), none, (.iaddr 4 (.t 14) (.t 15))⟩, ⟨(some 17), none, (.load (some 4) (.t 16))⟩, ⟨(some 18), none, (.call 18 [(.t 17)])⟩, ⟨(some 19), none, (.bin .add (.t 18) (.c (.int .i64 1)))⟩, ⟨(some 5), none, (.mv (.t 19))⟩]) (.seq (.reg [⟨(some 20), none, (.mv (.t 5))⟩, ⟨(some 21), none, (.mv (.t 3))⟩, ⟨(some 22), none, (.bin .gtr (.t 20) (.t 21))⟩]) (.cond (.t 22) (.reg [⟨(some 23), none, (.mv (.t 5))⟩, ⟨(some 3), none, (.mv (.t 23))⟩]) .skip)))) (.reg [⟨(some 11), none, (.mv (.t 4))⟩, ⟨(some 12), none, (.bin .add (.t 11) (.c (.int .i64 1)))⟩, ⟨(some 4), none, (.mv (.t 12))⟩])))))) (.seq (.reg [⟨(some 24), none, (.mv (.t 3))⟩, ⟨(some 2), none, (.mv (.t 24))⟩]) .ret))))
theorem broadsheetref15_Deep.code : comp PG [] (Try.f18.body.getD .skip) = broadsheetref15_Deep.c := by kernel_rfl
theorem broadsheetref15_Deep.of {args : List AV} {H : AH} {K : AV → AH → Prop} (hl : args.length = 1) (h : wpA PG broadsheetref15_Deep.c none (endA [(.t 2)] K) (initFr args) H) : ACalls PG 18 args H K :=
  ACalls.of_code (fl := []) mixed Try.func18 (c := Try.f18.body.getD .skip) (by kernel_rfl) (by kernel_rfl) (by rw [hl]; exact of_decide_eq_true (by kernel_rfl)) (by rw [broadsheetref15_Deep.code]; kernel_rfl)
    (by rw [broadsheetref15_Deep.code, show compRes PG Try.f18.results.toList = [(.t 2)] from by kernel_rfl]; exact h)
def expr_Size.n : Nat := 19
noncomputable def expr_Size.c : C := (.seq (.reg [⟨(some 1), none, (.box 34 (.t 0))⟩, ⟨(some 2), none, (.mv (.c (.int .i64 0)))⟩]) (.seq (.reg [⟨(some 6), none, (.faddr 2 (.t 1))⟩, ⟨(some 7), none, (.load none (.t 6))⟩, ⟨(some 8), none, (.len false (.t 7))⟩, ⟨(some 9), none, (.bin .add (.c (.int .i64 1)) (.t 8))⟩, ⟨(some 3), none, (.mv (.t 9))⟩]) (.seq (.seq (.reg [⟨(some 10), none, (.faddr 3 (.t 1))⟩, ⟨(some 11), none, (.load none (.t 10))⟩, ⟨(some 12), none, (.len false (.t 11))⟩, ⟨(some 13), none, (.mv (.c (.int .i64 0)))⟩]) (.block 0 (.loop (.seq (.reg [⟨(some 14), none, (.bin .lss (.t 13) (.t 12))⟩]) (.seq (.cond (.t 14) .skip (.exit 0)) (.seq (.block 1 (.seq (.reg [⟨(some 15), none, (.iaddr 4 (.t 11) (.t 13))⟩, ⟨(some 16), none, (.load (some 4) (.t 15))⟩, ⟨(some 5), none, (.allc 34 [(.int .i64 0), (.int .i64 0), .nilS, .nilS])⟩, ⟨none, none, (.store 4 (.t 5) (.t 16))⟩]) (.reg [⟨(some 17), none, (.mv (.t 3))⟩, ⟨(some 18), none, (.load (some 4) (.t 5))⟩, ⟨(some 19), none, (.call 19 [(.t 18)])⟩, ⟨(some 20), none, (.bin .add (.t 17) (.t 19))⟩, ⟨(some 3), none, (.mv (.t 20))⟩]))) (.reg [⟨(some 21), none, (.bin .add (.t 13) (.c (.int .i64 1)))⟩, ⟨(some 13), none, (.mv (.t 21))⟩]))))))) (.seq (.reg [⟨(some 22), none, (.mv (.t 3))⟩, ⟨(some 2), none, (.mv (.t 22))⟩]) .ret))))
theorem expr_Size.code : comp PG [] (Try.f19.body.getD .skip) = expr_Size.c := by kernel_rfl
theorem expr_Size.of {args : List AV} {H : AH} {K : AV → AH → Prop} (hl : args.length = 1) (h : wpA PG expr_Size.c none (endA [(.t 2)] K) (initFr args) H) : ACalls PG 19 args H K :=
  ACalls.of_code (fl := []) mixed Try.func19 (c := Try.f19.body.getD .skip) (by kernel_rfl) (by kernel_rfl) (by rw [hl]; exact of_decide_eq_true (by kernel_rfl)) (by rw [expr_Size.code]; kernel_rfl)
    (by rw [expr_Size.code, show compRes PG Try.f19.results.toList = [(.t 2)] from by kernel_rfl]; exact h)
def broadsheetref15_Size.n : Nat := 20
noncomputable def broadsheetref15_Size.c : C := (.seq (.reg [⟨(some 1), none, (.box 34 (.t 0))⟩, ⟨(some 2), none, (.mv (.c (.int .i64 0)))⟩]) (.seq (.reg [⟨(some 5), none, (.faddr 2 (.t 1))⟩, ⟨(some 6), none, (.load none (.t 5))⟩, ⟨(some 7), none, (.len false (.t 6))⟩, ⟨(some 8), none, (.bin .add (.c (.int .i64 1)) (.t 7))⟩, ⟨(some 3), none, (.mv (.t 8))⟩]) (.seq (.seq (.reg [⟨(some 4), none, (.mv (.c (.int .i64 0)))⟩]) (.block 0 (.loop (.seq (.seq (.reg [⟨(some 9), none, (.mv (.t 4))⟩, ⟨(some 10), none, (.faddr 3 (.t 1))⟩, ⟨(some 11), none, (.load none (.t 10))⟩, ⟨(some 12), none, (.len false (.t 11))⟩, ⟨(some 13), none, (.bin .lss (.t 9) (.t 12))⟩]) (.cond (.t 13) .skip (.exit 0))) (.seq (.block 1 (.reg [⟨(some 16), none, (.mv (.t 3))⟩, ⟨(some 17), none, (.faddr 3 (.t 1))⟩, ⟨(some 18), none, (.load none (.t 17))⟩, ⟨(some 19), none, (.mv (.t 4))⟩, ⟨(some 20), none, (.iaddr 4 (.t 18) (.t 19))⟩, ⟨(some 21), none, (.load (some 4) (.t 20))⟩, ⟨(some 22), none, (.call 20 [(.t 21)])⟩, ⟨(some 23), none, (.bin .add (.t 16) (.t 22))⟩, ⟨(some 3), none, (.mv (.t 23))⟩])) (.reg [⟨(some 14), none, (.mv (.t 4))⟩, ⟨(some 15), none, (.bin .add (.t 14) (.c (.int .i64 1)))⟩, ⟨(some 4), none, (.mv (.t 15))⟩])))))) (.seq (.reg [⟨(some 24), none, (.mv (.t 3))⟩, ⟨(some 2), none, (.mv (.t 24))⟩]) .ret))))
theorem broadsheetref15_Size.code : comp PG [] (Try.f20.body.getD .skip) = broadsheetref15_Size.c := by kernel_rfl
theorem broadsheetref15_Size.of {args : List AV} {H : AH} {K : AV → AH → Prop} (hl : args.length = 1) (h : wpA PG broadsheetref15_Size.c none (endA [(.t 2)] K) (initFr args) H) : ACalls PG 20 args H K :=
  ACalls.of_code (fl := []) mixed Try.func20 (c := Try.f20.body.getD .skip) (by kernel_rfl) (by kernel_rfl) (by rw [hl]; exact of_decide_eq_true (by kernel_rfl)) (by rw [broadsheetref15_Size.code]; kernel_rfl)
    (by rw [broadsheetref15_Size.code, show compRes PG Try.f20.results.toList = [(.t 2)] from by kernel_rfl]; exact h)
def expr_parser_or.n : Nat := 24
noncomputable def expr_parser_or.c : C := (.seq (.reg [⟨(some 2), none, (.allc 34 [(.int .i64 0), (.int .i64 0), .nilS, .nilS])⟩]) (.seq (.reg [⟨(some 3), none, (.mv (.t 0))⟩, ⟨(some 4), none, (.mv (.t 0))⟩, ⟨(some 5), none, (.mkfn 37 [(.t 4)] [])⟩, ⟨(some 6), none, (.call 36 [(.t 3), (.c (.int .i64 6)), (.c (.str [79, 82])), (.t 5)])⟩, ⟨none, none, (.store 4 (.t 2) (.t 6))⟩]) .ret))
theorem expr_parser_or.code : comp PG [] (Try.f24.body.getD .skip) = expr_parser_or.c := by kernel_rfl
theorem expr_parser_or.of {args : List AV} {H : AH} {K : AV → AH → Prop} (hl : args.length = 1) (h : wpA PG expr_parser_or.c none (endA [(.cell 2 (some 4))] K) (initFr args) H) : ACalls PG 24 args H K :=
  ACalls.of_code (fl := []) mixed Try.func24 (c := Try.f24.body.getD .skip) (by kernel_rfl) (by kernel_rfl) (by rw [hl]; exact of_decide_eq_true (by kernel_rfl)) (by rw [expr_parser_or.code]; kernel_rfl)
    (by rw [expr_parser_or.code, show compRes PG Try.f24.results.toList = [(.cell 2 (some 4))] from by kernel_rfl]; exact h)
def expr_parser_bad.n : Nat := 25
noncomputable def expr_parser_bad.c : C := (.seq (.reg [⟨(some 2), none, (.mv (.c (.bool false)))⟩]) (.seq (.reg [⟨(some 3), none, (.mv (.t 0))⟩, ⟨(some 4), none, (.nilck (.t 3))⟩, ⟨(some 5), none, (.faddr 3 (.t 4))⟩, ⟨(some 6), none, (.faddr 0 (.t 5))⟩, ⟨(some 7), none, (.load none (.t 6))⟩, ⟨(some 8), none, (.bin .neq (.t 7) (.c (.int .i64 0)))⟩, ⟨(some 2), none, (.mv (.t 8))⟩]) .ret))
theorem expr_parser_bad.code : comp PG [] (Try.f25.body.getD .skip) = expr_parser_bad.c := by kernel_rfl
theorem expr_parser_bad.of {args : List AV} {H : AH} {K : AV → AH → Prop} (hl : args.length = 1) (h : wpA PG expr_parser_bad.c none (endA [(.t 2)] K) (initFr args) H) : ACalls PG 25 args H K :=
  ACalls.of_code (fl := []) mixed Try.func25 (c := Try.f25.body.getD .skip) (by kernel_rfl) (by kernel_rfl) (by rw [hl]; exact of_decide_eq_true (by kernel_rfl)) (by rw [expr_parser_bad.code]; kernel_rfl)
    (by rw [expr_parser_bad.code, show compRes PG Try.f25.results.toList = [(.t 2)] from by kernel_rfl]; exact h)
def expr_parser_now.n : Nat := 26
noncomputable def expr_parser_now.c : C := (.seq (.reg [⟨(some 2), none, (.allc 48 [(.int .i64 0), (.str []), (.int .u64 0), (.int .i64 0)])⟩]) (.seq (.dreg [⟨(some 3), none, (.mv (.t 0))⟩, ⟨(some 4), none, (.nilck (.t 3))⟩, ⟨(some 5), none, (.faddr 0 (.t 4))⟩, ⟨(some 6), none, (.load none (.t 5))⟩, ⟨(some 7), none, (.mv (.t 0))⟩, ⟨(some 8), none, (.nilck (.t 7))⟩, ⟨(some 9), none, (.faddr 1 (.t 8))⟩, ⟨(some 10), none, (.load none (.t 9))⟩] [⟨(some 11), none, (.iaddr 4 (.t 6) (.t 10))⟩, ⟨(some 12), none, (.load (some 4) (.t 11))⟩, ⟨none, none, (.store 4 (.t 2) (.t 12))⟩]) .ret))
theorem expr_parser_now.code : comp PG [] (Try.f26.body.getD .skip) = expr_parser_now.c := by kernel_rfl
theorem expr_parser_now.of {args : List AV} {H : AH} {K : AV → AH → Prop} (hl : args.length = 1) (h : wpA PG expr_parser_now.c none (endA [(.cell 2 (some 4))] K) (initFr args) H) : ACalls PG 26 args H K :=
  ACalls.of_code (fl := []) mixed Try.func26 (c := Try.f26.body.getD .skip) (by kernel_rfl) (by kernel_rfl) (by rw [hl]; exact of_decide_eq_true (by kernel_rfl)) (by rw [expr_parser_now.code]; kernel_rfl)
    (by rw [expr_parser_now.code, show compRes PG Try.f26.results.toList = [(.cell 2 (some 4))] from by kernel_rfl]; exact h)
def expr_parser_fail.n : Nat := 27
noncomputable def expr_parser_fail.c : C := (.seq (.reg [⟨(some 4), none, (.mv (.t 0))⟩, ⟨(some 5), none, (.nilck (.t 4))⟩, ⟨(some 6), none, (.faddr 3 (.t 5))⟩, ⟨(some 7), none, (.faddr 0 (.t 6))⟩, ⟨(some 8), none, (.load none (.t 7))⟩, ⟨(some 9), none, (.bin .eql (.t 8) (.c (.int .i64 0)))⟩]) (.cond (.t 9) (.reg [⟨(some 10), none, (.mv (.t 0))⟩, ⟨(some 11), none, (.mv (.t 1))⟩, ⟨(some 12), none, (.mv (.t 0))⟩, ⟨(some 13), none, (.call 26 [(.t 12)])⟩, ⟨(some 14), none, (.field 3 none (.t 13))⟩, ⟨(some 15), none, (.build [(.int .i64 0), (.int .i64 0)] [(0, (1, (.t 11))), (1, (1, (.t 14)))])⟩, ⟨(some 16), none, (.nilck (.t 10))⟩, ⟨(some 17), none, (.faddr 3 (.t 16))⟩, ⟨none, none, (.store 2 (.t 17) (.t 15))⟩]) .skip))
theorem expr_parser_fail.code : comp PG [] (Try.f27.body.getD .skip) = expr_parser_fail.c := by kernel_rfl
theorem expr_parser_fail.of {args : List AV} {H : AH} {K : AV → AH → Prop} (hl : args.length = 2) (h : wpA PG expr_parser_fail.c none (endA [] K) (initFr args) H) : ACalls PG 27 args H K :=
  ACalls.of_code (fl := []) mixed Try.func27 (c := Try.f27.body.getD .skip) (by kernel_rfl) (by kernel_rfl) (by rw [hl]; exact of_decide_eq_true (by kernel_rfl)) (by rw [expr_parser_fail.code]; kernel_rfl)
    (by rw [expr_parser_fail.code, show compRes PG Try.f27.results.toList = [] from by kernel_rfl]; exact h)
def broadsheetref15_row.n : Nat := 28
noncomputable def broadsheetref15_row.c : C := (.seq (.reg [⟨(some 4), none, (.box 60 (.t 1))⟩, ⟨(some 6), none, (.allc 34 [(.int .i64 0), (.int .i64 0), .nilS, .nilS])⟩, ⟨(some 7), none, (.allc 60 [(.int .i64 0), (.int .i64 0), (.int .i64 0), (.int .i64 0)])⟩]) (.seq (.reg [⟨(some 8), none, (.mv (.c (.str [79, 82])))⟩]) (.seq (.seq (.reg [⟨(some 11), none, (.mv (.t 2))⟩, ⟨(some 12), none, (.bin .eql (.t 11) (.c (.int .i64 5)))⟩]) (.cond (.t 12) (.reg [⟨(some 8), none, (.mv (.c (.str [65, 78, 68])))⟩]) .skip)) (.seq (.reg [⟨(some 9), none, (.mv (.c .nilS))⟩]) (.seq (.block 0 (.loop (.block 1 (.seq (.reg [⟨(some 10), none, (.allc 34 [(.int .i64 0), (.int .i64 0), .nilS, .nilS])⟩]) (.seq (.seq (.reg [⟨(some 13), none, (.mv (.t 2))⟩, ⟨(some 14), none, (.bin .eql (.t 13) (.c (.int .i64 6)))⟩]) (.cond (.t 14) (.reg [⟨(some 16), none, (.mv (.t 0))⟩, ⟨(some 17), none, (.load (some 4) (.t 4))⟩, ⟨(some 18), none, (.call 28 [(.t 16), (.t 17), (.c (.int .i64 5))])⟩, ⟨(some 15), none, (.mv (.t 18))⟩, ⟨(some 19), none, (.extr (.t 15) 0)⟩, ⟨(some 20), none, (.extr (.t 15) 1)⟩, ⟨none, none, (.store 4 (.t 10) (.t 19))⟩, ⟨none, none, (.store 4 (.t 4) (.t 20))⟩]) (.reg [⟨(some 22), none, (.mv (.t 0))⟩, ⟨(some 23), none, (.load (some 4) (.t 4))⟩, ⟨(some 24), none, (.call 38 [(.t 22), (.t 23)])⟩, ⟨(some 21), none, (.mv (.t 24))⟩, ⟨(some 25), none, (.extr (.t 21) 0)⟩, ⟨(some 26), none, (.extr (.t 21) 1)⟩, ⟨none, none, (.store 4 (.t 10) (.t 25))⟩, ⟨none, none, (.store 4 (.t 4) (.t 26))⟩]))) (.seq (.reg [⟨(some 27), none, (.mv (.t 9))⟩, ⟨(some 28), none, (.load (some 4) (.t 10))⟩, ⟨(some 29), none, (.bslice 34 4 1 [(.int .i64 0), (.int .i64 0), .nilS, .nilS] [(0, (.t 28))])⟩, ⟨(some 30), none, (.append 34 false 4 64 (.t 27) (.t 29))⟩, ⟨(some 9), none, (.mv (.t 30))⟩]) (.seq (.seq (.reg [⟨(some 31), none, (.mv (.t 0))⟩, ⟨(some 32), none, (.load (some 4) (.t 4))⟩, ⟨(some 33), none, (.mv (.t 8))⟩, ⟨(some 34), none, (.call 39 [(.t 31), (.t 32), (.c (.int .i64 1)), (.t 33)])⟩, ⟨(some 35), none, (.un .not (.t 34))⟩]) (.cond (.t 35) (.exit 0) .skip)) (.reg [⟨(some 36), none, (.faddr 0 (.t 4))⟩, ⟨(some 37), none, (.load none (.t 36))⟩, ⟨(some 38), none, (.bin .add (.t 37) (.c (.int .i64 1)))⟩, ⟨(some 39), none, (.faddr 0 (.t 4))⟩, ⟨none, none, (.store 1 (.t 39) (.t 38))⟩])))))))) (.seq (.seq (.reg [⟨(some 40), none, (.mv (.t 9))⟩, ⟨(some 41), none, (.len false (.t 40))⟩, ⟨(some 42), none, (.bin .eql (.t 41) (.c (.int .i64 1)))⟩]) (.cond (.t 42) (.seq (.dreg [⟨(some 43), none, (.mv (.t 9))⟩, ⟨(some 44), none, (.iaddr 4 (.t 43) (.c (.int .i64 0)))⟩, ⟨(some 45), none, (.load (some 4) (.t 44))⟩, ⟨(some 46), none, (.load (some 4) (.t 4))⟩, ⟨none, none, (.store 4 (.t 6) (.t 45))⟩] [⟨none, none, (.store 4 (.t 7) (.t 46))⟩]) .ret) .skip)) (.seq (.dreg [⟨(some 47), none, (.mv (.t 2))⟩, ⟨(some 48), none, (.mv (.t 9))⟩, ⟨(some 49), none, (.build [(.int .i64 0), (.int .i64 0), .nilS, .nilS] [(0, (1, (.t 47))), (3, (1, (.t 48)))])⟩, ⟨(some 50), none, (.load (some 4) (.t 4))⟩, ⟨none, none, (.store 4 (.t 6) (.t 49))⟩] [⟨none, none, (.store 4 (.t 7) (.t 50))⟩]) .ret)))))))
theorem broadsheetref15_row.code : comp PG [] (Try.f28.body.getD .skip) = broadsheetref15_row.c := by kernel_rfl
theorem broadsheetref15_row.of {args : List AV} {H : AH} {K : AV → AH → Prop} (hl : args.length = 3) (h : wpA PG broadsheetref15_row.c none (endA [(.cell 6 (some 4)), (.cell 7 (some 4))] K) (initFr args) H) : ACalls PG 28 args H K :=
  ACalls.of_code (fl := []) mixed Try.func28 (c := Try.f28.body.getD .skip) (by kernel_rfl) (by kernel_rfl) (by rw [hl]; exact of_decide_eq_true (by kernel_rfl)) (by rw [broadsheetref15_row.code]; kernel_rfl)
    (by rw [broadsheetref15_row.code, show compRes PG Try.f28.results.toList = [(.cell 6 (some 4)), (.cell 7 (some 4))] from by kernel_rfl]; exact h)
def broadsheetref15_bad.n : Nat := 29
noncomputable def broadsheetref15_bad.c : C := (.seq (.reg [⟨(some 4), none, (.box 60 (.t 1))⟩, ⟨(some 6), none, (.allc 60 [(.int .i64 0), (.int .i64 0), (.int .i64 0), (.int .i64 0)])⟩]) (.seq (.seq (.reg [⟨(some 7), none, (.faddr 2 (.t 4))⟩, ⟨(some 8), none, (.faddr 0 (.t 7))⟩, ⟨(some 9), none, (.load none (.t 8))⟩, ⟨(some 10), none, (.bin .eql (.t 9) (.c (.int .i64 0)))⟩]) (.cond (.t 10) (.reg [⟨(some 11), none, (.mv (.t 2))⟩, ⟨(some 12), none, (.mv (.t 0))⟩, ⟨(some 13), none, (.faddr 0 (.t 4))⟩, ⟨(some 14), none, (.load none (.t 13))⟩, ⟨(some 15), none, (.iaddr 4 (.t 12) (.t 14))⟩, ⟨(some 16), none, (.faddr 3 (.t 15))⟩, ⟨(some 17), none, (.load none (.t 16))⟩, ⟨(some 18), none, (.build [(.int .i64 0), (.int .i64 0)] [(0, (1, (.t 11))), (1, (1, (.t 17)))])⟩, ⟨(some 19), none, (.faddr 2 (.t 4))⟩, ⟨none, none, (.store 2 (.t 19) (.t 18))⟩]) .skip)) (.seq (.reg [⟨(some 20), none, (.load (some 4) (.t 4))⟩, ⟨none, none, (.store 4 (.t 6) (.t 20))⟩]) .ret)))
theorem broadsheetref15_bad.code : comp PG [] (Try.f29.body.getD .skip) = broadsheetref15_bad.c := by kernel_rfl
theorem broadsheetref15_bad.of {args : List AV} {H : AH} {K : AV → AH → Prop} (hl : args.length = 3) (h : wpA PG broadsheetref15_bad.c none (endA [(.cell 6 (some 4))] K) (initFr args) H) : ACalls PG 29 args H K :=
  ACalls.of_code (fl := []) mixed Try.func29 (c := Try.f29.body.getD .skip) (by kernel_rfl) (by kernel_rfl) (by rw [hl]; exact of_decide_eq_true (by kernel_rfl)) (by rw [broadsheetref15_bad.code]; kernel_rfl)
    (by rw [broadsheetref15_bad.code, show compRes PG Try.f29.results.toList = [(.cell 6 (some 4))] from by kernel_rfl]; exact h)
def expr_parser_row.n : Nat := 36
noncomputable def expr_parser_row.c : C := (.seq (.reg [⟨(some 8), none, (.allc 34 [(.int .i64 0), (.int .i64 0), .nilS, .nilS])⟩]) (.seq (.reg [⟨(some 11), none, (.mv (.t 3))⟩, ⟨(some 12), none, (.callv (.t 11) [])⟩, ⟨(some 9), none, (.allc 34 [(.int .i64 0), (.int .i64 0), .nilS, .nilS])⟩, ⟨none, none, (.store 4 (.t 9) (.t 12))⟩]) (.seq (.reg [⟨(some 13), none, (.mv (.t 1))⟩, ⟨(some 14), none, (.load (some 4) (.t 9))⟩, ⟨(some 15), none, (.bsliceO 34 4 1 [(.int .i64 0), (.int .i64 0), .nilS, .nilS] [(0, (.t 14))])⟩, ⟨(some 16), none, (.build [(.int .i64 0), (.int .i64 0), .nilS, .nilS] [(0, (1, (.t 13))), (3, (1, (.t 15)))])⟩, ⟨(some 10), none, (.allc 34 [(.int .i64 0), (.int .i64 0), .nilS, .nilS])⟩, ⟨none, none, (.store 4 (.t 10) (.t 16))⟩]) (.seq (.block 0 (.loop (.seq (.seq (.reg [⟨(some 17), none, (.mv (.t 0))⟩, ⟨(some 18), none, (.mv (.t 2))⟩, ⟨(some 19), none, (.call 53 [(.t 17), (.c (.int .i64 1)), (.t 18)])⟩]) (.cond (.t 19) .skip (.exit 0))) (.block 1 (.dreg [⟨(some 20), none, (.faddr 3 (.t 10))⟩, ⟨(some 21), none, (.load none (.t 20))⟩, ⟨(some 22), none, (.mv (.t 3))⟩, ⟨(some 23), none, (.callv (.t 22) [])⟩, ⟨(some 24), none, (.bslice 34 4 1 [(.int .i64 0), (.int .i64 0), .nilS, .nilS] [(0, (.t 23))])⟩] [⟨(some 25), none, (.append 34 false 4 64 (.t 21) (.t 24))⟩, ⟨(some 26), none, (.faddr 3 (.t 10))⟩, ⟨none, none, (.store 1 (.t 26) (.t 25))⟩]))))) (.seq (.seq (.reg [⟨(some 27), none, (.faddr 3 (.t 10))⟩, ⟨(some 28), none, (.load none (.t 27))⟩, ⟨(some 29), none, (.len false (.t 28))⟩, ⟨(some 30), none, (.bin .eql (.t 29) (.c (.int .i64 1)))⟩]) (.cond (.t 30) (.seq (.reg [⟨(some 31), none, (.load (some 4) (.t 9))⟩, ⟨none, none, (.store 4 (.t 8) (.t 31))⟩]) .ret) .skip)) (.seq (.reg [⟨(some 32), none, (.load (some 4) (.t 10))⟩, ⟨none, none, (.store 4 (.t 8) (.t 32))⟩]) .ret))))))
theorem expr_parser_row.code : comp PG [15] (Try.f36.body.getD .skip) = expr_parser_row.c := by kernel_rfl
theorem expr_parser_row.of {args : List AV} {H : AH} {K : AV → AH → Prop} (hl : args.length = 4) (h : wpA PG expr_parser_row.c none (endA [(.cell 8 (some 4))] K) (initFr args) H) : ACalls PG 36 args H K :=
  ACalls.of_code (fl := [15]) mixed Try.func36 (c := Try.f36.body.getD .skip) (by kernel_rfl) (by kernel_rfl) (by rw [hl]; exact of_decide_eq_true (by kernel_rfl)) (by rw [expr_parser_row.code]; kernel_rfl)
    (by rw [expr_parser_row.code, show compRes PG Try.f36.results.toList = [(.cell 8 (some 4))] from by kernel_rfl]; exact h)
def expr_parser_and.n : Nat := 37
noncomputable def expr_parser_and.c : C := (.seq (.reg [⟨(some 2), none, (.allc 34 [(.int .i64 0), (.int .i64 0), .nilS, .nilS])⟩]) (.seq (.reg [⟨(some 3), none, (.mv (.t 0))⟩, ⟨(some 4), none, (.mv (.t 0))⟩, ⟨(some 5), none, (.mkfn 54 [(.t 4)] [])⟩, ⟨(some 6), none, (.call 36 [(.t 3), (.c (.int .i64 5)), (.c (.str [65, 78, 68])), (.t 5)])⟩, ⟨none, none, (.store 4 (.t 2) (.t 6))⟩]) .ret))
theorem expr_parser_and.code : comp PG [] (Try.f37.body.getD .skip) = expr_parser_and.c := by kernel_rfl
theorem expr_parser_and.of {args : List AV} {H : AH} {K : AV → AH → Prop} (hl : args.length = 1) (h : wpA PG expr_parser_and.c none (endA [(.cell 2 (some 4))] K) (initFr args) H) : ACalls PG 37 args H K :=
  ACalls.of_code (fl := []) mixed Try.func37 (c := Try.f37.body.getD .skip) (by kernel_rfl) (by kernel_rfl) (by rw [hl]; exact of_decide_eq_true (by kernel_rfl)) (by rw [expr_parser_and.code]; kernel_rfl)
    (by rw [expr_parser_and.code, show compRes PG Try.f37.results.toList = [(.cell 2 (some 4))] from by kernel_rfl]; exact h)
def broadsheetref15_not.n : Nat := 38
noncomputable def broadsheetref15_not.c : C := (.seq (.reg [⟨(some 3), none, (.box 60 (.t 1))⟩, ⟨(some 4), none, (.allc 34 [(.int .i64 0), (.int .i64 0), .nilS, .nilS])⟩, ⟨(some 5), none, (.allc 60 [(.int .i64 0), (.int .i64 0), (.int .i64 0), (.int .i64 0)])⟩]) (.seq (.reg [⟨(some 8), none, (.mv (.t 0))⟩, ⟨(some 9), none, (.load (some 4) (.t 3))⟩, ⟨(some 10), none, (.call 39 [(.t 8), (.t 9), (.c (.int .i64 1)), (.c (.str [78, 79, 84]))])⟩, ⟨(some 6), none, (.mv (.t 10))⟩]) (.seq (.seq (.reg [⟨(some 11), none, (.mv (.t 6))⟩, ⟨(some 12), none, (.un .not (.t 11))⟩, ⟨(some 13), none, (.mv (.t 12))⟩, ⟨(some 14), (some (13, true)), (.mv (.t 0))⟩, ⟨(some 15), (some (13, true)), (.load (some 4) (.t 3))⟩, ⟨(some 16), (some (13, true)), (.call 39 [(.t 14), (.t 15), (.c (.int .i64 5)), (.c (.str [40]))])⟩, ⟨(some 17), (some (13, true)), (.un .not (.t 16))⟩, ⟨(some 18), none, (.pick (.t 13) (.t 17) (.c (.bool false)))⟩]) (.cond (.t 18) (.seq (.reg [⟨(some 19), none, (.mv (.t 0))⟩, ⟨(some 20), none, (.load (some 4) (.t 3))⟩, ⟨(some 21), none, (.call 55 [(.t 19), (.t 20)])⟩, ⟨(some 22), none, (.extr (.t 21) 0)⟩, ⟨(some 23), none, (.extr (.t 21) 1)⟩, ⟨none, none, (.store 4 (.t 4) (.t 22))⟩, ⟨none, none, (.store 4 (.t 5) (.t 23))⟩]) .ret) .skip)) (.seq (.seq (.reg [⟨(some 24), none, (.faddr 1 (.t 3))⟩, ⟨(some 25), none, (.load none (.t 24))⟩, ⟨(some 26), none, (.bin .geq (.t 25) (.c (.int .i64 8)))⟩]) (.cond (.t 26) (.seq (.reg [⟨(some 27), none, (.build [(.int .i64 0), (.int .i64 0), .nilS, .nilS] [])⟩, ⟨(some 28), none, (.mv (.t 0))⟩, ⟨(some 29), none, (.load (some 4) (.t 3))⟩, ⟨(some 30), none, (.call 29 [(.t 28), (.t 29), (.c (.int .i64 9))])⟩, ⟨none, none, (.store 4 (.t 4) (.t 27))⟩, ⟨none, none, (.store 4 (.t 5) (.t 30))⟩]) .ret) .skip)) (.seq (.reg [⟨(some 31), none, (.faddr 0 (.t 3))⟩, ⟨(some 32), none, (.load none (.t 31))⟩, ⟨(some 33), none, (.bin .add (.t 32) (.c (.int .i64 1)))⟩, ⟨(some 34), none, (.faddr 0 (.t 3))⟩, ⟨none, none, (.store 1 (.t 34) (.t 33))⟩]) (.seq (.reg [⟨(some 35), none, (.faddr 1 (.t 3))⟩, ⟨(some 36), none, (.load none (.t 35))⟩, ⟨(some 37), none, (.bin .add (.t 36) (.c (.int .i64 1)))⟩, ⟨(some 38), none, (.faddr 1 (.t 3))⟩, ⟨none, none, (.store 1 (.t 38) (.t 37))⟩]) (.seq (.reg [⟨(some 7), none, (.allc 34 [(.int .i64 0), (.int .i64 0), .nilS, .nilS])⟩]) (.seq (.seq (.reg [⟨(some 39), none, (.mv (.t 6))⟩]) (.cond (.t 39) (.seq (.reg [⟨(some 41), none, (.mv (.t 0))⟩, ⟨(some 42), none, (.load (some 4) (.t 3))⟩, ⟨(some 43), none, (.call 38 [(.t 41), (.t 42)])⟩, ⟨(some 40), none, (.mv (.t 43))⟩, ⟨(some 44), none, (.extr (.t 40) 0)⟩, ⟨(some 45), none, (.extr (.t 40) 1)⟩, ⟨none, none, (.store 4 (.t 7) (.t 44))⟩, ⟨none, none, (.store 4 (.t 3) (.t 45))⟩]) (.reg [⟨(some 46), none, (.load (some 4) (.t 7))⟩, ⟨(some 47), none, (.bslice 34 4 1 [(.int .i64 0), (.int .i64 0), .nilS, .nilS] [(0, (.t 46))])⟩, ⟨(some 48), none, (.build [(.int .i64 0), (.int .i64 0), .nilS, .nilS] [(0, (1, (.c (.int .i64 4)))), (3, (1, (.t 47)))])⟩, ⟨none, none, (.store 4 (.t 7) (.t 48))⟩])) (.seq (.reg [⟨(some 50), none, (.mv (.t 0))⟩, ⟨(some 51), none, (.load (some 4) (.t 3))⟩, ⟨(some 52), none, (.call 28 [(.t 50), (.t 51), (.c (.int .i64 6))])⟩, ⟨(some 49), none, (.mv (.t 52))⟩, ⟨(some 53), none, (.extr (.t 49) 0)⟩, ⟨(some 54), none, (.extr (.t 49) 1)⟩, ⟨none, none, (.store 4 (.t 7) (.t 53))⟩, ⟨none, none, (.store 4 (.t 3) (.t 54))⟩]) (.reg [⟨(some 55), none, (.mv (.t 0))⟩, ⟨(some 56), none, (.load (some 4) (.t 3))⟩, ⟨(some 57), none, (.call 56 [(.t 55), (.t 56), (.c (.int .i64 5)), (.c (.str [41]))])⟩, ⟨none, none, (.store 4 (.t 3) (.t 57))⟩])))) (.seq (.reg [⟨(some 58), none, (.faddr 1 (.t 3))⟩, ⟨(some 59), none, (.load none (.t 58))⟩, ⟨(some 60), none, (.bin .sub (.t 59) (.c (.int .i64 1)))⟩, ⟨(some 61), none, (.faddr 1 (.t 3))⟩, ⟨none, none, (.store 1 (.t 61) (.t 60))⟩]) (.seq (.dreg [⟨(some 62), none, (.load (some 4) (.t 7))⟩, ⟨(some 63), none, (.load (some 4) (.t 3))⟩, ⟨none, none, (.store 4 (.t 4) (.t 62))⟩] [⟨none, none, (.store 4 (.t 5) (.t 63))⟩]) .ret))))))))))
theorem broadsheetref15_not.code : comp PG [] (Try.f38.body.getD .skip) = broadsheetref15_not.c := by kernel_rfl
theorem broadsheetref15_not.of {args : List AV} {H : AH} {K : AV → AH → Prop} (hl : args.length = 2) (h : wpA PG broadsheetref15_not.c none (endA [(.cell 4 (some 4)), (.cell 5 (some 4))] K) (initFr args) H) : ACalls PG 38 args H K :=
  ACalls.of_code (fl := []) mixed Try.func38 (c := Try.f38.body.getD .skip) (by kernel_rfl) (by kernel_rfl) (by rw [hl]; exact of_decide_eq_true (by kernel_rfl)) (by rw [broadsheetref15_not.code]; kernel_rfl)
    (by rw [broadsheetref15_not.code, show compRes PG Try.f38.results.toList = [(.cell 4 (some 4)), (.cell 5 (some 4))] from by kernel_rfl]; exact h)
def broadsheetref15_is.n : Nat := 39
noncomputable def broadsheetref15_is.c : C := (.seq (.reg [⟨(some 5), none, (.box 60 (.t 1))⟩, ⟨(some 8), none, (.mv (.c (.bool false)))⟩]) (.seq (.reg [⟨(some 9), none, (.faddr 2 (.t 5))⟩, ⟨(some 10), none, (.faddr 0 (.t 9))⟩, ⟨(some 11), none, (.load none (.t 10))⟩, ⟨(some 12), none, (.bin .eql (.t 11) (.c (.int .i64 0)))⟩, ⟨(some 13), none, (.mv (.t 12))⟩, ⟨(some 14), (some (13, true)), (.mv (.t 0))⟩, ⟨(some 15), (some (13, true)), (.faddr 0 (.t 5))⟩, ⟨(some 16), (some (13, true)), (.load none (.t 15))⟩, ⟨(some 17), (some (13, true)), (.iaddr 4 (.t 14) (.t 16))⟩, ⟨(some 18), (some (13, true)), (.faddr 0 (.t 17))⟩, ⟨(some 19), (some (13, true)), (.load none (.t 18))⟩, ⟨(some 20), (some (13, true)), (.mv (.t 2))⟩, ⟨(some 21), (some (13, true)), (.bin .eql (.t 19) (.t 20))⟩, ⟨(some 22), none, (.pick (.t 13) (.t 21) (.c (.bool false)))⟩, ⟨(some 23), none, (.mv (.t 22))⟩, ⟨(some 24), (some (23, true)), (.mv (.t 0))⟩, ⟨(some 25), (some (23, true)), (.faddr 0 (.t 5))⟩, ⟨(some 26), (some (23, true)), (.load none (.t 25))⟩, ⟨(some 27), (some (23, true)), (.iaddr 4 (.t 24) (.t 26))⟩, ⟨(some 28), (some (23, true)), (.faddr 1 (.t 27))⟩, ⟨(some 29), (some (23, true)), (.load none (.t 28))⟩, ⟨(some 30), (some (23, true)), (.mv (.t 3))⟩, ⟨(some 31), (some (23, true)), (.bin .eql (.t 29) (.t 30))⟩, ⟨(some 32), none, (.pick (.t 23) (.t 31) (.c (.bool false)))⟩, ⟨(some 8), none, (.mv (.t 32))⟩]) .ret))
theorem broadsheetref15_is.code : comp PG [] (Try.f39.body.getD .skip) = broadsheetref15_is.c := by kernel_rfl
theorem broadsheetref15_is.of {args : List AV} {H : AH} {K : AV → AH → Prop} (hl : args.length = 4) (h : wpA PG broadsheetref15_is.c none (endA [(.t 8)] K) (initFr args) H) : ACalls PG 39 args H K :=
  ACalls.of_code (fl := []) mixed Try.func39 (c := Try.f39.body.getD .skip) (by kernel_rfl) (by kernel_rfl) (by rw [hl]; exact of_decide_eq_true (by kernel_rfl)) (by rw [broadsheetref15_is.code]; kernel_rfl)
    (by rw [broadsheetref15_is.code, show compRes PG Try.f39.results.toList = [(.t 8)] from by kernel_rfl]; exact h)
def expr_parser_skip.n : Nat := 53
noncomputable def expr_parser_skip.c : C := (.seq (.reg [⟨(some 6), none, (.mv (.c (.bool false)))⟩]) (.seq (.seq (.reg [⟨(some 7), none, (.mv (.t 0))⟩, ⟨(some 8), none, (.call 25 [(.t 7)])⟩, ⟨(some 9), none, (.mv (.t 8))⟩, ⟨(some 10), (some (9, false)), (.mv (.t 0))⟩, ⟨(some 11), (some (9, false)), (.mv (.t 1))⟩, ⟨(some 12), (some (9, false)), (.mv (.t 2))⟩, ⟨(some 13), (some (9, false)), (.call 68 [(.t 10), (.t 11), (.t 12)])⟩, ⟨(some 14), (some (9, false)), (.un .not (.t 13))⟩, ⟨(some 15), none, (.pick (.t 9) (.c (.bool true)) (.t 14))⟩]) (.cond (.t 15) (.seq (.reg [⟨(some 6), none, (.mv (.c (.bool false)))⟩]) .ret) .skip)) (.seq (.reg [⟨(some 16), none, (.mv (.t 0))⟩, ⟨(some 17), none, (.nilck (.t 16))⟩, ⟨(some 18), none, (.faddr 1 (.t 17))⟩, ⟨(some 19), none, (.load none (.t 18))⟩, ⟨(some 20), none, (.bin .add (.t 19) (.c (.int .i64 1)))⟩, ⟨(some 21), none, (.nilck (.t 16))⟩, ⟨(some 22), none, (.faddr 1 (.t 21))⟩, ⟨none, none, (.store 1 (.t 22) (.t 20))⟩]) (.seq (.reg [⟨(some 6), none, (.mv (.c (.bool true)))⟩]) .ret))))
theorem expr_parser_skip.code : comp PG [] (Try.f53.body.getD .skip) = expr_parser_skip.c := by kernel_rfl
theorem expr_parser_skip.of {args : List AV} {H : AH} {K : AV → AH → Prop} (hl : args.length = 3) (h : wpA PG expr_parser_skip.c none (endA [(.t 6)] K) (initFr args) H) : ACalls PG 53 args H K :=
  ACalls.of_code (fl := []) mixed Try.func53 (c := Try.f53.body.getD .skip) (by kernel_rfl) (by kernel_rfl) (by rw [hl]; exact of_decide_eq_true (by kernel_rfl)) (by rw [expr_parser_skip.code]; kernel_rfl)
    (by rw [expr_parser_skip.code, show compRes PG Try.f53.results.toList = [(.t 6)] from by kernel_rfl]; exact h)
def expr_parser_not.n : Nat := 54
noncomputable def expr_parser_not.c : C := (.seq (.reg [⟨(some 1), none, (.box 53 (.t 0))⟩, ⟨(some 2), none, (.allc 34 [(.int .i64 0), (.int .i64 0), .nilS, .nilS])⟩]) (.seq (.block 0 (.seq (.reg [⟨(some 4), none, (.load none (.t 1))⟩, ⟨(some 5), none, (.call 25 [(.t 4)])⟩, ⟨(some 3), none, (.mv (.t 5))⟩]) (.cond (.t 3) (.seq (.reg [⟨(some 6), none, (.build [(.int .i64 0), (.int .i64 0), .nilS, .nilS] [])⟩, ⟨none, none, (.store 4 (.t 2) (.t 6))⟩]) .ret) (.seq (.reg [⟨(some 8), none, (.load none (.t 1))⟩, ⟨(some 9), none, (.call 68 [(.t 8), (.c (.int .i64 1)), (.c (.str [78, 79, 84]))])⟩, ⟨(some 7), none, (.mv (.t 9))⟩]) (.cond (.t 7) (.seq (.reg [⟨(some 10), none, (.load none (.t 1))⟩, ⟨(some 11), none, (.mkfn 70 [] [(.t 1)])⟩, ⟨(some 12), none, (.call 69 [(.t 10), (.t 11)])⟩, ⟨none, none, (.store 4 (.t 2) (.t 12))⟩]) .ret) (.seq (.reg [⟨(some 14), none, (.load none (.t 1))⟩, ⟨(some 15), none, (.call 68 [(.t 14), (.c (.int .i64 5)), (.c (.str [40]))])⟩, ⟨(some 13), none, (.mv (.t 15))⟩]) (.cond (.t 13) (.seq (.reg [⟨(some 16), none, (.load none (.t 1))⟩, ⟨(some 17), none, (.mkfn 71 [] [(.t 1)])⟩, ⟨(some 18), none, (.call 69 [(.t 16), (.t 17)])⟩, ⟨none, none, (.store 4 (.t 2) (.t 18))⟩]) .ret) .skip))))))) (.seq (.reg [⟨(some 19), none, (.load none (.t 1))⟩, ⟨(some 20), none, (.call 73 [(.t 19)])⟩, ⟨none, none, (.store 4 (.t 2) (.t 20))⟩]) .ret)))
theorem expr_parser_not.code : comp PG [] (Try.f54.body.getD .skip) = expr_parser_not.c := by kernel_rfl
theorem expr_parser_not.of {args : List AV} {H : AH} {K : AV → AH → Prop} (hl : args.length = 1) (h : wpA PG expr_parser_not.c none (endA [(.cell 2 (some 4))] K) (initFr args) H) : ACalls PG 54 args H K :=
  ACalls.of_code (fl := []) mixed Try.func54 (c := Try.f54.body.getD .skip) (by kernel_rfl) (by kernel_rfl) (by rw [hl]; exact of_decide_eq_true (by kernel_rfl)) (by rw [expr_parser_not.code]; kernel_rfl)
    (by rw [expr_parser_not.code, show compRes PG Try.f54.results.toList = [(.cell 2 (some 4))] from by kernel_rfl]; exact h)
def broadsheetref15_test.n : Nat := 55
noncomputable def broadsheetref15_test.c : C := (.seq (.reg [⟨(some 3), none, (.box 60 (.t 1))⟩, ⟨(some 4), none, (.allc 34 [(.int .i64 0), (.int .i64 0), .nilS, .nilS])⟩, ⟨(some 5), none, (.allc 60 [(.int .i64 0), (.int .i64 0), (.int .i64 0), (.int .i64 0)])⟩]) (.seq (.reg [⟨(some 18), none, (.mv (.t 0))⟩, ⟨(some 19), none, (.load (some 4) (.t 3))⟩, ⟨(some 20), none, (.call 74 [(.t 18), (.t 19)])⟩, ⟨(some 17), none, (.mv (.t 20))⟩, ⟨(some 21), none, (.extr (.t 17) 0)⟩, ⟨(some 22), none, (.extr (.t 17) 1)⟩, ⟨(some 6), none, (.allc 65 [(.int .i64 0), (.str []), (.bool false), (.int .u64 0)])⟩, ⟨none, none, (.store 4 (.t 6) (.t 21))⟩, ⟨none, none, (.store 4 (.t 3) (.t 22))⟩]) (.seq (.reg [⟨(some 23), none, (.bslice 9 1 7 [(.str [])] [(0, (.c (.str []))), (1, (.c (.str [61]))), (2, (.c (.str [60, 62]))), (3, (.c (.str [60]))), (4, (.c (.str [60, 61]))), (5, (.c (.str [62]))), (6, (.c (.str [62, 61])))])⟩, ⟨(some 7), none, (.mv (.t 23))⟩]) (.seq (.seq (.reg [⟨(some 8), none, (.mv (.c (.int .i64 1)))⟩]) (.block 0 (.loop (.seq (.seq (.reg [⟨(some 24), none, (.mv (.t 8))⟩, ⟨(some 25), none, (.mv (.t 7))⟩, ⟨(some 26), none, (.len false (.t 25))⟩, ⟨(some 27), none, (.bin .lss (.t 24) (.t 26))⟩]) (.cond (.t 27) .skip (.exit 0))) (.seq (.block 1 (.seq (.dreg [⟨(some 30), none, (.mv (.t 0))⟩, ⟨(some 31), none, (.load (some 4) (.t 3))⟩, ⟨(some 32), none, (.mv (.t 7))⟩, ⟨(some 33), none, (.mv (.t 8))⟩, ⟨(some 34), none, (.iaddr 1 (.t 32) (.t 33))⟩, ⟨(some 35), none, (.load none (.t 34))⟩] [⟨(some 36), none, (.call 39 [(.t 30), (.t 31), (.c (.int .i64 5)), (.t 35)])⟩]) (.cond (.t 36) (.seq (.reg [⟨(some 37), none, (.faddr 0 (.t 3))⟩, ⟨(some 38), none, (.load none (.t 37))⟩, ⟨(some 39), none, (.bin .add (.t 38) (.c (.int .i64 1)))⟩, ⟨(some 40), none, (.faddr 0 (.t 3))⟩, ⟨none, none, (.store 1 (.t 40) (.t 39))⟩]) (.seq (.reg [⟨(some 42), none, (.mv (.t 0))⟩, ⟨(some 43), none, (.load (some 4) (.t 3))⟩, ⟨(some 44), none, (.call 74 [(.t 42), (.t 43)])⟩, ⟨(some 41), none, (.mv (.t 44))⟩, ⟨(some 45), none, (.extr (.t 41) 0)⟩, ⟨(some 46), none, (.extr (.t 41) 1)⟩, ⟨(some 9), none, (.allc 65 [(.int .i64 0), (.str []), (.bool false), (.int .u64 0)])⟩, ⟨(some 10), none, (.allc 60 [(.int .i64 0), (.int .i64 0), (.int .i64 0), (.int .i64 0)])⟩, ⟨none, none, (.store 4 (.t 9) (.t 45))⟩, ⟨none, none, (.store 4 (.t 10) (.t 46))⟩]) (.seq (.dreg [⟨(some 47), none, (.mv (.t 8))⟩, ⟨(some 48), none, (.load (some 4) (.t 6))⟩, ⟨(some 49), none, (.load (some 4) (.t 9))⟩, ⟨(some 50), none, (.bslice 65 4 2 [(.int .i64 0), (.str []), (.bool false), (.int .u64 0)] [(0, (.t 48)), (1, (.t 49))])⟩, ⟨(some 51), none, (.build [(.int .i64 0), (.int .i64 0), .nilS, .nilS] [(0, (1, (.c (.int .i64 1)))), (1, (1, (.t 47))), (2, (1, (.t 50)))])⟩, ⟨(some 52), none, (.load (some 4) (.t 10))⟩, ⟨none, none, (.store 4 (.t 4) (.t 51))⟩] [⟨none, none, (.store 4 (.t 5) (.t 52))⟩]) .ret))) .skip))) (.reg [⟨(some 28), none, (.mv (.t 8))⟩, ⟨(some 29), none, (.bin .add (.t 28) (.c (.int .i64 1)))⟩, ⟨(some 8), none, (.mv (.t 29))⟩])))))) (.seq (.seq (.reg [⟨(some 53), none, (.mv (.t 0))⟩, ⟨(some 54), none, (.load (some 4) (.t 3))⟩, ⟨(some 55), none, (.call 39 [(.t 53), (.t 54), (.c (.int .i64 1)), (.c (.str [76, 73, 75, 69]))])⟩]) (.cond (.t 55) (.seq (.reg [⟨(some 56), none, (.faddr 0 (.t 3))⟩, ⟨(some 57), none, (.load none (.t 56))⟩, ⟨(some 58), none, (.bin .add (.t 57) (.c (.int .i64 1)))⟩, ⟨(some 59), none, (.faddr 0 (.t 3))⟩, ⟨none, none, (.store 1 (.t 59) (.t 58))⟩]) (.seq (.reg [⟨(some 61), none, (.mv (.t 0))⟩, ⟨(some 62), none, (.load (some 4) (.t 3))⟩, ⟨(some 63), none, (.call 74 [(.t 61), (.t 62)])⟩, ⟨(some 60), none, (.mv (.t 63))⟩, ⟨(some 64), none, (.extr (.t 60) 0)⟩, ⟨(some 65), none, (.extr (.t 60) 1)⟩, ⟨(some 11), none, (.allc 65 [(.int .i64 0), (.str []), (.bool false), (.int .u64 0)])⟩, ⟨(some 12), none, (.allc 60 [(.int .i64 0), (.int .i64 0), (.int .i64 0), (.int .i64 0)])⟩, ⟨none, none, (.store 4 (.t 11) (.t 64))⟩, ⟨none, none, (.store 4 (.t 12) (.t 65))⟩]) (.seq (.dreg [⟨(some 66), none, (.load (some 4) (.t 6))⟩, ⟨(some 67), none, (.load (some 4) (.t 11))⟩, ⟨(some 68), none, (.bslice 65 4 2 [(.int .i64 0), (.str []), (.bool false), (.int .u64 0)] [(0, (.t 66)), (1, (.t 67))])⟩, ⟨(some 69), none, (.build [(.int .i64 0), (.int .i64 0), .nilS, .nilS] [(0, (1, (.c (.int .i64 3)))), (2, (1, (.t 68)))])⟩, ⟨(some 70), none, (.load (some 4) (.t 12))⟩, ⟨none, none, (.store 4 (.t 4) (.t 69))⟩] [⟨none, none, (.store 4 (.t 5) (.t 70))⟩]) .ret))) .skip)) (.seq (.reg [⟨(some 71), none, (.mv (.t 0))⟩, ⟨(some 72), none, (.load (some 4) (.t 3))⟩, ⟨(some 73), none, (.call 39 [(.t 71), (.t 72), (.c (.int .i64 1)), (.c (.str [78, 79, 84]))])⟩, ⟨(some 13), none, (.mv (.t 73))⟩]) (.seq (.seq (.reg [⟨(some 74), none, (.mv (.t 13))⟩]) (.cond (.t 74) (.reg [⟨(some 75), none, (.faddr 0 (.t 3))⟩, ⟨(some 76), none, (.load none (.t 75))⟩, ⟨(some 77), none, (.bin .add (.t 76) (.c (.int .i64 1)))⟩, ⟨(some 78), none, (.faddr 0 (.t 3))⟩, ⟨none, none, (.store 1 (.t 78) (.t 77))⟩]) .skip)) (.seq (.reg [⟨(some 79), none, (.mv (.t 0))⟩, ⟨(some 80), none, (.load (some 4) (.t 3))⟩, ⟨(some 81), none, (.call 56 [(.t 79), (.t 80), (.c (.int .i64 1)), (.c (.str [66, 69, 84, 87, 69, 69, 78]))])⟩, ⟨none, none, (.store 4 (.t 3) (.t 81))⟩]) (.seq (.reg [⟨(some 83), none, (.mv (.t 0))⟩, ⟨(some 84), none, (.load (some 4) (.t 3))⟩, ⟨(some 85), none, (.call 74 [(.t 83), (.t 84)])⟩, ⟨(some 82), none, (.mv (.t 85))⟩, ⟨(some 86), none, (.extr (.t 82) 0)⟩, ⟨(some 87), none, (.extr (.t 82) 1)⟩, ⟨(some 14), none, (.allc 65 [(.int .i64 0), (.str []), (.bool false), (.int .u64 0)])⟩, ⟨none, none, (.store 4 (.t 14) (.t 86))⟩, ⟨none, none, (.store 4 (.t 3) (.t 87))⟩]) (.seq (.reg [⟨(some 88), none, (.mv (.t 0))⟩, ⟨(some 89), none, (.load (some 4) (.t 3))⟩, ⟨(some 90), none, (.call 56 [(.t 88), (.t 89), (.c (.int .i64 1)), (.c (.str [65, 78, 68]))])⟩, ⟨none, none, (.store 4 (.t 3) (.t 90))⟩]) (.seq (.reg [⟨(some 92), none, (.mv (.t 0))⟩, ⟨(some 93), none, (.load (some 4) (.t 3))⟩, ⟨(some 94), none, (.call 74 [(.t 92), (.t 93)])⟩, ⟨(some 91), none, (.mv (.t 94))⟩, ⟨(some 95), none, (.extr (.t 91) 0)⟩, ⟨(some 96), none, (.extr (.t 91) 1)⟩, ⟨(some 15), none, (.allc 65 [(.int .i64 0), (.str []), (.bool false), (.int .u64 0)])⟩, ⟨none, none, (.store 4 (.t 15) (.t 95))⟩, ⟨none, none, (.store 4 (.t 3) (.t 96))⟩]) (.seq (.reg [⟨(some 97), none, (.load (some 4) (.t 6))⟩, ⟨(some 98), none, (.load (some 4) (.t 14))⟩, ⟨(some 99), none, (.load (some 4) (.t 15))⟩, ⟨(some 100), none, (.bslice 65 4 3 [(.int .i64 0), (.str []), (.bool false), (.int .u64 0)] [(0, (.t 97)), (1, (.t 98)), (2, (.t 99))])⟩, ⟨(some 101), none, (.build [(.int .i64 0), (.int .i64 0), .nilS, .nilS] [(0, (1, (.c (.int .i64 2)))), (2, (1, (.t 100)))])⟩, ⟨(some 16), none, (.allc 34 [(.int .i64 0), (.int .i64 0), .nilS, .nilS])⟩, ⟨none, none, (.store 4 (.t 16) (.t 101))⟩]) (.seq (.seq (.reg [⟨(some 102), none, (.mv (.t 13))⟩]) (.cond (.t 102) (.reg [⟨(some 103), none, (.load (some 4) (.t 16))⟩, ⟨(some 104), none, (.bslice 34 4 1 [(.int .i64 0), (.int .i64 0), .nilS, .nilS] [(0, (.t 103))])⟩, ⟨(some 105), none, (.build [(.int .i64 0), (.int .i64 0), .nilS, .nilS] [(0, (1, (.c (.int .i64 4)))), (3, (1, (.t 104)))])⟩, ⟨none, none, (.store 4 (.t 16) (.t 105))⟩]) .skip)) (.seq (.dreg [⟨(some 106), none, (.load (some 4) (.t 16))⟩, ⟨(some 107), none, (.load (some 4) (.t 3))⟩, ⟨none, none, (.store 4 (.t 4) (.t 106))⟩] [⟨none, none, (.store 4 (.t 5) (.t 107))⟩]) .ret))))))))))))))
theorem broadsheetref15_test.code : comp PG [] (Try.f55.body.getD .skip) = broadsheetref15_test.c := by kernel_rfl
theorem broadsheetref15_test.of {args : List AV} {H : AH} {K : AV → AH → Prop} (hl : args.length = 2) (h : wpA PG broadsheetref15_test.c none (endA [(.cell 4 (some 4)), (.cell 5 (some 4))] K) (initFr args) H) : ACalls PG 55 args H K :=
  ACalls.of_code (fl := []) mixed Try.func55 (c := Try.f55.body.getD .skip) (by kernel_rfl) (by kernel_rfl) (by rw [hl]; exact of_decide_eq_true (by kernel_rfl)) (by rw [broadsheetref15_test.code]; kernel_rfl)
    (by rw [broadsheetref15_test.code, show compRes PG Try.f55.results.toList = [(.cell 4 (some 4)), (.cell 5 (some 4))] from by kernel_rfl]; exact h)
def broadsheetref15_must.n : Nat := 56
noncomputable def broadsheetref15_must.c : C := (.seq (.reg [⟨(some 5), none, (.box 60 (.t 1))⟩, ⟨(some 8), none, (.allc 60 [(.int .i64 0), (.int .i64 0), (.int .i64 0), (.int .i64 0)])⟩]) (.seq (.seq (.reg [⟨(some 9), none, (.mv (.t 0))⟩, ⟨(some 10), none, (.load (some 4) (.t 5))⟩, ⟨(some 11), none, (.mv (.t 2))⟩, ⟨(some 12), none, (.mv (.t 3))⟩, ⟨(some 13), none, (.call 39 [(.t 9), (.t 10), (.t 11), (.t 12)])⟩, ⟨(some 14), none, (.un .not (.t 13))⟩]) (.cond (.t 14) (.seq (.reg [⟨(some 15), none, (.mv (.t 0))⟩, ⟨(some 16), none, (.load (some 4) (.t 5))⟩, ⟨(some 17), none, (.call 29 [(.t 15), (.t 16), (.c (.int .i64 11))])⟩, ⟨none, none, (.store 4 (.t 8) (.t 17))⟩]) .ret) .skip)) (.seq (.reg [⟨(some 18), none, (.faddr 0 (.t 5))⟩, ⟨(some 19), none, (.load none (.t 18))⟩, ⟨(some 20), none, (.bin .add (.t 19) (.c (.int .i64 1)))⟩, ⟨(some 21), none, (.faddr 0 (.t 5))⟩, ⟨none, none, (.store 1 (.t 21) (.t 20))⟩]) (.seq (.reg [⟨(some 22), none, (.load (some 4) (.t 5))⟩, ⟨none, none, (.store 4 (.t 8) (.t 22))⟩]) .ret))))
theorem broadsheetref15_must.code : comp PG [] (Try.f56.body.getD .skip) = broadsheetref15_must.c := by kernel_rfl
theorem broadsheetref15_must.of {args : List AV} {H : AH} {K : AV → AH → Prop} (hl : args.length = 4) (h : wpA PG broadsheetref15_must.c none (endA [(.cell 8 (some 4))] K) (initFr args) H) : ACalls PG 56 args H K :=
  ACalls.of_code (fl := []) mixed Try.func56 (c := Try.f56.body.getD .skip) (by kernel_rfl) (by kernel_rfl) (by rw [hl]; exact of_decide_eq_true (by kernel_rfl)) (by rw [broadsheetref15_must.code]; kernel_rfl)
    (by rw [broadsheetref15_must.code, show compRes PG Try.f56.results.toList = [(.cell 8 (some 4))] from by kernel_rfl]; exact h)
def expr_parser_is.n : Nat := 68
noncomputable def expr_parser_is.c : C := (.seq (.reg [⟨(some 6), none, (.mv (.c (.bool false)))⟩]) (.seq (.reg [⟨(some 8), none, (.mv (.t 0))⟩, ⟨(some 9), none, (.call 26 [(.t 8)])⟩, ⟨(some 7), none, (.allc 48 [(.int .i64 0), (.str []), (.int .u64 0), (.int .i64 0)])⟩, ⟨none, none, (.store 4 (.t 7) (.t 9))⟩]) (.seq (.reg [⟨(some 10), none, (.faddr 0 (.t 7))⟩, ⟨(some 11), none, (.load none (.t 10))⟩, ⟨(some 12), none, (.mv (.t 1))⟩, ⟨(some 13), none, (.bin .eql (.t 11) (.t 12))⟩, ⟨(some 14), none, (.mv (.t 13))⟩, ⟨(some 15), (some (14, true)), (.faddr 1 (.t 7))⟩, ⟨(some 16), (some (14, true)), (.load none (.t 15))⟩, ⟨(some 17), (some (14, true)), (.mv (.t 2))⟩, ⟨(some 18), (some (14, true)), (.bin .eql (.t 16) (.t 17))⟩, ⟨(some 19), none, (.pick (.t 14) (.t 18) (.c (.bool false)))⟩, ⟨(some 6), none, (.mv (.t 19))⟩]) .ret)))
theorem expr_parser_is.code : comp PG [] (Try.f68.body.getD .skip) = expr_parser_is.c := by kernel_rfl
theorem expr_parser_is.of {args : List AV} {H : AH} {K : AV → AH → Prop} (hl : args.length = 3) (h : wpA PG expr_parser_is.c none (endA [(.t 6)] K) (initFr args) H) : ACalls PG 68 args H K :=
  ACalls.of_code (fl := []) mixed Try.func68 (c := Try.f68.body.getD .skip) (by kernel_rfl) (by kernel_rfl) (by rw [hl]; exact of_decide_eq_true (by kernel_rfl)) (by rw [expr_parser_is.code]; kernel_rfl)
    (by rw [expr_parser_is.code, show compRes PG Try.f68.results.toList = [(.t 6)] from by kernel_rfl]; exact h)
def expr_parser_within.n : Nat := 69
noncomputable def expr_parser_within.c : C := (.seq (.reg [⟨(some 4), none, (.allc 34 [(.int .i64 0), (.int .i64 0), .nilS, .nilS])⟩]) (.seq (.seq (.reg [⟨(some 6), none, (.mv (.t 0))⟩, ⟨(some 7), none, (.nilck (.t 6))⟩, ⟨(some 8), none, (.faddr 2 (.t 7))⟩, ⟨(some 9), none, (.load none (.t 8))⟩, ⟨(some 10), none, (.bin .geq (.t 9) (.c (.int .i64 8)))⟩]) (.cond (.t 10) (.seq (.reg [⟨(some 11), none, (.mv (.t 0))⟩, ⟨(some 12), none, (.call 27 [(.t 11), (.c (.int .i64 9))])⟩]) (.seq (.reg [⟨(some 13), none, (.build [(.int .i64 0), (.int .i64 0), .nilS, .nilS] [])⟩, ⟨none, none, (.store 4 (.t 4) (.t 13))⟩]) .ret)) .skip)) (.seq (.reg [⟨(some 14), none, (.mv (.t 0))⟩, ⟨(some 15), none, (.nilck (.t 14))⟩, ⟨(some 16), none, (.faddr 2 (.t 15))⟩, ⟨(some 17), none, (.load none (.t 16))⟩, ⟨(some 18), none, (.bin .add (.t 17) (.c (.int .i64 1)))⟩, ⟨(some 19), none, (.nilck (.t 14))⟩, ⟨(some 20), none, (.faddr 2 (.t 19))⟩, ⟨none, none, (.store 1 (.t 20) (.t 18))⟩]) (.seq (.reg [⟨(some 21), none, (.mv (.t 0))⟩, ⟨(some 22), none, (.nilck (.t 21))⟩, ⟨(some 23), none, (.faddr 1 (.t 22))⟩, ⟨(some 24), none, (.load none (.t 23))⟩, ⟨(some 25), none, (.bin .add (.t 24) (.c (.int .i64 1)))⟩, ⟨(some 26), none, (.nilck (.t 21))⟩, ⟨(some 27), none, (.faddr 1 (.t 26))⟩, ⟨none, none, (.store 1 (.t 27) (.t 25))⟩]) (.seq (.reg [⟨(some 28), none, (.mv (.t 1))⟩, ⟨(some 29), none, (.callv (.t 28) [])⟩, ⟨(some 5), none, (.allc 34 [(.int .i64 0), (.int .i64 0), .nilS, .nilS])⟩, ⟨none, none, (.store 4 (.t 5) (.t 29))⟩]) (.seq (.reg [⟨(some 30), none, (.mv (.t 0))⟩, ⟨(some 31), none, (.nilck (.t 30))⟩, ⟨(some 32), none, (.faddr 2 (.t 31))⟩, ⟨(some 33), none, (.load none (.t 32))⟩, ⟨(some 34), none, (.bin .sub (.t 33) (.c (.int .i64 1)))⟩, ⟨(some 35), none, (.nilck (.t 30))⟩, ⟨(some 36), none, (.faddr 2 (.t 35))⟩, ⟨none, none, (.store 1 (.t 36) (.t 34))⟩]) (.seq (.reg [⟨(some 37), none, (.load (some 4) (.t 5))⟩, ⟨none, none, (.store 4 (.t 4) (.t 37))⟩]) .ret)))))))
theorem expr_parser_within.code : comp PG [] (Try.f69.body.getD .skip) = expr_parser_within.c := by kernel_rfl
theorem expr_parser_within.of {args : List AV} {H : AH} {K : AV → AH → Prop} (hl : args.length = 2) (h : wpA PG expr_parser_within.c none (endA [(.cell 4 (some 4))] K) (initFr args) H) : ACalls PG 69 args H K :=
  ACalls.of_code (fl := []) mixed Try.func69 (c := Try.f69.body.getD .skip) (by kernel_rfl) (by kernel_rfl) (by rw [hl]; exact of_decide_eq_true (by kernel_rfl)) (by rw [expr_parser_within.code]; kernel_rfl)
    (by rw [expr_parser_within.code, show compRes PG Try.f69.results.toList = [(.cell 4 (some 4))] from by kernel_rfl]; exact h)
def expr_parser_not_1.n : Nat := 70
noncomputable def expr_parser_not_1.c : C := (.seq (.reg [⟨(some 1), none, (.allc 34 [(.int .i64 0), (.int .i64 0), .nilS, .nilS])⟩]) (.seq (.reg [⟨(some 2), none, (.load none (.t 0))⟩, ⟨(some 3), none, (.call 54 [(.t 2)])⟩, ⟨(some 4), none, (.bslice 34 4 1 [(.int .i64 0), (.int .i64 0), .nilS, .nilS] [(0, (.t 3))])⟩, ⟨(some 5), none, (.build [(.int .i64 0), (.int .i64 0), .nilS, .nilS] [(0, (1, (.c (.int .i64 4)))), (3, (1, (.t 4)))])⟩, ⟨none, none, (.store 4 (.t 1) (.t 5))⟩]) .ret))
theorem expr_parser_not_1.code : comp PG [] (Try.f70.body.getD .skip) = expr_parser_not_1.c := by kernel_rfl
theorem expr_parser_not_1.of {args : List AV} {H : AH} {K : AV → AH → Prop} (hl : args.length = 0) (h : wpA PG expr_parser_not_1.c none (endA [(.cell 1 (some 4))] K) (initFr args) H) : ACalls PG 70 args H K :=
  ACalls.of_code (fl := []) mixed Try.func70 (c := Try.f70.body.getD .skip) (by kernel_rfl) (by kernel_rfl) (by rw [hl]; exact of_decide_eq_true (by kernel_rfl)) (by rw [expr_parser_not_1.code]; kernel_rfl)
    (by rw [expr_parser_not_1.code, show compRes PG Try.f70.results.toList = [(.cell 1 (some 4))] from by kernel_rfl]; exact h)
theorem expr_parser_not_1.of' {args : List AV} {H : AH} {K : AV → AH → Prop} (hl : args.length ≤ 6) (h : wpA PG expr_parser_not_1.c none (endA [(.cell 1 (some 4))] K) (initFr args) H) : ACalls PG 70 args H K :=
  ACalls.of_code (fl := []) mixed Try.func70 (c := Try.f70.body.getD .skip) (by kernel_rfl) (by kernel_rfl) hl (by rw [expr_parser_not_1.code]; kernel_rfl) (by rw [expr_parser_not_1.code, show compRes PG Try.f70.results.toList = [(.cell 1 (some 4))] from by kernel_rfl]; exact h)
def expr_parser_not_2.n : Nat := 71
noncomputable def expr_parser_not_2.c : C := (.seq (.reg [⟨(some 1), none, (.allc 34 [(.int .i64 0), (.int .i64 0), .nilS, .nilS])⟩]) (.seq (.reg [⟨(some 3), none, (.load none (.t 0))⟩, ⟨(some 4), none, (.call 24 [(.t 3)])⟩, ⟨(some 2), none, (.allc 34 [(.int .i64 0), (.int .i64 0), .nilS, .nilS])⟩, ⟨none, none, (.store 4 (.t 2) (.t 4))⟩]) (.seq (.reg [⟨(some 5), none, (.load none (.t 0))⟩, ⟨(some 6), none, (.call 72 [(.t 5), (.c (.int .i64 5)), (.c (.str [41]))])⟩]) (.seq (.reg [⟨(some 7), none, (.load (some 4) (.t 2))⟩, ⟨none, none, (.store 4 (.t 1) (.t 7))⟩]) .ret))))
theorem expr_parser_not_2.code : comp PG [] (Try.f71.body.getD .skip) = expr_parser_not_2.c := by kernel_rfl
theorem expr_parser_not_2.of {args : List AV} {H : AH} {K : AV → AH → Prop} (hl : args.length = 0) (h : wpA PG expr_parser_not_2.c none (endA [(.cell 1 (some 4))] K) (initFr args) H) : ACalls PG 71 args H K :=
  ACalls.of_code (fl := []) mixed Try.func71 (c := Try.f71.body.getD .skip) (by kernel_rfl) (by kernel_rfl) (by rw [hl]; exact of_decide_eq_true (by kernel_rfl)) (by rw [expr_parser_not_2.code]; kernel_rfl)
    (by rw [expr_parser_not_2.code, show compRes PG Try.f71.results.toList = [(.cell 1 (some 4))] from by kernel_rfl]; exact h)
theorem expr_parser_not_2.of' {args : List AV} {H : AH} {K : AV → AH → Prop} (hl : args.length ≤ 8) (h : wpA PG expr_parser_not_2.c none (endA [(.cell 1 (some 4))] K) (initFr args) H) : ACalls PG 71 args H K :=
  ACalls.of_code (fl := []) mixed Try.func71 (c := Try.f71.body.getD .skip) (by kernel_rfl) (by kernel_rfl) hl (by rw [expr_parser_not_2.code]; kernel_rfl) (by rw [expr_parser_not_2.code, show compRes PG Try.f71.results.toList = [(.cell 1 (some 4))] from by kernel_rfl]; exact h)
def expr_parser_must.n : Nat := 72
noncomputable def expr_parser_must.c : C := (.seq (.reg [⟨(some 6), none, (.mv (.t 0))⟩, ⟨(some 7), none, (.mv (.t 1))⟩, ⟨(some 8), none, (.mv (.t 2))⟩, ⟨(some 9), none, (.call 53 [(.t 6), (.t 7), (.t 8)])⟩, ⟨(some 10), none, (.un .not (.t 9))⟩]) (.cond (.t 10) (.reg [⟨(some 11), none, (.mv (.t 0))⟩, ⟨(some 12), none, (.call 27 [(.t 11), (.c (.int .i64 11))])⟩]) .skip))
theorem expr_parser_must.code : comp PG [] (Try.f72.body.getD .skip) = expr_parser_must.c := by kernel_rfl
theorem expr_parser_must.of {args : List AV} {H : AH} {K : AV → AH → Prop} (hl : args.length = 3) (h : wpA PG expr_parser_must.c none (endA [] K) (initFr args) H) : ACalls PG 72 args H K :=
  ACalls.of_code (fl := []) mixed Try.func72 (c := Try.f72.body.getD .skip) (by kernel_rfl) (by kernel_rfl) (by rw [hl]; exact of_decide_eq_true (by kernel_rfl)) (by rw [expr_parser_must.code]; kernel_rfl)
    (by rw [expr_parser_must.code, show compRes PG Try.f72.results.toList = [] from by kernel_rfl]; exact h)
def expr_parser_test.n : Nat := 73
noncomputable def expr_parser_test.c : C := (.seq (.reg [⟨(some 2), none, (.allc 34 [(.int .i64 0), (.int .i64 0), .nilS, .nilS])⟩]) (.seq (.reg [⟨(some 8), none, (.mv (.t 0))⟩, ⟨(some 9), none, (.call 79 [(.t 8)])⟩, ⟨(some 3), none, (.allc 65 [(.int .i64 0), (.str []), (.bool false), (.int .u64 0)])⟩, ⟨none, none, (.store 4 (.t 3) (.t 9))⟩]) (.seq (.seq (.reg [⟨(some 10), none, (.mv (.t 0))⟩, ⟨(some 11), none, (.call 25 [(.t 10)])⟩]) (.cond (.t 11) (.seq (.reg [⟨(some 12), none, (.build [(.int .i64 0), (.int .i64 0), .nilS, .nilS] [])⟩, ⟨none, none, (.store 4 (.t 2) (.t 12))⟩]) .ret) .skip)) (.seq (.seq (.reg [⟨(some 13), none, (.mv (.t 0))⟩, ⟨(some 14), none, (.call 26 [(.t 13)])⟩, ⟨(some 15), none, (.call 80 [(.t 14)])⟩, ⟨(some 4), none, (.mv (.t 15))⟩]) (.seq (.reg [⟨(some 16), none, (.mv (.t 4))⟩, ⟨(some 17), none, (.bin .gtr (.t 16) (.c (.int .i64 0)))⟩]) (.cond (.t 17) (.seq (.reg [⟨(some 18), none, (.mv (.t 0))⟩, ⟨(some 19), none, (.nilck (.t 18))⟩, ⟨(some 20), none, (.faddr 1 (.t 19))⟩, ⟨(some 21), none, (.load none (.t 20))⟩, ⟨(some 22), none, (.bin .add (.t 21) (.c (.int .i64 1)))⟩, ⟨(some 23), none, (.nilck (.t 18))⟩, ⟨(some 24), none, (.faddr 1 (.t 23))⟩, ⟨none, none, (.store 1 (.t 24) (.t 22))⟩]) (.seq (.dreg [⟨(some 25), none, (.mv (.t 4))⟩, ⟨(some 26), none, (.load (some 4) (.t 3))⟩, ⟨(some 27), none, (.mv (.t 0))⟩, ⟨(some 28), none, (.call 79 [(.t 27)])⟩, ⟨(some 29), none, (.bslice 65 4 2 [(.int .i64 0), (.str []), (.bool false), (.int .u64 0)] [(0, (.t 26)), (1, (.t 28))])⟩] [⟨(some 30), none, (.build [(.int .i64 0), (.int .i64 0), .nilS, .nilS] [(0, (1, (.c (.int .i64 1)))), (1, (1, (.t 25))), (2, (1, (.t 29)))])⟩, ⟨none, none, (.store 4 (.t 2) (.t 30))⟩]) .ret)) .skip))) (.seq (.seq (.reg [⟨(some 31), none, (.mv (.t 0))⟩, ⟨(some 32), none, (.call 53 [(.t 31), (.c (.int .i64 1)), (.c (.str [76, 73, 75, 69]))])⟩]) (.cond (.t 32) (.seq (.dreg [⟨(some 33), none, (.load (some 4) (.t 3))⟩, ⟨(some 34), none, (.mv (.t 0))⟩, ⟨(some 35), none, (.call 79 [(.t 34)])⟩] [⟨(some 36), none, (.bslice 65 4 2 [(.int .i64 0), (.str []), (.bool false), (.int .u64 0)] [(0, (.t 33)), (1, (.t 35))])⟩, ⟨(some 37), none, (.build [(.int .i64 0), (.int .i64 0), .nilS, .nilS] [(0, (1, (.c (.int .i64 3)))), (2, (1, (.t 36)))])⟩, ⟨none, none, (.store 4 (.t 2) (.t 37))⟩]) .ret) .skip)) (.seq (.reg [⟨(some 38), none, (.mv (.t 0))⟩, ⟨(some 39), none, (.call 53 [(.t 38), (.c (.int .i64 1)), (.c (.str [78, 79, 84]))])⟩, ⟨(some 5), none, (.mv (.t 39))⟩]) (.seq (.reg [⟨(some 40), none, (.mv (.t 0))⟩, ⟨(some 41), none, (.call 72 [(.t 40), (.c (.int .i64 1)), (.c (.str [66, 69, 84, 87, 69, 69, 78]))])⟩]) (.seq (.reg [⟨(some 42), none, (.mv (.t 0))⟩, ⟨(some 43), none, (.call 79 [(.t 42)])⟩, ⟨(some 6), none, (.allc 65 [(.int .i64 0), (.str []), (.bool false), (.int .u64 0)])⟩, ⟨none, none, (.store 4 (.t 6) (.t 43))⟩]) (.seq (.reg [⟨(some 44), none, (.mv (.t 0))⟩, ⟨(some 45), none, (.call 72 [(.t 44), (.c (.int .i64 1)), (.c (.str [65, 78, 68]))])⟩]) (.seq (.dreg [⟨(some 46), none, (.load (some 4) (.t 3))⟩, ⟨(some 47), none, (.load (some 4) (.t 6))⟩, ⟨(some 48), none, (.mv (.t 0))⟩, ⟨(some 49), none, (.call 79 [(.t 48)])⟩, ⟨(some 50), none, (.bslice 65 4 3 [(.int .i64 0), (.str []), (.bool false), (.int .u64 0)] [(0, (.t 46)), (1, (.t 47)), (2, (.t 49))])⟩, ⟨(some 51), none, (.build [(.int .i64 0), (.int .i64 0), .nilS, .nilS] [(0, (1, (.c (.int .i64 2)))), (2, (1, (.t 50)))])⟩, ⟨(some 7), none, (.allc 34 [(.int .i64 0), (.int .i64 0), .nilS, .nilS])⟩] [⟨none, none, (.store 4 (.t 7) (.t 51))⟩]) (.seq (.seq (.reg [⟨(some 52), none, (.mv (.t 5))⟩]) (.cond (.t 52) (.seq (.reg [⟨(some 53), none, (.load (some 4) (.t 7))⟩, ⟨(some 54), none, (.bslice 34 4 1 [(.int .i64 0), (.int .i64 0), .nilS, .nilS] [(0, (.t 53))])⟩, ⟨(some 55), none, (.build [(.int .i64 0), (.int .i64 0), .nilS, .nilS] [(0, (1, (.c (.int .i64 4)))), (3, (1, (.t 54)))])⟩, ⟨none, none, (.store 4 (.t 2) (.t 55))⟩]) .ret) .skip)) (.seq (.reg [⟨(some 56), none, (.load (some 4) (.t 7))⟩, ⟨none, none, (.store 4 (.t 2) (.t 56))⟩]) .ret))))))))))))
theorem expr_parser_test.code : comp PG [] (Try.f73.body.getD .skip) = expr_parser_test.c := by kernel_rfl
theorem expr_parser_test.of {args : List AV} {H : AH} {K : AV → AH → Prop} (hl : args.length = 1) (h : wpA PG expr_parser_test.c none (endA [(.cell 2 (some 4))] K) (initFr args) H) : ACalls PG 73 args H K :=
  ACalls.of_code (fl := []) mixed Try.func73 (c := Try.f73.body.getD .skip) (by kernel_rfl) (by kernel_rfl) (by rw [hl]; exact of_decide_eq_true (by kernel_rfl)) (by rw [expr_parser_test.code]; kernel_rfl)
    (by rw [expr_parser_test.code, show compRes PG Try.f73.results.toList = [(.cell 2 (some 4))] from by kernel_rfl]; exact h)
def broadsheetref15_operand.n : Nat := 74
noncomputable def broadsheetref15_operand.c : C := (.seq (.reg [⟨(some 3), none, (.box 60 (.t 1))⟩, ⟨(some 4), none, (.allc 65 [(.int .i64 0), (.str []), (.bool false), (.int .u64 0)])⟩, ⟨(some 5), none, (.allc 60 [(.int .i64 0), (.int .i64 0), (.int .i64 0), (.int .i64 0)])⟩]) (.seq (.seq (.reg [⟨(some 9), none, (.faddr 2 (.t 3))⟩, ⟨(some 10), none, (.faddr 0 (.t 9))⟩, ⟨(some 11), none, (.load none (.t 10))⟩, ⟨(some 12), none, (.bin .neq (.t 11) (.c (.int .i64 0)))⟩]) (.cond (.t 12) (.seq (.dreg [⟨(some 13), none, (.build [(.int .i64 0), (.str []), (.bool false), (.int .u64 0)] [])⟩, ⟨(some 14), none, (.load (some 4) (.t 3))⟩, ⟨none, none, (.store 4 (.t 4) (.t 13))⟩] [⟨none, none, (.store 4 (.t 5) (.t 14))⟩]) .ret) .skip)) (.seq (.seq (.reg [⟨(some 15), none, (.mv (.t 0))⟩, ⟨(some 16), none, (.load (some 4) (.t 3))⟩, ⟨(some 17), none, (.call 39 [(.t 15), (.t 16), (.c (.int .i64 5)), (.c (.str [45]))])⟩]) (.cond (.t 17) (.seq (.reg [⟨(some 18), none, (.faddr 0 (.t 3))⟩, ⟨(some 19), none, (.load none (.t 18))⟩, ⟨(some 20), none, (.bin .add (.t 19) (.c (.int .i64 1)))⟩, ⟨(some 21), none, (.faddr 0 (.t 3))⟩, ⟨none, none, (.store 1 (.t 21) (.t 20))⟩]) (.seq (.seq (.reg [⟨(some 22), none, (.mv (.t 0))⟩, ⟨(some 23), none, (.faddr 0 (.t 3))⟩, ⟨(some 24), none, (.load none (.t 23))⟩, ⟨(some 25), none, (.iaddr 4 (.t 22) (.t 24))⟩, ⟨(some 26), none, (.faddr 0 (.t 25))⟩, ⟨(some 27), none, (.load none (.t 26))⟩, ⟨(some 28), none, (.bin .neq (.t 27) (.c (.int .i64 2)))⟩]) (.cond (.t 28) (.seq (.reg [⟨(some 29), none, (.build [(.int .i64 0), (.str []), (.bool false), (.int .u64 0)] [])⟩, ⟨(some 30), none, (.mv (.t 0))⟩, ⟨(some 31), none, (.load (some 4) (.t 3))⟩, ⟨(some 32), none, (.call 29 [(.t 30), (.t 31), (.c (.int .i64 11))])⟩, ⟨none, none, (.store 4 (.t 4) (.t 29))⟩, ⟨none, none, (.store 4 (.t 5) (.t 32))⟩]) .ret) .skip)) (.seq (.dreg [⟨(some 33), none, (.mv (.t 0))⟩, ⟨(some 34), none, (.faddr 0 (.t 3))⟩, ⟨(some 35), none, (.load none (.t 34))⟩, ⟨(some 36), none, (.iaddr 4 (.t 33) (.t 35))⟩, ⟨(some 37), none, (.faddr 2 (.t 36))⟩, ⟨(some 38), none, (.load none (.t 37))⟩, ⟨(some 39), none, (.build [(.int .i64 0), (.str []), (.bool false), (.int .u64 0)] [(0, (1, (.c (.int .i64 2)))), (2, (1, (.c (.bool true)))), (3, (1, (.t 38)))])⟩, ⟨(some 40), none, (.faddr 0 (.t 3))⟩, ⟨(some 41), none, (.load none (.t 40))⟩, ⟨(some 42), none, (.bin .add (.t 41) (.c (.int .i64 1)))⟩, ⟨(some 43), none, (.faddr 1 (.t 3))⟩, ⟨(some 44), none, (.load none (.t 43))⟩, ⟨(some 45), none, (.faddr 2 (.t 3))⟩, ⟨(some 46), none, (.load (some 2) (.t 45))⟩, ⟨(some 47), none, (.build [(.int .i64 0), (.int .i64 0), (.int .i64 0), (.int .i64 0)] [(0, (1, (.t 42))), (1, (1, (.t 44))), (2, (2, (.t 46)))])⟩, ⟨none, none, (.store 4 (.t 4) (.t 39))⟩] [⟨none, none, (.store 4 (.t 5) (.t 47))⟩]) .ret))) .skip)) (.seq (.reg [⟨(some 48), none, (.mv (.t 0))⟩, ⟨(some 49), none, (.faddr 0 (.t 3))⟩, ⟨(some 50), none, (.load none (.t 49))⟩, ⟨(some 51), none, (.iaddr 4 (.t 48) (.t 50))⟩, ⟨(some 52), none, (.load (some 4) (.t 51))⟩, ⟨(some 6), none, (.allc 48 [(.int .i64 0), (.str []), (.int .u64 0), (.int .i64 0)])⟩, ⟨none, none, (.store 4 (.t 6) (.t 52))⟩]) (.seq (.reg [⟨(some 53), none, (.faddr 0 (.t 3))⟩, ⟨(some 54), none, (.load none (.t 53))⟩, ⟨(some 55), none, (.bin .add (.t 54) (.c (.int .i64 1)))⟩, ⟨(some 56), none, (.faddr 1 (.t 3))⟩, ⟨(some 57), none, (.load none (.t 56))⟩, ⟨(some 58), none, (.faddr 2 (.t 3))⟩, ⟨(some 59), none, (.load (some 2) (.t 58))⟩, ⟨(some 60), none, (.build [(.int .i64 0), (.int .i64 0), (.int .i64 0), (.int .i64 0)] [(0, (1, (.t 55))), (1, (1, (.t 57))), (2, (2, (.t 59)))])⟩, ⟨(some 7), none, (.allc 60 [(.int .i64 0), (.int .i64 0), (.int .i64 0), (.int .i64 0)])⟩, ⟨none, none, (.store 4 (.t 7) (.t 60))⟩]) (.seq (.seq (.reg [⟨(some 61), none, (.faddr 0 (.t 6))⟩, ⟨(some 62), none, (.load none (.t 61))⟩]) (.block 0 (.seq (.reg [⟨(some 64), none, (.bin .eql (.t 62) (.c (.int .i64 2)))⟩, ⟨(some 63), none, (.mv (.t 64))⟩]) (.cond (.t 63) (.seq (.dreg [⟨(some 65), none, (.faddr 2 (.t 6))⟩, ⟨(some 66), none, (.load none (.t 65))⟩, ⟨(some 67), none, (.build [(.int .i64 0), (.str []), (.bool false), (.int .u64 0)] [(0, (1, (.c (.int .i64 2)))), (3, (1, (.t 66)))])⟩, ⟨(some 68), none, (.load (some 4) (.t 7))⟩, ⟨none, none, (.store 4 (.t 4) (.t 67))⟩] [⟨none, none, (.store 4 (.t 5) (.t 68))⟩]) .ret) (.seq (.reg [⟨(some 70), none, (.bin .eql (.t 62) (.c (.int .i64 3)))⟩, ⟨(some 69), none, (.mv (.t 70))⟩]) (.cond (.t 69) (.seq (.dreg [⟨(some 71), none, (.faddr 1 (.t 6))⟩, ⟨(some 72), none, (.load none (.t 71))⟩, ⟨(some 73), none, (.build [(.int .i64 0), (.str []), (.bool false), (.int .u64 0)] [(0, (1, (.c (.int .i64 3)))), (1, (1, (.t 72)))])⟩, ⟨(some 74), none, (.load (some 4) (.t 7))⟩, ⟨none, none, (.store 4 (.t 4) (.t 73))⟩] [⟨none, none, (.store 4 (.t 5) (.t 74))⟩]) .ret) (.seq (.reg [⟨(some 76), none, (.bin .eql (.t 62) (.c (.int .i64 4)))⟩, ⟨(some 75), none, (.mv (.t 76))⟩]) (.cond (.t 75) (.seq (.dreg [⟨(some 77), none, (.faddr 2 (.t 6))⟩, ⟨(some 78), none, (.load none (.t 77))⟩, ⟨(some 79), none, (.build [(.int .i64 0), (.str []), (.bool false), (.int .u64 0)] [(0, (1, (.c (.int .i64 5)))), (3, (1, (.t 78)))])⟩, ⟨(some 80), none, (.load (some 4) (.t 7))⟩, ⟨none, none, (.store 4 (.t 4) (.t 79))⟩] [⟨none, none, (.store 4 (.t 5) (.t 80))⟩]) .ret) .skip)))))))) (.seq (.seq (.reg [⟨(some 81), none, (.faddr 0 (.t 6))⟩, ⟨(some 82), none, (.load none (.t 81))⟩, ⟨(some 83), none, (.bin .eql (.t 82) (.c (.int .i64 1)))⟩, ⟨(some 84), none, (.mv (.t 83))⟩, ⟨(some 85), (some (84, true)), (.faddr 1 (.t 6))⟩, ⟨(some 86), (some (84, true)), (.load none (.t 85))⟩, ⟨(some 87), (some (84, true)), (.bin .eql (.t 86) (.c (.str [84, 82, 85, 69])))⟩, ⟨(some 88), none, (.pick (.t 84) (.t 87) (.c (.bool false)))⟩]) (.cond (.t 88) (.seq (.dreg [⟨(some 89), none, (.build [(.int .i64 0), (.str []), (.bool false), (.int .u64 0)] [(0, (1, (.c (.int .i64 4)))), (3, (1, (.c (.int .u64 1))))])⟩, ⟨(some 90), none, (.load (some 4) (.t 7))⟩, ⟨none, none, (.store 4 (.t 4) (.t 89))⟩] [⟨none, none, (.store 4 (.t 5) (.t 90))⟩]) .ret) .skip)) (.seq (.seq (.reg [⟨(some 91), none, (.faddr 0 (.t 6))⟩, ⟨(some 92), none, (.load none (.t 91))⟩, ⟨(some 93), none, (.bin .eql (.t 92) (.c (.int .i64 1)))⟩, ⟨(some 94), none, (.mv (.t 93))⟩, ⟨(some 95), (some (94, true)), (.faddr 1 (.t 6))⟩, ⟨(some 96), (some (94, true)), (.load none (.t 95))⟩, ⟨(some 97), (some (94, true)), (.bin .eql (.t 96) (.c (.str [70, 65, 76, 83, 69])))⟩, ⟨(some 98), none, (.pick (.t 94) (.t 97) (.c (.bool false)))⟩]) (.cond (.t 98) (.seq (.dreg [⟨(some 99), none, (.build [(.int .i64 0), (.str []), (.bool false), (.int .u64 0)] [(0, (1, (.c (.int .i64 4))))])⟩, ⟨(some 100), none, (.load (some 4) (.t 7))⟩, ⟨none, none, (.store 4 (.t 4) (.t 99))⟩] [⟨none, none, (.store 4 (.t 5) (.t 100))⟩]) .ret) .skip)) (.seq (.reg [⟨(some 102), none, (.mv (.t 0))⟩, ⟨(some 103), none, (.load (some 4) (.t 3))⟩, ⟨(some 104), none, (.call 81 [(.t 102), (.t 103)])⟩, ⟨(some 101), none, (.mv (.t 104))⟩, ⟨(some 105), none, (.extr (.t 101) 0)⟩, ⟨(some 106), none, (.extr (.t 101) 1)⟩, ⟨(some 8), none, (.mv (.t 105))⟩, ⟨none, none, (.store 4 (.t 3) (.t 106))⟩]) (.seq (.dreg [⟨(some 107), none, (.mv (.t 8))⟩, ⟨(some 108), none, (.build [(.int .i64 0), (.str []), (.bool false), (.int .u64 0)] [(0, (1, (.c (.int .i64 1)))), (1, (1, (.t 107)))])⟩, ⟨(some 109), none, (.load (some 4) (.t 3))⟩, ⟨none, none, (.store 4 (.t 4) (.t 108))⟩] [⟨none, none, (.store 4 (.t 5) (.t 109))⟩]) .ret))))))))))
theorem broadsheetref15_operand.code : comp PG [] (Try.f74.body.getD .skip) = broadsheetref15_operand.c := by kernel_rfl
theorem broadsheetref15_operand.of {args : List AV} {H : AH} {K : AV → AH → Prop} (hl : args.length = 2) (h : wpA PG broadsheetref15_operand.c none (endA [(.cell 4 (some 4)), (.cell 5 (some 4))] K) (initFr args) H) : ACalls PG 74 args H K :=
  ACalls.of_code (fl := []) mixed Try.func74 (c := Try.f74.body.getD .skip) (by kernel_rfl) (by kernel_rfl) (by rw [hl]; exact of_decide_eq_true (by kernel_rfl)) (by rw [broadsheetref15_operand.code]; kernel_rfl)
    (by rw [broadsheetref15_operand.code, show compRes PG Try.f74.results.toList = [(.cell 4 (some 4)), (.cell 5 (some 4))] from by kernel_rfl]; exact h)
def expr_parser_operand.n : Nat := 79
noncomputable def expr_parser_operand.c : C := (.seq (.reg [⟨(some 2), none, (.allc 65 [(.int .i64 0), (.str []), (.bool false), (.int .u64 0)])⟩]) (.seq (.seq (.reg [⟨(some 5), none, (.mv (.t 0))⟩, ⟨(some 6), none, (.call 25 [(.t 5)])⟩]) (.cond (.t 6) (.seq (.reg [⟨(some 7), none, (.build [(.int .i64 0), (.str []), (.bool false), (.int .u64 0)] [])⟩, ⟨none, none, (.store 4 (.t 2) (.t 7))⟩]) .ret) .skip)) (.seq (.reg [⟨(some 8), none, (.mv (.t 0))⟩, ⟨(some 9), none, (.call 53 [(.t 8), (.c (.int .i64 5)), (.c (.str [45]))])⟩, ⟨(some 3), none, (.mv (.t 9))⟩]) (.seq (.reg [⟨(some 10), none, (.mv (.t 0))⟩, ⟨(some 11), none, (.call 26 [(.t 10)])⟩, ⟨(some 4), none, (.allc 48 [(.int .i64 0), (.str []), (.int .u64 0), (.int .i64 0)])⟩, ⟨none, none, (.store 4 (.t 4) (.t 11))⟩]) (.seq (.block 0 (.seq (.reg [⟨(some 13), none, (.faddr 0 (.t 4))⟩, ⟨(some 14), none, (.load none (.t 13))⟩, ⟨(some 15), none, (.bin .eql (.t 14) (.c (.int .i64 2)))⟩, ⟨(some 12), none, (.mv (.t 15))⟩]) (.cond (.t 12) (.seq (.reg [⟨(some 16), none, (.mv (.t 0))⟩, ⟨(some 17), none, (.nilck (.t 16))⟩, ⟨(some 18), none, (.faddr 1 (.t 17))⟩, ⟨(some 19), none, (.load none (.t 18))⟩, ⟨(some 20), none, (.bin .add (.t 19) (.c (.int .i64 1)))⟩, ⟨(some 21), none, (.nilck (.t 16))⟩, ⟨(some 22), none, (.faddr 1 (.t 21))⟩, ⟨none, none, (.store 1 (.t 22) (.t 20))⟩]) (.seq (.reg [⟨(some 23), none, (.mv (.t 3))⟩, ⟨(some 24), none, (.faddr 2 (.t 4))⟩, ⟨(some 25), none, (.load none (.t 24))⟩, ⟨(some 26), none, (.build [(.int .i64 0), (.str []), (.bool false), (.int .u64 0)] [(0, (1, (.c (.int .i64 2)))), (2, (1, (.t 23))), (3, (1, (.t 25)))])⟩, ⟨none, none, (.store 4 (.t 2) (.t 26))⟩]) .ret)) (.seq (.reg [⟨(some 28), none, (.mv (.t 3))⟩, ⟨(some 27), none, (.mv (.t 28))⟩]) (.cond (.t 27) (.seq (.reg [⟨(some 29), none, (.mv (.t 0))⟩, ⟨(some 30), none, (.call 27 [(.t 29), (.c (.int .i64 11))])⟩]) (.seq (.reg [⟨(some 31), none, (.build [(.int .i64 0), (.str []), (.bool false), (.int .u64 0)] [])⟩, ⟨none, none, (.store 4 (.t 2) (.t 31))⟩]) .ret)) (.seq (.reg [⟨(some 33), none, (.faddr 0 (.t 4))⟩, ⟨(some 34), none, (.load none (.t 33))⟩, ⟨(some 35), none, (.bin .eql (.t 34) (.c (.int .i64 3)))⟩, ⟨(some 32), none, (.mv (.t 35))⟩]) (.cond (.t 32) (.seq (.reg [⟨(some 36), none, (.mv (.t 0))⟩, ⟨(some 37), none, (.nilck (.t 36))⟩, ⟨(some 38), none, (.faddr 1 (.t 37))⟩, ⟨(some 39), none, (.load none (.t 38))⟩, ⟨(some 40), none, (.bin .add (.t 39) (.c (.int .i64 1)))⟩, ⟨(some 41), none, (.nilck (.t 36))⟩, ⟨(some 42), none, (.faddr 1 (.t 41))⟩, ⟨none, none, (.store 1 (.t 42) (.t 40))⟩]) (.seq (.reg [⟨(some 43), none, (.faddr 1 (.t 4))⟩, ⟨(some 44), none, (.load none (.t 43))⟩, ⟨(some 45), none, (.build [(.int .i64 0), (.str []), (.bool false), (.int .u64 0)] [(0, (1, (.c (.int .i64 3)))), (1, (1, (.t 44)))])⟩, ⟨none, none, (.store 4 (.t 2) (.t 45))⟩]) .ret)) (.seq (.reg [⟨(some 47), none, (.faddr 0 (.t 4))⟩, ⟨(some 48), none, (.load none (.t 47))⟩, ⟨(some 49), none, (.bin .eql (.t 48) (.c (.int .i64 4)))⟩, ⟨(some 46), none, (.mv (.t 49))⟩]) (.cond (.t 46) (.seq (.reg [⟨(some 50), none, (.mv (.t 0))⟩, ⟨(some 51), none, (.nilck (.t 50))⟩, ⟨(some 52), none, (.faddr 1 (.t 51))⟩, ⟨(some 53), none, (.load none (.t 52))⟩, ⟨(some 54), none, (.bin .add (.t 53) (.c (.int .i64 1)))⟩, ⟨(some 55), none, (.nilck (.t 50))⟩, ⟨(some 56), none, (.faddr 1 (.t 55))⟩, ⟨none, none, (.store 1 (.t 56) (.t 54))⟩]) (.seq (.reg [⟨(some 57), none, (.faddr 2 (.t 4))⟩, ⟨(some 58), none, (.load none (.t 57))⟩, ⟨(some 59), none, (.build [(.int .i64 0), (.str []), (.bool false), (.int .u64 0)] [(0, (1, (.c (.int .i64 5)))), (3, (1, (.t 58)))])⟩, ⟨none, none, (.store 4 (.t 2) (.t 59))⟩]) .ret)) (.seq (.reg [⟨(some 61), none, (.mv (.t 0))⟩, ⟨(some 62), none, (.call 53 [(.t 61), (.c (.int .i64 1)), (.c (.str [84, 82, 85, 69]))])⟩, ⟨(some 60), none, (.mv (.t 62))⟩]) (.cond (.t 60) (.seq (.reg [⟨(some 63), none, (.build [(.int .i64 0), (.str []), (.bool false), (.int .u64 0)] [(0, (1, (.c (.int .i64 4)))), (3, (1, (.c (.int .u64 1))))])⟩, ⟨none, none, (.store 4 (.t 2) (.t 63))⟩]) .ret) (.seq (.reg [⟨(some 65), none, (.mv (.t 0))⟩, ⟨(some 66), none, (.call 53 [(.t 65), (.c (.int .i64 1)), (.c (.str [70, 65, 76, 83, 69]))])⟩, ⟨(some 64), none, (.mv (.t 66))⟩]) (.cond (.t 64) (.seq (.reg [⟨(some 67), none, (.build [(.int .i64 0), (.str []), (.bool false), (.int .u64 0)] [(0, (1, (.c (.int .i64 4))))])⟩, ⟨none, none, (.store 4 (.t 2) (.t 67))⟩]) .ret) .skip))))))))))))) (.seq (.reg [⟨(some 68), none, (.mv (.t 0))⟩, ⟨(some 69), none, (.call 84 [(.t 68)])⟩, ⟨(some 70), none, (.build [(.int .i64 0), (.str []), (.bool false), (.int .u64 0)] [(0, (1, (.c (.int .i64 1)))), (1, (1, (.t 69)))])⟩, ⟨none, none, (.store 4 (.t 2) (.t 70))⟩]) .ret))))))
theorem expr_parser_operand.code : comp PG [] (Try.f79.body.getD .skip) = expr_parser_operand.c := by kernel_rfl
theorem expr_parser_operand.of {args : List AV} {H : AH} {K : AV → AH → Prop} (hl : args.length = 1) (h : wpA PG expr_parser_operand.c none (endA [(.cell 2 (some 4))] K) (initFr args) H) : ACalls PG 79 args H K :=
  ACalls.of_code (fl := []) mixed Try.func79 (c := Try.f79.body.getD .skip) (by kernel_rfl) (by kernel_rfl) (by rw [hl]; exact of_decide_eq_true (by kernel_rfl)) (by rw [expr_parser_operand.code]; kernel_rfl)
    (by rw [expr_parser_operand.code, show compRes PG Try.f79.results.toList = [(.cell 2 (some 4))] from by kernel_rfl]; exact h)
def expr_relation.n : Nat := 80
noncomputable def expr_relation.c : C := (.seq (.reg [⟨(some 1), none, (.box 48 (.t 0))⟩, ⟨(some 2), none, (.mv (.c (.int .i64 0)))⟩]) (.seq (.seq (.reg [⟨(some 3), none, (.faddr 0 (.t 1))⟩, ⟨(some 4), none, (.load none (.t 3))⟩, ⟨(some 5), none, (.bin .neq (.t 4) (.c (.int .i64 5)))⟩]) (.cond (.t 5) (.seq (.reg [⟨(some 2), none, (.mv (.c (.int .i64 0)))⟩]) .ret) .skip)) (.seq (.seq (.reg [⟨(some 6), none, (.faddr 1 (.t 1))⟩, ⟨(some 7), none, (.load none (.t 6))⟩]) (.block 0 (.seq (.reg [⟨(some 9), none, (.bin .eql (.t 7) (.c (.str [61])))⟩, ⟨(some 8), none, (.mv (.t 9))⟩]) (.cond (.t 8) (.seq (.reg [⟨(some 2), none, (.mv (.c (.int .i64 1)))⟩]) .ret) (.seq (.reg [⟨(some 11), none, (.bin .eql (.t 7) (.c (.str [60, 62])))⟩, ⟨(some 10), none, (.mv (.t 11))⟩]) (.cond (.t 10) (.seq (.reg [⟨(some 2), none, (.mv (.c (.int .i64 2)))⟩]) .ret) (.seq (.reg [⟨(some 13), none, (.bin .eql (.t 7) (.c (.str [60])))⟩, ⟨(some 12), none, (.mv (.t 13))⟩]) (.cond (.t 12) (.seq (.reg [⟨(some 2), none, (.mv (.c (.int .i64 3)))⟩]) .ret) (.seq (.reg [⟨(some 15), none, (.bin .eql (.t 7) (.c (.str [60, 61])))⟩, ⟨(some 14), none, (.mv (.t 15))⟩]) (.cond (.t 14) (.seq (.reg [⟨(some 2), none, (.mv (.c (.int .i64 4)))⟩]) .ret) (.seq (.reg [⟨(some 17), none, (.bin .eql (.t 7) (.c (.str [62])))⟩, ⟨(some 16), none, (.mv (.t 17))⟩]) (.cond (.t 16) (.seq (.reg [⟨(some 2), none, (.mv (.c (.int .i64 5)))⟩]) .ret) (.seq (.reg [⟨(some 19), none, (.bin .eql (.t 7) (.c (.str [62, 61])))⟩, ⟨(some 18), none, (.mv (.t 19))⟩]) (.cond (.t 18) (.seq (.reg [⟨(some 2), none, (.mv (.c (.int .i64 6)))⟩]) .ret) .skip)))))))))))))) (.seq (.reg [⟨(some 2), none, (.mv (.c (.int .i64 0)))⟩]) .ret))))
theorem expr_relation.code : comp PG [] (Try.f80.body.getD .skip) = expr_relation.c := by kernel_rfl
theorem expr_relation.of {args : List AV} {H : AH} {K : AV → AH → Prop} (hl : args.length = 1) (h : wpA PG expr_relation.c none (endA [(.t 2)] K) (initFr args) H) : ACalls PG 80 args H K :=
  ACalls.of_code (fl := []) mixed Try.func80 (c := Try.f80.body.getD .skip) (by kernel_rfl) (by kernel_rfl) (by rw [hl]; exact of_decide_eq_true (by kernel_rfl)) (by rw [expr_relation.code]; kernel_rfl)
    (by rw [expr_relation.code, show compRes PG Try.f80.results.toList = [(.t 2)] from by kernel_rfl]; exact h)
def broadsheetref15_path.n : Nat := 81
noncomputable def broadsheetref15_path.c : C := (.seq (.reg [⟨(some 3), none, (.box 60 (.t 1))⟩, ⟨(some 4), none, (.mv (.c (.str [])))⟩, ⟨(some 5), none, (.allc 60 [(.int .i64 0), (.int .i64 0), (.int .i64 0), (.int .i64 0)])⟩]) (.seq (.reg [⟨(some 6), none, (.mv (.c (.str [])))⟩]) (.seq (.block 0 (.loop (.seq (.seq (.reg [⟨(some 9), none, (.faddr 2 (.t 3))⟩, ⟨(some 10), none, (.faddr 0 (.t 9))⟩, ⟨(some 11), none, (.load none (.t 10))⟩, ⟨(some 12), none, (.bin .eql (.t 11) (.c (.int .i64 0)))⟩]) (.cond (.t 12) .skip (.exit 0))) (.block 1 (.seq (.reg [⟨(some 13), none, (.mv (.t 6))⟩, ⟨(some 14), none, (.bin .neq (.t 13) (.c (.str [])))⟩, ⟨(some 15), none, (.mv (.t 14))⟩, ⟨(some 16), (some (15, true)), (.mv (.t 0))⟩, ⟨(some 17), (some (15, true)), (.load (some 4) (.t 3))⟩, ⟨(some 18), (some (15, true)), (.call 39 [(.t 16), (.t 17), (.c (.int .i64 5)), (.c (.str [46]))])⟩, ⟨(some 19), none, (.pick (.t 15) (.t 18) (.c (.bool false)))⟩, ⟨(some 7), none, (.mv (.t 19))⟩]) (.seq (.reg [⟨(some 20), none, (.mv (.t 0))⟩, ⟨(some 21), none, (.load (some 4) (.t 3))⟩, ⟨(some 22), none, (.call 39 [(.t 20), (.t 21), (.c (.int .i64 5)), (.c (.str [91]))])⟩, ⟨(some 8), none, (.mv (.t 22))⟩]) (.seq (.seq (.reg [⟨(some 23), none, (.mv (.t 6))⟩, ⟨(some 24), none, (.bin .neq (.t 23) (.c (.str [])))⟩, ⟨(some 25), none, (.mv (.t 24))⟩, ⟨(some 26), (some (25, true)), (.mv (.t 7))⟩, ⟨(some 27), (some (25, true)), (.un .not (.t 26))⟩, ⟨(some 28), none, (.pick (.t 25) (.t 27) (.c (.bool false)))⟩, ⟨(some 29), none, (.mv (.t 28))⟩, ⟨(some 30), (some (29, true)), (.mv (.t 8))⟩, ⟨(some 31), (some (29, true)), (.un .not (.t 30))⟩, ⟨(some 32), none, (.pick (.t 29) (.t 31) (.c (.bool false)))⟩]) (.cond (.t 32) (.seq (.dreg [⟨(some 33), none, (.mv (.t 6))⟩, ⟨(some 34), none, (.load (some 4) (.t 3))⟩, ⟨(some 4), none, (.mv (.t 33))⟩] [⟨none, none, (.store 4 (.t 5) (.t 34))⟩]) .ret) .skip)) (.seq (.seq (.reg [⟨(some 35), none, (.mv (.t 7))⟩]) (.cond (.t 35) (.seq (.reg [⟨(some 36), none, (.faddr 0 (.t 3))⟩, ⟨(some 37), none, (.load none (.t 36))⟩, ⟨(some 38), none, (.bin .add (.t 37) (.c (.int .i64 1)))⟩, ⟨(some 39), none, (.faddr 0 (.t 3))⟩, ⟨none, none, (.store 1 (.t 39) (.t 38))⟩]) (.reg [⟨(some 40), none, (.mv (.t 6))⟩, ⟨(some 41), none, (.bin .add (.t 40) (.c (.str [46])))⟩, ⟨(some 6), none, (.mv (.t 41))⟩])) .skip)) (.seq (.reg [⟨(some 42), none, (.mv (.t 8))⟩]) (.cond (.t 42) (.seq (.reg [⟨(some 43), none, (.faddr 0 (.t 3))⟩, ⟨(some 44), none, (.load none (.t 43))⟩, ⟨(some 45), none, (.bin .add (.t 44) (.c (.int .i64 1)))⟩, ⟨(some 46), none, (.faddr 0 (.t 3))⟩, ⟨none, none, (.store 1 (.t 46) (.t 45))⟩]) (.seq (.seq (.reg [⟨(some 47), none, (.mv (.t 0))⟩, ⟨(some 48), none, (.faddr 0 (.t 3))⟩, ⟨(some 49), none, (.load none (.t 48))⟩, ⟨(some 50), none, (.iaddr 4 (.t 47) (.t 49))⟩, ⟨(some 51), none, (.faddr 0 (.t 50))⟩, ⟨(some 52), none, (.load none (.t 51))⟩, ⟨(some 53), none, (.bin .neq (.t 52) (.c (.int .i64 2)))⟩]) (.cond (.t 53) (.seq (.reg [⟨(some 54), none, (.mv (.t 6))⟩, ⟨(some 55), none, (.mv (.t 0))⟩, ⟨(some 56), none, (.load (some 4) (.t 3))⟩, ⟨(some 57), none, (.call 29 [(.t 55), (.t 56), (.c (.int .i64 11))])⟩, ⟨(some 4), none, (.mv (.t 54))⟩, ⟨none, none, (.store 4 (.t 5) (.t 57))⟩]) .ret) .skip)) (.seq (.reg [⟨(some 58), none, (.mv (.t 6))⟩, ⟨(some 59), none, (.mv (.t 0))⟩, ⟨(some 60), none, (.faddr 0 (.t 3))⟩, ⟨(some 61), none, (.load none (.t 60))⟩, ⟨(some 62), none, (.iaddr 4 (.t 59) (.t 61))⟩, ⟨(some 63), none, (.faddr 1 (.t 62))⟩, ⟨(some 64), none, (.load none (.t 63))⟩, ⟨(some 65), none, (.bin .add (.c (.str [91])) (.t 64))⟩, ⟨(some 66), none, (.bin .add (.t 65) (.c (.str [93])))⟩, ⟨(some 67), none, (.bin .add (.t 58) (.t 66))⟩, ⟨(some 6), none, (.mv (.t 67))⟩]) (.seq (.reg [⟨(some 68), none, (.faddr 0 (.t 3))⟩, ⟨(some 69), none, (.load none (.t 68))⟩, ⟨(some 70), none, (.bin .add (.t 69) (.c (.int .i64 1)))⟩, ⟨(some 71), none, (.faddr 0 (.t 3))⟩, ⟨none, none, (.store 1 (.t 71) (.t 70))⟩]) (.reg [⟨(some 72), none, (.mv (.t 0))⟩, ⟨(some 73), none, (.load (some 4) (.t 3))⟩, ⟨(some 74), none, (.call 56 [(.t 72), (.t 73), (.c (.int .i64 5)), (.c (.str [93]))])⟩, ⟨none, none, (.store 4 (.t 3) (.t 74))⟩]))))) (.seq (.reg [⟨(some 75), none, (.mv (.t 0))⟩, ⟨(some 76), none, (.faddr 0 (.t 3))⟩, ⟨(some 77), none, (.load none (.t 76))⟩, ⟨(some 78), none, (.iaddr 4 (.t 75) (.t 77))⟩, ⟨(some 79), none, (.faddr 0 (.t 78))⟩, ⟨(some 80), none, (.load none (.t 79))⟩, ⟨(some 81), none, (.bin .eql (.t 80) (.c (.int .i64 1)))⟩, ⟨(some 82), none, (.mv (.t 81))⟩, ⟨(some 83), (some (82, true)), (.mv (.t 0))⟩, ⟨(some 84), (some (82, true)), (.faddr 0 (.t 3))⟩, ⟨(some 85), (some (82, true)), (.load none (.t 84))⟩, ⟨(some 86), (some (82, true)), (.iaddr 4 (.t 83) (.t 85))⟩, ⟨(some 87), (some (82, true)), (.faddr 1 (.t 86))⟩, ⟨(some 88), (some (82, true)), (.load none (.t 87))⟩, ⟨(some 89), (some (82, true)), (.call 85 [(.t 88)])⟩, ⟨(some 90), (some (82, true)), (.un .not (.t 89))⟩, ⟨(some 91), none, (.pick (.t 82) (.t 90) (.c (.bool false)))⟩]) (.cond (.t 91) (.seq (.reg [⟨(some 92), none, (.mv (.t 6))⟩, ⟨(some 93), none, (.mv (.t 0))⟩, ⟨(some 94), none, (.faddr 0 (.t 3))⟩, ⟨(some 95), none, (.load none (.t 94))⟩, ⟨(some 96), none, (.iaddr 4 (.t 93) (.t 95))⟩, ⟨(some 97), none, (.faddr 1 (.t 96))⟩, ⟨(some 98), none, (.load none (.t 97))⟩, ⟨(some 99), none, (.bin .add (.t 92) (.t 98))⟩, ⟨(some 6), none, (.mv (.t 99))⟩]) (.reg [⟨(some 100), none, (.faddr 0 (.t 3))⟩, ⟨(some 101), none, (.load none (.t 100))⟩, ⟨(some 102), none, (.bin .add (.t 101) (.c (.int .i64 1)))⟩, ⟨(some 103), none, (.faddr 0 (.t 3))⟩, ⟨none, none, (.store 1 (.t 103) (.t 102))⟩])) (.seq (.reg [⟨(some 104), none, (.mv (.t 6))⟩, ⟨(some 105), none, (.mv (.t 0))⟩, ⟨(some 106), none, (.load (some 4) (.t 3))⟩, ⟨(some 107), none, (.call 29 [(.t 105), (.t 106), (.c (.int .i64 11))])⟩, ⟨(some 4), none, (.mv (.t 104))⟩, ⟨none, none, (.store 4 (.t 5) (.t 107))⟩]) .ret))))))))))))) (.seq (.dreg [⟨(some 108), none, (.mv (.t 6))⟩, ⟨(some 109), none, (.load (some 4) (.t 3))⟩, ⟨(some 4), none, (.mv (.t 108))⟩] [⟨none, none, (.store 4 (.t 5) (.t 109))⟩]) .ret))))
theorem broadsheetref15_path.code : comp PG [] (Try.f81.body.getD .skip) = broadsheetref15_path.c := by kernel_rfl
theorem broadsheetref15_path.of {args : List AV} {H : AH} {K : AV → AH → Prop} (hl : args.length = 2) (h : wpA PG broadsheetref15_path.c none (endA [(.t 4), (.cell 5 (some 4))] K) (initFr args) H) : ACalls PG 81 args H K :=
  ACalls.of_code (fl := []) mixed Try.func81 (c := Try.f81.body.getD .skip) (by kernel_rfl) (by kernel_rfl) (by rw [hl]; exact of_decide_eq_true (by kernel_rfl)) (by rw [broadsheetref15_path.code]; kernel_rfl)
    (by rw [broadsheetref15_path.code, show compRes PG Try.f81.results.toList = [(.t 4), (.cell 5 (some 4))] from by kernel_rfl]; exact h)
def expr_parser_path.n : Nat := 84
noncomputable def expr_parser_path.c : C := (.seq (.reg [⟨(some 2), none, (.mv (.c (.str [])))⟩]) (.seq (.reg [⟨(some 3), none, (.mv (.c (.str [])))⟩]) (.seq (.seq (.reg [⟨(some 4), none, (.mv (.t 0))⟩, ⟨(some 5), none, (.call 68 [(.t 4), (.c (.int .i64 5)), (.c (.str [91]))])⟩]) (.cond (.t 5) (.reg [⟨(some 6), none, (.mv (.t 0))⟩, ⟨(some 7), none, (.call 86 [(.t 6)])⟩, ⟨(some 3), none, (.mv (.t 7))⟩]) (.reg [⟨(some 8), none, (.mv (.t 0))⟩, ⟨(some 9), none, (.call 87 [(.t 8)])⟩, ⟨(some 3), none, (.mv (.t 9))⟩]))) (.seq (.block 0 (.loop (.seq (.seq (.reg [⟨(some 10), none, (.mv (.t 0))⟩, ⟨(some 11), none, (.call 25 [(.t 10)])⟩, ⟨(some 12), none, (.un .not (.t 11))⟩]) (.cond (.t 12) .skip (.exit 0))) (.block 1 (.block 2 (.seq (.reg [⟨(some 15), none, (.mv (.t 0))⟩, ⟨(some 16), none, (.call 68 [(.t 15), (.c (.int .i64 5)), (.c (.str [91]))])⟩, ⟨(some 14), none, (.mv (.t 16))⟩]) (.cond (.t 14) (.reg [⟨(some 17), none, (.mv (.t 3))⟩, ⟨(some 18), none, (.mv (.t 0))⟩, ⟨(some 19), none, (.call 86 [(.t 18)])⟩, ⟨(some 20), none, (.bin .add (.t 17) (.t 19))⟩, ⟨(some 3), none, (.mv (.t 20))⟩]) (.seq (.reg [⟨(some 22), none, (.mv (.t 0))⟩, ⟨(some 23), none, (.call 53 [(.t 22), (.c (.int .i64 5)), (.c (.str [46]))])⟩, ⟨(some 21), none, (.mv (.t 23))⟩]) (.cond (.t 21) (.reg [⟨(some 24), none, (.mv (.t 3))⟩, ⟨(some 25), none, (.mv (.t 0))⟩, ⟨(some 26), none, (.call 87 [(.t 25)])⟩, ⟨(some 27), none, (.bin .add (.c (.str [46])) (.t 26))⟩, ⟨(some 28), none, (.bin .add (.t 24) (.t 27))⟩, ⟨(some 3), none, (.mv (.t 28))⟩]) (.seq (.reg [⟨(some 13), none, (.mv (.t 3))⟩, ⟨(some 2), none, (.mv (.t 13))⟩]) .ret)))))))))) (.seq (.reg [⟨(some 29), none, (.mv (.t 3))⟩, ⟨(some 2), none, (.mv (.t 29))⟩]) .ret)))))
theorem expr_parser_path.code : comp PG [] (Try.f84.body.getD .skip) = expr_parser_path.c := by kernel_rfl
theorem expr_parser_path.of {args : List AV} {H : AH} {K : AV → AH → Prop} (hl : args.length = 1) (h : wpA PG expr_parser_path.c none (endA [(.t 2)] K) (initFr args) H) : ACalls PG 84 args H K :=
  ACalls.of_code (fl := []) mixed Try.func84 (c := Try.f84.body.getD .skip) (by kernel_rfl) (by kernel_rfl) (by rw [hl]; exact of_decide_eq_true (by kernel_rfl)) (by rw [expr_parser_path.code]; kernel_rfl)
    (by rw [expr_parser_path.code, show compRes PG Try.f84.results.toList = [(.t 2)] from by kernel_rfl]; exact h)
def broadsheetref04_Word.n : Nat := 85
noncomputable def broadsheetref04_Word.c : C := (.seq (.reg [⟨(some 2), none, (.mv (.c (.bool false)))⟩]) (.seq (.reg [⟨(some 4), none, (.bslice 9 1 7 [(.str [])] [(0, (.c (.str [65, 78, 68]))), (1, (.c (.str [79, 82]))), (2, (.c (.str [78, 79, 84]))), (3, (.c (.str [66, 69, 84, 87, 69, 69, 78]))), (4, (.c (.str [76, 73, 75, 69]))), (5, (.c (.str [84, 82, 85, 69]))), (6, (.c (.str [70, 65, 76, 83, 69])))])⟩, ⟨(some 3), none, (.mv (.t 4))⟩]) (.seq (.reg [⟨(some 5), none, (.mv (.t 3))⟩, ⟨(some 6), none, (.mv (.t 0))⟩, ⟨(some 7), none, (.call 67 [(.t 5), (.t 6)])⟩, ⟨(some 8), none, (.bin .geq (.t 7) (.c (.int .i64 0)))⟩, ⟨(some 2), none, (.mv (.t 8))⟩]) .ret)))
theorem broadsheetref04_Word.code : comp PG [] (Try.f85.body.getD .skip) = broadsheetref04_Word.c := by kernel_rfl
theorem broadsheetref04_Word.of {args : List AV} {H : AH} {K : AV → AH → Prop} (hl : args.length = 1) (h : wpA PG broadsheetref04_Word.c none (endA [(.t 2)] K) (initFr args) H) : ACalls PG 85 args H K :=
  ACalls.of_code (fl := []) mixed Try.func85 (c := Try.f85.body.getD .skip) (by kernel_rfl) (by kernel_rfl) (by rw [hl]; exact of_decide_eq_true (by kernel_rfl)) (by rw [broadsheetref04_Word.code]; kernel_rfl)
    (by rw [broadsheetref04_Word.code, show compRes PG Try.f85.results.toList = [(.t 2)] from by kernel_rfl]; exact h)
def expr_parser_elem.n : Nat := 86
noncomputable def expr_parser_elem.c : C := (.seq (.reg [⟨(some 2), none, (.mv (.c (.str [])))⟩]) (.seq (.reg [⟨(some 4), none, (.mv (.t 0))⟩, ⟨(some 5), none, (.call 72 [(.t 4), (.c (.int .i64 5)), (.c (.str [91]))])⟩]) (.seq (.reg [⟨(some 6), none, (.mv (.t 0))⟩, ⟨(some 7), none, (.call 26 [(.t 6)])⟩, ⟨(some 3), none, (.allc 48 [(.int .i64 0), (.str []), (.int .u64 0), (.int .i64 0)])⟩, ⟨none, none, (.store 4 (.t 3) (.t 7))⟩]) (.seq (.seq (.reg [⟨(some 8), none, (.faddr 0 (.t 3))⟩, ⟨(some 9), none, (.load none (.t 8))⟩, ⟨(some 10), none, (.bin .neq (.t 9) (.c (.int .i64 2)))⟩]) (.cond (.t 10) (.seq (.reg [⟨(some 11), none, (.mv (.t 0))⟩, ⟨(some 12), none, (.call 27 [(.t 11), (.c (.int .i64 11))])⟩]) (.seq (.reg [⟨(some 2), none, (.mv (.c (.str [])))⟩]) .ret)) .skip)) (.seq (.reg [⟨(some 13), none, (.mv (.t 0))⟩, ⟨(some 14), none, (.nilck (.t 13))⟩, ⟨(some 15), none, (.faddr 1 (.t 14))⟩, ⟨(some 16), none, (.load none (.t 15))⟩, ⟨(some 17), none, (.bin .add (.t 16) (.c (.int .i64 1)))⟩, ⟨(some 18), none, (.nilck (.t 13))⟩, ⟨(some 19), none, (.faddr 1 (.t 18))⟩, ⟨none, none, (.store 1 (.t 19) (.t 17))⟩]) (.seq (.reg [⟨(some 20), none, (.mv (.t 0))⟩, ⟨(some 21), none, (.call 72 [(.t 20), (.c (.int .i64 5)), (.c (.str [93]))])⟩]) (.seq (.reg [⟨(some 22), none, (.faddr 1 (.t 3))⟩, ⟨(some 23), none, (.load none (.t 22))⟩, ⟨(some 24), none, (.bin .add (.c (.str [91])) (.t 23))⟩, ⟨(some 25), none, (.bin .add (.t 24) (.c (.str [93])))⟩, ⟨(some 2), none, (.mv (.t 25))⟩]) .ret)))))))
theorem expr_parser_elem.code : comp PG [] (Try.f86.body.getD .skip) = expr_parser_elem.c := by kernel_rfl
theorem expr_parser_elem.of {args : List AV} {H : AH} {K : AV → AH → Prop} (hl : args.length = 1) (h : wpA PG expr_parser_elem.c none (endA [(.t 2)] K) (initFr args) H) : ACalls PG 86 args H K :=
  ACalls.of_code (fl := []) mixed Try.func86 (c := Try.f86.body.getD .skip) (by kernel_rfl) (by kernel_rfl) (by rw [hl]; exact of_decide_eq_true (by kernel_rfl)) (by rw [expr_parser_elem.code]; kernel_rfl)
    (by rw [expr_parser_elem.code, show compRes PG Try.f86.results.toList = [(.t 2)] from by kernel_rfl]; exact h)
def expr_parser_name.n : Nat := 87
noncomputable def expr_parser_name.c : C := (.seq (.reg [⟨(some 2), none, (.mv (.c (.str [])))⟩]) (.seq (.reg [⟨(some 4), none, (.mv (.t 0))⟩, ⟨(some 5), none, (.call 26 [(.t 4)])⟩, ⟨(some 3), none, (.allc 48 [(.int .i64 0), (.str []), (.int .u64 0), (.int .i64 0)])⟩, ⟨none, none, (.store 4 (.t 3) (.t 5))⟩]) (.seq (.seq (.reg [⟨(some 6), none, (.mv (.t 0))⟩, ⟨(some 7), none, (.call 25 [(.t 6)])⟩, ⟨(some 8), none, (.mv (.t 7))⟩, ⟨(some 9), (some (8, false)), (.faddr 0 (.t 3))⟩, ⟨(some 10), (some (8, false)), (.load none (.t 9))⟩, ⟨(some 11), (some (8, false)), (.bin .neq (.t 10) (.c (.int .i64 1)))⟩, ⟨(some 12), none, (.pick (.t 8) (.c (.bool true)) (.t 11))⟩, ⟨(some 13), none, (.mv (.t 12))⟩, ⟨(some 14), (some (13, false)), (.faddr 1 (.t 3))⟩, ⟨(some 15), (some (13, false)), (.load none (.t 14))⟩, ⟨(some 16), (some (13, false)), (.call 88 [(.t 15)])⟩, ⟨(some 17), none, (.pick (.t 13) (.c (.bool true)) (.t 16))⟩]) (.cond (.t 17) (.seq (.reg [⟨(some 18), none, (.mv (.t 0))⟩, ⟨(some 19), none, (.call 27 [(.t 18), (.c (.int .i64 11))])⟩]) (.seq (.reg [⟨(some 2), none, (.mv (.c (.str [])))⟩]) .ret)) .skip)) (.seq (.reg [⟨(some 20), none, (.mv (.t 0))⟩, ⟨(some 21), none, (.nilck (.t 20))⟩, ⟨(some 22), none, (.faddr 1 (.t 21))⟩, ⟨(some 23), none, (.load none (.t 22))⟩, ⟨(some 24), none, (.bin .add (.t 23) (.c (.int .i64 1)))⟩, ⟨(some 25), none, (.nilck (.t 20))⟩, ⟨(some 26), none, (.faddr 1 (.t 25))⟩, ⟨none, none, (.store 1 (.t 26) (.t 24))⟩]) (.seq (.reg [⟨(some 27), none, (.faddr 1 (.t 3))⟩, ⟨(some 28), none, (.load none (.t 27))⟩, ⟨(some 2), none, (.mv (.t 28))⟩]) .ret)))))
theorem expr_parser_name.code : comp PG [] (Try.f87.body.getD .skip) = expr_parser_name.c := by kernel_rfl
theorem expr_parser_name.of {args : List AV} {H : AH} {K : AV → AH → Prop} (hl : args.length = 1) (h : wpA PG expr_parser_name.c none (endA [(.t 2)] K) (initFr args) H) : ACalls PG 87 args H K :=
  ACalls.of_code (fl := []) mixed Try.func87 (c := Try.f87.body.getD .skip) (by kernel_rfl) (by kernel_rfl) (by rw [hl]; exact of_decide_eq_true (by kernel_rfl)) (by rw [expr_parser_name.code]; kernel_rfl)
    (by rw [expr_parser_name.code, show compRes PG Try.f87.results.toList = [(.t 2)] from by kernel_rfl]; exact h)
def name_Word.n : Nat := 88
noncomputable def name_Word.c : C := (.seq (.reg [⟨(some 2), none, (.mv (.c (.bool false)))⟩]) (.seq (.seq (.reg [⟨(some 3), none, (.mv (.t 0))⟩]) (.block 0 (.seq (.seq (.reg [⟨(some 5), none, (.bin .eql (.t 3) (.c (.str [65, 78, 68])))⟩, ⟨(some 4), none, (.mv (.t 5))⟩]) (.cond (.t 4) .skip (.seq (.reg [⟨(some 6), none, (.bin .eql (.t 3) (.c (.str [79, 82])))⟩, ⟨(some 4), none, (.mv (.t 6))⟩]) (.cond (.t 4) .skip (.seq (.reg [⟨(some 7), none, (.bin .eql (.t 3) (.c (.str [78, 79, 84])))⟩, ⟨(some 4), none, (.mv (.t 7))⟩]) (.cond (.t 4) .skip (.seq (.reg [⟨(some 8), none, (.bin .eql (.t 3) (.c (.str [66, 69, 84, 87, 69, 69, 78])))⟩, ⟨(some 4), none, (.mv (.t 8))⟩]) (.cond (.t 4) .skip (.seq (.reg [⟨(some 9), none, (.bin .eql (.t 3) (.c (.str [76, 73, 75, 69])))⟩, ⟨(some 4), none, (.mv (.t 9))⟩]) (.cond (.t 4) .skip (.seq (.reg [⟨(some 10), none, (.bin .eql (.t 3) (.c (.str [84, 82, 85, 69])))⟩, ⟨(some 4), none, (.mv (.t 10))⟩]) (.cond (.t 4) .skip (.reg [⟨(some 11), none, (.bin .eql (.t 3) (.c (.str [70, 65, 76, 83, 69])))⟩, ⟨(some 4), none, (.mv (.t 11))⟩]))))))))))))) (.cond (.t 4) (.seq (.reg [⟨(some 2), none, (.mv (.c (.bool true)))⟩]) .ret) .skip)))) (.seq (.reg [⟨(some 2), none, (.mv (.c (.bool false)))⟩]) .ret)))
theorem name_Word.code : comp PG [] (Try.f88.body.getD .skip) = name_Word.c := by kernel_rfl
theorem name_Word.of {args : List AV} {H : AH} {K : AV → AH → Prop} (hl : args.length = 1) (h : wpA PG name_Word.c none (endA [(.t 2)] K) (initFr args) H) : ACalls PG 88 args H K :=
  ACalls.of_code (fl := []) mixed Try.func88 (c := Try.f88.body.getD .skip) (by kernel_rfl) (by kernel_rfl) (by rw [hl]; exact of_decide_eq_true (by kernel_rfl)) (by rw [name_Word.code]; kernel_rfl)
    (by rw [name_Word.code, show compRes PG Try.f88.results.toList = [(.t 2)] from by kernel_rfl]; exact h)
end Go.Proofs.Ytlmplofpclaokaa

/- The parser's small functions, walked. -/
namespace Go.Proofs.Ytlmplofpclaokaa
set_option autoImplicit false
set_option linter.unusedSimpArgs false
set_option linter.unusedVariables false
attribute [local irreducible] callA callP ACalls
abbrev psB (l : List Tok) (σ : PSt) : Blk := .rows 5 [[.rows 4 (l.map tkR), .int .i64 (σ.p : Nat), .int .i64 (σ.n : Nat), .int .i64 σ.e, .int .i64 σ.a]]
abbrev tkA (t : Tok) : AV := .agg (tkR t)
theorem tk_get {l : List Tok} {i : Nat} (h : i < l.length) : (l.map tkR).getD i [] = tkR (tk l i) := by
  simp [tk, List.getD, h]
theorem now_spec {l : List Tok} (w : Wt l) {σ : PSt} (h : σ.p < l.length) (id : Nat) : SW PG expr_parser_now.n [.ptr id 5 0 0] id (psB l σ) [] (tkA (tk l σ.p)) (psB l σ) := by
  have hw := w.len
  have hl : (l.map tkR).length = l.length := by simp
  refine ACalls.fz (expr_parser_now.of rfl (wpF_start ?_))
  (first | refine au ?_ | exact au0 | fail)
  intro id2 hid2 ht2; have n2 := neAll_of hid2; (try simp only [neAll, neAll_hset] at n2); have m2 := n2; (repeat (obtain ⟨_, m2⟩ := m2))
  (first | refine au ?_ | exact au0 | fail)
  rw [show (Int.toNat (σ.p : Nat)) = σ.p from rfl, tk_get h]
  (first | refine au ?_ | exact au0 | fail)
  exact ⟨fz_of, sub_of⟩
theorem bad_spec (l : List Tok) (σ : PSt) (id : Nat) : SW PG expr_parser_bad.n [.ptr id 5 0 0] id (psB l σ) [] (.bool (decide (σ.e ≠ 0))) (psB l σ) := by
  refine ACalls.fz (expr_parser_bad.of rfl (wpF_start ?_))
  (first | refine au ?_ | exact au0 | fail)
  exact ⟨fz_of, sub_of⟩
theorem fail_spec {l : List Tok} (w : Wt l) {σ : PSt} (h : σ.p < l.length) (id : Nat) (e : Int) : SW PG expr_parser_fail.n [.ptr id 5 0 0, .int .i64 e] id (psB l σ) [] (.tup []) (psB l (σ.fail l e)) := by
  refine ACalls.fz (expr_parser_fail.of rfl (wpF_start ?_))
  unfold PSt.fail
  (first | refine au ?_ | exact au0 | fail)
  refine bsplit_dec (fun h1 => ?_) (fun h1 => ?_)
  · rw [if_pos h1]
    (first | refine au ?_ | exact au0 | fail)
    refine (now_spec w h id).call (by exact hg_of) (Sub.nil _) ?_
    (first | refine au ?_ | exact au0 | fail)
    exact ⟨fz_of, sub_of⟩
  · rw [if_neg h1]
    (first | refine au ?_ | exact au0 | fail)
    exact ⟨fz_of, sub_of⟩
theorem is_spec {l : List Tok} (w : Wt l) {σ : PSt} (h : σ.p < l.length) (id : Nat) (k : Int) (s : List UInt8) : SW PG expr_parser_is.n [.ptr id 5 0 0, .int .i64 k, .str s] id (psB l σ) [] (.bool (isT l σ k s)) (psB l σ) := by
  refine ACalls.fz (expr_parser_is.of rfl (wpF_start ?_))
  unfold isT
  (first | refine au ?_ | exact au0 | fail)
  refine (now_spec w h id).call (by exact hg_of) (Sub.nil _) ?_
  (first | refine au ?_ | exact au0 | fail)
  intro id7 hid7 ht7; have n7 := neAll_of hid7; (try simp only [neAll, neAll_hset] at n7); have m7 := n7; (repeat (obtain ⟨_, m7⟩ := m7))
  (first | refine au ?_ | exact au0 | fail)
  refine bsplit_dec (fun h1 => ?_) (fun h1 => ?_)
  · rw [decide_eq_true h1]
    (first | refine au ?_ | exact au0 | fail)
    exact ⟨fz_of, sub_of⟩
  · rw [decide_eq_false h1]
    (first | refine au ?_ | exact au0 | fail)
    exact ⟨fz_of, sub_of⟩
theorem skip_spec {l : List Tok} (w : Wt l) {σ : PSt} (h : σ.p < l.length) (id : Nat) (k : Int) (s : List UInt8) : SW PG expr_parser_skip.n [.ptr id 5 0 0, .int .i64 k, .str s] id (psB l σ) [] (.bool (skb l σ k s)) (psB l (skp l σ k s)) := by
  have hw := w.len
  refine ACalls.fz (expr_parser_skip.of rfl (wpF_start ?_))
  unfold skp skb
  (first | refine au ?_ | exact au0 | fail)
  refine (bad_spec l σ id).call (by exact hg_of) (Sub.nil _) ?_
  (first | refine au ?_ | exact au0 | fail)
  refine bsplit_dec (fun h1 => ?_) (fun h1 => ?_)
  · rw [decide_eq_false h1]
    (first | refine au ?_ | exact au0 | fail)
    exact ⟨fz_of, sub_of⟩
  · rw [decide_eq_true (Classical.not_not.1 h1)]
    (first | refine au ?_ | exact au0 | fail)
    refine (is_spec w h id k s).call (by exact hg_of) (Sub.nil _) ?_
    cases hI : isT l σ k s with
    | true =>
      (first | refine au ?_ | exact au0 | fail)
      exact ⟨fz_of, sub_of⟩
    | false =>
      (first | refine au ?_ | exact au0 | fail)
      exact ⟨fz_of, sub_of⟩
theorem must_spec {l : List Tok} (w : Wt l) {σ : PSt} (h : σ.p < l.length) (id : Nat) (k : Int) (s : List UInt8) : SW PG expr_parser_must.n [.ptr id 5 0 0, .int .i64 k, .str s] id (psB l σ) [] (.tup []) (psB l (mst l σ k s)) := by
  refine ACalls.fz (expr_parser_must.of rfl (wpF_start ?_))
  unfold mst
  (first | refine au ?_ | exact au0 | fail)
  refine (skip_spec w h id k s).call (by exact hg_of) (Sub.nil _) ?_
  unfold skp
  cases hI : skb l σ k s with
  | true =>
    (first | refine au ?_ | exact au0 | fail)
    exact ⟨fz_of, sub_of⟩
  | false =>
    (first | refine au ?_ | exact au0 | fail)
    refine (fail_spec w h id 11).call (by exact hg_of) (Sub.nil _) ?_
    (first | refine au ?_ | exact au0 | fail)
    exact ⟨fz_of, sub_of⟩
theorem word_spec (s : List UInt8) (H : AH) : ACalls PG name_Word.n [.str s] H fun r H' => r = .bool (rsv.contains s) ∧ H' = H := by
  refine name_Word.of rfl (wpF_start ?_)
  unfold rsv
  (repeat' (first | (refine au ?_; first | refine bsplit_dec (fun _ => ?_) (fun _ => ?_) | refine bsplit_intro (fun _ => ?_) (fun _ => ?_)) | exact au0 | fail)); (all_goals try (first | refine au ?_ | fail))
  all_goals exact ⟨congrArg AV.bool (by simp_all), rfl⟩
theorem name_spec {l : List Tok} (w : Wt l) {σ : PSt} (h : σ.p < l.length) (id : Nat) : SW PG expr_parser_name.n [.ptr id 5 0 0] id (psB l σ) [] (.str (nm l σ).1) (psB l (nm l σ).2) := by
  have hw := w.len
  refine ACalls.fz (expr_parser_name.of rfl (wpF_start ?_))
  unfold nm nmB
  (first | refine au ?_ | exact au0 | fail)
  refine (now_spec w h id).call (by exact hg_of) (Sub.nil _) ?_
  (first | refine au ?_ | exact au0 | fail)
  intro id3 hid3 ht3; have n3 := neAll_of hid3; (try simp only [neAll, neAll_hset] at n3); have m3 := n3; (repeat (obtain ⟨_, m3⟩ := m3))
  (first | refine au ?_ | exact au0 | fail)
  refine (bad_spec l σ id).call (by exact hg_of) (Sub.nil _) ?_
  (first | refine au ?_ | exact au0 | fail)
  refine bsplit_dec (fun h1 => ?_) (fun h1 => ?_)
  · rw [decide_eq_false h1]
    (first | refine au ?_ | exact au0 | fail)
    refine (fail_spec w h id 11).call (by exact hg_of) (Sub.nil _) ?_
    (first | refine au ?_ | exact au0 | fail)
    exact ⟨fz_of, sub_of⟩
  · rw [decide_eq_true (Classical.not_not.1 h1)]
    (first | refine au ?_ | exact au0 | fail)
    refine bsplit_dec (fun h2 => ?_) (fun h2 => ?_)
    · rw [decide_eq_false h2]
      (first | refine au ?_ | exact au0 | fail)
      refine (fail_spec w h id 11).call (by exact hg_of) (Sub.nil _) ?_
      (first | refine au ?_ | exact au0 | fail)
      exact ⟨fz_of, sub_of⟩
    · rw [decide_eq_true (Classical.not_not.1 h2)]
      (first | refine au ?_ | exact au0 | fail)
      refine callF_eq (word_spec _ _) ?_
      cases hI : rsv.contains (tk l σ.p).2.1 with
      | true =>
        (first | refine au ?_ | exact au0 | fail)
        refine (fail_spec w h id 11).call (by exact hg_of) (Sub.nil _) ?_
        (first | refine au ?_ | exact au0 | fail)
        exact ⟨fz_of, sub_of⟩
      | false =>
        (first | refine au ?_ | exact au0 | fail)
        exact ⟨fz_of, sub_of⟩
theorem elem_spec {l : List Tok} (w : Wt l) {σ : PSt} (h : σ.p < l.length) (id : Nat) : SW PG expr_parser_elem.n [.ptr id 5 0 0] id (psB l σ) [] (.str (el l σ).1) (psB l (el l σ).2) := by
  have hw := w.len
  have h1 := Gd.mst w h (k := 5) (by decide) [91]
  have hx := w.txt (mst l σ 5 [91]).p
  refine ACalls.fz (expr_parser_elem.of rfl (wpF_start ?_))
  unfold el
  (first | refine au ?_ | exact au0 | fail)
  refine (must_spec w h id 5 [91]).call (by exact hg_of) (Sub.nil _) ?_
  (first | refine au ?_ | exact au0 | fail)
  refine (now_spec w h1.lt id).call (by exact hg_of) (Sub.nil _) ?_
  generalize mst l σ 5 [91] = τ at *
  have h1l := h1.lt
  (first | refine au ?_ | exact au0 | fail)
  intro id3 hid3 ht3; have n3 := neAll_of hid3; (try simp only [neAll, neAll_hset] at n3); have m3 := n3; (repeat (obtain ⟨_, m3⟩ := m3))
  (first | refine au ?_ | exact au0 | fail)
  refine bsplit_dec (fun h2 => ?_) (fun h2 => ?_)
  · rw [if_neg h2]
    (first | refine au ?_ | exact au0 | fail)
    refine (fail_spec w h1.lt id 11).call (by exact hg_of) (Sub.nil _) ?_
    (first | refine au ?_ | exact au0 | fail)
    exact ⟨fz_of, sub_of⟩
  · have h2' := Classical.not_not.1 h2
    rw [if_pos h2']
    have h3 := Gd.on w h1.lt (by rw [h2']; decide)
    (first | refine au ?_ | exact au0 | fail)
    refine (must_spec w h3.lt id 5 [93]).call (by exact hg_of) (Sub.nil _) ?_
    (first | refine au ?_ | exact au0 | fail)
    exact ⟨fz_of, sub_of⟩
end Go.Proofs.Ytlmplofpclaokaa

/- Paths, operands and tests, walked. -/
namespace Go.Proofs.Ytlmplofpclaokaa
set_option autoImplicit false
set_option linter.unusedSimpArgs false
set_option linter.unusedVariables false
attribute [local irreducible] callA callP ACalls
theorem nm_len {l : List Tok} (w : Wt l) (σ : PSt) : (nm l σ).1.length ≤ 256 := by
  unfold nm; split
  · exact w.txt _
  · simp
theorem el_len {l : List Tok} (w : Wt l) (σ : PSt) : (el l σ).1.length ≤ 258 := by
  unfold el; split
  · have := w.txt (mst l σ 5 [91]).p
    simp; omega
  · simp
theorem path_spec {l : List Tok} (w : Wt l) {σ : PSt} (h : σ.p < l.length) (id : Nat) : SW PG expr_parser_path.n [.ptr id 5 0 0] id (psB l σ) [] (.str (pth l σ).1) (psB l (pth l σ).2) := by
  have hw := w.len
  have hG := Gd.pth0 w h
  refine ACalls.fz (expr_parser_path.of rfl (wpF_start ?_))
  (first | refine ab ?_ | exact ab0 | fail)
  refine .inr ⟨[(0, some (.ptr id 5 0 0)), (3, some (.str (pth0 l σ).1))], [(id, psB l (pth0 l σ).2)], ?_, ?_⟩
  · unfold pth0
    (first | refine au ?_ | exact au0 | fail)
    refine (is_spec w h id 5 [91]).call (by exact hg_of) (Sub.nil _) ?_
    cases hI : isT l σ 5 [91] with
    | true =>
      (first | refine au ?_ | exact au0 | fail)
      refine (elem_spec w h id).call (by exact hg_of) (Sub.nil _) ?_
      (first | refine au ?_ | exact au0 | fail)
      exact ⟨(by repeat (first | exact trivial | refine And.intro (Or.inl rfl) ?_ | refine And.intro (Or.inr (Exists.intro _ (And.intro rfl (Fz.refl _)))) ?_)), sub_of⟩
    | false =>
      (first | refine au ?_ | exact au0 | fail)
      refine (name_spec w h id).call (by exact hg_of) (Sub.nil _) ?_
      (first | refine au ?_ | exact au0 | fail)
      exact ⟨(by repeat (first | exact trivial | refine And.intro (Or.inl rfl) ?_ | refine And.intro (Or.inr (Exists.intro _ (And.intro rfl (Fz.refl _)))) ?_)), sub_of⟩
  · unfold pth
    have hlen : (pth0 l σ).1.length ≤ 258 := by
      unfold pth0; split
      · exact el_len w σ
      · have := nm_len w σ; omega
    generalize hR : pthL l (l.length + 1) (pth0 l σ).1 (pth0 l σ).2 = R
    have hlt := hG.lt
    generalize hk : l.length + 1 = k at hR
    generalize (pth0 l σ).1 = s0 at *
    generalize (pth0 l σ).2 = τ0 at *
    (first | refine au ?_ | exact au0 | fail)
    refine ⟨fun n L H' => ∃ (τ : PSt) (s : List UInt8), τ.p < l.length ∧ l.length < τ.p + n ∧ s.length ≤ 258 + (l.length + 1) * 300 - n * 300 ∧ n ≤ l.length + 1 ∧ pthL l n s τ = R ∧ L = [(0, some (.ptr id 5 0 0)), (3, some (.str s))] ∧ H' = [(id, psB l τ)],
      ⟨_, _, ?_, Sub.refl _, k, τ0, s0, hlt, by omega, by omega, by omega, hR, rfl, rfl⟩, ?_⟩
    · exact (by repeat (first | exact trivial | refine And.intro (Or.inl rfl) ?_ | refine And.intro (Or.inr (Exists.intro _ (And.intro rfl (Fz.refl _)))) ?_))
    · clear hR hlt hlen hG hk
      rintro n L H' ⟨τ, s, hlt, hn, hs, hnk, hR, rfl, rfl⟩
      obtain ⟨n, rfl⟩ : ∃ m, n = m + 1 := ⟨n - 1, by omega⟩
      unfold pthL at hR
      (first | refine au ?_ | exact au0 | fail)
      refine (bad_spec l τ id).call (by exact hg_of) (Sub.nil _) ?_
      (first | refine au ?_ | exact au0 | fail)
      refine bsplit_dec (fun h1 => ?_) (fun h1 => ?_)
      · rw [if_neg h1] at hR
        subst hR
        (first | refine au ?_ | exact au0 | fail)
        exact ⟨fz_of, sub_of⟩
      · rw [if_pos (Classical.not_not.1 h1)] at hR
        (first | refine au ?_ | exact au0 | fail)
        refine (is_spec w hlt id 5 [91]).call (by exact hg_of) (Sub.nil _) ?_
        cases hI : isT l τ 5 [91] with
        | true =>
          rw [hI, if_pos rfl] at hR
          have h2 := Gd.el w hlt
          have h3 := el_len w τ
          (first | refine au ?_ | exact au0 | fail)
          refine (elem_spec w hlt id).call (by exact hg_of) (Sub.nil _) ?_
          (first | refine au ?_ | exact au0 | fail)
          refine ⟨[(0, some (.ptr id 5 0 0)), (3, some (.str (s ++ (el l τ).1)))], _, (by repeat (first | exact trivial | refine And.intro (Or.inl rfl) ?_ | refine And.intro (Or.inr (Exists.intro _ (And.intro rfl (Fz.refl _)))) ?_)), Sub.refl _, n, by omega, _, _, h2.lt, ?_, ?_, by omega, hR, rfl, rfl⟩
          · have q : τ.p < (el l τ).2.p := by
              have := isT_ne hI
              unfold el
              have hm : mst l τ 5 [91] = τ.on := by unfold mst skb; rw [hI, decide_eq_true (Classical.not_not.1 h1)]; rfl
              rw [hm]
              have h4 := Gd.on w hlt (by rw [this.1]; decide)
              split
              · rename_i h5
                have h6 := Gd.on w h4.lt (by rw [h5]; decide)
                have h7 := Gd.mst w h6.lt (k := 5) (by decide) [93]
                have := h7.le
                have := h6.le
                show τ.p < (mst l τ.on.on 5 [93]).p
                have : τ.on.p = τ.p + 1 := rfl
                omega
              · have := (Gd.fail (l := l) h4.lt 11).le
                have : τ.on.p = τ.p + 1 := rfl
                show τ.p < (PSt.fail l τ.on 11).p
                omega
            omega
          · simp; omega
        | false =>
          rw [hI, if_neg (by decide)] at hR
          (first | refine au ?_ | exact au0 | fail)
          refine (skip_spec w hlt id 5 [46]).call (by exact hg_of) (Sub.nil _) ?_
          have hsk : skb l τ 5 [46] = isT l τ 5 [46] := by unfold skb; rw [decide_eq_true (Classical.not_not.1 h1)]; rfl
          unfold skp
          rw [hsk]
          cases hD : isT l τ 5 [46] with
          | true =>
            rw [hD, if_pos rfl] at hR
            have h2 := Gd.on w hlt (by rw [(isT_ne hD).1]; decide)
            have h3 := Gd.nm w h2.lt
            have h4 := nm_len w τ.on
            (first | refine au ?_ | exact au0 | fail)
            refine (name_spec w h2.lt id).call (by exact hg_of) (Sub.nil _) ?_
            (first | refine au ?_ | exact au0 | fail)
            refine ⟨[(0, some (.ptr id 5 0 0)), (3, some (.str (s ++ ([46] ++ (nm l τ.on).1))))], _, (by repeat (first | exact trivial | refine And.intro (Or.inl rfl) ?_ | refine And.intro (Or.inr (Exists.intro _ (And.intro rfl (Fz.refl _)))) ?_)), Sub.refl _, n, by omega, _, _, h3.lt, ?_, ?_, by omega, hR, rfl, rfl⟩
            · have := h3.le
              have : τ.on.p = τ.p + 1 := rfl
              omega
            · simp; omega
          | false =>
            rw [hD, if_neg (by decide)] at hR
            subst hR
            (first | refine au ?_ | exact au0 | fail)
            exact ⟨fz_of, sub_of⟩
abbrev opA (o : Opd) : AV := .agg [.int .i64 o.k, .str o.t, .bool o.neg, .int .u64 (o.num : Nat)]
theorem operand_spec {l : List Tok} (w : Wt l) {σ : PSt} (h : σ.p < l.length) (id : Nat) : SW PG expr_parser_operand.n [.ptr id 5 0 0] id (psB l σ) [] (opA (opd l σ).1) (psB l (opd l σ).2) := by
  have hw := w.len
  refine ACalls.fz (expr_parser_operand.of rfl (wpF_start ?_))
  unfold opd
  (first | refine au ?_ | exact au0 | fail)
  intro id2 hid2 ht2; have n2 := neAll_of hid2; (try simp only [neAll, neAll_hset] at n2); have m2 := n2; (repeat (obtain ⟨_, m2⟩ := m2))
  (first | refine au ?_ | exact au0 | fail)
  refine (bad_spec l σ id).call (by exact hg_of) (Sub.nil _) ?_
  (first | refine au ?_ | exact au0 | fail)
  refine bsplit_dec (fun h1 => ?_) (fun h1 => ?_)
  · rw [if_neg h1]
    (first | refine au ?_ | exact au0 | fail)
    exact ⟨fz_of, sub_of⟩
  · rw [if_pos (Classical.not_not.1 h1)]
    have h1' := Classical.not_not.1 h1
    (first | refine au ?_ | exact au0 | fail)
    refine (skip_spec w h id 5 [45]).call (by exact hg_of) (Sub.nil _) ?_
    have hG := Gd.skp w h (k := 5) (by decide) [45]
    have he : (skp l σ 5 [45]).e = 0 := by unfold skp; split <;> exact h1'
    generalize skp l σ 5 [45] = τ at *
    generalize skb l σ 5 [45] = neg at *
    have hlt := hG.lt
    (first | refine au ?_ | exact au0 | fail)
    refine (now_spec w hlt id).call (by exact hg_of) (Sub.nil _) ?_
    unfold opd1
    (first | refine au ?_ | exact au0 | fail)
    intro id4 hid4 ht4; have n4 := neAll_of hid4; (try simp only [neAll, neAll_hset] at n4); have m4 := n4; (repeat (obtain ⟨_, m4⟩ := m4))
    (first | refine au ?_ | exact au0 | fail)
    refine bsplit_dec (fun h2 => ?_) (fun h2 => ?_)
    · rw [if_pos h2]
      (first | refine au ?_ | exact au0 | fail)
      exact ⟨fz_of, sub_of⟩
    · rw [if_neg h2]
      (first | refine au ?_ | exact au0 | fail)
      cases neg with
      | true =>
        (first | refine au ?_ | exact au0 | fail)
        refine (fail_spec w hlt id 11).call (by exact hg_of) (Sub.nil _) ?_
        (first | refine au ?_ | exact au0 | fail)
        exact ⟨fz_of, sub_of⟩
      | false =>
        rw [if_neg (by decide)]
        (first | refine au ?_ | exact au0 | fail)
        refine bsplit_dec (fun h3 => ?_) (fun h3 => ?_)
        · rw [if_pos h3]
          (first | refine au ?_ | exact au0 | fail)
          exact ⟨fz_of, sub_of⟩
        · rw [if_neg h3]
          (first | refine au ?_ | exact au0 | fail)
          refine bsplit_dec (fun h4 => ?_) (fun h4 => ?_)
          · rw [if_pos h4]
            (first | refine au ?_ | exact au0 | fail)
            exact ⟨fz_of, sub_of⟩
          · rw [if_neg h4]
            (first | refine au ?_ | exact au0 | fail)
            have hs : ∀ s, skb l τ 1 s = isT l τ 1 s := fun s => by unfold skb; rw [decide_eq_true he]; rfl
            refine (skip_spec w hlt id 1 [84, 82, 85, 69]).call (by exact hg_of) (Sub.nil _) ?_
            unfold skp
            rw [hs]
            cases h5 : isT l τ 1 [84, 82, 85, 69] with
            | true =>
              (first | refine au ?_ | exact au0 | fail)
              exact ⟨fz_of, sub_of⟩
            | false =>
              (first | refine au ?_ | exact au0 | fail)
              refine (skip_spec w hlt id 1 [70, 65, 76, 83, 69]).call (by exact hg_of) (Sub.nil _) ?_
              unfold skp
              rw [hs]
              cases h6 : isT l τ 1 [70, 65, 76, 83, 69] with
              | true =>
                (first | refine au ?_ | exact au0 | fail)
                exact ⟨fz_of, sub_of⟩
              | false =>
                (first | refine au ?_ | exact au0 | fail)
                refine (path_spec w hlt id).call (by exact hg_of) (Sub.nil _) ?_
                (first | refine au ?_ | exact au0 | fail)
                exact ⟨fz_of, sub_of⟩
theorem relation_spec (t : Tok) (H : AH) : ACalls PG expr_relation.n [tkA t] H fun r H' => r = .int .i64 (relOf t : Nat) ∧ H' = H := by
  refine ACalls.fz (expr_relation.of rfl (wpF_start ?_))
  unfold relOf
  (first | refine au ?_ | exact au0 | fail)
  intro id1 hid1 ht1; have n1 := neAll_of hid1; (try simp only [neAll, neAll_hset] at n1); have m1 := n1; (repeat (obtain ⟨_, m1⟩ := m1))
  (first | refine au ?_ | exact au0 | fail)
  refine bsplit_dec (fun h1 => ?_) (fun h1 => ?_)
  · rw [if_neg h1]
    (first | refine au ?_ | exact au0 | fail)
    exact ⟨fz_of, sub_of⟩
  · rw [if_pos (Classical.not_not.1 h1)]
    unfold relT
    (repeat' (first | (refine au ?_; first | refine bsplit_dec (fun _ => ?_) (fun _ => ?_) | refine bsplit_intro (fun _ => ?_) (fun _ => ?_)) | exact au0 | fail)); (all_goals try (first | refine au ?_ | fail))
    all_goals (refine ⟨?_, sub_of⟩; rename_i h2; simp [*]; exact fz_of)
mutual
/-- A tree's cells. -/
def exR : Ex → List AV
  | .mk op rel args kids => [.int .i64 op, .int .i64 rel, .rows 4 (args.map fun o => [.int .i64 o.k, .str o.t, .bool o.neg, .int .u64 (o.num : Nat)]), .rows 4 (exRs kids)]
def exRs : List Ex → List (List AV)
  | [] => []
  | k :: ks => exR k :: exRs ks
end
abbrev opR (o : Opd) : List AV := [.int .i64 o.k, .str o.t, .bool o.neg, .int .u64 (o.num : Nat)]
abbrev exA (x : Ex) : AV := .agg (exR x)
theorem exRs_map : ∀ l : List Ex, exRs l = l.map exR
  | [] => rfl
  | k :: ks => by rw [exRs, exRs_map ks]; rfl
mutual
theorem exR_cl : ∀ (x : Ex), ∀ v ∈ exR x, Cl v
  | .mk op rel args kids => by
    intro v hv
    simp only [exR, List.mem_cons, List.not_mem_nil, or_false] at hv
    rcases hv with rfl | rfl | rfl | rfl
    · exact .int _ _
    · exact .int _ _
    · refine .rows _ _ fun r hr v hv => ?_
      obtain ⟨o, _, rfl⟩ := List.mem_map.1 hr
      simp only [List.mem_cons, List.not_mem_nil, or_false] at hv
      rcases hv with rfl | rfl | rfl | rfl
      · exact .int _ _
      · exact .str _
      · exact .bool _
      · exact .int _ _
    · exact .rows _ _ (exRs_cl kids)
theorem exRs_cl : ∀ (l : List Ex), ∀ r ∈ exRs l, ∀ v ∈ r, Cl v
  | [] => by simp [exRs]
  | k :: ks => by
    intro r hr
    simp only [exRs, List.mem_cons] at hr
    rcases hr with rfl | hr
    · exact exR_cl k
    · exact exRs_cl ks r hr
end
theorem exA_no (x : Ex) : NoId (exA x) := (Cl.agg _ (exR_cl x)).noId
theorem opA_no (o : Opd) : NoId (opA o) := NoId.plain rfl
theorem psB_n (l : List Tok) (σ τ : PSt) : BlkN (psB l σ) (psB l τ) := by
  intro r hr v hv
  simp only [List.mem_cons, List.not_mem_nil, or_false] at hr
  subst hr
  simp only [List.mem_cons, List.not_mem_nil, or_false] at hv
  rcases hv with rfl | rfl | rfl | rfl | rfl
  · exact .inr ⟨_, List.mem_cons_self, List.mem_cons_self⟩
  all_goals exact .inl (NoId.plain rfl)
theorem exR_len (x : Ex) : (exR x).length = 4 := by cases x; rfl
end Go.Proofs.Ytlmplofpclaokaa

/- Tests, walked. -/
namespace Go.Proofs.Ytlmplofpclaokaa
set_option autoImplicit false
set_option linter.unusedSimpArgs false
set_option linter.unusedVariables false
attribute [local irreducible] callA callP ACalls
set_option maxHeartbeats 1000000 in
theorem test_spec {l : List Tok} (w : Wt l) {σ : PSt} (h : σ.p < l.length) (id : Nat) : SW PG expr_parser_test.n [.ptr id 5 0 0] id (psB l σ) [] (exA (tst l σ).1) (psB l (tst l σ).2) := by
  have hw := w.len
  refine ACalls.fz (expr_parser_test.of rfl (wpF_start ?_))
  unfold tst
  (first | refine au ?_ | exact au0 | fail)
  intro id2 hid2 ht2; have n2 := neAll_of hid2; (try simp only [neAll, neAll_hset] at n2); have m2 := n2; (repeat (obtain ⟨_, m2⟩ := m2))
  (first | refine au ?_ | exact au0 | fail)
  have hG := Gd.opd w h
  refine (operand_spec w h id).call (by exact hg_of) (Sub.nil _) ?_
  generalize opd l σ = a at *
  obtain ⟨a, τ⟩ := a
  have hlt := hG.lt
  dsimp only at hlt hG ⊢
  (first | refine au ?_ | exact au0 | fail)
  intro id3 hid3 ht3; have n3 := neAll_of hid3; (try simp only [neAll, neAll_hset] at n3); have m3 := n3; (repeat (obtain ⟨_, m3⟩ := m3))
  (first | refine au ?_ | exact au0 | fail)
  refine (bad_spec l τ id).call (by exact hg_of) (Sub.nil _) ?_
  (first | refine au ?_ | exact au0 | fail)
  refine bsplit_dec (fun h1 => ?_) (fun h1 => ?_)
  · rw [if_neg h1]
    (first | refine au ?_ | exact au0 | fail)
    exact ⟨fz_of, sub_of⟩
  · have h1' := Classical.not_not.1 h1
    have hs : ∀ s, skb l τ 1 s = isT l τ 1 s := fun s => by unfold skb; rw [decide_eq_true h1']; rfl
    rw [if_pos h1']
    (first | refine au ?_ | exact au0 | fail)
    refine (now_spec w hlt id).call (by exact hg_of) (Sub.nil _) ?_
    (first | refine au ?_ | exact au0 | fail)
    refine callF_eq (relation_spec _ _) ?_
    (first | refine au ?_ | exact au0 | fail)
    refine bsplit_dec (fun h2 => ?_) (fun h2 => ?_)
    · rw [if_pos (by omega)]
      have hG2 := Gd.on w hlt (by rw [relOf_pos (by omega)]; decide)
      (first | refine ab ?_ | exact ab0 | fail)
      refine dPick (id := id) (b := psB l τ.on) (by exact hg_of) ?_
      (first | refine au ?_ | exact au0 | fail)
      refine (operand_spec w hG2.lt id).draw hget_self (Sub.nil _) (opA_no _) (psB_n _ _ _) ?_
      (first | refine au ?_ | exact au0 | fail)
      exact ⟨fz_of, sub_of⟩
    · rw [if_neg (by omega)]
      (first | refine au ?_ | exact au0 | fail)
      have qL := skip_spec w hlt id 1 [76, 73, 75, 69]
      have qN := skip_spec w hlt id 1 [78, 79, 84]
      unfold skp at qL
      rw [hs] at qL qN
      cases h3 : isT l τ 1 [76, 73, 75, 69] with
      | true =>
        rw [h3, if_pos rfl] at qL
        rw [if_pos rfl]
        have hG2 := Gd.on w hlt (by rw [(isT_ne h3).1]; decide)
        refine SW.call qL (by exact hg_of) (Sub.nil _) ?_
        (first | refine ab ?_ | exact ab0 | fail)
        refine dPick (id := id) (b := psB l τ.on) (by exact hg_of) ?_
        (first | refine au ?_ | exact au0 | fail)
        refine (operand_spec w hG2.lt id).draw hget_self (Sub.nil _) (opA_no _) (psB_n _ _ _) ?_
        (first | refine au ?_ | exact au0 | fail)
        exact ⟨fz_of, sub_of⟩
      | false =>
        rw [h3, if_neg (by decide)] at qL
        rw [if_neg (by decide)]
        refine SW.call qL (by exact hg_of) (Sub.nil _) ?_
        (first | refine au ?_ | exact au0 | fail)
        refine SW.call qN (by exact hg_of) (Sub.nil _) ?_
        clear qL qN
        have hG3 := Gd.skp w hlt (k := 1) (by decide) [78, 79, 84]
        generalize skp l τ 1 [78, 79, 84] = τ2 at *
        generalize isT l τ 1 [78, 79, 84] = nt at *
        unfold btw
        dsimp only
        have hG4 := Gd.mst w hG3.lt (k := 1) (by decide) [66, 69, 84, 87, 69, 69, 78]
        (first | refine au ?_ | exact au0 | fail)
        refine (must_spec w hG3.lt id 1 _).call (by exact hg_of) (Sub.nil _) ?_
        generalize mst l τ2 1 [66, 69, 84, 87, 69, 69, 78] = τ3 at *
        (first | refine au ?_ | exact au0 | fail)
        have hG5 := Gd.opd w hG4.lt
        refine (operand_spec w hG4.lt id).call (by exact hg_of) (Sub.nil _) ?_
        generalize opd l τ3 = b at *
        obtain ⟨b, τ4⟩ := b
        dsimp only at hG5 ⊢
        (first | refine au ?_ | exact au0 | fail)
        intro id6 hid6 ht6; have n6 := neAll_of hid6; (try simp only [neAll, neAll_hset] at n6); have m6 := n6; (repeat (obtain ⟨_, m6⟩ := m6))
        (first | refine au ?_ | exact au0 | fail)
        have hG6 := Gd.mst w hG5.lt (k := 1) (by decide) [65, 78, 68]
        refine (must_spec w hG5.lt id 1 _).call (by exact hg_of) (Sub.nil _) ?_
        generalize mst l τ4 1 [65, 78, 68] = τ5 at *
        (first | refine ab ?_ | exact ab0 | fail)
        refine dPick (id := id) (b := psB l τ5) (by exact hg_of) ?_
        (first | refine au ?_ | exact au0 | fail)
        refine (operand_spec w hG6.lt id).draw hget_self (Sub.nil _) (opA_no _) (psB_n _ _ _) ?_
        (first | refine au ?_ | exact au0 | fail)
        intro id7 hid7 ht7; have n7 := neAll_of hid7; (try simp only [neAll, neAll_hset] at n7); have m7 := n7; (repeat (obtain ⟨_, m7⟩ := m7))
        (first | refine au ?_ | exact au0 | fail)
        cases nt with
        | true =>
          (first | refine au ?_ | exact au0 | fail)
          exact ⟨fz_of, sub_of⟩
        | false =>
          (first | refine au ?_ | exact au0 | fail)
          exact ⟨fz_of, sub_of⟩
end Go.Proofs.Ytlmplofpclaokaa
