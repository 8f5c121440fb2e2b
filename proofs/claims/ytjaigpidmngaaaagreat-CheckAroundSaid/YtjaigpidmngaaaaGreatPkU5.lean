/- Texts of this proof, one behind the other: TokTake2, TokText, TokNext, TokLex, TokTokens, TokRefMath, ExprMath, ExprSizeMath, CheckMath, ExprSpec, ExprSpec2, CodeC, CheckSpec, ExprTest, ExprSpec3, ExprRefMath, ExprWt, TokRef5, TokRef6, TokLaw, ExprParse, ExprSame, ExprSizeSpec, CheckTree. -/
import Derived.Test.YtjaigpidmngaaaaGreatPkU4
import Derived.KernelRfl
set_option autoImplicit false
set_option linter.unusedSimpArgs false
set_option linter.unusedVariables false
namespace Go.Proofs.YtjaigpidmngaaaaGreat
attribute [local irreducible] callA callP ACalls
theorem pre2 (s p : List UInt8) (h : p.length = 2) : (decide (p.length ≤ s.length) && decide (s.take p.length = p)) = decide (s.take 2 = p) := by
  rw [h]
  by_cases e : s.take 2 = p
  · have := congrArg List.length e
    rw [List.length_take, h] at this
    simp [e]; omega
  · simp [e]
theorem token_sign_spec {s : List UInt8} {at' id : Nat} {H : AH} (hg : hget H id = some (lx s at')) (ha : at' < s.length) (hs : s.length ≤ 140737488351232) :
    ACalls PG token_sign.n [.ptr id 2 0 0] H (TkK s at' id H (.tok 5 ((s.drop at').take (if two (s.drop at') then 2 else 1)) 0 (if two (s.drop at') then 2 else 1))) := by
  have hdl : (s.drop at').length = s.length - at' := List.length_drop
  refine token_sign.of rfl (wpF_start ?_)
  (first | refine ah ?_ | exact ah0)
  intro id2 hid2 ht2
  (first | refine ah ?_ | exact ah0)
  intro id3 hid3 ht3
  have tw := Two.mk' hg hid2 hid3
  generalize ((id3, Blk.rows [AV.int .i64 0, AV.int .i64 0].length [[AV.int .i64 0, AV.int .i64 0]]) :: (id2, Blk.rows [AV.int .i64 0, AV.str [], AV.int .u64 0, AV.int .i64 0].length [[AV.int .i64 0, AV.str [], AV.int .u64 0, AV.int .i64 0]]) :: H) = H1 at *
  have hg1 := tw.keep _ _ hg
  have hg1' : hget H1 id = some (.rows 2 [[.str s, .int .i64 (at' : Nat)]]) := hg1
  have n2 := tw.n2
  have n3 := tw.n3
  have n32 := tw.n32
  have g2 : hget H1 id2 = some (.rows 4 [[.int .i64 0, .str [], .int .u64 0, .int .i64 0]]) := tw.g2
  have g3 : hget H1 id3 = some (.rows 2 [[.int .i64 0, .int .i64 0]]) := tw.g3
  (first | refine ah ?_ | exact ah0)
  refine ⟨fun n L H' => ∃ i : Nat, n = 3 - i ∧ i ≤ 3 ∧ L = [(0, some (.ptr id 2 0 0)), (2, some (.ptr id2 4 0 0)), (3, some (.ptr id3 2 0 0)), (6, some (.rows 1 [[.str [60, 62]], [.str [60, 61]], [.str [62, 61]]])), (7, some (.int .i64 3)), (8, some (.int .i64 i))] ∧ H' = H1 ∧
    (0 < i → (s.drop at').take 2 ≠ [60, 62]) ∧ (1 < i → (s.drop at').take 2 ≠ [60, 61]) ∧ (2 < i → (s.drop at').take 2 ≠ [62, 61]), ⟨_, H1, ?_, Sub.refl _, _, 0, rfl, Nat.zero_le _, rfl, rfl, (fun h => by omega), (fun h => by omega), (fun h => by omega)⟩, ?_⟩
  · exact (by exact cov_of)
  · rintro n L H' ⟨i, rfl, hi, rfl, rfl, w1, w2, w3⟩
    rcases (show i = 0 ∨ i = 1 ∨ i = 2 ∨ i = 3 from by omega) with rfl | rfl | rfl | rfl
    · (first | refine ah ?_ | exact ah0)
      refine callF_eq (lexer_rest_spec hg1 (by omega) hs) ?_
      (first | refine ah ?_ | exact ah0)
      refine callF_eq (strings_HasPrefix_spec _ _ _) ?_
      (first | refine ah ?_ | exact ah0)
      rw [pre2 _ [60, 62] rfl]
      refine bsplit_dec (fun e => ?_) (fun e => ?_)
      · have l2 := (congrArg List.length e).symm
        rw [List.length_take, hdl] at l2
        simp only [List.length_cons, List.length_nil] at l2
        (first | refine ah ?_ | exact ah0)
        refine callF_to (lexer_cut_spec (n := 2) hg1 (by omega) hs) ?_
        (first | refine ah ?_ | exact ah0)
        rw [show two (s.drop at') = true from by simp [two, e], if_pos rfl]
        refine TkK.of_tok rfl ?_ (fun j b q r => ?_)
        · exact hg_of
        · obtain ⟨q2, q3⟩ := tw.new j b r
          have := tw.keep j b r
          exact hg_of
      · (first | refine ah ?_ | exact ah0)
        refine ⟨[(0, some (.ptr id 2 0 0)), (2, some (.ptr id2 4 0 0)), (3, some (.ptr id3 2 0 0)), (6, some (.rows 1 [[.str [60, 62]], [.str [60, 61]], [.str [62, 61]]])), (7, some (.int .i64 3)), (8, some (.int .i64 (1 : Nat)))], H', (by exact cov_of), Sub.refl _, _, ?_, 1, rfl, by omega, rfl, rfl, (fun _ => e), (fun h => by omega), (fun h => by omega)⟩
        omega
    · (first | refine ah ?_ | exact ah0)
      refine callF_eq (lexer_rest_spec hg1 (by omega) hs) ?_
      (first | refine ah ?_ | exact ah0)
      refine callF_eq (strings_HasPrefix_spec _ _ _) ?_
      (first | refine ah ?_ | exact ah0)
      rw [pre2 _ [60, 61] rfl]
      refine bsplit_dec (fun e => ?_) (fun e => ?_)
      · have l2 := (congrArg List.length e).symm
        rw [List.length_take, hdl] at l2
        simp only [List.length_cons, List.length_nil] at l2
        (first | refine ah ?_ | exact ah0)
        refine callF_to (lexer_cut_spec (n := 2) hg1 (by omega) hs) ?_
        (first | refine ah ?_ | exact ah0)
        rw [show two (s.drop at') = true from by simp [two, e], if_pos rfl]
        refine TkK.of_tok rfl ?_ (fun j b q r => ?_)
        · exact hg_of
        · obtain ⟨q2, q3⟩ := tw.new j b r
          have := tw.keep j b r
          exact hg_of
      · (first | refine ah ?_ | exact ah0)
        refine ⟨[(0, some (.ptr id 2 0 0)), (2, some (.ptr id2 4 0 0)), (3, some (.ptr id3 2 0 0)), (6, some (.rows 1 [[.str [60, 62]], [.str [60, 61]], [.str [62, 61]]])), (7, some (.int .i64 3)), (8, some (.int .i64 (2 : Nat)))], H', (by exact cov_of), Sub.refl _, _, ?_, 2, rfl, by omega, rfl, rfl, (fun _ => w1 (by omega)), (fun _ => e), (fun h => by omega)⟩
        omega
    · (first | refine ah ?_ | exact ah0)
      refine callF_eq (lexer_rest_spec hg1 (by omega) hs) ?_
      (first | refine ah ?_ | exact ah0)
      refine callF_eq (strings_HasPrefix_spec _ _ _) ?_
      (first | refine ah ?_ | exact ah0)
      rw [pre2 _ [62, 61] rfl]
      refine bsplit_dec (fun e => ?_) (fun e => ?_)
      · have l2 := (congrArg List.length e).symm
        rw [List.length_take, hdl] at l2
        simp only [List.length_cons, List.length_nil] at l2
        (first | refine ah ?_ | exact ah0)
        refine callF_to (lexer_cut_spec (n := 2) hg1 (by omega) hs) ?_
        (first | refine ah ?_ | exact ah0)
        rw [show two (s.drop at') = true from by simp [two, e], if_pos rfl]
        refine TkK.of_tok rfl ?_ (fun j b q r => ?_)
        · exact hg_of
        · obtain ⟨q2, q3⟩ := tw.new j b r
          have := tw.keep j b r
          exact hg_of
      · (first | refine ah ?_ | exact ah0)
        refine ⟨[(0, some (.ptr id 2 0 0)), (2, some (.ptr id2 4 0 0)), (3, some (.ptr id3 2 0 0)), (6, some (.rows 1 [[.str [60, 62]], [.str [60, 61]], [.str [62, 61]]])), (7, some (.int .i64 3)), (8, some (.int .i64 (3 : Nat)))], H', (by exact cov_of), Sub.refl _, _, ?_, 3, rfl, by omega, rfl, rfl, (fun _ => w1 (by omega)), (fun _ => w2 (by omega)), (fun _ => e)⟩
        omega
    · (first | refine ah ?_ | exact ah0)
      refine callF_to (lexer_cut_spec (n := 1) hg1 (by omega) hs) ?_
      (first | refine ah ?_ | exact ah0)
      rw [show two (s.drop at') = false from by simp [two, w1 (by omega), w2 (by omega), w3 (by omega)], if_neg (by decide)]
      refine TkK.of_tok rfl ?_ (fun j b q r => ?_)
      · exact hg_of
      · obtain ⟨q2, q3⟩ := tw.new j b r
        have := tw.keep j b r
        exact hg_of
theorem token_param_spec {s : List UInt8} {at' id : Nat} {H : AH} (hg : hget H id = some (lx s at')) (ha : at' < s.length) (hs : s.length ≤ 140737488351232) :
    ACalls PG token_param.n [.ptr id 2 0 0] H (TkK s at' id H (if 2 ≤ (s.drop at').length ∧ dig ((s.drop at').getD 1 0) = true then .tok 4 ((s.drop at').take 2) (((s.drop at').getD 1 0).toNat - 48) 2 else .bad 11 0)) := by
  have hdl : (s.drop at').length = s.length - at' := List.length_drop
  refine token_param.of rfl (wpF_start ?_)
  (first | refine ah ?_ | exact ah0)
  intro id2 hid2 ht2
  (first | refine ah ?_ | exact ah0)
  intro id3 hid3 ht3
  have tw := Two.mk' hg hid2 hid3
  generalize ((id3, Blk.rows [AV.int .i64 0, AV.int .i64 0].length [[AV.int .i64 0, AV.int .i64 0]]) :: (id2, Blk.rows [AV.int .i64 0, AV.str [], AV.int .u64 0, AV.int .i64 0].length [[AV.int .i64 0, AV.str [], AV.int .u64 0, AV.int .i64 0]]) :: H) = H1 at *
  have hg1 := tw.keep _ _ hg
  have hg1' : hget H1 id = some (.rows 2 [[.str s, .int .i64 (at' : Nat)]]) := hg1
  have n2 := tw.n2
  have n3 := tw.n3
  have n32 := tw.n32
  have g2 : hget H1 id2 = some (.rows 4 [[.int .i64 0, .str [], .int .u64 0, .int .i64 0]]) := tw.g2
  have g3 : hget H1 id3 = some (.rows 2 [[.int .i64 0, .int .i64 0]]) := tw.g3
  (first | refine ah ?_ | exact ah0)
  refine callF_eq (lexer_rest_spec hg1 (by omega) hs) ?_
  (first | refine ah ?_ | exact ah0)
  refine bsplit_dec (fun e => ?_) (fun e => ?_)
  · (first | refine ah ?_ | exact ah0)
    rw [if_neg (fun h => by have := h.1; omega)]
    refine TkK.of_bad rfl (fun j b q r => ?_)
    obtain ⟨q2, q3⟩ := tw.new j b r
    have := tw.keep j b r
    exact hg_of
  · (first | refine ah ?_ | exact ah0)
    refine callF_eq (lexer_rest_spec hg1 (by omega) hs) ?_
    (first | refine ah ?_ | exact ah0)
    refine callF_eq (token_digit_spec _ _) ?_
    (first | refine ah ?_ | exact ah0)
    refine bsplit_intro (fun h => ?_) (fun h => ?_)
    · (first | refine ah ?_ | exact ah0)
      refine callF_to (lexer_cut_spec (n := 2) hg1 (by omega) hs) ?_
      (first | refine ah ?_ | exact ah0)
      intro id4 hid4 ht4
      have f4 : id4 ≠ id := hget_ne_of hid4 (hget_set hg1)
      have f42 : id4 ≠ id2 := hget_ne_of hid4 ((hget_set_ne n2).trans g2)
      have f43 : id4 ≠ id3 := hget_ne_of hid4 ((hget_set_ne n3).trans g3)
      have htk : ((s.drop at').take 2).length = 2 := by rw [List.length_take]; omega
      have hgd : ((s.drop at').take 2).getD (Int.toNat 1) 0 = (s.drop at').getD (Int.toNat 1) 0 := by simp [List.getElem?_take]
      have hdg := (dig_iff _).1 h
      have hpos : 2 ≤ (List.drop at' s).length ∧ dig ((List.drop at' s).getD 1 0) = true := ⟨by omega, h⟩
      (first | refine ah ?_ | exact ah0)
      rw [hgd]
      (first | refine ah ?_ | exact ah0)
      rw [if_pos hpos]
      have hsub : (((((List.drop at' s).getD 1 0).toNat - 48 : Nat)) : Int) = (((List.drop at' s).getD 1 0).toNat : Int) - 48 := by
        have : 48 ≤ ((List.drop at' s).getD 1 0).toNat := hdg.1
        omega
      refine TkK.of_tok (by unfold tokA; rw [hsub]; rfl) ?_ (fun j b q r => ?_)
      · exact hg_of
      · obtain ⟨q2, q3⟩ := tw.new j b r
        have q4 : j ≠ id4 := (hget_ne_of hid4 ((hget_set_ne q).trans (tw.keep j b r))).symm
        have := tw.keep j b r
        exact hg_of
    · (first | refine ah ?_ | exact ah0)
      rw [if_neg (fun e2 => by have := e2.2; simp_all)]
      refine TkK.of_bad rfl (fun j b q r => ?_)
      obtain ⟨q2, q3⟩ := tw.new j b r
      have := tw.keep j b r
      exact hg_of
theorem numV_snoc (l : List UInt8) (c : UInt8) : numV (l ++ [c]) = 10 * numV l + (c.toNat - 48) := by simp [numV]
theorem numV_ge : ∀ (l : List UInt8) (a : Nat), a ≤ l.foldl (fun a c => 10 * a + (c.toNat - 48)) a
  | [], a => Nat.le_refl _
  | c :: l, a => Nat.le_trans (by omega) (numV_ge l (10 * a + (c.toNat - 48)))
theorem numV_mono (r : List UInt8) {i n : Nat} (h : i ≤ n) : numV (r.take i) ≤ numV (r.take n) := by
  rw [← List.take_append_drop i (r.take n), List.take_take, Nat.min_eq_left h]
  unfold numV
  rw [List.foldl_append]
  exact numV_ge _ _
theorem token_number_spec {s : List UInt8} {at' id : Nat} {H : AH} (hg : hget H id = some (lx s at')) (ha : at' < s.length) (hd : dig ((s.drop at').getD 0 0) = true) (hs : s.length ≤ 140737488351232) :
    ACalls PG token_number.n [.ptr id 2 0 0] H (TkK s at' id H (
      if 1 < dl (s.drop at') ∧ (s.drop at').getD 0 0 = 48 then .bad 1 0
      else if numV ((s.drop at').take (dl (s.drop at'))) < 18446744073709551616 then .tok 2 ((s.drop at').take (dl (s.drop at'))) (numV ((s.drop at').take (dl (s.drop at')))) (dl (s.drop at'))
      else .bad 7 0)) := by
  have hdl : (s.drop at').length = s.length - at' := List.length_drop
  generalize hr : s.drop at' = r at *
  have hle := dl_le r
  have h1l : 0 < dl r := (dl_step (n := 0) (Nat.zero_le _) (by omega)).2 hd
  refine token_number.of rfl (wpF_start ?_)
  (first | refine ah ?_ | exact ah0)
  intro id2 hid2 ht2
  (first | refine ah ?_ | exact ah0)
  intro id3 hid3 ht3
  have tw := Two.mk' hg hid2 hid3
  generalize ((id3, Blk.rows [AV.int .i64 0, AV.int .i64 0].length [[AV.int .i64 0, AV.int .i64 0]]) :: (id2, Blk.rows [AV.int .i64 0, AV.str [], AV.int .u64 0, AV.int .i64 0].length [[AV.int .i64 0, AV.str [], AV.int .u64 0, AV.int .i64 0]]) :: H) = H1 at *
  have hg1 := tw.keep _ _ hg
  have hg1' : hget H1 id = some (.rows 2 [[.str s, .int .i64 (at' : Nat)]]) := hg1
  have n2 := tw.n2
  have n3 := tw.n3
  have n32 := tw.n32
  have g2 : hget H1 id2 = some (.rows 4 [[.int .i64 0, .str [], .int .u64 0, .int .i64 0]]) := tw.g2
  have g3 : hget H1 id3 = some (.rows 2 [[.int .i64 0, .int .i64 0]]) := tw.g3
  (first | refine ac ?_ | exact ac0)
  refine .inr ⟨[(0, some (.ptr id 2 0 0)), (2, some (.ptr id2 4 0 0)), (3, some (.ptr id3 2 0 0)), (4, some (.int .i64 (dl r : Nat)))], H1, ?_, ?_⟩
  · (first | refine ah ?_ | exact ah0)
    refine ⟨fun n L H' => ∃ i : Nat, n = r.length - i ∧ i ≤ dl r ∧ L = [(0, some (.ptr id 2 0 0)), (2, some (.ptr id2 4 0 0)), (3, some (.ptr id3 2 0 0)), (4, some (.int .i64 i))] ∧ H' = H1, ⟨_, H1, ?_, Sub.refl _, _, 0, rfl, Nat.zero_le _, rfl, rfl⟩, ?_⟩
    · exact (by exact cov_of)
    · rintro n L H' ⟨i, rfl, hi, rfl, rfl⟩
      (first | refine ah ?_ | exact ah0)
      refine callF_eq (lexer_rest_spec hg1 (by omega) hs) ?_
      rw [hr]
      (first | refine ah ?_ | exact ah0)
      refine bsplit_dec (fun h1 => ?_) (fun h1 => ?_)
      · have hst := dl_step hi (by omega)
        (first | refine ah ?_ | exact ah0)
        refine callF_eq (lexer_rest_spec hg1 (by omega) hs) ?_
        rw [hr]
        (first | refine ah ?_ | exact ah0)
        refine callF_eq (token_digit_spec _ _) ?_
        rw [show dig (r.getD (i : Int).toNat 0) = decide (i < dl r) from bool_iff hst.symm]
        (first | refine ah ?_ | exact ah0)
        refine bsplit_dec (fun h2 => ?_) (fun h2 => ?_)
        · (first | refine ah ?_ | exact ah0)
          refine ⟨[(0, some (.ptr id 2 0 0)), (2, some (.ptr id2 4 0 0)), (3, some (.ptr id3 2 0 0)), (4, some (.int .i64 (i + 1 : Nat)))], H', (by exact cov_of), Sub.refl _, _, ?_, i + 1, rfl, by omega, rfl, rfl⟩
          omega
        · (first | refine ah ?_ | exact ah0)
          obtain rfl : i = dl r := by omega
          exact ⟨(by exact cov_of), Sub.refl _⟩
      · (first | refine ah ?_ | exact ah0)
        obtain rfl : i = dl r := by omega
        exact ⟨(by exact cov_of), Sub.refl _⟩
  · (first | refine ah ?_ | exact ah0)
    refine callF_to (lexer_cut_spec (n := dl r) hg1 (by omega) hs) ?_
    (first | refine ah ?_ | exact ah0)
    intro id5 hid5 ht5
    have f5 : id5 ≠ id := hget_ne_of hid5 (hget_set hg1)
    have f52 : id5 ≠ id2 := hget_ne_of hid5 ((hget_set_ne n2).trans g2)
    have f53 : id5 ≠ id3 := hget_ne_of hid5 ((hget_set_ne n3).trans g3)
    rw [hr]
    have i3 : hget (hset H1 id (lx s (at' + dl r))) id = some (lx s (at' + dl r)) := hget_set hg1
    have i32 : hget (hset H1 id (lx s (at' + dl r))) id2 = some (.rows 4 [[.int .i64 0, .str [], .int .u64 0, .int .i64 0]]) := (hget_set_ne n2).trans g2
    have i33 : hget (hset H1 id (lx s (at' + dl r))) id3 = some (.rows 2 [[.int .i64 0, .int .i64 0]]) := (hget_set_ne n3).trans g3
    have kp : ∀ j b, j ≠ id → hget H j = some b → hget (hset H1 id (lx s (at' + dl r))) j = some b ∧ j ≠ id2 ∧ j ≠ id3 ∧ j ≠ id5 := fun j b q r =>
      have q5 := (hget_set_ne q).trans (tw.keep j b r)
      ⟨q5, (tw.new j b r).1, (tw.new j b r).2, (hget_ne_of hid5 q5).symm⟩
    generalize hset H1 id (lx s (at' + dl r)) = H3 at *
    have htl : (r.take (dl r)).length = dl r := by rw [List.length_take]; omega
    have ht0 : (r.take (dl r)).getD (Int.toNat 0) 0 = r.getD 0 0 := by simp [List.getElem?_take, h1l]
    by_cases hz : 1 < dl r ∧ r.getD 0 0 = 48
    · have hz1 := hz.1
      rw [if_pos hz]
      (first | refine ah ?_ | exact ah0)
      rw [ht0, hz.2]
      (first | refine ah ?_ | exact ah0)
      refine TkK.of_bad rfl (fun j b q r => ?_)
      obtain ⟨q0, q2, q3, q5⟩ := kp j b q r
      exact hg_of
    · rw [if_neg hz]
      (first | refine ac ?_ | exact ac0)
      refine .inr ⟨[(0, some (.ptr id 2 0 0)), (2, some (.ptr id2 4 0 0)), (3, some (.ptr id3 2 0 0)), (4, some (.int .i64 (dl r : Nat))), (5, some (.ptr id5 4 0 0))], (id5, tkB 2 (r.take (dl r)) 0 at') :: H3, ?_, ?_⟩
      · (first | refine ah ?_ | exact ah0)
        refine bsplit_dec (fun e1 => ?_) (fun e1 => ?_)
        · (first | refine ah ?_ | exact ah0)
          rw [ht0]
          refine bsplit_dec (fun e2 => ?_) (fun e2 => ?_)
          · exact absurd ⟨by omega, (u8lit _ 48 (by decide)).1 e2⟩ hz
          · (first | refine ah ?_ | exact ah0)
            exact ⟨(by exact cov_of), Sub.refl _⟩
        · (first | refine ah ?_ | exact ah0)
          exact ⟨(by exact cov_of), Sub.refl _⟩
      · (first | refine ah ?_ | exact ah0)
        refine ⟨fun n L H' => ∃ i : Nat, n = dl r - i ∧ i ≤ dl r ∧ numV (r.take i) < 18446744073709551616 ∧ L = [(0, some (.ptr id 2 0 0)), (2, some (.ptr id2 4 0 0)), (3, some (.ptr id3 2 0 0)), (5, some (.ptr id5 4 0 0)), (37, some (.int .i64 (dl r : Nat))), (38, some (.int .i64 i))] ∧ H' = (id5, tkB 2 (r.take (dl r)) (numV (r.take i) : Nat) at') :: H3,
          ⟨_, (id5, tkB 2 (r.take (dl r)) 0 at') :: H3, ?_, Sub.refl _, _, 0, rfl, Nat.zero_le _, by simp [numV], rfl, rfl⟩, ?_⟩
        · exact (by exact cov_of)
        · rintro n L H' ⟨i, rfl, hi, hv, rfl, rfl⟩
          (first | refine ah ?_ | exact ah0)
          refine bsplit_dec (fun e1 => ?_) (fun e1 => ?_)
          · have hil : i < dl r := by omega
            have hdi := (dig_iff _).1 ((dl_step hi (by omega)).1 hil)
            have hti : (r.take (dl r)).getD (i : Int).toNat 0 = r.getD i 0 := by simp [List.getElem?_take, hil]
            have hsn : numV (r.take (i + 1)) = 10 * numV (r.take i) + ((r.getD i 0).toNat - 48) := by rw [take_at r 0 i (by omega), numV_snoc]
            (first | refine ah ?_ | exact ah0)
            rw [hti]
            (first | refine ah ?_ | exact ah0)
            refine bsplit_dec (fun e2 => ?_) (fun e2 => ?_)
            · have hm := numV_mono r (show i + 1 ≤ dl r from hil)
              (first | refine ah ?_ | exact ah0)
              rw [if_neg (by omega)]
              refine TkK.of_bad rfl (fun j b q r => ?_)
              obtain ⟨q0, q2, q3, q5⟩ := kp j b q r
              exact hg_of
            · (first | refine ah ?_ | exact ah0)
              refine ⟨[(0, some (.ptr id 2 0 0)), (2, some (.ptr id2 4 0 0)), (3, some (.ptr id3 2 0 0)), (5, some (.ptr id5 4 0 0)), (37, some (.int .i64 (dl r : Nat))), (38, some (.int .i64 (i + 1 : Nat)))], (id5, tkB 2 (r.take (dl r)) (numV (r.take (i + 1)) : Nat) at') :: H3,
                (by exact cov_of), ?_, _, ?_, i + 1, rfl, by omega, by omega, rfl, rfl⟩
              · rw [show ((numV (r.take (i + 1)) : Nat) : Int) = 10 * (numV (r.take i) : Nat) + (((r.getD i 0).toNat : Int) - 48) from by omega]
                exact Sub.refl _
              · omega
          · obtain rfl : i = dl r := by omega
            (first | refine ah ?_ | exact ah0)
            rw [if_pos hv]
            refine TkK.of_tok rfl ?_ (fun j b q r => ?_)
            · exact hg_of
            · skip
              obtain ⟨q0, q2, q3, q5⟩ := kp j b q r
              exact hg_of
end Go.Proofs.YtjaigpidmngaaaaGreat

namespace Go.Proofs.YtjaigpidmngaaaaGreat
attribute [local irreducible] callA callP ACalls
theorem Bld.hset {H : AH} {id j : Nat} {ob : Option Nat} {l : List UInt8} {X : Blk} (h : Bld H id ob l) (h1 : j ≠ id) (h2 : ob ≠ some j) : Bld (hset H j X) id ob l := by
  obtain ⟨ht, p, v, hg, hp, hv⟩ := h
  refine ⟨ht, p, v, (hget_set_ne h1.symm).trans hg, hp, ?_⟩
  rcases hv with hv | ⟨idb, q1, q2, q3, q4, q5⟩
  · exact .inl hv
  · exact .inr ⟨idb, q1, q2, (hget_set_ne (fun e => h2 (by rw [q1, e]))).trans q3, q4, q5⟩
structure TI (s : List UInt8) (at' id : Nat) (H : AH) (id2 id3 id4 id5 : Nat) (ob : Option Nat) (i : Nat) (acc : List UInt8) (H' : AH) : Prop where
  g : hget H' id = some (.rows 2 [[.str s, .int .i64 (at' + i : Nat)]])
  g2 : hget H' id2 = some (.rows 4 [[.int .i64 0, .str [], .int .u64 0, .int .i64 0]])
  g3 : hget H' id3 = some (.rows 2 [[.int .i64 0, .int .i64 0]])
  g4 : hget H' id4 = some (.rows 4 [[.int .i64 3, .str [], .int .u64 0, .int .i64 at']])
  b : Bld H' id5 ob acc
  n2 : id ≠ id2
  n3 : id ≠ id3
  n4 : id ≠ id4
  n5 : id ≠ id5
  n23 : id2 ≠ id3
  n24 : id2 ≠ id4
  n25 : id2 ≠ id5
  n34 : id3 ≠ id4
  n35 : id3 ≠ id5
  n45 : id4 ≠ id5
  o : ob ≠ some id
  o2 : ob ≠ some id2
  o3 : ob ≠ some id3
  o4 : ob ≠ some id4
  k : ∀ j b, j ≠ id → hget H j = some b → hget H' j = some b ∧ j ≠ id2 ∧ j ≠ id3 ∧ j ≠ id4 ∧ j ≠ id5 ∧ ob ≠ some j
theorem TI.step {s : List UInt8} {at' id : Nat} {H : AH} {id2 id3 id4 id5 : Nat} {ob : Option Nat} {i i' : Nat} {acc : List UInt8} {H' : AH} (h : TI s at' id H id2 id3 id4 id5 ob i acc H'):
    TI s at' id H id2 id3 id4 id5 ob i' acc (hset H' id (.rows 2 [[.str s, .int .i64 (at' + i' : Nat)]])) :=
  { h with
    g := hget_set h.g
    g2 := (hget_set_ne h.n2.symm).trans h.g2
    g3 := (hget_set_ne h.n3.symm).trans h.g3
    g4 := (hget_set_ne h.n4.symm).trans h.g4
    b := h.b.hset h.n5 h.o
    k := fun j b q r => ⟨(hget_set_ne q).trans (h.k j b q r).1, (h.k j b q r).2⟩ }
theorem TI.write {s : List UInt8} {at' id : Nat} {H : AH} {id2 id3 id4 id5 : Nat} {ob : Option Nat} {i : Nat} {acc : List UInt8} {H' H2 : AH} {c : UInt8} {idb : Nat} (h : TI s at' id H id2 id3 id4 id5 ob i acc H')
    (h1 : Bld H2 id5 (some idb) (acc ++ [c])) (h2 : hget H' idb = none ∨ ob = some idb) (h3 : ∀ j b, j ≠ id5 → ob ≠ some j → hget H' j = some b → hget H2 j = some b) : TI s at' id H id2 id3 id4 id5 (some idb) i (acc ++ [c]) H2 := by
  have ne : ∀ j b, ob ≠ some j → hget H' j = some b → (some idb : Option Nat) ≠ some j := by
    intro j b q1 q2 e
    cases e
    rcases h2 with h2 | h2
    · rw [h2] at q2; cases q2
    · exact q1 h2
  exact { h with
    g := h3 _ _ h.n5 h.o h.g
    g2 := h3 _ _ h.n25 h.o2 h.g2
    g3 := h3 _ _ h.n35 h.o3 h.g3
    g4 := h3 _ _ h.n45 h.o4 h.g4
    b := h1
    o := ne _ _ h.o h.g
    o2 := ne _ _ h.o2 h.g2
    o3 := ne _ _ h.o3 h.g3
    o4 := ne _ _ h.o4 h.g4
    k := fun j b q r => let ⟨k1, k2, k3, k4, k5, k6⟩ := h.k j b q r; ⟨h3 _ _ k5 k6 k1, k2, k3, k4, k5, ne _ _ k6 k1⟩ }
theorem qs_step (c : UInt8) (r : List UInt8) (i : Nat) (acc : List UInt8) : qs (c :: r) i acc =
    if c.toNat < 32 ∨ 126 < c.toNat then .odd i else if c = 39 then (if r.take 1 = [39] then qs (r.drop 1) (i + 2) (acc ++ [39]) else .done acc (i + 1)) else qs r (i + 1) (acc ++ [c]) := by
  cases r with
  | nil =>
    simp only [qs, List.take_nil, List.drop_nil]
    rw [if_neg (show ¬ ([] : List UInt8) = [39] from by simp)]
  | cons d r =>
    simp only [qs, List.take_succ_cons, List.take_zero, List.drop_succ_cons, List.drop_zero, List.cons.injEq, and_true]
theorem token_text_spec {s : List UInt8} {at' id : Nat} {H : AH} (hg : hget H id = some (lx s at')) (ha : at' < s.length) (hs : s.length ≤ 140737488351232) :
    ACalls PG token_text.n [.ptr id 2 0 0] H (TkK s at' id H (match qs (s.drop (at' + 1)) 1 [] with
      | .done t n => .tok 3 t 0 n
      | .odd i => .bad 10 i
      | .short => .bad 2 0)) := by
  refine token_text.of rfl (wpF_start ?_)
  (first | refine ah ?_ | exact ah0)
  intro id2 hid2 ht2
  (first | refine ah ?_ | exact ah0)
  intro id3 hid3 ht3
  have tw := Two.mk' hg hid2 hid3
  generalize ((id3, Blk.rows [AV.int .i64 0, AV.int .i64 0].length [[AV.int .i64 0, AV.int .i64 0]]) :: (id2, Blk.rows [AV.int .i64 0, AV.str [], AV.int .u64 0, AV.int .i64 0].length [[AV.int .i64 0, AV.str [], AV.int .u64 0, AV.int .i64 0]]) :: H) = H1 at *
  have hg1 := tw.keep _ _ hg
  have hg1' : hget H1 id = some (.rows 2 [[.str s, .int .i64 (at' : Nat)]]) := hg1
  have n2 := tw.n2
  have n3 := tw.n3
  have n32 := tw.n32
  have g2 : hget H1 id2 = some (.rows 4 [[.int .i64 0, .str [], .int .u64 0, .int .i64 0]]) := tw.g2
  have g3 : hget H1 id3 = some (.rows 2 [[.int .i64 0, .int .i64 0]]) := tw.g3
  (first | refine ah ?_ | exact ah0)
  intro id4 hid4 ht4
  have f4 : id4 ≠ id := hget_ne_of hid4 hg1
  have f42 : id4 ≠ id2 := hget_ne_of hid4 g2
  have f43 : id4 ≠ id3 := hget_ne_of hid4 g3
  (first | refine ah ?_ | exact ah0)
  intro id5 hid5 ht5
  have f5 : id5 ≠ id := hget_ne_of hid5 ((hget_tail f4).trans hg1)
  have f52 : id5 ≠ id2 := hget_ne_of hid5 ((hget_tail f42).trans g2)
  have f53 : id5 ≠ id3 := hget_ne_of hid5 ((hget_tail f43).trans g3)
  have f54 : id5 ≠ id4 := hget_ne_of hid5 hget_self
  (first | refine ah ?_ | exact ah0)
  have T0 : TI s at' id H id2 id3 id4 id5 none 1 [] ((id5, .rows 2 [[.nilP, .nilS]]) :: (id4, tkB 3 [] 0 at') :: hset H1 id (.rows 2 [[.str s, .int .i64 (at' + 1 : Nat)]])) :=
    { g := (hget_tail f5).trans ((hget_tail f4).trans (hget_set hg1))
      g2 := (hget_tail f52).trans ((hget_tail f42).trans ((hget_set_ne n2).trans g2))
      g3 := (hget_tail f53).trans ((hget_tail f43).trans ((hget_set_ne n3).trans g3))
      g4 := (hget_tail f54).trans hget_self
      b := ⟨ht5, .nilP, .nilS, hget_self, .inl rfl, .inl ⟨rfl, rfl, rfl⟩⟩
      n2 := n2.symm
      n3 := n3.symm
      n4 := f4.symm
      n5 := f5.symm
      n23 := n32.symm
      n24 := f42.symm
      n25 := f52.symm
      n34 := f43.symm
      n35 := f53.symm
      n45 := f54.symm
      o := fun e => by cases e
      o2 := fun e => by cases e
      o3 := fun e => by cases e
      o4 := fun e => by cases e
      k := fun j b q r => by
        have k1 := tw.keep j b r
        have k4 := hget_ne_of hid4 k1
        have k5 := hget_ne_of hid5 ((hget_tail k4).trans k1)
        exact ⟨(hget_tail k5).trans ((hget_tail k4).trans ((hget_set_ne q).trans k1)), (tw.new j b r).1, (tw.new j b r).2, k4.symm, k5.symm, fun e => by cases e⟩ }
  generalize hR : qs (s.drop (at' + 1)) 1 [] = R
  refine ⟨fun n L H' => ∃ (i : Nat) (acc : List UInt8) (ob : Option Nat), n = s.length - (at' + i) ∧ at' + i ≤ s.length ∧ acc.length ≤ i ∧ qs (s.drop (at' + i)) i acc = R ∧
    L = [(0, some (.ptr id 2 0 0)), (2, some (.ptr id2 4 0 0)), (3, some (.ptr id3 2 0 0)), (4, some (.ptr id4 4 0 0)), (5, some (.ptr id5 2 0 0))] ∧ TI s at' id H id2 id3 id4 id5 ob i acc H', ⟨_, _, ?_, ?_, _, 1, [], none, rfl, by omega, by simp, hR, rfl, T0⟩, ?_⟩
  · exact (by exact cov_of)
  · rw [show ((at' + 1 : Nat) : Int) = (at' : Int) + 1 from by omega]
    exact Sub.refl _
  · clear hid2 hid3 hid4 hid5 hg1 hg1' g2 g3 tw T0 hR
    rintro n L H' ⟨i, acc, ob, rfl, hi, hl, hq, rfl, T⟩
    have g := T.g
    have g2 := T.g2
    have g3 := T.g3
    have g4 := T.g4
    (first | refine ah ?_ | exact ah0)
    refine bsplit_dec (fun h1 => ?_) (fun h1 => ?_)
    · have hlt : at' + i < s.length := by omega
      have hdr : s.drop (at' + i) = s.getD (at' + i) 0 :: s.drop (at' + i + 1) := drop_at s 0 (at' + i) hlt
      rw [hdr, qs_step] at hq
      (first | refine ah ?_ | exact ah0)
      rw [Int.toNat_natCast]
      have gl : hget H' id = some (lx s (at' + i)) := g
      have hdl : (s.drop (at' + i + 1)).length = s.length - (at' + i + 1) := List.length_drop
      generalize s.getD (at' + i) 0 = c at *
      by_cases ho : c.toNat < 32 ∨ 126 < c.toNat
      · rw [if_pos ho] at hq
        subst hq
        refine bsplit_dec (fun e1 => ?_) (fun e1 => ?_)
        · (first | refine ah ?_ | exact ah0)
          refine TkK.of_bad rfl (fun j b q r => ?_)
          obtain ⟨k1, k2, k3, k4, k5, k6⟩ := T.k j b q r
          exact hg_of
        · (first | refine ah ?_ | exact ah0)
          refine TkK.of_bad rfl (fun j b q r => ?_)
          obtain ⟨k1, k2, k3, k4, k5, k6⟩ := T.k j b q r
          exact hg_of
      · rw [if_neg ho] at hq
        by_cases h39 : c = 39
        · subst h39
          rw [if_pos rfl] at hq
          (first | refine ah ?_ | exact ah0)
          refine callF_eq (lexer_rest_spec gl (by omega) hs) ?_
          (first | refine ah ?_ | exact ah0)
          refine callF_eq (strings_HasPrefix_spec _ _ _) ?_
          rw [pre2 _ [39, 39] rfl, hdr, show decide (List.take 2 (39 :: List.drop (at' + i + 1) s) = [39, 39]) = decide (List.take 1 (List.drop (at' + i + 1) s) = [39]) from decide_eq_decide.2 (by simp)]
          (first | refine ah ?_ | exact ah0)
          refine bsplit_dec (fun h2 => ?_) (fun h2 => ?_)
          · rw [if_pos h2] at hq
            have h2l := congrArg List.length h2
            rw [List.length_take, hdl, List.length_singleton] at h2l
            (first | refine ah ?_ | exact ah0)
            refine callF_of ((WriteByte_spec T.b (by omega)).mono fun rr H2 hh => ?_)
            obtain ⟨rfl, idb, b1, b2, b3⟩ := hh
            have T2 := T.write b1 b2 b3
            have g' := T2.g
            (first | refine ah ?_ | exact ah0)
            refine ⟨[(0, some (.ptr id 2 0 0)), (2, some (.ptr id2 4 0 0)), (3, some (.ptr id3 2 0 0)), (4, some (.ptr id4 4 0 0)), (5, some (.ptr id5 2 0 0))], _, (by exact cov_of), Sub.refl _, s.length - (at' + (i + 2)), by omega, i + 2, acc ++ [39], some idb, rfl, by omega, by simp; omega, ?_, rfl, ?_⟩
            · rw [← hq, List.drop_drop]
              rfl
            · have e1 : ((at' + i : Nat) : Int) + 1 = ((at' + (i + 1) : Nat) : Int) := by omega
              have e2 : ((at' + i : Nat) : Int) + 1 + 1 = ((at' + (i + 2) : Nat) : Int) := by omega
              have T4 := (T2.step (i' := i + 1)).step (i' := i + 2)
              rw [← e1, ← e2] at T4
              exact T4
          · rw [if_neg h2] at hq
            subst hq
            have T3 := T.step (i' := i + 1)
            rw [show ((at' + (i + 1) : Nat) : Int) = ((at' + i : Nat) : Int) + 1 from by omega] at T3
            (first | refine ah ?_ | exact ah0)
            refine callF_of ((String_spec T3.b (by omega)).mono fun rr H2 hh => ?_)
            obtain ⟨rfl, b3⟩ := hh
            have q1 := b3 _ _ T3.o T3.g
            have q2 := b3 _ _ T3.o2 T3.g2
            have q3 := b3 _ _ T3.o3 T3.g3
            have q4 := b3 _ _ T3.o4 T3.g4
            (first | refine ah ?_ | exact ah0)
            refine TkK.of_tok rfl ?_ (fun j b q r => ?_)
            · have e1 : ((at' + i : Nat) : Int) + 1 = ((at' + (i + 1) : Nat) : Int) := by omega
              have q1' : hget H2 id = some (lx s (at' + (i + 1))) := by unfold lx; rw [← e1]; exact q1
              have := T.n2
              have := T.n3
              have := T.n4
              exact hg_of
            · obtain ⟨k1, k2, k3, k4, k5, k6⟩ := T3.k j b q r
              have := b3 _ _ k6 k1
              exact hg_of
        · rw [if_neg h39] at hq
          have hne : c.toNat ≠ 39 := fun e => h39 ((nat_eq c 39 (by decide)).2 e)
          (first | refine ah ?_ | exact ah0)
          refine callF_of ((WriteByte_spec T.b (by omega)).mono fun rr H2 hh => ?_)
          obtain ⟨rfl, idb, b1, b2, b3⟩ := hh
          have T2 := T.write b1 b2 b3
          have g' := T2.g
          (first | refine ah ?_ | exact ah0)
          refine ⟨[(0, some (.ptr id 2 0 0)), (2, some (.ptr id2 4 0 0)), (3, some (.ptr id3 2 0 0)), (4, some (.ptr id4 4 0 0)), (5, some (.ptr id5 2 0 0))], _, (by exact cov_of), Sub.refl _, s.length - (at' + (i + 1)), by omega, i + 1, acc ++ [c], some idb, rfl, by omega, by simp; omega, hq, rfl, ?_⟩
          have e1 : ((at' + i : Nat) : Int) + 1 = ((at' + (i + 1) : Nat) : Int) := by omega
          have T4 := T2.step (i' := i + 1)
          rw [← e1] at T4
          exact T4
    · have hnil : s.drop (at' + i) = [] := List.drop_eq_nil_of_le (by omega)
      rw [hnil] at hq
      subst hq
      (first | refine ah ?_ | exact ah0)
      refine TkK.of_bad rfl (fun j b q r => ?_)
      obtain ⟨k1, k2, k3, k4, k5, k6⟩ := T.k j b q r
      exact hg_of
end Go.Proofs.YtjaigpidmngaaaaGreat

namespace Go.Proofs.YtjaigpidmngaaaaGreat
attribute [local irreducible] callA callP ACalls
abbrev kindsV : List (List AV) := [[.clo token_kinds_1.n [] [], .clo token_word.n [] []], [.clo token_digit.n [] [], .clo token_number.n [] []], [.clo token_kinds_2.n [] [], .clo token_text.n [] []], [.clo token_kinds_3.n [] [], .clo token_param.n [] []], [.clo token_kinds_4.n [] [], .clo token_sign.n [] []]]
theorem token_kinds_spec (H : AH) : ACalls PG token_kinds.n [] H fun r H' => r = .rows 2 kindsV ∧ H' = H := by
  refine token_kinds.of rfl (wpF_start ?_)
  (first | refine ah ?_ | exact ah0)
theorem TkK.opened {s : List UInt8} {at' id : Nat} {H : AH} {R : LR} {r : AV} {H2 : AH} (h : TkK s at' id H R r H2) : ∃ k t num a e p, r = .tup [tokA k t num a, fltA e p] ∧
    ∀ H0 H' : AH, (∀ b, hget H2 id = some b → hget H' id = some b) → Keep id H0 H' → TkK s at' id H0 R r H' := by
  cases hR : R with
  | tok k t num n =>
    obtain ⟨rfl, h2⟩ := h.tok k t num n hR
    exact ⟨k, t, num, at', 0, 0, rfl, fun H0 H' q1 q2 => .of_tok rfl (q1 _ h2) q2⟩
  | bad e off =>
    obtain ⟨k, t, num, a, rfl⟩ := h.bad e off hR
    exact ⟨k, t, num, a, e, _, rfl, fun H0 H' q1 q2 => .of_bad rfl q2⟩
theorem TkK.cong {s : List UInt8} {at' id : Nat} {H : AH} {R R' : LR} {r : AV} {H2 : AH} (h : TkK s at' id H R r H2) (e : R' = R) : TkK s at' id H R' r H2 := by rw [e]; exact h
theorem lex_word (c : UInt8) (r : List UInt8) (h : ltr c = true) : lex (c :: r) = .tok 1 ((c :: r).take (nl (c :: r))) 0 (nl (c :: r)) := by simp only [lex, h, if_true]
theorem lex_num (c : UInt8) (r : List UInt8) (h1 : ltr c = false) (h2 : dig c = true) : lex (c :: r) =
    (if 1 < dl (c :: r) ∧ (c :: r).getD 0 0 = 48 then .bad 1 0
      else if numV ((c :: r).take (dl (c :: r))) < 18446744073709551616 then .tok 2 ((c :: r).take (dl (c :: r))) (numV ((c :: r).take (dl (c :: r)))) (dl (c :: r))
      else .bad 7 0) := by
  simp only [lex, h1, h2, if_true, Bool.false_eq_true, if_false, List.getD_cons_zero]
theorem lex_text (r : List UInt8) : lex (39 :: r) = (match qs r 1 [] with
      | .done t n => .tok 3 t 0 n
      | .odd i => .bad 10 i
      | .short => .bad 2 0) := rfl
theorem lex_param (r : List UInt8) : lex (37 :: r) = (if 2 ≤ (37 :: r).length ∧ dig ((37 :: r).getD 1 0) = true then .tok 4 ((37 :: r).take 2) (((37 :: r).getD 1 0).toNat - 48) 2 else .bad 11 0) := by
  cases r with
  | nil => rfl
  | cons d r =>
    simp only [List.getD_cons_succ, List.getD_cons_zero, List.take_succ_cons, List.take_zero, List.length_cons]
    show (if dig d = true then _ else _) = _
    by_cases h : dig d = true
    · rw [if_pos h, if_pos ⟨by omega, h⟩]
    · rw [if_neg h, if_neg (fun q => h q.2)]
theorem lex_sign (c : UInt8) (r : List UInt8) (h1 : ltr c = false) (h2 : dig c = false) (h3 : c ≠ 39) (h4 : c ≠ 37) (h5 : sgn c = true) : lex (c :: r) = .tok 5 ((c :: r).take (if two (c :: r) then 2 else 1)) 0 (if two (c :: r) then 2 else 1) := by
  simp only [lex, h1, h2, h3, h4, h5, if_true, Bool.false_eq_true, if_false]
theorem lex_none (c : UInt8) (r : List UInt8) (h1 : ltr c = false) (h2 : dig c = false) (h3 : c ≠ 39) (h4 : c ≠ 37) (h5 : sgn c = false) : lex (c :: r) = .bad 11 0 := by
  simp only [lex, h1, h2, h3, h4, h5, Bool.false_eq_true, if_false]
theorem lexer_next_spec {s : List UInt8} {at' id : Nat} {H : AH} (hg : hget H id = some (lx s at')) (ha : at' < s.length) (hs : s.length ≤ 140737488351232) :
    ACalls PG token_lexer_next.n [.ptr id 2 0 0] H (TkK s at' id H (lex (s.drop at'))) := by
  have hdr : s.drop at' = s.getD at' 0 :: s.drop (at' + 1) := drop_at s 0 at' ha
  refine token_lexer_next.of rfl (wpF_start ?_)
  (first | refine ah ?_ | exact ah0)
  intro id2 hid2 ht2
  (first | refine ah ?_ | exact ah0)
  intro id3 hid3 ht3
  have tw := Two.mk' hg hid2 hid3
  generalize ((id3, Blk.rows [AV.int .i64 0, AV.int .i64 0].length [[AV.int .i64 0, AV.int .i64 0]]) :: (id2, Blk.rows [AV.int .i64 0, AV.str [], AV.int .u64 0, AV.int .i64 0].length [[AV.int .i64 0, AV.str [], AV.int .u64 0, AV.int .i64 0]]) :: H) = H1 at *
  have hg1 := tw.keep _ _ hg
  have hg1' : hget H1 id = some (.rows 2 [[.str s, .int .i64 (at' : Nat)]]) := hg1
  have n2 := tw.n2
  have n3 := tw.n3
  have n32 := tw.n32
  have g2 : hget H1 id2 = some (.rows 4 [[.int .i64 0, .str [], .int .u64 0, .int .i64 0]]) := tw.g2
  have g3 : hget H1 id3 = some (.rows 2 [[.int .i64 0, .int .i64 0]]) := tw.g3
  (first | refine ah ?_ | exact ah0)
  refine callF_eq (token_kinds_spec _) ?_
  (first | refine ah ?_ | exact ah0)
  generalize hc : s.getD at' 0 = c at *
  refine ⟨fun n L H' => ∃ i : Nat, n = 5 - i ∧ i ≤ 5 ∧ L = [(0, some (.ptr id 2 0 0)), (2, some (.ptr id2 4 0 0)), (3, some (.ptr id3 2 0 0)), (6, some (.rows 2 kindsV)), (7, some (.int .i64 5)), (8, some (.int .i64 i))] ∧ H' = H1 ∧
    (0 < i → ltr c = false) ∧ (1 < i → dig c = false) ∧ (2 < i → c ≠ 39) ∧ (3 < i → c ≠ 37) ∧ (4 < i → sgn c = false), ⟨_, H1, ?_, Sub.refl _, _, 0, rfl, Nat.zero_le _, rfl, rfl, (fun h => by omega), (fun h => by omega), (fun h => by omega), (fun h => by omega), (fun h => by omega)⟩, ?_⟩
  · exact (by exact cov_of)
  · rintro n L H' ⟨i, rfl, hi, rfl, rfl, w1, w2, w3, w4, w5⟩
    rcases (show i = 0 ∨ i = 1 ∨ i = 2 ∨ i = 3 ∨ i = 4 ∨ i = 5 from by omega) with rfl | rfl | rfl | rfl | rfl | rfl
    · (first | refine ah ?_ | exact ah0)
      intro id5 hid5 ht5
      have f5 : id5 ≠ id := hget_ne_of hid5 hg1
      have f52 : id5 ≠ id2 := hget_ne_of hid5 g2
      have f53 : id5 ≠ id3 := hget_ne_of hid5 g3
      (first | refine ah ?_ | exact ah0)
      rw [Int.toNat_natCast, hc]
      refine callF_eq (kinds1_spec c _) ?_
      (first | refine ah ?_ | exact ah0)
      refine bsplit_intro (fun e => ?_) (fun e => ?_)
      · (first | refine ah ?_ | exact ah0)
        refine callF_of ((token_word_spec (s := s) (at' := at') (by exact hg_of) (by omega) hs).mono fun rr H2 hh => ?_)
        replace hh := hh.cong (R' := lex (s.drop at')) (by rw [hdr, lex_word c _ e])
        have k2 := hh.keep id2 _ n2 ((hget_tail f52).trans g2)
        have k3 := hh.keep id3 _ n3 ((hget_tail f53).trans g3)
        obtain ⟨k, t, num, a, e', p, rfl, fin⟩ := hh.opened
        (first | refine ah ?_ | exact ah0)
        refine fin H _ (fun b q => by exact hg_of) (fun j b q r => ?_)
        have r1 := tw.keep j b r
        have q5 := hget_ne_of hid5 r1
        have r2 := hh.keep j b q ((hget_tail q5).trans r1)
        obtain ⟨q2, q3⟩ := tw.new j b r
        exact hg_of
      · (first | refine ah ?_ | exact ah0)
        refine ⟨[(0, some (.ptr id 2 0 0)), (2, some (.ptr id2 4 0 0)), (3, some (.ptr id3 2 0 0)), (6, some (.rows 2 kindsV)), (7, some (.int .i64 5)), (8, some (.int .i64 (1 : Nat)))], H', (by exact cov_of), Sub.skip (Sub.refl _) hid5, _, ?_, 1, rfl, by omega, rfl, rfl, (fun _ => e), (fun h => by omega), (fun h => by omega), (fun h => by omega), (fun h => by omega)⟩
        omega
    · (first | refine ah ?_ | exact ah0)
      intro id5 hid5 ht5
      have f5 : id5 ≠ id := hget_ne_of hid5 hg1
      have f52 : id5 ≠ id2 := hget_ne_of hid5 g2
      have f53 : id5 ≠ id3 := hget_ne_of hid5 g3
      (first | refine ah ?_ | exact ah0)
      rw [Int.toNat_natCast, hc]
      refine callF_eq (token_digit_spec c _) ?_
      (first | refine ah ?_ | exact ah0)
      refine bsplit_intro (fun e => ?_) (fun e => ?_)
      · (first | refine ah ?_ | exact ah0)
        refine callF_of ((token_number_spec (s := s) (at' := at') (by exact hg_of) (by omega) (by rw [hdr]; exact e) hs).mono fun rr H2 hh => ?_)
        replace hh := hh.cong (R' := lex (s.drop at')) (by rw [hdr, lex_num c _ (w1 (by omega)) e])
        have k2 := hh.keep id2 _ n2 ((hget_tail f52).trans g2)
        have k3 := hh.keep id3 _ n3 ((hget_tail f53).trans g3)
        obtain ⟨k, t, num, a, e', p, rfl, fin⟩ := hh.opened
        (first | refine ah ?_ | exact ah0)
        refine fin H _ (fun b q => by exact hg_of) (fun j b q r => ?_)
        have r1 := tw.keep j b r
        have q5 := hget_ne_of hid5 r1
        have r2 := hh.keep j b q ((hget_tail q5).trans r1)
        obtain ⟨q2, q3⟩ := tw.new j b r
        exact hg_of
      · (first | refine ah ?_ | exact ah0)
        refine ⟨[(0, some (.ptr id 2 0 0)), (2, some (.ptr id2 4 0 0)), (3, some (.ptr id3 2 0 0)), (6, some (.rows 2 kindsV)), (7, some (.int .i64 5)), (8, some (.int .i64 (2 : Nat)))], H', (by exact cov_of), Sub.skip (Sub.refl _) hid5, _, ?_, 2, rfl, by omega, rfl, rfl, (fun _ => w1 (by omega)), (fun _ => e), (fun h => by omega), (fun h => by omega), (fun h => by omega)⟩
        omega
    · (first | refine ah ?_ | exact ah0)
      intro id5 hid5 ht5
      have f5 : id5 ≠ id := hget_ne_of hid5 hg1
      have f52 : id5 ≠ id2 := hget_ne_of hid5 g2
      have f53 : id5 ≠ id3 := hget_ne_of hid5 g3
      (first | refine ah ?_ | exact ah0)
      rw [Int.toNat_natCast, hc]
      refine callF_eq (kinds2_spec c _) ?_
      (first | refine ah ?_ | exact ah0)
      refine bsplit_dec (fun e => ?_) (fun e => ?_)
      · (first | refine ah ?_ | exact ah0)
        refine callF_of ((token_text_spec (s := s) (at' := at') (by exact hg_of) (by omega) hs).mono fun rr H2 hh => ?_)
        replace hh := hh.cong (R' := lex (s.drop at')) (by rw [hdr, e]; exact lex_text _)
        have k2 := hh.keep id2 _ n2 ((hget_tail f52).trans g2)
        have k3 := hh.keep id3 _ n3 ((hget_tail f53).trans g3)
        obtain ⟨k, t, num, a, e', p, rfl, fin⟩ := hh.opened
        (first | refine ah ?_ | exact ah0)
        refine fin H _ (fun b q => by exact hg_of) (fun j b q r => ?_)
        have r1 := tw.keep j b r
        have q5 := hget_ne_of hid5 r1
        have r2 := hh.keep j b q ((hget_tail q5).trans r1)
        obtain ⟨q2, q3⟩ := tw.new j b r
        exact hg_of
      · (first | refine ah ?_ | exact ah0)
        refine ⟨[(0, some (.ptr id 2 0 0)), (2, some (.ptr id2 4 0 0)), (3, some (.ptr id3 2 0 0)), (6, some (.rows 2 kindsV)), (7, some (.int .i64 5)), (8, some (.int .i64 (3 : Nat)))], H', (by exact cov_of), Sub.skip (Sub.refl _) hid5, _, ?_, 3, rfl, by omega, rfl, rfl, (fun _ => w1 (by omega)), (fun _ => w2 (by omega)), (fun _ => e), (fun h => by omega), (fun h => by omega)⟩
        omega
    · (first | refine ah ?_ | exact ah0)
      intro id5 hid5 ht5
      have f5 : id5 ≠ id := hget_ne_of hid5 hg1
      have f52 : id5 ≠ id2 := hget_ne_of hid5 g2
      have f53 : id5 ≠ id3 := hget_ne_of hid5 g3
      (first | refine ah ?_ | exact ah0)
      rw [Int.toNat_natCast, hc]
      refine callF_eq (kinds3_spec c _) ?_
      (first | refine ah ?_ | exact ah0)
      refine bsplit_dec (fun e => ?_) (fun e => ?_)
      · (first | refine ah ?_ | exact ah0)
        refine callF_of ((token_param_spec (s := s) (at' := at') (by exact hg_of) (by omega) hs).mono fun rr H2 hh => ?_)
        replace hh := hh.cong (R' := lex (s.drop at')) (by rw [hdr, e]; exact lex_param _)
        have k2 := hh.keep id2 _ n2 ((hget_tail f52).trans g2)
        have k3 := hh.keep id3 _ n3 ((hget_tail f53).trans g3)
        obtain ⟨k, t, num, a, e', p, rfl, fin⟩ := hh.opened
        (first | refine ah ?_ | exact ah0)
        refine fin H _ (fun b q => by exact hg_of) (fun j b q r => ?_)
        have r1 := tw.keep j b r
        have q5 := hget_ne_of hid5 r1
        have r2 := hh.keep j b q ((hget_tail q5).trans r1)
        obtain ⟨q2, q3⟩ := tw.new j b r
        exact hg_of
      · (first | refine ah ?_ | exact ah0)
        refine ⟨[(0, some (.ptr id 2 0 0)), (2, some (.ptr id2 4 0 0)), (3, some (.ptr id3 2 0 0)), (6, some (.rows 2 kindsV)), (7, some (.int .i64 5)), (8, some (.int .i64 (4 : Nat)))], H', (by exact cov_of), Sub.skip (Sub.refl _) hid5, _, ?_, 4, rfl, by omega, rfl, rfl, (fun _ => w1 (by omega)), (fun _ => w2 (by omega)), (fun _ => w3 (by omega)), (fun _ => e), (fun h => by omega)⟩
        omega
    · (first | refine ah ?_ | exact ah0)
      intro id5 hid5 ht5
      have f5 : id5 ≠ id := hget_ne_of hid5 hg1
      have f52 : id5 ≠ id2 := hget_ne_of hid5 g2
      have f53 : id5 ≠ id3 := hget_ne_of hid5 g3
      (first | refine ah ?_ | exact ah0)
      rw [Int.toNat_natCast, hc]
      refine callF_eq (kinds4_spec c _) ?_
      (first | refine ah ?_ | exact ah0)
      refine bsplit_intro (fun e => ?_) (fun e => ?_)
      · (first | refine ah ?_ | exact ah0)
        refine callF_of ((token_sign_spec (s := s) (at' := at') (by exact hg_of) (by omega) hs).mono fun rr H2 hh => ?_)
        replace hh := hh.cong (R' := lex (s.drop at')) (by rw [hdr, lex_sign c _ (w1 (by omega)) (w2 (by omega)) (w3 (by omega)) (w4 (by omega)) e])
        have k2 := hh.keep id2 _ n2 ((hget_tail f52).trans g2)
        have k3 := hh.keep id3 _ n3 ((hget_tail f53).trans g3)
        obtain ⟨k, t, num, a, e', p, rfl, fin⟩ := hh.opened
        (first | refine ah ?_ | exact ah0)
        refine fin H _ (fun b q => by exact hg_of) (fun j b q r => ?_)
        have r1 := tw.keep j b r
        have q5 := hget_ne_of hid5 r1
        have r2 := hh.keep j b q ((hget_tail q5).trans r1)
        obtain ⟨q2, q3⟩ := tw.new j b r
        exact hg_of
      · (first | refine ah ?_ | exact ah0)
        refine ⟨[(0, some (.ptr id 2 0 0)), (2, some (.ptr id2 4 0 0)), (3, some (.ptr id3 2 0 0)), (6, some (.rows 2 kindsV)), (7, some (.int .i64 5)), (8, some (.int .i64 (5 : Nat)))], H', (by exact cov_of), Sub.skip (Sub.refl _) hid5, _, ?_, 5, rfl, by omega, rfl, rfl, (fun _ => w1 (by omega)), (fun _ => w2 (by omega)), (fun _ => w3 (by omega)), (fun _ => w4 (by omega)), (fun _ => e)⟩
        omega
    · (first | refine ah ?_ | exact ah0)
      rw [hdr, lex_none c _ (w1 (by omega)) (w2 (by omega)) (w3 (by omega)) (w4 (by omega)) (w5 (by omega))]
      refine TkK.of_bad rfl (fun j b q r => ?_)
      obtain ⟨q2, q3⟩ := tw.new j b r
      have := tw.keep j b r
      exact hg_of
end Go.Proofs.YtjaigpidmngaaaaGreat

namespace Go.Proofs.YtjaigpidmngaaaaGreat
theorem qs_bound : ∀ (m : Nat) (r : List UInt8) (i : Nat) (acc t : List UInt8) (n : Nat), r.length ≤ m → qs r i acc = .done t n → i < n ∧ n ≤ i + r.length
  | m, [], i, acc, t, n, _, h => by cases h
  | m, [c], i, acc, t, n, _, h => by
    simp only [qs] at h
    split at h
    · cases h
    · split at h
      · cases h; simp
      · cases h
  | 0, c :: d :: r, i, acc, t, n, hm, h => by simp at hm
  | m + 1, c :: d :: r, i, acc, t, n, hm, h => by
    simp only [List.length_cons] at hm ⊢
    simp only [qs] at h
    split at h
    · cases h
    · split at h
      · split at h
        · have := qs_bound m r _ _ t n (by omega) h
          omega
        · cases h; omega
      · have := qs_bound m (d :: r) _ _ t n (by simp; omega) h
        simp only [List.length_cons] at this
        omega
theorem lex_cons (c : UInt8) (r : List UInt8) : lex (c :: r) =
    if ltr c then .tok 1 ((c :: r).take (nl (c :: r))) 0 (nl (c :: r))
    else if dig c then
      if 1 < dl (c :: r) ∧ c = 48 then .bad 1 0
      else if numV ((c :: r).take (dl (c :: r))) < 18446744073709551616 then .tok 2 ((c :: r).take (dl (c :: r))) (numV ((c :: r).take (dl (c :: r)))) (dl (c :: r))
      else .bad 7 0
    else if c = 39 then match qs r 1 [] with
      | .done t n => .tok 3 t 0 n
      | .odd i => .bad 10 i
      | .short => .bad 2 0
    else if c = 37 then match r with
      | d :: _ => if dig d then .tok 4 [37, d] (d.toNat - 48) 2 else .bad 11 0
      | [] => .bad 11 0
    else if sgn c then .tok 5 ((c :: r).take (if two (c :: r) then 2 else 1)) 0 (if two (c :: r) then 2 else 1)
    else .bad 11 0 := rfl
theorem lex_bound {l : List UInt8} {k : Int} {t : List UInt8} {num n : Nat} (h : lex l = .tok k t num n) : 1 ≤ n ∧ n ≤ l.length := by
  cases l with
  | nil => cases h
  | cons c r =>
    rw [lex_cons] at h
    split at h
    · rename_i hc
      cases h
      refine ⟨?_, nl_le _⟩
      rw [nl_cons, if_pos hc]; omega
    · split at h
      · rename_i hd
        have h1 : 1 ≤ dl (c :: r) := (dl_step (s := c :: r) (n := 0) (Nat.zero_le _) (by simp)).2 hd
        split at h
        · cases h
        · split at h
          · cases h; exact ⟨h1, dl_le _⟩
          · cases h
      · split at h
        · split at h
          · rename_i e; cases h
            have := qs_bound _ _ _ _ _ _ (Nat.le_refl _) e
            simp only [List.length_cons]; omega
          · cases h
          · cases h
        · split at h
          · split at h
            · split at h
              · cases h; simp
              · cases h
            · cases h
          · split at h
            · cases h
              split
              · rename_i h2
                refine ⟨by omega, ?_⟩
                cases r with
                | nil => simp [two] at h2
                | cons d r => simp
              · simp
            · cases h
theorem lex_err {l : List UInt8} {e : Int} {off : Nat} (h : lex l = .bad e off) : 0 < e ∧ e < 100 := by
  cases l with
  | nil => cases h; decide
  | cons c r =>
    rw [lex_cons] at h
    repeat' split at h
    all_goals first | (cases h; decide) | cases h
inductive TR where
  | ok (l : List (Int × List UInt8 × Nat × Nat))
  | bad (e : Int) (p : Nat)
def TR.pre (l : List (Int × List UInt8 × Nat × Nat)) : TR → TR
  | .ok l' => .ok (l ++ l')
  | .bad e p => .bad e p
theorem TR.pre_pre (l l' : List (Int × List UInt8 × Nat × Nat)) (R : TR) : TR.pre l (TR.pre l' R) = TR.pre (l ++ l') R := by cases R <;> simp [TR.pre]
theorem TR.pre_nil (R : TR) : TR.pre [] R = R := by cases R <;> rfl
def tks (s : List UInt8) (a n : Nat) : TR :=
    if a < s.length then
      if blnk (s.getD a 0) then tks s (a + 1) n
      else match lex (s.drop a) with
        | .bad e off => .bad e (a + off)
        | .tok k t num m => if n = 64 then .bad 3 a else TR.pre [(k, t, num, a)] (tks s (a + (m - 1) + 1) (n + 1))
    else .ok [(6, [], 0, s.length)]
  termination_by s.length - a
  decreasing_by all_goals omega
theorem tks_end {s : List UInt8} {a n : Nat} (h : s.length ≤ a) : tks s a n = .ok [(6, [], 0, s.length)] := by
  rw [tks, if_neg (by omega)]
theorem tks_eq {s : List UInt8} {a n : Nat} (h : a < s.length) : tks s a n =
    if blnk (s.getD a 0) then tks s (a + 1) n
      else match lex (s.drop a) with
        | .bad e off => .bad e (a + off)
        | .tok k t num m => if n = 64 then .bad 3 a else TR.pre [(k, t, num, a)] (tks s (a + m) (n + 1)) := by
  rw [tks, if_pos h]
  split
  · rfl
  · split
    · rfl
    · rename_i k t num m e
      have := lex_bound e
      rw [show a + (m - 1) + 1 = a + m from by omega]
def tokens (s : List UInt8) : TR := if 256 < s.length then .bad 3 0 else tks s 0 0
end Go.Proofs.YtjaigpidmngaaaaGreat

namespace Go.Proofs.YtjaigpidmngaaaaGreat
attribute [local irreducible] callA callP ACalls
structure OwnS (H : AH) (T sz : Nat) (v : AV) (l : List (List AV)) : Prop where
  or : (v = .nilS ∧ l = []) ∨ ∃ id, v = .own id sz 0 l.length ∧ hget H id = some (.rows sz l) ∧ tag id = T ∧ 0 < l.length
abbrev tkR (x : Int × List UInt8 × Nat × Nat) : List AV := [.int .i64 x.1, .str x.2.1, .int .u64 (x.2.2.1 : Nat), .int .i64 (x.2.2.2 : Nat)]
theorem tkR_len (l : List (Int × List UInt8 × Nat × Nat)) : ∀ (i : Nat) r, (l.map tkR)[i]? = some r → r.length = 4 := by
  intro i r h
  rw [List.getElem?_map] at h
  cases hh : l[i]? with
  | none => rw [hh] at h; cases h
  | some x => rw [hh] at h; simp at h; rw [← h]; rfl
structure TS (s : List UInt8) (id3 id4 at' : Nat) (v : AV) (l : List (Int × List UInt8 × Nat × Nat)) (H : AH) : Prop where
  g4 : hget H id4 = some (.rows 2 [[.str s, .int .i64 (at' : Nat)]])
  g3 : hget H id3 = some (.rows 2 [[.int .i64 0, .int .i64 0]])
  n : id3 ≠ id4
  s : OwnS H ty_api_Token 4 v (l.map tkR)
  len : l.length ≤ 64
theorem TS.own {s : List UInt8} {id3 id4 at' : Nat} {v : AV} {l : List (Int × List UInt8 × Nat × Nat)} {H : AH} (h : TS s id3 id4 at' v l H) : (v = .nilS ∧ l = []) ∨ ∃ id, v = .own id 4 0 l.length ∧ hget H id = some (.rows 4 (l.map tkR)) ∧ tag id = ty_api_Token ∧ 0 < l.length ∧ id ≠ id3 ∧ id ≠ id4 := by
  rcases h.s.or with ⟨q1, q2⟩ | ⟨id, q1, q2, q3, q4⟩
  · exact .inl ⟨q1, by simpa using q2⟩
  · refine .inr ⟨id, by rw [q1, List.length_map], q2, q3, by simpa using q4, fun e => ?_, fun e => ?_⟩
    · rw [e, h.g3] at q2; cases q2
    · rw [e, h.g4] at q2; cases q2
theorem TS.step {s : List UInt8} {id3 id4 at' b' : Nat} {v : AV} {l : List (Int × List UInt8 × Nat × Nat)} {H : AH} (h : TS s id3 id4 at' v l H) : TS s id3 id4 b' v l (hset H id4 (.rows 2 [[.str s, .int .i64 (b' : Nat)]])) := by
  refine ⟨hget_set h.g4, (hget_set_ne h.n).trans h.g3, h.n, ⟨?_⟩, h.len⟩
  rcases h.own with ⟨q1, q2⟩ | ⟨id, q1, q2, q3, q4, q5, q6⟩
  · exact .inl ⟨q1, by rw [q2]; rfl⟩
  · exact .inr ⟨id, by rw [q1, List.length_map], (hget_set_ne q6).trans q2, q3, by simpa using q4⟩
structure TokO (R : TR) (r : AV) (H : AH) : Prop where
  ok : ∀ l, R = .ok l → ∃ id, r = .tup [.own id 4 0 l.length, fltA 0 0] ∧ hget H id = some (.rows 4 (l.map tkR))
  bad : ∀ e p, R = .bad e p → r = .tup [.nilS, fltA e (p : Nat)]
theorem TokO.of_bad {e : Int} {p : Nat} {r : AV} {H : AH} (h : r = .tup [.nilS, fltA e (p : Nat)]) : TokO (.bad e p) r H := ⟨(fun _ q => by cases q), fun e p q => by cases q; exact h⟩
theorem TokO.of_ok {l : List (Int × List UInt8 × Nat × Nat)} {r : AV} {H : AH} {id : Nat} (h : r = .tup [.own id 4 0 l.length, fltA 0 0]) (h2 : hget H id = some (.rows 4 (l.map tkR))) : TokO (.ok l) r H :=
  ⟨fun _ q => by cases q; exact ⟨id, h, h2⟩, fun _ _ q => by cases q⟩
def bl (s : List UInt8) (a : Nat) : Nat := ((s.drop a).takeWhile blnk).length
theorem bl_step {s : List UInt8} {a i : Nat} (hi : i ≤ bl s a) (h : a + i < s.length) : i < bl s a ↔ blnk (s.getD (a + i) 0) = true := by
  have := tw_step (f := blnk) (r := s.drop a) (n := i) hi (by rw [List.length_drop]; omega)
  rw [show (s.drop a).getD i 0 = s.getD (a + i) 0 from by simp [List.getD]] at this
  exact this
theorem bl_stop (s : List UInt8) (a : Nat) : a + bl s a < s.length → blnk (s.getD (a + bl s a) 0) = false := fun h => by
  have := bl_step (Nat.le_refl (bl s a)) h
  cases hh : blnk (s.getD (a + bl s a) 0) with
  | false => rfl
  | true => exact absurd (this.2 hh) (Nat.lt_irrefl _)
theorem tks_skip (s : List UInt8) (a n : Nat) : tks s a n = tks s (a + bl s a) n := by
  have key : ∀ i, i ≤ bl s a → tks s a n = tks s (a + i) n := by
    intro i
    induction i with
    | zero => intro _; rfl
    | succ i ih =>
      intro h
      rw [ih (by omega)]
      have hl : a + i < s.length := by
        have := (List.takeWhile_prefix (l := s.drop a) blnk).length_le
        rw [List.length_drop] at this
        unfold bl at h
        omega
      rw [tks_eq hl, if_pos ((bl_step (by omega) hl).1 (by omega))]
      rfl
  exact key _ (Nat.le_refl _)
set_option maxHeartbeats 1000000 in
theorem Tokens_spec0 {s : List UInt8} (hs : s.length ≤ 140737488351232) : ACalls PG token_Tokens.n [.str s] [] (TokO (tokens s)) := by
  refine token_Tokens.of rfl (wpF_start ?_)
  unfold tokens
  (first | refine ah ?_ | exact ah0)
  intro id3 hid3 ht3
  (first | refine ah ?_ | exact ah0)
  refine bsplit_dec (fun e1 => ?_) (fun e1 => ?_)
  · (first | refine ah ?_ | exact ah0)
    rw [if_pos (by omega)]
    exact TokO.of_bad rfl
  · rw [if_neg (by omega)]
    have hle : s.length ≤ 256 := by omega
    (first | refine ah ?_ | exact ah0)
    intro id4 hid4 ht4
    have n34 : id3 ≠ id4 := (hget_fresh hid4).1.symm
    (first | refine ah ?_ | exact ah0)
    generalize hR : tks s 0 0 = R
    refine ⟨fun n L H' => ∃ (a : Nat) (v : AV) (l : List (Int × List UInt8 × Nat × Nat)), n = s.length - a ∧ a ≤ s.length ∧ TR.pre l (tks s a l.length) = R ∧ L = [(0, some (.str s)), (3, some (.ptr id3 2 0 0)), (4, some (.ptr id4 2 0 0)), (5, some v)] ∧ TS s id3 id4 a v l H',
      ⟨_, _, ?_, Sub.refl _, _, 0, .nilS, [], rfl, Nat.zero_le _, (TR.pre_nil _).trans hR, rfl, ?_⟩, ?_⟩
    · exact (by exact cov_of)
    · exact ⟨hget_self, (hget_tail n34.symm).trans hget_self, n34, ⟨.inl ⟨rfl, rfl⟩⟩, by simp⟩
    · clear hid3 hid4 hR
      rintro n L H' ⟨a, v, l, rfl, ha, hR, rfl, T⟩
      have g4 := T.g4
      have hbl : bl s a ≤ s.length - a := by
        have := (List.takeWhile_prefix (l := s.drop a) blnk).length_le
        rw [List.length_drop] at this
        exact this
      (first | refine ac ?_ | exact ac0)
      refine .inr ⟨[(0, some (.str s)), (3, some (.ptr id3 2 0 0)), (4, some (.ptr id4 2 0 0)), (5, some v)], hset H' id4 (.rows 2 [[.str s, .int .i64 (a + bl s a : Nat)]]), ?_, ?_⟩
      · (first | refine ah ?_ | exact ah0)
        refine ⟨fun n L H'' => ∃ i, n = bl s a - i ∧ i ≤ bl s a ∧ L = [(0, some (.str s)), (3, some (.ptr id3 2 0 0)), (4, some (.ptr id4 2 0 0)), (5, some v)] ∧ H'' = hset H' id4 (.rows 2 [[.str s, .int .i64 (a + i : Nat)]]), ⟨_, hset H' id4 (.rows 2 [[.str s, .int .i64 (a + 0 : Nat)]]), ?_, sub_hset g4 (fun _ _ _ q => q), _, 0, rfl, Nat.zero_le _, rfl, rfl⟩, ?_⟩
        · exact (by exact cov_of)
        · rintro n L H'' ⟨i, rfl, hi, rfl, rfl⟩
          have g : hget (hset H' id4 (.rows 2 [[.str s, .int .i64 (a + i : Nat)]])) id4 = some (.rows 2 [[.str s, .int .i64 (a + i : Nat)]]) := hget_set g4
          have hst := bl_step (s := s) (a := a) (i := i) hi
          (first | refine ah ?_ | exact ah0)
          refine bsplit_dec (fun e2 => ?_) (fun e2 => ?_)
          · (first | refine ah ?_ | exact ah0)
            refine callF_eq (token_blank_spec _ _) ?_
            rw [Int.toNat_natCast, show blnk (s.getD (a + i) 0) = decide (i < bl s a) from bool_iff (hst (by omega)).symm]
            (first | refine ah ?_ | exact ah0)
            refine bsplit_dec (fun e3 => ?_) (fun e3 => ?_)
            · (first | refine ah ?_ | exact ah0)
              refine ⟨[(0, some (.str s)), (3, some (.ptr id3 2 0 0)), (4, some (.ptr id4 2 0 0)), (5, some v)], hset H' id4 (.rows 2 [[.str s, .int .i64 (a + (i + 1) : Nat)]]), (by exact cov_of), ?_, _, ?_, i + 1, rfl, by omega, rfl, rfl⟩
              · rw [show ((a + (i + 1) : Nat) : Int) = ((a + i : Nat) : Int) + 1 from by omega]
                exact sub_hset (hget_set g) (fun j c q1 q2 => (hget_set_ne q1).trans ((hget_set_ne q1).trans q2))
              · omega
            · (first | refine ah ?_ | exact ah0)
              obtain rfl : i = bl s a := by omega
              exact ⟨(by exact cov_of), Sub.refl _⟩
          · (first | refine ah ?_ | exact ah0)
            obtain rfl : i = bl s a := by omega
            exact ⟨(by exact cov_of), Sub.refl _⟩
      · rw [tks_skip] at hR
        have hnb := bl_stop s a
        have ha' : a + bl s a ≤ s.length := by omega
        have T1 := T.step (b' := a + bl s a)
        have hle1 : a ≤ a + bl s a := Nat.le_add_right _ _
        generalize a + bl s a = a1 at *
        generalize hset H' id4 (.rows 2 [[.str s, .int .i64 (a1 : Nat)]]) = H1 at *
        clear T g4
        have g4 := T1.g4
        have g3 := T1.g3
        (first | refine ah ?_ | exact ah0)
        refine bsplit_dec (fun e2 => ?_) (fun e2 => ?_)
        · rw [tks_end (by omega)] at hR
          subst hR
          rcases T1.own with ⟨rfl, rfl⟩ | ⟨ids, rfl, gs, ts, pos, ns3, ns4⟩
          · obtain rfl : a1 = s.length := by omega
            (first | refine ah ?_ | exact ah0)
            refine ⟨_, rfl, by simp, (fun e => by cases e), fun _ => ?_⟩
            intro idn hidn htn
            have nn3 := hget_ne_of hidn g3
            (first | refine ah ?_ | exact ah0)
            exact TokO.of_ok (l := [(6, [], 0, s.length)]) rfl hget_self
          · obtain rfl : a1 = s.length := by omega
            have len := T1.len
            have exs : (((l.map tkR).take l.length).drop 0) = l.map tkR := by rw [List.drop_zero, show l.length = (l.map tkR).length from by simp, List.take_length]
            (first | refine ah ?_ | exact ah0)
            refine ⟨_, _, (readS_own gs (by simp)).trans (congrArg some exs), rfl, rfl, rfl, ts, by simp; omega, ?_⟩
            intro idn hidn htn
            have nn3 := hget_ne_of hidn g3
            (first | refine ah ?_ | exact ah0)
            refine TokO.of_ok (l := l ++ [(6, [], 0, s.length)]) (id := idn) ?_ ?_
            · have hln : (l ++ [((6 : Int), ([] : List UInt8), 0, s.length)]).length = (l.map tkR).length + 1 := by simp
              rw [hln]
              rfl
            · rw [List.map_append]
              exact hget_self
        · have hlt : a1 < s.length := by omega
          rw [tks_eq hlt, hnb hlt, if_neg (by decide)] at hR
          (first | refine ah ?_ | exact ah0)
          refine callF_of ((lexer_next_spec (s := s) (at' := a1) g4 hlt hs).mono fun rr H2 hh => ?_)
          have k3 := hh.keep id3 _ n34 g3
          cases hx : lex (s.drop a1) with
          | bad e off =>
            obtain ⟨k, t, num, ap, rfl⟩ := hh.bad e off hx
            have := lex_err hx
            rw [hx] at hR
            subst hR
            (first | refine ah ?_ | exact ah0)
            intro id7 hid7 ht7
            (first | refine ah ?_ | exact ah0)
            intro id8 hid8 ht8
            have n73 := hget_ne_of hid7 k3
            have n83 := hget_ne_of hid8 ((hget_tail n73).trans k3)
            have n87 := (hget_fresh hid8).1
            (first | refine ah ?_ | exact ah0)
            exact TokO.of_bad rfl
          | tok k t num m =>
            obtain ⟨rfl, g4n⟩ := hh.tok k t num m hx
            have bd := lex_bound hx
            rw [List.length_drop] at bd
            rw [hx] at hR
            (first | refine ah ?_ | exact ah0)
            intro id7 hid7 ht7
            (first | refine ah ?_ | exact ah0)
            intro id8 hid8 ht8
            have n73 := hget_ne_of hid7 k3
            have n83 := hget_ne_of hid8 ((hget_tail n73).trans k3)
            have n87 := (hget_fresh hid8).1
            have n74 := hget_ne_of hid7 g4n
            have n84 := hget_ne_of hid8 ((hget_tail n74).trans g4n)
            have len := T1.len
            replace hR : TR.pre l (if l.length = 64 then TR.bad 3 a1 else TR.pre [(k, t, num, a1)] (tks s (a1 + m) (l.length + 1))) = R := hR
            by_cases h64 : l.length = 64
            · rw [if_pos h64] at hR
              subst hR
              rcases T1.own with ⟨rfl, rfl⟩ | ⟨ids, rfl, gs, ts, pos, ns3, ns4⟩
              · cases h64
              · (first | refine ah ?_ | exact ah0)
                exact TokO.of_bad rfl
            · rw [if_neg h64, TR.pre_pre] at hR
              have hln : (l ++ [(k, t, num, a1)]).length = l.length + 1 := by simp
              rw [← hln] at hR
              rcases T1.own with ⟨rfl, rfl⟩ | ⟨ids, rfl, gs, ts, pos, ns3, ns4⟩
              · (first | refine ah ?_ | exact ah0)
                refine ⟨_, rfl, by simp, (fun e => by cases e), fun _ => ?_⟩
                intro idn hidn htn
                (first | refine ah ?_ | exact ah0)
                refine ⟨[(0, some (.str s)), (3, some (.ptr id3 2 0 0)), (4, some (.ptr id4 2 0 0)), (5, some (.own idn 4 0 1))], _, (by exact cov_of), Sub.refl _, _, ?_, a1 + m, _, _, rfl, by omega, hR, rfl, ?_⟩
                · omega
                · have q8 := (hget_fresh hidn)
                  have q7 := (hget_fresh q8.2)
                  have m4 := hget_ne_of q7.2 g4n
                  have m3 := hget_ne_of q7.2 k3
                  exact ⟨by exact hg_of, by exact hg_of, n34, ⟨.inr ⟨idn, rfl, hget_self, htn, by simp⟩⟩, by simp⟩
              · have exs : (((l.map tkR).take l.length).drop 0) = l.map tkR := by rw [List.drop_zero, show l.length = (l.map tkR).length from by simp, List.take_length]
                have gs2 := hh.keep ids _ ns4 gs
                have n7s := hget_ne_of hid7 gs2
                have n8s := hget_ne_of hid8 ((hget_tail n7s).trans gs2)
                (first | refine ah ?_ | exact ah0)
                refine ⟨_, _, (readS_own (by exact hg_of) (by simp)).trans (congrArg some exs), rfl, rfl, rfl, ts, by simp; omega, ?_⟩
                intro idn hidn htn
                have q0 : ∀ j b, j ≠ ids → j ≠ id7 → j ≠ id8 → hget H2 j = some b → idn ≠ j := fun j b r1 r2 r3 r4 => hget_ne_of hidn (show hget _ j = some b by exact hg_of)
                (first | refine ah ?_ | exact ah0)
                have m4 := q0 id4 _ ns4.symm n74.symm n84.symm g4n
                have m3 := q0 id3 _ ns3.symm n73.symm n83.symm k3
                refine ⟨[(0, some (.str s)), (3, some (.ptr id3 2 0 0)), (4, some (.ptr id4 2 0 0)), (5, some (.own idn 4 0 ((l.map tkR).length + 1)))], _, (by exact cov_of), Sub.refl _, _, ?_, a1 + m, _, _, rfl, by omega, hR, rfl, ?_⟩
                · omega
                · exact ⟨by exact hg_of, by exact hg_of, n34, ⟨.inr ⟨idn, by simp, by rw [List.map_append]; exact hget_self, htn, by simp⟩⟩, by simp; omega⟩
end Go.Proofs.YtjaigpidmngaaaaGreat

namespace Go.Proofs.YtjaigpidmngaaaaGreat
def signs : List (List UInt8) := [[61], [60, 62], [60], [60, 61], [62], [62, 61], [40], [41], [46], [91], [93], [45]]
def qdr : List UInt8 → List UInt8 → Option (List UInt8)
  | [], _ => none
  | [c], acc => if c = 39 then some acc else none
  | c :: d :: r, acc => if c = 39 then (if d = 39 then qdr r (acc ++ [39]) else none) else qdr (d :: r) (acc ++ [c])
def qd (s : List UInt8) : Option (List UInt8) := if s.getD 0 0 = 39 ∧ 2 ≤ s.length then qdr (s.drop 1) [] else none
def kd (s : List UInt8) : Nat :=
  if nl s = s.length then 1 else if s ≠ [] ∧ s.all dig = true then 2 else if (qd s).isSome = true then 3
  else if s.length = 2 ∧ s.getD 0 0 = 37 ∧ dig (s.getD 1 0) = true then 4 else if signs.contains s = true then 5 else 0
def lg (s : List UInt8) : Nat → Nat → Nat → Nat → Nat × Nat
  | 0, _, best, k => if k = 3 then (0, 0) else (best, k)
  | m + 1, n, best, k =>
    if kd (s.take n) = 3 ∧ (n = s.length ∨ s.getD n 0 ≠ 39) then (n, 3)
    else if s.getD 0 0 ≠ 39 ∧ kd (s.take n) = 0 ∧ 1 < n then (best, k)
    else if 0 < kd (s.take n) then lg s m (n + 1) n (kd (s.take n)) else lg s m (n + 1) best k
def longest (s : List UInt8) : Nat × Nat := lg s s.length 1 0 0
end Go.Proofs.YtjaigpidmngaaaaGreat

namespace Go.Proofs.YtjaigpidmngaaaaGreat
abbrev Tok := Int × List UInt8 × Nat × Nat
structure Opd where
  k : Int
  t : List UInt8
  neg : Bool
  num : Nat
inductive Ex where
  | mk (op rel : Int) (args : List Opd) (kids : List Ex)
abbrev opd0 : Opd := ⟨0, [], false, 0⟩
abbrev ex0 : Ex := .mk 0 0 [] []
structure PSt where
  p : Nat
  n : Nat
  e : Int
  a : Int
def tk (l : List Tok) (i : Nat) : Tok := l.getD i (6, [], 0, 0)
def PSt.fail (l : List Tok) (σ : PSt) (e : Int) : PSt := if σ.e = 0 then ⟨σ.p, σ.n, e, ((tk l σ.p).2.2.2 : Nat)⟩ else σ
abbrev PSt.on (σ : PSt) : PSt := ⟨σ.p + 1, σ.n, σ.e, σ.a⟩
def isT (l : List Tok) (σ : PSt) (k : Int) (s : List UInt8) : Bool := decide ((tk l σ.p).1 = k) && decide ((tk l σ.p).2.1 = s)
def skb (l : List Tok) (σ : PSt) (k : Int) (s : List UInt8) : Bool := decide (σ.e = 0) && isT l σ k s
def skp (l : List Tok) (σ : PSt) (k : Int) (s : List UInt8) : PSt := if skb l σ k s = true then σ.on else σ
def mst (l : List Tok) (σ : PSt) (k : Int) (s : List UInt8) : PSt := if skb l σ k s = true then σ.on else σ.fail l 11
def nmB (l : List Tok) (σ : PSt) : Bool := decide (σ.e = 0) && (decide ((tk l σ.p).1 = 1) && !rsv.contains (tk l σ.p).2.1)
def nm (l : List Tok) (σ : PSt) : List UInt8 × PSt := if nmB l σ = true then ((tk l σ.p).2.1, σ.on) else ([], σ.fail l 11)
def el (l : List Tok) (σ : PSt) : List UInt8 × PSt :=
  if (tk l (mst l σ 5 [91]).p).1 = 2 then ([91] ++ (tk l (mst l σ 5 [91]).p).2.1 ++ [93], mst l (mst l σ 5 [91]).on 5 [93]) else ([], (mst l σ 5 [91]).fail l 11)
def pthL (l : List Tok) : Nat → List UInt8 → PSt → List UInt8 × PSt
  | 0, s, σ => (s, σ)
  | k + 1, s, σ =>
    if σ.e = 0 then
      if isT l σ 5 [91] = true then pthL l k (s ++ (el l σ).1) (el l σ).2
      else if isT l σ 5 [46] = true then pthL l k (s ++ ([46] ++ (nm l σ.on).1)) (nm l σ.on).2
      else (s, σ)
    else (s, σ)
def pth0 (l : List Tok) (σ : PSt) : List UInt8 × PSt := if isT l σ 5 [91] = true then el l σ else nm l σ
def pth (l : List Tok) (σ : PSt) : List UInt8 × PSt := pthL l (l.length + 1) (pth0 l σ).1 (pth0 l σ).2
def opd1 (l : List Tok) (σ : PSt) (neg : Bool) : Opd × PSt :=
  if (tk l σ.p).1 = 2 then (⟨2, [], neg, (tk l σ.p).2.2.1⟩, σ.on)
  else if neg = true then (opd0, σ.fail l 11)
  else if (tk l σ.p).1 = 3 then (⟨3, (tk l σ.p).2.1, false, 0⟩, σ.on)
  else if (tk l σ.p).1 = 4 then (⟨5, [], false, (tk l σ.p).2.2.1⟩, σ.on)
  else if isT l σ 1 [84, 82, 85, 69] = true then (⟨4, [], false, 1⟩, σ.on)
  else if isT l σ 1 [70, 65, 76, 83, 69] = true then (⟨4, [], false, 0⟩, σ.on)
  else (⟨1, (pth l σ).1, false, 0⟩, (pth l σ).2)
def opd (l : List Tok) (σ : PSt) : Opd × PSt := if σ.e = 0 then opd1 l (skp l σ 5 [45]) (skb l σ 5 [45]) else (opd0, σ)
def relT (s : List UInt8) : Nat := if s = [61] then 1 else if s = [60, 62] then 2 else if s = [60] then 3 else if s = [60, 61] then 4 else if s = [62] then 5 else if s = [62, 61] then 6 else 0
def relOf (t : Tok) : Nat := if t.1 = 5 then relT t.2.1 else 0
def btw (l : List Tok) (a : Opd) (nt : Bool) (σ : PSt) : Ex × PSt :=
  let q := opd l (mst l σ 1 [66, 69, 84, 87, 69, 69, 78])
  let r := opd l (mst l q.2 1 [65, 78, 68])
  (if nt = true then .mk 4 0 [] [.mk 2 0 [a, q.1, r.1] []] else .mk 2 0 [a, q.1, r.1] [], r.2)
def tst (l : List Tok) (σ : PSt) : Ex × PSt :=
  let a := opd l σ
  if a.2.e = 0 then
    if 0 < relOf (tk l a.2.p) then (.mk 1 (relOf (tk l a.2.p)) [a.1, (opd l a.2.on).1] [], (opd l a.2.on).2)
    else if isT l a.2 1 [76, 73, 75, 69] = true then (.mk 3 0 [a.1, (opd l a.2.on).1] [], (opd l a.2.on).2)
    else btw l a.1 (isT l a.2 1 [78, 79, 84]) (skp l a.2 1 [78, 79, 84])
  else (ex0, a.2)
def wth (l : List Tok) (σ : PSt) (f : PSt → Ex × PSt) : Ex × PSt :=
  if 8 ≤ σ.n then (ex0, σ.fail l 9) else ((f ⟨σ.p + 1, σ.n + 1, σ.e, σ.a⟩).1, ⟨(f ⟨σ.p + 1, σ.n + 1, σ.e, σ.a⟩).2.p, (f ⟨σ.p + 1, σ.n + 1, σ.e, σ.a⟩).2.n - 1, (f ⟨σ.p + 1, σ.n + 1, σ.e, σ.a⟩).2.e, (f ⟨σ.p + 1, σ.n + 1, σ.e, σ.a⟩).2.a⟩)
def rwL (l : List Tok) (f : PSt → Ex × PSt) (w : List UInt8) : Nat → List Ex → PSt → List Ex × PSt
  | 0, acc, σ => (acc, σ)
  | k + 1, acc, σ => if skb l σ 1 w = true then rwL l f w k (acc ++ [(f σ.on).1]) (f σ.on).2 else (acc, σ)
def rw' (l : List Tok) (f : PSt → Ex × PSt) (w : List UInt8) (op : Int) (σ : PSt) : Ex × PSt :=
  let q := rwL l f w (l.length + 1) [(f σ).1] (f σ).2
  (if q.1.length = 1 then (f σ).1 else .mk op 0 [] q.1, q.2)
def andE (l : List Tok) (f : PSt → Ex × PSt) : PSt → Ex × PSt := rw' l f [65, 78, 68] 5
def orE (l : List Tok) (f : PSt → Ex × PSt) : PSt → Ex × PSt := rw' l (andE l f) [79, 82] 6
def inNot (f : PSt → Ex × PSt) (τ : PSt) : Ex × PSt := (.mk 4 0 [] [(f τ).1], (f τ).2)
def inBr (l : List Tok) (f : PSt → Ex × PSt) (τ : PSt) : Ex × PSt := ((orE l f τ).1, mst l (orE l f τ).2 5 [41])
def ntE (l : List Tok) : Nat → PSt → Ex × PSt
  | 0, σ => (ex0, σ)
  | n + 1, σ => if σ.e = 0 then
      if isT l σ 1 [78, 79, 84] = true then wth l σ (inNot (ntE l n))
      else if isT l σ 5 [40] = true then wth l σ (inBr l (ntE l n))
      else tst l σ
    else (ex0, σ)
def topE (l : List Tok) : Ex × PSt := orE l (ntE l l.length) ⟨0, 0, 0, 0⟩
def endE (l : List Tok) (σ : PSt) : PSt := if σ.e = 0 ∧ (tk l σ.p).1 ≠ 6 then σ.fail l 11 else σ
structure Wt (l : List Tok) : Prop where
  pos : 0 < l.length
  len : l.length ≤ 65
  last : ∀ i, i < l.length → (tk l i).1 ≠ 6 → i + 1 < l.length
  txt : ∀ i, (tk l i).2.1.length ≤ 256
  word : ∀ i, (tk l i).1 = 1 → (tk l i).2.1 ≠ []
theorem isT_ne {l : List Tok} {σ : PSt} {k : Int} {s : List UInt8} (h : isT l σ k s = true) : (tk l σ.p).1 = k ∧ (tk l σ.p).2.1 = s := by simpa [isT] using h
theorem skb_ne {l : List Tok} {σ : PSt} {k : Int} {s : List UInt8} (h : skb l σ k s = true) : σ.e = 0 ∧ (tk l σ.p).1 = k ∧ (tk l σ.p).2.1 = s := by
  simp only [skb, Bool.and_eq_true, decide_eq_true_eq] at h
  exact ⟨h.1, isT_ne h.2⟩
structure Gd (l : List Tok) (σ σ' : PSt) : Prop where
  le : σ.p ≤ σ'.p
  lt : σ'.p < l.length
  n : σ'.n = σ.n
  z : (σ.e = 0 → σ.a = 0) → σ'.e = 0 → σ'.a = 0
theorem Gd.refl {l : List Tok} {σ : PSt} (h : σ.p < l.length) : Gd l σ σ := ⟨Nat.le_refl _, h, rfl, fun q => q⟩
theorem Gd.trans {l : List Tok} {a b c : PSt} (h : Gd l a b) (k : Gd l b c) : Gd l a c := ⟨Nat.le_trans h.le k.le, k.lt, k.n.trans h.n, fun q => k.z (h.z q)⟩
theorem Gd.fail {l : List Tok} {σ : PSt} (h : σ.p < l.length) (e : Int) (he : e ≠ 0 := by decide) : Gd l σ (σ.fail l e) := by
  unfold PSt.fail; split
  · exact ⟨Nat.le_refl _, h, rfl, fun _ q => absurd q he⟩
  · exact .refl h
theorem Gd.on {l : List Tok} (w : Wt l) {σ : PSt} (h : σ.p < l.length) (h6 : (tk l σ.p).1 ≠ 6) : Gd l σ σ.on := ⟨Nat.le_succ _, w.last _ h h6, rfl, fun q => q⟩
theorem Gd.skp {l : List Tok} (w : Wt l) {σ : PSt} (h : σ.p < l.length) {k : Int} (hk : k ≠ 6) (s : List UInt8) : Gd l σ (skp l σ k s) := by
  unfold Proofs.YtjaigpidmngaaaaGreat.skp; split
  · rename_i q; exact .on w h (by rw [(skb_ne q).2.1]; exact hk)
  · exact .refl h
theorem Gd.mst {l : List Tok} (w : Wt l) {σ : PSt} (h : σ.p < l.length) {k : Int} (hk : k ≠ 6) (s : List UInt8) : Gd l σ (mst l σ k s) := by
  unfold Proofs.YtjaigpidmngaaaaGreat.mst; split
  · rename_i q; exact .on w h (by rw [(skb_ne q).2.1]; exact hk)
  · exact .fail h _
theorem Gd.nm {l : List Tok} (w : Wt l) {σ : PSt} (h : σ.p < l.length) : Gd l σ (nm l σ).2 := by
  unfold Proofs.YtjaigpidmngaaaaGreat.nm; split
  · rename_i q
    simp only [nmB, Bool.and_eq_true, decide_eq_true_eq] at q
    exact .on w h (by rw [q.2.1]; decide)
  · exact .fail h _
theorem Gd.el {l : List Tok} (w : Wt l) {σ : PSt} (h : σ.p < l.length) : Gd l σ (el l σ).2 := by
  have h1 := Gd.mst w h (k := 5) (by decide) [91]
  unfold Proofs.YtjaigpidmngaaaaGreat.el; split
  · rename_i q
    have h2 := Gd.on w h1.lt (by rw [q]; decide)
    exact h1.trans (h2.trans (.mst w h2.lt (by decide) _))
  · exact h1.trans (.fail h1.lt _)
theorem Gd.pthL {l : List Tok} (w : Wt l) : ∀ (k : Nat) {σ : PSt} (s : List UInt8), σ.p < l.length → Gd l σ (pthL l k s σ).2
  | 0, σ, s, h => .refl h
  | k + 1, σ, s, h => by
    unfold Proofs.YtjaigpidmngaaaaGreat.pthL
    split
    · split
      · exact (Gd.el w h).trans (Gd.pthL w k _ (Gd.el w h).lt)
      · split
        · rename_i q
          have h1 := Gd.on w h (by rw [(isT_ne q).1]; decide)
          exact h1.trans ((Gd.nm w h1.lt).trans (Gd.pthL w k _ (Gd.nm w h1.lt).lt))
        · exact .refl h
    · exact .refl h
theorem Gd.pth0 {l : List Tok} (w : Wt l) {σ : PSt} (h : σ.p < l.length) : Gd l σ (pth0 l σ).2 := by
  unfold Proofs.YtjaigpidmngaaaaGreat.pth0; split
  · exact .el w h
  · exact .nm w h
theorem Gd.pth {l : List Tok} (w : Wt l) {σ : PSt} (h : σ.p < l.length) : Gd l σ (pth l σ).2 := (Gd.pth0 w h).trans (.pthL w _ _ (Gd.pth0 w h).lt)
theorem Gd.opd1 {l : List Tok} (w : Wt l) {σ : PSt} (h : σ.p < l.length) (neg : Bool) : Gd l σ (opd1 l σ neg).2 := by
  unfold Proofs.YtjaigpidmngaaaaGreat.opd1
  split
  · rename_i q; exact .on w h (by rw [q]; decide)
  · split
    · exact .fail h _
    · split
      · rename_i q; exact .on w h (by rw [q]; decide)
      · split
        · rename_i q; exact .on w h (by rw [q]; decide)
        · split
          · rename_i q; exact .on w h (by rw [(isT_ne q).1]; decide)
          · split
            · rename_i q; exact .on w h (by rw [(isT_ne q).1]; decide)
            · exact .pth w h
theorem Gd.opd {l : List Tok} (w : Wt l) {σ : PSt} (h : σ.p < l.length) : Gd l σ (opd l σ).2 := by
  unfold Proofs.YtjaigpidmngaaaaGreat.opd
  split
  · exact (Gd.skp w h (by decide) _).trans (.opd1 w (Gd.skp w h (by decide) _).lt _)
  · exact .refl h
theorem relOf_pos {t : Tok} (h : 0 < relOf t) : t.1 = 5 := by
  unfold relOf at h
  split at h
  · assumption
  · omega
theorem Gd.btw {l : List Tok} (w : Wt l) {σ : PSt} (h : σ.p < l.length) (a : Opd) (nt : Bool) : Gd l σ (btw l a nt σ).2 := by
  have h1 := Gd.mst w h (k := 1) (by decide) [66, 69, 84, 87, 69, 69, 78]
  have h2 := Gd.opd w h1.lt
  have h3 := Gd.mst w h2.lt (k := 1) (by decide) [65, 78, 68]
  exact h1.trans (h2.trans (h3.trans (.opd w h3.lt)))
theorem Gd.tst {l : List Tok} (w : Wt l) {σ : PSt} (h : σ.p < l.length) : Gd l σ (tst l σ).2 := by
  have h1 := Gd.opd w h
  unfold Proofs.YtjaigpidmngaaaaGreat.tst
  dsimp only
  split
  · split
    · rename_i q
      have h2 := Gd.on w h1.lt (by rw [relOf_pos q]; decide)
      exact h1.trans (h2.trans (.opd w h2.lt))
    · split
      · rename_i q
        have h2 := Gd.on w h1.lt (by rw [(isT_ne q).1]; decide)
        exact h1.trans (h2.trans (.opd w h2.lt))
      · have h2 := Gd.skp w h1.lt (k := 1) (by decide) [78, 79, 84]
        exact h1.trans (h2.trans (.btw w h2.lt _ _))
  · exact h1
def GdF (l : List Tok) (m : Nat) (f : PSt → Ex × PSt) : Prop := ∀ σ, σ.p < l.length → l.length - σ.p ≤ m → Gd l σ (f σ).2
theorem Gd.wth {l : List Tok} {m : Nat} {f : PSt → Ex × PSt} (hf : GdF l m f) (w : Wt l) {σ : PSt} (h : σ.p < l.length) (h6 : (tk l σ.p).1 ≠ 6) (hm : l.length - σ.p ≤ m + 1) : Gd l σ (wth l σ f).2 := by
  unfold Proofs.YtjaigpidmngaaaaGreat.wth
  split
  · exact .fail h _
  · have h1 := w.last _ h h6
    have h2 := hf ⟨σ.p + 1, σ.n + 1, σ.e, σ.a⟩ h1 (by show l.length - (σ.p + 1) ≤ m; omega)
    exact ⟨Nat.le_trans (Nat.le_succ _) h2.le, h2.lt, by show _ - 1 = _; rw [h2.n]; rfl, h2.z⟩
theorem Gd.rwL {l : List Tok} {m : Nat} {f : PSt → Ex × PSt} (hf : GdF l m f) (w : Wt l) (wd : List UInt8) : ∀ (k : Nat) (acc : List Ex) (σ : PSt), σ.p < l.length → l.length - σ.p ≤ m → Gd l σ (rwL l f wd k acc σ).2
  | 0, acc, σ, h, _ => .refl h
  | k + 1, acc, σ, h, hm => by
    unfold Proofs.YtjaigpidmngaaaaGreat.rwL
    split
    · rename_i q
      have h1 := Gd.on w h (by rw [(skb_ne q).2.1]; decide)
      have h2 := hf _ h1.lt (by show l.length - (σ.p + 1) ≤ m; omega)
      have := h2.le
      exact h1.trans (h2.trans (Gd.rwL hf w wd k _ _ h2.lt (by have := h1.le; omega)))
    · exact .refl h
theorem GdF.rw {l : List Tok} {m : Nat} {f : PSt → Ex × PSt} (hf : GdF l m f) (w : Wt l) (wd : List UInt8) (op : Int) : GdF l m (rw' l f wd op) := fun σ h hm => by
  have h1 := hf σ h hm
  exact h1.trans (.rwL hf w wd _ _ _ h1.lt (by have := h1.le; omega))
theorem GdF.or {l : List Tok} {m : Nat} {f : PSt → Ex × PSt} (hf : GdF l m f) (w : Wt l) : GdF l m (orE l f) := (hf.rw w _ _).rw w _ _
theorem GdF.inBr {l : List Tok} {m : Nat} {f : PSt → Ex × PSt} (hf : GdF l m f) (w : Wt l) : GdF l m (inBr l f) := fun σ h hm => by
  have h1 := hf.or w σ h hm
  exact h1.trans (.mst w h1.lt (by decide) _)
theorem GdF.nt {l : List Tok} (w : Wt l) : ∀ n, GdF l n (ntE l n)
  | 0 => fun σ h hm => by omega
  | n + 1 => fun σ h hm => by
    unfold ntE
    split
    · split
      · rename_i q; exact .wth (f := inNot (ntE l n)) (fun τ a b => GdF.nt w n τ a b) w h (by rw [(isT_ne q).1]; decide) hm
      · split
        · rename_i q; exact .wth ((GdF.nt w n).inBr w) w h (by rw [(isT_ne q).1]; decide) hm
        · exact .tst w h
    · exact .refl h
end Go.Proofs.YtjaigpidmngaaaaGreat

namespace Go.Proofs.YtjaigpidmngaaaaGreat
def Ex.args : Ex → List Opd | .mk _ _ a _ => a
def Ex.kids : Ex → List Ex | .mk _ _ _ k => k
mutual
def eSize : Ex → Nat
  | .mk _ _ a k => 1 + a.length + eSizes k
def eSizes : List Ex → Nat
  | [] => 0
  | a :: l => eSize a + eSizes l
end
def eTx : List Opd → Nat
  | [] => 0
  | o :: l => o.t.length + eTx l
mutual
def eMuch : Ex → Nat → Bool
  | .mk _ _ a k, d => decide (40 < d) || decide (100 < k.length) || decide (100 < a.length) || (eMuchs k (d + 1) || decide (3000 < eTx a + eSizes k))
def eMuchs : List Ex → Nat → Bool
  | [], _ => false
  | a :: l, d => eMuch a d || eMuchs l d
end
mutual
def eOk : Ex → Prop
  | .mk _ _ a k => a.length ≤ 140737488351232 ∧ (∀ o ∈ a, o.t.length ≤ 140737488351232) ∧ k.length ≤ 140737488351232 ∧ eOks k
def eOks : List Ex → Prop
  | [] => True
  | k :: ks => eOk k ∧ eOks ks
end
theorem eOks_mem : ∀ {l : List Ex}, eOks l → ∀ x ∈ l, eOk x
  | k :: ks, h, x, hx => by
    simp only [eOks] at h
    rcases List.mem_cons.1 hx with rfl | hx
    · exact h.1
    · exact eOks_mem h.2 x hx
theorem eSizes_take : ∀ (l : List Ex) (i : Nat) (h : i < l.length), eSizes (l.take (i + 1)) = eSizes (l.take i) + eSize l[i]
  | a :: l, 0, h => by simp [eSizes]
  | a :: l, i + 1, h => by
    have := eSizes_take l i (by simpa using h)
    simp only [List.take_succ_cons, eSizes, List.getElem_cons_succ] at this ⊢
    omega
theorem eTx_take : ∀ (l : List Opd) (i : Nat) (h : i < l.length), eTx (l.take (i + 1)) = eTx (l.take i) + l[i].t.length
  | a :: l, 0, h => by simp [eTx]
  | a :: l, i + 1, h => by
    have := eTx_take l i (by simpa using h)
    simp only [List.take_succ_cons, eTx, List.getElem_cons_succ] at this ⊢
    omega
theorem eSizes_takeLe : ∀ (l : List Ex) (i : Nat), eSizes (l.take i) ≤ eSizes l
  | [], i => by simp
  | a :: l, 0 => by simp [eSizes]
  | a :: l, i + 1 => by have := eSizes_takeLe l i; simp only [List.take_succ_cons, eSizes]; omega
theorem eSizes_mem : ∀ {l : List Ex} {x : Ex}, x ∈ l → eSize x ≤ eSizes l
  | a :: l, x, h => by
    simp only [eSizes]
    rcases List.mem_cons.1 h with rfl | h
    · omega
    · have := eSizes_mem h; omega
theorem eSizes_len : ∀ l : List Ex, l.length ≤ eSizes l
  | [] => Nat.le_refl _
  | a :: l => by
    have := eSizes_len l
    have : 1 ≤ eSize a := by obtain ⟨o, r, b, k⟩ := a; simp only [eSize]; omega
    simp only [eSizes, List.length_cons]; omega
theorem eMuch_size {x : Ex} {d : Nat} (h : eMuch x d = false) : eSize x ≤ 3101 := by
  obtain ⟨o, r, a, k⟩ := x
  simp only [eMuch, Bool.or_eq_false_iff, decide_eq_false_iff_not] at h
  simp only [eSize]
  omega
theorem eMuchs_at : ∀ {l : List Ex} {d i : Nat} (h : i < l.length), eMuch l[i] d = true → eMuchs l d = true
  | a :: l, d, 0, _, h => by simp at h; simp [eMuchs, h]
  | a :: l, d, i + 1, hi, h => by
    have := eMuchs_at (l := l) (d := d) (i := i) (by simpa using hi) (by simpa using h)
    simp [eMuchs, this]
theorem eMuchs_end : ∀ {l : List Ex} {d : Nat}, (∀ (i : Nat) (h : i < l.length), eMuch l[i] d = false) → eMuchs l d = false
  | [], _, _ => rfl
  | a :: l, d, h => by
    have h0 := h 0 (by simp)
    have := eMuchs_end (l := l) (d := d) fun i hi => h (i + 1) (by simpa using hi)
    simp at h0
    simp [eMuchs, this, h0]
end Go.Proofs.YtjaigpidmngaaaaGreat

namespace Go.Proofs.YtjaigpidmngaaaaGreat
def whatK (l : List Ty) (f : List (Bool × Nat) × Int × Int) : (Int × Int) × Int :=
  if f.2.2 ≠ 0 then ((0, 0), f.2.2)
  else if (tAt l f.2.1).kd = 9 then ((1, f.2.1 + 1), 0)
  else if (tAt l f.2.1).kd = 1 then ((3, 0), 0)
  else if (tAt l f.2.1).kd = 10 then ((2, 0), 0)
  else if isNum (tAt l f.2.1).kd = true then ((1, 0), 0)
  else ((0, 0), 8)
def whatO (l : List Ty) (t : Int) (o : Opd) : (Int × Int) × Int :=
  if o.k = 1 then whatK l (findP l t o.t)
  else if o.k = 2 then ((1, 0), 0)
  else if o.k = 3 then ((2, 0), 0)
  else if o.k = 4 then ((3, 0), 0)
  else if o.k = 5 then ((0, 0), 18)
  else ((0, 0), 1)
def nmdE (l : List Ty) (w : Int × Int) (o : Opd) : Int := if o.k ≠ 3 then 8 else if itemIx l (w.2 - 1) o.t = none then 5 else 0
def togE (l : List Ty) (t : Int) (a b : Opd) (rel : Int) : Int :=
  if 0 < (whatO l t a).1.2 ∧ (whatO l t b).1.2 = 0 then nmdE l (whatO l t a).1 b
  else if 0 < (whatO l t b).1.2 ∧ (whatO l t a).1.2 = 0 then nmdE l (whatO l t b).1 a
  else if (whatO l t a).1 ≠ (whatO l t b).1 then 8
  else if (whatO l t a).1.1 = 3 ∧ rel ≠ 1 ∧ rel ≠ 2 then 4
  else 0
def formB (op rel : Int) (na nk : Nat) : Bool :=
  if op = 1 then decide (na = 2 ∧ nk = 0 ∧ 1 ≤ rel ∧ rel ≤ 6)
  else if op = 3 then decide (na = 2 ∧ nk = 0)
  else if op = 2 then decide (na = 3 ∧ nk = 0)
  else if op = 4 then decide (na = 0 ∧ nk = 1)
  else if op = 5 ∨ op = 6 then decide (na = 0 ∧ 2 ≤ nk)
  else false
def testE (l : List Ty) (t : Int) (op rel : Int) (a : List Opd) : Int :=
  if op = 1 then togE l t (a.getD 0 opd0) (a.getD 1 opd0) rel
  else if op = 2 then (if togE l t (a.getD 0 opd0) (a.getD 1 opd0) 4 ≠ 0 then togE l t (a.getD 0 opd0) (a.getD 1 opd0) 4 else togE l t (a.getD 0 opd0) (a.getD 2 opd0) 4)
  else if op = 3 then (if a.all (fun o => decide ((whatO l t o).1.1 = 2)) = true then 0 else 8)
  else 0
mutual
def treeE (l : List Ty) (t : Int) : Ex → Int
  | .mk op rel a k => if fst0 (a.map fun o => (whatO l t o).2) ≠ 0 then fst0 (a.map fun o => (whatO l t o).2) else if formB op rel a.length k.length = false then 1 else if testE l t op rel a ≠ 0 then testE l t op rel a else treeEs l t k
def treeEs (l : List Ty) (t : Int) : List Ex → Int
  | [] => 0
  | k :: ks => if treeE l t k ≠ 0 then treeE l t k else treeEs l t ks
end
def checkE (l : List Ty) (t : Int) (x : Ex) : Int := if knownT l t then treeE l t x else 8
theorem fstM_hit {α : Type} {f : α → Int} : ∀ {l : List α} {i : Nat} (_ : ∀ j (h : j < l.length), j < i → f l[j] = 0) (h : i < l.length), f l[i] ≠ 0 → fst0 (l.map f) = f l[i]
  | [], i, _, h, _ => by simp at h
  | a :: l, 0, _, h, hn => by simp only [List.getElem_cons_zero] at hn; simp [fst0, hn]
  | a :: l, i + 1, h0, h, hn => by
    have h1 : f a = 0 := h0 0 (by simp) (by omega)
    have := fstM_hit (f := f) (l := l) (i := i) (fun j a b => h0 (j + 1) (by simpa using a) (by omega)) (by simpa using h) hn
    simp only [List.map_cons, fst0, h1, ne_eq, not_true_eq_false, if_false, List.getElem_cons_succ]
    exact this
theorem fstM_none {α : Type} {f : α → Int} : ∀ {l : List α} (_ : ∀ j (h : j < l.length), f l[j] = 0), fst0 (l.map f) = 0
  | [], _ => rfl
  | a :: l, h => by
    have h1 : f a = 0 := h 0 (by simp)
    have := fstM_none (f := f) (l := l) (fun j q => h (j + 1) (by simpa using q))
    simp only [List.map_cons, fst0, h1, ne_eq, not_true_eq_false, if_false]
    exact this
theorem treeEs_hit {l : List Ty} {t : Int} : ∀ {ks : List Ex} {i : Nat} (_ : ∀ j (h : j < ks.length), j < i → treeE l t ks[j] = 0) (h : i < ks.length), treeE l t ks[i] ≠ 0 → treeEs l t ks = treeE l t ks[i]
  | [], i, _, h, _ => by simp at h
  | a :: ks, 0, _, h, hn => by simp only [List.getElem_cons_zero] at hn; simp [treeEs, hn]
  | a :: ks, i + 1, h0, h, hn => by
    have h1 : treeE l t a = 0 := h0 0 (by simp) (by omega)
    have := treeEs_hit (l := l) (t := t) (ks := ks) (i := i) (fun j a b => h0 (j + 1) (by simpa using a) (by omega)) (by simpa using h) hn
    simp only [treeEs, h1, ne_eq, not_true_eq_false, if_false, List.getElem_cons_succ]
    exact this
theorem treeEs_none {l : List Ty} {t : Int} : ∀ {ks : List Ex} (_ : ∀ j (h : j < ks.length), treeE l t ks[j] = 0), treeEs l t ks = 0
  | [], _ => by simp [treeEs]
  | a :: ks, h => by
    have h1 : treeE l t a = 0 := h 0 (by simp)
    have := treeEs_none (l := l) (t := t) (ks := ks) (fun j q => h (j + 1) (by simpa using q))
    simp only [treeEs, h1, ne_eq, not_true_eq_false, if_false]
    exact this
mutual
def eT : Ex → Prop
  | .mk _ _ a k => (a.length ≤ 1000000 ∧ ∀ o ∈ a, o.t.length ≤ 1000000) ∧ k.length ≤ 1000000 ∧ eTs k
def eTs : List Ex → Prop
  | [] => True
  | k :: ks => eT k ∧ eTs ks
end
theorem eTs_mem : ∀ {l : List Ex}, eTs l → ∀ x ∈ l, eT x
  | k :: ks, h, x, hx => by
    simp only [eTs] at h
    rcases List.mem_cons.1 hx with rfl | hx
    · exact h.1
    · exact eTs_mem h.2 x hx
theorem eTx_mem : ∀ {l : List Opd} {o : Opd}, o ∈ l → o.t.length ≤ eTx l
  | a :: l, o, h => by
    simp only [eTx]
    rcases List.mem_cons.1 h with rfl | h
    · omega
    · have := eTx_mem h; omega
mutual
theorem eT_much : ∀ {x : Ex} {d : Nat}, eMuch x d = false → eT x
  | .mk op rel a k, d, h => by
    simp only [eMuch, Bool.or_eq_false_iff, decide_eq_false_iff_not] at h
    simp only [eT]
    refine ⟨⟨by omega, fun o ho => ?_⟩, by omega, eTs_much h.2.1⟩
    have := eTx_mem ho
    omega
theorem eTs_much : ∀ {x : List Ex} {d : Nat}, eMuchs x d = false → eTs x
  | [], d, h => by simp [eTs]
  | k :: ks, d, h => by
    simp only [eMuchs, Bool.or_eq_false_iff] at h
    simp only [eTs]
    exact ⟨eT_much h.1, eTs_much h.2⟩
end
end Go.Proofs.YtjaigpidmngaaaaGreat

namespace Go.Proofs.YtjaigpidmngaaaaGreat
attribute [local irreducible] callA callP ACalls
abbrev psB (l : List Tok) (σ : PSt) : Blk := .rows 5 [[.rows 4 (l.map tkR), .int .i64 (σ.p : Nat), .int .i64 (σ.n : Nat), .int .i64 σ.e, .int .i64 σ.a]]
abbrev tkA (t : Tok) : AV := .agg (tkR t)
theorem tk_get {l : List Tok} {i : Nat} (h : i < l.length) : (l.map tkR).getD i [] = tkR (tk l i) := by
  simp [tk, List.getD, h]
theorem now_spec {l : List Tok} (w : Wt l) {σ : PSt} (h : σ.p < l.length) (id : Nat) : SW PG expr_parser_now.n [.ptr id 5 0 0] id (psB l σ) [] (tkA (tk l σ.p)) (psB l σ) := by
  have hw := w.len
  have hl : (l.map tkR).length = l.length := by simp
  refine ACalls.fz (expr_parser_now.of rfl (wpF_start ?_))
  (first | refine au ?_ | exact au0)
  intro id2 hid2 ht2; have n2 := neAll_of hid2; (try simp only [neAll, neAll_hset] at n2); have m2 := n2; (repeat (obtain ⟨_, m2⟩ := m2))
  (first | refine au ?_ | exact au0)
  rw [show (Int.toNat (σ.p : Nat)) = σ.p from rfl, tk_get h]
  (first | refine au ?_ | exact au0)
  exact ⟨fz_of, sub_of⟩
theorem bad_spec (l : List Tok) (σ : PSt) (id : Nat) : SW PG expr_parser_bad.n [.ptr id 5 0 0] id (psB l σ) [] (.bool (decide (σ.e ≠ 0))) (psB l σ) := by
  refine ACalls.fz (expr_parser_bad.of rfl (wpF_start ?_))
  (first | refine au ?_ | exact au0)
  exact ⟨fz_of, sub_of⟩
theorem fail_spec {l : List Tok} (w : Wt l) {σ : PSt} (h : σ.p < l.length) (id : Nat) (e : Int) : SW PG expr_parser_fail.n [.ptr id 5 0 0, .int .i64 e] id (psB l σ) [] (.tup []) (psB l (σ.fail l e)) := by
  refine ACalls.fz (expr_parser_fail.of rfl (wpF_start ?_))
  unfold PSt.fail
  (first | refine au ?_ | exact au0)
  refine bsplit_dec (fun h1 => ?_) (fun h1 => ?_)
  · rw [if_pos h1]
    (first | refine au ?_ | exact au0)
    refine (now_spec w h id).call (by exact hg_of) (Sub.nil _) ?_
    (first | refine au ?_ | exact au0)
    exact ⟨fz_of, sub_of⟩
  · rw [if_neg h1]
    (first | refine au ?_ | exact au0)
    exact ⟨fz_of, sub_of⟩
theorem is_spec {l : List Tok} (w : Wt l) {σ : PSt} (h : σ.p < l.length) (id : Nat) (k : Int) (s : List UInt8) : SW PG expr_parser_is.n [.ptr id 5 0 0, .int .i64 k, .str s] id (psB l σ) [] (.bool (isT l σ k s)) (psB l σ) := by
  refine ACalls.fz (expr_parser_is.of rfl (wpF_start ?_))
  unfold isT
  (first | refine au ?_ | exact au0)
  refine (now_spec w h id).call (by exact hg_of) (Sub.nil _) ?_
  (first | refine au ?_ | exact au0)
  intro id7 hid7 ht7; have n7 := neAll_of hid7; (try simp only [neAll, neAll_hset] at n7); have m7 := n7; (repeat (obtain ⟨_, m7⟩ := m7))
  (first | refine au ?_ | exact au0)
  refine bsplit_dec (fun h1 => ?_) (fun h1 => ?_)
  · rw [decide_eq_true h1]
    (first | refine au ?_ | exact au0)
    exact ⟨fz_of, sub_of⟩
  · rw [decide_eq_false h1]
    (first | refine au ?_ | exact au0)
    exact ⟨fz_of, sub_of⟩
theorem skip_spec {l : List Tok} (w : Wt l) {σ : PSt} (h : σ.p < l.length) (id : Nat) (k : Int) (s : List UInt8) : SW PG expr_parser_skip.n [.ptr id 5 0 0, .int .i64 k, .str s] id (psB l σ) [] (.bool (skb l σ k s)) (psB l (skp l σ k s)) := by
  have hw := w.len
  refine ACalls.fz (expr_parser_skip.of rfl (wpF_start ?_))
  unfold skp skb
  (first | refine au ?_ | exact au0)
  refine (bad_spec l σ id).call (by exact hg_of) (Sub.nil _) ?_
  (first | refine au ?_ | exact au0)
  refine bsplit_dec (fun h1 => ?_) (fun h1 => ?_)
  · rw [decide_eq_false h1]
    (first | refine au ?_ | exact au0)
    exact ⟨fz_of, sub_of⟩
  · rw [decide_eq_true (Classical.not_not.1 h1)]
    (first | refine au ?_ | exact au0)
    refine (is_spec w h id k s).call (by exact hg_of) (Sub.nil _) ?_
    cases hI : isT l σ k s with
    | true =>
      (first | refine au ?_ | exact au0)
      exact ⟨fz_of, sub_of⟩
    | false =>
      (first | refine au ?_ | exact au0)
      exact ⟨fz_of, sub_of⟩
theorem must_spec {l : List Tok} (w : Wt l) {σ : PSt} (h : σ.p < l.length) (id : Nat) (k : Int) (s : List UInt8) : SW PG expr_parser_must.n [.ptr id 5 0 0, .int .i64 k, .str s] id (psB l σ) [] (.tup []) (psB l (mst l σ k s)) := by
  refine ACalls.fz (expr_parser_must.of rfl (wpF_start ?_))
  unfold mst
  (first | refine au ?_ | exact au0)
  refine (skip_spec w h id k s).call (by exact hg_of) (Sub.nil _) ?_
  unfold skp
  cases hI : skb l σ k s with
  | true =>
    (first | refine au ?_ | exact au0)
    exact ⟨fz_of, sub_of⟩
  | false =>
    (first | refine au ?_ | exact au0)
    refine (fail_spec w h id 11).call (by exact hg_of) (Sub.nil _) ?_
    (first | refine au ?_ | exact au0)
    exact ⟨fz_of, sub_of⟩
theorem name_spec {l : List Tok} (w : Wt l) {σ : PSt} (h : σ.p < l.length) (id : Nat) : SW PG expr_parser_name.n [.ptr id 5 0 0] id (psB l σ) [] (.str (nm l σ).1) (psB l (nm l σ).2) := by
  have hw := w.len
  refine ACalls.fz (expr_parser_name.of rfl (wpF_start ?_))
  unfold nm nmB
  (first | refine au ?_ | exact au0)
  refine (now_spec w h id).call (by exact hg_of) (Sub.nil _) ?_
  (first | refine au ?_ | exact au0)
  intro id3 hid3 ht3; have n3 := neAll_of hid3; (try simp only [neAll, neAll_hset] at n3); have m3 := n3; (repeat (obtain ⟨_, m3⟩ := m3))
  (first | refine au ?_ | exact au0)
  refine (bad_spec l σ id).call (by exact hg_of) (Sub.nil _) ?_
  (first | refine au ?_ | exact au0)
  refine bsplit_dec (fun h1 => ?_) (fun h1 => ?_)
  · rw [decide_eq_false h1]
    (first | refine au ?_ | exact au0)
    refine (fail_spec w h id 11).call (by exact hg_of) (Sub.nil _) ?_
    (first | refine au ?_ | exact au0)
    exact ⟨fz_of, sub_of⟩
  · rw [decide_eq_true (Classical.not_not.1 h1)]
    (first | refine au ?_ | exact au0)
    refine bsplit_dec (fun h2 => ?_) (fun h2 => ?_)
    · rw [decide_eq_false h2]
      (first | refine au ?_ | exact au0)
      refine (fail_spec w h id 11).call (by exact hg_of) (Sub.nil _) ?_
      (first | refine au ?_ | exact au0)
      exact ⟨fz_of, sub_of⟩
    · rw [decide_eq_true (Classical.not_not.1 h2)]
      (first | refine au ?_ | exact au0)
      refine callF_eq (word_spec _ _) ?_
      cases hI : rsv.contains (tk l σ.p).2.1 with
      | true =>
        (first | refine au ?_ | exact au0)
        refine (fail_spec w h id 11).call (by exact hg_of) (Sub.nil _) ?_
        (first | refine au ?_ | exact au0)
        exact ⟨fz_of, sub_of⟩
      | false =>
        (first | refine au ?_ | exact au0)
        exact ⟨fz_of, sub_of⟩
theorem elem_spec {l : List Tok} (w : Wt l) {σ : PSt} (h : σ.p < l.length) (id : Nat) : SW PG expr_parser_elem.n [.ptr id 5 0 0] id (psB l σ) [] (.str (el l σ).1) (psB l (el l σ).2) := by
  have hw := w.len
  have h1 := Gd.mst w h (k := 5) (by decide) [91]
  have hx := w.txt (mst l σ 5 [91]).p
  refine ACalls.fz (expr_parser_elem.of rfl (wpF_start ?_))
  unfold el
  (first | refine au ?_ | exact au0)
  refine (must_spec w h id 5 [91]).call (by exact hg_of) (Sub.nil _) ?_
  (first | refine au ?_ | exact au0)
  refine (now_spec w h1.lt id).call (by exact hg_of) (Sub.nil _) ?_
  generalize mst l σ 5 [91] = τ at *
  have h1l := h1.lt
  (first | refine au ?_ | exact au0)
  intro id3 hid3 ht3; have n3 := neAll_of hid3; (try simp only [neAll, neAll_hset] at n3); have m3 := n3; (repeat (obtain ⟨_, m3⟩ := m3))
  (first | refine au ?_ | exact au0)
  refine bsplit_dec (fun h2 => ?_) (fun h2 => ?_)
  · rw [if_neg h2]
    (first | refine au ?_ | exact au0)
    refine (fail_spec w h1.lt id 11).call (by exact hg_of) (Sub.nil _) ?_
    (first | refine au ?_ | exact au0)
    exact ⟨fz_of, sub_of⟩
  · have h2' := Classical.not_not.1 h2
    rw [if_pos h2']
    have h3 := Gd.on w h1.lt (by rw [h2']; decide)
    (first | refine au ?_ | exact au0)
    refine (must_spec w h3.lt id 5 [93]).call (by exact hg_of) (Sub.nil _) ?_
    (first | refine au ?_ | exact au0)
    exact ⟨fz_of, sub_of⟩
end Go.Proofs.YtjaigpidmngaaaaGreat

namespace Go.Proofs.YtjaigpidmngaaaaGreat
attribute [local irreducible] callA callP ACalls
theorem nm_len {l : List Tok} (w : Wt l) (σ : PSt) : (nm l σ).1.length ≤ 256 := by
  unfold nm; split
  · exact w.txt _
  · simp
theorem el_len {l : List Tok} (w : Wt l) (σ : PSt) : (el l σ).1.length ≤ 258 := by
  unfold el; split
  · have := w.txt (mst l σ 5 [91]).p
    simp; omega
  · simp
theorem path_spec {l : List Tok} (w : Wt l) {σ : PSt} (h : σ.p < l.length) (id : Nat) : SW PG expr_parser_path.n [.ptr id 5 0 0] id (psB l σ) [] (.str (pth l σ).1) (psB l (pth l σ).2) := by
  have hw := w.len
  have hG := Gd.pth0 w h
  refine ACalls.fz (expr_parser_path.of rfl (wpF_start ?_))
  (first | refine ab ?_ | exact ab0)
  refine .inr ⟨[(0, some (.ptr id 5 0 0)), (3, some (.str (pth0 l σ).1))], [(id, psB l (pth0 l σ).2)], ?_, ?_⟩
  · unfold pth0
    (first | refine au ?_ | exact au0)
    refine (is_spec w h id 5 [91]).call (by exact hg_of) (Sub.nil _) ?_
    cases hI : isT l σ 5 [91] with
    | true =>
      (first | refine au ?_ | exact au0)
      refine (elem_spec w h id).call (by exact hg_of) (Sub.nil _) ?_
      (first | refine au ?_ | exact au0)
      exact ⟨(by exact cov_of), sub_of⟩
    | false =>
      (first | refine au ?_ | exact au0)
      refine (name_spec w h id).call (by exact hg_of) (Sub.nil _) ?_
      (first | refine au ?_ | exact au0)
      exact ⟨(by exact cov_of), sub_of⟩
  · unfold pth
    have hlen : (pth0 l σ).1.length ≤ 258 := by
      unfold pth0; split
      · exact el_len w σ
      · have := nm_len w σ; omega
    generalize hR : pthL l (l.length + 1) (pth0 l σ).1 (pth0 l σ).2 = R
    have hlt := hG.lt
    generalize hk : l.length + 1 = k at hR
    generalize (pth0 l σ).1 = s0 at *
    generalize (pth0 l σ).2 = τ0 at *
    (first | refine au ?_ | exact au0)
    refine ⟨fun n L H' => ∃ (τ : PSt) (s : List UInt8), τ.p < l.length ∧ l.length < τ.p + n ∧ s.length ≤ 258 + (l.length + 1) * 300 - n * 300 ∧ n ≤ l.length + 1 ∧ pthL l n s τ = R ∧ L = [(0, some (.ptr id 5 0 0)), (3, some (.str s))] ∧ H' = [(id, psB l τ)],
      ⟨_, _, ?_, Sub.refl _, k, τ0, s0, hlt, by omega, by omega, by omega, hR, rfl, rfl⟩, ?_⟩
    · exact (by exact cov_of)
    · clear hR hlt hlen hG hk
      rintro n L H' ⟨τ, s, hlt, hn, hs, hnk, hR, rfl, rfl⟩
      obtain ⟨n, rfl⟩ : ∃ m, n = m + 1 := ⟨n - 1, by omega⟩
      unfold pthL at hR
      (first | refine au ?_ | exact au0)
      refine (bad_spec l τ id).call (by exact hg_of) (Sub.nil _) ?_
      (first | refine au ?_ | exact au0)
      refine bsplit_dec (fun h1 => ?_) (fun h1 => ?_)
      · rw [if_neg h1] at hR
        subst hR
        (first | refine au ?_ | exact au0)
        exact ⟨fz_of, sub_of⟩
      · rw [if_pos (Classical.not_not.1 h1)] at hR
        (first | refine au ?_ | exact au0)
        refine (is_spec w hlt id 5 [91]).call (by exact hg_of) (Sub.nil _) ?_
        cases hI : isT l τ 5 [91] with
        | true =>
          rw [hI, if_pos rfl] at hR
          have h2 := Gd.el w hlt
          have h3 := el_len w τ
          (first | refine au ?_ | exact au0)
          refine (elem_spec w hlt id).call (by exact hg_of) (Sub.nil _) ?_
          (first | refine au ?_ | exact au0)
          refine ⟨[(0, some (.ptr id 5 0 0)), (3, some (.str (s ++ (el l τ).1)))], _, (by exact cov_of), Sub.refl _, n, by omega, _, _, h2.lt, ?_, ?_, by omega, hR, rfl, rfl⟩
          · have q : τ.p < (el l τ).2.p := by
              have := isT_ne hI
              unfold el
              have hm : mst l τ 5 [91] = τ.on := by unfold mst skb; rw [hI, decide_eq_true (Classical.not_not.1 h1)]; rfl
              rw [hm]
              have h4 := Gd.on w hlt (by rw [this.1]; decide)
              split
              · rename_i h5
                have h6 := Gd.on w h4.lt (by rw [h5]; decide)
                have h7 := Gd.mst w h6.lt (k := 5) (by decide) [93]
                have := h7.le
                have := h6.le
                show τ.p < (mst l τ.on.on 5 [93]).p
                have : τ.on.p = τ.p + 1 := rfl
                omega
              · have := (Gd.fail (l := l) h4.lt 11).le
                have : τ.on.p = τ.p + 1 := rfl
                show τ.p < (PSt.fail l τ.on 11).p
                omega
            omega
          · simp; omega
        | false =>
          rw [hI, if_neg (by decide)] at hR
          (first | refine au ?_ | exact au0)
          refine (skip_spec w hlt id 5 [46]).call (by exact hg_of) (Sub.nil _) ?_
          have hsk : skb l τ 5 [46] = isT l τ 5 [46] := by unfold skb; rw [decide_eq_true (Classical.not_not.1 h1)]; rfl
          unfold skp
          rw [hsk]
          cases hD : isT l τ 5 [46] with
          | true =>
            rw [hD, if_pos rfl] at hR
            have h2 := Gd.on w hlt (by rw [(isT_ne hD).1]; decide)
            have h3 := Gd.nm w h2.lt
            have h4 := nm_len w τ.on
            (first | refine au ?_ | exact au0)
            refine (name_spec w h2.lt id).call (by exact hg_of) (Sub.nil _) ?_
            (first | refine au ?_ | exact au0)
            refine ⟨[(0, some (.ptr id 5 0 0)), (3, some (.str (s ++ ([46] ++ (nm l τ.on).1))))], _, (by exact cov_of), Sub.refl _, n, by omega, _, _, h3.lt, ?_, ?_, by omega, hR, rfl, rfl⟩
            · have := h3.le
              have : τ.on.p = τ.p + 1 := rfl
              omega
            · simp; omega
          | false =>
            rw [hD, if_neg (by decide)] at hR
            subst hR
            (first | refine au ?_ | exact au0)
            exact ⟨fz_of, sub_of⟩
abbrev opA (o : Opd) : AV := .agg [.int .i64 o.k, .str o.t, .bool o.neg, .int .u64 (o.num : Nat)]
theorem operand_spec {l : List Tok} (w : Wt l) {σ : PSt} (h : σ.p < l.length) (id : Nat) : SW PG expr_parser_operand.n [.ptr id 5 0 0] id (psB l σ) [] (opA (opd l σ).1) (psB l (opd l σ).2) := by
  have hw := w.len
  refine ACalls.fz (expr_parser_operand.of rfl (wpF_start ?_))
  unfold opd
  (first | refine au ?_ | exact au0)
  intro id2 hid2 ht2; have n2 := neAll_of hid2; (try simp only [neAll, neAll_hset] at n2); have m2 := n2; (repeat (obtain ⟨_, m2⟩ := m2))
  (first | refine au ?_ | exact au0)
  refine (bad_spec l σ id).call (by exact hg_of) (Sub.nil _) ?_
  (first | refine au ?_ | exact au0)
  refine bsplit_dec (fun h1 => ?_) (fun h1 => ?_)
  · rw [if_neg h1]
    (first | refine au ?_ | exact au0)
    exact ⟨fz_of, sub_of⟩
  · rw [if_pos (Classical.not_not.1 h1)]
    have h1' := Classical.not_not.1 h1
    (first | refine au ?_ | exact au0)
    refine (skip_spec w h id 5 [45]).call (by exact hg_of) (Sub.nil _) ?_
    have hG := Gd.skp w h (k := 5) (by decide) [45]
    have he : (skp l σ 5 [45]).e = 0 := by unfold skp; split <;> exact h1'
    generalize skp l σ 5 [45] = τ at *
    generalize skb l σ 5 [45] = neg at *
    have hlt := hG.lt
    (first | refine au ?_ | exact au0)
    refine (now_spec w hlt id).call (by exact hg_of) (Sub.nil _) ?_
    unfold opd1
    (first | refine au ?_ | exact au0)
    intro id4 hid4 ht4; have n4 := neAll_of hid4; (try simp only [neAll, neAll_hset] at n4); have m4 := n4; (repeat (obtain ⟨_, m4⟩ := m4))
    (first | refine au ?_ | exact au0)
    refine bsplit_dec (fun h2 => ?_) (fun h2 => ?_)
    · rw [if_pos h2]
      (first | refine au ?_ | exact au0)
      exact ⟨fz_of, sub_of⟩
    · rw [if_neg h2]
      (first | refine au ?_ | exact au0)
      cases neg with
      | true =>
        (first | refine au ?_ | exact au0)
        refine (fail_spec w hlt id 11).call (by exact hg_of) (Sub.nil _) ?_
        (first | refine au ?_ | exact au0)
        exact ⟨fz_of, sub_of⟩
      | false =>
        rw [if_neg (by decide)]
        (first | refine au ?_ | exact au0)
        refine bsplit_dec (fun h3 => ?_) (fun h3 => ?_)
        · rw [if_pos h3]
          (first | refine au ?_ | exact au0)
          exact ⟨fz_of, sub_of⟩
        · rw [if_neg h3]
          (first | refine au ?_ | exact au0)
          refine bsplit_dec (fun h4 => ?_) (fun h4 => ?_)
          · rw [if_pos h4]
            (first | refine au ?_ | exact au0)
            exact ⟨fz_of, sub_of⟩
          · rw [if_neg h4]
            (first | refine au ?_ | exact au0)
            have hs : ∀ s, skb l τ 1 s = isT l τ 1 s := fun s => by unfold skb; rw [decide_eq_true he]; rfl
            refine (skip_spec w hlt id 1 [84, 82, 85, 69]).call (by exact hg_of) (Sub.nil _) ?_
            unfold skp
            rw [hs]
            cases h5 : isT l τ 1 [84, 82, 85, 69] with
            | true =>
              (first | refine au ?_ | exact au0)
              exact ⟨fz_of, sub_of⟩
            | false =>
              (first | refine au ?_ | exact au0)
              refine (skip_spec w hlt id 1 [70, 65, 76, 83, 69]).call (by exact hg_of) (Sub.nil _) ?_
              unfold skp
              rw [hs]
              cases h6 : isT l τ 1 [70, 65, 76, 83, 69] with
              | true =>
                (first | refine au ?_ | exact au0)
                exact ⟨fz_of, sub_of⟩
              | false =>
                (first | refine au ?_ | exact au0)
                refine (path_spec w hlt id).call (by exact hg_of) (Sub.nil _) ?_
                (first | refine au ?_ | exact au0)
                exact ⟨fz_of, sub_of⟩
theorem relation_spec (t : Tok) (H : AH) : ACalls PG expr_relation.n [tkA t] H fun r H' => r = .int .i64 (relOf t : Nat) ∧ H' = H := by
  refine ACalls.fz (expr_relation.of rfl (wpF_start ?_))
  unfold relOf
  (first | refine au ?_ | exact au0)
  intro id1 hid1 ht1; have n1 := neAll_of hid1; (try simp only [neAll, neAll_hset] at n1); have m1 := n1; (repeat (obtain ⟨_, m1⟩ := m1))
  (first | refine au ?_ | exact au0)
  refine bsplit_dec (fun h1 => ?_) (fun h1 => ?_)
  · rw [if_neg h1]
    (first | refine au ?_ | exact au0)
    exact ⟨fz_of, sub_of⟩
  · rw [if_pos (Classical.not_not.1 h1)]
    unfold relT
    (repeat' (first | (refine au ?_; first | refine bsplit_dec (fun _ => ?_) (fun _ => ?_) | refine bsplit_intro (fun _ => ?_) (fun _ => ?_)) | exact au0 | fail)); (all_goals try (first | refine au ?_ | fail))
    all_goals (refine ⟨?_, sub_of⟩; rename_i h2; simp [*]; exact fz_of)
mutual
def exR : Ex → List AV
  | .mk op rel args kids => [.int .i64 op, .int .i64 rel, .rows 4 (args.map fun o => [.int .i64 o.k, .str o.t, .bool o.neg, .int .u64 (o.num : Nat)]), .rows 4 (exRs kids)]
def exRs : List Ex → List (List AV)
  | [] => []
  | k :: ks => exR k :: exRs ks
end
abbrev opR (o : Opd) : List AV := [.int .i64 o.k, .str o.t, .bool o.neg, .int .u64 (o.num : Nat)]
abbrev exA (x : Ex) : AV := .agg (exR x)
theorem exRs_map : ∀ l : List Ex, exRs l = l.map exR
  | [] => rfl
  | k :: ks => by rw [exRs, exRs_map ks]; rfl
mutual
theorem exR_cl : ∀ (x : Ex), ∀ v ∈ exR x, Cl v
  | .mk op rel args kids => by
    intro v hv
    simp only [exR, List.mem_cons, List.not_mem_nil, or_false] at hv
    rcases hv with rfl | rfl | rfl | rfl
    · exact .int _ _
    · exact .int _ _
    · refine .rows _ _ fun r hr v hv => ?_
      obtain ⟨o, _, rfl⟩ := List.mem_map.1 hr
      simp only [List.mem_cons, List.not_mem_nil, or_false] at hv
      rcases hv with rfl | rfl | rfl | rfl
      · exact .int _ _
      · exact .str _
      · exact .bool _
      · exact .int _ _
    · exact .rows _ _ (exRs_cl kids)
theorem exRs_cl : ∀ (l : List Ex), ∀ r ∈ exRs l, ∀ v ∈ r, Cl v
  | [] => by simp [exRs]
  | k :: ks => by
    intro r hr
    simp only [exRs, List.mem_cons] at hr
    rcases hr with rfl | hr
    · exact exR_cl k
    · exact exRs_cl ks r hr
end
theorem exA_no (x : Ex) : NoId (exA x) := (Cl.agg _ (exR_cl x)).noId
theorem opA_no (o : Opd) : NoId (opA o) := NoId.plain rfl
theorem psB_n (l : List Tok) (σ τ : PSt) : BlkN (psB l σ) (psB l τ) := by
  intro r hr v hv
  simp only [List.mem_cons, List.not_mem_nil, or_false] at hr
  subst hr
  simp only [List.mem_cons, List.not_mem_nil, or_false] at hv
  rcases hv with rfl | rfl | rfl | rfl | rfl
  · exact .inr ⟨_, List.mem_cons_self, List.mem_cons_self⟩
  all_goals exact .inl (NoId.plain rfl)
theorem exR_len (x : Ex) : (exR x).length = 4 := by cases x; rfl
end Go.Proofs.YtjaigpidmngaaaaGreat

namespace Go.Proofs.YtjaigpidmngaaaaGreat
set_option maxRecDepth 100000
def broadsheetlaw18_CheckAround.n : Nat := 6
noncomputable def broadsheetlaw18_CheckAround.c : C := (.seq (.reg [oo_ 5 (.box 47 (.t 2)), oo_ 6 (.mv (.c (.bool false)))]) (.seq (.seq (.reg [om_ 14 0, oo_ 15 (.call 11 [(.t 14)]), om_ 16 15, og_ 17 16 false (.faddr 0 (.t 5)), og_ 18 16 false (.load (some 4) (.t 17)), og_ 19 16 false (.call 12 [(.t 18), (.c (.int .i64 0))]), oo_ 20 (.pick (.t 16) (.c (.bool true)) (.t 19)), om_ 21 20, og_ 22 21 false (.faddr 4 (.t 5)), og_ 23 21 false (.load none (.t 22)), og_ 24 21 false (.len false (.t 23)), og_ 25 21 false (.bin .gtr (.t 24) (.c (.int .i64 20))), oo_ 26 (.pick (.t 21) (.c (.bool true)) (.t 25))]) (.cond (.t 26) (.seq (.reg [oo_ 27 (.call 13 []), om_ 6 27]) .ret) .skip)) (.seq (.seq (.reg [oo_ 7 (.mv (.c (.int .i64 0)))]) (.block 0 (.loop (.seq (.seq (.reg [om_ 28 7, of_ 29 4 5, ol_ 30 29, oo_ 31 (.len false (.t 30)), oo_ 32 (.bin .lss (.t 28) (.t 31))]) (.cond (.t 32) .skip (.exit 0))) (.seq (.block 1 (.seq (.reg [of_ 35 4 5, ol_ 36 35, om_ 37 7, oo_ 38 (.iaddr 1 (.t 36) (.t 37)), ol_ 39 38, oo_ 40 (.len true (.t 39)), oo_ 41 (.bin .gtr (.t 40) (.c (.int .i64 300)))]) (.cond (.t 41) (.seq (.reg [oo_ 42 (.call 13 []), om_ 6 42]) .ret) .skip))) (.reg [om_ 33 7, oo_ 34 (.bin .add (.t 33) (.c (.int .i64 1))), om_ 7 34])))))) (.seq (.reg [of_ 44 0 5, oo_ 45 (.load (some 4) (.t 44)), of_ 46 4 5, ol_ 47 46, oo_ 48 (.call 18 [(.t 45), (.t 47)]), om_ 43 48, oo_ 49 (.extr (.t 43) 0), oo_ 50 (.extr (.t 43) 1), oo_ 8 (.allc 26 [(.int .i64 0), (.int .i64 0), .nilS, .nilS]), os_ (.store 4 (.t 8) (.t 49)), om_ 9 50]) (.seq (.seq (.reg [om_ 51 9, oo_ 52 (.bin .eql (.t 51) (.c (.int .i64 0))), om_ 53 52, og_ 54 53 true (.load (some 4) (.t 8)), og_ 55 53 true (.call 21 [(.t 54)]), oo_ 56 (.pick (.t 53) (.t 55) (.c (.bool false))), om_ 57 56, og_ 58 57 false (.faddr 0 (.t 5)), og_ 59 57 false (.load (some 4) (.t 58)), og_ 60 57 false (.call 21 [(.t 59)]), og_ 61 57 false (.un .not (.t 60)), og_ 62 57 false (.mv (.t 61)), og_ 63 62 true (.mv (.t 9)), og_ 64 62 true (.bin .neq (.t 63) (.c (.int .i64 0))), og_ 65 62 true (.mv (.t 64)), og_ 66 65 false (.load (some 4) (.t 8)), og_ 67 65 false (.faddr 0 (.t 5)), og_ 68 65 false (.load (some 4) (.t 67)), og_ 69 65 false (.call 20 [(.t 66), (.t 68)]), og_ 70 65 false (.un .not (.t 69)), og_ 71 62 true (.pick (.t 65) (.c (.bool true)) (.t 70)), og_ 72 57 false (.pick (.t 62) (.t 71) (.c (.bool false))), oo_ 73 (.pick (.t 57) (.c (.bool true)) (.t 72)), om_ 74 73, og_ 75 74 false (.mv (.t 9)), og_ 76 74 false (.bin .neq (.t 75) (.c (.int .i64 0))), og_ 77 74 false (.mv (.t 76)), og_ 78 77 true (.load (some 4) (.t 8)), og_ 79 77 true (.build [(.int .i64 0), (.int .i64 0), .nilS, .nilS] []), og_ 80 77 true (.call 20 [(.t 78), (.t 79)]), og_ 81 77 true (.un .not (.t 80)), og_ 82 74 false (.pick (.t 77) (.t 81) (.c (.bool false))), oo_ 83 (.pick (.t 74) (.c (.bool true)) (.t 82))]) (.cond (.t 83) (.seq (.reg [oo_ 6 (.mv (.c (.bool false)))]) .ret) .skip)) (.seq (.reg [om_ 84 0, om_ 85 1, oo_ 86 (.load (some 4) (.t 8)), oo_ 87 (.call 14 [(.t 84), (.t 85), (.t 86)]), om_ 10 87]) (.seq (.reg [oo_ 88 (.load (some 4) (.t 8)), oo_ 89 (.bslice 26 4 1 [(.int .i64 0), (.int .i64 0), .nilS, .nilS] [(0, (.t 88))]), oo_ 90 (.build [(.int .i64 0), (.int .i64 0), .nilS, .nilS] [(0, (1, (.c (.int .i64 4)))), (3, (1, (.t 89)))]), oo_ 11 (.allc 26 [(.int .i64 0), (.int .i64 0), .nilS, .nilS]), os_ (.store 4 (.t 11) (.t 90))]) (.seq (.reg [oo_ 91 (.load (some 4) (.t 8)), oo_ 92 (.load (some 4) (.t 11)), oo_ 93 (.bslice 26 4 2 [(.int .i64 0), (.int .i64 0), .nilS, .nilS] [(0, (.t 91)), (1, (.t 92))]), oo_ 94 (.build [(.int .i64 0), (.int .i64 0), .nilS, .nilS] [(0, (1, (.c (.int .i64 5)))), (3, (1, (.t 93)))]), oo_ 12 (.allc 26 [(.int .i64 0), (.int .i64 0), .nilS, .nilS]), os_ (.store 4 (.t 12) (.t 94))]) (.seq (.reg [oo_ 95 (.load (some 4) (.t 8)), oo_ 96 (.load (some 4) (.t 8)), oo_ 97 (.load (some 4) (.t 12)), oo_ 98 (.bslice 26 4 3 [(.int .i64 0), (.int .i64 0), .nilS, .nilS] [(0, (.t 95)), (1, (.t 96)), (2, (.t 97))]), oo_ 99 (.build [(.int .i64 0), (.int .i64 0), .nilS, .nilS] [(0, (1, (.c (.int .i64 6)))), (3, (1, (.t 98)))]), oo_ 13 (.allc 26 [(.int .i64 0), (.int .i64 0), .nilS, .nilS]), os_ (.store 4 (.t 13) (.t 99))]) (.seq (.reg [om_ 100 0, om_ 101 1, oo_ 102 (.load (some 4) (.t 11)), oo_ 103 (.call 14 [(.t 100), (.t 101), (.t 102)]), om_ 104 10, oo_ 105 (.bin .eql (.t 103) (.t 104)), om_ 106 105, og_ 107 106 true (.mv (.t 0)), og_ 108 106 true (.mv (.t 1)), og_ 109 106 true (.load (some 4) (.t 12)), og_ 110 106 true (.call 14 [(.t 107), (.t 108), (.t 109)]), og_ 111 106 true (.mv (.t 10)), og_ 112 106 true (.bin .eql (.t 110) (.t 111)), oo_ 113 (.pick (.t 106) (.t 112) (.c (.bool false))), om_ 114 113, og_ 115 114 true (.mv (.t 0)), og_ 116 114 true (.mv (.t 1)), og_ 117 114 true (.load (some 4) (.t 13)), og_ 118 114 true (.call 14 [(.t 115), (.t 116), (.t 117)]), og_ 119 114 true (.mv (.t 10)), og_ 120 114 true (.bin .eql (.t 118) (.t 119)), oo_ 121 (.pick (.t 114) (.t 120) (.c (.bool false))), om_ 122 121, og_ 123 122 true (.call 13 []), oo_ 124 (.pick (.t 122) (.t 123) (.c (.bool false))), om_ 6 124]) .ret))))))))))
theorem broadsheetlaw18_CheckAround.code : comp PG [] (Tryz.f6.body.getD .skip) = broadsheetlaw18_CheckAround.c := by kernel_rfl
theorem broadsheetlaw18_CheckAround.of : OfE PG 6 3 broadsheetlaw18_CheckAround.c [(.t 6)] := fnE (nt := 125) mixed Tryz.func6 broadsheetlaw18_CheckAround.code (by kernel_rfl) (by kernel_rfl) (by kernel_rfl) (by kernel_rfl) (by kernel_rfl) (by kernel_rfl)
def broadsheetlaw18_awake.n : Nat := 13
noncomputable def broadsheetlaw18_awake.c : C := (.seq (.reg [oo_ 0 (.mv (.c (.bool false)))]) (.seq (.reg [oo_ 6 (.build [(.int .i64 0), (.str []), (.int .i64 0), (.int .i64 0), (.int .i64 0), .nilS] [(0, (1, (.c (.int .i64 2))))]), oo_ 7 (.build [(.int .i64 0), (.str []), (.int .i64 0), (.int .i64 0), (.int .i64 0), .nilS] [(0, (1, (.c (.int .i64 10)))), (2, (1, (.c (.int .i64 3))))]), oo_ 8 (.build [(.str []), (.int .u64 0), (.int .i64 0), (.bool false), (.bool false)] [(0, (1, (.c (.str [97]))))]), oo_ 9 (.build [(.str []), (.int .u64 0), (.int .i64 0), (.bool false), (.bool false)] [(0, (1, (.c (.str [115])))), (2, (1, (.c (.int .i64 1))))]), oo_ 10 (.bslice 70 5 2 [(.str []), (.int .u64 0), (.int .i64 0), (.bool false), (.bool false)] [(0, (.t 8)), (1, (.t 9))]), oo_ 11 (.build [(.int .i64 0), (.str []), (.int .i64 0), (.int .i64 0), (.int .i64 0), .nilS] [(0, (1, (.c (.int .i64 13)))), (1, (1, (.c (.str [80])))), (5, (1, (.t 10)))]), oo_ 12 (.bslice 67 6 3 [(.int .i64 0), (.str []), (.int .i64 0), (.int .i64 0), (.int .i64 0), .nilS] [(0, (.t 6)), (1, (.t 7)), (2, (.t 11))]), om_ 1 12]) (.seq (.reg [oo_ 14 (.call 36 [(.c (.str [97, 32, 61, 32, 39, 120, 39]))]), om_ 13 14, oo_ 15 (.extr (.t 13) 0), oo_ 16 (.extr (.t 13) 1), oo_ 2 (.allc 26 [(.int .i64 0), (.int .i64 0), .nilS, .nilS]), oo_ 3 (.allc 72 [(.int .i64 0), (.int .i64 0)]), os_ (.store 4 (.t 2) (.t 15)), os_ (.store 2 (.t 3) (.t 16))]) (.seq (.reg [oo_ 18 (.call 36 [(.c (.str [115, 32, 76, 73, 75, 69, 32, 39, 120, 39]))]), om_ 17 18, oo_ 19 (.extr (.t 17) 0), oo_ 20 (.extr (.t 17) 1), oo_ 4 (.allc 26 [(.int .i64 0), (.int .i64 0), .nilS, .nilS]), oo_ 5 (.allc 72 [(.int .i64 0), (.int .i64 0)]), os_ (.store 4 (.t 4) (.t 19)), os_ (.store 2 (.t 5) (.t 20))]) (.seq (.reg [om_ 21 1, oo_ 22 (.load (some 4) (.t 2)), oo_ 23 (.call 14 [(.t 21), (.c (.int .i64 2)), (.t 22)]), oo_ 24 (.bin .eql (.t 23) (.c (.int .i64 8))), om_ 25 24, og_ 26 25 true (.mv (.t 1)), og_ 27 25 true (.load (some 4) (.t 4)), og_ 28 25 true (.call 14 [(.t 26), (.c (.int .i64 2)), (.t 27)]), og_ 29 25 true (.bin .eql (.t 28) (.c (.int .i64 0))), oo_ 30 (.pick (.t 25) (.t 29) (.c (.bool false))), om_ 0 30]) .ret)))))
theorem broadsheetlaw18_awake.code : comp PG [] (Tryz.f13.body.getD .skip) = broadsheetlaw18_awake.c := by kernel_rfl
theorem broadsheetlaw18_awake.of : OfE PG 13 0 broadsheetlaw18_awake.c [(.t 0)] := fnE (nt := 31) mixed Tryz.func13 broadsheetlaw18_awake.code (by kernel_rfl) (by kernel_rfl) (by kernel_rfl) (by kernel_rfl) (by kernel_rfl) (by kernel_rfl)
def check_Check.n : Nat := 14
noncomputable def check_Check.c : C := (.seq (.reg [oo_ 5 (.box 26 (.t 2)), oo_ 6 (.mv (.c (.int .i64 0)))]) (.seq (.seq (.reg [om_ 7 1, oo_ 8 (.bin .lss (.t 7) (.c (.int .i64 0))), om_ 9 8, og_ 10 9 false (.mv (.t 1)), og_ 11 9 false (.mv (.t 0)), og_ 12 9 false (.len false (.t 11)), og_ 13 9 false (.bin .geq (.t 10) (.t 12)), oo_ 14 (.pick (.t 9) (.c (.bool true)) (.t 13)), om_ 15 14, og_ 16 15 false (.mv (.t 0)), og_ 17 15 false (.call 37 [(.t 16)]), og_ 18 15 false (.field 0 none (.t 17)), og_ 19 15 false (.bin .neq (.t 18) (.c (.int .i64 0))), oo_ 20 (.pick (.t 15) (.c (.bool true)) (.t 19))]) (.cond (.t 20) (.seq (.reg [oo_ 6 (.mv (.c (.int .i64 8)))]) .ret) .skip)) (.seq (.reg [om_ 21 0, om_ 22 1, oo_ 23 (.build [.nilS, (.int .i64 0)] [(0, (1, (.t 21))), (1, (1, (.t 22)))]), oo_ 24 (.load (some 4) (.t 5)), oo_ 25 (.call 38 [(.t 23), (.t 24)]), om_ 6 25]) .ret)))
theorem check_Check.code : comp PG [] (Tryz.f14.body.getD .skip) = check_Check.c := by kernel_rfl
theorem check_Check.of : OfE PG 14 3 check_Check.c [(.t 6)] := fnE (nt := 26) mixed Tryz.func14 check_Check.code (by kernel_rfl) (by kernel_rfl) (by kernel_rfl) (by kernel_rfl) (by kernel_rfl) (by kernel_rfl)
def check_Bind.n : Nat := 18
noncomputable def check_Bind.c : C := (.seq (.reg [oo_ 2 (.box 26 (.t 0)), oo_ 4 (.allc 26 [(.int .i64 0), (.int .i64 0), .nilS, .nilS]), oo_ 5 (.mv (.c (.int .i64 0)))]) (.seq (.reg [oo_ 6 (.mv (.c .nilS))]) (.seq (.seq (.reg [of_ 16 2 2, ol_ 17 16, oo_ 18 (.len false (.t 17)), oo_ 19 (.mv (.c (.int .i64 0)))]) (.block 0 (.loop (.seq (.reg [oo_ 20 (.bin .lss (.t 19) (.t 18))]) (.seq (.cond (.t 20) .skip (.exit 0)) (.seq (.block 1 (.seq (.reg [oo_ 21 (.iaddr 4 (.t 17) (.t 19)), oo_ 22 (.load (some 4) (.t 21)), oo_ 8 (.allc 35 [(.int .i64 0), (.str []), (.bool false), (.int .u64 0)]), os_ (.store 4 (.t 8) (.t 22))]) (.seq (.seq (.reg [of_ 23 0 8, ol_ 24 23, oo_ 25 (.bin .eql (.t 24) (.c (.int .i64 5)))]) (.cond (.t 25) (.seq (.seq (.reg [of_ 26 3 8, ol_ 27 26, om_ 28 1, oo_ 29 (.len false (.t 28)), oo_ 30 (.conv .u64 (.t 29)), oo_ 31 (.bin .geq (.t 27) (.t 30))]) (.cond (.t 31) (.seq (.reg [oo_ 32 (.build [(.int .i64 0), (.int .i64 0), .nilS, .nilS] []), os_ (.store 4 (.t 4) (.t 32)), oo_ 5 (.mv (.c (.int .i64 18)))]) .ret) .skip)) (.seq (.reg [om_ 34 1, of_ 35 3 8, ol_ 36 35, oo_ 37 (.iaddr 1 (.t 34) (.t 36)), ol_ 38 37, oo_ 39 (.call 47 [(.t 38)]), om_ 33 39, oo_ 40 (.extr (.t 33) 0), oo_ 41 (.extr (.t 33) 1), oo_ 9 (.allc 35 [(.int .i64 0), (.str []), (.bool false), (.int .u64 0)]), os_ (.store 4 (.t 9) (.t 40)), om_ 10 41]) (.seq (.seq (.reg [om_ 42 10, oo_ 43 (.un .not (.t 42))]) (.cond (.t 43) (.seq (.reg [oo_ 44 (.build [(.int .i64 0), (.int .i64 0), .nilS, .nilS] []), os_ (.store 4 (.t 4) (.t 44)), oo_ 5 (.mv (.c (.int .i64 1)))]) .ret) .skip)) (.reg [oo_ 45 (.load (some 4) (.t 9)), os_ (.store 4 (.t 8) (.t 45))])))) .skip)) (.reg [om_ 46 6, oo_ 47 (.load (some 4) (.t 8)), oo_ 48 (.bslice 35 4 1 [(.int .i64 0), (.str []), (.bool false), (.int .u64 0)] [(0, (.t 47))]), oo_ 49 (.append 35 false 4 40 (.t 46) (.t 48)), om_ 6 49])))) (.reg [oo_ 50 (.bin .add (.t 19) (.c (.int .i64 1))), om_ 19 50]))))))) (.seq (.reg [oo_ 11 (.mv (.c .nilS))]) (.seq (.seq (.reg [of_ 51 3 2, ol_ 52 51, oo_ 53 (.len false (.t 52)), oo_ 54 (.mv (.c (.int .i64 0)))]) (.block 2 (.loop (.seq (.reg [oo_ 55 (.bin .lss (.t 54) (.t 53))]) (.seq (.cond (.t 55) .skip (.exit 2)) (.seq (.block 3 (.seq (.reg [oo_ 56 (.iaddr 4 (.t 52) (.t 54)), oo_ 57 (.load (some 4) (.t 56)), oo_ 13 (.allc 26 [(.int .i64 0), (.int .i64 0), .nilS, .nilS]), os_ (.store 4 (.t 13) (.t 57))]) (.seq (.reg [oo_ 59 (.load (some 4) (.t 13)), om_ 60 1, oo_ 61 (.call 18 [(.t 59), (.t 60)]), om_ 58 61, oo_ 62 (.extr (.t 58) 0), oo_ 63 (.extr (.t 58) 1), oo_ 14 (.allc 26 [(.int .i64 0), (.int .i64 0), .nilS, .nilS]), os_ (.store 4 (.t 14) (.t 62)), om_ 15 63]) (.seq (.seq (.reg [om_ 64 15, oo_ 65 (.bin .neq (.t 64) (.c (.int .i64 0)))]) (.cond (.t 65) (.seq (.reg [oo_ 66 (.build [(.int .i64 0), (.int .i64 0), .nilS, .nilS] []), om_ 67 15, os_ (.store 4 (.t 4) (.t 66)), om_ 5 67]) .ret) .skip)) (.reg [om_ 68 11, oo_ 69 (.load (some 4) (.t 14)), oo_ 70 (.bslice 26 4 1 [(.int .i64 0), (.int .i64 0), .nilS, .nilS] [(0, (.t 69))]), oo_ 71 (.append 26 false 4 64 (.t 68) (.t 70)), om_ 11 71]))))) (.reg [oo_ 72 (.bin .add (.t 54) (.c (.int .i64 1))), om_ 54 72]))))))) (.seq (.reg [om_ 73 6, om_ 74 11, of_ 75 2 2, os_ (.store 1 (.t 75) (.t 73)), of_ 76 3 2, os_ (.store 1 (.t 76) (.t 74))]) (.seq (.reg [oo_ 77 (.load (some 4) (.t 2)), os_ (.store 4 (.t 4) (.t 77)), oo_ 5 (.mv (.c (.int .i64 0)))]) .ret)))))))
theorem check_Bind.code : comp PG [] (Tryz.f18.body.getD .skip) = check_Bind.c := by kernel_rfl
theorem check_Bind.of : OfE PG 18 2 check_Bind.c [(.cell 4 (some 4)), (.t 5)] := fnE (nt := 78) mixed Tryz.func18 check_Bind.code (by kernel_rfl) (by kernel_rfl) (by kernel_rfl) (by kernel_rfl) (by kernel_rfl) (by kernel_rfl)
def broadsheetlaw18_params.n : Nat := 21
noncomputable def broadsheetlaw18_params.c : C := (.seq (.reg [oo_ 1 (.box 26 (.t 0)), oo_ 2 (.mv (.c (.bool false)))]) (.seq (.seq (.reg [oo_ 3 (.mv (.c (.int .i64 0)))]) (.block 0 (.loop (.seq (.seq (.reg [om_ 5 3, of_ 6 2 1, ol_ 7 6, oo_ 8 (.len false (.t 7)), oo_ 9 (.bin .lss (.t 5) (.t 8))]) (.cond (.t 9) .skip (.exit 0))) (.seq (.block 1 (.seq (.reg [of_ 12 2 1, ol_ 13 12, om_ 14 3, oo_ 15 (.iaddr 4 (.t 13) (.t 14)), of_ 16 0 15, ol_ 17 16, oo_ 18 (.bin .eql (.t 17) (.c (.int .i64 5)))]) (.cond (.t 18) (.seq (.reg [oo_ 2 (.mv (.c (.bool true)))]) .ret) .skip))) (.reg [om_ 10 3, oo_ 11 (.bin .add (.t 10) (.c (.int .i64 1))), om_ 3 11])))))) (.seq (.seq (.reg [oo_ 4 (.mv (.c (.int .i64 0)))]) (.block 2 (.loop (.seq (.seq (.reg [om_ 19 4, of_ 20 3 1, ol_ 21 20, oo_ 22 (.len false (.t 21)), oo_ 23 (.bin .lss (.t 19) (.t 22))]) (.cond (.t 23) .skip (.exit 2))) (.seq (.block 3 (.seq (.reg [of_ 26 3 1, ol_ 27 26, om_ 28 4, oo_ 29 (.iaddr 4 (.t 27) (.t 28)), oo_ 30 (.load (some 4) (.t 29)), oo_ 31 (.call 21 [(.t 30)])]) (.cond (.t 31) (.seq (.reg [oo_ 2 (.mv (.c (.bool true)))]) .ret) .skip))) (.reg [om_ 24 4, oo_ 25 (.bin .add (.t 24) (.c (.int .i64 1))), om_ 4 25])))))) (.seq (.reg [oo_ 2 (.mv (.c (.bool false)))]) .ret))))
theorem broadsheetlaw18_params.code : comp PG [] (Tryz.f21.body.getD .skip) = broadsheetlaw18_params.c := by kernel_rfl
theorem broadsheetlaw18_params.of : OfE PG 21 1 broadsheetlaw18_params.c [(.t 2)] := fnE (nt := 32) mixed Tryz.func21 broadsheetlaw18_params.code (by kernel_rfl) (by kernel_rfl) (by kernel_rfl) (by kernel_rfl) (by kernel_rfl) (by kernel_rfl)
def check_plan_tree.n : Nat := 38
noncomputable def check_plan_tree.c : C := (.seq (.reg [oo_ 2 (.box 77 (.t 0)), oo_ 3 (.box 26 (.t 1)), oo_ 4 (.allc 30 [(.int .i64 0)])]) (.seq (.seq (.reg [oo_ 11 (.load (some 2) (.t 2)), oo_ 12 (.load (some 4) (.t 3)), oo_ 13 (.call 72 [(.t 11), (.t 12)])]) (.block 0 (.rangeF (.t 13) [14, 15] (.reg [om_ 6 15]) (.block 1 (.seq (.reg [om_ 16 6, oo_ 17 (.bin .neq (.t 16) (.c (.int .i64 0)))]) (.cond (.t 17) (.seq (.reg [om_ 18 6, os_ (.store 1 (.t 4) (.t 18))]) .ret) .skip)))))) (.seq (.seq (.reg [oo_ 19 (.load (some 4) (.t 3)), oo_ 20 (.call 73 [(.t 19)]), oo_ 21 (.un .not (.t 20))]) (.cond (.t 21) (.seq (.reg [os_ (.store 1 (.t 4) (.c (.int .i64 1)))]) .ret) .skip)) (.seq (.seq (.reg [oo_ 22 (.load (some 2) (.t 2)), oo_ 23 (.load (some 4) (.t 3)), oo_ 24 (.call 74 [(.t 22), (.t 23)]), om_ 7 24]) (.seq (.reg [om_ 25 7, oo_ 26 (.bin .neq (.t 25) (.c (.int .i64 0)))]) (.cond (.t 26) (.seq (.reg [om_ 27 7, os_ (.store 1 (.t 4) (.t 27))]) .ret) .skip))) (.seq (.seq (.reg [of_ 28 3 3, ol_ 29 28, oo_ 30 (.len false (.t 29)), oo_ 31 (.mv (.c (.int .i64 0)))]) (.block 2 (.loop (.seq (.reg [oo_ 32 (.bin .lss (.t 31) (.t 30))]) (.seq (.cond (.t 32) .skip (.exit 2)) (.seq (.block 3 (.seq (.reg [oo_ 33 (.iaddr 4 (.t 29) (.t 31)), oo_ 34 (.load (some 4) (.t 33)), oo_ 9 (.allc 26 [(.int .i64 0), (.int .i64 0), .nilS, .nilS]), os_ (.store 4 (.t 9) (.t 34))]) (.seq (.reg [oo_ 35 (.load (some 2) (.t 2)), oo_ 36 (.load (some 4) (.t 9)), oo_ 37 (.call 38 [(.t 35), (.t 36)]), om_ 10 37]) (.seq (.reg [om_ 38 10, oo_ 39 (.bin .neq (.t 38) (.c (.int .i64 0)))]) (.cond (.t 39) (.seq (.reg [om_ 40 10, os_ (.store 1 (.t 4) (.t 40))]) .ret) .skip))))) (.reg [oo_ 41 (.bin .add (.t 31) (.c (.int .i64 1))), om_ 31 41]))))))) (.seq (.reg [os_ (.store 1 (.t 4) (.c (.int .i64 0)))]) .ret))))))
theorem check_plan_tree.code : comp PG [] (Tryz.f38.body.getD .skip) = check_plan_tree.c := by kernel_rfl
theorem check_plan_tree.of : OfE PG 38 2 check_plan_tree.c [(.cell 4 none)] := fnE (nt := 42) mixed Tryz.func38 check_plan_tree.code (by kernel_rfl) (by kernel_rfl) (by kernel_rfl) (by kernel_rfl) (by kernel_rfl) (by kernel_rfl)
def check_plan_at.n : Nat := 41
noncomputable def check_plan_at.c : C := (.seq (.reg [oo_ 2 (.box 77 (.t 0)), oo_ 4 (.allc 80 [(.int .i64 0), (.int .i64 0)]), oo_ 5 (.mv (.c (.int .i64 0)))]) (.seq (.reg [of_ 11 0 2, ol_ 12 11, of_ 13 1 2, ol_ 14 13, om_ 15 1, oo_ 16 (.call 55 [(.t 12), (.t 14), (.t 15)]), om_ 10 16, oo_ 17 (.extr (.t 10) 0), oo_ 18 (.extr (.t 10) 1), oo_ 19 (.extr (.t 10) 2), om_ 6 17, om_ 7 18, om_ 8 19]) (.seq (.seq (.reg [om_ 20 8, oo_ 21 (.bin .neq (.t 20) (.c (.int .i64 0)))]) (.cond (.t 21) (.seq (.reg [oo_ 22 (.build [(.int .i64 0), (.int .i64 0)] []), om_ 23 8, os_ (.store 2 (.t 4) (.t 22)), om_ 5 23]) .ret) .skip)) (.seq (.seq (.reg [of_ 24 0 2, ol_ 25 24, om_ 26 7, oo_ 27 (.iaddr 6 (.t 25) (.t 26)), of_ 28 0 27, ol_ 29 28, om_ 9 29]) (.block 0 (.seq (.reg [om_ 31 9, oo_ 32 (.bin .eql (.t 31) (.c (.int .i64 9))), om_ 30 32]) (.cond (.t 30) (.seq (.reg [om_ 33 7, oo_ 34 (.bin .add (.t 33) (.c (.int .i64 1))), oo_ 35 (.build [(.int .i64 0), (.int .i64 0)] [(0, (1, (.c (.int .i64 1)))), (1, (1, (.t 34)))]), os_ (.store 2 (.t 4) (.t 35)), oo_ 5 (.mv (.c (.int .i64 0)))]) .ret) (.seq (.reg [om_ 37 9, oo_ 38 (.bin .eql (.t 37) (.c (.int .i64 1))), om_ 36 38]) (.cond (.t 36) (.seq (.reg [oo_ 39 (.build [(.int .i64 0), (.int .i64 0)] [(0, (1, (.c (.int .i64 3)))), (1, (1, (.c (.int .i64 0))))]), os_ (.store 2 (.t 4) (.t 39)), oo_ 5 (.mv (.c (.int .i64 0)))]) .ret) (.seq (.reg [om_ 41 9, oo_ 42 (.bin .eql (.t 41) (.c (.int .i64 10))), om_ 40 42]) (.cond (.t 40) (.seq (.reg [oo_ 43 (.build [(.int .i64 0), (.int .i64 0)] [(0, (1, (.c (.int .i64 2)))), (1, (1, (.c (.int .i64 0))))]), os_ (.store 2 (.t 4) (.t 43)), oo_ 5 (.mv (.c (.int .i64 0)))]) .ret) (.seq (.reg [om_ 45 9, oo_ 46 (.call 77 [(.t 45)]), om_ 44 46]) (.cond (.t 44) (.seq (.reg [oo_ 47 (.build [(.int .i64 0), (.int .i64 0)] [(0, (1, (.c (.int .i64 1)))), (1, (1, (.c (.int .i64 0))))]), os_ (.store 2 (.t 4) (.t 47)), oo_ 5 (.mv (.c (.int .i64 0)))]) .ret) .skip)))))))))) (.seq (.reg [oo_ 48 (.build [(.int .i64 0), (.int .i64 0)] []), os_ (.store 2 (.t 4) (.t 48)), oo_ 5 (.mv (.c (.int .i64 8)))]) .ret)))))
theorem check_plan_at.code : comp PG [] (Tryz.f41.body.getD .skip) = check_plan_at.c := by kernel_rfl
theorem check_plan_at.of : OfE PG 41 2 check_plan_at.c [(.cell 4 (some 2)), (.t 5)] := fnE (nt := 49) mixed Tryz.func41 check_plan_at.code (by kernel_rfl) (by kernel_rfl) (by kernel_rfl) (by kernel_rfl) (by kernel_rfl) (by kernel_rfl)
def check_literal.n : Nat := 47
noncomputable def check_literal.c : C := (.seq (.reg [oo_ 2 (.allc 35 [(.int .i64 0), (.str []), (.bool false), (.int .u64 0)]), oo_ 3 (.mv (.c (.bool false)))]) (.seq (.reg [om_ 8 0, oo_ 9 (.call 61 [(.t 8)]), om_ 7 9, oo_ 10 (.extr (.t 7) 0), oo_ 11 (.extr (.t 7) 1), oo_ 5 (.allc 72 [(.int .i64 0), (.int .i64 0)]), om_ 4 10, os_ (.store 2 (.t 5) (.t 11))]) (.seq (.seq (.reg [of_ 12 0 5, ol_ 13 12, oo_ 14 (.bin .neq (.t 13) (.c (.int .i64 0)))]) (.cond (.t 14) (.seq (.reg [oo_ 15 (.build [(.int .i64 0), (.str []), (.bool false), (.int .u64 0)] []), os_ (.store 4 (.t 2) (.t 15)), oo_ 3 (.mv (.c (.bool false)))]) .ret) .skip)) (.seq (.reg [om_ 16 4, om_ 17 4, oo_ 18 (.len false (.t 17)), oo_ 19 (.bin .sub (.t 18) (.c (.int .i64 1))), oo_ 20 (.slice (some 4) (.t 16) none (some (.t 19))), om_ 4 20]) (.seq (.reg [om_ 21 4, oo_ 22 (.len false (.t 21)), oo_ 23 (.bin .eql (.t 22) (.c (.int .i64 2))), om_ 24 23, og_ 25 24 true (.mv (.t 4)), og_ 26 24 true (.iaddr 4 (.t 25) (.c (.int .i64 0))), og_ 27 24 true (.faddr 0 (.t 26)), og_ 28 24 true (.load none (.t 27)), og_ 29 24 true (.bin .eql (.t 28) (.c (.int .i64 5))), oo_ 30 (.pick (.t 24) (.t 29) (.c (.bool false))), om_ 31 30, og_ 32 31 true (.mv (.t 4)), og_ 33 31 true (.iaddr 4 (.t 32) (.c (.int .i64 0))), og_ 34 31 true (.faddr 1 (.t 33)), og_ 35 31 true (.load none (.t 34)), og_ 36 31 true (.bin .eql (.t 35) (.c (.str [45]))), oo_ 37 (.pick (.t 31) (.t 36) (.c (.bool false))), om_ 6 37]) (.seq (.seq (.reg [om_ 38 6]) (.cond (.t 38) (.reg [om_ 39 4, oo_ 40 (.slice (some 4) (.t 39) (some (.c (.int .i64 1))) none), om_ 4 40]) .skip)) (.seq (.block 0 (.seq (.reg [om_ 42 4, oo_ 43 (.len false (.t 42)), oo_ 44 (.bin .neq (.t 43) (.c (.int .i64 1))), om_ 45 44, og_ 46 45 false (.mv (.t 6)), og_ 47 45 false (.mv (.t 46)), og_ 48 47 true (.mv (.t 4)), og_ 49 47 true (.iaddr 4 (.t 48) (.c (.int .i64 0))), og_ 50 47 true (.faddr 0 (.t 49)), og_ 51 47 true (.load none (.t 50)), og_ 52 47 true (.bin .neq (.t 51) (.c (.int .i64 2))), og_ 53 45 false (.pick (.t 47) (.t 52) (.c (.bool false))), oo_ 54 (.pick (.t 45) (.c (.bool true)) (.t 53)), om_ 41 54]) (.cond (.t 41) (.seq (.reg [oo_ 55 (.build [(.int .i64 0), (.str []), (.bool false), (.int .u64 0)] []), os_ (.store 4 (.t 2) (.t 55)), oo_ 3 (.mv (.c (.bool false)))]) .ret) (.seq (.reg [om_ 57 4, oo_ 58 (.iaddr 4 (.t 57) (.c (.int .i64 0))), of_ 59 0 58, ol_ 60 59, oo_ 61 (.bin .eql (.t 60) (.c (.int .i64 2))), om_ 56 61]) (.cond (.t 56) (.seq (.reg [om_ 62 6, om_ 63 4, oo_ 64 (.iaddr 4 (.t 63) (.c (.int .i64 0))), of_ 65 2 64, ol_ 66 65, oo_ 67 (.build [(.int .i64 0), (.str []), (.bool false), (.int .u64 0)] [(0, (1, (.c (.int .i64 2)))), (2, (1, (.t 62))), (3, (1, (.t 66)))]), os_ (.store 4 (.t 2) (.t 67)), oo_ 3 (.mv (.c (.bool true)))]) .ret) (.seq (.reg [om_ 69 4, oo_ 70 (.iaddr 4 (.t 69) (.c (.int .i64 0))), of_ 71 0 70, ol_ 72 71, oo_ 73 (.bin .eql (.t 72) (.c (.int .i64 3))), om_ 68 73]) (.cond (.t 68) (.seq (.reg [om_ 74 4, oo_ 75 (.iaddr 4 (.t 74) (.c (.int .i64 0))), of_ 76 1 75, ol_ 77 76, oo_ 78 (.build [(.int .i64 0), (.str []), (.bool false), (.int .u64 0)] [(0, (1, (.c (.int .i64 3)))), (1, (1, (.t 77)))]), os_ (.store 4 (.t 2) (.t 78)), oo_ 3 (.mv (.c (.bool true)))]) .ret) (.seq (.reg [om_ 80 4, oo_ 81 (.iaddr 4 (.t 80) (.c (.int .i64 0))), of_ 82 0 81, ol_ 83 82, oo_ 84 (.bin .neq (.t 83) (.c (.int .i64 1))), om_ 79 84]) (.cond (.t 79) (.seq (.reg [oo_ 85 (.build [(.int .i64 0), (.str []), (.bool false), (.int .u64 0)] []), os_ (.store 4 (.t 2) (.t 85)), oo_ 3 (.mv (.c (.bool false)))]) .ret) (.seq (.reg [om_ 87 4, oo_ 88 (.iaddr 4 (.t 87) (.c (.int .i64 0))), of_ 89 1 88, ol_ 90 89, oo_ 91 (.bin .eql (.t 90) (.c (.str [84, 82, 85, 69]))), om_ 86 91]) (.cond (.t 86) (.seq (.reg [oo_ 92 (.build [(.int .i64 0), (.str []), (.bool false), (.int .u64 0)] [(0, (1, (.c (.int .i64 4)))), (3, (1, (.c (.int .u64 1))))]), os_ (.store 4 (.t 2) (.t 92)), oo_ 3 (.mv (.c (.bool true)))]) .ret) .skip))))))))))) (.seq (.dreg [oo_ 93 (.build [(.int .i64 0), (.str []), (.bool false), (.int .u64 0)] [(0, (1, (.c (.int .i64 4))))]), om_ 94 4, oo_ 95 (.iaddr 4 (.t 94) (.c (.int .i64 0))), of_ 96 1 95, ol_ 97 96, oo_ 98 (.bin .eql (.t 97) (.c (.str [70, 65, 76, 83, 69]))), os_ (.store 4 (.t 2) (.t 93))] [om_ 3 98]) .ret))))))))
theorem check_literal.code : comp PG [] (Tryz.f47.body.getD .skip) = check_literal.c := by kernel_rfl
theorem check_literal.of : OfE PG 47 1 check_literal.c [(.cell 2 (some 4)), (.t 3)] := fnE (nt := 99) mixed Tryz.func47 check_literal.code (by kernel_rfl) (by kernel_rfl) (by kernel_rfl) (by kernel_rfl) (by kernel_rfl) (by kernel_rfl)
def check_plan_operands.n : Nat := 72
noncomputable def check_plan_operands.c : C := (.seq (.reg [oo_ 2 (.box 77 (.t 0)), oo_ 3 (.box 26 (.t 1)), oo_ 4 (.mv (.c .nilF))]) (.seq (.reg [oo_ 5 (.mkfn 122 [] [(.t 3), (.t 2)]), om_ 4 5]) .ret))
theorem check_plan_operands.code : comp PG [] (Tryz.f72.body.getD .skip) = check_plan_operands.c := by kernel_rfl
theorem check_plan_operands.of : OfE PG 72 2 check_plan_operands.c [(.t 4)] := fnE (nt := 6) mixed Tryz.func72 check_plan_operands.code (by kernel_rfl) (by kernel_rfl) (by kernel_rfl) (by kernel_rfl) (by kernel_rfl) (by kernel_rfl)
def check_formed.n : Nat := 73
noncomputable def check_formed.c : C := (.seq (.reg [oo_ 1 (.box 26 (.t 0)), oo_ 2 (.mv (.c (.bool false)))]) (.seq (.dreg [of_ 5 2 1, ol_ 6 5, oo_ 7 (.len false (.t 6)), of_ 8 3 1, ol_ 9 8, oo_ 10 (.len false (.t 9)), om_ 3 7] [om_ 4 10]) (.seq (.seq (.reg [of_ 11 0 1, ol_ 12 11]) (.block 0 (.seq (.reg [oo_ 14 (.bin .eql (.t 12) (.c (.int .i64 1))), om_ 13 14]) (.cond (.t 13) (.seq (.reg [om_ 15 3, oo_ 16 (.bin .eql (.t 15) (.c (.int .i64 2))), om_ 17 16, og_ 18 17 true (.mv (.t 4)), og_ 19 17 true (.bin .eql (.t 18) (.c (.int .i64 0))), oo_ 20 (.pick (.t 17) (.t 19) (.c (.bool false))), om_ 21 20, og_ 22 21 true (.faddr 1 (.t 1)), og_ 23 21 true (.load none (.t 22)), og_ 24 21 true (.bin .geq (.t 23) (.c (.int .i64 1))), oo_ 25 (.pick (.t 21) (.t 24) (.c (.bool false))), om_ 26 25, og_ 27 26 true (.faddr 1 (.t 1)), og_ 28 26 true (.load none (.t 27)), og_ 29 26 true (.bin .leq (.t 28) (.c (.int .i64 6))), oo_ 30 (.pick (.t 26) (.t 29) (.c (.bool false))), om_ 2 30]) .ret) (.seq (.reg [oo_ 32 (.bin .eql (.t 12) (.c (.int .i64 3))), om_ 31 32]) (.cond (.t 31) (.seq (.reg [om_ 33 3, oo_ 34 (.bin .eql (.t 33) (.c (.int .i64 2))), om_ 35 34, og_ 36 35 true (.mv (.t 4)), og_ 37 35 true (.bin .eql (.t 36) (.c (.int .i64 0))), oo_ 38 (.pick (.t 35) (.t 37) (.c (.bool false))), om_ 2 38]) .ret) (.seq (.reg [oo_ 40 (.bin .eql (.t 12) (.c (.int .i64 2))), om_ 39 40]) (.cond (.t 39) (.seq (.reg [om_ 41 3, oo_ 42 (.bin .eql (.t 41) (.c (.int .i64 3))), om_ 43 42, og_ 44 43 true (.mv (.t 4)), og_ 45 43 true (.bin .eql (.t 44) (.c (.int .i64 0))), oo_ 46 (.pick (.t 43) (.t 45) (.c (.bool false))), om_ 2 46]) .ret) (.seq (.reg [oo_ 48 (.bin .eql (.t 12) (.c (.int .i64 4))), om_ 47 48]) (.cond (.t 47) (.seq (.reg [om_ 49 3, oo_ 50 (.bin .eql (.t 49) (.c (.int .i64 0))), om_ 51 50, og_ 52 51 true (.mv (.t 4)), og_ 53 51 true (.bin .eql (.t 52) (.c (.int .i64 1))), oo_ 54 (.pick (.t 51) (.t 53) (.c (.bool false))), om_ 2 54]) .ret) (.seq (.seq (.reg [oo_ 56 (.bin .eql (.t 12) (.c (.int .i64 5))), om_ 55 56]) (.cond (.t 55) .skip (.reg [oo_ 57 (.bin .eql (.t 12) (.c (.int .i64 6))), om_ 55 57]))) (.cond (.t 55) (.seq (.reg [om_ 58 3, oo_ 59 (.bin .eql (.t 58) (.c (.int .i64 0))), om_ 60 59, og_ 61 60 true (.mv (.t 4)), og_ 62 60 true (.bin .geq (.t 61) (.c (.int .i64 2))), oo_ 63 (.pick (.t 60) (.t 62) (.c (.bool false))), om_ 2 63]) .ret) .skip)))))))))))) (.seq (.reg [oo_ 2 (.mv (.c (.bool false)))]) .ret))))
theorem check_formed.code : comp PG [] (Tryz.f73.body.getD .skip) = check_formed.c := by kernel_rfl
theorem check_formed.of : OfE PG 73 1 check_formed.c [(.t 2)] := fnE (nt := 64) mixed Tryz.func73 check_formed.code (by kernel_rfl) (by kernel_rfl) (by kernel_rfl) (by kernel_rfl) (by kernel_rfl) (by kernel_rfl)
def check_plan_tests.n : Nat := 74
noncomputable def check_plan_tests.c : C := (.seq (.reg [oo_ 2 (.box 77 (.t 0)), oo_ 3 (.box 26 (.t 1)), oo_ 4 (.allc 30 [(.int .i64 0)])]) (.seq (.seq (.reg [of_ 9 0 3, ol_ 10 9]) (.block 0 (.seq (.reg [oo_ 12 (.bin .eql (.t 10) (.c (.int .i64 1))), om_ 11 12]) (.cond (.t 11) (.seq (.dreg [oo_ 13 (.load (some 2) (.t 2)), of_ 14 2 3, ol_ 15 14, oo_ 16 (.iaddr 4 (.t 15) (.c (.int .i64 0))), oo_ 17 (.load (some 4) (.t 16)), of_ 18 2 3, ol_ 19 18, oo_ 20 (.iaddr 4 (.t 19) (.c (.int .i64 1))), oo_ 21 (.load (some 4) (.t 20)), of_ 22 1 3, ol_ 23 22] [oo_ 24 (.call 124 [(.t 13), (.t 17), (.t 21), (.t 23)]), os_ (.store 1 (.t 4) (.t 24))]) .ret) (.seq (.reg [oo_ 26 (.bin .eql (.t 10) (.c (.int .i64 2))), om_ 25 26]) (.cond (.t 25) (.seq (.seq (.dreg [oo_ 27 (.load (some 2) (.t 2)), of_ 28 2 3, ol_ 29 28, oo_ 30 (.iaddr 4 (.t 29) (.c (.int .i64 0))), oo_ 31 (.load (some 4) (.t 30)), of_ 32 2 3, ol_ 33 32, oo_ 34 (.iaddr 4 (.t 33) (.c (.int .i64 1))), oo_ 35 (.load (some 4) (.t 34))] [oo_ 36 (.call 124 [(.t 27), (.t 31), (.t 35), (.c (.int .i64 4))]), om_ 5 36]) (.seq (.reg [om_ 37 5, oo_ 38 (.bin .neq (.t 37) (.c (.int .i64 0)))]) (.cond (.t 38) (.seq (.reg [om_ 39 5, os_ (.store 1 (.t 4) (.t 39))]) .ret) .skip))) (.seq (.dreg [oo_ 40 (.load (some 2) (.t 2)), of_ 41 2 3, ol_ 42 41, oo_ 43 (.iaddr 4 (.t 42) (.c (.int .i64 0))), oo_ 44 (.load (some 4) (.t 43)), of_ 45 2 3, ol_ 46 45, oo_ 47 (.iaddr 4 (.t 46) (.c (.int .i64 2))), oo_ 48 (.load (some 4) (.t 47))] [oo_ 49 (.call 124 [(.t 40), (.t 44), (.t 48), (.c (.int .i64 4))]), os_ (.store 1 (.t 4) (.t 49))]) .ret)) (.seq (.reg [oo_ 51 (.bin .eql (.t 10) (.c (.int .i64 3))), om_ 50 51]) (.cond (.t 50) (.seq (.reg [oo_ 52 (.load (some 2) (.t 2)), oo_ 53 (.load (some 4) (.t 3)), oo_ 54 (.call 72 [(.t 52), (.t 53)])]) (.block 1 (.rangeF (.t 54) [55, 56] (.reg [oo_ 6 (.allc 35 [(.int .i64 0), (.str []), (.bool false), (.int .u64 0)]), os_ (.store 4 (.t 6) (.t 55))]) (.block 2 (.seq (.reg [oo_ 58 (.load (some 2) (.t 2)), oo_ 59 (.load (some 4) (.t 6)), oo_ 60 (.call 123 [(.t 58), (.t 59)]), om_ 57 60, oo_ 61 (.extr (.t 57) 0), oo_ 62 (.extr (.t 57) 1), oo_ 7 (.allc 80 [(.int .i64 0), (.int .i64 0)]), os_ (.store 2 (.t 7) (.t 61)), om_ 8 62]) (.seq (.reg [of_ 63 0 7, ol_ 64 63, oo_ 65 (.bin .neq (.t 64) (.c (.int .i64 2)))]) (.cond (.t 65) (.seq (.reg [os_ (.store 1 (.t 4) (.c (.int .i64 8)))]) .ret) .skip))))))) .skip)))))))) (.seq (.reg [os_ (.store 1 (.t 4) (.c (.int .i64 0)))]) .ret)))
theorem check_plan_tests.code : comp PG [] (Tryz.f74.body.getD .skip) = check_plan_tests.c := by kernel_rfl
theorem check_plan_tests.of : OfE PG 74 2 check_plan_tests.c [(.cell 4 none)] := fnE (nt := 66) mixed Tryz.func74 check_plan_tests.code (by kernel_rfl) (by kernel_rfl) (by kernel_rfl) (by kernel_rfl) (by kernel_rfl) (by kernel_rfl)
def check_plan_operands_1.n : Nat := 122
noncomputable def check_plan_operands_1.c : C := (.seq (.reg [of_ 8 2 1, ol_ 9 8, oo_ 10 (.len false (.t 9)), oo_ 11 (.mv (.c (.int .i64 0)))]) (.block 0 (.loop (.seq (.reg [oo_ 12 (.bin .lss (.t 11) (.t 10))]) (.seq (.cond (.t 12) .skip (.exit 0)) (.seq (.block 1 (.seq (.reg [oo_ 13 (.iaddr 4 (.t 9) (.t 11)), oo_ 14 (.load (some 4) (.t 13)), oo_ 5 (.allc 35 [(.int .i64 0), (.str []), (.bool false), (.int .u64 0)]), os_ (.store 4 (.t 5) (.t 14))]) (.seq (.reg [oo_ 16 (.load (some 2) (.t 2)), oo_ 17 (.load (some 4) (.t 5)), oo_ 18 (.call 123 [(.t 16), (.t 17)]), om_ 15 18, oo_ 19 (.extr (.t 15) 0), oo_ 20 (.extr (.t 15) 1), oo_ 6 (.allc 80 [(.int .i64 0), (.int .i64 0)]), os_ (.store 2 (.t 6) (.t 19)), om_ 7 20]) (.seq (.reg [om_ 21 0, oo_ 22 (.load (some 4) (.t 5)), om_ 23 7, oo_ 24 (.callv (.t 21) [(.t 22), (.t 23)]), oo_ 25 (.un .not (.t 24))]) (.cond (.t 25) .ret .skip))))) (.reg [oo_ 26 (.bin .add (.t 11) (.c (.int .i64 1))), om_ 11 26])))))))
theorem check_plan_operands_1.code : comp PG [] (Tryz.f122.body.getD .skip) = check_plan_operands_1.c := by kernel_rfl
theorem check_plan_operands_1.of' : OfL PG 122 27 check_plan_operands_1.c [] := fnL mixed Tryz.func122 check_plan_operands_1.code (by kernel_rfl) (by kernel_rfl) (by kernel_rfl) (by kernel_rfl) (by kernel_rfl)
def check_plan_operand.n : Nat := 123
noncomputable def check_plan_operand.c : C := (.seq (.reg [oo_ 2 (.box 77 (.t 0)), oo_ 3 (.box 35 (.t 1)), oo_ 4 (.allc 80 [(.int .i64 0), (.int .i64 0)]), oo_ 5 (.mv (.c (.int .i64 0)))]) (.seq (.seq (.reg [of_ 6 0 3, ol_ 7 6]) (.block 0 (.seq (.reg [oo_ 9 (.bin .eql (.t 7) (.c (.int .i64 1))), om_ 8 9]) (.cond (.t 8) (.seq (.reg [oo_ 10 (.load (some 2) (.t 2)), of_ 11 1 3, ol_ 12 11, oo_ 13 (.call 41 [(.t 10), (.t 12)]), oo_ 14 (.extr (.t 13) 0), oo_ 15 (.extr (.t 13) 1), os_ (.store 2 (.t 4) (.t 14)), om_ 5 15]) .ret) (.seq (.reg [oo_ 17 (.bin .eql (.t 7) (.c (.int .i64 2))), om_ 16 17]) (.cond (.t 16) (.seq (.reg [oo_ 18 (.build [(.int .i64 0), (.int .i64 0)] [(0, (1, (.c (.int .i64 1)))), (1, (1, (.c (.int .i64 0))))]), os_ (.store 2 (.t 4) (.t 18)), oo_ 5 (.mv (.c (.int .i64 0)))]) .ret) (.seq (.reg [oo_ 20 (.bin .eql (.t 7) (.c (.int .i64 3))), om_ 19 20]) (.cond (.t 19) (.seq (.reg [oo_ 21 (.build [(.int .i64 0), (.int .i64 0)] [(0, (1, (.c (.int .i64 2)))), (1, (1, (.c (.int .i64 0))))]), os_ (.store 2 (.t 4) (.t 21)), oo_ 5 (.mv (.c (.int .i64 0)))]) .ret) (.seq (.reg [oo_ 23 (.bin .eql (.t 7) (.c (.int .i64 4))), om_ 22 23]) (.cond (.t 22) (.seq (.reg [oo_ 24 (.build [(.int .i64 0), (.int .i64 0)] [(0, (1, (.c (.int .i64 3)))), (1, (1, (.c (.int .i64 0))))]), os_ (.store 2 (.t 4) (.t 24)), oo_ 5 (.mv (.c (.int .i64 0)))]) .ret) (.seq (.reg [oo_ 26 (.bin .eql (.t 7) (.c (.int .i64 5))), om_ 25 26]) (.cond (.t 25) (.seq (.reg [oo_ 27 (.build [(.int .i64 0), (.int .i64 0)] []), os_ (.store 2 (.t 4) (.t 27)), oo_ 5 (.mv (.c (.int .i64 18)))]) .ret) .skip)))))))))))) (.seq (.reg [oo_ 28 (.build [(.int .i64 0), (.int .i64 0)] []), os_ (.store 2 (.t 4) (.t 28)), oo_ 5 (.mv (.c (.int .i64 1)))]) .ret)))
theorem check_plan_operand.code : comp PG [] (Tryz.f123.body.getD .skip) = check_plan_operand.c := by kernel_rfl
theorem check_plan_operand.of : OfE PG 123 2 check_plan_operand.c [(.cell 4 (some 2)), (.t 5)] := fnE (nt := 29) mixed Tryz.func123 check_plan_operand.code (by kernel_rfl) (by kernel_rfl) (by kernel_rfl) (by kernel_rfl) (by kernel_rfl) (by kernel_rfl)
def check_plan_together.n : Nat := 124
noncomputable def check_plan_together.c : C := (.seq (.reg [oo_ 4 (.box 77 (.t 0)), oo_ 5 (.box 35 (.t 1)), oo_ 6 (.box 35 (.t 2)), oo_ 8 (.mv (.c (.int .i64 0)))]) (.seq (.reg [oo_ 14 (.load (some 2) (.t 4)), oo_ 15 (.load (some 4) (.t 5)), oo_ 16 (.call 123 [(.t 14), (.t 15)]), om_ 13 16, oo_ 17 (.extr (.t 13) 0), oo_ 18 (.extr (.t 13) 1), oo_ 9 (.allc 80 [(.int .i64 0), (.int .i64 0)]), os_ (.store 2 (.t 9) (.t 17)), om_ 10 18]) (.seq (.reg [oo_ 20 (.load (some 2) (.t 4)), oo_ 21 (.load (some 4) (.t 6)), oo_ 22 (.call 123 [(.t 20), (.t 21)]), om_ 19 22, oo_ 23 (.extr (.t 19) 0), oo_ 24 (.extr (.t 19) 1), oo_ 11 (.allc 80 [(.int .i64 0), (.int .i64 0)]), os_ (.store 2 (.t 11) (.t 23)), om_ 12 24]) (.seq (.block 0 (.seq (.reg [of_ 26 1 9, ol_ 27 26, oo_ 28 (.bin .gtr (.t 27) (.c (.int .i64 0))), om_ 29 28, og_ 30 29 true (.faddr 1 (.t 11)), og_ 31 29 true (.load none (.t 30)), og_ 32 29 true (.bin .eql (.t 31) (.c (.int .i64 0))), oo_ 33 (.pick (.t 29) (.t 32) (.c (.bool false))), om_ 25 33]) (.cond (.t 25) (.seq (.reg [oo_ 34 (.load (some 2) (.t 4)), oo_ 35 (.load (some 2) (.t 9)), oo_ 36 (.load (some 4) (.t 6)), oo_ 37 (.call 162 [(.t 34), (.t 35), (.t 36)]), om_ 8 37]) .ret) (.seq (.reg [of_ 39 1 11, ol_ 40 39, oo_ 41 (.bin .gtr (.t 40) (.c (.int .i64 0))), om_ 42 41, og_ 43 42 true (.faddr 1 (.t 9)), og_ 44 42 true (.load none (.t 43)), og_ 45 42 true (.bin .eql (.t 44) (.c (.int .i64 0))), oo_ 46 (.pick (.t 42) (.t 45) (.c (.bool false))), om_ 38 46]) (.cond (.t 38) (.seq (.reg [oo_ 47 (.load (some 2) (.t 4)), oo_ 48 (.load (some 2) (.t 11)), oo_ 49 (.load (some 4) (.t 5)), oo_ 50 (.call 162 [(.t 47), (.t 48), (.t 49)]), om_ 8 50]) .ret) (.seq (.reg [oo_ 52 (.load (some 2) (.t 9)), oo_ 53 (.load (some 2) (.t 11)), oo_ 54 (.aeq true [(.i .i64), (.i .i64)] (.t 52) (.t 53)), om_ 51 54]) (.cond (.t 51) (.seq (.reg [oo_ 8 (.mv (.c (.int .i64 8)))]) .ret) (.seq (.reg [of_ 56 0 9, ol_ 57 56, oo_ 58 (.bin .eql (.t 57) (.c (.int .i64 3))), om_ 59 58, og_ 60 59 true (.mv (.t 3)), og_ 61 59 true (.bin .neq (.t 60) (.c (.int .i64 1))), oo_ 62 (.pick (.t 59) (.t 61) (.c (.bool false))), om_ 63 62, og_ 64 63 true (.mv (.t 3)), og_ 65 63 true (.bin .neq (.t 64) (.c (.int .i64 2))), oo_ 66 (.pick (.t 63) (.t 65) (.c (.bool false))), om_ 55 66]) (.cond (.t 55) (.seq (.reg [oo_ 8 (.mv (.c (.int .i64 4)))]) .ret) .skip))))))))) (.seq (.reg [oo_ 8 (.mv (.c (.int .i64 0)))]) .ret)))))
theorem check_plan_together.code : comp PG [] (Tryz.f124.body.getD .skip) = check_plan_together.c := by kernel_rfl
theorem check_plan_together.of : OfE PG 124 4 check_plan_together.c [(.t 8)] := fnE (nt := 67) mixed Tryz.func124 check_plan_together.code (by kernel_rfl) (by kernel_rfl) (by kernel_rfl) (by kernel_rfl) (by kernel_rfl) (by kernel_rfl)
def check_plan_named.n : Nat := 162
noncomputable def check_plan_named.c : C := (.seq (.reg [oo_ 3 (.box 77 (.t 0)), oo_ 4 (.box 80 (.t 1)), oo_ 5 (.box 35 (.t 2)), oo_ 6 (.mv (.c (.int .i64 0)))]) (.seq (.seq (.reg [of_ 9 0 5, ol_ 10 9, oo_ 11 (.bin .neq (.t 10) (.c (.int .i64 3)))]) (.cond (.t 11) (.seq (.reg [oo_ 6 (.mv (.c (.int .i64 8)))]) .ret) .skip)) (.seq (.seq (.reg [of_ 13 0 3, ol_ 14 13, of_ 15 1 4, ol_ 16 15, oo_ 17 (.bin .sub (.t 16) (.c (.int .i64 1))), of_ 18 1 5, ol_ 19 18, oo_ 20 (.call 42 [(.t 14), (.t 17), (.t 19)]), om_ 12 20, oo_ 21 (.extr (.t 12) 0), oo_ 22 (.extr (.t 12) 1), om_ 7 21, om_ 8 22]) (.seq (.reg [om_ 23 8, oo_ 24 (.un .not (.t 23))]) (.cond (.t 24) (.seq (.reg [oo_ 6 (.mv (.c (.int .i64 5)))]) .ret) .skip))) (.seq (.reg [oo_ 6 (.mv (.c (.int .i64 0)))]) .ret))))
theorem check_plan_named.code : comp PG [] (Tryz.f162.body.getD .skip) = check_plan_named.c := by kernel_rfl
theorem check_plan_named.of : OfE PG 162 3 check_plan_named.c [(.t 6)] := fnE (nt := 25) mixed Tryz.func162 check_plan_named.code (by kernel_rfl) (by kernel_rfl) (by kernel_rfl) (by kernel_rfl) (by kernel_rfl) (by kernel_rfl)
end Go.Proofs.YtjaigpidmngaaaaGreat

namespace Go.Proofs.YtjaigpidmngaaaaGreat
attribute [local irreducible] callA callP ACalls
theorem wayP_in {l : List Ty} (hv : TyV l) : ∀ (ps : List Pc) {t : Int} (_ : 0 ≤ t) (_ : t < l.length) (acc : List (Bool × Nat)), (wayP l t ps acc).2.2 = 0 → 0 ≤ (wayP l t ps acc).2.1 ∧ (wayP l t ps acc).2.1 < l.length
  | [], t, h0, h1, acc, _ => ⟨h0, h1⟩
  | p :: ps, t, h0, h1, acc, h => by
    rw [wayP] at h ⊢
    split
    · rename_i c
      rw [if_pos c] at h
      have := step_in hv h0 h1 p c
      exact wayP_in hv ps this.1 this.2 _ h
    · rename_i c
      rw [if_neg c] at h
      exact absurd h c
theorem findP_in {l : List Ty} {t : Int} {s : List UInt8} (h : (findP l t s).2.2 = 0) : knownT l t ∧ 0 ≤ (findP l t s).2.1 ∧ (findP l t s).2.1 < l.length := by
  unfold findP at h ⊢
  split at h
  · rename_i c
    rw [if_pos c]
    split at h
    · rename_i c2
      rw [if_pos c2]
      exact ⟨c, wayP_in (tyChk_v c.2.2) _ c.1 c.2.1 _ h⟩
    · cases h
  · cases h
abbrev plA (l : List Ty) (t : Int) : AV := .agg [tysA l, .int .i64 t]
abbrev whA (x : (Int × Int) × Int) : AV := .tup [.agg [.int .i64 x.1.1, .int .i64 x.1.2], .int .i64 x.2]
theorem plan_at_spec (l : List Ty) (hl : TysOk l) (t : Int) (s : List UInt8) (hs : s.length ≤ 1000000) (H : AH) : ACalls PG check_plan_at.n [plA l t, .str s] H fun r H' => r = whA (whatK l (findP l t s)) ∧ H' = H := by
  have hlen : (l.map tyR).length = l.length := by simp
  have hll := hl.len
  have hf := fun H => Find_spec l hl t s hs H
  have hin := @findP_in l t s
  generalize findP l t s = f at *
  obtain ⟨fs, to, e⟩ := f
  dsimp only at hin
  refine ACalls.fz (check_plan_at.of rfl (wpF_start ?_))
  unfold whatK
  (first | refine au ?_ | exact au0)
  intro id2 hid2 ht2; have n2 := neAll_of hid2; (try simp only [neAll, neAll_hset] at n2); have m2 := n2; (repeat (obtain ⟨_, m2⟩ := m2))
  clear hid2
  (first | refine au ?_ | exact au0)
  intro id4 hid4 ht4; have n4 := neAll_of hid4; (try simp only [neAll, neAll_hset] at n4); have m4 := n4; (repeat (obtain ⟨_, m4⟩ := m4))
  clear hid4
  (first | refine au ?_ | exact au0)
  first | refine callF_eq (hf _) ?_ | refine callG_eq rfl (hf _) ?_
  (first | refine au ?_ | exact au0)
  refine bsplit_dec (fun c => ?_) (fun c => ?_)
  · rw [if_pos c]
    (first | refine au ?_ | exact au0)
    exact ⟨fz_of, sub_of⟩
  · rw [if_neg c]
    have c0 : e = 0 := Classical.not_not.1 c
    obtain ⟨hk, q0, q1⟩ := hin c0
    have hge := tAt_get q0 q1
    dsimp only
    generalize tAt l to = g at *
    (first | refine au ?_ | exact au0)
    rw [hge]
    (first | refine au ?_ | exact au0)
    refine bsplit_dec (fun c9 => ?_) (fun c9 => ?_)
    · rw [if_pos c9]
      (first | refine au ?_ | exact au0)
      exact ⟨fz_of, sub_of⟩
    rw [if_neg c9]
    (first | refine au ?_ | exact au0)
    refine bsplit_dec (fun c1 => ?_) (fun c1 => ?_)
    · rw [if_pos c1]
      (first | refine au ?_ | exact au0)
      exact ⟨fz_of, sub_of⟩
    rw [if_neg c1]
    (first | refine au ?_ | exact au0)
    refine bsplit_dec (fun c10 => ?_) (fun c10 => ?_)
    · rw [if_pos c10]
      (first | refine au ?_ | exact au0)
      exact ⟨fz_of, sub_of⟩
    rw [if_neg c10]
    (first | refine au ?_ | exact au0)
    first | refine callF_eq (prim_Number_spec _ _) ?_ | refine callG_eq rfl (prim_Number_spec _ _) ?_
    cases isNum g.kd with
    | true =>
      (first | refine au ?_ | exact au0)
      exact ⟨fz_of, sub_of⟩
    | false =>
      (first | refine au ?_ | exact au0)
      exact ⟨fz_of, sub_of⟩
theorem plan_operand_spec (l : List Ty) (hl : TysOk l) (t : Int) (o : Opd) (hs : o.t.length ≤ 1000000) (H : AH) : ACalls PG check_plan_operand.n [plA l t, opA o] H fun r H' => r = whA (whatO l t o) ∧ H' = H := by
  have hat := fun H => plan_at_spec l hl t o.t hs H
  refine ACalls.fz (check_plan_operand.of rfl (wpF_start ?_))
  unfold whatO
  (first | refine au ?_ | exact au0)
  intro id2 hid2 ht2; have n2 := neAll_of hid2; (try simp only [neAll, neAll_hset] at n2); have m2 := n2; (repeat (obtain ⟨_, m2⟩ := m2))
  clear hid2
  (first | refine au ?_ | exact au0)
  intro id3 hid3 ht3; have n3 := neAll_of hid3; (try simp only [neAll, neAll_hset] at n3); have m3 := n3; (repeat (obtain ⟨_, m3⟩ := m3))
  clear hid3
  (first | refine au ?_ | exact au0)
  intro id4 hid4 ht4; have n4 := neAll_of hid4; (try simp only [neAll, neAll_hset] at n4); have m4 := n4; (repeat (obtain ⟨_, m4⟩ := m4))
  clear hid4
  (first | refine au ?_ | exact au0)
  refine bsplit_dec (fun c => ?_) (fun c => ?_)
  · rw [if_pos c]
    (first | refine au ?_ | exact au0)
    first | refine callF_eq (hat _) ?_ | refine callG_eq rfl (hat _) ?_
    (first | refine au ?_ | exact au0)
    exact ⟨fz_of, sub_of⟩
  rw [if_neg c]
  (first | refine au ?_ | exact au0)
  clear c
  refine bsplit_dec (fun c => ?_) (fun c => ?_)
  · rw [if_pos c]
    (first | refine au ?_ | exact au0)
    exact ⟨fz_of, sub_of⟩
  rw [if_neg c]
  (first | refine au ?_ | exact au0)
  clear c
  refine bsplit_dec (fun c => ?_) (fun c => ?_)
  · rw [if_pos c]
    (first | refine au ?_ | exact au0)
    exact ⟨fz_of, sub_of⟩
  rw [if_neg c]
  (first | refine au ?_ | exact au0)
  clear c
  refine bsplit_dec (fun c => ?_) (fun c => ?_)
  · rw [if_pos c]
    (first | refine au ?_ | exact au0)
    exact ⟨fz_of, sub_of⟩
  rw [if_neg c]
  (first | refine au ?_ | exact au0)
  clear c
  refine bsplit_dec (fun c => ?_) (fun c => ?_)
  · rw [if_pos c]
    (first | refine au ?_ | exact au0)
    exact ⟨fz_of, sub_of⟩
  rw [if_neg c]
  (first | refine au ?_ | exact au0)
  exact ⟨fz_of, sub_of⟩
theorem plan_named_spec (l : List Ty) (hl : TysOk l) (t : Int) (w : Int × Int) (o : Opd) (hw : -9223372036854775808 ≤ w.2 - 1 ∧ w.2 ≤ 9223372036854775807) (H : AH) : ACalls PG check_plan_named.n [plA l t, .agg [.int .i64 w.1, .int .i64 w.2], opA o] H fun r H' => r = .int .i64 (nmdE l w o) ∧ H' = H := by
  have hi := fun H => Item_spec l hl (w.2 - 1) o.t H
  refine ACalls.fz (check_plan_named.of rfl (wpF_start ?_))
  unfold nmdE
  (first | refine au ?_ | exact au0)
  intro id2 hid2 ht2; have n2 := neAll_of hid2; (try simp only [neAll, neAll_hset] at n2); have m2 := n2; (repeat (obtain ⟨_, m2⟩ := m2))
  clear hid2
  (first | refine au ?_ | exact au0)
  intro id3 hid3 ht3; have n3 := neAll_of hid3; (try simp only [neAll, neAll_hset] at n3); have m3 := n3; (repeat (obtain ⟨_, m3⟩ := m3))
  clear hid3
  (first | refine au ?_ | exact au0)
  intro id4 hid4 ht4; have n4 := neAll_of hid4; (try simp only [neAll, neAll_hset] at n4); have m4 := n4; (repeat (obtain ⟨_, m4⟩ := m4))
  clear hid4
  (first | refine au ?_ | exact au0)
  refine bsplit_dec (fun c => ?_) (fun c => ?_)
  · rw [if_pos c]
    (first | refine au ?_ | exact au0)
    exact ⟨fz_of, sub_of⟩
  rw [if_neg c]
  generalize itemIx l (w.2 - 1) o.t = ix at *
  cases ix with
  | none =>
    (first | refine au ?_ | exact au0)
    first | refine callF_eq (hi _) ?_ | refine callG_eq rfl (hi _) ?_
    (first | refine au ?_ | exact au0)
    exact ⟨fz_of, sub_of⟩
  | some n =>
    (first | refine au ?_ | exact au0)
    first | refine callF_eq (hi _) ?_ | refine callG_eq rfl (hi _) ?_
    (first | refine au ?_ | exact au0)
    exact ⟨fz_of, sub_of⟩
theorem whatO_in (l : List Ty) (t : Int) (o : Opd) : 0 ≤ (whatO l t o).1.2 ∧ (whatO l t o).1.2 ≤ l.length := by
  unfold whatO
  repeat' split
  all_goals try (exact ⟨by dsimp only; omega, by dsimp only; omega⟩)
  unfold whatK
  split
  · exact ⟨by dsimp only; omega, by dsimp only; omega⟩
  · rename_i c
    have := findP_in (Classical.not_not.1 c)
    repeat' split
    all_goals exact ⟨by dsimp only; omega, by dsimp only; omega⟩
theorem plan_together_spec (l : List Ty) (hl : TysOk l) (t : Int) (a b : Opd) (ha : a.t.length ≤ 1000000) (hb : b.t.length ≤ 1000000) (rel : Int) (H : AH) : ACalls PG check_plan_together.n [plA l t, opA a, opA b, .int .i64 rel] H fun r H' => r = .int .i64 (togE l t a b rel) ∧ H' = H := by
  have h1 := fun H => plan_operand_spec l hl t a ha H
  have h2 := fun H => plan_operand_spec l hl t b hb H
  have hll := hl.len
  have i1 := whatO_in l t a
  have i2 := whatO_in l t b
  have h3 := fun w q H => plan_named_spec l hl t w b q H
  have h4 := fun w q H => plan_named_spec l hl t w a q H
  refine ACalls.fz (check_plan_together.of rfl (wpF_start ?_))
  unfold togE
  generalize whatO l t a = x at *
  generalize whatO l t b = y at *
  obtain ⟨⟨xk, xo⟩, xe⟩ := x
  obtain ⟨⟨yk, yo⟩, ye⟩ := y
  dsimp only at i1 i2 ⊢
  (first | refine au ?_ | exact au0)
  intro id2 hid2 ht2; have n2 := neAll_of hid2; (try simp only [neAll, neAll_hset] at n2); have m2 := n2; (repeat (obtain ⟨_, m2⟩ := m2))
  clear hid2
  (first | refine au ?_ | exact au0)
  intro id3 hid3 ht3; have n3 := neAll_of hid3; (try simp only [neAll, neAll_hset] at n3); have m3 := n3; (repeat (obtain ⟨_, m3⟩ := m3))
  clear hid3
  (first | refine au ?_ | exact au0)
  intro id4 hid4 ht4; have n4 := neAll_of hid4; (try simp only [neAll, neAll_hset] at n4); have m4 := n4; (repeat (obtain ⟨_, m4⟩ := m4))
  clear hid4
  (first | refine au ?_ | exact au0)
  first | refine callF_eq (h1 _) ?_ | refine callG_eq rfl (h1 _) ?_
  (first | refine au ?_ | exact au0)
  intro id9 hid9 ht9; have n9 := neAll_of hid9; (try simp only [neAll, neAll_hset] at n9); have m9 := n9; (repeat (obtain ⟨_, m9⟩ := m9))
  clear hid9
  (first | refine au ?_ | exact au0)
  first | refine callF_eq (h2 _) ?_ | refine callG_eq rfl (h2 _) ?_
  (first | refine au ?_ | exact au0)
  intro id11 hid11 ht11; have n11 := neAll_of hid11; (try simp only [neAll, neAll_hset] at n11); have m11 := n11; (repeat (obtain ⟨_, m11⟩ := m11))
  clear hid11
  by_cases cx : 0 < xo ∧ yo = 0
  · rw [if_pos cx]
    have cx1 := cx.1
    have cx2 := cx.2
    clear cx
    (first | refine au ?_ | exact au0)
    first | refine callF_eq (h3 (xk, xo) ⟨by dsimp only; omega, by dsimp only; omega⟩ _) ?_ | refine callG_eq rfl (h3 (xk, xo) ⟨by dsimp only; omega, by dsimp only; omega⟩ _) ?_
    (first | refine au ?_ | exact au0)
    exact ⟨fz_of, sub_of⟩
  rw [if_neg cx]
  by_cases cy : 0 < yo ∧ xo = 0
  · rw [if_pos cy]
    have cy1 := cy.1
    have cy2 := cy.2
    clear cx cy
    (first | refine au ?_ | exact au0)
    first | refine callF_eq (h4 (yk, yo) ⟨by dsimp only; omega, by dsimp only; omega⟩ _) ?_ | refine callG_eq rfl (h4 (yk, yo) ⟨by dsimp only; omega, by dsimp only; omega⟩ _) ?_
    (first | refine au ?_ | exact au0)
    exact ⟨fz_of, sub_of⟩
  rw [if_neg cy]
  clear h3 h4 h1 h2
  by_cases cz : 0 < xo
  · have cz2 : 0 < yo := by omega
    clear cx cy
    (first | refine au ?_ | exact au0)
    by_cases e : xk = yk ∧ xo = yo
    · obtain ⟨rfl, rfl⟩ := e
      rw [if_neg (by simp)]
      refine ⟨true, by simp [eqCells], ?_⟩
      (first | refine au ?_ | exact au0)
      by_cases c3 : xk = 3 ∧ rel ≠ 1 ∧ rel ≠ 2
      · rw [if_pos c3]
        have d1 := c3.1
        have d2 := c3.2.1
        have d3 := c3.2.2
        clear c3
        (first | refine au ?_ | exact au0)
        exact ⟨fz_of, sub_of⟩
      · rw [if_neg c3]
        by_cases d1 : xk = 3
        · by_cases d2 : rel = 1
          · clear c3
            (first | refine au ?_ | exact au0)
            exact ⟨fz_of, sub_of⟩
          · have d3 : rel = 2 := Classical.byContradiction fun q => c3 ⟨d1, d2, q⟩
            clear c3
            (first | refine au ?_ | exact au0)
            exact ⟨fz_of, sub_of⟩
        · clear c3
          (first | refine au ?_ | exact au0)
          exact ⟨fz_of, sub_of⟩
    · rw [if_pos (by simpa using e)]
      refine ⟨false, by simp [eqCells]; exact fun q w => e ⟨q, w⟩, ?_⟩
      (first | refine au ?_ | exact au0)
      exact ⟨fz_of, sub_of⟩
  · have cz1 : xo = 0 := by omega
    have cz2 : yo = 0 := by omega
    clear cx cy cz
    (first | refine au ?_ | exact au0)
    by_cases e : xk = yk ∧ xo = yo
    · obtain ⟨rfl, rfl⟩ := e
      rw [if_neg (by simp)]
      refine ⟨true, by simp [eqCells], ?_⟩
      (first | refine au ?_ | exact au0)
      by_cases c3 : xk = 3 ∧ rel ≠ 1 ∧ rel ≠ 2
      · rw [if_pos c3]
        have d1 := c3.1
        have d2 := c3.2.1
        have d3 := c3.2.2
        clear c3
        (first | refine au ?_ | exact au0)
        exact ⟨fz_of, sub_of⟩
      · rw [if_neg c3]
        by_cases d1 : xk = 3
        · by_cases d2 : rel = 1
          · clear c3
            (first | refine au ?_ | exact au0)
            exact ⟨fz_of, sub_of⟩
          · have d3 : rel = 2 := Classical.byContradiction fun q => c3 ⟨d1, d2, q⟩
            clear c3
            (first | refine au ?_ | exact au0)
            exact ⟨fz_of, sub_of⟩
        · clear c3
          (first | refine au ?_ | exact au0)
          exact ⟨fz_of, sub_of⟩
    · rw [if_pos (by simpa using e)]
      refine ⟨false, by simp [eqCells]; exact fun q w => e ⟨q, w⟩, ?_⟩
      (first | refine au ?_ | exact au0)
      exact ⟨fz_of, sub_of⟩
end Go.Proofs.YtjaigpidmngaaaaGreat

namespace Go.Proofs.YtjaigpidmngaaaaGreat
attribute [local irreducible] callA callP ACalls
set_option maxHeartbeats 1000000 in
theorem test_spec {l : List Tok} (w : Wt l) {σ : PSt} (h : σ.p < l.length) (id : Nat) : SW PG expr_parser_test.n [.ptr id 5 0 0] id (psB l σ) [] (exA (tst l σ).1) (psB l (tst l σ).2) := by
  have hw := w.len
  refine ACalls.fz (expr_parser_test.of rfl (wpF_start ?_))
  unfold tst
  (first | refine au ?_ | exact au0)
  intro id2 hid2 ht2; have n2 := neAll_of hid2; (try simp only [neAll, neAll_hset] at n2); have m2 := n2; (repeat (obtain ⟨_, m2⟩ := m2))
  (first | refine au ?_ | exact au0)
  have hG := Gd.opd w h
  refine (operand_spec w h id).call (by exact hg_of) (Sub.nil _) ?_
  generalize opd l σ = a at *
  obtain ⟨a, τ⟩ := a
  have hlt := hG.lt
  dsimp only at hlt hG ⊢
  (first | refine au ?_ | exact au0)
  intro id3 hid3 ht3; have n3 := neAll_of hid3; (try simp only [neAll, neAll_hset] at n3); have m3 := n3; (repeat (obtain ⟨_, m3⟩ := m3))
  (first | refine au ?_ | exact au0)
  refine (bad_spec l τ id).call (by exact hg_of) (Sub.nil _) ?_
  (first | refine au ?_ | exact au0)
  refine bsplit_dec (fun h1 => ?_) (fun h1 => ?_)
  · rw [if_neg h1]
    (first | refine au ?_ | exact au0)
    exact ⟨fz_of, sub_of⟩
  · have h1' := Classical.not_not.1 h1
    have hs : ∀ s, skb l τ 1 s = isT l τ 1 s := fun s => by unfold skb; rw [decide_eq_true h1']; rfl
    rw [if_pos h1']
    (first | refine au ?_ | exact au0)
    refine (now_spec w hlt id).call (by exact hg_of) (Sub.nil _) ?_
    (first | refine au ?_ | exact au0)
    refine callF_eq (relation_spec _ _) ?_
    (first | refine au ?_ | exact au0)
    refine bsplit_dec (fun h2 => ?_) (fun h2 => ?_)
    · rw [if_pos (by omega)]
      have hG2 := Gd.on w hlt (by rw [relOf_pos (by omega)]; decide)
      (first | refine ab ?_ | exact ab0)
      refine dPick (id := id) (b := psB l τ.on) (by exact hg_of) ?_
      (first | refine au ?_ | exact au0)
      refine (operand_spec w hG2.lt id).draw hget_self (Sub.nil _) (opA_no _) (psB_n _ _ _) ?_
      (first | refine au ?_ | exact au0)
      exact ⟨fz_of, sub_of⟩
    · rw [if_neg (by omega)]
      (first | refine au ?_ | exact au0)
      have qL := skip_spec w hlt id 1 [76, 73, 75, 69]
      have qN := skip_spec w hlt id 1 [78, 79, 84]
      unfold skp at qL
      rw [hs] at qL qN
      cases h3 : isT l τ 1 [76, 73, 75, 69] with
      | true =>
        rw [h3, if_pos rfl] at qL
        rw [if_pos rfl]
        have hG2 := Gd.on w hlt (by rw [(isT_ne h3).1]; decide)
        refine SW.call qL (by exact hg_of) (Sub.nil _) ?_
        (first | refine ab ?_ | exact ab0)
        refine dPick (id := id) (b := psB l τ.on) (by exact hg_of) ?_
        (first | refine au ?_ | exact au0)
        refine (operand_spec w hG2.lt id).draw hget_self (Sub.nil _) (opA_no _) (psB_n _ _ _) ?_
        (first | refine au ?_ | exact au0)
        exact ⟨fz_of, sub_of⟩
      | false =>
        rw [h3, if_neg (by decide)] at qL
        rw [if_neg (by decide)]
        refine SW.call qL (by exact hg_of) (Sub.nil _) ?_
        (first | refine au ?_ | exact au0)
        refine SW.call qN (by exact hg_of) (Sub.nil _) ?_
        clear qL qN
        have hG3 := Gd.skp w hlt (k := 1) (by decide) [78, 79, 84]
        generalize skp l τ 1 [78, 79, 84] = τ2 at *
        generalize isT l τ 1 [78, 79, 84] = nt at *
        unfold btw
        dsimp only
        have hG4 := Gd.mst w hG3.lt (k := 1) (by decide) [66, 69, 84, 87, 69, 69, 78]
        (first | refine au ?_ | exact au0)
        refine (must_spec w hG3.lt id 1 _).call (by exact hg_of) (Sub.nil _) ?_
        generalize mst l τ2 1 [66, 69, 84, 87, 69, 69, 78] = τ3 at *
        (first | refine au ?_ | exact au0)
        have hG5 := Gd.opd w hG4.lt
        refine (operand_spec w hG4.lt id).call (by exact hg_of) (Sub.nil _) ?_
        generalize opd l τ3 = b at *
        obtain ⟨b, τ4⟩ := b
        dsimp only at hG5 ⊢
        (first | refine au ?_ | exact au0)
        intro id6 hid6 ht6; have n6 := neAll_of hid6; (try simp only [neAll, neAll_hset] at n6); have m6 := n6; (repeat (obtain ⟨_, m6⟩ := m6))
        (first | refine au ?_ | exact au0)
        have hG6 := Gd.mst w hG5.lt (k := 1) (by decide) [65, 78, 68]
        refine (must_spec w hG5.lt id 1 _).call (by exact hg_of) (Sub.nil _) ?_
        generalize mst l τ4 1 [65, 78, 68] = τ5 at *
        (first | refine ab ?_ | exact ab0)
        refine dPick (id := id) (b := psB l τ5) (by exact hg_of) ?_
        (first | refine au ?_ | exact au0)
        refine (operand_spec w hG6.lt id).draw hget_self (Sub.nil _) (opA_no _) (psB_n _ _ _) ?_
        (first | refine au ?_ | exact au0)
        intro id7 hid7 ht7; have n7 := neAll_of hid7; (try simp only [neAll, neAll_hset] at n7); have m7 := n7; (repeat (obtain ⟨_, m7⟩ := m7))
        (first | refine au ?_ | exact au0)
        cases nt with
        | true =>
          (first | refine au ?_ | exact au0)
          exact ⟨fz_of, sub_of⟩
        | false =>
          (first | refine au ?_ | exact au0)
          exact ⟨fz_of, sub_of⟩
end Go.Proofs.YtjaigpidmngaaaaGreat

namespace Go.Proofs.YtjaigpidmngaaaaGreat
attribute [local irreducible] callA callP ACalls
def RdF (l : List Tok) (m : Nat) (id : Nat) (fn : Nat) (args : List AV) (Hs : AH) (f : PSt → Ex × PSt) : Prop :=
  ∀ σ : PSt, σ.p < l.length → l.length - σ.p ≤ m → σ.n ≤ 8 → SW PG fn args id (psB l σ) Hs (exA (f σ).1) (psB l (f σ).2)
theorem within_spec {l : List Tok} (w : Wt l) {m id : Nat} {fn : Nat} {fs cs : List AV} {Hs : AH} {f : PSt → Ex × PSt} (hid : hget Hs id = none) (hf : RdF l m id fn (fs ++ [] ++ cs) Hs f) (hg : GdF l m f) {σ : PSt} (h : σ.p < l.length) (h6 : (tk l σ.p).1 ≠ 6)
    (hm : l.length - σ.p ≤ m + 1) (hn : σ.n ≤ 8) : SW PG expr_parser_within.n [.ptr id 5 0 0, .clo fn fs cs] id (psB l σ) Hs (exA (wth l σ f).1) (psB l (wth l σ f).2) := by
  have hw := w.len
  refine ACalls.fz (expr_parser_within.of rfl (wpF_start ?_))
  unfold wth
  (first | refine au ?_ | exact au0)
  intro id4 hid4 ht4; have n4 := neAll_of hid4; (try simp only [neAll, neAll_hset] at n4); have m4 := n4; (repeat (obtain ⟨_, m4⟩ := m4))
  (first | refine au ?_ | exact au0)
  refine bsplit_dec (fun h1 => ?_) (fun h1 => ?_)
  · rw [if_pos (by omega)]
    (first | refine au ?_ | exact au0)
    refine (fail_spec w h id 9).call (by exact hg_of) (Sub.nil _) ?_
    (first | refine au ?_ | exact au0)
    exact ⟨fz_of, sub_of⟩
  · rw [if_neg (by omega)]
    have h2 := w.last _ h h6
    (first | refine au ?_ | exact au0)
    have q := hf ⟨σ.p + 1, σ.n + 1, σ.e, σ.a⟩ h2 (by show l.length - (σ.p + 1) ≤ m; omega) (by show σ.n + 1 ≤ 8; omega)
    have q2 := hg ⟨σ.p + 1, σ.n + 1, σ.e, σ.a⟩ h2 (by show l.length - (σ.p + 1) ≤ m; omega)
    refine SW.call q (by exact hg_of) sub_of ?_
    have q3 := q2.n
    generalize f ⟨σ.p + 1, σ.n + 1, σ.e, σ.a⟩ = R at *
    obtain ⟨x, τ⟩ := R
    obtain ⟨p, n, e, a⟩ := τ
    dsimp only at q3 ⊢
    subst q3
    obtain ⟨op, rel, args, kids⟩ := x
    (first | refine au ?_ | exact au0)
    intro id5 hid5 ht5; have n5 := neAll_of hid5; (try simp only [neAll, neAll_hset] at n5); have m5 := n5; (repeat (obtain ⟨_, m5⟩ := m5))
    (first | refine au ?_ | exact au0)
    refine ⟨fz_of, ?_⟩
    have ee : psB l ⟨p, σ.n + 1 - 1, e, a⟩ = .rows 5 [[.rows 4 (l.map tkR), .int .i64 (p : Nat), .int .i64 (((σ.n + 1 : Nat) : Int) - 1), .int .i64 e, .int .i64 a]] := by
      rw [show (((σ.n + 1 : Nat) : Int) - 1) = ((σ.n + 1 - 1 : Nat) : Int) from by omega]
    rw [ee]
    exact sub_of
theorem Sub.swap {a b : Nat} {x y : Blk} {H : AH} (h : a ≠ b) : Sub ((a, x) :: (b, y) :: H) ((b, y) :: (a, x) :: H) := fun j c q => by
  simp only [hget] at q ⊢
  split at q
  · rename_i e; subst e; rw [if_neg h, if_pos rfl]; exact q
  · rename_i e
    split at q
    · rename_i e2; rw [if_pos e2]; exact q
    · rename_i e2; rw [if_neg e2, if_neg e]; exact q
theorem exRs_len (l : List Ex) : (exRs l).length = l.length := by rw [exRs_map]; simp
theorem exRs_app (l : List Ex) (x : Ex) : exRs (l ++ [x]) = exRs l ++ [exR x] := by simp [exRs_map]
theorem exRs_w (l : List Ex) : ∀ r ∈ exRs l, r.length = 4 := by
  intro r h
  rw [exRs_map] at h
  obtain ⟨x, _, rfl⟩ := List.mem_map.1 h
  exact exR_len x
set_option maxHeartbeats 2000000 in
theorem row_spec {l : List Tok} (w : Wt l) {m id : Nat} {fn : Nat} {fs cs : List AV} {Hs : AH} {f : PSt → Ex × PSt} (hid : hget Hs id = none) (hf : RdF l m id fn (fs ++ [] ++ cs) Hs f) (hg : GdF l m f) (op : Int) (wd : List UInt8) :
    ∀ σ : PSt, σ.p < l.length → l.length - σ.p ≤ m → σ.n ≤ 8 → SW PG expr_parser_row.n [.ptr id 5 0 0, .int .i64 op, .str wd, .clo fn fs cs] id (psB l σ) Hs (exA (rw' l f wd op σ).1) (psB l (rw' l f wd op σ).2) := by
  intro σ h hm hn
  have hw := w.len
  have G1 := hg σ h hm
  refine ACalls.fz (expr_parser_row.of rfl (wpF_start ?_))
  unfold rw'
  dsimp only
  (first | refine au ?_ | exact au0)
  intro id8 hid8 ht8; have n8 := neAll_of hid8; (try simp only [neAll, neAll_hset] at n8); have m8 := n8; (repeat (obtain ⟨_, m8⟩ := m8))
  (first | refine au ?_ | exact au0)
  refine SW.call (hf σ h hm hn) (by exact hg_of) sub_of ?_
  generalize f σ = R at *
  obtain ⟨x, τ⟩ := R
  have hlt := G1.lt
  have hle := G1.le
  have hnn := G1.n
  dsimp only at hlt hle hnn ⊢
  obtain ⟨op1, rel1, args1, kids1⟩ := x
  (first | refine au ?_ | exact au0)
  intro id9 hid9 ht9; have n9 := neAll_of hid9; (try simp only [neAll, neAll_hset] at n9); have m9 := n9; (repeat (obtain ⟨_, m9⟩ := m9))
  (first | refine au ?_ | exact au0)
  intro id15 hid15 ht15; have n15 := neAll_of hid15; (try simp only [neAll, neAll_hset] at n15); have m15 := n15; (repeat (obtain ⟨_, m15⟩ := m15))
  (first | refine au ?_ | exact au0)
  intro id10 hid10 ht10; have n10 := neAll_of hid10; (try simp only [neAll, neAll_hset] at n10); have m10 := n10; (repeat (obtain ⟨_, m10⟩ := m10))
  (first | refine au ?_ | exact au0)
  generalize hx : Ex.mk op1 rel1 args1 kids1 = x at *
  have hx' : [AV.int .i64 op1, .int .i64 rel1, .rows 4 (args1.map opR), .rows 4 (exRs kids1)] = exR x := by rw [← hx]; rfl
  generalize hR : rwL l f wd (l.length + 1) [x] τ = R
  refine ⟨fun n L H' => ∃ (τ' : PSt) (acc : List Ex) (idk : Nat), τ'.p < l.length ∧ σ.p ≤ τ'.p ∧ τ'.n = σ.n ∧ l.length < τ'.p + n ∧ acc.length + n ≤ l.length + 2 ∧ 0 < acc.length ∧ rwL l f wd n acc τ' = R ∧ tag idk = ty_api_Expr ∧
      (idk ≠ id10 ∧ idk ≠ id9 ∧ idk ≠ id8 ∧ idk ≠ id ∧ neAll Hs idk) ∧
      L = [(0, some (.ptr id 5 0 0)), (1, some (.int .i64 op)), (2, some (.str wd)), (3, some (.clo fn fs cs)), (8, some (.ptr id8 4 0 0)), (9, some (.ptr id9 4 0 0)), (10, some (.ptr id10 4 0 0))] ∧
      H' = (idk, .rows 4 (exRs acc)) :: (id10, .rows 4 [[.int .i64 op, .int .i64 0, .nilS, .own idk 4 0 (exRs acc).length]]) :: (id9, .rows 4 [exR x]) :: (id8, .rows 4 [[.int .i64 0, .int .i64 0, .nilS, .nilS]]) :: (id, psB l τ') :: Hs,
    ⟨_, _, ?_, ?_, l.length + 1, τ, [x], id15, hlt, hle, hnn, by omega, by simp; omega, by simp, hR, ht15, ?_, rfl, rfl⟩, ?_⟩
  · exact (by exact cov_of)
  · rw [← hx]
    exact Sub.swap (by omega)
  · obtain ⟨a1, a2, a3, a4⟩ := n15
    exact ⟨by omega, by omega, by omega, by omega, a4⟩
  · clear hR hlt hle hnn G1
    have n8' := n8.2
    have n9' := n9.2.2
    have n10' := n10.2.2.2.2
    clear hid8 hid9 hid10 hid15 n15
    rintro n L H' ⟨τ', acc, idk, hlt, hle, hnn, hn2, hac, hpos, hR, htk, hk, rfl, rfl⟩
    obtain ⟨n, rfl⟩ : ∃ m, n = m + 1 := ⟨n - 1, by omega⟩
    unfold rwL at hR
    have hel := exRs_len acc
    (first | refine au ?_ | exact au0)
    have qs := skip_spec w hlt id 1 wd
    unfold skp at qs
    cases hs : skb l τ' 1 wd with
    | true =>
      rw [hs, if_pos rfl] at qs hR
      refine SW.call qs (by exact hg_of) (Sub.nil _) ?_
      (first | refine ab ?_ | exact ab0)
      have G2 := Gd.on w hlt (by rw [(skb_ne hs).2.1]; decide)
      have G3 := hg τ'.on G2.lt (by show l.length - (τ'.p + 1) ≤ m; omega)
      have q3 := hf τ'.on G2.lt (by show l.length - (τ'.p + 1) ≤ m; omega) (by show τ'.n ≤ 8; omega)
      refine dPick (id := id) (b := psB l τ'.on) (by exact hg_of) ?_
      generalize f τ'.on = S at *
      obtain ⟨y, τ2⟩ := S
      dsimp only at G3 q3 hR
      have hy := exRs_app acc y
      (first | refine au ?_ | exact au0)
      refine SW.draw q3 hget_self sub_of (exA_no _) (psB_n _ _ _) ?_
      obtain ⟨op2, rel2, args2, kids2⟩ := y
      (first | refine au ?_ | exact au0)
      have hk5 := hk.2.2.2.2
      refine ⟨_, _, readS_own (by exact hg_of) (Nat.le_refl _), rfl, rfl, rfl, htk, by simp; omega, ?_⟩
      intro id25 hid25 ht25; have n25 := neAll_of hid25; (try simp only [neAll, neAll_hset] at n25); have m25 := n25; (repeat (obtain ⟨_, m25⟩ := m25))
      (first | refine au ?_ | exact au0)
      generalize hyy : Ex.mk op2 rel2 args2 kids2 = y at *
      have e1 : List.drop 0 (List.take (exRs acc).length (exRs acc)) ++ (List.replicate 1 [AV.int .i64 0, .int .i64 0, .nilS, .nilS]).set 0 (exA y).cells = exRs (acc ++ [y]) := by rw [hy, List.take_length]; rfl
      have e2 : (List.drop 0 (List.take (exRs acc).length (exRs acc))).length + ((List.replicate 1 [AV.int .i64 0, .int .i64 0, .nilS, .nilS]).set 0 (exA y).cells).length = (exRs (acc ++ [y])).length := by rw [← e1, List.length_append]
      have e3 : (List.take (exRs acc).length (exRs acc)).length + ((List.replicate 1 [AV.int .i64 0, .int .i64 0, .nilS, .nilS]).set 0 (exR y)).length = (exRs (acc ++ [y])).length := by rw [List.take_length, hy]; simp
      rw [hdel_cons, hset_self, e1, e2, e3]
      rotate_left
      · exact hget_none ⟨hk.1, hk.2.1, hk.2.2.1, hk.2.2.2.1, hk5⟩
      refine ⟨[(0, some (.ptr id 5 0 0)), (1, some (.int .i64 op)), (2, some (.str wd)), (3, some (.clo fn fs cs)), (8, some (.ptr id8 4 0 0)), (9, some (.ptr id9 4 0 0)), (10, some (.ptr id10 4 0 0))],
        (id25, .rows 4 (exRs (acc ++ [y]))) :: (id10, .rows 4 [[.int .i64 op, .int .i64 0, .nilS, .own id25 4 0 (exRs (acc ++ [y])).length]]) :: (id9, .rows 4 [exR x]) :: (id8, .rows 4 [[.int .i64 0, .int .i64 0, .nilS, .nilS]]) :: (id, psB l τ2) :: Hs,
        (by exact cov_of), Sub.refl _, n, by omega, τ2, acc ++ [y], id25, G3.lt, ?_, ?_, ?_, ?_, by simp, hR, ht25, ?_, rfl, rfl⟩
      · have := G3.le; have : τ'.on.p = τ'.p + 1 := rfl; omega
      · exact G3.n.trans hnn
      · have := G3.le; have : τ'.on.p = τ'.p + 1 := rfl; omega
      · simp; omega
      · exact n25.2
    | false =>
      rw [hs, if_neg (by decide)] at qs hR
      refine SW.call qs (by exact hg_of) (Sub.nil _) ?_
      subst hR
      (first | refine au ?_ | exact au0)
      dsimp only
      refine bsplit_dec (fun h1 => ?_) (fun h1 => ?_)
      · rw [if_pos (by omega)]
        subst hx
        (first | refine au ?_ | exact au0)
        exact ⟨fz_of, sub_of⟩
      · rw [if_neg (by omega)]
        (first | refine au ?_ | exact au0)
        refine ⟨Fz.aggL (FzL.cons (.refl _) (FzL.cons (.refl _) (FzL.cons (.nil _) (FzL.cons ?_ (FzL.nil _ _))))), sub_of⟩
        exact Fz.ownL hget_self (hget_none ⟨hk.2.2.2.1, hk.2.2.2.2⟩) (FzR.refl _ _ _) (exRs_w acc)
theorem RdF.row {l : List Tok} (w : Wt l) {m id : Nat} {fn : Nat} {fs cs : List AV} {f : PSt → Ex × PSt} (hf : RdF l m id fn (fs ++ [] ++ cs) [] f) (hg : GdF l m f) (op : Int) (wd : List UInt8) :
    RdF l m id expr_parser_row.n [.ptr id 5 0 0, .int .i64 op, .str wd, .clo fn fs cs] [] (rw' l f wd op) := fun σ h hm hn => row_spec w rfl hf hg op wd σ h hm hn
theorem and_spec {l : List Tok} (w : Wt l) {m id : Nat} {f : PSt → Ex × PSt} (hf : RdF l m id expr_parser_not.n [.ptr id 5 0 0] [] f) (hg : GdF l m f) : RdF l m id expr_parser_and.n [.ptr id 5 0 0] [] (andE l f) := by
  intro σ h hm hn
  refine ACalls.fz (expr_parser_and.of rfl (wpF_start ?_))
  unfold andE
  (first | refine au ?_ | exact au0)
  intro id2 hid2 ht2; have n2 := neAll_of hid2; (try simp only [neAll, neAll_hset] at n2); have m2 := n2; (repeat (obtain ⟨_, m2⟩ := m2))
  (first | refine au ?_ | exact au0)
  refine SW.call (RdF.row (fs := [.ptr id 5 0 0]) (cs := []) w hf hg 5 [65, 78, 68] σ h hm hn) (by exact hg_of) (Sub.nil _) ?_
  generalize rw' l f [65, 78, 68] 5 σ = R
  obtain ⟨x, τ⟩ := R
  obtain ⟨op, rel, args, kids⟩ := x
  (first | refine au ?_ | exact au0)
  exact ⟨fz_of, sub_of⟩
theorem or_spec {l : List Tok} (w : Wt l) {m id : Nat} {f : PSt → Ex × PSt} (hf : RdF l m id expr_parser_not.n [.ptr id 5 0 0] [] f) (hg : GdF l m f) : RdF l m id expr_parser_or.n [.ptr id 5 0 0] [] (orE l f) := by
  intro σ h hm hn
  refine ACalls.fz (expr_parser_or.of rfl (wpF_start ?_))
  unfold orE
  (first | refine au ?_ | exact au0)
  intro id2 hid2 ht2; have n2 := neAll_of hid2; (try simp only [neAll, neAll_hset] at n2); have m2 := n2; (repeat (obtain ⟨_, m2⟩ := m2))
  (first | refine au ?_ | exact au0)
  refine SW.call (RdF.row (fs := [.ptr id 5 0 0]) (cs := []) w (and_spec w hf hg) (hg.rw w _ _) 6 [79, 82] σ h hm hn) (by exact hg_of) (Sub.nil _) ?_
  generalize rw' l (andE l f) [79, 82] 6 σ = R
  obtain ⟨x, τ⟩ := R
  obtain ⟨op, rel, args, kids⟩ := x
  (first | refine au ?_ | exact au0)
  exact ⟨fz_of, sub_of⟩
abbrev boxB (id : Nat) : Blk := .rows 1 [[.ptr id 5 0 0]]
theorem not1_spec {l : List Tok} {m id idb : Nat} {f : PSt → Ex × PSt} (hne : idb ≠ id) (hf : RdF l m id expr_parser_not.n [.ptr id 5 0 0] [] f) : RdF l m id expr_parser_not_1.n [.ptr idb 1 0 0] [(idb, boxB id)] (inNot f) := by
  intro σ h hm hn
  refine ACalls.fz (expr_parser_not_1.of' (Nat.le_of_ble_eq_true rfl) (wpF_start ?_))
  unfold inNot
  (first | refine au ?_ | exact au0)
  intro id1 hid1 ht1; have n1 := neAll_of hid1; (try simp only [neAll, neAll_hset] at n1); have m1 := n1; (repeat (obtain ⟨_, m1⟩ := m1))
  (first | refine au ?_ | exact au0)
  refine SW.call (hf σ h hm hn) (by exact hg_of) (Sub.nil _) ?_
  generalize f σ = R
  obtain ⟨x, τ⟩ := R
  obtain ⟨op, rel, args, kids⟩ := x
  (first | refine au ?_ | exact au0)
  exact ⟨fz_of, sub_of⟩
theorem not2_spec {l : List Tok} (w : Wt l) {m id idb : Nat} {f : PSt → Ex × PSt} (hne : idb ≠ id) (hf : RdF l m id expr_parser_not.n [.ptr id 5 0 0] [] f) (hg : GdF l m f) : RdF l m id expr_parser_not_2.n [.ptr idb 1 0 0] [(idb, boxB id)] (inBr l f) := by
  intro σ h hm hn
  have G := hg.or w σ h hm
  refine ACalls.fz (expr_parser_not_2.of' (Nat.le_of_ble_eq_true rfl) (wpF_start ?_))
  unfold inBr
  (first | refine au ?_ | exact au0)
  intro id1 hid1 ht1; have n1 := neAll_of hid1; (try simp only [neAll, neAll_hset] at n1); have m1 := n1; (repeat (obtain ⟨_, m1⟩ := m1))
  (first | refine au ?_ | exact au0)
  refine SW.call (or_spec w hf hg σ h hm hn) (by exact hg_of) (Sub.nil _) ?_
  generalize orE l f σ = R at *
  obtain ⟨x, τ⟩ := R
  obtain ⟨op, rel, args, kids⟩ := x
  (first | refine au ?_ | exact au0)
  intro id2 hid2 ht2; have n2 := neAll_of hid2; (try simp only [neAll, neAll_hset] at n2); have m2 := n2; (repeat (obtain ⟨_, m2⟩ := m2))
  (first | refine au ?_ | exact au0)
  refine (must_spec w G.lt id 5 [41]).call (by exact hg_of) (Sub.nil _) ?_
  (first | refine au ?_ | exact au0)
  exact ⟨fz_of, sub_of⟩
theorem not_spec {l : List Tok} (w : Wt l) (id : Nat) : ∀ n : Nat, RdF l n id expr_parser_not.n [.ptr id 5 0 0] [] (ntE l n)
  | 0 => fun σ h hm hn => by omega
  | n + 1 => by
    intro σ h hm hn
    have ih := not_spec w id n
    have hg := GdF.nt w n
    refine ACalls.fz (expr_parser_not.of rfl (wpF_start ?_))
    unfold ntE
    (first | refine au ?_ | exact au0)
    intro id1 hid1 ht1; have n1 := neAll_of hid1; (try simp only [neAll, neAll_hset] at n1); have m1 := n1; (repeat (obtain ⟨_, m1⟩ := m1))
    (first | refine au ?_ | exact au0)
    intro id2 hid2 ht2; have n2 := neAll_of hid2; (try simp only [neAll, neAll_hset] at n2); have m2 := n2; (repeat (obtain ⟨_, m2⟩ := m2))
    (first | refine au ?_ | exact au0)
    refine (bad_spec l σ id).call (by exact hg_of) (Sub.nil _) ?_
    (first | refine au ?_ | exact au0)
    refine bsplit_dec (fun h1 => ?_) (fun h1 => ?_)
    · rw [if_neg h1]
      (first | refine au ?_ | exact au0)
      exact ⟨fz_of, sub_of⟩
    · rw [if_pos (Classical.not_not.1 h1)]
      (first | refine au ?_ | exact au0)
      refine (is_spec w h id 1 [78, 79, 84]).call (by exact hg_of) (Sub.nil _) ?_
      cases h2 : isT l σ 1 [78, 79, 84] with
      | true =>
        have ne1 : id1 ≠ id := n1.1
        rw [if_pos rfl]
        (first | refine au ?_ | exact au0)
        refine SW.call (within_spec (fs := []) (cs := [.ptr id1 1 0 0]) w (hget_tail ne1) (not1_spec ne1 ih) (fun τ a b => hg τ a b) h (by rw [(isT_ne h2).1]; decide) hm hn) (by exact hg_of) sub_of ?_
        generalize wth l σ (inNot (ntE l n)) = R
        obtain ⟨x, τ⟩ := R
        obtain ⟨op, rel, args, kids⟩ := x
        (first | refine au ?_ | exact au0)
        exact ⟨fz_of, sub_of⟩
      | false =>
        rw [if_neg (by decide)]
        (first | refine au ?_ | exact au0)
        refine (is_spec w h id 5 [40]).call (by exact hg_of) (Sub.nil _) ?_
        cases h3 : isT l σ 5 [40] with
        | true =>
          have ne1 : id1 ≠ id := n1.1
          rw [if_pos rfl]
          (first | refine au ?_ | exact au0)
          refine SW.call (within_spec (fs := []) (cs := [.ptr id1 1 0 0]) w (hget_tail ne1) (not2_spec w ne1 ih hg) (hg.inBr w) h (by rw [(isT_ne h3).1]; decide) hm hn) (by exact hg_of) sub_of ?_
          generalize wth l σ (inBr l (ntE l n)) = R
          obtain ⟨x, τ⟩ := R
          obtain ⟨op, rel, args, kids⟩ := x
          (first | refine au ?_ | exact au0)
          exact ⟨fz_of, sub_of⟩
        | false =>
          rw [if_neg (by decide)]
          (first | refine au ?_ | exact au0)
          refine (test_spec w h id).call (by exact hg_of) (Sub.nil _) ?_
          generalize tst l σ = R
          obtain ⟨x, τ⟩ := R
          obtain ⟨op, rel, args, kids⟩ := x
          (first | refine au ?_ | exact au0)
          exact ⟨fz_of, sub_of⟩
end Go.Proofs.YtjaigpidmngaaaaGreat

namespace Go.Proofs.YtjaigpidmngaaaaGreat
structure Rl2 (X Y : Ex × PSt) : Prop where
  s : Y.2 = X.2
  v : X.2.e = 0 → Y.1 = X.1
theorem Rl2.refl (X : Ex × PSt) : Rl2 X X := ⟨rfl, fun _ => rfl⟩
end Go.Proofs.YtjaigpidmngaaaaGreat

namespace Go.Proofs.YtjaigpidmngaaaaGreat
theorem qs_len : ∀ (m : Nat) (r : List UInt8) (i : Nat) (acc t : List UInt8) (n : Nat), r.length ≤ m → qs r i acc = .done t n → t.length ≤ acc.length + r.length
  | m, [], i, acc, t, n, _, h => by cases h
  | m, [c], i, acc, t, n, _, h => by
    simp only [qs] at h
    split at h
    · cases h
    · split at h
      · cases h; simp
      · cases h
  | 0, c :: d :: r, i, acc, t, n, hm, h => by simp at hm
  | m + 1, c :: d :: r, i, acc, t, n, hm, h => by
    simp only [List.length_cons] at hm ⊢
    simp only [qs] at h
    split at h
    · cases h
    · split at h
      · split at h
        · have := qs_len m r _ _ t n (by omega) h
          simp at this
          omega
        · cases h; omega
      · have := qs_len m (d :: r) _ _ t n (by simp; omega) h
        simp only [List.length_cons, List.length_append, List.length_nil] at this
        omega
theorem lex_tok {s : List UInt8} {k : Int} {t : List UInt8} {num n : Nat} (h : lex s = .tok k t num n) : 1 ≤ k ∧ k ≤ 5 ∧ t.length ≤ s.length ∧ (k = 1 → t ≠ []) := by
  cases s with
  | nil => cases h
  | cons c r =>
    rw [lex_cons] at h
    split at h
    · rename_i hc
      cases h
      refine ⟨by decide, by decide, by rw [List.length_take]; exact Nat.min_le_right _ _, fun _ => ?_⟩
      intro e
      have := congrArg List.length e
      rw [List.length_take, nl_cons, if_pos hc] at this
      simp at this
    · split at h
      · split at h
        · cases h
        · split at h
          · cases h; exact ⟨by decide, by decide, by rw [List.length_take]; exact Nat.min_le_right _ _, fun e => by cases e⟩
          · cases h
      · split at h
        · split at h
          · rename_i e; cases h
            have := qs_len _ _ _ _ _ _ (Nat.le_refl _) e
            simp only [List.length_nil] at this
            exact ⟨by decide, by decide, by simp only [List.length_cons]; omega, fun e => by cases e⟩
          · cases h
          · cases h
        · split at h
          · split at h
            · split at h
              · cases h; exact ⟨by decide, by decide, by simp, fun e => by cases e⟩
              · cases h
            · cases h
          · split at h
            · cases h
              exact ⟨by decide, by decide, by rw [List.length_take]; exact Nat.min_le_right _ _, fun e => by cases e⟩
            · cases h
structure Tks (s : List UInt8) (n : Nat) (l : List Tok) : Prop where
  ex : ∃ p : List Tok, l = p ++ [(6, [], 0, s.length)] ∧ p.length + n ≤ 64 ∧ ∀ t ∈ p, 1 ≤ t.1 ∧ t.1 ≤ 5 ∧ t.2.1.length ≤ s.length ∧ (t.1 = 1 → t.2.1 ≠ [])
theorem tks_wt (s : List UInt8) : ∀ (k a n : Nat) (l : List Tok), s.length - a ≤ k → n ≤ 64 → tks s a n = .ok l → Tks s n l
  | k, a, n, l, hk, hn, h => by
    rcases Nat.lt_or_ge a s.length with hl | hl
    · rw [tks_eq hl] at h
      obtain ⟨k, rfl⟩ : ∃ k', k = k' + 1 := ⟨k - 1, by omega⟩
      split at h
      · exact tks_wt s k _ n l (by omega) hn h
      · split at h
        · cases h
        · rename_i kk t num m hx
          have := lex_bound hx
          have ht := lex_tok hx
          split at h
          · cases h
          · cases hh : tks s (a + m) (n + 1) with
            | bad e p => rw [hh] at h; cases h
            | ok l' =>
              rw [hh] at h
              obtain ⟨p, rfl, q2, q3⟩ := tks_wt s k _ (n + 1) l' (by omega) (by omega) hh
              cases h
              refine ⟨(kk, t, num, a) :: p, rfl, by simp; omega, fun x hx => ?_⟩
              rcases List.mem_cons.1 hx with rfl | hx
              · refine ⟨ht.1, ht.2.1, ?_, ht.2.2.2⟩
                have := ht.2.2.1
                rw [List.length_drop] at this
                show t.length ≤ s.length
                omega
              · exact q3 x hx
    · rw [tks_end hl] at h
      cases h
      exact ⟨[], rfl, by simpa using hn, by simp⟩
theorem tokens_wt {s : List UInt8} {l : List Tok} (h : tokens s = .ok l) : Wt l := by
  unfold tokens at h
  split at h
  · cases h
  · rename_i hs
    obtain ⟨p, rfl, h2, h3⟩ := tks_wt s _ 0 0 l (Nat.le_refl _) (by omega) h
    have tkp : ∀ i, i < p.length → ∃ t ∈ p, tk (p ++ [(6, [], 0, s.length)]) i = t := fun i hi => ⟨p[i], List.getElem_mem hi, by
      unfold tk; rw [List.getD_eq_getElem?_getD, List.getElem?_append_left hi]; simp [hi]⟩
    have tko : ∀ i, p.length ≤ i → (tk (p ++ [(6, [], 0, s.length)]) i).1 = 6 ∧ (tk (p ++ [(6, [], 0, s.length)]) i).2.1 = [] := fun i hi => by
      unfold tk
      rw [List.getD_eq_getElem?_getD, List.getElem?_append_right hi]
      cases i - p.length with
      | zero => simp
      | succ j => simp
    refine ⟨by simp, by simp; omega, fun i hi h6 => ?_, fun i => ?_, fun i h1 => ?_⟩
    · rcases Nat.lt_or_ge i p.length with h | h
      · simp; omega
      · exact absurd (tko i h).1 h6
    · rcases Nat.lt_or_ge i p.length with h | h
      · obtain ⟨t, ht, e⟩ := tkp i h
        rw [e]
        have := (h3 t ht).2.2.1
        omega
      · rw [(tko i h).2]; simp
    · rcases Nat.lt_or_ge i p.length with h | h
      · obtain ⟨t, ht, e⟩ := tkp i h
        rw [e] at h1 ⊢
        exact (h3 t ht).2.2.2 h1
      · rw [(tko i h).1] at h1; cases h1
end Go.Proofs.YtjaigpidmngaaaaGreat

namespace Go.Proofs.YtjaigpidmngaaaaGreat
attribute [local irreducible] callA callP ACalls
structure OneK (R : LR) (at' : Nat) (r : AV) : Prop where
  tok : ∀ k t num n, R = .tok k t num n → r = .tup [tokA k t num at', .int .i64 (n : Nat), fltA 0 0]
  bad : ∀ e off, R = .bad e off → ∃ k t num a m, r = .tup [tokA k t num a, .int .i64 m, fltA e (at' + off : Nat)]
theorem OneK.of_tok {at' : Nat} {k : Int} {t : List UInt8} {num n : Nat} {r : AV} (h : r = .tup [tokA k t num at', .int .i64 (n : Nat), fltA 0 0]) : OneK (.tok k t num n) at' r :=
  ⟨(fun k t num n e => by cases e; exact h), (fun e off q => by cases q)⟩
theorem OneK.of_bad {at' : Nat} {e : Int} {off : Nat} {k num a m : Int} {t : List UInt8} {r : AV} (h : r = .tup [tokA k t num a, .int .i64 m, fltA e (at' + off : Nat)]) : OneK (.bad e off) at' r :=
  ⟨(fun k t num n e => by cases e), (fun e' off' q => by cases q; exact ⟨k, t, num, a, m, h⟩)⟩
end Go.Proofs.YtjaigpidmngaaaaGreat

namespace Go.Proofs.YtjaigpidmngaaaaGreat
attribute [local irreducible] callA callP ACalls
structure TS2 (id3 : Nat) (v : AV) (l : List (Int × List UInt8 × Nat × Nat)) (H : AH) : Prop where
  g3 : hget H id3 = some (.rows 2 [[.int .i64 0, .int .i64 0]])
  s : OwnS H ty_api_Token 4 v (l.map tkR)
  len : l.length ≤ 64
theorem TS2.own {id3 : Nat} {v : AV} {l : List (Int × List UInt8 × Nat × Nat)} {H : AH} (h : TS2 id3 v l H) : (v = .nilS ∧ l = []) ∨ ∃ id, v = .own id 4 0 l.length ∧ hget H id = some (.rows 4 (l.map tkR)) ∧ tag id = ty_api_Token ∧ 0 < l.length ∧ id ≠ id3 := by
  rcases h.s.or with ⟨q1, q2⟩ | ⟨id, q1, q2, q3, q4⟩
  · exact .inl ⟨q1, by simpa using q2⟩
  · refine .inr ⟨id, by rw [q1, List.length_map], q2, q3, by simpa using q4, fun e => ?_⟩
    rw [e, h.g3] at q2; cases q2
end Go.Proofs.YtjaigpidmngaaaaGreat

namespace Go.Proofs.YtjaigpidmngaaaaGreat
attribute [local irreducible] callA callP ACalls
def tokV : TR → AV
  | .ok l => .tup [.rows 4 (l.map tkR), fltA 0 0]
  | .bad e p => .tup [.nilS, fltA e (p : Nat)]
theorem TokO.fz {R : TR} {r : AV} {H : AH} (h : TokO R r H) : ∃ r' Hc, Sub Hc H ∧ Fz H Hc r r' ∧ r' = tokV R := by
  cases hR : R with
  | ok l =>
    obtain ⟨id, rfl, hg⟩ := h.ok l hR
    refine ⟨_, [], (fun _ _ q => by cases q), ?_, rfl⟩
    have hf := fz_own (Hc := []) hg rfl (Nat.zero_le l.length) (by rw [List.length_map]; exact Nat.le_refl _) (tkR_len l)
    rw [List.drop_zero, show (l.map tkR).take l.length = l.map tkR from by rw [show l.length = (l.map tkR).length from by simp, List.take_length]] at hf
    obtain ⟨q1, q2⟩ := FzL.cons hf (FzL.cons (Fz.refl (fltA 0 0)) (FzL.nil H []))
    exact .tup _ _ q1 q2
  | bad e p =>
    obtain rfl := h.bad e p hR
    exact ⟨_, [], (fun _ _ q => by cases q), .refl _, rfl⟩
theorem Tokens_spec {s : List UInt8} (hs : s.length ≤ 140737488351232) : ACalls PG token_Tokens.n [.str s] [] fun r _ => r = tokV (tokens s) :=
  (Tokens_spec0 hs).freeze fun _ _ h => h.fz
end Go.Proofs.YtjaigpidmngaaaaGreat

namespace Go.Proofs.YtjaigpidmngaaaaGreat
attribute [local irreducible] callA callP ACalls
theorem tksP_bad (s : List UInt8) : ∀ (k a n : Nat) (e : Int) (p : Nat), s.length - a ≤ k → tks s a n = .bad e p → 0 < e
  | k, a, n, e, p, hk, h => by
    rcases Nat.lt_or_ge a s.length with hl | hl
    · rw [tks_eq hl] at h
      obtain ⟨k, rfl⟩ : ∃ k', k = k' + 1 := ⟨k - 1, by omega⟩
      split at h
      · exact tksP_bad s k _ n e p (by omega) h
      · split at h
        · rename_i hx; cases h; exact (lex_err hx).1
        · rename_i kk t num m hx
          have := lex_bound hx
          split at h
          · cases h; decide
          · cases hh : tks s (a + m) (n + 1) with
            | bad e' p' => rw [hh] at h; cases h; exact tksP_bad s k _ _ _ _ (by omega) hh
            | ok l' => rw [hh] at h; cases h
    · rw [tks_end hl] at h; cases h
theorem tokensP_bad {s : List UInt8} {e : Int} {p : Nat} (h : tokens s = .bad e p) : 0 < e := by
  unfold tokens at h
  split at h
  · cases h; decide
  · exact tksP_bad s _ 0 0 e p (Nat.le_refl _) h
def parseT (l : List Tok) : Ex × Int × Int := if (endE l (topE l).2).e = 0 then ((topE l).1, 0, 0) else (ex0, (endE l (topE l).2).e, (endE l (topE l).2).a)
def parseP (s : List UInt8) : Ex × Int × Int := match tokens s with
  | .bad e p => (ex0, e, (p : Nat))
  | .ok l => parseT l
theorem parseP_ok {s : List UInt8} {l : List Tok} (h : tokens s = .ok l) : parseP s = parseT l := by unfold parseP; rw [h]
theorem parseP_bad {s : List UInt8} {e : Int} {p : Nat} (h : tokens s = .bad e p) : parseP s = (ex0, e, ((p : Nat) : Int)) := by unfold parseP; rw [h]
abbrev parV (R : Ex × Int × Int) : AV := .tup [exA R.1, fltA R.2.1 R.2.2]
theorem Parse_spec {s : List UInt8} (hs : s.length ≤ 140737488351232) : ACalls PG expr_Parse.n [.str s] [] fun r _ => r = parV (parseP s) := by
  refine ACalls.fzK (expr_Parse.of rfl (wpF_start ?_))
  (first | refine au ?_ | exact au0)
  intro id2 hid2 ht2; have n2 := neAll_of hid2; (try simp only [neAll, neAll_hset] at n2); have m2 := n2; (repeat (obtain ⟨_, m2⟩ := m2))
  (first | refine au ?_ | exact au0)
  intro id3 hid3 ht3; have n3 := neAll_of hid3; (try simp only [neAll, neAll_hset] at n3); have m3 := n3; (repeat (obtain ⟨_, m3⟩ := m3))
  (first | refine au ?_ | exact au0)
  refine callF_eq ((Tokens_spec hs).frame _) ?_
  cases hT : tokens s with
  | bad e p =>
    have he := tokensP_bad hT
    rw [parseP_bad hT]
    (first | refine au ?_ | exact au0)
    intro id5 hid5 ht5; have n5 := neAll_of hid5; (try simp only [neAll, neAll_hset] at n5); have m5 := n5; (repeat (obtain ⟨_, m5⟩ := m5))
    (first | refine au ?_ | exact au0)
    exact fz_of
  | ok l =>
    have w := tokens_wt hT
    rw [parseP_ok hT]
    have hpos := w.pos
    have hw := w.len
    (first | refine au ?_ | exact au0)
    intro id5 hid5 ht5; have n5 := neAll_of hid5; (try simp only [neAll, neAll_hset] at n5); have m5 := n5; (repeat (obtain ⟨_, m5⟩ := m5))
    (first | refine au ?_ | exact au0)
    intro id20 hid20 ht20; have n20 := neAll_of hid20; (try simp only [neAll, neAll_hset] at n20); have m20 := n20; (repeat (obtain ⟨_, m20⟩ := m20))
    (first | refine au ?_ | exact au0)
    have G := (GdF.nt w l.length).or w ⟨0, 0, 0, 0⟩ hpos (by show l.length - 0 ≤ _; omega)
    refine SW.call (or_spec w (not_spec w id20 l.length) (GdF.nt w l.length) ⟨0, 0, 0, 0⟩ hpos (by show l.length - 0 ≤ _; omega) (by decide)) (by exact hg_of) (Sub.nil _) ?_
    generalize hX : topE l = X
    have hP : parseT l = if (endE l X.2).e = 0 then (X.1, 0, 0) else (ex0, (endE l X.2).e, (endE l X.2).a) := by unfold parseT; rw [hX]
    rw [hP]
    unfold topE at hX
    rw [hX] at G ⊢
    obtain ⟨x, τ⟩ := X
    obtain ⟨op, rel, args, kids⟩ := x
    have Glt : τ.p < l.length := G.lt
    show hsetK _ _ (psB l τ) _
    (first | refine au ?_ | exact au0)
    intro id7 hid7 ht7; have n7 := neAll_of hid7; (try simp only [neAll, neAll_hset] at n7); have m7 := n7; (repeat (obtain ⟨_, m7⟩ := m7))
    (first | refine au ?_ | exact au0)
    refine (bad_spec l τ id20).call (by exact hg_of) (Sub.nil _) ?_
    by_cases he : τ.e = 0
    · by_cases h6 : (tk l τ.p).1 = 6
      · rw [show endE l τ = τ from if_neg fun q => q.2 h6, if_pos he]
        (first | refine au ?_ | exact au0)
        refine (now_spec w Glt id20).call (by exact hg_of) (Sub.nil _) ?_
        (first | refine au ?_ | exact au0)
        refine (bad_spec l τ id20).call (by exact hg_of) (Sub.nil _) ?_
        (first | refine au ?_ | exact au0)
        exact fz_of
      · rw [show endE l τ = τ.fail l 11 from if_pos ⟨he, h6⟩]
        have hf : (τ.fail l 11).e = 11 := by unfold PSt.fail; rw [if_pos he]
        rw [if_neg (show ¬ (τ.fail l 11).e = 0 by rw [hf]; decide)]
        (first | refine au ?_ | exact au0)
        refine (now_spec w Glt id20).call (by exact hg_of) (Sub.nil _) ?_
        (first | refine au ?_ | exact au0)
        refine (fail_spec w Glt id20 11).call (by exact hg_of) (Sub.nil _) ?_
        (first | refine au ?_ | exact au0)
        refine (bad_spec l (τ.fail l 11) id20).call (by exact hg_of) (Sub.nil _) ?_
        (first | refine au ?_ | exact au0)
        exact fz_of
    · rw [show endE l τ = τ from if_neg fun q => he q.1, if_neg he]
      (first | refine au ?_ | exact au0)
      refine (bad_spec l τ id20).call (by exact hg_of) (Sub.nil _) ?_
      (first | refine au ?_ | exact au0)
      exact fz_of
end Go.Proofs.YtjaigpidmngaaaaGreat

namespace Go.Proofs.YtjaigpidmngaaaaGreat
attribute [local irreducible] callA callP ACalls
mutual
def exOk : Ex → Prop
  | .mk op rel args kids => args.length ≤ 1099511627776 ∧ kids.length ≤ 1099511627776 ∧ exsOk kids
def exsOk : List Ex → Prop
  | [] => True
  | k :: ks => exOk k ∧ exsOk ks
end
theorem exsOk_mem : ∀ {l : List Ex}, exsOk l → ∀ x ∈ l, exOk x
  | [], _, x, hx => by cases hx
  | k :: ks, h, x, hx => by
    simp only [exsOk] at h
    rcases List.mem_cons.1 hx with rfl | hx
    · exact h.1
    · exact exsOk_mem h.2 x hx
theorem exRs_get {l : List Ex} {i : Nat} (h : i < l.length) : (exRs l).getD i [] = exR l[i] := by
  rw [exRs_map]; simp [List.getD, h]
theorem opRs_get {l : List Opd} {i : Nat} (h : i < l.length) : (l.map opR).getD i [] = opR l[i] := by
  simp [List.getD, h]
theorem eqOp (o : Opd) : eqCells [.i .i64, .s, .b, .i .u64] (opR o) (opR o) = some true := by simp [eqCells]
theorem same_spec : ∀ (n : Nat) (x : Ex), SizeOf.sizeOf x < n → exOk x → ∀ H : AH, ACalls PG broadsheetref15_Same.n [exA x, exA x] H fun r H' => r = .bool true ∧ H' = H
  | 0, x, h, _, H => by omega
  | n + 1, .mk op rel args kids, hsz, hok, H => by
    simp only [exOk] at hok
    obtain ⟨ha, hk, hks⟩ := hok
    have hal : (List.map (fun o : Opd => [AV.int .i64 o.k, .str o.t, .bool o.neg, .int .u64 (o.num : Nat)]) args).length = args.length := by simp
    have hkl := exRs_len kids
    refine ACalls.fz (broadsheetref15_Same.of rfl (wpF_start ?_))
    (first | refine au ?_ | exact au0)
    intro id2 hid2 ht2; have n2 := neAll_of hid2; (try simp only [neAll, neAll_hset] at n2); have m2 := n2; (repeat (obtain ⟨_, m2⟩ := m2))
    (first | refine au ?_ | exact au0)
    intro id3 hid3 ht3; have n3 := neAll_of hid3; (try simp only [neAll, neAll_hset] at n3); have m3 := n3; (repeat (obtain ⟨_, m3⟩ := m3))
    (first | refine au ?_ | exact au0)
    refine ⟨fun n L H' => ∃ i : Nat, n = args.length - i ∧ i ≤ args.length ∧ L = [(2, some (.ptr id2 4 0 0)), (3, some (.ptr id3 4 0 0)), (5, some (.int .i64 i))] ∧ H' = (id3, .rows 4 [exR (.mk op rel args kids)]) :: (id2, .rows 4 [exR (.mk op rel args kids)]) :: H,
      ⟨_, _, (by exact cov_of), Sub.refl _, _, 0, rfl, Nat.zero_le _, rfl, rfl⟩, ?_⟩
    rintro m L H' ⟨i, rfl, hi, rfl, rfl⟩
    (first | refine au ?_ | exact au0)
    refine bsplit_dec (fun h1 => ?_) (fun h1 => ?_)
    · have hil : i < args.length := by omega
      (first | refine au ?_ | exact au0)
      rw [show (Int.toNat (i : Nat)) = i from rfl, opRs_get hil]
      (first | refine au ?_ | exact au0)
      rw [show (Int.toNat (i : Nat)) = i from rfl, opRs_get hil]
      (first | refine au ?_ | exact au0)
      refine ⟨true, eqOp _, ?_⟩
      (first | refine au ?_ | exact au0)
      refine ⟨[(2, some (.ptr id2 4 0 0)), (3, some (.ptr id3 4 0 0)), (5, some (.int .i64 (i + 1 : Nat)))], _, (by exact cov_of), Sub.refl _, _, ?_, i + 1, rfl, by omega, rfl, rfl⟩
      omega
    · (first | refine au ?_ | exact au0)
      refine ⟨fun n L H' => ∃ i : Nat, n = kids.length - i ∧ i ≤ kids.length ∧ L = [(2, some (.ptr id2 4 0 0)), (3, some (.ptr id3 4 0 0)), (6, some (.int .i64 i))] ∧ H' = (id3, .rows 4 [exR (.mk op rel args kids)]) :: (id2, .rows 4 [exR (.mk op rel args kids)]) :: H,
        ⟨_, _, (by exact cov_of), Sub.refl _, _, 0, rfl, Nat.zero_le _, rfl, rfl⟩, ?_⟩
      rintro m L H' ⟨j, rfl, hj, rfl, rfl⟩
      (first | refine au ?_ | exact au0)
      refine bsplit_dec (fun h2 => ?_) (fun h2 => ?_)
      · have hjl : j < kids.length := by omega
        have hmem : kids[j] ∈ kids := List.getElem_mem hjl
        have hs : SizeOf.sizeOf kids[j] < n := by
          have q1 := List.sizeOf_lt_of_mem hmem
          simp only [Ex.mk.sizeOf_spec] at hsz
          omega
        have hget0 := exRs_get hjl
        have hoky := exsOk_mem hks _ hmem
        generalize kids[j] = y at *
        have ih := same_spec n y hs hoky
        obtain ⟨op2, rel2, args2, kids2⟩ := y
        (first | refine au ?_ | exact au0)
        rw [show (Int.toNat (j : Nat)) = j from rfl, hget0]
        (first | refine au ?_ | exact au0)
        rw [show (Int.toNat (j : Nat)) = j from rfl, hget0]
        (first | refine au ?_ | exact au0)
        refine callF_eq (ih _) ?_
        (first | refine au ?_ | exact au0)
        refine ⟨[(2, some (.ptr id2 4 0 0)), (3, some (.ptr id3 4 0 0)), (6, some (.int .i64 (j + 1 : Nat)))], _, (by exact cov_of), Sub.refl _, _, ?_, j + 1, rfl, by omega, rfl, rfl⟩
        omega
      · (first | refine au ?_ | exact au0)
        exact ⟨fz_of, sub_of⟩
end Go.Proofs.YtjaigpidmngaaaaGreat

namespace Go.Proofs.YtjaigpidmngaaaaGreat
attribute [local irreducible] callA callP ACalls
theorem exRs_geti {l : List Ex} {i : Nat} (h : i < l.length) : (exRs l).getD (Int.toNat (i : Nat)) [] = exR l[i] := exRs_get h
theorem exSz {l : List Ex} {i : Nat} (h : i < l.length) : SizeOf.sizeOf l[i] < SizeOf.sizeOf l := List.sizeOf_lt_of_mem (List.getElem_mem h)
theorem rSize_spec : ∀ (n : Nat) (x : Ex), SizeOf.sizeOf x < n → eSize x ≤ 1000000 → ACalls PG broadsheetref15_Size.n [exA x] [] fun r _ => r = .int .i64 (eSize x : Nat)
  | 0, x, h, _ => by omega
  | n + 1, .mk op rel args kids, hsz, hle => by
    have hkl := exRs_len kids
    have hlen := eSizes_len kids
    have hal : (List.map (fun o : Opd => [AV.int .i64 o.k, .str o.t, .bool o.neg, .int .u64 (o.num : Nat)]) args).length = args.length := by simp
    simp only [eSize] at hle ⊢
    refine ACalls.fzK (broadsheetref15_Size.of rfl (wpF_start ?_))
    (first | refine au ?_ | exact au0)
    intro id1 hid1 ht1; have n1 := neAll_of hid1; (try simp only [neAll, neAll_hset] at n1); have m1 := n1; (repeat (obtain ⟨_, m1⟩ := m1))
    (first | refine au ?_ | exact au0)
    refine loopS (S := Nat) (fun i => [(3, some (.int .i64 (1 + args.length + eSizes (kids.take i) : Nat))), (4, some (.int .i64 (i : Nat)))]) (fun _ => _) (fun i => kids.length - i) (fun i => i ≤ kids.length) 0 (Nat.zero_le _) (fun i hi => ?_)
      (by repeat (first | exact trivial | refine And.intro (Or.inr (Exists.intro _ (And.intro rfl (fz_eq (congrArg (AV.int .i64) (by simp only [List.take_zero, eSizes]; omega)))))) ?_ | refine And.intro (Or.inl rfl) ?_ | refine And.intro (Or.inr (Exists.intro _ (And.intro rfl (Fz.refl _)))) ?_))
    (first | refine au ?_ | exact au0)
    refine bsplit_dec (fun h1 => ?_) (fun h1 => ?_)
    · have hil : i < kids.length := by omega
      have ht := eSizes_take kids i hil
      have htl := eSizes_takeLe kids (i + 1)
      have hg := exRs_geti hil
      have hsz' := exSz hil
      have hm := eSizes_mem (List.getElem_mem hil)
      simp only [Ex.mk.sizeOf_spec] at hsz
      have ih := rSize_spec n kids[i] (by omega) (by omega)
      generalize kids[i] = y at *
      obtain ⟨op2, rel2, args2, kids2⟩ := y
      (first | refine au ?_ | exact au0)
      rw [hg]
      (first | refine au ?_ | exact au0)
      refine callF_eq (ih.frame _) ?_
      (first | refine au ?_ | exact au0)
      refine nextS ((i + 1 : Nat)) (by (try dsimp only); rw [ ht, ← Nat.add_assoc, Int.natCast_add (1 + args.length + eSizes (kids.take i))]; exact cov_of) (by exact sub_of) (by first | omega | (dsimp only; omega)) ?_; (try dsimp only)
      exact hil
    · have e1 := List.take_of_length_le (show kids.length ≤ i from by omega)
      rw [e1]
      (first | refine au ?_ | exact au0)
      exact fz_of
theorem opRs_geti {l : List Opd} {i : Nat} (h : i < l.length) : (l.map opR).getD (Int.toNat (i : Nat)) [] = opR l[i] := opRs_get h
def txB (a : List Opd) (i : Nat) : Nat := min (eTx (a.take i)) 100000
theorem txB_step {a : List Opd} {i : Nat} (h : i < a.length) : txB a (i + 1) = min (txB a i + a[i].t.length) 100000 := by
  unfold txB; rw [eTx_take a i h]; omega
def cnt (a : List Opd) (k : List Ex) (i : Nat) : Nat := min (txB a a.length + eSizes (k.take i)) 100000
theorem cnt_step {a : List Opd} {k : List Ex} {i : Nat} (h : i < k.length) : cnt a k (i + 1) = min (cnt a k i + eSize k[i]) 100000 := by
  unfold cnt; rw [eSizes_take k i h]; omega
theorem Great_spec : ∀ (n : Nat) (x : Ex) (d : Nat), SizeOf.sizeOf x < n → eOk x → d ≤ 100 → ACalls PG broadsheetref15_Great.n [exA x, .int .i64 (d : Nat)] [] fun r _ => r = .bool (eMuch x d)
  | 0, x, d, h, _, _ => by omega
  | n + 1, .mk op rel args kids, d, hsz, hok, hd => by
    have hkl := exRs_len kids
    have hal : (List.map (fun o : Opd => [AV.int .i64 o.k, .str o.t, .bool o.neg, .int .u64 (o.num : Nat)]) args).length = args.length := by simp
    simp only [eOk] at hok
    obtain ⟨ha, htx, hk, hks⟩ := hok
    simp only [eMuch]
    refine ACalls.fzK (broadsheetref15_Great.of rfl (wpF_start ?_))
    (first | refine au ?_ | exact au0)
    intro id2 hid2 ht2; have n2 := neAll_of hid2; (try simp only [neAll, neAll_hset] at n2); have m2 := n2; (repeat (obtain ⟨_, m2⟩ := m2))
    (first | refine au ?_ | exact au0)
    refine bsplit_dec (fun c1 => ?_) (fun c1 => ?_)
    · (first | refine au ?_ | exact au0)
      exact fz_eq (congrArg AV.bool (by simp [show 40 < d from by omega]))
    (first | refine au ?_ | exact au0)
    refine bsplit_dec (fun c2 => ?_) (fun c2 => ?_)
    · (first | refine au ?_ | exact au0)
      exact fz_eq (congrArg AV.bool (by simp [show 100 < kids.length from by omega]))
    (first | refine au ?_ | exact au0)
    refine bsplit_dec (fun c3 => ?_) (fun c3 => ?_)
    · (first | refine au ?_ | exact au0)
      exact fz_eq (congrArg AV.bool (by simp [show 100 < args.length from by omega]))
    rw [decide_eq_false (show ¬ 40 < d from by omega), decide_eq_false (show ¬ 100 < kids.length from by omega), decide_eq_false (show ¬ 100 < args.length from by omega), Bool.false_or, Bool.false_or, Bool.false_or]
    (first | refine au ?_ | exact au0)
    refine loopS (S := Nat) (fun i => [(5, some (.int .i64 (txB args i : Nat))), (6, some (.int .i64 (i : Nat)))]) (fun _ => _) (fun i => args.length - i) (fun i => i ≤ args.length) 0 (Nat.zero_le _) (fun i hi => ?_)
    have hb : txB args i ≤ 100000 := by unfold txB; omega
    (first | refine au ?_ | exact au0)
    refine bsplit_dec (fun h1 => ?_) (fun h1 => ?_)
    · have hil : i < args.length := by omega
      have hg := opRs_geti hil
      have ht := txB_step hil
      have hl := htx _ (List.getElem_mem hil)
      generalize args[i] = o at *
      (first | refine au ?_ | exact au0)
      rw [hg]
      (first | refine au ?_ | exact au0)
      refine nextS ((i + 1 : Nat)) (by (try dsimp only); rw [ ht, cast_min]; exact cov_of) (by exact sub_of) (by first | omega | (dsimp only; omega)) ?_; (try dsimp only)
      exact hil
    have e1 : i = args.length := by omega
    subst e1
    have e0 : cnt args kids 0 = txB args args.length := by unfold cnt txB; simp only [List.take_zero, eSizes]; omega
    (first | refine au ?_ | exact au0)
    refine loopS (S := Nat) (fun i => [(5, some (.int .i64 (cnt args kids i : Nat))), (7, some (.int .i64 (i : Nat)))]) (fun _ => _) (fun i => kids.length - i) (fun i => i ≤ kids.length ∧ ∀ (j : Nat) (h : j < kids.length), j < i → eMuch kids[j] (d + 1) = false) 0 ⟨Nat.zero_le _, fun j _ h => by omega⟩ (fun j hj => ?_)
    have hb2 : cnt args kids j ≤ 100000 := by unfold cnt; omega
    obtain ⟨hj, hno⟩ := hj
    (first | refine au ?_ | exact au0)
    refine bsplit_dec (fun h2 => ?_) (fun h2 => ?_)
    · have hil : j < kids.length := by omega
      have ht := cnt_step (a := args) hil
      have hg := exRs_geti hil
      have hsz' := exSz hil
      simp only [Ex.mk.sizeOf_spec] at hsz
      have ih := Great_spec n kids[j] (d + 1) (by omega) (eOks_mem hks _ (List.getElem_mem hil)) (by omega)
      have ihs := rSize_spec n kids[j] (by omega)
      have hat := eMuchs_at (d := d + 1) hil
      have hgr := @eMuch_size kids[j] (d + 1)
      have hno1 : eMuch kids[j] (d + 1) = false → ∀ (k : Nat) (h : k < kids.length), k < j + 1 → eMuch kids[k] (d + 1) = false := fun q k hk h3 => by
        by_cases e : k = j
        · subst e; exact q
        · exact hno k hk (by omega)
      generalize kids[j] = y at *
      obtain ⟨op2, rel2, args2, kids2⟩ := y
      (first | refine au ?_ | exact au0)
      rw [hg]
      (first | refine au ?_ | exact au0)
      refine callF_eq (ih.frame _) ?_
      (first | refine au ?_ | exact au0)
      refine bsplit_intro (fun h3 => ?_) (fun h3 => ?_)
      · (first | refine au ?_ | exact au0)
        exact fz_eq (congrArg AV.bool (by rw [hat h3]; rfl))
      have hs3 := hgr h3
      (first | refine au ?_ | exact au0)
      rw [hg]
      (first | refine au ?_ | exact au0)
      refine callF_eq ((ihs (by omega)).frame _) ?_
      (first | refine au ?_ | exact au0)
      refine nextS ((j + 1 : Nat)) (by (try dsimp only); rw [ ht, cast_min]; exact cov_of) (by exact sub_of) (by first | omega | (dsimp only; omega)) ?_; (try dsimp only)
      exact ⟨hil, hno1 h3⟩
    · have e2 : j = kids.length := by omega
      subst e2
      (first | refine au ?_ | exact au0)
      refine fz_eq (congrArg AV.bool ?_)
      rw [eMuchs_end fun i h => hno i h h, Bool.false_or]
      have : cnt args kids kids.length = min (min (eTx args) 100000 + eSizes kids) 100000 := by unfold cnt txB; rw [List.take_length, List.take_length]
      rw [this]
      exact decide_eq_decide.2 (by omega)
end Go.Proofs.YtjaigpidmngaaaaGreat

namespace Go.Proofs.YtjaigpidmngaaaaGreat
attribute [local irreducible] callA callP ACalls
theorem formed_spec (op rel : Int) (a : List Opd) (k : List Ex) (ha : a.length ≤ 140737488351232) (hk : k.length ≤ 140737488351232) (H : AH) : ACalls PG check_formed.n [exA (.mk op rel a k)] H fun r H' => r = .bool (formB op rel a.length k.length) ∧ H' = H := by
  have hla : (a.map fun o : Opd => [AV.int .i64 o.k, .str o.t, .bool o.neg, .int .u64 (o.num : Nat)]).length = a.length := by simp
  have hlk := exRs_len k
  refine ACalls.fz (check_formed.of rfl (wpF_start ?_))
  unfold formB
  (first | refine au ?_ | exact au0)
  intro id2 hid2 ht2; have n2 := neAll_of hid2; (try simp only [neAll, neAll_hset] at n2); have m2 := n2; (repeat (obtain ⟨_, m2⟩ := m2))
  clear hid2
  by_cases c1 : op = 1
  · rw [if_pos c1]
    (repeat' (first | (refine au ?_; first | refine bsplit_dec (fun _ => ?_) (fun _ => ?_) | refine bsplit_intro (fun _ => ?_) (fun _ => ?_)) | exact au0 | fail)); (all_goals try (first | refine au ?_ | fail))
    all_goals exact ⟨fz_eq (congrArg AV.bool (by first | exact (decide_eq_true (by omega)).symm | exact (decide_eq_false (by omega)).symm | exact decide_eq_decide.2 (by omega) | rfl)), sub_of⟩
  rw [if_neg c1]
  by_cases c3 : op = 3
  · rw [if_pos c3]
    (repeat' (first | (refine au ?_; first | refine bsplit_dec (fun _ => ?_) (fun _ => ?_) | refine bsplit_intro (fun _ => ?_) (fun _ => ?_)) | exact au0 | fail)); (all_goals try (first | refine au ?_ | fail))
    all_goals exact ⟨fz_eq (congrArg AV.bool (by first | exact (decide_eq_true (by omega)).symm | exact (decide_eq_false (by omega)).symm | exact decide_eq_decide.2 (by omega) | rfl)), sub_of⟩
  rw [if_neg c3]
  by_cases c2 : op = 2
  · rw [if_pos c2]
    (repeat' (first | (refine au ?_; first | refine bsplit_dec (fun _ => ?_) (fun _ => ?_) | refine bsplit_intro (fun _ => ?_) (fun _ => ?_)) | exact au0 | fail)); (all_goals try (first | refine au ?_ | fail))
    all_goals exact ⟨fz_eq (congrArg AV.bool (by first | exact (decide_eq_true (by omega)).symm | exact (decide_eq_false (by omega)).symm | exact decide_eq_decide.2 (by omega) | rfl)), sub_of⟩
  rw [if_neg c2]
  by_cases c4 : op = 4
  · rw [if_pos c4]
    (repeat' (first | (refine au ?_; first | refine bsplit_dec (fun _ => ?_) (fun _ => ?_) | refine bsplit_intro (fun _ => ?_) (fun _ => ?_)) | exact au0 | fail)); (all_goals try (first | refine au ?_ | fail))
    all_goals exact ⟨fz_eq (congrArg AV.bool (by first | exact (decide_eq_true (by omega)).symm | exact (decide_eq_false (by omega)).symm | exact decide_eq_decide.2 (by omega) | rfl)), sub_of⟩
  rw [if_neg c4]
  by_cases c5 : op = 5
  · rw [if_pos (.inl c5)]
    (repeat' (first | (refine au ?_; first | refine bsplit_dec (fun _ => ?_) (fun _ => ?_) | refine bsplit_intro (fun _ => ?_) (fun _ => ?_)) | exact au0 | fail)); (all_goals try (first | refine au ?_ | fail))
    all_goals exact ⟨fz_eq (congrArg AV.bool (by first | exact (decide_eq_true (by omega)).symm | exact (decide_eq_false (by omega)).symm | exact decide_eq_decide.2 (by omega) | rfl)), sub_of⟩
  by_cases c6 : op = 6
  · rw [if_pos (.inr c6)]
    (repeat' (first | (refine au ?_; first | refine bsplit_dec (fun _ => ?_) (fun _ => ?_) | refine bsplit_intro (fun _ => ?_) (fun _ => ?_)) | exact au0 | fail)); (all_goals try (first | refine au ?_ | fail))
    all_goals exact ⟨fz_eq (congrArg AV.bool (by first | exact (decide_eq_true (by omega)).symm | exact (decide_eq_false (by omega)).symm | exact decide_eq_decide.2 (by omega) | rfl)), sub_of⟩
  rw [if_neg (by omega)]
  (first | refine au ?_ | exact au0)
  exact ⟨fz_of, sub_of⟩
theorem operands_spec (l : List Ty) (t : Int) (x : Ex) (H : AH) : ACalls PG check_plan_operands.n [plA l t, exA x] H fun r H' => ∃ i j, r = .clo check_plan_operands_1.n [] [.ptr j 4 0 0, .ptr i 2 0 0] ∧ hget H i = none ∧ hget H j = none ∧ i ≠ j ∧ H' = (j, .rows 4 [exR x]) :: (i, .rows 2 [[tysA l, .int .i64 t]]) :: H := by
  obtain ⟨op, rel, a, k⟩ := x
  refine check_plan_operands.of rfl (wpF_start ?_)
  (first | refine au ?_ | exact au0)
  intro id2 hid2 ht2; have n2 := neAll_of hid2; (try simp only [neAll, neAll_hset] at n2); have m2 := n2; (repeat (obtain ⟨_, m2⟩ := m2))
  (first | refine au ?_ | exact au0)
  intro id3 hid3 ht3; have n3 := neAll_of hid3; (try simp only [neAll, neAll_hset] at n3); have m3 := n3; (repeat (obtain ⟨_, m3⟩ := m3))
  (first | refine au ?_ | exact au0)
  exact ⟨id2, id3, rfl, hid2, hget_none n3.2, fun e => n3.1 e.symm, rfl⟩
def RoundO (lid i j : Nat) (bi bj : Blk) (l : List Ty) (t : Int) (a : List Opd) (J : Nat → AH → Prop) (Jx : AH → Prop) : Prop :=
  ∀ k (h : k < a.length) (H : AH), hget H i = none → hget H j = none → J k H → AYields PG lid [opA a[k], .int .i64 (whatO l t a[k]).2] ((j, bj) :: (i, bi) :: H) fun r H' => ∃ H2, H' = (j, bj) :: (i, bi) :: H2 ∧ ((r = .bool true ∧ hget H2 i = none ∧ hget H2 j = none ∧ J (k + 1) H2) ∨ (r = .bool false ∧ Jx H2))
theorem operands_iter (l : List Ty) (hl : TysOk l) (t : Int) (op rel : Int) (a : List Opd) (ks : List Ex) (hal : a.length ≤ 140737488351232) (hat : ∀ o ∈ a, o.t.length ≤ 1000000) (lid i j : Nat) (hij : i ≠ j) (J : Nat → AH → Prop) (Jx : AH → Prop)
    (hy : RoundO lid i j (.rows 2 [[tysA l, .int .i64 t]]) (.rows 4 [exR (.mk op rel a ks)]) l t a J Jx) (H0 : AH) (hi0 : hget H0 i = none) (hj0 : hget H0 j = none) (hj : J 0 H0) :
    ACalls PG check_plan_operands_1.n [.yld lid, .ptr j 4 0 0, .ptr i 2 0 0] ((j, .rows 4 [exR (.mk op rel a ks)]) :: (i, .rows 2 [[tysA l, .int .i64 t]]) :: H0) fun _ H' => ∃ H2, H' = (j, .rows 4 [exR (.mk op rel a ks)]) :: (i, .rows 2 [[tysA l, .int .i64 t]]) :: H2 ∧ (J a.length H2 ∨ Jx H2) := by
  have hla : (a.map fun o : Opd => [AV.int .i64 o.k, .str o.t, .bool o.neg, .int .u64 (o.num : Nat)]).length = a.length := by simp
  refine check_plan_operands_1.of' (by simp only [List.length_cons, List.length_nil]; omega) (wpF_start ?_)
  (first | refine au ?_ | exact au0)
  refine loopM (S := Nat × AH) [(0, some _), (2, some _), (9, some _), (10, some _)] (fun z => [(11, some (.int .i64 (z.1 : Nat)))]) (fun z => (j, .rows 4 [exR (.mk op rel a ks)]) :: (i, .rows 2 [[tysA l, .int .i64 t]]) :: z.2) (fun z => a.length - z.1) (fun z => z.1 ≤ a.length ∧ hget z.2 i = none ∧ hget z.2 j = none ∧ J z.1 z.2) (0, H0) (by exact cov_of) (Sub.refl _) ⟨Nat.zero_le _, hi0, hj0, hj⟩ (fun ⟨k, Hq⟩ hz => ?_)
  obtain ⟨hk, hqi, hqj, hqJ⟩ := hz
  dsimp only at hk hqi hqj hqJ ⊢
  have hni := neAll_of hqi
  have hnj := neAll_of hqj
  (first | refine au ?_ | exact au0)
  refine bsplit_dec (fun c => ?_) (fun c => ?_)
  · have hil : k < a.length := by omega
    have hge := row_get (f := fun o : Opd => [AV.int .i64 o.k, .str o.t, .bool o.neg, .int .u64 (o.num : Nat)]) hil
    have hyk := hy k hil Hq hqi hqj hqJ
    have hop := fun H => plan_operand_spec l hl t a[k] (hat _ (List.getElem_mem hil)) H
    generalize a[k] = o at *
    generalize whatO l t o = w at *
    (first | refine au ?_ | exact au0)
    rw [hge]
    (first | refine au ?_ | exact au0)
    intro id5 hid5 ht5; have n5 := neAll_of hid5; (try simp only [neAll, neAll_hset] at n5); have m5 := n5; (repeat (obtain ⟨_, m5⟩ := m5))
    clear hid5
    (first | refine au ?_ | exact au0)
    first | refine callF_eq (hop _) ?_ | refine callG_eq rfl (hop _) ?_
    (first | refine au ?_ | exact au0)
    intro id6 hid6 ht6; have n6 := neAll_of hid6; (try simp only [neAll, neAll_hset] at n6); have m6 := n6; (repeat (obtain ⟨_, m6⟩ := m6))
    clear hid6
    (first | refine au ?_ | exact au0)
    refine yldF_of hyk (by exact sub_of) (fun r Hs' q => ⟨Hs', fun j b' hb => .inl hb, ?_⟩)
    obtain ⟨H2, rfl, ⟨rfl, q1, q2, q3⟩ | ⟨rfl, hx⟩⟩ := q
    · have hn1 := neAll_of q1
      have hn2 := neAll_of q2
      (first | refine au ?_ | exact au0)
      exact nextS (S := Nat × AH) (k + 1, H2) (by exact cov_of) (by dsimp only; exact sub_of) (by dsimp only; omega) ⟨by dsimp only; omega, q1, q2, q3⟩
    · (first | refine au ?_ | exact au0)
      exact ⟨_, rfl, .inr hx⟩
  · (first | refine au ?_ | exact au0)
    have : k = a.length := by omega
    subst this
    exact ⟨_, rfl, .inl hqJ⟩
theorem formB_1 {op rel : Int} {na nk : Nat} (h : formB op rel na nk = true) (c : op = 1) : na = 2 ∧ nk = 0 ∧ 1 ≤ rel ∧ rel ≤ 6 := by
  unfold formB at h; rw [if_pos c] at h; exact of_decide_eq_true h
theorem formB_2 {op rel : Int} {na nk : Nat} (h : formB op rel na nk = true) (c : op = 2) : na = 3 ∧ nk = 0 := by
  unfold formB at h; rw [if_neg (by omega), if_neg (by omega), if_pos c] at h; exact of_decide_eq_true h
theorem formB_3 {op rel : Int} {na nk : Nat} (h : formB op rel na nk = true) (c : op = 3) : na = 2 ∧ nk = 0 := by
  unfold formB at h; rw [if_neg (by omega), if_pos c] at h; exact of_decide_eq_true h
theorem len2 {α : Type} {l : List α} (h : l.length = 2) : ∃ a b, l = [a, b] := by
  match l, h with
  | [a, b], _ => exact ⟨a, b, rfl⟩
theorem len3 {α : Type} {l : List α} (h : l.length = 3) : ∃ a b c, l = [a, b, c] := by
  match l, h with
  | [a, b, c], _ => exact ⟨a, b, c, rfl⟩
theorem AYields.sub {P : Program} {id : Nat} {args : List AV} {H : AH} {K : AV → AH → Prop} (h : AYields P id args H fun r H' => ∃ q Hc, r = .bool q ∧ Sub Hc H' ∧ K (.bool q) Hc) : AYields P id args H K :=
  h.freeze fun r H' ⟨q, Hc, e, hs, hk⟩ => ⟨.bool q, Hc, hs, by subst e; exact Fz.refl _, hk⟩
abbrev tb (l : List Ty) (t : Int) (x : Ex) (id4 id3 id2 : Nat) (e : Int) : AH := [(id4, .rows 1 [[.int .i64 e]]), (id3, .rows 4 [exR x]), (id2, .rows 2 [[tysA l, .int .i64 t]])]
set_option maxHeartbeats 4000000 in
theorem tests_spec0 (l : List Ty) (hl : TysOk l) (t : Int) (op rel : Int) (a : List Opd) (ks : List Ex) (hat : ∀ o ∈ a, o.t.length ≤ 1000000) (hf : formB op rel a.length ks.length = true) : ACalls PG check_plan_tests.n [plA l t, exA (.mk op rel a ks)] [] fun r _ => r = .int .i64 (testE l t op rel a) := by
  refine ACalls.fzK (check_plan_tests.of rfl (wpF_start ?_))
  unfold testE
  (first | refine au ?_ | exact au0)
  intro id2 hid2 ht2; have n2 := neAll_of hid2; (try simp only [neAll, neAll_hset] at n2); have m2 := n2; (repeat (obtain ⟨_, m2⟩ := m2))
  (first | refine au ?_ | exact au0)
  intro id3 hid3 ht3; have n3 := neAll_of hid3; (try simp only [neAll, neAll_hset] at n3); have m3 := n3; (repeat (obtain ⟨_, m3⟩ := m3))
  (first | refine au ?_ | exact au0)
  intro id4 hid4 ht4; have n4 := neAll_of hid4; (try simp only [neAll, neAll_hset] at n4); have m4 := n4; (repeat (obtain ⟨_, m4⟩ := m4))
  (first | refine au ?_ | exact au0)
  by_cases c1 : op = 1
  · rw [if_pos c1]
    obtain ⟨o0, o1, rfl⟩ := len2 (formB_1 hf c1).1
    have ht := fun H => plan_together_spec l hl t o0 o1 (hat _ (by simp)) (hat _ (by simp)) rel H
    simp only [List.getD_cons_zero, List.getD_cons_succ]
    (first | refine au ?_ | exact au0)
    first | refine callF_eq (ht _) ?_ | refine callG_eq rfl (ht _) ?_
    (first | refine au ?_ | exact au0)
    exact fz_of
  rw [if_neg c1]
  by_cases c2 : op = 2
  · rw [if_pos c2]
    obtain ⟨o0, o1, o2, rfl⟩ := len3 (formB_2 hf c2).1
    have ht := fun H => plan_together_spec l hl t o0 o1 (hat _ (by simp)) (hat _ (by simp)) 4 H
    have ht2 := fun H => plan_together_spec l hl t o0 o2 (hat _ (by simp)) (hat _ (by simp)) 4 H
    simp only [List.getD_cons_zero, List.getD_cons_succ]
    (first | refine au ?_ | exact au0)
    first | refine callF_eq (ht _) ?_ | refine callG_eq rfl (ht _) ?_
    (first | refine au ?_ | exact au0)
    refine bsplit_dec (fun c => ?_) (fun c => ?_)
    · rw [if_pos c]
      (first | refine au ?_ | exact au0)
      exact fz_of
    · rw [if_neg c]
      (first | refine au ?_ | exact au0)
      first | refine callF_eq (ht2 _) ?_ | refine callG_eq rfl (ht2 _) ?_
      (first | refine au ?_ | exact au0)
      exact fz_of
  rw [if_neg c2]
  by_cases c3 : op = 3
  · rw [if_pos c3]
    have hal : a.length = 2 := (formB_3 hf c3).1
    (first | refine au ?_ | exact au0)
    refine callF_of ((operands_spec l t (.mk op rel a ks) _).mono fun r H1 ⟨i, j, e1, hi, hj, hij, e2⟩ => ?_)
    subst e1; subst e2
    (first | refine au ?_ | exact au0)
    clear hid2 hid3 hid4
    have ni := neAll_of hi
    have nj := neAll_of hj
    simp only [neAll] at ni nj
    obtain ⟨ni1, ni2, ni3, _⟩ := ni
    obtain ⟨nj1, nj2, nj3, _⟩ := nj
    refine ⟨fun xa xb fl N lid ha hb hd hli => ?_⟩
    have nl := neAll_of hli
    simp only [neAll] at nl
    obtain ⟨nl1, nl2, nl3, nl4, nl5, _⟩ := nl
    clear n2 n3 n4 hi hj
    generalize hfr : frm _ = fr
    have hround : RoundO lid i j (.rows 2 [[tysA l, .int .i64 t]]) (.rows 4 [exR (.mk op rel a ks)]) l t a (fun k H => H = (lid, .loop ⟨[55, 56], xa, xb, N, fr, .ready⟩) :: tb l t (.mk op rel a ks) id4 id3 id2 0 ∧ ∀ m (h : m < a.length), m < k → (whatO l t a[m]).1.1 = 2)
        (fun H => H = (lid, .loop ⟨[55, 56], xa, xb, N, fr, .done .ret⟩) :: tb l t (.mk op rel a ks) id4 id3 id2 8 ∧ a.all (fun o => decide ((whatO l t o).1.1 = 2)) = false) := by
      intro k hk H hHi hHj ⟨e, hok⟩
      subst e
      clear hHi hHj hli
      have hop := fun H => plan_operand_spec l hl t a[k] (hat _ (List.getElem_mem hk)) H
      obtain ⟨⟨⟨wk, wo⟩, we⟩, hW⟩ : ∃ W, whatO l t a[k] = W := ⟨_, rfl⟩
      rw [hW] at hop ⊢
      refine AYields.sub ?_
      refine of_bodyG mixed ha hb hfr hd rfl rfl rfl (by exact hg_of) ?_
      generalize ho : a[k] = o at hop ⊢
      (first | refine au ?_ | exact au0)
      intro id6 hid6 ht6; have n6 := neAll_of hid6; (try simp only [neAll, neAll_hset] at n6); have m6 := n6; (repeat (obtain ⟨_, m6⟩ := m6))
      clear hid6
      (first | refine au ?_ | exact au0)
      refine ⟨by exact hg_of, ?_⟩
      (first | refine au ?_ | exact au0)
      first | refine callF_eq (hop _) ?_ | refine callG_eq rfl (hop _) ?_
      (first | refine au ?_ | exact au0)
      intro id7 hid7 ht7; have n7 := neAll_of hid7; (try simp only [neAll, neAll_hset] at n7); have m7 := n7; (repeat (obtain ⟨_, m7⟩ := m7))
      clear hid7
      (first | refine au ?_ | exact au0)
      refine bsplit_dec (fun c => ?_) (fun c => ?_)
      · (first | refine au ?_ | exact au0)
        refine ⟨by exact hg_of, ?_⟩
        (first | refine au ?_ | exact au0)
        refine ⟨false, (j, .rows 4 [exR (.mk op rel a ks)]) :: (i, .rows 2 [[tysA l, .int .i64 t]]) :: (lid, .loop ⟨[55, 56], xa, xb, N, fr, .done .ret⟩) :: tb l t (.mk op rel a ks) id4 id3 id2 8, rfl, sub_of, _, rfl, .inr ⟨rfl, rfl, ?_⟩⟩
        rw [← Bool.not_eq_true]
        intro q
        have := List.all_eq_true.1 q _ (List.getElem_mem hk)
        rw [hW] at this
        exact c (of_decide_eq_true this)
      · (first | refine au ?_ | exact au0)
        refine ⟨by exact hg_of, ?_⟩
        (first | refine au ?_ | exact au0)
        refine ⟨true, (j, .rows 4 [exR (.mk op rel a ks)]) :: (i, .rows 2 [[tysA l, .int .i64 t]]) :: (lid, .loop ⟨[55, 56], xa, xb, N, fr, .ready⟩) :: tb l t (.mk op rel a ks) id4 id3 id2 0, rfl, sub_of, _, rfl, .inl ⟨rfl, ?_, ?_, rfl, fun m h q => ?_⟩⟩
        · exact hget_none ⟨nl2.symm, ni1, ni2, ni3, trivial⟩
        · exact hget_none ⟨nl1.symm, nj1, nj2, nj3, trivial⟩
        · by_cases e : m < k
          · exact hok m h e
          · have : m = k := by omega
            subst this
            rw [hW]; exact Classical.not_not.1 c
    refine ((operands_iter l hl t op rel a ks (by omega) hat lid i j hij _ _ hround ((lid, .loop ⟨[55, 56], xa, xb, N, fr, .ready⟩) :: tb l t (.mk op rel a ks) id4 id3 id2 0) (hget_none ⟨nl2.symm, ni1, ni2, ni3, trivial⟩) (hget_none ⟨nl1.symm, nj1, nj2, nj3, trivial⟩) ⟨rfl, fun m h q => by omega⟩).perm ?_ ?_).mono fun r H' ⟨H2, e, hio⟩ => ?_
    · (repeat (refine Sub.of_cons ?_ ?_; (next => (repeat (first | ((with_reducible refine Eq.trans hget_self ?_); exact rfl) | with_reducible refine (hget_tail (by first | with_reducible assumption | (apply Ne.symm; with_reducible assumption))).trans ?_ | with_reducible refine (hget_set_ne (by first | with_reducible assumption | (apply Ne.symm; with_reducible assumption))).trans ?_ | with_reducible refine (hget_del_ne (by first | with_reducible assumption | (apply Ne.symm; with_reducible assumption))).trans ?_ | ((with_reducible refine Eq.trans (hget_set ?_) ?_); rotate_left; exact rfl))))))
      exact Sub.nil _
    · (repeat (refine Sub.of_cons ?_ ?_; (next => (repeat (first | ((with_reducible refine Eq.trans hget_self ?_); exact rfl) | with_reducible refine (hget_tail (by first | with_reducible assumption | (apply Ne.symm; with_reducible assumption))).trans ?_ | with_reducible refine (hget_set_ne (by first | with_reducible assumption | (apply Ne.symm; with_reducible assumption))).trans ?_ | with_reducible refine (hget_del_ne (by first | with_reducible assumption | (apply Ne.symm; with_reducible assumption))).trans ?_ | ((with_reducible refine Eq.trans (hget_set ?_) ?_); rotate_left; exact rfl))))))
      exact Sub.nil _
    subst e
    rcases hio with ⟨rfl, hok⟩ | ⟨rfl, hno⟩
    · refine ⟨.ready, (j, .rows 4 [exR (.mk op rel a ks)]) :: (i, .rows 2 [[tysA l, .int .i64 t]]) :: tb l t (.mk op rel a ks) id4 id3 id2 0, ?_, ?_, ?_⟩
      · exact sub_of
      · exact hg_of
      rw [if_pos (List.all_eq_true.2 fun o ho => by obtain ⟨m, hm, rfl⟩ := List.getElem_of_mem ho; exact decide_eq_true (hok m hm hm))]
      (first | refine au ?_ | exact au0)
      exact fz_of
    · refine ⟨.done .ret, (j, .rows 4 [exR (.mk op rel a ks)]) :: (i, .rows 2 [[tysA l, .int .i64 t]]) :: tb l t (.mk op rel a ks) id4 id3 id2 8, ?_, ?_, ?_⟩
      · exact sub_of
      · exact hg_of
      rw [hno, if_neg (by decide)]
      (first | refine au ?_ | exact au0)
      exact fz_of
  rw [if_neg c3]
  (first | refine au ?_ | exact au0)
  exact fz_of
end Go.Proofs.YtjaigpidmngaaaaGreat
