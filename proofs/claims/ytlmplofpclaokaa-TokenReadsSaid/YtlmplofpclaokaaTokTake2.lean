/- How a sign and a parameter are taken. -/
import Derived.Test.YtlmplofpclaokaaTokTake
namespace Go.Proofs.Ytlmplofpclaokaa
set_option autoImplicit false
set_option linter.unusedSimpArgs false
set_option linter.unusedVariables false
attribute [local irreducible] callA callP ACalls

theorem pre2 (s p : List UInt8) (h : p.length = 2) : (decide (p.length ≤ s.length) && decide (s.take p.length = p)) = decide (s.take 2 = p) := by
  rw [h]
  by_cases e : s.take 2 = p
  · have := congrArg List.length e
    rw [List.length_take, h] at this
    simp [e]; omega
  · simp [e]
theorem token_sign_spec {s : List UInt8} {at' id : Nat} {H : AH} (hg : hget H id = some (lx s at')) (ha : at' < s.length) (hs : s.length ≤ 140737488351232) :
    ACalls PG token_sign.n [.ptr id 2 0 0] H (TkK s at' id H (.tok 5 ((s.drop at').take (if two (s.drop at') then 2 else 1)) 0 (if two (s.drop at') then 2 else 1))) := by
  have hdl : (s.drop at').length = s.length - at' := List.length_drop
  refine token_sign.of rfl (wpF_start ?_)
  (first | refine au ?_ | exact au0 | fail)
  intro id2 hid2 ht2
  (first | refine au ?_ | exact au0 | fail)
  intro id3 hid3 ht3
  have tw := Two.mk' hg hid2 hid3
  generalize ((id3, Blk.rows [AV.int .i64 0, AV.int .i64 0].length [[AV.int .i64 0, AV.int .i64 0]]) :: (id2, Blk.rows [AV.int .i64 0, AV.str [], AV.int .u64 0, AV.int .i64 0].length [[AV.int .i64 0, AV.str [], AV.int .u64 0, AV.int .i64 0]]) :: H) = H1 at *
  have hg1 := tw.keep _ _ hg
  have hg1' : hget H1 id = some (.rows 2 [[.str s, .int .i64 (at' : Nat)]]) := hg1
  have n2 := tw.n2
  have n3 := tw.n3
  have n32 := tw.n32
  have g2 : hget H1 id2 = some (.rows 4 [[.int .i64 0, .str [], .int .u64 0, .int .i64 0]]) := tw.g2
  have g3 : hget H1 id3 = some (.rows 2 [[.int .i64 0, .int .i64 0]]) := tw.g3
  (first | refine au ?_ | exact au0 | fail)
  refine ⟨fun n L H' => ∃ i : Nat, n = 3 - i ∧ i ≤ 3 ∧ L = [(0, some (.ptr id 2 0 0)), (2, some (.ptr id2 4 0 0)), (3, some (.ptr id3 2 0 0)), (6, some (.rows 1 [[.str [60, 62]], [.str [60, 61]], [.str [62, 61]]])), (7, some (.int .i64 3)), (8, some (.int .i64 i))] ∧ H' = H1 ∧
    (0 < i → (s.drop at').take 2 ≠ [60, 62]) ∧ (1 < i → (s.drop at').take 2 ≠ [60, 61]) ∧ (2 < i → (s.drop at').take 2 ≠ [62, 61]), ⟨_, H1, ?_, Sub.refl _, _, 0, rfl, Nat.zero_le _, rfl, rfl, (fun h => by omega), (fun h => by omega), (fun h => by omega)⟩, ?_⟩
  · exact (by repeat (first | exact trivial | refine And.intro (Exists.intro _ (And.intro rfl (Fz.refl _))) ?_))
  · rintro n L H' ⟨i, rfl, hi, rfl, rfl, w1, w2, w3⟩
    rcases (show i = 0 ∨ i = 1 ∨ i = 2 ∨ i = 3 from by omega) with rfl | rfl | rfl | rfl
    · (first | refine au ?_ | exact au0 | fail)
      refine callF_eq (lexer_rest_spec hg1 (by omega) hs) ?_
      (first | refine au ?_ | exact au0 | fail)
      refine callF_eq (strings_HasPrefix_spec _ _ _) ?_
      (first | refine au ?_ | exact au0 | fail)
      rw [pre2 _ [60, 62] rfl]
      refine bsplit_dec (fun e => ?_) (fun e => ?_)
      · have l2 := (congrArg List.length e).symm
        rw [List.length_take, hdl] at l2
        simp only [List.length_cons, List.length_nil] at l2
        (first | refine au ?_ | exact au0 | fail)
        refine callF_to (lexer_cut_spec (n := 2) hg1 (by omega) hs) ?_
        (first | refine au ?_ | exact au0 | fail)
        rw [show two (s.drop at') = true from by simp [two, e], if_pos rfl]
        refine TkK.of_tok rfl ?_ (fun j b q r => ?_)
        · exact hg_of
        · obtain ⟨q2, q3⟩ := tw.new j b r
          have := tw.keep j b r
          exact hg_of
      · (first | refine au ?_ | exact au0 | fail)
        refine ⟨[(0, some (.ptr id 2 0 0)), (2, some (.ptr id2 4 0 0)), (3, some (.ptr id3 2 0 0)), (6, some (.rows 1 [[.str [60, 62]], [.str [60, 61]], [.str [62, 61]]])), (7, some (.int .i64 3)), (8, some (.int .i64 (1 : Nat)))], H', (by repeat (first | exact trivial | refine And.intro (Exists.intro _ (And.intro rfl (Fz.refl _))) ?_)), Sub.refl _, _, ?_, 1, rfl, by omega, rfl, rfl, (fun _ => e), (fun h => by omega), (fun h => by omega)⟩
        omega
    · (first | refine au ?_ | exact au0 | fail)
      refine callF_eq (lexer_rest_spec hg1 (by omega) hs) ?_
      (first | refine au ?_ | exact au0 | fail)
      refine callF_eq (strings_HasPrefix_spec _ _ _) ?_
      (first | refine au ?_ | exact au0 | fail)
      rw [pre2 _ [60, 61] rfl]
      refine bsplit_dec (fun e => ?_) (fun e => ?_)
      · have l2 := (congrArg List.length e).symm
        rw [List.length_take, hdl] at l2
        simp only [List.length_cons, List.length_nil] at l2
        (first | refine au ?_ | exact au0 | fail)
        refine callF_to (lexer_cut_spec (n := 2) hg1 (by omega) hs) ?_
        (first | refine au ?_ | exact au0 | fail)
        rw [show two (s.drop at') = true from by simp [two, e], if_pos rfl]
        refine TkK.of_tok rfl ?_ (fun j b q r => ?_)
        · exact hg_of
        · obtain ⟨q2, q3⟩ := tw.new j b r
          have := tw.keep j b r
          exact hg_of
      · (first | refine au ?_ | exact au0 | fail)
        refine ⟨[(0, some (.ptr id 2 0 0)), (2, some (.ptr id2 4 0 0)), (3, some (.ptr id3 2 0 0)), (6, some (.rows 1 [[.str [60, 62]], [.str [60, 61]], [.str [62, 61]]])), (7, some (.int .i64 3)), (8, some (.int .i64 (2 : Nat)))], H', (by repeat (first | exact trivial | refine And.intro (Exists.intro _ (And.intro rfl (Fz.refl _))) ?_)), Sub.refl _, _, ?_, 2, rfl, by omega, rfl, rfl, (fun _ => w1 (by omega)), (fun _ => e), (fun h => by omega)⟩
        omega
    · (first | refine au ?_ | exact au0 | fail)
      refine callF_eq (lexer_rest_spec hg1 (by omega) hs) ?_
      (first | refine au ?_ | exact au0 | fail)
      refine callF_eq (strings_HasPrefix_spec _ _ _) ?_
      (first | refine au ?_ | exact au0 | fail)
      rw [pre2 _ [62, 61] rfl]
      refine bsplit_dec (fun e => ?_) (fun e => ?_)
      · have l2 := (congrArg List.length e).symm
        rw [List.length_take, hdl] at l2
        simp only [List.length_cons, List.length_nil] at l2
        (first | refine au ?_ | exact au0 | fail)
        refine callF_to (lexer_cut_spec (n := 2) hg1 (by omega) hs) ?_
        (first | refine au ?_ | exact au0 | fail)
        rw [show two (s.drop at') = true from by simp [two, e], if_pos rfl]
        refine TkK.of_tok rfl ?_ (fun j b q r => ?_)
        · exact hg_of
        · obtain ⟨q2, q3⟩ := tw.new j b r
          have := tw.keep j b r
          exact hg_of
      · (first | refine au ?_ | exact au0 | fail)
        refine ⟨[(0, some (.ptr id 2 0 0)), (2, some (.ptr id2 4 0 0)), (3, some (.ptr id3 2 0 0)), (6, some (.rows 1 [[.str [60, 62]], [.str [60, 61]], [.str [62, 61]]])), (7, some (.int .i64 3)), (8, some (.int .i64 (3 : Nat)))], H', (by repeat (first | exact trivial | refine And.intro (Exists.intro _ (And.intro rfl (Fz.refl _))) ?_)), Sub.refl _, _, ?_, 3, rfl, by omega, rfl, rfl, (fun _ => w1 (by omega)), (fun _ => w2 (by omega)), (fun _ => e)⟩
        omega
    · (first | refine au ?_ | exact au0 | fail)
      refine callF_to (lexer_cut_spec (n := 1) hg1 (by omega) hs) ?_
      (first | refine au ?_ | exact au0 | fail)
      rw [show two (s.drop at') = false from by simp [two, w1 (by omega), w2 (by omega), w3 (by omega)], if_neg (by decide)]
      refine TkK.of_tok rfl ?_ (fun j b q r => ?_)
      · exact hg_of
      · obtain ⟨q2, q3⟩ := tw.new j b r
        have := tw.keep j b r
        exact hg_of
theorem token_param_spec {s : List UInt8} {at' id : Nat} {H : AH} (hg : hget H id = some (lx s at')) (ha : at' < s.length) (hs : s.length ≤ 140737488351232) :
    ACalls PG token_param.n [.ptr id 2 0 0] H (TkK s at' id H (if 2 ≤ (s.drop at').length ∧ dig ((s.drop at').getD 1 0) = true then .tok 4 ((s.drop at').take 2) (((s.drop at').getD 1 0).toNat - 48) 2 else .bad 11 0)) := by
  have hdl : (s.drop at').length = s.length - at' := List.length_drop
  refine token_param.of rfl (wpF_start ?_)
  (first | refine au ?_ | exact au0 | fail)
  intro id2 hid2 ht2
  (first | refine au ?_ | exact au0 | fail)
  intro id3 hid3 ht3
  have tw := Two.mk' hg hid2 hid3
  generalize ((id3, Blk.rows [AV.int .i64 0, AV.int .i64 0].length [[AV.int .i64 0, AV.int .i64 0]]) :: (id2, Blk.rows [AV.int .i64 0, AV.str [], AV.int .u64 0, AV.int .i64 0].length [[AV.int .i64 0, AV.str [], AV.int .u64 0, AV.int .i64 0]]) :: H) = H1 at *
  have hg1 := tw.keep _ _ hg
  have hg1' : hget H1 id = some (.rows 2 [[.str s, .int .i64 (at' : Nat)]]) := hg1
  have n2 := tw.n2
  have n3 := tw.n3
  have n32 := tw.n32
  have g2 : hget H1 id2 = some (.rows 4 [[.int .i64 0, .str [], .int .u64 0, .int .i64 0]]) := tw.g2
  have g3 : hget H1 id3 = some (.rows 2 [[.int .i64 0, .int .i64 0]]) := tw.g3
  (first | refine au ?_ | exact au0 | fail)
  refine callF_eq (lexer_rest_spec hg1 (by omega) hs) ?_
  (first | refine au ?_ | exact au0 | fail)
  refine bsplit_dec (fun e => ?_) (fun e => ?_)
  · (first | refine au ?_ | exact au0 | fail)
    rw [if_neg (fun h => by have := h.1; omega)]
    refine TkK.of_bad rfl (fun j b q r => ?_)
    obtain ⟨q2, q3⟩ := tw.new j b r
    have := tw.keep j b r
    exact hg_of
  · (first | refine au ?_ | exact au0 | fail)
    refine callF_eq (lexer_rest_spec hg1 (by omega) hs) ?_
    (first | refine au ?_ | exact au0 | fail)
    refine callF_eq (token_digit_spec _ _) ?_
    (first | refine au ?_ | exact au0 | fail)
    refine bsplit_intro (fun h => ?_) (fun h => ?_)
    · (first | refine au ?_ | exact au0 | fail)
      refine callF_to (lexer_cut_spec (n := 2) hg1 (by omega) hs) ?_
      (first | refine au ?_ | exact au0 | fail)
      intro id4 hid4 ht4
      have f4 : id4 ≠ id := hget_ne_of hid4 (hget_set hg1)
      have f42 : id4 ≠ id2 := hget_ne_of hid4 ((hget_set_ne n2).trans g2)
      have f43 : id4 ≠ id3 := hget_ne_of hid4 ((hget_set_ne n3).trans g3)
      have htk : ((s.drop at').take 2).length = 2 := by rw [List.length_take]; omega
      have hgd : ((s.drop at').take 2).getD (Int.toNat 1) 0 = (s.drop at').getD (Int.toNat 1) 0 := by simp [List.getElem?_take]
      have hdg := (dig_iff _).1 h
      have hpos : 2 ≤ (List.drop at' s).length ∧ dig ((List.drop at' s).getD 1 0) = true := ⟨by omega, h⟩
      (first | refine au ?_ | exact au0 | fail)
      rw [hgd]
      (first | refine au ?_ | exact au0 | fail)
      rw [if_pos hpos]
      have hsub : (((((List.drop at' s).getD 1 0).toNat - 48 : Nat)) : Int) = (((List.drop at' s).getD 1 0).toNat : Int) - 48 := by
        have : 48 ≤ ((List.drop at' s).getD 1 0).toNat := hdg.1
        omega
      refine TkK.of_tok (by unfold tokA; rw [hsub]; rfl) ?_ (fun j b q r => ?_)
      · exact hg_of
      · obtain ⟨q2, q3⟩ := tw.new j b r
        have q4 : j ≠ id4 := (hget_ne_of hid4 ((hget_set_ne q).trans (tw.keep j b r))).symm
        have := tw.keep j b r
        exact hg_of
    · (first | refine au ?_ | exact au0 | fail)
      rw [if_neg (fun e2 => by have := e2.2; simp_all)]
      refine TkK.of_bad rfl (fun j b q r => ?_)
      obtain ⟨q2, q3⟩ := tw.new j b r
      have := tw.keep j b r
      exact hg_of

theorem numV_snoc (l : List UInt8) (c : UInt8) : numV (l ++ [c]) = 10 * numV l + (c.toNat - 48) := by simp [numV]
theorem numV_ge : ∀ (l : List UInt8) (a : Nat), a ≤ l.foldl (fun a c => 10 * a + (c.toNat - 48)) a
  | [], a => Nat.le_refl _
  | c :: l, a => Nat.le_trans (by omega) (numV_ge l (10 * a + (c.toNat - 48)))
theorem numV_mono (r : List UInt8) {i n : Nat} (h : i ≤ n) : numV (r.take i) ≤ numV (r.take n) := by
  rw [← List.take_append_drop i (r.take n), List.take_take, Nat.min_eq_left h]
  unfold numV
  rw [List.foldl_append]
  exact numV_ge _ _
theorem lx_at {s : List UInt8} {at' i : Nat} (h : i < (s.drop at').length) : (s.drop at').getD i 0 = s.getD (at' + i) 0 := by
  simp [List.getD, List.getElem?_drop]
theorem token_number_spec {s : List UInt8} {at' id : Nat} {H : AH} (hg : hget H id = some (lx s at')) (ha : at' < s.length) (hd : dig ((s.drop at').getD 0 0) = true) (hs : s.length ≤ 140737488351232) :
    ACalls PG token_number.n [.ptr id 2 0 0] H (TkK s at' id H (
      if 1 < dl (s.drop at') ∧ (s.drop at').getD 0 0 = 48 then .bad 1 0
      else if numV ((s.drop at').take (dl (s.drop at'))) < 18446744073709551616 then .tok 2 ((s.drop at').take (dl (s.drop at'))) (numV ((s.drop at').take (dl (s.drop at')))) (dl (s.drop at'))
      else .bad 7 0)) := by
  have hdl : (s.drop at').length = s.length - at' := List.length_drop
  generalize hr : s.drop at' = r at *
  have hle := dl_le r
  have h1l : 0 < dl r := (dl_step (n := 0) (Nat.zero_le _) (by omega)).2 hd
  refine token_number.of rfl (wpF_start ?_)
  (first | refine au ?_ | exact au0 | fail)
  intro id2 hid2 ht2
  (first | refine au ?_ | exact au0 | fail)
  intro id3 hid3 ht3
  have tw := Two.mk' hg hid2 hid3
  generalize ((id3, Blk.rows [AV.int .i64 0, AV.int .i64 0].length [[AV.int .i64 0, AV.int .i64 0]]) :: (id2, Blk.rows [AV.int .i64 0, AV.str [], AV.int .u64 0, AV.int .i64 0].length [[AV.int .i64 0, AV.str [], AV.int .u64 0, AV.int .i64 0]]) :: H) = H1 at *
  have hg1 := tw.keep _ _ hg
  have hg1' : hget H1 id = some (.rows 2 [[.str s, .int .i64 (at' : Nat)]]) := hg1
  have n2 := tw.n2
  have n3 := tw.n3
  have n32 := tw.n32
  have g2 : hget H1 id2 = some (.rows 4 [[.int .i64 0, .str [], .int .u64 0, .int .i64 0]]) := tw.g2
  have g3 : hget H1 id3 = some (.rows 2 [[.int .i64 0, .int .i64 0]]) := tw.g3
  (first | refine ab ?_ | exact ab0 | fail)
  refine .inr ⟨[(0, some (.ptr id 2 0 0)), (2, some (.ptr id2 4 0 0)), (3, some (.ptr id3 2 0 0)), (4, some (.int .i64 (dl r : Nat)))], H1, ?_, ?_⟩
  · (first | refine au ?_ | exact au0 | fail)
    refine ⟨fun n L H' => ∃ i : Nat, n = r.length - i ∧ i ≤ dl r ∧ L = [(0, some (.ptr id 2 0 0)), (2, some (.ptr id2 4 0 0)), (3, some (.ptr id3 2 0 0)), (4, some (.int .i64 i))] ∧ H' = H1, ⟨_, H1, ?_, Sub.refl _, _, 0, rfl, Nat.zero_le _, rfl, rfl⟩, ?_⟩
    · exact (by repeat (first | exact trivial | refine And.intro (Exists.intro _ (And.intro rfl (Fz.refl _))) ?_))
    · rintro n L H' ⟨i, rfl, hi, rfl, rfl⟩
      (first | refine au ?_ | exact au0 | fail)
      refine callF_eq (lexer_rest_spec hg1 (by omega) hs) ?_
      rw [hr]
      (first | refine au ?_ | exact au0 | fail)
      refine bsplit_dec (fun h1 => ?_) (fun h1 => ?_)
      · have hst := dl_step hi (by omega)
        (first | refine au ?_ | exact au0 | fail)
        refine callF_eq (lexer_rest_spec hg1 (by omega) hs) ?_
        rw [hr]
        (first | refine au ?_ | exact au0 | fail)
        refine callF_eq (token_digit_spec _ _) ?_
        rw [show dig (r.getD (i : Int).toNat 0) = decide (i < dl r) from bool_iff hst.symm]
        (first | refine au ?_ | exact au0 | fail)
        refine bsplit_dec (fun h2 => ?_) (fun h2 => ?_)
        · (first | refine au ?_ | exact au0 | fail)
          refine ⟨[(0, some (.ptr id 2 0 0)), (2, some (.ptr id2 4 0 0)), (3, some (.ptr id3 2 0 0)), (4, some (.int .i64 (i + 1 : Nat)))], H', (by repeat (first | exact trivial | refine And.intro (Exists.intro _ (And.intro rfl (Fz.refl _))) ?_)), Sub.refl _, _, ?_, i + 1, rfl, by omega, rfl, rfl⟩
          omega
        · (first | refine au ?_ | exact au0 | fail)
          obtain rfl : i = dl r := by omega
          exact ⟨(by repeat (first | exact trivial | refine And.intro (Exists.intro _ (And.intro rfl (Fz.refl _))) ?_)), Sub.refl _⟩
      · (first | refine au ?_ | exact au0 | fail)
        obtain rfl : i = dl r := by omega
        exact ⟨(by repeat (first | exact trivial | refine And.intro (Exists.intro _ (And.intro rfl (Fz.refl _))) ?_)), Sub.refl _⟩
  · (first | refine au ?_ | exact au0 | fail)
    refine callF_to (lexer_cut_spec (n := dl r) hg1 (by omega) hs) ?_
    (first | refine au ?_ | exact au0 | fail)
    intro id5 hid5 ht5
    have f5 : id5 ≠ id := hget_ne_of hid5 (hget_set hg1)
    have f52 : id5 ≠ id2 := hget_ne_of hid5 ((hget_set_ne n2).trans g2)
    have f53 : id5 ≠ id3 := hget_ne_of hid5 ((hget_set_ne n3).trans g3)
    rw [hr]
    have i3 : hget (hset H1 id (lx s (at' + dl r))) id = some (lx s (at' + dl r)) := hget_set hg1
    have i32 : hget (hset H1 id (lx s (at' + dl r))) id2 = some (.rows 4 [[.int .i64 0, .str [], .int .u64 0, .int .i64 0]]) := (hget_set_ne n2).trans g2
    have i33 : hget (hset H1 id (lx s (at' + dl r))) id3 = some (.rows 2 [[.int .i64 0, .int .i64 0]]) := (hget_set_ne n3).trans g3
    have kp : ∀ j b, j ≠ id → hget H j = some b → hget (hset H1 id (lx s (at' + dl r))) j = some b ∧ j ≠ id2 ∧ j ≠ id3 ∧ j ≠ id5 := fun j b q r =>
      have q5 := (hget_set_ne q).trans (tw.keep j b r)
      ⟨q5, (tw.new j b r).1, (tw.new j b r).2, (hget_ne_of hid5 q5).symm⟩
    generalize hset H1 id (lx s (at' + dl r)) = H3 at *
    have htl : (r.take (dl r)).length = dl r := by rw [List.length_take]; omega
    have ht0 : (r.take (dl r)).getD (Int.toNat 0) 0 = r.getD 0 0 := by simp [List.getElem?_take, h1l]
    by_cases hz : 1 < dl r ∧ r.getD 0 0 = 48
    · have hz1 := hz.1
      rw [if_pos hz]
      (first | refine au ?_ | exact au0 | fail)
      rw [ht0, hz.2]
      (first | refine au ?_ | exact au0 | fail)
      refine TkK.of_bad rfl (fun j b q r => ?_)
      obtain ⟨q0, q2, q3, q5⟩ := kp j b q r
      exact hg_of
    · rw [if_neg hz]
      (first | refine ab ?_ | exact ab0 | fail)
      refine .inr ⟨[(0, some (.ptr id 2 0 0)), (2, some (.ptr id2 4 0 0)), (3, some (.ptr id3 2 0 0)), (4, some (.int .i64 (dl r : Nat))), (5, some (.ptr id5 4 0 0))], (id5, tkB 2 (r.take (dl r)) 0 at') :: H3, ?_, ?_⟩
      · (first | refine au ?_ | exact au0 | fail)
        refine bsplit_dec (fun e1 => ?_) (fun e1 => ?_)
        · (first | refine au ?_ | exact au0 | fail)
          rw [ht0]
          refine bsplit_dec (fun e2 => ?_) (fun e2 => ?_)
          · exact absurd ⟨by omega, (u8lit _ 48 (by decide)).1 e2⟩ hz
          · (first | refine au ?_ | exact au0 | fail)
            exact ⟨(by repeat (first | exact trivial | refine And.intro (Exists.intro _ (And.intro rfl (Fz.refl _))) ?_)), Sub.refl _⟩
        · (first | refine au ?_ | exact au0 | fail)
          exact ⟨(by repeat (first | exact trivial | refine And.intro (Exists.intro _ (And.intro rfl (Fz.refl _))) ?_)), Sub.refl _⟩
      · (first | refine au ?_ | exact au0 | fail)
        refine ⟨fun n L H' => ∃ i : Nat, n = dl r - i ∧ i ≤ dl r ∧ numV (r.take i) < 18446744073709551616 ∧ L = [(0, some (.ptr id 2 0 0)), (2, some (.ptr id2 4 0 0)), (3, some (.ptr id3 2 0 0)), (5, some (.ptr id5 4 0 0)), (37, some (.int .i64 (dl r : Nat))), (38, some (.int .i64 i))] ∧ H' = (id5, tkB 2 (r.take (dl r)) (numV (r.take i) : Nat) at') :: H3,
          ⟨_, (id5, tkB 2 (r.take (dl r)) 0 at') :: H3, ?_, Sub.refl _, _, 0, rfl, Nat.zero_le _, by simp [numV], rfl, rfl⟩, ?_⟩
        · exact (by repeat (first | exact trivial | refine And.intro (Exists.intro _ (And.intro rfl (Fz.refl _))) ?_))
        · rintro n L H' ⟨i, rfl, hi, hv, rfl, rfl⟩
          (first | refine au ?_ | exact au0 | fail)
          refine bsplit_dec (fun e1 => ?_) (fun e1 => ?_)
          · have hil : i < dl r := by omega
            have hdi := (dig_iff _).1 ((dl_step hi (by omega)).1 hil)
            have hti : (r.take (dl r)).getD (i : Int).toNat 0 = r.getD i 0 := by simp [List.getElem?_take, hil]
            have hsn : numV (r.take (i + 1)) = 10 * numV (r.take i) + ((r.getD i 0).toNat - 48) := by rw [take_at r 0 i (by omega), numV_snoc]
            (first | refine au ?_ | exact au0 | fail)
            rw [hti]
            (first | refine au ?_ | exact au0 | fail)
            refine bsplit_dec (fun e2 => ?_) (fun e2 => ?_)
            · have hm := numV_mono r (show i + 1 ≤ dl r from hil)
              (first | refine au ?_ | exact au0 | fail)
              rw [if_neg (by omega)]
              refine TkK.of_bad rfl (fun j b q r => ?_)
              obtain ⟨q0, q2, q3, q5⟩ := kp j b q r
              exact hg_of
            · (first | refine au ?_ | exact au0 | fail)
              refine ⟨[(0, some (.ptr id 2 0 0)), (2, some (.ptr id2 4 0 0)), (3, some (.ptr id3 2 0 0)), (5, some (.ptr id5 4 0 0)), (37, some (.int .i64 (dl r : Nat))), (38, some (.int .i64 (i + 1 : Nat)))], (id5, tkB 2 (r.take (dl r)) (numV (r.take (i + 1)) : Nat) at') :: H3,
                (by repeat (first | exact trivial | refine And.intro (Exists.intro _ (And.intro rfl (Fz.refl _))) ?_)), ?_, _, ?_, i + 1, rfl, by omega, by omega, rfl, rfl⟩
              · rw [show ((numV (r.take (i + 1)) : Nat) : Int) = 10 * (numV (r.take i) : Nat) + (((r.getD i 0).toNat : Int) - 48) from by omega]
                exact Sub.refl _
              · omega
          · obtain rfl : i = dl r := by omega
            (first | refine au ?_ | exact au0 | fail)
            rw [if_pos hv]
            refine TkK.of_tok rfl ?_ (fun j b q r => ?_)
            · exact hg_of
            · skip
              obtain ⟨q0, q2, q3, q5⟩ := kp j b q r
              exact hg_of
end Go.Proofs.Ytlmplofpclaokaa
