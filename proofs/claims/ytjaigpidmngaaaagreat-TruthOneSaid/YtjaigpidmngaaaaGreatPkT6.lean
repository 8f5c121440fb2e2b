/- Texts of this proof, one behind the other: TruthSpec, TruthDatum, LikeSpec, TruthHold, ExprLaw, SimRec, TypArg, NilTy, TruthLaw. -/
import Derived.Test.YtjaigpidmngaaaaGreatPkT5
set_option autoImplicit false
set_option linter.unusedSimpArgs false
set_option linter.unusedVariables false
namespace Go.Proofs.YtjaigpidmngaaaaGreat
attribute [local irreducible] callA callP ACalls
theorem isNaN_u64_spec (a : Int) (H : AH) : ACalls PG cmp_isNaN_uint64.n [.int .u64 a] H fun r H' => r = .bool false ∧ H' = H := by
  refine ACalls.fz (cmp_isNaN_uint64.of rfl (wpF_start ?_))
  (first | refine au ?_ | exact au0)
  exact ⟨fz_eq (congrArg AV.bool (by simp)), sub_of⟩
theorem cmp_u64_spec (a b : Nat) (H : AH) : ACalls PG cmp_Compare_uint64.n [.int .u64 (a : Nat), .int .u64 (b : Nat)] H fun r H' => r = .int .i64 (cmpN a b) ∧ H' = H := by
  refine ACalls.fz (cmp_Compare_uint64.of rfl (wpF_start ?_))
  unfold cmpN
  (first | refine au ?_ | exact au0)
  first | refine callF_eq (isNaN_u64_spec _ _) ?_ | refine callG_eq rfl (isNaN_u64_spec _ _) ?_
  (first | refine au ?_ | exact au0)
  first | refine callF_eq (isNaN_u64_spec _ _) ?_ | refine callG_eq rfl (isNaN_u64_spec _ _) ?_
  (first | refine au ?_ | exact au0)
  refine bsplit_dec (fun c => ?_) (fun c => ?_)
  · rw [if_pos (by omega)]
    (first | refine au ?_ | exact au0)
    exact ⟨fz_of, sub_of⟩
  rw [if_neg (by omega)]
  (first | refine au ?_ | exact au0)
  refine bsplit_dec (fun c => ?_) (fun c => ?_)
  · rw [if_pos (by omega)]
    (first | refine au ?_ | exact au0)
    exact ⟨fz_of, sub_of⟩
  rw [if_neg (by omega)]
  (first | refine au ?_ | exact au0)
  exact ⟨fz_of, sub_of⟩
theorem str_cmp_spec (a b : List UInt8) (H : AH) : ACalls PG strings_Compare.n [.str a, .str b] H fun r H' => r = .int .i64 (Lib.compareBytes a b) ∧ H' = H := by
  have h : ∀ H, ACalls PG bytealg_CompareString.n [.str a, .str b] H fun r H' => r = .int .i64 (Lib.compareBytes a b) ∧ H' = H := fun H => by
    refine ACalls.fz (bytealg_CompareString.of rfl (wpF_start ?_))
    (first | refine au ?_ | exact au0)
    exact ⟨fz_of, sub_of⟩
  refine ACalls.fz (strings_Compare.of rfl (wpF_start ?_))
  (first | refine au ?_ | exact au0)
  first | refine callF_eq (h _) ?_ | refine callG_eq rfl (h _) ?_
  (first | refine au ?_ | exact au0)
  exact ⟨fz_of, sub_of⟩
theorem below_spec (d : Dat) (H : AH) : ACalls PG prim_below.n [datA d] H fun r H' => r = .bool (neg? d) ∧ H' = H := by
  refine ACalls.fz (prim_below.of rfl (wpF_start ?_))
  unfold neg?
  obtain ⟨k, g, n, t⟩ := d
  (first | refine au ?_ | exact au0)
  intro id1 hid1 ht1; have n1 := neAll_of hid1; (try simp only [neAll, neAll_hset] at n1); have m1 := n1; (repeat (obtain ⟨_, m1⟩ := m1))
  clear hid1
  (first | refine au ?_ | exact au0)
  cases g
  · (first | refine au ?_ | exact au0)
    exact ⟨fz_of, sub_of⟩
  · (first | refine au ?_ | exact au0)
    exact ⟨fz_eq (congrArg AV.bool (by first | exact (decide_eq_true (by omega)).symm | exact (decide_eq_false (by omega)).symm | exact decide_eq_decide.2 (by omega) | rfl)), sub_of⟩
theorem prim_Cmp_spec (a b : Dat) (h : a.kd = b.kd) (H : AH) : ACalls PG prim_Cmp.n [datA a, datA b] H fun r H' => r = .int .i64 (cmpD a b) ∧ H' = H := by
  have hs := fun H => str_cmp_spec a.tx b.tx H
  have hb1 := fun H => below_spec a H
  have hb2 := fun H => below_spec b H
  have h1 := fun H => cmp_u64_spec a.nu b.nu H
  have h2 := fun H => cmp_u64_spec b.nu a.nu H
  refine ACalls.fz (prim_Cmp.of rfl (wpF_start ?_))
  unfold cmpD
  obtain ⟨k, g, n, t⟩ := a
  obtain ⟨k', g', n', t'⟩ := b
  dsimp only at h hs h1 h2 ⊢
  subst h
  generalize neg? ⟨k, g, n, t⟩ = na at *
  generalize neg? ⟨k, g', n', t'⟩ = nb at *
  (first | refine au ?_ | exact au0)
  intro id2 hid2 ht2; have n2 := neAll_of hid2; (try simp only [neAll, neAll_hset] at n2); have m2 := n2; (repeat (obtain ⟨_, m2⟩ := m2))
  clear hid2
  (first | refine au ?_ | exact au0)
  intro id3 hid3 ht3; have n3 := neAll_of hid3; (try simp only [neAll, neAll_hset] at n3); have m3 := n3; (repeat (obtain ⟨_, m3⟩ := m3))
  clear hid3
  (first | refine au ?_ | exact au0)
  by_cases c2 : k = 2
  · rw [if_pos c2]
    (first | refine au ?_ | exact au0)
    first | refine callF_eq (hs _) ?_ | refine callG_eq rfl (hs _) ?_
    (first | refine au ?_ | exact au0)
    exact ⟨fz_of, sub_of⟩
  rw [if_neg c2]
  by_cases c3 : k = 3
  · rw [if_pos c3]
    (first | refine au ?_ | exact au0)
    first | refine callF_eq (h1 _) ?_ | refine callG_eq rfl (h1 _) ?_
    (first | refine au ?_ | exact au0)
    exact ⟨fz_of, sub_of⟩
  rw [if_neg c3]
  by_cases c1 : k = 1
  rotate_left
  · rw [if_pos c1]
    (first | refine au ?_ | exact au0)
    exact ⟨fz_of, sub_of⟩
  rw [if_neg (fun q => q c1)]
  cases na <;> cases nb
  · rw [if_neg (by simp), if_neg (by simp), if_neg (by simp)]
    (first | refine au ?_ | exact au0)
    first | refine callF_eq (hb1 _) ?_ | refine callG_eq rfl (hb1 _) ?_
    (first | refine au ?_ | exact au0)
    first | refine callF_eq (hb1 _) ?_ | refine callG_eq rfl (hb1 _) ?_
    (first | refine au ?_ | exact au0)
    first | refine callF_eq (hb2 _) ?_ | refine callG_eq rfl (hb2 _) ?_
    (first | refine au ?_ | exact au0)
    first | refine callF_eq (h1 _) ?_ | refine callG_eq rfl (h1 _) ?_
    (first | refine au ?_ | exact au0)
    exact ⟨fz_of, sub_of⟩
  · rw [if_neg (by simp), if_neg (by simp), if_pos rfl]
    (first | refine au ?_ | exact au0)
    first | refine callF_eq (hb1 _) ?_ | refine callG_eq rfl (hb1 _) ?_
    (first | refine au ?_ | exact au0)
    first | refine callF_eq (hb1 _) ?_ | refine callG_eq rfl (hb1 _) ?_
    (first | refine au ?_ | exact au0)
    first | refine callF_eq (hb2 _) ?_ | refine callG_eq rfl (hb2 _) ?_
    (first | refine au ?_ | exact au0)
    exact ⟨fz_of, sub_of⟩
  · rw [if_neg (by simp), if_pos rfl]
    (first | refine au ?_ | exact au0)
    first | refine callF_eq (hb1 _) ?_ | refine callG_eq rfl (hb1 _) ?_
    (first | refine au ?_ | exact au0)
    first | refine callF_eq (hb2 _) ?_ | refine callG_eq rfl (hb2 _) ?_
    (first | refine au ?_ | exact au0)
    first | refine callF_eq (hb1 _) ?_ | refine callG_eq rfl (hb1 _) ?_
    (first | refine au ?_ | exact au0)
    exact ⟨fz_of, sub_of⟩
  · rw [if_pos (by simp)]
    (first | refine au ?_ | exact au0)
    first | refine callF_eq (hb1 _) ?_ | refine callG_eq rfl (hb1 _) ?_
    (first | refine au ?_ | exact au0)
    first | refine callF_eq (hb2 _) ?_ | refine callG_eq rfl (hb2 _) ?_
    (first | refine au ?_ | exact au0)
    first | refine callF_eq (h2 _) ?_ | refine callG_eq rfl (h2 _) ?_
    (first | refine au ?_ | exact au0)
    exact ⟨fz_of, sub_of⟩
theorem three_spec (x y : Bool) (H : AH) : ACalls PG broadsheetref05_three.n [.bool x, .bool y] H fun r H' => r = .int .i64 (if x = true then -1 else if y = true then 1 else 0) ∧ H' = H := by
  refine ACalls.fz (broadsheetref05_three.of rfl (wpF_start ?_))
  cases x <;> cases y
  all_goals ((first | refine au ?_ | exact au0); exact ⟨fz_of, sub_of⟩)
theorem r5_Cmp_spec (a b : Dat) (h : a.kd = b.kd) (H : AH) : ACalls PG broadsheetref05_Cmp.n [datA a, datA b] H fun r H' => r = .int .i64 (cmpD a b) ∧ H' = H := by
  refine ACalls.fz (broadsheetref05_Cmp.of rfl (wpF_start ?_))
  obtain ⟨k, g, n, t⟩ := a
  obtain ⟨k', g', n', t'⟩ := b
  dsimp only at h
  subst h
  (first | refine au ?_ | exact au0)
  intro id2 hid2 ht2; have n2 := neAll_of hid2; (try simp only [neAll, neAll_hset] at n2); have m2 := n2; (repeat (obtain ⟨_, m2⟩ := m2))
  clear hid2
  (first | refine au ?_ | exact au0)
  intro id3 hid3 ht3; have n3 := neAll_of hid3; (try simp only [neAll, neAll_hset] at n3); have m3 := n3; (repeat (obtain ⟨_, m3⟩ := m3))
  clear hid3
  unfold cmpD
  by_cases c2 : k = 2
  · rw [if_pos c2]
    (first | refine au ?_ | exact au0)
    first | refine callF_eq (three_spec _ _ _) ?_ | refine callG_eq rfl (three_spec _ _ _) ?_
    (first | refine au ?_ | exact au0)
    exact ⟨fz_eq (congrArg (AV.int .i64) (cb_if t t')), sub_of⟩
  rw [if_neg c2]
  by_cases c3 : k = 3
  · rw [if_pos c3]
    (first | refine au ?_ | exact au0)
    first | refine callF_eq (three_spec _ _ _) ?_ | refine callG_eq rfl (three_spec _ _ _) ?_
    (first | refine au ?_ | exact au0)
    exact ⟨fz_eq (congrArg (AV.int .i64) (by (try unfold cmpN); (try dsimp only); simp only [decide_eq_true_eq]; repeat' split; all_goals omega)), sub_of⟩
  rw [if_neg c3]
  by_cases c1 : k = 1
  rotate_left
  · rw [if_pos c1]
    (first | refine au ?_ | exact au0)
    exact ⟨fz_of, sub_of⟩
  rw [if_neg (fun q => q c1)]
  unfold neg?
  cases g <;> cases g'
  · simp only [Bool.false_and, Bool.false_eq_true, false_and, if_false]
    (first | refine au ?_ | exact au0)
    first | refine callF_eq (three_spec _ _ _) ?_ | refine callG_eq rfl (three_spec _ _ _) ?_
    (first | refine au ?_ | exact au0)
    exact ⟨fz_eq (congrArg (AV.int .i64) (by (try unfold cmpN); (try dsimp only); simp only [decide_eq_true_eq]; repeat' split; all_goals omega)), sub_of⟩
  · simp only [Bool.false_and, Bool.false_eq_true, false_and, if_false, Bool.true_and, decide_eq_true_eq]
    by_cases d : 0 < n'
    · rw [if_pos d]
      (first | refine au ?_ | exact au0)
      refine bsplit_intro (fun q => ?_) (fun q => ?_)
      all_goals first | (exfalso; revert q; simp; omega) | clear q
      (first | refine au ?_ | exact au0)
      first | refine callF_eq (three_spec _ _ _) ?_ | refine callG_eq rfl (three_spec _ _ _) ?_
      (first | refine au ?_ | exact au0)
      exact ⟨fz_eq (congrArg (AV.int .i64) (by (try dsimp only); simp only [decide_eq_true_eq]; repeat' split; all_goals first | omega | simp_all)), sub_of⟩
    · rw [if_neg d]
      (first | refine au ?_ | exact au0)
      refine bsplit_intro (fun q => ?_) (fun q => ?_)
      all_goals first | (exfalso; revert q; simp; omega) | clear q
      (first | refine au ?_ | exact au0)
      first | refine callF_eq (three_spec _ _ _) ?_ | refine callG_eq rfl (three_spec _ _ _) ?_
      (first | refine au ?_ | exact au0)
      exact ⟨fz_eq (congrArg (AV.int .i64) (by (try unfold cmpN); (try dsimp only); simp only [decide_eq_true_eq]; repeat' split; all_goals omega)), sub_of⟩
  · simp only [Bool.false_and, Bool.false_eq_true, and_false, if_false, Bool.true_and, decide_eq_true_eq]
    by_cases d : 0 < n
    · rw [if_pos d]
      (first | refine au ?_ | exact au0)
      refine bsplit_intro (fun q => ?_) (fun q => ?_)
      all_goals first | (exfalso; revert q; simp; omega) | clear q
      (first | refine au ?_ | exact au0)
      first | refine callF_eq (three_spec _ _ _) ?_ | refine callG_eq rfl (three_spec _ _ _) ?_
      (first | refine au ?_ | exact au0)
      exact ⟨fz_eq (congrArg (AV.int .i64) (by (try dsimp only); simp only [decide_eq_true_eq]; repeat' split; all_goals first | omega | simp_all)), sub_of⟩
    · rw [if_neg d]
      (first | refine au ?_ | exact au0)
      refine bsplit_intro (fun q => ?_) (fun q => ?_)
      all_goals first | (exfalso; revert q; simp; omega) | clear q
      (first | refine au ?_ | exact au0)
      first | refine callF_eq (three_spec _ _ _) ?_ | refine callG_eq rfl (three_spec _ _ _) ?_
      (first | refine au ?_ | exact au0)
      exact ⟨fz_eq (congrArg (AV.int .i64) (by (try unfold cmpN); (try dsimp only); simp only [decide_eq_true_eq]; repeat' split; all_goals omega)), sub_of⟩
  · simp only [Bool.true_and, decide_eq_true_eq]
    by_cases d : 0 < n <;> by_cases d' : 0 < n'
    · rw [if_pos ⟨d, d'⟩]
      (first | refine au ?_ | exact au0)
      refine bsplit_intro (fun q => ?_) (fun q => ?_)
      all_goals first | (exfalso; revert q; simp; omega) | clear q
      (first | refine au ?_ | exact au0)
      first | refine callF_eq (three_spec _ _ _) ?_ | refine callG_eq rfl (three_spec _ _ _) ?_
      (first | refine au ?_ | exact au0)
      exact ⟨fz_eq (congrArg (AV.int .i64) (by (try unfold cmpN); (try dsimp only); simp only [decide_eq_true_eq]; repeat' split; all_goals omega)), sub_of⟩
    · rw [if_neg (fun q => d' q.2), if_pos d]
      (first | refine au ?_ | exact au0)
      refine bsplit_intro (fun q => ?_) (fun q => ?_)
      all_goals first | (exfalso; revert q; simp; omega) | clear q
      (first | refine au ?_ | exact au0)
      first | refine callF_eq (three_spec _ _ _) ?_ | refine callG_eq rfl (three_spec _ _ _) ?_
      (first | refine au ?_ | exact au0)
      exact ⟨fz_eq (congrArg (AV.int .i64) (by (try dsimp only); simp only [decide_eq_true_eq]; repeat' split; all_goals first | omega | simp_all)), sub_of⟩
    · rw [if_neg (fun q => d q.1), if_neg d, if_pos d']
      (first | refine au ?_ | exact au0)
      refine bsplit_intro (fun q => ?_) (fun q => ?_)
      all_goals first | (exfalso; revert q; simp; omega) | clear q
      (first | refine au ?_ | exact au0)
      first | refine callF_eq (three_spec _ _ _) ?_ | refine callG_eq rfl (three_spec _ _ _) ?_
      (first | refine au ?_ | exact au0)
      exact ⟨fz_eq (congrArg (AV.int .i64) (by (try dsimp only); simp only [decide_eq_true_eq]; repeat' split; all_goals first | omega | simp_all)), sub_of⟩
    · rw [if_neg (fun q => d q.1), if_neg d, if_neg d']
      (first | refine au ?_ | exact au0)
      refine bsplit_intro (fun q => ?_) (fun q => ?_)
      all_goals first | (exfalso; revert q; simp; omega) | clear q
      (first | refine au ?_ | exact au0)
      first | refine callF_eq (three_spec _ _ _) ?_ | refine callG_eq rfl (three_spec _ _ _) ?_
      (first | refine au ?_ | exact au0)
      exact ⟨fz_eq (congrArg (AV.int .i64) (by (try unfold cmpN); (try dsimp only); simp only [decide_eq_true_eq]; repeat' split; all_goals omega)), sub_of⟩
theorem truth_Rel_spec (rel : Int) (a b : Dat) (H : AH) : ACalls PG truth_Rel.n [.int .i64 rel, datA a, datA b] H fun r H' => r = .bool (relB rel a b) ∧ H' = H := by
  have hc := fun q H => prim_Cmp_spec a b q H
  have h3 := fun q => cmpD_three a b q
  refine ACalls.fz (truth_Rel.of rfl (wpF_start ?_))
  unfold relB
  generalize cmpD a b = c at *
  (first | refine au ?_ | exact au0)
  intro id3 hid3 ht3; have n3 := neAll_of hid3; (try simp only [neAll, neAll_hset] at n3); have m3 := n3; (repeat (obtain ⟨_, m3⟩ := m3))
  clear hid3
  (first | refine au ?_ | exact au0)
  intro id4 hid4 ht4; have n4 := neAll_of hid4; (try simp only [neAll, neAll_hset] at n4); have m4 := n4; (repeat (obtain ⟨_, m4⟩ := m4))
  clear hid4
  by_cases h1 : a.kd = b.kd
  rotate_left
  · rw [if_pos (.inl h1)]
    (first | refine au ?_ | exact au0)
    exact ⟨fz_of, sub_of⟩
  by_cases h2 : a.kd = 0
  · rw [if_pos (.inr h2)]
    (first | refine au ?_ | exact au0)
    exact ⟨fz_of, sub_of⟩
  rw [if_neg (by omega)]
  have hc := hc h1
  have hc3 : -1 ≤ c ∧ c ≤ 1 := by have := h3 h1; omega
  (first | refine au ?_ | exact au0)
  first | refine callF_eq (hc _) ?_ | refine callG_eq rfl (hc _) ?_
  (first | refine au ?_ | exact au0)
  clear hc h3
  by_cases c1 : rel = 1
  · rw [if_pos c1]
    (first | refine au ?_ | exact au0)
    exact ⟨fz_of, sub_of⟩
  rw [if_neg c1]
  by_cases c2 : rel = 2
  · rw [if_pos c2]
    (first | refine au ?_ | exact au0)
    exact ⟨fz_of, sub_of⟩
  rw [if_neg c2]
  by_cases c3 : rel = 3
  · rw [if_pos c3]
    (first | refine au ?_ | exact au0)
    exact ⟨fz_of, sub_of⟩
  rw [if_neg c3]
  by_cases c4 : rel = 4
  · rw [if_pos c4]
    (first | refine au ?_ | exact au0)
    exact ⟨fz_of, sub_of⟩
  rw [if_neg c4]
  by_cases c5 : rel = 5
  · rw [if_pos c5]
    (first | refine au ?_ | exact au0)
    exact ⟨fz_of, sub_of⟩
  rw [if_neg c5]
  by_cases c6 : rel = 6
  · rw [if_pos c6]
    (first | refine au ?_ | exact au0)
    exact ⟨fz_of, sub_of⟩
  rw [if_neg c6]
  (first | refine au ?_ | exact au0)
  exact ⟨fz_of, sub_of⟩
theorem relB_out {rel : Int} {a b : Dat} (h : rel < 1 ∨ 6 < rel) : relB rel a b = false := by
  unfold relB
  split
  · rfl
  · rw [if_neg (by omega), if_neg (by omega), if_neg (by omega), if_neg (by omega), if_neg (by omega), if_neg (by omega)]
theorem r19_Rel_spec (rel : Int) (a b : Dat) (H : AH) : ACalls PG broadsheetref19_Rel.n [.int .i64 rel, datA a, datA b] H fun r H' => r = .bool (relB rel a b) ∧ H' = H := by
  have hc := fun q H => r5_Cmp_spec a b q H
  have h3 := fun q => cmpD_three a b q
  refine ACalls.fz (broadsheetref19_Rel.of rfl (wpF_start ?_))
  (first | refine au ?_ | exact au0)
  intro id3 hid3 ht3; have n3 := neAll_of hid3; (try simp only [neAll, neAll_hset] at n3); have m3 := n3; (repeat (obtain ⟨_, m3⟩ := m3))
  clear hid3
  (first | refine au ?_ | exact au0)
  intro id4 hid4 ht4; have n4 := neAll_of hid4; (try simp only [neAll, neAll_hset] at n4); have m4 := n4; (repeat (obtain ⟨_, m4⟩ := m4))
  clear hid4
  by_cases h1 : a.kd = b.kd
  rotate_left
  · rw [show relB rel a b = false from by unfold relB; rw [if_pos (.inl h1)]]
    (first | refine au ?_ | exact au0)
    exact ⟨fz_of, sub_of⟩
  by_cases h2 : a.kd = 0
  · rw [show relB rel a b = false from by unfold relB; rw [if_pos (.inr h2)]]
    (first | refine au ?_ | exact au0)
    exact ⟨fz_of, sub_of⟩
  by_cases hr : rel < 1 ∨ 6 < rel
  · rw [relB_out hr]
    rcases hr with hr | hr
    · (first | refine au ?_ | exact au0)
      exact ⟨fz_of, sub_of⟩
    · (first | refine au ?_ | exact au0)
      exact ⟨fz_of, sub_of⟩
  have hc := hc h1
  have h3 := h3 h1
  have hv : ∀ c, cmpD a b = c → relB 1 a b = decide (c = 0) ∧ relB 2 a b = decide (c ≠ 0) ∧ relB 3 a b = decide (c < 0) ∧ relB 4 a b = decide (c ≤ 0) ∧ relB 5 a b = decide (0 < c) ∧ relB 6 a b = decide (0 ≤ c) := fun c e => by
    have h : ¬ (a.kd ≠ b.kd ∨ a.kd = 0) := by omega
    unfold relB
    simp only [if_neg h, e]
    exact ⟨rfl, rfl, rfl, rfl, rfl, rfl⟩
  obtain ⟨c, hcc⟩ : ∃ c, cmpD a b = c := ⟨_, rfl⟩
  obtain ⟨v1, v2, v3, v4, v5, v6⟩ := hv c hcc
  rw [hcc] at hc h3
  have hc3 : c = -1 ∨ c = 0 ∨ c = 1 := by omega
  clear hv hcc h3
  have hrr : rel = 1 ∨ rel = 2 ∨ rel = 3 ∨ rel = 4 ∨ rel = 5 ∨ rel = 6 := by omega
  clear hr
  rcases hc3 with rfl | rfl | rfl
  all_goals
    rcases hrr with rfl | rfl | rfl | rfl | rfl | rfl
    all_goals
      first | rw [v1] | rw [v2] | rw [v3] | rw [v4] | rw [v5] | rw [v6]
      (first | refine au ?_ | exact au0)
      first | refine callF_eq (hc _) ?_ | refine callG_eq rfl (hc _) ?_
      (first | refine au ?_ | exact au0)
      exact ⟨fz_of, sub_of⟩
end Go.Proofs.YtjaigpidmngaaaaGreat

namespace Go.Proofs.YtjaigpidmngaaaaGreat
attribute [local irreducible] callA callP ACalls
theorem wayP_len (l : List Ty) : ∀ (ps : List Pc) (t : Int) (acc : List (Bool × Nat)), (wayP l t ps acc).1.length ≤ acc.length + ps.length
  | [], t, acc => by simp [wayP]
  | p :: ps, t, acc => by
    rw [wayP]
    split
    · have := wayP_len l ps (stepP l t p).2.1 (acc ++ [(stepP l t p).1])
      simp only [List.length_append, List.length_cons, List.length_nil] at this ⊢
      omega
    · simp
theorem findP_len (l : List Ty) (t : Int) (s : List UInt8) : (findP l t s).1.length ≤ s.length + 1 := by
  unfold findP
  split
  · split
    · have h1 := wayP_len l (pcs s true) t []
      have h2 := pcs_len (s.length + 1) s true (Nat.lt_succ_self _)
      simp only [List.length_nil] at h1
      omega
    · simp
  · simp
theorem findA_no (f : List (Bool × Nat) × Int × Int) : NoId (findA f) := (Cl.tup _ (by
  intro v hv
  simp only [List.mem_cons, List.not_mem_nil, or_false] at hv
  rcases hv with rfl | rfl | rfl
  · refine .rows _ _ (fun r hr v hv => ?_)
    obtain ⟨x, _, rfl⟩ := List.mem_map.1 hr
    simp only [spR, List.mem_cons, List.not_mem_nil, or_false] at hv
    rcases hv with rfl | rfl <;> first | exact .int _ _ | exact .bool _
  · exact .int _ _
  · exact .int _ _)).noId
theorem map_spI (p : List (Bool × Nat)) : p.map spR = (intP p).map spI := by
  unfold intP; rw [List.map_map]; rfl
theorem truth_Datum_spec0 (l : List Ty) (hl : TysOk l) (t : Int) (v : Vl) (hok : vOk v) (o b : Opd) (ho : o.t.length ≤ 1000000) (hb : b.t.length ≤ 1000000) : ACalls PG truth_Datum.n [tysA l, .int .i64 t, opA o, opA b, vlA v] [] fun r _ => r = datA (trD l t v o b) := by
  have hc := fun H => check_Datum_spec l hl t o b hb H
  have hf := fun H => Find_spec l hl t o.t ho H
  have hlen := findP_len l t o.t
  have hat := fun q => At_spec0 l hl t (intP (findP l t o.t).1) q v hok
  refine ACalls.fzK (truth_Datum.of rfl (wpF_start ?_))
  unfold trD
  generalize findP l t o.t = f at *
  obtain ⟨p, to, e⟩ := f
  generalize chkD l t o b = D at *
  have hil : (intP p).length = p.length := by simp [intP]
  dsimp only at hlen hat ⊢
  have hat := hat (by omega)
  generalize (if knownT l t then atP l t (intP p) v else none) = R at *
  obtain ⟨k0, n0, x0, vs0⟩ := v
  (first | refine au ?_ | exact au0)
  intro id5 hid5 ht5; have n5 := neAll_of hid5; (try simp only [neAll, neAll_hset] at n5); have m5 := n5; (repeat (obtain ⟨_, m5⟩ := m5))
  (first | refine au ?_ | exact au0)
  intro id6 hid6 ht6; have n6 := neAll_of hid6; (try simp only [neAll, neAll_hset] at n6); have m6 := n6; (repeat (obtain ⟨_, m6⟩ := m6))
  (first | refine au ?_ | exact au0)
  by_cases c1 : o.k = 1
  rotate_left
  · rw [if_pos c1]
    (first | refine au ?_ | exact au0)
    intro id7 hid7 ht7; have n7 := neAll_of hid7; (try simp only [neAll, neAll_hset] at n7); have m7 := n7; (repeat (obtain ⟨_, m7⟩ := m7))
    (first | refine au ?_ | exact au0)
    intro id8 hid8 ht8; have n8 := neAll_of hid8; (try simp only [neAll, neAll_hset] at n8); have m8 := n8; (repeat (obtain ⟨_, m8⟩ := m8))
    (first | refine au ?_ | exact au0)
    first | refine callF_eq (hc _) ?_ | refine callG_eq rfl (hc _) ?_
    (first | refine au ?_ | exact au0)
    exact fz_of
  rw [if_neg (fun q => q c1)]
  clear hc
  (first | refine au ?_ | exact au0)
  intro id7 hid7 ht7; have n7 := neAll_of hid7; (try simp only [neAll, neAll_hset] at n7); have m7 := n7; (repeat (obtain ⟨_, m7⟩ := m7))
  (first | refine au ?_ | exact au0)
  intro id8 hid8 ht8; have n8 := neAll_of hid8; (try simp only [neAll, neAll_hset] at n8); have m8 := n8; (repeat (obtain ⟨_, m8⟩ := m8))
  (first | refine au ?_ | exact au0)
  first | refine callF_eq (hf _) ?_ | refine callG_no (findA_no _) (hf _) ?_
  (first | refine au ?_ | exact au0)
  refine bsplit_dec (fun ce => ?_) (fun ce => ?_)
  · rw [if_pos ce]
    (first | refine au ?_ | exact au0)
    exact fz_of
  rw [if_neg ce]
  (first | refine au ?_ | exact au0)
  rw [map_spI]
  rcases R with _ | ⟨k2, n2, x2, vs2⟩
  · first | refine callF_eq (hat.frame _) ?_ | refine callG_no (atA_no _) (hat.frame _) ?_
    rw [trX_no]
    (first | refine au ?_ | exact au0)
    intro id11 hid11 ht11; have n11 := neAll_of hid11; (try simp only [neAll, neAll_hset] at n11); have m11 := n11; (repeat (obtain ⟨_, m11⟩ := m11))
    (first | refine au ?_ | exact au0)
    exact fz_of
  · first | refine callF_eq (hat.frame _) ?_ | refine callG_no (atA_no _) (hat.frame _) ?_
    dsimp only [Vl.kd, Vl.num, Vl.tx]
    (first | refine au ?_ | exact au0)
    intro id11 hid11 ht11; have n11 := neAll_of hid11; (try simp only [neAll, neAll_hset] at n11); have m11 := n11; (repeat (obtain ⟨_, m11⟩ := m11))
    (first | refine au ?_ | exact au0)
    by_cases c10 : k2 = 10
    · rw [trX_txt c10]
      (first | refine au ?_ | exact au0)
      exact fz_of
    · rw [trX_num c10]
      (first | refine au ?_ | exact au0)
      first | refine callF_eq (prim_Datum_spec k2 n2 _) ?_ | refine callG_eq rfl (prim_Datum_spec k2 n2 _) ?_
      (first | refine au ?_ | exact au0)
      exact fz_of
theorem truth_Datum_spec (l : List Ty) (hl : TysOk l) (t : Int) (v : Vl) (hok : vOk v) (o b : Opd) (ho : o.t.length ≤ 1000000) (hb : b.t.length ≤ 1000000) (H : AH) : ACalls PG truth_Datum.n [tysA l, .int .i64 t, opA o, opA b, vlA v] H fun r H' => r = datA (trD l t v o b) ∧ H' = H := (truth_Datum_spec0 l hl t v hok o b ho hb).frame H
abbrev hB (l : List Ty) (t : Int) (v : Vl) (il it iv : Nat) : AH := [(iv, .rows 4 [vlR v]), (it, .rows 1 [[.int .i64 t]]), (il, .rows 1 [[tysA l]])]
theorem Holds1_spec (l : List Ty) (hl : TysOk l) (t : Int) (v : Vl) (hok : vOk v) (il it iv : Nat) (h1 : iv ≠ it) (h2 : iv ≠ il) (h3 : it ≠ il) (a b : Opd) (ha : a.t.length ≤ 1000000) (hb : b.t.length ≤ 1000000) :
    ACalls PG truth_Holds_1.n [opA a, opA b, .ptr il 1 0 0, .ptr it 1 0 0, .ptr iv 4 0 0] (hB l t v il it iv) fun r H' => r = .tup [datA (trD l t v a b), datA (trD l t v b a)] ∧ H' = hB l t v il it iv := by
  have q1 := fun H => truth_Datum_spec l hl t v hok a b ha hb H
  have q2 := fun H => truth_Datum_spec l hl t v hok b a hb ha H
  generalize trD l t v a b = D1 at *
  generalize trD l t v b a = D2 at *
  refine ACalls.fz (truth_Holds_1.of' (Nat.le_of_ble_eq_true rfl) (wpF_start ?_))
  obtain ⟨k0, n0, x0, vs0⟩ := v
  (first | refine au ?_ | exact au0)
  intro id5 hid5 ht5; have n5 := neAll_of hid5; (try simp only [neAll, neAll_hset] at n5); have m5 := n5; (repeat (obtain ⟨_, m5⟩ := m5))
  (first | refine au ?_ | exact au0)
  intro id6 hid6 ht6; have n6 := neAll_of hid6; (try simp only [neAll, neAll_hset] at n6); have m6 := n6; (repeat (obtain ⟨_, m6⟩ := m6))
  (first | refine au ?_ | exact au0)
  intro id7 hid7 ht7; have n7 := neAll_of hid7; (try simp only [neAll, neAll_hset] at n7); have m7 := n7; (repeat (obtain ⟨_, m7⟩ := m7))
  (first | refine au ?_ | exact au0)
  intro id8 hid8 ht8; have n8 := neAll_of hid8; (try simp only [neAll, neAll_hset] at n8); have m8 := n8; (repeat (obtain ⟨_, m8⟩ := m8))
  (first | refine au ?_ | exact au0)
  first | refine callF_eq (q1 _) ?_ | refine callG_eq rfl (q1 _) ?_
  (first | refine au ?_ | exact au0)
  first | refine callF_eq (q2 _) ?_ | refine callG_eq rfl (q2 _) ?_
  (first | refine au ?_ | exact au0)
  exact ⟨fz_of, sub_of⟩
theorem datK_tx (k : Int) (n : Nat) : (datK k n).tx = [] := by
  unfold datK; repeat' split
  all_goals rfl
theorem trD_txt (l : List Ty) (t : Int) (v : Vl) (hok : vOk v) (o b : Opd) (ho : o.t.length ≤ 1000000) : (trD l t v o b).tx.length ≤ 140737488351232 := by
  unfold trD
  split
  · unfold chkD
    repeat' split
    all_goals first | (simp; done) | (rw [datK_tx]; simp; done) | (dsimp only; omega)
  · split
    · simp [dat0]
    · split
      · generalize hx : atP l t (intP (findP l t o.t).1) v = R
        rcases R with _ | ⟨k2, n2, x2, vs2⟩
        · simp [trX, dat0]
        · have := atP_ok _ hok hx
          simp only [vOk] at this
          by_cases c : k2 = 10
          · rw [trX_txt c]; exact this.2.1
          · rw [trX_num c, datK_tx]; simp
      · simp [trX, dat0]
end Go.Proofs.YtjaigpidmngaaaaGreat

namespace Go.Proofs.YtjaigpidmngaaaaGreat
attribute [local irreducible] callA callP ACalls
def mF (p s : List UInt8) (i k : Nat) (bk : Int) (fr : Nat) : FL := [(0, some (.str p)), (1, some (.str s)), (4, some (.bool false)), (5, some (.int .i64 i)), (6, some (.int .i64 k)), (7, some (.int .i64 bk)), (8, some (.int .i64 fr))]
def mI (p s : List UInt8) (H : AH) (n : Nat) (L : FL) (H' : AH) : Prop := ∃ i k bk fr, MInv p s i k bk fr ∧ n = mu p s i bk fr ∧ L = mF p s i k bk fr ∧ H' = H
theorem like_Match_step (p s : List UInt8) (hp : p.length ≤ 140737488351232) (hs : s.length ≤ 140737488351232) (H : AH) (n : Nat) (L : FL) (H' : AH) (hI : mI p s H n L H') :
    wpF PG like_Match.lab0 none (jumpF 0 (WeakF fun L' H' => ∃ m, m < n ∧ mI p s H m L' H') (endF [.t 4] fun r H' => r = .bool (mtB p s) ∧ H' = H)) L H' := by
  obtain ⟨i, k, bk, fr, inv, rfl, rfl, rfl⟩ := hI
  have hi := inv.hi
  have hk := inv.hk
  have hf := inv.hf
  have hb : -1 ≤ bk ∧ bk ≤ i := by rcases inv.bk with h | ⟨b, h, h2, _⟩ <;> omega
  have hmf : ∀ i k bk fr, covers (mF p s i k bk fr) (mF p s i k bk fr) := fun i k bk fr => ⟨rfl, rfl, rfl, rfl, rfl, rfl, rfl, trivial⟩
  (conv => whnf)
  (first | refine au ?_ | exact au0)
  refine bsplit_dec (fun h1 => ?_) (fun h1 => ?_)
  · (first | refine au ?_ | exact au0)
    refine bsplit_dec (fun h2 => ?_) (fun h2 => ?_)
    · (first | refine au ?_ | exact au0)
      have st := inv.star (by omega) ((lku8lit (p.getD i 0) 37 (by decide)).1 h2)
      exact ⟨mF p s (i + 1) k (i + 1 : Nat) k, H', (by exact cov_of), Sub.refl _, _, st.2, _, _, _, _, st.1, rfl, rfl, rfl⟩
    · (first | refine au ?_ | exact au0)
      have h2' := mt (lku8lit (p.getD i 0) 37 (by decide)).2 h2
      refine bsplit_dec (fun h3 => ?_) (fun h3 => ?_)
      · (first | refine au ?_ | exact au0)
        refine ⟨?_, rfl⟩
        have : ¬ Mt p s := by rw [inv.fin (by omega) (fun _ => h2')]; omega
        rw [mtB_false this]
        exact congrArg AV.bool (decide_eq_false (by omega))
      · (first | refine au ?_ | exact au0)
        refine bsplit_dec (fun h4 => ?_) (fun h4 => ?_)
        · (first | refine au ?_ | exact au0)
          have st := inv.chr (by omega) h2' (by omega) (.inl ((lku8lit (p.getD i 0) 95 (by decide)).1 h4))
          exact ⟨mF p s (i + 1) (k + 1) bk fr, H', (by exact cov_of), Sub.refl _, _, st.2, _, _, _, _, st.1, rfl, rfl, rfl⟩
        · (first | refine au ?_ | exact au0)
          have h4' := mt (lku8lit (p.getD i 0) 95 (by decide)).2 h4
          refine bsplit_dec (fun h5 => ?_) (fun h5 => ?_)
          · (first | refine au ?_ | exact au0)
            have st := inv.chr (by omega) h2' (by omega) (.inr ((u8eq (p.getD i 0) (s.getD k 0)).1 h5))
            exact ⟨mF p s (i + 1) (k + 1) bk fr, H', (by exact cov_of), Sub.refl _, _, st.2, _, _, _, _, st.1, rfl, rfl, rfl⟩
          · (first | refine au ?_ | exact au0)
            have h5' : i < p.length → p.getD i 0 ≠ 37 ∧ ¬ okc (p.getD i 0) (s.getD k 0) := fun _ => ⟨h2', fun q => q.elim h4' (mt (u8eq (p.getD i 0) (s.getD k 0)).2 h5)⟩
            refine bsplit_dec (fun h6 => ?_) (fun h6 => ?_)
            · (first | refine au ?_ | exact au0)
              have st := inv.back (by omega) h5' h6
              exact ⟨mF p s bk.toNat (fr + 1) bk (fr + 1), H', (by exact cov_of), Sub.refl _, _, st.2, _, _, _, _, st.1, rfl, rfl, rfl⟩
            · (first | refine au ?_ | exact au0)
              exact ⟨by rw [mtB_false (inv.none (by omega) h5' (by omega))], rfl⟩
  · (first | refine au ?_ | exact au0)
    have hip : i = p.length := by omega
    refine bsplit_dec (fun h3 => ?_) (fun h3 => ?_)
    · (first | refine au ?_ | exact au0)
      refine ⟨?_, rfl⟩
      have : Mt p s := by rw [inv.fin (by omega) (fun _ => by omega)]; omega
      rw [mtB_true this]
      exact congrArg AV.bool (decide_eq_true (by omega))
    · (first | refine au ?_ | exact au0)
      refine bsplit_dec (fun h6 => ?_) (fun h6 => ?_)
      · (first | refine au ?_ | exact au0)
        have st := inv.back (by omega) (fun _ => by omega) h6
        exact ⟨mF p s bk.toNat (fr + 1) bk (fr + 1), H', (by exact cov_of), Sub.refl _, _, st.2, _, _, _, _, st.1, rfl, rfl, rfl⟩
      · (first | refine au ?_ | exact au0)
        exact ⟨by rw [mtB_false (inv.none (by omega) (fun _ => by omega) (by omega))], rfl⟩
theorem like_Match_spec (p s : List UInt8) (hp : p.length ≤ 140737488351232) (hs : s.length ≤ 140737488351232) (H : AH) : ACalls PG like_Match.n [.str p, .str s] H fun r H' => r = .bool (mtB p s) ∧ H' = H := by
  refine like_Match.of rfl (wpF_start ?_)
  (first | refine au ?_ | exact au0)
  refine ⟨0, mu p s 0 (-1) 0, mI p s H, ?_, fun n L H' hI => ?_⟩
  · (conv => whnf)
    refine .inr ⟨mF p s 0 0 (-1) 0, H, ?_, ?_⟩
    · (conv => whnf)
      exact ⟨(by exact cov_of), Sub.refl _⟩
    · exact like_Match_step p s hp hs H _ _ _ ⟨0, 0, -1, 0, .init, rfl, rfl, rfl⟩
  · exact ⟨rfl, like_Match_step p s hp hs H n L H' hI⟩
end Go.Proofs.YtjaigpidmngaaaaGreat

namespace Go.Proofs.YtjaigpidmngaaaaGreat
attribute [local irreducible] callA callP ACalls
structure Both (fn : Nat) (caps : List AV) (Hs : AH) (D : Opd → Opd → Dat) : Prop where
  mk ::
  call : ∀ a b : Opd, a.t.length ≤ 1000000 → b.t.length ≤ 1000000 → ACalls PG fn (opA a :: opA b :: caps) Hs fun r H' => r = .tup [datA (D a b), datA (D b a)] ∧ H' = Hs
  txt : ∀ a b : Opd, a.t.length ≤ 1000000 → (D a b).tx.length ≤ 140737488351232
theorem test1_spec {fn : Nat} {caps : List AV} {Hs : AH} {D : Opd → Opd → Dat} (F : Both fn caps Hs D) (op rel : Int) (a : List Opd) (ks : List Ex) (hat : ∀ o ∈ a, o.t.length ≤ 1000000) (hal : a.length ≤ 1000000) (idf idx : Nat) (hne : idx ≠ idf) (hf : hget Hs idf = none) (hx : hget Hs idx = none) (r : Int) (i k : Nat) (hi : i < a.length) (hk : k < a.length) :
    ACalls PG truth_both_test_1.n [.int .i64 r, .int .i64 (i : Nat), .int .i64 (k : Nat), .ptr idf 1 0 0, .ptr idx 4 0 0] ((idx, .rows 4 [exR (.mk op rel a ks)]) :: (idf, .rows 1 [[.clo fn [] caps]]) :: Hs) fun q H' => q = .bool (relB r (D a[i] a[k]) (D a[k] a[i])) ∧ H' = (idx, .rows 4 [exR (.mk op rel a ks)]) :: (idf, .rows 1 [[.clo fn [] caps]]) :: Hs := by
  have hla : (a.map fun o : Opd => [AV.int .i64 o.k, .str o.t, .bool o.neg, .int .u64 (o.num : Nat)]).length = a.length := by simp
  have hg1 := row_get (f := fun o : Opd => [AV.int .i64 o.k, .str o.t, .bool o.neg, .int .u64 (o.num : Nat)]) hi
  have hg2 := row_get (f := fun o : Opd => [AV.int .i64 o.k, .str o.t, .bool o.neg, .int .u64 (o.num : Nat)]) hk
  have hc := F.call a[i] a[k] (hat _ (List.getElem_mem hi)) (hat _ (List.getElem_mem hk))
  have hr := fun H => truth_Rel_spec r (D a[i] a[k]) (D a[k] a[i]) H
  generalize a[i] = o1 at *
  generalize a[k] = o2 at *
  generalize D o1 o2 = d1 at *
  generalize D o2 o1 = d2 at *
  have nf := neAll_of hf
  have nx := neAll_of hx
  refine ACalls.fz (truth_both_test_1.of' (Nat.le_of_ble_eq_true rfl) (wpF_start ?_))
  (first | refine au ?_ | exact au0)
  rw [hg1]
  (first | refine au ?_ | exact au0)
  rw [hg2]
  (first | refine au ?_ | exact au0)
  first | refine callF_eq (hc.sup (by exact sub_of)) ?_ | refine callG_eq rfl (hc.sup (by exact sub_of)) ?_
  (first | refine au ?_ | exact au0)
  intro id11 hid11 ht11; have n11 := neAll_of hid11; (try simp only [neAll, neAll_hset] at n11); have m11 := n11; (repeat (obtain ⟨_, m11⟩ := m11))
  (first | refine au ?_ | exact au0)
  intro id12 hid12 ht12; have n12 := neAll_of hid12; (try simp only [neAll, neAll_hset] at n12); have m12 := n12; (repeat (obtain ⟨_, m12⟩ := m12))
  (first | refine au ?_ | exact au0)
  first | refine callF_eq (hr _) ?_ | refine callG_eq rfl (hr _) ?_
  (first | refine au ?_ | exact au0)
  exact ⟨fz_of, sub_of⟩
theorem btest_spec {fn : Nat} {caps : List AV} {Hs : AH} {D : Opd → Opd → Dat} (F : Both fn caps Hs D) (op rel : Int) (a : List Opd) (ks : List Ex) (hat : ∀ o ∈ a, o.t.length ≤ 1000000) (hal : a.length ≤ 1000000) :
    ACalls PG truth_both_test.n [.clo fn [] caps, exA (.mk op rel a ks)] Hs fun q H' => q = .bool (tstB D op rel a) ∧ H' = Hs := by
  have hla : (a.map fun o : Opd => [AV.int .i64 o.k, .str o.t, .bool o.neg, .int .u64 (o.num : Nat)]).length = a.length := by simp
  refine ACalls.fz (truth_both_test.of rfl (wpF_start ?_))
  unfold tstB
  (first | refine au ?_ | exact au0)
  intro id2 hid2 ht2; have n2 := neAll_of hid2; (try simp only [neAll, neAll_hset] at n2); have m2 := n2; (repeat (obtain ⟨_, m2⟩ := m2))
  (first | refine au ?_ | exact au0)
  intro id3 hid3 ht3; have n3 := neAll_of hid3; (try simp only [neAll, neAll_hset] at n3); have m3 := n3; (repeat (obtain ⟨_, m3⟩ := m3))
  (first | refine au ?_ | exact au0)
  have hf2 := hid2
  have hx2 : hget Hs id3 = none := hget_none n3.2
  have hne : id3 ≠ id2 := n3.1
  by_cases c1 : op = 1 ∧ a.length = 2
  · rw [if_pos c1]
    obtain ⟨rfl, c1⟩ := c1
    have ht := (test1_spec F 1 rel a ks hat hal id2 id3 hne hf2 hx2 rel 0 1 (by omega) (by omega))
    obtain ⟨o0, o1, rfl⟩ := len2 c1
    simp only [List.getD_cons_zero, List.getD_cons_succ]
    clear hid2 hid3 hf2 hx2
    (first | refine au ?_ | exact au0)
    refine callF_eq (ht.sup (by exact sub_of)) ?_
    (first | refine au ?_ | exact au0)
    exact ⟨fz_of, sub_of⟩
  rw [if_neg c1]
  by_cases c2 : op = 2 ∧ a.length = 3
  · rw [if_pos c2]
    obtain ⟨rfl, c2⟩ := c2
    have ht := (test1_spec F 2 rel a ks hat hal id2 id3 hne hf2 hx2 6 0 1 (by omega) (by omega))
    have ht2 := (test1_spec F 2 rel a ks hat hal id2 id3 hne hf2 hx2 4 0 2 (by omega) (by omega))
    obtain ⟨o0, o1, o2, rfl⟩ := len3 c2
    simp only [List.getD_cons_zero, List.getD_cons_succ]
    simp only [List.getElem_cons_zero, List.getElem_cons_succ] at ht ht2
    generalize relB 6 (D o0 o1) (D o1 o0) = B1 at *
    generalize relB 4 (D o0 o2) (D o2 o0) = B2 at *
    clear hid2 hid3 hf2 hx2 c1
    (first | refine au ?_ | exact au0)
    refine callF_eq (ht.sup (by exact sub_of)) ?_
    cases B1
    · (first | refine au ?_ | exact au0)
      exact ⟨fz_of, sub_of⟩
    · (first | refine au ?_ | exact au0)
      refine callF_eq (ht2.sup (by exact sub_of)) ?_
      (first | refine au ?_ | exact au0)
      exact ⟨fz_of, sub_of⟩
  rw [if_neg c2]
  by_cases c3 : op = 3 ∧ a.length = 2
  · rw [if_pos c3]
    obtain ⟨rfl, c3⟩ := c3
    obtain ⟨o0, o1, rfl⟩ := len2 c3
    simp only [List.getD_cons_zero, List.getD_cons_succ]
    have hc := F.call o0 o1 (hat _ (by simp)) (hat _ (by simp))
    have t1 := F.txt o0 o1 (hat _ (by simp))
    have t2 := F.txt o1 o0 (hat _ (by simp))
    have hm := fun H => like_Match_spec (D o1 o0).tx (D o0 o1).tx t2 t1 H
    generalize D o0 o1 = d1 at *
    generalize D o1 o0 = d2 at *
    clear hid2 hid3 hf2 hx2 c1 c2
    (first | refine au ?_ | exact au0)
    refine callG_eq rfl (hc.sup (by exact sub_of)) ?_
    (first | refine au ?_ | exact au0)
    intro id11 hid11 ht11; have n11 := neAll_of hid11; (try simp only [neAll, neAll_hset] at n11); have m11 := n11; (repeat (obtain ⟨_, m11⟩ := m11))
    (first | refine au ?_ | exact au0)
    intro id12 hid12 ht12; have n12 := neAll_of hid12; (try simp only [neAll, neAll_hset] at n12); have m12 := n12; (repeat (obtain ⟨_, m12⟩ := m12))
    (first | refine au ?_ | exact au0)
    by_cases e1 : d1.kd = 2
    · rw [decide_eq_true e1, Bool.true_and]
      by_cases e2 : d2.kd = 2
      · rw [decide_eq_true e2, Bool.true_and]
        (first | refine au ?_ | exact au0)
        first | refine callF_eq (hm _) ?_ | refine callG_eq rfl (hm _) ?_
        (first | refine au ?_ | exact au0)
        exact ⟨fz_of, sub_of⟩
      · rw [decide_eq_false e2, Bool.false_and]
        (first | refine au ?_ | exact au0)
        exact ⟨fz_of, sub_of⟩
    · rw [decide_eq_false e1, Bool.false_and]
      (first | refine au ?_ | exact au0)
      exact ⟨fz_of, sub_of⟩
  rw [if_neg c3]
  clear hid2 hid3 hf2 hx2
  by_cases e1 : op = 1
  · have q : a.length ≠ 2 := fun q => c1 ⟨e1, q⟩
    clear c1 c2 c3
    (first | refine au ?_ | exact au0)
    exact ⟨fz_of, sub_of⟩
  by_cases e2 : op = 2
  · have q : a.length ≠ 3 := fun q => c2 ⟨e2, q⟩
    clear c1 c2 c3
    (first | refine au ?_ | exact au0)
    exact ⟨fz_of, sub_of⟩
  by_cases e3 : op = 3
  · have q : a.length ≠ 2 := fun q => c3 ⟨e3, q⟩
    clear c1 c2 c3
    (first | refine au ?_ | exact au0)
    exact ⟨fz_of, sub_of⟩
  clear c1 c2 c3
  (first | refine au ?_ | exact au0)
  exact ⟨fz_of, sub_of⟩
theorem bholds_spec {fn : Nat} {caps : List AV} {Hs : AH} {D : Opd → Opd → Dat} (F : Both fn caps Hs D) : ∀ (n : Nat) (x : Ex), SizeOf.sizeOf x < n → eT x →
    ACalls PG truth_both_holds.n [.clo fn [] caps, exA x] Hs fun q H' => q = .bool (holdB D x) ∧ H' = Hs
  | 0, x, h, _ => absurd h (Nat.not_lt_zero _)
  | n + 1, .mk op rel a ks, hn, hT => by
    simp only [eT] at hT
    obtain ⟨⟨hal, hat⟩, hkl, hks⟩ := hT
    have ih := fun y (hy : y ∈ ks) => bholds_spec F n y (by have := List.sizeOf_lt_of_mem hy; simp only [Ex.mk.sizeOf_spec] at hn; omega) (eTs_mem hks y hy)
    have hlk := exRs_len ks
    have hte := btest_spec F op rel a ks hat hal
    refine ACalls.fz (truth_both_holds.of rfl (wpF_start ?_))
    rw [holdB]
    (first | refine au ?_ | exact au0)
    intro id2 hid2 ht2; have n2 := neAll_of hid2; (try simp only [neAll, neAll_hset] at n2); have m2 := n2; (repeat (obtain ⟨_, m2⟩ := m2))
    clear hid2
    (first | refine au ?_ | exact au0)
    by_cases c4 : op = 4
    · rw [if_pos c4]
      cases ks with
      | nil =>
        rw [show holdN D [] = false from rfl]
        (first | refine au ?_ | exact au0)
        exact ⟨fz_of, sub_of⟩
      | cons y ks =>
        have hi := ih y List.mem_cons_self
        rw [show holdN D (y :: ks) = !holdB D y from rfl]
        generalize holdB D y = B at *
        obtain ⟨o2, r2, a2, k2⟩ := y
        (first | refine au ?_ | exact au0)
        refine bsplit_dec (fun c7 => ?_) (fun c7 => absurd (by simp only [exRs_len, List.length_cons]; omega) c7)
        (first | refine au ?_ | exact au0)
        rw [show (exRs (Ex.mk o2 r2 a2 k2 :: ks)).getD (Int.toNat 0) [] = exR (.mk o2 r2 a2 k2) from rfl]
        (first | refine au ?_ | exact au0)
        refine callF_eq (hi.sup (by exact sub_of)) ?_
        (first | refine au ?_ | exact au0)
        exact ⟨fz_of, sub_of⟩
    rw [if_neg c4]
    by_cases c5 : op = 5
    · rw [if_pos c5]
      (first | refine au ?_ | exact au0)
      refine loopL [(0, some _), (29, some _), (30, some _)] 31 0 ks.length (fun m => ∀ q (h : q < ks.length), q < m → holdB D ks[q] = true) (by exact cov_of) (Nat.zero_le _) (fun q h1 h2 => absurd h2 (Nat.not_lt_zero _)) (fun m hm hno => ?_)
      (first | refine au ?_ | exact au0)
      refine bsplit_dec (fun c7 => ?_) (fun c7 => ?_)
      · have hil : m < ks.length := by omega
        have hge := exR_kid hil
        have hi := ih ks[m] (List.getElem_mem hil)
        have hhit := holdA_hit (D := D) hil
        obtain ⟨E, hE⟩ : ∃ E, holdB D ks[m] = E := ⟨_, rfl⟩
        rw [hE] at hi hhit
        generalize hy : ks[m] = y at hge hi
        obtain ⟨o2, r2, a2, k2⟩ := y
        (first | refine au ?_ | exact au0)
        rw [hge]
        (first | refine au ?_ | exact au0)
        intro id7 hid7 ht7; have n7 := neAll_of hid7; (try simp only [neAll, neAll_hset] at n7); have m7 := n7; (repeat (obtain ⟨_, m7⟩ := m7))
        clear hid7
        (first | refine au ?_ | exact au0)
        refine callF_eq (hi.sup (by exact sub_of)) ?_
        cases E with
        | false =>
          rw [hhit rfl]
          (first | refine au ?_ | exact au0)
          exact ⟨fz_of, sub_of⟩
        | true =>
          (first | refine au ?_ | exact au0)
          refine nextN (by exact cov_of) (by exact sub_of) (by omega) (fun q h1 h2 => ?_)
          by_cases e : q < m
          · exact hno q h1 e
          · have : q = m := by omega
            subst this
            exact hE
      · rw [holdA_all (fun q h => hno q h (by omega))]
        (first | refine au ?_ | exact au0)
        exact ⟨fz_of, sub_of⟩
    rw [if_neg c5]
    by_cases c6 : op = 6
    · rw [if_pos c6]
      (first | refine au ?_ | exact au0)
      refine loopL [(0, some _), (43, some _), (44, some _)] 45 0 ks.length (fun m => ∀ q (h : q < ks.length), q < m → holdB D ks[q] = false) (by exact cov_of) (Nat.zero_le _) (fun q h1 h2 => absurd h2 (Nat.not_lt_zero _)) (fun m hm hno => ?_)
      (first | refine au ?_ | exact au0)
      refine bsplit_dec (fun c7 => ?_) (fun c7 => ?_)
      · have hil : m < ks.length := by omega
        have hge := exR_kid hil
        have hi := ih ks[m] (List.getElem_mem hil)
        have hhit := holdO_hit (D := D) hil
        obtain ⟨E, hE⟩ : ∃ E, holdB D ks[m] = E := ⟨_, rfl⟩
        rw [hE] at hi hhit
        generalize hy : ks[m] = y at hge hi
        obtain ⟨o2, r2, a2, k2⟩ := y
        (first | refine au ?_ | exact au0)
        rw [hge]
        (first | refine au ?_ | exact au0)
        intro id7 hid7 ht7; have n7 := neAll_of hid7; (try simp only [neAll, neAll_hset] at n7); have m7 := n7; (repeat (obtain ⟨_, m7⟩ := m7))
        clear hid7
        (first | refine au ?_ | exact au0)
        refine callF_eq (hi.sup (by exact sub_of)) ?_
        cases E with
        | true =>
          rw [hhit rfl]
          (first | refine au ?_ | exact au0)
          exact ⟨fz_of, sub_of⟩
        | false =>
          (first | refine au ?_ | exact au0)
          refine nextN (by exact cov_of) (by exact sub_of) (by omega) (fun q h1 h2 => ?_)
          by_cases e : q < m
          · exact hno q h1 e
          · have : q = m := by omega
            subst this
            exact hE
      · rw [holdO_none (fun q h => hno q h (by omega))]
        (first | refine au ?_ | exact au0)
        exact ⟨fz_of, sub_of⟩
    rw [if_neg c6]
    (first | refine au ?_ | exact au0)
    refine callF_eq (hte.sup (by exact sub_of)) ?_
    (first | refine au ?_ | exact au0)
    exact ⟨fz_of, sub_of⟩
theorem Holds_spec (l : List Ty) (hl : TysOk l) (t : Int) (x : Ex) (hx : eT x) (v : Vl) (hok : vOk v) : ACalls PG truth_Holds.n [tysA l, .int .i64 t, exA x, vlA v] [] fun r _ => r = .bool (holdB (trD l t v) x) := by
  refine ACalls.fzK (truth_Holds.of rfl (wpF_start ?_))
  obtain ⟨op, rel, a, ks⟩ := x
  obtain ⟨k0, n0, x0, vs0⟩ := v
  (first | refine au ?_ | exact au0)
  intro id5 hid5 ht5; have n5 := neAll_of hid5; (try simp only [neAll, neAll_hset] at n5); have m5 := n5; (repeat (obtain ⟨_, m5⟩ := m5))
  (first | refine au ?_ | exact au0)
  intro id6 hid6 ht6; have n6 := neAll_of hid6; (try simp only [neAll, neAll_hset] at n6); have m6 := n6; (repeat (obtain ⟨_, m6⟩ := m6))
  (first | refine au ?_ | exact au0)
  intro id7 hid7 ht7; have n7 := neAll_of hid7; (try simp only [neAll, neAll_hset] at n7); have m7 := n7; (repeat (obtain ⟨_, m7⟩ := m7))
  (first | refine au ?_ | exact au0)
  intro id8 hid8 ht8; have n8 := neAll_of hid8; (try simp only [neAll, neAll_hset] at n8); have m8 := n8; (repeat (obtain ⟨_, m8⟩ := m8))
  (first | refine au ?_ | exact au0)
  have n65 : id6 ≠ id5 := n6.1
  have n85 : id8 ≠ id5 := by simp_all
  have n86 : id8 ≠ id6 := by simp_all
  have F : Both truth_Holds_1.n [.ptr id5 1 0 0, .ptr id6 1 0 0, .ptr id8 4 0 0] (hB l t (.mk k0 n0 x0 vs0) id5 id6 id8) (trD l t (.mk k0 n0 x0 vs0)) :=
    ⟨fun a b ha hb => Holds1_spec l hl t _ hok id5 id6 id8 n86 n85 n65 a b ha hb, fun a b ha => trD_txt l t _ hok a b ha⟩
  have hb := bholds_spec F _ (.mk op rel a ks) (Nat.lt_succ_self _) hx
  refine callF_eq (hb.sup (by exact sub_of)) ?_
  (first | refine au ?_ | exact au0)
  exact fz_of
end Go.Proofs.YtjaigpidmngaaaaGreat

namespace Go.Proofs.YtjaigpidmngaaaaGreat
attribute [local irreducible] callA callP ACalls
def tksF (s : List UInt8) : Nat → Nat → Nat → TR
  | 0, a, n => .ok [(6, [], 0, s.length)]
  | k + 1, a, n => if a < s.length then
      if blnk (s.getD a 0) then tksF s k (a + 1) n
      else match lex (s.drop a) with
        | .bad e off => .bad e (a + off)
        | .tok kk t num m => if n = 64 then .bad 3 a else TR.pre [(kk, t, num, a)] (tksF s k (a + m) (n + 1))
    else .ok [(6, [], 0, s.length)]
theorem tks_fuel (s : List UInt8) : ∀ (k a n : Nat), s.length - a ≤ k → tks s a n = tksF s k a n
  | 0, a, n, h => by rw [tks_end (by omega)]; rfl
  | k + 1, a, n, h => by
    unfold tksF
    split
    · rename_i hl
      rw [tks_eq hl]
      split
      · exact tks_fuel s k _ n (by omega)
      · cases hx : lex (s.drop a) with
        | bad e off => rfl
        | tok kk t num m =>
          have := lex_bound hx
          dsimp only
          rw [tks_fuel s k _ _ (by omega)]
    · rw [tks_end (by omega)]
end Go.Proofs.YtjaigpidmngaaaaGreat

namespace Go.Proofs.YtjaigpidmngaaaaGreat
section
variable {P : Program} {rc : Bool} {n : Nat} {t e : TypeId}
def flOf (P : Program) (t : TypeId) : Option (List (Nat × Nat)) := match P.underlying t with
  | some (.struct fs) => some (fs.toList.map fun f => (f.offset, f.type))
  | _ => none
def inOf (P : Program) (t : TypeId) : Option IntKind := match P.underlying t with
  | some (.int k) => some k
  | _ => none
def boOf (P : Program) (t : TypeId) : Bool := match P.underlying t with
  | some .bool => true
  | _ => false
def stOf (P : Program) (t : TypeId) : Bool := match P.underlying t with
  | some .string => true
  | _ => false
def fsh (sh : TypeId → Option Sh) : List (Nat × Nat × Nat) → Option Sh
  | [] => some .u
  | (_, _, t) :: r => (sh t).bind fun a => (fsh sh r).map (.p a)
def flC (P : Program) (t : TypeId) : Option (List (Nat × Nat × Nat)) := (flOf P t).map fun l => l.map fun x => (x.1, P.cellsOf x.2, x.2)
def offB : Nat → Nat → List (Nat × Nat × Nat) → Bool
  | tot, o, [] => Nat.beq o tot
  | tot, o, (a, c, _) :: r => Nat.beq a o && offB tot (o + c) r
theorem fsh_of (sh : TypeId → Option Sh) : ∀ (fs : List Field) (tot o : Nat), offB tot o (fs.map fun f => (f.offset, P.cellsOf f.type, f.type)) = true → fieldsSh P sh tot o fs = fsh sh (fs.map fun f => (f.offset, P.cellsOf f.type, f.type))
  | [], tot, o, h => by
    have : o = tot := Nat.eq_of_beq_eq_true h
    simp [fieldsSh, fsh, this]
  | f :: fs, tot, o, h => by
    simp only [List.map_cons, offB, Bool.and_eq_true] at h
    have h1 : f.offset = o := Nat.eq_of_beq_eq_true h.1
    have := fsh_of sh fs tot (o + P.cellsOf f.type) h.2
    simp only [fieldsSh, fsh, List.map_cons, if_pos h1, this]
theorem shO_struct {l : List (Nat × Nat × Nat)} (h : flC P t = some l) (ho : offB (P.cellsOf t) 0 l = true) : shO rc P (n + 1) t = fsh (shO rc P n) l := by
  unfold flC flOf at h
  split at h
  · rename_i fs hu
    simp only [Option.map_some, List.map_map, Option.some.injEq] at h
    subst h
    simp only [shO, hu]
    exact fsh_of _ _ _ _ ho
  · cases h
theorem shO_int {k : IntKind} (h : inOf P t = some k) : shO rc P (n + 1) t = some (.int k) := by
  unfold inOf at h
  split at h
  · rename_i hu
    simp only [Option.some.injEq] at h
    subst h
    simp only [shO, hu]
  · cases h
theorem shO_bool (h : boOf P t = true) : shO rc P (n + 1) t = some .bool := by
  unfold boOf at h
  split at h
  · rename_i hu
    simp only [shO, hu]
  · cases h
theorem shO_str (h : stOf P t = true) : shO rc P (n + 1) t = some .str := by
  unfold stOf at h
  split at h
  · rename_i hu
    simp only [shO, hu]
  · cases h
theorem fsh_some {sh : TypeId → Option Sh} : ∀ {l : List (Nat × Nat × Nat)}, (∀ x ∈ l, ∃ a, sh x.2.2 = some a) → ∃ a, fsh sh l = some a
  | [], _ => ⟨_, rfl⟩
  | x :: l, h => by
    obtain ⟨a, ha⟩ := h x List.mem_cons_self
    obtain ⟨b, hb⟩ := fsh_some (l := l) fun y hy => h y (List.mem_cons_of_mem _ hy)
    exact ⟨_, by simp only [fsh, ha, hb, Option.bind_some, Option.map_some]; rfl⟩
def clB (P : Program) (S : List Nat) : Bool := S.all fun t => match P.underlying t with
  | some .bool => true
  | some (.int _) => true
  | some .string => true
  | some (.struct fs) => (match flC P t with
    | some l => offB (P.cellsOf t) 0 l && l.all (fun x => S.contains x.2.2)
    | none => false)
  | some (.slice e) => Nat.ble 1 (P.cellsOf e) && S.contains e
  | _ => false
theorem clB_some {S : List Nat} (h : clB P S = true) : ∀ (n : Nat) (t : Nat), t ∈ S → ∃ sh, shO true P n t = some sh
  | 0, t, _ => ⟨.no, rfl⟩
  | n + 1, t, ht => by
    have q := List.all_eq_true.1 h t ht
    have ih := clB_some h n
    split at q <;> rename_i hu
    · exact ⟨_, by simp only [shO, hu]; rfl⟩
    · exact ⟨_, by simp only [shO, hu]; rfl⟩
    · exact ⟨_, by simp only [shO, hu]; rfl⟩
    · split at q
      · rename_i l hl
        simp only [Bool.and_eq_true, List.all_eq_true, List.contains_iff_mem] at q
        rw [shO_struct hl q.1]
        exact fsh_some fun x hx => ih _ (q.2 x hx)
      · cases q
    · simp only [Bool.and_eq_true, List.contains_iff_mem] at q
      obtain ⟨a, ha⟩ := ih _ q.2
      exact ⟨_, by simp only [shO, hu, if_pos (show 0 < P.cellsOf _ from Nat.le_of_ble_eq_true q.1), ha, Option.map_some]; rfl⟩
    · cases q
end
section
variable {P : Program} {m : Nat} {t e : TypeId} {a sh : Sh} {x vs : List AV}
theorem okInt {k : IntKind} (h : inOf P t = some k) (hs : shO true P m t = some a) (ho : a.OkN x) : ∃ n, x = [.int k n] ∧ k.min ≤ n ∧ n ≤ k.max := by
  cases m with
  | zero => simp only [shO, if_true, Option.some.injEq] at hs; subst hs; exact ho.elim
  | succ m =>
    rw [shO_int h] at hs
    simp only [Option.some.injEq] at hs; subst hs
    obtain ⟨n, h1, h2⟩ := ho
    simp only [Lit.wf, Bool.and_eq_true, decide_eq_true_eq] at h2
    exact ⟨n, h1, h2⟩
theorem okU64 (h : inOf P t = some .u64) (hs : shO true P m t = some a) (ho : a.OkN x) : ∃ n : Nat, x = [.int .u64 (n : Nat)] ∧ n < 18446744073709551616 := by
  obtain ⟨n, h1, h2, h3⟩ := okInt h hs ho
  have e1 : IntKind.min .u64 = 0 := rfl
  have e2 : IntKind.max .u64 = 18446744073709551615 := rfl
  rw [e1] at h2; rw [e2] at h3
  exact ⟨n.toNat, by rw [h1, Int.toNat_of_nonneg h2], by omega⟩
theorem okI64 (h : inOf P t = some .i64) (hs : shO true P m t = some a) (ho : a.OkN x) : ∃ n : Int, x = [.int .i64 n] ∧ -9223372036854775808 ≤ n ∧ n ≤ 9223372036854775807 := okInt h hs ho
theorem okBool (h : boOf P t = true) (hs : shO true P m t = some a) (ho : a.OkN x) : ∃ b, x = [.bool b] := by
  cases m with
  | zero => simp only [shO, if_true, Option.some.injEq] at hs; subst hs; exact ho.elim
  | succ m =>
    rw [shO_bool h] at hs
    simp only [Option.some.injEq] at hs; subst hs
    exact ho
theorem okStr (h : stOf P t = true) (hs : shO true P m t = some a) (ho : a.OkN x) : ∃ l : List UInt8, x = [.str l] ∧ l.length ≤ 140737488351232 := by
  cases m with
  | zero => simp only [shO, if_true, Option.some.injEq] at hs; subst hs; exact ho.elim
  | succ m =>
    rw [shO_str h] at hs
    simp only [Option.some.injEq] at hs; subst hs
    exact ho
theorem okStruct {l : List (Nat × Nat × Nat)} (h : flC P t = some l) (ho : offB (P.cellsOf t) 0 l = true) (hs : shO true P m t = some a) (hk : a.OkN x) : ∃ k, m = k + 1 ∧ fsh (shO true P k) l = some a := by
  cases m with
  | zero => simp only [shO, if_true, Option.some.injEq] at hs; subst hs; exact hk.elim
  | succ m => exact ⟨m, rfl, by rw [← shO_struct h ho]; exact hs⟩
theorem okCons {s : TypeId → Option Sh} {o c : Nat} {r : List (Nat × Nat × Nat)} (h : fsh s ((o, c, t) :: r) = some sh) (hk : sh.OkN vs) :
    ∃ a x b y, s t = some a ∧ a.OkN x ∧ fsh s r = some b ∧ b.OkN y ∧ vs = x ++ y := by
  simp only [fsh, Option.bind_eq_some_iff, Option.map_eq_some_iff] at h
  obtain ⟨a, h1, b, h2, rfl⟩ := h
  obtain ⟨x, y, h3, h4, h5⟩ := hk
  exact ⟨a, x, b, y, h1, h4, h2, h5, h3⟩
theorem okNil {s : TypeId → Option Sh} (h : fsh s [] = some sh) (hk : sh.OkN vs) : vs = [] := by
  simp only [fsh, Option.some.injEq] at h
  subst h; exact hk
end
end Go.Proofs.YtjaigpidmngaaaaGreat

namespace Go.Proofs.YtjaigpidmngaaaaGreat
def Shapes.TypS : List Nat := [ty_S_api_Type, ty_api_Type, ty_int, ty_uint64, ty_string, ty_bool, ty_S_api_Item, ty_api_Item]
theorem int_sh : ∀ n, ∃ sh, shO true PG n ty_int = some sh := fun n => clB_some (S := Shapes.TypS) (by kernel_rfl) n _ (by simp [Shapes.TypS])
theorem int_arg {av : AV} (h : ∃ n sh, shO true PG n ty_int = some sh ∧ ArgOk false sh av) : ∃ n : Int, av = .int .i64 n ∧ -9223372036854775808 ≤ n ∧ n ≤ 9223372036854775807 := by
  obtain ⟨n, sh, h1, h2⟩ := h
  obtain ⟨av', h3, h4⟩ := h2.nonil
  obtain ⟨k, e, h5⟩ := okI64 (by kernel_rfl) h1 h3
  simp only [List.cons.injEq, and_true] at e
  subst e
  cases h4 with
  | refl _ => exact ⟨k, rfl, h5⟩
end Go.Proofs.YtjaigpidmngaaaaGreat

namespace Go.Proofs.YtjaigpidmngaaaaGreat
def nItR : List It → AV
  | [] => .nilS
  | x :: l => .rows 5 ((x :: l).map itR)
def ntyR (t : Ty) : List AV := [.int .i64 t.kd, .str t.nm, .int .i64 t.bd, .int .i64 t.el, .int .i64 t.tg, nItR t.its]
theorem nw_items (l : List It) : Nw (nItR l) (.rows 5 (l.map itR)) := by
  cases l with
  | nil => exact .nil 5
  | cons x l => exact .refl _
theorem nwl_ty (t : Ty) : NwL (ntyR t) (tyR t) := .cons (.refl _) (.cons (.refl _) (.cons (.refl _) (.cons (.refl _) (.cons (.refl _) (.cons (nw_items t.its) (.refl _))))))
theorem nw_map {α : Type} {f g : α → List AV} (h : ∀ x, NwL (f x) (g x)) (sz : Nat) (l : List α) : Nw (.rows sz (l.map f)) (.rows sz (l.map g)) := by
  refine .rows sz _ _ (by simp) (fun i r r' h1 h2 => ?_) (fun i r r' j v v' h1 h2 h3 h4 => ?_)
  · rw [List.getElem?_map, Option.map_eq_some_iff] at h1 h2
    obtain ⟨x, hx, rfl⟩ := h1
    obtain ⟨y, hy, rfl⟩ := h2
    rw [hx] at hy; cases hy
    exact (h x).1
  · rw [List.getElem?_map, Option.map_eq_some_iff] at h1 h2
    obtain ⟨x, hx, rfl⟩ := h1
    obtain ⟨y, hy, rfl⟩ := h2
    rw [hx] at hy; cases hy
    exact (h x).2 j v v' h3 h4
theorem nw_tys (l : List Ty) : Nw (.rows 6 (l.map ntyR)) (tysA l) := nw_map nwl_ty 6 l
end Go.Proofs.YtjaigpidmngaaaaGreat

namespace Go.Proofs.YtjaigpidmngaaaaGreat
attribute [local irreducible] callA callP ACalls
def awTl : List Ty := [⟨2, [], 0, 0, 0, []⟩, ⟨11, [], 3, 0, 0, []⟩, ⟨13, [80], 0, 0, 0, [⟨[115], 0, 1, false, false⟩]⟩]
theorem awTl_ok : TysOk awTl := ⟨by decide, by
  intro t ht
  simp only [awTl, List.mem_cons, List.not_mem_nil, or_false] at ht
  rcases ht with rfl | rfl | rfl
  all_goals exact ⟨by decide, by decide, by simp, by simp⟩⟩
def awTv : Vl := .mk 13 0 [] [.mk 11 0 [] [.mk 2 5 [] []]]
def awX1 : List UInt8 := [115, 91, 48, 93, 32, 61, 32, 53]
def awX2 : List UInt8 := [115, 91, 49, 93, 32, 61, 32, 53, 32, 79, 82, 32, 115, 91, 49, 93, 32, 60, 62, 32, 53]
def awE1 : Ex := .mk 1 1 [⟨1, [115, 91, 48, 93], false, 0⟩, ⟨2, [], false, 5⟩] []
def awE2 : Ex := .mk 6 0 [] [.mk 1 1 [⟨1, [115, 91, 49, 93], false, 0⟩, ⟨2, [], false, 5⟩] [], .mk 1 2 [⟨1, [115, 91, 49, 93], false, 0⟩, ⟨2, [], false, 5⟩] []]
theorem awX1_eq : parseP awX1 = (awE1, 0, 0) := by
  rw [parseP_ok (l := [(1, [115], 0, 0), (5, [91], 0, 1), (2, [48], 0, 2), (5, [93], 0, 3), (5, [61], 0, 5), (2, [53], 5, 7), (6, [], 0, 8)]) (by
    unfold tokens
    rw [if_neg (by decide), tks_fuel awX1 8 0 0 (by decide)]
    kernel_rfl)]
  kernel_rfl
theorem awX2_eq : parseP awX2 = (awE2, 0, 0) := by
  rw [parseP_ok (l := [(1, [115], 0, 0), (5, [91], 0, 1), (2, [49], 1, 2), (5, [93], 0, 3), (5, [61], 0, 5), (2, [53], 5, 7), (1, [79, 82], 0, 9), (1, [115], 0, 12), (5, [91], 0, 13), (2, [49], 1, 14), (5, [93], 0, 15), (5, [60, 62], 0, 17), (2, [53], 5, 20), (6, [], 0, 21)]) (by
    unfold tokens
    rw [if_neg (by decide), tks_fuel awX2 21 0 0 (by decide)]
    kernel_rfl)]
  kernel_rfl
theorem awT_known : knownT awTl 2 := ⟨by decide, by decide, by kernel_rfl⟩
theorem awT_pcs (n : UInt8) (k : Nat) (h : numP [91, n, 93] = (k, 3)) : pcs [115, 91, n, 93] true = [([115], 0, true), ([], k, true)] := by
  have hn : ¬ 0 < (numP [115, 91, n, 93]).2 := by
    intro q
    obtain ⟨r, e⟩ := numP_hit q
    simp [brk] at e
  have hl : nl [115, 91, n, 93] = 1 := by
    rw [nl_cons, if_pos (by decide)]; rfl
  rw [pcs_item (r := [115, 91, n, 93]) (by simp) hn rfl, hl, if_neg (by decide), show List.drop 1 [115, 91, n, 93] = [91, n, 93] from rfl, pcs_num (by simp) (by rw [h]; simp), h, show List.drop 3 [91, n, 93] = ([] : List UInt8) from rfl, pcs_end]
  rfl
theorem awT_f0 : findP awTl 2 [115, 91, 48, 93] = ([(false, 0), (true, 0)], 0, 0) := by
  unfold findP
  rw [if_pos awT_known, awT_pcs 48 0 (by decide)]
  kernel_rfl
theorem awT_f1 : findP awTl 2 [115, 91, 49, 93] = ([(false, 0), (true, 1)], 0, 0) := by
  unfold findP
  rw [if_pos awT_known, awT_pcs 49 1 (by decide)]
  kernel_rfl
abbrev awD : Opd → Opd → Dat := trD awTl 2 awTv
theorem awD_0 (b : Opd) : awD ⟨1, [115, 91, 48, 93], false, 0⟩ b = ⟨1, false, 5, []⟩ := by
  unfold awD trD
  dsimp only
  rw [if_neg (by simp), awT_f0, if_neg (by simp), if_pos awT_known]
  kernel_rfl
theorem awD_1 (b : Opd) : awD ⟨1, [115, 91, 49, 93], false, 0⟩ b = dat0 := by
  unfold awD trD
  dsimp only
  rw [if_neg (by simp), awT_f1, if_neg (by simp), if_pos awT_known]
  kernel_rfl
theorem awD_5 (b : Opd) : awD ⟨2, [], false, 5⟩ b = ⟨1, false, 5, []⟩ := rfl
theorem awH_1 : holdB awD awE1 = true := by
  simp only [awE1, holdB, tstB, List.length_cons, List.length_nil, List.getD_cons_zero, List.getD_cons_succ, awD_0, awD_5]
  decide
theorem awH_2 : holdB awD awE2 = false := by
  simp only [awE2, holdB, holdO, tstB, List.length_cons, List.length_nil, List.getD_cons_zero, List.getD_cons_succ, awD_1, awD_5]
  decide
theorem nw_valR (k : Int) (n : Nat) (t : List UInt8) : NwL [.int .i64 k, .int .u64 (n : Nat), .str t, .nilS] (vlR (.mk k n t [])) := .cons (.refl _) (.cons (.refl _) (.cons (.refl _) (.cons (.nil 4) (.refl _))))
theorem nw_awTv : Nw (.agg [.int .i64 13, .int .u64 0, .str [], .rows 4 [[.int .i64 11, .int .u64 0, .str [], .rows 4 [[.int .i64 2, .int .u64 5, .str [], .nilS]]]]]) (vlA awTv) := by
  have q1 : Nw (.rows 4 [[.int .i64 2, .int .u64 5, .str [], .nilS]]) (.rows 4 (vlRs [.mk 2 5 [] []])) := nw_map (f := fun _ : Unit => [.int .i64 2, .int .u64 5, .str [], .nilS]) (g := fun _ : Unit => vlR (.mk 2 5 [] [])) (fun _ => nw_valR 2 5 []) 4 [()]
  have q2 : NwL [.int .i64 11, .int .u64 0, .str [], .rows 4 [[.int .i64 2, .int .u64 5, .str [], .nilS]]] (vlR (.mk 11 0 [] [.mk 2 5 [] []])) := .cons (.refl _) (.cons (.refl _) (.cons (.refl _) (.cons q1 (.refl _))))
  have q3 : Nw (.rows 4 [[.int .i64 11, .int .u64 0, .str [], .rows 4 [[.int .i64 2, .int .u64 5, .str [], .nilS]]]]) (.rows 4 (vlRs [.mk 11 0 [] [.mk 2 5 [] []]])) := nw_map (f := fun _ : Unit => [.int .i64 11, .int .u64 0, .str [], .rows 4 [[.int .i64 2, .int .u64 5, .str [], .nilS]]]) (g := fun _ : Unit => vlR (.mk 11 0 [] [.mk 2 5 [] []])) (fun _ => q2) 4 [()]
  have q4 : NwL [.int .i64 13, .int .u64 0, .str [], .rows 4 [[.int .i64 11, .int .u64 0, .str [], .rows 4 [[.int .i64 2, .int .u64 5, .str [], .nilS]]]]] (vlR awTv) := .cons (.refl _) (.cons (.refl _) (.cons (.refl _) (.cons q3 (.refl _))))
  exact .agg _ _ q4.1 q4.2
theorem tr_awake_spec (H : AH) : ACalls PG broadsheetlaw19_awake.n [] H fun r H' => r = .bool true ∧ H' = H := by
  have h1 := fun H => (Holds_spec awTl awTl_ok 2 awE1 (by simp [awE1, eT, eTs]) awTv (by simp [awTv, vOk, vOks])).frame H
  have h2 := fun H => (Holds_spec awTl awTl_ok 2 awE2 (by simp [awE2, eT, eTs]) awTv (by simp [awTv, vOk, vOks])).frame H
  rw [show holdB (trD awTl 2 awTv) awE1 = true from awH_1] at h1
  rw [show holdB (trD awTl 2 awTv) awE2 = false from awH_2] at h2
  have n1 := fun H => (h1 H).nw (.cons (nw_tys awTl) (.cons (.refl _) (.cons (.refl _) (.cons nw_awTv (.refl _)))))
  have n2 := fun H => (h2 H).nw (.cons (nw_tys awTl) (.cons (.refl _) (.cons (.refl _) (.cons nw_awTv (.refl _)))))
  refine ACalls.fz (broadsheetlaw19_awake.of rfl (wpF_start ?_))
  (first | refine au ?_ | exact au0)
  intro id17 hid17 ht17; have n17 := neAll_of hid17; (try simp only [neAll, neAll_hset] at n17); have m17 := n17; (repeat (obtain ⟨_, m17⟩ := m17))
  (first | refine au ?_ | exact au0)
  refine callF_eq ((Parse_spec (s := awX1) (by decide)).frame _) ?_
  rw [awX1_eq]
  unfold awE1
  (first | refine au ?_ | exact au0)
  intro id18 hid18 ht18; have n18 := neAll_of hid18; (try simp only [neAll, neAll_hset] at n18); have m18 := n18; (repeat (obtain ⟨_, m18⟩ := m18))
  (first | refine au ?_ | exact au0)
  intro id19 hid19 ht19; have n19 := neAll_of hid19; (try simp only [neAll, neAll_hset] at n19); have m19 := n19; (repeat (obtain ⟨_, m19⟩ := m19))
  (first | refine au ?_ | exact au0)
  refine callF_eq ((Parse_spec (s := awX2) (by decide)).frame _) ?_
  rw [awX2_eq]
  unfold awE2
  (first | refine au ?_ | exact au0)
  intro id20 hid20 ht20; have n20 := neAll_of hid20; (try simp only [neAll, neAll_hset] at n20); have m20 := n20; (repeat (obtain ⟨_, m20⟩ := m20))
  (first | refine au ?_ | exact au0)
  intro id21 hid21 ht21; have n21 := neAll_of hid21; (try simp only [neAll, neAll_hset] at n21); have m21 := n21; (repeat (obtain ⟨_, m21⟩ := m21))
  (first | refine au ?_ | exact au0)
  first | refine callF_eq (n1 _) ?_ | refine callG_eq rfl (n1 _) ?_
  (first | refine au ?_ | exact au0)
  first | refine callF_eq (n2 _) ?_ | refine callG_eq rfl (n2 _) ?_
  (first | refine au ?_ | exact au0)
  exact ⟨fz_of, sub_of⟩
theorem TruthRel_spec (rel : Int) (a b : Dat) : ACalls PG broadsheetlaw19_TruthRel.n [.int .i64 rel, datA a, datA b] [] fun r _ => r = .bool true := by
  have h1 := fun H => truth_Rel_spec rel a b H
  have h2 := fun H => r19_Rel_spec rel a b H
  generalize relB rel a b = B at *
  refine ACalls.fzK (broadsheetlaw19_TruthRel.of rfl (wpF_start ?_))
  (first | refine au ?_ | exact au0)
  intro id3 hid3 ht3; have n3 := neAll_of hid3; (try simp only [neAll, neAll_hset] at n3); have m3 := n3; (repeat (obtain ⟨_, m3⟩ := m3))
  (first | refine au ?_ | exact au0)
  intro id4 hid4 ht4; have n4 := neAll_of hid4; (try simp only [neAll, neAll_hset] at n4); have m4 := n4; (repeat (obtain ⟨_, m4⟩ := m4))
  (first | refine au ?_ | exact au0)
  first | refine callF_eq (h1 _) ?_ | refine callG_eq rfl (h1 _) ?_
  (first | refine au ?_ | exact au0)
  first | refine callF_eq (h2 _) ?_ | refine callG_eq rfl (h2 _) ?_
  cases B
  all_goals
    (first | refine au ?_ | exact au0)
    first | refine callF_eq (tr_awake_spec _) ?_ | refine callG_eq rfl (tr_awake_spec _) ?_
    (first | refine au ?_ | exact au0)
    exact fz_of
def cntR (a b : Dat) : Nat → Nat
  | 0 => 0
  | n + 1 => cntR a b n + (if relB ((n + 1 : Nat) : Int) a b = true then 1 else 0)
theorem relB_no {a b : Dat} (h : a.kd ≠ b.kd ∨ a.kd = 0) (r : Int) : relB r a b = false := by unfold relB; rw [if_pos h]
theorem cntR_no {a b : Dat} (h : a.kd ≠ b.kd ∨ a.kd = 0) : ∀ n, cntR a b n = 0
  | 0 => rfl
  | n + 1 => by simp [cntR, cntR_no h n, relB_no h]
theorem cntR_le (a b : Dat) : ∀ n, cntR a b n ≤ n
  | 0 => Nat.le_refl _
  | n + 1 => by have := cntR_le a b n; simp only [cntR]; split <;> omega
theorem relB_all {a b : Dat} (h1 : a.kd = b.kd) (h2 : a.kd ≠ 0) : relB 1 a b = decide (cmpD a b = 0) ∧ relB 2 a b = decide (cmpD a b ≠ 0) ∧ relB 3 a b = decide (cmpD a b < 0) ∧ relB 4 a b = decide (cmpD a b ≤ 0) ∧ relB 5 a b = decide (0 < cmpD a b) ∧ relB 6 a b = decide (0 ≤ cmpD a b) := by
  have h : ¬ (a.kd ≠ b.kd ∨ a.kd = 0) := by omega
  unfold relB
  simp only [if_neg h]
  exact ⟨rfl, rfl, rfl, rfl, rfl, rfl⟩
theorem cnt_three {a b : Dat} (h1 : a.kd = b.kd) (h2 : a.kd ≠ 0) : cntR a b 6 = 3 := by
  obtain ⟨v1, v2, v3, v4, v5, v6⟩ := relB_all h1 h2
  have e : cntR a b 6 = 0 + (if relB 1 a b = true then 1 else 0) + (if relB 2 a b = true then 1 else 0) + (if relB 3 a b = true then 1 else 0) + (if relB 4 a b = true then 1 else 0) + (if relB 5 a b = true then 1 else 0) + (if relB 6 a b = true then 1 else 0) := rfl
  rw [e, v1, v2, v3, v4, v5, v6]
  rcases cmpD_three a b h1 with ⟨q, _⟩ | ⟨q, _⟩ | ⟨q, _⟩ <;> rw [q] <;> rfl
theorem TruthOne_spec (a b : Dat) : ACalls PG broadsheetlaw19_TruthOne.n [datA a, datA b] [] fun r _ => r = .bool true := by
  have h1 := fun rel H => truth_Rel_spec rel a b H
  have h2 := fun rel H => truth_Rel_spec rel b a H
  refine ACalls.fzK (broadsheetlaw19_TruthOne.of rfl (wpF_start ?_))
  (first | refine au ?_ | exact au0)
  intro id2 hid2 ht2; have n2 := neAll_of hid2; (try simp only [neAll, neAll_hset] at n2); have m2 := n2; (repeat (obtain ⟨_, m2⟩ := m2))
  (first | refine au ?_ | exact au0)
  intro id3 hid3 ht3; have n3 := neAll_of hid3; (try simp only [neAll, neAll_hset] at n3); have m3 := n3; (repeat (obtain ⟨_, m3⟩ := m3))
  (first | refine au ?_ | exact au0)
  refine loopM (S := Nat) [(2, some _), (3, some _)] (fun r => [(5, some (.int .i64 (cntR a b r : Nat))), (6, some (.int .i64 (r + 1 : Nat)))]) (fun _ => _) (fun r => 6 - r) (fun r => r ≤ 6) 0 (by exact cov_of) (Sub.refl _) (Nat.zero_le _) (fun r hr => ?_)
  have hcl := cntR_le a b r
  (first | refine au ?_ | exact au0)
  refine bsplit_dec (fun c => ?_) (fun c => ?_)
  · have hcs : cntR a b (r + 1) = cntR a b r + (if relB ((r + 1 : Nat) : Int) a b = true then 1 else 0) := rfl
    have hr1 := fun H => h1 ((r + 1 : Nat) : Int) H
    generalize relB ((r + 1 : Nat) : Int) a b = B at *
    (first | refine au ?_ | exact au0)
    first | refine callF_eq (hr1 _) ?_ | refine callG_eq rfl (hr1 _) ?_
    cases B
    · (first | refine au ?_ | exact au0)
      refine nextS (S := Nat) (r + 1) (by rw [hcs]; exact (by exact cov_of)) (by exact sub_of) (by omega) (by omega)
    · (first | refine au ?_ | exact au0)
      refine nextS (S := Nat) (r + 1) (by rw [hcs]; exact (by exact cov_of)) (by exact sub_of) (by omega) (by omega)
  have hr6 : r = 6 := by omega
  subst hr6
  by_cases k1 : a.kd = b.kd
  rotate_left
  · have e := cntR_no (a := a) (b := b) (.inl k1) 6
    rw [e]
    (first | refine au ?_ | exact au0)
    first | refine callF_eq (tr_awake_spec _) ?_ | refine callG_eq rfl (tr_awake_spec _) ?_
    (first | refine au ?_ | exact au0)
    exact fz_of
  by_cases k2 : a.kd = 0
  · have e := cntR_no (a := a) (b := b) (.inr k2) 6
    rw [e]
    (first | refine au ?_ | exact au0)
    first | refine callF_eq (tr_awake_spec _) ?_ | refine callG_eq rfl (tr_awake_spec _) ?_
    (first | refine au ?_ | exact au0)
    exact fz_of
  rw [cnt_three k1 k2]
  have e1 := fun H => h1 1 H
  have e2 := fun H => h1 2 H
  have e3 := fun H => h1 3 H
  have e4 := fun H => h1 4 H
  have e5 := fun H => h1 5 H
  have e6 := fun H => h1 6 H
  have e7 := fun H => h2 5 H
  obtain ⟨v1, v2, v3, v4, v5, v6⟩ := relB_all k1 k2
  obtain ⟨_, _, _, _, w5, _⟩ := relB_all k1.symm (by omega)
  rw [v1] at e1
  rw [v2] at e2
  rw [v3] at e3
  rw [v4] at e4
  rw [v5] at e5
  rw [v6] at e6
  rw [w5] at e7
  clear v1 v2 v3 v4 v5 v6 w5 h1 h2
  rcases cmpD_three a b k1 with ⟨q, w⟩ | ⟨q, w⟩ | ⟨q, w⟩
  all_goals
    rw [q] at e1 e2 e3 e4 e5 e6
    rw [w] at e7
    (first | refine au ?_ | exact au0)
    first | refine callF_eq (e3 _) ?_ | refine callG_eq rfl (e3 _) ?_
    (first | refine au ?_ | exact au0)
    first | refine callF_eq (e1 _) ?_ | refine callG_eq rfl (e1 _) ?_
    (first | refine au ?_ | exact au0)
    first | refine callF_eq (e5 _) ?_ | refine callG_eq rfl (e5 _) ?_
    (first | refine au ?_ | exact au0)
    first | refine callF_eq (e2 _) ?_ | refine callG_eq rfl (e2 _) ?_
    (first | refine au ?_ | exact au0)
    first | refine callF_eq (e4 _) ?_ | refine callG_eq rfl (e4 _) ?_
    (first | refine au ?_ | exact au0)
    first | refine callF_eq (e6 _) ?_ | refine callG_eq rfl (e6 _) ?_
    (first | refine au ?_ | exact au0)
    first | refine callF_eq (e7 _) ?_ | refine callG_eq rfl (e7 _) ?_
    (first | refine au ?_ | exact au0)
    first | refine callF_eq (tr_awake_spec _) ?_ | refine callG_eq rfl (tr_awake_spec _) ?_
    (first | refine au ?_ | exact au0)
    exact fz_of
theorem datum_fl : flC PG ty_api_Datum = some [(0, 1, ty_int), (1, 1, ty_bool), (2, 1, ty_uint64), (3, 1, ty_string)] := by kernel_rfl
theorem datum_sh : ∀ n, ∃ sh, shO true PG n ty_api_Datum = some sh := fun n => clB_some (S := [ty_api_Datum, ty_int, ty_bool, ty_uint64, ty_string]) (by kernel_rfl) n _ (by simp)
theorem datum_arg {av : AV} (h : ∃ n sh, shO true PG n ty_api_Datum = some sh ∧ ArgOk true sh av) : ∃ d : Dat, Nw av (datA d) := by
  obtain ⟨n, sh, hs, h2⟩ := h
  obtain ⟨av', h3, h4⟩ := h2.nonil
  obtain ⟨vs, rfl, hk⟩ := h3
  obtain ⟨k, rfl, h1⟩ := okStruct datum_fl (by kernel_rfl) hs hk
  obtain ⟨_, _, _, _, a1, a2, h2, k2, rfl⟩ := okCons h1 hk
  obtain ⟨_, _, _, _, b1, b2, h3, k3, rfl⟩ := okCons h2 k2
  obtain ⟨_, _, _, _, c1, c2, h4', k4, rfl⟩ := okCons h3 k3
  obtain ⟨_, _, _, _, d1, d2, h5, k5, rfl⟩ := okCons h4' k4
  have := okNil h5 k5; subst this
  obtain ⟨kd, rfl, _⟩ := okI64 (by kernel_rfl) a1 a2
  obtain ⟨ng, rfl⟩ := okBool (by kernel_rfl) b1 b2
  obtain ⟨u, rfl, hu⟩ := okU64 (by kernel_rfl) c1 c2
  obtain ⟨s, rfl, hs⟩ := okStr (by kernel_rfl) d1 d2
  exact ⟨⟨kd, ng, u, s⟩, h4⟩
theorem TruthRel_row (a0 : AV) (h0 : ∃ n sh, shO true PG n ty_int = some sh ∧ ArgOk false sh a0) (a1 : AV) (h1 : ∃ n sh, shO true PG n ty_api_Datum = some sh ∧ ArgOk true sh a1) (a2 : AV) (h2 : ∃ n sh, shO true PG n ty_api_Datum = some sh ∧ ArgOk true sh a2) : ACalls PG broadsheetlaw19_TruthRel.n [a0, a1, a2] [] fun r _ => r = .bool true := by
  obtain ⟨t, rfl, _⟩ := int_arg h0
  obtain ⟨a, q1⟩ := datum_arg h1
  obtain ⟨b, q2⟩ := datum_arg h2
  exact (TruthRel_spec t a b).nw (.cons (.refl _) (.cons q1 (.cons q2 (.refl _))))
theorem TruthOne_row (a0 : AV) (h0 : ∃ n sh, shO true PG n ty_api_Datum = some sh ∧ ArgOk true sh a0) (a1 : AV) (h1 : ∃ n sh, shO true PG n ty_api_Datum = some sh ∧ ArgOk true sh a1) : ACalls PG broadsheetlaw19_TruthOne.n [a0, a1] [] fun r _ => r = .bool true := by
  obtain ⟨a, q1⟩ := datum_arg h0
  obtain ⟨b, q2⟩ := datum_arg h1
  exact (TruthOne_spec a b).nw (.cons q1 (.cons q2 (.refl _)))
end Go.Proofs.YtjaigpidmngaaaaGreat
