/- Texts of this proof, one behind the other: RTypCheck, RTypMore, ValSpec, StrSpec, FitSpec, FitSpec2, FitSpec3, RFitSpec, RFitSpec2, RFitSpec3, SimRec, TypArg, FitLaw, FitMath2, FitPartsLaw. -/
import Derived.Test.YtodiahhfpcdejaaPkP5
/- Types in the reference, walked: which may be. -/
namespace Go.Proofs.Ytodiahhfpcdejaa
set_option autoImplicit false
set_option linter.unusedSimpArgs false
set_option linter.unusedVariables false
attribute [local irreducible] callA callP ACalls
theorem dpT_pre (l : List Ty) : ∀ (n p : Nat), p < n → (dpT l n).getD p 0 = (dpT l (p + 1)).getD p 0
  | 0, p, h => by omega
  | n + 1, p, h => by
    by_cases e : p = n
    · rw [e]
    · rw [dpT_succ, List.getD_eq_getElem?_getD, List.getElem?_append_left (by rw [dpT_len]; omega), ← List.getD_eq_getElem?_getD]
      exact dpT_pre l n p (by omega)
theorem dpT_deep {l : List Ty} {n p : Nat} (h : p < n) (hn : n ≤ l.length) : (dpT l n).getD p 0 = deepT l p := by
  unfold deepT
  rw [if_pos (by omega), dpT_pre l n p h, Int.toNat_natCast]
theorem deepT_eq {l : List Ty} {n : Nat} (h : n < l.length) : deepT l n = (parts l[n]).foldl (dpF (dpT l n) n) 1 := by
  unfold deepT
  rw [if_pos (by omega), Int.toNat_natCast, dpT_succ, getD_get h, List.getD_eq_getElem?_getD, List.getElem?_append_right (by rw [dpT_len]; omega), dpT_len]
  simp
theorem r6_Deep_spec : ∀ (m : Nat) (l : List Ty) (_ : TysOk l) (t : Int) (_ : t < m) (H : AH), ACalls PG broadsheetref06_Deep.n [tysA l, .int .i64 t] H fun r H' => r = .int .i64 (deepT l t : Nat) ∧ H' = H := by
  intro m
  induction m with
  | zero =>
    intro l hl t ht H
    refine ACalls.fz (broadsheetref06_Deep.of rfl (wpF_start ?_))
    unfold deepT
    rw [if_neg (by omega)]
    (repeat' (first | (refine au ?_; first | refine bsplit_dec (fun _ => ?_) (fun _ => ?_) | refine bsplit_intro (fun _ => ?_) (fun _ => ?_)) | exact au0 | fail)); (all_goals try (first | refine au ?_ | fail))
    all_goals first | omega | exact ⟨fz_of, sub_of⟩
  | succ m ih =>
    intro l hl t ht H
    have hlen : (l.map tyR).length = l.length := by simp
    have hll := hl.len
    refine ACalls.fz (broadsheetref06_Deep.of rfl (wpF_start ?_))
    by_cases hb : 0 ≤ t ∧ t < l.length
    · obtain ⟨n, rfl⟩ : ∃ n : Nat, t = n := ⟨t.toNat, by omega⟩
      have hnl : n < l.length := by omega
      have hge := row_get (f := tyR) hnl
      have hdt := deepT_eq hnl
      have hti := (hl.all _ (List.getElem_mem hnl)).its
      rw [hdt]
      have hDle := dpT_le l n
      generalize l[n] = g at *
      have hpl := parts_len g
      have hplm : ((parts g).map inR).length = (parts g).length := by simp
      (first | refine au ?_ | exact au0 | fail)
      rw [hge]
      (first | refine au ?_ | exact au0 | fail)
      first | refine callF_eq (r6_Parts_spec g hti _) ?_ | refine callG_eq rfl (r6_Parts_spec g hti _) ?_
      (first | refine au ?_ | exact au0 | fail)
      refine loopM (S := Nat) [(0, some _), (1, some _), (5, some _)] (fun j => [(6, some (.int .i64 (((parts g).take j).foldl (dpF (dpT l n) n) 1 : Nat))), (7, some (.int .i64 (j : Nat)))]) (fun _ => _) (fun j => (parts g).length - j) (fun j => j ≤ (parts g).length) 0 (by repeat (first | exact trivial | refine And.intro (Or.inl rfl) ?_ | refine And.intro (Or.inr (Exists.intro _ (And.intro rfl (Fz.refl _)))) ?_ | refine And.intro (Or.inr (Exists.intro _ (And.intro rfl (fz_eq (congrArg (AV.int _) (by omega)))))) ?_ | refine And.intro (Or.inr (Exists.intro _ (And.intro rfl (fz_eq (congrArg (AV.own _ _ _) (by (try dsimp only); (try simp only [List.length_append, List.length_map, List.length_cons, List.length_nil, List.length_take, List.length_set, List.length_replicate]); (try dsimp only); first | done | omega)))))) ?_)) (Sub.refl _) (Nat.zero_le _) (fun j hj => ?_)
      have hm := dpF_le (n := n) hDle ((parts g).take j) 1 (by omega)
      (first | refine au ?_ | exact au0 | fail)
      refine bsplit_dec (fun c2 => ?_) (fun c2 => ?_)
      · have hjl : j < (parts g).length := by omega
        have hge2 := row_get (f := inR) hjl
        have hft := foldl_take (dpF (dpT l n) n) 1 (parts g) j hjl
        generalize (parts g)[j] = p at *
        generalize ((parts g).take j).foldl (dpF (dpT l n) n) 1 = q at *
        rw [show dpF (dpT l n) n q p = if 0 ≤ p ∧ p < (n : Int) then max q ((dpT l n).getD p.toNat 0 + 1) else q from rfl] at hft
        (first | refine au ?_ | exact au0 | fail)
        rw [hge2]
        (first | refine au ?_ | exact au0 | fail)
        refine bsplit_dec (fun c3 => ?_) (fun c3 => ?_)
        · (first | refine au ?_ | exact au0 | fail)
          rw [hge2]
          (first | refine au ?_ | exact au0 | fail)
          refine bsplit_dec (fun c4 => ?_) (fun c4 => ?_)
          · rw [if_pos (by omega), dpT_deep (by omega) (by omega), Int.toNat_of_nonneg c4] at hft
            have hdp : deepT l p ≤ n := by
              have := dpT_deep (l := l) (n := n) (p := p.toNat) (by omega) (by omega)
              rw [Int.toNat_of_nonneg c4] at this
              rw [← this, getD_get (by rw [dpT_len]; omega)]
              exact hDle _ (List.getElem_mem _)
            (first | refine au ?_ | exact au0 | fail)
            rw [hge2]
            (first | refine au ?_ | exact au0 | fail)
            first | refine callF_eq (ih l hl p (by omega) _) ?_ | refine callG_eq rfl (ih l hl p (by omega) _) ?_
            (first | refine au ?_ | exact au0 | fail)
            refine bsplit_dec (fun c5 => ?_) (fun c5 => ?_)
            · (first | refine au ?_ | exact au0 | fail)
              refine nextS (S := Nat) (j + 1) (by (try dsimp only); rw [hft, show max q (deepT l p + 1) = deepT l p + 1 from by omega]; exact (by repeat (first | exact trivial | refine And.intro (Or.inl rfl) ?_ | refine And.intro (Or.inr (Exists.intro _ (And.intro rfl (Fz.refl _)))) ?_ | refine And.intro (Or.inr (Exists.intro _ (And.intro rfl (fz_eq (congrArg (AV.int _) (by omega)))))) ?_ | refine And.intro (Or.inr (Exists.intro _ (And.intro rfl (fz_eq (congrArg (AV.own _ _ _) (by (try dsimp only); (try simp only [List.length_append, List.length_map, List.length_cons, List.length_nil, List.length_take, List.length_set, List.length_replicate]); (try dsimp only); first | done | omega)))))) ?_))) (Sub.refl _) (by first | omega | (dsimp only; omega)) hjl
            · (first | refine au ?_ | exact au0 | fail)
              refine nextS (S := Nat) (j + 1) (by (try dsimp only); rw [hft, show max q (deepT l p + 1) = q from by omega]; exact (by repeat (first | exact trivial | refine And.intro (Or.inl rfl) ?_ | refine And.intro (Or.inr (Exists.intro _ (And.intro rfl (Fz.refl _)))) ?_ | refine And.intro (Or.inr (Exists.intro _ (And.intro rfl (fz_eq (congrArg (AV.int _) (by omega)))))) ?_ | refine And.intro (Or.inr (Exists.intro _ (And.intro rfl (fz_eq (congrArg (AV.own _ _ _) (by (try dsimp only); (try simp only [List.length_append, List.length_map, List.length_cons, List.length_nil, List.length_take, List.length_set, List.length_replicate]); (try dsimp only); first | done | omega)))))) ?_))) (Sub.refl _) (by first | omega | (dsimp only; omega)) hjl
          · rw [if_neg (by omega)] at hft
            (first | refine au ?_ | exact au0 | fail)
            refine nextS (S := Nat) (j + 1) (by (try dsimp only); rw [hft]; exact (by repeat (first | exact trivial | refine And.intro (Or.inl rfl) ?_ | refine And.intro (Or.inr (Exists.intro _ (And.intro rfl (Fz.refl _)))) ?_ | refine And.intro (Or.inr (Exists.intro _ (And.intro rfl (fz_eq (congrArg (AV.int _) (by omega)))))) ?_ | refine And.intro (Or.inr (Exists.intro _ (And.intro rfl (fz_eq (congrArg (AV.own _ _ _) (by (try dsimp only); (try simp only [List.length_append, List.length_map, List.length_cons, List.length_nil, List.length_take, List.length_set, List.length_replicate]); (try dsimp only); first | done | omega)))))) ?_))) (Sub.refl _) (by first | omega | (dsimp only; omega)) hjl
        · rw [if_neg (by omega)] at hft
          (first | refine au ?_ | exact au0 | fail)
          refine nextS (S := Nat) (j + 1) (by (try dsimp only); rw [hft]; exact (by repeat (first | exact trivial | refine And.intro (Or.inl rfl) ?_ | refine And.intro (Or.inr (Exists.intro _ (And.intro rfl (Fz.refl _)))) ?_ | refine And.intro (Or.inr (Exists.intro _ (And.intro rfl (fz_eq (congrArg (AV.int _) (by omega)))))) ?_ | refine And.intro (Or.inr (Exists.intro _ (And.intro rfl (fz_eq (congrArg (AV.own _ _ _) (by (try dsimp only); (try simp only [List.length_append, List.length_map, List.length_cons, List.length_nil, List.length_take, List.length_set, List.length_replicate]); (try dsimp only); first | done | omega)))))) ?_))) (Sub.refl _) (by first | omega | (dsimp only; omega)) hjl
      · obtain rfl : j = (parts g).length := by omega
        rw [List.take_length]
        (first | refine au ?_ | exact au0 | fail)
        exact ⟨fz_of, sub_of⟩
    · unfold deepT
      rw [if_neg hb]
      (repeat' (first | (refine au ?_; first | refine bsplit_dec (fun _ => ?_) (fun _ => ?_) | refine bsplit_intro (fun _ => ?_) (fun _ => ?_)) | exact au0 | fail)); (all_goals try (first | refine au ?_ | fail))
      all_goals first | omega | exact ⟨fz_of, sub_of⟩
theorem formE_0 {t : Ty} (h : ¬ (t.kd < 1 ∨ 14 < t.kd)) (h2 : (tyMore t || t.its.any (itMore t.kd)) = false) : formE t = 0 := by
  simp only [Bool.or_eq_false_iff] at h2
  unfold formE; rw [if_neg h, if_neg (by simp [h2.1, h2.2])]
theorem formE_1 {t : Ty} (h : ¬ (t.kd < 1 ∨ 14 < t.kd)) (h2 : (tyMore t || t.its.any (itMore t.kd)) = true) : formE t = 1 := by
  simp only [Bool.or_eq_true] at h2
  unfold formE; rw [if_neg h, if_pos h2]
theorem tyErr_eq {l : List Ty} {n : Nat} (h : n < l.length) : tyErr l n = fst0 [formE l[n], namedE l l[n] n, boundE l[n], orderE l l[n] n, itemsE l l[n], deepE l n] := by
  unfold tyErr; rw [getD_get h]
set_option maxHeartbeats 2000000 in
theorem r6_one_spec (l : List Ty) (hl : TysOk l) (n : Nat) (hn : n < l.length) (H : AH) : ACalls PG broadsheetref06_one.n [tysA l, .int .i64 (n : Nat)] H fun r H' => r = .int .i64 (tyErr l n) ∧ H' = H := by
  have hlen : (l.map tyR).length = l.length := by simp
  have hll := hl.len
  have hge := row_get (f := tyR) hn
  have hok := hl.all _ (List.getElem_mem hn)
  have hdp := r6_Deep_spec (n + 1) l hl n (by omega)
  refine ACalls.fz (broadsheetref06_one.of rfl (wpF_start ?_))
  rw [tyErr_eq hn]
  generalize l[n] = t at *
  have hlen2 : (t.its.map itR).length = t.its.length := by simp
  have hli := hok.its
  (first | refine au ?_ | exact au0 | fail)
  rw [hge]
  (first | refine au ?_ | exact au0 | fail)
  intro id5 hid5 ht5; have n5 := neAll_of hid5; (try simp only [neAll, neAll_hset] at n5); have m5 := n5; (repeat (obtain ⟨_, m5⟩ := m5))
  by_cases hk : t.kd < 1 ∨ 14 < t.kd
  · have e : formE t = 4 := by unfold formE; rw [if_pos hk]
    (repeat' (first | (refine au ?_; first | refine bsplit_dec (fun _ => ?_) (fun _ => ?_) | refine bsplit_intro (fun _ => ?_) (fun _ => ?_)) | exact au0 | fail)); (all_goals try (first | refine au ?_ | fail))
    all_goals first | omega | (refine ⟨fz_eq (congrArg (AV.int .i64) (by simp [fst0, e])), sub_of⟩)
  (first | refine au ?_ | exact au0 | fail)
  first | refine callF_eq (r6_more_spec t hok _) ?_ | refine callG_eq rfl (r6_more_spec t hok _) ?_
  cases hm : tyMore t || t.its.any (itMore t.kd)
  rotate_left
  · have e := formE_1 hk hm
    (first | refine au ?_ | exact au0 | fail)
    refine ⟨fz_eq (congrArg (AV.int .i64) (by simp [fst0, e])), sub_of⟩
  have z0 := formE_0 hk hm
  (first | refine ab ?_ | exact ab0 | fail)
  refine joinP [(0, some (tysA l)), (1, some (.int .i64 (n : Nat))), (5, some (.ptr id5 6 0 0))] ((id5, .rows 6 [tyR t]) :: H) (namedE l t n = 0) ?_ (fun z1 => ?_)
  · have e : namedE l t n = if kNm t.kd = true then (if nameOk t.nm = true then (if (l.take n).any (fun x => x.nm == t.nm) = true then 6 else 0) else 5) else 0 := rfl
    (first | refine au ?_ | exact au0 | fail)
    first | refine callF_eq (r6_named_spec _ _) ?_ | refine callG_eq rfl (r6_named_spec _ _) ?_
    cases hN : kNm t.kd
    · rw [hN, if_neg Bool.false_ne_true] at e
      (first | refine au ?_ | exact au0 | fail)
      exact metP (by repeat (first | exact trivial | refine And.intro (Or.inl rfl) ?_ | refine And.intro (Or.inr (Exists.intro _ (And.intro rfl (Fz.refl _)))) ?_ | refine And.intro (Or.inr (Exists.intro _ (And.intro rfl (fz_eq (congrArg (AV.int _) (by omega)))))) ?_ | refine And.intro (Or.inr (Exists.intro _ (And.intro rfl (fz_eq (congrArg (AV.own _ _ _) (by (try dsimp only); (try simp only [List.length_append, List.length_map, List.length_cons, List.length_nil, List.length_take, List.length_set, List.length_replicate]); (try dsimp only); first | done | omega)))))) ?_)) sub_of e
    rw [hN, if_pos rfl] at e
    (first | refine au ?_ | exact au0 | fail)
    first | refine callF_eq (r4_Name_spec _ hok.nm _) ?_ | refine callG_eq rfl (r4_Name_spec _ hok.nm _) ?_
    cases hO : nameOk t.nm
    · rw [hO, if_neg Bool.false_ne_true] at e
      (first | refine au ?_ | exact au0 | fail)
      refine ⟨fz_eq (congrArg (AV.int .i64) (by simp [fst0, z0, e])), sub_of⟩
    rw [hO, if_pos rfl] at e
    (first | refine au ?_ | exact au0 | fail)
    refine loopL [(0, some _), (1, some _), (5, some _)] 6 0 n (none' (fun x => x.nm == t.nm) l) (by repeat (first | exact trivial | refine And.intro (Or.inl rfl) ?_ | refine And.intro (Or.inr (Exists.intro _ (And.intro rfl (Fz.refl _)))) ?_ | refine And.intro (Or.inr (Exists.intro _ (And.intro rfl (fz_eq (congrArg (AV.int _) (by omega)))))) ?_ | refine And.intro (Or.inr (Exists.intro _ (And.intro rfl (fz_eq (congrArg (AV.own _ _ _) (by (try dsimp only); (try simp only [List.length_append, List.length_map, List.length_cons, List.length_nil, List.length_take, List.length_set, List.length_replicate]); (try dsimp only); first | done | omega)))))) ?_)) (Nat.zero_le _) none'_zero (fun i hi hno => ?_)
    (first | refine au ?_ | exact au0 | fail)
    refine bsplit_dec (fun c => ?_) (fun c => ?_)
    · have hil : i < l.length := by omega
      have hge2 := row_get (f := tyR) hil
      have hany : (l[i].nm == t.nm) = true → (l.take n).any (fun x => x.nm == t.nm) = true := take_hit (p := fun x : Ty => x.nm == t.nm) hil (by omega)
      have hnx := none'_succ hno hil
      generalize l[i] = x at *
      (first | refine au ?_ | exact au0 | fail)
      rw [hge2]
      (first | refine au ?_ | exact au0 | fail)
      refine bsplit_dec (fun h => ?_) (fun h => ?_)
      · rw [hany (by simpa using h), if_pos rfl] at e
        (first | refine au ?_ | exact au0 | fail)
        refine ⟨fz_eq (congrArg (AV.int .i64) (by simp [fst0, z0, e])), sub_of⟩
      · (first | refine au ?_ | exact au0 | fail)
        refine nextN (by repeat (first | exact trivial | refine And.intro (Or.inl rfl) ?_ | refine And.intro (Or.inr (Exists.intro _ (And.intro rfl (Fz.refl _)))) ?_ | refine And.intro (Or.inr (Exists.intro _ (And.intro rfl (fz_eq (congrArg (AV.int _) (by omega)))))) ?_ | refine And.intro (Or.inr (Exists.intro _ (And.intro rfl (fz_eq (congrArg (AV.own _ _ _) (by (try dsimp only); (try simp only [List.length_append, List.length_map, List.length_cons, List.length_nil, List.length_take, List.length_set, List.length_replicate]); (try dsimp only); first | done | omega)))))) ?_)) (by exact sub_of) (by omega) (hnx (by simpa using h))
    · obtain rfl : i = n := by omega
      rw [none'_take hno, if_neg Bool.false_ne_true] at e
      (first | refine au ?_ | exact au0 | fail)
      exact metP (by repeat (first | exact trivial | refine And.intro (Or.inl rfl) ?_ | refine And.intro (Or.inr (Exists.intro _ (And.intro rfl (Fz.refl _)))) ?_ | refine And.intro (Or.inr (Exists.intro _ (And.intro rfl (fz_eq (congrArg (AV.int _) (by omega)))))) ?_ | refine And.intro (Or.inr (Exists.intro _ (And.intro rfl (fz_eq (congrArg (AV.own _ _ _) (by (try dsimp only); (try simp only [List.length_append, List.length_map, List.length_cons, List.length_nil, List.length_take, List.length_set, List.length_replicate]); (try dsimp only); first | done | omega)))))) ?_)) sub_of e
  (first | refine ab ?_ | exact ab0 | fail)
  refine joinP [(0, some (tysA l)), (1, some (.int .i64 (n : Nat))), (5, some (.ptr id5 6 0 0))] ((id5, .rows 6 [tyR t]) :: H) (boundE t = 0) ?_ (fun z2 => ?_)
  · have hbd : ¬ (t.kd = 10 ∨ t.kd = 11 ∨ t.kd = 12) → t.bd = 0 := fun q => by
      simp only [Bool.or_eq_false_iff, tyMore, decide_eq_false_iff_not] at hm
      apply Classical.byContradiction
      intro q2
      exact hm.1 (.inr (.inl ⟨decide_eq_false q, q2⟩))
    have e7 : (t.kd = 10 ∨ t.kd = 11 ∨ t.kd = 12) ∧ (64 < t.bd ∨ t.bd < 0 ∨ ((t.kd = 11 ∨ t.kd = 12) ∧ t.bd = 0)) → boundE t = 7 := fun q => by
      unfold boundE kBd kEl; rw [if_pos ⟨decide_eq_true q.1, by simpa using q.2⟩]
    have e0 : ¬ ((t.kd = 10 ∨ t.kd = 11 ∨ t.kd = 12) ∧ (64 < t.bd ∨ t.bd < 0 ∨ ((t.kd = 11 ∨ t.kd = 12) ∧ t.bd = 0))) → boundE t = 0 := fun q => by
      unfold boundE kBd kEl; rw [if_neg (by simpa using q)]
    (repeat' (first | (refine au ?_; first | refine bsplit_dec (fun _ => ?_) (fun _ => ?_) | refine bsplit_intro (fun _ => ?_) (fun _ => ?_)) | exact au0 | fail)); (all_goals try (first | refine au ?_ | fail))
    all_goals first
      | (refine metP (by repeat (first | exact trivial | refine And.intro (Or.inl rfl) ?_ | refine And.intro (Or.inr (Exists.intro _ (And.intro rfl (Fz.refl _)))) ?_ | refine And.intro (Or.inr (Exists.intro _ (And.intro rfl (fz_eq (congrArg (AV.int _) (by omega)))))) ?_ | refine And.intro (Or.inr (Exists.intro _ (And.intro rfl (fz_eq (congrArg (AV.own _ _ _) (by (try dsimp only); (try simp only [List.length_append, List.length_map, List.length_cons, List.length_nil, List.length_take, List.length_set, List.length_replicate]); (try dsimp only); first | done | omega)))))) ?_)) sub_of (e0 (by omega)))
      | (have e := e7 (by omega); refine ⟨fz_eq (congrArg (AV.int .i64) (by simp [fst0, z0, z1, e])), sub_of⟩)
  have hpl := parts_len t
  have hplm : ((parts t).map inR).length = (parts t).length := by simp
  (first | refine au ?_ | exact au0 | fail)
  first | refine callF_eq (r6_Parts_spec t hli _) ?_ | refine callG_eq rfl (r6_Parts_spec t hli _) ?_
  (first | refine au ?_ | exact au0 | fail)
  have eo : orderE l t n = if (parts t).any (fun p => decide (p < 0 ∨ (n : Int) ≤ p)) = true then 14 else if t.kd = 14 ∧ isNum (tAt l t.tg).kd = false then 8 else 0 := rfl
  refine loopL [(0, some _), (1, some _), (5, some _), (7, some _)] 8 0 (parts t).length (none' (fun p => decide (p < 0 ∨ (n : Int) ≤ p)) (parts t)) (by repeat (first | exact trivial | refine And.intro (Or.inl rfl) ?_ | refine And.intro (Or.inr (Exists.intro _ (And.intro rfl (Fz.refl _)))) ?_ | refine And.intro (Or.inr (Exists.intro _ (And.intro rfl (fz_eq (congrArg (AV.int _) (by omega)))))) ?_ | refine And.intro (Or.inr (Exists.intro _ (And.intro rfl (fz_eq (congrArg (AV.own _ _ _) (by (try dsimp only); (try simp only [List.length_append, List.length_map, List.length_cons, List.length_nil, List.length_take, List.length_set, List.length_replicate]); (try dsimp only); first | done | omega)))))) ?_)) (Nat.zero_le _) none'_zero (fun i hi hno => ?_)
  (first | refine au ?_ | exact au0 | fail)
  refine bsplit_dec (fun c => ?_) (fun c => ?_)
  · have hpi : i < (parts t).length := by omega
    have hge2 := row_get (f := inR) hpi
    have hany : decide ((parts t)[i] < 0 ∨ (n : Int) ≤ (parts t)[i]) = true → (parts t).any (fun p => decide (p < 0 ∨ (n : Int) ≤ p)) = true := any_hit (p := fun p => decide (p < 0 ∨ (n : Int) ≤ p)) hpi
    have hnx := none'_succ hno hpi
    generalize (parts t)[i] = x at *
    (first | refine au ?_ | exact au0 | fail)
    rw [hge2]
    (first | refine au ?_ | exact au0 | fail)
    refine bsplit_dec (fun c1 => ?_) (fun c1 => ?_)
    · rw [hany (decide_eq_true (by omega)), if_pos rfl] at eo
      (first | refine au ?_ | exact au0 | fail)
      refine ⟨fz_eq (congrArg (AV.int .i64) (by simp [fst0, z0, z1, z2, eo])), sub_of⟩
    (first | refine au ?_ | exact au0 | fail)
    rw [hge2]
    (first | refine au ?_ | exact au0 | fail)
    refine bsplit_dec (fun c2 => ?_) (fun c2 => ?_)
    · rw [hany (decide_eq_true (by omega)), if_pos rfl] at eo
      (first | refine au ?_ | exact au0 | fail)
      refine ⟨fz_eq (congrArg (AV.int .i64) (by simp [fst0, z0, z1, z2, eo])), sub_of⟩
    (first | refine au ?_ | exact au0 | fail)
    refine nextN (by repeat (first | exact trivial | refine And.intro (Or.inl rfl) ?_ | refine And.intro (Or.inr (Exists.intro _ (And.intro rfl (Fz.refl _)))) ?_ | refine And.intro (Or.inr (Exists.intro _ (And.intro rfl (fz_eq (congrArg (AV.int _) (by omega)))))) ?_ | refine And.intro (Or.inr (Exists.intro _ (And.intro rfl (fz_eq (congrArg (AV.own _ _ _) (by (try dsimp only); (try simp only [List.length_append, List.length_map, List.length_cons, List.length_nil, List.length_take, List.length_set, List.length_replicate]); (try dsimp only); first | done | omega)))))) ?_)) (by exact sub_of) (by omega) (hnx (decide_eq_false (by omega)))
  have hany := none'_end hno (show (parts t).length ≤ i by omega)
  rw [hany, if_neg Bool.false_ne_true] at eo
  (first | refine ab ?_ | exact ab0 | fail)
  refine joinP [(0, some (tysA l)), (1, some (.int .i64 (n : Nat))), (5, some (.ptr id5 6 0 0))] ((id5, .rows 6 [tyR t]) :: H) (orderE l t n = 0) ?_ (fun z3 => ?_)
  · (first | refine au ?_ | exact au0 | fail)
    refine bsplit_dec (fun h => ?_) (fun h => ?_)
    · have hq := List.any_eq_false.1 hany _ (parts_tag h)
      simp only [decide_eq_true_eq] at hq
      have hge3 := tAt_get (l := l) (t := t.tg) (by omega) (by omega)
      generalize tAt l t.tg = g at *
      (first | refine au ?_ | exact au0 | fail)
      rw [hge3]
      (first | refine au ?_ | exact au0 | fail)
      first | refine callF_eq (r5_Number_spec _ _) ?_ | refine callG_eq rfl (r5_Number_spec _ _) ?_
      cases hI : isNum g.kd
      · rw [hI, if_pos ⟨h, rfl⟩] at eo
        (first | refine au ?_ | exact au0 | fail)
        refine ⟨fz_eq (congrArg (AV.int .i64) (by simp [fst0, z0, z1, z2, eo])), sub_of⟩
      · rw [hI, if_neg (by simp)] at eo
        (first | refine au ?_ | exact au0 | fail)
        exact metP (by repeat (first | exact trivial | refine And.intro (Or.inl rfl) ?_ | refine And.intro (Or.inr (Exists.intro _ (And.intro rfl (Fz.refl _)))) ?_ | refine And.intro (Or.inr (Exists.intro _ (And.intro rfl (fz_eq (congrArg (AV.int _) (by omega)))))) ?_ | refine And.intro (Or.inr (Exists.intro _ (And.intro rfl (fz_eq (congrArg (AV.own _ _ _) (by (try dsimp only); (try simp only [List.length_append, List.length_map, List.length_cons, List.length_nil, List.length_take, List.length_set, List.length_replicate]); (try dsimp only); first | done | omega)))))) ?_)) sub_of eo
    · rw [if_neg (fun q => h q.1)] at eo
      (first | refine au ?_ | exact au0 | fail)
      exact metP (by repeat (first | exact trivial | refine And.intro (Or.inl rfl) ?_ | refine And.intro (Or.inr (Exists.intro _ (And.intro rfl (Fz.refl _)))) ?_ | refine And.intro (Or.inr (Exists.intro _ (And.intro rfl (fz_eq (congrArg (AV.int _) (by omega)))))) ?_ | refine And.intro (Or.inr (Exists.intro _ (And.intro rfl (fz_eq (congrArg (AV.own _ _ _) (by (try dsimp only); (try simp only [List.length_append, List.length_map, List.length_cons, List.length_nil, List.length_take, List.length_set, List.length_replicate]); (try dsimp only); first | done | omega)))))) ?_)) sub_of eo
  have ei : itemsE l t = if kNm t.kd = true then (if t.its.length = 0 then 18 else if 16 < t.its.length then 3 else fst0 ((List.range t.its.length).map (itemE l t))) else 0 := rfl
  have hno0 : kNm t.kd = false → t.its = [] := fun q => by
    simp only [Bool.or_eq_false_iff, tyMore, decide_eq_false_iff_not] at hm
    apply Classical.byContradiction
    intro q2
    exact hm.1 (.inl ⟨q, .inr q2⟩)
  (first | refine ab ?_ | exact ab0 | fail)
  refine joinP [(0, some (tysA l)), (1, some (.int .i64 (n : Nat))), (5, some (.ptr id5 6 0 0))] ((id5, .rows 6 [tyR t]) :: H) (kNm t.kd = true → t.its.length ≠ 0) ?_ (fun p4 => ?_)
  · (first | refine au ?_ | exact au0 | fail)
    first | refine callF_eq (r6_named_spec _ _) ?_ | refine callG_eq rfl (r6_named_spec _ _) ?_
    cases hN : kNm t.kd
    · (first | refine au ?_ | exact au0 | fail)
      exact metP (by repeat (first | exact trivial | refine And.intro (Or.inl rfl) ?_ | refine And.intro (Or.inr (Exists.intro _ (And.intro rfl (Fz.refl _)))) ?_ | refine And.intro (Or.inr (Exists.intro _ (And.intro rfl (fz_eq (congrArg (AV.int _) (by omega)))))) ?_ | refine And.intro (Or.inr (Exists.intro _ (And.intro rfl (fz_eq (congrArg (AV.own _ _ _) (by (try dsimp only); (try simp only [List.length_append, List.length_map, List.length_cons, List.length_nil, List.length_take, List.length_set, List.length_replicate]); (try dsimp only); first | done | omega)))))) ?_)) sub_of (fun q => by cases q)
    · rw [hN, if_pos rfl] at ei
      (first | refine au ?_ | exact au0 | fail)
      refine bsplit_dec (fun c => ?_) (fun c => ?_)
      · rw [if_pos (by omega)] at ei
        (first | refine au ?_ | exact au0 | fail)
        refine ⟨fz_eq (congrArg (AV.int .i64) (by simp [fst0, z0, z1, z2, z3, ei])), sub_of⟩
      · (first | refine au ?_ | exact au0 | fail)
        exact metP (by repeat (first | exact trivial | refine And.intro (Or.inl rfl) ?_ | refine And.intro (Or.inr (Exists.intro _ (And.intro rfl (Fz.refl _)))) ?_ | refine And.intro (Or.inr (Exists.intro _ (And.intro rfl (fz_eq (congrArg (AV.int _) (by omega)))))) ?_ | refine And.intro (Or.inr (Exists.intro _ (And.intro rfl (fz_eq (congrArg (AV.own _ _ _) (by (try dsimp only); (try simp only [List.length_append, List.length_map, List.length_cons, List.length_nil, List.length_take, List.length_set, List.length_replicate]); (try dsimp only); first | done | omega)))))) ?_)) sub_of (fun _ => by omega)
  (first | refine au ?_ | exact au0 | fail)
  refine bsplit_dec (fun c => ?_) (fun c => ?_)
  · have hN : kNm t.kd = true := by
      cases hN : kNm t.kd
      · rw [hno0 hN] at c; simp at c
      · rfl
    rw [hN, if_pos rfl, if_neg (by omega), if_pos (by omega)] at ei
    (first | refine au ?_ | exact au0 | fail)
    refine ⟨fz_eq (congrArg (AV.int .i64) (by simp [fst0, z0, z1, z2, z3, ei])), sub_of⟩
  have hgl : ∀ (k : Nat) (h : k < ((List.range t.its.length).map (itemE l t)).length), ((List.range t.its.length).map (itemE l t))[k] = itemE l t k := fun k h => by simp
  have hlm : ((List.range t.its.length).map (itemE l t)).length = t.its.length := by simp
  (first | refine au ?_ | exact au0 | fail)
  refine loopL [(0, some _), (1, some _), (5, some _)] 9 0 t.its.length (fun i => ∀ k, k < i → itemE l t k = 0) (by repeat (first | exact trivial | refine And.intro (Or.inl rfl) ?_ | refine And.intro (Or.inr (Exists.intro _ (And.intro rfl (Fz.refl _)))) ?_ | refine And.intro (Or.inr (Exists.intro _ (And.intro rfl (fz_eq (congrArg (AV.int _) (by omega)))))) ?_ | refine And.intro (Or.inr (Exists.intro _ (And.intro rfl (fz_eq (congrArg (AV.own _ _ _) (by (try dsimp only); (try simp only [List.length_append, List.length_map, List.length_cons, List.length_nil, List.length_take, List.length_set, List.length_replicate]); (try dsimp only); first | done | omega)))))) ?_)) (Nat.zero_le _) (fun k h => by omega) (fun i hi hno => ?_)
  (first | refine au ?_ | exact au0 | fail)
  refine bsplit_dec (fun c3 => ?_) (fun c3 => ?_)
  · have hil : i < t.its.length := by omega
    have hN : kNm t.kd = true := by
      cases hN : kNm t.kd
      · rw [hno0 hN] at hil; simp at hil
      · rfl
    rw [hN, if_pos rfl, if_neg (by omega), if_neg (by omega)] at ei
    (first | refine au ?_ | exact au0 | fail)
    first | refine callF_eq (r6_item_spec l hl n t hok (by omega) hN z3 i hil _) ?_ | refine callG_eq rfl (r6_item_spec l hl n t hok (by omega) hN z3 i hil _) ?_
    (first | refine au ?_ | exact au0 | fail)
    refine bsplit_dec (fun h => ?_) (fun h => ?_)
    · rw [fst0_hit (i := i) (fun k hk h3 => by rw [hgl]; exact hno k h3) (by omega) (by rw [hgl]; exact h), hgl] at ei
      (first | refine au ?_ | exact au0 | fail)
      refine ⟨fz_eq (congrArg (AV.int .i64) (by simp [fst0, z0, z1, z2, z3, ei, h])), sub_of⟩
    · (first | refine au ?_ | exact au0 | fail)
      refine nextN (by repeat (first | exact trivial | refine And.intro (Or.inl rfl) ?_ | refine And.intro (Or.inr (Exists.intro _ (And.intro rfl (Fz.refl _)))) ?_ | refine And.intro (Or.inr (Exists.intro _ (And.intro rfl (fz_eq (congrArg (AV.int _) (by omega)))))) ?_ | refine And.intro (Or.inr (Exists.intro _ (And.intro rfl (fz_eq (congrArg (AV.own _ _ _) (by (try dsimp only); (try simp only [List.length_append, List.length_map, List.length_cons, List.length_nil, List.length_take, List.length_set, List.length_replicate]); (try dsimp only); first | done | omega)))))) ?_)) (by exact sub_of) (by omega) (fun k hk => ?_)
      by_cases e : k = i
      · subst e; exact Classical.not_not.1 h
      · exact hno k (by omega)
  have z4 : itemsE l t = 0 := by
    rw [ei]
    split
    · rename_i hN
      rw [if_neg (p4 hN), if_neg (by omega), fst0_end (fun k hk => by rw [hgl]; exact hno k (by omega))]
    · rfl
  have ed : deepE l n = if 6 < deepT l n then 9 else 0 := rfl
  (first | refine au ?_ | exact au0 | fail)
  first | refine callF_eq (hdp _) ?_ | refine callG_eq rfl (hdp _) ?_
  (first | refine au ?_ | exact au0 | fail)
  refine bsplit_dec (fun c4 => ?_) (fun c4 => ?_)
  · rw [if_pos (by omega)] at ed
    (first | refine au ?_ | exact au0 | fail)
    refine ⟨fz_eq (congrArg (AV.int .i64) (by simp [fst0, z0, z1, z2, z3, z4, ed])), sub_of⟩
  · rw [if_neg (by omega)] at ed
    (first | refine au ?_ | exact au0 | fail)
    refine ⟨fz_eq (congrArg (AV.int .i64) (by simp [fst0, z0, z1, z2, z3, z4, ed])), sub_of⟩
theorem r6_Check_spec0 (l : List Ty) (hl : TysOk l) : ACalls PG broadsheetref06_Check.n [tysA l] [] fun r _ => r = .agg [.int .i64 (tyChk l).1, .int .i64 (tyChk l).2] := by
  have hlen : (l.map tyR).length = l.length := by simp
  have hll := hl.len
  refine ACalls.fzK (broadsheetref06_Check.of rfl (wpF_start ?_))
  unfold tyChk
  (first | refine au ?_ | exact au0 | fail)
  intro id2 hid2 ht2; have n2 := neAll_of hid2; (try simp only [neAll, neAll_hset] at n2); have m2 := n2; (repeat (obtain ⟨_, m2⟩ := m2))
  (first | refine au ?_ | exact au0 | fail)
  refine bsplit_dec (fun c => ?_) (fun c => ?_)
  · rw [if_pos (by omega)]
    (first | refine au ?_ | exact au0 | fail)
    exact fz_of
  rw [if_neg (by omega)]
  (first | refine au ?_ | exact au0 | fail)
  have hr : (List.range l.length).length = l.length := List.length_range
  refine loopL [(0, some _), (2, some _)] 3 0 l.length (none' (fun i => decide (tyErr l i ≠ 0)) (List.range l.length)) (by repeat (first | exact trivial | refine And.intro (Or.inl rfl) ?_ | refine And.intro (Or.inr (Exists.intro _ (And.intro rfl (Fz.refl _)))) ?_ | refine And.intro (Or.inr (Exists.intro _ (And.intro rfl (fz_eq (congrArg (AV.int _) (by omega)))))) ?_ | refine And.intro (Or.inr (Exists.intro _ (And.intro rfl (fz_eq (congrArg (AV.own _ _ _) (by (try dsimp only); (try simp only [List.length_append, List.length_map, List.length_cons, List.length_nil, List.length_take, List.length_set, List.length_replicate]); (try dsimp only); first | done | omega)))))) ?_)) (Nat.zero_le _) none'_zero (fun i hi hno => ?_)
  (first | refine au ?_ | exact au0 | fail)
  refine bsplit_dec (fun c2 => ?_) (fun c2 => ?_)
  · have hil : i < l.length := by omega
    have hhit : tyErr l i ≠ 0 → (List.range l.length).findIdx? (fun i => decide (tyErr l i ≠ 0)) = some i := fun q => find_hit hno (by omega) (by simpa using q)
    have hnx : tyErr l i = 0 → _ := fun q => none'_succ hno (by omega) (by simpa using q)
    (first | refine au ?_ | exact au0 | fail)
    first | refine callF_eq (r6_one_spec l hl i hil _) ?_ | refine callG_eq rfl (r6_one_spec l hl i hil _) ?_
    (first | refine au ?_ | exact au0 | fail)
    refine bsplit_dec (fun h => ?_) (fun h => ?_)
    · (first | refine au ?_ | exact au0 | fail)
      rw [hhit h]
      exact fz_of
    · (first | refine au ?_ | exact au0 | fail)
      exact nextN (by repeat (first | exact trivial | refine And.intro (Or.inl rfl) ?_ | refine And.intro (Or.inr (Exists.intro _ (And.intro rfl (Fz.refl _)))) ?_ | refine And.intro (Or.inr (Exists.intro _ (And.intro rfl (fz_eq (congrArg (AV.int _) (by omega)))))) ?_ | refine And.intro (Or.inr (Exists.intro _ (And.intro rfl (fz_eq (congrArg (AV.own _ _ _) (by (try dsimp only); (try simp only [List.length_append, List.length_map, List.length_cons, List.length_nil, List.length_take, List.length_set, List.length_replicate]); (try dsimp only); first | done | omega)))))) ?_)) (by exact sub_of) (by omega) (hnx (Classical.not_not.1 h))
  · (first | refine au ?_ | exact au0 | fail)
    rw [find_none hno (by omega)]
    exact fz_of
theorem r6_Check_spec (l : List Ty) (hl : TysOk l) (H : AH) : ACalls PG broadsheetref06_Check.n [tysA l] H fun r H' => r = .agg [.int .i64 (tyChk l).1, .int .i64 (tyChk l).2] ∧ H' = H := (r6_Check_spec0 l hl).frame H
theorem Check_spec (l : List Ty) (hl : TysOk l) (H : AH) : ACalls PG types_Check.n [tysA l] H fun r H' => r = .agg [.int .i64 (tyChk l).1, .int .i64 (tyChk l).2] ∧ H' = H := (Check_spec0 l hl).frame H
end Go.Proofs.Ytodiahhfpcdejaa

/- Types in the reference, walked: branches; lists that are too great to be asked. -/
namespace Go.Proofs.Ytodiahhfpcdejaa
set_option autoImplicit false
set_option linter.unusedSimpArgs false
set_option linter.unusedVariables false
attribute [local irreducible] callA callP ACalls
theorem r6_Branch_spec (l : List Ty) (hl : TysOk l) (t : Int) (n : Nat) (H : AH) : ACalls PG broadsheetref06_Branch.n [tysA l, .int .i64 t, .int .u64 (n : Nat)] H fun r H' => r = ixN (brIx l t n) ∧ H' = H := by
  have hlen : (l.map tyR).length = l.length := by simp
  have hll := hl.len
  refine ACalls.fz (broadsheetref06_Branch.of rfl (wpF_start ?_))
  unfold brIx
  by_cases hb : 0 ≤ t ∧ t < l.length
  · have hge := tAt_get hb.1 hb.2
    have hti := (hl.all _ (tAt_mem hb.1 hb.2)).its
    generalize tAt l t = g at *
    have hlen2 : (g.its.map itR).length = g.its.length := by simp
    (first | refine au ?_ | exact au0 | fail)
    rw [hge]
    (first | refine au ?_ | exact au0 | fail)
    refine bsplit_dec (fun c => ?_) (fun c => ?_)
    · rw [if_neg (fun q => c q.2.2)]
      (first | refine au ?_ | exact au0 | fail)
      exact ⟨fz_of, sub_of⟩
    rw [if_pos ⟨hb.1, hb.2, Classical.not_not.1 c⟩]
    (first | refine au ?_ | exact au0 | fail)
    refine loopM (S := Nat × Option Nat) [(0, some _), (1, some _), (2, some _)] (fun s => [(7, some (ixN s.2)), (8, some (.int .i64 (s.1 : Nat)))]) (fun _ => _) (fun s => g.its.length - s.1) (fun s => s.1 ≤ g.its.length ∧ none' (fun x : It => x.num == n && !x.rest) g.its s.1 ∧ (s.2 = none → none' (fun x : It => x.rest) g.its s.1) ∧ ∀ k, s.2 = some k → g.its.findIdx? (fun x : It => x.rest) = some k) (0, none) (by repeat (first | exact trivial | refine And.intro (Or.inl rfl) ?_ | refine And.intro (Or.inr (Exists.intro _ (And.intro rfl (Fz.refl _)))) ?_ | refine And.intro (Or.inr (Exists.intro _ (And.intro rfl (fz_eq (congrArg (AV.int _) (by omega)))))) ?_ | refine And.intro (Or.inr (Exists.intro _ (And.intro rfl (fz_eq (congrArg (AV.own _ _ _) (by (try dsimp only); (try simp only [List.length_append, List.length_map, List.length_cons, List.length_nil, List.length_take, List.length_set, List.length_replicate]); (try dsimp only); first | done | omega)))))) ?_)) (Sub.refl _) ⟨Nat.zero_le _, none'_zero, fun _ => none'_zero, fun k q => by cases q⟩ (fun ⟨i, o⟩ hs => ?_)
    dsimp only at hs ⊢
    obtain ⟨hi, hno, h1, h2⟩ := hs
    (first | refine au ?_ | exact au0 | fail)
    rw [hge]
    (first | refine au ?_ | exact au0 | fail)
    refine bsplit_dec (fun c => ?_) (fun c => ?_)
    · have hil : i < g.its.length := by omega
      have hge2 := row_get (f := itR) hil
      have hhit : (g.its[i].num == n && !g.its[i].rest) = true → g.its.findIdx? (fun x : It => x.num == n && !x.rest) = some i := find_hit (p := fun x : It => x.num == n && !x.rest) hno hil
      have hnx := none'_succ hno hil
      have hrh : o = none → g.its[i].rest = true → g.its.findIdx? (fun x : It => x.rest) = some i := fun q => find_hit (p := fun x : It => x.rest) (h1 q) hil
      have hrn : o = none → g.its[i].rest = false → _ := fun q q2 => none'_succ (h1 q) hil q2
      generalize g.its[i] = x at *
      (first | refine au ?_ | exact au0 | fail)
      rw [hge]
      (first | refine au ?_ | exact au0 | fail)
      rw [hge2]
      (first | refine au ?_ | exact au0 | fail)
      cases hr : x.rest
      · (first | refine au ?_ | exact au0 | fail)
        rw [hge]
        (first | refine au ?_ | exact au0 | fail)
        rw [hge2]
        (first | refine au ?_ | exact au0 | fail)
        refine bsplit_dec (fun c => ?_) (fun c => ?_)
        · (first | refine au ?_ | exact au0 | fail)
          rw [hhit (by simp [hr]; omega)]
          exact ⟨fz_of, sub_of⟩
        · (first | refine au ?_ | exact au0 | fail)
          refine nextS (S := Nat × Option Nat) (i + 1, o) (by repeat (first | exact trivial | refine And.intro (Or.inl rfl) ?_ | refine And.intro (Or.inr (Exists.intro _ (And.intro rfl (Fz.refl _)))) ?_ | refine And.intro (Or.inr (Exists.intro _ (And.intro rfl (fz_eq (congrArg (AV.int _) (by omega)))))) ?_ | refine And.intro (Or.inr (Exists.intro _ (And.intro rfl (fz_eq (congrArg (AV.own _ _ _) (by (try dsimp only); (try simp only [List.length_append, List.length_map, List.length_cons, List.length_nil, List.length_take, List.length_set, List.length_replicate]); (try dsimp only); first | done | omega)))))) ?_)) (Sub.refl _) (by first | omega | (dsimp only; omega)) ⟨hil, hnx (by simp [hr]; omega), fun q => hrn q hr, h2⟩
      · cases o with
        | none =>
          (first | refine au ?_ | exact au0 | fail)
          refine nextS (S := Nat × Option Nat) (i + 1, some i) (by repeat (first | exact trivial | refine And.intro (Or.inl rfl) ?_ | refine And.intro (Or.inr (Exists.intro _ (And.intro rfl (Fz.refl _)))) ?_ | refine And.intro (Or.inr (Exists.intro _ (And.intro rfl (fz_eq (congrArg (AV.int _) (by omega)))))) ?_ | refine And.intro (Or.inr (Exists.intro _ (And.intro rfl (fz_eq (congrArg (AV.own _ _ _) (by (try dsimp only); (try simp only [List.length_append, List.length_map, List.length_cons, List.length_nil, List.length_take, List.length_set, List.length_replicate]); (try dsimp only); first | done | omega)))))) ?_)) (Sub.refl _) (by first | omega | (dsimp only; omega)) ⟨hil, hnx (by simp [hr]), (fun q => by cases q), fun k q => by cases q; exact hrh rfl hr⟩
        | some k =>
          (first | refine au ?_ | exact au0 | fail)
          refine nextS (S := Nat × Option Nat) (i + 1, some k) (by repeat (first | exact trivial | refine And.intro (Or.inl rfl) ?_ | refine And.intro (Or.inr (Exists.intro _ (And.intro rfl (Fz.refl _)))) ?_ | refine And.intro (Or.inr (Exists.intro _ (And.intro rfl (fz_eq (congrArg (AV.int _) (by omega)))))) ?_ | refine And.intro (Or.inr (Exists.intro _ (And.intro rfl (fz_eq (congrArg (AV.own _ _ _) (by (try dsimp only); (try simp only [List.length_append, List.length_map, List.length_cons, List.length_nil, List.length_take, List.length_set, List.length_replicate]); (try dsimp only); first | done | omega)))))) ?_)) (Sub.refl _) (by first | omega | (dsimp only; omega)) ⟨hil, hnx (by simp [hr]), (fun q => by cases q), h2⟩
    · rw [find_none hno (by omega)]
      cases o with
      | none =>
        rw [find_none (h1 rfl) (by omega)]
        (first | refine au ?_ | exact au0 | fail)
        exact ⟨fz_of, sub_of⟩
      | some k =>
        rw [h2 k rfl]
        (first | refine au ?_ | exact au0 | fail)
        exact ⟨fz_of, sub_of⟩
  · rw [if_neg (fun q => hb ⟨q.1, q.2.1⟩)]
    (repeat' (first | (refine au ?_; first | refine bsplit_dec (fun _ => ?_) (fun _ => ?_) | refine bsplit_intro (fun _ => ?_) (fun _ => ?_)) | exact au0 | fail)); (all_goals try (first | refine au ?_ | fail))
    all_goals first | omega | exact ⟨fz_of, sub_of⟩
/-- How many items there are. -/
def itN : List Ty → Nat
  | [] => 0
  | t :: l => t.its.length + itN l
theorem itN_take : ∀ (l : List Ty) (i : Nat) (h : i < l.length), itN (l.take (i + 1)) = itN (l.take i) + l[i].its.length
  | a :: l, 0, h => by simp [itN]
  | a :: l, i + 1, h => by
    have := itN_take l i (by simpa using h)
    simp only [List.take_succ_cons, itN, List.getElem_cons_succ] at this ⊢
    omega
theorem itN_mem : ∀ {l : List Ty} {t : Ty}, t ∈ l → t.its.length ≤ itN l
  | a :: l, t, h => by
    simp only [itN]
    rcases List.mem_cons.1 h with rfl | h
    · omega
    · have := itN_mem h; omega
def tyGreat (l : List Ty) : Bool := decide (100 < l.length) || decide (800 < itN l)
def itB (l : List Ty) (i : Nat) : Nat := min (itN (l.take i)) 1048576
theorem itB_step {l : List Ty} {i : Nat} (h : i < l.length) : itB l (i + 1) = min (itB l i + l[i].its.length) 1048576 := by
  unfold itB; rw [itN_take l i h]; omega
theorem tGreat_spec (l : List Ty) (hl : TysOk l) (H : AH) : ACalls PG broadsheetlaw06_Great.n [tysA l] H fun r H' => r = .bool (tyGreat l) ∧ H' = H := by
  have hlen : (l.map tyR).length = l.length := by simp
  have hll := hl.len
  refine ACalls.fz (broadsheetlaw06_Great.of rfl (wpF_start ?_))
  (first | refine au ?_ | exact au0 | fail)
  refine loopM (S := Nat) [(0, some _)] (fun i => [(3, some (.int .i64 (itB l i : Nat))), (4, some (.int .i64 (i : Nat)))]) (fun _ => _) (fun i => l.length - i) (fun i => i ≤ l.length) 0 (by repeat (first | exact trivial | refine And.intro (Or.inl rfl) ?_ | refine And.intro (Or.inr (Exists.intro _ (And.intro rfl (Fz.refl _)))) ?_ | refine And.intro (Or.inr (Exists.intro _ (And.intro rfl (fz_eq (congrArg (AV.int _) (by omega)))))) ?_ | refine And.intro (Or.inr (Exists.intro _ (And.intro rfl (fz_eq (congrArg (AV.own _ _ _) (by (try dsimp only); (try simp only [List.length_append, List.length_map, List.length_cons, List.length_nil, List.length_take, List.length_set, List.length_replicate]); (try dsimp only); first | done | omega)))))) ?_)) (Sub.refl _) (Nat.zero_le _) (fun i hi => ?_)
  have hb : itB l i ≤ 1048576 := by unfold itB; omega
  (first | refine au ?_ | exact au0 | fail)
  refine bsplit_dec (fun c => ?_) (fun c => ?_)
  · have hil : i < l.length := by omega
    have hge := row_get (f := tyR) hil
    have hst := itB_step hil
    have hti := (hl.all _ (List.getElem_mem hil)).its
    generalize l[i] = g at *
    have hlen2 : (g.its.map itR).length = g.its.length := by simp
    (first | refine au ?_ | exact au0 | fail)
    rw [hge]
    (first | refine au ?_ | exact au0 | fail)
    refine nextS (S := Nat) (i + 1) (by (try dsimp only); rw [hst, ← hlen2, cast_min]; exact (by repeat (first | exact trivial | refine And.intro (Or.inl rfl) ?_ | refine And.intro (Or.inr (Exists.intro _ (And.intro rfl (Fz.refl _)))) ?_ | refine And.intro (Or.inr (Exists.intro _ (And.intro rfl (fz_eq (congrArg (AV.int _) (by omega)))))) ?_ | refine And.intro (Or.inr (Exists.intro _ (And.intro rfl (fz_eq (congrArg (AV.own _ _ _) (by (try dsimp only); (try simp only [List.length_append, List.length_map, List.length_cons, List.length_nil, List.length_take, List.length_set, List.length_replicate]); (try dsimp only); first | done | omega)))))) ?_))) (Sub.refl _) (by first | omega | (dsimp only; omega)) hil
  · have e : itB l i = min (itN l) 1048576 := by unfold itB; rw [List.take_of_length_le (by omega)]
    have eg : tyGreat l = decide (100 < l.length ∨ 800 < itN l) := by unfold tyGreat; rw [Bool.decide_or]
    rw [e, eg]
    (repeat' (first | (refine au ?_; first | refine bsplit_dec (fun _ => ?_) (fun _ => ?_) | refine bsplit_intro (fun _ => ?_) (fun _ => ?_)) | exact au0 | fail)); (all_goals try (first | refine au ?_ | fail))
    all_goals exact ⟨fz_eq (congrArg AV.bool (by first | exact (decide_eq_true (by omega)).symm | exact (decide_eq_false (by omega)).symm | exact decide_eq_decide.2 (by omega) | rfl)), sub_of⟩
end Go.Proofs.Ytodiahhfpcdejaa

/- Values, walked. -/
namespace Go.Proofs.Ytodiahhfpcdejaa
set_option autoImplicit false
set_option linter.unusedSimpArgs false
set_option linter.unusedVariables false
attribute [local irreducible] callA callP ACalls
mutual
/-- A value's cells. -/
def vlR : Vl → List AV
  | .mk k n t l => [.int .i64 k, .int .u64 (n : Nat), .str t, .rows 4 (vlRs l)]
def vlRs : List Vl → List (List AV)
  | [] => []
  | a :: l => vlR a :: vlRs l
end
abbrev vlA (v : Vl) : AV := .agg (vlR v)
theorem vlRs_map : ∀ l : List Vl, vlRs l = l.map vlR
  | [] => rfl
  | k :: ks => by rw [vlRs, vlRs_map ks]; rfl
theorem vlRs_len (l : List Vl) : (vlRs l).length = l.length := by rw [vlRs_map]; simp
theorem vlR_len (v : Vl) : (vlR v).length = 4 := by cases v; rfl
theorem vlRs_geti {l : List Vl} {i : Nat} (h : i < l.length) : (vlRs l).getD (Int.toNat (i : Nat)) [] = vlR l[i] := by rw [vlRs_map]; exact row_get h
theorem vlSz {l : List Vl} {i : Nat} (h : i < l.length) : SizeOf.sizeOf l[i] < SizeOf.sizeOf l := List.sizeOf_lt_of_mem (List.getElem_mem h)
mutual
theorem vlR_cl : ∀ (x : Vl), ∀ v ∈ vlR x, Cl v
  | .mk k n t l => by
    intro v hv
    simp only [vlR, List.mem_cons, List.not_mem_nil, or_false] at hv
    rcases hv with rfl | rfl | rfl | rfl
    · exact .int _ _
    · exact .int _ _
    · exact .str _
    · exact .rows _ _ (vlRs_cl l)
theorem vlRs_cl : ∀ (l : List Vl), ∀ r ∈ vlRs l, ∀ v ∈ r, Cl v
  | [] => by simp [vlRs]
  | k :: ks => by
    intro r hr
    simp only [vlRs, List.mem_cons] at hr
    rcases hr with rfl | hr
    · exact vlR_cl k
    · exact vlRs_cl ks r hr
end
theorem vlA_no (x : Vl) : NoId (vlA x) := (Cl.agg _ (vlR_cl x)).noId
mutual
/-- Texts and lists are not longer than memory lets them be. -/
def vOk : Vl → Prop
  | .mk _ n t l => n < 18446744073709551616 ∧ t.length ≤ 140737488351232 ∧ l.length ≤ 3000000000000 ∧ vOks l
def vOks : List Vl → Prop
  | [] => True
  | a :: l => vOk a ∧ vOks l
end
theorem vOks_mem : ∀ {l : List Vl}, vOks l → ∀ x ∈ l, vOk x
  | k :: ks, h, x, hx => by
    simp only [vOks] at h
    rcases List.mem_cons.1 hx with rfl | hx
    · exact h.1
    · exact vOks_mem h.2 x hx
theorem vOks_of : ∀ {l : List Vl}, (∀ x ∈ l, vOk x) → vOks l
  | [], _ => trivial
  | k :: ks, h => ⟨h k List.mem_cons_self, vOks_of fun x hx => h x (List.mem_cons_of_mem _ hx)⟩
theorem r8_Great_spec : ∀ (n : Nat) (x : Vl), SizeOf.sizeOf x < n → vGreat x ≤ 1000000 → ACalls PG broadsheetref08_Great.n [vlA x] [] fun r _ => r = .int .i64 (vGreat x : Nat)
  | 0, x, h, _ => by omega
  | n + 1, .mk kd num tx its, hsz, hle => by
    have hkl := vlRs_len its
    have hlen := vGreats_len its
    simp only [vGreat] at hle ⊢
    refine ACalls.fzK (broadsheetref08_Great.of rfl (wpF_start ?_))
    (first | refine au ?_ | exact au0 | fail)
    intro id1 hid1 ht1; have n1 := neAll_of hid1; (try simp only [neAll, neAll_hset] at n1); have m1 := n1; (repeat (obtain ⟨_, m1⟩ := m1))
    (first | refine au ?_ | exact au0 | fail)
    have e0 : 1 + tx.length + vGreats (its.take 0) = 1 + tx.length := by simp [vGreats]
    refine loopM (S := Nat) [(1, some _)] (fun i => [(3, some (.int .i64 (1 + tx.length + vGreats (its.take i) : Nat))), (4, some (.int .i64 (i : Nat)))]) (fun _ => _) (fun i => its.length - i) (fun i => i ≤ its.length) 0 (by repeat (first | exact trivial | refine And.intro (Or.inl rfl) ?_ | refine And.intro (Or.inr (Exists.intro _ (And.intro rfl (Fz.refl _)))) ?_ | refine And.intro (Or.inr (Exists.intro _ (And.intro rfl (fz_eq (congrArg (AV.int _) (by omega)))))) ?_ | refine And.intro (Or.inr (Exists.intro _ (And.intro rfl (fz_eq (congrArg (AV.own _ _ _) (by (try dsimp only); (try simp only [List.length_append, List.length_map, List.length_cons, List.length_nil, List.length_take, List.length_set, List.length_replicate]); (try dsimp only); first | done | omega)))))) ?_)) (Sub.refl _) (Nat.zero_le _) (fun i hi => ?_)
    (first | refine au ?_ | exact au0 | fail)
    refine bsplit_dec (fun h1 => ?_) (fun h1 => ?_)
    · have hil : i < its.length := by omega
      have hg := vlRs_geti hil
      have hsz' := vlSz hil
      have hmem := List.getElem_mem hil
      have hm := vGreats_mem hmem
      have ht := vGreats_take its i hil
      have htl := vGreats_takeLe its (i + 1)
      simp only [Vl.mk.sizeOf_spec] at hsz
      have ih := r8_Great_spec n its[i] (by omega) (by omega)
      generalize its[i] = y at *
      obtain ⟨k2, n2, t2, l2⟩ := y
      (first | refine au ?_ | exact au0 | fail)
      rw [hg]
      (first | refine au ?_ | exact au0 | fail)
      first | refine callF_eq (ih.frame _) ?_ | refine callG_eq rfl (ih.frame _) ?_
      (first | refine au ?_ | exact au0 | fail)
      refine nextS ((i + 1 : Nat)) (by (try dsimp only); rw [ ht, ← Nat.add_assoc, Int.natCast_add (1 + tx.length + vGreats (its.take i))]; repeat (first | exact trivial | refine And.intro (Or.inl rfl) ?_ | refine And.intro (Or.inr (Exists.intro _ (And.intro rfl (Fz.refl _)))) ?_ | refine And.intro (Or.inr (Exists.intro _ (And.intro rfl (fz_eq (congrArg (AV.int _) (by omega)))))) ?_ | refine And.intro (Or.inr (Exists.intro _ (And.intro rfl (fz_eq (congrArg (AV.own _ _ _) (by (try dsimp only); (try simp only [List.length_append, List.length_map, List.length_cons, List.length_nil, List.length_take, List.length_set, List.length_replicate]); (try dsimp only); first | done | omega)))))) ?_)) (by exact sub_of) (by first | omega | (dsimp only; omega)) ?_; (try dsimp only)
      exact hil
    · have e1 := List.take_of_length_le (show its.length ≤ i from by omega)
      rw [e1]
      (first | refine au ?_ | exact au0 | fail)
      exact fz_of
theorem vGreat_spec : ∀ (n : Nat) (x : Vl), SizeOf.sizeOf x < n → vGreat x ≤ 1000000 → ACalls PG value_Great.n [vlA x] [] fun r _ => r = .int .i64 (vGreat x : Nat)
  | 0, x, h, _ => by omega
  | n + 1, .mk kd num tx its, hsz, hle => by
    have hkl := vlRs_len its
    have hlen := vGreats_len its
    simp only [vGreat] at hle ⊢
    refine ACalls.fzK (value_Great.of rfl (wpF_start ?_))
    (first | refine au ?_ | exact au0 | fail)
    intro id1 hid1 ht1; have n1 := neAll_of hid1; (try simp only [neAll, neAll_hset] at n1); have m1 := n1; (repeat (obtain ⟨_, m1⟩ := m1))
    (first | refine au ?_ | exact au0 | fail)
    have e0 : 1 + tx.length + vGreats (its.take 0) = 1 + tx.length := by simp [vGreats]
    refine loopM (S := Nat) [(11, some _), (12, some _)] (fun i => [(3, some (.int .i64 (1 + tx.length + vGreats (its.take i) : Nat))), (13, some (.int .i64 (i : Nat)))]) (fun _ => _) (fun i => its.length - i) (fun i => i ≤ its.length) 0 (by repeat (first | exact trivial | refine And.intro (Or.inl rfl) ?_ | refine And.intro (Or.inr (Exists.intro _ (And.intro rfl (Fz.refl _)))) ?_ | refine And.intro (Or.inr (Exists.intro _ (And.intro rfl (fz_eq (congrArg (AV.int _) (by omega)))))) ?_ | refine And.intro (Or.inr (Exists.intro _ (And.intro rfl (fz_eq (congrArg (AV.own _ _ _) (by (try dsimp only); (try simp only [List.length_append, List.length_map, List.length_cons, List.length_nil, List.length_take, List.length_set, List.length_replicate]); (try dsimp only); first | done | omega)))))) ?_)) (Sub.refl _) (Nat.zero_le _) (fun i hi => ?_)
    (first | refine au ?_ | exact au0 | fail)
    refine bsplit_dec (fun h1 => ?_) (fun h1 => ?_)
    · have hil : i < its.length := by omega
      have hg := vlRs_geti hil
      have hsz' := vlSz hil
      have hmem := List.getElem_mem hil
      have hm := vGreats_mem hmem
      have ht := vGreats_take its i hil
      have htl := vGreats_takeLe its (i + 1)
      simp only [Vl.mk.sizeOf_spec] at hsz
      have ih := vGreat_spec n its[i] (by omega) (by omega)
      generalize its[i] = y at *
      obtain ⟨k2, n2, t2, l2⟩ := y
      (first | refine au ?_ | exact au0 | fail)
      rw [hg]
      (first | refine au ?_ | exact au0 | fail)
      intro id5 hid5 ht5; have n5 := neAll_of hid5; (try simp only [neAll, neAll_hset] at n5); have m5 := n5; (repeat (obtain ⟨_, m5⟩ := m5))
      (first | refine au ?_ | exact au0 | fail)
      first | refine callF_eq (ih.frame _) ?_ | refine callG_eq rfl (ih.frame _) ?_
      (first | refine au ?_ | exact au0 | fail)
      refine nextS ((i + 1 : Nat)) (by (try dsimp only); rw [ ht, ← Nat.add_assoc, Int.natCast_add (1 + tx.length + vGreats (its.take i))]; repeat (first | exact trivial | refine And.intro (Or.inl rfl) ?_ | refine And.intro (Or.inr (Exists.intro _ (And.intro rfl (Fz.refl _)))) ?_ | refine And.intro (Or.inr (Exists.intro _ (And.intro rfl (fz_eq (congrArg (AV.int _) (by omega)))))) ?_ | refine And.intro (Or.inr (Exists.intro _ (And.intro rfl (fz_eq (congrArg (AV.own _ _ _) (by (try dsimp only); (try simp only [List.length_append, List.length_map, List.length_cons, List.length_nil, List.length_take, List.length_set, List.length_replicate]); (try dsimp only); first | done | omega)))))) ?_)) (by exact sub_of) (by first | omega | (dsimp only; omega)) ?_; (try dsimp only)
      exact hil
    · have e1 := List.take_of_length_le (show its.length ≤ i from by omega)
      rw [e1]
      (first | refine au ?_ | exact au0 | fail)
      exact fz_of
theorem vDeep_spec : ∀ (n : Nat) (x : Vl), SizeOf.sizeOf x < n → vGreat x ≤ 1000000 → ACalls PG value_Deep.n [vlA x] [] fun r _ => r = .int .i64 (vDeep x : Nat)
  | 0, x, h, _ => by omega
  | n + 1, .mk kd num tx its, hsz, hle => by
    have hkl := vlRs_len its
    have hlen := vGreats_len its
    have hdg := vDeep_great (.mk kd num tx its)
    simp only [vGreat, vDeep] at hle hdg ⊢
    refine ACalls.fzK (value_Deep.of rfl (wpF_start ?_))
    (first | refine au ?_ | exact au0 | fail)
    intro id1 hid1 ht1; have n1 := neAll_of hid1; (try simp only [neAll, neAll_hset] at n1); have m1 := n1; (repeat (obtain ⟨_, m1⟩ := m1))
    (first | refine au ?_ | exact au0 | fail)
    refine loopM (S := Nat) [(7, some _), (8, some _)] (fun i => [(3, some (.int .i64 (vDeeps (its.take i) : Nat))), (9, some (.int .i64 (i : Nat)))]) (fun _ => _) (fun i => its.length - i) (fun i => i ≤ its.length) 0 (by repeat (first | exact trivial | refine And.intro (Or.inl rfl) ?_ | refine And.intro (Or.inr (Exists.intro _ (And.intro rfl (Fz.refl _)))) ?_ | refine And.intro (Or.inr (Exists.intro _ (And.intro rfl (fz_eq (congrArg (AV.int _) (by omega)))))) ?_ | refine And.intro (Or.inr (Exists.intro _ (And.intro rfl (fz_eq (congrArg (AV.own _ _ _) (by (try dsimp only); (try simp only [List.length_append, List.length_map, List.length_cons, List.length_nil, List.length_take, List.length_set, List.length_replicate]); (try dsimp only); first | done | omega)))))) ?_)) (Sub.refl _) (Nat.zero_le _) (fun i hi => ?_)
    (first | refine au ?_ | exact au0 | fail)
    refine bsplit_dec (fun h1 => ?_) (fun h1 => ?_)
    · have hil : i < its.length := by omega
      have hg := vlRs_geti hil
      have hsz' := vlSz hil
      have hmem := List.getElem_mem hil
      have hm := vGreats_mem hmem
      have ht := vDeeps_take its i hil
      have htl := vDeeps_takeLe its (i + 1)
      simp only [Vl.mk.sizeOf_spec] at hsz
      have ih := vDeep_spec n its[i] (by omega) (by omega)
      generalize its[i] = y at *
      obtain ⟨k2, n2, t2, l2⟩ := y
      (first | refine au ?_ | exact au0 | fail)
      rw [hg]
      (first | refine au ?_ | exact au0 | fail)
      intro id5 hid5 ht5; have n5 := neAll_of hid5; (try simp only [neAll, neAll_hset] at n5); have m5 := n5; (repeat (obtain ⟨_, m5⟩ := m5))
      (first | refine au ?_ | exact au0 | fail)
      first | refine callF_eq (ih.frame _) ?_ | refine callG_eq rfl (ih.frame _) ?_
      (first | refine au ?_ | exact au0 | fail)
      refine nextS ((i + 1 : Nat)) (by (try dsimp only); rw [ ht, cast_max]; repeat (first | exact trivial | refine And.intro (Or.inl rfl) ?_ | refine And.intro (Or.inr (Exists.intro _ (And.intro rfl (Fz.refl _)))) ?_ | refine And.intro (Or.inr (Exists.intro _ (And.intro rfl (fz_eq (congrArg (AV.int _) (by omega)))))) ?_ | refine And.intro (Or.inr (Exists.intro _ (And.intro rfl (fz_eq (congrArg (AV.own _ _ _) (by (try dsimp only); (try simp only [List.length_append, List.length_map, List.length_cons, List.length_nil, List.length_take, List.length_set, List.length_replicate]); (try dsimp only); first | done | omega)))))) ?_)) (by exact sub_of) (by first | omega | (dsimp only; omega)) ?_; (try dsimp only)
      exact hil
    · have e1 := List.take_of_length_le (show its.length ≤ i from by omega)
      rw [e1]
      (first | refine au ?_ | exact au0 | fail)
      exact fz_eq (congrArg (AV.int .i64) (by omega))
def vCnt (l : List Vl) (i : Nat) : Nat := min (vGreats (l.take i)) 100000
theorem vCnt_step {l : List Vl} {i : Nat} (h : i < l.length) : vCnt l (i + 1) = min (vCnt l i + vGreat l[i]) 100000 := by
  unfold vCnt; rw [vGreats_take l i h]; omega
theorem vMuchs_none {l : List Vl} {d : Nat} (h : none' (fun x => vMuch x d) l l.length) : vMuchs l d = false := by
  have := none'_any h
  induction l with
  | nil => rfl
  | cons a l ih =>
    simp only [List.any_cons, Bool.or_eq_false_iff] at this
    simp only [vMuchs, this.1, Bool.false_or]
    exact ih (any_none' this.2 _) this.2
theorem vMuchs_any : ∀ (l : List Vl) (d : Nat), vMuchs l d = l.any fun x => vMuch x d
  | [], _ => rfl
  | a :: l, d => by simp only [vMuchs, List.any_cons, vMuchs_any l d]
theorem vMuch_spec : ∀ (n : Nat) (x : Vl) (d : Nat), SizeOf.sizeOf x < n → vOk x → d ≤ 1000 → ACalls PG broadsheetref08_Much.n [vlA x, .int .i64 (d : Nat)] [] fun r _ => r = .bool (vMuch x d)
  | 0, x, d, h, _, _ => by omega
  | n + 1, .mk kd num tx its, d, hsz, hok, hd => by
    have hkl := vlRs_len its
    simp only [vOk] at hok
    obtain ⟨hnum, htx, hlen, hks⟩ := hok
    simp only [vMuch, vMuchs_any]
    refine ACalls.fzK (broadsheetref08_Much.of rfl (wpF_start ?_))
    (first | refine au ?_ | exact au0 | fail)
    intro id2 hid2 ht2; have n2 := neAll_of hid2; (try simp only [neAll, neAll_hset] at n2); have m2 := n2; (repeat (obtain ⟨_, m2⟩ := m2))
    (first | refine au ?_ | exact au0 | fail)
    refine bsplit_dec (fun c1 => ?_) (fun c1 => ?_)
    · (first | refine au ?_ | exact au0 | fail)
      exact fz_eq (congrArg AV.bool (by simp [show 40 < d from by omega]))
    (first | refine au ?_ | exact au0 | fail)
    refine bsplit_dec (fun c2 => ?_) (fun c2 => ?_)
    · (first | refine au ?_ | exact au0 | fail)
      exact fz_eq (congrArg AV.bool (by simp [show 300 < its.length from by omega]))
    (first | refine au ?_ | exact au0 | fail)
    refine bsplit_dec (fun c3 => ?_) (fun c3 => ?_)
    · (first | refine au ?_ | exact au0 | fail)
      exact fz_eq (congrArg AV.bool (by simp [show 1000 < tx.length from by omega]))
    rw [decide_eq_false (show ¬ 40 < d from by omega), decide_eq_false (show ¬ 300 < its.length from by omega), decide_eq_false (show ¬ 1000 < tx.length from by omega), Bool.false_or, Bool.false_or, Bool.false_or]
    (first | refine au ?_ | exact au0 | fail)
    refine loopM (S := Nat) [(1, some _), (2, some _)] (fun i => [(5, some (.int .i64 (vCnt its i : Nat))), (6, some (.int .i64 (i : Nat)))]) (fun _ => _) (fun i => its.length - i) (fun i => i ≤ its.length ∧ none' (fun x => vMuch x (d + 1 + its.length / 4)) its i) 0 (by repeat (first | exact trivial | refine And.intro (Or.inl rfl) ?_ | refine And.intro (Or.inr (Exists.intro _ (And.intro rfl (Fz.refl _)))) ?_ | refine And.intro (Or.inr (Exists.intro _ (And.intro rfl (fz_eq (congrArg (AV.int _) (by omega)))))) ?_ | refine And.intro (Or.inr (Exists.intro _ (And.intro rfl (fz_eq (congrArg (AV.own _ _ _) (by (try dsimp only); (try simp only [List.length_append, List.length_map, List.length_cons, List.length_nil, List.length_take, List.length_set, List.length_replicate]); (try dsimp only); first | done | omega)))))) ?_)) (Sub.refl _) ⟨Nat.zero_le _, none'_zero⟩ (fun i hi => ?_)
    obtain ⟨hi, hno⟩ := hi
    have hb : vCnt its i ≤ 100000 := by unfold vCnt; omega
    (first | refine au ?_ | exact au0 | fail)
    refine bsplit_dec (fun h1 => ?_) (fun h1 => ?_)
    · have hil : i < its.length := by omega
      have hg := vlRs_geti hil
      have hsz' := vlSz hil
      have hmem := List.getElem_mem hil
      have hm := vGreats_mem hmem
      have ht := vCnt_step hil
      simp only [Vl.mk.sizeOf_spec] at hsz
      have ih := vMuch_spec n its[i] (d + 1 + its.length / 4) (by omega) (vOks_mem hks _ hmem) (by omega)
      have ihs := r8_Great_spec n its[i] (by omega)
      have hgr := @vMuch_great its[i] (d + 1 + its.length / 4)
      have hany : vMuch its[i] (d + 1 + its.length / 4) = true → its.any (fun x => vMuch x (d + 1 + its.length / 4)) = true := any_hit (p := fun x => vMuch x (d + 1 + its.length / 4)) hil
      have hnx := none'_succ hno hil
      generalize its[i] = y at *
      obtain ⟨k2, n2, t2, l2⟩ := y
      (first | refine au ?_ | exact au0 | fail)
      rw [hg]
      (first | refine au ?_ | exact au0 | fail)
      rw [show (d : Int) + 1 + ((vlRs its).length : Nat) / 4 = ((d + 1 + its.length / 4 : Nat) : Int) from by omega]
      first | refine callF_eq (ih.frame _) ?_ | refine callG_eq rfl (ih.frame _) ?_
      cases hM : vMuch (.mk k2 n2 t2 l2) (d + 1 + its.length / 4)
      · have hle := hgr hM
        (first | refine au ?_ | exact au0 | fail)
        rw [hg]
        (first | refine au ?_ | exact au0 | fail)
        first | refine callF_eq ((ihs (by omega)).frame _) ?_ | refine callG_eq rfl ((ihs (by omega)).frame _) ?_
        (first | refine au ?_ | exact au0 | fail)
        refine nextS ((i + 1 : Nat)) (by (try dsimp only); rw [ ht, cast_min]; repeat (first | exact trivial | refine And.intro (Or.inl rfl) ?_ | refine And.intro (Or.inr (Exists.intro _ (And.intro rfl (Fz.refl _)))) ?_ | refine And.intro (Or.inr (Exists.intro _ (And.intro rfl (fz_eq (congrArg (AV.int _) (by omega)))))) ?_ | refine And.intro (Or.inr (Exists.intro _ (And.intro rfl (fz_eq (congrArg (AV.own _ _ _) (by (try dsimp only); (try simp only [List.length_append, List.length_map, List.length_cons, List.length_nil, List.length_take, List.length_set, List.length_replicate]); (try dsimp only); first | done | omega)))))) ?_)) (by exact sub_of) (by first | omega | (dsimp only; omega)) ?_; (try dsimp only)
        exact ⟨hil, hnx hM⟩
      · (first | refine au ?_ | exact au0 | fail)
        exact fz_eq (congrArg AV.bool (by rw [hany hM]; rfl))
    · obtain rfl : i = its.length := by omega
      (first | refine au ?_ | exact au0 | fail)
      refine fz_eq (congrArg AV.bool ?_)
      rw [none'_any hno, Bool.false_or]
      have : vCnt its its.length = min (vGreats its) 100000 := by unfold vCnt; rw [List.take_length]
      rw [this]
      exact decide_eq_decide.2 (by omega)
theorem vEqs_ne {l m : List Vl} {i : Nat} (h : i < l.length) (h' : i < m.length) (hn : vEq l[i] m[i] = false) : vEqs l m = false := by
  rw [Bool.eq_false_iff, ne_eq, vEqs_iff]
  rintro rfl
  rw [vEq_refl] at hn; cases hn
theorem vEqs_all {l m : List Vl} (hl : l.length = m.length) (h : ∀ (k : Nat) (h1 : k < l.length) (h2 : k < m.length), vEq l[k] m[k] = true) : vEqs l m = true := by
  rw [vEqs_iff]
  exact List.ext_getElem hl fun k h1 h2 => (vEq_iff _ _).1 (h k h1 h2)
theorem vEqs_step {l m : List Vl} {i : Nat} (h : ∀ (k : Nat) (h1 : k < l.length) (h2 : k < m.length), k < i → vEq l[k] m[k] = true) (hi : i < l.length) (hi' : i < m.length) (q : vEq l[i] m[i] = true) : ∀ (k : Nat) (h1 : k < l.length) (h2 : k < m.length), k < i + 1 → vEq l[k] m[k] = true := fun k h1 h2 h3 => by
  by_cases e : k = i
  · subst e; exact q
  · exact h k h1 h2 (by omega)
theorem vSame_spec : ∀ (n : Nat) (x y : Vl), SizeOf.sizeOf x < n → (vOk x ∧ vOk y) → ACalls PG value_Same.n [vlA x, vlA y] [] fun r _ => r = .bool (vEq x y)
  | 0, x, y, h, _ => by omega
  | n + 1, .mk kd num tx its, .mk kd' num' tx' its', hsz, hok => by
    have hkl := vlRs_len its
    have hkl' := vlRs_len its'
    simp only [vOk] at hok
    obtain ⟨⟨_, _, hlen, hks⟩, ⟨_, _, hlen', hks'⟩⟩ := hok
    refine ACalls.fzK (value_Same.of rfl (wpF_start ?_))
    (first | refine au ?_ | exact au0 | fail)
    intro id2 hid2 ht2; have n2 := neAll_of hid2; (try simp only [neAll, neAll_hset] at n2); have m2 := n2; (repeat (obtain ⟨_, m2⟩ := m2))
    (first | refine au ?_ | exact au0 | fail)
    intro id3 hid3 ht3; have n3 := neAll_of hid3; (try simp only [neAll, neAll_hset] at n3); have m3 := n3; (repeat (obtain ⟨_, m3⟩ := m3))
    (first | refine au ?_ | exact au0 | fail)
    refine bsplit_dec (fun c1 => ?_) (fun c1 => ?_)
    · (first | refine au ?_ | exact au0 | fail)
      exact fz_eq (congrArg AV.bool (by simp [vEq, c1]))
    (first | refine au ?_ | exact au0 | fail)
    refine bsplit_dec (fun c2 => ?_) (fun c2 => ?_)
    · (first | refine au ?_ | exact au0 | fail)
      exact fz_eq (congrArg AV.bool (by simp [vEq, show ¬ num = num' from by omega]))
    (first | refine au ?_ | exact au0 | fail)
    refine bsplit_dec (fun c3 => ?_) (fun c3 => ?_)
    · (first | refine au ?_ | exact au0 | fail)
      exact fz_eq (congrArg AV.bool (by simp [vEq, c3]))
    (first | refine au ?_ | exact au0 | fail)
    refine bsplit_dec (fun c4 => ?_) (fun c4 => ?_)
    · (first | refine au ?_ | exact au0 | fail)
      exact fz_eq (congrArg AV.bool (by rw [show vEq (.mk kd num tx its) (.mk kd' num' tx' its') = false from by rw [Bool.eq_false_iff, ne_eq, vEq_iff]; intro q; injection q with _ _ _ q; rw [q] at c4; omega]))
    have hv : vEq (.mk kd num tx its) (.mk kd' num' tx' its') = vEqs its its' := by
      simp [vEq, Classical.not_not.1 c1, Classical.not_not.1 c3, show num = num' from by omega]
    rw [hv]
    have hll : its.length = its'.length := by omega
    clear c1 c2 c3 c4
    (first | refine au ?_ | exact au0 | fail)
    refine loopL [(3, some _), (36, some _), (37, some _)] 38 0 its.length (fun i => ∀ (k : Nat) (h1 : k < its.length) (h2 : k < its'.length), k < i → vEq its[k] its'[k] = true) (by repeat (first | exact trivial | refine And.intro (Or.inl rfl) ?_ | refine And.intro (Or.inr (Exists.intro _ (And.intro rfl (Fz.refl _)))) ?_ | refine And.intro (Or.inr (Exists.intro _ (And.intro rfl (fz_eq (congrArg (AV.int _) (by omega)))))) ?_ | refine And.intro (Or.inr (Exists.intro _ (And.intro rfl (fz_eq (congrArg (AV.own _ _ _) (by (try dsimp only); (try simp only [List.length_append, List.length_map, List.length_cons, List.length_nil, List.length_take, List.length_set, List.length_replicate]); (try dsimp only); first | done | omega)))))) ?_)) (Nat.zero_le _) (fun k _ _ h => by omega) (fun i hi hno => ?_)
    (first | refine au ?_ | exact au0 | fail)
    refine bsplit_dec (fun h1 => ?_) (fun h1 => ?_)
    · have hil : i < its.length := by omega
      have hil' : i < its'.length := by omega
      have hg := vlRs_geti hil
      have hg' := vlRs_geti hil'
      have hsz' := vlSz hil
      simp only [Vl.mk.sizeOf_spec] at hsz
      have ih := vSame_spec n its[i] its'[i] (by omega) ⟨vOks_mem hks _ (List.getElem_mem hil), vOks_mem hks' _ (List.getElem_mem hil')⟩
      have hst := vEqs_step hno hil hil'
      have hne := vEqs_ne hil hil'
      generalize its[i] = y at *
      generalize its'[i] = z at *
      obtain ⟨k2, n2, t2, l2⟩ := y
      obtain ⟨k3, n3, t3, l3⟩ := z
      (first | refine au ?_ | exact au0 | fail)
      rw [hg]
      (first | refine au ?_ | exact au0 | fail)
      (intro id5 hid5 ht5; have n5 := neAll_of hid5; (try simp only [neAll, neAll_hset] at n5); have m5 := n5; (repeat (obtain ⟨_, m5⟩ := m5)); (first | refine au ?_ | exact au0 | fail))
      rw [hg']
      (first | refine au ?_ | exact au0 | fail)
      first | refine callF_eq (ih.frame _) ?_ | refine callG_eq rfl (ih.frame _) ?_
      cases hM : vEq (.mk k2 n2 t2 l2) (.mk k3 n3 t3 l3)
      · (first | refine au ?_ | exact au0 | fail)
        rw [hne hM]
        exact fz_of
      · (first | refine au ?_ | exact au0 | fail)
        exact nextN (by repeat (first | exact trivial | refine And.intro (Or.inl rfl) ?_ | refine And.intro (Or.inr (Exists.intro _ (And.intro rfl (Fz.refl _)))) ?_ | refine And.intro (Or.inr (Exists.intro _ (And.intro rfl (fz_eq (congrArg (AV.int _) (by omega)))))) ?_ | refine And.intro (Or.inr (Exists.intro _ (And.intro rfl (fz_eq (congrArg (AV.own _ _ _) (by (try dsimp only); (try simp only [List.length_append, List.length_map, List.length_cons, List.length_nil, List.length_take, List.length_set, List.length_replicate]); (try dsimp only); first | done | omega)))))) ?_)) (by exact sub_of) (by omega) (hst hM)
    · (first | refine au ?_ | exact au0 | fail)
      rw [vEqs_all hll fun k h1 h2 => hno k h1 h2 (by omega)]
      exact fz_of
theorem r8_Same_spec : ∀ (n : Nat) (x y : Vl), SizeOf.sizeOf x < n → (vOk x ∧ vOk y) → ACalls PG broadsheetref08_Same.n [vlA x, vlA y] [] fun r _ => r = .bool (vEq x y)
  | 0, x, y, h, _ => by omega
  | n + 1, .mk kd num tx its, .mk kd' num' tx' its', hsz, hok => by
    have hkl := vlRs_len its
    have hkl' := vlRs_len its'
    simp only [vOk] at hok
    obtain ⟨⟨_, _, hlen, hks⟩, ⟨_, _, hlen', hks'⟩⟩ := hok
    refine ACalls.fzK (broadsheetref08_Same.of rfl (wpF_start ?_))
    (first | refine au ?_ | exact au0 | fail)
    intro id2 hid2 ht2; have n2 := neAll_of hid2; (try simp only [neAll, neAll_hset] at n2); have m2 := n2; (repeat (obtain ⟨_, m2⟩ := m2))
    (first | refine au ?_ | exact au0 | fail)
    intro id3 hid3 ht3; have n3 := neAll_of hid3; (try simp only [neAll, neAll_hset] at n3); have m3 := n3; (repeat (obtain ⟨_, m3⟩ := m3))
    (first | refine au ?_ | exact au0 | fail)
    refine bsplit_dec (fun c1 => ?_) (fun c1 => ?_)
    · (first | refine au ?_ | exact au0 | fail)
      exact fz_eq (congrArg AV.bool (by simp [vEq, c1]))
    (first | refine au ?_ | exact au0 | fail)
    refine bsplit_dec (fun c2 => ?_) (fun c2 => ?_)
    · (first | refine au ?_ | exact au0 | fail)
      exact fz_eq (congrArg AV.bool (by simp [vEq, show ¬ num = num' from by omega]))
    (first | refine au ?_ | exact au0 | fail)
    refine bsplit_dec (fun c3 => ?_) (fun c3 => ?_)
    · (first | refine au ?_ | exact au0 | fail)
      exact fz_eq (congrArg AV.bool (by simp [vEq, c3]))
    (first | refine au ?_ | exact au0 | fail)
    refine bsplit_dec (fun c4 => ?_) (fun c4 => ?_)
    · (first | refine au ?_ | exact au0 | fail)
      exact fz_eq (congrArg AV.bool (by rw [show vEq (.mk kd num tx its) (.mk kd' num' tx' its') = false from by rw [Bool.eq_false_iff, ne_eq, vEq_iff]; intro q; injection q with _ _ _ q; rw [q] at c4; omega]))
    have hv : vEq (.mk kd num tx its) (.mk kd' num' tx' its') = vEqs its its' := by
      simp [vEq, Classical.not_not.1 c1, Classical.not_not.1 c3, show num = num' from by omega]
    rw [hv]
    have hll : its.length = its'.length := by omega
    clear c1 c2 c3 c4
    (first | refine au ?_ | exact au0 | fail)
    refine loopL [(2, some _), (3, some _)] 5 0 its.length (fun i => ∀ (k : Nat) (h1 : k < its.length) (h2 : k < its'.length), k < i → vEq its[k] its'[k] = true) (by repeat (first | exact trivial | refine And.intro (Or.inl rfl) ?_ | refine And.intro (Or.inr (Exists.intro _ (And.intro rfl (Fz.refl _)))) ?_ | refine And.intro (Or.inr (Exists.intro _ (And.intro rfl (fz_eq (congrArg (AV.int _) (by omega)))))) ?_ | refine And.intro (Or.inr (Exists.intro _ (And.intro rfl (fz_eq (congrArg (AV.own _ _ _) (by (try dsimp only); (try simp only [List.length_append, List.length_map, List.length_cons, List.length_nil, List.length_take, List.length_set, List.length_replicate]); (try dsimp only); first | done | omega)))))) ?_)) (Nat.zero_le _) (fun k _ _ h => by omega) (fun i hi hno => ?_)
    (first | refine au ?_ | exact au0 | fail)
    refine bsplit_dec (fun h1 => ?_) (fun h1 => ?_)
    · have hil : i < its.length := by omega
      have hil' : i < its'.length := by omega
      have hg := vlRs_geti hil
      have hg' := vlRs_geti hil'
      have hsz' := vlSz hil
      simp only [Vl.mk.sizeOf_spec] at hsz
      have ih := r8_Same_spec n its[i] its'[i] (by omega) ⟨vOks_mem hks _ (List.getElem_mem hil), vOks_mem hks' _ (List.getElem_mem hil')⟩
      have hst := vEqs_step hno hil hil'
      have hne := vEqs_ne hil hil'
      generalize its[i] = y at *
      generalize its'[i] = z at *
      obtain ⟨k2, n2, t2, l2⟩ := y
      obtain ⟨k3, n3, t3, l3⟩ := z
      (first | refine au ?_ | exact au0 | fail)
      rw [hg]
      (first | refine au ?_ | exact au0 | fail)
      skip
      rw [hg']
      (first | refine au ?_ | exact au0 | fail)
      first | refine callF_eq (ih.frame _) ?_ | refine callG_eq rfl (ih.frame _) ?_
      cases hM : vEq (.mk k2 n2 t2 l2) (.mk k3 n3 t3 l3)
      · (first | refine au ?_ | exact au0 | fail)
        rw [hne hM]
        exact fz_of
      · (first | refine au ?_ | exact au0 | fail)
        exact nextN (by repeat (first | exact trivial | refine And.intro (Or.inl rfl) ?_ | refine And.intro (Or.inr (Exists.intro _ (And.intro rfl (Fz.refl _)))) ?_ | refine And.intro (Or.inr (Exists.intro _ (And.intro rfl (fz_eq (congrArg (AV.int _) (by omega)))))) ?_ | refine And.intro (Or.inr (Exists.intro _ (And.intro rfl (fz_eq (congrArg (AV.own _ _ _) (by (try dsimp only); (try simp only [List.length_append, List.length_map, List.length_cons, List.length_nil, List.length_take, List.length_set, List.length_replicate]); (try dsimp only); first | done | omega)))))) ?_)) (by exact sub_of) (by omega) (hst hM)
    · (first | refine au ?_ | exact au0 | fail)
      rw [vEqs_all hll fun k h1 h2 => hno k h1 h2 (by omega)]
      exact fz_of
end Go.Proofs.Ytodiahhfpcdejaa

/- Bytes in texts, walked. -/
namespace Go.Proofs.Ytodiahhfpcdejaa
set_option autoImplicit false
set_option linter.unusedSimpArgs false
set_option linter.unusedVariables false
--HSET
attribute [local irreducible] callA callP ACalls
theorem stringslite_IndexByte_spec (s : List UInt8) (c : UInt8) (H : AH) : ACalls PG stringslite_IndexByte.n [.str s, u8A c] H fun r H' => r = .int .i64 (Lib.indexByte s c) ∧ H' = H := by
  refine stringslite_IndexByte.of rfl (wpF_start ?_)
  (first | refine ah ?_ | exact ah0 | fail)
  exact ⟨by simp, rfl⟩
theorem strings_IndexByte_spec (s : List UInt8) (c : UInt8) (H : AH) : ACalls PG strings_IndexByte.n [.str s, u8A c] H fun r H' => r = .int .i64 (Lib.indexByte s c) ∧ H' = H := by
  refine strings_IndexByte.of rfl (wpF_start ?_)
  (first | refine ah ?_ | exact ah0 | fail)
  refine callF_eq (stringslite_IndexByte_spec s c _) ?_
  (first | refine ah ?_ | exact ah0 | fail)
theorem indexByte_in : ∀ (s : List UInt8) (c : UInt8), 0 ≤ Lib.indexByte s c ↔ s.contains c = true
  | [], c => by simp [Lib.indexByte]
  | b :: s, c => by
    have ih := indexByte_in s c
    have ge := Lib.indexByte_ge s c
    unfold Lib.indexByte
    simp only [List.contains_cons, Bool.or_eq_true, beq_iff_eq]
    split
    · rename_i h; simp [h]
    · rename_i h
      split
      · rename_i h2
        rw [h2] at ih
        constructor
        · intro q; omega
        · rintro (q | q)
          · exact (h q.symm).elim
          · have := ih.2 q; omega
      · rename_i h2
        constructor
        · intro q; exact .inr (ih.1 (by omega))
        · intro q; omega
end Go.Proofs.Ytodiahhfpcdejaa

/- Which values are of a type, walked. -/
namespace Go.Proofs.Ytodiahhfpcdejaa
set_option autoImplicit false
set_option linter.unusedSimpArgs false
set_option linter.unusedVariables false
attribute [local irreducible] callA callP ACalls
abbrev askA (l : List Ty) : AV := .agg [tysA l]
theorem fnum_spec (l : List Ty) (hl : TysOk l) (t : Int) (h0 : 0 ≤ t) (h1 : t < l.length) (n : Nat) (H : AH) : ACalls PG fits_asker_number.n [askA l, .int .i64 t, .int .u64 (n : Nat)] H fun r H' => r = .bool (numT l t n) ∧ H' = H := by
  have hlen : (l.map tyR).length = l.length := by simp
  have hll := hl.len
  have hge := tAt_get h0 h1
  have hV := fun H => Value_spec l hl t n H
  refine ACalls.fz (fits_asker_number.of rfl (wpF_start ?_))
  unfold numT
  generalize tAt l t = g at *
  (first | refine au ?_ | exact au0 | fail)
  intro id3 hid3 ht3; have n3 := neAll_of hid3; (try simp only [neAll, neAll_hset] at n3); have m3 := n3; (repeat (obtain ⟨_, m3⟩ := m3))
  (first | refine au ?_ | exact au0 | fail)
  rw [hge]
  (first | refine au ?_ | exact au0 | fail)
  refine bsplit_dec (fun c => ?_) (fun c => ?_)
  · rw [if_pos c]
    (first | refine au ?_ | exact au0 | fail)
    generalize valIx l t n = o at *
    first | refine callF_eq (hV _) ?_ | refine callG_eq rfl (hV _) ?_
    cases o with
    | some k =>
      (first | refine au ?_ | exact au0 | fail)
      exact ⟨fz_of, sub_of⟩
    | none =>
      (first | refine au ?_ | exact au0 | fail)
      exact ⟨fz_of, sub_of⟩
  · rw [if_neg c]
    (first | refine au ?_ | exact au0 | fail)
    rw [hge]
    (first | refine au ?_ | exact au0 | fail)
    first | refine callF_eq (prim_May_spec _ n _) ?_ | refine callG_eq rfl (prim_May_spec _ n _) ?_
    (first | refine au ?_ | exact au0 | fail)
    exact ⟨fz_of, sub_of⟩
/-- What a kind has not, twice. -/
def vForm (k : Int) (n : Nat) (t : List UInt8) (m : Nat) : Bool := decide ((1 ≤ k ∧ k ≤ 9) ∨ k = 14 ∨ (n = 0 ∧ (k = 10 ∨ t = []) ∧ (10 < k ∨ m = 0)))
def vPlain (k : Int) (t : List UInt8) (m : Nat) : Bool := decide ((t = [] ∧ (k = 14 ∨ m = 0)) ∨ k = 10 ∨ (10 < k ∧ k ≠ 14))
theorem vZero_eq {k : Int} (h : 1 ≤ k ∧ k ≤ 14) (n : Nat) (t : List UInt8) (m : Nat) : (vForm k n t m && vPlain k t m) = vZero k n t m := by
  unfold vForm vPlain vZero
  rw [← Bool.decide_and]
  apply decide_eq_decide.2
  by_cases ht : t = []
  · simp only [ht, true_and, ne_eq, not_true_eq_false, false_and, or_true, or_false]; omega
  · simp only [ht, false_and, ne_eq, not_false_eq_true, true_and, or_false, false_or]; omega
theorem fform_spec (v : Vl) (hok : vOk v) (H : AH) : ACalls PG fits_form.n [vlA v] H fun r H' => r = .bool (vForm v.kd v.num v.tx v.its.length) ∧ H' = H := by
  obtain ⟨k, n, t, its⟩ := v
  have hkl := vlRs_len its
  simp only [Vl.kd, Vl.num, Vl.tx, Vl.its]
  simp only [vOk] at hok
  refine ACalls.fz (fits_form.of rfl (wpF_start ?_))
  (first | refine au ?_ | exact au0 | fail)
  intro id1 hid1 ht1; have n1 := neAll_of hid1; (try simp only [neAll, neAll_hset] at n1); have m1 := n1; (repeat (obtain ⟨_, m1⟩ := m1))
  unfold vForm
  by_cases ht : t = []
  · subst ht
    (repeat' (first | (refine au ?_; first | refine callF_eq (prim_Number_spec _ _) ?_ | refine bsplit_dec (fun _ => ?_) (fun _ => ?_) | refine bsplit_intro (fun _ => ?_) (fun _ => ?_)) | exact au0 | fail)); (all_goals try (first | refine au ?_ | fail))
    all_goals first | (exfalso; omega) | skip
    all_goals (refine ⟨fz_eq (congrArg AV.bool ?_), sub_of⟩; simp only [true_or, or_true, true_and, and_true]; first | exact (decide_eq_true (by omega)).symm | exact (decide_eq_false (by omega)).symm | exact decide_eq_decide.2 (by omega) | rfl)
  · (repeat' (first | (refine au ?_; first | refine callF_eq (prim_Number_spec _ _) ?_ | refine bsplit_dec (fun _ => ?_) (fun _ => ?_) | refine bsplit_intro (fun _ => ?_) (fun _ => ?_)) | exact au0 | fail)); (all_goals try (first | refine au ?_ | fail))
    all_goals first | (exfalso; omega) | skip
    all_goals (refine ⟨fz_eq (congrArg AV.bool ?_), sub_of⟩; simp only [ht, or_false]; first | exact (decide_eq_true (by omega)).symm | exact (decide_eq_false (by omega)).symm | exact decide_eq_decide.2 (by omega) | (simp_all; done) | skip)
theorem fplain_spec (v : Vl) (hok : vOk v) (H : AH) : ACalls PG fits_plain.n [vlA v] H fun r H' => r = .bool (vPlain v.kd v.tx v.its.length) ∧ H' = H := by
  obtain ⟨k, n, t, its⟩ := v
  have hkl := vlRs_len its
  simp only [Vl.kd, Vl.num, Vl.tx, Vl.its]
  simp only [vOk] at hok
  refine ACalls.fz (fits_plain.of rfl (wpF_start ?_))
  (first | refine au ?_ | exact au0 | fail)
  intro id1 hid1 ht1; have n1 := neAll_of hid1; (try simp only [neAll, neAll_hset] at n1); have m1 := n1; (repeat (obtain ⟨_, m1⟩ := m1))
  unfold vPlain
  by_cases ht : t = []
  · subst ht
    (repeat' (first | (refine au ?_; first | refine bsplit_dec (fun _ => ?_) (fun _ => ?_) | refine bsplit_intro (fun _ => ?_) (fun _ => ?_)) | exact au0 | fail)); (all_goals try (first | refine au ?_ | fail))
    all_goals first | (exfalso; omega) | skip
    all_goals (refine ⟨fz_eq (congrArg AV.bool ?_), sub_of⟩; simp only [true_or, or_true, true_and, and_true]; first | exact (decide_eq_true (by omega)).symm | exact (decide_eq_false (by omega)).symm | exact decide_eq_decide.2 (by omega) | rfl)
  · (repeat' (first | (refine au ?_; first | refine bsplit_dec (fun _ => ?_) (fun _ => ?_) | refine bsplit_intro (fun _ => ?_) (fun _ => ?_)) | exact au0 | fail)); (all_goals try (first | refine au ?_ | fail))
    all_goals first | (exfalso; omega) | skip
    all_goals (refine ⟨fz_eq (congrArg AV.bool ?_), sub_of⟩; simp only [ht, false_and, false_or]; first | exact (decide_eq_true (by omega)).symm | exact (decide_eq_false (by omega)).symm | exact decide_eq_decide.2 (by omega) | (simp_all; done) | skip)
theorem ftext_spec (s : List UInt8) (hs : s.length ≤ 140737488351232) (b : Int) (H : AH) : ACalls PG fits_text.n [.str s, .int .i64 b] H fun r H' => r = .int .i64 (if b < (s.length : Int) then 3 else if s.contains 0 = true then 10 else 0) ∧ H' = H := by
  refine ACalls.fz (fits_text.of rfl (wpF_start ?_))
  (first | refine au ?_ | exact au0 | fail)
  refine bsplit_dec (fun c => ?_) (fun c => ?_)
  · rw [if_pos c]
    (first | refine au ?_ | exact au0 | fail)
    exact ⟨fz_of, sub_of⟩
  · rw [if_neg c]
    (first | refine au ?_ | exact au0 | fail)
    first | refine callF_eq (strings_IndexByte_spec s 0 _) ?_ | refine callG_eq rfl (strings_IndexByte_spec s 0 _) ?_
    have hi := indexByte_in s 0
    (first | refine au ?_ | exact au0 | fail)
    refine bsplit_dec (fun c => ?_) (fun c => ?_)
    · rw [if_pos (hi.1 c)]
      (first | refine au ?_ | exact au0 | fail)
      exact ⟨fz_of, sub_of⟩
    · rw [if_neg (fun q => c (hi.2 q))]
      (first | refine au ?_ | exact au0 | fail)
      exact ⟨fz_of, sub_of⟩
end Go.Proofs.Ytodiahhfpcdejaa

/- Which values are of a type, walked: items, unions, all. -/
namespace Go.Proofs.Ytodiahhfpcdejaa
set_option autoImplicit false
set_option linter.unusedSimpArgs false
set_option linter.unusedVariables false
attribute [local irreducible] callA callP ACalls
/-- As many items as must be, each of its type. -/
def fitN (l : List Ty) (ps : List Int) (vs : List Vl) : Int := if ps.length ≠ vs.length then 18 else fitEs l ps vs
/-- What 'fits' is known to answer. -/
def FitC (l : List Ty) (v : Vl) : Prop := ∀ t : Int, 0 ≤ t → t < l.length → ∀ H, ACalls PG fits_asker_fits.n [askA l, .int .i64 t, vlA v] H fun r H' => r = .int .i64 (fitE l t v) ∧ H' = H
theorem items_fspec (l : List Ty) (v : Vl) (hok : vOk v) (n : Int) (f : Nat) (caps : List AV) (ps : List Int) (Hs : AH) (hn : n = ps.length) (hin : ∀ p ∈ ps, 0 ≤ p ∧ p < l.length)
    (hof : ∀ (i : Nat) (h : i < ps.length), ACalls PG f (.int .i64 (i : Nat) :: caps) Hs fun r H' => r = .int .i64 ps[i] ∧ H' = Hs) (ih : ∀ w ∈ v.its, FitC l w) :
    ACalls PG fits_asker_items.n [askA l, vlA v, .int .i64 n, .clo f [] caps] Hs fun r H' => r = .int .i64 (fitN l ps v.its) ∧ H' = Hs := by
  obtain ⟨kd, num, tx, its⟩ := v
  have hkl := vlRs_len its
  simp only [vOk] at hok
  obtain ⟨_, _, hlen, hks⟩ := hok
  simp only [Vl.its] at ih ⊢
  subst hn
  refine ACalls.fz (fits_asker_items.of rfl (wpF_start ?_))
  (first | refine au ?_ | exact au0 | fail)
  intro id4 hid4 ht4; have n4 := neAll_of hid4; (try simp only [neAll, neAll_hset] at n4); have m4 := n4; (repeat (obtain ⟨_, m4⟩ := m4))
  (first | refine au ?_ | exact au0 | fail)
  intro id5 hid5 ht5; have n5 := neAll_of hid5; (try simp only [neAll, neAll_hset] at n5); have m5 := n5; (repeat (obtain ⟨_, m5⟩ := m5))
  (first | refine au ?_ | exact au0 | fail)
  refine bsplit_dec (fun c => ?_) (fun c => ?_)
  · have e : fitN l ps its = 18 := if_pos (by omega)
    rw [e]
    (first | refine au ?_ | exact au0 | fail)
    exact ⟨fz_of, sub_of⟩
  have e : fitN l ps its = fitEs l ps its := if_neg (by omega)
  rw [e]
  (first | refine au ?_ | exact au0 | fail)
  refine loopL [(3, some _), (4, some _), (18, some _), (19, some _)] 20 0 its.length (fun i => ∀ (k : Nat) (h1 : k < ps.length) (h2 : k < its.length), k < i → fitE l ps[k] its[k] = 0) (by repeat (first | exact trivial | refine And.intro (Or.inl rfl) ?_ | refine And.intro (Or.inr (Exists.intro _ (And.intro rfl (Fz.refl _)))) ?_ | refine And.intro (Or.inr (Exists.intro _ (And.intro rfl (fz_eq (congrArg (AV.int _) (by omega)))))) ?_ | refine And.intro (Or.inr (Exists.intro _ (And.intro rfl (fz_eq (congrArg (AV.own _ _ _) (by (try dsimp only); (try simp only [List.length_append, List.length_map, List.length_cons, List.length_nil, List.length_take, List.length_set, List.length_replicate]); (try dsimp only); first | done | omega)))))) ?_)) (Nat.zero_le _) (fun k _ _ h => by omega) (fun i hi hno => ?_)
  (first | refine au ?_ | exact au0 | fail)
  refine bsplit_dec (fun c2 => ?_) (fun c2 => ?_)
  · have hil : i < its.length := by omega
    have hip : i < ps.length := by omega
    have hg := vlRs_geti hil
    have hmem := List.getElem_mem hil
    have hf := ih _ hmem
    have hpi := hin _ (List.getElem_mem hip)
    have ho := hof i hip
    have hhit := fitEs_hit (l := l) hno hip hil
    have hnx : fitE l ps[i] its[i] = 0 → ∀ (k : Nat) (h1 : k < ps.length) (h2 : k < its.length), k < i + 1 → fitE l ps[k] its[k] = 0 := fun q k h1 h2 h3 => by
      by_cases e : k = i
      · subst e; exact q
      · exact hno k h1 h2 (by omega)
    generalize its[i] = y at *
    generalize ps[i] = p at *
    have hf := hf p hpi.1 hpi.2
    obtain ⟨k2, n2, t2, l2⟩ := y
    (first | refine au ?_ | exact au0 | fail)
    rw [hg]
    (first | refine au ?_ | exact au0 | fail)
    intro id10 hid10 ht10; have n10 := neAll_of hid10; (try simp only [neAll, neAll_hset] at n10); have m10 := n10; (repeat (obtain ⟨_, m10⟩ := m10))
    (first | refine au ?_ | exact au0 | fail)
    first | refine callF_eq (ho.sup (by exact sub_of)) ?_ | refine callG_eq rfl (ho.sup (by exact sub_of)) ?_
    (first | refine au ?_ | exact au0 | fail)
    first | refine callF_eq (hf _) ?_ | refine callG_eq rfl (hf _) ?_
    (first | refine au ?_ | exact au0 | fail)
    refine bsplit_dec (fun h => ?_) (fun h => ?_)
    · (first | refine au ?_ | exact au0 | fail)
      rw [hhit h]
      exact ⟨fz_of, sub_of⟩
    · (first | refine au ?_ | exact au0 | fail)
      exact nextN (by repeat (first | exact trivial | refine And.intro (Or.inl rfl) ?_ | refine And.intro (Or.inr (Exists.intro _ (And.intro rfl (Fz.refl _)))) ?_ | refine And.intro (Or.inr (Exists.intro _ (And.intro rfl (fz_eq (congrArg (AV.int _) (by omega)))))) ?_ | refine And.intro (Or.inr (Exists.intro _ (And.intro rfl (fz_eq (congrArg (AV.own _ _ _) (by (try dsimp only); (try simp only [List.length_append, List.length_map, List.length_cons, List.length_nil, List.length_take, List.length_set, List.length_replicate]); (try dsimp only); first | done | omega)))))) ?_)) (by exact sub_of) (by omega) (hnx (Classical.not_not.1 h))
  · (first | refine au ?_ | exact au0 | fail)
    rw [fitEs_end fun k h1 h2 => hno k h1 h2 (by omega)]
    exact ⟨fz_of, sub_of⟩
theorem fits1_spec (x : Ty) (i : Int) (id : Nat) : ACalls PG fits_asker_fits_1.n [.int .i64 i, .ptr id 6 0 0] [(id, .rows 6 [tyR x])] fun r H' => r = .int .i64 x.el ∧ H' = [(id, .rows 6 [tyR x])] := by
  refine ACalls.fz (fits_asker_fits_1.of' (Nat.le_of_ble_eq_true rfl) (wpF_start ?_))
  (first | refine au ?_ | exact au0 | fail)
  exact ⟨fz_of, sub_of⟩
theorem fits2_spec (x : Ty) (i : Int) (id : Nat) : ACalls PG fits_asker_fits_2.n [.int .i64 i, .ptr id 6 0 0] [(id, .rows 6 [tyR x])] fun r H' => r = .int .i64 x.el ∧ H' = [(id, .rows 6 [tyR x])] := by
  refine ACalls.fz (fits_asker_fits_2.of' (Nat.le_of_ble_eq_true rfl) (wpF_start ?_))
  (first | refine au ?_ | exact au0 | fail)
  exact ⟨fz_of, sub_of⟩
theorem fits3_spec (x : Ty) (i : Nat) (hi : i < x.its.length) (id : Nat) : ACalls PG fits_asker_fits_3.n [.int .i64 (i : Nat), .ptr id 6 0 0] [(id, .rows 6 [tyR x])] fun r H' => r = .int .i64 x.its[i].ty ∧ H' = [(id, .rows 6 [tyR x])] := by
  have hlen : (x.its.map itR).length = x.its.length := by simp
  have hg := row_get (f := itR) hi
  refine ACalls.fz (fits_asker_fits_3.of' (Nat.le_of_ble_eq_true rfl) (wpF_start ?_))
  generalize x.its[i] = y at *
  (first | refine au ?_ | exact au0 | fail)
  rw [hg]
  (first | refine au ?_ | exact au0 | fail)
  exact ⟨fz_of, sub_of⟩
theorem union1_spec (i : Int) (H : AH) : ACalls PG fits_asker_union_1.n [.int .i64 i] H fun r H' => r = .int .i64 0 ∧ H' = H := by
  refine ACalls.fz (fits_asker_union_1.of rfl (wpF_start ?_))
  (first | refine au ?_ | exact au0 | fail)
  exact ⟨fz_of, sub_of⟩
theorem union2_spec (l : List Ty) (t : Int) (h0 : 0 ≤ t) (h1 : t < l.length) (n : Nat) (hn : n < (tAt l t).its.length) (i : Int) (ida idt idn : Nat) (d1 : ida ≠ idt) (d2 : ida ≠ idn) (d3 : idt ≠ idn) (Hs : AH) (e1 : hget Hs ida = some (.rows 1 [[tysA l]])) (e2 : hget Hs idt = some (.rows 1 [[.int .i64 t]])) (e3 : hget Hs idn = some (.rows 1 [[.int .i64 (n : Nat)]])) :
    ACalls PG fits_asker_union_2.n [.int .i64 i, .ptr ida 1 0 0, .ptr idt 1 0 0, .ptr idn 1 0 0] Hs fun r H' => r = .int .i64 ((tAt l t).its.getD n it0).ty ∧ H' = Hs := by
  have hlen : (l.map tyR).length = l.length := by simp
  have hge := tAt_get h0 h1
  rw [getD_get hn]
  have hlen2 : ((tAt l t).its.map itR).length = (tAt l t).its.length := by simp
  have hg := row_get (f := itR) hn
  refine ACalls.fz (fits_asker_union_2.of' (Nat.le_of_ble_eq_true rfl) (wpF_start ?_))
  generalize (tAt l t).its[n] = y at *
  generalize tAt l t = g at *
  (first | refine au ?_ | exact au0 | fail)
  rw [hge]
  (first | refine au ?_ | exact au0 | fail)
  rw [hg]
  (first | refine au ?_ | exact au0 | fail)
  exact ⟨fz_of, sub_of⟩
end Go.Proofs.Ytodiahhfpcdejaa

/- Which values are of a type, walked: unions, all. -/
namespace Go.Proofs.Ytodiahhfpcdejaa
set_option autoImplicit false
set_option linter.unusedSimpArgs false
set_option linter.unusedVariables false
attribute [local irreducible] callA callP ACalls
theorem fitE_eq (l : List Ty) (t : Int) (k : Int) (n : Nat) (x : List UInt8) (vs : List Vl) : fitE l t (.mk k n x vs) =
    if k ≠ (tAt l t).kd then 4
    else if vZero k n x vs.length = false then 1
    else if (isNum k = true ∧ numT l t n = false) ∨ (k = 14 ∧ numT l (tAt l t).tg n = false) then 7
    else if k = 10 ∧ (tAt l t).bd < (x.length : Int) then 3
    else if k = 10 ∧ x.contains 0 = true then 10
    else if k = 11 ∧ (tAt l t).bd < (vs.length : Int) then 3
    else fitN l (partT l t n vs.length) vs := by
  rw [fitE]
  unfold fitH fitN
  repeat' split
  all_goals first | rfl | (simp_all; done) | skip
theorem TyG.parts {l : List Ty} {n : Nat} {t : Ty} (h : TyG l n t) : ∀ p ∈ parts t, 0 ≤ p ∧ p < n := orderE_in h.order
theorem TyG.kd {l : List Ty} {n : Nat} {t : Ty} (h : TyG l n t) : 1 ≤ t.kd ∧ t.kd ≤ 14 := by
  have := h.form
  unfold formE at this
  split at this
  · cases this
  · omega
theorem TyV.tAt {l : List Ty} (h : TyV l) {t : Int} (h0 : 0 ≤ t) (h1 : t < l.length) : TyG l t.toNat (tAt l t) := by
  have := h.at (i := t.toNat) (by omega)
  unfold Go.Proofs.Ytodiahhfpcdejaa.tAt
  rw [getD_get (by omega)]
  exact this
theorem TyG.bd {l : List Ty} {n : Nat} {t : Ty} (h : TyG l n t) (hb : kBd t.kd = true) : 0 ≤ t.bd ∧ t.bd ≤ 64 ∧ (kEl t.kd = true → 1 ≤ t.bd) := by
  have := h.bound
  unfold boundE at this
  split at this
  · cases this
  · rename_i q
    refine ⟨?_, ?_, fun e => ?_⟩
    · apply Classical.byContradiction; intro c; exact q ⟨hb, by omega⟩
    · apply Classical.byContradiction; intro c; exact q ⟨hb, by omega⟩
    · apply Classical.byContradiction; intro c
      have : ¬ t.bd < 0 := fun c2 => q ⟨hb, .inr (.inl c2)⟩
      exact q ⟨hb, .inr (.inr ⟨e, by omega⟩)⟩
theorem brIx_lt {l : List Ty} {t : Int} {n k : Nat} (h : brIx l t n = some k) : k < (tAt l t).its.length := by
  unfold brIx at h
  split at h
  · cases h1 : (Go.Proofs.Ytodiahhfpcdejaa.tAt l t).its.findIdx? (fun x => x.num == n && !x.rest) with
    | some j =>
      rw [h1] at h
      simp only [Option.some_or, Option.some.injEq] at h
      obtain ⟨a, _⟩ := find_some h1
      omega
    | none =>
      rw [h1] at h
      simp only [Option.none_or] at h
      obtain ⟨a, _⟩ := find_some h
      exact a
  · cases h
theorem union_spec (l : List Ty) (hl : TysOk l) (hv : TyV l) (v : Vl) (hok : vOk v) (t : Int) (h0 : 0 ≤ t) (h1 : t < l.length) (h14 : (tAt l t).kd = 14) (ih : ∀ w ∈ v.its, FitC l w) (H : AH) :
    ACalls PG fits_asker_union.n [askA l, .int .i64 t, vlA v] H fun r H' => r = .int .i64 (if numT l (tAt l t).tg v.num = false then 7 else fitN l (partT l t v.num v.its.length) v.its) ∧ H' = H := by
  have hlen : (l.map tyR).length = l.length := by simp
  have hll := hl.len
  have hge := tAt_get h0 h1
  have hG := hv.tAt h0 h1
  have htg := hG.parts _ (parts_tag h14)
  have hpt : ∀ x ∈ (tAt l t).its, 0 ≤ x.ty ∧ x.ty < l.length := fun x hx => by
    have := hG.parts _ (parts_item (.inr h14) hx); omega
  have hB := fun H => Branch_spec l hl t v.num H
  have hN := fun H => fnum_spec l hl (tAt l t).tg htg.1 (by omega) v.num H
  have hpp : partT l t v.num v.its.length = match brIx l t v.num with
    | some k => [((tAt l t).its.getD k it0).ty]
    | none => [] := by
    unfold partT; rw [if_neg (by omega), if_neg (by omega), if_neg (by omega), if_pos h14]; cases brIx l t v.num <;> rfl
  rw [hpp]
  have hlt := fun k => @brIx_lt l t v.num k
  have hu2 := fun k (hk : k < (tAt l t).its.length) => union2_spec l t h0 h1 k hk
  have hit0 := items_fspec l v hok 0 fits_asker_union_1.n [] []
  have hit1 := fun f caps p Hs => items_fspec l v hok 1 f caps [p] Hs rfl
  obtain ⟨b, hb⟩ : ∃ b, numT l (tAt l t).tg v.num = b := ⟨_, rfl⟩
  obtain ⟨o, ho⟩ : ∃ o, brIx l t v.num = o := ⟨_, rfl⟩
  rw [hb] at hN ⊢
  rw [ho] at hB ⊢
  refine ACalls.fz (fits_asker_union.of rfl (wpF_start ?_))
  obtain ⟨kd, num, tx, its⟩ := v
  (first | refine au ?_ | exact au0 | fail)
  intro id3 hid3 ht3; have n3 := neAll_of hid3; (try simp only [neAll, neAll_hset] at n3); have m3 := n3; (repeat (obtain ⟨_, m3⟩ := m3))
  (first | refine au ?_ | exact au0 | fail)
  intro id4 hid4 ht4; have n4 := neAll_of hid4; (try simp only [neAll, neAll_hset] at n4); have m4 := n4; (repeat (obtain ⟨_, m4⟩ := m4))
  (first | refine au ?_ | exact au0 | fail)
  intro id5 hid5 ht5; have n5 := neAll_of hid5; (try simp only [neAll, neAll_hset] at n5); have m5 := n5; (repeat (obtain ⟨_, m5⟩ := m5))
  (first | refine au ?_ | exact au0 | fail)
  rw [hge]
  (first | refine au ?_ | exact au0 | fail)
  first | refine callF_eq (hN _) ?_ | refine callG_eq rfl (hN _) ?_
  cases b
  · rw [if_pos rfl]
    (first | refine au ?_ | exact au0 | fail)
    exact ⟨fz_of, sub_of⟩
  rw [if_neg (by simp)]
  (first | refine au ?_ | exact au0 | fail)
  first | refine callF_eq (hB _) ?_ | refine callG_eq rfl (hB _) ?_
  cases o with
  | none =>
    (first | refine au ?_ | exact au0 | fail)
    intro id7 hid7 ht7; have n7 := neAll_of hid7; (try simp only [neAll, neAll_hset] at n7); have m7 := n7; (repeat (obtain ⟨_, m7⟩ := m7))
    (first | refine au ?_ | exact au0 | fail)
    first | refine callF_eq ((hit0 [] rfl (by simp) (fun i h => by simp at h) ih).sup (by exact sub_of)) ?_ | refine callG_eq rfl ((hit0 [] rfl (by simp) (fun i h => by simp at h) ih).sup (by exact sub_of)) ?_
    (first | refine au ?_ | exact au0 | fail)
    exact ⟨fz_of, sub_of⟩
  | some k =>
    have hk := hlt k ho
    (first | refine au ?_ | exact au0 | fail)
    intro id7 hid7 ht7; have n7 := neAll_of hid7; (try simp only [neAll, neAll_hset] at n7); have m7 := n7; (repeat (obtain ⟨_, m7⟩ := m7))
    (first | refine au ?_ | exact au0 | fail)
    have hc := fun (Hs : AH) (e1 : hget Hs id3 = some (.rows 1 [[tysA l]])) (e2 : hget Hs id4 = some (.rows 1 [[.int .i64 t]])) (e3 : hget Hs id7 = some (.rows 1 [[.int .i64 (k : Nat)]])) => hit1 fits_asker_union_2.n [.ptr id3 1 0 0, .ptr id4 1 0 0, .ptr id7 1 0 0] ((tAt l t).its.getD k it0).ty Hs
      (by intro p hp; simp only [List.mem_singleton] at hp; rw [hp, getD_get hk]; exact hpt _ (List.getElem_mem hk))
      (fun i h => by
        have hi0 : i = 0 := by simpa using h
        subst hi0
        exact hu2 k hk _ id3 id4 id7 (by omega) (by omega) (by omega) _ e1 e2 e3) ih
    first | refine callF_eq (hc _ (by exact hg_of) (by exact hg_of) (by exact hg_of)) ?_ | refine callG_eq rfl (hc _ (by exact hg_of) (by exact hg_of) (by exact hg_of)) ?_
    (first | refine au ?_ | exact au0 | fail)
    exact ⟨fz_of, sub_of⟩
theorem partT_el {l : List Ty} {t : Int} {g : Ty} (hg : tAt l t = g) (h : g.kd = 11) (n m : Nat) : partT l t n m = List.replicate m g.el := by
  unfold partT; rw [hg, if_pos h]
theorem partT_ar {l : List Ty} {t : Int} {g : Ty} (hg : tAt l t = g) (h : g.kd = 12) (n m : Nat) : partT l t n m = List.replicate g.bd.toNat g.el := by
  unfold partT; rw [hg, if_neg (by omega), if_pos h]
theorem partT_st {l : List Ty} {t : Int} {g : Ty} (hg : tAt l t = g) (h : g.kd = 13) (n m : Nat) : partT l t n m = g.its.map (·.ty) := by
  unfold partT; rw [hg, if_neg (by omega), if_neg (by omega), if_pos h]
theorem partT_no {l : List Ty} {t : Int} {g : Ty} (hg : tAt l t = g) (h : g.kd ≤ 10) (n m : Nat) : partT l t n m = [] := by
  unfold partT; rw [hg, if_neg (by omega), if_neg (by omega), if_neg (by omega), if_neg (by omega)]
section
variable {l : List Ty} {t : Int} {g : Ty} {k : Int} {n : Nat} {x : List UInt8} {vs : List Vl} {H : AH}
/-- Where a type stands in a list. -/
structure FAt (l : List Ty) (t : Int) (g : Ty) : Prop where
  h0 : 0 ≤ t
  h1 : t < ((l.map tyR).length : Nat)
  ge : (l.map tyR).getD t.toNat [] = tyR g
abbrev FRes (l : List Ty) (t : Int) (v : Vl) (H : AH) (e : Int) : Prop := ACalls PG fits_asker_fits.n [askA l, .int .i64 t, vlA v] H fun r H' => r = .int .i64 e ∧ H' = H
theorem fits_kind (a : FAt l t g) (hk : k ≠ g.kd) : FRes l t (.mk k n x vs) H 4 := by
  obtain ⟨h0, h1, hge⟩ := a
  have hkl := vlRs_len vs
  refine ACalls.fz (fits_asker_fits.of rfl (wpF_start ?_))
  (first | refine au ?_ | exact au0 | fail)
  intro id3 hid3 ht3; have n3 := neAll_of hid3; (try simp only [neAll, neAll_hset] at n3); have m3 := n3; (repeat (obtain ⟨_, m3⟩ := m3))
  (first | refine au ?_ | exact au0 | fail)
  intro id5 hid5 ht5; have n5 := neAll_of hid5; (try simp only [neAll, neAll_hset] at n5); have m5 := n5; (repeat (obtain ⟨_, m5⟩ := m5))
  (first | refine au ?_ | exact au0 | fail)
  rw [hge]
  (first | refine au ?_ | exact au0 | fail)
  intro id7 hid7 ht7; have n7 := neAll_of hid7; (try simp only [neAll, neAll_hset] at n7); have m7 := n7; (repeat (obtain ⟨_, m7⟩ := m7))
  clear hid3 hid5 hid7 ht3 ht5 ht7
  (first | refine au ?_ | exact au0 | fail)
  exact ⟨fz_of, sub_of⟩
theorem fits_form0 (a : FAt l t g) (hk : k = g.kd) (hF : ∀ H, ACalls PG fits_form.n [vlA (.mk k n x vs)] H fun r H' => r = .bool false ∧ H' = H) : FRes l t (.mk k n x vs) H 1 := by
  obtain ⟨h0, h1, hge⟩ := a
  have hkl := vlRs_len vs
  refine ACalls.fz (fits_asker_fits.of rfl (wpF_start ?_))
  (first | refine au ?_ | exact au0 | fail)
  intro id3 hid3 ht3; have n3 := neAll_of hid3; (try simp only [neAll, neAll_hset] at n3); have m3 := n3; (repeat (obtain ⟨_, m3⟩ := m3))
  (first | refine au ?_ | exact au0 | fail)
  intro id5 hid5 ht5; have n5 := neAll_of hid5; (try simp only [neAll, neAll_hset] at n5); have m5 := n5; (repeat (obtain ⟨_, m5⟩ := m5))
  (first | refine au ?_ | exact au0 | fail)
  rw [hge]
  (first | refine au ?_ | exact au0 | fail)
  intro id7 hid7 ht7; have n7 := neAll_of hid7; (try simp only [neAll, neAll_hset] at n7); have m7 := n7; (repeat (obtain ⟨_, m7⟩ := m7))
  clear hid3 hid5 hid7 ht3 ht5 ht7
  (first | refine au ?_ | exact au0 | fail)
  first | refine callF_eq (hF _) ?_ | refine callG_eq rfl (hF _) ?_
  (first | refine au ?_ | exact au0 | fail)
  exact ⟨fz_of, sub_of⟩
theorem fits_form1 (a : FAt l t g) (hk : k = g.kd) (hF : ∀ H, ACalls PG fits_form.n [vlA (.mk k n x vs)] H fun r H' => r = .bool true ∧ H' = H) (hP : ∀ H, ACalls PG fits_plain.n [vlA (.mk k n x vs)] H fun r H' => r = .bool false ∧ H' = H) : FRes l t (.mk k n x vs) H 1 := by
  obtain ⟨h0, h1, hge⟩ := a
  have hkl := vlRs_len vs
  refine ACalls.fz (fits_asker_fits.of rfl (wpF_start ?_))
  (first | refine au ?_ | exact au0 | fail)
  intro id3 hid3 ht3; have n3 := neAll_of hid3; (try simp only [neAll, neAll_hset] at n3); have m3 := n3; (repeat (obtain ⟨_, m3⟩ := m3))
  (first | refine au ?_ | exact au0 | fail)
  intro id5 hid5 ht5; have n5 := neAll_of hid5; (try simp only [neAll, neAll_hset] at n5); have m5 := n5; (repeat (obtain ⟨_, m5⟩ := m5))
  (first | refine au ?_ | exact au0 | fail)
  rw [hge]
  (first | refine au ?_ | exact au0 | fail)
  intro id7 hid7 ht7; have n7 := neAll_of hid7; (try simp only [neAll, neAll_hset] at n7); have m7 := n7; (repeat (obtain ⟨_, m7⟩ := m7))
  clear hid3 hid5 hid7 ht3 ht5 ht7
  (first | refine au ?_ | exact au0 | fail)
  first | refine callF_eq (hF _) ?_ | refine callG_eq rfl (hF _) ?_
  (first | refine au ?_ | exact au0 | fail)
  first | refine callF_eq (hP _) ?_ | refine callG_eq rfl (hP _) ?_
  (first | refine au ?_ | exact au0 | fail)
  exact ⟨fz_of, sub_of⟩
/-- The value has what its kind has. -/
structure FZ (k : Int) (n : Nat) (x : List UInt8) (vs : List Vl) (g : Ty) : Prop where
  hk : k = g.kd
  hF : ∀ H, ACalls PG fits_form.n [vlA (.mk k n x vs)] H fun r H' => r = .bool true ∧ H' = H
  hP : ∀ H, ACalls PG fits_plain.n [vlA (.mk k n x vs)] H fun r H' => r = .bool true ∧ H' = H
theorem fits_num (a : FAt l t g) (z : FZ k n x vs g) (h9 : isNum g.kd = true) {b : Bool} (hN : ∀ H, ACalls PG fits_asker_number.n [askA l, .int .i64 t, .int .u64 (n : Nat)] H fun r H' => r = .bool b ∧ H' = H) : FRes l t (.mk k n x vs) H (if b = true then 0 else 7) := by
  obtain ⟨h0, h1, hge⟩ := a
  obtain ⟨hk, hF, hP⟩ := z
  have hkl := vlRs_len vs
  refine ACalls.fz (fits_asker_fits.of rfl (wpF_start ?_))
  (first | refine au ?_ | exact au0 | fail)
  intro id3 hid3 ht3; have n3 := neAll_of hid3; (try simp only [neAll, neAll_hset] at n3); have m3 := n3; (repeat (obtain ⟨_, m3⟩ := m3))
  (first | refine au ?_ | exact au0 | fail)
  intro id5 hid5 ht5; have n5 := neAll_of hid5; (try simp only [neAll, neAll_hset] at n5); have m5 := n5; (repeat (obtain ⟨_, m5⟩ := m5))
  (first | refine au ?_ | exact au0 | fail)
  rw [hge]
  (first | refine au ?_ | exact au0 | fail)
  intro id7 hid7 ht7; have n7 := neAll_of hid7; (try simp only [neAll, neAll_hset] at n7); have m7 := n7; (repeat (obtain ⟨_, m7⟩ := m7))
  clear hid3 hid5 hid7 ht3 ht5 ht7
  (first | refine au ?_ | exact au0 | fail)
  first | refine callF_eq (hF _) ?_ | refine callG_eq rfl (hF _) ?_
  (first | refine au ?_ | exact au0 | fail)
  first | refine callF_eq (hP _) ?_ | refine callG_eq rfl (hP _) ?_
  clear hF hP
  (first | refine au ?_ | exact au0 | fail)
  have hnum := fun H => prim_Number_spec g.kd H
  rw [h9] at hnum
  first | refine callF_eq (hnum _) ?_ | refine callG_eq rfl (hnum _) ?_
  (first | refine au ?_ | exact au0 | fail)
  first | refine callF_eq (hN _) ?_ | refine callG_eq rfl (hN _) ?_
  cases b
  · (first | refine au ?_ | exact au0 | fail)
    exact ⟨fz_of, sub_of⟩
  · (first | refine au ?_ | exact au0 | fail)
    exact ⟨fz_of, sub_of⟩
theorem fits_str (a : FAt l t g) (z : FZ k n x vs g) (h9 : isNum g.kd = false) (h10 : g.kd = 10) {e : Int} (hT : ∀ H, ACalls PG fits_text.n [.str x, .int .i64 g.bd] H fun r H' => r = .int .i64 e ∧ H' = H) : FRes l t (.mk k n x vs) H e := by
  obtain ⟨h0, h1, hge⟩ := a
  obtain ⟨hk, hF, hP⟩ := z
  have hkl := vlRs_len vs
  refine ACalls.fz (fits_asker_fits.of rfl (wpF_start ?_))
  (first | refine au ?_ | exact au0 | fail)
  intro id3 hid3 ht3; have n3 := neAll_of hid3; (try simp only [neAll, neAll_hset] at n3); have m3 := n3; (repeat (obtain ⟨_, m3⟩ := m3))
  (first | refine au ?_ | exact au0 | fail)
  intro id5 hid5 ht5; have n5 := neAll_of hid5; (try simp only [neAll, neAll_hset] at n5); have m5 := n5; (repeat (obtain ⟨_, m5⟩ := m5))
  (first | refine au ?_ | exact au0 | fail)
  rw [hge]
  (first | refine au ?_ | exact au0 | fail)
  intro id7 hid7 ht7; have n7 := neAll_of hid7; (try simp only [neAll, neAll_hset] at n7); have m7 := n7; (repeat (obtain ⟨_, m7⟩ := m7))
  clear hid3 hid5 hid7 ht3 ht5 ht7
  (first | refine au ?_ | exact au0 | fail)
  first | refine callF_eq (hF _) ?_ | refine callG_eq rfl (hF _) ?_
  (first | refine au ?_ | exact au0 | fail)
  first | refine callF_eq (hP _) ?_ | refine callG_eq rfl (hP _) ?_
  clear hF hP
  (first | refine au ?_ | exact au0 | fail)
  have hnum := fun H => prim_Number_spec g.kd H
  rw [h9] at hnum
  first | refine callF_eq (hnum _) ?_ | refine callG_eq rfl (hnum _) ?_
  (first | refine au ?_ | exact au0 | fail)
  first | refine callF_eq (hT _) ?_ | refine callG_eq rfl (hT _) ?_
  (first | refine au ?_ | exact au0 | fail)
  exact ⟨fz_of, sub_of⟩
theorem fits_seq0 (a : FAt l t g) (z : FZ k n x vs g) (h9 : isNum g.kd = false) (h11 : g.kd = 11) (hb : g.bd < (vs.length : Nat)) : FRes l t (.mk k n x vs) H 3 := by
  obtain ⟨h0, h1, hge⟩ := a
  obtain ⟨hk, hF, hP⟩ := z
  have hkl := vlRs_len vs
  refine ACalls.fz (fits_asker_fits.of rfl (wpF_start ?_))
  (first | refine au ?_ | exact au0 | fail)
  intro id3 hid3 ht3; have n3 := neAll_of hid3; (try simp only [neAll, neAll_hset] at n3); have m3 := n3; (repeat (obtain ⟨_, m3⟩ := m3))
  (first | refine au ?_ | exact au0 | fail)
  intro id5 hid5 ht5; have n5 := neAll_of hid5; (try simp only [neAll, neAll_hset] at n5); have m5 := n5; (repeat (obtain ⟨_, m5⟩ := m5))
  (first | refine au ?_ | exact au0 | fail)
  rw [hge]
  (first | refine au ?_ | exact au0 | fail)
  intro id7 hid7 ht7; have n7 := neAll_of hid7; (try simp only [neAll, neAll_hset] at n7); have m7 := n7; (repeat (obtain ⟨_, m7⟩ := m7))
  clear hid3 hid5 hid7 ht3 ht5 ht7
  (first | refine au ?_ | exact au0 | fail)
  first | refine callF_eq (hF _) ?_ | refine callG_eq rfl (hF _) ?_
  (first | refine au ?_ | exact au0 | fail)
  first | refine callF_eq (hP _) ?_ | refine callG_eq rfl (hP _) ?_
  clear hF hP
  (first | refine au ?_ | exact au0 | fail)
  have hnum := fun H => prim_Number_spec g.kd H
  rw [h9] at hnum
  first | refine callF_eq (hnum _) ?_ | refine callG_eq rfl (hnum _) ?_
  (first | refine au ?_ | exact au0 | fail)
  exact ⟨fz_of, sub_of⟩
theorem fits_seq (a : FAt l t g) (z : FZ k n x vs g) (h9 : isNum g.kd = false) (h11 : g.kd = 11) (hb : (vs.length : Nat) ≤ g.bd) {e : Int}
    (hI : ∀ id Hs, hget Hs id = some (.rows 6 [tyR g]) → ACalls PG fits_asker_items.n [askA l, vlA (.mk k n x vs), .int .i64 (vs.length : Nat), .clo fits_asker_fits_1.n [] [.ptr id 6 0 0]] Hs fun r H' => r = .int .i64 e ∧ H' = Hs) : FRes l t (.mk k n x vs) H e := by
  obtain ⟨h0, h1, hge⟩ := a
  obtain ⟨hk, hF, hP⟩ := z
  have hkl := vlRs_len vs
  refine ACalls.fz (fits_asker_fits.of rfl (wpF_start ?_))
  (first | refine au ?_ | exact au0 | fail)
  intro id3 hid3 ht3; have n3 := neAll_of hid3; (try simp only [neAll, neAll_hset] at n3); have m3 := n3; (repeat (obtain ⟨_, m3⟩ := m3))
  (first | refine au ?_ | exact au0 | fail)
  intro id5 hid5 ht5; have n5 := neAll_of hid5; (try simp only [neAll, neAll_hset] at n5); have m5 := n5; (repeat (obtain ⟨_, m5⟩ := m5))
  (first | refine au ?_ | exact au0 | fail)
  rw [hge]
  (first | refine au ?_ | exact au0 | fail)
  intro id7 hid7 ht7; have n7 := neAll_of hid7; (try simp only [neAll, neAll_hset] at n7); have m7 := n7; (repeat (obtain ⟨_, m7⟩ := m7))
  clear hid3 hid5 hid7 ht3 ht5 ht7
  (first | refine au ?_ | exact au0 | fail)
  first | refine callF_eq (hF _) ?_ | refine callG_eq rfl (hF _) ?_
  (first | refine au ?_ | exact au0 | fail)
  first | refine callF_eq (hP _) ?_ | refine callG_eq rfl (hP _) ?_
  clear hF hP
  (first | refine au ?_ | exact au0 | fail)
  have hnum := fun H => prim_Number_spec g.kd H
  rw [h9] at hnum
  first | refine callF_eq (hnum _) ?_ | refine callG_eq rfl (hnum _) ?_
  (first | refine au ?_ | exact au0 | fail)
  rw [hkl]
  first | refine callF_eq (hI _ _ (by exact hg_of)) ?_ | refine callG_eq rfl (hI _ _ (by exact hg_of)) ?_
  (first | refine au ?_ | exact au0 | fail)
  exact ⟨fz_of, sub_of⟩
theorem fits_arr (a : FAt l t g) (z : FZ k n x vs g) (h9 : isNum g.kd = false) (h12 : g.kd = 12) {e : Int}
    (hI : ∀ id Hs, hget Hs id = some (.rows 6 [tyR g]) → ACalls PG fits_asker_items.n [askA l, vlA (.mk k n x vs), .int .i64 g.bd, .clo fits_asker_fits_2.n [] [.ptr id 6 0 0]] Hs fun r H' => r = .int .i64 e ∧ H' = Hs) : FRes l t (.mk k n x vs) H e := by
  obtain ⟨h0, h1, hge⟩ := a
  obtain ⟨hk, hF, hP⟩ := z
  have hkl := vlRs_len vs
  refine ACalls.fz (fits_asker_fits.of rfl (wpF_start ?_))
  (first | refine au ?_ | exact au0 | fail)
  intro id3 hid3 ht3; have n3 := neAll_of hid3; (try simp only [neAll, neAll_hset] at n3); have m3 := n3; (repeat (obtain ⟨_, m3⟩ := m3))
  (first | refine au ?_ | exact au0 | fail)
  intro id5 hid5 ht5; have n5 := neAll_of hid5; (try simp only [neAll, neAll_hset] at n5); have m5 := n5; (repeat (obtain ⟨_, m5⟩ := m5))
  (first | refine au ?_ | exact au0 | fail)
  rw [hge]
  (first | refine au ?_ | exact au0 | fail)
  intro id7 hid7 ht7; have n7 := neAll_of hid7; (try simp only [neAll, neAll_hset] at n7); have m7 := n7; (repeat (obtain ⟨_, m7⟩ := m7))
  clear hid3 hid5 hid7 ht3 ht5 ht7
  (first | refine au ?_ | exact au0 | fail)
  first | refine callF_eq (hF _) ?_ | refine callG_eq rfl (hF _) ?_
  (first | refine au ?_ | exact au0 | fail)
  first | refine callF_eq (hP _) ?_ | refine callG_eq rfl (hP _) ?_
  clear hF hP
  (first | refine au ?_ | exact au0 | fail)
  have hnum := fun H => prim_Number_spec g.kd H
  rw [h9] at hnum
  first | refine callF_eq (hnum _) ?_ | refine callG_eq rfl (hnum _) ?_
  (first | refine au ?_ | exact au0 | fail)
  first | refine callF_eq (hI _ _ (by exact hg_of)) ?_ | refine callG_eq rfl (hI _ _ (by exact hg_of)) ?_
  (first | refine au ?_ | exact au0 | fail)
  exact ⟨fz_of, sub_of⟩
theorem fits_stc (a : FAt l t g) (z : FZ k n x vs g) (h9 : isNum g.kd = false) (h13 : g.kd = 13) (hli : g.its.length ≤ 4000000000000) {e : Int}
    (hI : ∀ id Hs, hget Hs id = some (.rows 6 [tyR g]) → ACalls PG fits_asker_items.n [askA l, vlA (.mk k n x vs), .int .i64 (g.its.length : Nat), .clo fits_asker_fits_3.n [] [.ptr id 6 0 0]] Hs fun r H' => r = .int .i64 e ∧ H' = Hs) : FRes l t (.mk k n x vs) H e := by
  have hlen2 : (g.its.map itR).length = g.its.length := by simp
  obtain ⟨h0, h1, hge⟩ := a
  obtain ⟨hk, hF, hP⟩ := z
  have hkl := vlRs_len vs
  refine ACalls.fz (fits_asker_fits.of rfl (wpF_start ?_))
  (first | refine au ?_ | exact au0 | fail)
  intro id3 hid3 ht3; have n3 := neAll_of hid3; (try simp only [neAll, neAll_hset] at n3); have m3 := n3; (repeat (obtain ⟨_, m3⟩ := m3))
  (first | refine au ?_ | exact au0 | fail)
  intro id5 hid5 ht5; have n5 := neAll_of hid5; (try simp only [neAll, neAll_hset] at n5); have m5 := n5; (repeat (obtain ⟨_, m5⟩ := m5))
  (first | refine au ?_ | exact au0 | fail)
  rw [hge]
  (first | refine au ?_ | exact au0 | fail)
  intro id7 hid7 ht7; have n7 := neAll_of hid7; (try simp only [neAll, neAll_hset] at n7); have m7 := n7; (repeat (obtain ⟨_, m7⟩ := m7))
  clear hid3 hid5 hid7 ht3 ht5 ht7
  (first | refine au ?_ | exact au0 | fail)
  first | refine callF_eq (hF _) ?_ | refine callG_eq rfl (hF _) ?_
  (first | refine au ?_ | exact au0 | fail)
  first | refine callF_eq (hP _) ?_ | refine callG_eq rfl (hP _) ?_
  clear hF hP
  (first | refine au ?_ | exact au0 | fail)
  have hnum := fun H => prim_Number_spec g.kd H
  rw [h9] at hnum
  first | refine callF_eq (hnum _) ?_ | refine callG_eq rfl (hnum _) ?_
  (first | refine au ?_ | exact au0 | fail)
  rw [hlen2]
  first | refine callF_eq (hI _ _ (by exact hg_of)) ?_ | refine callG_eq rfl (hI _ _ (by exact hg_of)) ?_
  (first | refine au ?_ | exact au0 | fail)
  exact ⟨fz_of, sub_of⟩
theorem fits_uni (a : FAt l t g) (z : FZ k n x vs g) (h9 : isNum g.kd = false) (h14 : g.kd = 14) {e : Int}
    (hU : ∀ H, ACalls PG fits_asker_union.n [askA l, .int .i64 t, vlA (.mk k n x vs)] H fun r H' => r = .int .i64 e ∧ H' = H) : FRes l t (.mk k n x vs) H e := by
  obtain ⟨h0, h1, hge⟩ := a
  obtain ⟨hk, hF, hP⟩ := z
  have hkl := vlRs_len vs
  refine ACalls.fz (fits_asker_fits.of rfl (wpF_start ?_))
  (first | refine au ?_ | exact au0 | fail)
  intro id3 hid3 ht3; have n3 := neAll_of hid3; (try simp only [neAll, neAll_hset] at n3); have m3 := n3; (repeat (obtain ⟨_, m3⟩ := m3))
  (first | refine au ?_ | exact au0 | fail)
  intro id5 hid5 ht5; have n5 := neAll_of hid5; (try simp only [neAll, neAll_hset] at n5); have m5 := n5; (repeat (obtain ⟨_, m5⟩ := m5))
  (first | refine au ?_ | exact au0 | fail)
  rw [hge]
  (first | refine au ?_ | exact au0 | fail)
  intro id7 hid7 ht7; have n7 := neAll_of hid7; (try simp only [neAll, neAll_hset] at n7); have m7 := n7; (repeat (obtain ⟨_, m7⟩ := m7))
  clear hid3 hid5 hid7 ht3 ht5 ht7
  (first | refine au ?_ | exact au0 | fail)
  first | refine callF_eq (hF _) ?_ | refine callG_eq rfl (hF _) ?_
  (first | refine au ?_ | exact au0 | fail)
  first | refine callF_eq (hP _) ?_ | refine callG_eq rfl (hP _) ?_
  clear hF hP
  (first | refine au ?_ | exact au0 | fail)
  have hnum := fun H => prim_Number_spec g.kd H
  rw [h9] at hnum
  first | refine callF_eq (hnum _) ?_ | refine callG_eq rfl (hnum _) ?_
  (first | refine au ?_ | exact au0 | fail)
  first | refine callF_eq (hU _) ?_ | refine callG_eq rfl (hU _) ?_
  (first | refine au ?_ | exact au0 | fail)
  exact ⟨fz_of, sub_of⟩
end
theorem sub_one {Hs : AH} {id : Nat} {b : Blk} (h : hget Hs id = some b) : Sub [(id, b)] Hs := fun j c q => by
  simp only [hget] at q
  split at q
  · rename_i e; subst e; rw [← q]; exact h
  · cases q
theorem fits_spec (l : List Ty) (hl : TysOk l) (hv : TyV l) : ∀ (m : Nat) (v : Vl), SizeOf.sizeOf v < m → vOk v → FitC l v
  | 0, v, h, _ => by omega
  | m + 1, .mk k n x vs, hsz, hok => by
    intro t h0 h1 H
    have ih : ∀ w ∈ vs, FitC l w := fun w hw => by
      simp only [vOk] at hok
      simp only [Vl.mk.sizeOf_spec] at hsz
      have := List.sizeOf_lt_of_mem hw
      exact fits_spec l hl hv m w (by omega) (vOks_mem hok.2.2.2 _ hw)
    have hlen : (l.map tyR).length = l.length := by simp
    have hG := hv.tAt h0 h1
    have hbd := hG.bd
    have hto := hl.all _ (tAt_mem h0 h1)
    have hpt : ∀ p ∈ parts (tAt l t), 0 ≤ p ∧ p < l.length := fun p hp => by have := hG.parts p hp; omega
    have a : FAt l t (tAt l t) := ⟨h0, by rw [hlen]; exact h1, tAt_get h0 h1⟩
    have hkd := hG.kd
    have hI := fun n' f caps ps Hs => items_fspec l (.mk k n x vs) hok n' f caps ps Hs
    show FRes l t (.mk k n x vs) H (fitE l t (.mk k n x vs))
    rw [fitE_eq]
    by_cases hk : k = (tAt l t).kd
    rotate_left
    · rw [if_pos hk]; exact fits_kind a hk
    rw [if_neg (by simp [hk])]
    have hz := vZero_eq (k := k) (by rw [hk]; exact hkd) n x vs.length
    have hF := fun H => fform_spec (.mk k n x vs) hok H
    have hP := fun H => fplain_spec (.mk k n x vs) hok H
    simp only [Vl.kd, Vl.num, Vl.tx, Vl.its] at hF hP
    cases hbf : vForm k n x vs.length
    · rw [hbf] at hF hz
      rw [if_pos (by rw [← hz]; rfl)]
      exact fits_form0 a hk hF
    cases hbp : vPlain k x vs.length
    · rw [hbf] at hF hz
      rw [hbp] at hP hz
      rw [if_pos (by rw [← hz]; rfl)]
      exact fits_form1 a hk hF hP
    rw [hbf] at hF hz
    rw [hbp] at hP hz
    rw [if_neg (by rw [← hz]; simp)]
    have z : FZ k n x vs (tAt l t) := ⟨hk, hF, hP⟩
    have hvz : vZero k n x vs.length = true := by rw [← hz]; rfl
    simp only [vZero, decide_eq_true_eq] at hvz
    obtain ⟨_, hm⟩ := hvz
    have hN0 : vs.length = 0 → fitN l [] vs = 0 := fun q => by unfold fitN; rw [if_neg (by simp [q])]; simp [fitEs]
    rw [show isNum k = isNum (tAt l t).kd from by rw [hk]]
    cases hI9 : isNum (tAt l t).kd
    rotate_left
    · have h9 : 1 ≤ (tAt l t).kd ∧ (tAt l t).kd ≤ 9 := by simpa [isNum] using hI9
      have := fits_num (H := H) a z hI9 (fun H => fnum_spec l hl t h0 h1 n H)
      rw [partT_no rfl (by omega), hN0 (by omega)]
      cases hb : numT l t n
      · rw [hb] at this
        rw [if_pos (.inl ⟨rfl, rfl⟩)]
        exact this
      · rw [hb] at this
        rw [if_neg (fun q => by rcases q with ⟨_, q⟩ | ⟨q, _⟩; cases q; omega), if_neg (by omega), if_neg (by omega), if_neg (by omega)]
        exact this
    have h10 : 10 ≤ (tAt l t).kd := by
      have : ¬ (1 ≤ (tAt l t).kd ∧ (tAt l t).kd ≤ 9) := by simpa [isNum] using hI9
      omega
    by_cases c10 : (tAt l t).kd = 10
    · rw [if_neg (fun q => by rcases q with ⟨q, _⟩ | ⟨q, _⟩; cases q; omega), partT_no rfl (by omega), hN0 (by omega)]
      have := fits_str (H := H) a z hI9 c10 (fun H => ftext_spec x (by simp only [vOk] at hok; exact hok.2.1) (tAt l t).bd H)
      have e : (if k = 10 ∧ (tAt l t).bd < (x.length : Int) then (3 : Int) else if k = 10 ∧ x.contains 0 = true then 10 else if k = 11 ∧ (tAt l t).bd < (vs.length : Int) then 3 else 0) = if (tAt l t).bd < (x.length : Int) then 3 else if x.contains 0 = true then 10 else 0 := by
        by_cases c1 : (tAt l t).bd < (x.length : Int)
        · rw [if_pos ⟨by omega, c1⟩, if_pos c1]
        · rw [if_neg (fun q => c1 q.2), if_neg c1]
          by_cases c2 : x.contains 0 = true
          · rw [if_pos ⟨by omega, c2⟩, if_pos c2]
          · rw [if_neg (fun q => c2 q.2), if_neg c2, if_neg (by omega)]
      rw [e]
      exact this
    by_cases c14 : (tAt l t).kd = 14
    · have := fits_uni (H := H) a z hI9 c14 (fun H => union_spec l hl hv (.mk k n x vs) hok t h0 h1 c14 ih H)
      cases hb : numT l (tAt l t).tg n
      · rw [if_pos (.inr ⟨by omega, rfl⟩)]
        have hb : numT l (tAt l t).tg (Vl.mk k n x vs).num = false := hb
        rw [if_pos hb] at this
        exact this
      · rw [if_neg (fun q => by rcases q with ⟨q, _⟩ | ⟨_, q⟩; cases q; cases q), if_neg (by omega), if_neg (by omega), if_neg (by omega)]
        have hb : ¬ numT l (tAt l t).tg (Vl.mk k n x vs).num = false := by
          show ¬ numT l (tAt l t).tg n = false
          rw [hb]; simp
        rw [if_neg hb] at this
        exact this
    rw [if_neg (fun q => by rcases q with ⟨q, _⟩ | ⟨q, _⟩; cases q; omega), if_neg (by omega), if_neg (by omega)]
    by_cases c11 : (tAt l t).kd = 11
    · by_cases cb : (tAt l t).bd < (vs.length : Nat)
      · rw [if_pos ⟨by omega, cb⟩]
        exact fits_seq0 a z hI9 c11 cb
      · rw [if_neg (fun q => cb q.2), partT_el rfl c11]
        have hel : (tAt l t).el ∈ parts (tAt l t) := by unfold parts; rw [show kEl (tAt l t).kd = true from by simp [kEl, c11]]; simp
        exact fits_seq a z hI9 c11 (by omega) fun id Hs e => hI vs.length fits_asker_fits_1.n [.ptr id 6 0 0] (List.replicate vs.length (tAt l t).el) Hs (by simp) (fun p hp => by rw [List.eq_of_mem_replicate hp]; exact hpt _ hel) (fun i h => by rw [List.getElem_replicate]; exact (fits1_spec (tAt l t) i id).sup (sub_one e)) ih
    rw [if_neg (fun q => c11 (by omega))]
    by_cases c12 : (tAt l t).kd = 12
    · rw [partT_ar rfl c12]
      have hel : (tAt l t).el ∈ parts (tAt l t) := by unfold parts; rw [show kEl (tAt l t).kd = true from by simp [kEl, c12]]; simp
      have hb0 := hbd (by simp [kBd, c12])
      exact fits_arr a z hI9 c12 fun id Hs e => hI (tAt l t).bd fits_asker_fits_2.n [.ptr id 6 0 0] (List.replicate (tAt l t).bd.toNat (tAt l t).el) Hs (by simp; omega) (fun p hp => by rw [List.eq_of_mem_replicate hp]; exact hpt _ hel) (fun i h => by rw [List.getElem_replicate]; exact (fits2_spec (tAt l t) i id).sup (sub_one e)) ih
    have c13 : (tAt l t).kd = 13 := by omega
    rw [partT_st rfl c13]
    exact fits_stc a z hI9 c13 hto.its fun id Hs e => hI (tAt l t).its.length fits_asker_fits_3.n [.ptr id 6 0 0] ((tAt l t).its.map (·.ty)) Hs (by simp) (fun p hp => by obtain ⟨y, hy, rfl⟩ := List.mem_map.1 hp; exact hpt _ (parts_item (.inl c13) hy)) (fun i h => by rw [List.getElem_map]; exact (fits3_spec (tAt l t) i (by simpa using h) id).sup (sub_one e)) ih
end Go.Proofs.Ytodiahhfpcdejaa

/- Which values are of a type, in the reference, walked. -/
namespace Go.Proofs.Ytodiahhfpcdejaa
set_option autoImplicit false
set_option linter.unusedSimpArgs false
set_option linter.unusedVariables false
attribute [local irreducible] callA callP ACalls
theorem known_spec (l : List Ty) (hl : TysOk l) (t : Int) (H : AH) : ACalls PG fits_known.n [tysA l, .int .i64 t] H fun r H' => r = .bool (decide (0 ≤ t ∧ t < l.length ∧ (tyChk l).1 = 0)) ∧ H' = H := by
  have hlen : (l.map tyR).length = l.length := by simp
  have hll := hl.len
  refine ACalls.fz (fits_known.of rfl (wpF_start ?_))
  (repeat' (first | (refine au ?_; first | refine callF_eq (Check_spec l hl _) ?_ | refine bsplit_dec (fun _ => ?_) (fun _ => ?_) | refine bsplit_intro (fun _ => ?_) (fun _ => ?_)) | exact au0 | fail)); (all_goals try (first | refine au ?_ | fail))
  all_goals exact ⟨fz_eq (congrArg AV.bool (by first | exact (decide_eq_true (by omega)).symm | exact (decide_eq_false (by omega)).symm | exact decide_eq_decide.2 (by omega) | rfl)), sub_of⟩
theorem Fits_spec (l : List Ty) (hl : TysOk l) (t : Int) (v : Vl) (hok : vOk v) (H : AH) : ACalls PG fits_Fits.n [tysA l, .int .i64 t, vlA v] H fun r H' => r = .int .i64 (if 0 ≤ t ∧ t < l.length ∧ (tyChk l).1 = 0 then fitE l t v else 8) ∧ H' = H := by
  have hk := fun H => known_spec l hl t H
  have hf := fun h => fits_spec l hl (tyChk_v (l := l) h) _ v (Nat.lt_succ_self _) hok
  refine ACalls.fz (fits_Fits.of rfl (wpF_start ?_))
  obtain ⟨k, n, x, vs⟩ := v
  by_cases c : 0 ≤ t ∧ t < l.length ∧ (tyChk l).1 = 0
  · rw [decide_eq_true c] at hk
    rw [if_pos c]
    (first | refine au ?_ | exact au0 | fail)
    intro id3 hid3 ht3; have n3 := neAll_of hid3; (try simp only [neAll, neAll_hset] at n3); have m3 := n3; (repeat (obtain ⟨_, m3⟩ := m3))
    (first | refine au ?_ | exact au0 | fail)
    first | refine callF_eq (hk _) ?_ | refine callG_eq rfl (hk _) ?_
    (first | refine au ?_ | exact au0 | fail)
    first | refine callF_eq (hf c.2.2 t c.1 c.2.1 _) ?_ | refine callG_eq rfl (hf c.2.2 t c.1 c.2.1 _) ?_
    (first | refine au ?_ | exact au0 | fail)
    exact ⟨fz_of, sub_of⟩
  · rw [decide_eq_false c] at hk
    rw [if_neg c]
    (first | refine au ?_ | exact au0 | fail)
    intro id3 hid3 ht3; have n3 := neAll_of hid3; (try simp only [neAll, neAll_hset] at n3); have m3 := n3; (repeat (obtain ⟨_, m3⟩ := m3))
    (first | refine au ?_ | exact au0 | fail)
    first | refine callF_eq (hk _) ?_ | refine callG_eq rfl (hk _) ?_
    (first | refine au ?_ | exact au0 | fail)
    exact ⟨fz_of, sub_of⟩
theorem r9_number_spec (l : List Ty) (hl : TysOk l) (t : Int) (h0 : 0 ≤ t) (h1 : t < l.length) (n : Nat) (hn : n < 18446744073709551616) (H : AH) : ACalls PG broadsheetref09_number.n [tysA l, .int .i64 t, .int .u64 (n : Nat)] H fun r H' => r = .bool (numT l t n) ∧ H' = H := by
  have hlen : (l.map tyR).length = l.length := by simp
  have hll := hl.len
  have hge := tAt_get h0 h1
  have hV := fun H => r6_Value_spec l hl t n H
  refine ACalls.fz (broadsheetref09_number.of rfl (wpF_start ?_))
  unfold numT
  generalize tAt l t = g at *
  (first | refine au ?_ | exact au0 | fail)
  rw [hge]
  (first | refine au ?_ | exact au0 | fail)
  refine bsplit_dec (fun c => ?_) (fun c => ?_)
  · rw [if_pos c]
    generalize valIx l t n = o at *
    cases o with
    | some k =>
      (first | refine au ?_ | exact au0 | fail)
      first | refine callF_eq (hV _) ?_ | refine callG_eq rfl (hV _) ?_
      (first | refine au ?_ | exact au0 | fail)
      exact ⟨fz_eq (congrArg AV.bool (by simp)), sub_of⟩
    | none =>
      (first | refine au ?_ | exact au0 | fail)
      first | refine callF_eq (hV _) ?_ | refine callG_eq rfl (hV _) ?_
      (first | refine au ?_ | exact au0 | fail)
      exact ⟨fz_eq (congrArg AV.bool (by simp)), sub_of⟩
  · rw [if_neg c]
    (first | refine au ?_ | exact au0 | fail)
    rw [hge]
    (first | refine au ?_ | exact au0 | fail)
    first | refine callF_eq (r5_May_spec _ n hn _) ?_ | refine callG_eq rfl (r5_May_spec _ n hn _) ?_
    (first | refine au ?_ | exact au0 | fail)
    exact ⟨fz_of, sub_of⟩
theorem r9_zero_spec (v : Vl) (hok : vOk v) (H : AH) : ACalls PG broadsheetref09_zero.n [vlA v] H fun r H' => r = .bool (vZero v.kd v.num v.tx v.its.length) ∧ H' = H := by
  obtain ⟨k, n, t, its⟩ := v
  have hkl := vlRs_len its
  simp only [Vl.kd, Vl.num, Vl.tx, Vl.its]
  simp only [vOk] at hok
  refine ACalls.fz (broadsheetref09_zero.of rfl (wpF_start ?_))
  (first | refine au ?_ | exact au0 | fail)
  intro id1 hid1 ht1; have n1 := neAll_of hid1; (try simp only [neAll, neAll_hset] at n1); have m1 := n1; (repeat (obtain ⟨_, m1⟩ := m1))
  unfold vZero
  by_cases ht : t = []
  · subst ht
    (repeat' (first | (refine au ?_; first | refine bsplit_dec (fun _ => ?_) (fun _ => ?_) | refine bsplit_intro (fun _ => ?_) (fun _ => ?_)) | exact au0 | fail)); (all_goals try (first | refine au ?_ | fail))
    all_goals first | (exfalso; omega) | skip
    all_goals (refine ⟨fz_eq (congrArg AV.bool ?_), sub_of⟩; simp only [ne_eq, not_true_eq_false, false_and, or_false]; first | exact (decide_eq_true (by omega)).symm | exact (decide_eq_false (by omega)).symm | exact decide_eq_decide.2 (by omega) | rfl)
  · (repeat' (first | (refine au ?_; first | refine bsplit_dec (fun _ => ?_) (fun _ => ?_) | refine bsplit_intro (fun _ => ?_) (fun _ => ?_)) | exact au0 | fail)); (all_goals try (first | refine au ?_ | fail))
    all_goals first | (exfalso; omega) | skip
    all_goals (refine ⟨fz_eq (congrArg AV.bool ?_), sub_of⟩; simp only [ht, ne_eq, not_false_eq_true, true_and]; first | exact (decide_eq_true (by omega)).symm | exact (decide_eq_false (by omega)).symm | exact decide_eq_decide.2 (by omega) | (simp_all; done))
end Go.Proofs.Ytodiahhfpcdejaa

/- Which values are of a type, in the reference, walked: parts, all. -/
namespace Go.Proofs.Ytodiahhfpcdejaa
set_option autoImplicit false
set_option linter.unusedSimpArgs false
set_option linter.unusedVariables false
attribute [local irreducible] callA callP ACalls
theorem accTup {o : Option Nat} {sz n : Nat} {l : List (List AV)} {H : AH} {b b' : Bool} (hn : n = l.length) (h0 : o = none → l = []) (hw : ∀ r ∈ l, r.length = sz) (hb : b = b') : Fz (accH o sz l H) [] (.tup [accV o sz n, .bool b]) (.tup [.rows sz l, .bool b']) := by
  subst hb
  exact Fz.tupL (FzL.cons (accFz hn h0 (fun _ _ => rfl) (FzR.refl _ _ _) hw) (FzL.cons (.refl _) (FzL.nil _ _)))
/-- Lists that grow by one. -/
structure Grow (N : Nat) (q : Nat → Int) (r : List Int) (c : Nat → List Int) : Prop where
  z : c 0 = []
  l : ∀ i, i ≤ N → (c i).length = i
  s : ∀ i, i < N → c (i + 1) = c i ++ [q i]
  e : c N = r
theorem grow_rep (N : Nat) (a : Int) : Grow N (fun _ => a) (List.replicate N a) (fun i => List.replicate i a) := ⟨rfl, fun i _ => List.length_replicate, fun i _ => List.replicate_succ', rfl⟩
theorem grow_map (its : List It) : Grow its.length (fun i => (its.getD i it0).ty) (its.map (·.ty)) (fun i => (its.take i).map (·.ty)) := ⟨rfl, fun i h => by simp; omega, fun i h => by rw [take_map_succ _ _ _ h, getD_get h], by rw [List.take_length]⟩
theorem r9_Parts_spec0 (l : List Ty) (hl : TysOk l) (t : Int) (h0 : 0 ≤ t) (h1 : t < l.length) (hb : (tAt l t).bd ≤ 1000) (v : Vl) (hok : vOk v) : ACalls PG broadsheetref09_Parts.n [tysA l, .int .i64 t, vlA v] [] fun r _ => r = .tup [.rows 1 ((partT l t v.num v.its.length).map inR), .bool (decide (¬ ((tAt l t).kd = 11 ∧ (tAt l t).bd < (v.its.length : Int))))] := by
  have hlen : (l.map tyR).length = l.length := by simp
  have hll := hl.len
  have hge := tAt_get h0 h1
  have hto := hl.all _ (tAt_mem h0 h1)
  have hB := fun H => r6_Branch_spec l hl t v.num H
  refine ACalls.fzK (broadsheetref09_Parts.of rfl (wpF_start ?_))
  obtain ⟨k, n, x, vs⟩ := v
  have hkl := vlRs_len vs
  simp only [vOk] at hok
  obtain ⟨_, _, hvl, _⟩ := hok
  have hpe := fun h => partT_el (l := l) (t := t) rfl h n vs.length
  have hpa := fun h => partT_ar (l := l) (t := t) rfl h n vs.length
  have hps := fun h => partT_st (l := l) (t := t) rfl h n vs.length
  have hlt := fun k => @brIx_lt l t n k
  have hpN : (tAt l t).kd = 14 → brIx l t n = none → partT l t n vs.length = [] := fun h q => by
    unfold partT; rw [if_neg (by omega), if_neg (by omega), if_neg (by omega), if_pos h, q]
  have hpS : ∀ k, (tAt l t).kd = 14 → brIx l t n = some k → partT l t n vs.length = [((tAt l t).its.getD k it0).ty] := fun k h q => by
    unfold partT; rw [if_neg (by omega), if_neg (by omega), if_neg (by omega), if_pos h, q]
  have hpo : ¬ ((tAt l t).kd = 11 ∨ (tAt l t).kd = 12 ∨ (tAt l t).kd = 13 ∨ (tAt l t).kd = 14) → partT l t n vs.length = [] := fun h => by
    unfold partT; rw [if_neg (by omega), if_neg (by omega), if_neg (by omega), if_neg (by omega)]
  generalize tAt l t = g at *
  (first | refine au ?_ | exact au0 | fail)
  intro id3 hid3 ht3; have n3 := neAll_of hid3; (try simp only [neAll, neAll_hset] at n3); have m3 := n3; (repeat (obtain ⟨_, m3⟩ := m3))
  (first | refine au ?_ | exact au0 | fail)
  rw [hge]
  (first | refine au ?_ | exact au0 | fail)
  intro id8 hid8 ht8; have n8 := neAll_of hid8; (try simp only [neAll, neAll_hset] at n8); have m8 := n8; (repeat (obtain ⟨_, m8⟩ := m8))
  (first | refine au ?_ | exact au0 | fail)
  refine bsplit_dec (fun c11 => ?_) (fun c11 => ?_)
  · obtain ⟨N, hN⟩ : ∃ N, N = vs.length := ⟨_, rfl⟩
    obtain ⟨c, gr⟩ := Exists.intro (p := fun c => Grow N (fun _ => g.el) (List.replicate N g.el) c) _ (grow_rep N g.el)
    rw [← hN] at hpe
    have hkl2 : (vlRs vs).length = N := by omega
    (first | refine au ?_ | exact au0 | fail)
    rw [show partT l t (Vl.mk k n x vs).num (Vl.mk k n x vs).its.length = List.replicate N g.el from (by rw [hN] at hpe ⊢; exact hpe c11), show (Vl.mk k n x vs).its.length = N from hN.symm]
    refine loopM (S := Nat × Option Nat) [(5, some _), (8, some _)] (fun s => [(9, some (accV s.2 1 s.1)), (10, some (.int .i64 (s.1 : Nat)))]) (fun s => accH s.2 1 ((c s.1).map inR) [(id8, .rows 6 [tyR g]), (id3, .rows 4 [vlR (.mk k n x vs)])]) (fun s => N - s.1) (fun s => s.1 ≤ N ∧ (s.2 = none → s.1 = 0) ∧ ∀ id, s.2 = some id → tag id = ty_int ∧ id ≠ id8 ∧ id ≠ id3) (0, none) (by repeat (first | exact trivial | refine And.intro (Or.inl rfl) ?_ | refine And.intro (Or.inr (Exists.intro _ (And.intro rfl (Fz.refl _)))) ?_ | refine And.intro (Or.inr (Exists.intro _ (And.intro rfl (fz_eq (congrArg (AV.int _) (by omega)))))) ?_ | refine And.intro (Or.inr (Exists.intro _ (And.intro rfl (fz_eq (congrArg (AV.own _ _ _) (by (try dsimp only); (try simp only [List.length_append, List.length_map, List.length_cons, List.length_nil, List.length_take, List.length_set, List.length_replicate]); (try dsimp only); first | done | omega)))))) ?_)) (Sub.refl _) ⟨Nat.zero_le _, fun _ => rfl, fun id q => by cases q⟩ (fun ⟨i, o⟩ hs => ?_)
    dsimp only at hs
    obtain ⟨hi, ho1, ho2⟩ := hs
    have hcl := gr.l i hi
    rcases o with _ | ida
    · have hi0 := ho1 rfl
      subst hi0
      dsimp only [accH, accV]
      (first | refine au ?_ | exact au0 | fail)
      refine bsplit_dec (fun cc => ?_) (fun cc => ?_)
      · have hcs := gr.s 0 (by omega)
        (first | refine au ?_ | exact au0 | fail)
        skip
        refine ⟨_, rfl, (Nat.le_of_ble_eq_true rfl), (fun q => by cases q), fun _ => ?_⟩
        intro id47 hid47 ht47; have n47 := neAll_of hid47; (try simp only [neAll, neAll_hset] at n47); have m47 := n47; (repeat (obtain ⟨_, m47⟩ := m47))
        (first | refine au ?_ | exact au0 | fail)
        refine nextS (S := Nat × Option Nat) (1, some id47) (by repeat (first | exact trivial | refine And.intro (Or.inl rfl) ?_ | refine And.intro (Or.inr (Exists.intro _ (And.intro rfl (Fz.refl _)))) ?_ | refine And.intro (Or.inr (Exists.intro _ (And.intro rfl (fz_eq (congrArg (AV.int _) (by omega)))))) ?_ | refine And.intro (Or.inr (Exists.intro _ (And.intro rfl (fz_eq (congrArg (AV.own _ _ _) (by (try dsimp only); (try simp only [List.length_append, List.length_map, List.length_cons, List.length_nil, List.length_take, List.length_set, List.length_replicate]); (try dsimp only); first | done | omega)))))) ?_)) (by dsimp only [accH]; rw [show c 1 = c 0 ++ _ from hcs, gr.z]; exact sub_of) (by dsimp only; omega) ⟨by show 1 ≤ N; omega, (fun q => by cases q), fun j q => by cases q; exact ⟨ht47, by omega, by omega⟩⟩
      · have hcN : (c 0).map inR = [] := by rw [gr.z]; rfl
        rw [← gr.e, show N = 0 from by omega]
        (first | refine au ?_ | exact au0 | fail)
        exact accTup (o := none) (n := 0) (by rw [hcN]; rfl) (fun _ => hcN) (map_w (f := inR) (fun _ => rfl) _) (by first | rfl | (rw [Bool.eq_iff_iff]; simp only [decide_eq_true_eq]; omega))
    · obtain ⟨hti, hd8, hd3⟩ := ho2 ida rfl
      dsimp only [accH, accV]
      (first | refine au ?_ | exact au0 | fail)
      refine bsplit_dec (fun cc => ?_) (fun cc => ?_)
      · have hcs := gr.s i (by omega)
        (first | refine au ?_ | exact au0 | fail)
        skip
        refine ⟨_, _, readS_all (by exact hg_of) (by ((try dsimp only); (try simp only [List.length_append, List.length_map, List.length_cons, List.length_nil, List.length_take, List.length_set, List.length_replicate]); (try dsimp only); first | done | omega)), rfl, rfl, rfl, (hti), (by ((try dsimp only); (try simp only [List.length_append, List.length_map, List.length_cons, List.length_nil, List.length_take, List.length_set, List.length_replicate]); (try dsimp only); first | done | omega)), ?_⟩
        intro id47 hid47 ht47; have n47 := neAll_of hid47; (try simp only [neAll, neAll_hset] at n47); have m47 := n47; (repeat (obtain ⟨_, m47⟩ := m47))
        (first | refine au ?_ | exact au0 | fail)
        refine nextS (S := Nat × Option Nat) (i + 1, some id47) (by repeat (first | exact trivial | refine And.intro (Or.inl rfl) ?_ | refine And.intro (Or.inr (Exists.intro _ (And.intro rfl (Fz.refl _)))) ?_ | refine And.intro (Or.inr (Exists.intro _ (And.intro rfl (fz_eq (congrArg (AV.int _) (by omega)))))) ?_ | refine And.intro (Or.inr (Exists.intro _ (And.intro rfl (fz_eq (congrArg (AV.own _ _ _) (by (try dsimp only); (try simp only [List.length_append, List.length_map, List.length_cons, List.length_nil, List.length_take, List.length_set, List.length_replicate]); (try dsimp only); first | done | omega)))))) ?_)) (by (try dsimp only [accH]); rw [hcs, List.map_append]; exact sub_of) (by first | omega | (dsimp only; omega)) ⟨by show i + 1 ≤ N; omega, (fun q => by cases q), fun j q => by cases q; exact ⟨ht47, by omega, by omega⟩⟩
      · rw [← gr.e, show N = i from by omega]
        (first | refine au ?_ | exact au0 | fail)
        exact accTup (o := some ida) (n := i) (H := [(id8, .rows 6 [tyR g]), (id3, .rows 4 [vlR (.mk k n x vs)])]) (by rw [List.length_map, hcl]) (fun q => by cases q) (map_w (f := inR) (fun _ => rfl) _) (by first | rfl | (rw [Bool.eq_iff_iff]; simp only [decide_eq_true_eq]; omega))
  have hok11 : (decide (¬ (g.kd = 11 ∧ g.bd < ((Vl.mk k n x vs).its.length : Int)))) = true := decide_eq_true (fun q => c11 q.1)
  rw [hok11]
  (first | refine au ?_ | exact au0 | fail)
  refine bsplit_dec (fun c12 => ?_) (fun c12 => ?_)
  · obtain ⟨N, hN⟩ : ∃ N, N = g.bd.toNat := ⟨_, rfl⟩
    obtain ⟨c, gr⟩ := Exists.intro (p := fun c => Grow N (fun _ => g.el) (List.replicate N g.el) c) _ (grow_rep N g.el)
    rw [show partT l t (Vl.mk k n x vs).num (Vl.mk k n x vs).its.length = List.replicate N g.el from (by rw [hN]; exact hpa c12)]
    (first | refine au ?_ | exact au0 | fail)
    refine loopM (S := Nat × Option Nat) [(8, some _)] (fun s => [(9, some (accV s.2 1 s.1)), (11, some (.int .i64 (s.1 : Nat)))]) (fun s => accH s.2 1 ((c s.1).map inR) [(id8, .rows 6 [tyR g]), (id3, .rows 4 [vlR (.mk k n x vs)])]) (fun s => N - s.1) (fun s => s.1 ≤ N ∧ (s.2 = none → s.1 = 0) ∧ ∀ id, s.2 = some id → tag id = ty_int ∧ id ≠ id8 ∧ id ≠ id3) (0, none) (by repeat (first | exact trivial | refine And.intro (Or.inl rfl) ?_ | refine And.intro (Or.inr (Exists.intro _ (And.intro rfl (Fz.refl _)))) ?_ | refine And.intro (Or.inr (Exists.intro _ (And.intro rfl (fz_eq (congrArg (AV.int _) (by omega)))))) ?_ | refine And.intro (Or.inr (Exists.intro _ (And.intro rfl (fz_eq (congrArg (AV.own _ _ _) (by (try dsimp only); (try simp only [List.length_append, List.length_map, List.length_cons, List.length_nil, List.length_take, List.length_set, List.length_replicate]); (try dsimp only); first | done | omega)))))) ?_)) (Sub.refl _) ⟨Nat.zero_le _, fun _ => rfl, fun id q => by cases q⟩ (fun ⟨i, o⟩ hs => ?_)
    dsimp only at hs
    obtain ⟨hi, ho1, ho2⟩ := hs
    have hcl := gr.l i hi
    rcases o with _ | ida
    · have hi0 := ho1 rfl
      subst hi0
      dsimp only [accH, accV]
      (first | refine au ?_ | exact au0 | fail)
      refine bsplit_dec (fun cc => ?_) (fun cc => ?_)
      · have hcs := gr.s 0 (by omega)
        (first | refine au ?_ | exact au0 | fail)
        skip
        refine ⟨_, rfl, (Nat.le_of_ble_eq_true rfl), (fun q => by cases q), fun _ => ?_⟩
        intro id47 hid47 ht47; have n47 := neAll_of hid47; (try simp only [neAll, neAll_hset] at n47); have m47 := n47; (repeat (obtain ⟨_, m47⟩ := m47))
        (first | refine au ?_ | exact au0 | fail)
        refine nextS (S := Nat × Option Nat) (1, some id47) (by repeat (first | exact trivial | refine And.intro (Or.inl rfl) ?_ | refine And.intro (Or.inr (Exists.intro _ (And.intro rfl (Fz.refl _)))) ?_ | refine And.intro (Or.inr (Exists.intro _ (And.intro rfl (fz_eq (congrArg (AV.int _) (by omega)))))) ?_ | refine And.intro (Or.inr (Exists.intro _ (And.intro rfl (fz_eq (congrArg (AV.own _ _ _) (by (try dsimp only); (try simp only [List.length_append, List.length_map, List.length_cons, List.length_nil, List.length_take, List.length_set, List.length_replicate]); (try dsimp only); first | done | omega)))))) ?_)) (by dsimp only [accH]; rw [show c 1 = c 0 ++ _ from hcs, gr.z]; exact sub_of) (by dsimp only; omega) ⟨by show 1 ≤ N; omega, (fun q => by cases q), fun j q => by cases q; exact ⟨ht47, by omega, by omega⟩⟩
      · have hcN : (c 0).map inR = [] := by rw [gr.z]; rfl
        rw [← gr.e, show N = 0 from by omega]
        (first | refine au ?_ | exact au0 | fail)
        exact accTup (o := none) (n := 0) (by rw [hcN]; rfl) (fun _ => hcN) (map_w (f := inR) (fun _ => rfl) _) (by first | rfl | (rw [Bool.eq_iff_iff]; simp only [decide_eq_true_eq]; omega))
    · obtain ⟨hti, hd8, hd3⟩ := ho2 ida rfl
      dsimp only [accH, accV]
      (first | refine au ?_ | exact au0 | fail)
      refine bsplit_dec (fun cc => ?_) (fun cc => ?_)
      · have hcs := gr.s i (by omega)
        (first | refine au ?_ | exact au0 | fail)
        skip
        refine ⟨_, _, readS_all (by exact hg_of) (by ((try dsimp only); (try simp only [List.length_append, List.length_map, List.length_cons, List.length_nil, List.length_take, List.length_set, List.length_replicate]); (try dsimp only); first | done | omega)), rfl, rfl, rfl, (hti), (by ((try dsimp only); (try simp only [List.length_append, List.length_map, List.length_cons, List.length_nil, List.length_take, List.length_set, List.length_replicate]); (try dsimp only); first | done | omega)), ?_⟩
        intro id47 hid47 ht47; have n47 := neAll_of hid47; (try simp only [neAll, neAll_hset] at n47); have m47 := n47; (repeat (obtain ⟨_, m47⟩ := m47))
        (first | refine au ?_ | exact au0 | fail)
        refine nextS (S := Nat × Option Nat) (i + 1, some id47) (by repeat (first | exact trivial | refine And.intro (Or.inl rfl) ?_ | refine And.intro (Or.inr (Exists.intro _ (And.intro rfl (Fz.refl _)))) ?_ | refine And.intro (Or.inr (Exists.intro _ (And.intro rfl (fz_eq (congrArg (AV.int _) (by omega)))))) ?_ | refine And.intro (Or.inr (Exists.intro _ (And.intro rfl (fz_eq (congrArg (AV.own _ _ _) (by (try dsimp only); (try simp only [List.length_append, List.length_map, List.length_cons, List.length_nil, List.length_take, List.length_set, List.length_replicate]); (try dsimp only); first | done | omega)))))) ?_)) (by (try dsimp only [accH]); rw [hcs, List.map_append]; exact sub_of) (by first | omega | (dsimp only; omega)) ⟨by show i + 1 ≤ N; omega, (fun q => by cases q), fun j q => by cases q; exact ⟨ht47, by omega, by omega⟩⟩
      · rw [← gr.e, show N = i from by omega]
        (first | refine au ?_ | exact au0 | fail)
        exact accTup (o := some ida) (n := i) (H := [(id8, .rows 6 [tyR g]), (id3, .rows 4 [vlR (.mk k n x vs)])]) (by rw [List.length_map, hcl]) (fun q => by cases q) (map_w (f := inR) (fun _ => rfl) _) (by first | rfl | (rw [Bool.eq_iff_iff]; simp only [decide_eq_true_eq]; omega))
  (first | refine au ?_ | exact au0 | fail)
  refine bsplit_dec (fun c13 => ?_) (fun c13 => ?_)
  · obtain ⟨N, hN⟩ : ∃ N, N = g.its.length := ⟨_, rfl⟩
    have hli := hto.its
    have hlen2 : (g.its.map itR).length = N := by simp [hN]
    have hge2 : ∀ i, i < N → (g.its.map itR).getD (Int.toNat (i : Nat)) [] = itR (g.its.getD i it0) := fun i h => by rw [getD_get (show i < g.its.length by omega)]; exact row_get (f := itR) (l := g.its) (by omega)
    obtain ⟨c, gr⟩ := Exists.intro (p := fun c => Grow N (fun i => (g.its.getD i it0).ty) (g.its.map (·.ty)) c) _ (by rw [hN]; exact grow_map g.its)
    rw [show partT l t (Vl.mk k n x vs).num (Vl.mk k n x vs).its.length = g.its.map (·.ty) from hps c13]
    (first | refine au ?_ | exact au0 | fail)
    refine loopM (S := Nat × Option Nat) [(8, some _)] (fun s => [(9, some (accV s.2 1 s.1)), (12, some (.int .i64 (s.1 : Nat)))]) (fun s => accH s.2 1 ((c s.1).map inR) [(id8, .rows 6 [tyR g]), (id3, .rows 4 [vlR (.mk k n x vs)])]) (fun s => N - s.1) (fun s => s.1 ≤ N ∧ (s.2 = none → s.1 = 0) ∧ ∀ id, s.2 = some id → tag id = ty_int ∧ id ≠ id8 ∧ id ≠ id3) (0, none) (by repeat (first | exact trivial | refine And.intro (Or.inl rfl) ?_ | refine And.intro (Or.inr (Exists.intro _ (And.intro rfl (Fz.refl _)))) ?_ | refine And.intro (Or.inr (Exists.intro _ (And.intro rfl (fz_eq (congrArg (AV.int _) (by omega)))))) ?_ | refine And.intro (Or.inr (Exists.intro _ (And.intro rfl (fz_eq (congrArg (AV.own _ _ _) (by (try dsimp only); (try simp only [List.length_append, List.length_map, List.length_cons, List.length_nil, List.length_take, List.length_set, List.length_replicate]); (try dsimp only); first | done | omega)))))) ?_)) (Sub.refl _) ⟨Nat.zero_le _, fun _ => rfl, fun id q => by cases q⟩ (fun ⟨i, o⟩ hs => ?_)
    dsimp only at hs
    obtain ⟨hi, ho1, ho2⟩ := hs
    have hcl := gr.l i hi
    rcases o with _ | ida
    · have hi0 := ho1 rfl
      subst hi0
      dsimp only [accH, accV]
      (first | refine au ?_ | exact au0 | fail)
      refine bsplit_dec (fun cc => ?_) (fun cc => ?_)
      · have hcs := gr.s 0 (by omega)
        (first | refine au ?_ | exact au0 | fail)
        (rw [hge2 _ (by omega)]; (first | refine au ?_ | exact au0 | fail))
        refine ⟨_, rfl, (Nat.le_of_ble_eq_true rfl), (fun q => by cases q), fun _ => ?_⟩
        intro id47 hid47 ht47; have n47 := neAll_of hid47; (try simp only [neAll, neAll_hset] at n47); have m47 := n47; (repeat (obtain ⟨_, m47⟩ := m47))
        (first | refine au ?_ | exact au0 | fail)
        refine nextS (S := Nat × Option Nat) (1, some id47) (by repeat (first | exact trivial | refine And.intro (Or.inl rfl) ?_ | refine And.intro (Or.inr (Exists.intro _ (And.intro rfl (Fz.refl _)))) ?_ | refine And.intro (Or.inr (Exists.intro _ (And.intro rfl (fz_eq (congrArg (AV.int _) (by omega)))))) ?_ | refine And.intro (Or.inr (Exists.intro _ (And.intro rfl (fz_eq (congrArg (AV.own _ _ _) (by (try dsimp only); (try simp only [List.length_append, List.length_map, List.length_cons, List.length_nil, List.length_take, List.length_set, List.length_replicate]); (try dsimp only); first | done | omega)))))) ?_)) (by dsimp only [accH]; rw [show c 1 = c 0 ++ _ from hcs, gr.z]; exact sub_of) (by dsimp only; omega) ⟨by show 1 ≤ N; omega, (fun q => by cases q), fun j q => by cases q; exact ⟨ht47, by omega, by omega⟩⟩
      · have hcN : (c 0).map inR = [] := by rw [gr.z]; rfl
        rw [← gr.e, show N = 0 from by omega]
        (first | refine au ?_ | exact au0 | fail)
        exact accTup (o := none) (n := 0) (by rw [hcN]; rfl) (fun _ => hcN) (map_w (f := inR) (fun _ => rfl) _) (by first | rfl | (rw [Bool.eq_iff_iff]; simp only [decide_eq_true_eq]; omega))
    · obtain ⟨hti, hd8, hd3⟩ := ho2 ida rfl
      dsimp only [accH, accV]
      (first | refine au ?_ | exact au0 | fail)
      refine bsplit_dec (fun cc => ?_) (fun cc => ?_)
      · have hcs := gr.s i (by omega)
        (first | refine au ?_ | exact au0 | fail)
        (rw [hge2 _ (by omega)]; (first | refine au ?_ | exact au0 | fail))
        refine ⟨_, _, readS_all (by exact hg_of) (by ((try dsimp only); (try simp only [List.length_append, List.length_map, List.length_cons, List.length_nil, List.length_take, List.length_set, List.length_replicate]); (try dsimp only); first | done | omega)), rfl, rfl, rfl, (hti), (by ((try dsimp only); (try simp only [List.length_append, List.length_map, List.length_cons, List.length_nil, List.length_take, List.length_set, List.length_replicate]); (try dsimp only); first | done | omega)), ?_⟩
        intro id47 hid47 ht47; have n47 := neAll_of hid47; (try simp only [neAll, neAll_hset] at n47); have m47 := n47; (repeat (obtain ⟨_, m47⟩ := m47))
        (first | refine au ?_ | exact au0 | fail)
        refine nextS (S := Nat × Option Nat) (i + 1, some id47) (by repeat (first | exact trivial | refine And.intro (Or.inl rfl) ?_ | refine And.intro (Or.inr (Exists.intro _ (And.intro rfl (Fz.refl _)))) ?_ | refine And.intro (Or.inr (Exists.intro _ (And.intro rfl (fz_eq (congrArg (AV.int _) (by omega)))))) ?_ | refine And.intro (Or.inr (Exists.intro _ (And.intro rfl (fz_eq (congrArg (AV.own _ _ _) (by (try dsimp only); (try simp only [List.length_append, List.length_map, List.length_cons, List.length_nil, List.length_take, List.length_set, List.length_replicate]); (try dsimp only); first | done | omega)))))) ?_)) (by (try dsimp only [accH]); rw [hcs, List.map_append]; exact sub_of) (by first | omega | (dsimp only; omega)) ⟨by show i + 1 ≤ N; omega, (fun q => by cases q), fun j q => by cases q; exact ⟨ht47, by omega, by omega⟩⟩
      · rw [← gr.e, show N = i from by omega]
        (first | refine au ?_ | exact au0 | fail)
        exact accTup (o := some ida) (n := i) (H := [(id8, .rows 6 [tyR g]), (id3, .rows 4 [vlR (.mk k n x vs)])]) (by rw [List.length_map, hcl]) (fun q => by cases q) (map_w (f := inR) (fun _ => rfl) _) (by first | rfl | (rw [Bool.eq_iff_iff]; simp only [decide_eq_true_eq]; omega))
  (first | refine au ?_ | exact au0 | fail)
  refine bsplit_dec (fun c14 => ?_) (fun c14 => ?_)
  · have hlen2 : (g.its.map itR).length = g.its.length := by simp
    generalize hbr : brIx l t n = o at *
    have hB : ∀ H, ACalls PG broadsheetref06_Branch.n [tysA l, .int .i64 t, .int .u64 (n : Nat)] H fun r H' => r = ixN o ∧ H' = H := fun H => by
      have := hB H
      rw [show brIx l t (Vl.mk k n x vs).num = o from hbr] at this
      exact this
    cases o with
    | none =>
      rw [show partT l t (Vl.mk k n x vs).num (Vl.mk k n x vs).its.length = _ from hpN c14 rfl]
      (first | refine au ?_ | exact au0 | fail)
      first | refine callF_eq (hB _) ?_ | refine callG_eq rfl (hB _) ?_
      (first | refine au ?_ | exact au0 | fail)
      exact accTup (o := none) (n := 0) (l := []) (H := [(id8, .rows 6 [tyR g]), (id3, .rows 4 [vlR (.mk k n x vs)])]) rfl (fun _ => rfl) (by simp) rfl
    | some j =>
      have hj := hlt j rfl
      have hge2 := row_get (f := itR) hj
      rw [show partT l t (Vl.mk k n x vs).num (Vl.mk k n x vs).its.length = _ from hpS j c14 rfl, getD_get hj]
      generalize g.its[j] = y at *
      (first | refine au ?_ | exact au0 | fail)
      first | refine callF_eq (hB _) ?_ | refine callG_eq rfl (hB _) ?_
      (first | refine au ?_ | exact au0 | fail)
      rw [hge2]
      (first | refine au ?_ | exact au0 | fail)
      refine ⟨_, rfl, (Nat.le_of_ble_eq_true rfl), (fun q => by cases q), fun _ => ?_⟩
      intro id47 hid47 ht47; have n47 := neAll_of hid47; (try simp only [neAll, neAll_hset] at n47); have m47 := n47; (repeat (obtain ⟨_, m47⟩ := m47))
      (first | refine au ?_ | exact au0 | fail)
      exact accTup (o := some id47) (n := 1) (l := [inR y.ty]) (H := [(id8, .rows 6 [tyR g]), (id3, .rows 4 [vlR (.mk k n x vs)])]) rfl (fun q => by cases q) (by simp) rfl
  · rw [show partT l t (Vl.mk k n x vs).num (Vl.mk k n x vs).its.length = [] from hpo (by omega)]
    (first | refine au ?_ | exact au0 | fail)
    exact accTup (o := none) (n := 0) (l := []) (H := [(id8, .rows 6 [tyR g]), (id3, .rows 4 [vlR (.mk k n x vs)])]) rfl (fun _ => rfl) (by simp) rfl
end Go.Proofs.Ytodiahhfpcdejaa

/- Which values are of a type, in the reference, walked: all. -/
namespace Go.Proofs.Ytodiahhfpcdejaa
set_option autoImplicit false
set_option linter.unusedSimpArgs false
set_option linter.unusedVariables false
attribute [local irreducible] callA callP ACalls
theorem r9_Parts_spec (l : List Ty) (hl : TysOk l) (t : Int) (h0 : 0 ≤ t) (h1 : t < l.length) (hb : (tAt l t).bd ≤ 1000) (v : Vl) (hok : vOk v) (H : AH) : ACalls PG broadsheetref09_Parts.n [tysA l, .int .i64 t, vlA v] H fun r H' => r = .tup [.rows 1 ((partT l t v.num v.its.length).map inR), .bool (decide (¬ ((tAt l t).kd = 11 ∧ (tAt l t).bd < (v.its.length : Int))))] ∧ H' = H := (r9_Parts_spec0 l hl t h0 h1 hb v hok).frame H
theorem TyG.more {l : List Ty} {n : Nat} {t : Ty} (h : TyG l n t) : tyMore t = false ∧ t.its.any (itMore t.kd) = false := by
  have := h.form
  unfold formE at this
  split at this
  · cases this
  · split at this
    · cases this
    · rename_i q
      constructor
      · cases hm : tyMore t
        · rfl
        · exact absurd (.inl hm) q
      · cases hm : t.its.any (itMore t.kd)
        · rfl
        · exact absurd (.inr hm) q
theorem TyG.bd0 {l : List Ty} {n : Nat} {t : Ty} (h : TyG l n t) (hb : kBd t.kd = false) : t.bd = 0 := by
  have := h.more.1
  simp only [tyMore, decide_eq_false_iff_not] at this
  apply Classical.byContradiction
  intro q
  exact this (.inr (.inl ⟨hb, q⟩))
/-- What the reference's 'fits' is known to answer. -/
def RFitC (l : List Ty) (v : Vl) : Prop := ∀ t : Int, 0 ≤ t → t < l.length → ∀ H, ACalls PG broadsheetref09_fits.n [tysA l, .int .i64 t, vlA v] H fun r H' => r = .int .i64 (fitE l t v) ∧ H' = H
theorem partT_in {l : List Ty} {t : Int} {j : Nat} (hG : TyG l j (tAt l t)) (n m : Nat) : ∀ p ∈ partT l t n m, 0 ≤ p ∧ p < j := by
  have hp := hG.parts
  intro p h
  unfold partT at h
  split at h
  · rename_i c
    rw [List.eq_of_mem_replicate h]
    exact hp _ (by unfold parts; rw [show kEl (tAt l t).kd = true from by simp [kEl, c]]; simp)
  · split at h
    · rename_i c
      rw [List.eq_of_mem_replicate h]
      exact hp _ (by unfold parts; rw [show kEl (tAt l t).kd = true from by simp [kEl, c]]; simp)
    · split at h
      · rename_i c
        obtain ⟨y, hy, rfl⟩ := List.mem_map.1 h
        exact hp _ (parts_item (.inl c) hy)
      · split at h
        · rename_i c
          split at h
          · rename_i k hk
            simp only [List.mem_singleton] at h
            rw [h, getD_get (brIx_lt hk)]
            exact hp _ (parts_item (.inr c) (List.getElem_mem _))
          · cases h
        · cases h
theorem r9_fits_spec (l : List Ty) (hl : TysOk l) (hv : TyV l) : ∀ (m : Nat) (v : Vl), SizeOf.sizeOf v < m → vOk v → RFitC l v
  | 0, v, h, _ => by omega
  | m + 1, .mk k n x vs, hsz, hok => by
    intro t h0 h1 H
    have ih : ∀ w ∈ vs, RFitC l w := fun w hw => by
      simp only [vOk] at hok
      simp only [Vl.mk.sizeOf_spec] at hsz
      have := List.sizeOf_lt_of_mem hw
      exact r9_fits_spec l hl hv m w (by omega) (vOks_mem hok.2.2.2 _ hw)
    have hlen : (l.map tyR).length = l.length := by simp
    have hll := hl.len
    have hge := tAt_get h0 h1
    have hG := hv.tAt h0 h1
    have hkd := hG.kd
    have hbb : (tAt l t).bd ≤ 1000 := by
      cases hB : kBd (tAt l t).kd
      · have := hG.bd0 hB; omega
      · have := hG.bd hB; omega
    have hpi := partT_in hG n vs.length
    have hPt : ∀ H, ACalls PG broadsheetref09_Parts.n [tysA l, .int .i64 t, vlA (.mk k n x vs)] H fun r H' => r = .tup [.rows 1 ((partT l t n vs.length).map inR), .bool (decide (¬ ((tAt l t).kd = 11 ∧ (tAt l t).bd < (vs.length : Int))))] ∧ H' = H := fun H => r9_Parts_spec l hl t h0 h1 hbb (.mk k n x vs) hok H
    have hZ := fun H => r9_zero_spec (.mk k n x vs) hok H
    have hN := fun H => r9_number_spec l hl t h0 h1 n (by simp only [vOk] at hok; exact hok.1) H
    have hN14 := fun (h : (tAt l t).kd = 14) H => r9_number_spec l hl (tAt l t).tg (by have := hG.parts _ (parts_tag h); omega) (by have := hG.parts _ (parts_tag h); omega) n (by simp only [vOk] at hok; exact hok.1) H
    have hE := fitE_eq l t k n x vs
    have hvz : vZero k n x vs.length = decide (¬ ((n ≠ 0 ∧ 10 ≤ k ∧ k ≤ 13) ∨ (x ≠ [] ∧ k ≠ 10)) ∧ (vs.length = 0 ∨ 11 ≤ k)) := rfl
    simp only [Vl.kd, Vl.num, Vl.tx, Vl.its] at hZ
    have hkl := vlRs_len vs
    simp only [vOk] at hok
    obtain ⟨hnn, hxl, hvl, hks⟩ := hok
    refine ACalls.fz (broadsheetref09_fits.of rfl (wpF_start ?_))
    generalize tAt l t = g at *
    (first | refine au ?_ | exact au0 | fail)
    intro id5 hid5 ht5; have n5 := neAll_of hid5; (try simp only [neAll, neAll_hset] at n5); have m5 := n5; (repeat (obtain ⟨_, m5⟩ := m5))
    (first | refine au ?_ | exact au0 | fail)
    rw [hge]
    (first | refine au ?_ | exact au0 | fail)
    intro id7 hid7 ht7; have n7 := neAll_of hid7; (try simp only [neAll, neAll_hset] at n7); have m7 := n7; (repeat (obtain ⟨_, m7⟩ := m7))
    (first | refine au ?_ | exact au0 | fail)
    refine bsplit_dec (fun c => ?_) (fun c => ?_)
    · rw [if_pos c] at hE
      (first | refine au ?_ | exact au0 | fail)
      rw [hE]
      exact ⟨fz_of, sub_of⟩
    have hk : k = g.kd := Classical.not_not.1 c
    rw [if_neg c] at hE
    (first | refine au ?_ | exact au0 | fail)
    first | refine callF_eq (hZ _) ?_ | refine callG_eq rfl (hZ _) ?_
    cases hz : vZero k n x vs.length
    · rw [if_pos hz] at hE
      (first | refine au ?_ | exact au0 | fail)
      rw [hE]
      exact ⟨fz_of, sub_of⟩
    rw [if_neg (by rw [hz]; simp)] at hE
    rw [hz] at hvz
    have hvz2 := of_decide_eq_true hvz.symm
    clear hvz hZ hz
    have hx0 : k ≠ 10 → x = [] := fun q => Classical.byContradiction fun q2 => hvz2.1 (.inr ⟨q2, q⟩)
    have hm0 : k ≤ 10 → vs.length = 0 := fun q => by have := hvz2.2; omega
    clear hvz2
    (first | refine ab ?_ | exact ab0 | fail)
    refine joinP [(0, some (tysA l)), (1, some (.int .i64 t)), (5, some (.ptr id5 4 0 0)), (7, some (.ptr id7 6 0 0))] ((id7, .rows 6 [tyR g]) :: (id5, .rows 4 [vlR (.mk k n x vs)]) :: H) (¬ ((isNum k = true ∧ numT l t n = false) ∨ (k = 14 ∧ numT l g.tg n = false))) ?_ (fun p1 => ?_)
    · have hI : isNum k = decide (1 ≤ k ∧ k ≤ 9) := rfl
      by_cases c9 : g.kd ≤ 9
      · have hI9 : isNum k = true := by rw [hI]; exact decide_eq_true (by omega)
        obtain ⟨b, hb⟩ : ∃ b, numT l t n = b := ⟨_, rfl⟩
        rw [hb] at hN hE ⊢
        (first | refine au ?_ | exact au0 | fail)
        first | refine callF_eq (hN _) ?_ | refine callG_eq rfl (hN _) ?_
        cases b
        · rw [if_pos (.inl ⟨hI9, rfl⟩)] at hE
          (first | refine au ?_ | exact au0 | fail)
          rw [hE]
          exact ⟨fz_of, sub_of⟩
        · (first | refine au ?_ | exact au0 | fail)
          exact metP (by repeat (first | exact trivial | refine And.intro (Or.inl rfl) ?_ | refine And.intro (Or.inr (Exists.intro _ (And.intro rfl (Fz.refl _)))) ?_ | refine And.intro (Or.inr (Exists.intro _ (And.intro rfl (fz_eq (congrArg (AV.int _) (by omega)))))) ?_ | refine And.intro (Or.inr (Exists.intro _ (And.intro rfl (fz_eq (congrArg (AV.own _ _ _) (by (try dsimp only); (try simp only [List.length_append, List.length_map, List.length_cons, List.length_nil, List.length_take, List.length_set, List.length_replicate]); (try dsimp only); first | done | omega)))))) ?_)) sub_of (fun q => by rcases q with ⟨_, q⟩ | ⟨q, _⟩; cases q; omega)
      · have hI9 : isNum k = false := by rw [hI]; exact decide_eq_false (by omega)
        by_cases c14 : g.kd = 14
        · replace hN14 := hN14 c14
          obtain ⟨b, hb⟩ : ∃ b, numT l g.tg n = b := ⟨_, rfl⟩
          rw [hb] at hN14 hE ⊢
          (first | refine au ?_ | exact au0 | fail)
          first | refine callF_eq (hN14 _) ?_ | refine callG_eq rfl (hN14 _) ?_
          cases b
          · rw [if_pos (.inr ⟨by omega, rfl⟩)] at hE
            (first | refine au ?_ | exact au0 | fail)
            rw [hE]
            exact ⟨fz_of, sub_of⟩
          · (first | refine au ?_ | exact au0 | fail)
            exact metP (by repeat (first | exact trivial | refine And.intro (Or.inl rfl) ?_ | refine And.intro (Or.inr (Exists.intro _ (And.intro rfl (Fz.refl _)))) ?_ | refine And.intro (Or.inr (Exists.intro _ (And.intro rfl (fz_eq (congrArg (AV.int _) (by omega)))))) ?_ | refine And.intro (Or.inr (Exists.intro _ (And.intro rfl (fz_eq (congrArg (AV.own _ _ _) (by (try dsimp only); (try simp only [List.length_append, List.length_map, List.length_cons, List.length_nil, List.length_take, List.length_set, List.length_replicate]); (try dsimp only); first | done | omega)))))) ?_)) sub_of (fun q => by rcases q with ⟨q, _⟩ | ⟨_, q⟩; rw [hI9] at q; cases q; cases q)
        · (first | refine au ?_ | exact au0 | fail)
          exact metP (by repeat (first | exact trivial | refine And.intro (Or.inl rfl) ?_ | refine And.intro (Or.inr (Exists.intro _ (And.intro rfl (Fz.refl _)))) ?_ | refine And.intro (Or.inr (Exists.intro _ (And.intro rfl (fz_eq (congrArg (AV.int _) (by omega)))))) ?_ | refine And.intro (Or.inr (Exists.intro _ (And.intro rfl (fz_eq (congrArg (AV.own _ _ _) (by (try dsimp only); (try simp only [List.length_append, List.length_map, List.length_cons, List.length_nil, List.length_take, List.length_set, List.length_replicate]); (try dsimp only); first | done | omega)))))) ?_)) sub_of (fun q => by rcases q with ⟨q, _⟩ | ⟨q, _⟩; rw [hI9] at q; cases q; omega)
    rw [if_neg p1] at hE
    clear hN hN14 p1
    (first | refine ab ?_ | exact ab0 | fail)
    refine joinP [(0, some (tysA l)), (1, some (.int .i64 t)), (5, some (.ptr id5 4 0 0)), (7, some (.ptr id7 6 0 0))] ((id7, .rows 6 [tyR g]) :: (id5, .rows 4 [vlR (.mk k n x vs)]) :: H) (¬ (k = 10 ∧ g.bd < (x.length : Int))) ?_ (fun p2 => ?_)
    · (repeat' (first | (refine au ?_; first | refine bsplit_dec (fun _ => ?_) (fun _ => ?_) | refine bsplit_intro (fun _ => ?_) (fun _ => ?_)) | exact au0 | fail)); (all_goals try (first | refine au ?_ | fail))
      all_goals first
        | (exact metP (by repeat (first | exact trivial | refine And.intro (Or.inl rfl) ?_ | refine And.intro (Or.inr (Exists.intro _ (And.intro rfl (Fz.refl _)))) ?_ | refine And.intro (Or.inr (Exists.intro _ (And.intro rfl (fz_eq (congrArg (AV.int _) (by omega)))))) ?_ | refine And.intro (Or.inr (Exists.intro _ (And.intro rfl (fz_eq (congrArg (AV.own _ _ _) (by (try dsimp only); (try simp only [List.length_append, List.length_map, List.length_cons, List.length_nil, List.length_take, List.length_set, List.length_replicate]); (try dsimp only); first | done | omega)))))) ?_)) sub_of (by omega))
        | (rw [if_pos (by omega)] at hE; rw [hE]; exact ⟨fz_of, sub_of⟩)
    rw [if_neg p2] at hE
    (first | refine au ?_ | exact au0 | fail)
    refine loopL [(0, some _), (1, some _), (5, some _)] 8 0 x.length (fun i => ∀ j, j < i → x.getD j 0 ≠ 0) (by repeat (first | exact trivial | refine And.intro (Or.inl rfl) ?_ | refine And.intro (Or.inr (Exists.intro _ (And.intro rfl (Fz.refl _)))) ?_ | refine And.intro (Or.inr (Exists.intro _ (And.intro rfl (fz_eq (congrArg (AV.int _) (by omega)))))) ?_ | refine And.intro (Or.inr (Exists.intro _ (And.intro rfl (fz_eq (congrArg (AV.own _ _ _) (by (try dsimp only); (try simp only [List.length_append, List.length_map, List.length_cons, List.length_nil, List.length_take, List.length_set, List.length_replicate]); (try dsimp only); first | done | omega)))))) ?_)) (Nat.zero_le _) (fun j h => by omega) (fun i hi hno => ?_)
    (first | refine au ?_ | exact au0 | fail)
    refine bsplit_dec (fun c1 => ?_) (fun c1 => ?_)
    · have hil : i < x.length := by omega
      have hk10 : k = 10 := Classical.byContradiction fun q => by rw [hx0 q] at hil; simp at hil
      (first | refine au ?_ | exact au0 | fail)
      refine bsplit_dec (fun c2 => ?_) (fun c2 => ?_)
      · have hc0 : x.contains 0 = true := by
          rw [List.contains_iff_mem]
          have e0 : x.getD i 0 = 0 := UInt8.toNat.inj (by rw [Int.toNat_natCast] at c2; show (x.getD i 0).toNat = 0; omega)
          rw [getD_get hil] at e0
          rw [← e0]; exact List.getElem_mem hil
        rw [if_pos ⟨hk10, hc0⟩] at hE
        (first | refine au ?_ | exact au0 | fail)
        rw [hE]
        exact ⟨fz_of, sub_of⟩
      · (first | refine au ?_ | exact au0 | fail)
        refine nextN (by repeat (first | exact trivial | refine And.intro (Or.inl rfl) ?_ | refine And.intro (Or.inr (Exists.intro _ (And.intro rfl (Fz.refl _)))) ?_ | refine And.intro (Or.inr (Exists.intro _ (And.intro rfl (fz_eq (congrArg (AV.int _) (by omega)))))) ?_ | refine And.intro (Or.inr (Exists.intro _ (And.intro rfl (fz_eq (congrArg (AV.own _ _ _) (by (try dsimp only); (try simp only [List.length_append, List.length_map, List.length_cons, List.length_nil, List.length_take, List.length_set, List.length_replicate]); (try dsimp only); first | done | omega)))))) ?_)) (by exact sub_of) (by omega) (fun j hj => ?_)
        by_cases e : j = i
        · subst e; intro q; rw [Int.toNat_natCast, q] at c2; exact c2 rfl
        · exact hno j (by omega)
    have hc0 : x.contains 0 = false := by
      cases hc : x.contains 0
      · rfl
      · rw [List.contains_iff_mem] at hc
        obtain ⟨j, hj, e⟩ := List.getElem_of_mem hc
        exact absurd (by rw [getD_get hj]; exact e) (hno j (by omega))
    rw [if_neg (fun q => by rw [hc0] at q; cases q.2)] at hE
    clear hc0 hno hx0 hm0
    (first | refine au ?_ | exact au0 | fail)
    by_cases c3 : k = 11 ∧ g.bd < (vs.length : Int)
    · rw [if_pos c3] at hE
      have ed : decide (¬ (g.kd = 11 ∧ g.bd < (vs.length : Int))) = false := decide_eq_false (fun q => q ⟨by omega, c3.2⟩)
      rw [ed] at hPt
      first | refine callF_eq (hPt _) ?_ | refine callG_eq rfl (hPt _) ?_
      (first | refine au ?_ | exact au0 | fail)
      rw [hE]
      exact ⟨fz_of, sub_of⟩
    rw [if_neg c3] at hE
    have ed : decide (¬ (g.kd = 11 ∧ g.bd < (vs.length : Int))) = true := decide_eq_true (fun q => c3 ⟨by omega, q.2⟩)
    rw [ed] at hPt
    clear c3 p2
    first | refine callF_eq (hPt _) ?_ | refine callG_eq rfl (hPt _) ?_
    generalize partT l t n vs.length = ps at *
    have hplm : (ps.map inR).length = ps.length := by simp
    (first | refine au ?_ | exact au0 | fail)
    have eN : fitN l ps vs = if ps.length ≠ vs.length then 18 else fitEs l ps vs := rfl
    rw [eN] at hE
    refine bsplit_dec (fun c4 => ?_) (fun c4 => ?_)
    · rw [if_pos (by omega)] at hE
      (first | refine au ?_ | exact au0 | fail)
      rw [hE]
      exact ⟨fz_of, sub_of⟩
    rw [if_neg (by omega)] at hE
    rw [hE]
    clear hE eN hPt
    (first | refine au ?_ | exact au0 | fail)
    refine loopL [(0, some _), (5, some _), (9, some _)] 11 0 ps.length (fun i => ∀ (k : Nat) (h1 : k < ps.length) (h2 : k < vs.length), k < i → fitE l ps[k] vs[k] = 0) (by repeat (first | exact trivial | refine And.intro (Or.inl rfl) ?_ | refine And.intro (Or.inr (Exists.intro _ (And.intro rfl (Fz.refl _)))) ?_ | refine And.intro (Or.inr (Exists.intro _ (And.intro rfl (fz_eq (congrArg (AV.int _) (by omega)))))) ?_ | refine And.intro (Or.inr (Exists.intro _ (And.intro rfl (fz_eq (congrArg (AV.own _ _ _) (by (try dsimp only); (try simp only [List.length_append, List.length_map, List.length_cons, List.length_nil, List.length_take, List.length_set, List.length_replicate]); (try dsimp only); first | done | omega)))))) ?_)) (Nat.zero_le _) (fun k _ _ h => by omega) (fun i hi hno => ?_)
    (first | refine au ?_ | exact au0 | fail)
    refine bsplit_dec (fun c2 => ?_) (fun c2 => ?_)
    · have hip : i < ps.length := by omega
      have hil : i < vs.length := by omega
      have hg := vlRs_geti hil
      have hgp := row_get (f := inR) hip
      have hf := ih _ (List.getElem_mem hil)
      have hp1 := hpi _ (List.getElem_mem hip)
      have hhit := fitEs_hit (l := l) hno hip hil
      have hnx : fitE l ps[i] vs[i] = 0 → ∀ (k : Nat) (h1 : k < ps.length) (h2 : k < vs.length), k < i + 1 → fitE l ps[k] vs[k] = 0 := fun q k h1 h2 h3 => by
        by_cases e : k = i
        · subst e; exact q
        · exact hno k h1 h2 (by omega)
      generalize vs[i] = y at *
      generalize ps[i] = p at *
      have hf := hf p hp1.1 (by omega)
      obtain ⟨k2, n2, t2, l2⟩ := y
      (first | refine au ?_ | exact au0 | fail)
      rw [hgp]
      (first | refine au ?_ | exact au0 | fail)
      rw [hg]
      (first | refine au ?_ | exact au0 | fail)
      first | refine callF_eq (hf _) ?_ | refine callG_eq rfl (hf _) ?_
      (first | refine au ?_ | exact au0 | fail)
      refine bsplit_dec (fun h => ?_) (fun h => ?_)
      · (first | refine au ?_ | exact au0 | fail)
        rw [hhit h]
        exact ⟨fz_of, sub_of⟩
      · (first | refine au ?_ | exact au0 | fail)
        exact nextN (by repeat (first | exact trivial | refine And.intro (Or.inl rfl) ?_ | refine And.intro (Or.inr (Exists.intro _ (And.intro rfl (Fz.refl _)))) ?_ | refine And.intro (Or.inr (Exists.intro _ (And.intro rfl (fz_eq (congrArg (AV.int _) (by omega)))))) ?_ | refine And.intro (Or.inr (Exists.intro _ (And.intro rfl (fz_eq (congrArg (AV.own _ _ _) (by (try dsimp only); (try simp only [List.length_append, List.length_map, List.length_cons, List.length_nil, List.length_take, List.length_set, List.length_replicate]); (try dsimp only); first | done | omega)))))) ?_)) (by exact sub_of) (by omega) (hnx (Classical.not_not.1 h))
    · (first | refine au ?_ | exact au0 | fail)
      rw [fitEs_end fun k h1 h2 => hno k h1 h2 (by omega)]
      exact ⟨fz_of, sub_of⟩
theorem r9_Fits_spec (l : List Ty) (hl : TysOk l) (t : Int) (v : Vl) (hok : vOk v) (H : AH) : ACalls PG broadsheetref09_Fits.n [tysA l, .int .i64 t, vlA v] H fun r H' => r = .int .i64 (if 0 ≤ t ∧ t < l.length ∧ (tyChk l).1 = 0 then fitE l t v else 8) ∧ H' = H := by
  have hlen : (l.map tyR).length = l.length := by simp
  have hll := hl.len
  have hc := fun H => r6_Check_spec l hl H
  have hf := fun h => r9_fits_spec l hl (tyChk_v (l := l) h) _ v (Nat.lt_succ_self _) hok
  generalize (tyChk l).2 = at' at *
  generalize hce : (tyChk l).1 = e at *
  refine ACalls.fz (broadsheetref09_Fits.of rfl (wpF_start ?_))
  obtain ⟨k, n, x, vs⟩ := v
  by_cases c : 0 ≤ t ∧ t < l.length ∧ e = 0
  · rw [if_pos c]
    have hf := hf c.2.2 t c.1 c.2.1
    (first | refine au ?_ | exact au0 | fail)
    intro id3 hid3 ht3; have n3 := neAll_of hid3; (try simp only [neAll, neAll_hset] at n3); have m3 := n3; (repeat (obtain ⟨_, m3⟩ := m3))
    (first | refine au ?_ | exact au0 | fail)
    first | refine callF_eq (hc _) ?_ | refine callG_eq rfl (hc _) ?_
    (first | refine au ?_ | exact au0 | fail)
    first | refine callF_eq (hf _) ?_ | refine callG_eq rfl (hf _) ?_
    (first | refine au ?_ | exact au0 | fail)
    exact ⟨fz_of, sub_of⟩
  · rw [if_neg c]
    (first | refine au ?_ | exact au0 | fail)
    intro id3 hid3 ht3; have n3 := neAll_of hid3; (try simp only [neAll, neAll_hset] at n3); have m3 := n3; (repeat (obtain ⟨_, m3⟩ := m3))
    (repeat' (first | (refine au ?_; first | refine callF_eq (hc _) ?_ | refine bsplit_dec (fun _ => ?_) (fun _ => ?_) | refine bsplit_intro (fun _ => ?_) (fun _ => ?_)) | exact au0 | fail)); (all_goals try (first | refine au ?_ | fail))
    all_goals first | (exfalso; omega) | exact ⟨fz_of, sub_of⟩
end Go.Proofs.Ytodiahhfpcdejaa

/- Shapes of types, a level at a time; for types that hold themselves. -/
namespace Go.Proofs.Ytodiahhfpcdejaa
set_option autoImplicit false
set_option linter.unusedVariables false
section
variable {P : Program} {rc : Bool} {n : Nat} {t e : TypeId}
def flOf (P : Program) (t : TypeId) : Option (List (Nat × Nat)) := match P.underlying t with
  | some (.struct fs) => some (fs.toList.map fun f => (f.offset, f.type))
  | _ => none
def slOf (P : Program) (t : TypeId) : Option TypeId := match P.underlying t with
  | some (.slice e) => some e
  | _ => none
def inOf (P : Program) (t : TypeId) : Option IntKind := match P.underlying t with
  | some (.int k) => some k
  | _ => none
def boOf (P : Program) (t : TypeId) : Bool := match P.underlying t with
  | some .bool => true
  | _ => false
def stOf (P : Program) (t : TypeId) : Bool := match P.underlying t with
  | some .string => true
  | _ => false
/-- Fields, one behind the other: each with its offset, cells and type. -/
def fsh (sh : TypeId → Option Sh) : List (Nat × Nat × Nat) → Option Sh
  | [] => some .u
  | (_, _, t) :: r => (sh t).bind fun a => (fsh sh r).map (.p a)
def flC (P : Program) (t : TypeId) : Option (List (Nat × Nat × Nat)) := (flOf P t).map fun l => l.map fun x => (x.1, P.cellsOf x.2, x.2)
def offB : Nat → Nat → List (Nat × Nat × Nat) → Bool
  | tot, o, [] => Nat.beq o tot
  | tot, o, (a, c, _) :: r => Nat.beq a o && offB tot (o + c) r
theorem fsh_of (sh : TypeId → Option Sh) : ∀ (fs : List Field) (tot o : Nat), offB tot o (fs.map fun f => (f.offset, P.cellsOf f.type, f.type)) = true → fieldsSh P sh tot o fs = fsh sh (fs.map fun f => (f.offset, P.cellsOf f.type, f.type))
  | [], tot, o, h => by
    have : o = tot := Nat.eq_of_beq_eq_true h
    simp [fieldsSh, fsh, this]
  | f :: fs, tot, o, h => by
    simp only [List.map_cons, offB, Bool.and_eq_true] at h
    have h1 : f.offset = o := Nat.eq_of_beq_eq_true h.1
    have := fsh_of sh fs tot (o + P.cellsOf f.type) h.2
    simp only [fieldsSh, fsh, List.map_cons, if_pos h1, this]
theorem shO_struct {l : List (Nat × Nat × Nat)} (h : flC P t = some l) (ho : offB (P.cellsOf t) 0 l = true) : shO rc P (n + 1) t = fsh (shO rc P n) l := by
  unfold flC flOf at h
  split at h
  · rename_i fs hu
    simp only [Option.map_some, List.map_map, Option.some.injEq] at h
    subst h
    simp only [shO, hu]
    exact fsh_of _ _ _ _ ho
  · cases h
theorem shO_slice {c b : Nat} (h : slOf P t = some e) (hc : P.cellsOf e = c) (hb : P.bytesOf e = b) (h0 : 0 < c) : shO rc P (n + 1) t = (shO rc P n e).map (.slice c b) := by
  unfold slOf at h
  split at h
  · rename_i hu
    simp only [Option.some.injEq] at h
    subst h
    simp only [shO, hu, hc, hb, if_pos h0]
  · cases h
theorem shO_int {k : IntKind} (h : inOf P t = some k) : shO rc P (n + 1) t = some (.int k) := by
  unfold inOf at h
  split at h
  · rename_i hu
    simp only [Option.some.injEq] at h
    subst h
    simp only [shO, hu]
  · cases h
theorem shO_bool (h : boOf P t = true) : shO rc P (n + 1) t = some .bool := by
  unfold boOf at h
  split at h
  · rename_i hu
    simp only [shO, hu]
  · cases h
theorem shO_str (h : stOf P t = true) : shO rc P (n + 1) t = some .str := by
  unfold stOf at h
  split at h
  · rename_i hu
    simp only [shO, hu]
  · cases h
theorem fsh_some {sh : TypeId → Option Sh} : ∀ {l : List (Nat × Nat × Nat)}, (∀ x ∈ l, ∃ a, sh x.2.2 = some a) → ∃ a, fsh sh l = some a
  | [], _ => ⟨_, rfl⟩
  | x :: l, h => by
    obtain ⟨a, ha⟩ := h x List.mem_cons_self
    obtain ⟨b, hb⟩ := fsh_some (l := l) fun y hy => h y (List.mem_cons_of_mem _ hy)
    exact ⟨_, by simp only [fsh, ha, hb, Option.bind_some, Option.map_some]; rfl⟩
/-- A set of types that is closed has shapes at each depth. -/
def clB (P : Program) (S : List Nat) : Bool := S.all fun t => match P.underlying t with
  | some .bool => true
  | some (.int _) => true
  | some .string => true
  | some (.struct fs) => (match flC P t with
    | some l => offB (P.cellsOf t) 0 l && l.all (fun x => S.contains x.2.2)
    | none => false)
  | some (.slice e) => Nat.ble 1 (P.cellsOf e) && S.contains e
  | _ => false
theorem clB_some {S : List Nat} (h : clB P S = true) : ∀ (n : Nat) (t : Nat), t ∈ S → ∃ sh, shO true P n t = some sh
  | 0, t, _ => ⟨.no, rfl⟩
  | n + 1, t, ht => by
    have q := List.all_eq_true.1 h t ht
    have ih := clB_some h n
    split at q <;> rename_i hu
    · exact ⟨_, by simp only [shO, hu]; rfl⟩
    · exact ⟨_, by simp only [shO, hu]; rfl⟩
    · exact ⟨_, by simp only [shO, hu]; rfl⟩
    · split at q
      · rename_i l hl
        simp only [Bool.and_eq_true, List.all_eq_true, List.contains_iff_mem] at q
        rw [shO_struct hl q.1]
        exact fsh_some fun x hx => ih _ (q.2 x hx)
      · cases q
    · simp only [Bool.and_eq_true, List.contains_iff_mem] at q
      obtain ⟨a, ha⟩ := ih _ q.2
      exact ⟨_, by simp only [shO, hu, if_pos (show 0 < P.cellsOf _ from Nat.le_of_ble_eq_true q.1), ha, Option.map_some]; rfl⟩
    · cases q
end
section
variable {P : Program} {m : Nat} {t e : TypeId} {a sh : Sh} {x vs : List AV}
theorem okInt {k : IntKind} (h : inOf P t = some k) (hs : shO true P m t = some a) (ho : a.OkN x) : ∃ n, x = [.int k n] ∧ k.min ≤ n ∧ n ≤ k.max := by
  cases m with
  | zero => simp only [shO, if_true, Option.some.injEq] at hs; subst hs; exact ho.elim
  | succ m =>
    rw [shO_int h] at hs
    simp only [Option.some.injEq] at hs; subst hs
    obtain ⟨n, h1, h2⟩ := ho
    simp only [Lit.wf, Bool.and_eq_true, decide_eq_true_eq] at h2
    exact ⟨n, h1, h2⟩
theorem okU64 (h : inOf P t = some .u64) (hs : shO true P m t = some a) (ho : a.OkN x) : ∃ n : Nat, x = [.int .u64 (n : Nat)] ∧ n < 18446744073709551616 := by
  obtain ⟨n, h1, h2, h3⟩ := okInt h hs ho
  have e1 : IntKind.min .u64 = 0 := rfl
  have e2 : IntKind.max .u64 = 18446744073709551615 := rfl
  rw [e1] at h2; rw [e2] at h3
  exact ⟨n.toNat, by rw [h1, Int.toNat_of_nonneg h2], by omega⟩
theorem okI64 (h : inOf P t = some .i64) (hs : shO true P m t = some a) (ho : a.OkN x) : ∃ n : Int, x = [.int .i64 n] ∧ -9223372036854775808 ≤ n ∧ n ≤ 9223372036854775807 := okInt h hs ho
theorem okU8 (h : inOf P t = some .u8) (hs : shO true P m t = some a) (ho : a.OkN x) : ∃ n : UInt8, x = [.int .u8 (n.toNat : Nat)] := by
  obtain ⟨n, h1, h2, h3⟩ := okInt h hs ho
  have e1 : IntKind.min .u8 = 0 := rfl
  have e2 : IntKind.max .u8 = 255 := rfl
  rw [e1] at h2; rw [e2] at h3
  refine ⟨UInt8.ofNat n.toNat, ?_⟩
  rw [h1, UInt8.toNat_ofNat', show n.toNat % 2 ^ 8 = n.toNat from by omega, Int.toNat_of_nonneg h2]
theorem okBool (h : boOf P t = true) (hs : shO true P m t = some a) (ho : a.OkN x) : ∃ b, x = [.bool b] := by
  cases m with
  | zero => simp only [shO, if_true, Option.some.injEq] at hs; subst hs; exact ho.elim
  | succ m =>
    rw [shO_bool h] at hs
    simp only [Option.some.injEq] at hs; subst hs
    exact ho
theorem okStr (h : stOf P t = true) (hs : shO true P m t = some a) (ho : a.OkN x) : ∃ l : List UInt8, x = [.str l] ∧ l.length ≤ 140737488351232 := by
  cases m with
  | zero => simp only [shO, if_true, Option.some.injEq] at hs; subst hs; exact ho.elim
  | succ m =>
    rw [shO_str h] at hs
    simp only [Option.some.injEq] at hs; subst hs
    exact ho
theorem okSlice {c b : Nat} (h : slOf P t = some e) (hc : P.cellsOf e = c) (hb : P.bytesOf e = b) (h0 : 0 < c) (hs : shO true P m t = some a) (ho : a.OkN x) :
    ∃ l, x = [.rows c l] ∧ l.length * b ≤ 140737488351232 ∧ ∃ k a', m = k + 1 ∧ shO true P k e = some a' ∧ ∀ r ∈ l, a'.OkN r := by
  cases m with
  | zero => simp only [shO, if_true, Option.some.injEq] at hs; subst hs; exact ho.elim
  | succ m =>
    rw [shO_slice h hc hb h0] at hs
    simp only [Option.map_eq_some_iff] at hs
    obtain ⟨a', h1, rfl⟩ := hs
    obtain ⟨l, h2, h3, h4⟩ := ho
    exact ⟨l, h2, h3, m, a', rfl, h1, h4⟩
theorem okStruct {l : List (Nat × Nat × Nat)} (h : flC P t = some l) (ho : offB (P.cellsOf t) 0 l = true) (hs : shO true P m t = some a) (hk : a.OkN x) : ∃ k, m = k + 1 ∧ fsh (shO true P k) l = some a := by
  cases m with
  | zero => simp only [shO, if_true, Option.some.injEq] at hs; subst hs; exact hk.elim
  | succ m => exact ⟨m, rfl, by rw [← shO_struct h ho]; exact hs⟩
theorem okCons {s : TypeId → Option Sh} {o c : Nat} {r : List (Nat × Nat × Nat)} (h : fsh s ((o, c, t) :: r) = some sh) (hk : sh.OkN vs) :
    ∃ a x b y, s t = some a ∧ a.OkN x ∧ fsh s r = some b ∧ b.OkN y ∧ vs = x ++ y := by
  simp only [fsh, Option.bind_eq_some_iff, Option.map_eq_some_iff] at h
  obtain ⟨a, h1, b, h2, rfl⟩ := h
  obtain ⟨x, y, h3, h4, h5⟩ := hk
  exact ⟨a, x, b, y, h1, h4, h2, h5, h3⟩
theorem okNil {s : TypeId → Option Sh} (h : fsh s [] = some sh) (hk : sh.OkN vs) : vs = [] := by
  simp only [fsh, Option.some.injEq] at h
  subst h; exact hk
end
/-- Rows that each stand for something. -/
theorem rows_of {α : Type} {f : α → List AV} {Q : α → Prop} : ∀ {l : List (List AV)}, (∀ r ∈ l, ∃ x, r = f x ∧ Q x) → ∃ xs : List α, l = xs.map f ∧ ∀ x ∈ xs, Q x
  | [], _ => ⟨[], rfl, by simp⟩
  | r :: l, h => by
    obtain ⟨x, h1, h2⟩ := h r List.mem_cons_self
    obtain ⟨xs, h3, h4⟩ := rows_of (l := l) fun r hr => h r (List.mem_cons_of_mem _ hr)
    refine ⟨x :: xs, by rw [h1, h3]; rfl, fun y hy => ?_⟩
    rcases List.mem_cons.1 hy with rfl | hy
    · exact h2
    · exact h4 y hy
end Go.Proofs.Ytodiahhfpcdejaa

/- Arguments that are types, values, numbers. -/
namespace Go.Proofs.Ytodiahhfpcdejaa
set_option autoImplicit false
set_option linter.unusedSimpArgs false
set_option linter.unusedVariables false
theorem item_fl : flC PG ty_api_Item = some [(0, 1, ty_string), (1, 1, ty_uint64), (2, 1, ty_int), (3, 1, ty_bool), (4, 1, ty_bool)] := by kernel_rfl
theorem type_fl : flC PG ty_api_Type = some [(0, 1, ty_int), (1, 1, ty_string), (2, 1, ty_int), (3, 1, ty_int), (4, 1, ty_int), (5, 1, ty_S_api_Item)] := by kernel_rfl
theorem value_fl : flC PG ty_api_Value = some [(0, 1, ty_int), (1, 1, ty_uint64), (2, 1, ty_string), (3, 1, ty_S_api_Value)] := by kernel_rfl
theorem item_of {m : Nat} {sh : Sh} {vs : List AV} (hs : shO true PG m ty_api_Item = some sh) (hk : sh.OkN vs) : ∃ x : It, vs = itR x ∧ x.nm.length ≤ 140737488351232 ∧ x.num < 18446744073709551616 := by
  obtain ⟨k, rfl, h1⟩ := okStruct item_fl (by kernel_rfl) hs hk
  obtain ⟨_, _, _, _, a1, a2, h2, k2, rfl⟩ := okCons h1 hk
  obtain ⟨_, _, _, _, b1, b2, h3, k3, rfl⟩ := okCons h2 k2
  obtain ⟨_, _, _, _, c1, c2, h4, k4, rfl⟩ := okCons h3 k3
  obtain ⟨_, _, _, _, d1, d2, h5, k5, rfl⟩ := okCons h4 k4
  obtain ⟨_, _, _, _, e1, e2, h6, k6, rfl⟩ := okCons h5 k5
  have := okNil h6 k6; subst this
  obtain ⟨s, rfl, hs⟩ := okStr (by kernel_rfl) a1 a2
  obtain ⟨u, rfl, hu⟩ := okU64 (by kernel_rfl) b1 b2
  obtain ⟨n, rfl, _⟩ := okI64 (by kernel_rfl) c1 c2
  obtain ⟨b, rfl⟩ := okBool (by kernel_rfl) d1 d2
  obtain ⟨b', rfl⟩ := okBool (by kernel_rfl) e1 e2
  exact ⟨⟨s, u, n, b, b'⟩, rfl, hs, hu⟩
theorem type_of {m : Nat} {sh : Sh} {vs : List AV} (hs : shO true PG m ty_api_Type = some sh) (hk : sh.OkN vs) : ∃ t : Ty, vs = tyR t ∧ TyOk t := by
  obtain ⟨k, rfl, h1⟩ := okStruct type_fl (by kernel_rfl) hs hk
  obtain ⟨_, _, _, _, a1, a2, h2, k2, rfl⟩ := okCons h1 hk
  obtain ⟨_, _, _, _, b1, b2, h3, k3, rfl⟩ := okCons h2 k2
  obtain ⟨_, _, _, _, c1, c2, h4, k4, rfl⟩ := okCons h3 k3
  obtain ⟨_, _, _, _, d1, d2, h5, k5, rfl⟩ := okCons h4 k4
  obtain ⟨_, _, _, _, e1, e2, h6, k6, rfl⟩ := okCons h5 k5
  obtain ⟨_, _, _, _, f1, f2, h7, k7, rfl⟩ := okCons h6 k6
  have := okNil h7 k7; subst this
  obtain ⟨kd, rfl, _⟩ := okI64 (by kernel_rfl) a1 a2
  obtain ⟨s, rfl, hs⟩ := okStr (by kernel_rfl) b1 b2
  obtain ⟨bd, rfl, _⟩ := okI64 (by kernel_rfl) c1 c2
  obtain ⟨el, rfl, _⟩ := okI64 (by kernel_rfl) d1 d2
  obtain ⟨tg, rfl, _⟩ := okI64 (by kernel_rfl) e1 e2
  obtain ⟨l, rfl, hl, k1, s1, _, h3', h4'⟩ := okSlice (e := ty_api_Item) (c := 5) (b := 40) (by kernel_rfl) (by kernel_rfl) (by kernel_rfl) (by decide) f1 f2
  obtain ⟨its, rfl, hi⟩ := rows_of (f := itR) fun r hr => item_of h3' (h4' r hr)
  rw [List.length_map] at hl
  exact ⟨⟨kd, s, bd, el, tg, its⟩, rfl, hs, by show its.length ≤ _; omega, fun x hx => (hi x hx).1, fun x hx => (hi x hx).2⟩
theorem value_of : ∀ (m : Nat) {sh : Sh} {vs : List AV} (_ : shO true PG m ty_api_Value = some sh) (_ : sh.OkN vs), ∃ v : Vl, vs = vlR v ∧ vOk v := by
  intro m
  induction m using Nat.strongRecOn with
  | _ m ih =>
  intro sh vs hs hk
  obtain ⟨k, rfl, h1⟩ := okStruct value_fl (by kernel_rfl) hs hk
  obtain ⟨_, _, _, _, a1, a2, h2, k2, rfl⟩ := okCons h1 hk
  obtain ⟨_, _, _, _, b1, b2, h3, k3, rfl⟩ := okCons h2 k2
  obtain ⟨_, _, _, _, c1, c2, h4, k4, rfl⟩ := okCons h3 k3
  obtain ⟨_, _, _, _, d1, d2, h5, k5, rfl⟩ := okCons h4 k4
  have := okNil h5 k5; subst this
  obtain ⟨kd, rfl, _⟩ := okI64 (by kernel_rfl) a1 a2
  obtain ⟨u, rfl, hu⟩ := okU64 (by kernel_rfl) b1 b2
  obtain ⟨s, rfl, hs⟩ := okStr (by kernel_rfl) c1 c2
  obtain ⟨l, rfl, hl, k1, s1, e2, h5', h6'⟩ := okSlice (e := ty_api_Value) (c := 4) (b := 56) (by kernel_rfl) (by kernel_rfl) (by kernel_rfl) (by decide) d1 d2
  obtain ⟨its, rfl, hi⟩ := rows_of (f := vlR) fun r hr => ih k1 (by omega) h5' (h6' r hr)
  rw [List.length_map] at hl
  exact ⟨.mk kd u s its, by rw [vlR, vlRs_map]; rfl, hu, hs, by omega, vOks_of hi⟩
def Shapes.ValS : List Nat := [ty_api_Value, ty_int, ty_uint64, ty_string, ty_S_api_Value]
def Shapes.TypS : List Nat := [ty_S_api_Type, ty_api_Type, ty_int, ty_uint64, ty_string, ty_bool, ty_S_api_Item, ty_api_Item]
theorem value_sh : ∀ n, ∃ sh, shO true PG n ty_api_Value = some sh := fun n => clB_some (S := Shapes.ValS) (by kernel_rfl) n _ (by simp [Shapes.ValS])
theorem types_sh : ∀ n, ∃ sh, shO true PG n ty_S_api_Type = some sh := fun n => clB_some (S := Shapes.TypS) (by kernel_rfl) n _ (by simp [Shapes.TypS])
theorem int_sh : ∀ n, ∃ sh, shO true PG n ty_int = some sh := fun n => clB_some (S := Shapes.TypS) (by kernel_rfl) n _ (by simp [Shapes.TypS])
theorem value_arg {av : AV} (h : ∃ n sh, shO true PG n ty_api_Value = some sh ∧ ArgOk true sh av) : ∃ v : Vl, Nw av (vlA v) ∧ vOk v := by
  obtain ⟨n, sh, h1, h2⟩ := h
  obtain ⟨av', h3, h4⟩ := h2.nonil
  obtain ⟨vs, rfl, h5⟩ := h3
  obtain ⟨x, rfl, h6⟩ := value_of n h1 h5
  exact ⟨x, h4, h6⟩
theorem types_arg {av : AV} (h : ∃ n sh, shO true PG n ty_S_api_Type = some sh ∧ ArgOk false sh av) : ∃ l : List Ty, Nw av (tysA l) ∧ TysOk l := by
  obtain ⟨n, sh, h1, h2⟩ := h
  obtain ⟨av', h3, h4⟩ := h2.nonil
  obtain ⟨l, e, hl, k1, s1, e2, h5', h6'⟩ := okSlice (e := ty_api_Type) (c := 6) (b := 72) (by kernel_rfl) (by kernel_rfl) (by kernel_rfl) (by decide) h1 h3
  obtain ⟨ts, rfl, hi⟩ := rows_of (f := tyR) fun r hr => type_of h5' (h6' r hr)
  rw [List.length_map] at hl
  simp only [List.cons.injEq, and_true] at e
  subst e
  exact ⟨ts, h4, by omega, hi⟩
theorem int_arg {av : AV} (h : ∃ n sh, shO true PG n ty_int = some sh ∧ ArgOk false sh av) : ∃ n : Int, av = .int .i64 n ∧ -9223372036854775808 ≤ n ∧ n ≤ 9223372036854775807 := by
  obtain ⟨n, sh, h1, h2⟩ := h
  obtain ⟨av', h3, h4⟩ := h2.nonil
  obtain ⟨k, e, h5⟩ := okI64 (by kernel_rfl) h1 h3
  simp only [List.cons.injEq, and_true] at e
  subst e
  cases h4 with
  | refl _ => exact ⟨k, rfl, h5⟩
end Go.Proofs.Ytodiahhfpcdejaa

/- The law 'FitsTells', walked. -/
namespace Go.Proofs.Ytodiahhfpcdejaa
set_option autoImplicit false
set_option linter.unusedSimpArgs false
set_option linter.unusedVariables false
attribute [local irreducible] callA callP ACalls
theorem nw_leaf (k : Int) (n : Nat) (t : List UInt8) : Nw (.agg [.int .i64 k, .int .u64 (n : Nat), .str t, .nilS]) (vlA (.mk k n t [])) := by
  have q : NwL [.int .i64 k, .int .u64 (n : Nat), .str t, .nilS] (vlR (.mk k n t [])) := .cons (.refl _) (.cons (.refl _) (.cons (.refl _) (.cons (.nil 4) (.refl _))))
  exact .agg _ _ q.1 q.2
/-- The example's types. -/
def awL : List Ty := [⟨9, [69], 0, 0, 0, [⟨[97], 0, 0, false, false⟩, ⟨[98], 1, 0, false, false⟩]⟩]
theorem awL_ok : TysOk awL := ⟨by decide, by
  intro t ht
  simp only [awL, List.mem_singleton] at ht
  subst ht
  exact ⟨by decide, by decide, by simp, by simp⟩⟩
theorem aw2 : (if 0 ≤ (0 : Int) ∧ (0 : Int) < awL.length ∧ (tyChk awL).1 = 0 then fitE awL 0 (.mk 9 2 [] []) else 8) = 7 := by kernel_rfl
theorem aw1 : (if 0 ≤ (0 : Int) ∧ (0 : Int) < awL.length ∧ (tyChk awL).1 = 0 then fitE awL 0 (.mk 9 1 [] []) else 8) = 0 := by kernel_rfl
theorem fit_awake_spec (H : AH) : ACalls PG broadsheetlaw09_awake.n [] H fun r H' => r = .bool true ∧ H' = H := by
  have h2 := fun H => Fits_spec awL awL_ok 0 (.mk 9 2 [] []) (by simp [vOk, vOks]) H
  have h1 := fun H => Fits_spec awL awL_ok 0 (.mk 9 1 [] []) (by simp [vOk, vOks]) H
  rw [aw2] at h2
  rw [aw1] at h1
  have n2 := fun H => (h2 H).nw (.cons (.refl _) (.cons (.refl _) (.cons (nw_leaf 9 2 []) (.refl _))))
  have n1 := fun H => (h1 H).nw (.cons (.refl _) (.cons (.refl _) (.cons (nw_leaf 9 1 []) (.refl _))))
  refine ACalls.fz (broadsheetlaw09_awake.of rfl (wpF_start ?_))
  (first | refine au ?_ | exact au0 | fail)
  first | refine callF_eq (n2 _) ?_ | refine callG_eq rfl (n2 _) ?_
  (first | refine au ?_ | exact au0 | fail)
  first | refine callF_eq (n1 _) ?_ | refine callG_eq rfl (n1 _) ?_
  (first | refine au ?_ | exact au0 | fail)
  exact ⟨fz_of, sub_of⟩
theorem FitsTells_spec (l : List Ty) (hl : TysOk l) (t : Int) (v : Vl) (hok : vOk v) : ACalls PG broadsheetlaw09_FitsTells.n [tysA l, .int .i64 t, vlA v] [] fun r _ => r = .bool true := by
  have hg := fun H => tGreat_spec l hl H
  have hm := vMuch_spec _ v 0 (Nat.lt_succ_self _) hok (by omega)
  have h1 := fun H => Fits_spec l hl t v hok H
  have h2 := fun H => r9_Fits_spec l hl t v hok H
  generalize (if 0 ≤ t ∧ t < l.length ∧ (tyChk l).1 = 0 then fitE l t v else 8) = e at *
  generalize tyGreat l = a at *
  generalize vMuch v 0 = b at *
  refine ACalls.fzK (broadsheetlaw09_FitsTells.of rfl (wpF_start ?_))
  obtain ⟨k, n, x, vs⟩ := v
  (first | refine au ?_ | exact au0 | fail)
  intro id3 hid3 ht3; have n3 := neAll_of hid3; (try simp only [neAll, neAll_hset] at n3); have m3 := n3; (repeat (obtain ⟨_, m3⟩ := m3))
  (first | refine au ?_ | exact au0 | fail)
  first | refine callF_eq (hg _) ?_ | refine callG_eq rfl (hg _) ?_
  cases a
  rotate_left
  · (first | refine au ?_ | exact au0 | fail)
    first | refine callF_eq (fit_awake_spec _) ?_ | refine callG_eq rfl (fit_awake_spec _) ?_
    (first | refine au ?_ | exact au0 | fail)
    exact fz_of
  (first | refine au ?_ | exact au0 | fail)
  first | refine callF_eq (hm.frame _) ?_ | refine callG_eq rfl (hm.frame _) ?_
  cases b
  rotate_left
  · (first | refine au ?_ | exact au0 | fail)
    first | refine callF_eq (fit_awake_spec _) ?_ | refine callG_eq rfl (fit_awake_spec _) ?_
    (first | refine au ?_ | exact au0 | fail)
    exact fz_of
  (first | refine au ?_ | exact au0 | fail)
  first | refine callF_eq (h1 _) ?_ | refine callG_eq rfl (h1 _) ?_
  (first | refine au ?_ | exact au0 | fail)
  first | refine callF_eq (h2 _) ?_ | refine callG_eq rfl (h2 _) ?_
  (first | refine au ?_ | exact au0 | fail)
  first | refine callF_eq (fit_awake_spec _) ?_ | refine callG_eq rfl (fit_awake_spec _) ?_
  (first | refine au ?_ | exact au0 | fail)
  exact fz_of
theorem FitsTells_row (a0 : AV) (h0 : ∃ n sh, shO true PG n ty_S_api_Type = some sh ∧ ArgOk false sh a0) (a1 : AV) (h1 : ∃ n sh, shO true PG n ty_int = some sh ∧ ArgOk false sh a1) (a2 : AV) (h2 : ∃ n sh, shO true PG n ty_api_Value = some sh ∧ ArgOk true sh a2) : ACalls PG broadsheetlaw09_FitsTells.n [a0, a1, a2] [] fun r _ => r = .bool true := by
  obtain ⟨l, q0, hl⟩ := types_arg h0
  obtain ⟨t, rfl, _⟩ := int_arg h1
  obtain ⟨v, q2, hv⟩ := value_arg h2
  exact (FitsTells_spec l hl t v hv).nw (.cons q0 (.cons (.refl _) (.cons q2 (.refl _))))
end Go.Proofs.Ytodiahhfpcdejaa

/- What follows for a value that is of a type; plain. -/
namespace Go.Proofs.Ytodiahhfpcdejaa
set_option autoImplicit false
set_option linter.unusedVariables false
/-- What fitE = 0 says. -/
structure Fit0 (l : List Ty) (t : Int) (k : Int) (n : Nat) (x : List UInt8) (vs : List Vl) : Prop where
  kd : k = (tAt l t).kd
  z : vZero k n x vs.length = true
  num : ¬ ((isNum k = true ∧ numT l t n = false) ∨ (k = 14 ∧ numT l (tAt l t).tg n = false))
  tx : ¬ (k = 10 ∧ (tAt l t).bd < (x.length : Int))
  tx0 : ¬ (k = 10 ∧ x.contains 0 = true)
  sq : ¬ (k = 11 ∧ (tAt l t).bd < (vs.length : Int))
  len : (partT l t n vs.length).length = vs.length
  its : fitEs l (partT l t n vs.length) vs = 0
theorem fitE_0 {l : List Ty} {t : Int} {k : Int} {n : Nat} {x : List UInt8} {vs : List Vl} (h : fitE l t (.mk k n x vs) = 0) : Fit0 l t k n x vs := by
  rw [fitE_eq] at h
  by_cases c1 : k = (tAt l t).kd
  rotate_left
  · rw [if_pos c1] at h; cases h
  rw [if_neg (by simp [c1])] at h
  cases c2 : vZero k n x vs.length
  · rw [if_pos c2] at h; cases h
  rw [if_neg (by rw [c2]; simp)] at h
  by_cases c3 : (isNum k = true ∧ numT l t n = false) ∨ (k = 14 ∧ numT l (tAt l t).tg n = false)
  · rw [if_pos c3] at h; cases h
  rw [if_neg c3] at h
  by_cases c4 : k = 10 ∧ (tAt l t).bd < (x.length : Int)
  · rw [if_pos c4] at h; cases h
  rw [if_neg c4] at h
  by_cases c5 : k = 10 ∧ x.contains 0 = true
  · rw [if_pos c5] at h; cases h
  rw [if_neg c5] at h
  by_cases c6 : k = 11 ∧ (tAt l t).bd < (vs.length : Int)
  · rw [if_pos c6] at h; cases h
  rw [if_neg c6] at h
  unfold fitN at h
  by_cases c7 : (partT l t n vs.length).length = vs.length
  · rw [if_neg (by simp [c7])] at h
    exact ⟨c1, c2, c3, c4, c5, c6, c7, h⟩
  · rw [if_pos c7] at h; cases h
theorem fitEs_0 {l : List Ty} : ∀ {ps : List Int} {vs : List Vl} (_ : fitEs l ps vs = 0) (k : Nat) (h1 : k < ps.length) (h2 : k < vs.length), fitE l ps[k] vs[k] = 0
  | p :: ps, v :: vs, h, 0, _, _ => by
    simp only [fitEs] at h
    split at h
    · rename_i q; exact absurd h q
    · rename_i q; exact Classical.not_not.1 q
  | p :: ps, v :: vs, h, k + 1, h1, h2 => by
    simp only [fitEs] at h
    split at h
    · rename_i q; exact absurd h q
    · exact fitEs_0 h k (by simpa using h1) (by simpa using h2)
theorem foldl_dpF_ge {D : List Nat} {n : Nat} : ∀ (ps : List Int) (m : Nat), m ≤ ps.foldl (dpF D n) m
  | [], m => Nat.le_refl _
  | p :: ps, m => by
    have := foldl_dpF_ge (D := D) (n := n) ps (dpF D n m p)
    have : m ≤ dpF D n m p := by unfold dpF; split <;> omega
    simp only [List.foldl_cons]; omega
theorem foldl_dpF_mem {D : List Nat} {n : Nat} : ∀ (ps : List Int) (m : Nat) (p : Int), p ∈ ps → 0 ≤ p → p < (n : Int) → D.getD p.toNat 0 + 1 ≤ ps.foldl (dpF D n) m
  | q :: ps, m, p, hp, h0, h1 => by
    simp only [List.foldl_cons]
    rcases List.mem_cons.1 hp with rfl | hp
    · have := foldl_dpF_ge (D := D) (n := n) ps (dpF D n m p)
      have : D.getD p.toNat 0 + 1 ≤ dpF D n m p := by unfold dpF; rw [if_pos ⟨h0, h1⟩]; omega
      omega
    · exact foldl_dpF_mem ps _ p hp h0 h1
theorem deepT_ge {l : List Ty} {t : Int} (h0 : 0 ≤ t) (h1 : t < l.length) : 1 ≤ deepT l t := by
  obtain ⟨n, rfl⟩ : ∃ n : Nat, t = n := ⟨t.toNat, by omega⟩
  rw [deepT_eq (by omega)]
  exact foldl_dpF_ge _ _
theorem deepT_part {l : List Ty} {t : Int} (h0 : 0 ≤ t) (h1 : t < l.length) {p : Int} (hp : p ∈ parts (tAt l t)) (hp0 : 0 ≤ p) (hp1 : p < t) : deepT l p + 1 ≤ deepT l t := by
  obtain ⟨n, rfl⟩ : ∃ n : Nat, t = n := ⟨t.toNat, by omega⟩
  have hn : n < l.length := by omega
  have e : tAt l (n : Nat) = l[n] := by unfold tAt; rw [Int.toNat_natCast, getD_get hn]
  rw [e] at hp
  rw [deepT_eq hn]
  have := foldl_dpF_mem (D := dpT l n) (n := n) (parts l[n]) 1 p hp hp0 (by omega)
  rw [dpT_deep (by omega) (by omega), Int.toNat_of_nonneg hp0] at this
  exact this
theorem partT_mem {l : List Ty} {t : Int} {n m : Nat} : ∀ p ∈ partT l t n m, p ∈ parts (tAt l t) := by
  intro p h
  unfold partT at h
  split at h
  · rename_i c
    rw [List.eq_of_mem_replicate h]
    unfold parts; rw [show kEl (tAt l t).kd = true from by simp [kEl, c]]; simp
  · split at h
    · rename_i c
      rw [List.eq_of_mem_replicate h]
      unfold parts; rw [show kEl (tAt l t).kd = true from by simp [kEl, c]]; simp
    · split at h
      · rename_i c
        obtain ⟨y, hy, rfl⟩ := List.mem_map.1 h
        exact parts_item (.inl c) hy
      · split at h
        · rename_i c
          split at h
          · rename_i k hk
            simp only [List.mem_singleton] at h
            rw [h, getD_get (brIx_lt hk)]
            exact parts_item (.inr c) (List.getElem_mem _)
          · cases h
        · cases h
theorem vDeeps_le {l : List Vl} {m : Nat} (h : ∀ x ∈ l, vDeep x ≤ m) : vDeeps l ≤ m := by
  induction l with
  | nil => simp [vDeeps]
  | cons a l ih =>
    have h1 := h a List.mem_cons_self
    have h2 := ih fun x hx => h x (List.mem_cons_of_mem _ hx)
    simp only [vDeeps]; omega
/-- A value is not deeper than its type. -/
theorem fit_deep {l : List Ty} (hv : TyV l) : ∀ (m : Nat) (v : Vl), SizeOf.sizeOf v < m → ∀ t : Int, 0 ≤ t → t < l.length → fitE l t v = 0 → vDeep v ≤ deepT l t
  | 0, v, h, _, _, _, _ => by omega
  | m + 1, .mk k n x vs, hsz, t, h0, h1, hf => by
    have F := fitE_0 hf
    have hG := hv.tAt h0 h1
    have h1' := deepT_ge h0 h1
    simp only [vDeep]
    suffices vDeeps vs ≤ deepT l t - 1 by omega
    refine vDeeps_le fun w hw => ?_
    obtain ⟨i, hi, rfl⟩ := List.getElem_of_mem hw
    have hip : i < (partT l t n vs.length).length := by rw [F.len]; exact hi
    have hp := partT_mem _ (List.getElem_mem hip)
    have hr := hG.parts _ hp
    have hd := deepT_part h0 h1 hp hr.1 (by omega)
    have hs := List.sizeOf_lt_of_mem hw
    simp only [Vl.mk.sizeOf_spec] at hsz
    have := fit_deep hv m vs[i] (by omega) _ hr.1 (by omega) (fitEs_0 F.its i hip hi)
    omega
end Go.Proofs.Ytodiahhfpcdejaa

/- The law 'FitsParts', walked. -/
namespace Go.Proofs.Ytodiahhfpcdejaa
set_option autoImplicit false
set_option linter.unusedSimpArgs false
set_option linter.unusedVariables false
attribute [local irreducible] callA callP ACalls
def fitR (l : List Ty) (t : Int) (v : Vl) : Int := if 0 ≤ t ∧ t < l.length ∧ (tyChk l).1 = 0 then fitE l t v else 8
theorem Fits_specR (l : List Ty) (hl : TysOk l) (t : Int) (v : Vl) (hok : vOk v) (H : AH) : ACalls PG fits_Fits.n [tysA l, .int .i64 t, vlA v] H fun r H' => r = .int .i64 (fitR l t v) ∧ H' = H := Fits_spec l hl t v hok H
theorem fitR_0 {l : List Ty} {t : Int} {v : Vl} (h : fitR l t v = 0) : (0 ≤ t ∧ t < l.length ∧ (tyChk l).1 = 0) ∧ fitE l t v = 0 := by
  unfold fitR at h
  split at h
  · rename_i c; exact ⟨c, h⟩
  · cases h
theorem fitR_of {l : List Ty} {t : Int} {v : Vl} (h0 : 0 ≤ t) (h1 : t < l.length) (hc : (tyChk l).1 = 0) : fitR l t v = fitE l t v := by
  unfold fitR; rw [if_pos ⟨h0, h1, hc⟩]
/-- The type of a part of what has one kind of parts, or is a struct. -/
def pI (g : Ty) (i : Nat) : Int := if g.kd = 13 then (g.its.getD i it0).ty else g.el
theorem partT_pI {l : List Ty} {t : Int} {n m i : Nat} (hk : (tAt l t).kd = 11 ∨ (tAt l t).kd = 12 ∨ (tAt l t).kd = 13) (h : i < (partT l t n m).length) : (partT l t n m)[i] = pI (tAt l t) i := by
  unfold pI
  rcases hk with hk | hk | hk
  · have e := partT_el (l := l) (t := t) rfl hk n m
    simp only [e, List.getElem_replicate]; rw [if_neg (by omega)]
  · have e := partT_ar (l := l) (t := t) rfl hk n m
    simp only [e, List.getElem_replicate]; rw [if_neg (by omega)]
  · have e := partT_st (l := l) (t := t) rfl hk n m
    rw [e, List.length_map] at h
    simp only [e, List.getElem_map]; rw [if_pos hk, getD_get h]
theorem fitE_len {l : List Ty} {t : Int} {k : Int} {n : Nat} {x : List UInt8} {vs ws : List Vl} (F : Fit0 l t k n x vs) (hk : k = 12 ∨ k = 13) (hw : ws.length ≠ vs.length) : fitE l t (.mk k n x ws) = 18 := by
  have e := F.kd
  have hz : vZero k n x ws.length = true := by
    have := F.z
    simp only [vZero, decide_eq_true_eq] at this ⊢
    exact ⟨this.1, .inr (by omega)⟩
  have hp : partT l t n ws.length = partT l t n vs.length := by
    rcases hk with hk | hk
    · rw [partT_ar rfl (by omega), partT_ar rfl (by omega)]
    · rw [partT_st rfl (by omega), partT_st rfl (by omega)]
  rw [fitE_eq, if_neg (by simp [e]), if_neg (by rw [hz]; simp), if_neg F.num, if_neg F.tx, if_neg F.tx0, if_neg (by omega), hp]
  unfold fitN
  rw [if_pos (by rw [F.len]; omega)]
theorem vOks_drop {l : List Vl} (h : vOks l) (n : Nat) : vOks (l.drop n) := vOks_of fun x hx => vOks_mem h x (List.mem_of_mem_drop hx)
theorem vOks_snoc {l : List Vl} (h : vOks l) {y : Vl} (hy : vOk y) : vOks (l ++ [y]) := vOks_of fun x hx => by
  rcases List.mem_append.1 hx with q | q
  · exact vOks_mem h x q
  · rw [List.mem_singleton.1 q]; exact hy
theorem FitsParts_spec (l : List Ty) (hl : TysOk l) (t : Int) (v : Vl) (hok : vOk v) : ACalls PG broadsheetlaw09_FitsParts.n [tysA l, .int .i64 t, vlA v] [] fun r _ => r = .bool true := by
  have hg := fun H => tGreat_spec l hl H
  have hm := vMuch_spec _ v 0 (Nat.lt_succ_self _) hok (by omega)
  have h1 := fun H => Fits_specR l hl t v hok H
  have hmg := @vMuch_great v 0
  have hdv := vDeep_spec _ v (Nat.lt_succ_self _)
  have hdt := fun H => Deep_tspec l hl t H
  have hF := fun w hw t' H => Fits_specR l hl t' w hw H
  generalize tyGreat l = a at *
  generalize vMuch v 0 = b at *
  have hR := @fitR_0 l t v
  generalize fitR l t v = e at *
  refine ACalls.fzK (broadsheetlaw09_FitsParts.of rfl (wpF_start ?_))
  obtain ⟨k, n, x, vs⟩ := v
  (first | refine au ?_ | exact au0 | fail)
  intro id3 hid3 ht3; have n3 := neAll_of hid3; (try simp only [neAll, neAll_hset] at n3); have m3 := n3; (repeat (obtain ⟨_, m3⟩ := m3))
  (first | refine au ?_ | exact au0 | fail)
  first | refine callF_eq (hg _) ?_ | refine callG_eq rfl (hg _) ?_
  cases a
  rotate_left
  · (first | refine au ?_ | exact au0 | fail)
    first | refine callF_eq (fit_awake_spec _) ?_ | refine callG_eq rfl (fit_awake_spec _) ?_
    (first | refine au ?_ | exact au0 | fail)
    exact fz_of
  (first | refine au ?_ | exact au0 | fail)
  first | refine callF_eq (hm.frame _) ?_ | refine callG_eq rfl (hm.frame _) ?_
  cases b
  rotate_left
  · (first | refine au ?_ | exact au0 | fail)
    first | refine callF_eq (fit_awake_spec _) ?_ | refine callG_eq rfl (fit_awake_spec _) ?_
    (first | refine au ?_ | exact au0 | fail)
    exact fz_of
  (first | refine au ?_ | exact au0 | fail)
  first | refine callF_eq (h1 _) ?_ | refine callG_eq rfl (h1 _) ?_
  (first | refine au ?_ | exact au0 | fail)
  refine bsplit_dec (fun c => ?_) (fun c => ?_)
  · (first | refine au ?_ | exact au0 | fail)
    first | refine callF_eq (fit_awake_spec _) ?_ | refine callG_eq rfl (fit_awake_spec _) ?_
    (first | refine au ?_ | exact au0 | fail)
    exact fz_of
  obtain ⟨⟨t0, t1, tc⟩, hf⟩ := hR (Classical.not_not.1 c)
  have hv := tyChk_v tc
  have hdd := fit_deep hv _ _ (Nat.lt_succ_self _) t t0 t1 hf
  have F := fitE_0 hf
  have hG := hv.tAt t0 t1
  have hge := tAt_get t0 t1
  have hlen : (l.map tyR).length = l.length := by simp
  have hll := hl.len
  have hgr := hmg rfl
  have hkl := vlRs_len vs
  have hfk := F.kd
  have hdv2 := hdv (by omega)
  have hvl : vs.length ≤ 20000 := by
    have := vGreats_len vs
    simp only [vGreat] at hgr; omega
  have hks : vOks vs := by simp only [vOk] at hok; exact hok.2.2.2
  have hrow : ∀ (i : Nat) (h : i < vs.length), k ≠ 14 → 11 ≤ k → ∀ H, ACalls PG fits_Fits.n [tysA l, .int .i64 (pI (tAt l t) i), vlA vs[i]] H fun r H' => r = .int .i64 0 ∧ H' = H := fun i h q q2 H => by
    have hip : i < (partT l t n vs.length).length := by rw [F.len]; exact h
    have hkk := hG.kd
    have e1 := partT_pI (l := l) (t := t) (n := n) (m := vs.length) (i := i) (by omega) hip
    have e2 := fitEs_0 F.its i hip h
    have e3 := partT_in hG n vs.length _ (List.getElem_mem hip)
    rw [e1] at e2 e3
    have := hF vs[i] (vOks_mem hks _ (List.getElem_mem h)) (pI (tAt l t) i) H
    rw [fitR_of e3.1 (by omega) tc, e2] at this
    exact this
  clear hg hm h1 hmg hR hdv hf
  (first | refine au ?_ | exact au0 | fail)
  first | refine callF_eq (hdv2.frame _) ?_ | refine callG_eq rfl (hdv2.frame _) ?_
  (first | refine au ?_ | exact au0 | fail)
  first | refine callF_eq (hdt _) ?_ | refine callG_eq rfl (hdt _) ?_
  (first | refine au ?_ | exact au0 | fail)
  rw [hge]
  (first | refine au ?_ | exact au0 | fail)
  have hm0 : k ≤ 10 → vs.length = 0 := fun q => by
    have := F.z
    simp only [vZero, decide_eq_true_eq] at this
    have := this.2
    omega
  have hl13 : k = 13 → (tAt l t).its.length = vs.length := fun q => by
    have := F.len
    rw [partT_st rfl (by omega), List.length_map] at this
    exact this
  have hl12 : k = 12 → (tAt l t).bd = (vs.length : Int) := fun q => by
    have := F.len
    rw [partT_ar rfl (by omega), List.length_replicate] at this
    have := (hG.bd (by simp [kBd, ← hfk, q])).1
    omega
  have hpos : k = 12 ∨ k = 13 → 0 < vs.length := fun q => by
    rcases q with q | q
    · have := hl12 q
      have := (hG.bd (by simp [kBd, ← hfk, q])).2.2 (by simp [kEl, ← hfk, q])
      omega
    · rw [← hl13 q]
      have := hG.items
      unfold itemsE at this
      rw [if_pos (by simp [kNm, ← hfk, q])] at this
      split at this
      · cases this
      · omega
  have hkk := hG.kd
  refine loopL [(0, some _), (1, some _), (5, some _)] 7 0 vs.length (fun _ => True) (by repeat (first | exact trivial | refine And.intro (Or.inl rfl) ?_ | refine And.intro (Or.inr (Exists.intro _ (And.intro rfl (Fz.refl _)))) ?_ | refine And.intro (Or.inr (Exists.intro _ (And.intro rfl (fz_eq (congrArg (AV.int _) (by omega)))))) ?_ | refine And.intro (Or.inr (Exists.intro _ (And.intro rfl (fz_eq (congrArg (AV.own _ _ _) (by (try dsimp only); (try simp only [List.length_append, List.length_map, List.length_cons, List.length_nil, List.length_take, List.length_set, List.length_replicate]); (try dsimp only); first | done | omega)))))) ?_)) (Nat.zero_le _) trivial (fun i hi _ => ?_)
  (first | refine au ?_ | exact au0 | fail)
  refine bsplit_dec (fun c1 => ?_) (fun c1 => ?_)
  · have hil : i < vs.length := by omega
    have hk11 : 11 ≤ k := by
      apply Classical.byContradiction; intro q
      have := hm0 (by omega); omega
    have hg := vlRs_geti hil
    have hr := hrow i hil
    clear hrow F hm0 hl12 hpos hdv2 hdd hdt
    generalize vs[i] = y at *
    obtain ⟨k2, n2, x2, vs2⟩ := y
    (first | refine au ?_ | exact au0 | fail)
    rw [hge]
    (first | refine au ?_ | exact au0 | fail)
    by_cases k13 : k = 13
    · have hr := hr (by omega) hk11
      unfold pI at hr
      have hi13 : i < (tAt l t).its.length := by rw [hl13 k13]; exact hil
      have hlen2 : ((tAt l t).its.map itR).length = (tAt l t).its.length := by simp
      have hge2 := row_get (f := itR) hi13
      rw [if_pos (by omega), getD_get hi13] at hr
      generalize (tAt l t).its[i] = z at *
      (first | refine au ?_ | exact au0 | fail)
      rw [hge]
      (first | refine au ?_ | exact au0 | fail)
      rw [hge2]
      (first | refine au ?_ | exact au0 | fail)
      rw [hg]
      (first | refine au ?_ | exact au0 | fail)
      first | refine callF_eq (hr _) ?_ | refine callG_eq rfl (hr _) ?_
      (first | refine au ?_ | exact au0 | fail)
      exact nextN (by repeat (first | exact trivial | refine And.intro (Or.inl rfl) ?_ | refine And.intro (Or.inr (Exists.intro _ (And.intro rfl (Fz.refl _)))) ?_ | refine And.intro (Or.inr (Exists.intro _ (And.intro rfl (fz_eq (congrArg (AV.int _) (by omega)))))) ?_ | refine And.intro (Or.inr (Exists.intro _ (And.intro rfl (fz_eq (congrArg (AV.own _ _ _) (by (try dsimp only); (try simp only [List.length_append, List.length_map, List.length_cons, List.length_nil, List.length_take, List.length_set, List.length_replicate]); (try dsimp only); first | done | omega)))))) ?_)) (by exact sub_of) (by omega) trivial
    · by_cases k14 : k = 14
      · (first | refine au ?_ | exact au0 | fail)
        exact nextN (by repeat (first | exact trivial | refine And.intro (Or.inl rfl) ?_ | refine And.intro (Or.inr (Exists.intro _ (And.intro rfl (Fz.refl _)))) ?_ | refine And.intro (Or.inr (Exists.intro _ (And.intro rfl (fz_eq (congrArg (AV.int _) (by omega)))))) ?_ | refine And.intro (Or.inr (Exists.intro _ (And.intro rfl (fz_eq (congrArg (AV.own _ _ _) (by (try dsimp only); (try simp only [List.length_append, List.length_map, List.length_cons, List.length_nil, List.length_take, List.length_set, List.length_replicate]); (try dsimp only); first | done | omega)))))) ?_)) (by exact sub_of) (by omega) trivial
      · have hr := hr k14 hk11
        unfold pI at hr
        rw [if_neg (by omega)] at hr
        (first | refine au ?_ | exact au0 | fail)
        rw [hg]
        (first | refine au ?_ | exact au0 | fail)
        first | refine callF_eq (hr _) ?_ | refine callG_eq rfl (hr _) ?_
        (first | refine au ?_ | exact au0 | fail)
        exact nextN (by repeat (first | exact trivial | refine And.intro (Or.inl rfl) ?_ | refine And.intro (Or.inr (Exists.intro _ (And.intro rfl (Fz.refl _)))) ?_ | refine And.intro (Or.inr (Exists.intro _ (And.intro rfl (fz_eq (congrArg (AV.int _) (by omega)))))) ?_ | refine And.intro (Or.inr (Exists.intro _ (And.intro rfl (fz_eq (congrArg (AV.own _ _ _) (by (try dsimp only); (try simp only [List.length_append, List.length_map, List.length_cons, List.length_nil, List.length_take, List.length_set, List.length_replicate]); (try dsimp only); first | done | omega)))))) ?_)) (by exact sub_of) (by omega) trivial
  clear hrow hdv2 hdd hdt
  by_cases k12 : ¬ (k = 12 ∨ k = 13)
  · (first | refine au ?_ | exact au0 | fail)
    first | refine callF_eq (fit_awake_spec _) ?_ | refine callG_eq rfl (fit_awake_spec _) ?_
    (first | refine au ?_ | exact au0 | fail)
    exact fz_of
  have k12 := Classical.not_not.1 k12
  have hp := hpos k12
  have hvk : vOk (.mk k n x vs) := hok
  simp only [vOk] at hok
  have hless := fun H => hF (.mk k n x (vs.drop 1)) (by simp only [vOk]; exact ⟨hok.1, hok.2.1, by rw [List.length_drop]; omega, vOks_drop hks 1⟩) t H
  have hmore := fun H => hF (.mk k n x (vs ++ [vs[0]])) (by simp only [vOk]; exact ⟨hok.1, hok.2.1, by simp; omega, vOks_snoc hks (vOks_mem hks _ (List.getElem_mem hp))⟩) t H
  rw [fitR_of t0 t1 tc, fitE_len F k12 (by rw [List.length_drop]; omega)] at hless
  rw [fitR_of t0 t1 tc, fitE_len F k12 (by simp)] at hmore
  have hdr : List.drop (Int.toNat 1) (List.take (((vlRs vs).length : Nat) : Int).toNat (vlRs vs)) = vlRs (vs.drop 1) := by
    rw [Int.toNat_natCast, List.take_length, vlRs_map, vlRs_map, List.map_drop]; rfl
  have hg0 : (vlRs vs).getD (Int.toNat 0) [] = vlR vs[0] := vlRs_geti hp
  clear hF F hl12 hl13 hpos hm0 hG hvk
  generalize vs[0] = y at *
  obtain ⟨k0, n0, x0, vs0⟩ := y
  rcases k12 with k12 | k12
  · (first | refine au ?_ | exact au0 | fail)
    intro id9 hid9 ht9; have n9 := neAll_of hid9; (try simp only [neAll, neAll_hset] at n9); have m9 := n9; (repeat (obtain ⟨_, m9⟩ := m9))
    (first | refine au ?_ | exact au0 | fail)
    intro id10 hid10 ht10; have n10 := neAll_of hid10; (try simp only [neAll, neAll_hset] at n10); have m10 := n10; (repeat (obtain ⟨_, m10⟩ := m10))
    (first | refine au ?_ | exact au0 | fail)
    refine ⟨vlRs vs, by rfl, by rw [hkl]; omega, fun e => ?_, fun _ => ?_⟩
    · rw [e] at hkl
      simp only [List.length_nil] at hkl
      omega
    (first | refine au ?_ | exact au0 | fail)
    intro id11 hid11 ht11; have n11 := neAll_of hid11; (try simp only [neAll, neAll_hset] at n11); have m11 := n11; (repeat (obtain ⟨_, m11⟩ := m11))
    (first | refine au ?_ | exact au0 | fail)
    rw [hg0]
    (first | refine au ?_ | exact au0 | fail)
    refine ⟨vlRs vs, [vlR (.mk k0 n0 x0 vs0)], readS_all (by exact hg_of) rfl, by rfl, rfl, rfl, ht11, by rw [hkl]; simp only [List.length_cons, List.length_nil]; omega, ?_⟩
    intro id12 hid12 ht12; have n12 := neAll_of hid12; (try simp only [neAll, neAll_hset] at n12); have m12 := n12; (repeat (obtain ⟨_, m12⟩ := m12))
    (first | refine au ?_ | exact au0 | fail)
    rw [hdr]
    first | refine callF_eq (hless _) ?_ | refine callG_eq rfl (hless _) ?_
    (first | refine au ?_ | exact au0 | fail)
    refine callF_fz (r := .int .i64 18) (args' := [tysA l, .int .i64 t, vlA (Vl.mk k n x (vs ++ [Vl.mk k0 n0 x0 vs0]))]) (.cons (.refl _) (.cons (.refl _) (.cons ?_ (.nil _ _)))) rfl ((hmore []).mono fun r H' e => e.1) ?_
    · refine Fz.aggL (.cons (.refl _) (.cons (.refl _) (.cons (.refl _) (.cons ?_ (.nil _ _)))))
      show Fz _ _ (.own id12 4 0 ((vlRs vs).length + 1)) (.rows 4 (vlRs (vs ++ [.mk k0 n0 x0 vs0])))
      rw [show vlRs (vs ++ [.mk k0 n0 x0 vs0]) = vlRs vs ++ [vlR (.mk k0 n0 x0 vs0)] from by rw [vlRs_map, vlRs_map]; simp, show (vlRs vs).length + 1 = (vlRs vs ++ [vlR (.mk k0 n0 x0 vs0)]).length from by simp]
      refine Fz.ownL hget_self rfl (FzR.refl _ _ _) (fun r hr => ?_)
      rw [vlRs_map] at hr
      rcases List.mem_append.1 hr with hr | hr
      · obtain ⟨y, _, rfl⟩ := List.mem_map.1 hr
        exact vlR_len y
      · rw [List.mem_singleton.1 hr]; rfl
    (first | refine au ?_ | exact au0 | fail)
    first | refine callF_eq (fit_awake_spec _) ?_ | refine callG_eq rfl (fit_awake_spec _) ?_
    (first | refine au ?_ | exact au0 | fail)
    exact fz_of
  · (first | refine au ?_ | exact au0 | fail)
    intro id9 hid9 ht9; have n9 := neAll_of hid9; (try simp only [neAll, neAll_hset] at n9); have m9 := n9; (repeat (obtain ⟨_, m9⟩ := m9))
    (first | refine au ?_ | exact au0 | fail)
    intro id10 hid10 ht10; have n10 := neAll_of hid10; (try simp only [neAll, neAll_hset] at n10); have m10 := n10; (repeat (obtain ⟨_, m10⟩ := m10))
    (first | refine au ?_ | exact au0 | fail)
    refine ⟨vlRs vs, by rfl, by rw [hkl]; omega, fun e => ?_, fun _ => ?_⟩
    · rw [e] at hkl
      simp only [List.length_nil] at hkl
      omega
    (first | refine au ?_ | exact au0 | fail)
    intro id11 hid11 ht11; have n11 := neAll_of hid11; (try simp only [neAll, neAll_hset] at n11); have m11 := n11; (repeat (obtain ⟨_, m11⟩ := m11))
    (first | refine au ?_ | exact au0 | fail)
    rw [hg0]
    (first | refine au ?_ | exact au0 | fail)
    refine ⟨vlRs vs, [vlR (.mk k0 n0 x0 vs0)], readS_all (by exact hg_of) rfl, by rfl, rfl, rfl, ht11, by rw [hkl]; simp only [List.length_cons, List.length_nil]; omega, ?_⟩
    intro id12 hid12 ht12; have n12 := neAll_of hid12; (try simp only [neAll, neAll_hset] at n12); have m12 := n12; (repeat (obtain ⟨_, m12⟩ := m12))
    (first | refine au ?_ | exact au0 | fail)
    rw [hdr]
    first | refine callF_eq (hless _) ?_ | refine callG_eq rfl (hless _) ?_
    (first | refine au ?_ | exact au0 | fail)
    refine callF_fz (r := .int .i64 18) (args' := [tysA l, .int .i64 t, vlA (Vl.mk k n x (vs ++ [Vl.mk k0 n0 x0 vs0]))]) (.cons (.refl _) (.cons (.refl _) (.cons ?_ (.nil _ _)))) rfl ((hmore []).mono fun r H' e => e.1) ?_
    · refine Fz.aggL (.cons (.refl _) (.cons (.refl _) (.cons (.refl _) (.cons ?_ (.nil _ _)))))
      show Fz _ _ (.own id12 4 0 ((vlRs vs).length + 1)) (.rows 4 (vlRs (vs ++ [.mk k0 n0 x0 vs0])))
      rw [show vlRs (vs ++ [.mk k0 n0 x0 vs0]) = vlRs vs ++ [vlR (.mk k0 n0 x0 vs0)] from by rw [vlRs_map, vlRs_map]; simp, show (vlRs vs).length + 1 = (vlRs vs ++ [vlR (.mk k0 n0 x0 vs0)]).length from by simp]
      refine Fz.ownL hget_self rfl (FzR.refl _ _ _) (fun r hr => ?_)
      rw [vlRs_map] at hr
      rcases List.mem_append.1 hr with hr | hr
      · obtain ⟨y, _, rfl⟩ := List.mem_map.1 hr
        exact vlR_len y
      · rw [List.mem_singleton.1 hr]; rfl
    (first | refine au ?_ | exact au0 | fail)
    first | refine callF_eq (fit_awake_spec _) ?_ | refine callG_eq rfl (fit_awake_spec _) ?_
    (first | refine au ?_ | exact au0 | fail)
    exact fz_of
theorem FitsParts_row (a0 : AV) (h0 : ∃ n sh, shO true PG n ty_S_api_Type = some sh ∧ ArgOk false sh a0) (a1 : AV) (h1 : ∃ n sh, shO true PG n ty_int = some sh ∧ ArgOk false sh a1) (a2 : AV) (h2 : ∃ n sh, shO true PG n ty_api_Value = some sh ∧ ArgOk true sh a2) : ACalls PG broadsheetlaw09_FitsParts.n [a0, a1, a2] [] fun r _ => r = .bool true := by
  obtain ⟨l, q0, hl⟩ := types_arg h0
  obtain ⟨t, rfl, _⟩ := int_arg h1
  obtain ⟨v, q2, hv⟩ := value_arg h2
  exact (FitsParts_spec l hl t v hv).nw (.cons q0 (.cons (.refl _) (.cons q2 (.refl _))))
end Go.Proofs.Ytodiahhfpcdejaa
