/- Texts of this proof, one behind the other: BlankSpec2, BlankSpec3, BlankSpec4, BlankLaw. -/
import Derived.Test.YtodiahhfpcdejaaPkB6
/- The least value of a type, walked: the reference. -/
namespace Go.Proofs.Ytodiahhfpcdejaa
set_option autoImplicit false
set_option linter.unusedSimpArgs false
set_option linter.unusedVariables false
attribute [local irreducible] callA callP ACalls
theorem Blank_spec (l : List Ty) (hl : TysOk l) (t : Int) (H : AH) : ACalls PG fits_Blank.n [tysA l, .int .i64 t] H fun r H' => r = (if 0 ≤ t ∧ t < l.length ∧ (tyChk l).1 = 0 then blkA l t else .tup [vlA vl0, .bool false]) ∧ H' = H := by
  have hk := fun H => known_spec l hl t H
  have hf := fun h => blank_spec l hl (tyChk_v (l := l) h) (t.toNat + 1) t
  refine ACalls.fz (fits_Blank.of rfl (wpF_start ?_))
  by_cases c : 0 ≤ t ∧ t < l.length ∧ (tyChk l).1 = 0
  · rw [decide_eq_true c] at hk
    rw [if_pos c]
    have hf := hf c.2.2 (by omega) c.1 c.2.1
    unfold blkA at hf ⊢
    by_cases hb : bgr l t ≤ 2000
    · rw [if_pos hb] at hf ⊢
      obtain ⟨wk, wn, wx, wl, hw⟩ : ∃ wk wn wx wl, madeV l t = .mk wk wn wx wl := by
        cases h : madeV l t
        exact ⟨_, _, _, _, rfl⟩
      rw [hw] at hf ⊢
      (first | refine au ?_ | exact au0 | fail)
      intro id2 hid2 ht2; have n2 := neAll_of hid2; (try simp only [neAll, neAll_hset] at n2); have m2 := n2; (repeat (obtain ⟨_, m2⟩ := m2))
      (first | refine au ?_ | exact au0 | fail)
      first | refine callF_eq (hk _) ?_ | refine callG_eq rfl (hk _) ?_
      (first | refine au ?_ | exact au0 | fail)
      first | refine callF_eq (hf _) ?_ | refine callG_eq rfl (hf _) ?_
      (first | refine au ?_ | exact au0 | fail)
      exact ⟨fz_of, sub_of⟩
    · rw [if_neg hb] at hf ⊢
      (first | refine au ?_ | exact au0 | fail)
      intro id2 hid2 ht2; have n2 := neAll_of hid2; (try simp only [neAll, neAll_hset] at n2); have m2 := n2; (repeat (obtain ⟨_, m2⟩ := m2))
      (first | refine au ?_ | exact au0 | fail)
      first | refine callF_eq (hk _) ?_ | refine callG_eq rfl (hk _) ?_
      (first | refine au ?_ | exact au0 | fail)
      first | refine callF_eq (hf _) ?_ | refine callG_eq rfl (hf _) ?_
      (first | refine au ?_ | exact au0 | fail)
      exact ⟨fz_of, sub_of⟩
  · rw [decide_eq_false c] at hk
    rw [if_neg c]
    (first | refine au ?_ | exact au0 | fail)
    intro id2 hid2 ht2; have n2 := neAll_of hid2; (try simp only [neAll, neAll_hset] at n2); have m2 := n2; (repeat (obtain ⟨_, m2⟩ := m2))
    (first | refine au ?_ | exact au0 | fail)
    first | refine callF_eq (hk _) ?_ | refine callG_eq rfl (hk _) ?_
    (first | refine au ?_ | exact au0 | fail)
    exact ⟨fz_of, sub_of⟩
theorem nwLeaf (k : Int) (n : Nat) (t : List UInt8) : Nw (.agg [.int .i64 k, .int .u64 (n : Nat), .str t, .nilS]) (vlA (.mk k n t [])) := by
  have q : NwL [.int .i64 k, .int .u64 (n : Nat), .str t, .nilS] (vlR (.mk k n t [])) := .cons (.refl _) (.cons (.refl _) (.cons (.refl _) (.cons (.nil 4) (.refl _))))
  exact .agg _ _ q.1 q.2
theorem r9_start_spec (l : List Ty) (hl : TysOk l) (hv : TyV l) (t : Int) (h0 : 0 ≤ t) (h1 : t < l.length) (H : AH) : ACalls PG broadsheetref09_start.n [tysA l, .int .i64 t] H fun r H' => r = .agg [.int .i64 (tAt l t).kd, .int .u64 (bnum l (tAt l t) : Nat), .str [], .nilS] ∧ H' = H := by
  have hlen : (l.map tyR).length = l.length := by simp
  have hll := hl.len
  have hge := tAt_get h0 h1
  have hG := hv.tAt h0 h1
  have hi1 := hG.its1
  have hpt := hG.parts
  refine ACalls.fz (broadsheetref09_start.of rfl (wpF_start ?_))
  unfold bnum
  generalize tAt l t = g at *
  have hlen2 : (g.its.map itR).length = g.its.length := by simp
  by_cases c9 : g.kd = 9
  · have hi0 := hi1 (by simp [kNm, c9])
    have hge2 := row_get (f := itR) hi0
    rw [if_pos c9, getD_get hi0]
    generalize g.its[0] = y at *
    (first | refine au ?_ | exact au0 | fail)
    intro id2 hid2 ht2; have n2 := neAll_of hid2; (try simp only [neAll, neAll_hset] at n2); have m2 := n2; (repeat (obtain ⟨_, m2⟩ := m2))
    (first | refine au ?_ | exact au0 | fail)
    rw [hge]
    (first | refine au ?_ | exact au0 | fail)
    intro id4 hid4 ht4; have n4 := neAll_of hid4; (try simp only [neAll, neAll_hset] at n4); have m4 := n4; (repeat (obtain ⟨_, m4⟩ := m4))
    (first | refine au ?_ | exact au0 | fail)
    intro id5 hid5 ht5; have n5 := neAll_of hid5; (try simp only [neAll, neAll_hset] at n5); have m5 := n5; (repeat (obtain ⟨_, m5⟩ := m5))
    (first | refine au ?_ | exact au0 | fail)
    rw [show (List.map itR g.its).getD (Int.toNat 0) [] = itR y from hge2]
    (first | refine au ?_ | exact au0 | fail)
    exact ⟨fz_of, sub_of⟩
  · rw [if_neg c9]
    by_cases c14 : g.kd = 14
    · have htg := hpt _ (parts_tag c14)
      have hge3 := tAt_get (l := l) (t := g.tg) htg.1 (by omega)
      have hGt := hv.tAt (t := g.tg) htg.1 (by omega)
      have hit := hGt.its1
      generalize tAt l g.tg = gt at *
      have hlen3 : (gt.its.map itR).length = gt.its.length := by simp
      by_cases q9 : gt.kd = 9
      · have hi0 := hit (by simp [kNm, q9])
        have hge4 := row_get (f := itR) hi0
        rw [if_pos ⟨c14, q9⟩, getD_get hi0]
        generalize gt.its[0] = y at *
        (first | refine au ?_ | exact au0 | fail)
        intro id2 hid2 ht2; have n2 := neAll_of hid2; (try simp only [neAll, neAll_hset] at n2); have m2 := n2; (repeat (obtain ⟨_, m2⟩ := m2))
        (first | refine au ?_ | exact au0 | fail)
        rw [hge]
        (first | refine au ?_ | exact au0 | fail)
        intro id4 hid4 ht4; have n4 := neAll_of hid4; (try simp only [neAll, neAll_hset] at n4); have m4 := n4; (repeat (obtain ⟨_, m4⟩ := m4))
        (first | refine au ?_ | exact au0 | fail)
        intro id5 hid5 ht5; have n5 := neAll_of hid5; (try simp only [neAll, neAll_hset] at n5); have m5 := n5; (repeat (obtain ⟨_, m5⟩ := m5))
        (first | refine au ?_ | exact au0 | fail)
        rw [hge3]
        (first | refine au ?_ | exact au0 | fail)
        rw [hge3]
        (first | refine au ?_ | exact au0 | fail)
        rw [show (List.map itR gt.its).getD (Int.toNat 0) [] = itR y from hge4]
        (first | refine au ?_ | exact au0 | fail)
        exact ⟨fz_of, sub_of⟩
      · rw [if_neg (fun q => q9 q.2)]
        (first | refine au ?_ | exact au0 | fail)
        intro id2 hid2 ht2; have n2 := neAll_of hid2; (try simp only [neAll, neAll_hset] at n2); have m2 := n2; (repeat (obtain ⟨_, m2⟩ := m2))
        (first | refine au ?_ | exact au0 | fail)
        rw [hge]
        (first | refine au ?_ | exact au0 | fail)
        intro id4 hid4 ht4; have n4 := neAll_of hid4; (try simp only [neAll, neAll_hset] at n4); have m4 := n4; (repeat (obtain ⟨_, m4⟩ := m4))
        (first | refine au ?_ | exact au0 | fail)
        intro id5 hid5 ht5; have n5 := neAll_of hid5; (try simp only [neAll, neAll_hset] at n5); have m5 := n5; (repeat (obtain ⟨_, m5⟩ := m5))
        (first | refine au ?_ | exact au0 | fail)
        rw [hge3]
        (first | refine au ?_ | exact au0 | fail)
        exact ⟨fz_of, sub_of⟩
    · rw [if_neg (fun q => c14 q.1)]
      (first | refine au ?_ | exact au0 | fail)
      intro id2 hid2 ht2; have n2 := neAll_of hid2; (try simp only [neAll, neAll_hset] at n2); have m2 := n2; (repeat (obtain ⟨_, m2⟩ := m2))
      (first | refine au ?_ | exact au0 | fail)
      rw [hge]
      (first | refine au ?_ | exact au0 | fail)
      intro id4 hid4 ht4; have n4 := neAll_of hid4; (try simp only [neAll, neAll_hset] at n4); have m4 := n4; (repeat (obtain ⟨_, m4⟩ := m4))
      (first | refine au ?_ | exact au0 | fail)
      intro id5 hid5 ht5; have n5 := neAll_of hid5; (try simp only [neAll, neAll_hset] at n5); have m5 := n5; (repeat (obtain ⟨_, m5⟩ := m5))
      (first | refine au ?_ | exact au0 | fail)
      exact ⟨fz_of, sub_of⟩
theorem bps_bd {l : List Ty} (hv : TyV l) {t : Int} (h0 : 0 ≤ t) (h1 : t < l.length) : (tAt l t).bd ≤ 1000 := by
  have hG := hv.tAt h0 h1
  cases hB : kBd (tAt l t).kd
  · have := hG.bd0 hB; omega
  · have := hG.bd hB; omega
theorem r9_bparts_spec (l : List Ty) (hl : TysOk l) (hv : TyV l) (t : Int) (h0 : 0 ≤ t) (h1 : t < l.length) (hn : bnum l (tAt l t) < 18446744073709551616) (H : AH) : ACalls PG broadsheetref09_Parts.n [tysA l, .int .i64 t, .agg [.int .i64 (tAt l t).kd, .int .u64 (bnum l (tAt l t) : Nat), .str [], .nilS]] H fun r H' => (∃ b, r = .tup [.rows 1 ((bps l t).map inR), .bool b]) ∧ H' = H :=
  ((r9_Parts_spec l hl t h0 h1 (bps_bd hv h0 h1) (.mk (tAt l t).kd (bnum l (tAt l t)) [] []) (by simp only [vOk]; exact ⟨hn, by simp, by simp, trivial⟩) H).mono fun r H' ⟨e, e2⟩ => ⟨⟨_, e⟩, e2⟩).nw (.cons (.refl _) (.cons (.refl _) (.cons (nwLeaf _ _ _) (.refl _))))
theorem tAt_num {l : List Ty} (hl : TysOk l) (u : Int) : ∀ x ∈ (tAt l u).its, x.num < 18446744073709551616 := by
  unfold Go.Proofs.Ytodiahhfpcdejaa.tAt
  by_cases h : u.toNat < l.length
  · rw [getD_get h]; exact (hl.all _ (List.getElem_mem h)).nums
  · rw [show l.getD u.toNat ty0 = ty0 from by simp [List.getD, h]]; simp
theorem bnum_lt {l : List Ty} (hl : TysOk l) {t : Int} (h0 : 0 ≤ t) (h1 : t < l.length) : bnum l (tAt l t) < 18446744073709551616 := by
  have key : ∀ g : Ty, (∀ x ∈ g.its, x.num < 18446744073709551616) → (g.its.getD 0 it0).num < 18446744073709551616 := fun g hg => by
    by_cases h : 0 < g.its.length
    · rw [getD_get h]; exact hg _ (List.getElem_mem h)
    · rw [List.eq_nil_of_length_eq_zero (show g.its.length = 0 by omega)]; simp
  unfold bnum
  split
  · exact key _ (hl.all _ (tAt_mem h0 h1)).nums
  · split
    · exact key _ (tAt_num hl _)
    · omega
end Go.Proofs.Ytodiahhfpcdejaa

/- The least value of a type, walked: the reference's table and value. -/
namespace Go.Proofs.Ytodiahhfpcdejaa
set_option autoImplicit false
set_option linter.unusedSimpArgs false
set_option linter.unusedVariables false
attribute [local irreducible] callA callP ACalls
theorem made_spec0 (l : List Ty) (hl : TysOk l) (hv : TyV l) (t : Int) (h0 : 0 ≤ t) (h1 : t < l.length) (ih : ∀ p ∈ bps l t, ∀ H, ACalls PG broadsheetref09_made.n [tysA l, .int .i64 p] H fun r H' => r = vlA (madeV l p) ∧ H' = H) : ACalls PG broadsheetref09_made.n [tysA l, .int .i64 t] [] fun r _ => r = vlA (madeV l t) := by
  have hs := fun H => r9_start_spec l hl hv t h0 h1 H
  have hp := fun H => r9_bparts_spec l hl hv t h0 h1 (bnum_lt hl h0 h1) H
  have hlen64 := bps_len hv hv.its h0 h1
  have hmv := madeV_eq hv h0 h1
  rw [hmv]
  generalize bnum l (tAt l t) = n at *
  generalize tAt l t = g at *
  generalize bps l t = ps at *
  refine ACalls.fzK (broadsheetref09_made.of rfl (wpF_start ?_))
  (first | refine au ?_ | exact au0 | fail)
  intro id3 hid3 ht3; have n3 := neAll_of hid3; (try simp only [neAll, neAll_hset] at n3); have m3 := n3; (repeat (obtain ⟨_, m3⟩ := m3))
  (first | refine au ?_ | exact au0 | fail)
  first | refine callF_eq (hs _) ?_ | refine callG_eq rfl (hs _) ?_
  (first | refine au ?_ | exact au0 | fail)
  intro id4 hid4 ht4; have n4 := neAll_of hid4; (try simp only [neAll, neAll_hset] at n4); have m4 := n4; (repeat (obtain ⟨_, m4⟩ := m4))
  (first | refine au ?_ | exact au0 | fail)
  refine callF_of ((hp _).mono fun rr H2 hh => ?_)
  obtain ⟨⟨b, rfl⟩, rfl⟩ := hh
  have hpl : (ps.map inR).length = ps.length := by simp
  (first | refine au ?_ | exact au0 | fail)
  refine loopM (S := Nat × Option Nat) [(0, some _), (4, some _), (5, some _), (6, some _)] (fun s => [(8, some (.int .i64 (s.1 : Nat)))]) (fun s => accH s.2 4 ((ps.take s.1).map fun p => vlR (madeV l p)) [(id4, .rows 4 [[.int .i64 g.kd, .int .u64 (n : Nat), .str [], accV s.2 4 s.1]]), (id3, .rows 4 [[.int .i64 0, .int .u64 0, .str [], .nilS]])]) (fun s => ps.length - s.1) (fun s => s.1 ≤ ps.length ∧ (s.2 = none → s.1 = 0) ∧ ∀ id, s.2 = some id → tag id = ty_api_Value ∧ id ≠ id4 ∧ id ≠ id3) (0, none) (by repeat (first | exact trivial | refine And.intro (Or.inl rfl) ?_ | refine And.intro (Or.inr (Exists.intro _ (And.intro rfl (Fz.refl _)))) ?_ | refine And.intro (Or.inr (Exists.intro _ (And.intro rfl (fz_eq (congrArg (AV.int _) (by omega)))))) ?_ | refine And.intro (Or.inr (Exists.intro _ (And.intro rfl (fz_eq (congrArg (AV.own _ _ _) (by (try dsimp only); (try simp only [List.length_append, List.length_map, List.length_cons, List.length_nil, List.length_take, List.length_set, List.length_replicate]); (try dsimp only); first | done | omega)))))) ?_)) (Sub.refl _) ⟨Nat.zero_le _, fun _ => rfl, fun id q => by cases q⟩ (fun ⟨i, o⟩ hs => ?_)
  dsimp only at hs
  obtain ⟨hi, ho1, ho2⟩ := hs
  rcases o with _ | ida
  · have hi0 := ho1 rfl
    dsimp only [accH, accV]
    (first | refine au ?_ | exact au0 | fail)
    refine bsplit_dec (fun cc => ?_) (fun cc => ?_)
    · have hil : i < ps.length := by omega
      have hgp := row_get (f := inR) hil
      have hmem := List.getElem_mem hil
      have hc := ih _ hmem
      have htm := take_map_succ (fun p => vlR (madeV l p)) ps i hil
      obtain ⟨wk, wn, wx, wl, hw⟩ : ∃ wk wn wx wl, madeV l ps[i] = .mk wk wn wx wl := by
        cases h : madeV l ps[i]
        exact ⟨_, _, _, _, rfl⟩
      rw [hw] at hc htm
      generalize ps[i] = p at *
      (first | refine au ?_ | exact au0 | fail)
      rw [hgp]
      (first | refine au ?_ | exact au0 | fail)
      refine callG_no (vlA_no _) (hc _) ?_
      (first | refine au ?_ | exact au0 | fail)
      refine ⟨_, rfl, (Nat.le_of_ble_eq_true rfl), (fun q => by cases q), fun _ => ?_⟩
      intro id78 hid78 ht78; have n78 := neAll_of hid78; (try simp only [neAll, neAll_hset] at n78); have m78 := n78; (repeat (obtain ⟨_, m78⟩ := m78))
      (first | refine au ?_ | exact au0 | fail)
      refine nextS (S := Nat × Option Nat) (i + 1, some id78) (by repeat (first | exact trivial | refine And.intro (Or.inl rfl) ?_ | refine And.intro (Or.inr (Exists.intro _ (And.intro rfl (Fz.refl _)))) ?_ | refine And.intro (Or.inr (Exists.intro _ (And.intro rfl (fz_eq (congrArg (AV.int _) (by omega)))))) ?_ | refine And.intro (Or.inr (Exists.intro _ (And.intro rfl (fz_eq (congrArg (AV.own _ _ _) (by (try dsimp only); (try simp only [List.length_append, List.length_map, List.length_cons, List.length_nil, List.length_take, List.length_set, List.length_replicate]); (try dsimp only); first | done | omega)))))) ?_)) (by (try dsimp only [accH, accV]); rw [htm]; rw [hi0, List.take_zero, List.map_nil, List.nil_append]; exact sub_of) (by first | omega | (dsimp only; omega)) ⟨hil, (fun q => by cases q), fun j q => by cases q; exact ⟨ht78, by omega, by omega⟩⟩
    · have e0 : ps = [] := List.eq_nil_of_length_eq_zero (by omega)
      rw [e0]
      (first | refine au ?_ | exact au0 | fail)
      exact fz_of
  · obtain ⟨hti, hd4, hd3⟩ := ho2 ida rfl
    dsimp only [accH, accV]
    (first | refine au ?_ | exact au0 | fail)
    refine bsplit_dec (fun cc => ?_) (fun cc => ?_)
    · have hil : i < ps.length := by omega
      have hgp := row_get (f := inR) hil
      have hmem := List.getElem_mem hil
      have hc := ih _ hmem
      have htm := take_map_succ (fun p => vlR (madeV l p)) ps i hil
      obtain ⟨wk, wn, wx, wl, hw⟩ : ∃ wk wn wx wl, madeV l ps[i] = .mk wk wn wx wl := by
        cases h : madeV l ps[i]
        exact ⟨_, _, _, _, rfl⟩
      rw [hw] at hc htm
      generalize ps[i] = p at *
      (first | refine au ?_ | exact au0 | fail)
      rw [hgp]
      (first | refine au ?_ | exact au0 | fail)
      refine callG_no (vlA_no _) (hc _) ?_
      (first | refine au ?_ | exact au0 | fail)
      refine ⟨_, _, readS_all (by exact hg_of) (by ((try dsimp only); (try simp only [List.length_append, List.length_map, List.length_cons, List.length_nil, List.length_take, List.length_set, List.length_replicate]); (try dsimp only); first | done | omega)), rfl, rfl, rfl, (hti), (by ((try dsimp only); (try simp only [List.length_append, List.length_map, List.length_cons, List.length_nil, List.length_take, List.length_set, List.length_replicate]); (try dsimp only); first | done | omega)), ?_⟩
      intro id78 hid78 ht78; have n78 := neAll_of hid78; (try simp only [neAll, neAll_hset] at n78); have m78 := n78; (repeat (obtain ⟨_, m78⟩ := m78))
      (first | refine au ?_ | exact au0 | fail)
      refine nextS (S := Nat × Option Nat) (i + 1, some id78) (by repeat (first | exact trivial | refine And.intro (Or.inl rfl) ?_ | refine And.intro (Or.inr (Exists.intro _ (And.intro rfl (Fz.refl _)))) ?_ | refine And.intro (Or.inr (Exists.intro _ (And.intro rfl (fz_eq (congrArg (AV.int _) (by omega)))))) ?_ | refine And.intro (Or.inr (Exists.intro _ (And.intro rfl (fz_eq (congrArg (AV.own _ _ _) (by (try dsimp only); (try simp only [List.length_append, List.length_map, List.length_cons, List.length_nil, List.length_take, List.length_set, List.length_replicate]); (try dsimp only); first | done | omega)))))) ?_)) (by (try dsimp only [accH, accV]); rw [htm]; rw [show ((ps.take i).map fun p => vlR (madeV l p)).length = i from by rw [List.length_map, List.length_take]; omega]; simp only [hdel, hset, hd4, hd4.symm, hd3, hd3.symm, if_true, if_false]; exact sub_of) (by first | omega | (dsimp only; omega)) ⟨hil, (fun q => by cases q), fun j q => by cases q; exact ⟨ht78, by omega, by omega⟩⟩
    · have e : i = ps.length := by omega
      (first | refine au ?_ | exact au0 | fail)
      refine Fz.aggL (FzL.cons (.refl _) (FzL.cons (.refl _) (FzL.cons (.refl _) (FzL.cons ?_ (FzL.nil _ _)))))
      rw [vlRs_map, List.map_map]
      rw [e, List.take_length]
      exact accFz (o := some ida) (n := ps.length) (l := ps.map fun p => vlR (madeV l p)) (by rw [List.length_map]) (fun q => by cases q) (fun _ _ => rfl) (FzR.refl _ _ _) (map_w (f := fun p => vlR (madeV l p)) (fun p => vlR_len _) _)
end Go.Proofs.Ytodiahhfpcdejaa

/- The least value of a type, walked: the reference's table; all. -/
namespace Go.Proofs.Ytodiahhfpcdejaa
set_option autoImplicit false
set_option linter.unusedSimpArgs false
set_option linter.unusedVariables false
attribute [local irreducible] callA callP ACalls
/-- How great, as far as it matters. -/
def cg (l : List Ty) (t : Int) : Nat := if bgr l t ≤ 2000 then bgr l t else 3000
theorem cg_sum (l : List Ty) : ∀ ps : List Int, ((ps.map (cg l)).sum ≤ 2000 → (ps.map (cg l)).sum = (ps.map (bgr l)).sum) ∧ (2000 < (ps.map (cg l)).sum → 2000 < (ps.map (bgr l)).sum)
  | [] => by simp
  | p :: ps => by
    obtain ⟨h1, h2⟩ := cg_sum l ps
    have hc : cg l p = bgr l p ∧ bgr l p ≤ 2000 ∨ cg l p = 3000 ∧ 2000 < bgr l p := by
      unfold cg; split <;> rename_i q
      · exact .inl ⟨rfl, q⟩
      · exact .inr ⟨rfl, by omega⟩
    simp only [List.map_cons, List.sum_cons]
    rcases hc with ⟨hc, hb⟩ | ⟨hc, hb⟩ <;> rw [hc] <;> omega
theorem cg_eq {l : List Ty} (hv : TyV l) {t : Int} (h0 : 0 ≤ t) (h1 : t < l.length) : cg l t = if 2000 < 1 + ((bps l t).map (cg l)).sum then 3000 else 1 + ((bps l t).map (cg l)).sum := by
  have hb := bgr_eq hv h0 h1
  obtain ⟨h2, h3⟩ := cg_sum l (bps l t)
  unfold cg at *
  split <;> split <;> omega
theorem cg_le (l : List Ty) (t : Int) : cg l t ≤ 3000 := by unfold cg; split <;> omega
theorem cg_sum_le (l : List Ty) : ∀ (ps : List Int), (ps.map (cg l)).sum ≤ 3000 * ps.length
  | [] => by simp
  | p :: ps => by have := cg_sum_le l ps; have := cg_le l p; simp only [List.map_cons, List.sum_cons, List.length_cons]; omega
/-- The table's rows. -/
def cgR (l : List Ty) (i : Nat) : List (List AV) := (List.range i).map fun k => [.int .i64 (cg l (k : Nat) : Nat)]
theorem cgR_succ (l : List Ty) (i : Nat) : cgR l (i + 1) = cgR l i ++ [[.int .i64 (cg l (i : Nat) : Nat)]] := by
  unfold cgR; rw [List.range_succ, List.map_append]; rfl
theorem cgR_len (l : List Ty) (i : Nat) : (cgR l i).length = i := by simp [cgR]
theorem cgR_get (l : List Ty) {i p : Nat} (h : p < i) : (cgR l i)[p]? = some [.int .i64 (cg l (p : Nat) : Nat)] := by
  unfold cgR; rw [List.getElem?_map, List.getElem?_range h]; rfl
theorem great_spec0 (l : List Ty) (hl : TysOk l) (hv : TyV l) (t : Nat) (h1 : t < l.length) : ACalls PG broadsheetref09_great.n [tysA l, .int .i64 (t : Nat)] [] fun r _ => r = .rows 1 (cgR l (t + 1)) := by
  have hll := hl.len
  refine ACalls.fzK (broadsheetref09_great.of rfl (wpF_start ?_))
  (first | refine au ?_ | exact au0 | fail)
  refine loopM (S := Nat × Option Nat) [(0, some _), (1, some _)] (fun s => [(5, some (accV s.2 1 s.1)), (6, some (.int .i64 (s.1 : Nat)))]) (fun s => accH s.2 1 (cgR l s.1) []) (fun s => t + 1 - s.1) (fun s => s.1 ≤ t + 1 ∧ (s.2 = none → s.1 = 0) ∧ ∀ id, s.2 = some id → tag id = ty_int) (0, none) (by repeat (first | exact trivial | refine And.intro (Or.inl rfl) ?_ | refine And.intro (Or.inr (Exists.intro _ (And.intro rfl (Fz.refl _)))) ?_ | refine And.intro (Or.inr (Exists.intro _ (And.intro rfl (fz_eq (congrArg (AV.int _) (by omega)))))) ?_ | refine And.intro (Or.inr (Exists.intro _ (And.intro rfl (fz_eq (congrArg (AV.own _ _ _) (by (try dsimp only); (try simp only [List.length_append, List.length_map, List.length_cons, List.length_nil, List.length_take, List.length_set, List.length_replicate]); (try dsimp only); first | done | omega)))))) ?_)) (Sub.refl _) ⟨Nat.zero_le _, fun _ => rfl, fun id q => by cases q⟩ (fun ⟨i, o⟩ hs => ?_)
  dsimp only at hs
  obtain ⟨hi, ho1, ho2⟩ := hs
  have hcl := cgR_len l i
  have h32 := hv.len
  (first | refine au ?_ | exact au0 | fail)
  refine bsplit_dec (fun cc => ?_) (fun cc => ?_)
  · have hil : i < l.length := by omega
    have hsi := fun H => r9_start_spec l hl hv i (by omega) (by omega) H
    have hp := fun H => r9_bparts_spec l hl hv i (by omega) (by omega) (bnum_lt hl (by omega) (by omega)) H
    have hpi := bps_in hv (t := (i : Nat)) (by omega) (by omega)
    have h64 := bps_len hv hv.its (t := (i : Nat)) (by omega) (by omega)
    have hce := cg_eq hv (t := (i : Nat)) (by omega) (by omega)
    have hsm := cg_sum_le l (bps l (i : Nat))
    generalize bps l (i : Nat) = ps at *
    have hpl : (ps.map inR).length = ps.length := by simp
    (first | refine au ?_ | exact au0 | fail)
    first | refine callF_eq (hsi _) ?_ | refine callG_eq rfl (hsi _) ?_
    (first | refine au ?_ | exact au0 | fail)
    refine callF_of ((hp _).mono fun rr H2 hh => ?_)
    obtain ⟨⟨b, rfl⟩, rfl⟩ := hh
    clear hsi hp hll
    rcases o with _ | ida
    · have hi0 := ho1 rfl
      subst hi0
      have e0 : ps = [] := by
        cases ps with
        | nil => rfl
        | cons p ps => have := hpi p List.mem_cons_self; omega
      subst e0
      dsimp only [accH, accV]
      (first | refine au ?_ | exact au0 | fail)
      refine loopL [(0, some _), (1, some _), (5, some _), (6, some _), (7, some _), (8, some _)] 10 0 0 (fun _ => True) (by repeat (first | exact trivial | refine And.intro (Or.inl rfl) ?_ | refine And.intro (Or.inr (Exists.intro _ (And.intro rfl (Fz.refl _)))) ?_ | refine And.intro (Or.inr (Exists.intro _ (And.intro rfl (fz_eq (congrArg (AV.int _) (by omega)))))) ?_ | refine And.intro (Or.inr (Exists.intro _ (And.intro rfl (fz_eq (congrArg (AV.own _ _ _) (by (try dsimp only); (try simp only [List.length_append, List.length_map, List.length_cons, List.length_nil, List.length_take, List.length_set, List.length_replicate]); (try dsimp only); first | done | omega)))))) ?_)) (Nat.zero_le _) trivial (fun k hk _ => ?_)
      obtain rfl : k = 0 := by omega
      (first | refine au ?_ | exact au0 | fail)
      refine ⟨_, rfl, (Nat.le_of_ble_eq_true rfl), (fun q => by cases q), fun _ => ?_⟩
      intro id78 hid78 ht78; have n78 := neAll_of hid78; (try simp only [neAll, neAll_hset] at n78); have m78 := n78; (repeat (obtain ⟨_, m78⟩ := m78))
      (first | refine au ?_ | exact au0 | fail)
      have hc1 : cg l (0 : Nat) = 1 := by rw [hce]; simp
      refine nextS (S := Nat × Option Nat) (1, some id78) (by repeat (first | exact trivial | refine And.intro (Or.inl rfl) ?_ | refine And.intro (Or.inr (Exists.intro _ (And.intro rfl (Fz.refl _)))) ?_ | refine And.intro (Or.inr (Exists.intro _ (And.intro rfl (fz_eq (congrArg (AV.int _) (by omega)))))) ?_ | refine And.intro (Or.inr (Exists.intro _ (And.intro rfl (fz_eq (congrArg (AV.own _ _ _) (by (try dsimp only); (try simp only [List.length_append, List.length_map, List.length_cons, List.length_nil, List.length_take, List.length_set, List.length_replicate]); (try dsimp only); first | done | omega)))))) ?_)) (by (try dsimp only [accH]); rw [show cgR l 1 = cgR l 0 ++ _ from cgR_succ l 0, hc1]; exact sub_of) (by first | omega | (dsimp only; omega)) ⟨by show 1 ≤ t + 1; omega, (fun q => by cases q), fun j q => by cases q; exact ht78⟩
    · have hti := ho2 ida rfl
      dsimp only [accH, accV]
      (first | refine au ?_ | exact au0 | fail)
      refine loopM (S := Nat) [(0, some _), (1, some _), (5, some _), (6, some _), (8, some _)] (fun k => [(7, some (.int .i64 (1 + ((ps.take k).map (cg l)).sum : Nat))), (10, some (.int .i64 (k : Nat)))]) (fun _ => [(ida, .rows 1 (cgR l i))]) (fun k => ps.length - k) (fun k => k ≤ ps.length) 0 (by repeat (first | exact trivial | refine And.intro (Or.inl rfl) ?_ | refine And.intro (Or.inr (Exists.intro _ (And.intro rfl (Fz.refl _)))) ?_ | refine And.intro (Or.inr (Exists.intro _ (And.intro rfl (fz_eq (congrArg (AV.int _) (by omega)))))) ?_ | refine And.intro (Or.inr (Exists.intro _ (And.intro rfl (fz_eq (congrArg (AV.own _ _ _) (by (try dsimp only); (try simp only [List.length_append, List.length_map, List.length_cons, List.length_nil, List.length_take, List.length_set, List.length_replicate]); (try dsimp only); first | done | omega)))))) ?_)) (Sub.refl _) (Nat.zero_le _) (fun k hk => ?_)
      have hst := sum_take_le (cg l) ps k
      (first | refine au ?_ | exact au0 | fail)
      refine bsplit_dec (fun c2 => ?_) (fun c2 => ?_)
      · have hkl : k < ps.length := by omega
        have hgp := row_get (f := inR) hkl
        have hss := sum_take_succ (cg l) ps k hkl
        have hst2 := sum_take_le (cg l) ps (k + 1)
        have hp1 := hpi _ (List.getElem_mem hkl)
        generalize ps[k] = p at *
        obtain ⟨q, rfl⟩ : ∃ q : Nat, p = q := ⟨p.toNat, by omega⟩
        (first | refine au ?_ | exact au0 | fail)
        rw [hgp]
        (first | refine au ?_ | exact au0 | fail)
        refine ⟨_, _, (by exact hg_of), (by rw [Nat.zero_add, Int.toNat_natCast]; exact cgR_get l (by omega)), ?_⟩
        (first | refine au ?_ | exact au0 | fail)
        refine nextS ((k + 1 : Nat)) (by (try dsimp only); rw [ hss, ← Nat.add_assoc, Int.natCast_add (1 + ((ps.take k).map (cg l)).sum)]; repeat (first | exact trivial | refine And.intro (Or.inl rfl) ?_ | refine And.intro (Or.inr (Exists.intro _ (And.intro rfl (Fz.refl _)))) ?_ | refine And.intro (Or.inr (Exists.intro _ (And.intro rfl (fz_eq (congrArg (AV.int _) (by omega)))))) ?_ | refine And.intro (Or.inr (Exists.intro _ (And.intro rfl (fz_eq (congrArg (AV.own _ _ _) (by (try dsimp only); (try simp only [List.length_append, List.length_map, List.length_cons, List.length_nil, List.length_take, List.length_set, List.length_replicate]); (try dsimp only); first | done | omega)))))) ?_)) (by exact sub_of) (by first | omega | (dsimp only; omega)) ?_; (try dsimp only)
        exact hkl
      · have e : k = ps.length := by omega
        rw [e, List.take_length] at *
        (first | refine au ?_ | exact au0 | fail)
        refine bsplit_dec (fun c3 => ?_) (fun c3 => ?_)
        · rw [if_pos (by omega)] at hce
          (first | refine au ?_ | exact au0 | fail)
          refine ⟨_, _, readS_all (by exact hg_of) (by ((try dsimp only); (try simp only [List.length_append, List.length_map, List.length_cons, List.length_nil, List.length_take, List.length_set, List.length_replicate]); (try dsimp only); first | done | omega)), rfl, rfl, rfl, (hti), (by ((try dsimp only); (try simp only [List.length_append, List.length_map, List.length_cons, List.length_nil, List.length_take, List.length_set, List.length_replicate]); (try dsimp only); first | done | omega)), ?_⟩
          intro id78 hid78 ht78; have n78 := neAll_of hid78; (try simp only [neAll, neAll_hset] at n78); have m78 := n78; (repeat (obtain ⟨_, m78⟩ := m78))
          (first | refine au ?_ | exact au0 | fail)
          refine nextS (S := Nat × Option Nat) (i + 1, some id78) (by repeat (first | exact trivial | refine And.intro (Or.inl rfl) ?_ | refine And.intro (Or.inr (Exists.intro _ (And.intro rfl (Fz.refl _)))) ?_ | refine And.intro (Or.inr (Exists.intro _ (And.intro rfl (fz_eq (congrArg (AV.int _) (by omega)))))) ?_ | refine And.intro (Or.inr (Exists.intro _ (And.intro rfl (fz_eq (congrArg (AV.own _ _ _) (by (try dsimp only); (try simp only [List.length_append, List.length_map, List.length_cons, List.length_nil, List.length_take, List.length_set, List.length_replicate]); (try dsimp only); first | done | omega)))))) ?_)) (by (try dsimp only [accH]); rw [cgR_succ, hce]; exact sub_of) (by first | omega | (dsimp only; omega)) ⟨by show i + 1 ≤ t + 1; omega, (fun q => by cases q), fun j q => by cases q; exact ht78⟩
        · rw [if_neg (by omega)] at hce
          (first | refine au ?_ | exact au0 | fail)
          refine ⟨_, _, readS_all (by exact hg_of) (by ((try dsimp only); (try simp only [List.length_append, List.length_map, List.length_cons, List.length_nil, List.length_take, List.length_set, List.length_replicate]); (try dsimp only); first | done | omega)), rfl, rfl, rfl, (hti), (by ((try dsimp only); (try simp only [List.length_append, List.length_map, List.length_cons, List.length_nil, List.length_take, List.length_set, List.length_replicate]); (try dsimp only); first | done | omega)), ?_⟩
          intro id78 hid78 ht78; have n78 := neAll_of hid78; (try simp only [neAll, neAll_hset] at n78); have m78 := n78; (repeat (obtain ⟨_, m78⟩ := m78))
          (first | refine au ?_ | exact au0 | fail)
          refine nextS (S := Nat × Option Nat) (i + 1, some id78) (by repeat (first | exact trivial | refine And.intro (Or.inl rfl) ?_ | refine And.intro (Or.inr (Exists.intro _ (And.intro rfl (Fz.refl _)))) ?_ | refine And.intro (Or.inr (Exists.intro _ (And.intro rfl (fz_eq (congrArg (AV.int _) (by omega)))))) ?_ | refine And.intro (Or.inr (Exists.intro _ (And.intro rfl (fz_eq (congrArg (AV.own _ _ _) (by (try dsimp only); (try simp only [List.length_append, List.length_map, List.length_cons, List.length_nil, List.length_take, List.length_set, List.length_replicate]); (try dsimp only); first | done | omega)))))) ?_)) (by (try dsimp only [accH]); rw [cgR_succ, hce]; exact sub_of) (by first | omega | (dsimp only; omega)) ⟨by show i + 1 ≤ t + 1; omega, (fun q => by cases q), fun j q => by cases q; exact ht78⟩
  · have e : i = t + 1 := by omega
    rcases o with _ | ida
    · have := ho1 rfl; omega
    · (first | refine au ?_ | exact au0 | fail)
      rw [e]
      exact accFz (o := some ida) (n := t + 1) (H := []) (by rw [cgR_len]) (fun q => by cases q) (fun _ _ => rfl) (FzR.refl _ _ _) (map_w (f := fun k : Nat => [AV.int .i64 (cg l (k : Nat) : Nat)]) (fun _ => rfl) _)
theorem made_spec (l : List Ty) (hl : TysOk l) (hv : TyV l) : ∀ (m : Nat) (t : Int), t < m → 0 ≤ t → t < l.length → ∀ H, ACalls PG broadsheetref09_made.n [tysA l, .int .i64 t] H fun r H' => r = vlA (madeV l t) ∧ H' = H
  | 0, t, h, h0, _, _ => by omega
  | m + 1, t, hm, h0, h1, H => (made_spec0 l hl hv t h0 h1 fun p hp H => by
    have := bps_in hv h0 h1 p hp
    exact made_spec l hl hv m p (by omega) this.1 (by omega) H).frame H
theorem r9_Blank_spec (l : List Ty) (hl : TysOk l) (t : Int) (H : AH) : ACalls PG broadsheetref09_Blank.n [tysA l, .int .i64 t] H fun r H' => r = (if 0 ≤ t ∧ t < l.length ∧ (tyChk l).1 = 0 then blkA l t else .tup [vlA vl0, .bool false]) ∧ H' = H := by
  have hlen : (l.map tyR).length = l.length := by simp
  have hll := hl.len
  have hc := fun H => r6_Check_spec l hl H
  have hv := tyChk_v (l := l)
  generalize (tyChk l).2 = at' at *
  generalize hce : (tyChk l).1 = e at *
  refine ACalls.fz (broadsheetref09_Blank.of rfl (wpF_start ?_))
  by_cases c : 0 ≤ t ∧ t < l.length ∧ e = 0
  · rw [if_pos c]
    have hv := hv c.2.2
    obtain ⟨n, rfl⟩ : ∃ n : Nat, t = n := ⟨t.toNat, by omega⟩
    have hg := great_spec0 l hl hv n (by omega)
    have hm := made_spec l hl hv (n + 1) n (by omega) (by omega) (by omega)
    have hcg := cgR_get l (Nat.lt_succ_self n)
    have hcl := cgR_len l (n + 1)
    unfold blkA
    have hcg2 : (cgR l (n + 1)).getD (Int.toNat (n : Nat)) [] = [.int .i64 (cg l (n : Nat) : Nat)] := by rw [Int.toNat_natCast, List.getD_eq_getElem?_getD, hcg]; rfl
    have hcb : cg l (n : Nat) = if bgr l (n : Nat) ≤ 2000 then bgr l (n : Nat) else 3000 := rfl
    by_cases hb : bgr l (n : Nat) ≤ 2000
    · rw [if_pos hb] at hcb ⊢
      obtain ⟨wk, wn, wx, wl, hw⟩ : ∃ wk wn wx wl, madeV l (n : Nat) = .mk wk wn wx wl := by
        cases h : madeV l (n : Nat)
        exact ⟨_, _, _, _, rfl⟩
      rw [hw] at hm ⊢
      (first | refine au ?_ | exact au0 | fail)
      intro id4 hid4 ht4; have n4 := neAll_of hid4; (try simp only [neAll, neAll_hset] at n4); have m4 := n4; (repeat (obtain ⟨_, m4⟩ := m4))
      (first | refine au ?_ | exact au0 | fail)
      first | refine callF_eq (hc _) ?_ | refine callG_eq rfl (hc _) ?_
      (first | refine au ?_ | exact au0 | fail)
      first | refine callF_eq (hg.frame _) ?_ | refine callG_eq rfl (hg.frame _) ?_
      (first | refine au ?_ | exact au0 | fail)
      rw [hcg2]
      (first | refine au ?_ | exact au0 | fail)
      first | refine callF_eq (hm _) ?_ | refine callG_eq rfl (hm _) ?_
      (first | refine au ?_ | exact au0 | fail)
      exact ⟨fz_of, sub_of⟩
    · rw [if_neg hb] at hcb ⊢
      (first | refine au ?_ | exact au0 | fail)
      intro id4 hid4 ht4; have n4 := neAll_of hid4; (try simp only [neAll, neAll_hset] at n4); have m4 := n4; (repeat (obtain ⟨_, m4⟩ := m4))
      (first | refine au ?_ | exact au0 | fail)
      first | refine callF_eq (hc _) ?_ | refine callG_eq rfl (hc _) ?_
      (first | refine au ?_ | exact au0 | fail)
      first | refine callF_eq (hg.frame _) ?_ | refine callG_eq rfl (hg.frame _) ?_
      (first | refine au ?_ | exact au0 | fail)
      rw [hcg2]
      (first | refine au ?_ | exact au0 | fail)
      exact ⟨fz_of, sub_of⟩
  · rw [if_neg c]
    (first | refine au ?_ | exact au0 | fail)
    intro id4 hid4 ht4; have n4 := neAll_of hid4; (try simp only [neAll, neAll_hset] at n4); have m4 := n4; (repeat (obtain ⟨_, m4⟩ := m4))
    (repeat' (first | (refine au ?_; first | refine callF_eq (hc _) ?_ | refine bsplit_dec (fun _ => ?_) (fun _ => ?_) | refine bsplit_intro (fun _ => ?_) (fun _ => ?_)) | exact au0 | fail)); (all_goals try (first | refine au ?_ | fail))
    all_goals first | (exfalso; omega) | exact ⟨fz_of, sub_of⟩
end Go.Proofs.Ytodiahhfpcdejaa

/- The law 'FitsBlank', walked. -/
namespace Go.Proofs.Ytodiahhfpcdejaa
set_option autoImplicit false
set_option linter.unusedSimpArgs false
set_option linter.unusedVariables false
attribute [local irreducible] callA callP ACalls
theorem madeT_ok {l : List Ty} (hl : TysOk l) (hv : TyV l) : ∀ (m : Nat) (t : Int), t < m → 0 ≤ t → t < l.length → vOk (madeV l t)
  | 0, t, h, h0, _ => by omega
  | m + 1, t, hm, h0, h1 => by
    rw [madeV_eq hv h0 h1]
    simp only [vOk]
    refine ⟨bnum_lt hl h0 h1, by simp, ?_, vOks_of fun x hx => ?_⟩
    · have := bps_len hv hv.its h0 h1
      rw [List.length_map]; omega
    · obtain ⟨p, hp, rfl⟩ := List.mem_map.1 hx
      have := bps_in hv h0 h1 p hp
      exact madeT_ok hl hv m p (by omega) this.1 (by omega)
theorem FitsBlank_spec (l : List Ty) (hl : TysOk l) (t : Int) : ACalls PG broadsheetlaw09_FitsBlank.n [tysA l, .int .i64 t] [] fun r _ => r = .bool true := by
  have hg := fun H => tGreat_spec l hl H
  have h1 := fun H => Blank_spec l hl t H
  have h2 := fun H => r9_Blank_spec l hl t H
  generalize tyGreat l = a at *
  refine ACalls.fzK (broadsheetlaw09_FitsBlank.of rfl (wpF_start ?_))
  (first | refine au ?_ | exact au0 | fail)
  first | refine callF_eq (hg _) ?_ | refine callG_eq rfl (hg _) ?_
  cases a
  rotate_left
  · (first | refine au ?_ | exact au0 | fail)
    first | refine callF_eq (fit_awake_spec _) ?_ | refine callG_eq rfl (fit_awake_spec _) ?_
    (first | refine au ?_ | exact au0 | fail)
    exact fz_of
  have h0s : ∀ H, ACalls PG broadsheetref08_Same.n [vlA vl0, vlA vl0] H fun r H' => r = .bool true ∧ H' = H := fun H => by
    have := (r8_Same_spec _ vl0 vl0 (Nat.lt_succ_self _) ⟨by simp [vOk, vOks], by simp [vOk, vOks]⟩).frame H
    rw [vEq_refl] at this
    exact this
  by_cases c : 0 ≤ t ∧ t < l.length ∧ (tyChk l).1 = 0
  · rw [if_pos c] at h1 h2
    have hv := tyChk_v c.2.2
    have hok := madeT_ok hl hv (t.toNat + 1) t (by omega) c.1 c.2.1
    have hfit := made_fit hv (t.toNat + 1) t (by omega) c.1 c.2.1
    unfold blkA at h1 h2
    by_cases hb : bgr l t ≤ 2000
    · rw [if_pos hb] at h1 h2
      have hF := fun H => Fits_spec l hl t (madeV l t) hok H
      rw [if_pos c, hfit] at hF
      have hG := vGreat_spec _ (madeV l t) (Nat.lt_succ_self _) (by unfold bgr at hb; omega)
      have hS : ∀ H, ACalls PG broadsheetref08_Same.n [vlA (madeV l t), vlA (madeV l t)] H fun r H' => r = .bool true ∧ H' = H := fun H => by
        have := (r8_Same_spec _ (madeV l t) (madeV l t) (Nat.lt_succ_self _) ⟨hok, hok⟩).frame H
        rw [vEq_refl] at this
        exact this
      have hbg : bgr l t = vGreat (madeV l t) := rfl
      rw [hbg] at hb
      obtain ⟨wk, wn, wx, wl, hw⟩ : ∃ wk wn wx wl, madeV l t = .mk wk wn wx wl := by
        cases h : madeV l t
        exact ⟨_, _, _, _, rfl⟩
      rw [hw] at h1 h2 hF hG hS hb
      (first | refine au ?_ | exact au0 | fail)
      first | refine callF_eq (h1 _) ?_ | refine callG_eq rfl (h1 _) ?_
      (first | refine au ?_ | exact au0 | fail)
      intro id5 hid5 ht5; have n5 := neAll_of hid5; (try simp only [neAll, neAll_hset] at n5); have m5 := n5; (repeat (obtain ⟨_, m5⟩ := m5))
      (first | refine au ?_ | exact au0 | fail)
      first | refine callF_eq (h2 _) ?_ | refine callG_eq rfl (h2 _) ?_
      (first | refine au ?_ | exact au0 | fail)
      intro id7 hid7 ht7; have n7 := neAll_of hid7; (try simp only [neAll, neAll_hset] at n7); have m7 := n7; (repeat (obtain ⟨_, m7⟩ := m7))
      (first | refine au ?_ | exact au0 | fail)
      first | refine callF_eq (hS _) ?_ | refine callG_eq rfl (hS _) ?_
      (first | refine au ?_ | exact au0 | fail)
      first | refine callF_eq (hF _) ?_ | refine callG_eq rfl (hF _) ?_
      (first | refine au ?_ | exact au0 | fail)
      first | refine callF_eq (hG.frame _) ?_ | refine callG_eq rfl (hG.frame _) ?_
      (first | refine au ?_ | exact au0 | fail)
      first | refine callF_eq (fit_awake_spec _) ?_ | refine callG_eq rfl (fit_awake_spec _) ?_
      (first | refine au ?_ | exact au0 | fail)
      exact fz_of
    · rw [if_neg hb] at h1 h2
      (first | refine au ?_ | exact au0 | fail)
      first | refine callF_eq (h1 _) ?_ | refine callG_eq rfl (h1 _) ?_
      (first | refine au ?_ | exact au0 | fail)
      intro id5 hid5 ht5; have n5 := neAll_of hid5; (try simp only [neAll, neAll_hset] at n5); have m5 := n5; (repeat (obtain ⟨_, m5⟩ := m5))
      (first | refine au ?_ | exact au0 | fail)
      first | refine callF_eq (h2 _) ?_ | refine callG_eq rfl (h2 _) ?_
      (first | refine au ?_ | exact au0 | fail)
      intro id7 hid7 ht7; have n7 := neAll_of hid7; (try simp only [neAll, neAll_hset] at n7); have m7 := n7; (repeat (obtain ⟨_, m7⟩ := m7))
      (first | refine au ?_ | exact au0 | fail)
      first | refine callF_eq (h0s _) ?_ | refine callG_eq rfl (h0s _) ?_
      (first | refine au ?_ | exact au0 | fail)
      first | refine callF_eq (fit_awake_spec _) ?_ | refine callG_eq rfl (fit_awake_spec _) ?_
      (first | refine au ?_ | exact au0 | fail)
      exact fz_of
  · rw [if_neg c] at h1 h2
    (first | refine au ?_ | exact au0 | fail)
    first | refine callF_eq (h1 _) ?_ | refine callG_eq rfl (h1 _) ?_
    (first | refine au ?_ | exact au0 | fail)
    intro id5 hid5 ht5; have n5 := neAll_of hid5; (try simp only [neAll, neAll_hset] at n5); have m5 := n5; (repeat (obtain ⟨_, m5⟩ := m5))
    (first | refine au ?_ | exact au0 | fail)
    first | refine callF_eq (h2 _) ?_ | refine callG_eq rfl (h2 _) ?_
    (first | refine au ?_ | exact au0 | fail)
    intro id7 hid7 ht7; have n7 := neAll_of hid7; (try simp only [neAll, neAll_hset] at n7); have m7 := n7; (repeat (obtain ⟨_, m7⟩ := m7))
    (first | refine au ?_ | exact au0 | fail)
    first | refine callF_eq (h0s _) ?_ | refine callG_eq rfl (h0s _) ?_
    (first | refine au ?_ | exact au0 | fail)
    first | refine callF_eq (fit_awake_spec _) ?_ | refine callG_eq rfl (fit_awake_spec _) ?_
    (first | refine au ?_ | exact au0 | fail)
    exact fz_of
theorem FitsBlank_row (a0 : AV) (h0 : ∃ n sh, shO true PG n ty_S_api_Type = some sh ∧ ArgOk false sh a0) (a1 : AV) (h1 : ∃ n sh, shO true PG n ty_int = some sh ∧ ArgOk false sh a1) : ACalls PG broadsheetlaw09_FitsBlank.n [a0, a1] [] fun r _ => r = .bool true := by
  obtain ⟨l, q0, hl⟩ := types_arg h0
  obtain ⟨t, rfl, _⟩ := int_arg h1
  exact (FitsBlank_spec l hl t).nw (.cons q0 (.cons (.refl _) (.refl _)))
end Go.Proofs.Ytodiahhfpcdejaa
