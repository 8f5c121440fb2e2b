/- Texts of this proof, one behind the other: RCheck, ExprLaw, SimRec, ExprSizeLaw, TypArg, NilTy, CheckLaw, PathAtMath, DatSpec, TruthMath, RDatSpec, CheckDatum, SimRec2, CheckLaw2. -/
import Derived.Test.YtjaigpidmngaaaaGreatPkT6
set_option autoImplicit false
set_option linter.unusedSimpArgs false
set_option linter.unusedVariables false
namespace Go.Proofs.YtjaigpidmngaaaaGreat
attribute [local irreducible] callA callP ACalls
def whN (w : Int × Int) : Int := if 0 < w.2 then w.2 + 3 else w.1
abbrev whR (x : (Int × Int) × Int) : AV := .tup [.int .i64 (whN x.1), .int .i64 x.2]
structure Wh (w : Int × Int) (n : Nat) : Prop where
  h0 : 0 ≤ w.2
  h1 : w.2 ≤ n
  h2 : 0 < w.2 → w.1 = 1
  h3 : 0 ≤ w.1 ∧ w.1 ≤ 3
theorem whK_wh (l : List Ty) (t : Int) (s : List UInt8) : Wh (whatK l (findP l t s)).1 l.length := by
  unfold whatK
  split
  · exact ⟨by dsimp only; omega, by dsimp only; omega, by dsimp only; omega, by dsimp only; omega⟩
  · rename_i c
    have := findP_in (Classical.not_not.1 c)
    repeat' split
    all_goals exact ⟨by dsimp only; omega, by dsimp only; omega, by dsimp only; omega, by dsimp only; omega⟩
theorem whO_wh (l : List Ty) (t : Int) (o : Opd) : Wh (whatO l t o).1 l.length := by
  unfold whatO
  repeat' split
  all_goals first | exact whK_wh _ _ _ | exact ⟨by dsimp only; omega, by dsimp only; omega, by dsimp only; omega, by dsimp only; omega⟩
theorem whN_eq {x y : Int × Int} {n : Nat} (hx : Wh x n) (hy : Wh y n) : whN x = whN y ↔ x = y := by
  obtain ⟨a, b⟩ := x
  obtain ⟨c, d⟩ := y
  have q1 := hx.h0; have q2 := hx.h2; have q3 := hx.h3
  have q4 := hy.h0; have q5 := hy.h2; have q6 := hy.h3
  dsimp only at q1 q2 q3 q4 q5 q6
  unfold whN
  dsimp only
  rw [Prod.mk.injEq]
  split <;> split <;> omega
theorem What_spec (l : List Ty) (hl : TysOk l) (t : Int) (o : Opd) (hs : o.t.length ≤ 1000000) (H : AH) : ACalls PG broadsheetref18_What.n [tysA l, .int .i64 t, opA o] H fun r H' => r = whR (whatO l t o) ∧ H' = H := by
  have hlen : (l.map tyR).length = l.length := by simp
  have hll := hl.len
  have hf := fun H => r12_Find_spec l hl t o.t hs H
  have hin := @findP_in l t o.t
  refine ACalls.fz (broadsheetref18_What.of rfl (wpF_start ?_))
  unfold whatO
  generalize findP l t o.t = f at *
  obtain ⟨fs, to, e⟩ := f
  dsimp only at hin
  (first | refine au ?_ | exact au0)
  intro id3 hid3 ht3; have n3 := neAll_of hid3; (try simp only [neAll, neAll_hset] at n3); have m3 := n3; (repeat (obtain ⟨_, m3⟩ := m3))
  clear hid3
  by_cases c2 : o.k = 2
  · rw [if_neg (by omega), if_pos c2]
    rw [show whR ((1, 0), 0) = .tup [.int .i64 1, .int .i64 0] from rfl]
    (first | refine au ?_ | exact au0)
    exact ⟨fz_of, sub_of⟩
  by_cases c3 : o.k = 3
  · rw [if_neg (by omega), if_neg c2, if_pos c3]
    rw [show whR ((2, 0), 0) = .tup [.int .i64 2, .int .i64 0] from rfl]
    (first | refine au ?_ | exact au0)
    exact ⟨fz_of, sub_of⟩
  by_cases c4 : o.k = 4
  · rw [if_neg (by omega), if_neg c2, if_neg c3, if_pos c4]
    rw [show whR ((3, 0), 0) = .tup [.int .i64 3, .int .i64 0] from rfl]
    (first | refine au ?_ | exact au0)
    exact ⟨fz_of, sub_of⟩
  by_cases c5 : o.k = 5
  · rw [if_neg (by omega), if_neg c2, if_neg c3, if_neg c4, if_pos c5]
    rw [show whR ((0, 0), 18) = .tup [.int .i64 0, .int .i64 18] from rfl]
    (first | refine au ?_ | exact au0)
    exact ⟨fz_of, sub_of⟩
  by_cases c1 : o.k = 1
  rotate_left
  · rw [if_neg c1, if_neg c2, if_neg c3, if_neg c4, if_neg c5]
    rw [show whR ((0, 0), 1) = .tup [.int .i64 0, .int .i64 1] from rfl]
    (first | refine au ?_ | exact au0)
    exact ⟨fz_of, sub_of⟩
  rw [if_pos c1]
  unfold whatK
  (first | refine au ?_ | exact au0)
  first | refine callF_eq (hf _) ?_ | refine callG_eq rfl (hf _) ?_
  (first | refine au ?_ | exact au0)
  clear hf c2 c3 c4 c5
  refine bsplit_dec (fun c => ?_) (fun c => ?_)
  · rw [if_pos c]
    rw [show whR ((0, 0), (fs, to, e).2.2) = .tup [.int .i64 0, .int .i64 e] from rfl]
    (first | refine au ?_ | exact au0)
    exact ⟨fz_of, sub_of⟩
  rw [if_neg c]
  obtain ⟨_, q0, q1⟩ := hin (Classical.not_not.1 c)
  have hge := tAt_get q0 q1
  dsimp only
  generalize tAt l to = g at *
  (first | refine au ?_ | exact au0)
  rw [hge]
  (first | refine au ?_ | exact au0)
  by_cases c9 : g.kd = 9
  · rw [if_pos c9]
    rw [show whR ((1, to + 1), 0) = .tup [.int .i64 (4 + to), .int .i64 0] from by unfold whR whN; rw [if_pos (by dsimp only; omega)]; dsimp only; rw [show to + 1 + 3 = 4 + to from by omega]]
    (first | refine au ?_ | exact au0)
    exact ⟨fz_of, sub_of⟩
  rw [if_neg c9]
  by_cases c1 : g.kd = 1
  · rw [if_pos c1]
    rw [show whR ((3, 0), 0) = .tup [.int .i64 3, .int .i64 0] from rfl]
    (first | refine au ?_ | exact au0)
    exact ⟨fz_of, sub_of⟩
  rw [if_neg c1]
  by_cases c10 : g.kd = 10
  · rw [if_pos c10]
    rw [show whR ((2, 0), 0) = .tup [.int .i64 2, .int .i64 0] from rfl]
    (first | refine au ?_ | exact au0)
    exact ⟨fz_of, sub_of⟩
  rw [if_neg c10]
  (first | refine au ?_ | exact au0)
  first | refine callF_eq (r5_Number_spec _ _) ?_ | refine callG_eq rfl (r5_Number_spec _ _) ?_
  cases isNum g.kd with
  | true =>
    rw [if_pos rfl, show whR ((1, 0), 0) = .tup [.int .i64 1, .int .i64 0] from rfl]
    (first | refine au ?_ | exact au0)
    exact ⟨fz_of, sub_of⟩
  | false =>
    rw [if_neg (by simp), show whR ((0, 0), 8) = .tup [.int .i64 0, .int .i64 8] from rfl]
    (first | refine au ?_ | exact au0)
    exact ⟨fz_of, sub_of⟩
theorem pair_spec0 (l : List Ty) (hl : TysOk l) (t : Int) (a b : Opd) (ha : a.t.length ≤ 1000000) (hb : b.t.length ≤ 1000000) (rel : Int) (hr : 1 ≤ rel) (H : AH) (hc : ¬ ((whatO l t a).1.2 = 0 ∧ 0 < (whatO l t b).1.2)) : ACalls PG broadsheetref18_pair.n [tysA l, .int .i64 t, opA a, opA b, .int .i64 rel] H fun r H' => r = .int .i64 (togE l t a b rel) ∧ H' = H := by
  have h1 := fun H => What_spec l hl t a ha H
  have h2 := fun H => What_spec l hl t b hb H
  have w1 := whO_wh l t a
  have w2 := whO_wh l t b
  have hll := hl.len
  have hi := fun n H => r6_Item_spec l hl n b.t H
  refine ACalls.fz (broadsheetref18_pair.of rfl (wpF_start ?_))
  unfold togE nmdE
  generalize whatO l t a = x at *
  generalize whatO l t b = y at *
  obtain ⟨x, xe⟩ := x
  obtain ⟨y, ye⟩ := y
  have hq := whN_eq w1 w2
  dsimp only at w1 w2 hq hc ⊢
  have hx4 : 4 ≤ whN x ↔ 0 < x.2 := by unfold whN; have := w1.h3; split <;> omega
  have hy4 : 4 ≤ whN y ↔ 0 < y.2 := by unfold whN; have := w2.h3; split <;> omega
  have hx3 : whN x = 3 ↔ x.1 = 3 := by unfold whN; have := w1.h2; split <;> omega
  have hxn : 0 < x.2 → whN x - 4 = x.2 - 1 := fun q => by unfold whN; rw [if_pos q]; omega
  have b1 := w1.h0
  have b2 := w1.h1
  have b3 : whN x ≤ l.length + 3 ∧ 0 ≤ whN x := by unfold whN; have := w1.h3; split <;> omega
  have b4 := w2.h0
  clear w1 w2
  unfold whR at h1 h2
  dsimp only at h1 h2
  generalize whN x = nx at *
  generalize whN y = ny at *
  (first | refine au ?_ | exact au0)
  intro id5 hid5 ht5; have n5 := neAll_of hid5; (try simp only [neAll, neAll_hset] at n5); have m5 := n5; (repeat (obtain ⟨_, m5⟩ := m5))
  clear hid5
  (first | refine au ?_ | exact au0)
  intro id6 hid6 ht6; have n6 := neAll_of hid6; (try simp only [neAll, neAll_hset] at n6); have m6 := n6; (repeat (obtain ⟨_, m6⟩ := m6))
  clear hid6
  (first | refine au ?_ | exact au0)
  first | refine callF_eq (h1 _) ?_ | refine callG_eq rfl (h1 _) ?_
  (first | refine au ?_ | exact au0)
  first | refine callF_eq (h2 _) ?_ | refine callG_eq rfl (h2 _) ?_
  (first | refine au ?_ | exact au0)
  clear h1 h2
  rw [if_neg (show ¬ (0 < y.2 ∧ x.2 = 0) from fun q => hc ⟨q.2, q.1⟩)]
  by_cases cx : 0 < x.2 ∧ y.2 = 0
  · rw [if_pos cx]
    have c1 : 4 ≤ nx := hx4.2 cx.1
    have c2 : ny < 4 := by
      apply Classical.byContradiction; intro q
      have := hy4.1 (by omega)
      omega
    have e1 := hxn cx.1
    rw [← e1]
    clear hx4 hy4 hx3 hxn hq hc cx e1
    (first | refine au ?_ | exact au0)
    refine bsplit_dec (fun c => ?_) (fun c => ?_)
    · rw [if_pos c]
      (first | refine au ?_ | exact au0)
      exact ⟨fz_of, sub_of⟩
    rw [if_neg c]
    have hi := fun H => hi (nx - 4) H
    generalize itemIx l (nx - 4) b.t = ix at *
    cases ix with
    | none =>
      (first | refine au ?_ | exact au0)
      first | refine callF_eq (hi _) ?_ | refine callG_eq rfl (hi _) ?_
      (first | refine au ?_ | exact au0)
      exact ⟨fz_of, sub_of⟩
    | some n =>
      (first | refine au ?_ | exact au0)
      first | refine callF_eq (hi _) ?_ | refine callG_eq rfl (hi _) ?_
      (first | refine au ?_ | exact au0)
      exact ⟨fz_of, sub_of⟩
  rw [if_neg cx]
  clear hi hxn
  have d : (nx < 4 ∧ ny < 4) ∨ (4 ≤ nx ∧ 4 ≤ ny) := by omega
  by_cases ce : x = y
  · have c1 := hq.2 ce
    subst c1
    rw [if_neg (fun q => q ce)]
    by_cases c3 : x.1 = 3 ∧ rel ≠ 1 ∧ rel ≠ 2
    · rw [if_pos c3]
      have d1 : nx = 3 := hx3.2 c3.1
      have d2 : 2 < rel := by omega
      clear hq hx4 hy4 hx3 hc cx c3
      (first | refine au ?_ | exact au0)
      exact ⟨fz_of, sub_of⟩
    · rw [if_neg c3]
      have d1 : nx ≠ 3 ∨ rel ≤ 2 := by
        by_cases q : nx = 3
        · right
          apply Classical.byContradiction
          intro w
          exact c3 ⟨hx3.1 q, by omega, by omega⟩
        · exact .inl q
      clear hq hx4 hy4 hx3 hc cx c3
      rcases d with ⟨d2, d3⟩ | ⟨d2, d3⟩
      · rcases d1 with d1 | d1
        · (first | refine au ?_ | exact au0)
          exact ⟨fz_of, sub_of⟩
        · by_cases q : nx = 3
          · (first | refine au ?_ | exact au0)
            exact ⟨fz_of, sub_of⟩
          · (first | refine au ?_ | exact au0)
            exact ⟨fz_of, sub_of⟩
      · (first | refine au ?_ | exact au0)
        exact ⟨fz_of, sub_of⟩
  · have c1 : nx ≠ ny := fun q => ce (hq.1 q)
    rw [if_pos ce]
    clear hq hx4 hy4 hx3 hc cx
    rcases d with ⟨d2, d3⟩ | ⟨d2, d3⟩
    · (first | refine au ?_ | exact au0)
      exact ⟨fz_of, sub_of⟩
    · (first | refine au ?_ | exact au0)
      exact ⟨fz_of, sub_of⟩
theorem pair_spec (l : List Ty) (hl : TysOk l) (t : Int) (a b : Opd) (ha : a.t.length ≤ 1000000) (hb : b.t.length ≤ 1000000) (rel : Int) (hr : 1 ≤ rel) (H : AH) : ACalls PG broadsheetref18_pair.n [tysA l, .int .i64 t, opA a, opA b, .int .i64 rel] H fun r H' => r = .int .i64 (togE l t a b rel) ∧ H' = H := by
  by_cases hc : (whatO l t a).1.2 = 0 ∧ 0 < (whatO l t b).1.2
  rotate_left
  · exact pair_spec0 l hl t a b ha hb rel hr H hc
  have h3 := fun H => pair_spec0 l hl t b a hb ha rel hr H (by omega)
  have e : togE l t b a rel = togE l t a b rel := by
    unfold togE
    rw [if_pos ⟨hc.2, hc.1⟩, if_neg (by omega), if_pos ⟨hc.2, hc.1⟩]
  rw [e] at h3
  have h1 := fun H => What_spec l hl t a ha H
  have h2 := fun H => What_spec l hl t b hb H
  have w1 := whO_wh l t a
  have w2 := whO_wh l t b
  refine ACalls.fz (broadsheetref18_pair.of rfl (wpF_start ?_))
  generalize togE l t a b rel = E at *
  generalize whatO l t a = x at *
  generalize whatO l t b = y at *
  obtain ⟨x, xe⟩ := x
  obtain ⟨y, ye⟩ := y
  dsimp only at w1 w2 hc
  have hx4 : whN x < 4 := by unfold whN; have := w1.h3; rw [if_neg (by omega)]; omega
  have hy4 : 4 ≤ whN y := by unfold whN; rw [if_pos hc.2]; omega
  clear w1 w2 hc e
  unfold whR at h1 h2
  dsimp only at h1 h2
  generalize whN x = nx at *
  generalize whN y = ny at *
  (first | refine au ?_ | exact au0)
  intro id5 hid5 ht5; have n5 := neAll_of hid5; (try simp only [neAll, neAll_hset] at n5); have m5 := n5; (repeat (obtain ⟨_, m5⟩ := m5))
  clear hid5
  (first | refine au ?_ | exact au0)
  intro id6 hid6 ht6; have n6 := neAll_of hid6; (try simp only [neAll, neAll_hset] at n6); have m6 := n6; (repeat (obtain ⟨_, m6⟩ := m6))
  clear hid6
  (first | refine au ?_ | exact au0)
  first | refine callF_eq (h1 _) ?_ | refine callG_eq rfl (h1 _) ?_
  (first | refine au ?_ | exact au0)
  first | refine callF_eq (h2 _) ?_ | refine callG_eq rfl (h2 _) ?_
  (first | refine au ?_ | exact au0)
  first | refine callF_eq (h3 _) ?_ | refine callG_eq rfl (h3 _) ?_
  (first | refine au ?_ | exact au0)
  exact ⟨fz_of, sub_of⟩
theorem whN_two {x : Int × Int} {n : Nat} (h : Wh x n) : x.1 = 2 ↔ whN x = 2 := by
  have q1 := h.h0; have q2 := h.h2; have q3 := h.h3
  unfold whN
  split <;> omega
theorem formB_4 {op rel : Int} {na nk : Nat} (h : formB op rel na nk = true) (c : op = 4) : na = 0 ∧ nk = 1 := by
  unfold formB at h; rw [if_neg (by omega), if_neg (by omega), if_neg (by omega), if_pos c] at h; exact of_decide_eq_true h
theorem formB_5 {op rel : Int} {na nk : Nat} (h : formB op rel na nk = true) (c : op = 5) : na = 0 ∧ 2 ≤ nk := by
  unfold formB at h; rw [if_neg (by omega), if_neg (by omega), if_neg (by omega), if_neg (by omega), if_pos (by omega)] at h; exact of_decide_eq_true h
theorem formB_6 {op rel : Int} {na nk : Nat} (h : formB op rel na nk = true) (c : op = 6) : na = 0 ∧ 2 ≤ nk := by
  unfold formB at h; rw [if_neg (by omega), if_neg (by omega), if_neg (by omega), if_neg (by omega), if_pos (by omega)] at h; exact of_decide_eq_true h
set_option maxHeartbeats 4000000 in
theorem r18_tree_spec (l : List Ty) (hl : TysOk l) (t : Int) : ∀ (n : Nat) (x : Ex), SizeOf.sizeOf x < n → eT x → ACalls PG broadsheetref18_tree.n [tysA l, .int .i64 t, exA x] [] fun r _ => r = .int .i64 (treeE l t x)
  | 0, x, h, _ => absurd h (Nat.not_lt_zero _)
  | n + 1, .mk op rel a ks, hn, hT => by
    simp only [eT] at hT
    obtain ⟨⟨hal, hat⟩, hkl, hks⟩ := hT
    have ih := fun y (hy : y ∈ ks) => r18_tree_spec l hl t n y (by have := List.sizeOf_lt_of_mem hy; simp only [Ex.mk.sizeOf_spec] at hn; omega) (eTs_mem hks y hy)
    have hlk := exRs_len ks
    have hla : (a.map fun o : Opd => [AV.int .i64 o.k, .str o.t, .bool o.neg, .int .u64 (o.num : Nat)]).length = a.length := by simp
    refine ACalls.fzK (broadsheetref18_tree.of rfl (wpF_start ?_))
    rw [treeE]
    (first | refine au ?_ | exact au0)
    intro id3 hid3 ht3; have n3 := neAll_of hid3; (try simp only [neAll, neAll_hset] at n3); have m3 := n3; (repeat (obtain ⟨_, m3⟩ := m3))
    clear hid3
    (first | refine au ?_ | exact au0)
    refine loopL [(0, some _), (1, some _), (5, some _)] 7 0 a.length (fun m => ∀ q (h : q < a.length), q < m → (whatO l t a[q]).2 = 0) (by exact cov_of) (Nat.zero_le _) (fun q h1 h2 => absurd h2 (Nat.not_lt_zero _)) (fun m hm hno => ?_)
    (first | refine au ?_ | exact au0)
    refine bsplit_dec (fun c5 => ?_) (fun c5 => ?_)
    · have hil : m < a.length := by omega
      have hge := row_get (f := fun o : Opd => [AV.int .i64 o.k, .str o.t, .bool o.neg, .int .u64 (o.num : Nat)]) hil
      have hi := fun H => What_spec l hl t a[m] (hat _ (List.getElem_mem hil)) H
      have hhit := fstM_hit (f := fun o => (whatO l t o).2) (l := a) (i := m) hno hil
      obtain ⟨E, hE⟩ : ∃ E, whatO l t a[m] = E := ⟨_, rfl⟩
      rw [hE] at hi hhit
      generalize a[m] = o at hge hi
      unfold whR at hi
      (first | refine au ?_ | exact au0)
      rw [hge]
      (first | refine au ?_ | exact au0)
      first | refine callF_eq (hi _) ?_ | refine callG_eq rfl (hi _) ?_
      (first | refine au ?_ | exact au0)
      refine bsplit_dec (fun c6 => ?_) (fun c6 => ?_)
      · rw [hhit c6, if_pos c6]
        (first | refine au ?_ | exact au0)
        exact fz_of
      · (first | refine au ?_ | exact au0)
        refine nextN (by exact cov_of) (by exact sub_of) (by omega) (fun q h1 h2 => ?_)
        by_cases e : q < m
        · exact hno q h1 e
        · have : q = m := by omega
          subst this
          rw [hE]; exact Classical.not_not.1 c6
    rw [fstM_none (f := fun o => (whatO l t o).2) (l := a) (fun q h => hno q h (by omega)), if_neg (by simp)]
    clear hno
    (first | refine au ?_ | exact au0)
    by_cases hop : op < 1 ∨ 6 < op
    · rw [show formB op rel a.length ks.length = false from by unfold formB; rw [if_neg (by omega), if_neg (by omega), if_neg (by omega), if_neg (by omega), if_neg (by omega)], if_pos rfl]
      rcases hop with hop | hop
      · (first | refine au ?_ | exact au0)
        exact fz_of
      · (first | refine au ?_ | exact au0)
        exact fz_of
    have hop : op = 1 ∨ op = 2 ∨ op = 3 ∨ op = 4 ∨ op = 5 ∨ op = 6 := by omega
    rcases hop with rfl | rfl | rfl | rfl | rfl | rfl
    · by_cases d1 : a.length = 2
      rotate_left
      · rw [show formB 1 rel a.length ks.length = false from Bool.eq_false_iff.2 fun q => by have w := formB_1 q rfl; omega, if_pos rfl]
        (first | refine au ?_ | exact au0)
        exact fz_of
      by_cases d2 : ks.length = 0
      rotate_left
      · rw [show formB 1 rel a.length ks.length = false from Bool.eq_false_iff.2 fun q => by have w := formB_1 q rfl; omega, if_pos rfl]
        (first | refine au ?_ | exact au0)
        exact fz_of
      by_cases d3 : 1 ≤ rel
      rotate_left
      · rw [show formB 1 rel a.length ks.length = false from Bool.eq_false_iff.2 fun q => by have w := formB_1 q rfl; omega, if_pos rfl]
        (first | refine au ?_ | exact au0)
        exact fz_of
      by_cases d4 : rel ≤ 6
      rotate_left
      · rw [show formB 1 rel a.length ks.length = false from Bool.eq_false_iff.2 fun q => by have w := formB_1 q rfl; omega, if_pos rfl]
        (first | refine au ?_ | exact au0)
        exact fz_of
      rw [show formB 1 rel a.length ks.length = true from by unfold formB; rw [if_pos rfl]; exact decide_eq_true ⟨d1, d2, d3, d4⟩, if_neg (by simp)]
      obtain ⟨o0, o1, rfl⟩ := len2 d1
      rw [show testE l t 1 rel [o0, o1] = togE l t o0 o1 rel from rfl]
      have hp := fun H => pair_spec l hl t o0 o1 (hat _ (by simp)) (hat _ (by simp)) rel d3 H
      (first | refine au ?_ | exact au0)
      first | refine callF_eq (hp _) ?_ | refine callG_eq rfl (hp _) ?_
      (first | refine au ?_ | exact au0)
      refine bsplit_dec (fun c => ?_) (fun c => ?_)
      · rw [if_pos c]
        (first | refine au ?_ | exact au0)
        exact fz_of
      rw [if_neg c]
      clear hp
      (first | refine au ?_ | exact au0)
      refine loopM (S := Unit) [(0, some _), (1, some _), (5, some _), (11, some _)] (fun _ => [(13, some (.int .i64 1))]) (fun _ => _) (fun _ => 0) (fun _ => True) () (by exact cov_of) (Sub.refl _) trivial (fun _ _ => ?_)
      (first | refine au ?_ | exact au0)
      refine loopM (S := Unit) [(0, some _), (1, some _), (5, some _), (11, some _)] (fun _ => [(15, some (.int .i64 0))]) (fun _ => _) (fun _ => 0) (fun _ => True) () (by exact cov_of) (Sub.refl _) trivial (fun _ _ => ?_)
      (first | refine au ?_ | exact au0)
      refine loopL [(0, some _), (1, some _), (5, some _), (11, some _)] 18 0 ks.length (fun m => ∀ q (h : q < ks.length), q < m → treeE l t ks[q] = 0) (by exact cov_of) (Nat.zero_le _) (fun q h1 h2 => absurd h2 (Nat.not_lt_zero _)) (fun m hm hno => ?_)
      (first | refine au ?_ | exact au0)
      rw [treeEs_none (fun q h => absurd h (by omega))]
      exact fz_of
    · by_cases d1 : a.length = 3
      rotate_left
      · rw [show formB 2 rel a.length ks.length = false from Bool.eq_false_iff.2 fun q => by have w := formB_2 q rfl; omega, if_pos rfl]
        (first | refine au ?_ | exact au0)
        exact fz_of
      by_cases d2 : ks.length = 0
      rotate_left
      · rw [show formB 2 rel a.length ks.length = false from Bool.eq_false_iff.2 fun q => by have w := formB_2 q rfl; omega, if_pos rfl]
        (first | refine au ?_ | exact au0)
        exact fz_of
      rw [show formB 2 rel a.length ks.length = true from by unfold formB; rw [if_neg (by decide), if_neg (by decide), if_pos rfl]; exact decide_eq_true ⟨d1, d2⟩, if_neg (by simp)]
      obtain ⟨o0, o1, o2, rfl⟩ := len3 d1
      have hp := fun H => pair_spec l hl t o0 o1 (hat _ (by simp)) (hat _ (by simp)) 4 (by omega) H
      have hp2 := fun H => pair_spec l hl t o0 o2 (hat _ (by simp)) (hat _ (by simp)) 4 (by omega) H
      rw [show testE l t 2 rel [o0, o1, o2] = if togE l t o0 o1 4 ≠ 0 then togE l t o0 o1 4 else togE l t o0 o2 4 from rfl]
      generalize togE l t o0 o1 4 = E1 at *
      generalize togE l t o0 o2 4 = E2 at *
      (first | refine au ?_ | exact au0)
      refine loopM (S := Nat) [(0, some _), (1, some _), (5, some _), (11, some _)] (fun i => [(13, some (.int .i64 (i : Nat)))]) (fun _ => _) (fun i => 3 - i) (fun i => (i = 1 ∨ (i = 2 ∧ E1 = 0) ∨ (i = 3 ∧ E1 = 0 ∧ E2 = 0))) 1 (by exact cov_of) (Sub.refl _) (.inl rfl) (fun i hi => ?_)
      rcases hi with rfl | ⟨rfl, e1⟩ | ⟨rfl, e1, e2⟩
      · (first | refine au ?_ | exact au0)
        first | refine callF_eq (hp _) ?_ | refine callG_eq rfl (hp _) ?_
        (first | refine au ?_ | exact au0)
        refine bsplit_dec (fun c => ?_) (fun c => ?_)
        · rw [if_pos c, if_pos c]
          (first | refine au ?_ | exact au0)
          exact fz_of
        · (first | refine au ?_ | exact au0)
          exact nextS (S := Nat) 2 (by exact cov_of) (by exact sub_of) (by omega) (.inr (.inl ⟨rfl, Classical.not_not.1 c⟩))
      · (first | refine au ?_ | exact au0)
        first | refine callF_eq (hp2 _) ?_ | refine callG_eq rfl (hp2 _) ?_
        (first | refine au ?_ | exact au0)
        refine bsplit_dec (fun c => ?_) (fun c => ?_)
        · rw [if_neg (show ¬ E1 ≠ 0 from fun q => q e1), if_pos c]
          (first | refine au ?_ | exact au0)
          exact fz_of
        · (first | refine au ?_ | exact au0)
          exact nextS (S := Nat) 3 (by exact cov_of) (by exact sub_of) (by omega) (.inr (.inr ⟨rfl, e1, Classical.not_not.1 c⟩))
      · subst e1 e2
        rw [if_neg (show ¬ ((0 : Int) ≠ 0) from fun q => q rfl), if_neg (show ¬ ((0 : Int) ≠ 0) from fun q => q rfl)]
        clear hp hp2
        (first | refine au ?_ | exact au0)
        refine loopM (S := Unit) [(0, some _), (1, some _), (5, some _), (11, some _)] (fun _ => [(15, some (.int .i64 0))]) (fun _ => _) (fun _ => 0) (fun _ => True) () (by exact cov_of) (Sub.refl _) trivial (fun _ _ => ?_)
        (first | refine au ?_ | exact au0)
        refine loopL [(0, some _), (1, some _), (5, some _), (11, some _)] 18 0 ks.length (fun m => ∀ q (h : q < ks.length), q < m → treeE l t ks[q] = 0) (by exact cov_of) (Nat.zero_le _) (fun q h1 h2 => absurd h2 (Nat.not_lt_zero _)) (fun m hm hno => ?_)
        (first | refine au ?_ | exact au0)
        rw [treeEs_none (fun q h => absurd h (by omega))]
        exact fz_of
    · by_cases d1 : a.length = 2
      rotate_left
      · rw [show formB 3 rel a.length ks.length = false from Bool.eq_false_iff.2 fun q => by have w := formB_3 q rfl; omega, if_pos rfl]
        (first | refine au ?_ | exact au0)
        exact fz_of
      by_cases d2 : ks.length = 0
      rotate_left
      · rw [show formB 3 rel a.length ks.length = false from Bool.eq_false_iff.2 fun q => by have w := formB_3 q rfl; omega, if_pos rfl]
        (first | refine au ?_ | exact au0)
        exact fz_of
      rw [show formB 3 rel a.length ks.length = true from by unfold formB; rw [if_neg (by decide), if_pos rfl]; exact decide_eq_true ⟨d1, d2⟩, if_neg (by simp)]
      obtain ⟨o0, o1, rfl⟩ := len2 d1
      have hp := fun H => What_spec l hl t o0 (hat _ (by simp)) H
      have hp2 := fun H => What_spec l hl t o1 (hat _ (by simp)) H
      rw [show testE l t 3 rel [o0, o1] = if ([o0, o1].all fun o => decide ((whatO l t o).1.1 = 2)) = true then 0 else 8 from rfl]
      rw [show ([o0, o1].all fun o => decide ((whatO l t o).1.1 = 2)) = (decide (whN (whatO l t o0).1 = 2) && decide (whN (whatO l t o1).1 = 2)) from by
        simp only [List.all_cons, List.all_nil, Bool.and_true]
        rw [decide_eq_decide.2 (whN_two (whO_wh l t o0)), decide_eq_decide.2 (whN_two (whO_wh l t o1))]]
      unfold whR at hp hp2
      generalize whN (whatO l t o0).1 = n0 at *
      generalize whN (whatO l t o1).1 = n1 at *
      obtain ⟨T, hT⟩ : ∃ T, (if (decide (n0 = 2) && decide (n1 = 2)) = true then (0 : Int) else 8) = T := ⟨_, rfl⟩
      rw [hT]
      (first | refine au ?_ | exact au0)
      refine loopM (S := Unit) [(0, some _), (1, some _), (5, some _), (11, some _)] (fun _ => [(13, some (.int .i64 1))]) (fun _ => _) (fun _ => 0) (fun _ => True) () (by exact cov_of) (Sub.refl _) trivial (fun _ _ => ?_)
      (first | refine au ?_ | exact au0)
      refine loopM (S := Nat) [(0, some _), (1, some _), (5, some _), (11, some _)] (fun i => [(15, some (.int .i64 (i : Nat)))]) (fun _ => _) (fun i => 2 - i) (fun i => (i = 0 ∨ (i = 1 ∧ n0 = 2) ∨ (i = 2 ∧ n0 = 2 ∧ n1 = 2))) 0 (by exact cov_of) (Sub.refl _) (.inl rfl) (fun i hi => ?_)
      rcases hi with rfl | ⟨rfl, e1⟩ | ⟨rfl, e1, e2⟩
      · (first | refine au ?_ | exact au0)
        first | refine callF_eq (hp _) ?_ | refine callG_eq rfl (hp _) ?_
        (first | refine au ?_ | exact au0)
        refine bsplit_dec (fun c => ?_) (fun c => ?_)
        · have e : T = 8 := by rw [← hT, decide_eq_false c]; rfl
          rw [e, if_pos (by omega)]
          (first | refine au ?_ | exact au0)
          exact fz_of
        · (first | refine au ?_ | exact au0)
          exact nextS (S := Nat) 1 (by exact cov_of) (by exact sub_of) (by omega) (.inr (.inl ⟨rfl, Classical.not_not.1 c⟩))
      · (first | refine au ?_ | exact au0)
        first | refine callF_eq (hp2 _) ?_ | refine callG_eq rfl (hp2 _) ?_
        (first | refine au ?_ | exact au0)
        refine bsplit_dec (fun c => ?_) (fun c => ?_)
        · have e : T = 8 := by rw [← hT, decide_eq_false c, Bool.and_false]; rfl
          rw [e, if_pos (by omega)]
          (first | refine au ?_ | exact au0)
          exact fz_of
        · (first | refine au ?_ | exact au0)
          exact nextS (S := Nat) 2 (by exact cov_of) (by exact sub_of) (by omega) (.inr (.inr ⟨rfl, e1, Classical.not_not.1 c⟩))
      · have e : T = 0 := by rw [← hT, decide_eq_true e1, decide_eq_true e2]; rfl
        rw [e, if_neg (by omega)]
        clear hp hp2
        (first | refine au ?_ | exact au0)
        refine loopL [(0, some _), (1, some _), (5, some _), (11, some _)] 18 0 ks.length (fun m => ∀ q (h : q < ks.length), q < m → treeE l t ks[q] = 0) (by exact cov_of) (Nat.zero_le _) (fun q h1 h2 => absurd h2 (Nat.not_lt_zero _)) (fun m hm hno => ?_)
        (first | refine au ?_ | exact au0)
        rw [treeEs_none (fun q h => absurd h (by omega))]
        exact fz_of
    · by_cases d1 : a.length = 0
      rotate_left
      · rw [show formB 4 rel a.length ks.length = false from Bool.eq_false_iff.2 fun q => by have w := formB_4 q rfl; omega, if_pos rfl]
        (first | refine au ?_ | exact au0)
        exact fz_of
      by_cases d2 : ks.length = 1
      rotate_left
      · rw [show formB 4 rel a.length ks.length = false from Bool.eq_false_iff.2 fun q => by have w := formB_4 q rfl; omega, if_pos rfl]
        (first | refine au ?_ | exact au0)
        exact fz_of
      rw [show formB 4 rel a.length ks.length = true from by unfold formB; rw [if_neg (by decide), if_neg (by decide), if_neg (by decide), if_pos rfl]; exact decide_eq_true ⟨d1, d2⟩, if_neg (by simp)]
      rw [show testE l t 4 rel a = 0 from rfl, if_neg (by simp)]
      (first | refine au ?_ | exact au0)
      refine loopM (S := Unit) [(0, some _), (1, some _), (5, some _), (11, some _)] (fun _ => [(13, some (.int .i64 1))]) (fun _ => _) (fun _ => 0) (fun _ => True) () (by exact cov_of) (Sub.refl _) trivial (fun _ _ => ?_)
      (first | refine au ?_ | exact au0)
      refine loopM (S := Unit) [(0, some _), (1, some _), (5, some _), (11, some _)] (fun _ => [(15, some (.int .i64 0))]) (fun _ => _) (fun _ => 0) (fun _ => True) () (by exact cov_of) (Sub.refl _) trivial (fun _ _ => ?_)
      (first | refine au ?_ | exact au0)
      refine loopL [(0, some _), (1, some _), (5, some _), (11, some _)] 18 0 ks.length (fun m => ∀ q (h : q < ks.length), q < m → treeE l t ks[q] = 0) (by exact cov_of) (Nat.zero_le _) (fun q h1 h2 => absurd h2 (Nat.not_lt_zero _)) (fun m hm hno => ?_)
      (first | refine au ?_ | exact au0)
      refine bsplit_dec (fun c5 => ?_) (fun c5 => ?_)
      · have hil : m < ks.length := by omega
        have hge := exR_kid hil
        have hi := ih ks[m] (List.getElem_mem hil)
        have hhit := treeEs_hit (l := l) (t := t) (ks := ks) (i := m) hno hil
        obtain ⟨E, hE⟩ : ∃ E, treeE l t ks[m] = E := ⟨_, rfl⟩
        rw [hE] at hi hhit
        generalize hy : ks[m] = y at hge hi
        obtain ⟨o2', r2', a2', k2'⟩ := y
        (first | refine au ?_ | exact au0)
        rw [hge]
        (first | refine au ?_ | exact au0)
        first | refine callF_eq (hi.frame _) ?_ | refine callG_eq rfl (hi.frame _) ?_
        (first | refine au ?_ | exact au0)
        refine bsplit_dec (fun c6 => ?_) (fun c6 => ?_)
        · rw [hhit c6]
          (first | refine au ?_ | exact au0)
          exact fz_of
        · (first | refine au ?_ | exact au0)
          refine nextN (by exact cov_of) (by exact sub_of) (by omega) (fun q h1 h2 => ?_)
          by_cases e : q < m
          · exact hno q h1 e
          · have : q = m := by omega
            subst this
            rw [hE]; exact Classical.not_not.1 c6
      · rw [treeEs_none (fun q h => hno q h (by omega))]
        (first | refine au ?_ | exact au0)
        exact fz_of
    · by_cases d1 : a.length = 0
      rotate_left
      · rw [show formB 5 rel a.length ks.length = false from Bool.eq_false_iff.2 fun q => by have w := formB_5 q rfl; omega, if_pos rfl]
        (first | refine au ?_ | exact au0)
        exact fz_of
      by_cases d2 : 2 ≤ ks.length
      rotate_left
      · rw [show formB 5 rel a.length ks.length = false from Bool.eq_false_iff.2 fun q => by have w := formB_5 q rfl; omega, if_pos rfl]
        (first | refine au ?_ | exact au0)
        exact fz_of
      rw [show formB 5 rel a.length ks.length = true from by unfold formB; rw [if_neg (by decide), if_neg (by decide), if_neg (by decide), if_neg (by decide), if_pos (by decide)]; exact decide_eq_true ⟨d1, d2⟩, if_neg (by simp)]
      rw [show testE l t 5 rel a = 0 from rfl, if_neg (by simp)]
      (first | refine au ?_ | exact au0)
      refine loopM (S := Unit) [(0, some _), (1, some _), (5, some _), (11, some _)] (fun _ => [(13, some (.int .i64 1))]) (fun _ => _) (fun _ => 0) (fun _ => True) () (by exact cov_of) (Sub.refl _) trivial (fun _ _ => ?_)
      (first | refine au ?_ | exact au0)
      refine loopM (S := Unit) [(0, some _), (1, some _), (5, some _), (11, some _)] (fun _ => [(15, some (.int .i64 0))]) (fun _ => _) (fun _ => 0) (fun _ => True) () (by exact cov_of) (Sub.refl _) trivial (fun _ _ => ?_)
      (first | refine au ?_ | exact au0)
      refine loopL [(0, some _), (1, some _), (5, some _), (11, some _)] 18 0 ks.length (fun m => ∀ q (h : q < ks.length), q < m → treeE l t ks[q] = 0) (by exact cov_of) (Nat.zero_le _) (fun q h1 h2 => absurd h2 (Nat.not_lt_zero _)) (fun m hm hno => ?_)
      (first | refine au ?_ | exact au0)
      refine bsplit_dec (fun c5 => ?_) (fun c5 => ?_)
      · have hil : m < ks.length := by omega
        have hge := exR_kid hil
        have hi := ih ks[m] (List.getElem_mem hil)
        have hhit := treeEs_hit (l := l) (t := t) (ks := ks) (i := m) hno hil
        obtain ⟨E, hE⟩ : ∃ E, treeE l t ks[m] = E := ⟨_, rfl⟩
        rw [hE] at hi hhit
        generalize hy : ks[m] = y at hge hi
        obtain ⟨o2', r2', a2', k2'⟩ := y
        (first | refine au ?_ | exact au0)
        rw [hge]
        (first | refine au ?_ | exact au0)
        first | refine callF_eq (hi.frame _) ?_ | refine callG_eq rfl (hi.frame _) ?_
        (first | refine au ?_ | exact au0)
        refine bsplit_dec (fun c6 => ?_) (fun c6 => ?_)
        · rw [hhit c6]
          (first | refine au ?_ | exact au0)
          exact fz_of
        · (first | refine au ?_ | exact au0)
          refine nextN (by exact cov_of) (by exact sub_of) (by omega) (fun q h1 h2 => ?_)
          by_cases e : q < m
          · exact hno q h1 e
          · have : q = m := by omega
            subst this
            rw [hE]; exact Classical.not_not.1 c6
      · rw [treeEs_none (fun q h => hno q h (by omega))]
        (first | refine au ?_ | exact au0)
        exact fz_of
    · by_cases d1 : a.length = 0
      rotate_left
      · rw [show formB 6 rel a.length ks.length = false from Bool.eq_false_iff.2 fun q => by have w := formB_6 q rfl; omega, if_pos rfl]
        (first | refine au ?_ | exact au0)
        exact fz_of
      by_cases d2 : 2 ≤ ks.length
      rotate_left
      · rw [show formB 6 rel a.length ks.length = false from Bool.eq_false_iff.2 fun q => by have w := formB_6 q rfl; omega, if_pos rfl]
        (first | refine au ?_ | exact au0)
        exact fz_of
      rw [show formB 6 rel a.length ks.length = true from by unfold formB; rw [if_neg (by decide), if_neg (by decide), if_neg (by decide), if_neg (by decide), if_pos (by decide)]; exact decide_eq_true ⟨d1, d2⟩, if_neg (by simp)]
      rw [show testE l t 6 rel a = 0 from rfl, if_neg (by simp)]
      (first | refine au ?_ | exact au0)
      refine loopM (S := Unit) [(0, some _), (1, some _), (5, some _), (11, some _)] (fun _ => [(13, some (.int .i64 1))]) (fun _ => _) (fun _ => 0) (fun _ => True) () (by exact cov_of) (Sub.refl _) trivial (fun _ _ => ?_)
      (first | refine au ?_ | exact au0)
      refine loopM (S := Unit) [(0, some _), (1, some _), (5, some _), (11, some _)] (fun _ => [(15, some (.int .i64 0))]) (fun _ => _) (fun _ => 0) (fun _ => True) () (by exact cov_of) (Sub.refl _) trivial (fun _ _ => ?_)
      (first | refine au ?_ | exact au0)
      refine loopL [(0, some _), (1, some _), (5, some _), (11, some _)] 18 0 ks.length (fun m => ∀ q (h : q < ks.length), q < m → treeE l t ks[q] = 0) (by exact cov_of) (Nat.zero_le _) (fun q h1 h2 => absurd h2 (Nat.not_lt_zero _)) (fun m hm hno => ?_)
      (first | refine au ?_ | exact au0)
      refine bsplit_dec (fun c5 => ?_) (fun c5 => ?_)
      · have hil : m < ks.length := by omega
        have hge := exR_kid hil
        have hi := ih ks[m] (List.getElem_mem hil)
        have hhit := treeEs_hit (l := l) (t := t) (ks := ks) (i := m) hno hil
        obtain ⟨E, hE⟩ : ∃ E, treeE l t ks[m] = E := ⟨_, rfl⟩
        rw [hE] at hi hhit
        generalize hy : ks[m] = y at hge hi
        obtain ⟨o2', r2', a2', k2'⟩ := y
        (first | refine au ?_ | exact au0)
        rw [hge]
        (first | refine au ?_ | exact au0)
        first | refine callF_eq (hi.frame _) ?_ | refine callG_eq rfl (hi.frame _) ?_
        (first | refine au ?_ | exact au0)
        refine bsplit_dec (fun c6 => ?_) (fun c6 => ?_)
        · rw [hhit c6]
          (first | refine au ?_ | exact au0)
          exact fz_of
        · (first | refine au ?_ | exact au0)
          refine nextN (by exact cov_of) (by exact sub_of) (by omega) (fun q h1 h2 => ?_)
          by_cases e : q < m
          · exact hno q h1 e
          · have : q = m := by omega
            subst this
            rw [hE]; exact Classical.not_not.1 c6
      · rw [treeEs_none (fun q h => hno q h (by omega))]
        (first | refine au ?_ | exact au0)
        exact fz_of
theorem r18_Check_spec (l : List Ty) (hl : TysOk l) (t : Int) (x : Ex) (hx : eT x) : ACalls PG broadsheetref18_Check.n [tysA l, .int .i64 t, exA x] [] fun r _ => r = .int .i64 (checkE l t x) := by
  have hlen : (l.map tyR).length = l.length := by simp
  have hll := hl.len
  have hC := fun H => r6_Check_spec l hl H
  have ht := r18_tree_spec l hl t _ x (Nat.lt_succ_self _) hx
  obtain ⟨op, rel, a, ks⟩ := x
  refine ACalls.fzK (broadsheetref18_Check.of rfl (wpF_start ?_))
  unfold checkE
  (first | refine au ?_ | exact au0)
  intro id3 hid3 ht3; have n3 := neAll_of hid3; (try simp only [neAll, neAll_hset] at n3); have m3 := n3; (repeat (obtain ⟨_, m3⟩ := m3))
  (first | refine au ?_ | exact au0)
  first | refine callF_eq (hC _) ?_ | refine callG_eq rfl (hC _) ?_
  (first | refine au ?_ | exact au0)
  by_cases hb : 0 ≤ t ∧ t < l.length
  · obtain ⟨h0, h1⟩ := hb
    by_cases hc : (tyChk l).1 = 0
    · rw [if_pos (show knownT l t from ⟨h0, h1, hc⟩)]
      (first | refine au ?_ | exact au0)
      first | refine callF_eq (ht.frame _) ?_ | refine callG_eq rfl (ht.frame _) ?_
      (first | refine au ?_ | exact au0)
      exact fz_of
    · rw [if_neg (fun q : knownT l t => hc q.2.2)]
      (first | refine au ?_ | exact au0)
      exact fz_of
  · rw [if_neg (fun q : knownT l t => hb ⟨q.1, q.2.1⟩)]
    (repeat' (first | (refine au ?_; first | refine bsplit_dec (fun _ => ?_) (fun _ => ?_) | refine bsplit_intro (fun _ => ?_) (fun _ => ?_)) | exact au0 | fail)); (all_goals try (first | refine au ?_ | fail))
    all_goals first | omega | exact fz_of
end Go.Proofs.YtjaigpidmngaaaaGreat

namespace Go.Proofs.YtjaigpidmngaaaaGreat
attribute [local irreducible] callA callP ACalls
def tksF (s : List UInt8) : Nat → Nat → Nat → TR
  | 0, a, n => .ok [(6, [], 0, s.length)]
  | k + 1, a, n => if a < s.length then
      if blnk (s.getD a 0) then tksF s k (a + 1) n
      else match lex (s.drop a) with
        | .bad e off => .bad e (a + off)
        | .tok kk t num m => if n = 64 then .bad 3 a else TR.pre [(kk, t, num, a)] (tksF s k (a + m) (n + 1))
    else .ok [(6, [], 0, s.length)]
theorem tks_fuel (s : List UInt8) : ∀ (k a n : Nat), s.length - a ≤ k → tks s a n = tksF s k a n
  | 0, a, n, h => by rw [tks_end (by omega)]; rfl
  | k + 1, a, n, h => by
    unfold tksF
    split
    · rename_i hl
      rw [tks_eq hl]
      split
      · exact tks_fuel s k _ n (by omega)
      · cases hx : lex (s.drop a) with
        | bad e off => rfl
        | tok kk t num m =>
          have := lex_bound hx
          dsimp only
          rw [tks_fuel s k _ _ (by omega)]
    · rw [tks_end (by omega)]
end Go.Proofs.YtjaigpidmngaaaaGreat

namespace Go.Proofs.YtjaigpidmngaaaaGreat
section
variable {P : Program} {rc : Bool} {n : Nat} {t e : TypeId}
def flOf (P : Program) (t : TypeId) : Option (List (Nat × Nat)) := match P.underlying t with
  | some (.struct fs) => some (fs.toList.map fun f => (f.offset, f.type))
  | _ => none
def slOf (P : Program) (t : TypeId) : Option TypeId := match P.underlying t with
  | some (.slice e) => some e
  | _ => none
def inOf (P : Program) (t : TypeId) : Option IntKind := match P.underlying t with
  | some (.int k) => some k
  | _ => none
def boOf (P : Program) (t : TypeId) : Bool := match P.underlying t with
  | some .bool => true
  | _ => false
def stOf (P : Program) (t : TypeId) : Bool := match P.underlying t with
  | some .string => true
  | _ => false
def fsh (sh : TypeId → Option Sh) : List (Nat × Nat × Nat) → Option Sh
  | [] => some .u
  | (_, _, t) :: r => (sh t).bind fun a => (fsh sh r).map (.p a)
def flC (P : Program) (t : TypeId) : Option (List (Nat × Nat × Nat)) := (flOf P t).map fun l => l.map fun x => (x.1, P.cellsOf x.2, x.2)
def offB : Nat → Nat → List (Nat × Nat × Nat) → Bool
  | tot, o, [] => Nat.beq o tot
  | tot, o, (a, c, _) :: r => Nat.beq a o && offB tot (o + c) r
theorem fsh_of (sh : TypeId → Option Sh) : ∀ (fs : List Field) (tot o : Nat), offB tot o (fs.map fun f => (f.offset, P.cellsOf f.type, f.type)) = true → fieldsSh P sh tot o fs = fsh sh (fs.map fun f => (f.offset, P.cellsOf f.type, f.type))
  | [], tot, o, h => by
    have : o = tot := Nat.eq_of_beq_eq_true h
    simp [fieldsSh, fsh, this]
  | f :: fs, tot, o, h => by
    simp only [List.map_cons, offB, Bool.and_eq_true] at h
    have h1 : f.offset = o := Nat.eq_of_beq_eq_true h.1
    have := fsh_of sh fs tot (o + P.cellsOf f.type) h.2
    simp only [fieldsSh, fsh, List.map_cons, if_pos h1, this]
theorem shO_struct {l : List (Nat × Nat × Nat)} (h : flC P t = some l) (ho : offB (P.cellsOf t) 0 l = true) : shO rc P (n + 1) t = fsh (shO rc P n) l := by
  unfold flC flOf at h
  split at h
  · rename_i fs hu
    simp only [Option.map_some, List.map_map, Option.some.injEq] at h
    subst h
    simp only [shO, hu]
    exact fsh_of _ _ _ _ ho
  · cases h
theorem shO_slice {c b : Nat} (h : slOf P t = some e) (hc : P.cellsOf e = c) (hb : P.bytesOf e = b) (h0 : 0 < c) : shO rc P (n + 1) t = (shO rc P n e).map (.slice c b) := by
  unfold slOf at h
  split at h
  · rename_i hu
    simp only [Option.some.injEq] at h
    subst h
    simp only [shO, hu, hc, hb, if_pos h0]
  · cases h
theorem shO_int {k : IntKind} (h : inOf P t = some k) : shO rc P (n + 1) t = some (.int k) := by
  unfold inOf at h
  split at h
  · rename_i hu
    simp only [Option.some.injEq] at h
    subst h
    simp only [shO, hu]
  · cases h
theorem shO_bool (h : boOf P t = true) : shO rc P (n + 1) t = some .bool := by
  unfold boOf at h
  split at h
  · rename_i hu
    simp only [shO, hu]
  · cases h
theorem shO_str (h : stOf P t = true) : shO rc P (n + 1) t = some .str := by
  unfold stOf at h
  split at h
  · rename_i hu
    simp only [shO, hu]
  · cases h
theorem fsh_some {sh : TypeId → Option Sh} : ∀ {l : List (Nat × Nat × Nat)}, (∀ x ∈ l, ∃ a, sh x.2.2 = some a) → ∃ a, fsh sh l = some a
  | [], _ => ⟨_, rfl⟩
  | x :: l, h => by
    obtain ⟨a, ha⟩ := h x List.mem_cons_self
    obtain ⟨b, hb⟩ := fsh_some (l := l) fun y hy => h y (List.mem_cons_of_mem _ hy)
    exact ⟨_, by simp only [fsh, ha, hb, Option.bind_some, Option.map_some]; rfl⟩
def clB (P : Program) (S : List Nat) : Bool := S.all fun t => match P.underlying t with
  | some .bool => true
  | some (.int _) => true
  | some .string => true
  | some (.struct fs) => (match flC P t with
    | some l => offB (P.cellsOf t) 0 l && l.all (fun x => S.contains x.2.2)
    | none => false)
  | some (.slice e) => Nat.ble 1 (P.cellsOf e) && S.contains e
  | _ => false
theorem clB_some {S : List Nat} (h : clB P S = true) : ∀ (n : Nat) (t : Nat), t ∈ S → ∃ sh, shO true P n t = some sh
  | 0, t, _ => ⟨.no, rfl⟩
  | n + 1, t, ht => by
    have q := List.all_eq_true.1 h t ht
    have ih := clB_some h n
    split at q <;> rename_i hu
    · exact ⟨_, by simp only [shO, hu]; rfl⟩
    · exact ⟨_, by simp only [shO, hu]; rfl⟩
    · exact ⟨_, by simp only [shO, hu]; rfl⟩
    · split at q
      · rename_i l hl
        simp only [Bool.and_eq_true, List.all_eq_true, List.contains_iff_mem] at q
        rw [shO_struct hl q.1]
        exact fsh_some fun x hx => ih _ (q.2 x hx)
      · cases q
    · simp only [Bool.and_eq_true, List.contains_iff_mem] at q
      obtain ⟨a, ha⟩ := ih _ q.2
      exact ⟨_, by simp only [shO, hu, if_pos (show 0 < P.cellsOf _ from Nat.le_of_ble_eq_true q.1), ha, Option.map_some]; rfl⟩
    · cases q
end
section
variable {P : Program} {m : Nat} {t e : TypeId} {a sh : Sh} {x vs : List AV}
theorem okInt {k : IntKind} (h : inOf P t = some k) (hs : shO true P m t = some a) (ho : a.OkN x) : ∃ n, x = [.int k n] ∧ k.min ≤ n ∧ n ≤ k.max := by
  cases m with
  | zero => simp only [shO, if_true, Option.some.injEq] at hs; subst hs; exact ho.elim
  | succ m =>
    rw [shO_int h] at hs
    simp only [Option.some.injEq] at hs; subst hs
    obtain ⟨n, h1, h2⟩ := ho
    simp only [Lit.wf, Bool.and_eq_true, decide_eq_true_eq] at h2
    exact ⟨n, h1, h2⟩
theorem okU64 (h : inOf P t = some .u64) (hs : shO true P m t = some a) (ho : a.OkN x) : ∃ n : Nat, x = [.int .u64 (n : Nat)] ∧ n < 18446744073709551616 := by
  obtain ⟨n, h1, h2, h3⟩ := okInt h hs ho
  have e1 : IntKind.min .u64 = 0 := rfl
  have e2 : IntKind.max .u64 = 18446744073709551615 := rfl
  rw [e1] at h2; rw [e2] at h3
  exact ⟨n.toNat, by rw [h1, Int.toNat_of_nonneg h2], by omega⟩
theorem okI64 (h : inOf P t = some .i64) (hs : shO true P m t = some a) (ho : a.OkN x) : ∃ n : Int, x = [.int .i64 n] ∧ -9223372036854775808 ≤ n ∧ n ≤ 9223372036854775807 := okInt h hs ho
theorem okBool (h : boOf P t = true) (hs : shO true P m t = some a) (ho : a.OkN x) : ∃ b, x = [.bool b] := by
  cases m with
  | zero => simp only [shO, if_true, Option.some.injEq] at hs; subst hs; exact ho.elim
  | succ m =>
    rw [shO_bool h] at hs
    simp only [Option.some.injEq] at hs; subst hs
    exact ho
theorem okStr (h : stOf P t = true) (hs : shO true P m t = some a) (ho : a.OkN x) : ∃ l : List UInt8, x = [.str l] ∧ l.length ≤ 140737488351232 := by
  cases m with
  | zero => simp only [shO, if_true, Option.some.injEq] at hs; subst hs; exact ho.elim
  | succ m =>
    rw [shO_str h] at hs
    simp only [Option.some.injEq] at hs; subst hs
    exact ho
theorem okSlice {c b : Nat} (h : slOf P t = some e) (hc : P.cellsOf e = c) (hb : P.bytesOf e = b) (h0 : 0 < c) (hs : shO true P m t = some a) (ho : a.OkN x) :
    ∃ l, x = [.rows c l] ∧ l.length * b ≤ 140737488351232 ∧ ∃ k a', m = k + 1 ∧ shO true P k e = some a' ∧ ∀ r ∈ l, a'.OkN r := by
  cases m with
  | zero => simp only [shO, if_true, Option.some.injEq] at hs; subst hs; exact ho.elim
  | succ m =>
    rw [shO_slice h hc hb h0] at hs
    simp only [Option.map_eq_some_iff] at hs
    obtain ⟨a', h1, rfl⟩ := hs
    obtain ⟨l, h2, h3, h4⟩ := ho
    exact ⟨l, h2, h3, m, a', rfl, h1, h4⟩
theorem okStruct {l : List (Nat × Nat × Nat)} (h : flC P t = some l) (ho : offB (P.cellsOf t) 0 l = true) (hs : shO true P m t = some a) (hk : a.OkN x) : ∃ k, m = k + 1 ∧ fsh (shO true P k) l = some a := by
  cases m with
  | zero => simp only [shO, if_true, Option.some.injEq] at hs; subst hs; exact hk.elim
  | succ m => exact ⟨m, rfl, by rw [← shO_struct h ho]; exact hs⟩
theorem okCons {s : TypeId → Option Sh} {o c : Nat} {r : List (Nat × Nat × Nat)} (h : fsh s ((o, c, t) :: r) = some sh) (hk : sh.OkN vs) :
    ∃ a x b y, s t = some a ∧ a.OkN x ∧ fsh s r = some b ∧ b.OkN y ∧ vs = x ++ y := by
  simp only [fsh, Option.bind_eq_some_iff, Option.map_eq_some_iff] at h
  obtain ⟨a, h1, b, h2, rfl⟩ := h
  obtain ⟨x, y, h3, h4, h5⟩ := hk
  exact ⟨a, x, b, y, h1, h4, h2, h5, h3⟩
theorem okNil {s : TypeId → Option Sh} (h : fsh s [] = some sh) (hk : sh.OkN vs) : vs = [] := by
  simp only [fsh, Option.some.injEq] at h
  subst h; exact hk
end
theorem rows_of {α : Type} {f : α → List AV} {Q : α → Prop} : ∀ {l : List (List AV)}, (∀ r ∈ l, ∃ x, r = f x ∧ Q x) → ∃ xs : List α, l = xs.map f ∧ ∀ x ∈ xs, Q x
  | [], _ => ⟨[], rfl, by simp⟩
  | r :: l, h => by
    obtain ⟨x, h1, h2⟩ := h r List.mem_cons_self
    obtain ⟨xs, h3, h4⟩ := rows_of (l := l) fun r hr => h r (List.mem_cons_of_mem _ hr)
    refine ⟨x :: xs, by rw [h1, h3]; rfl, fun y hy => ?_⟩
    rcases List.mem_cons.1 hy with rfl | hy
    · exact h2
    · exact h4 y hy
end Go.Proofs.YtjaigpidmngaaaaGreat

namespace Go.Proofs.YtjaigpidmngaaaaGreat
attribute [local irreducible] callA callP ACalls
theorem eOks_of : ∀ {l : List Ex}, (∀ x ∈ l, eOk x) → eOks l
  | [], _ => trivial
  | k :: ks, h => ⟨h k List.mem_cons_self, eOks_of fun x hx => h x (List.mem_cons_of_mem _ hx)⟩
theorem opd_fl : flC PG ty_api_Operand = some [(0, 1, ty_int), (1, 1, ty_string), (2, 1, ty_bool), (3, 1, ty_uint64)] := by kernel_rfl
theorem expr_fl : flC PG ty_api_Expr = some [(0, 1, ty_int), (1, 1, ty_int), (2, 1, ty_S_api_Operand), (3, 1, ty_S_api_Expr)] := by kernel_rfl
theorem opd_of {m : Nat} {sh : Sh} {vs : List AV} (hs : shO true PG m ty_api_Operand = some sh) (hk : sh.OkN vs) : ∃ o : Opd, vs = opR o ∧ o.t.length ≤ 140737488351232 := by
  obtain ⟨k, rfl, h1⟩ := okStruct opd_fl (by kernel_rfl) hs hk
  obtain ⟨_, _, _, _, a1, a2, h2, k2', rfl⟩ := okCons h1 hk
  obtain ⟨_, _, _, _, b1, b2, h3', k3', rfl⟩ := okCons h2 k2'
  obtain ⟨_, _, _, _, c1, c2, h4', k4', rfl⟩ := okCons h3' k3'
  obtain ⟨_, _, _, _, d1, d2, h5', k5', rfl⟩ := okCons h4' k4'
  have := okNil h5' k5'; subst this
  obtain ⟨n, rfl, _⟩ := okI64 (by kernel_rfl) a1 a2
  obtain ⟨s, rfl, hs⟩ := okStr (by kernel_rfl) b1 b2
  obtain ⟨b, rfl⟩ := okBool (by kernel_rfl) c1 c2
  obtain ⟨u, rfl, _⟩ := okU64 (by kernel_rfl) d1 d2
  exact ⟨⟨n, s, b, u⟩, rfl, hs⟩
theorem expr_of : ∀ (m : Nat) {sh : Sh} {vs : List AV} (_ : shO true PG m ty_api_Expr = some sh) (_ : sh.OkN vs), ∃ x : Ex, vs = exR x ∧ eOk x := by
  intro m
  induction m using Nat.strongRecOn with
  | _ m ih =>
  intro sh vs hs hk
  obtain ⟨k, rfl, h1⟩ := okStruct expr_fl (by kernel_rfl) hs hk
  obtain ⟨_, _, _, _, a1, a2, h2, k2', rfl⟩ := okCons h1 hk
  obtain ⟨_, _, _, _, b1, b2, h3', k3', rfl⟩ := okCons h2 k2'
  obtain ⟨_, _, _, _, c1, c2, h4', k4', rfl⟩ := okCons h3' k3'
  obtain ⟨_, _, _, _, d1, d2, h5', k5', rfl⟩ := okCons h4' k4'
  have := okNil h5' k5'; subst this
  obtain ⟨op, rfl, _⟩ := okI64 (by kernel_rfl) a1 a2
  obtain ⟨rel, rfl, _⟩ := okI64 (by kernel_rfl) b1 b2
  obtain ⟨l, rfl, hl, k1, s1, rfl, h3, h4⟩ := okSlice (e := ty_api_Operand) (c := 4) (b := 40) (by kernel_rfl) (by kernel_rfl) (by kernel_rfl) (by decide) c1 c2
  obtain ⟨l2, rfl, hl2, k2, s2, e2, h5, h6⟩ := okSlice (e := ty_api_Expr) (c := 4) (b := 64) (by kernel_rfl) (by kernel_rfl) (by kernel_rfl) (by decide) d1 d2
  obtain ⟨args, rfl, ha⟩ := rows_of (f := opR) fun r hr => opd_of h3 (h4 r hr)
  obtain ⟨kids, rfl, hkk⟩ := rows_of (f := exR) fun r hr => ih k2 (by omega) h5 (h6 r hr)
  rw [List.length_map] at hl hl2
  exact ⟨.mk op rel args kids, by rw [exR, exRs_map]; rfl, by omega, ha, by omega, eOks_of hkk⟩
def Shapes.ExprS : List Nat := [ty_api_Expr, ty_int, ty_string, ty_bool, ty_uint64, ty_S_api_Operand, ty_S_api_Expr, ty_api_Operand]
theorem expr_sh : ∀ n, ∃ sh, shO true PG n ty_api_Expr = some sh := fun n => clB_some (S := Shapes.ExprS) (by kernel_rfl) n _ (by simp [Shapes.ExprS])
theorem expr_arg {av : AV} (h : ∃ n sh, shO true PG n ty_api_Expr = some sh ∧ ArgOk true sh av) : ∃ x : Ex, Nw av (exA x) ∧ eOk x := by
  obtain ⟨n, sh, h1, h2⟩ := h
  obtain ⟨av', h3, h4⟩ := h2.nonil
  obtain ⟨vs, rfl, h5⟩ := h3
  obtain ⟨x, rfl, h6⟩ := expr_of n h1 h5
  exact ⟨x, h4, h6⟩
end Go.Proofs.YtjaigpidmngaaaaGreat

namespace Go.Proofs.YtjaigpidmngaaaaGreat
theorem item_fl : flC PG ty_api_Item = some [(0, 1, ty_string), (1, 1, ty_uint64), (2, 1, ty_int), (3, 1, ty_bool), (4, 1, ty_bool)] := by kernel_rfl
theorem type_fl : flC PG ty_api_Type = some [(0, 1, ty_int), (1, 1, ty_string), (2, 1, ty_int), (3, 1, ty_int), (4, 1, ty_int), (5, 1, ty_S_api_Item)] := by kernel_rfl
theorem item_of {m : Nat} {sh : Sh} {vs : List AV} (hs : shO true PG m ty_api_Item = some sh) (hk : sh.OkN vs) : ∃ x : It, vs = itR x ∧ x.nm.length ≤ 140737488351232 ∧ x.num < 18446744073709551616 := by
  obtain ⟨k, rfl, h1⟩ := okStruct item_fl (by kernel_rfl) hs hk
  obtain ⟨_, _, _, _, a1, a2, h2, k2, rfl⟩ := okCons h1 hk
  obtain ⟨_, _, _, _, b1, b2, h3, k3, rfl⟩ := okCons h2 k2
  obtain ⟨_, _, _, _, c1, c2, h4, k4, rfl⟩ := okCons h3 k3
  obtain ⟨_, _, _, _, d1, d2, h5, k5, rfl⟩ := okCons h4 k4
  obtain ⟨_, _, _, _, e1, e2, h6, k6, rfl⟩ := okCons h5 k5
  have := okNil h6 k6; subst this
  obtain ⟨s, rfl, hs⟩ := okStr (by kernel_rfl) a1 a2
  obtain ⟨u, rfl, hu⟩ := okU64 (by kernel_rfl) b1 b2
  obtain ⟨n, rfl, _⟩ := okI64 (by kernel_rfl) c1 c2
  obtain ⟨b, rfl⟩ := okBool (by kernel_rfl) d1 d2
  obtain ⟨b', rfl⟩ := okBool (by kernel_rfl) e1 e2
  exact ⟨⟨s, u, n, b, b'⟩, rfl, hs, hu⟩
theorem type_of {m : Nat} {sh : Sh} {vs : List AV} (hs : shO true PG m ty_api_Type = some sh) (hk : sh.OkN vs) : ∃ t : Ty, vs = tyR t ∧ TyOk t := by
  obtain ⟨k, rfl, h1⟩ := okStruct type_fl (by kernel_rfl) hs hk
  obtain ⟨_, _, _, _, a1, a2, h2, k2, rfl⟩ := okCons h1 hk
  obtain ⟨_, _, _, _, b1, b2, h3, k3, rfl⟩ := okCons h2 k2
  obtain ⟨_, _, _, _, c1, c2, h4, k4, rfl⟩ := okCons h3 k3
  obtain ⟨_, _, _, _, d1, d2, h5, k5, rfl⟩ := okCons h4 k4
  obtain ⟨_, _, _, _, e1, e2, h6, k6, rfl⟩ := okCons h5 k5
  obtain ⟨_, _, _, _, f1, f2, h7, k7, rfl⟩ := okCons h6 k6
  have := okNil h7 k7; subst this
  obtain ⟨kd, rfl, _⟩ := okI64 (by kernel_rfl) a1 a2
  obtain ⟨s, rfl, hs⟩ := okStr (by kernel_rfl) b1 b2
  obtain ⟨bd, rfl, _⟩ := okI64 (by kernel_rfl) c1 c2
  obtain ⟨el, rfl, _⟩ := okI64 (by kernel_rfl) d1 d2
  obtain ⟨tg, rfl, _⟩ := okI64 (by kernel_rfl) e1 e2
  obtain ⟨l, rfl, hl, k1, s1, _, h3', h4'⟩ := okSlice (e := ty_api_Item) (c := 5) (b := 40) (by kernel_rfl) (by kernel_rfl) (by kernel_rfl) (by decide) f1 f2
  obtain ⟨its, rfl, hi⟩ := rows_of (f := itR) fun r hr => item_of h3' (h4' r hr)
  rw [List.length_map] at hl
  exact ⟨⟨kd, s, bd, el, tg, its⟩, rfl, hs, by show its.length ≤ _; omega, fun x hx => (hi x hx).1, fun x hx => (hi x hx).2⟩
def Shapes.TypS : List Nat := [ty_S_api_Type, ty_api_Type, ty_int, ty_uint64, ty_string, ty_bool, ty_S_api_Item, ty_api_Item]
theorem types_sh : ∀ n, ∃ sh, shO true PG n ty_S_api_Type = some sh := fun n => clB_some (S := Shapes.TypS) (by kernel_rfl) n _ (by simp [Shapes.TypS])
theorem int_sh : ∀ n, ∃ sh, shO true PG n ty_int = some sh := fun n => clB_some (S := Shapes.TypS) (by kernel_rfl) n _ (by simp [Shapes.TypS])
theorem types_arg {av : AV} (h : ∃ n sh, shO true PG n ty_S_api_Type = some sh ∧ ArgOk false sh av) : ∃ l : List Ty, Nw av (tysA l) ∧ TysOk l := by
  obtain ⟨n, sh, h1, h2⟩ := h
  obtain ⟨av', h3, h4⟩ := h2.nonil
  obtain ⟨l, e, hl, k1, s1, e2, h5', h6'⟩ := okSlice (e := ty_api_Type) (c := 6) (b := 72) (by kernel_rfl) (by kernel_rfl) (by kernel_rfl) (by decide) h1 h3
  obtain ⟨ts, rfl, hi⟩ := rows_of (f := tyR) fun r hr => type_of h5' (h6' r hr)
  rw [List.length_map] at hl
  simp only [List.cons.injEq, and_true] at e
  subst e
  exact ⟨ts, h4, by omega, hi⟩
theorem int_arg {av : AV} (h : ∃ n sh, shO true PG n ty_int = some sh ∧ ArgOk false sh av) : ∃ n : Int, av = .int .i64 n ∧ -9223372036854775808 ≤ n ∧ n ≤ 9223372036854775807 := by
  obtain ⟨n, sh, h1, h2⟩ := h
  obtain ⟨av', h3, h4⟩ := h2.nonil
  obtain ⟨k, e, h5⟩ := okI64 (by kernel_rfl) h1 h3
  simp only [List.cons.injEq, and_true] at e
  subst e
  cases h4 with
  | refl _ => exact ⟨k, rfl, h5⟩
end Go.Proofs.YtjaigpidmngaaaaGreat

namespace Go.Proofs.YtjaigpidmngaaaaGreat
def nItR : List It → AV
  | [] => .nilS
  | x :: l => .rows 5 ((x :: l).map itR)
def ntyR (t : Ty) : List AV := [.int .i64 t.kd, .str t.nm, .int .i64 t.bd, .int .i64 t.el, .int .i64 t.tg, nItR t.its]
theorem nw_items (l : List It) : Nw (nItR l) (.rows 5 (l.map itR)) := by
  cases l with
  | nil => exact .nil 5
  | cons x l => exact .refl _
theorem nwl_ty (t : Ty) : NwL (ntyR t) (tyR t) := .cons (.refl _) (.cons (.refl _) (.cons (.refl _) (.cons (.refl _) (.cons (.refl _) (.cons (nw_items t.its) (.refl _))))))
theorem nw_map {α : Type} {f g : α → List AV} (h : ∀ x, NwL (f x) (g x)) (sz : Nat) (l : List α) : Nw (.rows sz (l.map f)) (.rows sz (l.map g)) := by
  refine .rows sz _ _ (by simp) (fun i r r' h1 h2 => ?_) (fun i r r' j v v' h1 h2 h3 h4 => ?_)
  · rw [List.getElem?_map, Option.map_eq_some_iff] at h1 h2
    obtain ⟨x, hx, rfl⟩ := h1
    obtain ⟨y, hy, rfl⟩ := h2
    rw [hx] at hy; cases hy
    exact (h x).1
  · rw [List.getElem?_map, Option.map_eq_some_iff] at h1 h2
    obtain ⟨x, hx, rfl⟩ := h1
    obtain ⟨y, hy, rfl⟩ := h2
    rw [hx] at hy; cases hy
    exact (h x).2 j v v' h3 h4
theorem nw_tys (l : List Ty) : Nw (.rows 6 (l.map ntyR)) (tysA l) := nw_map nwl_ty 6 l
end Go.Proofs.YtjaigpidmngaaaaGreat

namespace Go.Proofs.YtjaigpidmngaaaaGreat
attribute [local irreducible] callA callP ACalls
def awC : List Ty := [⟨2, [], 0, 0, 0, []⟩, ⟨10, [], 3, 0, 0, []⟩, ⟨13, [80], 0, 0, 0, [⟨[97], 0, 0, false, false⟩, ⟨[115], 0, 1, false, false⟩]⟩]
theorem awC_ok : TysOk awC := ⟨by decide, by
  intro t ht
  simp only [awC, List.mem_cons, List.not_mem_nil, or_false] at ht
  rcases ht with rfl | rfl | rfl
  all_goals exact ⟨by decide, by decide, by simp, by simp⟩⟩
def awS1 : List UInt8 := [97, 32, 61, 32, 39, 120, 39]
def awS2 : List UInt8 := [115, 32, 76, 73, 75, 69, 32, 39, 120, 39]
def awT1 : Ex := .mk 1 1 [⟨1, [97], false, 0⟩, ⟨3, [120], false, 0⟩] []
def awT2 : Ex := .mk 3 0 [⟨1, [115], false, 0⟩, ⟨3, [120], false, 0⟩] []
theorem awS1_eq : parseP awS1 = (awT1, 0, 0) := by
  rw [parseP_ok (l := [(1, [97], 0, 0), (5, [61], 0, 2), (3, [120], 0, 4), (6, [], 0, 7)]) (by
    unfold tokens
    rw [if_neg (by decide), tks_fuel awS1 7 0 0 (by decide)]
    kernel_rfl)]
  kernel_rfl
theorem awS2_eq : parseP awS2 = (awT2, 0, 0) := by
  rw [parseP_ok (l := [(1, [115], 0, 0), (1, [76, 73, 75, 69], 0, 2), (3, [120], 0, 7), (6, [], 0, 10)]) (by
    unfold tokens
    rw [if_neg (by decide), tks_fuel awS2 10 0 0 (by decide)]
    kernel_rfl)]
  kernel_rfl
theorem awC_known : knownT awC 2 := ⟨by decide, by decide, by kernel_rfl⟩
theorem one_pcs {c : UInt8} (h : ltr c = true) (h91 : c ≠ 91) : pcs [c] true = [([c], 0, true)] := by
  have hn : numP [c] = (0, 0) := by unfold numP; rw [if_pos (.inl (by simp))]
  have hl : nl [c] = 1 := by simp [nl, h]
  rw [pcs_item (r := [c]) (by simp) (by rw [hn]; simp) rfl, hl, if_neg (by decide), show List.drop 1 [c] = [] from rfl, pcs_end]
  rfl
theorem awC_a : findP awC 2 [97] = ([(false, 0)], 0, 0) := by
  unfold findP
  rw [if_pos awC_known, one_pcs (by decide) (by decide)]
  kernel_rfl
theorem awC_s : findP awC 2 [115] = ([(false, 1)], 1, 0) := by
  unfold findP
  rw [if_pos awC_known, one_pcs (by decide) (by decide)]
  kernel_rfl
theorem awC_1 : checkE awC 2 awT1 = 8 := by
  unfold checkE
  rw [if_pos awC_known]
  have h1 : whatO awC 2 ⟨1, [97], false, 0⟩ = ((1, 0), 0) := by
    unfold whatO
    rw [if_pos rfl]
    dsimp only
    rw [awC_a]
    kernel_rfl
  have h2 : whatO awC 2 ⟨3, [120], false, 0⟩ = ((2, 0), 0) := rfl
  simp only [awT1, treeE, List.map_cons, List.map_nil, h1, h2, fst0, formB, testE, togE, List.getD_cons_zero, List.getD_cons_succ]
  decide
theorem awC_2 : checkE awC 2 awT2 = 0 := by
  unfold checkE
  rw [if_pos awC_known]
  have h1 : whatO awC 2 ⟨1, [115], false, 0⟩ = ((2, 0), 0) := by
    unfold whatO
    rw [if_pos rfl]
    dsimp only
    rw [awC_s]
    kernel_rfl
  have h2 : whatO awC 2 ⟨3, [120], false, 0⟩ = ((2, 0), 0) := rfl
  simp only [awT2, treeE, treeEs, List.map_cons, List.map_nil, h1, h2, fst0, formB, testE, List.all_cons, List.all_nil]
  decide
theorem chk_awake_spec (H : AH) : ACalls PG broadsheetlaw18_awake.n [] H fun r H' => r = .bool true ∧ H' = H := by
  have h1 := fun H => (check_Check_spec awC awC_ok 2 awT1 (by simp [awT1, eT, eTs])).frame H
  have h2 := fun H => (check_Check_spec awC awC_ok 2 awT2 (by simp [awT2, eT, eTs])).frame H
  rw [awC_1] at h1
  rw [awC_2] at h2
  have n1 := fun H => (h1 H).nw (.cons (nw_tys awC) (.refl _))
  have n2 := fun H => (h2 H).nw (.cons (nw_tys awC) (.refl _))
  refine ACalls.fz (broadsheetlaw18_awake.of rfl (wpF_start ?_))
  (first | refine au ?_ | exact au0)
  refine callF_eq ((Parse_spec (s := awS1) (by decide)).frame _) ?_
  rw [awS1_eq]
  unfold awT1
  (first | refine au ?_ | exact au0)
  intro id3 hid3 ht3; have n3 := neAll_of hid3; (try simp only [neAll, neAll_hset] at n3); have m3 := n3; (repeat (obtain ⟨_, m3⟩ := m3))
  (first | refine au ?_ | exact au0)
  intro id4 hid4 ht4; have n4 := neAll_of hid4; (try simp only [neAll, neAll_hset] at n4); have m4 := n4; (repeat (obtain ⟨_, m4⟩ := m4))
  (first | refine au ?_ | exact au0)
  refine callF_eq ((Parse_spec (s := awS2) (by decide)).frame _) ?_
  rw [awS2_eq]
  unfold awT2
  (first | refine au ?_ | exact au0)
  intro id5 hid5 ht5; have n5 := neAll_of hid5; (try simp only [neAll, neAll_hset] at n5); have m5 := n5; (repeat (obtain ⟨_, m5⟩ := m5))
  (first | refine au ?_ | exact au0)
  intro id6 hid6 ht6; have n6 := neAll_of hid6; (try simp only [neAll, neAll_hset] at n6); have m6 := n6; (repeat (obtain ⟨_, m6⟩ := m6))
  (first | refine au ?_ | exact au0)
  first | refine callF_eq (n1 _) ?_ | refine callG_eq rfl (n1 _) ?_
  (first | refine au ?_ | exact au0)
  first | refine callF_eq (n2 _) ?_ | refine callG_eq rfl (n2 _) ?_
  (first | refine au ?_ | exact au0)
  exact ⟨fz_of, sub_of⟩
theorem CheckTells_spec (l : List Ty) (hl : TysOk l) (t : Int) (x : Ex) (hx : eOk x) : ACalls PG broadsheetlaw18_CheckTells.n [tysA l, .int .i64 t, exA x] [] fun r _ => r = .bool true := by
  have hg := fun H => tGreat_spec l hl H
  have hm := Great_spec _ x 0 (Nat.lt_succ_self _) hx (by omega)
  have h1 := fun q => check_Check_spec l hl t x q
  have h2 := fun q => r18_Check_spec l hl t x q
  have hT := @eT_much x 0
  generalize checkE l t x = e at *
  generalize tyGreat l = a at *
  generalize eMuch x 0 = b at *
  refine ACalls.fzK (broadsheetlaw18_CheckTells.of rfl (wpF_start ?_))
  obtain ⟨op, rel, ag, ks⟩ := x
  (first | refine au ?_ | exact au0)
  intro id3 hid3 ht3; have n3 := neAll_of hid3; (try simp only [neAll, neAll_hset] at n3); have m3 := n3; (repeat (obtain ⟨_, m3⟩ := m3))
  (first | refine au ?_ | exact au0)
  first | refine callF_eq (hg _) ?_ | refine callG_eq rfl (hg _) ?_
  cases a
  rotate_left
  · (first | refine au ?_ | exact au0)
    first | refine callF_eq (chk_awake_spec _) ?_ | refine callG_eq rfl (chk_awake_spec _) ?_
    (first | refine au ?_ | exact au0)
    exact fz_of
  (first | refine au ?_ | exact au0)
  first | refine callF_eq (hm.frame _) ?_ | refine callG_eq rfl (hm.frame _) ?_
  cases b
  rotate_left
  · (first | refine au ?_ | exact au0)
    first | refine callF_eq (chk_awake_spec _) ?_ | refine callG_eq rfl (chk_awake_spec _) ?_
    (first | refine au ?_ | exact au0)
    exact fz_of
  (first | refine au ?_ | exact au0)
  first | refine callF_eq ((h1 (hT rfl)).frame _) ?_ | refine callG_eq rfl ((h1 (hT rfl)).frame _) ?_
  (first | refine au ?_ | exact au0)
  first | refine callF_eq ((h2 (hT rfl)).frame _) ?_ | refine callG_eq rfl ((h2 (hT rfl)).frame _) ?_
  (first | refine au ?_ | exact au0)
  first | refine callF_eq (chk_awake_spec _) ?_ | refine callG_eq rfl (chk_awake_spec _) ?_
  (first | refine au ?_ | exact au0)
  exact fz_of
theorem CheckTells_row (a0 : AV) (h0 : ∃ n sh, shO true PG n ty_S_api_Type = some sh ∧ ArgOk false sh a0) (a1 : AV) (h1 : ∃ n sh, shO true PG n ty_int = some sh ∧ ArgOk false sh a1) (a2 : AV) (h2 : ∃ n sh, shO true PG n ty_api_Expr = some sh ∧ ArgOk true sh a2) : ACalls PG broadsheetlaw18_CheckTells.n [a0, a1, a2] [] fun r _ => r = .bool true := by
  obtain ⟨l, q0, hl⟩ := types_arg h0
  obtain ⟨t, rfl, _⟩ := int_arg h1
  obtain ⟨x, q2, hx⟩ := expr_arg h2
  exact (CheckTells_spec l hl t x hx).nw (.cons q0 (.cons (.refl _) (.cons q2 (.refl _))))
end Go.Proofs.YtjaigpidmngaaaaGreat

namespace Go.Proofs.YtjaigpidmngaaaaGreat
def at1 (l : List Ty) (t : Int) (x : Bool × Int) (v : Vl) : Option (Int × Vl) :=
  if x.1 ≠ kEl (tAt l t).kd ∨ (x.1 = false ∧ kIt (tAt l t).kd = false) ∨ x.2 < 0 then none
  else if x.1 = false ∧ ((tAt l t).its.length : Int) ≤ x.2 then none
  else
    let to := if x.1 = true then (tAt l t).el else ((tAt l t).its.getD x.2.toNat it0).ty
    if (tAt l t).kd = 14 then (if brIx l t v.num = some x.2.toNat then (match v.its with | [] => none | w :: _ => some (to, w)) else none)
    else (v.its[x.2.toNat]?).map fun w => (to, w)
end Go.Proofs.YtjaigpidmngaaaaGreat

namespace Go.Proofs.YtjaigpidmngaaaaGreat
attribute [local irreducible] callA callP ACalls
structure Dat where
  kd : Int
  ng : Bool
  nu : Nat
  tx : List UInt8
abbrev datR (d : Dat) : List AV := [.int .i64 d.kd, .bool d.ng, .int .u64 (d.nu : Nat), .str d.tx]
abbrev datA (d : Dat) : AV := .agg (datR d)
def datK (k : Int) (n : Nat) : Dat :=
  if isNum k = false then ⟨0, false, 0, []⟩
  else if k = 1 then ⟨3, false, n % 2, []⟩
  else if sgK k = true ∧ sgnI (szK k) n < 0 then ⟨1, true, (-(sgnI (szK k) n)).toNat, []⟩
  else ⟨1, false, upK k n, []⟩
theorem upK_lt (k : Int) (n : Nat) : upK k n < 18446744073709551616 := by
  unfold upK
  split
  · unfold wide; omega
  · unfold lowK lowN
    split
    · omega
    · rename_i h
      have h2 := szK_five k
      rcases h2 with h2 | h2 | h2 | h2 | h2
      · exact absurd h2 h
      all_goals rw [h2]; omega
theorem and_one (x : Nat) (h : x < 18446744073709551616) : bitsV .and .u64 ((x : Nat) : Int) 1 = ((x % 2 : Nat) : Int) := by
  have e1 : (BitVec.ofInt 64 ((x : Nat) : Int)).toNat = x := by rw [BitVec.toNat_ofInt]; omega
  show IntKind.u64.wrap ((BitVec.ofInt 64 ((x : Nat) : Int) &&& BitVec.ofInt 64 1).toNat : Int) = _
  rw [BitVec.toNat_and, e1, show (BitVec.ofInt 64 1).toNat = 2 ^ 1 - 1 from by decide, Nat.and_two_pow_sub_one_eq_mod, wrap_u64]
  omega
theorem prim_Datum_spec (k : Int) (n : Nat) (H : AH) : ACalls PG prim_Datum.n [.int .i64 k, .int .u64 (n : Nat)] H fun r H' => r = datA (datK k n) ∧ H' = H := by
  refine ACalls.fz (prim_Datum.of rfl (wpF_start ?_))
  (first | refine au ?_ | exact au0)
  intro id4 hid4 ht4; have n4 := neAll_of hid4; (try simp only [neAll, neAll_hset] at n4); have m4 := n4; (repeat (obtain ⟨_, m4⟩ := m4))
  (first | refine au ?_ | exact au0)
  first | refine callF_eq (prim_Up_spec k n _) ?_ | refine callG_eq rfl (prim_Up_spec k n _) ?_
  (first | refine au ?_ | exact au0)
  first | refine callF_eq (prim_Number_spec _ _) ?_ | refine callG_eq rfl (prim_Number_spec _ _) ?_
  unfold datK
  cases h : isNum k with
  | false =>
    (first | refine au ?_ | exact au0)
    exact ⟨fz_of, sub_of⟩
  | true =>
    rw [if_neg (by simp)]
    by_cases h1 : k = 1
    · subst h1
      have e : bitsV .and .u64 ((upK 1 n : Nat) : Int) 1 = ((n % 2 : Nat) : Int) := by
        rw [and_one _ (upK_lt 1 n), show upK 1 n = n % 256 from rfl]; omega
      rw [if_pos rfl]
      (first | refine au ?_ | exact au0)
      rw [e]
      exact ⟨fz_of, sub_of⟩
    · rw [if_neg h1]
      (first | refine au ?_ | exact au0)
      first | refine callF_eq (prim_Signed_spec _ _) ?_ | refine callG_eq rfl (prim_Signed_spec _ _) ?_
      cases hs : sgK k with
      | false =>
        (first | refine au ?_ | exact au0)
        exact ⟨fz_of, sub_of⟩
      | true =>
        (first | refine au ?_ | exact au0)
        have hb := szK_num h
        have hr := sgnI_range hb n
        refine rng_id (show IntKind.i64.wrap ((upK k n : Nat) : Int) = sgnI (szK k) n from by rw [upK, if_pos hs, wrap_i64]; unfold wide; omega) ?_
        (first | refine au ?_ | exact au0)
        refine bsplit_dec (fun c => ?_) (fun c => ?_)
        · rw [if_pos ⟨rfl, c⟩]
          (first | refine au ?_ | exact au0)
          rw [show IntKind.u64.wrap (0 - ((upK k n : Nat) : Int)) = (((-(sgnI (szK k) n)).toNat : Nat) : Int) from by rw [upK, if_pos hs, wrap_u64]; unfold wide; omega]
          exact ⟨fz_of, sub_of⟩
        · rw [if_neg (fun q => c q.2)]
          (first | refine au ?_ | exact au0)
          exact ⟨fz_of, sub_of⟩
end Go.Proofs.YtjaigpidmngaaaaGreat

namespace Go.Proofs.YtjaigpidmngaaaaGreat
abbrev dat0 : Dat := ⟨0, false, 0, []⟩
def chkD (l : List Ty) (t : Int) (o b : Opd) : Dat :=
  if o.k = 2 then ⟨1, o.neg && decide (0 < o.num), o.num, []⟩
  else if o.k = 4 then ⟨3, false, o.num, []⟩
  else if o.k = 3 then
    (if b.k = 1 ∧ 0 < (whatK l (findP l t b.t)).1.2 then
      (match itemIx l ((whatK l (findP l t b.t)).1.2 - 1) o.t with
        | some n => datK 9 ((tAt l ((whatK l (findP l t b.t)).1.2 - 1)).its.getD n it0).num
        | none => ⟨2, false, 0, o.t⟩)
     else ⟨2, false, 0, o.t⟩)
  else dat0
end Go.Proofs.YtjaigpidmngaaaaGreat

namespace Go.Proofs.YtjaigpidmngaaaaGreat
attribute [local irreducible] callA callP ACalls
theorem lowN_lt {b : Nat} (hb : b = 1 ∨ b = 2 ∨ b = 4 ∨ b = 8) (n : Nat) : lowN b n < 2 * hlf b := by
  unfold lowN
  rcases hlf_eq hb with ⟨rfl, e⟩ | ⟨rfl, e⟩ | ⟨rfl, e⟩ | ⟨rfl, e⟩
  all_goals rw [e]; omega
theorem sgnI_hlf {b : Nat} (hb : b = 1 ∨ b = 2 ∨ b = 4 ∨ b = 8) (n : Nat) : sgnI b n = if lowN b n < hlf b then (lowN b n : Int) else (lowN b n : Int) - 2 * hlf b := by
  unfold sgnI
  rcases hlf_eq hb with ⟨rfl, e⟩ | ⟨rfl, e⟩ | ⟨rfl, e⟩ | ⟨rfl, e⟩
  all_goals rw [e]; rfl
theorem r1_Sign_spec (b n : Nat) (hb : b = 1 ∨ b = 2 ∨ b = 4 ∨ b = 8) (hn : n < 18446744073709551616) (H : AH) : ACalls PG broadsheetref01_Sign.n [.int .u64 (n : Nat), .int .i64 (b : Nat)] H fun r H' => r = .int .i64 (sgnI b n) ∧ H' = H := by
  have hl := lowN_lt hb n
  rw [sgnI_hlf hb]
  have hh : 1 ≤ hlf b ∧ hlf b ≤ 9223372036854775808 := by rcases hlf_eq hb with ⟨rfl, e⟩ | ⟨rfl, e⟩ | ⟨rfl, e⟩ | ⟨rfl, e⟩ <;> rw [e] <;> omega
  refine ACalls.fz (broadsheetref01_Sign.of rfl (wpF_start ?_))
  (first | refine au ?_ | exact au0)
  first | refine callF_eq (r1_Sized_spec _ _) ?_ | refine callG_eq rfl (r1_Sized_spec _ _) ?_
  rw [decide_eq_true (by omega)]
  (first | refine au ?_ | exact au0)
  first | refine callF_eq (r1_Low_spec b n hb hn _) ?_ | refine callG_eq rfl (r1_Low_spec b n hb hn _) ?_
  (first | refine au ?_ | exact au0)
  first | refine callF_eq (r1_half_spec b (by omega) (by omega) _) ?_ | refine callG_eq rfl (r1_half_spec b (by omega) (by omega) _) ?_
  generalize lowN b n = m at *
  generalize hlf b = h at *
  (first | refine au ?_ | exact au0)
  refine bsplit_dec (fun c => ?_) (fun c => ?_)
  · rw [if_pos (by omega)]
    (first | refine au ?_ | exact au0)
    exact ⟨fz_of, sub_of⟩
  · rw [if_neg (by omega)]
    (first | refine au ?_ | exact au0)
    refine ⟨fz_eq (congrArg (AV.int .i64) (by omega)), sub_of⟩
theorem r5_Datum_spec (k : Int) (n : Nat) (hn : n < 18446744073709551616) (H : AH) : ACalls PG broadsheetref05_Datum.n [.int .i64 k, .int .u64 (n : Nat)] H fun r H' => r = datA (datK k n) ∧ H' = H := by
  refine ACalls.fz (broadsheetref05_Datum.of rfl (wpF_start ?_))
  (first | refine au ?_ | exact au0)
  intro id4 hid4 ht4; have n4 := neAll_of hid4; (try simp only [neAll, neAll_hset] at n4); have m4 := n4; (repeat (obtain ⟨_, m4⟩ := m4))
  (first | refine au ?_ | exact au0)
  first | refine callF_eq (r5_Number_spec _ _) ?_ | refine callG_eq rfl (r5_Number_spec _ _) ?_
  unfold datK
  cases h : isNum k with
  | false =>
    (first | refine au ?_ | exact au0)
    exact ⟨fz_of, sub_of⟩
  | true =>
    have e0 : ¬ (true = false) := by decide
    by_cases h1 : k = 1
    · subst h1
      simp only [if_neg e0, if_pos rfl]
      (first | refine au ?_ | exact au0)
      exact ⟨fz_of, sub_of⟩
    · simp only [if_neg e0, if_neg h1]
      (first | refine au ?_ | exact au0)
      first | refine callF_eq (r5_Signed_spec _ _) ?_ | refine callG_eq rfl (r5_Signed_spec _ _) ?_
      have hu : upK k n = if sgK k = true then wide (sgnI (szK k) n) else lowK k n := rfl
      cases hs : sgK k with
      | false =>
        rw [hs, if_neg (by decide)] at hu
        rw [if_neg (fun q => by cases q.1), hu]
        (first | refine au ?_ | exact au0)
        first | refine callF_eq (r5_Low_spec k n hn _) ?_ | refine callG_eq rfl (r5_Low_spec k n hn _) ?_
        (first | refine au ?_ | exact au0)
        exact ⟨fz_of, sub_of⟩
      | true =>
        rw [hs, if_pos rfl] at hu
        have hb := szK_num h
        have hr := sgnI_range hb n
        (first | refine au ?_ | exact au0)
        first | refine callF_eq (r5_Size_spec _ _) ?_ | refine callG_eq rfl (r5_Size_spec _ _) ?_
        (first | refine au ?_ | exact au0)
        first | refine callF_eq (r1_Sign_spec (szK k) n hb hn _) ?_ | refine callG_eq rfl (r1_Sign_spec (szK k) n hb hn _) ?_
        unfold wide at hu
        generalize sgnI (szK k) n = m at *
        (first | refine au ?_ | exact au0)
        refine bsplit_dec (fun c => ?_) (fun c => ?_)
        · rw [if_pos ⟨rfl, c⟩]
          (first | refine au ?_ | exact au0)
          refine rng_id (n := -(m + 1)) (by rw [show IntKind.i64.wrap (0 - (m + 1)) = -(m + 1) from (wrap_id (by omega) (by omega)).trans (by omega), wrap_u64]; omega) ?_
          (first | refine au ?_ | exact au0)
          refine ⟨fz_eq ?_, sub_of⟩
          have : -(m + 1) + 1 = (((-m).toNat : Nat) : Int) := by omega
          simp only [datA, datR, ← this]
          rfl
        · rw [if_neg (fun q => c q.2), hu]
          (first | refine au ?_ | exact au0)
          refine ⟨fz_eq ?_, sub_of⟩
          have : (((m % 18446744073709551616).toNat : Nat) : Int) = m := by omega
          simp only [datA, datR, this]
          rfl
end Go.Proofs.YtjaigpidmngaaaaGreat

namespace Go.Proofs.YtjaigpidmngaaaaGreat
attribute [local irreducible] callA callP ACalls
theorem whatK_err {l : List Ty} {f : List (Bool × Nat) × Int × Int} (h : 0 < (whatK l f).1.2) : (whatK l f).2 = 0 := by
  unfold whatK at h ⊢
  repeat' split at h
  all_goals first | (dsimp only at h; omega) | skip
  rename_i c c9
  rw [if_neg c, if_pos c9]
theorem check_Datum_spec (l : List Ty) (hl : TysOk l) (t : Int) (o b : Opd) (hs : b.t.length ≤ 1000000) (H : AH) : ACalls PG check_Datum.n [tysA l, .int .i64 t, opA o, opA b] H fun r H' => r = datA (chkD l t o b) ∧ H' = H := by
  have hlen : (l.map tyR).length = l.length := by simp
  have hll := hl.len
  have hat := fun H => plan_at_spec l hl t b.t hs H
  have hw := whK_wh l t b.t
  have hke := @whatK_err l (findP l t b.t)
  have hi := fun n H => Item_spec l hl n o.t H
  refine ACalls.fz (check_Datum.of rfl (wpF_start ?_))
  unfold chkD
  generalize whatK l (findP l t b.t) = w at *
  (first | refine au ?_ | exact au0)
  intro id4 hid4 ht4; have n4 := neAll_of hid4; (try simp only [neAll, neAll_hset] at n4); have m4 := n4; (repeat (obtain ⟨_, m4⟩ := m4))
  clear hid4
  (first | refine au ?_ | exact au0)
  intro id5 hid5 ht5; have n5 := neAll_of hid5; (try simp only [neAll, neAll_hset] at n5); have m5 := n5; (repeat (obtain ⟨_, m5⟩ := m5))
  clear hid5
  (first | refine au ?_ | exact au0)
  intro id6 hid6 ht6; have n6 := neAll_of hid6; (try simp only [neAll, neAll_hset] at n6); have m6 := n6; (repeat (obtain ⟨_, m6⟩ := m6))
  clear hid6
  (first | refine au ?_ | exact au0)
  by_cases c2 : o.k = 2
  · rw [if_pos c2]
    obtain ⟨ok, ot, og, on⟩ := o
    dsimp only at c2 ⊢
    cases og
    · (first | refine au ?_ | exact au0)
      exact ⟨fz_of, sub_of⟩
    · rw [show (true && decide (0 < on)) = decide ((0 : Int) < (on : Nat)) from by rw [Bool.true_and]; exact decide_eq_decide.2 (by omega)]
      (first | refine au ?_ | exact au0)
      exact ⟨fz_of, sub_of⟩
  rw [if_neg c2]
  by_cases c4 : o.k = 4
  · rw [if_pos c4]
    (first | refine au ?_ | exact au0)
    exact ⟨fz_of, sub_of⟩
  rw [if_neg c4]
  by_cases c3 : o.k = 3
  rotate_left
  · rw [if_neg c3]
    (first | refine au ?_ | exact au0)
    exact ⟨fz_of, sub_of⟩
  rw [if_pos c3]
  by_cases cb : b.k = 1
  rotate_left
  · rw [if_neg (fun q => cb q.1)]
    (first | refine au ?_ | exact au0)
    exact ⟨fz_of, sub_of⟩
  obtain ⟨⟨wk, wo⟩, we⟩ := w
  have hw0 := hw.h0
  have hw1 := hw.h1
  dsimp only at hke hw0 hw1 ⊢
  (first | refine au ?_ | exact au0)
  first | refine callF_eq (hat _) ?_ | refine callG_eq rfl (hat _) ?_
  (first | refine au ?_ | exact au0)
  intro id14 hid14 ht14; have n14 := neAll_of hid14; (try simp only [neAll, neAll_hset] at n14); have m14 := n14; (repeat (obtain ⟨_, m14⟩ := m14))
  clear hid14
  (first | refine au ?_ | exact au0)
  by_cases cw : 0 < wo
  rotate_left
  · rw [if_neg (fun q => cw q.2)]
    by_cases ce : we = 0
    · (first | refine au ?_ | exact au0)
      exact ⟨fz_of, sub_of⟩
    · (first | refine au ?_ | exact au0)
      exact ⟨fz_of, sub_of⟩
  rw [if_pos ⟨cb, cw⟩]
  have ce := hke cw
  clear hke
  have hi := fun H => hi (wo - 1) H
  have hii := fun n => @itemIx_lt l (wo - 1) o.t n
  have hge := tAt_get (l := l) (t := wo - 1) (by omega) (by omega)
  have hti := (hl.all _ (tAt_mem (l := l) (t := wo - 1) (by omega) (by omega))).its
  have hnm := fun n (q : n < (tAt l (wo - 1)).its.length) => (hl.all _ (tAt_mem (l := l) (t := wo - 1) (by omega) (by omega))).nums _ (List.getElem_mem q)
  generalize itemIx l (wo - 1) o.t = ix at *
  generalize tAt l (wo - 1) = g at *
  cases ix with
  | none =>
    (first | refine au ?_ | exact au0)
    first | refine callF_eq (hi _) ?_ | refine callG_eq rfl (hi _) ?_
    (first | refine au ?_ | exact au0)
    exact ⟨fz_of, sub_of⟩
  | some n =>
    have hii := hii n rfl
    have hge2 := row_get (f := itR) hii
    have hlen2 : (g.its.map itR).length = g.its.length := by simp
    dsimp only
    rw [show g.its.getD n it0 = g.its[n] from by simp [List.getD, hii]]
    (first | refine au ?_ | exact au0)
    first | refine callF_eq (hi _) ?_ | refine callG_eq rfl (hi _) ?_
    (first | refine au ?_ | exact au0)
    rw [hge]
    (first | refine au ?_ | exact au0)
    rw [hge2]
    (first | refine au ?_ | exact au0)
    first | refine callF_eq (prim_Datum_spec 9 g.its[n].num _) ?_ | refine callG_eq rfl (prim_Datum_spec 9 g.its[n].num _) ?_
    (first | refine au ?_ | exact au0)
    exact ⟨fz_of, sub_of⟩
theorem r18_Datum_spec (l : List Ty) (hl : TysOk l) (t : Int) (o b : Opd) (hs : b.t.length ≤ 1000000) (H : AH) : ACalls PG broadsheetref18_Datum.n [tysA l, .int .i64 t, opA o, opA b] H fun r H' => r = datA (chkD l t o b) ∧ H' = H := by
  have hlen : (l.map tyR).length = l.length := by simp
  have hll := hl.len
  have hat := fun H => What_spec l hl t b hs H
  have hw := whO_wh l t b
  have hke := @whatK_err l (findP l t b.t)
  have hi := fun n H => r6_Item_spec l hl n o.t H
  refine ACalls.fz (broadsheetref18_Datum.of rfl (wpF_start ?_))
  unfold chkD
  (first | refine au ?_ | exact au0)
  intro id4 hid4 ht4; have n4 := neAll_of hid4; (try simp only [neAll, neAll_hset] at n4); have m4 := n4; (repeat (obtain ⟨_, m4⟩ := m4))
  clear hid4
  (first | refine au ?_ | exact au0)
  intro id5 hid5 ht5; have n5 := neAll_of hid5; (try simp only [neAll, neAll_hset] at n5); have m5 := n5; (repeat (obtain ⟨_, m5⟩ := m5))
  clear hid5
  (first | refine au ?_ | exact au0)
  intro id6 hid6 ht6; have n6 := neAll_of hid6; (try simp only [neAll, neAll_hset] at n6); have m6 := n6; (repeat (obtain ⟨_, m6⟩ := m6))
  clear hid6
  (first | refine au ?_ | exact au0)
  by_cases c2 : o.k = 2
  · rw [if_pos c2]
    obtain ⟨ok, ot, og, on⟩ := o
    dsimp only at c2 ⊢
    cases og
    · (first | refine au ?_ | exact au0)
      exact ⟨fz_of, sub_of⟩
    · rw [show (true && decide (0 < on)) = decide ((on : Nat) ≠ (0 : Int)) from by rw [Bool.true_and]; exact decide_eq_decide.2 (by omega)]
      (first | refine au ?_ | exact au0)
      exact ⟨fz_of, sub_of⟩
  rw [if_neg c2]
  by_cases c4 : o.k = 4
  · rw [if_pos c4]
    (first | refine au ?_ | exact au0)
    exact ⟨fz_of, sub_of⟩
  rw [if_neg c4]
  by_cases c3 : o.k = 3
  rotate_left
  · rw [if_neg c3]
    (first | refine au ?_ | exact au0)
    exact ⟨fz_of, sub_of⟩
  rw [if_pos c3]
  by_cases cb : b.k = 1
  rotate_left
  · rw [if_neg (fun q => cb q.1)]
    (first | refine au ?_ | exact au0)
    exact ⟨fz_of, sub_of⟩
  have hat2 : whatO l t b = whatK l (findP l t b.t) := by unfold whatO; rw [if_pos cb]
  rw [hat2] at hat hw
  generalize whatK l (findP l t b.t) = w at *
  obtain ⟨⟨wk, wo⟩, we⟩ := w
  have hw0 := hw.h0
  have hw1 := hw.h1
  have hw3 := hw.h3
  clear hat2 hw
  unfold whR whN at hat
  dsimp only at hke hw0 hw1 hw3 hat ⊢
  by_cases cw : 0 < wo
  rotate_left
  · rw [if_neg (fun q => cw q.2)]
    rw [if_neg cw] at hat
    (first | refine au ?_ | exact au0)
    first | refine callF_eq (hat _) ?_ | refine callG_eq rfl (hat _) ?_
    (first | refine au ?_ | exact au0)
    exact ⟨fz_of, sub_of⟩
  rw [if_pos ⟨cb, cw⟩]
  rw [if_pos cw] at hat
  clear hke
  have hi := fun H => hi (wo - 1) H
  have hii := fun n => @itemIx_lt l (wo - 1) o.t n
  have hge := tAt_get (l := l) (t := wo - 1) (by omega) (by omega)
  have hti := (hl.all _ (tAt_mem (l := l) (t := wo - 1) (by omega) (by omega))).its
  have hnm := fun n (q : n < (tAt l (wo - 1)).its.length) => (hl.all _ (tAt_mem (l := l) (t := wo - 1) (by omega) (by omega))).nums _ (List.getElem_mem q)
  generalize itemIx l (wo - 1) o.t = ix at *
  generalize tAt l (wo - 1) = g at *
  have e1 : wo + 3 - 4 = wo - 1 := by omega
  cases ix with
  | none =>
    (first | refine au ?_ | exact au0)
    first | refine callF_eq (hat _) ?_ | refine callG_eq rfl (hat _) ?_
    (first | refine au ?_ | exact au0)
    rw [e1]
    first | refine callF_eq (hi _) ?_ | refine callG_eq rfl (hi _) ?_
    (first | refine au ?_ | exact au0)
    exact ⟨fz_of, sub_of⟩
  | some n =>
    have hii := hii n rfl
    have hnm := hnm n hii
    have hge2 := row_get (f := itR) hii
    have hlen2 : (g.its.map itR).length = g.its.length := by simp
    dsimp only
    rw [show g.its.getD n it0 = g.its[n] from by simp [List.getD, hii]]
    (first | refine au ?_ | exact au0)
    first | refine callF_eq (hat _) ?_ | refine callG_eq rfl (hat _) ?_
    (first | refine au ?_ | exact au0)
    rw [e1]
    first | refine callF_eq (hi _) ?_ | refine callG_eq rfl (hi _) ?_
    (first | refine au ?_ | exact au0)
    rw [e1, hge]
    (first | refine au ?_ | exact au0)
    rw [hge2]
    (first | refine au ?_ | exact au0)
    first | refine callF_eq (r5_Datum_spec 9 g.its[n].num hnm _) ?_ | refine callG_eq rfl (r5_Datum_spec 9 g.its[n].num hnm _) ?_
    (first | refine au ?_ | exact au0)
    exact ⟨fz_of, sub_of⟩
end Go.Proofs.YtjaigpidmngaaaaGreat

namespace Go.Proofs.YtjaigpidmngaaaaGreat
section
variable {P : Program} {t e m : Nat} {a : Sh} {x : List AV}
def arOf (P : Program) (t : TypeId) : Option (Nat × Nat) := match P.underlying t with
  | some (.array m e) => some (m, e)
  | _ => none
theorem arr_some {S : List Nat} (h : clB P S = true) (ha : arOf P t = some (m, e)) (hc : P.cellsOf t = m * P.cellsOf e) (he : e ∈ S) : ∀ n, ∃ sh, shO true P n t = some sh
  | 0 => ⟨.no, rfl⟩
  | n + 1 => by
    unfold arOf at ha
    split at ha
    · rename_i hu
      simp only [Option.some.injEq, Prod.mk.injEq] at ha
      obtain ⟨rfl, rfl⟩ := ha
      obtain ⟨b, hb⟩ := clB_some h n _ he
      exact ⟨_, by simp only [shO, hu, if_pos hc, hb, Option.map_some]; rfl⟩
    · cases ha
theorem okArr2 (ha : arOf P t = some (2, e)) (hc : P.cellsOf t = 2 * P.cellsOf e) (hs : shO true P m t = some a) (ho : a.OkN x) :
    ∃ k b x1 x2, m = k + 1 ∧ shO true P k e = some b ∧ b.OkN x1 ∧ b.OkN x2 ∧ x = x1 ++ x2 := by
  cases m with
  | zero => simp only [shO, if_true, Option.some.injEq] at hs; subst hs; exact ho.elim
  | succ k =>
    unfold arOf at ha
    split at ha
    · rename_i hu
      simp only [Option.some.injEq, Prod.mk.injEq] at ha
      obtain ⟨rfl, rfl⟩ := ha
      simp only [shO, hu, if_pos hc, Option.map_eq_some_iff] at hs
      obtain ⟨b, hb, rfl⟩ := hs
      obtain ⟨x1, y, e1, h1, h2⟩ := ho
      obtain ⟨x2, z, e2, h3, h4⟩ := h2
      have h4 : z = [] := h4
      subst h4
      exact ⟨k, b, x1, x2, rfl, hb, h1, h3, by rw [e1, e2, List.append_nil]⟩
    · cases ha
end
end Go.Proofs.YtjaigpidmngaaaaGreat

namespace Go.Proofs.YtjaigpidmngaaaaGreat
attribute [local irreducible] callA callP ACalls
theorem eqDat (d : Dat) : eqCells [.i .i64, .b, .i .u64, .s] (datR d) (datR d) = some true := by simp [eqCells]
theorem CheckData_spec (l : List Ty) (hl : TysOk l) (t : Int) (o b : Opd) (ho : o.t.length ≤ 140737488351232) (hb : b.t.length ≤ 140737488351232) : ACalls PG broadsheetlaw18_CheckData.n [tysA l, .int .i64 t, .agg (opR o ++ opR b)] [] fun r _ => r = .bool true := by
  have hg := fun H => tGreat_spec l hl H
  have h1 := fun q H => check_Datum_spec l hl t o b q H
  have h2 := fun q H => r18_Datum_spec l hl t o b q H
  generalize chkD l t o b = d at *
  generalize tyGreat l = a at *
  refine ACalls.fzK (broadsheetlaw18_CheckData.of rfl (wpF_start ?_))
  (first | refine au ?_ | exact au0)
  intro id3 hid3 ht3; have n3 := neAll_of hid3; (try simp only [neAll, neAll_hset] at n3); have m3 := n3; (repeat (obtain ⟨_, m3⟩ := m3))
  (first | refine au ?_ | exact au0)
  first | refine callF_eq (hg _) ?_ | refine callG_eq rfl (hg _) ?_
  cases a
  rotate_left
  · (first | refine au ?_ | exact au0)
    first | refine callF_eq (chk_awake_spec _) ?_ | refine callG_eq rfl (chk_awake_spec _) ?_
    (first | refine au ?_ | exact au0)
    exact fz_of
  by_cases c1 : 300 < o.t.length
  · (first | refine au ?_ | exact au0)
    first | refine callF_eq (chk_awake_spec _) ?_ | refine callG_eq rfl (chk_awake_spec _) ?_
    (first | refine au ?_ | exact au0)
    exact fz_of
  by_cases c2 : 300 < b.t.length
  · (first | refine au ?_ | exact au0)
    first | refine callF_eq (chk_awake_spec _) ?_ | refine callG_eq rfl (chk_awake_spec _) ?_
    (first | refine au ?_ | exact au0)
    exact fz_of
  have h1 := fun H => h1 (by omega) H
  have h2 := fun H => h2 (by omega) H
  (first | refine au ?_ | exact au0)
  first | refine callF_eq (h1 _) ?_ | refine callG_eq rfl (h1 _) ?_
  (first | refine au ?_ | exact au0)
  first | refine callF_eq (h2 _) ?_ | refine callG_eq rfl (h2 _) ?_
  (first | refine au ?_ | exact au0)
  refine ⟨true, eqDat d, ?_⟩
  (first | refine au ?_ | exact au0)
  first | refine callF_eq (chk_awake_spec _) ?_ | refine callG_eq rfl (chk_awake_spec _) ?_
  (first | refine au ?_ | exact au0)
  exact fz_of
theorem opd2_sh : ∀ n, ∃ sh, shO true PG n ty_A2_api_Operand = some sh := arr_some (S := Shapes.ExprS) (e := ty_api_Operand) (m := 2) (by kernel_rfl) (by kernel_rfl) (by kernel_rfl) (by simp [Shapes.ExprS])
theorem opd2_arg {av : AV} (h : ∃ n sh, shO true PG n ty_A2_api_Operand = some sh ∧ ArgOk true sh av) : ∃ o b : Opd, Nw av (.agg (opR o ++ opR b)) ∧ o.t.length ≤ 140737488351232 ∧ b.t.length ≤ 140737488351232 := by
  obtain ⟨n, sh, h1, h2⟩ := h
  obtain ⟨av', h3, h4⟩ := h2.nonil
  obtain ⟨vs, rfl, h5⟩ := h3
  obtain ⟨k, b, x1, x2, rfl, q1, q2, q3, rfl⟩ := okArr2 (e := ty_api_Operand) (by kernel_rfl) (by kernel_rfl) h1 h5
  obtain ⟨v, rfl, hv⟩ := opd_of q1 q2
  obtain ⟨w, rfl, hw⟩ := opd_of q1 q3
  exact ⟨v, w, h4, hv, hw⟩
theorem CheckData_row (a0 : AV) (h0 : ∃ n sh, shO true PG n ty_S_api_Type = some sh ∧ ArgOk false sh a0) (a1 : AV) (h1 : ∃ n sh, shO true PG n ty_int = some sh ∧ ArgOk false sh a1) (a2 : AV) (h2 : ∃ n sh, shO true PG n ty_A2_api_Operand = some sh ∧ ArgOk true sh a2) : ACalls PG broadsheetlaw18_CheckData.n [a0, a1, a2] [] fun r _ => r = .bool true := by
  obtain ⟨l, q0, hl⟩ := types_arg h0
  obtain ⟨t, rfl, _⟩ := int_arg h1
  obtain ⟨o, b, q2, ho, hb⟩ := opd2_arg h2
  exact (CheckData_spec l hl t o b ho hb).nw (.cons q0 (.cons (.refl _) (.cons q2 (.refl _))))
end Go.Proofs.YtjaigpidmngaaaaGreat
