/- Texts of this proof, one behind the other: SimAuto, SimSW, NameSpec, StrSpec, SimLoop, PathNum, PathIter, ValMath, FitMath, PathStepMath, PrimSpec, TypSpec, TypSpec2, TypSpec3, TypFind, TypItem, TypDeep, RTypItem, RTypCheck, RTypMore, FitSpec3, PathStep, PathRound, PathFind, SimShelf, TokSpec, TokBld, TokTake. -/
import Derived.Test.YtjaigpidmngaaaaGreatPkU3
import Derived.Below
set_option autoImplicit false
set_option linter.unusedSimpArgs false
set_option linter.unusedVariables false
namespace Go.Proofs.YtjaigpidmngaaaaGreat
def neAll : AH → Nat → Prop
  | [], _ => True
  | (i, _) :: H, j => j ≠ i ∧ neAll H j
theorem neAll_of {H : AH} {j : Nat} (h : hget H j = none) : neAll H j := by
  induction H with
  | nil => trivial
  | cons p H ih =>
    obtain ⟨i, b⟩ := p
    obtain ⟨a, c⟩ := hget_fresh h
    exact ⟨a, ih c⟩
theorem hget_none {H : AH} {j : Nat} (h : neAll H j) : hget H j = none := by
  induction H with
  | nil => rfl
  | cons p H ih =>
    obtain ⟨i, b⟩ := p
    exact (hget_tail (fun e => h.1 e.symm)).trans (ih h.2)
theorem neAll_hset {H : AH} {i j : Nat} {b : Blk} : neAll (hset H i b) j ↔ neAll H j := by
  induction H with
  | nil => exact Iff.rfl
  | cons p H ih =>
    obtain ⟨k, c⟩ := p
    simp only [hset]
    split
    · simp only [neAll]
    · simp only [neAll, ih]
structure Hid (k : Prop) : Prop where
  o : k
theorem hg_of {H : AH} {id : Nat} {b : Option Blk} (h : hget H id = b := by repeat (first | (with_reducible refine Eq.trans hget_self ?_; exact rfl) | with_reducible assumption | (with_reducible refine Eq.trans (hget_tail ?_) ?_; next => first | with_reducible assumption | (apply Ne.symm; with_reducible assumption) | omega) | (with_reducible refine Eq.trans (hget_set ?_) ?_; rotate_left; exact rfl) | (with_reducible refine Eq.trans (hget_set_ne ?_) ?_; next => first | with_reducible assumption | (apply Ne.symm; with_reducible assumption) | omega) | (with_reducible refine Eq.trans (hget_del_ne ?_) ?_; next => first | with_reducible assumption | (apply Ne.symm; with_reducible assumption) | omega) | exact hget_self | assumption | apply hget_set)) : hget H id = b := h
theorem cov_of {p : Prop} (h : p := by repeat (first | exact trivial | refine And.intro (Or.inl rfl) ?_ | refine And.intro (Or.inr (Exists.intro _ (And.intro rfl (Fz.refl _)))) ?_ | refine And.intro (Or.inr (Exists.intro _ (And.intro rfl (fz_eq (congrArg (AV.int _) (by omega)))))) ?_ | refine And.intro (Or.inr (Exists.intro _ (And.intro rfl (fz_eq (congrArg (AV.own _ _ _) (by (try dsimp only); (try simp only [List.length_append, List.length_map, List.length_cons, List.length_nil, List.length_take, List.length_set, List.length_replicate]); (try dsimp only); first | done | omega)))))) ?_)) : p := h
theorem au {k g : Prop} (h : k) (t : Hid k → g := by intro hk; (repeat ((conv => whnf); first | refine Or.inl ?_ | refine dAuto ?_ | (apply Exists.intro; apply Exists.intro; refine And.intro ?_ ?_; (next => repeat (first | (with_reducible refine Eq.trans hget_self ?_; exact rfl) | with_reducible assumption | (with_reducible refine Eq.trans (hget_tail ?_) ?_; next => first | with_reducible assumption | (apply Ne.symm; with_reducible assumption) | omega) | (with_reducible refine Eq.trans (hget_set ?_) ?_; rotate_left; exact rfl) | (with_reducible refine Eq.trans (hget_set_ne ?_) ?_; next => first | with_reducible assumption | (apply Ne.symm; with_reducible assumption) | omega) | (with_reducible refine Eq.trans (hget_del_ne ?_) ?_; next => first | with_reducible assumption | (apply Ne.symm; with_reducible assumption) | omega) | exact hget_self | assumption | apply hget_set)); refine And.intro (Eq.refl (some _)) ?_) | refine Exists.intro _ (And.intro rfl (And.intro rfl ?_)) | (refine And.intro ?_ ?_; next => first | omega | (dsimp only; omega) | exact rfl | exact Nat.le_of_ble_eq_true rfl | (exact ⟨by omega, by omega⟩) | decide | (simp only [List.length_append, List.length_cons, List.length_nil, List.length_map]; omega)) | (refine rng_i64 ?_ ?_ ?_; (next => first | omega | (dsimp only; omega)); (next => first | omega | (dsimp only; omega))) | (refine rng_u8 ?_ ?_ ?_; (next => first | omega | (dsimp only; omega)); (next => first | omega | (dsimp only; omega))) | (refine rng_u64 ?_ ?_ ?_; (next => first | omega | (dsimp only; omega)); (next => first | omega | (dsimp only; omega))) | (refine rng_quo_u64 ?_ ?_ ?_ ?_; (next => first | omega | (dsimp only; omega)); (next => first | omega | (dsimp only; omega)); (next => first | omega | (dsimp only; omega))) | (refine rng_quo_i64 ?_ ?_ ?_ ?_; (next => first | omega | (dsimp only; omega)); (next => first | omega | (dsimp only; omega)); (next => first | omega | (dsimp only; omega))) | (refine rng_rem_u64 ?_ ?_ ?_ ?_; (next => first | omega | (dsimp only; omega)); (next => first | omega | (dsimp only; omega)); (next => first | omega | (dsimp only; omega))) | (refine rng_rem_i64 ?_ ?_ ?_ ?_; (next => first | omega | (dsimp only; omega)); (next => first | omega | (dsimp only; omega)); (next => first | omega | (dsimp only; omega))) | refine bsplit_tt ?_ | refine bsplit_ff ?_ | refine bsplit_not ?_ | (refine bsplit_pos ?_ ?_; (next => first | omega | (dsimp only; omega))) | (refine bsplit_neg ?_ ?_; (next => first | omega | (dsimp only; omega))) | (apply Exists.intro; refine And.intro ?_ ?_; next => repeat (first | (with_reducible refine Eq.trans hget_self ?_; exact rfl) | with_reducible assumption | (with_reducible refine Eq.trans (hget_tail ?_) ?_; next => first | with_reducible assumption | (apply Ne.symm; with_reducible assumption) | omega) | (with_reducible refine Eq.trans (hget_set ?_) ?_; rotate_left; exact rfl) | (with_reducible refine Eq.trans (hget_set_ne ?_) ?_; next => first | with_reducible assumption | (apply Ne.symm; with_reducible assumption) | omega) | (with_reducible refine Eq.trans (hget_del_ne ?_) ?_; next => first | with_reducible assumption | (apply Ne.symm; with_reducible assumption) | omega) | exact hget_self | assumption | apply hget_set)) | (apply hsetN_of; next => (try simp only [over, List.set_cons_zero, List.set_cons_succ, List.take_zero, List.take_succ_cons, List.take_nil, List.drop_zero, List.drop_succ_cons, List.drop_nil, List.nil_append, List.cons_append, List.append_nil, AV.cells, List.length_cons, List.length_nil, Nat.zero_add, Nat.add_zero, Nat.reduceAdd]); exact rfl) | (refine hdelK_top ?_ ?_; next => first | with_reducible assumption | (refine hget_none ?_; (repeat' apply And.intro) <;> first | omega | exact True.intro | assumption)) | (refine hdelK_down ?_ ?_; next => first | with_reducible assumption | (apply Ne.symm; with_reducible assumption) | omega) | refine hdelK_any ?_ | refine hsetK_top ?_ | (refine hsetK_down ?_ ?_; next => first | with_reducible assumption | (apply Ne.symm; with_reducible assumption) | omega) | refine hsetK_any ?_ )); (conv => whnf); exact hk.o) : g := t ⟨h⟩
theorem au0 {g : Prop} (t : g := by (repeat ((conv => whnf); first | refine Or.inl ?_ | refine dAuto ?_ | (apply Exists.intro; apply Exists.intro; refine And.intro ?_ ?_; (next => repeat (first | (with_reducible refine Eq.trans hget_self ?_; exact rfl) | with_reducible assumption | (with_reducible refine Eq.trans (hget_tail ?_) ?_; next => first | with_reducible assumption | (apply Ne.symm; with_reducible assumption) | omega) | (with_reducible refine Eq.trans (hget_set ?_) ?_; rotate_left; exact rfl) | (with_reducible refine Eq.trans (hget_set_ne ?_) ?_; next => first | with_reducible assumption | (apply Ne.symm; with_reducible assumption) | omega) | (with_reducible refine Eq.trans (hget_del_ne ?_) ?_; next => first | with_reducible assumption | (apply Ne.symm; with_reducible assumption) | omega) | exact hget_self | assumption | apply hget_set)); refine And.intro (Eq.refl (some _)) ?_) | refine Exists.intro _ (And.intro rfl (And.intro rfl ?_)) | (refine And.intro ?_ ?_; next => first | omega | (dsimp only; omega) | exact rfl | exact Nat.le_of_ble_eq_true rfl | (exact ⟨by omega, by omega⟩) | decide | (simp only [List.length_append, List.length_cons, List.length_nil, List.length_map]; omega)) | (refine rng_i64 ?_ ?_ ?_; (next => first | omega | (dsimp only; omega)); (next => first | omega | (dsimp only; omega))) | (refine rng_u8 ?_ ?_ ?_; (next => first | omega | (dsimp only; omega)); (next => first | omega | (dsimp only; omega))) | (refine rng_u64 ?_ ?_ ?_; (next => first | omega | (dsimp only; omega)); (next => first | omega | (dsimp only; omega))) | (refine rng_quo_u64 ?_ ?_ ?_ ?_; (next => first | omega | (dsimp only; omega)); (next => first | omega | (dsimp only; omega)); (next => first | omega | (dsimp only; omega))) | (refine rng_quo_i64 ?_ ?_ ?_ ?_; (next => first | omega | (dsimp only; omega)); (next => first | omega | (dsimp only; omega)); (next => first | omega | (dsimp only; omega))) | (refine rng_rem_u64 ?_ ?_ ?_ ?_; (next => first | omega | (dsimp only; omega)); (next => first | omega | (dsimp only; omega)); (next => first | omega | (dsimp only; omega))) | (refine rng_rem_i64 ?_ ?_ ?_ ?_; (next => first | omega | (dsimp only; omega)); (next => first | omega | (dsimp only; omega)); (next => first | omega | (dsimp only; omega))) | refine bsplit_tt ?_ | refine bsplit_ff ?_ | refine bsplit_not ?_ | (refine bsplit_pos ?_ ?_; (next => first | omega | (dsimp only; omega))) | (refine bsplit_neg ?_ ?_; (next => first | omega | (dsimp only; omega))) | (apply Exists.intro; refine And.intro ?_ ?_; next => repeat (first | (with_reducible refine Eq.trans hget_self ?_; exact rfl) | with_reducible assumption | (with_reducible refine Eq.trans (hget_tail ?_) ?_; next => first | with_reducible assumption | (apply Ne.symm; with_reducible assumption) | omega) | (with_reducible refine Eq.trans (hget_set ?_) ?_; rotate_left; exact rfl) | (with_reducible refine Eq.trans (hget_set_ne ?_) ?_; next => first | with_reducible assumption | (apply Ne.symm; with_reducible assumption) | omega) | (with_reducible refine Eq.trans (hget_del_ne ?_) ?_; next => first | with_reducible assumption | (apply Ne.symm; with_reducible assumption) | omega) | exact hget_self | assumption | apply hget_set)) | (apply hsetN_of; next => (try simp only [over, List.set_cons_zero, List.set_cons_succ, List.take_zero, List.take_succ_cons, List.take_nil, List.drop_zero, List.drop_succ_cons, List.drop_nil, List.nil_append, List.cons_append, List.append_nil, AV.cells, List.length_cons, List.length_nil, Nat.zero_add, Nat.add_zero, Nat.reduceAdd]); exact rfl) | (refine hdelK_top ?_ ?_; next => first | with_reducible assumption | (refine hget_none ?_; (repeat' apply And.intro) <;> first | omega | exact True.intro | assumption)) | (refine hdelK_down ?_ ?_; next => first | with_reducible assumption | (apply Ne.symm; with_reducible assumption) | omega) | refine hdelK_any ?_ | refine hsetK_top ?_ | (refine hsetK_down ?_ ?_; next => first | with_reducible assumption | (apply Ne.symm; with_reducible assumption) | omega) | refine hsetK_any ?_ )); (conv => whnf); (first | done | fail)) : g := t
theorem ah {k g : Prop} (h : k) (t : Hid k → g := by intro hk; (repeat ((conv => whnf); first | refine Or.inl ?_ | refine dAuto ?_ | (apply Exists.intro; apply Exists.intro; refine And.intro ?_ ?_; (next => repeat (first | (with_reducible refine Eq.trans hget_self ?_; exact rfl) | with_reducible assumption | (with_reducible refine Eq.trans (hget_tail ?_) ?_; next => first | with_reducible assumption | (apply Ne.symm; with_reducible assumption) | omega) | (with_reducible refine Eq.trans (hget_set ?_) ?_; rotate_left; exact rfl) | (with_reducible refine Eq.trans (hget_set_ne ?_) ?_; next => first | with_reducible assumption | (apply Ne.symm; with_reducible assumption) | omega) | (with_reducible refine Eq.trans (hget_del_ne ?_) ?_; next => first | with_reducible assumption | (apply Ne.symm; with_reducible assumption) | omega) | exact hget_self | assumption | apply hget_set)); refine And.intro (Eq.refl (some _)) ?_) | refine Exists.intro _ (And.intro rfl (And.intro rfl ?_)) | (refine And.intro ?_ ?_; next => first | omega | (dsimp only; omega) | exact rfl | exact Nat.le_of_ble_eq_true rfl | (exact ⟨by omega, by omega⟩) | decide | (simp only [List.length_append, List.length_cons, List.length_nil, List.length_map]; omega)) | (refine rng_i64 ?_ ?_ ?_; (next => first | omega | (dsimp only; omega)); (next => first | omega | (dsimp only; omega))) | (refine rng_u8 ?_ ?_ ?_; (next => first | omega | (dsimp only; omega)); (next => first | omega | (dsimp only; omega))) | (refine rng_u64 ?_ ?_ ?_; (next => first | omega | (dsimp only; omega)); (next => first | omega | (dsimp only; omega))) | (refine rng_quo_u64 ?_ ?_ ?_ ?_; (next => first | omega | (dsimp only; omega)); (next => first | omega | (dsimp only; omega)); (next => first | omega | (dsimp only; omega))) | (refine rng_quo_i64 ?_ ?_ ?_ ?_; (next => first | omega | (dsimp only; omega)); (next => first | omega | (dsimp only; omega)); (next => first | omega | (dsimp only; omega))) | (refine rng_rem_u64 ?_ ?_ ?_ ?_; (next => first | omega | (dsimp only; omega)); (next => first | omega | (dsimp only; omega)); (next => first | omega | (dsimp only; omega))) | (refine rng_rem_i64 ?_ ?_ ?_ ?_; (next => first | omega | (dsimp only; omega)); (next => first | omega | (dsimp only; omega)); (next => first | omega | (dsimp only; omega))) | refine bsplit_tt ?_ | refine bsplit_ff ?_ | refine bsplit_not ?_ | (refine bsplit_pos ?_ ?_; (next => first | omega | (dsimp only; omega))) | (refine bsplit_neg ?_ ?_; (next => first | omega | (dsimp only; omega))) | (apply Exists.intro; refine And.intro ?_ ?_; next => repeat (first | (with_reducible refine Eq.trans hget_self ?_; exact rfl) | with_reducible assumption | (with_reducible refine Eq.trans (hget_tail ?_) ?_; next => first | with_reducible assumption | (apply Ne.symm; with_reducible assumption) | omega) | (with_reducible refine Eq.trans (hget_set ?_) ?_; rotate_left; exact rfl) | (with_reducible refine Eq.trans (hget_set_ne ?_) ?_; next => first | with_reducible assumption | (apply Ne.symm; with_reducible assumption) | omega) | (with_reducible refine Eq.trans (hget_del_ne ?_) ?_; next => first | with_reducible assumption | (apply Ne.symm; with_reducible assumption) | omega) | exact hget_self | assumption | apply hget_set)) | (apply hsetN_of; next => (try simp only [over, List.set_cons_zero, List.set_cons_succ, List.take_zero, List.take_succ_cons, List.take_nil, List.drop_zero, List.drop_succ_cons, List.drop_nil, List.nil_append, List.cons_append, List.append_nil, AV.cells, List.length_cons, List.length_nil, Nat.zero_add, Nat.add_zero, Nat.reduceAdd]); exact rfl) | (refine hdelK_top ?_ ?_; next => first | with_reducible assumption | (refine hget_none ?_; (repeat' apply And.intro) <;> first | omega | exact True.intro | assumption)) | (refine hdelK_down ?_ ?_; next => first | with_reducible assumption | (apply Ne.symm; with_reducible assumption) | omega) | refine hdelK_any ?_ | refine hsetK_top ?_ | (refine hsetK_down ?_ ?_; next => first | with_reducible assumption | (apply Ne.symm; with_reducible assumption) | omega) | refine hsetK_any ?_  | rw [hset_self] | rw [hset_tail (by first | with_reducible assumption | (apply Ne.symm; with_reducible assumption) | omega)])); (conv => whnf); exact hk.o) : g := t ⟨h⟩
theorem ah0 {g : Prop} (t : g := by (repeat ((conv => whnf); first | refine Or.inl ?_ | refine dAuto ?_ | (apply Exists.intro; apply Exists.intro; refine And.intro ?_ ?_; (next => repeat (first | (with_reducible refine Eq.trans hget_self ?_; exact rfl) | with_reducible assumption | (with_reducible refine Eq.trans (hget_tail ?_) ?_; next => first | with_reducible assumption | (apply Ne.symm; with_reducible assumption) | omega) | (with_reducible refine Eq.trans (hget_set ?_) ?_; rotate_left; exact rfl) | (with_reducible refine Eq.trans (hget_set_ne ?_) ?_; next => first | with_reducible assumption | (apply Ne.symm; with_reducible assumption) | omega) | (with_reducible refine Eq.trans (hget_del_ne ?_) ?_; next => first | with_reducible assumption | (apply Ne.symm; with_reducible assumption) | omega) | exact hget_self | assumption | apply hget_set)); refine And.intro (Eq.refl (some _)) ?_) | refine Exists.intro _ (And.intro rfl (And.intro rfl ?_)) | (refine And.intro ?_ ?_; next => first | omega | (dsimp only; omega) | exact rfl | exact Nat.le_of_ble_eq_true rfl | (exact ⟨by omega, by omega⟩) | decide | (simp only [List.length_append, List.length_cons, List.length_nil, List.length_map]; omega)) | (refine rng_i64 ?_ ?_ ?_; (next => first | omega | (dsimp only; omega)); (next => first | omega | (dsimp only; omega))) | (refine rng_u8 ?_ ?_ ?_; (next => first | omega | (dsimp only; omega)); (next => first | omega | (dsimp only; omega))) | (refine rng_u64 ?_ ?_ ?_; (next => first | omega | (dsimp only; omega)); (next => first | omega | (dsimp only; omega))) | (refine rng_quo_u64 ?_ ?_ ?_ ?_; (next => first | omega | (dsimp only; omega)); (next => first | omega | (dsimp only; omega)); (next => first | omega | (dsimp only; omega))) | (refine rng_quo_i64 ?_ ?_ ?_ ?_; (next => first | omega | (dsimp only; omega)); (next => first | omega | (dsimp only; omega)); (next => first | omega | (dsimp only; omega))) | (refine rng_rem_u64 ?_ ?_ ?_ ?_; (next => first | omega | (dsimp only; omega)); (next => first | omega | (dsimp only; omega)); (next => first | omega | (dsimp only; omega))) | (refine rng_rem_i64 ?_ ?_ ?_ ?_; (next => first | omega | (dsimp only; omega)); (next => first | omega | (dsimp only; omega)); (next => first | omega | (dsimp only; omega))) | refine bsplit_tt ?_ | refine bsplit_ff ?_ | refine bsplit_not ?_ | (refine bsplit_pos ?_ ?_; (next => first | omega | (dsimp only; omega))) | (refine bsplit_neg ?_ ?_; (next => first | omega | (dsimp only; omega))) | (apply Exists.intro; refine And.intro ?_ ?_; next => repeat (first | (with_reducible refine Eq.trans hget_self ?_; exact rfl) | with_reducible assumption | (with_reducible refine Eq.trans (hget_tail ?_) ?_; next => first | with_reducible assumption | (apply Ne.symm; with_reducible assumption) | omega) | (with_reducible refine Eq.trans (hget_set ?_) ?_; rotate_left; exact rfl) | (with_reducible refine Eq.trans (hget_set_ne ?_) ?_; next => first | with_reducible assumption | (apply Ne.symm; with_reducible assumption) | omega) | (with_reducible refine Eq.trans (hget_del_ne ?_) ?_; next => first | with_reducible assumption | (apply Ne.symm; with_reducible assumption) | omega) | exact hget_self | assumption | apply hget_set)) | (apply hsetN_of; next => (try simp only [over, List.set_cons_zero, List.set_cons_succ, List.take_zero, List.take_succ_cons, List.take_nil, List.drop_zero, List.drop_succ_cons, List.drop_nil, List.nil_append, List.cons_append, List.append_nil, AV.cells, List.length_cons, List.length_nil, Nat.zero_add, Nat.add_zero, Nat.reduceAdd]); exact rfl) | (refine hdelK_top ?_ ?_; next => first | with_reducible assumption | (refine hget_none ?_; (repeat' apply And.intro) <;> first | omega | exact True.intro | assumption)) | (refine hdelK_down ?_ ?_; next => first | with_reducible assumption | (apply Ne.symm; with_reducible assumption) | omega) | refine hdelK_any ?_ | refine hsetK_top ?_ | (refine hsetK_down ?_ ?_; next => first | with_reducible assumption | (apply Ne.symm; with_reducible assumption) | omega) | refine hsetK_any ?_  | rw [hset_self] | rw [hset_tail (by first | with_reducible assumption | (apply Ne.symm; with_reducible assumption) | omega)])); (conv => whnf); (first | done | fail)) : g := t
theorem ac {k g : Prop} (h : k) (t : Hid k → g := by intro hk; (repeat ((conv => whnf); first | (apply Exists.intro; apply Exists.intro; refine And.intro ?_ ?_; (next => repeat (first | (with_reducible refine Eq.trans hget_self ?_; exact rfl) | with_reducible assumption | (with_reducible refine Eq.trans (hget_tail ?_) ?_; next => first | with_reducible assumption | (apply Ne.symm; with_reducible assumption) | omega) | (with_reducible refine Eq.trans (hget_set ?_) ?_; rotate_left; exact rfl) | (with_reducible refine Eq.trans (hget_set_ne ?_) ?_; next => first | with_reducible assumption | (apply Ne.symm; with_reducible assumption) | omega) | (with_reducible refine Eq.trans (hget_del_ne ?_) ?_; next => first | with_reducible assumption | (apply Ne.symm; with_reducible assumption) | omega) | exact hget_self | assumption | apply hget_set)); refine And.intro (Eq.refl (some _)) ?_) | refine Exists.intro _ (And.intro rfl (And.intro rfl ?_)) | (refine And.intro ?_ ?_; next => first | omega | (dsimp only; omega) | exact rfl | exact Nat.le_of_ble_eq_true rfl | (exact ⟨by omega, by omega⟩) | decide | (simp only [List.length_append, List.length_cons, List.length_nil, List.length_map]; omega)) | (refine rng_i64 ?_ ?_ ?_; (next => first | omega | (dsimp only; omega)); (next => first | omega | (dsimp only; omega))) | (refine rng_u8 ?_ ?_ ?_; (next => first | omega | (dsimp only; omega)); (next => first | omega | (dsimp only; omega))) | (refine rng_u64 ?_ ?_ ?_; (next => first | omega | (dsimp only; omega)); (next => first | omega | (dsimp only; omega))) | (refine rng_quo_u64 ?_ ?_ ?_ ?_; (next => first | omega | (dsimp only; omega)); (next => first | omega | (dsimp only; omega)); (next => first | omega | (dsimp only; omega))) | (refine rng_quo_i64 ?_ ?_ ?_ ?_; (next => first | omega | (dsimp only; omega)); (next => first | omega | (dsimp only; omega)); (next => first | omega | (dsimp only; omega))) | (refine rng_rem_u64 ?_ ?_ ?_ ?_; (next => first | omega | (dsimp only; omega)); (next => first | omega | (dsimp only; omega)); (next => first | omega | (dsimp only; omega))) | (refine rng_rem_i64 ?_ ?_ ?_ ?_; (next => first | omega | (dsimp only; omega)); (next => first | omega | (dsimp only; omega)); (next => first | omega | (dsimp only; omega))) | refine bsplit_tt ?_ | refine bsplit_ff ?_ | refine bsplit_not ?_ | (refine bsplit_pos ?_ ?_; (next => first | omega | (dsimp only; omega))) | (refine bsplit_neg ?_ ?_; (next => first | omega | (dsimp only; omega))) | (apply Exists.intro; refine And.intro ?_ ?_; next => repeat (first | (with_reducible refine Eq.trans hget_self ?_; exact rfl) | with_reducible assumption | (with_reducible refine Eq.trans (hget_tail ?_) ?_; next => first | with_reducible assumption | (apply Ne.symm; with_reducible assumption) | omega) | (with_reducible refine Eq.trans (hget_set ?_) ?_; rotate_left; exact rfl) | (with_reducible refine Eq.trans (hget_set_ne ?_) ?_; next => first | with_reducible assumption | (apply Ne.symm; with_reducible assumption) | omega) | (with_reducible refine Eq.trans (hget_del_ne ?_) ?_; next => first | with_reducible assumption | (apply Ne.symm; with_reducible assumption) | omega) | exact hget_self | assumption | apply hget_set)) | (apply hsetN_of; next => (try simp only [over, List.set_cons_zero, List.set_cons_succ, List.take_zero, List.take_succ_cons, List.take_nil, List.drop_zero, List.drop_succ_cons, List.drop_nil, List.nil_append, List.cons_append, List.append_nil, AV.cells, List.length_cons, List.length_nil, Nat.zero_add, Nat.add_zero, Nat.reduceAdd]); exact rfl) | (refine hdelK_top ?_ ?_; next => first | with_reducible assumption | (refine hget_none ?_; (repeat' apply And.intro) <;> first | omega | exact True.intro | assumption)) | (refine hdelK_down ?_ ?_; next => first | with_reducible assumption | (apply Ne.symm; with_reducible assumption) | omega) | refine hdelK_any ?_ | refine hsetK_top ?_ | (refine hsetK_down ?_ ?_; next => first | with_reducible assumption | (apply Ne.symm; with_reducible assumption) | omega) | refine hsetK_any ?_  | rw [hset_self] | rw [hset_tail (by first | with_reducible assumption | (apply Ne.symm; with_reducible assumption) | omega)])); (conv => whnf); exact hk.o) : g := t ⟨h⟩
theorem ac0 {g : Prop} (t : g := by (repeat ((conv => whnf); first | (apply Exists.intro; apply Exists.intro; refine And.intro ?_ ?_; (next => repeat (first | (with_reducible refine Eq.trans hget_self ?_; exact rfl) | with_reducible assumption | (with_reducible refine Eq.trans (hget_tail ?_) ?_; next => first | with_reducible assumption | (apply Ne.symm; with_reducible assumption) | omega) | (with_reducible refine Eq.trans (hget_set ?_) ?_; rotate_left; exact rfl) | (with_reducible refine Eq.trans (hget_set_ne ?_) ?_; next => first | with_reducible assumption | (apply Ne.symm; with_reducible assumption) | omega) | (with_reducible refine Eq.trans (hget_del_ne ?_) ?_; next => first | with_reducible assumption | (apply Ne.symm; with_reducible assumption) | omega) | exact hget_self | assumption | apply hget_set)); refine And.intro (Eq.refl (some _)) ?_) | refine Exists.intro _ (And.intro rfl (And.intro rfl ?_)) | (refine And.intro ?_ ?_; next => first | omega | (dsimp only; omega) | exact rfl | exact Nat.le_of_ble_eq_true rfl | (exact ⟨by omega, by omega⟩) | decide | (simp only [List.length_append, List.length_cons, List.length_nil, List.length_map]; omega)) | (refine rng_i64 ?_ ?_ ?_; (next => first | omega | (dsimp only; omega)); (next => first | omega | (dsimp only; omega))) | (refine rng_u8 ?_ ?_ ?_; (next => first | omega | (dsimp only; omega)); (next => first | omega | (dsimp only; omega))) | (refine rng_u64 ?_ ?_ ?_; (next => first | omega | (dsimp only; omega)); (next => first | omega | (dsimp only; omega))) | (refine rng_quo_u64 ?_ ?_ ?_ ?_; (next => first | omega | (dsimp only; omega)); (next => first | omega | (dsimp only; omega)); (next => first | omega | (dsimp only; omega))) | (refine rng_quo_i64 ?_ ?_ ?_ ?_; (next => first | omega | (dsimp only; omega)); (next => first | omega | (dsimp only; omega)); (next => first | omega | (dsimp only; omega))) | (refine rng_rem_u64 ?_ ?_ ?_ ?_; (next => first | omega | (dsimp only; omega)); (next => first | omega | (dsimp only; omega)); (next => first | omega | (dsimp only; omega))) | (refine rng_rem_i64 ?_ ?_ ?_ ?_; (next => first | omega | (dsimp only; omega)); (next => first | omega | (dsimp only; omega)); (next => first | omega | (dsimp only; omega))) | refine bsplit_tt ?_ | refine bsplit_ff ?_ | refine bsplit_not ?_ | (refine bsplit_pos ?_ ?_; (next => first | omega | (dsimp only; omega))) | (refine bsplit_neg ?_ ?_; (next => first | omega | (dsimp only; omega))) | (apply Exists.intro; refine And.intro ?_ ?_; next => repeat (first | (with_reducible refine Eq.trans hget_self ?_; exact rfl) | with_reducible assumption | (with_reducible refine Eq.trans (hget_tail ?_) ?_; next => first | with_reducible assumption | (apply Ne.symm; with_reducible assumption) | omega) | (with_reducible refine Eq.trans (hget_set ?_) ?_; rotate_left; exact rfl) | (with_reducible refine Eq.trans (hget_set_ne ?_) ?_; next => first | with_reducible assumption | (apply Ne.symm; with_reducible assumption) | omega) | (with_reducible refine Eq.trans (hget_del_ne ?_) ?_; next => first | with_reducible assumption | (apply Ne.symm; with_reducible assumption) | omega) | exact hget_self | assumption | apply hget_set)) | (apply hsetN_of; next => (try simp only [over, List.set_cons_zero, List.set_cons_succ, List.take_zero, List.take_succ_cons, List.take_nil, List.drop_zero, List.drop_succ_cons, List.drop_nil, List.nil_append, List.cons_append, List.append_nil, AV.cells, List.length_cons, List.length_nil, Nat.zero_add, Nat.add_zero, Nat.reduceAdd]); exact rfl) | (refine hdelK_top ?_ ?_; next => first | with_reducible assumption | (refine hget_none ?_; (repeat' apply And.intro) <;> first | omega | exact True.intro | assumption)) | (refine hdelK_down ?_ ?_; next => first | with_reducible assumption | (apply Ne.symm; with_reducible assumption) | omega) | refine hdelK_any ?_ | refine hsetK_top ?_ | (refine hsetK_down ?_ ?_; next => first | with_reducible assumption | (apply Ne.symm; with_reducible assumption) | omega) | refine hsetK_any ?_  | rw [hset_self] | rw [hset_tail (by first | with_reducible assumption | (apply Ne.symm; with_reducible assumption) | omega)])); (conv => whnf); (first | done | fail)) : g := t
theorem ab {k g : Prop} (h : k) (t : Hid k → g := by intro hk; (repeat ((conv => whnf); first | (apply Exists.intro; apply Exists.intro; refine And.intro ?_ ?_; (next => repeat (first | (with_reducible refine Eq.trans hget_self ?_; exact rfl) | with_reducible assumption | (with_reducible refine Eq.trans (hget_tail ?_) ?_; next => first | with_reducible assumption | (apply Ne.symm; with_reducible assumption) | omega) | (with_reducible refine Eq.trans (hget_set ?_) ?_; rotate_left; exact rfl) | (with_reducible refine Eq.trans (hget_set_ne ?_) ?_; next => first | with_reducible assumption | (apply Ne.symm; with_reducible assumption) | omega) | (with_reducible refine Eq.trans (hget_del_ne ?_) ?_; next => first | with_reducible assumption | (apply Ne.symm; with_reducible assumption) | omega) | exact hget_self | assumption | apply hget_set)); refine And.intro (Eq.refl (some _)) ?_) | refine Exists.intro _ (And.intro rfl (And.intro rfl ?_)) | (refine And.intro ?_ ?_; next => first | omega | (dsimp only; omega) | exact rfl | exact Nat.le_of_ble_eq_true rfl | (exact ⟨by omega, by omega⟩) | decide | (simp only [List.length_append, List.length_cons, List.length_nil, List.length_map]; omega)) | (refine rng_i64 ?_ ?_ ?_; (next => first | omega | (dsimp only; omega)); (next => first | omega | (dsimp only; omega))) | (refine rng_u8 ?_ ?_ ?_; (next => first | omega | (dsimp only; omega)); (next => first | omega | (dsimp only; omega))) | (refine rng_u64 ?_ ?_ ?_; (next => first | omega | (dsimp only; omega)); (next => first | omega | (dsimp only; omega))) | (refine rng_quo_u64 ?_ ?_ ?_ ?_; (next => first | omega | (dsimp only; omega)); (next => first | omega | (dsimp only; omega)); (next => first | omega | (dsimp only; omega))) | (refine rng_quo_i64 ?_ ?_ ?_ ?_; (next => first | omega | (dsimp only; omega)); (next => first | omega | (dsimp only; omega)); (next => first | omega | (dsimp only; omega))) | (refine rng_rem_u64 ?_ ?_ ?_ ?_; (next => first | omega | (dsimp only; omega)); (next => first | omega | (dsimp only; omega)); (next => first | omega | (dsimp only; omega))) | (refine rng_rem_i64 ?_ ?_ ?_ ?_; (next => first | omega | (dsimp only; omega)); (next => first | omega | (dsimp only; omega)); (next => first | omega | (dsimp only; omega))) | refine bsplit_tt ?_ | refine bsplit_ff ?_ | refine bsplit_not ?_ | (refine bsplit_pos ?_ ?_; (next => first | omega | (dsimp only; omega))) | (refine bsplit_neg ?_ ?_; (next => first | omega | (dsimp only; omega))) | (apply Exists.intro; refine And.intro ?_ ?_; next => repeat (first | (with_reducible refine Eq.trans hget_self ?_; exact rfl) | with_reducible assumption | (with_reducible refine Eq.trans (hget_tail ?_) ?_; next => first | with_reducible assumption | (apply Ne.symm; with_reducible assumption) | omega) | (with_reducible refine Eq.trans (hget_set ?_) ?_; rotate_left; exact rfl) | (with_reducible refine Eq.trans (hget_set_ne ?_) ?_; next => first | with_reducible assumption | (apply Ne.symm; with_reducible assumption) | omega) | (with_reducible refine Eq.trans (hget_del_ne ?_) ?_; next => first | with_reducible assumption | (apply Ne.symm; with_reducible assumption) | omega) | exact hget_self | assumption | apply hget_set)) | (apply hsetN_of; next => (try simp only [over, List.set_cons_zero, List.set_cons_succ, List.take_zero, List.take_succ_cons, List.take_nil, List.drop_zero, List.drop_succ_cons, List.drop_nil, List.nil_append, List.cons_append, List.append_nil, AV.cells, List.length_cons, List.length_nil, Nat.zero_add, Nat.add_zero, Nat.reduceAdd]); exact rfl) | (refine hdelK_top ?_ ?_; next => first | with_reducible assumption | (refine hget_none ?_; (repeat' apply And.intro) <;> first | omega | exact True.intro | assumption)) | (refine hdelK_down ?_ ?_; next => first | with_reducible assumption | (apply Ne.symm; with_reducible assumption) | omega) | refine hdelK_any ?_ | refine hsetK_top ?_ | (refine hsetK_down ?_ ?_; next => first | with_reducible assumption | (apply Ne.symm; with_reducible assumption) | omega) | refine hsetK_any ?_ )); (conv => whnf); exact hk.o) : g := t ⟨h⟩
theorem ab0 {g : Prop} (t : g := by (repeat ((conv => whnf); first | (apply Exists.intro; apply Exists.intro; refine And.intro ?_ ?_; (next => repeat (first | (with_reducible refine Eq.trans hget_self ?_; exact rfl) | with_reducible assumption | (with_reducible refine Eq.trans (hget_tail ?_) ?_; next => first | with_reducible assumption | (apply Ne.symm; with_reducible assumption) | omega) | (with_reducible refine Eq.trans (hget_set ?_) ?_; rotate_left; exact rfl) | (with_reducible refine Eq.trans (hget_set_ne ?_) ?_; next => first | with_reducible assumption | (apply Ne.symm; with_reducible assumption) | omega) | (with_reducible refine Eq.trans (hget_del_ne ?_) ?_; next => first | with_reducible assumption | (apply Ne.symm; with_reducible assumption) | omega) | exact hget_self | assumption | apply hget_set)); refine And.intro (Eq.refl (some _)) ?_) | refine Exists.intro _ (And.intro rfl (And.intro rfl ?_)) | (refine And.intro ?_ ?_; next => first | omega | (dsimp only; omega) | exact rfl | exact Nat.le_of_ble_eq_true rfl | (exact ⟨by omega, by omega⟩) | decide | (simp only [List.length_append, List.length_cons, List.length_nil, List.length_map]; omega)) | (refine rng_i64 ?_ ?_ ?_; (next => first | omega | (dsimp only; omega)); (next => first | omega | (dsimp only; omega))) | (refine rng_u8 ?_ ?_ ?_; (next => first | omega | (dsimp only; omega)); (next => first | omega | (dsimp only; omega))) | (refine rng_u64 ?_ ?_ ?_; (next => first | omega | (dsimp only; omega)); (next => first | omega | (dsimp only; omega))) | (refine rng_quo_u64 ?_ ?_ ?_ ?_; (next => first | omega | (dsimp only; omega)); (next => first | omega | (dsimp only; omega)); (next => first | omega | (dsimp only; omega))) | (refine rng_quo_i64 ?_ ?_ ?_ ?_; (next => first | omega | (dsimp only; omega)); (next => first | omega | (dsimp only; omega)); (next => first | omega | (dsimp only; omega))) | (refine rng_rem_u64 ?_ ?_ ?_ ?_; (next => first | omega | (dsimp only; omega)); (next => first | omega | (dsimp only; omega)); (next => first | omega | (dsimp only; omega))) | (refine rng_rem_i64 ?_ ?_ ?_ ?_; (next => first | omega | (dsimp only; omega)); (next => first | omega | (dsimp only; omega)); (next => first | omega | (dsimp only; omega))) | refine bsplit_tt ?_ | refine bsplit_ff ?_ | refine bsplit_not ?_ | (refine bsplit_pos ?_ ?_; (next => first | omega | (dsimp only; omega))) | (refine bsplit_neg ?_ ?_; (next => first | omega | (dsimp only; omega))) | (apply Exists.intro; refine And.intro ?_ ?_; next => repeat (first | (with_reducible refine Eq.trans hget_self ?_; exact rfl) | with_reducible assumption | (with_reducible refine Eq.trans (hget_tail ?_) ?_; next => first | with_reducible assumption | (apply Ne.symm; with_reducible assumption) | omega) | (with_reducible refine Eq.trans (hget_set ?_) ?_; rotate_left; exact rfl) | (with_reducible refine Eq.trans (hget_set_ne ?_) ?_; next => first | with_reducible assumption | (apply Ne.symm; with_reducible assumption) | omega) | (with_reducible refine Eq.trans (hget_del_ne ?_) ?_; next => first | with_reducible assumption | (apply Ne.symm; with_reducible assumption) | omega) | exact hget_self | assumption | apply hget_set)) | (apply hsetN_of; next => (try simp only [over, List.set_cons_zero, List.set_cons_succ, List.take_zero, List.take_succ_cons, List.take_nil, List.drop_zero, List.drop_succ_cons, List.drop_nil, List.nil_append, List.cons_append, List.append_nil, AV.cells, List.length_cons, List.length_nil, Nat.zero_add, Nat.add_zero, Nat.reduceAdd]); exact rfl) | (refine hdelK_top ?_ ?_; next => first | with_reducible assumption | (refine hget_none ?_; (repeat' apply And.intro) <;> first | omega | exact True.intro | assumption)) | (refine hdelK_down ?_ ?_; next => first | with_reducible assumption | (apply Ne.symm; with_reducible assumption) | omega) | refine hdelK_any ?_ | refine hsetK_top ?_ | (refine hsetK_down ?_ ?_; next => first | with_reducible assumption | (apply Ne.symm; with_reducible assumption) | omega) | refine hsetK_any ?_ )); (conv => whnf); (first | done | fail)) : g := t
end Go.Proofs.YtjaigpidmngaaaaGreat

namespace Go.Proofs.YtjaigpidmngaaaaGreat
theorem Sub.skip {H K : AH} {id : Nat} {b : Blk} (h : Sub K H) (hid : hget H id = none) : Sub K ((id, b) :: H) := fun j c q => by
  have := h j c q
  exact (hget_tail (hget_ne_of hid this)).trans this
theorem Sub.keep {H K : AH} {id : Nat} {b : Blk} (h : Sub K H) : Sub ((id, b) :: K) ((id, b) :: H) := fun j c q => by
  simp only [hget] at q ⊢
  split at q
  · rename_i e; rw [if_pos e]; exact q
  · rename_i e; rw [if_neg e]; exact h _ _ q
theorem Sub.del {K H : AH} {id : Nat} (h : Sub K H) (hid : hget K id = none) : Sub K (hdel H id) := fun j c q => by
  rw [hget_hdel]
  by_cases e : j = id
  · subst e; rw [hid] at q; cases q
  · rw [if_neg e]; exact h _ _ q
theorem Sub.nil (H : AH) : Sub [] H := fun _ _ q => by cases q
theorem Sub.trans {A B C : AH} (h : Sub A B) (k : Sub B C) : Sub A C := fun i b q => k _ _ (h _ _ q)
theorem ACalls.fz {P : Program} {f : Nat} {args : List AV} {H H1 : AH} {v : AV} (h : ACalls P f args H fun r H' => Fz H' H1 r v ∧ Sub H1 H') : ACalls P f args H fun r H' => r = v ∧ H' = H1 :=
  h.freeze fun r H' ⟨a, b⟩ => ⟨v, H1, b, a, rfl, rfl⟩
/-! ### Freezing, part by part -/
theorem Fz.aggL {H Hc : AH} {cs cs' : List AV} (h : FzL H Hc cs cs') : Fz H Hc (.agg cs) (.agg cs') := .agg cs cs' h.1 h.2
theorem Fz.tupL {H Hc : AH} {cs cs' : List AV} (h : FzL H Hc cs cs') : Fz H Hc (.tup cs) (.tup cs') := .tup cs cs' h.1 h.2
def FzR (H Hc : AH) : List (List AV) → List (List AV) → Prop
  | [], [] => True
  | r :: l, r' :: l' => FzL H Hc r r' ∧ FzR H Hc l l'
  | _, _ => False
theorem FzR.spec {H Hc : AH} : ∀ {l l' : List (List AV)}, FzR H Hc l l' → l.length = l'.length ∧ ∀ (i : Nat) r r', l[i]? = some r → l'[i]? = some r' → FzL H Hc r r'
  | [], [], _ => ⟨rfl, fun i r r' q => by simp at q⟩
  | r :: l, [], h => h.elim
  | [], r :: l, h => h.elim
  | r :: l, r' :: l', h => by
    obtain ⟨a, b⟩ := FzR.spec h.2
    refine ⟨by simp [a], fun i x x' q1 q2 => ?_⟩
    cases i with
    | zero => simp at q1 q2; rw [← q1, ← q2]; exact h.1
    | succ i => exact b i x x' (by simpa using q1) (by simpa using q2)
theorem Fz.rowsL {H Hc : AH} {sz : Nat} {l l' : List (List AV)} (h : FzR H Hc l l') : Fz H Hc (.rows sz l) (.rows sz l') :=
  .rows sz l l' h.spec.1 (fun i r r' a b => (h.spec.2 i r r' a b).1) fun i r r' j v v' a b c d => (h.spec.2 i r r' a b).2 j v v' c d
theorem FzR.refl (H Hc : AH) : ∀ l : List (List AV), FzR H Hc l l
  | [] => trivial
  | r :: l => ⟨FzL.refl H Hc r, FzR.refl H Hc l⟩
theorem FzR.append {H Hc : AH} : ∀ {l l' m m' : List (List AV)}, FzR H Hc l l' → FzR H Hc m m' → FzR H Hc (l ++ m) (l' ++ m')
  | [], [], m, m', _, h => h
  | r :: l, [], m, m', h, _ => h.elim
  | [], r :: l, m, m', h, _ => h.elim
  | r :: l, r' :: l', m, m', h, k => ⟨h.1, h.2.append k⟩
theorem Fz.ownL {H Hc : AH} {id sz : Nat} {l l' : List (List AV)} (hg : hget H id = some (.rows sz l)) (hd : hget Hc id = none) (h : FzR H Hc l l') (hw : ∀ r ∈ l', r.length = sz) : Fz H Hc (.own id sz 0 l.length) (.rows sz l') := by
  refine .own id sz 0 l.length l l' hg hd (Nat.le_refl _) (Nat.zero_le _) (by rw [← h.spec.1]; omega) (fun i r' q => hw r' (List.mem_of_getElem? q)) fun i r r' j v v' q1 q2 q3 q4 => ?_
  rw [Nat.zero_add] at q1
  exact (h.spec.2 i r r' q1 q2).2 j v v' q3 q4
inductive Cl : AV → Prop
  | int (k : IntKind) (n : Int) : Cl (.int k n)
  | bool (b : Bool) : Cl (.bool b)
  | str (l : List UInt8) : Cl (.str l)
  | nilS : Cl .nilS
  | nilP : Cl .nilP
  | nilF : Cl .nilF
  | nilI : Cl .nilI
  | emp : Cl .emp
  | agg (cs : List AV) (h : ∀ v ∈ cs, Cl v) : Cl (.agg cs)
  | tup (cs : List AV) (h : ∀ v ∈ cs, Cl v) : Cl (.tup cs)
  | rows (sz : Nat) (l : List (List AV)) (h : ∀ r ∈ l, ∀ v ∈ r, Cl v) : Cl (.rows sz l)
  | fp (cs : List AV) (h : ∀ v ∈ cs, Cl v) : Cl (.fp cs)
theorem Cl.noId {v : AV} (h : Cl v) : NoId v := by
  induction h with
  | int k n => intro h ρ ρ' Z x hr; cases hr; exact .int k n
  | bool b => intro h ρ ρ' Z x hr; cases hr; exact .bool b
  | str l => intro h ρ ρ' Z x hr; cases hr; exact .str l _ (by assumption)
  | nilS => intro h ρ ρ' Z x hr; cases hr; exact .nilS
  | nilP => intro h ρ ρ' Z x hr; cases hr; exact .nilP
  | nilF => intro h ρ ρ' Z x hr; cases hr; exact .nilF
  | nilI => intro h ρ ρ' Z x hr; cases hr; exact .nilI
  | emp => intro h ρ ρ' Z x hr; cases hr; exact .emp _ _
  | agg cs hc ih =>
    intro h ρ ρ' Z x hr
    cases hr with
    | agg _ vs hl h2 h3 => exact .agg cs vs hl h2 fun i v y q1 q2 => ih v (List.mem_of_getElem? q1) _ _ _ _ _ (h3 i v y q1 q2)
  | tup cs hc ih =>
    intro h ρ ρ' Z x hr
    cases hr with
    | tup _ vs hl h3 => exact .tup cs vs hl fun i v y q1 q2 => ih v (List.mem_of_getElem? q1) _ _ _ _ _ (h3 i v y q1 q2)
  | rows sz l hc ih =>
    intro h ρ ρ' Z x hr
    cases hr with
    | rows _ _ b o n c f hn hnc hz hw hcc hm hr => exact .rows sz l b o n c f hn hnc hz hw hcc hm fun i r j v q1 q2 => ih r (List.mem_of_getElem? q1) v (List.mem_of_getElem? q2) _ _ _ _ _ (hr i r j v q1 q2)
    | rowsN _ => exact .rowsN sz
    | rowsE _ a c => exact .rowsE sz a c
  | fp cs hc ih =>
    intro h ρ ρ' Z x hr
    cases hr with
    | fp _ b o f hz hcc hm hr => exact .fp cs b o f hz hcc hm fun i v q => ih v (List.mem_of_getElem? q) _ _ _ _ _ (hr i v q)
def SW (P : Program) (f : Nat) (args : List AV) (id : Nat) (b : Blk) (Hs : AH) (r : AV) (b' : Blk) : Prop :=
  ACalls P f args ((id, b) :: Hs) fun r' H' => r' = r ∧ H' = (id, b') :: Hs
theorem SW.frame {P : Program} {f : Nat} {args : List AV} {id : Nat} {b : Blk} {Hs : AH} {r : AV} {b' : Blk} (h : SW P f args id b Hs r b') {H : AH} (hg : hget H id = some b) (hs : Sub Hs H) : ACalls P f args H fun r' H' => r' = r ∧ H' = hset H id b' := by
  have s1 : Sub ((id, b) :: Hs) H := fun j c q => by
    simp only [hget] at q
    split at q
    · rename_i e1; subst e1; rw [← q]; exact hg
    · exact hs _ _ q
  refine ⟨h.1, fun w ρ Z xs g hr => (h.2 w ρ Z xs (g.forget s1) hr).mono fun e w' ⟨x, r', H', ρ', Z', a, g1, c, d, k1, k2⟩ => ?_⟩
  subst k1
  subst k2
  obtain ⟨q1, q2⟩ := g.frame s1 d g1 (HS' := hset H id b') fun j c q => by
    rw [hget_hset] at q
    split at q
    · rename_i e1
      rw [hg] at q
      left
      simp only [hget]
      rw [if_pos e1, ← q]
      rfl
    · rename_i e1
      simp only [hget]
      rw [if_neg e1, if_neg e1]
      cases hh : hget Hs j with
      | none => exact .inr ⟨q, rfl⟩
      | some c' => have := hs _ _ hh; rw [q] at this; exact .inl this.symm
  exact ⟨x, _, _, ρ', Z', a, q1, c, q2, rfl, rfl⟩
theorem SW.call {P : Program} {f : Nat} {args : List AV} {id : Nat} {b : Blk} {Hs : AH} {r : AV} {b' : Blk} (h : SW P f args id b Hs r b') {H : AH} {K : AV → AH → Prop} (hg : hget H id = some b) (hs : Sub Hs H) (k : hsetK H id b' fun H1 => K r H1) : callF P f args H K :=
  callF_of ((h.frame hg hs).mono fun r' H' ⟨a, c⟩ => by rw [a, c]; exact k.out)
theorem SW.draw {P : Program} {f : Nat} {args : List AV} {id : Nat} {b : Blk} {Hs : AH} {r : AV} {b' : Blk} (h : SW P f args id b Hs r b') {H0 D H : AH} {K : AV → AH → AH → Prop} (hD : hget D id = some b) (hs : Sub Hs H0) (hp : NoId r) (hb : BlkN b b') (k : hsetK H id b' fun H1 => K r (hdel D id) H1) : callG P f args H0 D H K :=
  ⟨.inr ⟨id, b, r, b', hD, ⟨hp, hb, Hs, hs, h⟩, k.out⟩⟩
/-! ### Arguments that a proof fills in -/
theorem fz_of {H Hc : AH} {v v' : AV} (h : Fz H Hc v v' := by (repeat' (first | exact Fz.refl _ | exact Fz.nil _ | assumption | refine Fz.aggL ?_ | refine Fz.tupL ?_ | refine FzL.cons ?_ ?_ | exact FzL.nil _ _ | refine Fz.rowsL ?_ | exact trivial | refine And.intro ?_ ?_)); (first | done | fail)) : Fz H Hc v v' := h
theorem sub_of {H Hc : AH} (h : Sub Hc H := by (repeat' (first | exact Sub.refl _ | assumption | exact Sub.nil _ | refine Sub.keep ?_ | refine Sub.skip ?_ (by first | assumption | (refine hget_none ?_; (try simp only [neAll, neAll_hset]); (repeat' apply And.intro) <;> first | omega | trivial | assumption | simp_all)) | refine Sub.del ?_ (by first | assumption | (refine hget_none ?_; (try simp only [neAll, neAll_hset]); (repeat' apply And.intro) <;> first | omega | trivial | assumption | simp_all)))); (first | done | fail)) : Sub Hc H := h
end Go.Proofs.YtjaigpidmngaaaaGreat

namespace Go.Proofs.YtjaigpidmngaaaaGreat
attribute [local irreducible] callA callP ACalls
abbrev u8A (c : UInt8) : AV := .int .u8 (c.toNat : Nat)
theorem u8lit (c : UInt8) (n : Nat) (hn : n < 256) : ((c.toNat : Nat) : Int) = (n : Int) ↔ c = UInt8.ofNat n := by
  rw [Int.ofNat_inj]
  constructor
  · intro h; apply UInt8.toNat.inj; rw [h, UInt8.toNat_ofNat']; omega
  · intro h; rw [h, UInt8.toNat_ofNat']; omega
theorem dig_iff (c : UInt8) : dig c = true ↔ 48 ≤ c.toNat ∧ c.toNat ≤ 57 := by simp [dig]
theorem ltr_iff (c : UInt8) : ltr c = true ↔ (97 ≤ c.toNat ∧ c.toNat ≤ 122) ∨ (65 ≤ c.toNat ∧ c.toNat ≤ 90) := by simp [ltr]
theorem nat_eq (c : UInt8) (n : Nat) (hn : n < 256) : c = UInt8.ofNat n ↔ c.toNat = n := by
  constructor
  · intro h; rw [h, UInt8.toNat_ofNat']; omega
  · intro h; apply UInt8.toNat.inj; rw [h, UInt8.toNat_ofNat']; omega
theorem nam_iff (c : UInt8) : nam c = true ↔ (48 ≤ c.toNat ∧ c.toNat ≤ 57) ∨ c.toNat = 95 ∨ (97 ≤ c.toNat ∧ c.toNat ≤ 122) ∨ (65 ≤ c.toNat ∧ c.toNat ≤ 90) := by
  simp only [nam, Bool.or_eq_true, dig_iff, ltr_iff, beq_iff_eq]
  rw [show (95 : UInt8) = UInt8.ofNat 95 from rfl, nat_eq c 95 (by decide)]
  omega
theorem blnk_iff (c : UInt8) : blnk c = true ↔ c.toNat = 32 ∨ c.toNat = 9 ∨ c.toNat = 10 ∨ c.toNat = 13 := by
  simp only [blnk, Bool.or_eq_true, beq_iff_eq]
  rw [show (32 : UInt8) = UInt8.ofNat 32 from rfl, show (9 : UInt8) = UInt8.ofNat 9 from rfl, show (10 : UInt8) = UInt8.ofNat 10 from rfl, show (13 : UInt8) = UInt8.ofNat 13 from rfl, nat_eq c 32 (by decide), nat_eq c 9 (by decide), nat_eq c 10 (by decide), nat_eq c 13 (by decide)]
  omega
theorem bool_iff {b : Bool} {p : Prop} [Decidable p] (h : b = true ↔ p) : b = decide p := by
  cases b with
  | true => rw [decide_eq_true (h.1 rfl)]
  | false => rw [decide_eq_false (fun q => by have := h.2 q; cases this)]
theorem name_may_spec (c : UInt8) (first : Bool) (H : AH) : ACalls PG name_may.n [u8A c, .bool first] H fun r H' => r = .bool (if first then ltr c else nam c) ∧ H' = H := by
  refine name_may.of rfl (wpF_start ?_)
  cases first with
  | true =>
    rw [show (if true then ltr c else nam c) = ltr c from rfl, bool_iff (ltr_iff c)]
    (repeat' (first | (refine au ?_; first | refine bsplit_dec (fun _ => ?_) (fun _ => ?_) | refine bsplit_intro (fun _ => ?_) (fun _ => ?_)) | exact au0 | fail)); (all_goals try (first | refine au ?_ | fail))
    all_goals (conv => whnf)
    all_goals exact ⟨congrArg AV.bool (by first | exact (decide_eq_true (by omega)).symm | exact (decide_eq_false (by omega)).symm | exact decide_eq_decide.2 (by omega)), rfl⟩
  | false =>
    rw [show (if false then ltr c else nam c) = nam c from rfl, bool_iff (nam_iff c)]
    (repeat' (first | (refine au ?_; first | refine bsplit_dec (fun _ => ?_) (fun _ => ?_) | refine bsplit_intro (fun _ => ?_) (fun _ => ?_)) | exact au0 | fail)); (all_goals try (first | refine au ?_ | fail))
    all_goals (conv => whnf)
    all_goals exact ⟨congrArg AV.bool (by first | exact (decide_eq_true (by omega)).symm | exact (decide_eq_false (by omega)).symm | exact decide_eq_decide.2 (by omega)), rfl⟩
theorem name_Lead_spec (s : List UInt8) (hs : s.length ≤ 140737488351232) (H : AH) : ACalls PG name_Lead.n [.str s] H fun r H' => r = .int .i64 (nl s : Nat) ∧ H' = H := by
  refine name_Lead.of rfl (wpF_start ?_)
  have hnl := nl_le s
  (first | refine ah ?_ | exact ah0)
  refine ⟨fun n L H' => ∃ i : Nat, n = s.length - i ∧ i ≤ nl s ∧ L = [(0, some (.str s)), (3, some (.int .i64 i))] ∧ H' = H, ⟨_, H, ?_, Sub.refl _, _, 0, rfl, Nat.zero_le _, rfl, rfl⟩, ?_⟩
  · exact (by exact cov_of)
  · rintro n L H' ⟨i, rfl, hi, rfl, rfl⟩
    (first | refine ah ?_ | exact ah0)
    refine bsplit_dec (fun h1 => ?_) (fun h1 => ?_)
    · have hst := nl_step hi (by omega)
      (first | refine ah ?_ | exact ah0)
      refine callF_eq (name_may_spec (s.getD i 0) _ _) ?_
      (first | refine ah ?_ | exact ah0)
      rw [show (if decide ((i : Int) = 0) = true then ltr (s.getD i 0) else nam (s.getD i 0)) = decide (i < nl s) from by
        rw [show decide (i < nl s) = (if i = 0 then ltr (s.getD 0 0) else nam (s.getD i 0)) from (bool_iff hst.symm).symm]
        by_cases e : i = 0
        · subst e; simp
        · rw [if_neg e, if_neg (by simpa using e)]]
      refine bsplit_dec (fun h2 => ?_) (fun h2 => ?_)
      · (first | refine ah ?_ | exact ah0)
        refine ⟨[(0, some (.str s)), (3, some (.int .i64 (i + 1 : Nat)))], H', (by exact cov_of), Sub.refl _, _, ?_, i + 1, rfl, by omega, rfl, rfl⟩
        omega
      · (first | refine ah ?_ | exact ah0)
        exact ⟨by rw [show i = nl s from by omega], rfl⟩
    · (first | refine ah ?_ | exact ah0)
      exact ⟨by rw [show i = nl s from by omega], rfl⟩
theorem word_spec (s : List UInt8) (H : AH) : ACalls PG name_Word.n [.str s] H fun r H' => r = .bool (rsv.contains s) ∧ H' = H := by
  refine name_Word.of rfl (wpF_start ?_)
  unfold rsv
  (repeat' (first | (refine au ?_; first | refine bsplit_dec (fun _ => ?_) (fun _ => ?_) | refine bsplit_intro (fun _ => ?_) (fun _ => ?_)) | exact au0 | fail)); (all_goals try (first | refine au ?_ | fail))
  all_goals exact ⟨congrArg AV.bool (by simp_all), rfl⟩
end Go.Proofs.YtjaigpidmngaaaaGreat

namespace Go.Proofs.YtjaigpidmngaaaaGreat
attribute [local irreducible] callA callP ACalls
theorem stringslite_IndexByte_spec (s : List UInt8) (c : UInt8) (H : AH) : ACalls PG stringslite_IndexByte.n [.str s, u8A c] H fun r H' => r = .int .i64 (Lib.indexByte s c) ∧ H' = H := by
  refine stringslite_IndexByte.of rfl (wpF_start ?_)
  (first | refine ah ?_ | exact ah0)
  exact ⟨by simp, rfl⟩
theorem strings_IndexByte_spec (s : List UInt8) (c : UInt8) (H : AH) : ACalls PG strings_IndexByte.n [.str s, u8A c] H fun r H' => r = .int .i64 (Lib.indexByte s c) ∧ H' = H := by
  refine strings_IndexByte.of rfl (wpF_start ?_)
  (first | refine ah ?_ | exact ah0)
  refine callF_eq (stringslite_IndexByte_spec s c _) ?_
  (first | refine ah ?_ | exact ah0)
theorem indexByte_in : ∀ (s : List UInt8) (c : UInt8), 0 ≤ Lib.indexByte s c ↔ s.contains c = true
  | [], c => by simp [Lib.indexByte]
  | b :: s, c => by
    have ih := indexByte_in s c
    have ge := Lib.indexByte_ge s c
    unfold Lib.indexByte
    simp only [List.contains_cons, Bool.or_eq_true, beq_iff_eq]
    split
    · rename_i h; simp [h]
    · rename_i h
      split
      · rename_i h2
        rw [h2] at ih
        constructor
        · intro q; omega
        · rintro (q | q)
          · exact (h q.symm).elim
          · have := ih.2 q; omega
      · rename_i h2
        constructor
        · intro q; exact .inr (ih.1 (by omega))
        · intro q; omega
end Go.Proofs.YtjaigpidmngaaaaGreat

namespace Go.Proofs.YtjaigpidmngaaaaGreat
noncomputable def app (E L : FL) : FL := @List.rec (Nat × Option AV) (fun _ => FL) L (fun p _ ih => p :: ih) E
structure LI {S : Type} (ent : S → FL) (hp : S → AH) (μ : S → Nat) (P : S → Prop) (L0 : FL) (n : Nat) (L : FL) (H : AH) : Prop where
  out : ∃ s, n = μ s ∧ P s ∧ L = app (ent s) L0 ∧ H = hp s
theorem loopS {B : (Nat → FL → AH → Prop) → Nat → FL → AH → Prop} {L0 : FL} {H0 : AH} {S : Type} (ent : S → FL) (hp : S → AH) (μ : S → Nat) (P : S → Prop) (s0 : S) (h0 : P s0)
    (step : ∀ s, P s → B (LI ent hp μ P L0) (μ s) (app (ent s) L0) (hp s))
    (hc : coversZ H0 (hp s0) (app (ent s0) L0) L0 := by exact cov_of) (hs : Sub (hp s0) H0 := by exact sub_of) :
    ∃ I : Nat → FL → AH → Prop, WeakF (fun M Hk => ∃ n, I n M Hk) L0 H0 ∧ ∀ n L H, I n L H → B I n L H :=
  ⟨LI ent hp μ P L0, ⟨_, _, hc, hs, _, ⟨s0, rfl, h0, rfl, rfl⟩⟩, by rintro n L H ⟨s, rfl, h, rfl, rfl⟩; exact step s h⟩
theorem nextS {S : Type} {ent : S → FL} {hp : S → AH} {μ : S → Nat} {P : S → Prop} {L0 L : FL} {H : AH} {n : Nat} (s : S)
    (hc : coversZ H (hp s) (app (ent s) L0) L) (hs : Sub (hp s) H) (hm : μ s < n) (h : P s) :
    ∃ M Hk, coversZ H Hk M L ∧ Sub Hk H ∧ ∃ m, m < n ∧ LI ent hp μ P L0 m M Hk := ⟨_, _, hc, hs, _, hm, ⟨s, rfl, h, rfl, rfl⟩⟩
theorem loopM {B : (Nat → FL → AH → Prop) → Nat → FL → AH → Prop} {L0 : FL} {H0 : AH} {S : Type} (L1 : FL) (ent : S → FL) (hp : S → AH) (μ : S → Nat) (P : S → Prop) (s0 : S)
    (hc : coversZ H0 (hp s0) (app (ent s0) L1) L0) (hs : Sub (hp s0) H0) (h0 : P s0)
    (step : ∀ s, P s → B (LI ent hp μ P L1) (μ s) (app (ent s) L1) (hp s)) :
    ∃ I : Nat → FL → AH → Prop, WeakF (fun M Hk => ∃ n, I n M Hk) L0 H0 ∧ ∀ n L H, I n L H → B I n L H :=
  ⟨LI ent hp μ P L1, ⟨_, _, hc, hs, _, ⟨s0, rfl, h0, rfl, rfl⟩⟩, by rintro n L H ⟨s, rfl, h, rfl, rfl⟩; exact step s h⟩
theorem loopL {B : (Nat → FL → AH → Prop) → Nat → FL → AH → Prop} {L0 : FL} {H0 : AH} (L1 : FL) (d a N : Nat) (P : Nat → Prop)
    (hc : coversZ H0 H0 ((d, some (.int .i64 (a : Nat))) :: L1) L0) (ha : a ≤ N) (h0 : P a)
    (step : ∀ i, i ≤ N → P i → B (LI (fun i : Nat => [(d, some (.int .i64 (i : Nat)))]) (fun _ => H0) (fun i => N - i) (fun i => i ≤ N ∧ P i) L1) (N - i) ((d, some (.int .i64 (i : Nat))) :: L1) H0) :
    ∃ I : Nat → FL → AH → Prop, WeakF (fun M Hk => ∃ n, I n M Hk) L0 H0 ∧ ∀ n L H, I n L H → B I n L H :=
  loopM (S := Nat) L1 (fun i => [(d, some (.int .i64 (i : Nat)))]) (fun _ => H0) (fun i => N - i) (fun i => i ≤ N ∧ P i) a hc (Sub.refl _) ⟨ha, h0⟩ (fun i h => step i h.1 h.2)
theorem fz_eq {H Hc : AH} {r v : AV} (h : r = v) : Fz H Hc r v := by rw [h]; exact .refl _
theorem nextN {d N i : Nat} {P : Nat → Prop} {H0 H : AH} {L0 L : FL} (hc : coversZ H H0 ((d, some (.int .i64 ((i + 1 : Nat) : Int))) :: L0) L) (hs : Sub H0 H) (h1 : i < N) (h2 : P (i + 1)) :
    ∃ M Hk, coversZ H Hk M L ∧ Sub Hk H ∧ ∃ m, m < N - i ∧ LI (fun i : Nat => [(d, some (.int .i64 (i : Nat)))]) (fun _ => H0) (fun i => N - i) (fun i => i ≤ N ∧ P i) L0 m M Hk :=
  nextS (S := Nat) (ent := fun i => [(d, some (.int .i64 (i : Nat)))]) (hp := fun _ => H0) (i + 1) hc hs (by show N - (i + 1) < N - i; omega) ⟨h1, h2⟩
theorem ACalls.fzK {P : Program} {f : Nat} {args : List AV} {H : AH} {v : AV} (h : ACalls P f args H fun r H' => Fz H' [] r v) : ACalls P f args H fun r _ => r = v :=
  h.freeze fun r H' a => ⟨v, [], Sub.nil _, a, rfl⟩
theorem ACalls.sup {P : Program} {f : Nat} {args : List AV} {Hs H : AH} {K : AV → Prop} (h : ACalls P f args Hs fun r H' => K r ∧ H' = Hs) (hs : Sub Hs H) : ACalls P f args H fun r H' => K r ∧ H' = H := by
  refine ⟨h.1, fun w ρ Z xs g hr => (h.2 w ρ Z xs (g.forget hs) hr).mono fun e w' ⟨x, r', H', ρ', Z', a, g1, c, d, k1, k2⟩ => ?_⟩
  subst k2
  obtain ⟨q1, q2⟩ := g.frame hs d g1 (HS' := H) fun j c q => by
    cases hh : hget H' j with
    | none => exact .inr ⟨q, rfl⟩
    | some c' => have := hs _ _ hh; rw [q] at this; exact .inl this.symm
  exact ⟨x, _, _, ρ', Z', a, q1, c, q2, k1, rfl⟩
def accV (o : Option Nat) (sz n : Nat) : AV := match o with
  | none => .nilS
  | some id => .own id sz 0 n
def accH (o : Option Nat) (sz : Nat) (l : List (List AV)) (H : AH) : AH := match o with
  | none => H
  | some id => (id, .rows sz l) :: H
theorem accFz {o : Option Nat} {sz n : Nat} {l l' : List (List AV)} {H Hc : AH} (hn : n = l.length) (h0 : o = none → l = []) (hd : ∀ id, o = some id → hget Hc id = none) (h : FzR (accH o sz l H) Hc l l') (hw : ∀ r ∈ l', r.length = sz) : Fz (accH o sz l H) Hc (accV o sz n) (.rows sz l') := by
  subst hn
  cases o with
  | none =>
    have := h0 rfl; subst this
    have : l' = [] := List.eq_nil_of_length_eq_zero h.spec.1.symm
    subst this; exact .nil sz
  | some id => exact Fz.ownL hget_self (hd id rfl) h hw
theorem map_w {α : Type} {f : α → List AV} {sz : Nat} (h : ∀ x, (f x).length = sz) (l : List α) : ∀ r ∈ l.map f, r.length = sz := fun r hr => by
  obtain ⟨x, _, rfl⟩ := List.mem_map.1 hr; exact h x
theorem take_map_succ {α β : Type} (f : α → β) (l : List α) (i : Nat) (h : i < l.length) : (l.take (i + 1)).map f = (l.take i).map f ++ [f l[i]] := by
  simp only [List.take_add_one, List.map_append, List.getElem?_eq_getElem h, Option.toList_some, List.map_cons, List.map_nil]
theorem row_get {α : Type} {f : α → List AV} {l : List α} {i : Nat} (h : i < l.length) : (l.map f).getD (Int.toNat (i : Nat)) [] = f l[i] := by
  rw [Int.toNat_natCast]; simp [List.getD, h]
theorem readS_all {H : AH} {id sz n : Nat} {l : List (List AV)} (hg : hget H id = some (.rows sz l)) (h : n = l.length) : readS H false sz (.own id sz 0 n) = some l := by
  simp [readS, hg, h]
theorem cast_max (a b : Nat) : ((max a b : Nat) : Int) = max (a : Int) (b : Int) := by omega
theorem cast_min (a b : Nat) : ((min a b : Nat) : Int) = min (a : Int) (b : Int) := by omega
end Go.Proofs.YtjaigpidmngaaaaGreat

namespace Go.Proofs.YtjaigpidmngaaaaGreat
attribute [local irreducible] callA callP ACalls
abbrev byteR (c : UInt8) : List AV := [.int .u8 (c.toNat : Int)]
theorem path_number_spec (s : List UInt8) (hs : s.length ≤ 140737488351232) (H : AH) : ACalls PG path_number.n [.str s] H fun r H' => r = .tup [.int .i64 ((numP s).1 : Nat), .int .i64 ((numP s).2 : Nat)] ∧ H' = H := by
  have hix := indexByte_lt s 93
  refine ACalls.fz (path_number.of rfl (wpF_start ?_))
  (first | refine au ?_ | exact au0)
  first | refine callF_eq (strings_IndexByte_spec s 93 _) ?_ | refine callG_eq rfl (strings_IndexByte_spec s 93 _) ?_
  unfold numP
  generalize Lib.indexByte s 93 = e at *
  have h91 : s.getD 0 0 ≠ 91 ↔ (s.getD (Int.toNat 0) 0).toNat ≠ 91 := not_congr ⟨fun q => by show (s.getD 0 0).toNat = 91; rw [q]; rfl, fun q => UInt8.toNat_inj.1 q⟩
  have h48 : s.getD 1 0 = 48 ↔ (s.getD (Int.toNat 1) 0).toNat = 48 := ⟨fun q => by show (s.getD 1 0).toNat = 48; rw [q]; rfl, fun q => UInt8.toNat_inj.1 q⟩
  by_cases c : s.length < 3 ∨ s.getD 0 0 ≠ 91 ∨ e < 2 ∨ 3 < e ∨ (s.getD 1 0 = 48 ∧ 2 < e)
  · rw [if_pos c]
    by_cases c1 : s.length < 3
    · (first | refine au ?_ | exact au0)
      exact ⟨fz_of, sub_of⟩
    by_cases c2 : (s.getD (Int.toNat 0) 0).toNat ≠ 91
    · (first | refine au ?_ | exact au0)
      exact ⟨fz_of, sub_of⟩
    by_cases c3 : e < 2
    · (first | refine au ?_ | exact au0)
      exact ⟨fz_of, sub_of⟩
    by_cases c4 : 3 < e
    · (first | refine au ?_ | exact au0)
      exact ⟨fz_of, sub_of⟩
    have c5 : (s.getD (Int.toNat 1) 0).toNat = 48 ∧ 2 < e := by
      rcases c with q | q | q | q | q
      · exact absurd q c1
      · exact absurd (h91.1 q) c2
      · exact absurd q c3
      · exact absurd q c4
      · exact ⟨h48.1 q.1, q.2⟩
    obtain ⟨c5, c6⟩ := c5
    (first | refine au ?_ | exact au0)
    exact ⟨fz_of, sub_of⟩
  · rw [if_neg c]
    have c1 : ¬ s.length < 3 := fun q => c (.inl q)
    have c2 : (s.getD (Int.toNat 0) 0).toNat = 91 := Classical.byContradiction fun q => c (.inr (.inl (h91.2 q)))
    have c3 : ¬ e < 2 := fun q => c (.inr (.inr (.inl q)))
    have c4 : ¬ 3 < e := fun q => c (.inr (.inr (.inr (.inl q))))
    have c5 : (s.getD (Int.toNat 1) 0).toNat = 48 → ¬ 2 < e := fun q q2 => c (.inr (.inr (.inr (.inr ⟨h48.2 q, q2⟩))))
    clear c h91 h48
    generalize hd : (s.take e.toNat).drop 1 = d
    have hdl : d.length ≤ 2 := by rw [← hd, List.length_drop, List.length_take]; omega
    by_cases c6 : (s.getD (Int.toNat 1) 0).toNat = 48
    · have c7 := c5 c6
      (first | refine au ?_ | exact au0)
      rw [show (Int.toNat 1) = 1 from rfl, hd]
      have hdm : (d.map byteR).length = d.length := by simp
      refine loopM (S := Nat) [(4, some _), (38, some _), (39, some _)] (fun i => [(40, some (.int .i64 (i : Nat))), (5, some (.int .i64 (numV (d.take i) : Nat)))]) (fun _ => _) (fun i => d.length - i) (fun i => i ≤ d.length ∧ (d.take i).all dig = true) 0 (by exact cov_of) (Sub.refl _) ⟨Nat.zero_le _, by simp⟩ (fun i hi => ?_)
      obtain ⟨hi, hal⟩ := hi
      have hn2 : numV (d.take i) ≤ 99 := by
        have q1 := numVs_lt _ hal
        have q2 : 10 ^ (d.take i).length ≤ 10 ^ 2 := Nat.pow_le_pow_right (by decide) (by rw [List.length_take]; omega)
        omega
      (first | refine au ?_ | exact au0)
      refine bsplit_dec (fun h1 => ?_) (fun h1 => ?_)
      · have hil : i < d.length := by simpa [hdm] using h1
        have hge := row_get (f := byteR) hil
        have htk : d.take (i + 1) = d.take i ++ [d[i]] := List.take_succ_eq_append_getElem hil
        have hmem : d[i] ∈ d := List.getElem_mem hil
        have hcl := (d[i]).toNat_lt
        have hv := numVs_snoc (d.take i) d[i]
        have hn3 : (d.take (i + 1)).all dig = true → numV (d.take (i + 1)) ≤ 99 := by
          intro q
          have q1 := numVs_lt _ q
          have q2 : 10 ^ (d.take (i + 1)).length ≤ 10 ^ 2 := Nat.pow_le_pow_right (by decide) (by rw [List.length_take]; omega)
          omega
        rw [htk, hv, List.all_append, hal, Bool.true_and] at hn3
        generalize d[i] = c at *
        (first | refine au ?_ | exact au0)
        rw [hge]
        (first | refine au ?_ | exact au0)
        by_cases hdg : 48 ≤ c.toNat ∧ c.toNat ≤ 57
        · have hdg2 : dig c = true := by simpa [dig] using hdg
          have hn4 : 10 * numV (d.take i) + (c.toNat - 48) ≤ 99 := hn3 (by simp [hdg2])
          (first | refine au ?_ | exact au0)
          exact nextS (S := Nat) (i + 1) (by rw [htk, hv]; exact (by exact cov_of)) sub_of (by omega) ⟨hil, by rw [htk, List.all_append, hal]; simp [hdg2]⟩
        · have hdg2 : dig c = false := by
            cases q : dig c with
            | false => rfl
            | true => exact absurd (by simpa [dig] using q) hdg
          have hall : d.all dig = false := by
            cases h : d.all dig with
            | false => rfl
            | true => rw [List.all_eq_true.1 h c hmem] at hdg2; cases hdg2
          rw [hall, if_neg (by decide)]
          (first | refine au ?_ | exact au0)
          refine bsplit_dec (fun h2 => ?_) (fun h2 => ?_)
          all_goals
            (first | refine au ?_ | exact au0)
            exact ⟨fz_of, sub_of⟩
      · have : i = d.length := by simp [hdm] at h1; omega
        subst this
        rw [List.take_length] at hal ⊢
        rw [hal, if_pos rfl]
        (first | refine au ?_ | exact au0)
        have he1 : (e + 1 : Int) = ((numV d, e.toNat + 1).2 : Nat) := by dsimp only; omega
        rw [he1]
        exact ⟨fz_of, sub_of⟩
    · (first | refine au ?_ | exact au0)
      rw [show (Int.toNat 1) = 1 from rfl, hd]
      have hdm : (d.map byteR).length = d.length := by simp
      refine loopM (S := Nat) [(4, some _), (38, some _), (39, some _)] (fun i => [(40, some (.int .i64 (i : Nat))), (5, some (.int .i64 (numV (d.take i) : Nat)))]) (fun _ => _) (fun i => d.length - i) (fun i => i ≤ d.length ∧ (d.take i).all dig = true) 0 (by exact cov_of) (Sub.refl _) ⟨Nat.zero_le _, by simp⟩ (fun i hi => ?_)
      obtain ⟨hi, hal⟩ := hi
      have hn2 : numV (d.take i) ≤ 99 := by
        have q1 := numVs_lt _ hal
        have q2 : 10 ^ (d.take i).length ≤ 10 ^ 2 := Nat.pow_le_pow_right (by decide) (by rw [List.length_take]; omega)
        omega
      (first | refine au ?_ | exact au0)
      refine bsplit_dec (fun h1 => ?_) (fun h1 => ?_)
      · have hil : i < d.length := by simpa [hdm] using h1
        have hge := row_get (f := byteR) hil
        have htk : d.take (i + 1) = d.take i ++ [d[i]] := List.take_succ_eq_append_getElem hil
        have hmem : d[i] ∈ d := List.getElem_mem hil
        have hcl := (d[i]).toNat_lt
        have hv := numVs_snoc (d.take i) d[i]
        have hn3 : (d.take (i + 1)).all dig = true → numV (d.take (i + 1)) ≤ 99 := by
          intro q
          have q1 := numVs_lt _ q
          have q2 : 10 ^ (d.take (i + 1)).length ≤ 10 ^ 2 := Nat.pow_le_pow_right (by decide) (by rw [List.length_take]; omega)
          omega
        rw [htk, hv, List.all_append, hal, Bool.true_and] at hn3
        generalize d[i] = c at *
        (first | refine au ?_ | exact au0)
        rw [hge]
        (first | refine au ?_ | exact au0)
        by_cases hdg : 48 ≤ c.toNat ∧ c.toNat ≤ 57
        · have hdg2 : dig c = true := by simpa [dig] using hdg
          have hn4 : 10 * numV (d.take i) + (c.toNat - 48) ≤ 99 := hn3 (by simp [hdg2])
          (first | refine au ?_ | exact au0)
          exact nextS (S := Nat) (i + 1) (by rw [htk, hv]; exact (by exact cov_of)) sub_of (by omega) ⟨hil, by rw [htk, List.all_append, hal]; simp [hdg2]⟩
        · have hdg2 : dig c = false := by
            cases q : dig c with
            | false => rfl
            | true => exact absurd (by simpa [dig] using q) hdg
          have hall : d.all dig = false := by
            cases h : d.all dig with
            | false => rfl
            | true => rw [List.all_eq_true.1 h c hmem] at hdg2; cases hdg2
          rw [hall, if_neg (by decide)]
          (first | refine au ?_ | exact au0)
          refine bsplit_dec (fun h2 => ?_) (fun h2 => ?_)
          all_goals
            (first | refine au ?_ | exact au0)
            exact ⟨fz_of, sub_of⟩
      · have : i = d.length := by simp [hdm] at h1; omega
        subst this
        rw [List.take_length] at hal ⊢
        rw [hal, if_pos rfl]
        (first | refine au ?_ | exact au0)
        have he1 : (e + 1 : Int) = ((numV d, e.toNat + 1).2 : Nat) := by dsimp only; omega
        rw [he1]
        exact ⟨fz_of, sub_of⟩
end Go.Proofs.YtjaigpidmngaaaaGreat

namespace Go.Proofs.YtjaigpidmngaaaaGreat
theorem ACalls.perm {f : Nat} {args : List AV} {H1 H2 : AH} {K : AV → AH → Prop} (h : ACalls PG f args H1 K) (s1 : Sub H1 H2) (s2 : Sub H2 H1) : ACalls PG f args H2 K := by
  refine ⟨h.1, fun w ρ Z xs g hr => ?_⟩
  have e : Own ρ H1 = Own ρ H2 := funext fun b => propext ⟨fun q => q.of_sub s1, fun q => q.of_sub s2⟩
  rw [← e]
  exact h.2 w ρ Z xs (g.forget s1) hr
attribute [local irreducible] callA callP ACalls
abbrev dotA : Option (List UInt8) → List UInt8 → AV
  | some r, _ => .tup [.str r, .bool true]
  | none, s => .tup [.str s, .bool false]
theorem hasDot (s : List UInt8) : (decide (1 ≤ s.length) && decide (s.take 1 = [46])) = (dotP s).isSome := by
  cases s with
  | nil => rfl
  | cons c r => by_cases h : c = 46 <;> simp [dotP, h]
theorem dotP_drop (s : List UInt8) : (1 ≤ s.length ∧ s.take 1 = [46]) → dotP s = some (s.drop 1) := by
  cases s with
  | nil => simp
  | cons c r => simp +contextual [dotP]
theorem dotP_not (s : List UInt8) : ¬ (1 ≤ s.length ∧ s.take 1 = [46]) → dotP s = none := by
  cases s with
  | nil => simp [dotP]
  | cons c r => simp +contextual [dotP]
theorem pfx_spec (s p : List UInt8) (H : AH) : ACalls PG stringslite_HasPrefix.n [.str s, .str p] H fun r H' => r = .bool (decide (p.length ≤ s.length) && decide (s.take p.length = p)) ∧ H' = H := by
  refine stringslite_HasPrefix.of rfl (wpF_start ?_)
  (first | refine au ?_ | exact au0)
  refine bsplit_dec (fun h => ?_) (fun h => ?_)
  · (first | refine au ?_ | exact au0)
    exact ⟨by rw [decide_eq_true (show p.length ≤ s.length from by omega)]; simp, rfl⟩
  · (first | refine au ?_ | exact au0)
    exact ⟨by rw [decide_eq_false (show ¬ p.length ≤ s.length from by omega)]; simp, rfl⟩
theorem stringslite_CutPrefix_spec (s : List UInt8) (H : AH) : ACalls PG stringslite_CutPrefix.n [.str s, .str [46]] H fun r H' => r = dotA (dotP s) s ∧ H' = H := by
  refine ACalls.fz (stringslite_CutPrefix.of rfl (wpF_start ?_))
  (first | refine au ?_ | exact au0)
  first | refine callF_eq ((pfx_spec s [46] _).mono fun r H' q => (⟨q.1.trans (congrArg AV.bool (hasDot s)), q.2⟩ : r = .bool (dotP s).isSome ∧ H' = _)) ?_ | refine callG_eq rfl ((pfx_spec s [46] _).mono fun r H' q => (⟨q.1.trans (congrArg AV.bool (hasDot s)), q.2⟩ : r = .bool (dotP s).isSome ∧ H' = _)) ?_
  by_cases c : 1 ≤ s.length ∧ s.take 1 = [46]
  · rw [dotP_drop s c]
    have hl := c.1
    (first | refine au ?_ | exact au0)
    rw [show List.drop (((([46] : List UInt8).length : Nat) : Int)).toNat (s.take (s.length : Int).toNat) = s.drop 1 from by simp]
    exact ⟨fz_of, sub_of⟩
  · rw [dotP_not s c]
    (first | refine au ?_ | exact au0)
    exact ⟨fz_of, sub_of⟩
theorem strings_CutPrefix_spec (s : List UInt8) (H : AH) : ACalls PG strings_CutPrefix.n [.str s, .str [46]] H fun r H' => r = dotA (dotP s) s ∧ H' = H := by
  refine ACalls.fz (strings_CutPrefix.of rfl (wpF_start ?_))
  (first | refine au ?_ | exact au0)
  first | refine callF_eq (stringslite_CutPrefix_spec s _) ?_ | refine callG_eq rfl (stringslite_CutPrefix_spec s _) ?_
  cases dotP s
  · (first | refine au ?_ | exact au0)
    exact ⟨fz_of, sub_of⟩
  · (first | refine au ?_ | exact au0)
    exact ⟨fz_of, sub_of⟩
abbrev pcA (x : Pc) : AV := .agg [.str x.1, .int .i64 (x.2.1 : Nat)]
theorem yld_all {lid : Nat} {args : List AV} {H : AH} {K' K : AV → AH → Prop} (h : AYields PG lid args H K') (k : ∀ r H', K' r H' → K r H') : yldF PG lid args H K :=
  yldF_of h (Sub.refl _) (fun r Hs' q => ⟨Hs', fun j b' hb => .inl hb, k r Hs' q⟩)
theorem drop_cons {α : Type} {l rest : List α} {i : Nat} {x : α} (h : l.drop i = x :: rest) : ∃ q : i < l.length, l[i] = x ∧ l.drop (i + 1) = rest := by
  have q : i < l.length := by
    apply Classical.byContradiction; intro q
    rw [List.drop_of_length_le (by omega)] at h; cases h
  rw [List.drop_eq_getElem_cons q] at h
  exact ⟨q, (List.cons.inj h).1, (List.cons.inj h).2⟩
structure IterOut (ids : Nat) (Jn Jx : AH → Prop) (H' : AH) : Prop where
  mk :: out : ∃ b H2, H' = (ids, b) :: H2 ∧ (Jn H2 ∨ Jx H2)
def Round (lid ids : Nat) (l : List Pc) (J : Nat → AH → Prop) (Jx : AH → Prop) : Prop :=
  ∀ i (h : i < l.length) (H : AH) (b : Blk), hget H ids = none → J i H → AYields PG lid [pcA l[i], .bool l[i].2.2] ((ids, b) :: H) fun r H' => ∃ H2, H' = (ids, b) :: H2 ∧ ((r = .bool true ∧ hget H2 ids = none ∧ J (i + 1) H2) ∨ (r = .bool false ∧ Jx H2))
theorem pieces_iter (s : List UInt8) (hs : s.length ≤ 140737488351232) (lid ids : Nat) (ht : tag ids = ty_string) (J : Nat → AH → Prop) (Jx : AH → Prop) (hy : Round lid ids (pcs s true) J Jx) (H0 : AH) (h0 : hget H0 ids = none) (hj : J 0 H0) :
    ACalls PG path_pieces_1.n [.yld lid, .ptr ids 1 0 0] ((ids, .rows 1 [[.str s]]) :: H0) fun _ H' => IterOut ids (J (pcs s true).length) Jx H' := by
  refine path_pieces_1.of' (by simp only [List.length_cons, List.length_nil]; omega) (wpF_start ?_)
  have hn00 := neAll_of h0
  (first | refine au ?_ | exact au0)
  have hloc : ∀ {i : Nat} {sq : List UInt8} {f : Bool} {x : Pc} {rest : List Pc}, (pcs s true).drop i = pcs sq f → pcs sq f = x :: rest → ∃ q : i < (pcs s true).length, (pcs s true)[i] = x ∧ (pcs s true).drop (i + 1) = rest := fun h1 h2 => drop_cons (h1.trans h2)
  refine loopM (S := Nat × List UInt8 × Bool × AH) [(0, some _), (1, some _)] (fun z => [(3, some (.bool z.2.2.1))]) (fun z => (ids, .rows 1 [[.str z.2.1]]) :: z.2.2.2) (fun z => (pcs s true).length - z.1) (fun z => z.1 ≤ (pcs s true).length ∧ z.2.1.length ≤ s.length ∧ (pcs s true).drop z.1 = pcs z.2.1 z.2.2.1 ∧ hget z.2.2.2 ids = none ∧ J z.1 z.2.2.2) (0, s, true, H0) (by exact cov_of) (Sub.refl _) ⟨Nat.zero_le _, Nat.le_refl _, rfl, h0, hj⟩ (fun ⟨i, sq, first, Hq⟩ hz => ?_)
  obtain ⟨hi, hl', hp, hq0, hqJ⟩ := hz
  dsimp only at hi hl' hp hq0 hqJ ⊢
  have hnl := numP_le sq
  have hn0 := neAll_of hq0
  by_cases h0 : first = false ∧ sq = []
  · obtain ⟨rfl, rfl⟩ := h0
    (first | refine au ?_ | exact au0)
    rw [pcs_end] at hp
    have hl2 := congrArg List.length hp
    rw [List.length_drop, List.length_nil] at hl2
    have : i = (pcs s true).length := by omega
    exact ⟨_, _, rfl, .inl (by rw [← this]; exact hqJ)⟩
  cases first with
  | true =>
    (first | refine au ?_ | exact au0)
    first | refine callF_eq (path_number_spec sq (by omega) _) ?_ | refine callG_eq rfl (path_number_spec sq (by omega) _) ?_
    by_cases c : 0 < (numP sq).2
    · obtain ⟨q1, q2, q3⟩ := hloc hp (pcs_num h0 c)
      have hyi := hy i q1 Hq (.rows 1 [[.str sq]]) hq0 hqJ
      rw [q2] at hyi
      (first | refine au ?_ | exact au0)
      refine yld_all hyi (fun r H' q => ?_)
      obtain ⟨H2, rfl, ⟨rfl, hq1, hqJ2⟩ | ⟨rfl, hx⟩⟩ := q
      · have hn1 := neAll_of hq1
        (first | refine au ?_ | exact au0)
        rw [show List.drop ((numP sq).2 : Int).toNat (List.take (sq.length : Int).toNat sq) = sq.drop (numP sq).2 from by simp]
        exact nextS (S := Nat × List UInt8 × Bool × AH) (i + 1, sq.drop (numP sq).2, false, H2) (by exact cov_of) (by dsimp only; exact sub_of) (by dsimp only; omega) ⟨q1, by simp only [List.length_drop]; omega, q3, hq1, hqJ2⟩
      · (first | refine au ?_ | exact au0)
        exact ⟨_, _, rfl, .inr hx⟩
    (first | refine au ?_ | exact au0)
    first | refine callF_eq (name_Lead_spec sq (by omega) _) ?_ | refine callG_eq rfl (name_Lead_spec sq (by omega) _) ?_
    have hnll := nl_le sq
    have hpi := pcs_item h0 c (r := sq) (by first | rfl | exact hd)
    by_cases c2 : nl sq = 0
    · rw [if_pos c2] at hpi
      obtain ⟨q1, q2, q3⟩ := hloc hp hpi
      have hyi := hy i q1 Hq (.rows 1 [[.str sq]]) hq0 hqJ
      rw [q2] at hyi
      have hl3 : (pcs s true).length = i + 1 := by
        have := congrArg List.length q3
        rw [List.length_drop, List.length_nil] at this
        omega
      (first | refine au ?_ | exact au0)
      refine yld_all hyi (fun r H' q => ?_)
      obtain ⟨H2, rfl, ⟨rfl, hq1, hqJ2⟩ | ⟨rfl, hx⟩⟩ := q
      · have hn1 := neAll_of hq1
        (first | refine au ?_ | exact au0)
        exact ⟨_, _, rfl, .inl (by rw [hl3]; exact hqJ2)⟩
      · (first | refine au ?_ | exact au0)
        exact ⟨_, _, rfl, .inr hx⟩
    · rw [if_neg c2] at hpi
      obtain ⟨q1, q2, q3⟩ := hloc hp hpi
      have hyi := hy i q1 Hq (.rows 1 [[.str sq]]) hq0 hqJ
      rw [q2] at hyi
      (first | refine au ?_ | exact au0)
      refine yld_all hyi (fun r H' q => ?_)
      obtain ⟨H2, rfl, ⟨rfl, hq1, hqJ2⟩ | ⟨rfl, hx⟩⟩ := q
      · have hn1 := neAll_of hq1
        (first | refine au ?_ | exact au0)
        rw [show List.drop ((nl sq : Nat) : Int).toNat (List.take ((sq).length : Int).toNat sq) = (sq).drop (nl sq) from by simp]
        exact nextS (S := Nat × List UInt8 × Bool × AH) (i + 1, (sq).drop (nl sq), false, H2) (by exact cov_of) (by dsimp only; exact sub_of) (by dsimp only; omega) ⟨q1, by simp only [List.length_drop]; omega, q3, hq1, hqJ2⟩
      · (first | refine au ?_ | exact au0)
        exact ⟨_, _, rfl, .inr hx⟩
  | false =>
    have hs0 : sq ≠ [] := fun q => h0 ⟨rfl, q⟩
    (first | refine au ?_ | exact au0)
    first | refine callF_eq (path_number_spec sq (by omega) _) ?_ | refine callG_eq rfl (path_number_spec sq (by omega) _) ?_
    by_cases c : 0 < (numP sq).2
    · obtain ⟨q1, q2, q3⟩ := hloc hp (pcs_num h0 c)
      have hyi := hy i q1 Hq (.rows 1 [[.str sq]]) hq0 hqJ
      rw [q2] at hyi
      (first | refine au ?_ | exact au0)
      refine yld_all hyi (fun r H' q => ?_)
      obtain ⟨H2, rfl, ⟨rfl, hq1, hqJ2⟩ | ⟨rfl, hx⟩⟩ := q
      · have hn1 := neAll_of hq1
        (first | refine au ?_ | exact au0)
        rw [show List.drop ((numP sq).2 : Int).toNat (List.take (sq.length : Int).toNat sq) = sq.drop (numP sq).2 from by simp]
        exact nextS (S := Nat × List UInt8 × Bool × AH) (i + 1, sq.drop (numP sq).2, false, H2) (by exact cov_of) (by dsimp only; exact sub_of) (by dsimp only; omega) ⟨q1, by simp only [List.length_drop]; omega, q3, hq1, hqJ2⟩
      · (first | refine au ?_ | exact au0)
        exact ⟨_, _, rfl, .inr hx⟩
    (first | refine au ?_ | exact au0)
    first | refine callF_eq (strings_CutPrefix_spec sq _) ?_ | refine callG_eq rfl (strings_CutPrefix_spec sq _) ?_
    cases hd : dotP sq with
    | none =>
      obtain ⟨q1, q2, q3⟩ := hloc hp (pcs_nodot hs0 c hd)
      have hyi := hy i q1 Hq (.rows 1 [[.str sq]]) hq0 hqJ
      rw [q2] at hyi
      have hl3 : (pcs s true).length = i + 1 := by
        have := congrArg List.length q3
        rw [List.length_drop, List.length_nil] at this
        omega
      (first | refine au ?_ | exact au0)
      refine yld_all hyi (fun r H' q => ?_)
      obtain ⟨H2, rfl, ⟨rfl, hq1, hqJ2⟩ | ⟨rfl, hx⟩⟩ := q
      · (first | refine au ?_ | exact au0)
        exact ⟨_, _, rfl, .inl (by rw [hl3]; exact hqJ2)⟩
      · (first | refine au ?_ | exact au0)
        exact ⟨_, _, rfl, .inr hx⟩
    | some u =>
      have hu : u.length ≤ sq.length := by rw [dotP_some hd]; simp
      (first | refine au ?_ | exact au0)
      first | refine callF_eq (name_Lead_spec u (by omega) _) ?_ | refine callG_eq rfl (name_Lead_spec u (by omega) _) ?_
      have hnll := nl_le u
      have hpi := pcs_item h0 c (r := u) (by first | rfl | exact hd)
      by_cases c2 : nl u = 0
      · rw [if_pos c2] at hpi
        obtain ⟨q1, q2, q3⟩ := hloc hp hpi
        have hyi := hy i q1 Hq (.rows 1 [[.str u]]) hq0 hqJ
        rw [q2] at hyi
        have hl3 : (pcs s true).length = i + 1 := by
          have := congrArg List.length q3
          rw [List.length_drop, List.length_nil] at this
          omega
        (first | refine au ?_ | exact au0)
        refine yld_all hyi (fun r H' q => ?_)
        obtain ⟨H2, rfl, ⟨rfl, hq1, hqJ2⟩ | ⟨rfl, hx⟩⟩ := q
        · have hn1 := neAll_of hq1
          (first | refine au ?_ | exact au0)
          exact ⟨_, _, rfl, .inl (by rw [hl3]; exact hqJ2)⟩
        · (first | refine au ?_ | exact au0)
          exact ⟨_, _, rfl, .inr hx⟩
      · rw [if_neg c2] at hpi
        obtain ⟨q1, q2, q3⟩ := hloc hp hpi
        have hyi := hy i q1 Hq (.rows 1 [[.str u]]) hq0 hqJ
        rw [q2] at hyi
        (first | refine au ?_ | exact au0)
        refine yld_all hyi (fun r H' q => ?_)
        obtain ⟨H2, rfl, ⟨rfl, hq1, hqJ2⟩ | ⟨rfl, hx⟩⟩ := q
        · have hn1 := neAll_of hq1
          (first | refine au ?_ | exact au0)
          rw [show List.drop ((nl u : Nat) : Int).toNat (List.take ((u).length : Int).toNat u) = (u).drop (nl u) from by simp]
          exact nextS (S := Nat × List UInt8 × Bool × AH) (i + 1, (u).drop (nl u), false, H2) (by exact cov_of) (by dsimp only; exact sub_of) (by dsimp only; omega) ⟨q1, by simp only [List.length_drop]; omega, q3, hq1, hqJ2⟩
        · (first | refine au ?_ | exact au0)
          exact ⟨_, _, rfl, .inr hx⟩
end Go.Proofs.YtjaigpidmngaaaaGreat

namespace Go.Proofs.YtjaigpidmngaaaaGreat
inductive Vl where
  | mk (kd : Int) (num : Nat) (tx : List UInt8) (its : List Vl)
def Vl.kd : Vl → Int | .mk k _ _ _ => k
def Vl.num : Vl → Nat | .mk _ n _ _ => n
def Vl.tx : Vl → List UInt8 | .mk _ _ t _ => t
def Vl.its : Vl → List Vl | .mk _ _ _ l => l
def figH (n : Nat) : UInt8 := UInt8.ofNat (if n < 10 then 48 + n else 87 + n)
def quoC (c : UInt8) : List UInt8 := if c.toNat < 32 ∨ 126 < c.toNat ∨ c = 39 ∨ c = 92 then [92, figH (c.toNat / 16), figH (c.toNat % 16)] else [c]
def quo (s : List UInt8) : List UInt8 := [39] ++ s.flatMap quoC ++ [39]
end Go.Proofs.YtjaigpidmngaaaaGreat

namespace Go.Proofs.YtjaigpidmngaaaaGreat
structure TyV (l : List Ty) : Prop where
  len : l.length ≤ 32
  ok : ∀ i, i < l.length → tyErr l i = 0
theorem tyChk_v {l : List Ty} (h : (tyChk l).1 = 0) : TyV l := by
  unfold tyChk at h
  split at h
  · cases h
  · rename_i hl
    refine ⟨by omega, fun i hi => ?_⟩
    split at h
    · rename_i k hk
      obtain ⟨hn, h1, _⟩ := find_some hk
      simp only [List.getElem_range, ne_eq, decide_not, Bool.not_eq_true', decide_eq_false_iff_not] at h1
      exact absurd h h1
    · rename_i hk
      rw [List.findIdx?_eq_none_iff] at hk
      have := hk i (List.mem_range.2 hi)
      simpa using this
theorem fst0_all : ∀ {l : List Int}, fst0 l = 0 → ∀ x ∈ l, x = 0
  | [], _, x, h => by cases h
  | e :: l, h, x, hx => by
    simp only [fst0] at h
    split at h
    · rename_i q; exact absurd h q
    · rename_i q
      rcases List.mem_cons.1 hx with rfl | hx
      · exact Classical.not_not.1 q
      · exact fst0_all h x hx
structure TyG (l : List Ty) (n : Nat) (t : Ty) : Prop where
  form : formE t = 0
  named : namedE l t n = 0
  bound : boundE t = 0
  order : orderE l t n = 0
  items : itemsE l t = 0
  deep : deepE l n = 0
theorem TyV.at {l : List Ty} (h : TyV l) {i : Nat} (hi : i < l.length) : TyG l i l[i] := by
  have := h.ok i hi
  unfold tyErr at this
  rw [show l.getD i ty0 = l[i] from by simp [List.getD, hi]] at this
  have q := fst0_all this
  exact ⟨q _ (by simp), q _ (by simp), q _ (by simp), q _ (by simp), q _ (by simp), q _ (by simp)⟩
end Go.Proofs.YtjaigpidmngaaaaGreat

namespace Go.Proofs.YtjaigpidmngaaaaGreat
def kIt (k : Int) : Bool := decide (k = 13 ∨ k = 14)
def stepP (l : List Ty) (t : Int) (p : Pc) : (Bool × Nat) × Int × Int :=
  if p.1 = [] then (if kEl (tAt l t).kd = false then ((false, 0), 0, 4) else if (tAt l t).bd ≤ (p.2.1 : Int) then ((false, 0), 0, 7) else ((true, p.2.1), (tAt l t).el, 0))
  else if kIt (tAt l t).kd = false then ((false, 0), 0, 4)
  else match itemIx l t p.1 with
    | none => ((false, 0), 0, 5)
    | some n => ((false, n), ((tAt l t).its.getD n it0).ty, 0)
def wayP (l : List Ty) : Int → List Pc → List (Bool × Nat) → List (Bool × Nat) × Int × Int
  | t, [], acc => (acc, t, 0)
  | t, p :: ps, acc => if (stepP l t p).2.2 = 0 then wayP l (stepP l t p).2.1 ps (acc ++ [(stepP l t p).1]) else ([], 0, (stepP l t p).2.2)
def knownT (l : List Ty) (t : Int) : Prop := 0 ≤ t ∧ t < l.length ∧ (tyChk l).1 = 0
instance (l : List Ty) (t : Int) : Decidable (knownT l t) := inferInstanceAs (Decidable (_ ∧ _))
def findP (l : List Ty) (t : Int) (s : List UInt8) : List (Bool × Nat) × Int × Int :=
  if knownT l t then (if (pcs s true).all (·.2.2) = true then wayP l t (pcs s true) [] else ([], 0, 1)) else ([], 0, 8)
end Go.Proofs.YtjaigpidmngaaaaGreat

namespace Go.Proofs.YtjaigpidmngaaaaGreat
attribute [local irreducible] callA callP ACalls
theorem kinds9 {k : Int} (h : isNum k = true) : k = 1 ∨ k = 2 ∨ k = 3 ∨ k = 4 ∨ k = 5 ∨ k = 6 ∨ k = 7 ∨ k = 8 ∨ k = 9 := by
  simp only [isNum, decide_eq_true_eq] at h; omega
theorem szK_no {k : Int} (h : isNum k = false) : szK k = 0 ∧ sgK k = false := by
  simp only [isNum, decide_eq_false_iff_not] at h
  unfold szK sgK
  exact ⟨by repeat (rw [if_neg (by omega)]), decide_eq_false (by omega)⟩
theorem szK_num {k : Int} (h : isNum k = true) : szK k = 1 ∨ szK k = 2 ∨ szK k = 4 ∨ szK k = 8 := by
  rcases kinds9 h with rfl | rfl | rfl | rfl | rfl | rfl | rfl | rfl | rfl <;> simp [szK]
theorem prim_Number_spec (k : Int) (H : AH) : ACalls PG prim_Number.n [.int .i64 k] H fun r H' => r = .bool (isNum k) ∧ H' = H := by
  refine ACalls.fz (prim_Number.of rfl (wpF_start ?_))
  unfold isNum
  (repeat' (first | (refine au ?_; first | refine bsplit_dec (fun _ => ?_) (fun _ => ?_) | refine bsplit_intro (fun _ => ?_) (fun _ => ?_)) | exact au0 | fail)); (all_goals try (first | refine au ?_ | fail))
  all_goals exact ⟨fz_eq (congrArg AV.bool (by first | exact (decide_eq_false (by omega)).symm | exact decide_eq_decide.2 (by omega))), sub_of⟩
theorem prim_rows_spec0 (k : Int) : ACalls PG prim_rows.n [.int .i64 k] [] fun r _ => r = .agg [.int .i64 (szK k : Nat), .bool (sgK k)] := by
  refine prim_rows.of rfl (wpF_start ?_)
  (first | refine au ?_ | exact au0)
  intro id2 hid2 ht2; have n2 := neAll_of hid2; (try simp only [neAll, neAll_hset] at n2); have m2 := n2; (repeat (obtain ⟨_, m2⟩ := m2))
  (first | refine au ?_ | exact au0)
  intro id3 hid3 ht3; have n3 := neAll_of hid3; (try simp only [neAll, neAll_hset] at n3); have m3 := n3; (repeat (obtain ⟨_, m3⟩ := m3))
  (first | refine au ?_ | exact au0)
  first | refine callF_eq (prim_Number_spec _ _) ?_ | refine callG_eq rfl (prim_Number_spec _ _) ?_
  (first | refine au ?_ | exact au0)
  cases h : isNum k with
  | false =>
    rw [(szK_no h).1, (szK_no h).2]
    (first | refine au ?_ | exact au0)
    rfl
  | true =>
    rcases kinds9 h with rfl | rfl | rfl | rfl | rfl | rfl | rfl | rfl | rfl
    all_goals (first | refine au ?_ | exact au0)
    all_goals rfl
theorem prim_rows_spec (k : Int) (H : AH) : ACalls PG prim_rows.n [.int .i64 k] H fun r H' => r = .agg [.int .i64 (szK k : Nat), .bool (sgK k)] ∧ H' = H := (prim_rows_spec0 k).frame H
theorem szK_five (k : Int) : szK k = 0 ∨ szK k = 1 ∨ szK k = 2 ∨ szK k = 4 ∨ szK k = 8 := by
  cases h : isNum k with
  | false => exact .inl (szK_no h).1
  | true => exact .inr (szK_num h)
theorem prim_Size_spec (k : Int) (H : AH) : ACalls PG prim_Size.n [.int .i64 k] H fun r H' => r = .int .i64 (szK k : Nat) ∧ H' = H := by
  refine ACalls.fz (prim_Size.of rfl (wpF_start ?_))
  (first | refine au ?_ | exact au0)
  first | refine callF_eq (prim_rows_spec _ _) ?_ | refine callG_eq rfl (prim_rows_spec _ _) ?_
  (first | refine au ?_ | exact au0)
  exact ⟨fz_of, sub_of⟩
theorem prim_Signed_spec (k : Int) (H : AH) : ACalls PG prim_Signed.n [.int .i64 k] H fun r H' => r = .bool (sgK k) ∧ H' = H := by
  refine ACalls.fz (prim_Signed.of rfl (wpF_start ?_))
  (first | refine au ?_ | exact au0)
  first | refine callF_eq (prim_rows_spec _ _) ?_ | refine callG_eq rfl (prim_rows_spec _ _) ?_
  (first | refine au ?_ | exact au0)
  exact ⟨fz_of, sub_of⟩
theorem wrap_u64 (x : Int) : IntKind.wrap .u64 x = x % 18446744073709551616 := by
  simp only [IntKind.wrap, IntKind.bits, IntKind.signed, Bool.false_and, Bool.false_eq_true, if_false]; omega
theorem wrap_i64 (x : Int) : IntKind.wrap .i64 x = if x % 18446744073709551616 < 9223372036854775808 then x % 18446744073709551616 else x % 18446744073709551616 - 18446744073709551616 := by
  simp only [IntKind.wrap, IntKind.bits, IntKind.signed, Bool.true_and]
  split <;> rename_i h <;> split <;> simp_all <;> omega
theorem low_shift {b : Nat} (hb : b = 1 ∨ b = 2 ∨ b = 4 ∨ b = 8) (n : Nat) : Int.fdiv (IntKind.wrap .u64 ((n : Int) * 2 ^ min (Int.toNat (64 - 8 * (b : Nat))) (IntKind.bits .u64))) (2 ^ min (Int.toNat (64 - 8 * (b : Nat))) (IntKind.bits .u64)) = (lowN b n : Nat) := by
  rw [wrap_u64]
  unfold lowN
  rcases hb with rfl | rfl | rfl | rfl
  · rw [show (2 : Int) ^ min (Int.toNat (64 - 8 * ((1 : Nat) : Int))) (IntKind.bits .u64) = 72057594037927936 from by decide, Int.fdiv_eq_ediv_of_nonneg _ (by decide)]; omega
  · rw [show (2 : Int) ^ min (Int.toNat (64 - 8 * ((2 : Nat) : Int))) (IntKind.bits .u64) = 281474976710656 from by decide, Int.fdiv_eq_ediv_of_nonneg _ (by decide)]; omega
  · rw [show (2 : Int) ^ min (Int.toNat (64 - 8 * ((4 : Nat) : Int))) (IntKind.bits .u64) = 4294967296 from by decide, Int.fdiv_eq_ediv_of_nonneg _ (by decide)]; omega
  · rw [show (2 : Int) ^ min (Int.toNat (64 - 8 * ((8 : Nat) : Int))) (IntKind.bits .u64) = 1 from by decide, Int.fdiv_eq_ediv_of_nonneg _ (by decide)]; omega
theorem sgn_shift {b : Nat} (hb : b = 1 ∨ b = 2 ∨ b = 4 ∨ b = 8) (n : Nat) : Int.fdiv (IntKind.wrap .i64 (IntKind.wrap .u64 ((n : Int) * 2 ^ min (Int.toNat (64 - 8 * (b : Nat))) (IntKind.bits .u64)))) (2 ^ min (Int.toNat (64 - 8 * (b : Nat))) (IntKind.bits .i64)) = sgnI b n := by
  rw [wrap_u64, wrap_i64]
  unfold sgnI lowN
  rw [show IntKind.bits .i64 = IntKind.bits .u64 from rfl]
  rcases hb with rfl | rfl | rfl | rfl
  · rw [show (2 : Int) ^ min (Int.toNat (64 - 8 * ((1 : Nat) : Int))) (IntKind.bits .u64) = 72057594037927936 from by decide, Int.fdiv_eq_ediv_of_nonneg _ (by decide)]; repeat' split <;> omega
  · rw [show (2 : Int) ^ min (Int.toNat (64 - 8 * ((2 : Nat) : Int))) (IntKind.bits .u64) = 281474976710656 from by decide, Int.fdiv_eq_ediv_of_nonneg _ (by decide)]; repeat' split <;> omega
  · rw [show (2 : Int) ^ min (Int.toNat (64 - 8 * ((4 : Nat) : Int))) (IntKind.bits .u64) = 4294967296 from by decide, Int.fdiv_eq_ediv_of_nonneg _ (by decide)]; repeat' split <;> omega
  · rw [show (2 : Int) ^ min (Int.toNat (64 - 8 * ((8 : Nat) : Int))) (IntKind.bits .u64) = 1 from by decide, Int.fdiv_eq_ediv_of_nonneg _ (by decide)]; repeat' split <;> omega
theorem prim_Low_spec (k : Int) (n : Nat) (H : AH) : ACalls PG prim_Low.n [.int .i64 k, .int .u64 (n : Nat)] H fun r H' => r = .int .u64 (lowK k n : Nat) ∧ H' = H := by
  refine ACalls.fz (prim_Low.of rfl (wpF_start ?_))
  (first | refine au ?_ | exact au0)
  first | refine callF_eq (prim_Size_spec _ _) ?_ | refine callG_eq rfl (prim_Size_spec _ _) ?_
  have h5 := szK_five k
  unfold lowK
  by_cases e : szK k = 0
  · rw [if_pos e, e]
    (first | refine au ?_ | exact au0)
    exact ⟨fz_of, sub_of⟩
  · rw [if_neg e]
    have hb : szK k = 1 ∨ szK k = 2 ∨ szK k = 4 ∨ szK k = 8 := by omega
    generalize szK k = b at *
    (first | refine au ?_ | exact au0)
    refine rng_any ?_
    (first | refine au ?_ | exact au0)
    exact ⟨fz_eq (congrArg (AV.int .u64) (low_shift hb n)), sub_of⟩
theorem word_sized_spec (b : Int) (H : AH) : ACalls PG word_sized.n [.int .i64 b] H fun r H' => r = .bool (decide (b = 1 ∨ b = 2 ∨ b = 4 ∨ b = 8)) ∧ H' = H := by
  refine ACalls.fz (word_sized.of rfl (wpF_start ?_))
  (repeat' (first | (refine au ?_; first | refine bsplit_dec (fun _ => ?_) (fun _ => ?_) | refine bsplit_intro (fun _ => ?_) (fun _ => ?_)) | exact au0 | fail)); (all_goals try (first | refine au ?_ | fail))
  all_goals exact ⟨fz_eq (congrArg AV.bool (by first | exact (decide_eq_true (by omega)).symm | exact decide_eq_decide.2 (by omega))), sub_of⟩
theorem word_Sign_spec (b n : Nat) (hb : b = 1 ∨ b = 2 ∨ b = 4 ∨ b = 8) (H : AH) : ACalls PG word_Sign.n [.int .u64 (n : Nat), .int .i64 (b : Nat)] H fun r H' => r = .int .i64 (sgnI b n) ∧ H' = H := by
  refine ACalls.fz (word_Sign.of rfl (wpF_start ?_))
  (first | refine au ?_ | exact au0)
  first | refine callF_eq (word_sized_spec _ _) ?_ | refine callG_eq rfl (word_sized_spec _ _) ?_
  rw [decide_eq_true (by omega)]
  (first | refine au ?_ | exact au0)
  refine rng_any ?_
  (first | refine au ?_ | exact au0)
  refine rng_any ?_
  (first | refine au ?_ | exact au0)
  exact ⟨fz_eq (congrArg (AV.int .i64) (sgn_shift hb n)), sub_of⟩
theorem word_Wide_spec (b n : Nat) (hb : b = 1 ∨ b = 2 ∨ b = 4 ∨ b = 8) (H : AH) : ACalls PG word_Wide.n [.int .u64 (n : Nat), .int .i64 (b : Nat)] H fun r H' => r = .int .u64 (wide (sgnI b n) : Nat) ∧ H' = H := by
  refine ACalls.fz (word_Wide.of rfl (wpF_start ?_))
  (first | refine au ?_ | exact au0)
  first | refine callF_eq (word_Sign_spec b n hb _) ?_ | refine callG_eq rfl (word_Sign_spec b n hb _) ?_
  (first | refine au ?_ | exact au0)
  refine rng_any ?_
  (first | refine au ?_ | exact au0)
  exact ⟨fz_eq (congrArg (AV.int .u64) (by rw [wrap_u64]; unfold wide; omega)), sub_of⟩
theorem sgK_num {k : Int} (h : sgK k = true) : isNum k = true := by
  simp only [sgK, decide_eq_true_eq] at h
  exact decide_eq_true (by omega)
theorem prim_Up_spec (k : Int) (n : Nat) (H : AH) : ACalls PG prim_Up.n [.int .i64 k, .int .u64 (n : Nat)] H fun r H' => r = .int .u64 (upK k n : Nat) ∧ H' = H := by
  refine ACalls.fz (prim_Up.of rfl (wpF_start ?_))
  (first | refine au ?_ | exact au0)
  first | refine callF_eq (prim_Signed_spec _ _) ?_ | refine callG_eq rfl (prim_Signed_spec _ _) ?_
  unfold upK
  cases h : sgK k with
  | true =>
    have hb := szK_num (sgK_num h)
    (first | refine au ?_ | exact au0)
    first | refine callF_eq (prim_Size_spec _ _) ?_ | refine callG_eq rfl (prim_Size_spec _ _) ?_
    (first | refine au ?_ | exact au0)
    first | refine callF_eq (word_Wide_spec _ n hb _) ?_ | refine callG_eq rfl (word_Wide_spec _ n hb _) ?_
    (first | refine au ?_ | exact au0)
    exact ⟨fz_of, sub_of⟩
  | false =>
    (first | refine au ?_ | exact au0)
    first | refine callF_eq (prim_Low_spec _ n _) ?_ | refine callG_eq rfl (prim_Low_spec _ n _) ?_
    (first | refine au ?_ | exact au0)
    exact ⟨fz_of, sub_of⟩
theorem prim_May_spec (k : Int) (n : Nat) (H : AH) : ACalls PG prim_May.n [.int .i64 k, .int .u64 (n : Nat)] H fun r H' => r = .bool (mayK k n) ∧ H' = H := by
  refine ACalls.fz (prim_May.of rfl (wpF_start ?_))
  rw [show mayK k n = decide ((1 ≤ k ∧ k ≤ 9) ∧ upK k n = n ∧ (k ≠ 1 ∨ n ≤ 1)) from by simp [mayK, isNum, Bool.decide_and, Bool.decide_or, Bool.and_assoc]]
  (repeat' (first | (refine au ?_; first | refine callF_eq (prim_Number_spec _ _) ?_ | refine callF_eq (prim_Up_spec _ n _) ?_ | refine bsplit_dec (fun _ => ?_) (fun _ => ?_) | refine bsplit_intro (fun _ => ?_) (fun _ => ?_)) | exact au0 | fail)); (all_goals try (first | refine au ?_ | fail))
  all_goals exact ⟨fz_eq (congrArg AV.bool (by first | exact (decide_eq_true (by omega)).symm | exact (decide_eq_false (by omega)).symm | exact decide_eq_decide.2 (by omega) | rfl)), sub_of⟩
end Go.Proofs.YtjaigpidmngaaaaGreat

namespace Go.Proofs.YtjaigpidmngaaaaGreat
attribute [local irreducible] callA callP ACalls
abbrev itR (x : It) : List AV := [.str x.nm, .int .u64 (x.num : Nat), .int .i64 x.ty, .bool x.key, .bool x.rest]
abbrev tyR (t : Ty) : List AV := [.int .i64 t.kd, .str t.nm, .int .i64 t.bd, .int .i64 t.el, .int .i64 t.tg, .rows 5 (t.its.map itR)]
abbrev tysA (l : List Ty) : AV := .rows 6 (l.map tyR)
abbrev inR (n : Int) : List AV := [.int .i64 n]
theorem has_spec (k : Int) (H : AH) : ACalls PG types_has.n [.int .i64 k] H fun r H' => r = .tup [.bool (kNm k), .bool (kBd k), .bool (kEl k), .bool (kTg k)] ∧ H' = H := by
  refine ACalls.fz (types_has.of rfl (wpF_start ?_))
  unfold kNm kBd kEl kTg
  (repeat' (first | (refine au ?_; first | refine bsplit_dec (fun _ => ?_) (fun _ => ?_) | refine bsplit_intro (fun _ => ?_) (fun _ => ?_)) | exact au0 | fail)); (all_goals try (first | refine au ?_ | fail))
  all_goals (refine ⟨fz_eq ?_, sub_of⟩; simp only [AV.tup.injEq, List.cons.injEq, AV.bool.injEq, and_true]; refine ⟨?_, ?_, ?_, ?_⟩ <;> first | exact (decide_eq_true (by omega)).symm | exact (decide_eq_false (by omega)).symm)
theorem rng4 (k : Int) : (kEl k = true ∧ kTg k = false ∧ k ≠ 13 ∧ k ≠ 14) ∨ (kEl k = false ∧ kTg k = true ∧ k = 14) ∨ (kEl k = false ∧ kTg k = false ∧ k = 13) ∨ (kEl k = false ∧ kTg k = false ∧ k ≠ 13 ∧ k ≠ 14) := by
  unfold kEl kTg
  by_cases h1 : k = 11 ∨ k = 12
  · exact .inl ⟨decide_eq_true h1, decide_eq_false (by omega), by omega, by omega⟩
  · by_cases h2 : k = 14
    · exact .inr (.inl ⟨decide_eq_false h1, decide_eq_true h2, h2⟩)
    · by_cases h3 : k = 13
      · exact .inr (.inr (.inl ⟨decide_eq_false h1, decide_eq_false h2, h3⟩))
      · exact .inr (.inr (.inr ⟨decide_eq_false h1, decide_eq_false h2, h3, h2⟩))
theorem parts_el {t : Ty} (h : kEl t.kd = true) (h2 : kTg t.kd = false) (h3 : t.kd ≠ 13) (h4 : t.kd ≠ 14) : parts t = [t.el] := by
  unfold parts; rw [h, h2, if_neg (show ¬ (t.kd = 13 ∨ t.kd = 14) by omega)]; rfl
theorem parts_tg {t : Ty} (h : kEl t.kd = false) (h2 : kTg t.kd = true) (h3 : t.kd = 14) : parts t = t.tg :: t.its.map (·.ty) := by
  unfold parts; rw [h, h2, if_pos (show t.kd = 13 ∨ t.kd = 14 by omega)]; rfl
theorem parts_st {t : Ty} (h : kEl t.kd = false) (h2 : kTg t.kd = false) (h3 : t.kd = 13) : parts t = t.its.map (·.ty) := by
  unfold parts; rw [h, h2, if_pos (show t.kd = 13 ∨ t.kd = 14 by omega)]; rfl
theorem parts_no {t : Ty} (h : kEl t.kd = false) (h2 : kTg t.kd = false) (h3 : t.kd ≠ 13) (h4 : t.kd ≠ 14) : parts t = [] := by
  unfold parts; rw [h, h2, if_neg (show ¬ (t.kd = 13 ∨ t.kd = 14) by omega)]; rfl
theorem parts_spec0 (t : Ty) (ht : t.its.length ≤ 4000000000000) : ACalls PG types_parts.n [.agg (tyR t)] [] fun r _ => r = .rows 1 ((parts t).map inR) := by
  refine ACalls.fzK (types_parts.of rfl (wpF_start ?_))
  have hlen : (t.its.map itR).length = t.its.length := by simp
  (first | refine au ?_ | exact au0)
  intro id1 hid1 ht1; have n1 := neAll_of hid1; (try simp only [neAll, neAll_hset] at n1); have m1 := n1; (repeat (obtain ⟨_, m1⟩ := m1))
  (first | refine au ?_ | exact au0)
  first | refine callF_eq (has_spec _ _) ?_ | refine callG_eq rfl (has_spec _ _) ?_
  rcases rng4 t.kd with ⟨h1, h2, h3, h4⟩ | ⟨h1, h2, h3⟩ | ⟨h1, h2, h3⟩ | ⟨h1, h2, h3, h4⟩
  · rw [h1, h2, parts_el h1 h2 h3 h4]
    (first | refine au ?_ | exact au0)
    refine ⟨_, rfl, (Nat.le_of_ble_eq_true rfl), (fun q => by cases q), fun _ => ?_⟩
    intro id2 hid2 ht2; have n2 := neAll_of hid2; (try simp only [neAll, neAll_hset] at n2); have m2 := n2; (repeat (obtain ⟨_, m2⟩ := m2))
    (first | refine au ?_ | exact au0)
    exact Fz.ownL hget_self rfl (FzR.refl _ _ _) (map_w (f := inR) (fun _ => rfl) _)
  · rw [h1, h2, parts_tg h1 h2 h3]
    (first | refine au ?_ | exact au0)
    refine ⟨_, rfl, (Nat.le_of_ble_eq_true rfl), (fun q => by cases q), fun _ => ?_⟩
    intro id2 hid2 ht2; have n2 := neAll_of hid2; (try simp only [neAll, neAll_hset] at n2); have m2 := n2; (repeat (obtain ⟨_, m2⟩ := m2))
    (first | refine au ?_ | exact au0)
    obtain ⟨pre, hpre⟩ : ∃ pre : List Int, pre = [t.tg] := ⟨_, rfl⟩
    have hpl : pre.length = 1 := by rw [hpre]; rfl
    refine loopS (S := Nat × Option Nat) (fun s => [(3, some (accV s.2 1 (pre.length + s.1))), (41, some (.int .i64 (s.1 : Nat)))]) (fun s => accH s.2 1 (pre.map inR ++ ((t.its.take s.1).map fun x => inR x.ty)) [(id1, .rows 6 [tyR t])]) (fun s => t.its.length - s.1) (fun s => s.1 ≤ t.its.length ∧ (s.2 = none → pre.length + s.1 = 0) ∧ ∀ id, s.2 = some id → tag id = ty_int ∧ id ≠ id1) (0, some id2) ⟨Nat.zero_le _, by simp, fun id q => by cases q; exact ⟨ht2, by omega⟩⟩ (fun ⟨i, o⟩ hs => ?_) (by exact cov_of) (by subst hpre; exact sub_of)
    dsimp only at hs
    rcases hs with ⟨hi, ho1, ho2⟩
    have hge : ∀ h : i < t.its.length, (t.its.map itR).getD (Int.toNat (i : Nat)) [] = itR t.its[i] := fun h => row_get h
    have htk : ∀ h : i < t.its.length, ((t.its.take (i + 1)).map fun x => inR x.ty) = ((t.its.take i).map fun x => inR x.ty) ++ [inR t.its[i].ty] := fun h => take_map_succ _ _ _ h
    have htl : (t.its.take i).length = i := by rw [List.length_take]; omega
    (first | refine au ?_ | exact au0)
    refine bsplit_dec (fun c => ?_) (fun c => ?_)
    · have hil : i < t.its.length := by omega
      replace hge := hge hil
      replace htk := htk hil
      generalize t.its[i] = x at *
      rcases o with _ | ida
      · (first | refine au ?_ | exact au0)
        rw [hge]
        (first | refine au ?_ | exact au0)
        intro id9 hid9 ht9; have n9 := neAll_of hid9; (try simp only [neAll, neAll_hset] at n9); have m9 := n9; (repeat (obtain ⟨_, m9⟩ := m9))
        (first | refine au ?_ | exact au0)
        refine ⟨_, rfl, (Nat.le_of_ble_eq_true rfl), (fun q => by cases q), fun _ => ?_⟩
        intro id47 hid47 ht47; have n47 := neAll_of hid47; (try simp only [neAll, neAll_hset] at n47); have m47 := n47; (repeat (obtain ⟨_, m47⟩ := m47))
        (first | refine au ?_ | exact au0)
        have hp := ho1 rfl
        refine nextS (S := Nat × Option Nat) (i + 1, some id47) (by exact cov_of) ?_ (by dsimp only; omega) ⟨hil, by simp, fun j q => ?_⟩
        · dsimp only [accH]
          rw [htk, show pre = [] from List.eq_nil_of_length_eq_zero (by omega), show i = 0 from by omega]
          exact sub_of
        · simp only [Option.some.injEq] at q
          subst q
          exact ⟨ht47, by omega⟩
      · obtain ⟨hti, hdi⟩ := ho2 ida rfl
        (first | refine au ?_ | exact au0)
        rw [hge]
        (first | refine au ?_ | exact au0)
        intro id9 hid9 ht9; have n9 := neAll_of hid9; (try simp only [neAll, neAll_hset] at n9); have m9 := n9; (repeat (obtain ⟨_, m9⟩ := m9))
        (first | refine au ?_ | exact au0)
        refine ⟨_, _, readS_all (by exact hg_of) (by ((try dsimp only); (try simp only [List.length_append, List.length_map, List.length_cons, List.length_nil, List.length_take, List.length_set, List.length_replicate]); (try dsimp only); first | done | omega)), rfl, rfl, rfl, (hti), (by ((try dsimp only); (try simp only [List.length_append, List.length_map, List.length_cons, List.length_nil, List.length_take, List.length_set, List.length_replicate]); (try dsimp only); first | done | omega)), ?_⟩
        intro id47 hid47 ht47; have n47 := neAll_of hid47; (try simp only [neAll, neAll_hset] at n47); have m47 := n47; (repeat (obtain ⟨_, m47⟩ := m47))
        (first | refine au ?_ | exact au0)
        refine nextS (S := Nat × Option Nat) (i + 1, some id47) (by exact cov_of) ?_ (by dsimp only; omega) ⟨hil, by simp, fun j q => ?_⟩
        · dsimp only [accH]
          rw [htk, ← List.append_assoc]
          exact sub_of
        · simp only [Option.some.injEq] at q
          subst q
          exact ⟨ht47, by omega⟩
    · (first | refine au ?_ | exact au0)
      obtain rfl : i = t.its.length := by omega
      rw [List.take_length]
      refine accFz (by ((try dsimp only); (try simp only [List.length_append, List.length_map, List.length_cons, List.length_nil, List.length_take, List.length_set, List.length_replicate]); (try dsimp only); first | done | omega)) (fun q => ?_) (fun _ _ => rfl) ?_ (map_w (f := inR) (fun _ => rfl) _)
      · have := ho1 q
        rw [List.eq_nil_of_length_eq_zero (show pre.length = 0 by omega), List.eq_nil_of_length_eq_zero (show t.its.length = 0 by omega)]
        rfl
      · rw [hpre]
        simp only [List.map_cons, List.map_nil, List.map_map, List.cons_append, List.nil_append]
        exact FzR.refl _ _ _
  · rw [h1, h2, parts_st h1 h2 h3]
    (first | refine au ?_ | exact au0)
    obtain ⟨pre, hpre⟩ : ∃ pre : List Int, pre = [] := ⟨_, rfl⟩
    have hpl : pre.length = 0 := by rw [hpre]; rfl
    refine loopS (S := Nat × Option Nat) (fun s => [(3, some (accV s.2 1 (pre.length + s.1))), (41, some (.int .i64 (s.1 : Nat)))]) (fun s => accH s.2 1 (pre.map inR ++ ((t.its.take s.1).map fun x => inR x.ty)) [(id1, .rows 6 [tyR t])]) (fun s => t.its.length - s.1) (fun s => s.1 ≤ t.its.length ∧ (s.2 = none → pre.length + s.1 = 0) ∧ ∀ id, s.2 = some id → tag id = ty_int ∧ id ≠ id1) (0, none) ⟨Nat.zero_le _, by simp [hpl], fun id q => by cases q⟩ (fun ⟨i, o⟩ hs => ?_) (by exact cov_of) (by subst hpre; exact sub_of)
    dsimp only at hs
    rcases hs with ⟨hi, ho1, ho2⟩
    have hge : ∀ h : i < t.its.length, (t.its.map itR).getD (Int.toNat (i : Nat)) [] = itR t.its[i] := fun h => row_get h
    have htk : ∀ h : i < t.its.length, ((t.its.take (i + 1)).map fun x => inR x.ty) = ((t.its.take i).map fun x => inR x.ty) ++ [inR t.its[i].ty] := fun h => take_map_succ _ _ _ h
    have htl : (t.its.take i).length = i := by rw [List.length_take]; omega
    (first | refine au ?_ | exact au0)
    refine bsplit_dec (fun c => ?_) (fun c => ?_)
    · have hil : i < t.its.length := by omega
      replace hge := hge hil
      replace htk := htk hil
      generalize t.its[i] = x at *
      rcases o with _ | ida
      · (first | refine au ?_ | exact au0)
        rw [hge]
        (first | refine au ?_ | exact au0)
        intro id9 hid9 ht9; have n9 := neAll_of hid9; (try simp only [neAll, neAll_hset] at n9); have m9 := n9; (repeat (obtain ⟨_, m9⟩ := m9))
        (first | refine au ?_ | exact au0)
        refine ⟨_, rfl, (Nat.le_of_ble_eq_true rfl), (fun q => by cases q), fun _ => ?_⟩
        intro id47 hid47 ht47; have n47 := neAll_of hid47; (try simp only [neAll, neAll_hset] at n47); have m47 := n47; (repeat (obtain ⟨_, m47⟩ := m47))
        (first | refine au ?_ | exact au0)
        have hp := ho1 rfl
        refine nextS (S := Nat × Option Nat) (i + 1, some id47) (by exact cov_of) ?_ (by dsimp only; omega) ⟨hil, by simp, fun j q => ?_⟩
        · dsimp only [accH]
          rw [htk, show pre = [] from List.eq_nil_of_length_eq_zero (by omega), show i = 0 from by omega]
          exact sub_of
        · simp only [Option.some.injEq] at q
          subst q
          exact ⟨ht47, by omega⟩
      · obtain ⟨hti, hdi⟩ := ho2 ida rfl
        (first | refine au ?_ | exact au0)
        rw [hge]
        (first | refine au ?_ | exact au0)
        intro id9 hid9 ht9; have n9 := neAll_of hid9; (try simp only [neAll, neAll_hset] at n9); have m9 := n9; (repeat (obtain ⟨_, m9⟩ := m9))
        (first | refine au ?_ | exact au0)
        refine ⟨_, _, readS_all (by exact hg_of) (by ((try dsimp only); (try simp only [List.length_append, List.length_map, List.length_cons, List.length_nil, List.length_take, List.length_set, List.length_replicate]); (try dsimp only); first | done | omega)), rfl, rfl, rfl, (hti), (by ((try dsimp only); (try simp only [List.length_append, List.length_map, List.length_cons, List.length_nil, List.length_take, List.length_set, List.length_replicate]); (try dsimp only); first | done | omega)), ?_⟩
        intro id47 hid47 ht47; have n47 := neAll_of hid47; (try simp only [neAll, neAll_hset] at n47); have m47 := n47; (repeat (obtain ⟨_, m47⟩ := m47))
        (first | refine au ?_ | exact au0)
        refine nextS (S := Nat × Option Nat) (i + 1, some id47) (by exact cov_of) ?_ (by dsimp only; omega) ⟨hil, by simp, fun j q => ?_⟩
        · dsimp only [accH]
          rw [htk, ← List.append_assoc]
          exact sub_of
        · simp only [Option.some.injEq] at q
          subst q
          exact ⟨ht47, by omega⟩
    · (first | refine au ?_ | exact au0)
      obtain rfl : i = t.its.length := by omega
      rw [List.take_length]
      refine accFz (by ((try dsimp only); (try simp only [List.length_append, List.length_map, List.length_cons, List.length_nil, List.length_take, List.length_set, List.length_replicate]); (try dsimp only); first | done | omega)) (fun q => ?_) (fun _ _ => rfl) ?_ (map_w (f := inR) (fun _ => rfl) _)
      · have := ho1 q
        rw [List.eq_nil_of_length_eq_zero (show pre.length = 0 by omega), List.eq_nil_of_length_eq_zero (show t.its.length = 0 by omega)]
        rfl
      · rw [hpre]
        simp only [List.map_cons, List.map_nil, List.map_map, List.cons_append, List.nil_append]
        exact FzR.refl _ _ _
  · rw [h1, h2, parts_no h1 h2 h3 h4]
    (first | refine au ?_ | exact au0)
    exact Fz.nil _
end Go.Proofs.YtjaigpidmngaaaaGreat

namespace Go.Proofs.YtjaigpidmngaaaaGreat
attribute [local irreducible] callA callP ACalls
abbrev kB (l : List Ty) (n : Nat) (t : Ty) : Blk := .rows 8 [[tysA l, .int .i64 (n : Nat), .int .i64 t.kd, .str t.nm, .int .i64 t.bd, .int .i64 t.el, .int .i64 t.tg, .rows 5 (t.its.map itR)]]
structure TyOk (t : Ty) : Prop where
  nm : t.nm.length ≤ 140737488351232
  its : t.its.length ≤ 4000000000000
  nms : ∀ x ∈ t.its, x.nm.length ≤ 140737488351232
  nums : ∀ x ∈ t.its, x.num < 18446744073709551616
structure TysOk (l : List Ty) : Prop where
  len : l.length ≤ 4000000000000
  all : ∀ t ∈ l, TyOk t
theorem kd4 {k : Int} (h : kNm k = true) : k = 9 ∨ k = 13 ∨ k = 14 := by simpa [kNm] using h
theorem kinds5 {k : Int} (h : ¬ (k < 1 ∨ 14 < k)) : (kNm k = false ∧ kBd k = false ∧ kEl k = false ∧ kTg k = false ∧ k ≤ 8) ∨ (kNm k = true ∧ kBd k = false ∧ kEl k = false ∧ kTg k = false ∧ (k = 9 ∨ k = 13)) ∨
    (kNm k = false ∧ kBd k = true ∧ kEl k = false ∧ kTg k = false ∧ k = 10) ∨ (kNm k = false ∧ kBd k = true ∧ kEl k = true ∧ kTg k = false ∧ (k = 11 ∨ k = 12)) ∨ (kNm k = true ∧ kBd k = false ∧ kEl k = false ∧ kTg k = true ∧ k = 14) := by
  have hk : k = 1 ∨ k = 2 ∨ k = 3 ∨ k = 4 ∨ k = 5 ∨ k = 6 ∨ k = 7 ∨ k = 8 ∨ k = 9 ∨ k = 10 ∨ k = 11 ∨ k = 12 ∨ k = 13 ∨ k = 14 := by omega
  rcases hk with rfl | rfl | rfl | rfl | rfl | rfl | rfl | rfl | rfl | rfl | rfl | rfl | rfl | rfl <;> decide
set_option maxHeartbeats 4000000 in
theorem form_spec (l : List Ty) (n : Nat) (t : Ty) (hok : TyOk t) (id : Nat) : SW PG types_look_form.n [.ptr id 8 0 0] id (kB l n t) [] (.int .i64 (formE t)) (kB l n t) := by
  have hlen : (t.its.map itR).length = t.its.length := by simp
  have hli := hok.its
  refine ACalls.fz (types_look_form.of rfl (wpF_start ?_))
  (first | refine au ?_ | exact au0)
  intro id3 hid3 ht3; have n3 := neAll_of hid3; (try simp only [neAll, neAll_hset] at n3); have m3 := n3; (repeat (obtain ⟨_, m3⟩ := m3))
  (first | refine au ?_ | exact au0)
  unfold formE
  by_cases hk : t.kd < 1 ∨ 14 < t.kd
  · rw [if_pos hk]
    (repeat' (first | (refine au ?_; first | refine bsplit_dec (fun _ => ?_) (fun _ => ?_) | refine bsplit_intro (fun _ => ?_) (fun _ => ?_)) | exact au0 | fail)); (all_goals try (first | refine au ?_ | fail))
    all_goals first | omega | exact ⟨fz_of, sub_of⟩
  rw [if_neg hk]
  refine bsplit_f (decide_eq_false (by omega)) ?_
  (first | refine au ?_ | exact au0)
  first | refine callF_eq (has_spec _ _) ?_ | refine callG_eq rfl (has_spec _ _) ?_
  have h0 : (0 : Int) < (t.its.map itR).length ↔ t.its ≠ [] := by rw [hlen]; cases t.its <;> simp
  rcases kinds5 hk with ⟨hN, hB, hE, hT, hh⟩ | ⟨hN, hB, hE, hT, hh⟩ | ⟨hN, hB, hE, hT, hh⟩ | ⟨hN, hB, hE, hT, hh⟩ | ⟨hN, hB, hE, hT, hh⟩
  all_goals by_cases hm : tyMore t = true
  all_goals simp only [hm, true_or, false_or, if_true]
  all_goals simp only [tyMore, decide_eq_true_eq] at hm
  all_goals rw [hN, hB, hE, hT] at hm ⊢
  all_goals (first | refine au ?_ | exact au0)
  all_goals (repeat' (first | (refine au ?_; first | refine bsplit_dec (fun _ => ?_) (fun _ => ?_) | refine bsplit_intro (fun _ => ?_) (fun _ => ?_)) | exact au0 | fail)); (all_goals try (first | refine au ?_ | fail))
  all_goals try (first | (exfalso; simp_all; done) | exact ⟨fz_of, sub_of⟩)
  all_goals refine loopL [(3, some _), (71, some _), (72, some _)] 73 0 t.its.length (none' (itMore t.kd) t.its) (by exact cov_of) (Nat.zero_le _) none'_zero (fun i hi hn => ?_)
  all_goals (first | refine au ?_ | exact au0)
  all_goals try refine bsplit_dec (fun c => ?_) (fun c => ?_)
  all_goals try (first | refine au ?_ | exact au0)
  all_goals first
    | (rw [none'_end hn (by omega)]; exact ⟨fz_of, sub_of⟩)
    | (exfalso; simp_all; done)
    | skip
  all_goals have hil : i < t.its.length := by omega
  all_goals have hge := row_get (f := itR) hil
  all_goals have hany : itMore t.kd t.its[i] = true → t.its.any (itMore t.kd) = true := any_hit hil
  all_goals have hnx := none'_succ hn hil
  all_goals generalize t.its[i] = x at *
  all_goals (first | refine au ?_ | exact au0)
  all_goals rw [hge]
  all_goals (first | refine au ?_ | exact au0)
  all_goals intro id9 hid9 ht9; have n9 := neAll_of hid9; (try simp only [neAll, neAll_hset] at n9); have m9 := n9; (repeat (obtain ⟨_, m9⟩ := m9))
  all_goals (repeat' (first | (refine au ?_; first | refine bsplit_dec (fun _ => ?_) (fun _ => ?_) | refine bsplit_intro (fun _ => ?_) (fun _ => ?_)) | exact au0 | fail)); (all_goals try (first | refine au ?_ | fail))
  all_goals first
    | (rw [hany (by unfold itMore; apply decide_eq_true; simp_all)]; exact ⟨fz_of, sub_of⟩)
    | (refine nextN (by exact cov_of) (by exact sub_of) (by omega) (hnx (by unfold itMore; apply decide_eq_false; simp_all)))
    | skip
end Go.Proofs.YtjaigpidmngaaaaGreat

namespace Go.Proofs.YtjaigpidmngaaaaGreat
attribute [local irreducible] callA callP ACalls
theorem name_Name_spec (s : List UInt8) (hs : s.length ≤ 140737488351232) (H : AH) : ACalls PG name_Name.n [.str s] H fun r H' => r = .bool (nameOk s) ∧ H' = H := by
  refine ACalls.fz (name_Name.of rfl (wpF_start ?_))
  have e : nameOk s = decide (s ≠ [] ∧ s.length ≤ 16 ∧ nl s = s.length ∧ rsv.contains s = false) := by
    unfold nameOk
    cases h : rsv.contains s <;> simp [Bool.decide_and, Bool.and_assoc]
  rw [e]
  have hnl := nl_le s
  (repeat' (first | (refine au ?_; first | refine callF_eq (name_Lead_spec s hs _) ?_ | refine callF_eq (word_spec s _) ?_ | refine bsplit_dec (fun _ => ?_) (fun _ => ?_) | refine bsplit_intro (fun _ => ?_) (fun _ => ?_)) | exact au0 | fail)); (all_goals try (first | refine au ?_ | fail))
  all_goals (refine ⟨fz_eq (congrArg AV.bool ?_), sub_of⟩; first | (symm; apply decide_eq_false; simp_all; done) | (symm; apply decide_eq_true; simp_all; done) | (simp_all; done) | (symm; apply decide_eq_false; rintro ⟨_, h1, h2, _⟩; omega) | (cases hr : rsv.contains s; exact (decide_eq_true ⟨by assumption, by omega, by omega, rfl⟩).symm; exact (decide_eq_false (by simp)).symm))
theorem bound_spec (l : List Ty) (n : Nat) (t : Ty) (id : Nat) : SW PG types_look_bound.n [.ptr id 8 0 0] id (kB l n t) [] (.int .i64 (boundE t)) (kB l n t) := by
  refine ACalls.fz (types_look_bound.of rfl (wpF_start ?_))
  (first | refine au ?_ | exact au0)
  first | refine callF_eq (has_spec _ _) ?_ | refine callG_eq rfl (has_spec _ _) ?_
  unfold boundE
  cases hB : kBd t.kd <;> cases hE : kEl t.kd
  all_goals (first | refine au ?_ | exact au0)
  all_goals (repeat' (first | (refine au ?_; first | refine bsplit_dec (fun _ => ?_) (fun _ => ?_) | refine bsplit_intro (fun _ => ?_) (fun _ => ?_)) | exact au0 | fail)); (all_goals try (first | refine au ?_ | fail))
  all_goals (refine ⟨fz_eq (congrArg (AV.int .i64) ?_), sub_of⟩; first | (rw [if_pos (by simp_all)]; done) | (rw [if_neg (by simp_all)]; done) | skip)
theorem any_take {α : Type} {p : α → Bool} {l : List α} {n : Nat} : (l.take n).any p = true ↔ ∃ (i : Nat) (h : i < l.length), i < n ∧ p l[i] = true := by
  rw [List.any_eq_true]
  constructor
  · rintro ⟨x, hx, hp⟩
    obtain ⟨i, hi, rfl⟩ := List.getElem_of_mem hx
    rw [List.length_take] at hi
    exact ⟨i, by omega, by omega, by simpa using hp⟩
  · rintro ⟨i, hi, hn, hp⟩
    exact ⟨l[i], by rw [List.mem_iff_getElem]; exact ⟨i, by rw [List.length_take]; omega, by simp⟩, hp⟩
theorem take_any_no {α : Type} {p : α → Bool} {l : List α} {n i : Nat} (h : none' p l i) (hn : n ≤ i) : (l.take n).any p = false := by
  rw [Bool.eq_false_iff, ne_eq, any_take]
  rintro ⟨j, hj, hjn, hp⟩
  rw [h j hj (by omega)] at hp; cases hp
theorem named_spec (l : List Ty) (n : Nat) (t : Ty) (hok : TyOk t) (hl : TysOk l) (hn : n ≤ l.length) (id : Nat) : SW PG types_look_named.n [.ptr id 8 0 0] id (kB l n t) [] (.int .i64 (namedE l t n)) (kB l n t) := by
  have hlen : (l.map tyR).length = l.length := by simp
  have hll := hl.len
  refine ACalls.fz (types_look_named.of rfl (wpF_start ?_))
  unfold namedE
  (first | refine au ?_ | exact au0)
  first | refine callF_eq (has_spec _ _) ?_ | refine callG_eq rfl (has_spec _ _) ?_
  cases hN : kNm t.kd
  · (first | refine au ?_ | exact au0)
    exact ⟨fz_of, sub_of⟩
  (first | refine au ?_ | exact au0)
  first | refine callF_eq (name_Name_spec _ hok.nm _) ?_ | refine callG_eq rfl (name_Name_spec _ hok.nm _) ?_
  cases hO : nameOk t.nm
  · (first | refine au ?_ | exact au0)
    exact ⟨fz_of, sub_of⟩
  (first | refine au ?_ | exact au0)
  have e1 : List.drop (Int.toNat 0) (List.take (Int.toNat (n : Nat)) (l.map tyR)) = (l.take n).map tyR := by simp
  have hl2 : (l.take n).length = n := by rw [List.length_take]; omega
  rw [e1]
  have hlen2 : ((l.take n).map tyR).length = n := by simp; omega
  refine loopL [(0, some _), (37, some _), (38, some _)] 39 0 n (none' (fun x => x.nm == t.nm) (l.take n)) (by exact cov_of) (Nat.zero_le _) none'_zero (fun i hi hno => ?_)
  (first | refine au ?_ | exact au0)
  refine bsplit_dec (fun c => ?_) (fun c => ?_)
  · have hil : i < (l.take n).length := by omega
    have hge := row_get (f := tyR) hil
    have hany : ((l.take n)[i].nm == t.nm) = true → (l.take n).any (fun x => x.nm == t.nm) = true := any_hit (p := fun x : Ty => x.nm == t.nm) hil
    have hnx := none'_succ hno hil
    generalize (l.take n)[i] = x at *
    (first | refine au ?_ | exact au0)
    rw [hge]
    (first | refine au ?_ | exact au0)
    intro id8 hid8 ht8; have n8 := neAll_of hid8; (try simp only [neAll, neAll_hset] at n8); have m8 := n8; (repeat (obtain ⟨_, m8⟩ := m8))
    (first | refine au ?_ | exact au0)
    refine bsplit_dec (fun h => ?_) (fun h => ?_)
    · (first | refine au ?_ | exact au0)
      rw [hany (by simpa using h)]
      exact ⟨fz_of, sub_of⟩
    · (first | refine au ?_ | exact au0)
      refine nextN (by exact cov_of) (by exact sub_of) (by omega) (hnx (by simpa using h))
  · (first | refine au ?_ | exact au0)
    rw [none'_end hno (by omega)]
    exact ⟨fz_of, sub_of⟩
theorem parts_spec (t : Ty) (ht : t.its.length ≤ 4000000000000) (H : AH) : ACalls PG types_parts.n [.agg (tyR t)] H fun r H' => r = .rows 1 ((parts t).map inR) ∧ H' = H := (parts_spec0 t ht).frame H
theorem parts_len (t : Ty) : (parts t).length ≤ t.its.length + 2 := by
  unfold parts
  simp only [List.length_append]
  have : (if kEl t.kd = true then [t.el] else []).length ≤ 1 := by split <;> simp
  have : (if kTg t.kd = true then [t.tg] else []).length ≤ 1 := by split <;> simp
  have : (if t.kd = 13 ∨ t.kd = 14 then t.its.map (·.ty) else []).length ≤ t.its.length := by split <;> simp
  omega
theorem parts_tag {t : Ty} (h : t.kd = 14) : t.tg ∈ parts t := by
  unfold parts; rw [show kTg t.kd = true from by simp [kTg, h], if_pos rfl]; simp
theorem order_spec (l : List Ty) (n : Nat) (t : Ty) (hok : TyOk t) (hl : TysOk l) (hn : n < l.length) (id : Nat) : SW PG types_look_order.n [.ptr id 8 0 0] id (kB l n t) [] (.int .i64 (orderE l t n)) (kB l n t) := by
  have hlen : (l.map tyR).length = l.length := by simp
  have hll := hl.len
  have hil := hok.its
  have hpl := parts_len t
  have hplm : ((parts t).map inR).length = (parts t).length := by simp
  refine ACalls.fz (types_look_order.of rfl (wpF_start ?_))
  unfold orderE
  (first | refine au ?_ | exact au0)
  first | refine callF_eq (parts_spec t hok.its _) ?_ | refine callG_eq rfl (parts_spec t hok.its _) ?_
  (first | refine au ?_ | exact au0)
  refine loopL [(0, some _), (9, some _), (10, some _)] 11 0 (parts t).length (none' (fun p => decide (p < 0 ∨ (n : Int) ≤ p)) (parts t)) (by exact cov_of) (Nat.zero_le _) none'_zero (fun i hi hno => ?_)
  (first | refine au ?_ | exact au0)
  refine bsplit_dec (fun c => ?_) (fun c => ?_)
  · have hpi : i < (parts t).length := by omega
    have hge := row_get (f := inR) hpi
    have hany : decide ((parts t)[i] < 0 ∨ (n : Int) ≤ (parts t)[i]) = true → (parts t).any (fun p => decide (p < 0 ∨ (n : Int) ≤ p)) = true := any_hit (p := fun p => decide (p < 0 ∨ (n : Int) ≤ p)) hpi
    have hnx := none'_succ hno hpi
    generalize (parts t)[i] = x at *
    (first | refine au ?_ | exact au0)
    rw [hge]
    (first | refine au ?_ | exact au0)
    (repeat' (first | (refine au ?_; first | refine bsplit_dec (fun _ => ?_) (fun _ => ?_) | refine bsplit_intro (fun _ => ?_) (fun _ => ?_)) | exact au0 | fail)); (all_goals try (first | refine au ?_ | fail))
    · rw [hany (decide_eq_true (by omega))]
      exact ⟨fz_of, sub_of⟩
    · rw [hany (decide_eq_true (by omega))]
      exact ⟨fz_of, sub_of⟩
    · refine nextN (by exact cov_of) (by exact sub_of) (by omega) (hnx (decide_eq_false (by omega)))
  · have hany := none'_end hno (show (parts t).length ≤ i by omega)
    rw [hany]
    (first | refine au ?_ | exact au0)
    refine bsplit_dec (fun h => ?_) (fun h => ?_)
    · have hm := parts_tag h
      rw [List.any_eq_false] at hany
      have hq := hany _ hm
      simp only [decide_eq_true_eq] at hq
      have hge := row_get (f := tyR) (l := l) (i := t.tg.toNat) (by omega)
      rw [Int.toNat_natCast] at hge
      have htt : tAt l t.tg = l[t.tg.toNat]'(by omega) := by unfold tAt; simp [List.getD, show t.tg.toNat < l.length from by omega]
      generalize l[t.tg.toNat]'(by omega) = g at *
      (first | refine au ?_ | exact au0)
      rw [hge]
      (first | refine au ?_ | exact au0)
      first | refine callF_eq (prim_Number_spec _ _) ?_ | refine callG_eq rfl (prim_Number_spec _ _) ?_
      rw [htt]
      cases hI : isNum g.kd
      · (first | refine au ?_ | exact au0)
        exact ⟨fz_eq (by simp [h]), sub_of⟩
      · (first | refine au ?_ | exact au0)
        exact ⟨fz_eq (by simp), sub_of⟩
    · (first | refine au ?_ | exact au0)
      exact ⟨fz_eq (by simp [h]), sub_of⟩
end Go.Proofs.YtjaigpidmngaaaaGreat

namespace Go.Proofs.YtjaigpidmngaaaaGreat
attribute [local irreducible] callA callP ACalls
def fIx (l : List Ty) (t : Int) (kp : Int → Bool) (hp : It → Bool) : Option Nat := if 0 ≤ t ∧ t < l.length ∧ kp (tAt l t).kd = true then (tAt l t).its.findIdx? hp else none
abbrev ixA : Option Nat → AV
  | some n => .tup [.int .i64 (n : Nat), .bool true]
  | none => .tup [.int .i64 0, .bool false]
theorem tAt_get {l : List Ty} {t : Int} (h0 : 0 ≤ t) (h : t < l.length) : (l.map tyR).getD t.toNat [] = tyR (tAt l t) := by
  unfold tAt; simp [List.getD, show t.toNat < l.length from by omega]
theorem tAt_mem {l : List Ty} {t : Int} (h0 : 0 ≤ t) (h : t < l.length) : tAt l t ∈ l := by
  have : t.toNat < l.length := by omega
  unfold tAt; simp [List.getD, this]
theorem find_spec (l : List Ty) (hl : TysOk l) (t : Int) (f1 f2 : Nat) (c1 c2 : List AV) (kp : Int → Bool) (hp : It → Bool) (Hs : AH) (h1 : ∀ k, ACalls PG f1 (.int .i64 k :: c1) Hs fun r H' => r = .bool (kp k) ∧ H' = Hs)
    (h2 : ∀ x, ACalls PG f2 (.agg (itR x) :: c2) Hs fun r H' => r = .bool (hp x) ∧ H' = Hs) : ACalls PG types_find.n [tysA l, .int .i64 t, .clo f1 [] c1, .clo f2 [] c2] Hs fun r H' => r = ixA (fIx l t kp hp) ∧ H' = Hs := by
  have hlen : (l.map tyR).length = l.length := by simp
  have hll := hl.len
  refine ACalls.fz (types_find.of rfl (wpF_start ?_))
  unfold fIx
  (first | refine au ?_ | exact au0)
  by_cases hb : 0 ≤ t ∧ t < l.length
  · have hge := tAt_get hb.1 hb.2
    have hti := (hl.all _ (tAt_mem hb.1 hb.2)).its
    generalize tAt l t = g at *
    have hlen2 : (g.its.map itR).length = g.its.length := by simp
    (first | refine au ?_ | exact au0)
    rw [hge]
    (first | refine au ?_ | exact au0)
    first | refine callF_eq (h1 _) ?_ | refine callG_eq rfl (h1 _) ?_
    cases hk : kp g.kd
    · (first | refine au ?_ | exact au0)
      rw [if_neg (by simp)]
      exact ⟨fz_of, sub_of⟩
    · rw [if_pos ⟨hb.1, hb.2, rfl⟩]
      (first | refine au ?_ | exact au0)
      rw [hge]
      (first | refine au ?_ | exact au0)
      refine loopL [(3, some _), (34, some _), (35, some _)] 36 0 g.its.length (none' hp g.its) (by exact cov_of) (Nat.zero_le _) none'_zero (fun i hi hno => ?_)
      (first | refine au ?_ | exact au0)
      refine bsplit_dec (fun c => ?_) (fun c => ?_)
      · have hil : i < g.its.length := by omega
        have hge2 := row_get (f := itR) hil
        have hhit : hp g.its[i] = true → g.its.findIdx? hp = some i := find_hit hno hil
        have hnx := none'_succ hno hil
        generalize g.its[i] = x at *
        (first | refine au ?_ | exact au0)
        rw [hge2]
        (first | refine au ?_ | exact au0)
        intro id9 hid9 ht9; have n9 := neAll_of hid9; (try simp only [neAll, neAll_hset] at n9); have m9 := n9; (repeat (obtain ⟨_, m9⟩ := m9))
        (first | refine au ?_ | exact au0)
        first | refine callF_eq ((h2 x).sup (by exact sub_of)) ?_ | refine callG_eq rfl ((h2 x).sup (by exact sub_of)) ?_
        cases hx : hp x
        · (first | refine au ?_ | exact au0)
          refine nextN (by exact cov_of) (by exact sub_of) (by omega) (hnx hx)
        · (first | refine au ?_ | exact au0)
          rw [hhit hx]
          exact ⟨fz_of, sub_of⟩
      · (first | refine au ?_ | exact au0)
        rw [find_none hno (by omega)]
        exact ⟨fz_of, sub_of⟩
  · rw [if_neg (fun q => hb ⟨q.1, q.2.1⟩)]
    (repeat' (first | (refine au ?_; first | refine bsplit_dec (fun _ => ?_) (fun _ => ?_) | refine bsplit_intro (fun _ => ?_) (fun _ => ?_)) | exact au0 | fail)); (all_goals try (first | refine au ?_ | fail))
    all_goals first | omega | exact ⟨fz_of, sub_of⟩
theorem Value1_spec (k : Int) (H : AH) : ACalls PG types_Value_1.n [.int .i64 k] H fun r H' => r = .bool (decide (k = 9)) ∧ H' = H := by
  refine ACalls.fz (types_Value_1.of rfl (wpF_start ?_))
  (first | refine au ?_ | exact au0)
  exact ⟨fz_of, sub_of⟩
theorem Value2_spec (x : It) (n id : Nat) : ACalls PG types_Value_2.n [.agg (itR x), .ptr id 1 0 0] [(id, .rows 1 [[.int .u64 (n : Nat)]])] fun r H' => r = .bool (x.num == n) ∧ H' = [(id, .rows 1 [[.int .u64 (n : Nat)]])] := by
  refine ACalls.fz (types_Value_2.of' (Nat.le_of_ble_eq_true rfl) (wpF_start ?_))
  (first | refine au ?_ | exact au0)
  intro id2 hid2 ht2; have n2 := neAll_of hid2; (try simp only [neAll, neAll_hset] at n2); have m2 := n2; (repeat (obtain ⟨_, m2⟩ := m2))
  (first | refine au ?_ | exact au0)
  refine ⟨fz_eq (congrArg AV.bool ?_), sub_of⟩
  rw [Bool.eq_iff_iff]; simp; omega
theorem fIx_val (l : List Ty) (t : Int) (n : Nat) : fIx l t (fun k => decide (k = 9)) (fun x => x.num == n) = valIx l t n := by
  unfold fIx valIx; simp only [decide_eq_true_eq]
theorem Value_spec (l : List Ty) (hl : TysOk l) (t : Int) (n : Nat) (H : AH) : ACalls PG types_Value.n [tysA l, .int .i64 t, .int .u64 (n : Nat)] H fun r H' => r = ixA (valIx l t n) ∧ H' = H := by
  refine ACalls.fz (types_Value.of rfl (wpF_start ?_))
  rw [← fIx_val]
  (first | refine au ?_ | exact au0)
  intro id5 hid5 ht5; have n5 := neAll_of hid5; (try simp only [neAll, neAll_hset] at n5); have m5 := n5; (repeat (obtain ⟨_, m5⟩ := m5))
  (first | refine au ?_ | exact au0)
  first | refine callF_eq ((find_spec l hl t types_Value_1.n types_Value_2.n [] [.ptr id5 1 0 0] (fun k => decide (k = 9)) (fun x => x.num == n) _ (fun k => Value1_spec k _) (fun x => Value2_spec x n id5)).sup (by exact sub_of)) ?_ | refine callG_eq rfl ((find_spec l hl t types_Value_1.n types_Value_2.n [] [.ptr id5 1 0 0] (fun k => decide (k = 9)) (fun x => x.num == n) _ (fun k => Value1_spec k _) (fun x => Value2_spec x n id5)).sup (by exact sub_of)) ?_
  cases fIx l t (fun k => decide (k = 9)) (fun x => x.num == n) with
  | some m =>
    (first | refine au ?_ | exact au0)
    exact ⟨fz_of, sub_of⟩
  | none =>
    (first | refine au ?_ | exact au0)
    exact ⟨fz_of, sub_of⟩
theorem orderE_in {l : List Ty} {t : Ty} {n : Nat} (h : orderE l t n = 0) : ∀ p ∈ parts t, 0 ≤ p ∧ p < n := by
  intro p hp
  unfold orderE at h
  split at h
  · cases h
  · rename_i hn
    have := List.any_eq_false.1 (by simpa using hn : (parts t).any (fun p => decide (p < 0 ∨ (n : Int) ≤ p)) = false) p hp
    simp only [decide_eq_true_eq] at this
    omega
theorem may_spec (l : List Ty) (hl : TysOk l) (n : Nat) (t : Ty) (hn : n ≤ l.length) (hN : kNm t.kd = true) (h13 : t.kd ≠ 13) (ho : orderE l t n = 0) (m : Nat) (id : Nat) : SW PG types_look_may.n [.ptr id 8 0 0, .int .u64 (m : Nat)] id (kB l n t) [] (.bool (mayT l t m)) (kB l n t) := by
  have hlen : (l.map tyR).length = l.length := by simp
  have hll := hl.len
  refine ACalls.fz (types_look_may.of rfl (wpF_start ?_))
  unfold mayT
  (first | refine au ?_ | exact au0)
  refine bsplit_dec (fun c => ?_) (fun c => ?_)
  · rw [if_pos c]
    (first | refine au ?_ | exact au0)
    first | refine callF_eq (prim_May_spec _ m _) ?_ | refine callG_eq rfl (prim_May_spec _ m _) ?_
    (first | refine au ?_ | exact au0)
    exact ⟨fz_of, sub_of⟩
  · rw [if_neg c]
    have h14 : t.kd = 14 := by rcases kd4 hN with h | h | h <;> omega
    have hin := orderE_in ho _ (parts_tag h14)
    have hge := tAt_get (l := l) hin.1 (by omega)
    generalize hg : tAt l t.tg = g at *
    (first | refine au ?_ | exact au0)
    rw [hge]
    (first | refine au ?_ | exact au0)
    intro id4 hid4 ht4; have n4 := neAll_of hid4; (try simp only [neAll, neAll_hset] at n4); have m4 := n4; (repeat (obtain ⟨_, m4⟩ := m4))
    (first | refine au ?_ | exact au0)
    refine bsplit_dec (fun c2 => ?_) (fun c2 => ?_)
    · rw [if_pos c2]
      have hV := fun H => Value_spec l hl t.tg m H
      generalize valIx l t.tg m = o at *
      cases o with
      | some k =>
        (first | refine au ?_ | exact au0)
        first | refine callF_eq (hV _) ?_ | refine callG_eq rfl (hV _) ?_
        (first | refine au ?_ | exact au0)
        exact ⟨fz_of, sub_of⟩
      | none =>
        (first | refine au ?_ | exact au0)
        first | refine callF_eq (hV _) ?_ | refine callG_eq rfl (hV _) ?_
        (first | refine au ?_ | exact au0)
        exact ⟨fz_of, sub_of⟩
    · rw [if_neg c2]
      (first | refine au ?_ | exact au0)
      first | refine callF_eq (prim_May_spec _ m _) ?_ | refine callG_eq rfl (prim_May_spec _ m _) ?_
      (first | refine au ?_ | exact au0)
      exact ⟨fz_of, sub_of⟩
end Go.Proofs.YtjaigpidmngaaaaGreat

namespace Go.Proofs.YtjaigpidmngaaaaGreat
attribute [local irreducible] callA callP ACalls
theorem getD_get {α : Type} {l : List α} {i : Nat} {d : α} (h : i < l.length) : l.getD i d = l[i] := by simp [List.getD, h]
theorem parts_item {t : Ty} (h : t.kd = 13 ∨ t.kd = 14) {x : It} (hx : x ∈ t.its) : x.ty ∈ parts t := by
  unfold parts; rw [if_pos h]; simp only [List.mem_append]; exact .inr (List.mem_map_of_mem hx)
theorem item_spec (l : List Ty) (hl : TysOk l) (n : Nat) (t : Ty) (hok : TyOk t) (hn : n ≤ l.length) (hN : kNm t.kd = true) (ho : orderE l t n = 0) (i : Nat) (hi : i < t.its.length) (id : Nat) :
    SW PG types_look_item.n [.ptr id 8 0 0, .int .i64 (i : Nat)] id (kB l n t) [] (.int .i64 (itemE l t i)) (kB l n t) := by
  have hlen : (t.its.map itR).length = t.its.length := by simp
  have hll := hl.len
  have hli := hok.its
  have hge := row_get (f := itR) hi
  have hx := List.getElem_mem hi
  have hsn := hok.nms _ hx
  have hpt := fun h => parts_item (t := t) h hx
  have hmay := fun h13 => may_spec l hl n t hn hN h13 ho t.its[i].num id
  refine ACalls.fz (types_look_item.of rfl (wpF_start ?_))
  unfold itemE
  dsimp only
  rw [getD_get hi]
  generalize t.its[i] = x at *
  (first | refine au ?_ | exact au0)
  rw [hge]
  (first | refine au ?_ | exact au0)
  intro id5 hid5 ht5; have n5 := neAll_of hid5; (try simp only [neAll, neAll_hset] at n5); have m5 := n5; (repeat (obtain ⟨_, m5⟩ := m5))
  (first | refine au ?_ | exact au0)
  first | refine callF_eq (name_Name_spec _ hsn _) ?_ | refine callG_eq rfl (name_Name_spec _ hsn _) ?_
  cases hO : nameOk x.nm
  · (first | refine au ?_ | exact au0)
    exact ⟨fz_of, sub_of⟩
  rw [if_pos rfl]
  (first | refine au ?_ | exact au0)
  have e1 : List.drop (Int.toNat 0) (List.take (Int.toNat (i : Nat)) (t.its.map itR)) = (t.its.take i).map itR := by simp
  have hl2 : (t.its.take i).length = i := by rw [List.length_take]; omega
  have hlen2 : ((t.its.take i).map itR).length = i := by simp; omega
  rw [e1]
  refine loopL [(0, some _), (1, some _), (5, some _), (29, some _), (30, some _)] 31 0 i (none' (fun y => y.nm == x.nm) (t.its.take i)) (by exact cov_of) (Nat.zero_le _) none'_zero (fun j hj hno => ?_)
  (first | refine au ?_ | exact au0)
  refine bsplit_dec (fun c => ?_) (fun c => ?_)
  · have hil : j < (t.its.take i).length := by omega
    have hge2 := row_get (f := itR) hil
    have hany : ((t.its.take i)[j].nm == x.nm) = true → (t.its.take i).any (fun y => y.nm == x.nm) = true := any_hit (p := fun y : It => y.nm == x.nm) hil
    have hnx := none'_succ hno hil
    generalize (t.its.take i)[j] = y at *
    (first | refine au ?_ | exact au0)
    rw [hge2]
    (first | refine au ?_ | exact au0)
    intro id7 hid7 ht7; have n7 := neAll_of hid7; (try simp only [neAll, neAll_hset] at n7); have m7 := n7; (repeat (obtain ⟨_, m7⟩ := m7))
    (first | refine au ?_ | exact au0)
    refine bsplit_dec (fun h => ?_) (fun h => ?_)
    · (first | refine au ?_ | exact au0)
      rw [hany (by simpa using h)]
      exact ⟨fz_of, sub_of⟩
    · (first | refine au ?_ | exact au0)
      refine nextN (by exact cov_of) (by exact sub_of) (by omega) (hnx (by simpa using h))
  rw [none'_end hno (by omega), if_neg Bool.false_ne_true]
  (first | refine au ?_ | exact au0)
  refine bsplit_dec (fun h13 => ?_) (fun h13 => ?_)
  · have hin := orderE_in ho _ (hpt (.inl h13))
    have hge3 := tAt_get (l := l) hin.1 (by omega)
    rw [if_pos h13]
    generalize tAt l x.ty = g at *
    (first | refine au ?_ | exact au0)
    rw [hge3]
    cases hkey : x.key
    all_goals (repeat' (first | (refine au ?_; first | refine callF_eq (prim_Number_spec _ _) ?_ | refine bsplit_dec (fun _ => ?_) (fun _ => ?_) | refine bsplit_intro (fun _ => ?_) (fun _ => ?_)) | exact au0 | fail)); (all_goals try (first | refine au ?_ | fail))
    all_goals (refine ⟨fz_eq (congrArg (AV.int .i64) ?_), sub_of⟩; first | (simp only [isNum, decide_eq_false_iff_not, true_and, Bool.false_eq_true, false_and, if_false]; done) | (simp only [isNum, decide_eq_false_iff_not, true_and, Bool.false_eq_true, false_and, if_false]; split <;> omega))
  · rw [if_neg h13]
    have hm := hmay h13
    cases hr : x.rest
    · (first | refine au ?_ | exact au0)
      refine hm.call (by exact hg_of) (Sub.nil _) ?_
      cases hy : mayT l t x.num
      · (first | refine au ?_ | exact au0)
        exact ⟨fz_of, sub_of⟩
      (first | refine au ?_ | exact au0)
      rw [e1]
      refine loopL [(5, some _), (97, some _), (98, some _)] 99 0 i (none' (fun y => y.num == x.num) (t.its.take i)) (by exact cov_of) (Nat.zero_le _) none'_zero (fun j hj hno => ?_)
      (first | refine au ?_ | exact au0)
      refine bsplit_dec (fun c => ?_) (fun c => ?_)
      · have hil : j < (t.its.take i).length := by omega
        have hge2 := row_get (f := itR) hil
        have hany : ((t.its.take i)[j].num == x.num) = true → (t.its.take i).any (fun y => y.num == x.num) = true := any_hit (p := fun y : It => y.num == x.num) hil
        have hnx := none'_succ hno hil
        generalize (t.its.take i)[j] = y at *
        (first | refine au ?_ | exact au0)
        rw [hge2]
        (first | refine au ?_ | exact au0)
        intro id7 hid7 ht7; have n7 := neAll_of hid7; (try simp only [neAll, neAll_hset] at n7); have m7 := n7; (repeat (obtain ⟨_, m7⟩ := m7))
        (first | refine au ?_ | exact au0)
        refine bsplit_dec (fun h => ?_) (fun h => ?_)
        · (first | refine au ?_ | exact au0)
          rw [hany (by simp; omega)]
          exact ⟨fz_of, sub_of⟩
        · (first | refine au ?_ | exact au0)
          refine nextN (by exact cov_of) (by exact sub_of) (by omega) (hnx (by simp; omega))
      · rw [none'_end hno (by omega)]
        (first | refine au ?_ | exact au0)
        exact ⟨fz_of, sub_of⟩
    · rw [if_pos (rfl : true = true)]
      (first | refine au ?_ | exact au0)
      refine bsplit_dec (fun c => ?_) (fun c => ?_)
      · (first | refine au ?_ | exact au0)
        refine ⟨fz_eq (congrArg (AV.int .i64) ?_), sub_of⟩
        rw [if_neg (by omega)]
      · (first | refine au ?_ | exact au0)
        refine ⟨fz_eq (congrArg (AV.int .i64) ?_), sub_of⟩
        rw [if_pos (by omega)]
theorem items_spec (l : List Ty) (hl : TysOk l) (n : Nat) (t : Ty) (hok : TyOk t) (hn : n ≤ l.length) (ho : orderE l t n = 0) (id : Nat) :
    SW PG types_look_items.n [.ptr id 8 0 0] id (kB l n t) [] (.int .i64 (itemsE l t)) (kB l n t) := by
  have hlen : (t.its.map itR).length = t.its.length := by simp
  have hli := hok.its
  refine ACalls.fz (types_look_items.of rfl (wpF_start ?_))
  unfold itemsE
  (first | refine au ?_ | exact au0)
  first | refine callF_eq (has_spec _ _) ?_ | refine callG_eq rfl (has_spec _ _) ?_
  cases hN : kNm t.kd
  · (first | refine au ?_ | exact au0)
    exact ⟨fz_of, sub_of⟩
  rw [if_pos rfl]
  (first | refine au ?_ | exact au0)
  refine bsplit_dec (fun c => ?_) (fun c => ?_)
  · (first | refine au ?_ | exact au0)
    exact ⟨fz_eq (congrArg (AV.int .i64) (by rw [if_pos (by omega)])), sub_of⟩
  rw [if_neg (by omega)]
  (first | refine au ?_ | exact au0)
  refine bsplit_dec (fun c2 => ?_) (fun c2 => ?_)
  · (first | refine au ?_ | exact au0)
    exact ⟨fz_eq (congrArg (AV.int .i64) (by rw [if_pos (by omega)])), sub_of⟩
  rw [if_neg (by omega)]
  (first | refine au ?_ | exact au0)
  have hgl : ∀ (k : Nat) (h : k < ((List.range t.its.length).map (itemE l t)).length), ((List.range t.its.length).map (itemE l t))[k] = itemE l t k := fun k h => by simp
  have hlm : ((List.range t.its.length).map (itemE l t)).length = t.its.length := by simp
  refine loopL [(0, some _), (40, some _)] 41 0 t.its.length (fun i => ∀ k, k < i → itemE l t k = 0) (by exact cov_of) (Nat.zero_le _) (fun k h => by omega) (fun i hi hno => ?_)
  (first | refine au ?_ | exact au0)
  refine bsplit_dec (fun c3 => ?_) (fun c3 => ?_)
  · have hil : i < t.its.length := by omega
    (first | refine au ?_ | exact au0)
    refine (item_spec l hl n t hok hn hN ho i hil id).call (by exact hg_of) (Sub.nil _) ?_
    (first | refine au ?_ | exact au0)
    refine bsplit_dec (fun h => ?_) (fun h => ?_)
    · (first | refine au ?_ | exact au0)
      rw [fst0_hit (i := i) (fun k hk h3 => by rw [hgl]; exact hno k h3) (by omega) (by rw [hgl]; exact h), hgl]
      exact ⟨fz_of, sub_of⟩
    · (first | refine au ?_ | exact au0)
      refine nextN (by exact cov_of) (by exact sub_of) (by omega) (fun k hk => ?_)
      by_cases e : k = i
      · subst e; exact Classical.not_not.1 h
      · exact hno k (by omega)
  · (first | refine au ?_ | exact au0)
    rw [fst0_end (fun k hk => by rw [hgl]; exact hno k (by omega))]
    exact ⟨fz_of, sub_of⟩
end Go.Proofs.YtjaigpidmngaaaaGreat

namespace Go.Proofs.YtjaigpidmngaaaaGreat
attribute [local irreducible] callA callP ACalls
abbrev naR (n : Nat) : List AV := [.int .i64 (n : Nat)]
def dpF (D : List Nat) (n : Nat) (m : Nat) (p : Int) : Nat := if 0 ≤ p ∧ p < (n : Int) then max m (D.getD p.toNat 0 + 1) else m
theorem dpT_succ (l : List Ty) (n : Nat) : dpT l (n + 1) = dpT l n ++ [(parts (l.getD n ty0)).foldl (dpF (dpT l n) n) 1] := rfl
theorem dpT_len (l : List Ty) : ∀ n, (dpT l n).length = n
  | 0 => rfl
  | n + 1 => by rw [dpT_succ, List.length_append, dpT_len l n]; rfl
theorem foldl_take {α β : Type} (f : β → α → β) (b : β) (l : List α) (i : Nat) (h : i < l.length) : (l.take (i + 1)).foldl f b = f ((l.take i).foldl f b) l[i] := by
  rw [List.take_add_one, List.getElem?_eq_getElem h, List.foldl_append]; rfl
theorem dpF_le {D : List Nat} {n b : Nat} (hD : ∀ x ∈ D, x ≤ b) : ∀ (ps : List Int) (m : Nat), m ≤ b + 1 → ps.foldl (dpF D n) m ≤ b + 1
  | [], m, h => h
  | p :: ps, m, h => by
    refine dpF_le hD ps _ ?_
    unfold dpF
    split
    · have : D.getD p.toNat 0 ≤ b := by
        by_cases hp : p.toNat < D.length
        · rw [getD_get hp]; exact hD _ (List.getElem_mem hp)
        · simp [List.getD, hp]
      omega
    · exact h
theorem dpT_le (l : List Ty) : ∀ n, ∀ x ∈ dpT l n, x ≤ n
  | 0, x, h => by cases h
  | n + 1, x, h => by
    rw [dpT_succ, List.mem_append] at h
    rcases h with h | h
    · have := dpT_le l n x h; omega
    · simp only [List.mem_singleton] at h
      rw [h]
      exact dpF_le (dpT_le l n) _ _ (by omega)
def dpR (D : List Nat) (m k : Nat) : List (List AV) := (D ++ m :: List.replicate k 0).map naR
theorem dpR_set {D : List Nat} {m m' k n : Nat} (h : D.length = n) : (dpR D m k).set n (naR m') = dpR D m' k := by
  unfold dpR
  rw [← List.map_set, List.set_append_right _ _ (by omega)]
  simp [h]
theorem dpR_at {D : List Nat} {m k n : Nat} (h : D.length = n) : (dpR D m k)[n]? = some (naR m) := by
  unfold dpR; rw [List.getElem?_map, List.getElem?_append_right (by omega)]; simp [h]
theorem dpR_lt {D : List Nat} {m k p : Nat} (h : p < D.length) : (dpR D m k)[p]? = some (naR (D.getD p 0)) := by
  unfold dpR; rw [List.getElem?_map, List.getElem?_append_left h]; simp [List.getD, h]
theorem Deep_spec0 (l : List Ty) (hl : TysOk l) (t : Int) : ACalls PG types_Deep.n [tysA l, .int .i64 t] [] fun r _ => r = .int .i64 (deepT l t : Nat) := by
  have hlen : (l.map tyR).length = l.length := by simp
  have hll := hl.len
  refine ACalls.fzK (types_Deep.of rfl (wpF_start ?_))
  unfold deepT
  by_cases hb : 0 ≤ t ∧ t < l.length
  · rw [if_pos hb]
    obtain ⟨n, rfl⟩ : ∃ n : Nat, t = n := ⟨t.toNat, by omega⟩
    rw [show Int.toNat (n : Nat) = n from rfl]
    (first | refine au ?_ | exact au0)
    intro id5 hid5 ht5; have n5 := neAll_of hid5; (try simp only [neAll, neAll_hset] at n5); have m5 := n5; (repeat (obtain ⟨_, m5⟩ := m5))
    (first | refine au ?_ | exact au0)
    rw [show ((n : Int) + 1).toNat = n + 1 from by omega]
    refine loopM (S := Nat) [(0, some _), (1, some _), (5, some _), (21, some _)] (fun i => [(22, some (.int .i64 (i : Nat)))]) (fun i => [(id5, .rows 1 ((dpT l i ++ List.replicate (n + 1 - i) 0).map naR))]) (fun i => n + 1 - i) (fun i => i ≤ n + 1) 0 (by exact cov_of) (by simp only [dpT, List.nil_append, List.map_replicate]; exact Sub.refl _) (by omega) (fun i hi => ?_)
    have hD := dpT_len l i
    have hDle := dpT_le l i
    (first | refine au ?_ | exact au0)
    refine bsplit_dec (fun c => ?_) (fun c => ?_)
    · have hin : i ≤ n := by omega
      have hB : (dpT l i ++ List.replicate (n + 1 - i) 0).map naR = dpR (dpT l i) 0 (n - i) := by
        unfold dpR; rw [show n + 1 - i = (n - i) + 1 from by omega, List.replicate_succ]
      rw [hB]
      have hil : i < l.length := by omega
      have hge := row_get (f := tyR) hil
      have hpe : l.getD i ty0 = l[i] := getD_get hil
      have hti := (hl.all _ (List.getElem_mem hil)).its
      (first | refine au ?_ | exact au0)
      refine ⟨_, _, (by exact hg_of), (by rw [Nat.zero_add, Int.toNat_natCast]; exact dpR_at hD), rfl, rfl, (Nat.le_of_ble_eq_true rfl), hsetN_of (b' := .rows 1 (dpR (dpT l i) 1 (n - i))) (by rw [Nat.zero_add, Int.toNat_natCast]; exact congrArg (Blk.rows 1) (dpR_set (m' := 1) hD)) ?_⟩
      (first | refine au ?_ | exact au0)
      rw [hge]
      have hps := dpT_succ l i
      rw [hpe] at hps
      generalize l[i] = g at *
      have hpl := parts_len g
      have hplm : ((parts g).map inR).length = (parts g).length := by simp
      (first | refine au ?_ | exact au0)
      first | refine callF_eq (parts_spec g hti _) ?_ | refine callG_eq rfl (parts_spec g hti _) ?_
      (first | refine au ?_ | exact au0)
      refine loopM (S := Nat) [(0, some _), (1, some _), (5, some _), (6, some _), (21, some _), (22, some _), (32, some _), (33, some _)] (fun j => [(34, some (.int .i64 (j : Nat)))]) (fun j => [(id5, .rows 1 (dpR (dpT l i) (((parts g).take j).foldl (dpF (dpT l i) i) 1) (n - i)))]) (fun j => (parts g).length - j) (fun j => j ≤ (parts g).length) 0 (by exact cov_of) (Sub.refl _) (by omega) (fun j hj => ?_)
      have hm := dpF_le (n := i) hDle ((parts g).take j) 1 (by omega)
      (first | refine au ?_ | exact au0)
      refine bsplit_dec (fun c2 => ?_) (fun c2 => ?_)
      · have hjl : j < (parts g).length := by omega
        have hge2 := row_get (f := inR) hjl
        have hft := foldl_take (dpF (dpT l i) i) 1 (parts g) j hjl
        generalize (parts g)[j] = p at *
        generalize ((parts g).take j).foldl (dpF (dpT l i) i) 1 = m at *
        (first | refine au ?_ | exact au0)
        rw [hge2]
        (first | refine au ?_ | exact au0)
        rw [show dpF (dpT l i) i m p = if 0 ≤ p ∧ p < (i : Int) then max m ((dpT l i).getD p.toNat 0 + 1) else m from rfl] at hft
        refine bsplit_dec (fun c3 => ?_) (fun c3 => ?_)
        · (first | refine au ?_ | exact au0)
          refine bsplit_dec (fun c4 => ?_) (fun c4 => ?_)
          · rw [if_pos (by omega)] at hft
            (first | refine au ?_ | exact au0)
            refine ⟨_, _, (by exact hg_of), (by rw [Nat.zero_add, Int.toNat_natCast]; exact dpR_at hD), ?_⟩
            (first | refine au ?_ | exact au0)
            have hpl : p.toNat < (dpT l i).length := by omega
            have hpv : (dpT l i).getD p.toNat 0 ≤ i := by rw [getD_get hpl]; exact hDle _ (List.getElem_mem hpl)
            refine ⟨_, _, (by exact hg_of), (by rw [Nat.zero_add]; exact dpR_lt hpl), ?_⟩
            (first | refine au ?_ | exact au0)
            refine ⟨_, _, (by exact hg_of), (by rw [Nat.zero_add, Int.toNat_natCast]; exact dpR_at hD), rfl, rfl, (Nat.le_of_ble_eq_true rfl), hsetN_of (b' := .rows 1 (dpR (dpT l i) (max m ((dpT l i).getD p.toNat 0 + 1)) (n - i))) (by
              rw [Nat.zero_add, Int.toNat_natCast]
              refine Eq.trans (congrArg (fun x : List AV => Blk.rows 1 (List.set (dpR (dpT l i) m (n - i)) i x)) ?_) (congrArg (Blk.rows 1) (dpR_set (m' := max m ((dpT l i).getD p.toNat 0 + 1)) hD))
              show [AV.int .i64 (max (m : Int) (((dpT l i).getD p.toNat 0 : Nat) + 1))] = [AV.int .i64 ((max m ((dpT l i).getD p.toNat 0 + 1) : Nat) : Int)]
              rw [cast_max]; rfl) ?_⟩
            (first | refine au ?_ | exact au0)
            refine nextS (S := Nat) (j + 1) (by exact cov_of) (by (try dsimp only); rw [hft]; exact Sub.refl _) (by first | omega | (dsimp only; omega)) hjl
          · rw [if_neg (by omega)] at hft
            (first | refine au ?_ | exact au0)
            refine nextS (S := Nat) (j + 1) (by exact cov_of) (by (try dsimp only); rw [hft]; exact Sub.refl _) (by first | omega | (dsimp only; omega)) hjl
        · rw [if_neg (by omega)] at hft
          (first | refine au ?_ | exact au0)
          refine nextS (S := Nat) (j + 1) (by exact cov_of) (by (try dsimp only); rw [hft]; exact Sub.refl _) (by first | omega | (dsimp only; omega)) hjl
      · obtain rfl : j = (parts g).length := by omega
        rw [List.take_length]
        (first | refine au ?_ | exact au0)
        refine nextS (S := Nat) (i + 1) (by exact cov_of) (by
          (try dsimp only)
          rw [hps, show n + 1 - (i + 1) = n - i from by omega]
          unfold dpR
          rw [List.append_assoc]
          exact Sub.refl _) (by first | omega | (dsimp only; omega)) (by omega)
    · obtain rfl : i = n + 1 := by omega
      (first | refine au ?_ | exact au0)
      have hnl : n < (dpT l (n + 1)).length := by omega
      refine ⟨_, naR ((dpT l (n + 1)).getD n 0), (by exact hg_of), (by rw [Nat.zero_add, Int.toNat_natCast, List.getElem?_map, List.getElem?_append_left hnl, List.getElem?_eq_getElem hnl, getD_get hnl]; rfl), ?_⟩
      (first | refine au ?_ | exact au0)
      exact fz_of
  · rw [if_neg hb]
    (repeat' (first | (refine au ?_; first | refine bsplit_dec (fun _ => ?_) (fun _ => ?_) | refine bsplit_intro (fun _ => ?_) (fun _ => ?_)) | exact au0 | fail)); (all_goals try (first | refine au ?_ | fail))
    all_goals first | omega | exact fz_of
theorem Deep_tspec (l : List Ty) (hl : TysOk l) (t : Int) (H : AH) : ACalls PG types_Deep.n [tysA l, .int .i64 t] H fun r H' => r = .int .i64 (deepT l t : Nat) ∧ H' = H := (Deep_spec0 l hl t).frame H
theorem deep_spec (l : List Ty) (hl : TysOk l) (n : Nat) (t : Ty) (id : Nat) : SW PG types_look_deep.n [.ptr id 8 0 0] id (kB l n t) [] (.int .i64 (deepE l n)) (kB l n t) := by
  refine ACalls.fz (types_look_deep.of rfl (wpF_start ?_))
  unfold deepE
  (first | refine au ?_ | exact au0)
  first | refine callF_eq (Deep_tspec l hl _ _) ?_ | refine callG_eq rfl (Deep_tspec l hl _ _) ?_
  (first | refine au ?_ | exact au0)
  refine bsplit_dec (fun c => ?_) (fun c => ?_)
  · (first | refine au ?_ | exact au0)
    exact ⟨fz_eq (congrArg (AV.int .i64) (by rw [if_pos (by omega)])), sub_of⟩
  · (first | refine au ?_ | exact au0)
    exact ⟨fz_eq (congrArg (AV.int .i64) (by rw [if_neg (by omega)])), sub_of⟩
theorem Check_spec0 (l : List Ty) (hl : TysOk l) : ACalls PG types_Check.n [tysA l] [] fun r _ => r = .agg [.int .i64 (tyChk l).1, .int .i64 (tyChk l).2] := by
  have hlen : (l.map tyR).length = l.length := by simp
  have hll := hl.len
  refine ACalls.fzK (types_Check.of rfl (wpF_start ?_))
  unfold tyChk
  (first | refine au ?_ | exact au0)
  intro id2 hid2 ht2; have n2 := neAll_of hid2; (try simp only [neAll, neAll_hset] at n2); have m2 := n2; (repeat (obtain ⟨_, m2⟩ := m2))
  (first | refine au ?_ | exact au0)
  refine bsplit_dec (fun c => ?_) (fun c => ?_)
  · rw [if_pos (by omega)]
    (first | refine au ?_ | exact au0)
    exact fz_of
  rw [if_neg (by omega)]
  (first | refine au ?_ | exact au0)
  have hr : (List.range l.length).length = l.length := List.length_range
  refine loopL [(0, some _), (2, some _), (13, some _), (14, some _)] 15 0 l.length (none' (fun i => decide (tyErr l i ≠ 0)) (List.range l.length)) (by exact cov_of) (Nat.zero_le _) none'_zero (fun i hi hno => ?_)
  (first | refine au ?_ | exact au0)
  refine bsplit_dec (fun c2 => ?_) (fun c2 => ?_)
  · have hil : i < l.length := by omega
    have hge := row_get (f := tyR) hil
    have hto := hl.all _ (List.getElem_mem hil)
    have hte : tyErr l i = fst0 [formE l[i], namedE l l[i] i, boundE l[i], orderE l l[i] i, itemsE l l[i], deepE l i] := by unfold tyErr; rw [getD_get hil]
    have hhit : tyErr l i ≠ 0 → (List.range l.length).findIdx? (fun i => decide (tyErr l i ≠ 0)) = some i := fun q => find_hit hno (by omega) (by simpa using q)
    have hnx : tyErr l i = 0 → _ := fun q => none'_succ hno (by omega) (by simpa using q)
    have h0 := form_spec l i l[i] hto
    have h1 := named_spec l i l[i] hto hl hi
    have h2 := bound_spec l i l[i]
    have h3 := order_spec l i l[i] hto hl hil
    have h4 := items_spec l hl i l[i] hto hi
    have h5 := deep_spec l hl i l[i]
    generalize l[i] = g at *
    (first | refine au ?_ | exact au0)
    rw [hge]
    (first | refine au ?_ | exact au0)
    intro id4 hid4 ht4; have n4 := neAll_of hid4; (try simp only [neAll, neAll_hset] at n4); have m4 := n4; (repeat (obtain ⟨_, m4⟩ := m4))
    (first | refine au ?_ | exact au0)
    intro id24 hid24 ht24; have n24 := neAll_of hid24; (try simp only [neAll, neAll_hset] at n24); have m24 := n24; (repeat (obtain ⟨_, m24⟩ := m24))
    (first | refine au ?_ | exact au0)
    refine loopL [(0, some _), (2, some _), (3, some _), (13, some _), (14, some _), (15, some _), (37, some _), (38, some _)] 39 0 6 (fun j => (0 < j → formE g = 0) ∧ (1 < j → namedE l g i = 0) ∧ (2 < j → boundE g = 0) ∧ (3 < j → orderE l g i = 0) ∧ (4 < j → itemsE l g = 0) ∧ (5 < j → deepE l i = 0)) (by exact cov_of) (Nat.zero_le _) (by omega) (fun j hj hz => ?_)
    obtain ⟨z0, z1, z2, z3, z4, z5⟩ := hz
    (first | refine au ?_ | exact au0)
    refine bsplit_dec (fun c3 => ?_) (fun c3 => ?_)
    · have hj6 : j < 6 := by
        have : (j : Int) < 6 := by simpa using c3
        omega
      have hjj : j = 0 ∨ j = 1 ∨ j = 2 ∨ j = 3 ∨ j = 4 ∨ j = 5 := by omega
      rcases hjj with rfl | rfl | rfl | rfl | rfl | rfl
      · (first | refine au ?_ | exact au0)
        refine (h0 id24).call (by exact hg_of) (Sub.nil _) ?_
        (first | refine au ?_ | exact au0)
        refine bsplit_dec (fun hz => ?_) (fun hz => ?_)
        · (first | refine au ?_ | exact au0)
          have ht : tyErr l i = formE g := by rw [hte]; simp only [fst0]; simp only [ ne_eq, not_true_eq_false, if_false, hz, not_false_eq_true, if_true]
          rw [hhit (by rw [ht]; exact hz)]
          dsimp only
          rw [ht]
          exact fz_of
        · have hz := Classical.not_not.1 hz
          (first | refine au ?_ | exact au0)
          refine nextN (by exact cov_of) (by exact sub_of) (by omega) ⟨?_, ?_, ?_, ?_, ?_, ?_⟩ <;> intro q <;> first | exact hz | omega | exact z0 (by omega) | exact z1 (by omega) | exact z2 (by omega) | exact z3 (by omega) | exact z4 (by omega)
      · (first | refine au ?_ | exact au0)
        refine (h1 id24).call (by exact hg_of) (Sub.nil _) ?_
        (first | refine au ?_ | exact au0)
        refine bsplit_dec (fun hz => ?_) (fun hz => ?_)
        · (first | refine au ?_ | exact au0)
          have ht : tyErr l i = namedE l g i := by rw [hte]; simp only [fst0]; simp only [z0 (by omega), ne_eq, not_true_eq_false, if_false, hz, not_false_eq_true, if_true]
          rw [hhit (by rw [ht]; exact hz)]
          dsimp only
          rw [ht]
          exact fz_of
        · have hz := Classical.not_not.1 hz
          (first | refine au ?_ | exact au0)
          refine nextN (by exact cov_of) (by exact sub_of) (by omega) ⟨?_, ?_, ?_, ?_, ?_, ?_⟩ <;> intro q <;> first | exact hz | omega | exact z0 (by omega) | exact z1 (by omega) | exact z2 (by omega) | exact z3 (by omega) | exact z4 (by omega)
      · (first | refine au ?_ | exact au0)
        refine (h2 id24).call (by exact hg_of) (Sub.nil _) ?_
        (first | refine au ?_ | exact au0)
        refine bsplit_dec (fun hz => ?_) (fun hz => ?_)
        · (first | refine au ?_ | exact au0)
          have ht : tyErr l i = boundE g := by rw [hte]; simp only [fst0]; simp only [z0 (by omega), z1 (by omega), ne_eq, not_true_eq_false, if_false, hz, not_false_eq_true, if_true]
          rw [hhit (by rw [ht]; exact hz)]
          dsimp only
          rw [ht]
          exact fz_of
        · have hz := Classical.not_not.1 hz
          (first | refine au ?_ | exact au0)
          refine nextN (by exact cov_of) (by exact sub_of) (by omega) ⟨?_, ?_, ?_, ?_, ?_, ?_⟩ <;> intro q <;> first | exact hz | omega | exact z0 (by omega) | exact z1 (by omega) | exact z2 (by omega) | exact z3 (by omega) | exact z4 (by omega)
      · (first | refine au ?_ | exact au0)
        refine (h3 id24).call (by exact hg_of) (Sub.nil _) ?_
        (first | refine au ?_ | exact au0)
        refine bsplit_dec (fun hz => ?_) (fun hz => ?_)
        · (first | refine au ?_ | exact au0)
          have ht : tyErr l i = orderE l g i := by rw [hte]; simp only [fst0]; simp only [z0 (by omega), z1 (by omega), z2 (by omega), ne_eq, not_true_eq_false, if_false, hz, not_false_eq_true, if_true]
          rw [hhit (by rw [ht]; exact hz)]
          dsimp only
          rw [ht]
          exact fz_of
        · have hz := Classical.not_not.1 hz
          (first | refine au ?_ | exact au0)
          refine nextN (by exact cov_of) (by exact sub_of) (by omega) ⟨?_, ?_, ?_, ?_, ?_, ?_⟩ <;> intro q <;> first | exact hz | omega | exact z0 (by omega) | exact z1 (by omega) | exact z2 (by omega) | exact z3 (by omega) | exact z4 (by omega)
      · (first | refine au ?_ | exact au0)
        refine ((h4 (z3 (by omega))) id24).call (by exact hg_of) (Sub.nil _) ?_
        (first | refine au ?_ | exact au0)
        refine bsplit_dec (fun hz => ?_) (fun hz => ?_)
        · (first | refine au ?_ | exact au0)
          have ht : tyErr l i = itemsE l g := by rw [hte]; simp only [fst0]; simp only [z0 (by omega), z1 (by omega), z2 (by omega), z3 (by omega), ne_eq, not_true_eq_false, if_false, hz, not_false_eq_true, if_true]
          rw [hhit (by rw [ht]; exact hz)]
          dsimp only
          rw [ht]
          exact fz_of
        · have hz := Classical.not_not.1 hz
          (first | refine au ?_ | exact au0)
          refine nextN (by exact cov_of) (by exact sub_of) (by omega) ⟨?_, ?_, ?_, ?_, ?_, ?_⟩ <;> intro q <;> first | exact hz | omega | exact z0 (by omega) | exact z1 (by omega) | exact z2 (by omega) | exact z3 (by omega) | exact z4 (by omega)
      · (first | refine au ?_ | exact au0)
        refine (h5 id24).call (by exact hg_of) (Sub.nil _) ?_
        (first | refine au ?_ | exact au0)
        refine bsplit_dec (fun hz => ?_) (fun hz => ?_)
        · (first | refine au ?_ | exact au0)
          have ht : tyErr l i = deepE l i := by rw [hte]; simp only [fst0]; simp only [z0 (by omega), z1 (by omega), z2 (by omega), z3 (by omega), z4 (by omega), ne_eq, not_true_eq_false, if_false, hz, not_false_eq_true, if_true]
          rw [hhit (by rw [ht]; exact hz)]
          dsimp only
          rw [ht]
          exact fz_of
        · have hz := Classical.not_not.1 hz
          (first | refine au ?_ | exact au0)
          refine nextN (by exact cov_of) (by exact sub_of) (by omega) ⟨?_, ?_, ?_, ?_, ?_, ?_⟩ <;> intro q <;> first | exact hz | omega | exact z0 (by omega) | exact z1 (by omega) | exact z2 (by omega) | exact z3 (by omega) | exact z4 (by omega)
    · have hj6 : j = 6 := by
        have : ¬ (j : Int) < 6 := by simpa using c3
        omega
      subst hj6
      (first | refine au ?_ | exact au0)
      refine nextN (by exact cov_of) (by exact sub_of) (by omega) (hnx ?_)
      rw [hte]
      simp only [fst0, z0 (by omega), z1 (by omega), z2 (by omega), z3 (by omega), z4 (by omega), z5 (by omega), ne_eq, not_true_eq_false, if_false]
  · (first | refine au ?_ | exact au0)
    rw [find_none hno (by omega)]
    exact fz_of
end Go.Proofs.YtjaigpidmngaaaaGreat

namespace Go.Proofs.YtjaigpidmngaaaaGreat
attribute [local irreducible] callA callP ACalls
theorem none'_take {α : Type} {p : α → Bool} {l : List α} {i : Nat} (h : none' p l i) : (l.take i).any p = false := take_any_no h (Nat.le_refl _)
end Go.Proofs.YtjaigpidmngaaaaGreat

namespace Go.Proofs.YtjaigpidmngaaaaGreat
attribute [local irreducible] callA callP ACalls
theorem Check_spec (l : List Ty) (hl : TysOk l) (H : AH) : ACalls PG types_Check.n [tysA l] H fun r H' => r = .agg [.int .i64 (tyChk l).1, .int .i64 (tyChk l).2] ∧ H' = H := (Check_spec0 l hl).frame H
end Go.Proofs.YtjaigpidmngaaaaGreat

namespace Go.Proofs.YtjaigpidmngaaaaGreat
attribute [local irreducible] callA callP ACalls
def itN : List Ty → Nat
  | [] => 0
  | t :: l => t.its.length + itN l
theorem itN_take : ∀ (l : List Ty) (i : Nat) (h : i < l.length), itN (l.take (i + 1)) = itN (l.take i) + l[i].its.length
  | a :: l, 0, h => by simp [itN]
  | a :: l, i + 1, h => by
    have := itN_take l i (by simpa using h)
    simp only [List.take_succ_cons, itN, List.getElem_cons_succ] at this ⊢
    omega
def tyGreat (l : List Ty) : Bool := decide (100 < l.length) || decide (800 < itN l)
def itB (l : List Ty) (i : Nat) : Nat := min (itN (l.take i)) 1048576
theorem itB_step {l : List Ty} {i : Nat} (h : i < l.length) : itB l (i + 1) = min (itB l i + l[i].its.length) 1048576 := by
  unfold itB; rw [itN_take l i h]; omega
theorem tGreat_spec (l : List Ty) (hl : TysOk l) (H : AH) : ACalls PG broadsheetlaw06_Great.n [tysA l] H fun r H' => r = .bool (tyGreat l) ∧ H' = H := by
  have hlen : (l.map tyR).length = l.length := by simp
  have hll := hl.len
  refine ACalls.fz (broadsheetlaw06_Great.of rfl (wpF_start ?_))
  (first | refine au ?_ | exact au0)
  refine loopM (S := Nat) [(0, some _)] (fun i => [(3, some (.int .i64 (itB l i : Nat))), (4, some (.int .i64 (i : Nat)))]) (fun _ => _) (fun i => l.length - i) (fun i => i ≤ l.length) 0 (by exact cov_of) (Sub.refl _) (Nat.zero_le _) (fun i hi => ?_)
  have hb : itB l i ≤ 1048576 := by unfold itB; omega
  (first | refine au ?_ | exact au0)
  refine bsplit_dec (fun c => ?_) (fun c => ?_)
  · have hil : i < l.length := by omega
    have hge := row_get (f := tyR) hil
    have hst := itB_step hil
    have hti := (hl.all _ (List.getElem_mem hil)).its
    generalize l[i] = g at *
    have hlen2 : (g.its.map itR).length = g.its.length := by simp
    (first | refine au ?_ | exact au0)
    rw [hge]
    (first | refine au ?_ | exact au0)
    refine nextS (S := Nat) (i + 1) (by (try dsimp only); rw [hst, ← hlen2, cast_min]; exact (by exact cov_of)) (Sub.refl _) (by first | omega | (dsimp only; omega)) hil
  · have e : itB l i = min (itN l) 1048576 := by unfold itB; rw [List.take_of_length_le (by omega)]
    have eg : tyGreat l = decide (100 < l.length ∨ 800 < itN l) := by unfold tyGreat; rw [Bool.decide_or]
    rw [e, eg]
    (repeat' (first | (refine au ?_; first | refine bsplit_dec (fun _ => ?_) (fun _ => ?_) | refine bsplit_intro (fun _ => ?_) (fun _ => ?_)) | exact au0 | fail)); (all_goals try (first | refine au ?_ | fail))
    all_goals exact ⟨fz_eq (congrArg AV.bool (by first | exact (decide_eq_true (by omega)).symm | exact (decide_eq_false (by omega)).symm | exact decide_eq_decide.2 (by omega) | rfl)), sub_of⟩
end Go.Proofs.YtjaigpidmngaaaaGreat

namespace Go.Proofs.YtjaigpidmngaaaaGreat
attribute [local irreducible] callA callP ACalls
theorem TyG.parts {l : List Ty} {n : Nat} {t : Ty} (h : TyG l n t) : ∀ p ∈ parts t, 0 ≤ p ∧ p < n := orderE_in h.order
theorem TyG.kd {l : List Ty} {n : Nat} {t : Ty} (h : TyG l n t) : 1 ≤ t.kd ∧ t.kd ≤ 14 := by
  have := h.form
  unfold formE at this
  split at this
  · cases this
  · omega
theorem TyV.tAt {l : List Ty} (h : TyV l) {t : Int} (h0 : 0 ≤ t) (h1 : t < l.length) : TyG l t.toNat (tAt l t) := by
  have := h.at (i := t.toNat) (by omega)
  unfold Go.Proofs.YtjaigpidmngaaaaGreat.tAt
  rw [getD_get (by omega)]
  exact this
theorem TyG.bd {l : List Ty} {n : Nat} {t : Ty} (h : TyG l n t) (hb : kBd t.kd = true) : 0 ≤ t.bd ∧ t.bd ≤ 64 ∧ (kEl t.kd = true → 1 ≤ t.bd) := by
  have := h.bound
  unfold boundE at this
  split at this
  · cases this
  · rename_i q
    refine ⟨?_, ?_, fun e => ?_⟩
    · apply Classical.byContradiction; intro c; exact q ⟨hb, by omega⟩
    · apply Classical.byContradiction; intro c; exact q ⟨hb, by omega⟩
    · apply Classical.byContradiction; intro c
      have : ¬ t.bd < 0 := fun c2 => q ⟨hb, .inr (.inl c2)⟩
      exact q ⟨hb, .inr (.inr ⟨e, by omega⟩)⟩
section
variable {l : List Ty} {t : Int} {g : Ty} {k : Int} {n : Nat} {x : List UInt8} {vs : List Vl} {H : AH}
end
end Go.Proofs.YtjaigpidmngaaaaGreat

namespace Go.Proofs.YtjaigpidmngaaaaGreat
attribute [local irreducible] callA callP ACalls
theorem Item1_spec (k : Int) (H : AH) : ACalls PG types_Item_1.n [.int .i64 k] H fun r H' => r = .bool (kNm k) ∧ H' = H := by
  refine ACalls.fz (types_Item_1.of rfl (wpF_start ?_))
  (first | refine au ?_ | exact au0)
  first | refine callF_eq (has_spec k _) ?_ | refine callG_eq rfl (has_spec k _) ?_
  (first | refine au ?_ | exact au0)
  exact ⟨fz_of, sub_of⟩
theorem Item2_spec (x : It) (s : List UInt8) (id : Nat) : ACalls PG types_Item_2.n [.agg (itR x), .ptr id 1 0 0] [(id, .rows 1 [[.str s]])] fun r H' => r = .bool (x.nm == s) ∧ H' = [(id, .rows 1 [[.str s]])] := by
  refine ACalls.fz (types_Item_2.of' (Nat.le_of_ble_eq_true rfl) (wpF_start ?_))
  (first | refine au ?_ | exact au0)
  intro id2 hid2 ht2; have n2 := neAll_of hid2; (try simp only [neAll, neAll_hset] at n2); have m2 := n2; (repeat (obtain ⟨_, m2⟩ := m2))
  (first | refine au ?_ | exact au0)
  refine ⟨fz_eq (congrArg AV.bool ?_), sub_of⟩
  rw [Bool.eq_iff_iff]; simp
theorem fIx_item (l : List Ty) (t : Int) (s : List UInt8) : fIx l t kNm (fun x => x.nm == s) = itemIx l t s := rfl
theorem Item_spec (l : List Ty) (hl : TysOk l) (t : Int) (s : List UInt8) (H : AH) : ACalls PG types_Item.n [tysA l, .int .i64 t, .str s] H fun r H' => r = ixA (itemIx l t s) ∧ H' = H := by
  refine ACalls.fz (types_Item.of rfl (wpF_start ?_))
  rw [← fIx_item]
  (first | refine au ?_ | exact au0)
  intro id5 hid5 ht5; have n5 := neAll_of hid5; (try simp only [neAll, neAll_hset] at n5); have m5 := n5; (repeat (obtain ⟨_, m5⟩ := m5))
  (first | refine au ?_ | exact au0)
  first | refine callF_eq ((find_spec l hl t types_Item_1.n types_Item_2.n [] [.ptr id5 1 0 0] kNm (fun x => x.nm == s) _ (fun k => Item1_spec k _) (fun x => Item2_spec x s id5)).sup (by exact sub_of)) ?_ | refine callG_eq rfl ((find_spec l hl t types_Item_1.n types_Item_2.n [] [.ptr id5 1 0 0] kNm (fun x => x.nm == s) _ (fun k => Item1_spec k _) (fun x => Item2_spec x s id5)).sup (by exact sub_of)) ?_
  cases fIx l t kNm (fun x => x.nm == s) with
  | some m =>
    (first | refine au ?_ | exact au0)
    exact ⟨fz_of, sub_of⟩
  | none =>
    (first | refine au ?_ | exact au0)
    exact ⟨fz_of, sub_of⟩
theorem path_known_spec (l : List Ty) (hl : TysOk l) (t : Int) (H : AH) : ACalls PG path_known.n [tysA l, .int .i64 t] H fun r H' => r = .bool (decide (knownT l t)) ∧ H' = H := by
  have hlen : (l.map tyR).length = l.length := by simp
  have hll := hl.len
  unfold knownT
  refine ACalls.fz (path_known.of rfl (wpF_start ?_))
  (repeat' (first | (refine au ?_; first | refine callF_eq (Check_spec l hl _) ?_ | refine bsplit_dec (fun _ => ?_) (fun _ => ?_) | refine bsplit_intro (fun _ => ?_) (fun _ => ?_)) | exact au0 | fail)); (all_goals try (first | refine au ?_ | fail))
  all_goals exact ⟨fz_eq (congrArg AV.bool (by first | exact (decide_eq_true (by omega)).symm | exact (decide_eq_false (by omega)).symm | exact decide_eq_decide.2 (by omega) | rfl)), sub_of⟩
theorem elems_spec (x : Ty) (H : AH) : ACalls PG path_elems.n [.agg (tyR x)] H fun r H' => r = .bool (kEl x.kd) ∧ H' = H := by
  refine ACalls.fz (path_elems.of rfl (wpF_start ?_))
  (first | refine au ?_ | exact au0)
  intro id1 hid1 ht1; have n1 := neAll_of hid1; (try simp only [neAll, neAll_hset] at n1); have m1 := n1; (repeat (obtain ⟨_, m1⟩ := m1))
  unfold kEl
  (repeat' (first | (refine au ?_; first | refine bsplit_dec (fun _ => ?_) (fun _ => ?_) | refine bsplit_intro (fun _ => ?_) (fun _ => ?_)) | exact au0 | fail)); (all_goals try (first | refine au ?_ | fail))
  all_goals exact ⟨fz_eq (congrArg AV.bool (by first | exact (decide_eq_true (by omega)).symm | exact (decide_eq_false (by omega)).symm | exact decide_eq_decide.2 (by omega) | rfl)), sub_of⟩
theorem items_spec' (x : Ty) (H : AH) : ACalls PG path_items.n [.agg (tyR x)] H fun r H' => r = .bool (kIt x.kd) ∧ H' = H := by
  refine ACalls.fz (path_items.of rfl (wpF_start ?_))
  (first | refine au ?_ | exact au0)
  intro id1 hid1 ht1; have n1 := neAll_of hid1; (try simp only [neAll, neAll_hset] at n1); have m1 := n1; (repeat (obtain ⟨_, m1⟩ := m1))
  unfold kIt
  (repeat' (first | (refine au ?_; first | refine bsplit_dec (fun _ => ?_) (fun _ => ?_) | refine bsplit_intro (fun _ => ?_) (fun _ => ?_)) | exact au0 | fail)); (all_goals try (first | refine au ?_ | fail))
  all_goals exact ⟨fz_eq (congrArg AV.bool (by first | exact (decide_eq_true (by omega)).symm | exact (decide_eq_false (by omega)).symm | exact decide_eq_decide.2 (by omega) | rfl)), sub_of⟩
abbrev spR (x : Bool × Nat) : List AV := [.bool x.1, .int .i64 (x.2 : Nat)]
abbrev stpA (x : (Bool × Nat) × Int × Int) : AV := .tup [.agg (spR x.1), .int .i64 x.2.1, .int .i64 x.2.2]
theorem step_spec (l : List Ty) (hl : TysOk l) (t : Int) (h0 : 0 ≤ t) (h1 : t < l.length) (p : Pc) (H : AH) : ACalls PG path_step.n [tysA l, .int .i64 t, pcA p] H fun r H' => r = stpA (stepP l t p) ∧ H' = H := by
  have hlen : (l.map tyR).length = l.length := by simp
  have hll := hl.len
  have hge := tAt_get h0 h1
  have hti := (hl.all _ (tAt_mem h0 h1)).its
  obtain ⟨nm, k, okp⟩ := p
  have hix := Item_spec l hl t nm
  show ACalls PG path_step.n [tysA l, .int .i64 t, .agg [.str nm, .int .i64 (k : Nat)]] H _
  unfold stepP
  dsimp only
  have hii : ∀ n, itemIx l t nm = some n → n < (tAt l t).its.length := by
    intro n q
    unfold itemIx at q
    split at q
    · exact (List.findIdx?_eq_some_iff_getElem.1 q).1
    · cases q
  generalize itemIx l t nm = ix at *
  generalize tAt l t = g at *
  have hel := elems_spec g
  have hit := items_spec' g
  generalize hkel : kEl g.kd = be at *
  generalize hkit : kIt g.kd = bi at *
  refine ACalls.fz (path_step.of rfl (wpF_start ?_))
  (first | refine au ?_ | exact au0)
  intro id5 hid5 ht5; have n5 := neAll_of hid5; (try simp only [neAll, neAll_hset] at n5); have m5 := n5; (repeat (obtain ⟨_, m5⟩ := m5))
  (first | refine au ?_ | exact au0)
  intro id6 hid6 ht6; have n6 := neAll_of hid6; (try simp only [neAll, neAll_hset] at n6); have m6 := n6; (repeat (obtain ⟨_, m6⟩ := m6))
  (first | refine au ?_ | exact au0)
  rw [hge]
  (first | refine au ?_ | exact au0)
  intro id9 hid9 ht9; have n9 := neAll_of hid9; (try simp only [neAll, neAll_hset] at n9); have m9 := n9; (repeat (obtain ⟨_, m9⟩ := m9))
  cases nm with
  | nil =>
    (first | refine au ?_ | exact au0)
    first | refine callF_eq (hel _) ?_ | refine callG_eq rfl (hel _) ?_
    cases be
    · (first | refine au ?_ | exact au0)
      exact ⟨fz_of, sub_of⟩
    · (first | refine au ?_ | exact au0)
      refine bsplit_dec (fun c => ?_) (fun c => ?_)
      · rw [if_pos rfl, if_neg (by decide), if_pos (by omega)]
        (first | refine au ?_ | exact au0)
        exact ⟨fz_of, sub_of⟩
      · rw [if_pos rfl, if_neg (by decide), if_neg (by omega)]
        (first | refine au ?_ | exact au0)
        exact ⟨fz_of, sub_of⟩
  | cons a bs =>
    rw [if_neg (by simp)]
    (first | refine au ?_ | exact au0)
    first | refine callF_eq (hit _) ?_ | refine callG_eq rfl (hit _) ?_
    cases bi
    · (first | refine au ?_ | exact au0)
      exact ⟨fz_of, sub_of⟩
    · (first | refine au ?_ | exact au0)
      first | refine callF_eq (hix _) ?_ | refine callG_eq rfl (hix _) ?_
      cases ix with
      | none =>
        (first | refine au ?_ | exact au0)
        exact ⟨fz_of, sub_of⟩
      | some n =>
        have hil := hii n rfl
        have hge2 := row_get (f := itR) hil
        have hgd : g.its.getD n it0 = g.its[n] := by simp [List.getD, hil]
        dsimp only
        rw [hgd]
        have hlen2 : (g.its.map itR).length = g.its.length := by simp
        (first | refine au ?_ | exact au0)
        rw [hge2]
        (first | refine au ?_ | exact au0)
        exact ⟨fz_of, sub_of⟩
end Go.Proofs.YtjaigpidmngaaaaGreat

namespace Go.Proofs.YtjaigpidmngaaaaGreat
attribute [local irreducible] callA callP ACalls
theorem path_pieces_spec (s : List UInt8) (H : AH) : ACalls PG path_pieces.n [.str s] H fun r H' => ∃ id, r = .clo path_pieces_1.n [] [.ptr id 1 0 0] ∧ hget H id = none ∧ tag id = ty_string ∧ H' = (id, .rows 1 [[.str s]]) :: H := by
  refine path_pieces.of rfl (wpF_start ?_)
  (first | refine au ?_ | exact au0)
  intro id1 hid1 ht1; have n1 := neAll_of hid1; (try simp only [neAll, neAll_hset] at n1); have m1 := n1; (repeat (obtain ⟨_, m1⟩ := m1))
  (first | refine au ?_ | exact au0)
  exact ⟨id1, rfl, hid1, ht1, rfl⟩
abbrev findA (x : List (Bool × Nat) × Int × Int) : AV := .tup [.rows 2 (x.1.map spR), .int .i64 x.2.1, .int .i64 x.2.2]
theorem of_bodyG {ps : List Nat} {a b : Code} {fl : List Nat} {N lid : Nat} {L : FL} {fr : Nat → Option AV} {ca cb : C} {args : List AV} {H : AH} {K : AV → AH → Prop} (hm : PG.follows .mixedOrders = true) (ha : comp PG fl a = ca) (hb : comp PG fl b = cb) (hfr : frm L = fr)
    (hd : (dstsOk N ca && dstsOk N cb && ps.all fun p => decide (p < N)) = true) (hfa : flatC ca = true) (hfb : flatC cb = true) (hl : args.length = ps.length) (hid : hget H lid = some (.loop ⟨ps, a, b, N, fr, .ready⟩))
    (h : wpF PG ca none (assignF PG lid ⟨ps, a, b, N, fr, .ready⟩ cb K) (putsL ps args L) H) : AYields PG lid args H K := by
  subst hfr
  exact AYields.of_bodyF hm ha hb hd hfa hfb hl hid h
theorem all_ok {l : List Pc} (h : ∀ j (h : j < l.length), l[j].2.2 = true) : l.all (·.2.2) = true := by
  rw [List.all_eq_true]
  intro x hx
  obtain ⟨j, hj, rfl⟩ := List.getElem_of_mem hx
  exact h j hj
theorem Sub.swp {H : AH} {i j : Nat} {b c : Blk} (h : i ≠ j) : Sub ((i, b) :: (j, c) :: H) ((j, c) :: (i, b) :: H) := by
  intro k x q
  simp only [hget] at q ⊢
  by_cases e1 : k = i
  · subst e1
    simp_all
  · by_cases e2 : k = j <;> simp_all [Ne.symm e1]
abbrev base1 (id3 id4 id6 id7 id8 : Nat) (l : List Ty) (t : Int) : AH := [(id8, .rows 1 [[.int .i64 0]]), (id7, .rows 1 [[.int .i64 0]]), (id6, .rows 1 [[.nilS]]), (id4, .rows 1 [[.int .i64 t]]), (id3, .rows 1 [[tysA l]])]
abbrev base2 (id3 id4 id6 id7 id8 : Nat) (l : List Ty) (t e : Int) : AH := [(id8, .rows 1 [[.int .i64 e]]), (id7, .rows 1 [[.int .i64 0]]), (id6, .rows 1 [[.nilS]]), (id4, .rows 1 [[.int .i64 t]]), (id3, .rows 1 [[tysA l]])]
theorem AYields.freeze {P : Program} {id : Nat} {args : List AV} {H : AH} {K K' : AV → AH → Prop} (h : AYields P id args H K)
    (hk : ∀ r H', K r H' → ∃ r' Hc, Sub Hc H' ∧ Fz H' Hc r r' ∧ K' r' Hc) : AYields P id args H K' := by
  intro m w ρ Z xs b o hg hr hb
  obtain ⟨fn, tmps, asg, bd, h1, h2⟩ := h m w ρ Z xs b o hg hr hb
  refine ⟨fn, tmps, asg, bd, h1, h2.mono fun e w' ⟨x, r, H', ρ', Z', a, g, c, d, k⟩ => ?_⟩
  obtain ⟨r', Hc, hs, hf, hk'⟩ := hk r H' k
  refine ⟨x, r', Hc, ρ', _, a, g.freeze hs, hf.sound g x c, ?_, hk'⟩
  refine { d with zmono := fun b q => .inl (d.zmono b q), znew := fun b q => ?_, own := fun b q => d.own b (q.of_sub hs) }
  rcases q with q | q
  · exact d.znew b q
  · rcases d.own b q.own with q | q
    · exact .inr (.inl q)
    · exact .inr (.inr q)
theorem Sub.of_cons {H K : AH} {id : Nat} {b : Blk} (h : hget H id = some b) (hs : Sub K H) : Sub ((id, b) :: K) H := fun j c q => by
  simp only [hget] at q
  split at q
  · rename_i e; subst e; rw [h]; exact q
  · exact hs _ _ q
abbrev L2 (idq id11 idp id8 id7 id6 id4 id3 : Nat) (l : List Ty) (t : Int) (s : List UInt8) : FL :=
  ((27, some (AV.clo path_pieces_1.n [] [AV.ptr idq 1 0 0])) ::
      (26, some (AV.str s)) ::
        (11, some ((fun id => AV.ptr id [AV.nilS].length 0 0) id11)) ::
          (21, some (AV.clo path_pieces_1.n [] [AV.ptr idp 1 0 0])) ::
            (20, some (AV.str s)) ::
              (19, some (AV.bool !true)) ::
                (18, some (AV.bool true)) ::
                  (17, some (AV.int IntKind.i64 t)) ::
                    (16, some (tysA l)) ::
                      (8, some ((fun id => AV.ptr id [AV.int IntKind.i64 0].length 0 0) id8)) ::
                        (7, some ((fun id => AV.ptr id [AV.int IntKind.i64 0].length 0 0) id7)) ::
                          (6, some ((fun id => AV.ptr id [AV.nilS].length 0 0) id6)) ::
                            (4, some ((fun id => AV.ptr id (AV.int IntKind.i64 t).cells.length 0 0) id4)) ::
                              (3, some ((fun id => AV.ptr id (tysA l).cells.length 0 0) id3)) ::
                                argsL 0 [tysA l, AV.int IntKind.i64 t, AV.str s])
abbrev base3 (o : Option Nat) (acc : List (Bool × Nat)) (id11 id3 id4 id6 id7 id8 : Nat) (l : List Ty) (t : Int) : AH := accH o 2 (acc.map spR) [(id11, .rows 1 [[accV o 2 acc.length]]), (id8, .rows 1 [[.int .i64 0]]), (id7, .rows 1 [[.int .i64 0]]), (id6, .rows 1 [[.nilS]]), (id4, .rows 1 [[.int .i64 t]]), (id3, .rows 1 [[tysA l]])]
abbrev ca2 : C := (C.reg [{ dst := some 12, guard := none, co := CO.allc ty_path_piece [AV.str [], AV.int IntKind.i64 0] }, { dst := none, guard := none, co := CO.store 2 (X.t 12) (X.t 28) }])
abbrev cb2 : C := C.block 3
      ((C.reg
            [{ dst := some 31, guard := none, co := CO.load none (X.t 3) },
              { dst := some 32, guard := none, co := CO.load none (X.t 4) },
              { dst := some 33, guard := none, co := CO.load (some 2) (X.t 12) },
              { dst := some 34, guard := none, co := CO.call path_step.n [X.t 31, X.t 32, X.t 33] },
              { dst := some 30, guard := none, co := CO.mv (X.t 34) },
              { dst := some 35, guard := none, co := CO.extr (X.t 30) 0 },
              { dst := some 36, guard := none, co := CO.extr (X.t 30) 1 },
              { dst := some 37, guard := none, co := CO.extr (X.t 30) 2 },
              { dst := some 13, guard := none, co := CO.allc ty_api_Step [AV.bool false, AV.int IntKind.i64 0] },
              { dst := none, guard := none, co := CO.store 2 (X.t 13) (X.t 35) },
              { dst := some 14, guard := none, co := CO.mv (X.t 36) },
              { dst := some 15, guard := none, co := CO.mv (X.t 37) }]).seq
        (((C.reg
                  [{ dst := some 38, guard := none, co := CO.mv (X.t 15) },
                    { dst := some 39, guard := none,
                      co := CO.bin BinOp.neq (X.t 38) (X.c (AV.int IntKind.i64 0)) }]).seq
              (C.cond (X.t 39)
                ((C.reg
                      [{ dst := some 40, guard := none, co := CO.mv (X.t 15) },
                        { dst := none, guard := none, co := CO.store 1 (X.t 6) (X.c AV.nilS) },
                        { dst := none, guard := none, co := CO.store 1 (X.t 7) (X.c (AV.int IntKind.i64 0)) },
                        { dst := none, guard := none, co := CO.store 1 (X.t 8) (X.t 40) }]).seq
                  C.ret)
                C.skip)).seq
          (C.reg
            [{ dst := some 41, guard := none, co := CO.load none (X.t 11) },
              { dst := some 42, guard := none, co := CO.load (some 2) (X.t 13) },
              { dst := some 43, guard := none,
                co := CO.bslice ty_api_Step 2 1 [AV.bool false, AV.int IntKind.i64 0] [(0, X.t 42)] },
              { dst := some 44, guard := none, co := CO.append ty_api_Step false 2 16 (X.t 41) (X.t 43) },
              { dst := some 45, guard := none, co := CO.mv (X.t 14) },
              { dst := none, guard := none, co := CO.store 1 (X.t 11) (X.t 44) },
              { dst := none, guard := none, co := CO.store 1 (X.t 4) (X.t 45) }])))
structure J2 (lid idq : Nat) (lr : Blk) (id11 id3 id4 id6 id7 id8 : Nat) (l : List Ty) (t : Int) (ps : List Pc) (i : Nat) (H : AH) : Prop where
  mk :: out : ∃ (o : Option Nat) (acc : List (Bool × Nat)) (t' : Int), H = (lid, lr) :: base3 o acc id11 id3 id4 id6 id7 id8 l t' ∧ (o = none → acc = []) ∧
    (∀ id, o = some id → tag id = ty_api_Step ∧ id ≠ lid ∧ id ≠ idq ∧ id ≠ id11 ∧ id ≠ id8 ∧ id ≠ id7 ∧ id ≠ id6 ∧ id ≠ id4 ∧ id ≠ id3) ∧ 0 ≤ t' ∧ t' < l.length ∧ acc.length = i ∧ wayP l t ps [] = wayP l t' (ps.drop i) acc
structure X2 (lid : Nat) (lr : Blk) (id6 id7 id8 : Nat) (l : List Ty) (t : Int) (ps : List Pc) (H : AH) : Prop where
  mk :: out : ∃ e : Int, H = [(lid, lr), (id8, .rows 1 [[.int .i64 e]]), (id7, .rows 1 [[.int .i64 0]]), (id6, .rows 1 [[.nilS]])] ∧ wayP l t ps [] = ([], 0, e)
theorem step_in {l : List Ty} (hv : TyV l) {t : Int} (h0 : 0 ≤ t) (h1 : t < l.length) (p : Pc) (h : (stepP l t p).2.2 = 0) : 0 ≤ (stepP l t p).2.1 ∧ (stepP l t p).2.1 < l.length := by
  have hp := (hv.tAt h0 h1).parts
  unfold stepP at h ⊢
  split at h
  · rename_i c
    rw [if_pos c]
    split at h
    · cases h
    · rename_i c2
      rw [if_neg c2]
      split at h
      · cases h
      · rename_i c3
        rw [if_neg c3]
        have := hp (tAt l t).el (by unfold parts; rw [if_pos (by simpa using c2)]; simp)
        dsimp only
        omega
  · rename_i c
    rw [if_neg c]
    split at h
    · cases h
    · rename_i c2
      rw [if_neg c2]
      cases hi : itemIx l t p.1 with
      | none => rw [hi] at h; cases h
      | some n =>
        dsimp only
        have hil : n < (tAt l t).its.length := by
          unfold itemIx at hi
          split at hi
          · exact (List.findIdx?_eq_some_iff_getElem.1 hi).1
          · cases hi
        have hk : (tAt l t).kd = 13 ∨ (tAt l t).kd = 14 := by
          simp only [kIt, decide_eq_false_iff_not, Classical.not_not] at c2
          exact c2
        have := hp ((tAt l t).its[n]).ty (by unfold parts; rw [if_pos hk]; simp only [List.mem_append, List.mem_map]; exact .inr ⟨_, List.getElem_mem hil, rfl⟩)
        rw [show (tAt l t).its.getD n it0 = (tAt l t).its[n] from by simp [List.getD, hil]]
        omega
set_option maxHeartbeats 4000000 in
theorem round2 (ps : List Pc) (l : List Ty) (hl : TysOk l) (hv : TyV l) (t : Int) (s : List UInt8) (lid idq id11 idp id8 id7 id6 id4 id3 : Nat) (a b : Code) (fl : List Nat) (N : Nat) (ha : comp PG fl a = ca2) (hb : comp PG fl b = cb2) (fr : Nat → Option AV) (hfr : frm (L2 idq id11 idp id8 id7 id6 id4 id3 l t s) = fr)
    (hd : (dstsOk N ca2 && dstsOk N cb2 && [28, 29].all fun p => decide (p < N)) = true) (hpl : ps.length ≤ 1000001)
    (nl : lid ≠ idq ∧ lid ≠ id11 ∧ lid ≠ id8 ∧ lid ≠ id7 ∧ lid ≠ id6 ∧ lid ≠ id4 ∧ lid ≠ id3) (nq : idq ≠ id11 ∧ idq ≠ id8 ∧ idq ≠ id7 ∧ idq ≠ id6 ∧ idq ≠ id4 ∧ idq ≠ id3)
    (n11 : id11 ≠ id8 ∧ id11 ≠ id7 ∧ id11 ≠ id6 ∧ id11 ≠ id4 ∧ id11 ≠ id3) (n8 : id8 ≠ id7 ∧ id8 ≠ id6 ∧ id8 ≠ id4 ∧ id8 ≠ id3) (n7 : id7 ≠ id6 ∧ id7 ≠ id4 ∧ id7 ≠ id3) (n6 : id6 ≠ id4 ∧ id6 ≠ id3) (n4 : id4 ≠ id3)
    (t11 : tag id11 = ty_S_api_Step) (t8 : tag id8 = ty_api_Errno) (t7 : tag id7 = ty_int) (t6 : tag id6 = ty_S_api_Step) (t4 : tag id4 = ty_int) (t3 : tag id3 = ty_S_api_Type) :
    Round lid idq ps (J2 lid idq (.loop ⟨[28, 29], a, b, N, fr, .ready⟩) id11 id3 id4 id6 id7 id8 l t ps) (X2 lid (.loop ⟨[28, 29], a, b, N, fr, .done .ret⟩) id6 id7 id8 l t ps) := by
  obtain ⟨l1, l2, l3, l4, l5, l6, l7⟩ := nl
  obtain ⟨q1, q2, q3, q4, q5, q6⟩ := nq
  obtain ⟨e1, e2, e3, e4, e5⟩ := n11
  obtain ⟨g1, g2, g3, g4⟩ := n8
  obtain ⟨k1, k2, k3⟩ := n7
  obtain ⟨k4, k5⟩ := n6
  intro i hi H b0 hH hj
  obtain ⟨o, acc, t', e, ho1, ho2, ht0, ht1, hla, hw⟩ := hj.out
  subst e
  refine AYields.freeze (K := fun r H' => ∃ Hc, Sub Hc H' ∧ (∃ q, r = .bool q) ∧ ∃ H2, Hc = (idq, b0) :: H2 ∧ ((r = .bool true ∧ hget H2 idq = none ∧ J2 lid idq (.loop ⟨[28, 29], a, b, N, fr, .ready⟩) id11 id3 id4 id6 id7 id8 l t ps (i + 1) H2) ∨ (r = .bool false ∧ X2 lid (.loop ⟨[28, 29], a, b, N, fr, .done .ret⟩) id6 id7 id8 l t ps H2))) ?_ (fun r H' ⟨Hc, hs, ⟨q, hq⟩, hk⟩ => ⟨r, Hc, hs, by subst hq; exact Fz.refl _, hk⟩)
  have hid : hget ((idq, b0) :: (lid, Blk.loop ⟨[28, 29], a, b, N, fr, .ready⟩) :: base3 o acc id11 id3 id4 id6 id7 id8 l t') lid = some (.loop ⟨[28, 29], a, b, N, fr, .ready⟩) := (hget_tail l1.symm).trans hget_self
  rw [List.drop_eq_getElem_cons hi, wayP] at hw
  have hin := step_in hv ht0 ht1 (ps[i])
  have hsp := step_spec l hl t' ht0 ht1 (ps[i])
  generalize (ps[i]) = p at *
  generalize stepP l t' p = st at *
  obtain ⟨⟨eb, en⟩, to, er⟩ := st
  dsimp only at hw hin
  rcases o with _ | ida
  · have hac := ho1 rfl
    subst hac
    have hi0 : i = 0 := hla.symm
    clear hla ho1 ho2 hpl
    dsimp only [base3, accH, accV, List.map_nil, List.length_nil] at hH hid ⊢
    refine of_bodyG mixed ha hb hfr hd rfl rfl rfl hid ?_
    clear hid hH hd ha hb hfr hj
    (first | refine au ?_ | exact au0)
    intro id12 hid12 ht12; have n12 := neAll_of hid12; (try simp only [neAll, neAll_hset] at n12); have m12 := n12; (repeat (obtain ⟨_, m12⟩ := m12))
    clear hid12
    (first | refine au ?_ | exact au0)
    refine ⟨by exact hg_of, ?_⟩
    (first | refine au ?_ | exact au0)
    first | refine callF_eq (hsp _) ?_ | refine callG_eq rfl (hsp _) ?_
    (first | refine au ?_ | exact au0)
    intro id13 hid13 ht13; have n13 := neAll_of hid13; (try simp only [neAll, neAll_hset] at n13); have m13 := n13; (repeat (obtain ⟨_, m13⟩ := m13))
    clear hid13
    (first | refine au ?_ | exact au0)
    refine bsplit_dec (fun ce => ?_) (fun ce => ?_)
    · (first | refine au ?_ | exact au0)
      refine ⟨by exact hg_of, ?_⟩
      (first | refine au ?_ | exact au0)
      refine ⟨[(idq, b0), (lid, .loop ⟨[28, 29], a, b, N, fr, .done .ret⟩), (id8, .rows 1 [[.int .i64 er]]), (id7, .rows 1 [[.int .i64 0]]), (id6, .rows 1 [[.nilS]])], ?_, ⟨false, rfl⟩, _, rfl, .inr ⟨rfl, ⟨er, rfl, by rw [hw, if_neg ce]⟩⟩⟩
      (repeat (refine Sub.of_cons ?_ ?_; (next => (repeat (first | ((with_reducible refine Eq.trans hget_self ?_); exact rfl) | with_reducible refine (hget_tail (by first | with_reducible assumption | (apply Ne.symm; with_reducible assumption))).trans ?_ | with_reducible refine (hget_set_ne (by first | with_reducible assumption | (apply Ne.symm; with_reducible assumption))).trans ?_ | with_reducible refine (hget_del_ne (by first | with_reducible assumption | (apply Ne.symm; with_reducible assumption))).trans ?_ | ((with_reducible refine Eq.trans (hget_set ?_) ?_); rotate_left; exact rfl))))))
      exact Sub.nil _
    (first | refine au ?_ | exact au0)
    refine ⟨_, rfl, (Nat.le_of_ble_eq_true rfl), (fun q => by cases q), fun _ => ?_⟩
    intro id44 hid44 ht44; have n44 := neAll_of hid44; (try simp only [neAll, neAll_hset] at n44); have m44 := n44; (repeat (obtain ⟨_, m44⟩ := m44))
    clear hid44
    (first | refine au ?_ | exact au0)
    refine ⟨by exact hg_of, ?_⟩
    (first | refine au ?_ | exact au0)
    have er0 : er = 0 := by first | exact ce | exact Classical.not_not.1 ce
    refine ⟨(idq, b0) :: (lid, .loop ⟨[28, 29], a, b, N, fr, .ready⟩) :: base3 (some id44) [(eb, en)] id11 id3 id4 id6 id7 id8 l to, ?_, ⟨true, rfl⟩, _, rfl, .inl ⟨rfl, ?_, ⟨some id44, [(eb, en)], to, rfl, (fun q => by cases q), (fun id q => by cases q; exact ⟨ht44, by assumption, by assumption, by assumption, by assumption, by assumption, by assumption, by assumption, by assumption⟩), (hin er0).1, (hin er0).2, by rw [hi0]; rfl, by rw [hw, if_pos er0]; rfl⟩⟩⟩
    · dsimp only [base3, accH, accV]
      (repeat (refine Sub.of_cons ?_ ?_; (next => (repeat (first | ((with_reducible refine Eq.trans hget_self ?_); exact rfl) | with_reducible refine (hget_tail (by first | with_reducible assumption | (apply Ne.symm; with_reducible assumption))).trans ?_ | with_reducible refine (hget_set_ne (by first | with_reducible assumption | (apply Ne.symm; with_reducible assumption))).trans ?_ | with_reducible refine (hget_del_ne (by first | with_reducible assumption | (apply Ne.symm; with_reducible assumption))).trans ?_ | ((with_reducible refine Eq.trans (hget_set ?_) ?_); rotate_left; exact rfl))))))
      exact Sub.nil _
    · refine hget_none ?_
      simp only [base3, accH, neAll]
      (repeat' apply And.intro) <;> first | with_reducible assumption | (apply Ne.symm; with_reducible assumption) | trivial
  · obtain ⟨hti, a1, a2, a3, a4, a5, a6, a7, a8⟩ := ho2 ida rfl
    have hal : acc.length ≤ 1000001 := by omega
    clear ho1 ho2 hpl
    dsimp only [base3, accH, accV] at hH hid ⊢
    refine of_bodyG mixed ha hb hfr hd rfl rfl rfl hid ?_
    clear hid hH hd ha hb hfr hj
    (first | refine au ?_ | exact au0)
    intro id12 hid12 ht12; have n12 := neAll_of hid12; (try simp only [neAll, neAll_hset] at n12); have m12 := n12; (repeat (obtain ⟨_, m12⟩ := m12))
    clear hid12
    (first | refine au ?_ | exact au0)
    refine ⟨by exact hg_of, ?_⟩
    (first | refine au ?_ | exact au0)
    first | refine callF_eq (hsp _) ?_ | refine callG_eq rfl (hsp _) ?_
    (first | refine au ?_ | exact au0)
    intro id13 hid13 ht13; have n13 := neAll_of hid13; (try simp only [neAll, neAll_hset] at n13); have m13 := n13; (repeat (obtain ⟨_, m13⟩ := m13))
    clear hid13
    (first | refine au ?_ | exact au0)
    refine bsplit_dec (fun ce => ?_) (fun ce => ?_)
    · (first | refine au ?_ | exact au0)
      refine ⟨by exact hg_of, ?_⟩
      (first | refine au ?_ | exact au0)
      refine ⟨[(idq, b0), (lid, .loop ⟨[28, 29], a, b, N, fr, .done .ret⟩), (id8, .rows 1 [[.int .i64 er]]), (id7, .rows 1 [[.int .i64 0]]), (id6, .rows 1 [[.nilS]])], ?_, ⟨false, rfl⟩, _, rfl, .inr ⟨rfl, ⟨er, rfl, by rw [hw, if_neg ce]⟩⟩⟩
      (repeat (refine Sub.of_cons ?_ ?_; (next => (repeat (first | ((with_reducible refine Eq.trans hget_self ?_); exact rfl) | with_reducible refine (hget_tail (by first | with_reducible assumption | (apply Ne.symm; with_reducible assumption))).trans ?_ | with_reducible refine (hget_set_ne (by first | with_reducible assumption | (apply Ne.symm; with_reducible assumption))).trans ?_ | with_reducible refine (hget_del_ne (by first | with_reducible assumption | (apply Ne.symm; with_reducible assumption))).trans ?_ | ((with_reducible refine Eq.trans (hget_set ?_) ?_); rotate_left; exact rfl))))))
      exact Sub.nil _
    (first | refine au ?_ | exact au0)
    refine ⟨_, _, readS_all (by exact hg_of) ?_, rfl, rfl, rfl, hti, ?_, ?_⟩
    · simp
    · simp only [List.length_map, List.length_set, List.length_replicate]; omega
    (first | refine au ?_ | exact au0)
    intro id44 hid44 ht44; have n44 := neAll_of hid44; (try simp only [neAll, neAll_hset] at n44); have m44 := n44; (repeat (obtain ⟨_, m44⟩ := m44))
    clear hid44
    (first | refine au ?_ | exact au0)
    refine ⟨by exact hg_of, ?_⟩
    (first | refine au ?_ | exact au0)
    have er0 : er = 0 := by first | exact ce | exact Classical.not_not.1 ce
    refine ⟨(idq, b0) :: (lid, .loop ⟨[28, 29], a, b, N, fr, .ready⟩) :: base3 (some id44) (acc ++ [(eb, en)]) id11 id3 id4 id6 id7 id8 l to, ?_, ⟨true, rfl⟩, _, rfl, .inl ⟨rfl, ?_, ⟨some id44, acc ++ [(eb, en)], to, rfl, (fun q => by cases q), (fun id q => by cases q; exact ⟨ht44, by assumption, by assumption, by assumption, by assumption, by assumption, by assumption, by assumption, by assumption⟩), (hin er0).1, (hin er0).2, by rw [List.length_append, hla]; rfl, by rw [hw, if_pos er0]⟩⟩⟩
    · dsimp only [base3, accH, accV]
      rw [List.map_append, List.length_append, show acc.length = (acc.map spR).length from by simp]
      have b1 : id44 ≠ lid := by assumption
      have b2 : id44 ≠ id11 := by assumption
      have b3 : id44 ≠ id4 := by assumption
      have hB : ∀ T : AH, hget T lid = some (.loop ⟨[28, 29], a, b, N, fr, .busy⟩) → ∀ c, hget (hset T lid c) lid = some c := fun T h c => hget_set h
      have hC : ∀ T : AH, hget T id11 = some (.rows 1 [[.own ida 2 0 (acc.map spR).length]]) → ∀ c, hget (hset T id11 c) id11 = some c := fun T h c => hget_set h
      have hD : ∀ T : AH, hget T id4 = some (.rows 1 [[.int .i64 t']]) → ∀ c, hget (hset T id4 c) id4 = some c := fun T h c => hget_set h
      (repeat (refine Sub.of_cons ?_ ?_; (next => (repeat (first | ((with_reducible refine Eq.trans hget_self ?_); exact rfl) | with_reducible refine (hget_tail (by first | with_reducible assumption | (apply Ne.symm; with_reducible assumption))).trans ?_ | with_reducible refine (hget_set_ne (by first | with_reducible assumption | (apply Ne.symm; with_reducible assumption))).trans ?_ | with_reducible refine (hget_del_ne (by first | with_reducible assumption | (apply Ne.symm; with_reducible assumption))).trans ?_ | (with_reducible refine (hB _ ?_ _).trans rfl) | (with_reducible refine (hC _ ?_ _).trans rfl) | (with_reducible refine (hD _ ?_ _).trans rfl))))))
      exact Sub.nil _
    · refine hget_none ?_
      simp only [base3, accH, neAll]
      (repeat' apply And.intro) <;> first | with_reducible assumption | (apply Ne.symm; with_reducible assumption) | trivial
end Go.Proofs.YtjaigpidmngaaaaGreat

namespace Go.Proofs.YtjaigpidmngaaaaGreat
attribute [local irreducible] callA callP ACalls
theorem sub_del2 {T : AH} {i k : Nat} {b x : Blk} (h1 : hget T i = none) (h2 : hget T k = none) : Sub T (hdel ((i, b) :: (k, x) :: T) k) := fun j c q => by
  have e1 : i ≠ j := fun e => by subst e; rw [h1] at q; cases q
  have e2 : j ≠ k := fun e => by subst e; rw [h2] at q; cases q
  rw [hget_del_ne e2, hget_tail e1, hget_tail e2.symm]; exact q
theorem pcs_len : ∀ (n : Nat) (s : List UInt8) (f : Bool), s.length < n → (pcs s f).length ≤ s.length + 1
  | 0, s, f, h => absurd h (Nat.not_lt_zero _)
  | n + 1, s, f, h => by
    by_cases h0 : f = false ∧ s = []
    · obtain ⟨rfl, rfl⟩ := h0
      rw [pcs_end]; simp
    by_cases h1 : 0 < (numP s).2
    · rw [pcs_num h0 h1, List.length_cons]
      have := (numP_le s).1
      have := pcs_len n (s.drop (numP s).2) false (by rw [List.length_drop]; omega)
      rw [List.length_drop] at this
      omega
    cases hr : (if f = true then some s else dotP s) with
    | none =>
      cases f with
      | true => cases hr
      | false => rw [pcs_nodot (fun q => h0 ⟨rfl, q⟩) h1 hr]; simp
    | some r =>
      rw [pcs_item h0 h1 hr]
      have h4 : r.length ≤ s.length := by
        cases f with
        | true => cases hr; exact Nat.le_refl _
        | false => rw [dotP_some hr]; simp
      split
      · simp
      · have h3 := nl_le r
        have := pcs_len n (r.drop (nl r)) false (by rw [List.length_drop]; omega)
        rw [List.length_drop] at this
        rw [List.length_cons]
        omega
set_option maxHeartbeats 4000000 in
theorem Find_spec0 (l : List Ty) (hl : TysOk l) (t : Int) (s : List UInt8) (hs : s.length ≤ 1000000) : ACalls PG path_Find.n [tysA l, .int .i64 t, .str s] [] fun r _ => r = findA (findP l t s) := by
  have hlen : (l.map tyR).length = l.length := by simp
  have hll := hl.len
  refine ACalls.fzK (path_Find.of rfl (wpF_start ?_))
  unfold findP
  (first | refine au ?_ | exact au0)
  intro id3 hid3 ht3; have n3 := neAll_of hid3; (try simp only [neAll, neAll_hset] at n3); have m3 := n3; (repeat (obtain ⟨_, m3⟩ := m3))
  (first | refine au ?_ | exact au0)
  intro id4 hid4 ht4; have n4 := neAll_of hid4; (try simp only [neAll, neAll_hset] at n4); have m4 := n4; (repeat (obtain ⟨_, m4⟩ := m4))
  (first | refine au ?_ | exact au0)
  intro id6 hid6 ht6; have n6 := neAll_of hid6; (try simp only [neAll, neAll_hset] at n6); have m6 := n6; (repeat (obtain ⟨_, m6⟩ := m6))
  (first | refine au ?_ | exact au0)
  intro id7 hid7 ht7; have n7 := neAll_of hid7; (try simp only [neAll, neAll_hset] at n7); have m7 := n7; (repeat (obtain ⟨_, m7⟩ := m7))
  (first | refine au ?_ | exact au0)
  intro id8 hid8 ht8; have n8 := neAll_of hid8; (try simp only [neAll, neAll_hset] at n8); have m8 := n8; (repeat (obtain ⟨_, m8⟩ := m8))
  (first | refine au ?_ | exact au0)
  first | refine callF_eq (path_known_spec l hl t _) ?_ | refine callG_eq rfl (path_known_spec l hl t _) ?_
  by_cases hk : knownT l t
  · rw [if_pos hk, decide_eq_true hk]
    (first | refine au ?_ | exact au0)
    refine callF_of ((path_pieces_spec s _).mono fun r H1 ⟨idp, e1, hidp, htp, e2⟩ => ?_)
    subst e1; subst e2
    (first | refine au ?_ | exact au0)
    clear hid3 hid4 hid6 hid7 hid8
    have np := neAll_of hidp
    simp only [neAll] at np
    refine ⟨fun a b fl N lid ha hb hd hli => ?_⟩
    have nl := neAll_of hli
    simp only [neAll] at nl
    generalize hfr : frm _ = fr
    have hround : Round lid idp (pcs s true) (fun i H => H = (lid, .loop ⟨[22, 23], a, b, N, fr, .ready⟩) :: base1 id3 id4 id6 id7 id8 l t ∧ ∀ j (h : j < (pcs s true).length), j < i → (pcs s true)[j].2.2 = true)
        (fun H => H = (lid, .loop ⟨[22, 23], a, b, N, fr, .done .ret⟩) :: base2 id3 id4 id6 id7 id8 l t 1 ∧ (pcs s true).all (·.2.2) = false) := by
      intro i hi H b0 hH ⟨e, hok⟩
      subst e
      refine of_bodyG mixed ha hb hfr hd rfl rfl rfl (by exact hg_of) ?_
      (first | refine au ?_ | exact au0)
      refine ⟨by exact hg_of, ?_⟩
      (first | refine au ?_ | exact au0)
      refine bsplit_intro (fun c => ?_) (fun c => ?_)
      · (first | refine au ?_ | exact au0)
        refine ⟨by exact hg_of, ?_⟩
        (first | refine au ?_ | exact au0)
        exact ⟨_, rfl, .inl ⟨rfl, hH, rfl, fun j h q => by
          by_cases e : j < i
          · exact hok j h e
          · have : j = i := by omega
            subst this; exact c⟩⟩
      · (first | refine au ?_ | exact au0)
        refine ⟨by exact hg_of, ?_⟩
        (first | refine au ?_ | exact au0)
        refine ⟨_, rfl, .inr ⟨rfl, rfl, ?_⟩⟩
        rw [← Bool.not_eq_true]
        intro q
        rw [List.all_eq_true.1 q _ (List.getElem_mem hi)] at c
        cases c
    refine ((pieces_iter s (by omega) lid idp htp _ _ hround _ ?_ ⟨rfl, fun j h q => by omega⟩).perm ?_ ?_).mono fun r H' hio => ?_
    · refine hget_none ?_
      simp only [neAll]
      (repeat' apply And.intro) <;> first | omega | trivial
    · exact Sub.swp (by omega)
    · exact Sub.swp (by omega)
    obtain ⟨b', H2, rfl, ⟨rfl, hok⟩ | ⟨rfl, hno⟩⟩ := hio.out
    · refine ⟨.ready, base1 id3 id4 id6 id7 id8 l t, ?_, ?_, ?_⟩
      · exact sub_of
      · exact hg_of
      rw [if_pos (all_ok fun j h => hok j h h)]
      (first | refine au ?_ | exact au0)
      intro id11 hid11 ht11; have n11 := neAll_of hid11; (try simp only [neAll, neAll_hset] at n11); have m11 := n11; (repeat (obtain ⟨_, m11⟩ := m11))
      (first | refine au ?_ | exact au0)
      clear hid11 hli
      have hpl := pcs_len (s.length + 1) s true (Nat.lt_succ_self _)
      have hv := tyChk_v hk.2.2
      refine callF_of ((path_pieces_spec s _).mono fun r H1 ⟨idq, e1, hidq, htq, e2⟩ => ?_)
      subst e1; subst e2
      (first | refine au ?_ | exact au0)
      have nq := neAll_of hidq
      simp only [neAll] at nq
      clear hidq
      refine ⟨fun a b fl N lid ha hb hd hli => ?_⟩
      have nl2 := neAll_of hli
      simp only [neAll] at nl2
      clear hli
      have hr := round2 (pcs s true) l hl hv t s lid idq id11 idp id8 id7 id6 id4 id3 a b fl N ha hb _ rfl hd (by omega) ⟨nl2.1, nl2.2.1, nl2.2.2.1, nl2.2.2.2.1, nl2.2.2.2.2.1, nl2.2.2.2.2.2.1, nl2.2.2.2.2.2.2.1⟩ ⟨nq.1, nq.2.1, nq.2.2.1, nq.2.2.2.1, nq.2.2.2.2.1, nq.2.2.2.2.2.1⟩ ⟨n11.1, n11.2.1, n11.2.2.1, n11.2.2.2.1, n11.2.2.2.2.1⟩ ⟨n8.1, n8.2.1, n8.2.2.1, n8.2.2.2.1⟩ ⟨n7.1, n7.2.1, n7.2.2.1⟩ ⟨n6.1, n6.2.1⟩ n4.1 ht11 ht8 ht7 ht6 ht4 ht3
      refine ((pieces_iter s (by omega) lid idq htq _ _ hr ((lid, .loop ⟨[28, 29], a, b, N, _, .ready⟩) :: (id11, .rows 1 [[.nilS]]) :: base1 id3 id4 id6 id7 id8 l t) ?_ ⟨none, [], t, rfl, fun _ => rfl, (fun id q => by cases q), hk.1, hk.2.1, rfl, rfl⟩).perm ?_ ?_).mono fun r H' hio => ?_
      · refine hget_none ?_
        simp only [neAll]
        exact ⟨nl2.1.symm, nq⟩
      · exact Sub.swp nl2.1.symm
      · exact Sub.swp nl2.1
      obtain ⟨b', H2, rfl, hj | hx⟩ := hio.out
      · obtain ⟨o, acc, t', rfl, ho1, ho2, h0, h1, hla, hw⟩ := hj.out
        rw [List.drop_length, wayP] at hw
        rw [hw]
        rcases o with _ | ida
        · have hac := ho1 rfl
          subst hac
          refine ⟨.ready, base3 none [] id11 id3 id4 id6 id7 id8 l t', ?_, (hget_tail nl2.1.symm).trans hget_self, ?_⟩
          · exact sub_del2 (hget_none (by simp only [base3, accH, neAll]; exact nq)) (hget_none (by simp only [base3, accH, neAll]; exact nl2.2))
          dsimp only [base3, accH, accV]
          (first | refine au ?_ | exact au0)
          exact fz_of
        · obtain ⟨hti, a1, a2, a3, a4, a5, a6, a7, a8⟩ := ho2 ida rfl
          refine ⟨.ready, base3 (some ida) acc id11 id3 id4 id6 id7 id8 l t', ?_, (hget_tail nl2.1.symm).trans hget_self, ?_⟩
          · exact sub_del2 (hget_none (by simp only [base3, accH, neAll]; exact ⟨a2.symm, nq⟩)) (hget_none (by simp only [base3, accH, neAll]; exact ⟨a1.symm, nl2.2⟩))
          dsimp only [base3, accH, accV]
          (first | refine au ?_ | exact au0)
          have hlm : acc.length = (acc.map spR).length := (List.length_map _).symm
          rw [hlm]
          refine Fz.tupL (FzL.cons (Fz.ownL hget_self rfl (FzR.refl _ _ _) (map_w (f := spR) (fun _ => rfl) _)) (FzL.cons (Fz.refl _) (FzL.cons (Fz.refl _) (FzL.nil _ _))))
      · obtain ⟨e, rfl, hw⟩ := hx.out
        rw [hw]
        refine ⟨.done .ret, [(id8, .rows 1 [[.int .i64 e]]), (id7, .rows 1 [[.int .i64 0]]), (id6, .rows 1 [[.nilS]])], ?_, ?_, ?_⟩
        · exact sub_del2 (hget_none (by simp only [neAll]; exact ⟨nq.2.1, nq.2.2.1, nq.2.2.2.1, trivial⟩)) (hget_none (by simp only [neAll]; exact ⟨nl2.2.2.1, nl2.2.2.2.1, nl2.2.2.2.2.1, trivial⟩))
        · exact (hget_tail nl2.1.symm).trans hget_self
        (first | refine au ?_ | exact au0)
        exact fz_of
    · refine ⟨.done .ret, (idp, b') :: base2 id3 id4 id6 id7 id8 l t 1, ?_, ?_, ?_⟩
      · exact sub_of
      · exact hg_of
      rw [hno, if_neg (by decide)]
      (first | refine au ?_ | exact au0)
      exact fz_of
  · rw [if_neg hk, decide_eq_false hk]
    (first | refine au ?_ | exact au0)
    exact fz_of
theorem Find_spec (l : List Ty) (hl : TysOk l) (t : Int) (s : List UInt8) (hs : s.length ≤ 1000000) (H : AH) : ACalls PG path_Find.n [tysA l, .int .i64 t, .str s] H fun r H' => r = findA (findP l t s) ∧ H' = H := (Find_spec0 l hl t s hs).frame H
end Go.Proofs.YtjaigpidmngaaaaGreat

namespace Go.Proofs.YtjaigpidmngaaaaGreat
open Go.RowKit
theorem hty_lt {h : Array Obj} {b : Nat} {t : Nat × TypeId} (q : hty h b = some t) : b < h.size := by
  unfold hty at q
  split at q
  · rename_i hx
    exact (Array.getElem?_eq_some_iff.1 hx).1
  · rename_i hx
    exact (Array.getElem?_eq_some_iff.1 hx).1
  · cases q
theorem Below.hty {w w' : World} (q : Below w.heap.size w w') (b : Nat) (t : Nat × TypeId) (h : hty w.heap b = some t) : Go.Proofs.YtjaigpidmngaaaaGreat.hty w'.heap b = some t := by
  have := q.block b (hty_lt h)
  unfold Go.Proofs.YtjaigpidmngaaaaGreat.hty at h ⊢
  rw [this]
  exact h
theorem ACalls.belowT {P : Program} {f : Nat} {args : List AV} {v : AV} (hc : callable P f = true)
    (h : ∀ (w : World) (ρ : Loc) (Z : Nat → Prop) (xs : List Value), TabG w.heap Z → (∀ b, Z b → b < w.heap.size) → RlL w.heap ρ Z args xs → Calls P f xs.toArray w fun e w' => ∃ x, e = .returned x ∧ Rl w'.heap ρ Z v x ∧ Below w.heap.size w w') :
    ACalls P f args [] fun r _ => r = v := by
  refine ⟨hc, fun w ρ Z xs g hr => (h w ρ Z xs g.tab g.zlt hr).mono fun e w' ⟨x, e1, e2, e3⟩ => ⟨x, v, [], ρ, Z, e1, ?_, e2, ?_, rfl⟩⟩
  · refine ⟨fun _ _ q => (by cases q), fun _ _ _ _ _ _ _ _ q => (by cases q), fun b ⟨_, _, _, q, _⟩ => (by cases q), fun b q => Nat.lt_of_lt_of_le (g.zlt b q) e3.size, g.ids, fun id b o q => ?_, g.tab.of (fun _ q => q) (fun b q => e3.block b (g.zlt b q))⟩
    obtain ⟨h1, m, h2⟩ := g.ty id b o q
    exact ⟨h1, m, Below.hty e3 b _ h2⟩
  · exact ⟨e3.size, fun b hb _ => e3.block b hb, fun b t q => Below.hty e3 b t q, fun _ q => q, fun _ q => .inl q, fun _ _ q => q, fun b ⟨_, _, _, q, _⟩ => (by cases q), e3.os, e3.output, e3.tape⟩
theorem ACalls.below {P : Program} {f : Nat} {args : List AV} {v : AV} (hc : callable P f = true)
    (h : ∀ (w : World) (ρ : Loc) (Z : Nat → Prop) (xs : List Value), RlL w.heap ρ Z args xs → Calls P f xs.toArray w fun e w' => ∃ x, e = .returned x ∧ Rl w'.heap ρ Z v x ∧ Below w.heap.size w w') :
    ACalls P f args [] fun r _ => r = v := ACalls.belowT hc fun w ρ Z xs _ _ => h w ρ Z xs
theorem RlL.two {h : Array Obj} {ρ : Loc} {Z : Nat → Prop} {a b : AV} {xs : List Value} (q : RlL h ρ Z [a, b] xs) : ∃ x y, xs = [x, y] ∧ Rl h ρ Z a x ∧ Rl h ρ Z b y := by
  obtain ⟨hl, hr⟩ := q
  match xs, hl with
  | [x, y], _ => exact ⟨x, y, rfl, hr 0 a x rfl rfl, hr 1 b y rfl rfl⟩
theorem RlL.one {h : Array Obj} {ρ : Loc} {Z : Nat → Prop} {a : AV} {xs : List Value} (q : RlL h ρ Z [a] xs) : ∃ x, xs = [x] ∧ Rl h ρ Z a x := by
  obtain ⟨hl, hr⟩ := q
  match xs, hl with
  | [x], _ => exact ⟨x, rfl, hr 0 a x rfl rfl⟩
theorem ACalls.sub {P : Program} {f : Nat} {args : List AV} {H H1 : AH} {v : AV} (h : ACalls P f args H fun r H' => r = v ∧ Sub H1 H') : ACalls P f args H fun r H' => r = v ∧ H' = H1 :=
  h.freeze fun r H' ⟨a, b⟩ => ⟨r, H1, b, .refl _, a, rfl⟩
theorem sub_hset {H H' : AH} {id : Nat} {b : Blk} (h1 : hget H' id = some b) (h2 : ∀ j c, j ≠ id → hget H j = some c → hget H' j = some c) : Sub (hset H id b) H' := fun j c q => by
  rw [hget_hset] at q
  split at q
  · rename_i e
    subst e
    cases hh : hget H j with
    | none => rw [hh] at q; cases q
    | some d => rw [hh] at q; simp only [Option.map_some, Option.some.injEq] at q; rw [← q]; exact h1
  · rename_i e; exact h2 j c e q
end Go.Proofs.YtjaigpidmngaaaaGreat

namespace Go.Proofs.YtjaigpidmngaaaaGreat
attribute [local irreducible] callA callP ACalls
theorem token_digit_spec (c : UInt8) (H : AH) : ACalls PG token_digit.n [u8A c] H fun r H' => r = .bool (dig c) ∧ H' = H := by
  rw [bool_iff (dig_iff c)]
  refine token_digit.of rfl (wpF_start ?_)
  (repeat' (first | (refine au ?_; first | refine bsplit_dec (fun _ => ?_) (fun _ => ?_) | refine bsplit_intro (fun _ => ?_) (fun _ => ?_)) | exact au0 | fail)); (all_goals try (first | refine au ?_ | fail))
  all_goals (conv => whnf)
  all_goals exact ⟨congrArg AV.bool (by first | exact (decide_eq_true (by omega)).symm | exact (decide_eq_false (by omega)).symm | exact decide_eq_decide.2 (by omega)), rfl⟩
theorem token_blank_spec (c : UInt8) (H : AH) : ACalls PG token_blank.n [u8A c] H fun r H' => r = .bool (blnk c) ∧ H' = H := by
  rw [bool_iff (blnk_iff c)]
  refine token_blank.of rfl (wpF_start ?_)
  (repeat' (first | (refine au ?_; first | refine bsplit_dec (fun _ => ?_) (fun _ => ?_) | refine bsplit_intro (fun _ => ?_) (fun _ => ?_)) | exact au0 | fail)); (all_goals try (first | refine au ?_ | fail))
  all_goals (conv => whnf)
  all_goals exact ⟨congrArg AV.bool (by first | exact (decide_eq_true (by omega)).symm | exact (decide_eq_false (by omega)).symm | exact decide_eq_decide.2 (by omega)), rfl⟩
def lx (s : List UInt8) (at' : Nat) : Blk := .rows 2 [[.str s, .int .i64 (at' : Nat)]]
theorem lexer_rest_spec {s : List UInt8} {at' id : Nat} {H : AH} (hg : hget H id = some (lx s at')) (ha : at' ≤ s.length) (hs : s.length ≤ 140737488351232) :
    ACalls PG token_lexer_rest.n [.ptr id 2 0 0] H fun r H' => r = .str (s.drop at') ∧ H' = H := by
  unfold lx at hg
  refine token_lexer_rest.of rfl (wpF_start ?_)
  (first | refine ah ?_ | exact ah0)
  exact ⟨by simp, rfl⟩
theorem lexer_cut_spec {s : List UInt8} {at' id n : Nat} {k : Int} {H : AH} (hg : hget H id = some (lx s at')) (ha : at' + n ≤ s.length) (hs : s.length ≤ 140737488351232) :
    ACalls PG token_lexer_cut.n [.ptr id 2 0 0, .int .i64 k, .int .i64 n] H fun r H' => r = .agg [.int .i64 k, .str ((s.drop at').take n), .int .u64 0, .int .i64 at'] ∧ H' = hset H id (lx s (at' + n)) := by
  have hg0 := hg
  unfold lx at hg0
  refine ACalls.sub (token_lexer_cut.of rfl (wpF_start ?_))
  (first | refine ah ?_ | exact ah0)
  intro id6 hid6 ht6
  have n6 : id6 ≠ id := hget_ne_of hid6 hg
  (first | refine ah ?_ | exact ah0)
  have hdl : (s.drop at').length = s.length - at' := List.length_drop
  refine callG_eq rfl (lexer_rest_spec ((hget_tail n6).trans hg) (by omega) hs) ?_
  (first | refine ah ?_ | exact ah0)
  intro id7 hid7 ht7
  have n7 : id7 ≠ id := hget_ne_of (hget_fresh hid7).2 hg
  have n76 : id7 ≠ id6 := (hget_fresh hid7).1
  (first | refine ah ?_ | exact ah0)
  exact Sub.cons (Sub.cons (Sub.refl _) ((hget_set_ne n6).trans hid6)) ((hget_tail n76.symm).trans ((hget_set_ne n7).trans (hget_fresh hid7).2))
theorem kinds1_spec (c : UInt8) (H : AH) : ACalls PG token_kinds_1.n [u8A c] H fun r H' => r = .bool (ltr c) ∧ H' = H := by
  refine token_kinds_1.of rfl (wpF_start ?_)
  (first | refine ah ?_ | exact ah0)
  refine ⟨_, _, rfl, (show bytesA [[u8A c]] = some [c] from by simp [bytesA]; have := c.toNat_lt; omega), ?_⟩
  (first | refine ah ?_ | exact ah0)
  refine callF_eq (name_Lead_spec [c] (by simp) _) ?_
  (first | refine ah ?_ | exact ah0)
  refine ⟨congrArg AV.bool ?_, rfl⟩
  rw [nl_cons]
  cases ltr c <;> simp
theorem kinds2_spec (c : UInt8) (H : AH) : ACalls PG token_kinds_2.n [u8A c] H fun r H' => r = .bool (decide (c = 39)) ∧ H' = H := by
  refine token_kinds_2.of rfl (wpF_start ?_)
  (first | refine ah ?_ | exact ah0)
  exact ⟨congrArg AV.bool (decide_eq_decide.2 (u8lit c 39 (by decide))), rfl⟩
theorem kinds3_spec (c : UInt8) (H : AH) : ACalls PG token_kinds_3.n [u8A c] H fun r H' => r = .bool (decide (c = 37)) ∧ H' = H := by
  refine token_kinds_3.of rfl (wpF_start ?_)
  (first | refine ah ?_ | exact ah0)
  exact ⟨congrArg AV.bool (decide_eq_decide.2 (u8lit c 37 (by decide))), rfl⟩
theorem kinds4_spec (c : UInt8) (H : AH) : ACalls PG token_kinds_4.n [u8A c] H fun r H' => r = .bool (sgn c) ∧ H' = H := by
  refine token_kinds_4.of rfl (wpF_start ?_)
  (first | refine ah ?_ | exact ah0)
  refine callF_eq (strings_IndexByte_spec _ c _) ?_
  (first | refine ah ?_ | exact ah0)
  exact ⟨congrArg AV.bool (bool_iff (indexByte_in _ c).symm).symm, rfl⟩
theorem stringslite_HasPrefix_spec (s p : List UInt8) (H : AH) : ACalls PG stringslite_HasPrefix.n [.str s, .str p] H fun r H' => r = .bool (decide (p.length ≤ s.length) && decide (s.take p.length = p)) ∧ H' = H := by
  refine stringslite_HasPrefix.of rfl (wpF_start ?_)
  (first | refine ah ?_ | exact ah0)
  refine bsplit_dec (fun h => ?_) (fun h => ?_)
  · (first | refine ah ?_ | exact ah0)
    exact ⟨by rw [decide_eq_true (show p.length ≤ s.length from by omega)]; simp, rfl⟩
  · (first | refine ah ?_ | exact ah0)
    exact ⟨by rw [decide_eq_false (show ¬ p.length ≤ s.length from by omega)]; simp, rfl⟩
theorem strings_HasPrefix_spec (s p : List UInt8) (H : AH) : ACalls PG strings_HasPrefix.n [.str s, .str p] H fun r H' => r = .bool (decide (p.length ≤ s.length) && decide (s.take p.length = p)) ∧ H' = H := by
  refine strings_HasPrefix.of rfl (wpF_start ?_)
  (first | refine ah ?_ | exact ah0)
  refine callF_eq (stringslite_HasPrefix_spec s p _) ?_
  (first | refine ah ?_ | exact ah0)
end Go.Proofs.YtjaigpidmngaaaaGreat

namespace Go.Proofs.YtjaigpidmngaaaaGreat
attribute [local irreducible] callA callP ACalls
theorem callF_to {P : Program} {f : Nat} {args : List AV} {H H1 : AH} {K : AV → AH → Prop} {r : AV} (h : ACalls P f args H fun r' H' => r' = r ∧ H' = H1) (k : K r H1) : callF P f args H K :=
  callF_of (h.mono fun r' H' ⟨a, b⟩ => by rw [a, b]; exact k)
abbrev tyBld : Nat := ty_strings_Builder
abbrev tyU8 : Nat := ty_uint8
def byteRow (l : List UInt8) : List (List AV) := l.map fun c => [u8A c]
theorem byteRow_len (l : List UInt8) : (byteRow l).length = l.length := by simp [byteRow]
theorem byteRow_bytes (l : List UInt8) : bytesA (byteRow l) = some l := by
  induction l with
  | nil => rfl
  | cons c l ih =>
    have hc := c.toNat_lt
    show bytesA ([u8A c] :: byteRow l) = _
    unfold bytesA
    rw [if_pos (by omega), ih]
    simp
structure Bld (H : AH) (id : Nat) (ob : Option Nat) (l : List UInt8) : Prop where
  tg : tag id = tyBld
  blk : ∃ p v, hget H id = some (.rows 2 [[p, v]]) ∧ (p = .nilP ∨ p = .ptr id 2 0 0) ∧
    ((ob = none ∧ v = .nilS ∧ l = []) ∨ ∃ idb, ob = some idb ∧ v = .own idb 1 0 l.length ∧ hget H idb = some (.rows 1 (byteRow l)) ∧ tag idb = tyU8 ∧ idb ≠ id ∧ 0 < l.length)
theorem copyCheck_spec {id : Nat} {H : AH} {p v : AV} (hg : hget H id = some (.rows 2 [[p, v]])) (hp : p = .nilP ∨ p = .ptr id 2 0 0) (ht : tag id = tyBld) :
    ACalls PG strings_Builder_copyCheck.n [.ptr id 2 0 0] H fun r H' => r = .tup [] ∧ H' = hset H id (.rows 2 [[.ptr id 2 0 0, v]]) := by
  refine ACalls.sub (strings_Builder_copyCheck.of rfl (wpF_start ?_))
  rcases hp with rfl | rfl
  · (first | refine ah ?_ | exact ah0)
    refine ⟨⟨rfl, by simp⟩, rfl, ?_⟩
    (first | refine ah ?_ | exact ah0)
    exact Sub.refl _
  · (first | refine ah ?_ | exact ah0)
    exact sub_hset hg (fun j c _ q => q)
theorem readS_own {H : AH} {id sz lo hi : Nat} {l : List (List AV)} (hg : hget H id = some (.rows sz l)) (h : hi ≤ l.length) : readS H false sz (.own id sz lo hi) = some ((l.take hi).drop lo) := by
  simp [readS, hg, h]
theorem WriteByte_spec {id : Nat} {ob : Option Nat} {l : List UInt8} {c : UInt8} {H : AH} (hb : Bld H id ob l) (hl : l.length ≤ 140737488351232) :
    ACalls PG strings_Builder_WriteByte.n [.ptr id 2 0 0, u8A c] H fun r H' => r = .nilI ∧ ∃ idb, Bld H' id (some idb) (l ++ [c]) ∧ (hget H idb = none ∨ ob = some idb) ∧ ∀ j b, j ≠ id → ob ≠ some j → hget H j = some b → hget H' j = some b := by
  obtain ⟨ht, p, v, hg, hp, hv⟩ := hb
  refine strings_Builder_WriteByte.of rfl (wpF_start ?_)
  (first | refine ah ?_ | exact ah0)
  refine callF_to (copyCheck_spec hg hp ht) ?_
  have hg1 : hget (hset H id (.rows 2 [[.ptr id 2 0 0, v]])) id = some (.rows 2 [[.ptr id 2 0 0, v]]) := hget_set hg
  have hk1 : ∀ j b, j ≠ id → hget H j = some b → hget (hset H id (.rows 2 [[.ptr id 2 0 0, v]])) j = some b := fun j b q r => (hget_set_ne q).trans r
  have hf1 : ∀ j, j ≠ id → hget (hset H id (.rows 2 [[.ptr id 2 0 0, v]])) j = none → hget H j = none := fun j q r => (hget_set_ne q).symm.trans r
  generalize hset H id (.rows 2 [[.ptr id 2 0 0, v]]) = H1 at *
  rcases hv with ⟨rfl, rfl, rfl⟩ | ⟨idb, rfl, rfl, hgb, htb, hne, hpos⟩
  · (first | refine ah ?_ | exact ah0)
    refine ⟨_, rfl, by simp, (fun e => by cases e), fun _ => ?_⟩
    intro idn hidn htn
    have nn : idn ≠ id := hget_ne_of hidn hg1
    (first | refine ah ?_ | exact ah0)
    refine ⟨idn, ⟨ht, .ptr id 2 0 0, .own idn 1 0 1, ?_, .inr rfl, .inr ⟨idn, rfl, rfl, ?_, htn, nn, by simp⟩⟩, .inl (hf1 idn nn hidn), fun j b q _ r => ?_⟩
    · exact (hget_tail nn).trans (hget_set hg1)
    · exact hget_self
    · exact (hget_tail (hget_ne_of hidn (hk1 j b q r))).trans ((hget_set_ne q).trans (hk1 j b q r))
  · have hgb1 := hk1 _ _ hne hgb
    have exs : ((byteRow l).take l.length).drop 0 = byteRow l := by rw [List.drop_zero, ← byteRow_len, List.take_length]
    (first | refine ah ?_ | exact ah0)
    refine ⟨_, _, (readS_own hgb1 (by rw [byteRow_len]; exact Nat.le_refl _)).trans (congrArg some exs), rfl, rfl, rfl, htb, by rw [byteRow_len]; simp; omega, ?_⟩
    intro idn hidn htn
    have nn : idn ≠ id := hget_ne_of hidn hg1
    have nb : idn ≠ idb := hget_ne_of hidn hgb1
    (first | refine ah ?_ | exact ah0)
    have hg2 : hget (hdel H1 idb) id = some (.rows 2 [[.ptr id 2 0 0, .own idb 1 0 l.length]]) := (hget_del_ne hne.symm).trans hg1
    refine ⟨idn, ⟨ht, .ptr id 2 0 0, .own idn 1 0 (l ++ [c]).length, ?_, .inr rfl, .inr ⟨idn, rfl, rfl, ?_, htn, nn, by simp⟩⟩, .inl (hf1 idn nn hidn), fun j b q q2 r => ?_⟩
    · refine (hget_tail nn).trans ((hget_set hg2).trans ?_)
      have : (byteRow l).length + ((List.replicate 1 [AV.int .u8 0]).set 0 (u8A c).cells).length = (l ++ [c]).length := by rw [byteRow_len, List.length_append]; rfl
      rw [← this]; rfl
    · refine hget_self.trans ?_
      simp [byteRow]
      rfl
    · have qb : j ≠ idb := fun e => q2 (by rw [e])
      exact (hget_tail (hget_ne_of hidn (hk1 j b q r))).trans ((hget_set_ne q).trans ((hget_del_ne qb).trans (hk1 j b q r)))
theorem String_spec {id : Nat} {ob : Option Nat} {l : List UInt8} {H : AH} (hb : Bld H id ob l) (hl : l.length ≤ 140737488351232) :
    ACalls PG strings_Builder_String.n [.ptr id 2 0 0] H fun r H' => r = .str l ∧ ∀ j b, ob ≠ some j → hget H j = some b → hget H' j = some b := by
  obtain ⟨ht, p, v, hg, hp, hv⟩ := hb
  refine strings_Builder_String.of rfl (wpF_start ?_)
  rcases hv with ⟨rfl, rfl, rfl⟩ | ⟨idb, rfl, rfl, hgb, htb, hne, hpos⟩
  · (first | refine ah ?_ | exact ah0)
    exact fun j b _ q => q
  · (first | refine ah ?_ | exact ah0)
    refine ⟨_, l, hgb, ?_, rfl, rfl, rfl, by omega, by rw [byteRow_len]; omega, by omega, htb, ?_⟩
    · rw [show (((l.length - 0 : Nat) : Int)).toNat = (byteRow l).length from by rw [byteRow_len]; omega, List.take_length, byteRow_bytes]
    (first | refine ah ?_ | exact ah0)
    exact fun j b q r => (hget_del_ne (fun e => q (by rw [e]))).trans r
end Go.Proofs.YtjaigpidmngaaaaGreat

namespace Go.Proofs.YtjaigpidmngaaaaGreat
attribute [local irreducible] callA callP ACalls
def tokA (k : Int) (t : List UInt8) (num : Int) (at' : Int) : AV := .agg [.int .i64 k, .str t, .int .u64 num, .int .i64 at']
abbrev fltA (e at' : Int) : AV := .agg [.int .i64 e, .int .i64 at']
abbrev tkB (k : Int) (t : List UInt8) (num : Int) (at' : Int) : Blk := .rows 4 [[.int .i64 k, .str t, .int .u64 num, .int .i64 at']]
abbrev flB (e at' : Int) : Blk := .rows 2 [[.int .i64 e, .int .i64 at']]
def Keep (id : Nat) (H H' : AH) : Prop := ∀ j b, j ≠ id → hget H j = some b → hget H' j = some b
structure TkK (s : List UInt8) (at' id : Nat) (H : AH) (R : LR) (r : AV) (H' : AH) : Prop where
  tok : ∀ k t num n, R = .tok k t num n → r = .tup [tokA k t num at', fltA 0 0] ∧ hget H' id = some (lx s (at' + n))
  bad : ∀ e off, R = .bad e off → ∃ k t num a, r = .tup [tokA k t num a, fltA e (at' + off : Nat)]
  keep : Keep id H H'
theorem TkK.of_tok {s : List UInt8} {at' id : Nat} {H : AH} {k : Int} {t : List UInt8} {num n : Nat} {r : AV} {H' : AH} (h : r = .tup [tokA k t num at', fltA 0 0]) (h1 : hget H' id = some (lx s (at' + n))) (h2 : Keep id H H') : TkK s at' id H (.tok k t num n) r H' :=
  ⟨fun k t num n e => by cases e; exact ⟨h, h1⟩, (fun e off q => by cases q), h2⟩
theorem TkK.of_bad {s : List UInt8} {at' id : Nat} {H : AH} {e : Int} {off : Nat} {k num a : Int} {t : List UInt8} {r : AV} {H' : AH} (h : r = .tup [tokA k t num a, fltA e (at' + off : Nat)]) (h2 : Keep id H H') : TkK s at' id H (.bad e off) r H' :=
  ⟨fun k t num n e => (by cases e), (fun e' off' q => by cases q; exact ⟨k, t, num, a, h⟩), h2⟩
structure Two (H H1 : AH) (id id2 id3 : Nat) : Prop where
  n2 : id2 ≠ id
  n3 : id3 ≠ id
  n32 : id3 ≠ id2
  g2 : hget H1 id2 = some (tkB 0 [] 0 0)
  g3 : hget H1 id3 = some (flB 0 0)
  keep : ∀ j b, hget H j = some b → hget H1 j = some b
  new : ∀ j b, hget H j = some b → j ≠ id2 ∧ j ≠ id3
theorem Two.mk' {H : AH} {id id2 id3 : Nat} {b : Blk} (hg : hget H id = some b) (h2 : hget H id2 = none) (h3 : hget ((id2, tkB 0 [] 0 0) :: H) id3 = none) : Two H ((id3, flB 0 0) :: (id2, tkB 0 [] 0 0) :: H) id id2 id3 := by
  obtain ⟨n32, h3'⟩ := hget_fresh h3
  have n2 := hget_ne_of h2 hg
  have n3 := hget_ne_of h3' hg
  refine ⟨n2, n3, n32, (hget_tail n32).trans hget_self, hget_self, fun j b q => ?_, fun j b q => ⟨(hget_ne_of h2 q).symm, (hget_ne_of h3' q).symm⟩⟩
  exact (hget_tail (hget_ne_of h3' q)).trans ((hget_tail (hget_ne_of h2 q)).trans q)
theorem token_word_spec {s : List UInt8} {at' id : Nat} {H : AH} (hg : hget H id = some (lx s at')) (ha : at' ≤ s.length) (hs : s.length ≤ 140737488351232) :
    ACalls PG token_word.n [.ptr id 2 0 0] H (TkK s at' id H (.tok 1 ((s.drop at').take (nl (s.drop at'))) 0 (nl (s.drop at')))) := by
  have hdl : (s.drop at').length = s.length - at' := List.length_drop
  have hnl := nl_le (s.drop at')
  refine token_word.of rfl (wpF_start ?_)
  (first | refine ah ?_ | exact ah0)
  intro id2 hid2 ht2
  (first | refine ah ?_ | exact ah0)
  intro id3 hid3 ht3
  have tw := Two.mk' hg hid2 hid3
  generalize ((id3, Blk.rows [AV.int .i64 0, AV.int .i64 0].length [[AV.int .i64 0, AV.int .i64 0]]) :: (id2, Blk.rows [AV.int .i64 0, AV.str [], AV.int .u64 0, AV.int .i64 0].length [[AV.int .i64 0, AV.str [], AV.int .u64 0, AV.int .i64 0]]) :: H) = H1 at *
  have hg1 := tw.keep _ _ hg
  have hg1' : hget H1 id = some (.rows 2 [[.str s, .int .i64 (at' : Nat)]]) := hg1
  have n2 := tw.n2
  have n3 := tw.n3
  have n32 := tw.n32
  have g2 : hget H1 id2 = some (.rows 4 [[.int .i64 0, .str [], .int .u64 0, .int .i64 0]]) := tw.g2
  have g3 : hget H1 id3 = some (.rows 2 [[.int .i64 0, .int .i64 0]]) := tw.g3
  (first | refine ah ?_ | exact ah0)
  refine callF_eq (lexer_rest_spec hg1 ha hs) ?_
  (first | refine ah ?_ | exact ah0)
  refine callF_eq (name_Lead_spec _ (by omega) _) ?_
  (first | refine ah ?_ | exact ah0)
  refine callF_to (lexer_cut_spec (n := nl (s.drop at')) hg1 (by omega) hs) ?_
  (first | refine ah ?_ | exact ah0)
  refine TkK.of_tok rfl ?_ (fun j b q r => ?_)
  · exact hg_of
  · obtain ⟨q2, q3⟩ := tw.new j b r
    have := tw.keep j b r
    exact hg_of
end Go.Proofs.YtjaigpidmngaaaaGreat
