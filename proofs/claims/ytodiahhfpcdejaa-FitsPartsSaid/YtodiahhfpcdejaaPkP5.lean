/- Texts of this proof, one behind the other: SimAuto, SimSW, SimLoop, NameSpec, PrimSpec, RPrimSpec, TypSpec, TypSpec2, TypSpec3, TypFind, TypItem, TypDeep, RTypSpec, RTypItem. -/
import Derived.Test.YtodiahhfpcdejaaPkP4
/- Steps that are alike everywhere, as arguments that a proof fills in by itself. -/
namespace Go.Proofs.Ytodiahhfpcdejaa
set_option autoImplicit false
set_option linter.unusedVariables false
/-- A fresh block is none of those that are there. -/
def neAll : AH → Nat → Prop
  | [], _ => True
  | (i, _) :: H, j => j ≠ i ∧ neAll H j
theorem neAll_of {H : AH} {j : Nat} (h : hget H j = none) : neAll H j := by
  induction H with
  | nil => trivial
  | cons p H ih =>
    obtain ⟨i, b⟩ := p
    obtain ⟨a, c⟩ := hget_fresh h
    exact ⟨a, ih c⟩
theorem hget_none {H : AH} {j : Nat} (h : neAll H j) : hget H j = none := by
  induction H with
  | nil => rfl
  | cons p H ih =>
    obtain ⟨i, b⟩ := p
    exact (hget_tail (fun e => h.1 e.symm)).trans (ih h.2)
theorem neAll_hset {H : AH} {i j : Nat} {b : Blk} : neAll (hset H i b) j ↔ neAll H j := by
  induction H with
  | nil => exact Iff.rfl
  | cons p H ih =>
    obtain ⟨k, c⟩ := p
    simp only [hset]
    split
    · simp only [neAll]
    · simp only [neAll, ih]
structure Hid (k : Prop) : Prop where
  o : k
theorem hg_of {H : AH} {id : Nat} {b : Option Blk} (h : hget H id = b := by repeat (first | (with_reducible refine Eq.trans hget_self ?_; exact rfl) | with_reducible assumption | (with_reducible refine Eq.trans (hget_tail ?_) ?_; next => first | with_reducible assumption | (apply Ne.symm; with_reducible assumption) | omega) | (with_reducible refine Eq.trans (hget_set ?_) ?_; rotate_left; exact rfl) | (with_reducible refine Eq.trans (hget_set_ne ?_) ?_; next => first | with_reducible assumption | (apply Ne.symm; with_reducible assumption) | omega) | (with_reducible refine Eq.trans (hget_del_ne ?_) ?_; next => first | with_reducible assumption | (apply Ne.symm; with_reducible assumption) | omega) | exact hget_self | assumption | apply hget_set)) : hget H id = b := h
/-- Step until something is to be decided; what is left is k. -/
theorem au {k g : Prop} (h : k) (t : Hid k → g := by intro hk; (repeat ((conv => whnf); first | refine Or.inl ?_ | refine dAuto ?_ | (apply Exists.intro; apply Exists.intro; refine And.intro ?_ ?_; (next => repeat (first | (with_reducible refine Eq.trans hget_self ?_; exact rfl) | with_reducible assumption | (with_reducible refine Eq.trans (hget_tail ?_) ?_; next => first | with_reducible assumption | (apply Ne.symm; with_reducible assumption) | omega) | (with_reducible refine Eq.trans (hget_set ?_) ?_; rotate_left; exact rfl) | (with_reducible refine Eq.trans (hget_set_ne ?_) ?_; next => first | with_reducible assumption | (apply Ne.symm; with_reducible assumption) | omega) | (with_reducible refine Eq.trans (hget_del_ne ?_) ?_; next => first | with_reducible assumption | (apply Ne.symm; with_reducible assumption) | omega) | exact hget_self | assumption | apply hget_set)); refine And.intro (Eq.refl (some _)) ?_) | refine Exists.intro _ (And.intro rfl (And.intro rfl ?_)) | (refine And.intro ?_ ?_; next => first | omega | (dsimp only; omega) | exact rfl | exact Nat.le_of_ble_eq_true rfl | (exact ⟨by omega, by omega⟩) | decide | (simp only [List.length_append, List.length_cons, List.length_nil, List.length_map]; omega)) | (refine rng_i64 ?_ ?_ ?_; (next => first | omega | (dsimp only; omega)); (next => first | omega | (dsimp only; omega))) | (refine rng_u8 ?_ ?_ ?_; (next => first | omega | (dsimp only; omega)); (next => first | omega | (dsimp only; omega))) | (refine rng_u64 ?_ ?_ ?_; (next => first | omega | (dsimp only; omega)); (next => first | omega | (dsimp only; omega))) | (refine rng_quo_u64 ?_ ?_ ?_ ?_; (next => first | omega | (dsimp only; omega)); (next => first | omega | (dsimp only; omega)); (next => first | omega | (dsimp only; omega))) | (refine rng_quo_i64 ?_ ?_ ?_ ?_; (next => first | omega | (dsimp only; omega)); (next => first | omega | (dsimp only; omega)); (next => first | omega | (dsimp only; omega))) | (refine rng_rem_u64 ?_ ?_ ?_ ?_; (next => first | omega | (dsimp only; omega)); (next => first | omega | (dsimp only; omega)); (next => first | omega | (dsimp only; omega))) | (refine rng_rem_i64 ?_ ?_ ?_ ?_; (next => first | omega | (dsimp only; omega)); (next => first | omega | (dsimp only; omega)); (next => first | omega | (dsimp only; omega))) | refine bsplit_tt ?_ | refine bsplit_ff ?_ | refine bsplit_not ?_ | (refine bsplit_pos ?_ ?_; (next => first | omega | (dsimp only; omega))) | (refine bsplit_neg ?_ ?_; (next => first | omega | (dsimp only; omega))) | (apply Exists.intro; refine And.intro ?_ ?_; next => repeat (first | (with_reducible refine Eq.trans hget_self ?_; exact rfl) | with_reducible assumption | (with_reducible refine Eq.trans (hget_tail ?_) ?_; next => first | with_reducible assumption | (apply Ne.symm; with_reducible assumption) | omega) | (with_reducible refine Eq.trans (hget_set ?_) ?_; rotate_left; exact rfl) | (with_reducible refine Eq.trans (hget_set_ne ?_) ?_; next => first | with_reducible assumption | (apply Ne.symm; with_reducible assumption) | omega) | (with_reducible refine Eq.trans (hget_del_ne ?_) ?_; next => first | with_reducible assumption | (apply Ne.symm; with_reducible assumption) | omega) | exact hget_self | assumption | apply hget_set)) | (apply hsetN_of; next => (try simp only [over, List.set_cons_zero, List.set_cons_succ, List.take_zero, List.take_succ_cons, List.take_nil, List.drop_zero, List.drop_succ_cons, List.drop_nil, List.nil_append, List.cons_append, List.append_nil, AV.cells, List.length_cons, List.length_nil, Nat.zero_add, Nat.add_zero, Nat.reduceAdd]); exact rfl) | (refine hdelK_top ?_ ?_; next => first | with_reducible assumption | (refine hget_none ?_; (repeat' apply And.intro) <;> first | omega | exact True.intro | assumption)) | (refine hdelK_down ?_ ?_; next => first | with_reducible assumption | (apply Ne.symm; with_reducible assumption) | omega) | refine hdelK_any ?_ | refine hsetK_top ?_ | (refine hsetK_down ?_ ?_; next => first | with_reducible assumption | (apply Ne.symm; with_reducible assumption) | omega) | refine hsetK_any ?_ )); (conv => whnf); exact hk.o) : g := t ⟨h⟩
theorem au0 {g : Prop} (t : g := by (repeat ((conv => whnf); first | refine Or.inl ?_ | refine dAuto ?_ | (apply Exists.intro; apply Exists.intro; refine And.intro ?_ ?_; (next => repeat (first | (with_reducible refine Eq.trans hget_self ?_; exact rfl) | with_reducible assumption | (with_reducible refine Eq.trans (hget_tail ?_) ?_; next => first | with_reducible assumption | (apply Ne.symm; with_reducible assumption) | omega) | (with_reducible refine Eq.trans (hget_set ?_) ?_; rotate_left; exact rfl) | (with_reducible refine Eq.trans (hget_set_ne ?_) ?_; next => first | with_reducible assumption | (apply Ne.symm; with_reducible assumption) | omega) | (with_reducible refine Eq.trans (hget_del_ne ?_) ?_; next => first | with_reducible assumption | (apply Ne.symm; with_reducible assumption) | omega) | exact hget_self | assumption | apply hget_set)); refine And.intro (Eq.refl (some _)) ?_) | refine Exists.intro _ (And.intro rfl (And.intro rfl ?_)) | (refine And.intro ?_ ?_; next => first | omega | (dsimp only; omega) | exact rfl | exact Nat.le_of_ble_eq_true rfl | (exact ⟨by omega, by omega⟩) | decide | (simp only [List.length_append, List.length_cons, List.length_nil, List.length_map]; omega)) | (refine rng_i64 ?_ ?_ ?_; (next => first | omega | (dsimp only; omega)); (next => first | omega | (dsimp only; omega))) | (refine rng_u8 ?_ ?_ ?_; (next => first | omega | (dsimp only; omega)); (next => first | omega | (dsimp only; omega))) | (refine rng_u64 ?_ ?_ ?_; (next => first | omega | (dsimp only; omega)); (next => first | omega | (dsimp only; omega))) | (refine rng_quo_u64 ?_ ?_ ?_ ?_; (next => first | omega | (dsimp only; omega)); (next => first | omega | (dsimp only; omega)); (next => first | omega | (dsimp only; omega))) | (refine rng_quo_i64 ?_ ?_ ?_ ?_; (next => first | omega | (dsimp only; omega)); (next => first | omega | (dsimp only; omega)); (next => first | omega | (dsimp only; omega))) | (refine rng_rem_u64 ?_ ?_ ?_ ?_; (next => first | omega | (dsimp only; omega)); (next => first | omega | (dsimp only; omega)); (next => first | omega | (dsimp only; omega))) | (refine rng_rem_i64 ?_ ?_ ?_ ?_; (next => first | omega | (dsimp only; omega)); (next => first | omega | (dsimp only; omega)); (next => first | omega | (dsimp only; omega))) | refine bsplit_tt ?_ | refine bsplit_ff ?_ | refine bsplit_not ?_ | (refine bsplit_pos ?_ ?_; (next => first | omega | (dsimp only; omega))) | (refine bsplit_neg ?_ ?_; (next => first | omega | (dsimp only; omega))) | (apply Exists.intro; refine And.intro ?_ ?_; next => repeat (first | (with_reducible refine Eq.trans hget_self ?_; exact rfl) | with_reducible assumption | (with_reducible refine Eq.trans (hget_tail ?_) ?_; next => first | with_reducible assumption | (apply Ne.symm; with_reducible assumption) | omega) | (with_reducible refine Eq.trans (hget_set ?_) ?_; rotate_left; exact rfl) | (with_reducible refine Eq.trans (hget_set_ne ?_) ?_; next => first | with_reducible assumption | (apply Ne.symm; with_reducible assumption) | omega) | (with_reducible refine Eq.trans (hget_del_ne ?_) ?_; next => first | with_reducible assumption | (apply Ne.symm; with_reducible assumption) | omega) | exact hget_self | assumption | apply hget_set)) | (apply hsetN_of; next => (try simp only [over, List.set_cons_zero, List.set_cons_succ, List.take_zero, List.take_succ_cons, List.take_nil, List.drop_zero, List.drop_succ_cons, List.drop_nil, List.nil_append, List.cons_append, List.append_nil, AV.cells, List.length_cons, List.length_nil, Nat.zero_add, Nat.add_zero, Nat.reduceAdd]); exact rfl) | (refine hdelK_top ?_ ?_; next => first | with_reducible assumption | (refine hget_none ?_; (repeat' apply And.intro) <;> first | omega | exact True.intro | assumption)) | (refine hdelK_down ?_ ?_; next => first | with_reducible assumption | (apply Ne.symm; with_reducible assumption) | omega) | refine hdelK_any ?_ | refine hsetK_top ?_ | (refine hsetK_down ?_ ?_; next => first | with_reducible assumption | (apply Ne.symm; with_reducible assumption) | omega) | refine hsetK_any ?_ )); (conv => whnf); (first | done | fail)) : g := t
theorem ah {k g : Prop} (h : k) (t : Hid k → g := by intro hk; (repeat ((conv => whnf); first | refine Or.inl ?_ | refine dAuto ?_ | (apply Exists.intro; apply Exists.intro; refine And.intro ?_ ?_; (next => repeat (first | (with_reducible refine Eq.trans hget_self ?_; exact rfl) | with_reducible assumption | (with_reducible refine Eq.trans (hget_tail ?_) ?_; next => first | with_reducible assumption | (apply Ne.symm; with_reducible assumption) | omega) | (with_reducible refine Eq.trans (hget_set ?_) ?_; rotate_left; exact rfl) | (with_reducible refine Eq.trans (hget_set_ne ?_) ?_; next => first | with_reducible assumption | (apply Ne.symm; with_reducible assumption) | omega) | (with_reducible refine Eq.trans (hget_del_ne ?_) ?_; next => first | with_reducible assumption | (apply Ne.symm; with_reducible assumption) | omega) | exact hget_self | assumption | apply hget_set)); refine And.intro (Eq.refl (some _)) ?_) | refine Exists.intro _ (And.intro rfl (And.intro rfl ?_)) | (refine And.intro ?_ ?_; next => first | omega | (dsimp only; omega) | exact rfl | exact Nat.le_of_ble_eq_true rfl | (exact ⟨by omega, by omega⟩) | decide | (simp only [List.length_append, List.length_cons, List.length_nil, List.length_map]; omega)) | (refine rng_i64 ?_ ?_ ?_; (next => first | omega | (dsimp only; omega)); (next => first | omega | (dsimp only; omega))) | (refine rng_u8 ?_ ?_ ?_; (next => first | omega | (dsimp only; omega)); (next => first | omega | (dsimp only; omega))) | (refine rng_u64 ?_ ?_ ?_; (next => first | omega | (dsimp only; omega)); (next => first | omega | (dsimp only; omega))) | (refine rng_quo_u64 ?_ ?_ ?_ ?_; (next => first | omega | (dsimp only; omega)); (next => first | omega | (dsimp only; omega)); (next => first | omega | (dsimp only; omega))) | (refine rng_quo_i64 ?_ ?_ ?_ ?_; (next => first | omega | (dsimp only; omega)); (next => first | omega | (dsimp only; omega)); (next => first | omega | (dsimp only; omega))) | (refine rng_rem_u64 ?_ ?_ ?_ ?_; (next => first | omega | (dsimp only; omega)); (next => first | omega | (dsimp only; omega)); (next => first | omega | (dsimp only; omega))) | (refine rng_rem_i64 ?_ ?_ ?_ ?_; (next => first | omega | (dsimp only; omega)); (next => first | omega | (dsimp only; omega)); (next => first | omega | (dsimp only; omega))) | refine bsplit_tt ?_ | refine bsplit_ff ?_ | refine bsplit_not ?_ | (refine bsplit_pos ?_ ?_; (next => first | omega | (dsimp only; omega))) | (refine bsplit_neg ?_ ?_; (next => first | omega | (dsimp only; omega))) | (apply Exists.intro; refine And.intro ?_ ?_; next => repeat (first | (with_reducible refine Eq.trans hget_self ?_; exact rfl) | with_reducible assumption | (with_reducible refine Eq.trans (hget_tail ?_) ?_; next => first | with_reducible assumption | (apply Ne.symm; with_reducible assumption) | omega) | (with_reducible refine Eq.trans (hget_set ?_) ?_; rotate_left; exact rfl) | (with_reducible refine Eq.trans (hget_set_ne ?_) ?_; next => first | with_reducible assumption | (apply Ne.symm; with_reducible assumption) | omega) | (with_reducible refine Eq.trans (hget_del_ne ?_) ?_; next => first | with_reducible assumption | (apply Ne.symm; with_reducible assumption) | omega) | exact hget_self | assumption | apply hget_set)) | (apply hsetN_of; next => (try simp only [over, List.set_cons_zero, List.set_cons_succ, List.take_zero, List.take_succ_cons, List.take_nil, List.drop_zero, List.drop_succ_cons, List.drop_nil, List.nil_append, List.cons_append, List.append_nil, AV.cells, List.length_cons, List.length_nil, Nat.zero_add, Nat.add_zero, Nat.reduceAdd]); exact rfl) | (refine hdelK_top ?_ ?_; next => first | with_reducible assumption | (refine hget_none ?_; (repeat' apply And.intro) <;> first | omega | exact True.intro | assumption)) | (refine hdelK_down ?_ ?_; next => first | with_reducible assumption | (apply Ne.symm; with_reducible assumption) | omega) | refine hdelK_any ?_ | refine hsetK_top ?_ | (refine hsetK_down ?_ ?_; next => first | with_reducible assumption | (apply Ne.symm; with_reducible assumption) | omega) | refine hsetK_any ?_  | rw [hset_self] | rw [hset_tail (by first | with_reducible assumption | (apply Ne.symm; with_reducible assumption) | omega)])); (conv => whnf); exact hk.o) : g := t ⟨h⟩
theorem ah0 {g : Prop} (t : g := by (repeat ((conv => whnf); first | refine Or.inl ?_ | refine dAuto ?_ | (apply Exists.intro; apply Exists.intro; refine And.intro ?_ ?_; (next => repeat (first | (with_reducible refine Eq.trans hget_self ?_; exact rfl) | with_reducible assumption | (with_reducible refine Eq.trans (hget_tail ?_) ?_; next => first | with_reducible assumption | (apply Ne.symm; with_reducible assumption) | omega) | (with_reducible refine Eq.trans (hget_set ?_) ?_; rotate_left; exact rfl) | (with_reducible refine Eq.trans (hget_set_ne ?_) ?_; next => first | with_reducible assumption | (apply Ne.symm; with_reducible assumption) | omega) | (with_reducible refine Eq.trans (hget_del_ne ?_) ?_; next => first | with_reducible assumption | (apply Ne.symm; with_reducible assumption) | omega) | exact hget_self | assumption | apply hget_set)); refine And.intro (Eq.refl (some _)) ?_) | refine Exists.intro _ (And.intro rfl (And.intro rfl ?_)) | (refine And.intro ?_ ?_; next => first | omega | (dsimp only; omega) | exact rfl | exact Nat.le_of_ble_eq_true rfl | (exact ⟨by omega, by omega⟩) | decide | (simp only [List.length_append, List.length_cons, List.length_nil, List.length_map]; omega)) | (refine rng_i64 ?_ ?_ ?_; (next => first | omega | (dsimp only; omega)); (next => first | omega | (dsimp only; omega))) | (refine rng_u8 ?_ ?_ ?_; (next => first | omega | (dsimp only; omega)); (next => first | omega | (dsimp only; omega))) | (refine rng_u64 ?_ ?_ ?_; (next => first | omega | (dsimp only; omega)); (next => first | omega | (dsimp only; omega))) | (refine rng_quo_u64 ?_ ?_ ?_ ?_; (next => first | omega | (dsimp only; omega)); (next => first | omega | (dsimp only; omega)); (next => first | omega | (dsimp only; omega))) | (refine rng_quo_i64 ?_ ?_ ?_ ?_; (next => first | omega | (dsimp only; omega)); (next => first | omega | (dsimp only; omega)); (next => first | omega | (dsimp only; omega))) | (refine rng_rem_u64 ?_ ?_ ?_ ?_; (next => first | omega | (dsimp only; omega)); (next => first | omega | (dsimp only; omega)); (next => first | omega | (dsimp only; omega))) | (refine rng_rem_i64 ?_ ?_ ?_ ?_; (next => first | omega | (dsimp only; omega)); (next => first | omega | (dsimp only; omega)); (next => first | omega | (dsimp only; omega))) | refine bsplit_tt ?_ | refine bsplit_ff ?_ | refine bsplit_not ?_ | (refine bsplit_pos ?_ ?_; (next => first | omega | (dsimp only; omega))) | (refine bsplit_neg ?_ ?_; (next => first | omega | (dsimp only; omega))) | (apply Exists.intro; refine And.intro ?_ ?_; next => repeat (first | (with_reducible refine Eq.trans hget_self ?_; exact rfl) | with_reducible assumption | (with_reducible refine Eq.trans (hget_tail ?_) ?_; next => first | with_reducible assumption | (apply Ne.symm; with_reducible assumption) | omega) | (with_reducible refine Eq.trans (hget_set ?_) ?_; rotate_left; exact rfl) | (with_reducible refine Eq.trans (hget_set_ne ?_) ?_; next => first | with_reducible assumption | (apply Ne.symm; with_reducible assumption) | omega) | (with_reducible refine Eq.trans (hget_del_ne ?_) ?_; next => first | with_reducible assumption | (apply Ne.symm; with_reducible assumption) | omega) | exact hget_self | assumption | apply hget_set)) | (apply hsetN_of; next => (try simp only [over, List.set_cons_zero, List.set_cons_succ, List.take_zero, List.take_succ_cons, List.take_nil, List.drop_zero, List.drop_succ_cons, List.drop_nil, List.nil_append, List.cons_append, List.append_nil, AV.cells, List.length_cons, List.length_nil, Nat.zero_add, Nat.add_zero, Nat.reduceAdd]); exact rfl) | (refine hdelK_top ?_ ?_; next => first | with_reducible assumption | (refine hget_none ?_; (repeat' apply And.intro) <;> first | omega | exact True.intro | assumption)) | (refine hdelK_down ?_ ?_; next => first | with_reducible assumption | (apply Ne.symm; with_reducible assumption) | omega) | refine hdelK_any ?_ | refine hsetK_top ?_ | (refine hsetK_down ?_ ?_; next => first | with_reducible assumption | (apply Ne.symm; with_reducible assumption) | omega) | refine hsetK_any ?_  | rw [hset_self] | rw [hset_tail (by first | with_reducible assumption | (apply Ne.symm; with_reducible assumption) | omega)])); (conv => whnf); (first | done | fail)) : g := t
theorem ac {k g : Prop} (h : k) (t : Hid k → g := by intro hk; (repeat ((conv => whnf); first | (apply Exists.intro; apply Exists.intro; refine And.intro ?_ ?_; (next => repeat (first | (with_reducible refine Eq.trans hget_self ?_; exact rfl) | with_reducible assumption | (with_reducible refine Eq.trans (hget_tail ?_) ?_; next => first | with_reducible assumption | (apply Ne.symm; with_reducible assumption) | omega) | (with_reducible refine Eq.trans (hget_set ?_) ?_; rotate_left; exact rfl) | (with_reducible refine Eq.trans (hget_set_ne ?_) ?_; next => first | with_reducible assumption | (apply Ne.symm; with_reducible assumption) | omega) | (with_reducible refine Eq.trans (hget_del_ne ?_) ?_; next => first | with_reducible assumption | (apply Ne.symm; with_reducible assumption) | omega) | exact hget_self | assumption | apply hget_set)); refine And.intro (Eq.refl (some _)) ?_) | refine Exists.intro _ (And.intro rfl (And.intro rfl ?_)) | (refine And.intro ?_ ?_; next => first | omega | (dsimp only; omega) | exact rfl | exact Nat.le_of_ble_eq_true rfl | (exact ⟨by omega, by omega⟩) | decide | (simp only [List.length_append, List.length_cons, List.length_nil, List.length_map]; omega)) | (refine rng_i64 ?_ ?_ ?_; (next => first | omega | (dsimp only; omega)); (next => first | omega | (dsimp only; omega))) | (refine rng_u8 ?_ ?_ ?_; (next => first | omega | (dsimp only; omega)); (next => first | omega | (dsimp only; omega))) | (refine rng_u64 ?_ ?_ ?_; (next => first | omega | (dsimp only; omega)); (next => first | omega | (dsimp only; omega))) | (refine rng_quo_u64 ?_ ?_ ?_ ?_; (next => first | omega | (dsimp only; omega)); (next => first | omega | (dsimp only; omega)); (next => first | omega | (dsimp only; omega))) | (refine rng_quo_i64 ?_ ?_ ?_ ?_; (next => first | omega | (dsimp only; omega)); (next => first | omega | (dsimp only; omega)); (next => first | omega | (dsimp only; omega))) | (refine rng_rem_u64 ?_ ?_ ?_ ?_; (next => first | omega | (dsimp only; omega)); (next => first | omega | (dsimp only; omega)); (next => first | omega | (dsimp only; omega))) | (refine rng_rem_i64 ?_ ?_ ?_ ?_; (next => first | omega | (dsimp only; omega)); (next => first | omega | (dsimp only; omega)); (next => first | omega | (dsimp only; omega))) | refine bsplit_tt ?_ | refine bsplit_ff ?_ | refine bsplit_not ?_ | (refine bsplit_pos ?_ ?_; (next => first | omega | (dsimp only; omega))) | (refine bsplit_neg ?_ ?_; (next => first | omega | (dsimp only; omega))) | (apply Exists.intro; refine And.intro ?_ ?_; next => repeat (first | (with_reducible refine Eq.trans hget_self ?_; exact rfl) | with_reducible assumption | (with_reducible refine Eq.trans (hget_tail ?_) ?_; next => first | with_reducible assumption | (apply Ne.symm; with_reducible assumption) | omega) | (with_reducible refine Eq.trans (hget_set ?_) ?_; rotate_left; exact rfl) | (with_reducible refine Eq.trans (hget_set_ne ?_) ?_; next => first | with_reducible assumption | (apply Ne.symm; with_reducible assumption) | omega) | (with_reducible refine Eq.trans (hget_del_ne ?_) ?_; next => first | with_reducible assumption | (apply Ne.symm; with_reducible assumption) | omega) | exact hget_self | assumption | apply hget_set)) | (apply hsetN_of; next => (try simp only [over, List.set_cons_zero, List.set_cons_succ, List.take_zero, List.take_succ_cons, List.take_nil, List.drop_zero, List.drop_succ_cons, List.drop_nil, List.nil_append, List.cons_append, List.append_nil, AV.cells, List.length_cons, List.length_nil, Nat.zero_add, Nat.add_zero, Nat.reduceAdd]); exact rfl) | (refine hdelK_top ?_ ?_; next => first | with_reducible assumption | (refine hget_none ?_; (repeat' apply And.intro) <;> first | omega | exact True.intro | assumption)) | (refine hdelK_down ?_ ?_; next => first | with_reducible assumption | (apply Ne.symm; with_reducible assumption) | omega) | refine hdelK_any ?_ | refine hsetK_top ?_ | (refine hsetK_down ?_ ?_; next => first | with_reducible assumption | (apply Ne.symm; with_reducible assumption) | omega) | refine hsetK_any ?_  | rw [hset_self] | rw [hset_tail (by first | with_reducible assumption | (apply Ne.symm; with_reducible assumption) | omega)])); (conv => whnf); exact hk.o) : g := t ⟨h⟩
theorem ac0 {g : Prop} (t : g := by (repeat ((conv => whnf); first | (apply Exists.intro; apply Exists.intro; refine And.intro ?_ ?_; (next => repeat (first | (with_reducible refine Eq.trans hget_self ?_; exact rfl) | with_reducible assumption | (with_reducible refine Eq.trans (hget_tail ?_) ?_; next => first | with_reducible assumption | (apply Ne.symm; with_reducible assumption) | omega) | (with_reducible refine Eq.trans (hget_set ?_) ?_; rotate_left; exact rfl) | (with_reducible refine Eq.trans (hget_set_ne ?_) ?_; next => first | with_reducible assumption | (apply Ne.symm; with_reducible assumption) | omega) | (with_reducible refine Eq.trans (hget_del_ne ?_) ?_; next => first | with_reducible assumption | (apply Ne.symm; with_reducible assumption) | omega) | exact hget_self | assumption | apply hget_set)); refine And.intro (Eq.refl (some _)) ?_) | refine Exists.intro _ (And.intro rfl (And.intro rfl ?_)) | (refine And.intro ?_ ?_; next => first | omega | (dsimp only; omega) | exact rfl | exact Nat.le_of_ble_eq_true rfl | (exact ⟨by omega, by omega⟩) | decide | (simp only [List.length_append, List.length_cons, List.length_nil, List.length_map]; omega)) | (refine rng_i64 ?_ ?_ ?_; (next => first | omega | (dsimp only; omega)); (next => first | omega | (dsimp only; omega))) | (refine rng_u8 ?_ ?_ ?_; (next => first | omega | (dsimp only; omega)); (next => first | omega | (dsimp only; omega))) | (refine rng_u64 ?_ ?_ ?_; (next => first | omega | (dsimp only; omega)); (next => first | omega | (dsimp only; omega))) | (refine rng_quo_u64 ?_ ?_ ?_ ?_; (next => first | omega | (dsimp only; omega)); (next => first | omega | (dsimp only; omega)); (next => first | omega | (dsimp only; omega))) | (refine rng_quo_i64 ?_ ?_ ?_ ?_; (next => first | omega | (dsimp only; omega)); (next => first | omega | (dsimp only; omega)); (next => first | omega | (dsimp only; omega))) | (refine rng_rem_u64 ?_ ?_ ?_ ?_; (next => first | omega | (dsimp only; omega)); (next => first | omega | (dsimp only; omega)); (next => first | omega | (dsimp only; omega))) | (refine rng_rem_i64 ?_ ?_ ?_ ?_; (next => first | omega | (dsimp only; omega)); (next => first | omega | (dsimp only; omega)); (next => first | omega | (dsimp only; omega))) | refine bsplit_tt ?_ | refine bsplit_ff ?_ | refine bsplit_not ?_ | (refine bsplit_pos ?_ ?_; (next => first | omega | (dsimp only; omega))) | (refine bsplit_neg ?_ ?_; (next => first | omega | (dsimp only; omega))) | (apply Exists.intro; refine And.intro ?_ ?_; next => repeat (first | (with_reducible refine Eq.trans hget_self ?_; exact rfl) | with_reducible assumption | (with_reducible refine Eq.trans (hget_tail ?_) ?_; next => first | with_reducible assumption | (apply Ne.symm; with_reducible assumption) | omega) | (with_reducible refine Eq.trans (hget_set ?_) ?_; rotate_left; exact rfl) | (with_reducible refine Eq.trans (hget_set_ne ?_) ?_; next => first | with_reducible assumption | (apply Ne.symm; with_reducible assumption) | omega) | (with_reducible refine Eq.trans (hget_del_ne ?_) ?_; next => first | with_reducible assumption | (apply Ne.symm; with_reducible assumption) | omega) | exact hget_self | assumption | apply hget_set)) | (apply hsetN_of; next => (try simp only [over, List.set_cons_zero, List.set_cons_succ, List.take_zero, List.take_succ_cons, List.take_nil, List.drop_zero, List.drop_succ_cons, List.drop_nil, List.nil_append, List.cons_append, List.append_nil, AV.cells, List.length_cons, List.length_nil, Nat.zero_add, Nat.add_zero, Nat.reduceAdd]); exact rfl) | (refine hdelK_top ?_ ?_; next => first | with_reducible assumption | (refine hget_none ?_; (repeat' apply And.intro) <;> first | omega | exact True.intro | assumption)) | (refine hdelK_down ?_ ?_; next => first | with_reducible assumption | (apply Ne.symm; with_reducible assumption) | omega) | refine hdelK_any ?_ | refine hsetK_top ?_ | (refine hsetK_down ?_ ?_; next => first | with_reducible assumption | (apply Ne.symm; with_reducible assumption) | omega) | refine hsetK_any ?_  | rw [hset_self] | rw [hset_tail (by first | with_reducible assumption | (apply Ne.symm; with_reducible assumption) | omega)])); (conv => whnf); (first | done | fail)) : g := t
theorem ab {k g : Prop} (h : k) (t : Hid k → g := by intro hk; (repeat ((conv => whnf); first | (apply Exists.intro; apply Exists.intro; refine And.intro ?_ ?_; (next => repeat (first | (with_reducible refine Eq.trans hget_self ?_; exact rfl) | with_reducible assumption | (with_reducible refine Eq.trans (hget_tail ?_) ?_; next => first | with_reducible assumption | (apply Ne.symm; with_reducible assumption) | omega) | (with_reducible refine Eq.trans (hget_set ?_) ?_; rotate_left; exact rfl) | (with_reducible refine Eq.trans (hget_set_ne ?_) ?_; next => first | with_reducible assumption | (apply Ne.symm; with_reducible assumption) | omega) | (with_reducible refine Eq.trans (hget_del_ne ?_) ?_; next => first | with_reducible assumption | (apply Ne.symm; with_reducible assumption) | omega) | exact hget_self | assumption | apply hget_set)); refine And.intro (Eq.refl (some _)) ?_) | refine Exists.intro _ (And.intro rfl (And.intro rfl ?_)) | (refine And.intro ?_ ?_; next => first | omega | (dsimp only; omega) | exact rfl | exact Nat.le_of_ble_eq_true rfl | (exact ⟨by omega, by omega⟩) | decide | (simp only [List.length_append, List.length_cons, List.length_nil, List.length_map]; omega)) | (refine rng_i64 ?_ ?_ ?_; (next => first | omega | (dsimp only; omega)); (next => first | omega | (dsimp only; omega))) | (refine rng_u8 ?_ ?_ ?_; (next => first | omega | (dsimp only; omega)); (next => first | omega | (dsimp only; omega))) | (refine rng_u64 ?_ ?_ ?_; (next => first | omega | (dsimp only; omega)); (next => first | omega | (dsimp only; omega))) | (refine rng_quo_u64 ?_ ?_ ?_ ?_; (next => first | omega | (dsimp only; omega)); (next => first | omega | (dsimp only; omega)); (next => first | omega | (dsimp only; omega))) | (refine rng_quo_i64 ?_ ?_ ?_ ?_; (next => first | omega | (dsimp only; omega)); (next => first | omega | (dsimp only; omega)); (next => first | omega | (dsimp only; omega))) | (refine rng_rem_u64 ?_ ?_ ?_ ?_; (next => first | omega | (dsimp only; omega)); (next => first | omega | (dsimp only; omega)); (next => first | omega | (dsimp only; omega))) | (refine rng_rem_i64 ?_ ?_ ?_ ?_; (next => first | omega | (dsimp only; omega)); (next => first | omega | (dsimp only; omega)); (next => first | omega | (dsimp only; omega))) | refine bsplit_tt ?_ | refine bsplit_ff ?_ | refine bsplit_not ?_ | (refine bsplit_pos ?_ ?_; (next => first | omega | (dsimp only; omega))) | (refine bsplit_neg ?_ ?_; (next => first | omega | (dsimp only; omega))) | (apply Exists.intro; refine And.intro ?_ ?_; next => repeat (first | (with_reducible refine Eq.trans hget_self ?_; exact rfl) | with_reducible assumption | (with_reducible refine Eq.trans (hget_tail ?_) ?_; next => first | with_reducible assumption | (apply Ne.symm; with_reducible assumption) | omega) | (with_reducible refine Eq.trans (hget_set ?_) ?_; rotate_left; exact rfl) | (with_reducible refine Eq.trans (hget_set_ne ?_) ?_; next => first | with_reducible assumption | (apply Ne.symm; with_reducible assumption) | omega) | (with_reducible refine Eq.trans (hget_del_ne ?_) ?_; next => first | with_reducible assumption | (apply Ne.symm; with_reducible assumption) | omega) | exact hget_self | assumption | apply hget_set)) | (apply hsetN_of; next => (try simp only [over, List.set_cons_zero, List.set_cons_succ, List.take_zero, List.take_succ_cons, List.take_nil, List.drop_zero, List.drop_succ_cons, List.drop_nil, List.nil_append, List.cons_append, List.append_nil, AV.cells, List.length_cons, List.length_nil, Nat.zero_add, Nat.add_zero, Nat.reduceAdd]); exact rfl) | (refine hdelK_top ?_ ?_; next => first | with_reducible assumption | (refine hget_none ?_; (repeat' apply And.intro) <;> first | omega | exact True.intro | assumption)) | (refine hdelK_down ?_ ?_; next => first | with_reducible assumption | (apply Ne.symm; with_reducible assumption) | omega) | refine hdelK_any ?_ | refine hsetK_top ?_ | (refine hsetK_down ?_ ?_; next => first | with_reducible assumption | (apply Ne.symm; with_reducible assumption) | omega) | refine hsetK_any ?_ )); (conv => whnf); exact hk.o) : g := t ⟨h⟩
theorem ab0 {g : Prop} (t : g := by (repeat ((conv => whnf); first | (apply Exists.intro; apply Exists.intro; refine And.intro ?_ ?_; (next => repeat (first | (with_reducible refine Eq.trans hget_self ?_; exact rfl) | with_reducible assumption | (with_reducible refine Eq.trans (hget_tail ?_) ?_; next => first | with_reducible assumption | (apply Ne.symm; with_reducible assumption) | omega) | (with_reducible refine Eq.trans (hget_set ?_) ?_; rotate_left; exact rfl) | (with_reducible refine Eq.trans (hget_set_ne ?_) ?_; next => first | with_reducible assumption | (apply Ne.symm; with_reducible assumption) | omega) | (with_reducible refine Eq.trans (hget_del_ne ?_) ?_; next => first | with_reducible assumption | (apply Ne.symm; with_reducible assumption) | omega) | exact hget_self | assumption | apply hget_set)); refine And.intro (Eq.refl (some _)) ?_) | refine Exists.intro _ (And.intro rfl (And.intro rfl ?_)) | (refine And.intro ?_ ?_; next => first | omega | (dsimp only; omega) | exact rfl | exact Nat.le_of_ble_eq_true rfl | (exact ⟨by omega, by omega⟩) | decide | (simp only [List.length_append, List.length_cons, List.length_nil, List.length_map]; omega)) | (refine rng_i64 ?_ ?_ ?_; (next => first | omega | (dsimp only; omega)); (next => first | omega | (dsimp only; omega))) | (refine rng_u8 ?_ ?_ ?_; (next => first | omega | (dsimp only; omega)); (next => first | omega | (dsimp only; omega))) | (refine rng_u64 ?_ ?_ ?_; (next => first | omega | (dsimp only; omega)); (next => first | omega | (dsimp only; omega))) | (refine rng_quo_u64 ?_ ?_ ?_ ?_; (next => first | omega | (dsimp only; omega)); (next => first | omega | (dsimp only; omega)); (next => first | omega | (dsimp only; omega))) | (refine rng_quo_i64 ?_ ?_ ?_ ?_; (next => first | omega | (dsimp only; omega)); (next => first | omega | (dsimp only; omega)); (next => first | omega | (dsimp only; omega))) | (refine rng_rem_u64 ?_ ?_ ?_ ?_; (next => first | omega | (dsimp only; omega)); (next => first | omega | (dsimp only; omega)); (next => first | omega | (dsimp only; omega))) | (refine rng_rem_i64 ?_ ?_ ?_ ?_; (next => first | omega | (dsimp only; omega)); (next => first | omega | (dsimp only; omega)); (next => first | omega | (dsimp only; omega))) | refine bsplit_tt ?_ | refine bsplit_ff ?_ | refine bsplit_not ?_ | (refine bsplit_pos ?_ ?_; (next => first | omega | (dsimp only; omega))) | (refine bsplit_neg ?_ ?_; (next => first | omega | (dsimp only; omega))) | (apply Exists.intro; refine And.intro ?_ ?_; next => repeat (first | (with_reducible refine Eq.trans hget_self ?_; exact rfl) | with_reducible assumption | (with_reducible refine Eq.trans (hget_tail ?_) ?_; next => first | with_reducible assumption | (apply Ne.symm; with_reducible assumption) | omega) | (with_reducible refine Eq.trans (hget_set ?_) ?_; rotate_left; exact rfl) | (with_reducible refine Eq.trans (hget_set_ne ?_) ?_; next => first | with_reducible assumption | (apply Ne.symm; with_reducible assumption) | omega) | (with_reducible refine Eq.trans (hget_del_ne ?_) ?_; next => first | with_reducible assumption | (apply Ne.symm; with_reducible assumption) | omega) | exact hget_self | assumption | apply hget_set)) | (apply hsetN_of; next => (try simp only [over, List.set_cons_zero, List.set_cons_succ, List.take_zero, List.take_succ_cons, List.take_nil, List.drop_zero, List.drop_succ_cons, List.drop_nil, List.nil_append, List.cons_append, List.append_nil, AV.cells, List.length_cons, List.length_nil, Nat.zero_add, Nat.add_zero, Nat.reduceAdd]); exact rfl) | (refine hdelK_top ?_ ?_; next => first | with_reducible assumption | (refine hget_none ?_; (repeat' apply And.intro) <;> first | omega | exact True.intro | assumption)) | (refine hdelK_down ?_ ?_; next => first | with_reducible assumption | (apply Ne.symm; with_reducible assumption) | omega) | refine hdelK_any ?_ | refine hsetK_top ?_ | (refine hsetK_down ?_ ?_; next => first | with_reducible assumption | (apply Ne.symm; with_reducible assumption) | omega) | refine hsetK_any ?_ )); (conv => whnf); (first | done | fail)) : g := t
end Go.Proofs.Ytodiahhfpcdejaa

/- Functions that write one block; freezing what is handed back. -/
namespace Go.Proofs.Ytodiahhfpcdejaa
set_option autoImplicit false
set_option linter.unusedVariables false
set_option linter.unusedSimpArgs false

theorem Sub.skip {H K : AH} {id : Nat} {b : Blk} (h : Sub K H) (hid : hget H id = none) : Sub K ((id, b) :: H) := fun j c q => by
  have := h j c q
  exact (hget_tail (hget_ne_of hid this)).trans this
theorem Sub.keep {H K : AH} {id : Nat} {b : Blk} (h : Sub K H) : Sub ((id, b) :: K) ((id, b) :: H) := fun j c q => by
  simp only [hget] at q ⊢
  split at q
  · rename_i e; rw [if_pos e]; exact q
  · rename_i e; rw [if_neg e]; exact h _ _ q
theorem Sub.del {K H : AH} {id : Nat} (h : Sub K H) (hid : hget K id = none) : Sub K (hdel H id) := fun j c q => by
  rw [hget_hdel]
  by_cases e : j = id
  · subst e; rw [hid] at q; cases q
  · rw [if_neg e]; exact h _ _ q
theorem Sub.nil (H : AH) : Sub [] H := fun _ _ q => by cases q
theorem Sub.trans {A B C : AH} (h : Sub A B) (k : Sub B C) : Sub A C := fun i b q => k _ _ (h _ _ q)
theorem ACalls.keepSub {P : Program} {f : Nat} {args : List AV} {H : AH} {K : AV → Prop} (h : ACalls P f args H fun r H' => K r ∧ Sub H H') : ACalls P f args H fun r H' => K r ∧ H' = H :=
  h.freeze fun r H' ⟨a, b⟩ => ⟨r, H, b, .refl _, a, rfl⟩
/-- The result, frozen, and what is kept. -/
theorem ACalls.fz {P : Program} {f : Nat} {args : List AV} {H H1 : AH} {v : AV} (h : ACalls P f args H fun r H' => Fz H' H1 r v ∧ Sub H1 H') : ACalls P f args H fun r H' => r = v ∧ H' = H1 :=
  h.freeze fun r H' ⟨a, b⟩ => ⟨v, H1, b, a, rfl, rfl⟩
/-- .. where the result is told by what it says. -/
theorem ACalls.fzE {P : Program} {f : Nat} {args : List AV} {H H1 : AH} {K : AV → Prop} (h : ACalls P f args H fun r H' => ∃ v, Fz H' H1 r v ∧ Sub H1 H' ∧ K v) : ACalls P f args H fun r H' => K r ∧ H' = H1 :=
  h.freeze fun r H' ⟨v, a, b, c⟩ => ⟨v, H1, b, a, c, rfl⟩

/-! ### Freezing, part by part -/
theorem Fz.aggL {H Hc : AH} {cs cs' : List AV} (h : FzL H Hc cs cs') : Fz H Hc (.agg cs) (.agg cs') := .agg cs cs' h.1 h.2
theorem Fz.tupL {H Hc : AH} {cs cs' : List AV} (h : FzL H Hc cs cs') : Fz H Hc (.tup cs) (.tup cs') := .tup cs cs' h.1 h.2
/-- Row by row. -/
def FzR (H Hc : AH) : List (List AV) → List (List AV) → Prop
  | [], [] => True
  | r :: l, r' :: l' => FzL H Hc r r' ∧ FzR H Hc l l'
  | _, _ => False
theorem FzR.spec {H Hc : AH} : ∀ {l l' : List (List AV)}, FzR H Hc l l' → l.length = l'.length ∧ ∀ (i : Nat) r r', l[i]? = some r → l'[i]? = some r' → FzL H Hc r r'
  | [], [], _ => ⟨rfl, fun i r r' q => by simp at q⟩
  | r :: l, [], h => h.elim
  | [], r :: l, h => h.elim
  | r :: l, r' :: l', h => by
    obtain ⟨a, b⟩ := FzR.spec h.2
    refine ⟨by simp [a], fun i x x' q1 q2 => ?_⟩
    cases i with
    | zero => simp at q1 q2; rw [← q1, ← q2]; exact h.1
    | succ i => exact b i x x' (by simpa using q1) (by simpa using q2)
theorem Fz.rowsL {H Hc : AH} {sz : Nat} {l l' : List (List AV)} (h : FzR H Hc l l') : Fz H Hc (.rows sz l) (.rows sz l') :=
  .rows sz l l' h.spec.1 (fun i r r' a b => (h.spec.2 i r r' a b).1) fun i r r' j v v' a b c d => (h.spec.2 i r r' a b).2 j v v' c d
theorem FzL.refl' (H Hc : AH) (l : List AV) : FzL H Hc l l := FzL.refl H Hc l
theorem FzR.refl (H Hc : AH) : ∀ l : List (List AV), FzR H Hc l l
  | [] => trivial
  | r :: l => ⟨FzL.refl H Hc r, FzR.refl H Hc l⟩
theorem FzR.append {H Hc : AH} : ∀ {l l' m m' : List (List AV)}, FzR H Hc l l' → FzR H Hc m m' → FzR H Hc (l ++ m) (l' ++ m')
  | [], [], m, m', _, h => h
  | r :: l, [], m, m', h, _ => h.elim
  | [], r :: l, m, m', h, _ => h.elim
  | r :: l, r' :: l', m, m', h, k => ⟨h.1, h.2.append k⟩
theorem Fz.ownL {H Hc : AH} {id sz : Nat} {l l' : List (List AV)} (hg : hget H id = some (.rows sz l)) (hd : hget Hc id = none) (h : FzR H Hc l l') (hw : ∀ r ∈ l', r.length = sz) : Fz H Hc (.own id sz 0 l.length) (.rows sz l') := by
  refine .own id sz 0 l.length l l' hg hd (Nat.le_refl _) (Nat.zero_le _) (by rw [← h.spec.1]; omega) (fun i r' q => hw r' (List.mem_of_getElem? q)) fun i r r' j v v' q1 q2 q3 q4 => ?_
  rw [Nat.zero_add] at q1
  exact (h.spec.2 i r r' q1 q2).2 j v v' q3 q4

/-- Values that lead to nothing that is owned. -/
inductive Cl : AV → Prop
  | int (k : IntKind) (n : Int) : Cl (.int k n)
  | bool (b : Bool) : Cl (.bool b)
  | str (l : List UInt8) : Cl (.str l)
  | nilS : Cl .nilS
  | nilP : Cl .nilP
  | nilF : Cl .nilF
  | nilI : Cl .nilI
  | emp : Cl .emp
  | agg (cs : List AV) (h : ∀ v ∈ cs, Cl v) : Cl (.agg cs)
  | tup (cs : List AV) (h : ∀ v ∈ cs, Cl v) : Cl (.tup cs)
  | rows (sz : Nat) (l : List (List AV)) (h : ∀ r ∈ l, ∀ v ∈ r, Cl v) : Cl (.rows sz l)
  | fp (cs : List AV) (h : ∀ v ∈ cs, Cl v) : Cl (.fp cs)
theorem Cl.noId {v : AV} (h : Cl v) : NoId v := by
  induction h with
  | int k n => intro h ρ ρ' Z x hr; cases hr; exact .int k n
  | bool b => intro h ρ ρ' Z x hr; cases hr; exact .bool b
  | str l => intro h ρ ρ' Z x hr; cases hr; exact .str l _ (by assumption)
  | nilS => intro h ρ ρ' Z x hr; cases hr; exact .nilS
  | nilP => intro h ρ ρ' Z x hr; cases hr; exact .nilP
  | nilF => intro h ρ ρ' Z x hr; cases hr; exact .nilF
  | nilI => intro h ρ ρ' Z x hr; cases hr; exact .nilI
  | emp => intro h ρ ρ' Z x hr; cases hr; exact .emp _ _
  | agg cs hc ih =>
    intro h ρ ρ' Z x hr
    cases hr with
    | agg _ vs hl h2 h3 => exact .agg cs vs hl h2 fun i v y q1 q2 => ih v (List.mem_of_getElem? q1) _ _ _ _ _ (h3 i v y q1 q2)
  | tup cs hc ih =>
    intro h ρ ρ' Z x hr
    cases hr with
    | tup _ vs hl h3 => exact .tup cs vs hl fun i v y q1 q2 => ih v (List.mem_of_getElem? q1) _ _ _ _ _ (h3 i v y q1 q2)
  | rows sz l hc ih =>
    intro h ρ ρ' Z x hr
    cases hr with
    | rows _ _ b o n c f hn hnc hz hw hcc hm hr => exact .rows sz l b o n c f hn hnc hz hw hcc hm fun i r j v q1 q2 => ih r (List.mem_of_getElem? q1) v (List.mem_of_getElem? q2) _ _ _ _ _ (hr i r j v q1 q2)
    | rowsN _ => exact .rowsN sz
    | rowsE _ a c => exact .rowsE sz a c
  | fp cs hc ih =>
    intro h ρ ρ' Z x hr
    cases hr with
    | fp _ b o f hz hcc hm hr => exact .fp cs b o f hz hcc hm fun i v q => ih v (List.mem_of_getElem? q) _ _ _ _ _ (hr i v q)

/-- A function that writes one block: what it hands back, and what the block holds then; Hs: what it looks at. -/
def SW (P : Program) (f : Nat) (args : List AV) (id : Nat) (b : Blk) (Hs : AH) (r : AV) (b' : Blk) : Prop :=
  ACalls P f args ((id, b) :: Hs) fun r' H' => r' = r ∧ H' = (id, b') :: Hs
theorem SW.frame {P : Program} {f : Nat} {args : List AV} {id : Nat} {b : Blk} {Hs : AH} {r : AV} {b' : Blk} (h : SW P f args id b Hs r b') {H : AH} (hg : hget H id = some b) (hs : Sub Hs H) : ACalls P f args H fun r' H' => r' = r ∧ H' = hset H id b' := by
  have s1 : Sub ((id, b) :: Hs) H := fun j c q => by
    simp only [hget] at q
    split at q
    · rename_i e1; subst e1; rw [← q]; exact hg
    · exact hs _ _ q
  refine ⟨h.1, fun w ρ Z xs g hr => (h.2 w ρ Z xs (g.forget s1) hr).mono fun e w' ⟨x, r', H', ρ', Z', a, g1, c, d, k1, k2⟩ => ?_⟩
  subst k1
  subst k2
  obtain ⟨q1, q2⟩ := g.frame s1 d g1 (HS' := hset H id b') fun j c q => by
    rw [hget_hset] at q
    split at q
    · rename_i e1
      rw [hg] at q
      left
      simp only [hget]
      rw [if_pos e1, ← q]
      rfl
    · rename_i e1
      simp only [hget]
      rw [if_neg e1, if_neg e1]
      cases hh : hget Hs j with
      | none => exact .inr ⟨q, rfl⟩
      | some c' => have := hs _ _ hh; rw [q] at this; exact .inl this.symm
  exact ⟨x, _, _, ρ', Z', a, q1, c, q2, rfl, rfl⟩
theorem SW.call {P : Program} {f : Nat} {args : List AV} {id : Nat} {b : Blk} {Hs : AH} {r : AV} {b' : Blk} (h : SW P f args id b Hs r b') {H : AH} {K : AV → AH → Prop} (hg : hget H id = some b) (hs : Sub Hs H) (k : hsetK H id b' fun H1 => K r H1) : callF P f args H K :=
  callF_of ((h.frame hg hs).mono fun r' H' ⟨a, c⟩ => by rw [a, c]; exact k.out)
theorem SW.draw {P : Program} {f : Nat} {args : List AV} {id : Nat} {b : Blk} {Hs : AH} {r : AV} {b' : Blk} (h : SW P f args id b Hs r b') {H0 D H : AH} {K : AV → AH → AH → Prop} (hD : hget D id = some b) (hs : Sub Hs H0) (hp : NoId r) (hb : BlkN b b') (k : hsetK H id b' fun H1 => K r (hdel D id) H1) : callG P f args H0 D H K :=
  ⟨.inr ⟨id, b, r, b', hD, ⟨hp, hb, Hs, hs, h⟩, k.out⟩⟩

/-! ### Arguments that a proof fills in -/
theorem fz_of {H Hc : AH} {v v' : AV} (h : Fz H Hc v v' := by (repeat' (first | exact Fz.refl _ | exact Fz.nil _ | assumption | refine Fz.aggL ?_ | refine Fz.tupL ?_ | refine FzL.cons ?_ ?_ | exact FzL.nil _ _ | refine Fz.rowsL ?_ | exact trivial | refine And.intro ?_ ?_)); (first | done | fail)) : Fz H Hc v v' := h
theorem sub_of {H Hc : AH} (h : Sub Hc H := by (repeat' (first | exact Sub.refl _ | assumption | exact Sub.nil _ | refine Sub.keep ?_ | refine Sub.skip ?_ (by first | assumption | (refine hget_none ?_; (try simp only [neAll, neAll_hset]); (repeat' apply And.intro) <;> first | omega | trivial | assumption | simp_all)) | refine Sub.del ?_ (by first | assumption | (refine hget_none ?_; (try simp only [neAll, neAll_hset]); (repeat' apply And.intro) <;> first | omega | trivial | assumption | simp_all)))); (first | done | fail)) : Sub Hc H := h
theorem cl_of {v : AV} (h : Cl v := by (repeat' (first | constructor | (intro v hv; simp at hv; done))); (first | done | fail)) : Cl v := h
end Go.Proofs.Ytodiahhfpcdejaa

/- Loops: the frame is the one in which they begin, with what changes laid over it. -/
namespace Go.Proofs.Ytodiahhfpcdejaa
set_option autoImplicit false
set_option linter.unusedVariables false
noncomputable def app (E L : FL) : FL := @List.rec (Nat × Option AV) (fun _ => FL) L (fun p _ ih => p :: ih) E
/-- A loop's invariant: a state, what changes of the frame, what is owned, the measure, what holds. -/
structure LI {S : Type} (ent : S → FL) (hp : S → AH) (μ : S → Nat) (P : S → Prop) (L0 : FL) (n : Nat) (L : FL) (H : AH) : Prop where
  out : ∃ s, n = μ s ∧ P s ∧ L = app (ent s) L0 ∧ H = hp s
theorem loopS {B : (Nat → FL → AH → Prop) → Nat → FL → AH → Prop} {L0 : FL} {H0 : AH} {S : Type} (ent : S → FL) (hp : S → AH) (μ : S → Nat) (P : S → Prop) (s0 : S) (h0 : P s0)
    (step : ∀ s, P s → B (LI ent hp μ P L0) (μ s) (app (ent s) L0) (hp s))
    (hc : coversZ H0 (hp s0) (app (ent s0) L0) L0 := by repeat (first | exact trivial | refine And.intro (Or.inl rfl) ?_ | refine And.intro (Or.inr (Exists.intro _ (And.intro rfl (Fz.refl _)))) ?_ | refine And.intro (Or.inr (Exists.intro _ (And.intro rfl (fz_eq (congrArg (AV.int _) (by omega)))))) ?_ | refine And.intro (Or.inr (Exists.intro _ (And.intro rfl (fz_eq (congrArg (AV.own _ _ _) (by (try dsimp only); (try simp only [List.length_append, List.length_map, List.length_cons, List.length_nil, List.length_take, List.length_set, List.length_replicate]); (try dsimp only); first | done | omega)))))) ?_)) (hs : Sub (hp s0) H0 := by exact sub_of) :
    ∃ I : Nat → FL → AH → Prop, WeakF (fun M Hk => ∃ n, I n M Hk) L0 H0 ∧ ∀ n L H, I n L H → B I n L H :=
  ⟨LI ent hp μ P L0, ⟨_, _, hc, hs, _, ⟨s0, rfl, h0, rfl, rfl⟩⟩, by rintro n L H ⟨s, rfl, h, rfl, rfl⟩; exact step s h⟩
theorem nextS {S : Type} {ent : S → FL} {hp : S → AH} {μ : S → Nat} {P : S → Prop} {L0 L : FL} {H : AH} {n : Nat} (s : S)
    (hc : coversZ H (hp s) (app (ent s) L0) L) (hs : Sub (hp s) H) (hm : μ s < n) (h : P s) :
    ∃ M Hk, coversZ H Hk M L ∧ Sub Hk H ∧ ∃ m, m < n ∧ LI ent hp μ P L0 m M Hk := ⟨_, _, hc, hs, _, hm, ⟨s, rfl, h, rfl, rfl⟩⟩
/-- .. with a smaller frame: what is looked at from here on. -/
theorem loopM {B : (Nat → FL → AH → Prop) → Nat → FL → AH → Prop} {L0 : FL} {H0 : AH} {S : Type} (L1 : FL) (ent : S → FL) (hp : S → AH) (μ : S → Nat) (P : S → Prop) (s0 : S)
    (hc : coversZ H0 (hp s0) (app (ent s0) L1) L0) (hs : Sub (hp s0) H0) (h0 : P s0)
    (step : ∀ s, P s → B (LI ent hp μ P L1) (μ s) (app (ent s) L1) (hp s)) :
    ∃ I : Nat → FL → AH → Prop, WeakF (fun M Hk => ∃ n, I n M Hk) L0 H0 ∧ ∀ n L H, I n L H → B I n L H :=
  ⟨LI ent hp μ P L1, ⟨_, _, hc, hs, _, ⟨s0, rfl, h0, rfl, rfl⟩⟩, by rintro n L H ⟨s, rfl, h, rfl, rfl⟩; exact step s h⟩
theorem loopL {B : (Nat → FL → AH → Prop) → Nat → FL → AH → Prop} {L0 : FL} {H0 : AH} (L1 : FL) (d a N : Nat) (P : Nat → Prop)
    (hc : coversZ H0 H0 ((d, some (.int .i64 (a : Nat))) :: L1) L0) (ha : a ≤ N) (h0 : P a)
    (step : ∀ i, i ≤ N → P i → B (LI (fun i : Nat => [(d, some (.int .i64 (i : Nat)))]) (fun _ => H0) (fun i => N - i) (fun i => i ≤ N ∧ P i) L1) (N - i) ((d, some (.int .i64 (i : Nat))) :: L1) H0) :
    ∃ I : Nat → FL → AH → Prop, WeakF (fun M Hk => ∃ n, I n M Hk) L0 H0 ∧ ∀ n L H, I n L H → B I n L H :=
  loopM (S := Nat) L1 (fun i => [(d, some (.int .i64 (i : Nat)))]) (fun _ => H0) (fun i => N - i) (fun i => i ≤ N ∧ P i) a hc (Sub.refl _) ⟨ha, h0⟩ (fun i h => step i h.1 h.2)
theorem fz_eq {H Hc : AH} {r v : AV} (h : r = v) : Fz H Hc r v := by rw [h]; exact .refl _
/-- .. that counts from a to N, and owns nothing new. -/
theorem loopN {B : (Nat → FL → AH → Prop) → Nat → FL → AH → Prop} {L0 : FL} {H0 : AH} (d a N : Nat) (P : Nat → Prop) (ha : a ≤ N) (h0 : P a)
    (step : ∀ i, i ≤ N → P i → B (LI (fun i : Nat => [(d, some (.int .i64 (i : Nat)))]) (fun _ => H0) (fun i => N - i) (fun i => i ≤ N ∧ P i) L0) (N - i) ((d, some (.int .i64 (i : Nat))) :: L0) H0)
    (hc : coversZ H0 H0 ((d, some (.int .i64 (a : Nat))) :: L0) L0 := by repeat (first | exact trivial | refine And.intro (Or.inl rfl) ?_ | refine And.intro (Or.inr (Exists.intro _ (And.intro rfl (Fz.refl _)))) ?_ | refine And.intro (Or.inr (Exists.intro _ (And.intro rfl (fz_eq (congrArg (AV.int _) (by omega)))))) ?_ | refine And.intro (Or.inr (Exists.intro _ (And.intro rfl (fz_eq (congrArg (AV.own _ _ _) (by (try dsimp only); (try simp only [List.length_append, List.length_map, List.length_cons, List.length_nil, List.length_take, List.length_set, List.length_replicate]); (try dsimp only); first | done | omega)))))) ?_)) :
    ∃ I : Nat → FL → AH → Prop, WeakF (fun M Hk => ∃ n, I n M Hk) L0 H0 ∧ ∀ n L H, I n L H → B I n L H :=
  loopS (S := Nat) (fun i => [(d, some (.int .i64 (i : Nat)))]) (fun _ => H0) (fun i => N - i) (fun i => i ≤ N ∧ P i) a ⟨ha, h0⟩ (fun i h => step i h.1 h.2) hc (Sub.refl _)
theorem nextN {d N i : Nat} {P : Nat → Prop} {H0 H : AH} {L0 L : FL} (hc : coversZ H H0 ((d, some (.int .i64 ((i + 1 : Nat) : Int))) :: L0) L) (hs : Sub H0 H) (h1 : i < N) (h2 : P (i + 1)) :
    ∃ M Hk, coversZ H Hk M L ∧ Sub Hk H ∧ ∃ m, m < N - i ∧ LI (fun i : Nat => [(d, some (.int .i64 (i : Nat)))]) (fun _ => H0) (fun i => N - i) (fun i => i ≤ N ∧ P i) L0 m M Hk :=
  nextS (S := Nat) (ent := fun i => [(d, some (.int .i64 (i : Nat)))]) (hp := fun _ => H0) (i + 1) hc hs (by show N - (i + 1) < N - i; omega) ⟨h1, h2⟩
theorem ACalls.fzK {P : Program} {f : Nat} {args : List AV} {H : AH} {v : AV} (h : ACalls P f args H fun r H' => Fz H' [] r v) : ACalls P f args H fun r _ => r = v :=
  h.freeze fun r H' a => ⟨v, [], Sub.nil _, a, rfl⟩
/-- Where ways meet: one frame, and what is known there. -/
structure JP (M : FL) (Hk : AH) (P : Prop) (L : FL) (H : AH) : Prop where
  l : L = M
  h : H = Hk
  p : P
theorem joinP {X Y : Prop} {F : (FL → AH → Prop) → Prop} {G : FL → AH → Prop} (M : FL) (Hk : AH) (P : Prop) (h1 : F (JP M Hk P)) (h2 : P → G M Hk) : (X ∨ ∃ J : FL → AH → Prop, F J ∧ ∀ M Hk, J M Hk → G M Hk) ∨ Y :=
  .inl (.inr ⟨JP M Hk P, h1, fun M' Hk' ⟨a, b, c⟩ => by rw [a, b]; exact h2 c⟩)
theorem metP {M L : FL} {Hk H : AH} {P : Prop} (hc : coversZ H Hk M L) (hs : Sub Hk H) (hp : P) : ∃ M' Hk', coversZ H Hk' M' L ∧ Sub Hk' H ∧ JP M Hk P M' Hk' := ⟨M, Hk, hc, hs, rfl, rfl, hp⟩
/-- A function that writes nothing, where more is owned. -/
theorem ACalls.sup {P : Program} {f : Nat} {args : List AV} {Hs H : AH} {K : AV → Prop} (h : ACalls P f args Hs fun r H' => K r ∧ H' = Hs) (hs : Sub Hs H) : ACalls P f args H fun r H' => K r ∧ H' = H := by
  refine ⟨h.1, fun w ρ Z xs g hr => (h.2 w ρ Z xs (g.forget hs) hr).mono fun e w' ⟨x, r', H', ρ', Z', a, g1, c, d, k1, k2⟩ => ?_⟩
  subst k2
  obtain ⟨q1, q2⟩ := g.frame hs d g1 (HS' := H) fun j c q => by
    cases hh : hget H' j with
    | none => exact .inr ⟨q, rfl⟩
    | some c' => have := hs _ _ hh; rw [q] at this; exact .inl this.symm
  exact ⟨x, _, _, ρ', Z', a, q1, c, q2, k1, rfl⟩
/-- A list that is built: nil, or owned. -/
def accV (o : Option Nat) (sz n : Nat) : AV := match o with
  | none => .nilS
  | some id => .own id sz 0 n
def accH (o : Option Nat) (sz : Nat) (l : List (List AV)) (H : AH) : AH := match o with
  | none => H
  | some id => (id, .rows sz l) :: H
theorem accFz {o : Option Nat} {sz n : Nat} {l l' : List (List AV)} {H Hc : AH} (hn : n = l.length) (h0 : o = none → l = []) (hd : ∀ id, o = some id → hget Hc id = none) (h : FzR (accH o sz l H) Hc l l') (hw : ∀ r ∈ l', r.length = sz) : Fz (accH o sz l H) Hc (accV o sz n) (.rows sz l') := by
  subst hn
  cases o with
  | none =>
    have := h0 rfl; subst this
    have : l' = [] := List.eq_nil_of_length_eq_zero h.spec.1.symm
    subst this; exact .nil sz
  | some id => exact Fz.ownL hget_self (hd id rfl) h hw
theorem map_w {α : Type} {f : α → List AV} {sz : Nat} (h : ∀ x, (f x).length = sz) (l : List α) : ∀ r ∈ l.map f, r.length = sz := fun r hr => by
  obtain ⟨x, _, rfl⟩ := List.mem_map.1 hr; exact h x
theorem take_map_succ {α β : Type} (f : α → β) (l : List α) (i : Nat) (h : i < l.length) : (l.take (i + 1)).map f = (l.take i).map f ++ [f l[i]] := by
  simp only [List.take_add_one, List.map_append, List.getElem?_eq_getElem h, Option.toList_some, List.map_cons, List.map_nil]
/-- A list's rows, by what they stand for. -/
theorem row_get {α : Type} {f : α → List AV} {l : List α} {i : Nat} (h : i < l.length) : (l.map f).getD (Int.toNat (i : Nat)) [] = f l[i] := by
  rw [Int.toNat_natCast]; simp [List.getD, h]
theorem readS_all {H : AH} {id sz n : Nat} {l : List (List AV)} (hg : hget H id = some (.rows sz l)) (h : n = l.length) : readS H false sz (.own id sz 0 n) = some l := by
  simp [readS, hg, h]
theorem cast_max (a b : Nat) : ((max a b : Nat) : Int) = max (a : Int) (b : Int) := by omega
theorem cast_min (a b : Nat) : ((min a b : Nat) : Int) = min (a : Int) (b : Int) := by omega
end Go.Proofs.Ytodiahhfpcdejaa

/- Names, walked. -/
namespace Go.Proofs.Ytodiahhfpcdejaa
set_option autoImplicit false
set_option linter.unusedSimpArgs false
set_option linter.unusedVariables false
--HSET
attribute [local irreducible] callA callP ACalls
abbrev u8A (c : UInt8) : AV := .int .u8 (c.toNat : Nat)
theorem u8lit (c : UInt8) (n : Nat) (hn : n < 256) : ((c.toNat : Nat) : Int) = (n : Int) ↔ c = UInt8.ofNat n := by
  rw [Int.ofNat_inj]
  constructor
  · intro h; apply UInt8.toNat.inj; rw [h, UInt8.toNat_ofNat']; omega
  · intro h; rw [h, UInt8.toNat_ofNat']; omega
theorem dig_iff (c : UInt8) : dig c = true ↔ 48 ≤ c.toNat ∧ c.toNat ≤ 57 := by simp [dig]
theorem ltr_iff (c : UInt8) : ltr c = true ↔ (97 ≤ c.toNat ∧ c.toNat ≤ 122) ∨ (65 ≤ c.toNat ∧ c.toNat ≤ 90) := by simp [ltr]
theorem nat_eq (c : UInt8) (n : Nat) (hn : n < 256) : c = UInt8.ofNat n ↔ c.toNat = n := by
  constructor
  · intro h; rw [h, UInt8.toNat_ofNat']; omega
  · intro h; apply UInt8.toNat.inj; rw [h, UInt8.toNat_ofNat']; omega
theorem nam_iff (c : UInt8) : nam c = true ↔ (48 ≤ c.toNat ∧ c.toNat ≤ 57) ∨ c.toNat = 95 ∨ (97 ≤ c.toNat ∧ c.toNat ≤ 122) ∨ (65 ≤ c.toNat ∧ c.toNat ≤ 90) := by
  simp only [nam, Bool.or_eq_true, dig_iff, ltr_iff, beq_iff_eq]
  rw [show (95 : UInt8) = UInt8.ofNat 95 from rfl, nat_eq c 95 (by decide)]
  omega
theorem blnk_iff (c : UInt8) : blnk c = true ↔ c.toNat = 32 ∨ c.toNat = 9 ∨ c.toNat = 10 ∨ c.toNat = 13 := by
  simp only [blnk, Bool.or_eq_true, beq_iff_eq]
  rw [show (32 : UInt8) = UInt8.ofNat 32 from rfl, show (9 : UInt8) = UInt8.ofNat 9 from rfl, show (10 : UInt8) = UInt8.ofNat 10 from rfl, show (13 : UInt8) = UInt8.ofNat 13 from rfl, nat_eq c 32 (by decide), nat_eq c 9 (by decide), nat_eq c 10 (by decide), nat_eq c 13 (by decide)]
  omega
/-- A Bool by what it says. -/
theorem bool_iff {b : Bool} {p : Prop} [Decidable p] (h : b = true ↔ p) : b = decide p := by
  cases b with
  | true => rw [decide_eq_true (h.1 rfl)]
  | false => rw [decide_eq_false (fun q => by have := h.2 q; cases this)]

theorem name_may_spec (c : UInt8) (first : Bool) (H : AH) : ACalls PG name_may.n [u8A c, .bool first] H fun r H' => r = .bool (if first then ltr c else nam c) ∧ H' = H := by
  refine name_may.of rfl (wpF_start ?_)
  cases first with
  | true =>
    rw [show (if true then ltr c else nam c) = ltr c from rfl, bool_iff (ltr_iff c)]
    (repeat' (first | (refine au ?_; first | refine bsplit_dec (fun _ => ?_) (fun _ => ?_) | refine bsplit_intro (fun _ => ?_) (fun _ => ?_)) | exact au0 | fail)); (all_goals try (first | refine au ?_ | fail))
    all_goals (conv => whnf)
    all_goals exact ⟨congrArg AV.bool (by first | exact (decide_eq_true (by omega)).symm | exact (decide_eq_false (by omega)).symm | exact decide_eq_decide.2 (by omega)), rfl⟩
  | false =>
    rw [show (if false then ltr c else nam c) = nam c from rfl, bool_iff (nam_iff c)]
    (repeat' (first | (refine au ?_; first | refine bsplit_dec (fun _ => ?_) (fun _ => ?_) | refine bsplit_intro (fun _ => ?_) (fun _ => ?_)) | exact au0 | fail)); (all_goals try (first | refine au ?_ | fail))
    all_goals (conv => whnf)
    all_goals exact ⟨congrArg AV.bool (by first | exact (decide_eq_true (by omega)).symm | exact (decide_eq_false (by omega)).symm | exact decide_eq_decide.2 (by omega)), rfl⟩

theorem name_Lead_spec (s : List UInt8) (hs : s.length ≤ 140737488351232) (H : AH) : ACalls PG name_Lead.n [.str s] H fun r H' => r = .int .i64 (nl s : Nat) ∧ H' = H := by
  refine name_Lead.of rfl (wpF_start ?_)
  have hnl := nl_le s
  (first | refine ah ?_ | exact ah0 | fail)
  refine ⟨fun n L H' => ∃ i : Nat, n = s.length - i ∧ i ≤ nl s ∧ L = [(0, some (.str s)), (3, some (.int .i64 i))] ∧ H' = H, ⟨_, H, ?_, Sub.refl _, _, 0, rfl, Nat.zero_le _, rfl, rfl⟩, ?_⟩
  · exact (by repeat (first | exact trivial | refine And.intro (Or.inl rfl) ?_ | refine And.intro (Or.inr (Exists.intro _ (And.intro rfl (Fz.refl _)))) ?_ | refine And.intro (Or.inr (Exists.intro _ (And.intro rfl (fz_eq (congrArg (AV.int _) (by omega)))))) ?_ | refine And.intro (Or.inr (Exists.intro _ (And.intro rfl (fz_eq (congrArg (AV.own _ _ _) (by (try dsimp only); (try simp only [List.length_append, List.length_map, List.length_cons, List.length_nil, List.length_take, List.length_set, List.length_replicate]); (try dsimp only); first | done | omega)))))) ?_))
  · rintro n L H' ⟨i, rfl, hi, rfl, rfl⟩
    (first | refine ah ?_ | exact ah0 | fail)
    refine bsplit_dec (fun h1 => ?_) (fun h1 => ?_)
    · have hst := nl_step hi (by omega)
      (first | refine ah ?_ | exact ah0 | fail)
      refine callF_eq (name_may_spec (s.getD i 0) _ _) ?_
      (first | refine ah ?_ | exact ah0 | fail)
      rw [show (if decide ((i : Int) = 0) = true then ltr (s.getD i 0) else nam (s.getD i 0)) = decide (i < nl s) from by
        rw [show decide (i < nl s) = (if i = 0 then ltr (s.getD 0 0) else nam (s.getD i 0)) from (bool_iff hst.symm).symm]
        by_cases e : i = 0
        · subst e; simp
        · rw [if_neg e, if_neg (by simpa using e)]]
      refine bsplit_dec (fun h2 => ?_) (fun h2 => ?_)
      · (first | refine ah ?_ | exact ah0 | fail)
        refine ⟨[(0, some (.str s)), (3, some (.int .i64 (i + 1 : Nat)))], H', (by repeat (first | exact trivial | refine And.intro (Or.inl rfl) ?_ | refine And.intro (Or.inr (Exists.intro _ (And.intro rfl (Fz.refl _)))) ?_ | refine And.intro (Or.inr (Exists.intro _ (And.intro rfl (fz_eq (congrArg (AV.int _) (by omega)))))) ?_ | refine And.intro (Or.inr (Exists.intro _ (And.intro rfl (fz_eq (congrArg (AV.own _ _ _) (by (try dsimp only); (try simp only [List.length_append, List.length_map, List.length_cons, List.length_nil, List.length_take, List.length_set, List.length_replicate]); (try dsimp only); first | done | omega)))))) ?_)), Sub.refl _, _, ?_, i + 1, rfl, by omega, rfl, rfl⟩
        omega
      · (first | refine ah ?_ | exact ah0 | fail)
        exact ⟨by rw [show i = nl s from by omega], rfl⟩
    · (first | refine ah ?_ | exact ah0 | fail)
      exact ⟨by rw [show i = nl s from by omega], rfl⟩

theorem ref_Digit_spec (c : UInt8) (H : AH) : ACalls PG broadsheetref04_Digit.n [u8A c] H fun r H' => r = .bool (dig c) ∧ H' = H := by
  rw [bool_iff (dig_iff c)]
  refine broadsheetref04_Digit.of rfl (wpF_start ?_)
  (repeat' (first | (refine au ?_; first | refine bsplit_dec (fun _ => ?_) (fun _ => ?_) | refine bsplit_intro (fun _ => ?_) (fun _ => ?_)) | exact au0 | fail)); (all_goals try (first | refine au ?_ | fail))
  all_goals (conv => whnf)
  all_goals exact ⟨congrArg AV.bool (by first | exact (decide_eq_true (by omega)).symm | exact (decide_eq_false (by omega)).symm | exact decide_eq_decide.2 (by omega)), rfl⟩
theorem ref_Letter_spec (c : UInt8) (H : AH) : ACalls PG broadsheetref04_Letter.n [u8A c] H fun r H' => r = .bool (ltr c) ∧ H' = H := by
  rw [bool_iff (ltr_iff c)]
  refine broadsheetref04_Letter.of rfl (wpF_start ?_)
  (repeat' (first | (refine au ?_; first | refine bsplit_dec (fun _ => ?_) (fun _ => ?_) | refine bsplit_intro (fun _ => ?_) (fun _ => ?_)) | exact au0 | fail)); (all_goals try (first | refine au ?_ | fail))
  all_goals (conv => whnf)
  all_goals exact ⟨congrArg AV.bool (by first | exact (decide_eq_true (by omega)).symm | exact (decide_eq_false (by omega)).symm | exact decide_eq_decide.2 (by omega)), rfl⟩

def fmd (s : List UInt8) : Bool := decide (s ≠ []) && ltr (s.getD 0 0) && s.all nam
theorem all_take {f : UInt8 → Bool} (s : List UInt8) (i : Nat) (h : i < s.length) : (s.take (i + 1)).all f = ((s.take i).all f && f (s.getD i 0)) := by
  rw [take_at s 0 i h, List.all_append]; simp
theorem all_ge {f : UInt8 → Bool} {s : List UInt8} {i : Nat} (h : i < s.length) (hf : f (s.getD i 0) = false) : s.all f = false := by
  rw [List.all_eq_false]
  have e : s.getD i 0 = s[i] := by simp [List.getD, h]
  rw [e] at hf
  exact ⟨s[i], List.getElem_mem h, by rw [hf]; decide⟩
theorem ref_formed_spec (s : List UInt8) (hs : s.length ≤ 140737488351232) (H : AH) : ACalls PG broadsheetref04_formed.n [.str s] H fun r H' => r = .bool (fmd s) ∧ H' = H := by
  refine broadsheetref04_formed.of rfl (wpF_start ?_)
  (first | refine ah ?_ | exact ah0 | fail)
  by_cases h0 : s = []
  · subst h0
    (first | refine ah ?_ | exact ah0 | fail)
  · have hl : 0 < s.length := List.length_pos_iff.2 h0
    rw [decide_eq_false h0]
    (first | refine ah ?_ | exact ah0 | fail)
    refine callF_eq (ref_Letter_spec _ _) ?_
    (first | refine ah ?_ | exact ah0 | fail)
    refine bsplit_intro (fun e => ?_) (fun e => ?_)
    · (first | refine ah ?_ | exact ah0 | fail)
      refine ⟨fun n L H' => ∃ i : Nat, n = s.length - i ∧ i ≤ s.length ∧ (s.take i).all nam = true ∧ L = [(0, some (.str s)), (3, some (.int .i64 i))] ∧ H' = H, ⟨_, H, ?_, Sub.refl _, _, 0, rfl, Nat.zero_le _, rfl, rfl, rfl⟩, ?_⟩
      · exact (by repeat (first | exact trivial | refine And.intro (Or.inl rfl) ?_ | refine And.intro (Or.inr (Exists.intro _ (And.intro rfl (Fz.refl _)))) ?_ | refine And.intro (Or.inr (Exists.intro _ (And.intro rfl (fz_eq (congrArg (AV.int _) (by omega)))))) ?_ | refine And.intro (Or.inr (Exists.intro _ (And.intro rfl (fz_eq (congrArg (AV.own _ _ _) (by (try dsimp only); (try simp only [List.length_append, List.length_map, List.length_cons, List.length_nil, List.length_take, List.length_set, List.length_replicate]); (try dsimp only); first | done | omega)))))) ?_))
      · rintro n L H' ⟨i, rfl, hi, ha, rfl, rfl⟩
        (first | refine ah ?_ | exact ah0 | fail)
        refine bsplit_dec (fun h1 => ?_) (fun h1 => ?_)
        · have at1 := all_take (f := nam) s i (by omega)
          (first | refine ah ?_ | exact ah0 | fail)
          refine callF_eq (ref_Letter_spec _ _) ?_
          rw [Int.toNat_natCast]
          have hn := nam_iff (s.getD i 0)
          rw [← dig_iff, ← nat_eq _ 95 (by decide), ← ltr_iff] at hn
          cases hL : ltr (s.getD i 0) with
          | true =>
            (first | refine ah ?_ | exact ah0 | fail)
            refine ⟨[(0, some (.str s)), (3, some (.int .i64 (i + 1 : Nat)))], H', (by repeat (first | exact trivial | refine And.intro (Or.inl rfl) ?_ | refine And.intro (Or.inr (Exists.intro _ (And.intro rfl (Fz.refl _)))) ?_ | refine And.intro (Or.inr (Exists.intro _ (And.intro rfl (fz_eq (congrArg (AV.int _) (by omega)))))) ?_ | refine And.intro (Or.inr (Exists.intro _ (And.intro rfl (fz_eq (congrArg (AV.own _ _ _) (by (try dsimp only); (try simp only [List.length_append, List.length_map, List.length_cons, List.length_nil, List.length_take, List.length_set, List.length_replicate]); (try dsimp only); first | done | omega)))))) ?_)), Sub.refl _, _, ?_, i + 1, rfl, by omega, by rw [at1, ha, hn.2 (.inr (.inr hL))]; rfl, rfl, rfl⟩
            omega
          | false =>
            (first | refine ah ?_ | exact ah0 | fail)
            refine callF_eq (ref_Digit_spec _ _) ?_
            rw [Int.toNat_natCast]
            cases hD : dig (s.getD i 0) with
            | true =>
              (first | refine ah ?_ | exact ah0 | fail)
              refine ⟨[(0, some (.str s)), (3, some (.int .i64 (i + 1 : Nat)))], H', (by repeat (first | exact trivial | refine And.intro (Or.inl rfl) ?_ | refine And.intro (Or.inr (Exists.intro _ (And.intro rfl (Fz.refl _)))) ?_ | refine And.intro (Or.inr (Exists.intro _ (And.intro rfl (fz_eq (congrArg (AV.int _) (by omega)))))) ?_ | refine And.intro (Or.inr (Exists.intro _ (And.intro rfl (fz_eq (congrArg (AV.own _ _ _) (by (try dsimp only); (try simp only [List.length_append, List.length_map, List.length_cons, List.length_nil, List.length_take, List.length_set, List.length_replicate]); (try dsimp only); first | done | omega)))))) ?_)), Sub.refl _, _, ?_, i + 1, rfl, by omega, by rw [at1, ha, hn.2 (.inl hD)]; rfl, rfl, rfl⟩
              omega
            | false =>
              (first | refine ah ?_ | exact ah0 | fail)
              rw [Int.toNat_natCast]
              refine bsplit_dec (fun h2 => ?_) (fun h2 => ?_)
              · (first | refine ah ?_ | exact ah0 | fail)
                refine ⟨congrArg AV.bool ?_, rfl⟩
                have h3 : ¬ s.getD i 0 = UInt8.ofNat 95 := fun e => h2 ((u8lit _ 95 (by decide)).2 e)
                have hf : nam (s.getD i 0) = false := by
                  cases hh : nam (s.getD i 0) with
                  | false => rfl
                  | true =>
                    rcases hn.1 hh with q | q | q
                    · rw [hD] at q; cases q
                    · exact (h3 q).elim
                    · rw [hL] at q; cases q
                unfold fmd
                rw [all_ge (by omega) hf]; simp
              · (first | refine ah ?_ | exact ah0 | fail)
                have h3 : s.getD i 0 = UInt8.ofNat 95 := Classical.byContradiction fun e => h2 (fun q => e ((u8lit _ 95 (by decide)).1 q))
                refine ⟨[(0, some (.str s)), (3, some (.int .i64 (i + 1 : Nat)))], H', (by repeat (first | exact trivial | refine And.intro (Or.inl rfl) ?_ | refine And.intro (Or.inr (Exists.intro _ (And.intro rfl (Fz.refl _)))) ?_ | refine And.intro (Or.inr (Exists.intro _ (And.intro rfl (fz_eq (congrArg (AV.int _) (by omega)))))) ?_ | refine And.intro (Or.inr (Exists.intro _ (And.intro rfl (fz_eq (congrArg (AV.own _ _ _) (by (try dsimp only); (try simp only [List.length_append, List.length_map, List.length_cons, List.length_nil, List.length_take, List.length_set, List.length_replicate]); (try dsimp only); first | done | omega)))))) ?_)), Sub.refl _, _, ?_, i + 1, rfl, by omega, by rw [at1, ha, hn.2 (.inr (.inl h3))]; rfl, rfl, rfl⟩
                omega
        · (first | refine ah ?_ | exact ah0 | fail)
          obtain rfl : i = s.length := by omega
          rw [List.take_length] at ha
          refine ⟨congrArg AV.bool ?_, rfl⟩
          have e : ltr (s.getD 0 0) = true := e
          unfold fmd
          rw [e, ha, decide_eq_true h0]; rfl
    · (first | refine ah ?_ | exact ah0 | fail)
      exact ⟨congrArg AV.bool (by have e : ltr (s.getD 0 0) = false := e; unfold fmd; rw [e]; simp), rfl⟩
def strRow (l : List (List UInt8)) : List (List AV) := l.map fun x => [.str x]
theorem strRow_len (l : List (List UInt8)) : (strRow l).length = l.length := by simp [strRow]
theorem ref_Find_spec (l : List (List UInt8)) (hl : l.length ≤ 1000000) (s : List UInt8) (H : AH) : ACalls PG broadsheetref04_Find.n [.rows 1 (strRow l), .str s] H fun r H' => (∃ v : Int, r = .int .i64 v ∧ (0 ≤ v ↔ l.contains s = true) ∧ -1 ≤ v ∧ v < l.length) ∧ H' = H := by
  refine broadsheetref04_Find.of rfl (wpF_start ?_)
  (first | refine ah ?_ | exact ah0 | fail)
  refine ⟨fun n L H' => ∃ i : Nat, n = l.length - i ∧ i ≤ l.length ∧ (l.take i).contains s = false ∧ L = [(0, some (.rows 1 (strRow l))), (1, some (.str s)), (5, some (.int .i64 i))] ∧ H' = H, ⟨_, H, ?_, Sub.refl _, _, 0, rfl, Nat.zero_le _, rfl, rfl, rfl⟩, ?_⟩
  · exact (by repeat (first | exact trivial | refine And.intro (Or.inl rfl) ?_ | refine And.intro (Or.inr (Exists.intro _ (And.intro rfl (Fz.refl _)))) ?_ | refine And.intro (Or.inr (Exists.intro _ (And.intro rfl (fz_eq (congrArg (AV.int _) (by omega)))))) ?_ | refine And.intro (Or.inr (Exists.intro _ (And.intro rfl (fz_eq (congrArg (AV.own _ _ _) (by (try dsimp only); (try simp only [List.length_append, List.length_map, List.length_cons, List.length_nil, List.length_take, List.length_set, List.length_replicate]); (try dsimp only); first | done | omega)))))) ?_))
  · have hlen := strRow_len l
    rintro n L H' ⟨i, rfl, hi, hc, rfl, rfl⟩
    (first | refine ah ?_ | exact ah0 | fail)
    refine bsplit_dec (fun h1 => ?_) (fun h1 => ?_)
    · have hil : i < l.length := by omega
      have tk := take_at l [] i hil
      have hg : (strRow l).getD (i : Int).toNat [] = [.str (l.getD i [])] := by
        rw [Int.toNat_natCast]; simp [strRow, List.getD, hil]
      (first | refine ah ?_ | exact ah0 | fail)
      rw [hg]
      (first | refine ah ?_ | exact ah0 | fail)
      refine bsplit_dec (fun h2 => ?_) (fun h2 => ?_)
      · (first | refine ah ?_ | exact ah0 | fail)
        refine ⟨⟨_, rfl, ⟨fun _ => ?_, fun _ => by omega⟩, by omega, by omega⟩, rfl⟩
        rw [← List.take_append_drop (i + 1) l, tk, ← h2]
        simp
      · (first | refine ah ?_ | exact ah0 | fail)
        refine ⟨[(0, some (.rows 1 (strRow l))), (1, some (.str s)), (5, some (.int .i64 (i + 1 : Nat)))], H', (by repeat (first | exact trivial | refine And.intro (Or.inl rfl) ?_ | refine And.intro (Or.inr (Exists.intro _ (And.intro rfl (Fz.refl _)))) ?_ | refine And.intro (Or.inr (Exists.intro _ (And.intro rfl (fz_eq (congrArg (AV.int _) (by omega)))))) ?_ | refine And.intro (Or.inr (Exists.intro _ (And.intro rfl (fz_eq (congrArg (AV.own _ _ _) (by (try dsimp only); (try simp only [List.length_append, List.length_map, List.length_cons, List.length_nil, List.length_take, List.length_set, List.length_replicate]); (try dsimp only); first | done | omega)))))) ?_)), Sub.refl _, _, ?_, i + 1, rfl, by omega, ?_, rfl, rfl⟩
        · omega
        · rw [tk]
          simp only [List.contains_eq_mem, List.mem_append, List.mem_singleton] at hc ⊢
          rw [decide_eq_false_iff_not] at hc ⊢
          rintro (q | q)
          · exact hc q
          · exact h2 q.symm
    · (first | refine ah ?_ | exact ah0 | fail)
      obtain rfl : i = l.length := by omega
      rw [List.take_length] at hc
      exact ⟨⟨_, rfl, ⟨fun q => by omega, fun q => by rw [hc] at q; cases q⟩, by omega, by omega⟩, rfl⟩

theorem word_spec (s : List UInt8) (H : AH) : ACalls PG name_Word.n [.str s] H fun r H' => r = .bool (rsv.contains s) ∧ H' = H := by
  refine name_Word.of rfl (wpF_start ?_)
  unfold rsv
  (repeat' (first | (refine au ?_; first | refine bsplit_dec (fun _ => ?_) (fun _ => ?_) | refine bsplit_intro (fun _ => ?_) (fun _ => ?_)) | exact au0 | fail)); (all_goals try (first | refine au ?_ | fail))
  all_goals exact ⟨congrArg AV.bool (by simp_all), rfl⟩
theorem rword_spec (s : List UInt8) (H : AH) : ACalls PG broadsheetref04_Word.n [.str s] H fun r H' => r = .bool (rsv.contains s) ∧ H' = H := by
  refine ACalls.fz (broadsheetref04_Word.of rfl (wpF_start ?_))
  (first | refine ah ?_ | exact ah0 | fail)
  refine callF_of ((ref_Find_spec rsv (by decide) s _).mono fun rr H2 hh => ?_)
  obtain ⟨⟨v, rfl, h1, h2, h3⟩, rfl⟩ := hh
  (first | refine ah ?_ | exact ah0 | fail)
  refine ⟨?_, sub_of⟩
  cases hI : rsv.contains s with
  | true => rw [decide_eq_true (h1.2 hI)]; exact .refl _
  | false => rw [decide_eq_false (fun q => by have := h1.1 q; rw [hI] at this; cases this)]; exact .refl _
end Go.Proofs.Ytodiahhfpcdejaa

/- Plain numbers, walked. -/
namespace Go.Proofs.Ytodiahhfpcdejaa
set_option autoImplicit false
set_option linter.unusedSimpArgs false
set_option linter.unusedVariables false
attribute [local irreducible] callA callP ACalls
theorem kinds9 {k : Int} (h : isNum k = true) : k = 1 ∨ k = 2 ∨ k = 3 ∨ k = 4 ∨ k = 5 ∨ k = 6 ∨ k = 7 ∨ k = 8 ∨ k = 9 := by
  simp only [isNum, decide_eq_true_eq] at h; omega
theorem szK_no {k : Int} (h : isNum k = false) : szK k = 0 ∧ sgK k = false := by
  simp only [isNum, decide_eq_false_iff_not] at h
  unfold szK sgK
  exact ⟨by repeat (rw [if_neg (by omega)]), decide_eq_false (by omega)⟩
theorem szK_num {k : Int} (h : isNum k = true) : szK k = 1 ∨ szK k = 2 ∨ szK k = 4 ∨ szK k = 8 := by
  rcases kinds9 h with rfl | rfl | rfl | rfl | rfl | rfl | rfl | rfl | rfl <;> simp [szK]
theorem prim_Number_spec (k : Int) (H : AH) : ACalls PG prim_Number.n [.int .i64 k] H fun r H' => r = .bool (isNum k) ∧ H' = H := by
  refine ACalls.fz (prim_Number.of rfl (wpF_start ?_))
  unfold isNum
  (repeat' (first | (refine au ?_; first | refine bsplit_dec (fun _ => ?_) (fun _ => ?_) | refine bsplit_intro (fun _ => ?_) (fun _ => ?_)) | exact au0 | fail)); (all_goals try (first | refine au ?_ | fail))
  all_goals exact ⟨fz_eq (congrArg AV.bool (by first | exact (decide_eq_false (by omega)).symm | exact decide_eq_decide.2 (by omega))), sub_of⟩
theorem prim_rows_spec0 (k : Int) : ACalls PG prim_rows.n [.int .i64 k] [] fun r _ => r = .agg [.int .i64 (szK k : Nat), .bool (sgK k)] := by
  refine prim_rows.of rfl (wpF_start ?_)
  (first | refine au ?_ | exact au0 | fail)
  intro id2 hid2 ht2; have n2 := neAll_of hid2; (try simp only [neAll, neAll_hset] at n2); have m2 := n2; (repeat (obtain ⟨_, m2⟩ := m2))
  (first | refine au ?_ | exact au0 | fail)
  intro id3 hid3 ht3; have n3 := neAll_of hid3; (try simp only [neAll, neAll_hset] at n3); have m3 := n3; (repeat (obtain ⟨_, m3⟩ := m3))
  (first | refine au ?_ | exact au0 | fail)
  first | refine callF_eq (prim_Number_spec _ _) ?_ | refine callG_eq rfl (prim_Number_spec _ _) ?_
  (first | refine au ?_ | exact au0 | fail)
  cases h : isNum k with
  | false =>
    rw [(szK_no h).1, (szK_no h).2]
    (first | refine au ?_ | exact au0 | fail)
    rfl
  | true =>
    rcases kinds9 h with rfl | rfl | rfl | rfl | rfl | rfl | rfl | rfl | rfl
    all_goals (first | refine au ?_ | exact au0 | fail)
    all_goals rfl
theorem prim_rows_spec (k : Int) (H : AH) : ACalls PG prim_rows.n [.int .i64 k] H fun r H' => r = .agg [.int .i64 (szK k : Nat), .bool (sgK k)] ∧ H' = H := (prim_rows_spec0 k).frame H
theorem szK_five (k : Int) : szK k = 0 ∨ szK k = 1 ∨ szK k = 2 ∨ szK k = 4 ∨ szK k = 8 := by
  cases h : isNum k with
  | false => exact .inl (szK_no h).1
  | true => exact .inr (szK_num h)
theorem prim_Size_spec (k : Int) (H : AH) : ACalls PG prim_Size.n [.int .i64 k] H fun r H' => r = .int .i64 (szK k : Nat) ∧ H' = H := by
  refine ACalls.fz (prim_Size.of rfl (wpF_start ?_))
  (first | refine au ?_ | exact au0 | fail)
  first | refine callF_eq (prim_rows_spec _ _) ?_ | refine callG_eq rfl (prim_rows_spec _ _) ?_
  (first | refine au ?_ | exact au0 | fail)
  exact ⟨fz_of, sub_of⟩
theorem prim_Signed_spec (k : Int) (H : AH) : ACalls PG prim_Signed.n [.int .i64 k] H fun r H' => r = .bool (sgK k) ∧ H' = H := by
  refine ACalls.fz (prim_Signed.of rfl (wpF_start ?_))
  (first | refine au ?_ | exact au0 | fail)
  first | refine callF_eq (prim_rows_spec _ _) ?_ | refine callG_eq rfl (prim_rows_spec _ _) ?_
  (first | refine au ?_ | exact au0 | fail)
  exact ⟨fz_of, sub_of⟩
theorem wrap_u64 (x : Int) : IntKind.wrap .u64 x = x % 18446744073709551616 := by
  simp only [IntKind.wrap, IntKind.bits, IntKind.signed, Bool.false_and, Bool.false_eq_true, if_false]; omega
theorem wrap_i64 (x : Int) : IntKind.wrap .i64 x = if x % 18446744073709551616 < 9223372036854775808 then x % 18446744073709551616 else x % 18446744073709551616 - 18446744073709551616 := by
  simp only [IntKind.wrap, IntKind.bits, IntKind.signed, Bool.true_and]
  split <;> rename_i h <;> split <;> simp_all <;> omega
theorem low_shift {b : Nat} (hb : b = 1 ∨ b = 2 ∨ b = 4 ∨ b = 8) (n : Nat) : Int.fdiv (IntKind.wrap .u64 ((n : Int) * 2 ^ min (Int.toNat (64 - 8 * (b : Nat))) (IntKind.bits .u64))) (2 ^ min (Int.toNat (64 - 8 * (b : Nat))) (IntKind.bits .u64)) = (lowN b n : Nat) := by
  rw [wrap_u64]
  unfold lowN
  rcases hb with rfl | rfl | rfl | rfl
  · rw [show (2 : Int) ^ min (Int.toNat (64 - 8 * ((1 : Nat) : Int))) (IntKind.bits .u64) = 72057594037927936 from by decide, Int.fdiv_eq_ediv_of_nonneg _ (by decide)]; omega
  · rw [show (2 : Int) ^ min (Int.toNat (64 - 8 * ((2 : Nat) : Int))) (IntKind.bits .u64) = 281474976710656 from by decide, Int.fdiv_eq_ediv_of_nonneg _ (by decide)]; omega
  · rw [show (2 : Int) ^ min (Int.toNat (64 - 8 * ((4 : Nat) : Int))) (IntKind.bits .u64) = 4294967296 from by decide, Int.fdiv_eq_ediv_of_nonneg _ (by decide)]; omega
  · rw [show (2 : Int) ^ min (Int.toNat (64 - 8 * ((8 : Nat) : Int))) (IntKind.bits .u64) = 1 from by decide, Int.fdiv_eq_ediv_of_nonneg _ (by decide)]; omega
theorem sgn_shift {b : Nat} (hb : b = 1 ∨ b = 2 ∨ b = 4 ∨ b = 8) (n : Nat) : Int.fdiv (IntKind.wrap .i64 (IntKind.wrap .u64 ((n : Int) * 2 ^ min (Int.toNat (64 - 8 * (b : Nat))) (IntKind.bits .u64)))) (2 ^ min (Int.toNat (64 - 8 * (b : Nat))) (IntKind.bits .i64)) = sgnI b n := by
  rw [wrap_u64, wrap_i64]
  unfold sgnI lowN
  rw [show IntKind.bits .i64 = IntKind.bits .u64 from rfl]
  rcases hb with rfl | rfl | rfl | rfl
  · rw [show (2 : Int) ^ min (Int.toNat (64 - 8 * ((1 : Nat) : Int))) (IntKind.bits .u64) = 72057594037927936 from by decide, Int.fdiv_eq_ediv_of_nonneg _ (by decide)]; repeat' split <;> omega
  · rw [show (2 : Int) ^ min (Int.toNat (64 - 8 * ((2 : Nat) : Int))) (IntKind.bits .u64) = 281474976710656 from by decide, Int.fdiv_eq_ediv_of_nonneg _ (by decide)]; repeat' split <;> omega
  · rw [show (2 : Int) ^ min (Int.toNat (64 - 8 * ((4 : Nat) : Int))) (IntKind.bits .u64) = 4294967296 from by decide, Int.fdiv_eq_ediv_of_nonneg _ (by decide)]; repeat' split <;> omega
  · rw [show (2 : Int) ^ min (Int.toNat (64 - 8 * ((8 : Nat) : Int))) (IntKind.bits .u64) = 1 from by decide, Int.fdiv_eq_ediv_of_nonneg _ (by decide)]; repeat' split <;> omega
theorem prim_Low_spec (k : Int) (n : Nat) (H : AH) : ACalls PG prim_Low.n [.int .i64 k, .int .u64 (n : Nat)] H fun r H' => r = .int .u64 (lowK k n : Nat) ∧ H' = H := by
  refine ACalls.fz (prim_Low.of rfl (wpF_start ?_))
  (first | refine au ?_ | exact au0 | fail)
  first | refine callF_eq (prim_Size_spec _ _) ?_ | refine callG_eq rfl (prim_Size_spec _ _) ?_
  have h5 := szK_five k
  unfold lowK
  by_cases e : szK k = 0
  · rw [if_pos e, e]
    (first | refine au ?_ | exact au0 | fail)
    exact ⟨fz_of, sub_of⟩
  · rw [if_neg e]
    have hb : szK k = 1 ∨ szK k = 2 ∨ szK k = 4 ∨ szK k = 8 := by omega
    generalize szK k = b at *
    (first | refine au ?_ | exact au0 | fail)
    refine rng_any ?_
    (first | refine au ?_ | exact au0 | fail)
    exact ⟨fz_eq (congrArg (AV.int .u64) (low_shift hb n)), sub_of⟩
theorem word_sized_spec (b : Int) (H : AH) : ACalls PG word_sized.n [.int .i64 b] H fun r H' => r = .bool (decide (b = 1 ∨ b = 2 ∨ b = 4 ∨ b = 8)) ∧ H' = H := by
  refine ACalls.fz (word_sized.of rfl (wpF_start ?_))
  (repeat' (first | (refine au ?_; first | refine bsplit_dec (fun _ => ?_) (fun _ => ?_) | refine bsplit_intro (fun _ => ?_) (fun _ => ?_)) | exact au0 | fail)); (all_goals try (first | refine au ?_ | fail))
  all_goals exact ⟨fz_eq (congrArg AV.bool (by first | exact (decide_eq_true (by omega)).symm | exact decide_eq_decide.2 (by omega))), sub_of⟩
theorem word_Sign_spec (b n : Nat) (hb : b = 1 ∨ b = 2 ∨ b = 4 ∨ b = 8) (H : AH) : ACalls PG word_Sign.n [.int .u64 (n : Nat), .int .i64 (b : Nat)] H fun r H' => r = .int .i64 (sgnI b n) ∧ H' = H := by
  refine ACalls.fz (word_Sign.of rfl (wpF_start ?_))
  (first | refine au ?_ | exact au0 | fail)
  first | refine callF_eq (word_sized_spec _ _) ?_ | refine callG_eq rfl (word_sized_spec _ _) ?_
  rw [decide_eq_true (by omega)]
  (first | refine au ?_ | exact au0 | fail)
  refine rng_any ?_
  (first | refine au ?_ | exact au0 | fail)
  refine rng_any ?_
  (first | refine au ?_ | exact au0 | fail)
  exact ⟨fz_eq (congrArg (AV.int .i64) (sgn_shift hb n)), sub_of⟩
theorem sgnI_range {b : Nat} (hb : b = 1 ∨ b = 2 ∨ b = 4 ∨ b = 8) (n : Nat) : -9223372036854775808 ≤ sgnI b n ∧ sgnI b n ≤ 9223372036854775807 := by
  unfold sgnI lowN
  rcases hb with rfl | rfl | rfl | rfl <;> (split <;> omega)
theorem word_Wide_spec (b n : Nat) (hb : b = 1 ∨ b = 2 ∨ b = 4 ∨ b = 8) (H : AH) : ACalls PG word_Wide.n [.int .u64 (n : Nat), .int .i64 (b : Nat)] H fun r H' => r = .int .u64 (wide (sgnI b n) : Nat) ∧ H' = H := by
  refine ACalls.fz (word_Wide.of rfl (wpF_start ?_))
  (first | refine au ?_ | exact au0 | fail)
  first | refine callF_eq (word_Sign_spec b n hb _) ?_ | refine callG_eq rfl (word_Sign_spec b n hb _) ?_
  (first | refine au ?_ | exact au0 | fail)
  refine rng_any ?_
  (first | refine au ?_ | exact au0 | fail)
  exact ⟨fz_eq (congrArg (AV.int .u64) (by rw [wrap_u64]; unfold wide; omega)), sub_of⟩
theorem sgK_num {k : Int} (h : sgK k = true) : isNum k = true := by
  simp only [sgK, decide_eq_true_eq] at h
  exact decide_eq_true (by omega)
theorem prim_Up_spec (k : Int) (n : Nat) (H : AH) : ACalls PG prim_Up.n [.int .i64 k, .int .u64 (n : Nat)] H fun r H' => r = .int .u64 (upK k n : Nat) ∧ H' = H := by
  refine ACalls.fz (prim_Up.of rfl (wpF_start ?_))
  (first | refine au ?_ | exact au0 | fail)
  first | refine callF_eq (prim_Signed_spec _ _) ?_ | refine callG_eq rfl (prim_Signed_spec _ _) ?_
  unfold upK
  cases h : sgK k with
  | true =>
    have hb := szK_num (sgK_num h)
    (first | refine au ?_ | exact au0 | fail)
    first | refine callF_eq (prim_Size_spec _ _) ?_ | refine callG_eq rfl (prim_Size_spec _ _) ?_
    (first | refine au ?_ | exact au0 | fail)
    first | refine callF_eq (word_Wide_spec _ n hb _) ?_ | refine callG_eq rfl (word_Wide_spec _ n hb _) ?_
    (first | refine au ?_ | exact au0 | fail)
    exact ⟨fz_of, sub_of⟩
  | false =>
    (first | refine au ?_ | exact au0 | fail)
    first | refine callF_eq (prim_Low_spec _ n _) ?_ | refine callG_eq rfl (prim_Low_spec _ n _) ?_
    (first | refine au ?_ | exact au0 | fail)
    exact ⟨fz_of, sub_of⟩
theorem prim_May_spec (k : Int) (n : Nat) (H : AH) : ACalls PG prim_May.n [.int .i64 k, .int .u64 (n : Nat)] H fun r H' => r = .bool (mayK k n) ∧ H' = H := by
  refine ACalls.fz (prim_May.of rfl (wpF_start ?_))
  rw [show mayK k n = decide ((1 ≤ k ∧ k ≤ 9) ∧ upK k n = n ∧ (k ≠ 1 ∨ n ≤ 1)) from by simp [mayK, isNum, Bool.decide_and, Bool.decide_or, Bool.and_assoc]]
  (repeat' (first | (refine au ?_; first | refine callF_eq (prim_Number_spec _ _) ?_ | refine callF_eq (prim_Up_spec _ n _) ?_ | refine bsplit_dec (fun _ => ?_) (fun _ => ?_) | refine bsplit_intro (fun _ => ?_) (fun _ => ?_)) | exact au0 | fail)); (all_goals try (first | refine au ?_ | fail))
  all_goals exact ⟨fz_eq (congrArg AV.bool (by first | exact (decide_eq_true (by omega)).symm | exact (decide_eq_false (by omega)).symm | exact decide_eq_decide.2 (by omega) | rfl)), sub_of⟩
end Go.Proofs.Ytodiahhfpcdejaa

/- Plain numbers in the reference, walked. -/
namespace Go.Proofs.Ytodiahhfpcdejaa
set_option autoImplicit false
set_option linter.unusedSimpArgs false
set_option linter.unusedVariables false
attribute [local irreducible] callA callP ACalls
theorem r5_Number_spec (k : Int) (H : AH) : ACalls PG broadsheetref05_Number.n [.int .i64 k] H fun r H' => r = .bool (isNum k) ∧ H' = H := by
  refine ACalls.fz (broadsheetref05_Number.of rfl (wpF_start ?_))
  unfold isNum
  (repeat' (first | (refine au ?_; first | refine bsplit_dec (fun _ => ?_) (fun _ => ?_) | refine bsplit_intro (fun _ => ?_) (fun _ => ?_)) | exact au0 | fail)); (all_goals try (first | refine au ?_ | fail))
  all_goals exact ⟨fz_eq (congrArg AV.bool (by first | exact (decide_eq_true (by omega)).symm | exact (decide_eq_false (by omega)).symm | exact decide_eq_decide.2 (by omega) | rfl)), sub_of⟩
theorem r5_Signed_spec (k : Int) (H : AH) : ACalls PG broadsheetref05_Signed.n [.int .i64 k] H fun r H' => r = .bool (sgK k) ∧ H' = H := by
  refine ACalls.fz (broadsheetref05_Signed.of rfl (wpF_start ?_))
  unfold sgK
  (repeat' (first | (refine au ?_; first | refine bsplit_dec (fun _ => ?_) (fun _ => ?_) | refine bsplit_intro (fun _ => ?_) (fun _ => ?_)) | exact au0 | fail)); (all_goals try (first | refine au ?_ | fail))
  all_goals exact ⟨fz_eq (congrArg AV.bool (by first | exact (decide_eq_true (by omega)).symm | exact (decide_eq_false (by omega)).symm | exact decide_eq_decide.2 (by omega) | rfl)), sub_of⟩
theorem r5_Size_spec (k : Int) (H : AH) : ACalls PG broadsheetref05_Size.n [.int .i64 k] H fun r H' => r = .int .i64 (szK k : Nat) ∧ H' = H := by
  refine ACalls.fz (broadsheetref05_Size.of rfl (wpF_start ?_))
  unfold szK
  (repeat' (first | (refine au ?_; first | refine bsplit_dec (fun _ => ?_) (fun _ => ?_) | refine bsplit_intro (fun _ => ?_) (fun _ => ?_)) | exact au0 | fail)); (all_goals try (first | refine au ?_ | fail))
  all_goals exact ⟨fz_eq (congrArg (AV.int .i64) (by (repeat' split) <;> omega)), sub_of⟩
theorem r1_Sized_spec (b : Int) (H : AH) : ACalls PG broadsheetref01_Sized.n [.int .i64 b] H fun r H' => r = .bool (decide (b = 1 ∨ b = 2 ∨ b = 4 ∨ b = 8)) ∧ H' = H := by
  refine ACalls.fz (broadsheetref01_Sized.of rfl (wpF_start ?_))
  (repeat' (first | (refine au ?_; first | refine bsplit_dec (fun _ => ?_) (fun _ => ?_) | refine bsplit_intro (fun _ => ?_) (fun _ => ?_)) | exact au0 | fail)); (all_goals try (first | refine au ?_ | fail))
  all_goals exact ⟨fz_eq (congrArg AV.bool (by first | exact (decide_eq_true (by omega)).symm | exact (decide_eq_false (by omega)).symm | exact decide_eq_decide.2 (by omega) | rfl)), sub_of⟩
/-- Half of what a size holds. -/
def hlf (b : Nat) : Nat := 128 * 256 ^ (b - 1)
theorem hlf_eq {b : Nat} (hb : b = 1 ∨ b = 2 ∨ b = 4 ∨ b = 8) : (b = 1 ∧ hlf b = 128) ∨ (b = 2 ∧ hlf b = 32768) ∨ (b = 4 ∧ hlf b = 2147483648) ∨ (b = 8 ∧ hlf b = 9223372036854775808) := by
  rcases hb with rfl | rfl | rfl | rfl <;> decide
theorem r1_half_spec (b : Nat) (h1 : 1 ≤ b) (h8 : b ≤ 8) (H : AH) : ACalls PG broadsheetref01_half.n [.int .i64 (b : Nat)] H fun r H' => r = .int .u64 (hlf b : Nat) ∧ H' = H := by
  refine ACalls.fz (broadsheetref01_half.of rfl (wpF_start ?_))
  (first | refine au ?_ | exact au0 | fail)
  refine loopS (S := Nat) (fun i => [(3, some (.int .u64 (128 * 256 ^ i : Nat))), (4, some (.int .i64 (i + 1 : Nat)))]) (fun _ => _) (fun i => b - i) (fun i => i + 1 ≤ b) 0 h1 (fun i hi => ?_)
  have hp : 256 ^ i ≤ 256 ^ 7 := Nat.pow_le_pow_right (by decide) (by omega)
  have hp7 : 256 ^ 7 = 72057594037927936 := by decide
  have hs : 256 ^ (i + 1) = 256 ^ i * 256 := Nat.pow_succ ..
  have hm : i + 1 < b → 256 ^ i ≤ 256 ^ 6 := fun q => Nat.pow_le_pow_right (by decide) (by omega)
  have hp6 : 256 ^ 6 = 281474976710656 := by decide
  have hh : hlf (i + 1) = 128 * 256 ^ i := rfl
  generalize 256 ^ i = p at *
  (first | refine au ?_ | exact au0 | fail)
  refine bsplit_dec (fun c => ?_) (fun c => ?_)
  · have hm' := hm (by omega)
    (first | refine au ?_ | exact au0 | fail)
    refine nextS ((i + 1 : Nat)) (by repeat (first | exact trivial | refine And.intro (Or.inl rfl) ?_ | refine And.intro (Or.inr (Exists.intro _ (And.intro rfl (Fz.refl _)))) ?_ | refine And.intro (Or.inr (Exists.intro _ (And.intro rfl (fz_eq (congrArg (AV.int _) (by omega)))))) ?_ | refine And.intro (Or.inr (Exists.intro _ (And.intro rfl (fz_eq (congrArg (AV.own _ _ _) (by (try dsimp only); (try simp only [List.length_append, List.length_map, List.length_cons, List.length_nil, List.length_take, List.length_set, List.length_replicate]); (try dsimp only); first | done | omega)))))) ?_)) (by exact sub_of) (by first | omega | (dsimp only; omega)) ?_; (try dsimp only)
    omega
  · (first | refine au ?_ | exact au0 | fail)
    obtain rfl : b = i + 1 := by omega
    rw [hh]
    exact ⟨fz_of, sub_of⟩
theorem r1_Low_spec (b n : Nat) (hb : b = 1 ∨ b = 2 ∨ b = 4 ∨ b = 8) (hn : n < 18446744073709551616) (H : AH) : ACalls PG broadsheetref01_Low.n [.int .u64 (n : Nat), .int .i64 (b : Nat)] H fun r H' => r = .int .u64 (lowN b n : Nat) ∧ H' = H := by
  refine ACalls.fz (broadsheetref01_Low.of rfl (wpF_start ?_))
  (first | refine au ?_ | exact au0 | fail)
  first | refine callF_eq (r1_half_spec b (by omega) (by omega) _) ?_ | refine callG_eq rfl (r1_half_spec b (by omega) (by omega) _) ?_
  unfold lowN
  rcases hlf_eq hb with ⟨rfl, e⟩ | ⟨rfl, e⟩ | ⟨rfl, e⟩ | ⟨rfl, e⟩
  all_goals rw [e]
  all_goals (first | refine au ?_ | exact au0 | fail)
  all_goals exact ⟨fz_eq (congrArg (AV.int .u64) (by rw [Int.tmod_eq_emod_of_nonneg (by omega), Int.tmod_eq_emod_of_nonneg (by omega), wrap_u64, wrap_u64]; omega)), sub_of⟩
/-- A number's two's complement. -/
def bitsR (b : Nat) (m : Int) : Int × Int := if -(hlf b : Int) ≤ m ∧ m < hlf b then (m % (2 * hlf b : Int), 0) else (0, 7)
theorem r1_Bits_spec (b : Nat) (m : Int) (hb : b = 1 ∨ b = 2 ∨ b = 4 ∨ b = 8) (hm : -9223372036854775808 ≤ m ∧ m ≤ 9223372036854775807) (H : AH) : ACalls PG broadsheetref01_Bits.n [.int .i64 m, .int .i64 (b : Nat)] H fun r H' => r = .tup [.int .u64 (bitsR b m).1, .int .i64 (bitsR b m).2] ∧ H' = H := by
  refine ACalls.fz (broadsheetref01_Bits.of rfl (wpF_start ?_))
  (first | refine au ?_ | exact au0 | fail)
  first | refine callF_eq (r1_Sized_spec _ _) ?_ | refine callG_eq rfl (r1_Sized_spec _ _) ?_
  rw [decide_eq_true (by omega)]
  (first | refine au ?_ | exact au0 | fail)
  first | refine callF_eq (r1_half_spec b (by omega) (by omega) _) ?_ | refine callG_eq rfl (r1_half_spec b (by omega) (by omega) _) ?_
  unfold bitsR
  rcases hlf_eq hb with ⟨rfl, e⟩ | ⟨rfl, e⟩ | ⟨rfl, e⟩ | ⟨rfl, e⟩
  all_goals rw [e]
  all_goals by_cases h0 : 0 ≤ m
  all_goals (first | refine au ?_ | exact au0 | fail)
  all_goals try (rw [show IntKind.wrap .i64 (0 - (m + 1)) = 0 - (m + 1) from wrap_id (by omega) (by omega)]; (first | refine au ?_ | exact au0 | fail))
  all_goals try refine bsplit_dec (fun h1 => ?_) (fun h1 => ?_)
  all_goals try (first | refine au ?_ | exact au0 | fail)
  all_goals try (rw [show IntKind.wrap .i64 (0 - (m + 1)) = 0 - (m + 1) from wrap_id (by omega) (by omega)]; (first | refine au ?_ | exact au0 | fail))
  all_goals (refine ⟨fz_eq ?_, sub_of⟩; first | (rw [if_pos (by omega)]; simp only [AV.tup.injEq, List.cons.injEq, AV.int.injEq, true_and, and_true]; omega) | (rw [if_neg (by omega)]))
theorem wide_may {b n : Nat} (hb : b = 1 ∨ b = 2 ∨ b = 4 ∨ b = 8) (hn : n < 18446744073709551616) : wide (sgnI b n) = n ↔ (bitsR b (IntKind.wrap .i64 (n : Nat))).2 = 0 := by
  rw [wrap_i64]
  unfold wide sgnI bitsR lowN
  rcases hlf_eq hb with ⟨rfl, e⟩ | ⟨rfl, e⟩ | ⟨rfl, e⟩ | ⟨rfl, e⟩
  all_goals rw [e]
  all_goals (repeat' split) <;> (first | (constructor <;> intro <;> omega) | (simp only [] at *; constructor <;> intro q <;> omega))
theorem wrapI_range (n : Nat) : -9223372036854775808 ≤ IntKind.wrap .i64 (n : Nat) ∧ IntKind.wrap .i64 (n : Nat) ≤ 9223372036854775807 := by
  rw [wrap_i64]; split <;> omega
theorem r5_Low_spec (k : Int) (n : Nat) (hn : n < 18446744073709551616) (H : AH) : ACalls PG broadsheetref05_Low.n [.int .i64 k, .int .u64 (n : Nat)] H fun r H' => r = .int .u64 (lowK k n : Nat) ∧ H' = H := by
  refine ACalls.fz (broadsheetref05_Low.of rfl (wpF_start ?_))
  (first | refine au ?_ | exact au0 | fail)
  first | refine callF_eq (r5_Number_spec _ _) ?_ | refine callG_eq rfl (r5_Number_spec _ _) ?_
  unfold lowK
  cases h : isNum k with
  | false =>
    rw [(szK_no h).1]
    (first | refine au ?_ | exact au0 | fail)
    exact ⟨fz_of, sub_of⟩
  | true =>
    have hb := szK_num h
    rw [if_neg (by omega)]
    (first | refine au ?_ | exact au0 | fail)
    first | refine callF_eq (r5_Size_spec _ _) ?_ | refine callG_eq rfl (r5_Size_spec _ _) ?_
    (first | refine au ?_ | exact au0 | fail)
    first | refine callF_eq (r1_Low_spec _ n hb hn _) ?_ | refine callG_eq rfl (r1_Low_spec _ n hb hn _) ?_
    (first | refine au ?_ | exact au0 | fail)
    exact ⟨fz_of, sub_of⟩
theorem r5_May_spec (k : Int) (n : Nat) (hn : n < 18446744073709551616) (H : AH) : ACalls PG broadsheetref05_May.n [.int .i64 k, .int .u64 (n : Nat)] H fun r H' => r = .bool (mayK k n) ∧ H' = H := by
  refine ACalls.fz (broadsheetref05_May.of rfl (wpF_start ?_))
  (first | refine au ?_ | exact au0 | fail)
  refine bsplit_dec (fun h1 => ?_) (fun h1 => ?_)
  · subst h1
    (first | refine au ?_ | exact au0 | fail)
    refine ⟨fz_eq (congrArg AV.bool ?_), sub_of⟩
    have e : upK 1 n = n % 256 := by unfold upK lowK lowN; simp [sgK, szK]
    simp only [mayK, e, isNum]
    simp only [show decide ((1 : Int) ≤ 1 ∧ (1 : Int) ≤ 9) = true from rfl, Bool.true_and, ne_eq, not_true_eq_false, decide_false, Bool.false_or]
    rw [← Bool.decide_and]
    exact decide_eq_decide.2 (by omega)
  · (first | refine au ?_ | exact au0 | fail)
    first | refine callF_eq (r5_Number_spec _ _) ?_ | refine callG_eq rfl (r5_Number_spec _ _) ?_
    cases h : isNum k with
    | false =>
      (first | refine au ?_ | exact au0 | fail)
      refine ⟨fz_eq (congrArg AV.bool ?_), sub_of⟩
      simp [mayK, h]
    | true =>
      have hb := szK_num h
      (first | refine au ?_ | exact au0 | fail)
      first | refine callF_eq (r5_Signed_spec _ _) ?_ | refine callG_eq rfl (r5_Signed_spec _ _) ?_
      cases hs : sgK k with
      | true =>
        (first | refine au ?_ | exact au0 | fail)
        refine rng_any ?_
        (first | refine au ?_ | exact au0 | fail)
        first | refine callF_eq (r5_Size_spec _ _) ?_ | refine callG_eq rfl (r5_Size_spec _ _) ?_
        (first | refine au ?_ | exact au0 | fail)
        first | refine callF_eq (r1_Bits_spec _ _ hb (wrapI_range n) _) ?_ | refine callG_eq rfl (r1_Bits_spec _ _ hb (wrapI_range n) _) ?_
        (first | refine au ?_ | exact au0 | fail)
        refine ⟨fz_eq (congrArg AV.bool ?_), sub_of⟩
        simp only [mayK, h, upK, hs, if_true, Bool.true_and, ne_eq, h1, not_false_eq_true, decide_true, Bool.true_or, Bool.and_true]
        exact decide_eq_decide.2 (wide_may hb hn).symm
      | false =>
        (first | refine au ?_ | exact au0 | fail)
        first | refine callF_eq (r5_Low_spec _ _ hn _) ?_ | refine callG_eq rfl (r5_Low_spec _ _ hn _) ?_
        (first | refine au ?_ | exact au0 | fail)
        refine ⟨fz_eq (congrArg AV.bool ?_), sub_of⟩
        simp only [mayK, h, upK, hs, Bool.false_eq_true, if_false, Bool.true_and, ne_eq, h1, not_false_eq_true, decide_true, Bool.true_or, Bool.and_true]
        exact decide_eq_decide.2 (by omega)
end Go.Proofs.Ytodiahhfpcdejaa

/- Types, walked. -/
namespace Go.Proofs.Ytodiahhfpcdejaa
set_option autoImplicit false
set_option linter.unusedSimpArgs false
set_option linter.unusedVariables false
attribute [local irreducible] callA callP ACalls
/-- Items, types, as they lie in memory. -/
abbrev itR (x : It) : List AV := [.str x.nm, .int .u64 (x.num : Nat), .int .i64 x.ty, .bool x.key, .bool x.rest]
abbrev tyR (t : Ty) : List AV := [.int .i64 t.kd, .str t.nm, .int .i64 t.bd, .int .i64 t.el, .int .i64 t.tg, .rows 5 (t.its.map itR)]
abbrev tysA (l : List Ty) : AV := .rows 6 (l.map tyR)
abbrev inR (n : Int) : List AV := [.int .i64 n]
theorem has_spec (k : Int) (H : AH) : ACalls PG types_has.n [.int .i64 k] H fun r H' => r = .tup [.bool (kNm k), .bool (kBd k), .bool (kEl k), .bool (kTg k)] ∧ H' = H := by
  refine ACalls.fz (types_has.of rfl (wpF_start ?_))
  unfold kNm kBd kEl kTg
  (repeat' (first | (refine au ?_; first | refine bsplit_dec (fun _ => ?_) (fun _ => ?_) | refine bsplit_intro (fun _ => ?_) (fun _ => ?_)) | exact au0 | fail)); (all_goals try (first | refine au ?_ | fail))
  all_goals (refine ⟨fz_eq ?_, sub_of⟩; simp only [AV.tup.injEq, List.cons.injEq, AV.bool.injEq, and_true]; refine ⟨?_, ?_, ?_, ?_⟩ <;> first | exact (decide_eq_true (by omega)).symm | exact (decide_eq_false (by omega)).symm)
theorem rng4 (k : Int) : (kEl k = true ∧ kTg k = false ∧ k ≠ 13 ∧ k ≠ 14) ∨ (kEl k = false ∧ kTg k = true ∧ k = 14) ∨ (kEl k = false ∧ kTg k = false ∧ k = 13) ∨ (kEl k = false ∧ kTg k = false ∧ k ≠ 13 ∧ k ≠ 14) := by
  unfold kEl kTg
  by_cases h1 : k = 11 ∨ k = 12
  · exact .inl ⟨decide_eq_true h1, decide_eq_false (by omega), by omega, by omega⟩
  · by_cases h2 : k = 14
    · exact .inr (.inl ⟨decide_eq_false h1, decide_eq_true h2, h2⟩)
    · by_cases h3 : k = 13
      · exact .inr (.inr (.inl ⟨decide_eq_false h1, decide_eq_false h2, h3⟩))
      · exact .inr (.inr (.inr ⟨decide_eq_false h1, decide_eq_false h2, h3, h2⟩))
theorem parts_el {t : Ty} (h : kEl t.kd = true) (h2 : kTg t.kd = false) (h3 : t.kd ≠ 13) (h4 : t.kd ≠ 14) : parts t = [t.el] := by
  unfold parts; rw [h, h2, if_neg (show ¬ (t.kd = 13 ∨ t.kd = 14) by omega)]; rfl
theorem parts_tg {t : Ty} (h : kEl t.kd = false) (h2 : kTg t.kd = true) (h3 : t.kd = 14) : parts t = t.tg :: t.its.map (·.ty) := by
  unfold parts; rw [h, h2, if_pos (show t.kd = 13 ∨ t.kd = 14 by omega)]; rfl
theorem parts_st {t : Ty} (h : kEl t.kd = false) (h2 : kTg t.kd = false) (h3 : t.kd = 13) : parts t = t.its.map (·.ty) := by
  unfold parts; rw [h, h2, if_pos (show t.kd = 13 ∨ t.kd = 14 by omega)]; rfl
theorem parts_no {t : Ty} (h : kEl t.kd = false) (h2 : kTg t.kd = false) (h3 : t.kd ≠ 13) (h4 : t.kd ≠ 14) : parts t = [] := by
  unfold parts; rw [h, h2, if_neg (show ¬ (t.kd = 13 ∨ t.kd = 14) by omega)]; rfl
theorem parts_spec0 (t : Ty) (ht : t.its.length ≤ 4000000000000) : ACalls PG types_parts.n [.agg (tyR t)] [] fun r _ => r = .rows 1 ((parts t).map inR) := by
  refine ACalls.fzK (types_parts.of rfl (wpF_start ?_))
  have hlen : (t.its.map itR).length = t.its.length := by simp
  (first | refine au ?_ | exact au0 | fail)
  intro id1 hid1 ht1; have n1 := neAll_of hid1; (try simp only [neAll, neAll_hset] at n1); have m1 := n1; (repeat (obtain ⟨_, m1⟩ := m1))
  (first | refine au ?_ | exact au0 | fail)
  first | refine callF_eq (has_spec _ _) ?_ | refine callG_eq rfl (has_spec _ _) ?_
  rcases rng4 t.kd with ⟨h1, h2, h3, h4⟩ | ⟨h1, h2, h3⟩ | ⟨h1, h2, h3⟩ | ⟨h1, h2, h3, h4⟩
  · rw [h1, h2, parts_el h1 h2 h3 h4]
    (first | refine au ?_ | exact au0 | fail)
    refine ⟨_, rfl, (Nat.le_of_ble_eq_true rfl), (fun q => by cases q), fun _ => ?_⟩
    intro id2 hid2 ht2; have n2 := neAll_of hid2; (try simp only [neAll, neAll_hset] at n2); have m2 := n2; (repeat (obtain ⟨_, m2⟩ := m2))
    (first | refine au ?_ | exact au0 | fail)
    exact Fz.ownL hget_self rfl (FzR.refl _ _ _) (map_w (f := inR) (fun _ => rfl) _)
  · rw [h1, h2, parts_tg h1 h2 h3]
    (first | refine au ?_ | exact au0 | fail)
    refine ⟨_, rfl, (Nat.le_of_ble_eq_true rfl), (fun q => by cases q), fun _ => ?_⟩
    intro id2 hid2 ht2; have n2 := neAll_of hid2; (try simp only [neAll, neAll_hset] at n2); have m2 := n2; (repeat (obtain ⟨_, m2⟩ := m2))
    (first | refine au ?_ | exact au0 | fail)
    obtain ⟨pre, hpre⟩ : ∃ pre : List Int, pre = [t.tg] := ⟨_, rfl⟩
    have hpl : pre.length = 1 := by rw [hpre]; rfl
    refine loopS (S := Nat × Option Nat) (fun s => [(3, some (accV s.2 1 (pre.length + s.1))), (41, some (.int .i64 (s.1 : Nat)))]) (fun s => accH s.2 1 (pre.map inR ++ ((t.its.take s.1).map fun x => inR x.ty)) [(id1, .rows 6 [tyR t])]) (fun s => t.its.length - s.1) (fun s => s.1 ≤ t.its.length ∧ (s.2 = none → pre.length + s.1 = 0) ∧ ∀ id, s.2 = some id → tag id = ty_int ∧ id ≠ id1) (0, some id2) ⟨Nat.zero_le _, by simp, fun id q => by cases q; exact ⟨ht2, by omega⟩⟩ (fun ⟨i, o⟩ hs => ?_) (by repeat (first | exact trivial | refine And.intro (Or.inl rfl) ?_ | refine And.intro (Or.inr (Exists.intro _ (And.intro rfl (Fz.refl _)))) ?_ | refine And.intro (Or.inr (Exists.intro _ (And.intro rfl (fz_eq (congrArg (AV.int _) (by omega)))))) ?_ | refine And.intro (Or.inr (Exists.intro _ (And.intro rfl (fz_eq (congrArg (AV.own _ _ _) (by (try dsimp only); (try simp only [List.length_append, List.length_map, List.length_cons, List.length_nil, List.length_take, List.length_set, List.length_replicate]); (try dsimp only); first | done | omega)))))) ?_)) (by subst hpre; exact sub_of)
    dsimp only at hs
    rcases hs with ⟨hi, ho1, ho2⟩
    have hge : ∀ h : i < t.its.length, (t.its.map itR).getD (Int.toNat (i : Nat)) [] = itR t.its[i] := fun h => row_get h
    have htk : ∀ h : i < t.its.length, ((t.its.take (i + 1)).map fun x => inR x.ty) = ((t.its.take i).map fun x => inR x.ty) ++ [inR t.its[i].ty] := fun h => take_map_succ _ _ _ h
    have htl : (t.its.take i).length = i := by rw [List.length_take]; omega
    (first | refine au ?_ | exact au0 | fail)
    refine bsplit_dec (fun c => ?_) (fun c => ?_)
    · have hil : i < t.its.length := by omega
      replace hge := hge hil
      replace htk := htk hil
      generalize t.its[i] = x at *
      rcases o with _ | ida
      · (first | refine au ?_ | exact au0 | fail)
        rw [hge]
        (first | refine au ?_ | exact au0 | fail)
        intro id9 hid9 ht9; have n9 := neAll_of hid9; (try simp only [neAll, neAll_hset] at n9); have m9 := n9; (repeat (obtain ⟨_, m9⟩ := m9))
        (first | refine au ?_ | exact au0 | fail)
        refine ⟨_, rfl, (Nat.le_of_ble_eq_true rfl), (fun q => by cases q), fun _ => ?_⟩
        intro id47 hid47 ht47; have n47 := neAll_of hid47; (try simp only [neAll, neAll_hset] at n47); have m47 := n47; (repeat (obtain ⟨_, m47⟩ := m47))
        (first | refine au ?_ | exact au0 | fail)
        have hp := ho1 rfl
        refine nextS (S := Nat × Option Nat) (i + 1, some id47) (by repeat (first | exact trivial | refine And.intro (Or.inl rfl) ?_ | refine And.intro (Or.inr (Exists.intro _ (And.intro rfl (Fz.refl _)))) ?_ | refine And.intro (Or.inr (Exists.intro _ (And.intro rfl (fz_eq (congrArg (AV.int _) (by omega)))))) ?_ | refine And.intro (Or.inr (Exists.intro _ (And.intro rfl (fz_eq (congrArg (AV.own _ _ _) (by (try dsimp only); (try simp only [List.length_append, List.length_map, List.length_cons, List.length_nil, List.length_take, List.length_set, List.length_replicate]); (try dsimp only); first | done | omega)))))) ?_)) ?_ (by dsimp only; omega) ⟨hil, by simp, fun j q => ?_⟩
        · dsimp only [accH]
          rw [htk, show pre = [] from List.eq_nil_of_length_eq_zero (by omega), show i = 0 from by omega]
          exact sub_of
        · simp only [Option.some.injEq] at q
          subst q
          exact ⟨ht47, by omega⟩
      · obtain ⟨hti, hdi⟩ := ho2 ida rfl
        (first | refine au ?_ | exact au0 | fail)
        rw [hge]
        (first | refine au ?_ | exact au0 | fail)
        intro id9 hid9 ht9; have n9 := neAll_of hid9; (try simp only [neAll, neAll_hset] at n9); have m9 := n9; (repeat (obtain ⟨_, m9⟩ := m9))
        (first | refine au ?_ | exact au0 | fail)
        refine ⟨_, _, readS_all (by exact hg_of) (by ((try dsimp only); (try simp only [List.length_append, List.length_map, List.length_cons, List.length_nil, List.length_take, List.length_set, List.length_replicate]); (try dsimp only); first | done | omega)), rfl, rfl, rfl, (hti), (by ((try dsimp only); (try simp only [List.length_append, List.length_map, List.length_cons, List.length_nil, List.length_take, List.length_set, List.length_replicate]); (try dsimp only); first | done | omega)), ?_⟩
        intro id47 hid47 ht47; have n47 := neAll_of hid47; (try simp only [neAll, neAll_hset] at n47); have m47 := n47; (repeat (obtain ⟨_, m47⟩ := m47))
        (first | refine au ?_ | exact au0 | fail)
        refine nextS (S := Nat × Option Nat) (i + 1, some id47) (by repeat (first | exact trivial | refine And.intro (Or.inl rfl) ?_ | refine And.intro (Or.inr (Exists.intro _ (And.intro rfl (Fz.refl _)))) ?_ | refine And.intro (Or.inr (Exists.intro _ (And.intro rfl (fz_eq (congrArg (AV.int _) (by omega)))))) ?_ | refine And.intro (Or.inr (Exists.intro _ (And.intro rfl (fz_eq (congrArg (AV.own _ _ _) (by (try dsimp only); (try simp only [List.length_append, List.length_map, List.length_cons, List.length_nil, List.length_take, List.length_set, List.length_replicate]); (try dsimp only); first | done | omega)))))) ?_)) ?_ (by dsimp only; omega) ⟨hil, by simp, fun j q => ?_⟩
        · dsimp only [accH]
          rw [htk, ← List.append_assoc]
          exact sub_of
        · simp only [Option.some.injEq] at q
          subst q
          exact ⟨ht47, by omega⟩
    · (first | refine au ?_ | exact au0 | fail)
      obtain rfl : i = t.its.length := by omega
      rw [List.take_length]
      refine accFz (by ((try dsimp only); (try simp only [List.length_append, List.length_map, List.length_cons, List.length_nil, List.length_take, List.length_set, List.length_replicate]); (try dsimp only); first | done | omega)) (fun q => ?_) (fun _ _ => rfl) ?_ (map_w (f := inR) (fun _ => rfl) _)
      · have := ho1 q
        rw [List.eq_nil_of_length_eq_zero (show pre.length = 0 by omega), List.eq_nil_of_length_eq_zero (show t.its.length = 0 by omega)]
        rfl
      · rw [hpre]
        simp only [List.map_cons, List.map_nil, List.map_map, List.cons_append, List.nil_append]
        exact FzR.refl _ _ _
  · rw [h1, h2, parts_st h1 h2 h3]
    (first | refine au ?_ | exact au0 | fail)
    obtain ⟨pre, hpre⟩ : ∃ pre : List Int, pre = [] := ⟨_, rfl⟩
    have hpl : pre.length = 0 := by rw [hpre]; rfl
    refine loopS (S := Nat × Option Nat) (fun s => [(3, some (accV s.2 1 (pre.length + s.1))), (41, some (.int .i64 (s.1 : Nat)))]) (fun s => accH s.2 1 (pre.map inR ++ ((t.its.take s.1).map fun x => inR x.ty)) [(id1, .rows 6 [tyR t])]) (fun s => t.its.length - s.1) (fun s => s.1 ≤ t.its.length ∧ (s.2 = none → pre.length + s.1 = 0) ∧ ∀ id, s.2 = some id → tag id = ty_int ∧ id ≠ id1) (0, none) ⟨Nat.zero_le _, by simp [hpl], fun id q => by cases q⟩ (fun ⟨i, o⟩ hs => ?_) (by repeat (first | exact trivial | refine And.intro (Or.inl rfl) ?_ | refine And.intro (Or.inr (Exists.intro _ (And.intro rfl (Fz.refl _)))) ?_ | refine And.intro (Or.inr (Exists.intro _ (And.intro rfl (fz_eq (congrArg (AV.int _) (by omega)))))) ?_ | refine And.intro (Or.inr (Exists.intro _ (And.intro rfl (fz_eq (congrArg (AV.own _ _ _) (by (try dsimp only); (try simp only [List.length_append, List.length_map, List.length_cons, List.length_nil, List.length_take, List.length_set, List.length_replicate]); (try dsimp only); first | done | omega)))))) ?_)) (by subst hpre; exact sub_of)
    dsimp only at hs
    rcases hs with ⟨hi, ho1, ho2⟩
    have hge : ∀ h : i < t.its.length, (t.its.map itR).getD (Int.toNat (i : Nat)) [] = itR t.its[i] := fun h => row_get h
    have htk : ∀ h : i < t.its.length, ((t.its.take (i + 1)).map fun x => inR x.ty) = ((t.its.take i).map fun x => inR x.ty) ++ [inR t.its[i].ty] := fun h => take_map_succ _ _ _ h
    have htl : (t.its.take i).length = i := by rw [List.length_take]; omega
    (first | refine au ?_ | exact au0 | fail)
    refine bsplit_dec (fun c => ?_) (fun c => ?_)
    · have hil : i < t.its.length := by omega
      replace hge := hge hil
      replace htk := htk hil
      generalize t.its[i] = x at *
      rcases o with _ | ida
      · (first | refine au ?_ | exact au0 | fail)
        rw [hge]
        (first | refine au ?_ | exact au0 | fail)
        intro id9 hid9 ht9; have n9 := neAll_of hid9; (try simp only [neAll, neAll_hset] at n9); have m9 := n9; (repeat (obtain ⟨_, m9⟩ := m9))
        (first | refine au ?_ | exact au0 | fail)
        refine ⟨_, rfl, (Nat.le_of_ble_eq_true rfl), (fun q => by cases q), fun _ => ?_⟩
        intro id47 hid47 ht47; have n47 := neAll_of hid47; (try simp only [neAll, neAll_hset] at n47); have m47 := n47; (repeat (obtain ⟨_, m47⟩ := m47))
        (first | refine au ?_ | exact au0 | fail)
        have hp := ho1 rfl
        refine nextS (S := Nat × Option Nat) (i + 1, some id47) (by repeat (first | exact trivial | refine And.intro (Or.inl rfl) ?_ | refine And.intro (Or.inr (Exists.intro _ (And.intro rfl (Fz.refl _)))) ?_ | refine And.intro (Or.inr (Exists.intro _ (And.intro rfl (fz_eq (congrArg (AV.int _) (by omega)))))) ?_ | refine And.intro (Or.inr (Exists.intro _ (And.intro rfl (fz_eq (congrArg (AV.own _ _ _) (by (try dsimp only); (try simp only [List.length_append, List.length_map, List.length_cons, List.length_nil, List.length_take, List.length_set, List.length_replicate]); (try dsimp only); first | done | omega)))))) ?_)) ?_ (by dsimp only; omega) ⟨hil, by simp, fun j q => ?_⟩
        · dsimp only [accH]
          rw [htk, show pre = [] from List.eq_nil_of_length_eq_zero (by omega), show i = 0 from by omega]
          exact sub_of
        · simp only [Option.some.injEq] at q
          subst q
          exact ⟨ht47, by omega⟩
      · obtain ⟨hti, hdi⟩ := ho2 ida rfl
        (first | refine au ?_ | exact au0 | fail)
        rw [hge]
        (first | refine au ?_ | exact au0 | fail)
        intro id9 hid9 ht9; have n9 := neAll_of hid9; (try simp only [neAll, neAll_hset] at n9); have m9 := n9; (repeat (obtain ⟨_, m9⟩ := m9))
        (first | refine au ?_ | exact au0 | fail)
        refine ⟨_, _, readS_all (by exact hg_of) (by ((try dsimp only); (try simp only [List.length_append, List.length_map, List.length_cons, List.length_nil, List.length_take, List.length_set, List.length_replicate]); (try dsimp only); first | done | omega)), rfl, rfl, rfl, (hti), (by ((try dsimp only); (try simp only [List.length_append, List.length_map, List.length_cons, List.length_nil, List.length_take, List.length_set, List.length_replicate]); (try dsimp only); first | done | omega)), ?_⟩
        intro id47 hid47 ht47; have n47 := neAll_of hid47; (try simp only [neAll, neAll_hset] at n47); have m47 := n47; (repeat (obtain ⟨_, m47⟩ := m47))
        (first | refine au ?_ | exact au0 | fail)
        refine nextS (S := Nat × Option Nat) (i + 1, some id47) (by repeat (first | exact trivial | refine And.intro (Or.inl rfl) ?_ | refine And.intro (Or.inr (Exists.intro _ (And.intro rfl (Fz.refl _)))) ?_ | refine And.intro (Or.inr (Exists.intro _ (And.intro rfl (fz_eq (congrArg (AV.int _) (by omega)))))) ?_ | refine And.intro (Or.inr (Exists.intro _ (And.intro rfl (fz_eq (congrArg (AV.own _ _ _) (by (try dsimp only); (try simp only [List.length_append, List.length_map, List.length_cons, List.length_nil, List.length_take, List.length_set, List.length_replicate]); (try dsimp only); first | done | omega)))))) ?_)) ?_ (by dsimp only; omega) ⟨hil, by simp, fun j q => ?_⟩
        · dsimp only [accH]
          rw [htk, ← List.append_assoc]
          exact sub_of
        · simp only [Option.some.injEq] at q
          subst q
          exact ⟨ht47, by omega⟩
    · (first | refine au ?_ | exact au0 | fail)
      obtain rfl : i = t.its.length := by omega
      rw [List.take_length]
      refine accFz (by ((try dsimp only); (try simp only [List.length_append, List.length_map, List.length_cons, List.length_nil, List.length_take, List.length_set, List.length_replicate]); (try dsimp only); first | done | omega)) (fun q => ?_) (fun _ _ => rfl) ?_ (map_w (f := inR) (fun _ => rfl) _)
      · have := ho1 q
        rw [List.eq_nil_of_length_eq_zero (show pre.length = 0 by omega), List.eq_nil_of_length_eq_zero (show t.its.length = 0 by omega)]
        rfl
      · rw [hpre]
        simp only [List.map_cons, List.map_nil, List.map_map, List.cons_append, List.nil_append]
        exact FzR.refl _ _ _
  · rw [h1, h2, parts_no h1 h2 h3 h4]
    (first | refine au ?_ | exact au0 | fail)
    exact Fz.nil _
end Go.Proofs.Ytodiahhfpcdejaa

/- Types, walked: what is asked of a type. -/
namespace Go.Proofs.Ytodiahhfpcdejaa
set_option autoImplicit false
set_option linter.unusedSimpArgs false
set_option linter.unusedVariables false
attribute [local irreducible] callA callP ACalls
/-- What a type is asked with. -/
abbrev kB (l : List Ty) (n : Nat) (t : Ty) : Blk := .rows 8 [[tysA l, .int .i64 (n : Nat), .int .i64 t.kd, .str t.nm, .int .i64 t.bd, .int .i64 t.el, .int .i64 t.tg, .rows 5 (t.its.map itR)]]
/-- Sizes that memory lets be. -/
structure TyOk (t : Ty) : Prop where
  nm : t.nm.length ≤ 140737488351232
  its : t.its.length ≤ 4000000000000
  nms : ∀ x ∈ t.its, x.nm.length ≤ 140737488351232
  nums : ∀ x ∈ t.its, x.num < 18446744073709551616
structure TysOk (l : List Ty) : Prop where
  len : l.length ≤ 4000000000000
  all : ∀ t ∈ l, TyOk t
theorem kd4 {k : Int} (h : kNm k = true) : k = 9 ∨ k = 13 ∨ k = 14 := by simpa [kNm] using h
theorem kinds5 {k : Int} (h : ¬ (k < 1 ∨ 14 < k)) : (kNm k = false ∧ kBd k = false ∧ kEl k = false ∧ kTg k = false ∧ k ≤ 8) ∨ (kNm k = true ∧ kBd k = false ∧ kEl k = false ∧ kTg k = false ∧ (k = 9 ∨ k = 13)) ∨
    (kNm k = false ∧ kBd k = true ∧ kEl k = false ∧ kTg k = false ∧ k = 10) ∨ (kNm k = false ∧ kBd k = true ∧ kEl k = true ∧ kTg k = false ∧ (k = 11 ∨ k = 12)) ∨ (kNm k = true ∧ kBd k = false ∧ kEl k = false ∧ kTg k = true ∧ k = 14) := by
  have hk : k = 1 ∨ k = 2 ∨ k = 3 ∨ k = 4 ∨ k = 5 ∨ k = 6 ∨ k = 7 ∨ k = 8 ∨ k = 9 ∨ k = 10 ∨ k = 11 ∨ k = 12 ∨ k = 13 ∨ k = 14 := by omega
  rcases hk with rfl | rfl | rfl | rfl | rfl | rfl | rfl | rfl | rfl | rfl | rfl | rfl | rfl | rfl <;> decide
set_option maxHeartbeats 4000000 in
theorem form_spec (l : List Ty) (n : Nat) (t : Ty) (hok : TyOk t) (id : Nat) : SW PG types_look_form.n [.ptr id 8 0 0] id (kB l n t) [] (.int .i64 (formE t)) (kB l n t) := by
  have hlen : (t.its.map itR).length = t.its.length := by simp
  have hli := hok.its
  refine ACalls.fz (types_look_form.of rfl (wpF_start ?_))
  (first | refine au ?_ | exact au0 | fail)
  intro id3 hid3 ht3; have n3 := neAll_of hid3; (try simp only [neAll, neAll_hset] at n3); have m3 := n3; (repeat (obtain ⟨_, m3⟩ := m3))
  (first | refine au ?_ | exact au0 | fail)
  unfold formE
  by_cases hk : t.kd < 1 ∨ 14 < t.kd
  · rw [if_pos hk]
    (repeat' (first | (refine au ?_; first | refine bsplit_dec (fun _ => ?_) (fun _ => ?_) | refine bsplit_intro (fun _ => ?_) (fun _ => ?_)) | exact au0 | fail)); (all_goals try (first | refine au ?_ | fail))
    all_goals first | omega | exact ⟨fz_of, sub_of⟩
  rw [if_neg hk]
  refine bsplit_f (decide_eq_false (by omega)) ?_
  (first | refine au ?_ | exact au0 | fail)
  first | refine callF_eq (has_spec _ _) ?_ | refine callG_eq rfl (has_spec _ _) ?_
  have h0 : (0 : Int) < (t.its.map itR).length ↔ t.its ≠ [] := by rw [hlen]; cases t.its <;> simp
  rcases kinds5 hk with ⟨hN, hB, hE, hT, hh⟩ | ⟨hN, hB, hE, hT, hh⟩ | ⟨hN, hB, hE, hT, hh⟩ | ⟨hN, hB, hE, hT, hh⟩ | ⟨hN, hB, hE, hT, hh⟩
  all_goals by_cases hm : tyMore t = true
  all_goals simp only [hm, true_or, false_or, if_true]
  all_goals simp only [tyMore, decide_eq_true_eq] at hm
  all_goals rw [hN, hB, hE, hT] at hm ⊢
  all_goals (first | refine au ?_ | exact au0 | fail)
  all_goals (repeat' (first | (refine au ?_; first | refine bsplit_dec (fun _ => ?_) (fun _ => ?_) | refine bsplit_intro (fun _ => ?_) (fun _ => ?_)) | exact au0 | fail)); (all_goals try (first | refine au ?_ | fail))
  all_goals try (first | (exfalso; simp_all; done) | exact ⟨fz_of, sub_of⟩)
  all_goals refine loopL [(3, some _), (71, some _), (72, some _)] 73 0 t.its.length (none' (itMore t.kd) t.its) (by repeat (first | exact trivial | refine And.intro (Or.inl rfl) ?_ | refine And.intro (Or.inr (Exists.intro _ (And.intro rfl (Fz.refl _)))) ?_ | refine And.intro (Or.inr (Exists.intro _ (And.intro rfl (fz_eq (congrArg (AV.int _) (by omega)))))) ?_ | refine And.intro (Or.inr (Exists.intro _ (And.intro rfl (fz_eq (congrArg (AV.own _ _ _) (by (try dsimp only); (try simp only [List.length_append, List.length_map, List.length_cons, List.length_nil, List.length_take, List.length_set, List.length_replicate]); (try dsimp only); first | done | omega)))))) ?_)) (Nat.zero_le _) none'_zero (fun i hi hn => ?_)
  all_goals (first | refine au ?_ | exact au0 | fail)
  all_goals try refine bsplit_dec (fun c => ?_) (fun c => ?_)
  all_goals try (first | refine au ?_ | exact au0 | fail)
  all_goals first
    | (rw [none'_end hn (by omega)]; exact ⟨fz_of, sub_of⟩)
    | (exfalso; simp_all; done)
    | skip
  all_goals have hil : i < t.its.length := by omega
  all_goals have hge := row_get (f := itR) hil
  all_goals have hany : itMore t.kd t.its[i] = true → t.its.any (itMore t.kd) = true := any_hit hil
  all_goals have hnx := none'_succ hn hil
  all_goals generalize t.its[i] = x at *
  all_goals (first | refine au ?_ | exact au0 | fail)
  all_goals rw [hge]
  all_goals (first | refine au ?_ | exact au0 | fail)
  all_goals intro id9 hid9 ht9; have n9 := neAll_of hid9; (try simp only [neAll, neAll_hset] at n9); have m9 := n9; (repeat (obtain ⟨_, m9⟩ := m9))
  all_goals (repeat' (first | (refine au ?_; first | refine bsplit_dec (fun _ => ?_) (fun _ => ?_) | refine bsplit_intro (fun _ => ?_) (fun _ => ?_)) | exact au0 | fail)); (all_goals try (first | refine au ?_ | fail))
  all_goals first
    | (rw [hany (by unfold itMore; apply decide_eq_true; simp_all)]; exact ⟨fz_of, sub_of⟩)
    | (refine nextN (by repeat (first | exact trivial | refine And.intro (Or.inl rfl) ?_ | refine And.intro (Or.inr (Exists.intro _ (And.intro rfl (Fz.refl _)))) ?_ | refine And.intro (Or.inr (Exists.intro _ (And.intro rfl (fz_eq (congrArg (AV.int _) (by omega)))))) ?_ | refine And.intro (Or.inr (Exists.intro _ (And.intro rfl (fz_eq (congrArg (AV.own _ _ _) (by (try dsimp only); (try simp only [List.length_append, List.length_map, List.length_cons, List.length_nil, List.length_take, List.length_set, List.length_replicate]); (try dsimp only); first | done | omega)))))) ?_)) (by exact sub_of) (by omega) (hnx (by unfold itMore; apply decide_eq_false; simp_all)))
    | skip
end Go.Proofs.Ytodiahhfpcdejaa

/- Types, walked: a type's name and bound. -/
namespace Go.Proofs.Ytodiahhfpcdejaa
set_option autoImplicit false
set_option linter.unusedSimpArgs false
set_option linter.unusedVariables false
attribute [local irreducible] callA callP ACalls
theorem name_Name_spec (s : List UInt8) (hs : s.length ≤ 140737488351232) (H : AH) : ACalls PG name_Name.n [.str s] H fun r H' => r = .bool (nameOk s) ∧ H' = H := by
  refine ACalls.fz (name_Name.of rfl (wpF_start ?_))
  have e : nameOk s = decide (s ≠ [] ∧ s.length ≤ 16 ∧ nl s = s.length ∧ rsv.contains s = false) := by
    unfold nameOk
    cases h : rsv.contains s <;> simp [Bool.decide_and, Bool.and_assoc]
  rw [e]
  have hnl := nl_le s
  (repeat' (first | (refine au ?_; first | refine callF_eq (name_Lead_spec s hs _) ?_ | refine callF_eq (word_spec s _) ?_ | refine bsplit_dec (fun _ => ?_) (fun _ => ?_) | refine bsplit_intro (fun _ => ?_) (fun _ => ?_)) | exact au0 | fail)); (all_goals try (first | refine au ?_ | fail))
  all_goals (refine ⟨fz_eq (congrArg AV.bool ?_), sub_of⟩; first | (symm; apply decide_eq_false; simp_all; done) | (symm; apply decide_eq_true; simp_all; done) | (simp_all; done) | (symm; apply decide_eq_false; rintro ⟨_, h1, h2, _⟩; omega) | (cases hr : rsv.contains s; exact (decide_eq_true ⟨by assumption, by omega, by omega, rfl⟩).symm; exact (decide_eq_false (by simp)).symm))
theorem bound_spec (l : List Ty) (n : Nat) (t : Ty) (id : Nat) : SW PG types_look_bound.n [.ptr id 8 0 0] id (kB l n t) [] (.int .i64 (boundE t)) (kB l n t) := by
  refine ACalls.fz (types_look_bound.of rfl (wpF_start ?_))
  (first | refine au ?_ | exact au0 | fail)
  first | refine callF_eq (has_spec _ _) ?_ | refine callG_eq rfl (has_spec _ _) ?_
  unfold boundE
  cases hB : kBd t.kd <;> cases hE : kEl t.kd
  all_goals (first | refine au ?_ | exact au0 | fail)
  all_goals (repeat' (first | (refine au ?_; first | refine bsplit_dec (fun _ => ?_) (fun _ => ?_) | refine bsplit_intro (fun _ => ?_) (fun _ => ?_)) | exact au0 | fail)); (all_goals try (first | refine au ?_ | fail))
  all_goals (refine ⟨fz_eq (congrArg (AV.int .i64) ?_), sub_of⟩; first | (rw [if_pos (by simp_all)]; done) | (rw [if_neg (by simp_all)]; done) | skip)
theorem any_take {α : Type} {p : α → Bool} {l : List α} {n : Nat} : (l.take n).any p = true ↔ ∃ (i : Nat) (h : i < l.length), i < n ∧ p l[i] = true := by
  rw [List.any_eq_true]
  constructor
  · rintro ⟨x, hx, hp⟩
    obtain ⟨i, hi, rfl⟩ := List.getElem_of_mem hx
    rw [List.length_take] at hi
    exact ⟨i, by omega, by omega, by simpa using hp⟩
  · rintro ⟨i, hi, hn, hp⟩
    exact ⟨l[i], by rw [List.mem_iff_getElem]; exact ⟨i, by rw [List.length_take]; omega, by simp⟩, hp⟩
theorem take_any_no {α : Type} {p : α → Bool} {l : List α} {n i : Nat} (h : none' p l i) (hn : n ≤ i) : (l.take n).any p = false := by
  rw [Bool.eq_false_iff, ne_eq, any_take]
  rintro ⟨j, hj, hjn, hp⟩
  rw [h j hj (by omega)] at hp; cases hp
theorem named_spec (l : List Ty) (n : Nat) (t : Ty) (hok : TyOk t) (hl : TysOk l) (hn : n ≤ l.length) (id : Nat) : SW PG types_look_named.n [.ptr id 8 0 0] id (kB l n t) [] (.int .i64 (namedE l t n)) (kB l n t) := by
  have hlen : (l.map tyR).length = l.length := by simp
  have hll := hl.len
  refine ACalls.fz (types_look_named.of rfl (wpF_start ?_))
  unfold namedE
  (first | refine au ?_ | exact au0 | fail)
  first | refine callF_eq (has_spec _ _) ?_ | refine callG_eq rfl (has_spec _ _) ?_
  cases hN : kNm t.kd
  · (first | refine au ?_ | exact au0 | fail)
    exact ⟨fz_of, sub_of⟩
  (first | refine au ?_ | exact au0 | fail)
  first | refine callF_eq (name_Name_spec _ hok.nm _) ?_ | refine callG_eq rfl (name_Name_spec _ hok.nm _) ?_
  cases hO : nameOk t.nm
  · (first | refine au ?_ | exact au0 | fail)
    exact ⟨fz_of, sub_of⟩
  (first | refine au ?_ | exact au0 | fail)
  have e1 : List.drop (Int.toNat 0) (List.take (Int.toNat (n : Nat)) (l.map tyR)) = (l.take n).map tyR := by simp
  have hl2 : (l.take n).length = n := by rw [List.length_take]; omega
  rw [e1]
  have hlen2 : ((l.take n).map tyR).length = n := by simp; omega
  refine loopL [(0, some _), (37, some _), (38, some _)] 39 0 n (none' (fun x => x.nm == t.nm) (l.take n)) (by repeat (first | exact trivial | refine And.intro (Or.inl rfl) ?_ | refine And.intro (Or.inr (Exists.intro _ (And.intro rfl (Fz.refl _)))) ?_ | refine And.intro (Or.inr (Exists.intro _ (And.intro rfl (fz_eq (congrArg (AV.int _) (by omega)))))) ?_ | refine And.intro (Or.inr (Exists.intro _ (And.intro rfl (fz_eq (congrArg (AV.own _ _ _) (by (try dsimp only); (try simp only [List.length_append, List.length_map, List.length_cons, List.length_nil, List.length_take, List.length_set, List.length_replicate]); (try dsimp only); first | done | omega)))))) ?_)) (Nat.zero_le _) none'_zero (fun i hi hno => ?_)
  (first | refine au ?_ | exact au0 | fail)
  refine bsplit_dec (fun c => ?_) (fun c => ?_)
  · have hil : i < (l.take n).length := by omega
    have hge := row_get (f := tyR) hil
    have hany : ((l.take n)[i].nm == t.nm) = true → (l.take n).any (fun x => x.nm == t.nm) = true := any_hit (p := fun x : Ty => x.nm == t.nm) hil
    have hnx := none'_succ hno hil
    generalize (l.take n)[i] = x at *
    (first | refine au ?_ | exact au0 | fail)
    rw [hge]
    (first | refine au ?_ | exact au0 | fail)
    intro id8 hid8 ht8; have n8 := neAll_of hid8; (try simp only [neAll, neAll_hset] at n8); have m8 := n8; (repeat (obtain ⟨_, m8⟩ := m8))
    (first | refine au ?_ | exact au0 | fail)
    refine bsplit_dec (fun h => ?_) (fun h => ?_)
    · (first | refine au ?_ | exact au0 | fail)
      rw [hany (by simpa using h)]
      exact ⟨fz_of, sub_of⟩
    · (first | refine au ?_ | exact au0 | fail)
      refine nextN (by repeat (first | exact trivial | refine And.intro (Or.inl rfl) ?_ | refine And.intro (Or.inr (Exists.intro _ (And.intro rfl (Fz.refl _)))) ?_ | refine And.intro (Or.inr (Exists.intro _ (And.intro rfl (fz_eq (congrArg (AV.int _) (by omega)))))) ?_ | refine And.intro (Or.inr (Exists.intro _ (And.intro rfl (fz_eq (congrArg (AV.own _ _ _) (by (try dsimp only); (try simp only [List.length_append, List.length_map, List.length_cons, List.length_nil, List.length_take, List.length_set, List.length_replicate]); (try dsimp only); first | done | omega)))))) ?_)) (by exact sub_of) (by omega) (hnx (by simpa using h))
  · (first | refine au ?_ | exact au0 | fail)
    rw [none'_end hno (by omega)]
    exact ⟨fz_of, sub_of⟩
theorem parts_spec (t : Ty) (ht : t.its.length ≤ 4000000000000) (H : AH) : ACalls PG types_parts.n [.agg (tyR t)] H fun r H' => r = .rows 1 ((parts t).map inR) ∧ H' = H := (parts_spec0 t ht).frame H
theorem parts_len (t : Ty) : (parts t).length ≤ t.its.length + 2 := by
  unfold parts
  simp only [List.length_append]
  have : (if kEl t.kd = true then [t.el] else []).length ≤ 1 := by split <;> simp
  have : (if kTg t.kd = true then [t.tg] else []).length ≤ 1 := by split <;> simp
  have : (if t.kd = 13 ∨ t.kd = 14 then t.its.map (·.ty) else []).length ≤ t.its.length := by split <;> simp
  omega
theorem parts_tag {t : Ty} (h : t.kd = 14) : t.tg ∈ parts t := by
  unfold parts; rw [show kTg t.kd = true from by simp [kTg, h], if_pos rfl]; simp
theorem order_spec (l : List Ty) (n : Nat) (t : Ty) (hok : TyOk t) (hl : TysOk l) (hn : n < l.length) (id : Nat) : SW PG types_look_order.n [.ptr id 8 0 0] id (kB l n t) [] (.int .i64 (orderE l t n)) (kB l n t) := by
  have hlen : (l.map tyR).length = l.length := by simp
  have hll := hl.len
  have hil := hok.its
  have hpl := parts_len t
  have hplm : ((parts t).map inR).length = (parts t).length := by simp
  refine ACalls.fz (types_look_order.of rfl (wpF_start ?_))
  unfold orderE
  (first | refine au ?_ | exact au0 | fail)
  first | refine callF_eq (parts_spec t hok.its _) ?_ | refine callG_eq rfl (parts_spec t hok.its _) ?_
  (first | refine au ?_ | exact au0 | fail)
  refine loopL [(0, some _), (9, some _), (10, some _)] 11 0 (parts t).length (none' (fun p => decide (p < 0 ∨ (n : Int) ≤ p)) (parts t)) (by repeat (first | exact trivial | refine And.intro (Or.inl rfl) ?_ | refine And.intro (Or.inr (Exists.intro _ (And.intro rfl (Fz.refl _)))) ?_ | refine And.intro (Or.inr (Exists.intro _ (And.intro rfl (fz_eq (congrArg (AV.int _) (by omega)))))) ?_ | refine And.intro (Or.inr (Exists.intro _ (And.intro rfl (fz_eq (congrArg (AV.own _ _ _) (by (try dsimp only); (try simp only [List.length_append, List.length_map, List.length_cons, List.length_nil, List.length_take, List.length_set, List.length_replicate]); (try dsimp only); first | done | omega)))))) ?_)) (Nat.zero_le _) none'_zero (fun i hi hno => ?_)
  (first | refine au ?_ | exact au0 | fail)
  refine bsplit_dec (fun c => ?_) (fun c => ?_)
  · have hpi : i < (parts t).length := by omega
    have hge := row_get (f := inR) hpi
    have hany : decide ((parts t)[i] < 0 ∨ (n : Int) ≤ (parts t)[i]) = true → (parts t).any (fun p => decide (p < 0 ∨ (n : Int) ≤ p)) = true := any_hit (p := fun p => decide (p < 0 ∨ (n : Int) ≤ p)) hpi
    have hnx := none'_succ hno hpi
    generalize (parts t)[i] = x at *
    (first | refine au ?_ | exact au0 | fail)
    rw [hge]
    (first | refine au ?_ | exact au0 | fail)
    (repeat' (first | (refine au ?_; first | refine bsplit_dec (fun _ => ?_) (fun _ => ?_) | refine bsplit_intro (fun _ => ?_) (fun _ => ?_)) | exact au0 | fail)); (all_goals try (first | refine au ?_ | fail))
    · rw [hany (decide_eq_true (by omega))]
      exact ⟨fz_of, sub_of⟩
    · rw [hany (decide_eq_true (by omega))]
      exact ⟨fz_of, sub_of⟩
    · refine nextN (by repeat (first | exact trivial | refine And.intro (Or.inl rfl) ?_ | refine And.intro (Or.inr (Exists.intro _ (And.intro rfl (Fz.refl _)))) ?_ | refine And.intro (Or.inr (Exists.intro _ (And.intro rfl (fz_eq (congrArg (AV.int _) (by omega)))))) ?_ | refine And.intro (Or.inr (Exists.intro _ (And.intro rfl (fz_eq (congrArg (AV.own _ _ _) (by (try dsimp only); (try simp only [List.length_append, List.length_map, List.length_cons, List.length_nil, List.length_take, List.length_set, List.length_replicate]); (try dsimp only); first | done | omega)))))) ?_)) (by exact sub_of) (by omega) (hnx (decide_eq_false (by omega)))
  · have hany := none'_end hno (show (parts t).length ≤ i by omega)
    rw [hany]
    (first | refine au ?_ | exact au0 | fail)
    refine bsplit_dec (fun h => ?_) (fun h => ?_)
    · have hm := parts_tag h
      rw [List.any_eq_false] at hany
      have hq := hany _ hm
      simp only [decide_eq_true_eq] at hq
      have hge := row_get (f := tyR) (l := l) (i := t.tg.toNat) (by omega)
      rw [Int.toNat_natCast] at hge
      have htt : tAt l t.tg = l[t.tg.toNat]'(by omega) := by unfold tAt; simp [List.getD, show t.tg.toNat < l.length from by omega]
      generalize l[t.tg.toNat]'(by omega) = g at *
      (first | refine au ?_ | exact au0 | fail)
      rw [hge]
      (first | refine au ?_ | exact au0 | fail)
      first | refine callF_eq (prim_Number_spec _ _) ?_ | refine callG_eq rfl (prim_Number_spec _ _) ?_
      rw [htt]
      cases hI : isNum g.kd
      · (first | refine au ?_ | exact au0 | fail)
        exact ⟨fz_eq (by simp [h]), sub_of⟩
      · (first | refine au ?_ | exact au0 | fail)
        exact ⟨fz_eq (by simp), sub_of⟩
    · (first | refine au ?_ | exact au0 | fail)
      exact ⟨fz_eq (by simp [h]), sub_of⟩
end Go.Proofs.Ytodiahhfpcdejaa

/- Types, walked: an item's place. -/
namespace Go.Proofs.Ytodiahhfpcdejaa
set_option autoImplicit false
set_option linter.unusedSimpArgs false
set_option linter.unusedVariables false
attribute [local irreducible] callA callP ACalls
def fIx (l : List Ty) (t : Int) (kp : Int → Bool) (hp : It → Bool) : Option Nat := if 0 ≤ t ∧ t < l.length ∧ kp (tAt l t).kd = true then (tAt l t).its.findIdx? hp else none
abbrev ixA : Option Nat → AV
  | some n => .tup [.int .i64 (n : Nat), .bool true]
  | none => .tup [.int .i64 0, .bool false]
theorem tAt_get {l : List Ty} {t : Int} (h0 : 0 ≤ t) (h : t < l.length) : (l.map tyR).getD t.toNat [] = tyR (tAt l t) := by
  unfold tAt; simp [List.getD, show t.toNat < l.length from by omega]
theorem tAt_mem {l : List Ty} {t : Int} (h0 : 0 ≤ t) (h : t < l.length) : tAt l t ∈ l := by
  have : t.toNat < l.length := by omega
  unfold tAt; simp [List.getD, this]
theorem find_spec (l : List Ty) (hl : TysOk l) (t : Int) (f1 f2 : Nat) (c1 c2 : List AV) (kp : Int → Bool) (hp : It → Bool) (Hs : AH) (h1 : ∀ k, ACalls PG f1 (.int .i64 k :: c1) Hs fun r H' => r = .bool (kp k) ∧ H' = Hs)
    (h2 : ∀ x, ACalls PG f2 (.agg (itR x) :: c2) Hs fun r H' => r = .bool (hp x) ∧ H' = Hs) : ACalls PG types_find.n [tysA l, .int .i64 t, .clo f1 [] c1, .clo f2 [] c2] Hs fun r H' => r = ixA (fIx l t kp hp) ∧ H' = Hs := by
  have hlen : (l.map tyR).length = l.length := by simp
  have hll := hl.len
  refine ACalls.fz (types_find.of rfl (wpF_start ?_))
  unfold fIx
  (first | refine au ?_ | exact au0 | fail)
  by_cases hb : 0 ≤ t ∧ t < l.length
  · have hge := tAt_get hb.1 hb.2
    have hti := (hl.all _ (tAt_mem hb.1 hb.2)).its
    generalize tAt l t = g at *
    have hlen2 : (g.its.map itR).length = g.its.length := by simp
    (first | refine au ?_ | exact au0 | fail)
    rw [hge]
    (first | refine au ?_ | exact au0 | fail)
    first | refine callF_eq (h1 _) ?_ | refine callG_eq rfl (h1 _) ?_
    cases hk : kp g.kd
    · (first | refine au ?_ | exact au0 | fail)
      rw [if_neg (by simp)]
      exact ⟨fz_of, sub_of⟩
    · rw [if_pos ⟨hb.1, hb.2, rfl⟩]
      (first | refine au ?_ | exact au0 | fail)
      rw [hge]
      (first | refine au ?_ | exact au0 | fail)
      refine loopL [(3, some _), (34, some _), (35, some _)] 36 0 g.its.length (none' hp g.its) (by repeat (first | exact trivial | refine And.intro (Or.inl rfl) ?_ | refine And.intro (Or.inr (Exists.intro _ (And.intro rfl (Fz.refl _)))) ?_ | refine And.intro (Or.inr (Exists.intro _ (And.intro rfl (fz_eq (congrArg (AV.int _) (by omega)))))) ?_ | refine And.intro (Or.inr (Exists.intro _ (And.intro rfl (fz_eq (congrArg (AV.own _ _ _) (by (try dsimp only); (try simp only [List.length_append, List.length_map, List.length_cons, List.length_nil, List.length_take, List.length_set, List.length_replicate]); (try dsimp only); first | done | omega)))))) ?_)) (Nat.zero_le _) none'_zero (fun i hi hno => ?_)
      (first | refine au ?_ | exact au0 | fail)
      refine bsplit_dec (fun c => ?_) (fun c => ?_)
      · have hil : i < g.its.length := by omega
        have hge2 := row_get (f := itR) hil
        have hhit : hp g.its[i] = true → g.its.findIdx? hp = some i := find_hit hno hil
        have hnx := none'_succ hno hil
        generalize g.its[i] = x at *
        (first | refine au ?_ | exact au0 | fail)
        rw [hge2]
        (first | refine au ?_ | exact au0 | fail)
        intro id9 hid9 ht9; have n9 := neAll_of hid9; (try simp only [neAll, neAll_hset] at n9); have m9 := n9; (repeat (obtain ⟨_, m9⟩ := m9))
        (first | refine au ?_ | exact au0 | fail)
        first | refine callF_eq ((h2 x).sup (by exact sub_of)) ?_ | refine callG_eq rfl ((h2 x).sup (by exact sub_of)) ?_
        cases hx : hp x
        · (first | refine au ?_ | exact au0 | fail)
          refine nextN (by repeat (first | exact trivial | refine And.intro (Or.inl rfl) ?_ | refine And.intro (Or.inr (Exists.intro _ (And.intro rfl (Fz.refl _)))) ?_ | refine And.intro (Or.inr (Exists.intro _ (And.intro rfl (fz_eq (congrArg (AV.int _) (by omega)))))) ?_ | refine And.intro (Or.inr (Exists.intro _ (And.intro rfl (fz_eq (congrArg (AV.own _ _ _) (by (try dsimp only); (try simp only [List.length_append, List.length_map, List.length_cons, List.length_nil, List.length_take, List.length_set, List.length_replicate]); (try dsimp only); first | done | omega)))))) ?_)) (by exact sub_of) (by omega) (hnx hx)
        · (first | refine au ?_ | exact au0 | fail)
          rw [hhit hx]
          exact ⟨fz_of, sub_of⟩
      · (first | refine au ?_ | exact au0 | fail)
        rw [find_none hno (by omega)]
        exact ⟨fz_of, sub_of⟩
  · rw [if_neg (fun q => hb ⟨q.1, q.2.1⟩)]
    (repeat' (first | (refine au ?_; first | refine bsplit_dec (fun _ => ?_) (fun _ => ?_) | refine bsplit_intro (fun _ => ?_) (fun _ => ?_)) | exact au0 | fail)); (all_goals try (first | refine au ?_ | fail))
    all_goals first | omega | exact ⟨fz_of, sub_of⟩
theorem Value1_spec (k : Int) (H : AH) : ACalls PG types_Value_1.n [.int .i64 k] H fun r H' => r = .bool (decide (k = 9)) ∧ H' = H := by
  refine ACalls.fz (types_Value_1.of rfl (wpF_start ?_))
  (first | refine au ?_ | exact au0 | fail)
  exact ⟨fz_of, sub_of⟩
theorem Value2_spec (x : It) (n id : Nat) : ACalls PG types_Value_2.n [.agg (itR x), .ptr id 1 0 0] [(id, .rows 1 [[.int .u64 (n : Nat)]])] fun r H' => r = .bool (x.num == n) ∧ H' = [(id, .rows 1 [[.int .u64 (n : Nat)]])] := by
  refine ACalls.fz (types_Value_2.of' (Nat.le_of_ble_eq_true rfl) (wpF_start ?_))
  (first | refine au ?_ | exact au0 | fail)
  intro id2 hid2 ht2; have n2 := neAll_of hid2; (try simp only [neAll, neAll_hset] at n2); have m2 := n2; (repeat (obtain ⟨_, m2⟩ := m2))
  (first | refine au ?_ | exact au0 | fail)
  refine ⟨fz_eq (congrArg AV.bool ?_), sub_of⟩
  rw [Bool.eq_iff_iff]; simp; omega
theorem fIx_val (l : List Ty) (t : Int) (n : Nat) : fIx l t (fun k => decide (k = 9)) (fun x => x.num == n) = valIx l t n := by
  unfold fIx valIx; simp only [decide_eq_true_eq]
theorem Value_spec (l : List Ty) (hl : TysOk l) (t : Int) (n : Nat) (H : AH) : ACalls PG types_Value.n [tysA l, .int .i64 t, .int .u64 (n : Nat)] H fun r H' => r = ixA (valIx l t n) ∧ H' = H := by
  refine ACalls.fz (types_Value.of rfl (wpF_start ?_))
  rw [← fIx_val]
  (first | refine au ?_ | exact au0 | fail)
  intro id5 hid5 ht5; have n5 := neAll_of hid5; (try simp only [neAll, neAll_hset] at n5); have m5 := n5; (repeat (obtain ⟨_, m5⟩ := m5))
  (first | refine au ?_ | exact au0 | fail)
  first | refine callF_eq ((find_spec l hl t types_Value_1.n types_Value_2.n [] [.ptr id5 1 0 0] (fun k => decide (k = 9)) (fun x => x.num == n) _ (fun k => Value1_spec k _) (fun x => Value2_spec x n id5)).sup (by exact sub_of)) ?_ | refine callG_eq rfl ((find_spec l hl t types_Value_1.n types_Value_2.n [] [.ptr id5 1 0 0] (fun k => decide (k = 9)) (fun x => x.num == n) _ (fun k => Value1_spec k _) (fun x => Value2_spec x n id5)).sup (by exact sub_of)) ?_
  cases fIx l t (fun k => decide (k = 9)) (fun x => x.num == n) with
  | some m =>
    (first | refine au ?_ | exact au0 | fail)
    exact ⟨fz_of, sub_of⟩
  | none =>
    (first | refine au ?_ | exact au0 | fail)
    exact ⟨fz_of, sub_of⟩
theorem Branch1_spec (k : Int) (H : AH) : ACalls PG types_Branch_1.n [.int .i64 k] H fun r H' => r = .bool (decide (k = 14)) ∧ H' = H := by
  refine ACalls.fz (types_Branch_1.of rfl (wpF_start ?_))
  (first | refine au ?_ | exact au0 | fail)
  exact ⟨fz_of, sub_of⟩
theorem Branch2_spec (x : It) (n id : Nat) : ACalls PG types_Branch_2.n [.agg (itR x), .ptr id 1 0 0] [(id, .rows 1 [[.int .u64 (n : Nat)]])] fun r H' => r = .bool (x.num == n && !x.rest) ∧ H' = [(id, .rows 1 [[.int .u64 (n : Nat)]])] := by
  refine ACalls.fz (types_Branch_2.of' (Nat.le_of_ble_eq_true rfl) (wpF_start ?_))
  (first | refine au ?_ | exact au0 | fail)
  intro id2 hid2 ht2; have n2 := neAll_of hid2; (try simp only [neAll, neAll_hset] at n2); have m2 := n2; (repeat (obtain ⟨_, m2⟩ := m2))
  (first | refine au ?_ | exact au0 | fail)
  refine bsplit_dec (fun c => ?_) (fun c => ?_)
  · (first | refine au ?_ | exact au0 | fail)
    refine ⟨fz_eq (congrArg AV.bool ?_), sub_of⟩
    have : x.num = n := by omega
    simp [this]
  · (first | refine au ?_ | exact au0 | fail)
    refine ⟨fz_eq (congrArg AV.bool ?_), sub_of⟩
    have : ¬ x.num = n := by omega
    simp [this]
theorem Branch3_spec (x : It) (H : AH) : ACalls PG types_Branch_3.n [.agg (itR x)] H fun r H' => r = .bool x.rest ∧ H' = H := by
  refine ACalls.fz (types_Branch_3.of rfl (wpF_start ?_))
  (first | refine au ?_ | exact au0 | fail)
  intro id1 hid1 ht1; have n1 := neAll_of hid1; (try simp only [neAll, neAll_hset] at n1); have m1 := n1; (repeat (obtain ⟨_, m1⟩ := m1))
  (first | refine au ?_ | exact au0 | fail)
  exact ⟨fz_of, sub_of⟩
theorem fIx_br (l : List Ty) (t : Int) (n : Nat) : (fIx l t (fun k => decide (k = 14)) (fun x => x.num == n && !x.rest)).or (fIx l t (fun k => decide (k = 14)) (·.rest)) = brIx l t n := by
  unfold fIx brIx; simp only [decide_eq_true_eq]; split <;> rfl
theorem Branch_spec (l : List Ty) (hl : TysOk l) (t : Int) (n : Nat) (H : AH) : ACalls PG types_Branch.n [tysA l, .int .i64 t, .int .u64 (n : Nat)] H fun r H' => r = ixA (brIx l t n) ∧ H' = H := by
  refine ACalls.fz (types_Branch.of rfl (wpF_start ?_))
  rw [← fIx_br]
  (first | refine au ?_ | exact au0 | fail)
  intro id5 hid5 ht5; have n5 := neAll_of hid5; (try simp only [neAll, neAll_hset] at n5); have m5 := n5; (repeat (obtain ⟨_, m5⟩ := m5))
  (first | refine au ?_ | exact au0 | fail)
  first | refine callF_eq ((find_spec l hl t types_Branch_1.n types_Branch_2.n [] [.ptr id5 1 0 0] (fun k => decide (k = 14)) (fun x => x.num == n && !x.rest) _ (fun k => Branch1_spec k _) (fun x => Branch2_spec x n id5)).sup (by exact sub_of)) ?_ | refine callG_eq rfl ((find_spec l hl t types_Branch_1.n types_Branch_2.n [] [.ptr id5 1 0 0] (fun k => decide (k = 14)) (fun x => x.num == n && !x.rest) _ (fun k => Branch1_spec k _) (fun x => Branch2_spec x n id5)).sup (by exact sub_of)) ?_
  cases fIx l t (fun k => decide (k = 14)) (fun x => x.num == n && !x.rest) with
  | some m =>
    (first | refine au ?_ | exact au0 | fail)
    exact ⟨fz_of, sub_of⟩
  | none =>
    (first | refine au ?_ | exact au0 | fail)
    first | refine callF_eq (find_spec l hl t types_Branch_1.n types_Branch_3.n [] [] (fun k => decide (k = 14)) (fun x => x.rest) _ (fun k => Branch1_spec k _) (fun x => Branch3_spec x _)) ?_ | refine callG_eq rfl (find_spec l hl t types_Branch_1.n types_Branch_3.n [] [] (fun k => decide (k = 14)) (fun x => x.rest) _ (fun k => Branch1_spec k _) (fun x => Branch3_spec x _)) ?_
    cases fIx l t (fun k => decide (k = 14)) (fun x => x.rest) with
    | some m =>
      (first | refine au ?_ | exact au0 | fail)
      exact ⟨fz_of, sub_of⟩
    | none =>
      (first | refine au ?_ | exact au0 | fail)
      exact ⟨fz_of, sub_of⟩
/-- Are the parts' places ahead? -/
theorem orderE_in {l : List Ty} {t : Ty} {n : Nat} (h : orderE l t n = 0) : ∀ p ∈ parts t, 0 ≤ p ∧ p < n := by
  intro p hp
  unfold orderE at h
  split at h
  · cases h
  · rename_i hn
    have := List.any_eq_false.1 (by simpa using hn : (parts t).any (fun p => decide (p < 0 ∨ (n : Int) ≤ p)) = false) p hp
    simp only [decide_eq_true_eq] at this
    omega
theorem may_spec (l : List Ty) (hl : TysOk l) (n : Nat) (t : Ty) (hn : n ≤ l.length) (hN : kNm t.kd = true) (h13 : t.kd ≠ 13) (ho : orderE l t n = 0) (m : Nat) (id : Nat) : SW PG types_look_may.n [.ptr id 8 0 0, .int .u64 (m : Nat)] id (kB l n t) [] (.bool (mayT l t m)) (kB l n t) := by
  have hlen : (l.map tyR).length = l.length := by simp
  have hll := hl.len
  refine ACalls.fz (types_look_may.of rfl (wpF_start ?_))
  unfold mayT
  (first | refine au ?_ | exact au0 | fail)
  refine bsplit_dec (fun c => ?_) (fun c => ?_)
  · rw [if_pos c]
    (first | refine au ?_ | exact au0 | fail)
    first | refine callF_eq (prim_May_spec _ m _) ?_ | refine callG_eq rfl (prim_May_spec _ m _) ?_
    (first | refine au ?_ | exact au0 | fail)
    exact ⟨fz_of, sub_of⟩
  · rw [if_neg c]
    have h14 : t.kd = 14 := by rcases kd4 hN with h | h | h <;> omega
    have hin := orderE_in ho _ (parts_tag h14)
    have hge := tAt_get (l := l) hin.1 (by omega)
    generalize hg : tAt l t.tg = g at *
    (first | refine au ?_ | exact au0 | fail)
    rw [hge]
    (first | refine au ?_ | exact au0 | fail)
    intro id4 hid4 ht4; have n4 := neAll_of hid4; (try simp only [neAll, neAll_hset] at n4); have m4 := n4; (repeat (obtain ⟨_, m4⟩ := m4))
    (first | refine au ?_ | exact au0 | fail)
    refine bsplit_dec (fun c2 => ?_) (fun c2 => ?_)
    · rw [if_pos c2]
      have hV := fun H => Value_spec l hl t.tg m H
      generalize valIx l t.tg m = o at *
      cases o with
      | some k =>
        (first | refine au ?_ | exact au0 | fail)
        first | refine callF_eq (hV _) ?_ | refine callG_eq rfl (hV _) ?_
        (first | refine au ?_ | exact au0 | fail)
        exact ⟨fz_of, sub_of⟩
      | none =>
        (first | refine au ?_ | exact au0 | fail)
        first | refine callF_eq (hV _) ?_ | refine callG_eq rfl (hV _) ?_
        (first | refine au ?_ | exact au0 | fail)
        exact ⟨fz_of, sub_of⟩
    · rw [if_neg c2]
      (first | refine au ?_ | exact au0 | fail)
      first | refine callF_eq (prim_May_spec _ m _) ?_ | refine callG_eq rfl (prim_May_spec _ m _) ?_
      (first | refine au ?_ | exact au0 | fail)
      exact ⟨fz_of, sub_of⟩
end Go.Proofs.Ytodiahhfpcdejaa

/- Types, walked: a type's items. -/
namespace Go.Proofs.Ytodiahhfpcdejaa
set_option autoImplicit false
set_option linter.unusedSimpArgs false
set_option linter.unusedVariables false
attribute [local irreducible] callA callP ACalls
theorem getD_get {α : Type} {l : List α} {i : Nat} {d : α} (h : i < l.length) : l.getD i d = l[i] := by simp [List.getD, h]
theorem parts_item {t : Ty} (h : t.kd = 13 ∨ t.kd = 14) {x : It} (hx : x ∈ t.its) : x.ty ∈ parts t := by
  unfold parts; rw [if_pos h]; simp only [List.mem_append]; exact .inr (List.mem_map_of_mem hx)
theorem item_spec (l : List Ty) (hl : TysOk l) (n : Nat) (t : Ty) (hok : TyOk t) (hn : n ≤ l.length) (hN : kNm t.kd = true) (ho : orderE l t n = 0) (i : Nat) (hi : i < t.its.length) (id : Nat) :
    SW PG types_look_item.n [.ptr id 8 0 0, .int .i64 (i : Nat)] id (kB l n t) [] (.int .i64 (itemE l t i)) (kB l n t) := by
  have hlen : (t.its.map itR).length = t.its.length := by simp
  have hll := hl.len
  have hli := hok.its
  have hge := row_get (f := itR) hi
  have hx := List.getElem_mem hi
  have hsn := hok.nms _ hx
  have hpt := fun h => parts_item (t := t) h hx
  have hmay := fun h13 => may_spec l hl n t hn hN h13 ho t.its[i].num id
  refine ACalls.fz (types_look_item.of rfl (wpF_start ?_))
  unfold itemE
  dsimp only
  rw [getD_get hi]
  generalize t.its[i] = x at *
  (first | refine au ?_ | exact au0 | fail)
  rw [hge]
  (first | refine au ?_ | exact au0 | fail)
  intro id5 hid5 ht5; have n5 := neAll_of hid5; (try simp only [neAll, neAll_hset] at n5); have m5 := n5; (repeat (obtain ⟨_, m5⟩ := m5))
  (first | refine au ?_ | exact au0 | fail)
  first | refine callF_eq (name_Name_spec _ hsn _) ?_ | refine callG_eq rfl (name_Name_spec _ hsn _) ?_
  cases hO : nameOk x.nm
  · (first | refine au ?_ | exact au0 | fail)
    exact ⟨fz_of, sub_of⟩
  rw [if_pos rfl]
  (first | refine au ?_ | exact au0 | fail)
  have e1 : List.drop (Int.toNat 0) (List.take (Int.toNat (i : Nat)) (t.its.map itR)) = (t.its.take i).map itR := by simp
  have hl2 : (t.its.take i).length = i := by rw [List.length_take]; omega
  have hlen2 : ((t.its.take i).map itR).length = i := by simp; omega
  rw [e1]
  refine loopL [(0, some _), (1, some _), (5, some _), (29, some _), (30, some _)] 31 0 i (none' (fun y => y.nm == x.nm) (t.its.take i)) (by repeat (first | exact trivial | refine And.intro (Or.inl rfl) ?_ | refine And.intro (Or.inr (Exists.intro _ (And.intro rfl (Fz.refl _)))) ?_ | refine And.intro (Or.inr (Exists.intro _ (And.intro rfl (fz_eq (congrArg (AV.int _) (by omega)))))) ?_ | refine And.intro (Or.inr (Exists.intro _ (And.intro rfl (fz_eq (congrArg (AV.own _ _ _) (by (try dsimp only); (try simp only [List.length_append, List.length_map, List.length_cons, List.length_nil, List.length_take, List.length_set, List.length_replicate]); (try dsimp only); first | done | omega)))))) ?_)) (Nat.zero_le _) none'_zero (fun j hj hno => ?_)
  (first | refine au ?_ | exact au0 | fail)
  refine bsplit_dec (fun c => ?_) (fun c => ?_)
  · have hil : j < (t.its.take i).length := by omega
    have hge2 := row_get (f := itR) hil
    have hany : ((t.its.take i)[j].nm == x.nm) = true → (t.its.take i).any (fun y => y.nm == x.nm) = true := any_hit (p := fun y : It => y.nm == x.nm) hil
    have hnx := none'_succ hno hil
    generalize (t.its.take i)[j] = y at *
    (first | refine au ?_ | exact au0 | fail)
    rw [hge2]
    (first | refine au ?_ | exact au0 | fail)
    intro id7 hid7 ht7; have n7 := neAll_of hid7; (try simp only [neAll, neAll_hset] at n7); have m7 := n7; (repeat (obtain ⟨_, m7⟩ := m7))
    (first | refine au ?_ | exact au0 | fail)
    refine bsplit_dec (fun h => ?_) (fun h => ?_)
    · (first | refine au ?_ | exact au0 | fail)
      rw [hany (by simpa using h)]
      exact ⟨fz_of, sub_of⟩
    · (first | refine au ?_ | exact au0 | fail)
      refine nextN (by repeat (first | exact trivial | refine And.intro (Or.inl rfl) ?_ | refine And.intro (Or.inr (Exists.intro _ (And.intro rfl (Fz.refl _)))) ?_ | refine And.intro (Or.inr (Exists.intro _ (And.intro rfl (fz_eq (congrArg (AV.int _) (by omega)))))) ?_ | refine And.intro (Or.inr (Exists.intro _ (And.intro rfl (fz_eq (congrArg (AV.own _ _ _) (by (try dsimp only); (try simp only [List.length_append, List.length_map, List.length_cons, List.length_nil, List.length_take, List.length_set, List.length_replicate]); (try dsimp only); first | done | omega)))))) ?_)) (by exact sub_of) (by omega) (hnx (by simpa using h))
  rw [none'_end hno (by omega), if_neg Bool.false_ne_true]
  (first | refine au ?_ | exact au0 | fail)
  refine bsplit_dec (fun h13 => ?_) (fun h13 => ?_)
  · have hin := orderE_in ho _ (hpt (.inl h13))
    have hge3 := tAt_get (l := l) hin.1 (by omega)
    rw [if_pos h13]
    generalize tAt l x.ty = g at *
    (first | refine au ?_ | exact au0 | fail)
    rw [hge3]
    cases hkey : x.key
    all_goals (repeat' (first | (refine au ?_; first | refine callF_eq (prim_Number_spec _ _) ?_ | refine bsplit_dec (fun _ => ?_) (fun _ => ?_) | refine bsplit_intro (fun _ => ?_) (fun _ => ?_)) | exact au0 | fail)); (all_goals try (first | refine au ?_ | fail))
    all_goals (refine ⟨fz_eq (congrArg (AV.int .i64) ?_), sub_of⟩; first | (simp only [isNum, decide_eq_false_iff_not, true_and, Bool.false_eq_true, false_and, if_false]; done) | (simp only [isNum, decide_eq_false_iff_not, true_and, Bool.false_eq_true, false_and, if_false]; split <;> omega))
  · rw [if_neg h13]
    have hm := hmay h13
    cases hr : x.rest
    · (first | refine au ?_ | exact au0 | fail)
      refine hm.call (by exact hg_of) (Sub.nil _) ?_
      cases hy : mayT l t x.num
      · (first | refine au ?_ | exact au0 | fail)
        exact ⟨fz_of, sub_of⟩
      (first | refine au ?_ | exact au0 | fail)
      rw [e1]
      refine loopL [(5, some _), (97, some _), (98, some _)] 99 0 i (none' (fun y => y.num == x.num) (t.its.take i)) (by repeat (first | exact trivial | refine And.intro (Or.inl rfl) ?_ | refine And.intro (Or.inr (Exists.intro _ (And.intro rfl (Fz.refl _)))) ?_ | refine And.intro (Or.inr (Exists.intro _ (And.intro rfl (fz_eq (congrArg (AV.int _) (by omega)))))) ?_ | refine And.intro (Or.inr (Exists.intro _ (And.intro rfl (fz_eq (congrArg (AV.own _ _ _) (by (try dsimp only); (try simp only [List.length_append, List.length_map, List.length_cons, List.length_nil, List.length_take, List.length_set, List.length_replicate]); (try dsimp only); first | done | omega)))))) ?_)) (Nat.zero_le _) none'_zero (fun j hj hno => ?_)
      (first | refine au ?_ | exact au0 | fail)
      refine bsplit_dec (fun c => ?_) (fun c => ?_)
      · have hil : j < (t.its.take i).length := by omega
        have hge2 := row_get (f := itR) hil
        have hany : ((t.its.take i)[j].num == x.num) = true → (t.its.take i).any (fun y => y.num == x.num) = true := any_hit (p := fun y : It => y.num == x.num) hil
        have hnx := none'_succ hno hil
        generalize (t.its.take i)[j] = y at *
        (first | refine au ?_ | exact au0 | fail)
        rw [hge2]
        (first | refine au ?_ | exact au0 | fail)
        intro id7 hid7 ht7; have n7 := neAll_of hid7; (try simp only [neAll, neAll_hset] at n7); have m7 := n7; (repeat (obtain ⟨_, m7⟩ := m7))
        (first | refine au ?_ | exact au0 | fail)
        refine bsplit_dec (fun h => ?_) (fun h => ?_)
        · (first | refine au ?_ | exact au0 | fail)
          rw [hany (by simp; omega)]
          exact ⟨fz_of, sub_of⟩
        · (first | refine au ?_ | exact au0 | fail)
          refine nextN (by repeat (first | exact trivial | refine And.intro (Or.inl rfl) ?_ | refine And.intro (Or.inr (Exists.intro _ (And.intro rfl (Fz.refl _)))) ?_ | refine And.intro (Or.inr (Exists.intro _ (And.intro rfl (fz_eq (congrArg (AV.int _) (by omega)))))) ?_ | refine And.intro (Or.inr (Exists.intro _ (And.intro rfl (fz_eq (congrArg (AV.own _ _ _) (by (try dsimp only); (try simp only [List.length_append, List.length_map, List.length_cons, List.length_nil, List.length_take, List.length_set, List.length_replicate]); (try dsimp only); first | done | omega)))))) ?_)) (by exact sub_of) (by omega) (hnx (by simp; omega))
      · rw [none'_end hno (by omega)]
        (first | refine au ?_ | exact au0 | fail)
        exact ⟨fz_of, sub_of⟩
    · rw [if_pos (rfl : true = true)]
      (first | refine au ?_ | exact au0 | fail)
      refine bsplit_dec (fun c => ?_) (fun c => ?_)
      · (first | refine au ?_ | exact au0 | fail)
        refine ⟨fz_eq (congrArg (AV.int .i64) ?_), sub_of⟩
        rw [if_neg (by omega)]
      · (first | refine au ?_ | exact au0 | fail)
        refine ⟨fz_eq (congrArg (AV.int .i64) ?_), sub_of⟩
        rw [if_pos (by omega)]
theorem items_spec (l : List Ty) (hl : TysOk l) (n : Nat) (t : Ty) (hok : TyOk t) (hn : n ≤ l.length) (ho : orderE l t n = 0) (id : Nat) :
    SW PG types_look_items.n [.ptr id 8 0 0] id (kB l n t) [] (.int .i64 (itemsE l t)) (kB l n t) := by
  have hlen : (t.its.map itR).length = t.its.length := by simp
  have hli := hok.its
  refine ACalls.fz (types_look_items.of rfl (wpF_start ?_))
  unfold itemsE
  (first | refine au ?_ | exact au0 | fail)
  first | refine callF_eq (has_spec _ _) ?_ | refine callG_eq rfl (has_spec _ _) ?_
  cases hN : kNm t.kd
  · (first | refine au ?_ | exact au0 | fail)
    exact ⟨fz_of, sub_of⟩
  rw [if_pos rfl]
  (first | refine au ?_ | exact au0 | fail)
  refine bsplit_dec (fun c => ?_) (fun c => ?_)
  · (first | refine au ?_ | exact au0 | fail)
    exact ⟨fz_eq (congrArg (AV.int .i64) (by rw [if_pos (by omega)])), sub_of⟩
  rw [if_neg (by omega)]
  (first | refine au ?_ | exact au0 | fail)
  refine bsplit_dec (fun c2 => ?_) (fun c2 => ?_)
  · (first | refine au ?_ | exact au0 | fail)
    exact ⟨fz_eq (congrArg (AV.int .i64) (by rw [if_pos (by omega)])), sub_of⟩
  rw [if_neg (by omega)]
  (first | refine au ?_ | exact au0 | fail)
  have hgl : ∀ (k : Nat) (h : k < ((List.range t.its.length).map (itemE l t)).length), ((List.range t.its.length).map (itemE l t))[k] = itemE l t k := fun k h => by simp
  have hlm : ((List.range t.its.length).map (itemE l t)).length = t.its.length := by simp
  refine loopL [(0, some _), (40, some _)] 41 0 t.its.length (fun i => ∀ k, k < i → itemE l t k = 0) (by repeat (first | exact trivial | refine And.intro (Or.inl rfl) ?_ | refine And.intro (Or.inr (Exists.intro _ (And.intro rfl (Fz.refl _)))) ?_ | refine And.intro (Or.inr (Exists.intro _ (And.intro rfl (fz_eq (congrArg (AV.int _) (by omega)))))) ?_ | refine And.intro (Or.inr (Exists.intro _ (And.intro rfl (fz_eq (congrArg (AV.own _ _ _) (by (try dsimp only); (try simp only [List.length_append, List.length_map, List.length_cons, List.length_nil, List.length_take, List.length_set, List.length_replicate]); (try dsimp only); first | done | omega)))))) ?_)) (Nat.zero_le _) (fun k h => by omega) (fun i hi hno => ?_)
  (first | refine au ?_ | exact au0 | fail)
  refine bsplit_dec (fun c3 => ?_) (fun c3 => ?_)
  · have hil : i < t.its.length := by omega
    (first | refine au ?_ | exact au0 | fail)
    refine (item_spec l hl n t hok hn hN ho i hil id).call (by exact hg_of) (Sub.nil _) ?_
    (first | refine au ?_ | exact au0 | fail)
    refine bsplit_dec (fun h => ?_) (fun h => ?_)
    · (first | refine au ?_ | exact au0 | fail)
      rw [fst0_hit (i := i) (fun k hk h3 => by rw [hgl]; exact hno k h3) (by omega) (by rw [hgl]; exact h), hgl]
      exact ⟨fz_of, sub_of⟩
    · (first | refine au ?_ | exact au0 | fail)
      refine nextN (by repeat (first | exact trivial | refine And.intro (Or.inl rfl) ?_ | refine And.intro (Or.inr (Exists.intro _ (And.intro rfl (Fz.refl _)))) ?_ | refine And.intro (Or.inr (Exists.intro _ (And.intro rfl (fz_eq (congrArg (AV.int _) (by omega)))))) ?_ | refine And.intro (Or.inr (Exists.intro _ (And.intro rfl (fz_eq (congrArg (AV.own _ _ _) (by (try dsimp only); (try simp only [List.length_append, List.length_map, List.length_cons, List.length_nil, List.length_take, List.length_set, List.length_replicate]); (try dsimp only); first | done | omega)))))) ?_)) (by exact sub_of) (by omega) (fun k hk => ?_)
      by_cases e : k = i
      · subst e; exact Classical.not_not.1 h
      · exact hno k (by omega)
  · (first | refine au ?_ | exact au0 | fail)
    rw [fst0_end (fun k hk => by rw [hgl]; exact hno k (by omega))]
    exact ⟨fz_of, sub_of⟩
end Go.Proofs.Ytodiahhfpcdejaa

/- Types, walked: how deep. -/
namespace Go.Proofs.Ytodiahhfpcdejaa
set_option autoImplicit false
set_option linter.unusedSimpArgs false
set_option linter.unusedVariables false
attribute [local irreducible] callA callP ACalls
abbrev naR (n : Nat) : List AV := [.int .i64 (n : Nat)]
/-- A part's depth, met. -/
def dpF (D : List Nat) (n : Nat) (m : Nat) (p : Int) : Nat := if 0 ≤ p ∧ p < (n : Int) then max m (D.getD p.toNat 0 + 1) else m
theorem dpT_succ (l : List Ty) (n : Nat) : dpT l (n + 1) = dpT l n ++ [(parts (l.getD n ty0)).foldl (dpF (dpT l n) n) 1] := rfl
theorem dpT_len (l : List Ty) : ∀ n, (dpT l n).length = n
  | 0 => rfl
  | n + 1 => by rw [dpT_succ, List.length_append, dpT_len l n]; rfl
theorem foldl_take {α β : Type} (f : β → α → β) (b : β) (l : List α) (i : Nat) (h : i < l.length) : (l.take (i + 1)).foldl f b = f ((l.take i).foldl f b) l[i] := by
  rw [List.take_add_one, List.getElem?_eq_getElem h, List.foldl_append]; rfl
theorem dpF_le {D : List Nat} {n b : Nat} (hD : ∀ x ∈ D, x ≤ b) : ∀ (ps : List Int) (m : Nat), m ≤ b + 1 → ps.foldl (dpF D n) m ≤ b + 1
  | [], m, h => h
  | p :: ps, m, h => by
    refine dpF_le hD ps _ ?_
    unfold dpF
    split
    · have : D.getD p.toNat 0 ≤ b := by
        by_cases hp : p.toNat < D.length
        · rw [getD_get hp]; exact hD _ (List.getElem_mem hp)
        · simp [List.getD, hp]
      omega
    · exact h
theorem dpT_le (l : List Ty) : ∀ n, ∀ x ∈ dpT l n, x ≤ n
  | 0, x, h => by cases h
  | n + 1, x, h => by
    rw [dpT_succ, List.mem_append] at h
    rcases h with h | h
    · have := dpT_le l n x h; omega
    · simp only [List.mem_singleton] at h
      rw [h]
      exact dpF_le (dpT_le l n) _ _ (by omega)
/-- Depths in memory: the first n, one, zeros. -/
def dpR (D : List Nat) (m k : Nat) : List (List AV) := (D ++ m :: List.replicate k 0).map naR
theorem dpR_set {D : List Nat} {m m' k n : Nat} (h : D.length = n) : (dpR D m k).set n (naR m') = dpR D m' k := by
  unfold dpR
  rw [← List.map_set, List.set_append_right _ _ (by omega)]
  simp [h]
theorem dpR_at {D : List Nat} {m k n : Nat} (h : D.length = n) : (dpR D m k)[n]? = some (naR m) := by
  unfold dpR; rw [List.getElem?_map, List.getElem?_append_right (by omega)]; simp [h]
theorem dpR_lt {D : List Nat} {m k p : Nat} (h : p < D.length) : (dpR D m k)[p]? = some (naR (D.getD p 0)) := by
  unfold dpR; rw [List.getElem?_map, List.getElem?_append_left h]; simp [List.getD, h]
theorem dpR_len (D : List Nat) (m k : Nat) : (dpR D m k).length = D.length + 1 + k := by simp [dpR]; omega
theorem Deep_spec0 (l : List Ty) (hl : TysOk l) (t : Int) : ACalls PG types_Deep.n [tysA l, .int .i64 t] [] fun r _ => r = .int .i64 (deepT l t : Nat) := by
  have hlen : (l.map tyR).length = l.length := by simp
  have hll := hl.len
  refine ACalls.fzK (types_Deep.of rfl (wpF_start ?_))
  unfold deepT
  by_cases hb : 0 ≤ t ∧ t < l.length
  · rw [if_pos hb]
    obtain ⟨n, rfl⟩ : ∃ n : Nat, t = n := ⟨t.toNat, by omega⟩
    rw [show Int.toNat (n : Nat) = n from rfl]
    (first | refine au ?_ | exact au0 | fail)
    intro id5 hid5 ht5; have n5 := neAll_of hid5; (try simp only [neAll, neAll_hset] at n5); have m5 := n5; (repeat (obtain ⟨_, m5⟩ := m5))
    (first | refine au ?_ | exact au0 | fail)
    rw [show ((n : Int) + 1).toNat = n + 1 from by omega]
    refine loopM (S := Nat) [(0, some _), (1, some _), (5, some _), (21, some _)] (fun i => [(22, some (.int .i64 (i : Nat)))]) (fun i => [(id5, .rows 1 ((dpT l i ++ List.replicate (n + 1 - i) 0).map naR))]) (fun i => n + 1 - i) (fun i => i ≤ n + 1) 0 (by repeat (first | exact trivial | refine And.intro (Or.inl rfl) ?_ | refine And.intro (Or.inr (Exists.intro _ (And.intro rfl (Fz.refl _)))) ?_ | refine And.intro (Or.inr (Exists.intro _ (And.intro rfl (fz_eq (congrArg (AV.int _) (by omega)))))) ?_ | refine And.intro (Or.inr (Exists.intro _ (And.intro rfl (fz_eq (congrArg (AV.own _ _ _) (by (try dsimp only); (try simp only [List.length_append, List.length_map, List.length_cons, List.length_nil, List.length_take, List.length_set, List.length_replicate]); (try dsimp only); first | done | omega)))))) ?_)) (by simp only [dpT, List.nil_append, List.map_replicate]; exact Sub.refl _) (by omega) (fun i hi => ?_)
    have hD := dpT_len l i
    have hDle := dpT_le l i
    (first | refine au ?_ | exact au0 | fail)
    refine bsplit_dec (fun c => ?_) (fun c => ?_)
    · have hin : i ≤ n := by omega
      have hB : (dpT l i ++ List.replicate (n + 1 - i) 0).map naR = dpR (dpT l i) 0 (n - i) := by
        unfold dpR; rw [show n + 1 - i = (n - i) + 1 from by omega, List.replicate_succ]
      rw [hB]
      have hil : i < l.length := by omega
      have hge := row_get (f := tyR) hil
      have hpe : l.getD i ty0 = l[i] := getD_get hil
      have hti := (hl.all _ (List.getElem_mem hil)).its
      (first | refine au ?_ | exact au0 | fail)
      refine ⟨_, _, (by exact hg_of), (by rw [Nat.zero_add, Int.toNat_natCast]; exact dpR_at hD), rfl, rfl, (Nat.le_of_ble_eq_true rfl), hsetN_of (b' := .rows 1 (dpR (dpT l i) 1 (n - i))) (by rw [Nat.zero_add, Int.toNat_natCast]; exact congrArg (Blk.rows 1) (dpR_set (m' := 1) hD)) ?_⟩
      (first | refine au ?_ | exact au0 | fail)
      rw [hge]
      have hps := dpT_succ l i
      rw [hpe] at hps
      generalize l[i] = g at *
      have hpl := parts_len g
      have hplm : ((parts g).map inR).length = (parts g).length := by simp
      (first | refine au ?_ | exact au0 | fail)
      first | refine callF_eq (parts_spec g hti _) ?_ | refine callG_eq rfl (parts_spec g hti _) ?_
      (first | refine au ?_ | exact au0 | fail)
      refine loopM (S := Nat) [(0, some _), (1, some _), (5, some _), (6, some _), (21, some _), (22, some _), (32, some _), (33, some _)] (fun j => [(34, some (.int .i64 (j : Nat)))]) (fun j => [(id5, .rows 1 (dpR (dpT l i) (((parts g).take j).foldl (dpF (dpT l i) i) 1) (n - i)))]) (fun j => (parts g).length - j) (fun j => j ≤ (parts g).length) 0 (by repeat (first | exact trivial | refine And.intro (Or.inl rfl) ?_ | refine And.intro (Or.inr (Exists.intro _ (And.intro rfl (Fz.refl _)))) ?_ | refine And.intro (Or.inr (Exists.intro _ (And.intro rfl (fz_eq (congrArg (AV.int _) (by omega)))))) ?_ | refine And.intro (Or.inr (Exists.intro _ (And.intro rfl (fz_eq (congrArg (AV.own _ _ _) (by (try dsimp only); (try simp only [List.length_append, List.length_map, List.length_cons, List.length_nil, List.length_take, List.length_set, List.length_replicate]); (try dsimp only); first | done | omega)))))) ?_)) (Sub.refl _) (by omega) (fun j hj => ?_)
      have hm := dpF_le (n := i) hDle ((parts g).take j) 1 (by omega)
      (first | refine au ?_ | exact au0 | fail)
      refine bsplit_dec (fun c2 => ?_) (fun c2 => ?_)
      · have hjl : j < (parts g).length := by omega
        have hge2 := row_get (f := inR) hjl
        have hft := foldl_take (dpF (dpT l i) i) 1 (parts g) j hjl
        generalize (parts g)[j] = p at *
        generalize ((parts g).take j).foldl (dpF (dpT l i) i) 1 = m at *
        (first | refine au ?_ | exact au0 | fail)
        rw [hge2]
        (first | refine au ?_ | exact au0 | fail)
        rw [show dpF (dpT l i) i m p = if 0 ≤ p ∧ p < (i : Int) then max m ((dpT l i).getD p.toNat 0 + 1) else m from rfl] at hft
        refine bsplit_dec (fun c3 => ?_) (fun c3 => ?_)
        · (first | refine au ?_ | exact au0 | fail)
          refine bsplit_dec (fun c4 => ?_) (fun c4 => ?_)
          · rw [if_pos (by omega)] at hft
            (first | refine au ?_ | exact au0 | fail)
            refine ⟨_, _, (by exact hg_of), (by rw [Nat.zero_add, Int.toNat_natCast]; exact dpR_at hD), ?_⟩
            (first | refine au ?_ | exact au0 | fail)
            have hpl : p.toNat < (dpT l i).length := by omega
            have hpv : (dpT l i).getD p.toNat 0 ≤ i := by rw [getD_get hpl]; exact hDle _ (List.getElem_mem hpl)
            refine ⟨_, _, (by exact hg_of), (by rw [Nat.zero_add]; exact dpR_lt hpl), ?_⟩
            (first | refine au ?_ | exact au0 | fail)
            refine ⟨_, _, (by exact hg_of), (by rw [Nat.zero_add, Int.toNat_natCast]; exact dpR_at hD), rfl, rfl, (Nat.le_of_ble_eq_true rfl), hsetN_of (b' := .rows 1 (dpR (dpT l i) (max m ((dpT l i).getD p.toNat 0 + 1)) (n - i))) (by
              rw [Nat.zero_add, Int.toNat_natCast]
              refine Eq.trans (congrArg (fun x : List AV => Blk.rows 1 (List.set (dpR (dpT l i) m (n - i)) i x)) ?_) (congrArg (Blk.rows 1) (dpR_set (m' := max m ((dpT l i).getD p.toNat 0 + 1)) hD))
              show [AV.int .i64 (max (m : Int) (((dpT l i).getD p.toNat 0 : Nat) + 1))] = [AV.int .i64 ((max m ((dpT l i).getD p.toNat 0 + 1) : Nat) : Int)]
              rw [cast_max]; rfl) ?_⟩
            (first | refine au ?_ | exact au0 | fail)
            refine nextS (S := Nat) (j + 1) (by repeat (first | exact trivial | refine And.intro (Or.inl rfl) ?_ | refine And.intro (Or.inr (Exists.intro _ (And.intro rfl (Fz.refl _)))) ?_ | refine And.intro (Or.inr (Exists.intro _ (And.intro rfl (fz_eq (congrArg (AV.int _) (by omega)))))) ?_ | refine And.intro (Or.inr (Exists.intro _ (And.intro rfl (fz_eq (congrArg (AV.own _ _ _) (by (try dsimp only); (try simp only [List.length_append, List.length_map, List.length_cons, List.length_nil, List.length_take, List.length_set, List.length_replicate]); (try dsimp only); first | done | omega)))))) ?_)) (by (try dsimp only); rw [hft]; exact Sub.refl _) (by first | omega | (dsimp only; omega)) hjl
          · rw [if_neg (by omega)] at hft
            (first | refine au ?_ | exact au0 | fail)
            refine nextS (S := Nat) (j + 1) (by repeat (first | exact trivial | refine And.intro (Or.inl rfl) ?_ | refine And.intro (Or.inr (Exists.intro _ (And.intro rfl (Fz.refl _)))) ?_ | refine And.intro (Or.inr (Exists.intro _ (And.intro rfl (fz_eq (congrArg (AV.int _) (by omega)))))) ?_ | refine And.intro (Or.inr (Exists.intro _ (And.intro rfl (fz_eq (congrArg (AV.own _ _ _) (by (try dsimp only); (try simp only [List.length_append, List.length_map, List.length_cons, List.length_nil, List.length_take, List.length_set, List.length_replicate]); (try dsimp only); first | done | omega)))))) ?_)) (by (try dsimp only); rw [hft]; exact Sub.refl _) (by first | omega | (dsimp only; omega)) hjl
        · rw [if_neg (by omega)] at hft
          (first | refine au ?_ | exact au0 | fail)
          refine nextS (S := Nat) (j + 1) (by repeat (first | exact trivial | refine And.intro (Or.inl rfl) ?_ | refine And.intro (Or.inr (Exists.intro _ (And.intro rfl (Fz.refl _)))) ?_ | refine And.intro (Or.inr (Exists.intro _ (And.intro rfl (fz_eq (congrArg (AV.int _) (by omega)))))) ?_ | refine And.intro (Or.inr (Exists.intro _ (And.intro rfl (fz_eq (congrArg (AV.own _ _ _) (by (try dsimp only); (try simp only [List.length_append, List.length_map, List.length_cons, List.length_nil, List.length_take, List.length_set, List.length_replicate]); (try dsimp only); first | done | omega)))))) ?_)) (by (try dsimp only); rw [hft]; exact Sub.refl _) (by first | omega | (dsimp only; omega)) hjl
      · obtain rfl : j = (parts g).length := by omega
        rw [List.take_length]
        (first | refine au ?_ | exact au0 | fail)
        refine nextS (S := Nat) (i + 1) (by repeat (first | exact trivial | refine And.intro (Or.inl rfl) ?_ | refine And.intro (Or.inr (Exists.intro _ (And.intro rfl (Fz.refl _)))) ?_ | refine And.intro (Or.inr (Exists.intro _ (And.intro rfl (fz_eq (congrArg (AV.int _) (by omega)))))) ?_ | refine And.intro (Or.inr (Exists.intro _ (And.intro rfl (fz_eq (congrArg (AV.own _ _ _) (by (try dsimp only); (try simp only [List.length_append, List.length_map, List.length_cons, List.length_nil, List.length_take, List.length_set, List.length_replicate]); (try dsimp only); first | done | omega)))))) ?_)) (by
          (try dsimp only)
          rw [hps, show n + 1 - (i + 1) = n - i from by omega]
          unfold dpR
          rw [List.append_assoc]
          exact Sub.refl _) (by first | omega | (dsimp only; omega)) (by omega)
    · obtain rfl : i = n + 1 := by omega
      (first | refine au ?_ | exact au0 | fail)
      have hnl : n < (dpT l (n + 1)).length := by omega
      refine ⟨_, naR ((dpT l (n + 1)).getD n 0), (by exact hg_of), (by rw [Nat.zero_add, Int.toNat_natCast, List.getElem?_map, List.getElem?_append_left hnl, List.getElem?_eq_getElem hnl, getD_get hnl]; rfl), ?_⟩
      (first | refine au ?_ | exact au0 | fail)
      exact fz_of
  · rw [if_neg hb]
    (repeat' (first | (refine au ?_; first | refine bsplit_dec (fun _ => ?_) (fun _ => ?_) | refine bsplit_intro (fun _ => ?_) (fun _ => ?_)) | exact au0 | fail)); (all_goals try (first | refine au ?_ | fail))
    all_goals first | omega | exact fz_of
theorem Deep_tspec (l : List Ty) (hl : TysOk l) (t : Int) (H : AH) : ACalls PG types_Deep.n [tysA l, .int .i64 t] H fun r H' => r = .int .i64 (deepT l t : Nat) ∧ H' = H := (Deep_spec0 l hl t).frame H
theorem deep_spec (l : List Ty) (hl : TysOk l) (n : Nat) (t : Ty) (id : Nat) : SW PG types_look_deep.n [.ptr id 8 0 0] id (kB l n t) [] (.int .i64 (deepE l n)) (kB l n t) := by
  refine ACalls.fz (types_look_deep.of rfl (wpF_start ?_))
  unfold deepE
  (first | refine au ?_ | exact au0 | fail)
  first | refine callF_eq (Deep_tspec l hl _ _) ?_ | refine callG_eq rfl (Deep_tspec l hl _ _) ?_
  (first | refine au ?_ | exact au0 | fail)
  refine bsplit_dec (fun c => ?_) (fun c => ?_)
  · (first | refine au ?_ | exact au0 | fail)
    exact ⟨fz_eq (congrArg (AV.int .i64) (by rw [if_pos (by omega)])), sub_of⟩
  · (first | refine au ?_ | exact au0 | fail)
    exact ⟨fz_eq (congrArg (AV.int .i64) (by rw [if_neg (by omega)])), sub_of⟩
theorem Check_spec0 (l : List Ty) (hl : TysOk l) : ACalls PG types_Check.n [tysA l] [] fun r _ => r = .agg [.int .i64 (tyChk l).1, .int .i64 (tyChk l).2] := by
  have hlen : (l.map tyR).length = l.length := by simp
  have hll := hl.len
  refine ACalls.fzK (types_Check.of rfl (wpF_start ?_))
  unfold tyChk
  (first | refine au ?_ | exact au0 | fail)
  intro id2 hid2 ht2; have n2 := neAll_of hid2; (try simp only [neAll, neAll_hset] at n2); have m2 := n2; (repeat (obtain ⟨_, m2⟩ := m2))
  (first | refine au ?_ | exact au0 | fail)
  refine bsplit_dec (fun c => ?_) (fun c => ?_)
  · rw [if_pos (by omega)]
    (first | refine au ?_ | exact au0 | fail)
    exact fz_of
  rw [if_neg (by omega)]
  (first | refine au ?_ | exact au0 | fail)
  have hr : (List.range l.length).length = l.length := List.length_range
  refine loopL [(0, some _), (2, some _), (13, some _), (14, some _)] 15 0 l.length (none' (fun i => decide (tyErr l i ≠ 0)) (List.range l.length)) (by repeat (first | exact trivial | refine And.intro (Or.inl rfl) ?_ | refine And.intro (Or.inr (Exists.intro _ (And.intro rfl (Fz.refl _)))) ?_ | refine And.intro (Or.inr (Exists.intro _ (And.intro rfl (fz_eq (congrArg (AV.int _) (by omega)))))) ?_ | refine And.intro (Or.inr (Exists.intro _ (And.intro rfl (fz_eq (congrArg (AV.own _ _ _) (by (try dsimp only); (try simp only [List.length_append, List.length_map, List.length_cons, List.length_nil, List.length_take, List.length_set, List.length_replicate]); (try dsimp only); first | done | omega)))))) ?_)) (Nat.zero_le _) none'_zero (fun i hi hno => ?_)
  (first | refine au ?_ | exact au0 | fail)
  refine bsplit_dec (fun c2 => ?_) (fun c2 => ?_)
  · have hil : i < l.length := by omega
    have hge := row_get (f := tyR) hil
    have hto := hl.all _ (List.getElem_mem hil)
    have hte : tyErr l i = fst0 [formE l[i], namedE l l[i] i, boundE l[i], orderE l l[i] i, itemsE l l[i], deepE l i] := by unfold tyErr; rw [getD_get hil]
    have hhit : tyErr l i ≠ 0 → (List.range l.length).findIdx? (fun i => decide (tyErr l i ≠ 0)) = some i := fun q => find_hit hno (by omega) (by simpa using q)
    have hnx : tyErr l i = 0 → _ := fun q => none'_succ hno (by omega) (by simpa using q)
    have h0 := form_spec l i l[i] hto
    have h1 := named_spec l i l[i] hto hl hi
    have h2 := bound_spec l i l[i]
    have h3 := order_spec l i l[i] hto hl hil
    have h4 := items_spec l hl i l[i] hto hi
    have h5 := deep_spec l hl i l[i]
    generalize l[i] = g at *
    (first | refine au ?_ | exact au0 | fail)
    rw [hge]
    (first | refine au ?_ | exact au0 | fail)
    intro id4 hid4 ht4; have n4 := neAll_of hid4; (try simp only [neAll, neAll_hset] at n4); have m4 := n4; (repeat (obtain ⟨_, m4⟩ := m4))
    (first | refine au ?_ | exact au0 | fail)
    intro id24 hid24 ht24; have n24 := neAll_of hid24; (try simp only [neAll, neAll_hset] at n24); have m24 := n24; (repeat (obtain ⟨_, m24⟩ := m24))
    (first | refine au ?_ | exact au0 | fail)
    refine loopL [(0, some _), (2, some _), (3, some _), (13, some _), (14, some _), (15, some _), (37, some _), (38, some _)] 39 0 6 (fun j => (0 < j → formE g = 0) ∧ (1 < j → namedE l g i = 0) ∧ (2 < j → boundE g = 0) ∧ (3 < j → orderE l g i = 0) ∧ (4 < j → itemsE l g = 0) ∧ (5 < j → deepE l i = 0)) (by repeat (first | exact trivial | refine And.intro (Or.inl rfl) ?_ | refine And.intro (Or.inr (Exists.intro _ (And.intro rfl (Fz.refl _)))) ?_ | refine And.intro (Or.inr (Exists.intro _ (And.intro rfl (fz_eq (congrArg (AV.int _) (by omega)))))) ?_ | refine And.intro (Or.inr (Exists.intro _ (And.intro rfl (fz_eq (congrArg (AV.own _ _ _) (by (try dsimp only); (try simp only [List.length_append, List.length_map, List.length_cons, List.length_nil, List.length_take, List.length_set, List.length_replicate]); (try dsimp only); first | done | omega)))))) ?_)) (Nat.zero_le _) (by omega) (fun j hj hz => ?_)
    obtain ⟨z0, z1, z2, z3, z4, z5⟩ := hz
    (first | refine au ?_ | exact au0 | fail)
    refine bsplit_dec (fun c3 => ?_) (fun c3 => ?_)
    · have hj6 : j < 6 := by
        have : (j : Int) < 6 := by simpa using c3
        omega
      have hjj : j = 0 ∨ j = 1 ∨ j = 2 ∨ j = 3 ∨ j = 4 ∨ j = 5 := by omega
      rcases hjj with rfl | rfl | rfl | rfl | rfl | rfl
      · (first | refine au ?_ | exact au0 | fail)
        refine (h0 id24).call (by exact hg_of) (Sub.nil _) ?_
        (first | refine au ?_ | exact au0 | fail)
        refine bsplit_dec (fun hz => ?_) (fun hz => ?_)
        · (first | refine au ?_ | exact au0 | fail)
          have ht : tyErr l i = formE g := by rw [hte]; simp only [fst0]; simp only [ ne_eq, not_true_eq_false, if_false, hz, not_false_eq_true, if_true]
          rw [hhit (by rw [ht]; exact hz)]
          dsimp only
          rw [ht]
          exact fz_of
        · have hz := Classical.not_not.1 hz
          (first | refine au ?_ | exact au0 | fail)
          refine nextN (by repeat (first | exact trivial | refine And.intro (Or.inl rfl) ?_ | refine And.intro (Or.inr (Exists.intro _ (And.intro rfl (Fz.refl _)))) ?_ | refine And.intro (Or.inr (Exists.intro _ (And.intro rfl (fz_eq (congrArg (AV.int _) (by omega)))))) ?_ | refine And.intro (Or.inr (Exists.intro _ (And.intro rfl (fz_eq (congrArg (AV.own _ _ _) (by (try dsimp only); (try simp only [List.length_append, List.length_map, List.length_cons, List.length_nil, List.length_take, List.length_set, List.length_replicate]); (try dsimp only); first | done | omega)))))) ?_)) (by exact sub_of) (by omega) ⟨?_, ?_, ?_, ?_, ?_, ?_⟩ <;> intro q <;> first | exact hz | omega | exact z0 (by omega) | exact z1 (by omega) | exact z2 (by omega) | exact z3 (by omega) | exact z4 (by omega)
      · (first | refine au ?_ | exact au0 | fail)
        refine (h1 id24).call (by exact hg_of) (Sub.nil _) ?_
        (first | refine au ?_ | exact au0 | fail)
        refine bsplit_dec (fun hz => ?_) (fun hz => ?_)
        · (first | refine au ?_ | exact au0 | fail)
          have ht : tyErr l i = namedE l g i := by rw [hte]; simp only [fst0]; simp only [z0 (by omega), ne_eq, not_true_eq_false, if_false, hz, not_false_eq_true, if_true]
          rw [hhit (by rw [ht]; exact hz)]
          dsimp only
          rw [ht]
          exact fz_of
        · have hz := Classical.not_not.1 hz
          (first | refine au ?_ | exact au0 | fail)
          refine nextN (by repeat (first | exact trivial | refine And.intro (Or.inl rfl) ?_ | refine And.intro (Or.inr (Exists.intro _ (And.intro rfl (Fz.refl _)))) ?_ | refine And.intro (Or.inr (Exists.intro _ (And.intro rfl (fz_eq (congrArg (AV.int _) (by omega)))))) ?_ | refine And.intro (Or.inr (Exists.intro _ (And.intro rfl (fz_eq (congrArg (AV.own _ _ _) (by (try dsimp only); (try simp only [List.length_append, List.length_map, List.length_cons, List.length_nil, List.length_take, List.length_set, List.length_replicate]); (try dsimp only); first | done | omega)))))) ?_)) (by exact sub_of) (by omega) ⟨?_, ?_, ?_, ?_, ?_, ?_⟩ <;> intro q <;> first | exact hz | omega | exact z0 (by omega) | exact z1 (by omega) | exact z2 (by omega) | exact z3 (by omega) | exact z4 (by omega)
      · (first | refine au ?_ | exact au0 | fail)
        refine (h2 id24).call (by exact hg_of) (Sub.nil _) ?_
        (first | refine au ?_ | exact au0 | fail)
        refine bsplit_dec (fun hz => ?_) (fun hz => ?_)
        · (first | refine au ?_ | exact au0 | fail)
          have ht : tyErr l i = boundE g := by rw [hte]; simp only [fst0]; simp only [z0 (by omega), z1 (by omega), ne_eq, not_true_eq_false, if_false, hz, not_false_eq_true, if_true]
          rw [hhit (by rw [ht]; exact hz)]
          dsimp only
          rw [ht]
          exact fz_of
        · have hz := Classical.not_not.1 hz
          (first | refine au ?_ | exact au0 | fail)
          refine nextN (by repeat (first | exact trivial | refine And.intro (Or.inl rfl) ?_ | refine And.intro (Or.inr (Exists.intro _ (And.intro rfl (Fz.refl _)))) ?_ | refine And.intro (Or.inr (Exists.intro _ (And.intro rfl (fz_eq (congrArg (AV.int _) (by omega)))))) ?_ | refine And.intro (Or.inr (Exists.intro _ (And.intro rfl (fz_eq (congrArg (AV.own _ _ _) (by (try dsimp only); (try simp only [List.length_append, List.length_map, List.length_cons, List.length_nil, List.length_take, List.length_set, List.length_replicate]); (try dsimp only); first | done | omega)))))) ?_)) (by exact sub_of) (by omega) ⟨?_, ?_, ?_, ?_, ?_, ?_⟩ <;> intro q <;> first | exact hz | omega | exact z0 (by omega) | exact z1 (by omega) | exact z2 (by omega) | exact z3 (by omega) | exact z4 (by omega)
      · (first | refine au ?_ | exact au0 | fail)
        refine (h3 id24).call (by exact hg_of) (Sub.nil _) ?_
        (first | refine au ?_ | exact au0 | fail)
        refine bsplit_dec (fun hz => ?_) (fun hz => ?_)
        · (first | refine au ?_ | exact au0 | fail)
          have ht : tyErr l i = orderE l g i := by rw [hte]; simp only [fst0]; simp only [z0 (by omega), z1 (by omega), z2 (by omega), ne_eq, not_true_eq_false, if_false, hz, not_false_eq_true, if_true]
          rw [hhit (by rw [ht]; exact hz)]
          dsimp only
          rw [ht]
          exact fz_of
        · have hz := Classical.not_not.1 hz
          (first | refine au ?_ | exact au0 | fail)
          refine nextN (by repeat (first | exact trivial | refine And.intro (Or.inl rfl) ?_ | refine And.intro (Or.inr (Exists.intro _ (And.intro rfl (Fz.refl _)))) ?_ | refine And.intro (Or.inr (Exists.intro _ (And.intro rfl (fz_eq (congrArg (AV.int _) (by omega)))))) ?_ | refine And.intro (Or.inr (Exists.intro _ (And.intro rfl (fz_eq (congrArg (AV.own _ _ _) (by (try dsimp only); (try simp only [List.length_append, List.length_map, List.length_cons, List.length_nil, List.length_take, List.length_set, List.length_replicate]); (try dsimp only); first | done | omega)))))) ?_)) (by exact sub_of) (by omega) ⟨?_, ?_, ?_, ?_, ?_, ?_⟩ <;> intro q <;> first | exact hz | omega | exact z0 (by omega) | exact z1 (by omega) | exact z2 (by omega) | exact z3 (by omega) | exact z4 (by omega)
      · (first | refine au ?_ | exact au0 | fail)
        refine ((h4 (z3 (by omega))) id24).call (by exact hg_of) (Sub.nil _) ?_
        (first | refine au ?_ | exact au0 | fail)
        refine bsplit_dec (fun hz => ?_) (fun hz => ?_)
        · (first | refine au ?_ | exact au0 | fail)
          have ht : tyErr l i = itemsE l g := by rw [hte]; simp only [fst0]; simp only [z0 (by omega), z1 (by omega), z2 (by omega), z3 (by omega), ne_eq, not_true_eq_false, if_false, hz, not_false_eq_true, if_true]
          rw [hhit (by rw [ht]; exact hz)]
          dsimp only
          rw [ht]
          exact fz_of
        · have hz := Classical.not_not.1 hz
          (first | refine au ?_ | exact au0 | fail)
          refine nextN (by repeat (first | exact trivial | refine And.intro (Or.inl rfl) ?_ | refine And.intro (Or.inr (Exists.intro _ (And.intro rfl (Fz.refl _)))) ?_ | refine And.intro (Or.inr (Exists.intro _ (And.intro rfl (fz_eq (congrArg (AV.int _) (by omega)))))) ?_ | refine And.intro (Or.inr (Exists.intro _ (And.intro rfl (fz_eq (congrArg (AV.own _ _ _) (by (try dsimp only); (try simp only [List.length_append, List.length_map, List.length_cons, List.length_nil, List.length_take, List.length_set, List.length_replicate]); (try dsimp only); first | done | omega)))))) ?_)) (by exact sub_of) (by omega) ⟨?_, ?_, ?_, ?_, ?_, ?_⟩ <;> intro q <;> first | exact hz | omega | exact z0 (by omega) | exact z1 (by omega) | exact z2 (by omega) | exact z3 (by omega) | exact z4 (by omega)
      · (first | refine au ?_ | exact au0 | fail)
        refine (h5 id24).call (by exact hg_of) (Sub.nil _) ?_
        (first | refine au ?_ | exact au0 | fail)
        refine bsplit_dec (fun hz => ?_) (fun hz => ?_)
        · (first | refine au ?_ | exact au0 | fail)
          have ht : tyErr l i = deepE l i := by rw [hte]; simp only [fst0]; simp only [z0 (by omega), z1 (by omega), z2 (by omega), z3 (by omega), z4 (by omega), ne_eq, not_true_eq_false, if_false, hz, not_false_eq_true, if_true]
          rw [hhit (by rw [ht]; exact hz)]
          dsimp only
          rw [ht]
          exact fz_of
        · have hz := Classical.not_not.1 hz
          (first | refine au ?_ | exact au0 | fail)
          refine nextN (by repeat (first | exact trivial | refine And.intro (Or.inl rfl) ?_ | refine And.intro (Or.inr (Exists.intro _ (And.intro rfl (Fz.refl _)))) ?_ | refine And.intro (Or.inr (Exists.intro _ (And.intro rfl (fz_eq (congrArg (AV.int _) (by omega)))))) ?_ | refine And.intro (Or.inr (Exists.intro _ (And.intro rfl (fz_eq (congrArg (AV.own _ _ _) (by (try dsimp only); (try simp only [List.length_append, List.length_map, List.length_cons, List.length_nil, List.length_take, List.length_set, List.length_replicate]); (try dsimp only); first | done | omega)))))) ?_)) (by exact sub_of) (by omega) ⟨?_, ?_, ?_, ?_, ?_, ?_⟩ <;> intro q <;> first | exact hz | omega | exact z0 (by omega) | exact z1 (by omega) | exact z2 (by omega) | exact z3 (by omega) | exact z4 (by omega)
    · have hj6 : j = 6 := by
        have : ¬ (j : Int) < 6 := by simpa using c3
        omega
      subst hj6
      (first | refine au ?_ | exact au0 | fail)
      refine nextN (by repeat (first | exact trivial | refine And.intro (Or.inl rfl) ?_ | refine And.intro (Or.inr (Exists.intro _ (And.intro rfl (Fz.refl _)))) ?_ | refine And.intro (Or.inr (Exists.intro _ (And.intro rfl (fz_eq (congrArg (AV.int _) (by omega)))))) ?_ | refine And.intro (Or.inr (Exists.intro _ (And.intro rfl (fz_eq (congrArg (AV.own _ _ _) (by (try dsimp only); (try simp only [List.length_append, List.length_map, List.length_cons, List.length_nil, List.length_take, List.length_set, List.length_replicate]); (try dsimp only); first | done | omega)))))) ?_)) (by exact sub_of) (by omega) (hnx ?_)
      rw [hte]
      simp only [fst0, z0 (by omega), z1 (by omega), z2 (by omega), z3 (by omega), z4 (by omega), z5 (by omega), ne_eq, not_true_eq_false, if_false]
  · (first | refine au ?_ | exact au0 | fail)
    rw [find_none hno (by omega)]
    exact fz_of
end Go.Proofs.Ytodiahhfpcdejaa

/- Types in the reference, walked. -/
namespace Go.Proofs.Ytodiahhfpcdejaa
set_option autoImplicit false
set_option linter.unusedSimpArgs false
set_option linter.unusedVariables false
attribute [local irreducible] callA callP ACalls
theorem r6_named_spec (k : Int) (H : AH) : ACalls PG broadsheetref06_named.n [.int .i64 k] H fun r H' => r = .bool (kNm k) ∧ H' = H := by
  refine ACalls.fz (broadsheetref06_named.of rfl (wpF_start ?_))
  unfold kNm
  (repeat' (first | (refine au ?_; first | refine bsplit_dec (fun _ => ?_) (fun _ => ?_) | refine bsplit_intro (fun _ => ?_) (fun _ => ?_)) | exact au0 | fail)); (all_goals try (first | refine au ?_ | fail))
  all_goals exact ⟨fz_eq (congrArg AV.bool (by first | exact (decide_eq_true (by omega)).symm | exact (decide_eq_false (by omega)).symm | exact decide_eq_decide.2 (by omega) | rfl)), sub_of⟩
theorem r6_Parts_spec0 (t : Ty) (ht : t.its.length ≤ 4000000000000) : ACalls PG broadsheetref06_Parts.n [.agg (tyR t)] [] fun r _ => r = .rows 1 ((parts t).map inR) := by
  refine ACalls.fzK (broadsheetref06_Parts.of rfl (wpF_start ?_))
  have hlen : (t.its.map itR).length = t.its.length := by simp
  (first | refine au ?_ | exact au0 | fail)
  intro id1 hid1 ht1; have n1 := neAll_of hid1; (try simp only [neAll, neAll_hset] at n1); have m1 := n1; (repeat (obtain ⟨_, m1⟩ := m1))
  (first | refine au ?_ | exact au0 | fail)
  rcases rng4 t.kd with ⟨h1, h2, h3, h4⟩ | ⟨h1, h2, h3⟩ | ⟨h1, h2, h3⟩ | ⟨h1, h2, h3, h4⟩
  · have h11 : t.kd = 11 ∨ t.kd = 12 := by simpa [kEl] using h1
    rw [parts_el h1 h2 h3 h4]
    rcases h11 with h11 | h11
    all_goals (first | refine au ?_ | exact au0 | fail)
    all_goals refine ⟨_, rfl, (Nat.le_of_ble_eq_true rfl), (fun q => by cases q), fun _ => ?_⟩
    all_goals intro id2 hid2 ht2; have n2 := neAll_of hid2; (try simp only [neAll, neAll_hset] at n2); have m2 := n2; (repeat (obtain ⟨_, m2⟩ := m2))
    all_goals (first | refine au ?_ | exact au0 | fail)
    all_goals refine loopL [(1, some _), (3, some _)] 4 0 0 (fun _ => True) (by repeat (first | exact trivial | refine And.intro (Or.inl rfl) ?_ | refine And.intro (Or.inr (Exists.intro _ (And.intro rfl (Fz.refl _)))) ?_ | refine And.intro (Or.inr (Exists.intro _ (And.intro rfl (fz_eq (congrArg (AV.int _) (by omega)))))) ?_ | refine And.intro (Or.inr (Exists.intro _ (And.intro rfl (fz_eq (congrArg (AV.own _ _ _) (by (try dsimp only); (try simp only [List.length_append, List.length_map, List.length_cons, List.length_nil, List.length_take, List.length_set, List.length_replicate]); (try dsimp only); first | done | omega)))))) ?_)) (Nat.zero_le _) trivial (fun i hi _ => ?_)
    all_goals obtain rfl : i = 0 := by omega
    all_goals (first | refine au ?_ | exact au0 | fail)
    all_goals try refine bsplit_dec (fun c => ?_) (fun c => ?_)
    all_goals (first | refine au ?_ | exact au0 | fail)
    all_goals exact Fz.ownL hget_self rfl (FzR.refl _ _ _) (map_w (f := inR) (fun _ => rfl) _)
  · rw [parts_tg h1 h2 h3]
    (first | refine au ?_ | exact au0 | fail)
    refine ⟨_, rfl, (Nat.le_of_ble_eq_true rfl), (fun q => by cases q), fun _ => ?_⟩
    intro id2 hid2 ht2; have n2 := neAll_of hid2; (try simp only [neAll, neAll_hset] at n2); have m2 := n2; (repeat (obtain ⟨_, m2⟩ := m2))
    (first | refine au ?_ | exact au0 | fail)
    obtain ⟨pre, hpre⟩ : ∃ pre : List Int, pre = [t.tg] := ⟨_, rfl⟩
    have hpl : pre.length = 1 := by rw [hpre]; rfl
    refine loopM (S := Nat × Option Nat) [(1, some _)] (fun s => [(3, some (accV s.2 1 (pre.length + s.1))), (4, some (.int .i64 (s.1 : Nat)))]) (fun s => accH s.2 1 (pre.map inR ++ ((t.its.take s.1).map fun x => inR x.ty)) [(id1, .rows 6 [tyR t])]) (fun s => t.its.length - s.1) (fun s => s.1 ≤ t.its.length ∧ (s.2 = none → pre.length + s.1 = 0) ∧ ∀ id, s.2 = some id → tag id = ty_int ∧ id ≠ id1) (0, some id2) (by repeat (first | exact trivial | refine And.intro (Or.inl rfl) ?_ | refine And.intro (Or.inr (Exists.intro _ (And.intro rfl (Fz.refl _)))) ?_ | refine And.intro (Or.inr (Exists.intro _ (And.intro rfl (fz_eq (congrArg (AV.int _) (by omega)))))) ?_ | refine And.intro (Or.inr (Exists.intro _ (And.intro rfl (fz_eq (congrArg (AV.own _ _ _) (by (try dsimp only); (try simp only [List.length_append, List.length_map, List.length_cons, List.length_nil, List.length_take, List.length_set, List.length_replicate]); (try dsimp only); first | done | omega)))))) ?_)) (by subst hpre; exact sub_of) ⟨Nat.zero_le _, by simp, fun id q => by cases q; exact ⟨ht2, by omega⟩⟩ (fun ⟨i, o⟩ hs => ?_)
    dsimp only at hs
    rcases hs with ⟨hi, ho1, ho2⟩
    have hge : ∀ h : i < t.its.length, (t.its.map itR).getD (Int.toNat (i : Nat)) [] = itR t.its[i] := fun h => row_get h
    have htk : ∀ h : i < t.its.length, ((t.its.take (i + 1)).map fun x => inR x.ty) = ((t.its.take i).map fun x => inR x.ty) ++ [inR t.its[i].ty] := fun h => take_map_succ _ _ _ h
    have htl : (t.its.take i).length = i := by rw [List.length_take]; omega
    rcases o with _ | ida
    · (first | refine au ?_ | exact au0 | fail)
      refine bsplit_dec (fun c => ?_) (fun c => ?_)
      · have hil : i < t.its.length := by omega
        replace hge := hge hil
        replace htk := htk hil
        generalize t.its[i] = x at *
        (first | refine au ?_ | exact au0 | fail)
        rw [hge]
        (first | refine au ?_ | exact au0 | fail)
        refine ⟨_, rfl, (Nat.le_of_ble_eq_true rfl), (fun q => by cases q), fun _ => ?_⟩
        intro id47 hid47 ht47; have n47 := neAll_of hid47; (try simp only [neAll, neAll_hset] at n47); have m47 := n47; (repeat (obtain ⟨_, m47⟩ := m47))
        (first | refine au ?_ | exact au0 | fail)
        have hp := ho1 rfl
        refine nextS (S := Nat × Option Nat) (i + 1, some id47) (by repeat (first | exact trivial | refine And.intro (Or.inl rfl) ?_ | refine And.intro (Or.inr (Exists.intro _ (And.intro rfl (Fz.refl _)))) ?_ | refine And.intro (Or.inr (Exists.intro _ (And.intro rfl (fz_eq (congrArg (AV.int _) (by omega)))))) ?_ | refine And.intro (Or.inr (Exists.intro _ (And.intro rfl (fz_eq (congrArg (AV.own _ _ _) (by (try dsimp only); (try simp only [List.length_append, List.length_map, List.length_cons, List.length_nil, List.length_take, List.length_set, List.length_replicate]); (try dsimp only); first | done | omega)))))) ?_)) ?_ (by dsimp only; omega) ⟨hil, by simp, fun j q => ?_⟩
        · dsimp only [accH]
          rw [htk, show pre = [] from List.eq_nil_of_length_eq_zero (by omega), show i = 0 from by omega]
          exact sub_of
        · simp only [Option.some.injEq] at q
          subst q
          exact ⟨ht47, by omega⟩
      · (first | refine au ?_ | exact au0 | fail)
        obtain rfl : i = t.its.length := by omega
        have hp := ho1 rfl
        rw [hpre] at hp ⊢
        rw [List.eq_nil_of_length_eq_zero (show t.its.length = 0 by omega)]
        first | exact Fz.nil _ | (simp at hp)
    · obtain ⟨hti, hdi⟩ := ho2 ida rfl
      dsimp only [accH, accV]
      (first | refine au ?_ | exact au0 | fail)
      refine bsplit_dec (fun c => ?_) (fun c => ?_)
      · have hil : i < t.its.length := by omega
        replace hge := hge hil
        replace htk := htk hil
        generalize t.its[i] = x at *
        (first | refine au ?_ | exact au0 | fail)
        rw [hge]
        (first | refine au ?_ | exact au0 | fail)
        refine ⟨_, _, readS_all (by exact hg_of) (by ((try dsimp only); (try simp only [List.length_append, List.length_map, List.length_cons, List.length_nil, List.length_take, List.length_set, List.length_replicate]); (try dsimp only); first | done | omega)), rfl, rfl, rfl, (hti), (by ((try dsimp only); (try simp only [List.length_append, List.length_map, List.length_cons, List.length_nil, List.length_take, List.length_set, List.length_replicate]); (try dsimp only); first | done | omega)), ?_⟩
        intro id47 hid47 ht47; have n47 := neAll_of hid47; (try simp only [neAll, neAll_hset] at n47); have m47 := n47; (repeat (obtain ⟨_, m47⟩ := m47))
        (first | refine au ?_ | exact au0 | fail)
        refine nextS (S := Nat × Option Nat) (i + 1, some id47) (by repeat (first | exact trivial | refine And.intro (Or.inl rfl) ?_ | refine And.intro (Or.inr (Exists.intro _ (And.intro rfl (Fz.refl _)))) ?_ | refine And.intro (Or.inr (Exists.intro _ (And.intro rfl (fz_eq (congrArg (AV.int _) (by omega)))))) ?_ | refine And.intro (Or.inr (Exists.intro _ (And.intro rfl (fz_eq (congrArg (AV.own _ _ _) (by (try dsimp only); (try simp only [List.length_append, List.length_map, List.length_cons, List.length_nil, List.length_take, List.length_set, List.length_replicate]); (try dsimp only); first | done | omega)))))) ?_)) ?_ (by dsimp only; omega) ⟨hil, by simp, fun j q => ?_⟩
        · dsimp only [accH]
          rw [htk, ← List.append_assoc]
          exact sub_of
        · simp only [Option.some.injEq] at q
          subst q
          exact ⟨ht47, by omega⟩
      · (first | refine au ?_ | exact au0 | fail)
        obtain rfl : i = t.its.length := by omega
        rw [List.take_length]
        refine accFz (o := some ida) (n := pre.length + t.its.length) (l := pre.map inR ++ t.its.map fun x => inR x.ty) (H := [(id1, .rows 6 [tyR t])]) (by ((try dsimp only); (try simp only [List.length_append, List.length_map, List.length_cons, List.length_nil, List.length_take, List.length_set, List.length_replicate]); (try dsimp only); first | done | omega)) (fun q => by cases q) (fun _ _ => rfl) ?_ (map_w (f := inR) (fun _ => rfl) _)
        rw [hpre]
        simp only [List.map_cons, List.map_nil, List.map_map, List.cons_append, List.nil_append]
        exact FzR.refl _ _ _
  · rw [parts_st h1 h2 h3]
    (first | refine au ?_ | exact au0 | fail)
    obtain ⟨pre, hpre⟩ : ∃ pre : List Int, pre = [] := ⟨_, rfl⟩
    have hpl : pre.length = 0 := by rw [hpre]; rfl
    refine loopM (S := Nat × Option Nat) [(1, some _)] (fun s => [(3, some (accV s.2 1 (pre.length + s.1))), (4, some (.int .i64 (s.1 : Nat)))]) (fun s => accH s.2 1 (pre.map inR ++ ((t.its.take s.1).map fun x => inR x.ty)) [(id1, .rows 6 [tyR t])]) (fun s => t.its.length - s.1) (fun s => s.1 ≤ t.its.length ∧ (s.2 = none → pre.length + s.1 = 0) ∧ ∀ id, s.2 = some id → tag id = ty_int ∧ id ≠ id1) (0, none) (by repeat (first | exact trivial | refine And.intro (Or.inl rfl) ?_ | refine And.intro (Or.inr (Exists.intro _ (And.intro rfl (Fz.refl _)))) ?_ | refine And.intro (Or.inr (Exists.intro _ (And.intro rfl (fz_eq (congrArg (AV.int _) (by omega)))))) ?_ | refine And.intro (Or.inr (Exists.intro _ (And.intro rfl (fz_eq (congrArg (AV.own _ _ _) (by (try dsimp only); (try simp only [List.length_append, List.length_map, List.length_cons, List.length_nil, List.length_take, List.length_set, List.length_replicate]); (try dsimp only); first | done | omega)))))) ?_)) (by subst hpre; exact sub_of) ⟨Nat.zero_le _, by simp [hpl], fun id q => by cases q⟩ (fun ⟨i, o⟩ hs => ?_)
    dsimp only at hs
    rcases hs with ⟨hi, ho1, ho2⟩
    have hge : ∀ h : i < t.its.length, (t.its.map itR).getD (Int.toNat (i : Nat)) [] = itR t.its[i] := fun h => row_get h
    have htk : ∀ h : i < t.its.length, ((t.its.take (i + 1)).map fun x => inR x.ty) = ((t.its.take i).map fun x => inR x.ty) ++ [inR t.its[i].ty] := fun h => take_map_succ _ _ _ h
    have htl : (t.its.take i).length = i := by rw [List.length_take]; omega
    rcases o with _ | ida
    · (first | refine au ?_ | exact au0 | fail)
      refine bsplit_dec (fun c => ?_) (fun c => ?_)
      · have hil : i < t.its.length := by omega
        replace hge := hge hil
        replace htk := htk hil
        generalize t.its[i] = x at *
        (first | refine au ?_ | exact au0 | fail)
        rw [hge]
        (first | refine au ?_ | exact au0 | fail)
        refine ⟨_, rfl, (Nat.le_of_ble_eq_true rfl), (fun q => by cases q), fun _ => ?_⟩
        intro id47 hid47 ht47; have n47 := neAll_of hid47; (try simp only [neAll, neAll_hset] at n47); have m47 := n47; (repeat (obtain ⟨_, m47⟩ := m47))
        (first | refine au ?_ | exact au0 | fail)
        have hp := ho1 rfl
        refine nextS (S := Nat × Option Nat) (i + 1, some id47) (by repeat (first | exact trivial | refine And.intro (Or.inl rfl) ?_ | refine And.intro (Or.inr (Exists.intro _ (And.intro rfl (Fz.refl _)))) ?_ | refine And.intro (Or.inr (Exists.intro _ (And.intro rfl (fz_eq (congrArg (AV.int _) (by omega)))))) ?_ | refine And.intro (Or.inr (Exists.intro _ (And.intro rfl (fz_eq (congrArg (AV.own _ _ _) (by (try dsimp only); (try simp only [List.length_append, List.length_map, List.length_cons, List.length_nil, List.length_take, List.length_set, List.length_replicate]); (try dsimp only); first | done | omega)))))) ?_)) ?_ (by dsimp only; omega) ⟨hil, by simp, fun j q => ?_⟩
        · dsimp only [accH]
          rw [htk, show pre = [] from List.eq_nil_of_length_eq_zero (by omega), show i = 0 from by omega]
          exact sub_of
        · simp only [Option.some.injEq] at q
          subst q
          exact ⟨ht47, by omega⟩
      · (first | refine au ?_ | exact au0 | fail)
        obtain rfl : i = t.its.length := by omega
        have hp := ho1 rfl
        rw [hpre] at hp ⊢
        rw [List.eq_nil_of_length_eq_zero (show t.its.length = 0 by omega)]
        first | exact Fz.nil _ | (simp at hp)
    · obtain ⟨hti, hdi⟩ := ho2 ida rfl
      dsimp only [accH, accV]
      (first | refine au ?_ | exact au0 | fail)
      refine bsplit_dec (fun c => ?_) (fun c => ?_)
      · have hil : i < t.its.length := by omega
        replace hge := hge hil
        replace htk := htk hil
        generalize t.its[i] = x at *
        (first | refine au ?_ | exact au0 | fail)
        rw [hge]
        (first | refine au ?_ | exact au0 | fail)
        refine ⟨_, _, readS_all (by exact hg_of) (by ((try dsimp only); (try simp only [List.length_append, List.length_map, List.length_cons, List.length_nil, List.length_take, List.length_set, List.length_replicate]); (try dsimp only); first | done | omega)), rfl, rfl, rfl, (hti), (by ((try dsimp only); (try simp only [List.length_append, List.length_map, List.length_cons, List.length_nil, List.length_take, List.length_set, List.length_replicate]); (try dsimp only); first | done | omega)), ?_⟩
        intro id47 hid47 ht47; have n47 := neAll_of hid47; (try simp only [neAll, neAll_hset] at n47); have m47 := n47; (repeat (obtain ⟨_, m47⟩ := m47))
        (first | refine au ?_ | exact au0 | fail)
        refine nextS (S := Nat × Option Nat) (i + 1, some id47) (by repeat (first | exact trivial | refine And.intro (Or.inl rfl) ?_ | refine And.intro (Or.inr (Exists.intro _ (And.intro rfl (Fz.refl _)))) ?_ | refine And.intro (Or.inr (Exists.intro _ (And.intro rfl (fz_eq (congrArg (AV.int _) (by omega)))))) ?_ | refine And.intro (Or.inr (Exists.intro _ (And.intro rfl (fz_eq (congrArg (AV.own _ _ _) (by (try dsimp only); (try simp only [List.length_append, List.length_map, List.length_cons, List.length_nil, List.length_take, List.length_set, List.length_replicate]); (try dsimp only); first | done | omega)))))) ?_)) ?_ (by dsimp only; omega) ⟨hil, by simp, fun j q => ?_⟩
        · dsimp only [accH]
          rw [htk, ← List.append_assoc]
          exact sub_of
        · simp only [Option.some.injEq] at q
          subst q
          exact ⟨ht47, by omega⟩
      · (first | refine au ?_ | exact au0 | fail)
        obtain rfl : i = t.its.length := by omega
        rw [List.take_length]
        refine accFz (o := some ida) (n := pre.length + t.its.length) (l := pre.map inR ++ t.its.map fun x => inR x.ty) (H := [(id1, .rows 6 [tyR t])]) (by ((try dsimp only); (try simp only [List.length_append, List.length_map, List.length_cons, List.length_nil, List.length_take, List.length_set, List.length_replicate]); (try dsimp only); first | done | omega)) (fun q => by cases q) (fun _ _ => rfl) ?_ (map_w (f := inR) (fun _ => rfl) _)
        rw [hpre]
        simp only [List.map_cons, List.map_nil, List.map_map, List.cons_append, List.nil_append]
        exact FzR.refl _ _ _
  · have h11 : t.kd ≠ 11 ∧ t.kd ≠ 12 := by simpa [kEl] using h1
    rw [parts_no h1 h2 h3 h4]
    (first | refine au ?_ | exact au0 | fail)
    refine loopL [(1, some _), (3, some _)] 4 0 0 (fun _ => True) (by repeat (first | exact trivial | refine And.intro (Or.inl rfl) ?_ | refine And.intro (Or.inr (Exists.intro _ (And.intro rfl (Fz.refl _)))) ?_ | refine And.intro (Or.inr (Exists.intro _ (And.intro rfl (fz_eq (congrArg (AV.int _) (by omega)))))) ?_ | refine And.intro (Or.inr (Exists.intro _ (And.intro rfl (fz_eq (congrArg (AV.own _ _ _) (by (try dsimp only); (try simp only [List.length_append, List.length_map, List.length_cons, List.length_nil, List.length_take, List.length_set, List.length_replicate]); (try dsimp only); first | done | omega)))))) ?_)) (Nat.zero_le _) trivial (fun i hi _ => ?_)
    obtain rfl : i = 0 := by omega
    (repeat' (first | (refine au ?_; first | refine bsplit_dec (fun _ => ?_) (fun _ => ?_) | refine bsplit_intro (fun _ => ?_) (fun _ => ?_)) | exact au0 | fail)); (all_goals try (first | refine au ?_ | fail))
    all_goals first | omega | exact Fz.nil _
theorem r6_Parts_spec (t : Ty) (ht : t.its.length ≤ 4000000000000) (H : AH) : ACalls PG broadsheetref06_Parts.n [.agg (tyR t)] H fun r H' => r = .rows 1 ((parts t).map inR) ∧ H' = H := (r6_Parts_spec0 t ht).frame H
theorem r6_more_spec (t : Ty) (hok : TyOk t) (H : AH) : ACalls PG broadsheetref06_more.n [.agg (tyR t)] H fun r H' => r = .bool (tyMore t || t.its.any (itMore t.kd)) ∧ H' = H := by
  have hlen : (t.its.map itR).length = t.its.length := by simp
  have hli := hok.its
  have h0 : (0 : Int) < (t.its.map itR).length ↔ t.its ≠ [] := by rw [hlen]; cases t.its <;> simp
  refine ACalls.fz (broadsheetref06_more.of rfl (wpF_start ?_))
  (first | refine au ?_ | exact au0 | fail)
  intro id1 hid1 ht1; have n1 := neAll_of hid1; (try simp only [neAll, neAll_hset] at n1); have m1 := n1; (repeat (obtain ⟨_, m1⟩ := m1))
  (first | refine ab ?_ | exact ab0 | fail)
  have hnm := fun H => r6_named_spec t.kd H
  refine joinP [(1, some (.ptr id1 6 0 0))] ((id1, .rows 6 [tyR t]) :: H) (¬ (kNm t.kd = false ∧ (t.nm ≠ [] ∨ t.its ≠ []))) ?_ (fun p1 => ?_)
  · cases hN : kNm t.kd
    all_goals rw [hN] at hnm
    all_goals (repeat' (first | (refine au ?_; first | refine callF_eq (hnm _) ?_ | refine bsplit_dec (fun _ => ?_) (fun _ => ?_) | refine bsplit_intro (fun _ => ?_) (fun _ => ?_)) | exact au0 | fail)); (all_goals try (first | refine au ?_ | fail))
    all_goals first
      | (refine metP (by repeat (first | exact trivial | refine And.intro (Or.inl rfl) ?_ | refine And.intro (Or.inr (Exists.intro _ (And.intro rfl (Fz.refl _)))) ?_ | refine And.intro (Or.inr (Exists.intro _ (And.intro rfl (fz_eq (congrArg (AV.int _) (by omega)))))) ?_ | refine And.intro (Or.inr (Exists.intro _ (And.intro rfl (fz_eq (congrArg (AV.own _ _ _) (by (try dsimp only); (try simp only [List.length_append, List.length_map, List.length_cons, List.length_nil, List.length_take, List.length_set, List.length_replicate]); (try dsimp only); first | done | omega)))))) ?_)) sub_of (by simp_all))
      | (rw [show tyMore t = true from decide_eq_true (.inl ⟨hN, by simp_all⟩)]; exact ⟨fz_of, sub_of⟩)
  (first | refine ab ?_ | exact ab0 | fail)
  refine joinP [(1, some (.ptr id1 6 0 0))] ((id1, .rows 6 [tyR t]) :: H) (¬ ((kBd t.kd = false ∧ t.bd ≠ 0) ∨ (kEl t.kd = false ∧ t.el ≠ 0) ∨ (kTg t.kd = false ∧ t.tg ≠ 0))) ?_ (fun p2 => ?_)
  · have eM : ((kBd t.kd = false ∧ t.bd ≠ 0) ∨ (kEl t.kd = false ∧ t.el ≠ 0) ∨ (kTg t.kd = false ∧ t.tg ≠ 0)) → tyMore t = true := fun q => decide_eq_true (.inr q)
    simp only [kBd, kEl, kTg, decide_eq_false_iff_not] at eM ⊢
    (repeat' (first | (refine au ?_; first | refine bsplit_dec (fun _ => ?_) (fun _ => ?_) | refine bsplit_intro (fun _ => ?_) (fun _ => ?_)) | exact au0 | fail)); (all_goals try (first | refine au ?_ | fail))
    all_goals first
      | (refine metP (by repeat (first | exact trivial | refine And.intro (Or.inl rfl) ?_ | refine And.intro (Or.inr (Exists.intro _ (And.intro rfl (Fz.refl _)))) ?_ | refine And.intro (Or.inr (Exists.intro _ (And.intro rfl (fz_eq (congrArg (AV.int _) (by omega)))))) ?_ | refine And.intro (Or.inr (Exists.intro _ (And.intro rfl (fz_eq (congrArg (AV.own _ _ _) (by (try dsimp only); (try simp only [List.length_append, List.length_map, List.length_cons, List.length_nil, List.length_take, List.length_set, List.length_replicate]); (try dsimp only); first | done | omega)))))) ?_)) sub_of (by omega))
      | (rw [eM (by omega)]; exact ⟨fz_of, sub_of⟩)
  have hm : tyMore t = false := decide_eq_false fun q => q.elim p1 p2
  rw [hm, Bool.false_or]
  (first | refine au ?_ | exact au0 | fail)
  refine loopL [(1, some _)] 3 0 t.its.length (none' (itMore t.kd) t.its) (by repeat (first | exact trivial | refine And.intro (Or.inl rfl) ?_ | refine And.intro (Or.inr (Exists.intro _ (And.intro rfl (Fz.refl _)))) ?_ | refine And.intro (Or.inr (Exists.intro _ (And.intro rfl (fz_eq (congrArg (AV.int _) (by omega)))))) ?_ | refine And.intro (Or.inr (Exists.intro _ (And.intro rfl (fz_eq (congrArg (AV.own _ _ _) (by (try dsimp only); (try simp only [List.length_append, List.length_map, List.length_cons, List.length_nil, List.length_take, List.length_set, List.length_replicate]); (try dsimp only); first | done | omega)))))) ?_)) (Nat.zero_le _) none'_zero (fun i hi hn => ?_)
  (first | refine au ?_ | exact au0 | fail)
  refine bsplit_dec (fun c => ?_) (fun c => ?_)
  · have hil : i < t.its.length := by omega
    have hge := row_get (f := itR) hil
    have hany : itMore t.kd t.its[i] = true → t.its.any (itMore t.kd) = true := any_hit hil
    have hnx := none'_succ hn hil
    generalize t.its[i] = x at *
    (first | refine au ?_ | exact au0 | fail)
    rw [hge]
    (first | refine au ?_ | exact au0 | fail)
    intro id9 hid9 ht9; have n9 := neAll_of hid9; (try simp only [neAll, neAll_hset] at n9); have m9 := n9; (repeat (obtain ⟨_, m9⟩ := m9))
    (repeat' (first | (refine au ?_; first | refine bsplit_dec (fun _ => ?_) (fun _ => ?_) | refine bsplit_intro (fun _ => ?_) (fun _ => ?_)) | exact au0 | fail)); (all_goals try (first | refine au ?_ | fail))
    all_goals first
      | (rw [hany (by unfold itMore; apply decide_eq_true; simp_all)]; exact ⟨fz_of, sub_of⟩)
      | (refine nextN (by repeat (first | exact trivial | refine And.intro (Or.inl rfl) ?_ | refine And.intro (Or.inr (Exists.intro _ (And.intro rfl (Fz.refl _)))) ?_ | refine And.intro (Or.inr (Exists.intro _ (And.intro rfl (fz_eq (congrArg (AV.int _) (by omega)))))) ?_ | refine And.intro (Or.inr (Exists.intro _ (And.intro rfl (fz_eq (congrArg (AV.own _ _ _) (by (try dsimp only); (try simp only [List.length_append, List.length_map, List.length_cons, List.length_nil, List.length_take, List.length_set, List.length_replicate]); (try dsimp only); first | done | omega)))))) ?_)) (by exact sub_of) (by omega) (hnx (by unfold itMore; apply decide_eq_false; simp_all)))
  · rw [none'_end hn (by omega)]
    (first | refine au ?_ | exact au0 | fail)
    exact ⟨fz_of, sub_of⟩
end Go.Proofs.Ytodiahhfpcdejaa

/- Types in the reference, walked: items. -/
namespace Go.Proofs.Ytodiahhfpcdejaa
set_option autoImplicit false
set_option linter.unusedSimpArgs false
set_option linter.unusedVariables false
attribute [local irreducible] callA callP ACalls
/-- A place, or -1. -/
abbrev ixN : Option Nat → AV
  | some n => .int .i64 (n : Nat)
  | none => .int .i64 (-1)
theorem r6_Value_spec (l : List Ty) (hl : TysOk l) (t : Int) (n : Nat) (H : AH) : ACalls PG broadsheetref06_Value.n [tysA l, .int .i64 t, .int .u64 (n : Nat)] H fun r H' => r = ixN (valIx l t n) ∧ H' = H := by
  have hlen : (l.map tyR).length = l.length := by simp
  have hll := hl.len
  refine ACalls.fz (broadsheetref06_Value.of rfl (wpF_start ?_))
  unfold valIx
  by_cases hb : 0 ≤ t ∧ t < l.length
  · have hge := tAt_get hb.1 hb.2
    have hti := (hl.all _ (tAt_mem hb.1 hb.2)).its
    generalize tAt l t = g at *
    have hlen2 : (g.its.map itR).length = g.its.length := by simp
    (first | refine au ?_ | exact au0 | fail)
    rw [hge]
    (first | refine au ?_ | exact au0 | fail)
    refine bsplit_dec (fun c => ?_) (fun c => ?_)
    · rw [if_neg (fun q => c q.2.2)]
      (first | refine au ?_ | exact au0 | fail)
      exact ⟨fz_of, sub_of⟩
    rw [if_pos ⟨hb.1, hb.2, Classical.not_not.1 c⟩]
    (first | refine au ?_ | exact au0 | fail)
    refine loopL [(0, some _), (1, some _), (2, some _)] 7 0 g.its.length (none' (fun x => x.num == n) g.its) (by repeat (first | exact trivial | refine And.intro (Or.inl rfl) ?_ | refine And.intro (Or.inr (Exists.intro _ (And.intro rfl (Fz.refl _)))) ?_ | refine And.intro (Or.inr (Exists.intro _ (And.intro rfl (fz_eq (congrArg (AV.int _) (by omega)))))) ?_ | refine And.intro (Or.inr (Exists.intro _ (And.intro rfl (fz_eq (congrArg (AV.own _ _ _) (by (try dsimp only); (try simp only [List.length_append, List.length_map, List.length_cons, List.length_nil, List.length_take, List.length_set, List.length_replicate]); (try dsimp only); first | done | omega)))))) ?_)) (Nat.zero_le _) none'_zero (fun i hi hno => ?_)
    (first | refine au ?_ | exact au0 | fail)
    rw [hge]
    (first | refine au ?_ | exact au0 | fail)
    refine bsplit_dec (fun c => ?_) (fun c => ?_)
    · have hil : i < g.its.length := by omega
      have hge2 := row_get (f := itR) hil
      have hhit : (g.its[i].num == n) = true → g.its.findIdx? (fun x => x.num == n) = some i := find_hit (p := fun x : It => x.num == n) hno hil
      have hnx := none'_succ hno hil
      generalize g.its[i] = x at *
      (first | refine au ?_ | exact au0 | fail)
      rw [hge]
      (first | refine au ?_ | exact au0 | fail)
      rw [hge2]
      (first | refine au ?_ | exact au0 | fail)
      refine bsplit_dec (fun c => ?_) (fun c => ?_)
      · (first | refine au ?_ | exact au0 | fail)
        rw [hhit (by simp; omega)]
        exact ⟨fz_of, sub_of⟩
      · (first | refine au ?_ | exact au0 | fail)
        refine nextN (by repeat (first | exact trivial | refine And.intro (Or.inl rfl) ?_ | refine And.intro (Or.inr (Exists.intro _ (And.intro rfl (Fz.refl _)))) ?_ | refine And.intro (Or.inr (Exists.intro _ (And.intro rfl (fz_eq (congrArg (AV.int _) (by omega)))))) ?_ | refine And.intro (Or.inr (Exists.intro _ (And.intro rfl (fz_eq (congrArg (AV.own _ _ _) (by (try dsimp only); (try simp only [List.length_append, List.length_map, List.length_cons, List.length_nil, List.length_take, List.length_set, List.length_replicate]); (try dsimp only); first | done | omega)))))) ?_)) (by exact sub_of) (by omega) (hnx (by simp; omega))
    · (first | refine au ?_ | exact au0 | fail)
      rw [find_none hno (by omega)]
      exact ⟨fz_of, sub_of⟩
  · rw [if_neg (fun q => hb ⟨q.1, q.2.1⟩)]
    (repeat' (first | (refine au ?_; first | refine bsplit_dec (fun _ => ?_) (fun _ => ?_) | refine bsplit_intro (fun _ => ?_) (fun _ => ?_)) | exact au0 | fail)); (all_goals try (first | refine au ?_ | fail))
    all_goals first | omega | exact ⟨fz_of, sub_of⟩
theorem r6_number_spec (l : List Ty) (hl : TysOk l) (n : Nat) (t : Ty) (hn : n ≤ l.length) (hN : kNm t.kd = true) (h13 : t.kd ≠ 13) (ho : orderE l t n = 0) (m : Nat) (hm : m < 18446744073709551616) (H : AH) : ACalls PG broadsheetref06_number.n [tysA l, .agg (tyR t), .int .u64 (m : Nat)] H fun r H' => r = .bool (mayT l t m) ∧ H' = H := by
  have hlen : (l.map tyR).length = l.length := by simp
  have hll := hl.len
  refine ACalls.fz (broadsheetref06_number.of rfl (wpF_start ?_))
  unfold mayT
  (first | refine au ?_ | exact au0 | fail)
  intro id3 hid3 ht3; have n3 := neAll_of hid3; (try simp only [neAll, neAll_hset] at n3); have m3 := n3; (repeat (obtain ⟨_, m3⟩ := m3))
  (first | refine au ?_ | exact au0 | fail)
  refine bsplit_dec (fun c => ?_) (fun c => ?_)
  · rw [if_pos c]
    (first | refine au ?_ | exact au0 | fail)
    first | refine callF_eq (r5_May_spec _ m hm _) ?_ | refine callG_eq rfl (r5_May_spec _ m hm _) ?_
    (first | refine au ?_ | exact au0 | fail)
    exact ⟨fz_of, sub_of⟩
  · rw [if_neg c]
    have h14 : t.kd = 14 := by rcases kd4 hN with h | h | h <;> omega
    have hin := orderE_in ho _ (parts_tag h14)
    have hge := tAt_get (l := l) hin.1 (by omega)
    generalize hg : tAt l t.tg = g at *
    (first | refine au ?_ | exact au0 | fail)
    rw [hge]
    (first | refine au ?_ | exact au0 | fail)
    refine bsplit_dec (fun c2 => ?_) (fun c2 => ?_)
    · rw [if_pos c2]
      have hV := fun H => r6_Value_spec l hl t.tg m H
      generalize valIx l t.tg m = o at *
      cases o with
      | some k =>
        (first | refine au ?_ | exact au0 | fail)
        first | refine callF_eq (hV _) ?_ | refine callG_eq rfl (hV _) ?_
        (first | refine au ?_ | exact au0 | fail)
        exact ⟨fz_eq (congrArg AV.bool (by simp)), sub_of⟩
      | none =>
        (first | refine au ?_ | exact au0 | fail)
        first | refine callF_eq (hV _) ?_ | refine callG_eq rfl (hV _) ?_
        (first | refine au ?_ | exact au0 | fail)
        exact ⟨fz_eq (congrArg AV.bool (by simp)), sub_of⟩
    · rw [if_neg c2]
      (first | refine au ?_ | exact au0 | fail)
      rw [hge]
      (first | refine au ?_ | exact au0 | fail)
      first | refine callF_eq (r5_May_spec _ m hm _) ?_ | refine callG_eq rfl (r5_May_spec _ m hm _) ?_
      (first | refine au ?_ | exact au0 | fail)
      exact ⟨fz_of, sub_of⟩
theorem ref_Word4_spec (s : List UInt8) (H : AH) : ACalls PG broadsheetref04_Word.n [.str s] H fun r H' => r = .bool (rsv.contains s) ∧ H' = H := rword_spec s H
theorem tw_full {p : UInt8 → Bool} : ∀ r : List UInt8, (r.takeWhile p).length = r.length ↔ r.all p = true
  | [] => by simp
  | a :: r => by
    rw [List.takeWhile_cons]
    cases h : p a
    · simp [h]
    · simp only [if_true, List.length_cons, List.all_cons, h, Bool.true_and, ← tw_full r]; omega
theorem fmd_nl (s : List UInt8) : fmd s = (decide (s ≠ []) && decide (nl s = s.length)) := by
  cases s with
  | nil => rfl
  | cons c r =>
    unfold fmd
    rw [nl_cons]
    simp only [List.getD_cons_zero, List.all_cons, List.length_cons, ne_eq, reduceCtorEq, not_false_eq_true, decide_true, Bool.true_and]
    cases hc : ltr c
    · simp
    · simp only [if_true, Bool.true_and]
      have hn : nam c = true := by simp [nam, hc]
      rw [hn, Bool.true_and]
      have hf := tw_full (p := nam) r
      cases ha : r.all nam
      · symm
        apply decide_eq_false
        intro q
        have := hf.1 (by omega)
        rw [ha] at this; cases this
      · symm
        apply decide_eq_true
        have := hf.2 ha
        omega
theorem r4_Name_spec (s : List UInt8) (hs : s.length ≤ 140737488351232) (H : AH) : ACalls PG broadsheetref04_Name.n [.str s] H fun r H' => r = .bool (nameOk s) ∧ H' = H := by
  refine ACalls.fz (broadsheetref04_Name.of rfl (wpF_start ?_))
  have e : nameOk s = (fmd s && decide (s.length ≤ 16) && !rsv.contains s) := by
    rw [fmd_nl]; unfold nameOk
    cases decide (s ≠ []) <;> cases decide (s.length ≤ 16) <;> cases decide (nl s = s.length) <;> cases rsv.contains s <;> rfl
  rw [e]
  have hf := fun H => ref_formed_spec s hs H
  have hw := fun H => rword_spec s H
  generalize fmd s = f at *
  generalize rsv.contains s = w at *
  cases f
  · (first | refine au ?_ | exact au0 | fail)
    first | refine callF_eq (hf _) ?_ | refine callG_eq rfl (hf _) ?_
    (first | refine au ?_ | exact au0 | fail)
    exact ⟨fz_of, sub_of⟩
  · (first | refine au ?_ | exact au0 | fail)
    first | refine callF_eq (hf _) ?_ | refine callG_eq rfl (hf _) ?_
    (first | refine au ?_ | exact au0 | fail)
    refine bsplit_dec (fun c => ?_) (fun c => ?_)
    · (first | refine au ?_ | exact au0 | fail)
      first | refine callF_eq (hw _) ?_ | refine callG_eq rfl (hw _) ?_
      (first | refine au ?_ | exact au0 | fail)
      exact ⟨fz_eq (congrArg AV.bool (by simp; omega)), sub_of⟩
    · (first | refine au ?_ | exact au0 | fail)
      exact ⟨fz_eq (congrArg AV.bool (by simp; omega)), sub_of⟩
theorem any_succ {α : Type} {p : α → Bool} {l : List α} {i : Nat} (h : i < l.length) : (l.take (i + 1)).any p = ((l.take i).any p || p l[i]) := by
  rw [List.take_add_one, List.getElem?_eq_getElem h, List.any_append]; simp
theorem none'_take {α : Type} {p : α → Bool} {l : List α} {i : Nat} (h : none' p l i) : (l.take i).any p = false := take_any_no h (Nat.le_refl _)
theorem take_hit {α : Type} {p : α → Bool} {l : List α} {i k : Nat} (hk : k < l.length) (h : k < i) (hp : p l[k] = true) : (l.take i).any p = true := any_take.2 ⟨k, hk, h, hp⟩
theorem r6_item_spec (l : List Ty) (hl : TysOk l) (n : Nat) (t : Ty) (hok : TyOk t) (hn : n ≤ l.length) (hN : kNm t.kd = true) (ho : orderE l t n = 0) (i : Nat) (hi : i < t.its.length) (H : AH) :
    ACalls PG broadsheetref06_item.n [tysA l, .agg (tyR t), .int .i64 (i : Nat)] H fun r H' => r = .int .i64 (itemE l t i) ∧ H' = H := by
  have hlen : (t.its.map itR).length = t.its.length := by simp
  have hll := hl.len
  have hli := hok.its
  have hge := row_get (f := itR) hi
  have hx := List.getElem_mem hi
  have hsn := hok.nms _ hx
  have hpt := fun h => parts_item (t := t) h hx
  have hmay := fun h13 H => r6_number_spec l hl n t hn hN h13 ho t.its[i].num (hok.nums _ hx) H
  refine ACalls.fz (broadsheetref06_item.of rfl (wpF_start ?_))
  unfold itemE
  dsimp only
  rw [getD_get hi]
  generalize t.its[i] = x at *
  (first | refine au ?_ | exact au0 | fail)
  intro id3 hid3 ht3; have n3 := neAll_of hid3; (try simp only [neAll, neAll_hset] at n3); have m3 := n3; (repeat (obtain ⟨_, m3⟩ := m3))
  (first | refine au ?_ | exact au0 | fail)
  rw [hge]
  (first | refine au ?_ | exact au0 | fail)
  intro id5 hid5 ht5; have n5 := neAll_of hid5; (try simp only [neAll, neAll_hset] at n5); have m5 := n5; (repeat (obtain ⟨_, m5⟩ := m5))
  (first | refine au ?_ | exact au0 | fail)
  first | refine callF_eq (r4_Name_spec _ hsn _) ?_ | refine callG_eq rfl (r4_Name_spec _ hsn _) ?_
  cases hO : nameOk x.nm
  · (first | refine au ?_ | exact au0 | fail)
    exact ⟨fz_of, sub_of⟩
  rw [if_pos rfl]
  (first | refine au ?_ | exact au0 | fail)
  refine loopM (S := Nat) [(0, some _), (2, some _), (4, some _), (7, some _)] (fun k => [(8, some (.bool ((t.its.take k).any (fun y => y.num == x.num)))), (9, some (.int .i64 (k : Nat)))]) (fun _ => _) (fun k => i - k) (fun k => k ≤ i ∧ none' (fun y => y.nm == x.nm) t.its k) 0 (by repeat (first | exact trivial | refine And.intro (Or.inl rfl) ?_ | refine And.intro (Or.inr (Exists.intro _ (And.intro rfl (Fz.refl _)))) ?_ | refine And.intro (Or.inr (Exists.intro _ (And.intro rfl (fz_eq (congrArg (AV.int _) (by omega)))))) ?_ | refine And.intro (Or.inr (Exists.intro _ (And.intro rfl (fz_eq (congrArg (AV.own _ _ _) (by (try dsimp only); (try simp only [List.length_append, List.length_map, List.length_cons, List.length_nil, List.length_take, List.length_set, List.length_replicate]); (try dsimp only); first | done | omega)))))) ?_)) (Sub.refl _) ⟨Nat.zero_le _, none'_zero⟩ (fun k hk => ?_)
  obtain ⟨hk, hno⟩ := hk
  (first | refine au ?_ | exact au0 | fail)
  refine bsplit_dec (fun c => ?_) (fun c => ?_)
  · have hkl : k < t.its.length := by omega
    have hge2 := row_get (f := itR) hkl
    have hany : (t.its[k].nm == x.nm) = true → (t.its.take i).any (fun y => y.nm == x.nm) = true := take_hit (p := fun y : It => y.nm == x.nm) hkl (by omega)
    have hnx := none'_succ hno hkl
    have has := any_succ (p := fun y : It => y.num == x.num) hkl
    generalize t.its[k] = y at *
    (first | refine au ?_ | exact au0 | fail)
    rw [hge2]
    (first | refine au ?_ | exact au0 | fail)
    refine bsplit_dec (fun h => ?_) (fun h => ?_)
    · (first | refine au ?_ | exact au0 | fail)
      rw [hany (by simpa using h)]
      exact ⟨fz_of, sub_of⟩
    · have hq := hnx (by simpa using h)
      generalize hb : (t.its.take k).any (fun y => y.num == x.num) = b at *
      cases b
      · (first | refine au ?_ | exact au0 | fail)
        rw [hge2]
        (first | refine au ?_ | exact au0 | fail)
        refine nextS (S := Nat) (k + 1) (by (try dsimp only); rw [has, Bool.false_or, show (y.num == x.num) = decide ((y.num : Int) = x.num) from by rw [Bool.eq_iff_iff]; simp; omega]; exact (by repeat (first | exact trivial | refine And.intro (Or.inl rfl) ?_ | refine And.intro (Or.inr (Exists.intro _ (And.intro rfl (Fz.refl _)))) ?_ | refine And.intro (Or.inr (Exists.intro _ (And.intro rfl (fz_eq (congrArg (AV.int _) (by omega)))))) ?_ | refine And.intro (Or.inr (Exists.intro _ (And.intro rfl (fz_eq (congrArg (AV.own _ _ _) (by (try dsimp only); (try simp only [List.length_append, List.length_map, List.length_cons, List.length_nil, List.length_take, List.length_set, List.length_replicate]); (try dsimp only); first | done | omega)))))) ?_))) (Sub.refl _) (by first | omega | (dsimp only; omega)) ⟨by omega, hq⟩
      · (first | refine au ?_ | exact au0 | fail)
        refine nextS (S := Nat) (k + 1) (by (try dsimp only); rw [has, Bool.true_or]; exact (by repeat (first | exact trivial | refine And.intro (Or.inl rfl) ?_ | refine And.intro (Or.inr (Exists.intro _ (And.intro rfl (Fz.refl _)))) ?_ | refine And.intro (Or.inr (Exists.intro _ (And.intro rfl (fz_eq (congrArg (AV.int _) (by omega)))))) ?_ | refine And.intro (Or.inr (Exists.intro _ (And.intro rfl (fz_eq (congrArg (AV.own _ _ _) (by (try dsimp only); (try simp only [List.length_append, List.length_map, List.length_cons, List.length_nil, List.length_take, List.length_set, List.length_replicate]); (try dsimp only); first | done | omega)))))) ?_))) (Sub.refl _) (by first | omega | (dsimp only; omega)) ⟨by omega, hq⟩
  obtain rfl : k = i := by omega
  rw [none'_take hno, if_neg Bool.false_ne_true]
  generalize (t.its.take k).any (fun y => y.num == x.num) = b at *
  (first | refine au ?_ | exact au0 | fail)
  refine bsplit_dec (fun h13 => ?_) (fun h13 => ?_)
  · have hin := orderE_in ho _ (hpt (.inl h13))
    have hge3 := tAt_get (l := l) hin.1 (by omega)
    rw [if_pos h13]
    generalize tAt l x.ty = g at *
    (first | refine au ?_ | exact au0 | fail)
    rw [hge3]
    (first | refine au ?_ | exact au0 | fail)
    cases hkey : x.key
    all_goals (repeat' (first | (refine au ?_; first | refine callF_eq (r5_Number_spec _ _) ?_ | refine bsplit_dec (fun _ => ?_) (fun _ => ?_) | refine bsplit_intro (fun _ => ?_) (fun _ => ?_)) | exact au0 | fail)); (all_goals try (first | refine au ?_ | fail))
    all_goals (refine ⟨fz_eq (congrArg (AV.int .i64) ?_), sub_of⟩; simp only [isNum, decide_eq_false_iff_not, true_and, Bool.false_eq_true, false_and, if_false]; first | done | (split <;> omega))
  · rw [if_neg h13]
    have hm := hmay h13
    cases hr : x.rest
    · (first | refine au ?_ | exact au0 | fail)
      first | refine callF_eq (hm _) ?_ | refine callG_eq rfl (hm _) ?_
      cases hy : mayT l t x.num
      · (first | refine au ?_ | exact au0 | fail)
        exact ⟨fz_of, sub_of⟩
      cases b
      · (first | refine au ?_ | exact au0 | fail)
        exact ⟨fz_of, sub_of⟩
      · (first | refine au ?_ | exact au0 | fail)
        exact ⟨fz_of, sub_of⟩
    · rw [if_pos (rfl : true = true)]
      (first | refine au ?_ | exact au0 | fail)
      refine bsplit_dec (fun c => ?_) (fun c => ?_)
      · (first | refine au ?_ | exact au0 | fail)
        refine ⟨fz_eq (congrArg (AV.int .i64) ?_), sub_of⟩
        rw [if_neg (by omega)]
      · (first | refine au ?_ | exact au0 | fail)
        refine ⟨fz_eq (congrArg (AV.int .i64) ?_), sub_of⟩
        rw [if_pos (by omega)]
end Go.Proofs.Ytodiahhfpcdejaa
