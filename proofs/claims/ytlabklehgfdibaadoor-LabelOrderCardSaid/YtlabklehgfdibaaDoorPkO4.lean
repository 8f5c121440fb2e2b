/- Texts of this proof, one behind the other: SimAuto, SimSW, SimLoop, LabBits, LabSpec, ShelfLay, SimShelf, JoinSpec, SimShelf2, TabN, TabIs, SplitSpec, DigSpec, LabText, RLabSpec, RLabSpec2, LabMath2, LabMath3, LabParse, SimRec, LabLaw, TabSpecLabelOrder. -/
import Derived.Test.YtlabklehgfdibaaDoorPkO3
import Derived.Test.YtlabklehgfdibaaDoorProg
import Derived.Shelf.Strings.OnBuilder
import Derived.Shelf.Strconv.Itoa3
import Derived.Shelf.Strings.Cut
import Derived.Shelf.Strings.Split
import Derived.Shelf.Small.Wraps
import Derived.KernelRfl
import Derived.Below
import Derived.Lib.Join
import GoSem.Core.Region
import Derived.Lib.LaidTab
import Derived.Lib.Split
import Derived.Lib.IndexMore
import Derived.Lib.Strings
import Derived.Lib.SplitLaws
import Derived.Test.YtlabklehgfdibaaDoorCards
import Derived.Test.YtlabklehgfdibaaDoorTie
import Derived.LaidMore
import Derived.Stop.LaidErr
import Derived.SevenTiedAt
import Derived.Shelf.Vars
import Derived.ShapedOpen
import Derived.Lay
/- Steps that are alike everywhere, as arguments that a proof fills in by itself. -/
namespace Go.Proofs.YtlabklehgfdibaaDoor
set_option autoImplicit false
set_option linter.unusedVariables false
/-- A fresh block is none of those that are there. -/
def neAll : AH → Nat → Prop
  | [], _ => True
  | (i, _) :: H, j => j ≠ i ∧ neAll H j
theorem neAll_of {H : AH} {j : Nat} (h : hget H j = none) : neAll H j := by
  induction H with
  | nil => trivial
  | cons p H ih =>
    obtain ⟨i, b⟩ := p
    obtain ⟨a, c⟩ := hget_fresh h
    exact ⟨a, ih c⟩
theorem hget_none {H : AH} {j : Nat} (h : neAll H j) : hget H j = none := by
  induction H with
  | nil => rfl
  | cons p H ih =>
    obtain ⟨i, b⟩ := p
    exact (hget_tail (fun e => h.1 e.symm)).trans (ih h.2)
theorem neAll_hset {H : AH} {i j : Nat} {b : Blk} : neAll (hset H i b) j ↔ neAll H j := by
  induction H with
  | nil => exact Iff.rfl
  | cons p H ih =>
    obtain ⟨k, c⟩ := p
    simp only [hset]
    split
    · simp only [neAll]
    · simp only [neAll, ih]
structure Hid (k : Prop) : Prop where
  o : k
theorem hg_of {H : AH} {id : Nat} {b : Option Blk} (h : hget H id = b := by repeat (first | (with_reducible refine Eq.trans hget_self ?_; exact rfl) | with_reducible assumption | (with_reducible refine Eq.trans (hget_tail ?_) ?_; next => first | with_reducible assumption | (apply Ne.symm; with_reducible assumption) | omega) | (with_reducible refine Eq.trans (hget_set ?_) ?_; rotate_left; exact rfl) | (with_reducible refine Eq.trans (hget_set_ne ?_) ?_; next => first | with_reducible assumption | (apply Ne.symm; with_reducible assumption) | omega) | (with_reducible refine Eq.trans (hget_del_ne ?_) ?_; next => first | with_reducible assumption | (apply Ne.symm; with_reducible assumption) | omega) | exact hget_self | assumption | apply hget_set)) : hget H id = b := h
/-- Step until something is to be decided; what is left is k. -/
theorem au {k g : Prop} (h : k) (t : Hid k → g := by intro hk; (repeat ((conv => whnf); first | refine Or.inl ?_ | refine dAuto ?_ | (apply Exists.intro; apply Exists.intro; refine And.intro ?_ ?_; (next => repeat (first | (with_reducible refine Eq.trans hget_self ?_; exact rfl) | with_reducible assumption | (with_reducible refine Eq.trans (hget_tail ?_) ?_; next => first | with_reducible assumption | (apply Ne.symm; with_reducible assumption) | omega) | (with_reducible refine Eq.trans (hget_set ?_) ?_; rotate_left; exact rfl) | (with_reducible refine Eq.trans (hget_set_ne ?_) ?_; next => first | with_reducible assumption | (apply Ne.symm; with_reducible assumption) | omega) | (with_reducible refine Eq.trans (hget_del_ne ?_) ?_; next => first | with_reducible assumption | (apply Ne.symm; with_reducible assumption) | omega) | exact hget_self | assumption | apply hget_set)); refine And.intro (Eq.refl (some _)) ?_) | refine Exists.intro _ (And.intro rfl (And.intro rfl ?_)) | (refine And.intro ?_ ?_; next => first | omega | (dsimp only; omega) | exact rfl | exact Nat.le_of_ble_eq_true rfl | (exact ⟨by omega, by omega⟩) | decide | (simp only [List.length_append, List.length_cons, List.length_nil, List.length_map]; omega)) | (refine rng_i64 ?_ ?_ ?_; (next => first | omega | (dsimp only; omega)); (next => first | omega | (dsimp only; omega))) | (refine rng_u8 ?_ ?_ ?_; (next => first | omega | (dsimp only; omega)); (next => first | omega | (dsimp only; omega))) | (refine rng_u64 ?_ ?_ ?_; (next => first | omega | (dsimp only; omega)); (next => first | omega | (dsimp only; omega))) | (refine rng_quo_u64 ?_ ?_ ?_ ?_; (next => first | omega | (dsimp only; omega)); (next => first | omega | (dsimp only; omega)); (next => first | omega | (dsimp only; omega))) | (refine rng_quo_i64 ?_ ?_ ?_ ?_; (next => first | omega | (dsimp only; omega)); (next => first | omega | (dsimp only; omega)); (next => first | omega | (dsimp only; omega))) | (refine rng_rem_u64 ?_ ?_ ?_ ?_; (next => first | omega | (dsimp only; omega)); (next => first | omega | (dsimp only; omega)); (next => first | omega | (dsimp only; omega))) | (refine rng_rem_i64 ?_ ?_ ?_ ?_; (next => first | omega | (dsimp only; omega)); (next => first | omega | (dsimp only; omega)); (next => first | omega | (dsimp only; omega))) | refine bsplit_tt ?_ | refine bsplit_ff ?_ | refine bsplit_not ?_ | (refine bsplit_pos ?_ ?_; (next => first | omega | (dsimp only; omega))) | (refine bsplit_neg ?_ ?_; (next => first | omega | (dsimp only; omega))) | (apply Exists.intro; refine And.intro ?_ ?_; next => repeat (first | (with_reducible refine Eq.trans hget_self ?_; exact rfl) | with_reducible assumption | (with_reducible refine Eq.trans (hget_tail ?_) ?_; next => first | with_reducible assumption | (apply Ne.symm; with_reducible assumption) | omega) | (with_reducible refine Eq.trans (hget_set ?_) ?_; rotate_left; exact rfl) | (with_reducible refine Eq.trans (hget_set_ne ?_) ?_; next => first | with_reducible assumption | (apply Ne.symm; with_reducible assumption) | omega) | (with_reducible refine Eq.trans (hget_del_ne ?_) ?_; next => first | with_reducible assumption | (apply Ne.symm; with_reducible assumption) | omega) | exact hget_self | assumption | apply hget_set)) | (apply hsetN_of; next => (try simp only [over, List.set_cons_zero, List.set_cons_succ, List.take_zero, List.take_succ_cons, List.take_nil, List.drop_zero, List.drop_succ_cons, List.drop_nil, List.nil_append, List.cons_append, List.append_nil, AV.cells, List.length_cons, List.length_nil, Nat.zero_add, Nat.add_zero, Nat.reduceAdd]); exact rfl) | (refine hdelK_top ?_ ?_; next => first | with_reducible assumption | (refine hget_none ?_; (repeat' apply And.intro) <;> first | omega | exact True.intro | assumption)) | (refine hdelK_down ?_ ?_; next => first | with_reducible assumption | (apply Ne.symm; with_reducible assumption) | omega) | refine hdelK_any ?_ | refine hsetK_top ?_ | (refine hsetK_down ?_ ?_; next => first | with_reducible assumption | (apply Ne.symm; with_reducible assumption) | omega) | refine hsetK_any ?_ )); (conv => whnf); exact hk.o) : g := t ⟨h⟩
theorem au0 {g : Prop} (t : g := by (repeat ((conv => whnf); first | refine Or.inl ?_ | refine dAuto ?_ | (apply Exists.intro; apply Exists.intro; refine And.intro ?_ ?_; (next => repeat (first | (with_reducible refine Eq.trans hget_self ?_; exact rfl) | with_reducible assumption | (with_reducible refine Eq.trans (hget_tail ?_) ?_; next => first | with_reducible assumption | (apply Ne.symm; with_reducible assumption) | omega) | (with_reducible refine Eq.trans (hget_set ?_) ?_; rotate_left; exact rfl) | (with_reducible refine Eq.trans (hget_set_ne ?_) ?_; next => first | with_reducible assumption | (apply Ne.symm; with_reducible assumption) | omega) | (with_reducible refine Eq.trans (hget_del_ne ?_) ?_; next => first | with_reducible assumption | (apply Ne.symm; with_reducible assumption) | omega) | exact hget_self | assumption | apply hget_set)); refine And.intro (Eq.refl (some _)) ?_) | refine Exists.intro _ (And.intro rfl (And.intro rfl ?_)) | (refine And.intro ?_ ?_; next => first | omega | (dsimp only; omega) | exact rfl | exact Nat.le_of_ble_eq_true rfl | (exact ⟨by omega, by omega⟩) | decide | (simp only [List.length_append, List.length_cons, List.length_nil, List.length_map]; omega)) | (refine rng_i64 ?_ ?_ ?_; (next => first | omega | (dsimp only; omega)); (next => first | omega | (dsimp only; omega))) | (refine rng_u8 ?_ ?_ ?_; (next => first | omega | (dsimp only; omega)); (next => first | omega | (dsimp only; omega))) | (refine rng_u64 ?_ ?_ ?_; (next => first | omega | (dsimp only; omega)); (next => first | omega | (dsimp only; omega))) | (refine rng_quo_u64 ?_ ?_ ?_ ?_; (next => first | omega | (dsimp only; omega)); (next => first | omega | (dsimp only; omega)); (next => first | omega | (dsimp only; omega))) | (refine rng_quo_i64 ?_ ?_ ?_ ?_; (next => first | omega | (dsimp only; omega)); (next => first | omega | (dsimp only; omega)); (next => first | omega | (dsimp only; omega))) | (refine rng_rem_u64 ?_ ?_ ?_ ?_; (next => first | omega | (dsimp only; omega)); (next => first | omega | (dsimp only; omega)); (next => first | omega | (dsimp only; omega))) | (refine rng_rem_i64 ?_ ?_ ?_ ?_; (next => first | omega | (dsimp only; omega)); (next => first | omega | (dsimp only; omega)); (next => first | omega | (dsimp only; omega))) | refine bsplit_tt ?_ | refine bsplit_ff ?_ | refine bsplit_not ?_ | (refine bsplit_pos ?_ ?_; (next => first | omega | (dsimp only; omega))) | (refine bsplit_neg ?_ ?_; (next => first | omega | (dsimp only; omega))) | (apply Exists.intro; refine And.intro ?_ ?_; next => repeat (first | (with_reducible refine Eq.trans hget_self ?_; exact rfl) | with_reducible assumption | (with_reducible refine Eq.trans (hget_tail ?_) ?_; next => first | with_reducible assumption | (apply Ne.symm; with_reducible assumption) | omega) | (with_reducible refine Eq.trans (hget_set ?_) ?_; rotate_left; exact rfl) | (with_reducible refine Eq.trans (hget_set_ne ?_) ?_; next => first | with_reducible assumption | (apply Ne.symm; with_reducible assumption) | omega) | (with_reducible refine Eq.trans (hget_del_ne ?_) ?_; next => first | with_reducible assumption | (apply Ne.symm; with_reducible assumption) | omega) | exact hget_self | assumption | apply hget_set)) | (apply hsetN_of; next => (try simp only [over, List.set_cons_zero, List.set_cons_succ, List.take_zero, List.take_succ_cons, List.take_nil, List.drop_zero, List.drop_succ_cons, List.drop_nil, List.nil_append, List.cons_append, List.append_nil, AV.cells, List.length_cons, List.length_nil, Nat.zero_add, Nat.add_zero, Nat.reduceAdd]); exact rfl) | (refine hdelK_top ?_ ?_; next => first | with_reducible assumption | (refine hget_none ?_; (repeat' apply And.intro) <;> first | omega | exact True.intro | assumption)) | (refine hdelK_down ?_ ?_; next => first | with_reducible assumption | (apply Ne.symm; with_reducible assumption) | omega) | refine hdelK_any ?_ | refine hsetK_top ?_ | (refine hsetK_down ?_ ?_; next => first | with_reducible assumption | (apply Ne.symm; with_reducible assumption) | omega) | refine hsetK_any ?_ )); (conv => whnf); (first | done | fail)) : g := t
theorem ah {k g : Prop} (h : k) (t : Hid k → g := by intro hk; (repeat ((conv => whnf); first | refine Or.inl ?_ | refine dAuto ?_ | (apply Exists.intro; apply Exists.intro; refine And.intro ?_ ?_; (next => repeat (first | (with_reducible refine Eq.trans hget_self ?_; exact rfl) | with_reducible assumption | (with_reducible refine Eq.trans (hget_tail ?_) ?_; next => first | with_reducible assumption | (apply Ne.symm; with_reducible assumption) | omega) | (with_reducible refine Eq.trans (hget_set ?_) ?_; rotate_left; exact rfl) | (with_reducible refine Eq.trans (hget_set_ne ?_) ?_; next => first | with_reducible assumption | (apply Ne.symm; with_reducible assumption) | omega) | (with_reducible refine Eq.trans (hget_del_ne ?_) ?_; next => first | with_reducible assumption | (apply Ne.symm; with_reducible assumption) | omega) | exact hget_self | assumption | apply hget_set)); refine And.intro (Eq.refl (some _)) ?_) | refine Exists.intro _ (And.intro rfl (And.intro rfl ?_)) | (refine And.intro ?_ ?_; next => first | omega | (dsimp only; omega) | exact rfl | exact Nat.le_of_ble_eq_true rfl | (exact ⟨by omega, by omega⟩) | decide | (simp only [List.length_append, List.length_cons, List.length_nil, List.length_map]; omega)) | (refine rng_i64 ?_ ?_ ?_; (next => first | omega | (dsimp only; omega)); (next => first | omega | (dsimp only; omega))) | (refine rng_u8 ?_ ?_ ?_; (next => first | omega | (dsimp only; omega)); (next => first | omega | (dsimp only; omega))) | (refine rng_u64 ?_ ?_ ?_; (next => first | omega | (dsimp only; omega)); (next => first | omega | (dsimp only; omega))) | (refine rng_quo_u64 ?_ ?_ ?_ ?_; (next => first | omega | (dsimp only; omega)); (next => first | omega | (dsimp only; omega)); (next => first | omega | (dsimp only; omega))) | (refine rng_quo_i64 ?_ ?_ ?_ ?_; (next => first | omega | (dsimp only; omega)); (next => first | omega | (dsimp only; omega)); (next => first | omega | (dsimp only; omega))) | (refine rng_rem_u64 ?_ ?_ ?_ ?_; (next => first | omega | (dsimp only; omega)); (next => first | omega | (dsimp only; omega)); (next => first | omega | (dsimp only; omega))) | (refine rng_rem_i64 ?_ ?_ ?_ ?_; (next => first | omega | (dsimp only; omega)); (next => first | omega | (dsimp only; omega)); (next => first | omega | (dsimp only; omega))) | refine bsplit_tt ?_ | refine bsplit_ff ?_ | refine bsplit_not ?_ | (refine bsplit_pos ?_ ?_; (next => first | omega | (dsimp only; omega))) | (refine bsplit_neg ?_ ?_; (next => first | omega | (dsimp only; omega))) | (apply Exists.intro; refine And.intro ?_ ?_; next => repeat (first | (with_reducible refine Eq.trans hget_self ?_; exact rfl) | with_reducible assumption | (with_reducible refine Eq.trans (hget_tail ?_) ?_; next => first | with_reducible assumption | (apply Ne.symm; with_reducible assumption) | omega) | (with_reducible refine Eq.trans (hget_set ?_) ?_; rotate_left; exact rfl) | (with_reducible refine Eq.trans (hget_set_ne ?_) ?_; next => first | with_reducible assumption | (apply Ne.symm; with_reducible assumption) | omega) | (with_reducible refine Eq.trans (hget_del_ne ?_) ?_; next => first | with_reducible assumption | (apply Ne.symm; with_reducible assumption) | omega) | exact hget_self | assumption | apply hget_set)) | (apply hsetN_of; next => (try simp only [over, List.set_cons_zero, List.set_cons_succ, List.take_zero, List.take_succ_cons, List.take_nil, List.drop_zero, List.drop_succ_cons, List.drop_nil, List.nil_append, List.cons_append, List.append_nil, AV.cells, List.length_cons, List.length_nil, Nat.zero_add, Nat.add_zero, Nat.reduceAdd]); exact rfl) | (refine hdelK_top ?_ ?_; next => first | with_reducible assumption | (refine hget_none ?_; (repeat' apply And.intro) <;> first | omega | exact True.intro | assumption)) | (refine hdelK_down ?_ ?_; next => first | with_reducible assumption | (apply Ne.symm; with_reducible assumption) | omega) | refine hdelK_any ?_ | refine hsetK_top ?_ | (refine hsetK_down ?_ ?_; next => first | with_reducible assumption | (apply Ne.symm; with_reducible assumption) | omega) | refine hsetK_any ?_  | rw [hset_self] | rw [hset_tail (by first | with_reducible assumption | (apply Ne.symm; with_reducible assumption) | omega)])); (conv => whnf); exact hk.o) : g := t ⟨h⟩
theorem ah0 {g : Prop} (t : g := by (repeat ((conv => whnf); first | refine Or.inl ?_ | refine dAuto ?_ | (apply Exists.intro; apply Exists.intro; refine And.intro ?_ ?_; (next => repeat (first | (with_reducible refine Eq.trans hget_self ?_; exact rfl) | with_reducible assumption | (with_reducible refine Eq.trans (hget_tail ?_) ?_; next => first | with_reducible assumption | (apply Ne.symm; with_reducible assumption) | omega) | (with_reducible refine Eq.trans (hget_set ?_) ?_; rotate_left; exact rfl) | (with_reducible refine Eq.trans (hget_set_ne ?_) ?_; next => first | with_reducible assumption | (apply Ne.symm; with_reducible assumption) | omega) | (with_reducible refine Eq.trans (hget_del_ne ?_) ?_; next => first | with_reducible assumption | (apply Ne.symm; with_reducible assumption) | omega) | exact hget_self | assumption | apply hget_set)); refine And.intro (Eq.refl (some _)) ?_) | refine Exists.intro _ (And.intro rfl (And.intro rfl ?_)) | (refine And.intro ?_ ?_; next => first | omega | (dsimp only; omega) | exact rfl | exact Nat.le_of_ble_eq_true rfl | (exact ⟨by omega, by omega⟩) | decide | (simp only [List.length_append, List.length_cons, List.length_nil, List.length_map]; omega)) | (refine rng_i64 ?_ ?_ ?_; (next => first | omega | (dsimp only; omega)); (next => first | omega | (dsimp only; omega))) | (refine rng_u8 ?_ ?_ ?_; (next => first | omega | (dsimp only; omega)); (next => first | omega | (dsimp only; omega))) | (refine rng_u64 ?_ ?_ ?_; (next => first | omega | (dsimp only; omega)); (next => first | omega | (dsimp only; omega))) | (refine rng_quo_u64 ?_ ?_ ?_ ?_; (next => first | omega | (dsimp only; omega)); (next => first | omega | (dsimp only; omega)); (next => first | omega | (dsimp only; omega))) | (refine rng_quo_i64 ?_ ?_ ?_ ?_; (next => first | omega | (dsimp only; omega)); (next => first | omega | (dsimp only; omega)); (next => first | omega | (dsimp only; omega))) | (refine rng_rem_u64 ?_ ?_ ?_ ?_; (next => first | omega | (dsimp only; omega)); (next => first | omega | (dsimp only; omega)); (next => first | omega | (dsimp only; omega))) | (refine rng_rem_i64 ?_ ?_ ?_ ?_; (next => first | omega | (dsimp only; omega)); (next => first | omega | (dsimp only; omega)); (next => first | omega | (dsimp only; omega))) | refine bsplit_tt ?_ | refine bsplit_ff ?_ | refine bsplit_not ?_ | (refine bsplit_pos ?_ ?_; (next => first | omega | (dsimp only; omega))) | (refine bsplit_neg ?_ ?_; (next => first | omega | (dsimp only; omega))) | (apply Exists.intro; refine And.intro ?_ ?_; next => repeat (first | (with_reducible refine Eq.trans hget_self ?_; exact rfl) | with_reducible assumption | (with_reducible refine Eq.trans (hget_tail ?_) ?_; next => first | with_reducible assumption | (apply Ne.symm; with_reducible assumption) | omega) | (with_reducible refine Eq.trans (hget_set ?_) ?_; rotate_left; exact rfl) | (with_reducible refine Eq.trans (hget_set_ne ?_) ?_; next => first | with_reducible assumption | (apply Ne.symm; with_reducible assumption) | omega) | (with_reducible refine Eq.trans (hget_del_ne ?_) ?_; next => first | with_reducible assumption | (apply Ne.symm; with_reducible assumption) | omega) | exact hget_self | assumption | apply hget_set)) | (apply hsetN_of; next => (try simp only [over, List.set_cons_zero, List.set_cons_succ, List.take_zero, List.take_succ_cons, List.take_nil, List.drop_zero, List.drop_succ_cons, List.drop_nil, List.nil_append, List.cons_append, List.append_nil, AV.cells, List.length_cons, List.length_nil, Nat.zero_add, Nat.add_zero, Nat.reduceAdd]); exact rfl) | (refine hdelK_top ?_ ?_; next => first | with_reducible assumption | (refine hget_none ?_; (repeat' apply And.intro) <;> first | omega | exact True.intro | assumption)) | (refine hdelK_down ?_ ?_; next => first | with_reducible assumption | (apply Ne.symm; with_reducible assumption) | omega) | refine hdelK_any ?_ | refine hsetK_top ?_ | (refine hsetK_down ?_ ?_; next => first | with_reducible assumption | (apply Ne.symm; with_reducible assumption) | omega) | refine hsetK_any ?_  | rw [hset_self] | rw [hset_tail (by first | with_reducible assumption | (apply Ne.symm; with_reducible assumption) | omega)])); (conv => whnf); (first | done | fail)) : g := t
theorem ac {k g : Prop} (h : k) (t : Hid k → g := by intro hk; (repeat ((conv => whnf); first | (apply Exists.intro; apply Exists.intro; refine And.intro ?_ ?_; (next => repeat (first | (with_reducible refine Eq.trans hget_self ?_; exact rfl) | with_reducible assumption | (with_reducible refine Eq.trans (hget_tail ?_) ?_; next => first | with_reducible assumption | (apply Ne.symm; with_reducible assumption) | omega) | (with_reducible refine Eq.trans (hget_set ?_) ?_; rotate_left; exact rfl) | (with_reducible refine Eq.trans (hget_set_ne ?_) ?_; next => first | with_reducible assumption | (apply Ne.symm; with_reducible assumption) | omega) | (with_reducible refine Eq.trans (hget_del_ne ?_) ?_; next => first | with_reducible assumption | (apply Ne.symm; with_reducible assumption) | omega) | exact hget_self | assumption | apply hget_set)); refine And.intro (Eq.refl (some _)) ?_) | refine Exists.intro _ (And.intro rfl (And.intro rfl ?_)) | (refine And.intro ?_ ?_; next => first | omega | (dsimp only; omega) | exact rfl | exact Nat.le_of_ble_eq_true rfl | (exact ⟨by omega, by omega⟩) | decide | (simp only [List.length_append, List.length_cons, List.length_nil, List.length_map]; omega)) | (refine rng_i64 ?_ ?_ ?_; (next => first | omega | (dsimp only; omega)); (next => first | omega | (dsimp only; omega))) | (refine rng_u8 ?_ ?_ ?_; (next => first | omega | (dsimp only; omega)); (next => first | omega | (dsimp only; omega))) | (refine rng_u64 ?_ ?_ ?_; (next => first | omega | (dsimp only; omega)); (next => first | omega | (dsimp only; omega))) | (refine rng_quo_u64 ?_ ?_ ?_ ?_; (next => first | omega | (dsimp only; omega)); (next => first | omega | (dsimp only; omega)); (next => first | omega | (dsimp only; omega))) | (refine rng_quo_i64 ?_ ?_ ?_ ?_; (next => first | omega | (dsimp only; omega)); (next => first | omega | (dsimp only; omega)); (next => first | omega | (dsimp only; omega))) | (refine rng_rem_u64 ?_ ?_ ?_ ?_; (next => first | omega | (dsimp only; omega)); (next => first | omega | (dsimp only; omega)); (next => first | omega | (dsimp only; omega))) | (refine rng_rem_i64 ?_ ?_ ?_ ?_; (next => first | omega | (dsimp only; omega)); (next => first | omega | (dsimp only; omega)); (next => first | omega | (dsimp only; omega))) | refine bsplit_tt ?_ | refine bsplit_ff ?_ | refine bsplit_not ?_ | (refine bsplit_pos ?_ ?_; (next => first | omega | (dsimp only; omega))) | (refine bsplit_neg ?_ ?_; (next => first | omega | (dsimp only; omega))) | (apply Exists.intro; refine And.intro ?_ ?_; next => repeat (first | (with_reducible refine Eq.trans hget_self ?_; exact rfl) | with_reducible assumption | (with_reducible refine Eq.trans (hget_tail ?_) ?_; next => first | with_reducible assumption | (apply Ne.symm; with_reducible assumption) | omega) | (with_reducible refine Eq.trans (hget_set ?_) ?_; rotate_left; exact rfl) | (with_reducible refine Eq.trans (hget_set_ne ?_) ?_; next => first | with_reducible assumption | (apply Ne.symm; with_reducible assumption) | omega) | (with_reducible refine Eq.trans (hget_del_ne ?_) ?_; next => first | with_reducible assumption | (apply Ne.symm; with_reducible assumption) | omega) | exact hget_self | assumption | apply hget_set)) | (apply hsetN_of; next => (try simp only [over, List.set_cons_zero, List.set_cons_succ, List.take_zero, List.take_succ_cons, List.take_nil, List.drop_zero, List.drop_succ_cons, List.drop_nil, List.nil_append, List.cons_append, List.append_nil, AV.cells, List.length_cons, List.length_nil, Nat.zero_add, Nat.add_zero, Nat.reduceAdd]); exact rfl) | (refine hdelK_top ?_ ?_; next => first | with_reducible assumption | (refine hget_none ?_; (repeat' apply And.intro) <;> first | omega | exact True.intro | assumption)) | (refine hdelK_down ?_ ?_; next => first | with_reducible assumption | (apply Ne.symm; with_reducible assumption) | omega) | refine hdelK_any ?_ | refine hsetK_top ?_ | (refine hsetK_down ?_ ?_; next => first | with_reducible assumption | (apply Ne.symm; with_reducible assumption) | omega) | refine hsetK_any ?_  | rw [hset_self] | rw [hset_tail (by first | with_reducible assumption | (apply Ne.symm; with_reducible assumption) | omega)])); (conv => whnf); exact hk.o) : g := t ⟨h⟩
theorem ac0 {g : Prop} (t : g := by (repeat ((conv => whnf); first | (apply Exists.intro; apply Exists.intro; refine And.intro ?_ ?_; (next => repeat (first | (with_reducible refine Eq.trans hget_self ?_; exact rfl) | with_reducible assumption | (with_reducible refine Eq.trans (hget_tail ?_) ?_; next => first | with_reducible assumption | (apply Ne.symm; with_reducible assumption) | omega) | (with_reducible refine Eq.trans (hget_set ?_) ?_; rotate_left; exact rfl) | (with_reducible refine Eq.trans (hget_set_ne ?_) ?_; next => first | with_reducible assumption | (apply Ne.symm; with_reducible assumption) | omega) | (with_reducible refine Eq.trans (hget_del_ne ?_) ?_; next => first | with_reducible assumption | (apply Ne.symm; with_reducible assumption) | omega) | exact hget_self | assumption | apply hget_set)); refine And.intro (Eq.refl (some _)) ?_) | refine Exists.intro _ (And.intro rfl (And.intro rfl ?_)) | (refine And.intro ?_ ?_; next => first | omega | (dsimp only; omega) | exact rfl | exact Nat.le_of_ble_eq_true rfl | (exact ⟨by omega, by omega⟩) | decide | (simp only [List.length_append, List.length_cons, List.length_nil, List.length_map]; omega)) | (refine rng_i64 ?_ ?_ ?_; (next => first | omega | (dsimp only; omega)); (next => first | omega | (dsimp only; omega))) | (refine rng_u8 ?_ ?_ ?_; (next => first | omega | (dsimp only; omega)); (next => first | omega | (dsimp only; omega))) | (refine rng_u64 ?_ ?_ ?_; (next => first | omega | (dsimp only; omega)); (next => first | omega | (dsimp only; omega))) | (refine rng_quo_u64 ?_ ?_ ?_ ?_; (next => first | omega | (dsimp only; omega)); (next => first | omega | (dsimp only; omega)); (next => first | omega | (dsimp only; omega))) | (refine rng_quo_i64 ?_ ?_ ?_ ?_; (next => first | omega | (dsimp only; omega)); (next => first | omega | (dsimp only; omega)); (next => first | omega | (dsimp only; omega))) | (refine rng_rem_u64 ?_ ?_ ?_ ?_; (next => first | omega | (dsimp only; omega)); (next => first | omega | (dsimp only; omega)); (next => first | omega | (dsimp only; omega))) | (refine rng_rem_i64 ?_ ?_ ?_ ?_; (next => first | omega | (dsimp only; omega)); (next => first | omega | (dsimp only; omega)); (next => first | omega | (dsimp only; omega))) | refine bsplit_tt ?_ | refine bsplit_ff ?_ | refine bsplit_not ?_ | (refine bsplit_pos ?_ ?_; (next => first | omega | (dsimp only; omega))) | (refine bsplit_neg ?_ ?_; (next => first | omega | (dsimp only; omega))) | (apply Exists.intro; refine And.intro ?_ ?_; next => repeat (first | (with_reducible refine Eq.trans hget_self ?_; exact rfl) | with_reducible assumption | (with_reducible refine Eq.trans (hget_tail ?_) ?_; next => first | with_reducible assumption | (apply Ne.symm; with_reducible assumption) | omega) | (with_reducible refine Eq.trans (hget_set ?_) ?_; rotate_left; exact rfl) | (with_reducible refine Eq.trans (hget_set_ne ?_) ?_; next => first | with_reducible assumption | (apply Ne.symm; with_reducible assumption) | omega) | (with_reducible refine Eq.trans (hget_del_ne ?_) ?_; next => first | with_reducible assumption | (apply Ne.symm; with_reducible assumption) | omega) | exact hget_self | assumption | apply hget_set)) | (apply hsetN_of; next => (try simp only [over, List.set_cons_zero, List.set_cons_succ, List.take_zero, List.take_succ_cons, List.take_nil, List.drop_zero, List.drop_succ_cons, List.drop_nil, List.nil_append, List.cons_append, List.append_nil, AV.cells, List.length_cons, List.length_nil, Nat.zero_add, Nat.add_zero, Nat.reduceAdd]); exact rfl) | (refine hdelK_top ?_ ?_; next => first | with_reducible assumption | (refine hget_none ?_; (repeat' apply And.intro) <;> first | omega | exact True.intro | assumption)) | (refine hdelK_down ?_ ?_; next => first | with_reducible assumption | (apply Ne.symm; with_reducible assumption) | omega) | refine hdelK_any ?_ | refine hsetK_top ?_ | (refine hsetK_down ?_ ?_; next => first | with_reducible assumption | (apply Ne.symm; with_reducible assumption) | omega) | refine hsetK_any ?_  | rw [hset_self] | rw [hset_tail (by first | with_reducible assumption | (apply Ne.symm; with_reducible assumption) | omega)])); (conv => whnf); (first | done | fail)) : g := t
theorem ab {k g : Prop} (h : k) (t : Hid k → g := by intro hk; (repeat ((conv => whnf); first | (apply Exists.intro; apply Exists.intro; refine And.intro ?_ ?_; (next => repeat (first | (with_reducible refine Eq.trans hget_self ?_; exact rfl) | with_reducible assumption | (with_reducible refine Eq.trans (hget_tail ?_) ?_; next => first | with_reducible assumption | (apply Ne.symm; with_reducible assumption) | omega) | (with_reducible refine Eq.trans (hget_set ?_) ?_; rotate_left; exact rfl) | (with_reducible refine Eq.trans (hget_set_ne ?_) ?_; next => first | with_reducible assumption | (apply Ne.symm; with_reducible assumption) | omega) | (with_reducible refine Eq.trans (hget_del_ne ?_) ?_; next => first | with_reducible assumption | (apply Ne.symm; with_reducible assumption) | omega) | exact hget_self | assumption | apply hget_set)); refine And.intro (Eq.refl (some _)) ?_) | refine Exists.intro _ (And.intro rfl (And.intro rfl ?_)) | (refine And.intro ?_ ?_; next => first | omega | (dsimp only; omega) | exact rfl | exact Nat.le_of_ble_eq_true rfl | (exact ⟨by omega, by omega⟩) | decide | (simp only [List.length_append, List.length_cons, List.length_nil, List.length_map]; omega)) | (refine rng_i64 ?_ ?_ ?_; (next => first | omega | (dsimp only; omega)); (next => first | omega | (dsimp only; omega))) | (refine rng_u8 ?_ ?_ ?_; (next => first | omega | (dsimp only; omega)); (next => first | omega | (dsimp only; omega))) | (refine rng_u64 ?_ ?_ ?_; (next => first | omega | (dsimp only; omega)); (next => first | omega | (dsimp only; omega))) | (refine rng_quo_u64 ?_ ?_ ?_ ?_; (next => first | omega | (dsimp only; omega)); (next => first | omega | (dsimp only; omega)); (next => first | omega | (dsimp only; omega))) | (refine rng_quo_i64 ?_ ?_ ?_ ?_; (next => first | omega | (dsimp only; omega)); (next => first | omega | (dsimp only; omega)); (next => first | omega | (dsimp only; omega))) | (refine rng_rem_u64 ?_ ?_ ?_ ?_; (next => first | omega | (dsimp only; omega)); (next => first | omega | (dsimp only; omega)); (next => first | omega | (dsimp only; omega))) | (refine rng_rem_i64 ?_ ?_ ?_ ?_; (next => first | omega | (dsimp only; omega)); (next => first | omega | (dsimp only; omega)); (next => first | omega | (dsimp only; omega))) | refine bsplit_tt ?_ | refine bsplit_ff ?_ | refine bsplit_not ?_ | (refine bsplit_pos ?_ ?_; (next => first | omega | (dsimp only; omega))) | (refine bsplit_neg ?_ ?_; (next => first | omega | (dsimp only; omega))) | (apply Exists.intro; refine And.intro ?_ ?_; next => repeat (first | (with_reducible refine Eq.trans hget_self ?_; exact rfl) | with_reducible assumption | (with_reducible refine Eq.trans (hget_tail ?_) ?_; next => first | with_reducible assumption | (apply Ne.symm; with_reducible assumption) | omega) | (with_reducible refine Eq.trans (hget_set ?_) ?_; rotate_left; exact rfl) | (with_reducible refine Eq.trans (hget_set_ne ?_) ?_; next => first | with_reducible assumption | (apply Ne.symm; with_reducible assumption) | omega) | (with_reducible refine Eq.trans (hget_del_ne ?_) ?_; next => first | with_reducible assumption | (apply Ne.symm; with_reducible assumption) | omega) | exact hget_self | assumption | apply hget_set)) | (apply hsetN_of; next => (try simp only [over, List.set_cons_zero, List.set_cons_succ, List.take_zero, List.take_succ_cons, List.take_nil, List.drop_zero, List.drop_succ_cons, List.drop_nil, List.nil_append, List.cons_append, List.append_nil, AV.cells, List.length_cons, List.length_nil, Nat.zero_add, Nat.add_zero, Nat.reduceAdd]); exact rfl) | (refine hdelK_top ?_ ?_; next => first | with_reducible assumption | (refine hget_none ?_; (repeat' apply And.intro) <;> first | omega | exact True.intro | assumption)) | (refine hdelK_down ?_ ?_; next => first | with_reducible assumption | (apply Ne.symm; with_reducible assumption) | omega) | refine hdelK_any ?_ | refine hsetK_top ?_ | (refine hsetK_down ?_ ?_; next => first | with_reducible assumption | (apply Ne.symm; with_reducible assumption) | omega) | refine hsetK_any ?_ )); (conv => whnf); exact hk.o) : g := t ⟨h⟩
theorem ab0 {g : Prop} (t : g := by (repeat ((conv => whnf); first | (apply Exists.intro; apply Exists.intro; refine And.intro ?_ ?_; (next => repeat (first | (with_reducible refine Eq.trans hget_self ?_; exact rfl) | with_reducible assumption | (with_reducible refine Eq.trans (hget_tail ?_) ?_; next => first | with_reducible assumption | (apply Ne.symm; with_reducible assumption) | omega) | (with_reducible refine Eq.trans (hget_set ?_) ?_; rotate_left; exact rfl) | (with_reducible refine Eq.trans (hget_set_ne ?_) ?_; next => first | with_reducible assumption | (apply Ne.symm; with_reducible assumption) | omega) | (with_reducible refine Eq.trans (hget_del_ne ?_) ?_; next => first | with_reducible assumption | (apply Ne.symm; with_reducible assumption) | omega) | exact hget_self | assumption | apply hget_set)); refine And.intro (Eq.refl (some _)) ?_) | refine Exists.intro _ (And.intro rfl (And.intro rfl ?_)) | (refine And.intro ?_ ?_; next => first | omega | (dsimp only; omega) | exact rfl | exact Nat.le_of_ble_eq_true rfl | (exact ⟨by omega, by omega⟩) | decide | (simp only [List.length_append, List.length_cons, List.length_nil, List.length_map]; omega)) | (refine rng_i64 ?_ ?_ ?_; (next => first | omega | (dsimp only; omega)); (next => first | omega | (dsimp only; omega))) | (refine rng_u8 ?_ ?_ ?_; (next => first | omega | (dsimp only; omega)); (next => first | omega | (dsimp only; omega))) | (refine rng_u64 ?_ ?_ ?_; (next => first | omega | (dsimp only; omega)); (next => first | omega | (dsimp only; omega))) | (refine rng_quo_u64 ?_ ?_ ?_ ?_; (next => first | omega | (dsimp only; omega)); (next => first | omega | (dsimp only; omega)); (next => first | omega | (dsimp only; omega))) | (refine rng_quo_i64 ?_ ?_ ?_ ?_; (next => first | omega | (dsimp only; omega)); (next => first | omega | (dsimp only; omega)); (next => first | omega | (dsimp only; omega))) | (refine rng_rem_u64 ?_ ?_ ?_ ?_; (next => first | omega | (dsimp only; omega)); (next => first | omega | (dsimp only; omega)); (next => first | omega | (dsimp only; omega))) | (refine rng_rem_i64 ?_ ?_ ?_ ?_; (next => first | omega | (dsimp only; omega)); (next => first | omega | (dsimp only; omega)); (next => first | omega | (dsimp only; omega))) | refine bsplit_tt ?_ | refine bsplit_ff ?_ | refine bsplit_not ?_ | (refine bsplit_pos ?_ ?_; (next => first | omega | (dsimp only; omega))) | (refine bsplit_neg ?_ ?_; (next => first | omega | (dsimp only; omega))) | (apply Exists.intro; refine And.intro ?_ ?_; next => repeat (first | (with_reducible refine Eq.trans hget_self ?_; exact rfl) | with_reducible assumption | (with_reducible refine Eq.trans (hget_tail ?_) ?_; next => first | with_reducible assumption | (apply Ne.symm; with_reducible assumption) | omega) | (with_reducible refine Eq.trans (hget_set ?_) ?_; rotate_left; exact rfl) | (with_reducible refine Eq.trans (hget_set_ne ?_) ?_; next => first | with_reducible assumption | (apply Ne.symm; with_reducible assumption) | omega) | (with_reducible refine Eq.trans (hget_del_ne ?_) ?_; next => first | with_reducible assumption | (apply Ne.symm; with_reducible assumption) | omega) | exact hget_self | assumption | apply hget_set)) | (apply hsetN_of; next => (try simp only [over, List.set_cons_zero, List.set_cons_succ, List.take_zero, List.take_succ_cons, List.take_nil, List.drop_zero, List.drop_succ_cons, List.drop_nil, List.nil_append, List.cons_append, List.append_nil, AV.cells, List.length_cons, List.length_nil, Nat.zero_add, Nat.add_zero, Nat.reduceAdd]); exact rfl) | (refine hdelK_top ?_ ?_; next => first | with_reducible assumption | (refine hget_none ?_; (repeat' apply And.intro) <;> first | omega | exact True.intro | assumption)) | (refine hdelK_down ?_ ?_; next => first | with_reducible assumption | (apply Ne.symm; with_reducible assumption) | omega) | refine hdelK_any ?_ | refine hsetK_top ?_ | (refine hsetK_down ?_ ?_; next => first | with_reducible assumption | (apply Ne.symm; with_reducible assumption) | omega) | refine hsetK_any ?_ )); (conv => whnf); (first | done | fail)) : g := t
end Go.Proofs.YtlabklehgfdibaaDoor

/- Functions that write one block; freezing what is handed back. -/
namespace Go.Proofs.YtlabklehgfdibaaDoor
set_option autoImplicit false
set_option linter.unusedVariables false
set_option linter.unusedSimpArgs false

theorem Sub.skip {H K : AH} {id : Nat} {b : Blk} (h : Sub K H) (hid : hget H id = none) : Sub K ((id, b) :: H) := fun j c q => by
  have := h j c q
  exact (hget_tail (hget_ne_of hid this)).trans this
theorem Sub.keep {H K : AH} {id : Nat} {b : Blk} (h : Sub K H) : Sub ((id, b) :: K) ((id, b) :: H) := fun j c q => by
  simp only [hget] at q ⊢
  split at q
  · rename_i e; rw [if_pos e]; exact q
  · rename_i e; rw [if_neg e]; exact h _ _ q
theorem Sub.del {K H : AH} {id : Nat} (h : Sub K H) (hid : hget K id = none) : Sub K (hdel H id) := fun j c q => by
  rw [hget_hdel]
  by_cases e : j = id
  · subst e; rw [hid] at q; cases q
  · rw [if_neg e]; exact h _ _ q
theorem Sub.nil (H : AH) : Sub [] H := fun _ _ q => by cases q
theorem Sub.trans {A B C : AH} (h : Sub A B) (k : Sub B C) : Sub A C := fun i b q => k _ _ (h _ _ q)
theorem ACalls.keepSub {P : Program} {f : Nat} {args : List AV} {H : AH} {K : AV → Prop} (h : ACalls P f args H fun r H' => K r ∧ Sub H H') : ACalls P f args H fun r H' => K r ∧ H' = H :=
  h.freeze fun r H' ⟨a, b⟩ => ⟨r, H, b, .refl _, a, rfl⟩
/-- The result, frozen, and what is kept. -/
theorem ACalls.fz {P : Program} {f : Nat} {args : List AV} {H H1 : AH} {v : AV} (h : ACalls P f args H fun r H' => Fz H' H1 r v ∧ Sub H1 H') : ACalls P f args H fun r H' => r = v ∧ H' = H1 :=
  h.freeze fun r H' ⟨a, b⟩ => ⟨v, H1, b, a, rfl, rfl⟩
/-- .. where the result is told by what it says. -/
theorem ACalls.fzE {P : Program} {f : Nat} {args : List AV} {H H1 : AH} {K : AV → Prop} (h : ACalls P f args H fun r H' => ∃ v, Fz H' H1 r v ∧ Sub H1 H' ∧ K v) : ACalls P f args H fun r H' => K r ∧ H' = H1 :=
  h.freeze fun r H' ⟨v, a, b, c⟩ => ⟨v, H1, b, a, c, rfl⟩

/-! ### Freezing, part by part -/
theorem Fz.aggL {H Hc : AH} {cs cs' : List AV} (h : FzL H Hc cs cs') : Fz H Hc (.agg cs) (.agg cs') := .agg cs cs' h.1 h.2
theorem Fz.tupL {H Hc : AH} {cs cs' : List AV} (h : FzL H Hc cs cs') : Fz H Hc (.tup cs) (.tup cs') := .tup cs cs' h.1 h.2
/-- Row by row. -/
def FzR (H Hc : AH) : List (List AV) → List (List AV) → Prop
  | [], [] => True
  | r :: l, r' :: l' => FzL H Hc r r' ∧ FzR H Hc l l'
  | _, _ => False
theorem FzR.spec {H Hc : AH} : ∀ {l l' : List (List AV)}, FzR H Hc l l' → l.length = l'.length ∧ ∀ (i : Nat) r r', l[i]? = some r → l'[i]? = some r' → FzL H Hc r r'
  | [], [], _ => ⟨rfl, fun i r r' q => by simp at q⟩
  | r :: l, [], h => h.elim
  | [], r :: l, h => h.elim
  | r :: l, r' :: l', h => by
    obtain ⟨a, b⟩ := FzR.spec h.2
    refine ⟨by simp [a], fun i x x' q1 q2 => ?_⟩
    cases i with
    | zero => simp at q1 q2; rw [← q1, ← q2]; exact h.1
    | succ i => exact b i x x' (by simpa using q1) (by simpa using q2)
theorem Fz.rowsL {H Hc : AH} {sz : Nat} {l l' : List (List AV)} (h : FzR H Hc l l') : Fz H Hc (.rows sz l) (.rows sz l') :=
  .rows sz l l' h.spec.1 (fun i r r' a b => (h.spec.2 i r r' a b).1) fun i r r' j v v' a b c d => (h.spec.2 i r r' a b).2 j v v' c d
theorem FzL.refl' (H Hc : AH) (l : List AV) : FzL H Hc l l := FzL.refl H Hc l
theorem FzR.refl (H Hc : AH) : ∀ l : List (List AV), FzR H Hc l l
  | [] => trivial
  | r :: l => ⟨FzL.refl H Hc r, FzR.refl H Hc l⟩
theorem FzR.append {H Hc : AH} : ∀ {l l' m m' : List (List AV)}, FzR H Hc l l' → FzR H Hc m m' → FzR H Hc (l ++ m) (l' ++ m')
  | [], [], m, m', _, h => h
  | r :: l, [], m, m', h, _ => h.elim
  | [], r :: l, m, m', h, _ => h.elim
  | r :: l, r' :: l', m, m', h, k => ⟨h.1, h.2.append k⟩
theorem Fz.ownL {H Hc : AH} {id sz : Nat} {l l' : List (List AV)} (hg : hget H id = some (.rows sz l)) (hd : hget Hc id = none) (h : FzR H Hc l l') (hw : ∀ r ∈ l', r.length = sz) : Fz H Hc (.own id sz 0 l.length) (.rows sz l') := by
  refine .own id sz 0 l.length l l' hg hd (Nat.le_refl _) (Nat.zero_le _) (by rw [← h.spec.1]; omega) (fun i r' q => hw r' (List.mem_of_getElem? q)) fun i r r' j v v' q1 q2 q3 q4 => ?_
  rw [Nat.zero_add] at q1
  exact (h.spec.2 i r r' q1 q2).2 j v v' q3 q4

/-- Values that lead to nothing that is owned. -/
inductive Cl : AV → Prop
  | int (k : IntKind) (n : Int) : Cl (.int k n)
  | bool (b : Bool) : Cl (.bool b)
  | str (l : List UInt8) : Cl (.str l)
  | nilS : Cl .nilS
  | nilP : Cl .nilP
  | nilF : Cl .nilF
  | nilI : Cl .nilI
  | emp : Cl .emp
  | agg (cs : List AV) (h : ∀ v ∈ cs, Cl v) : Cl (.agg cs)
  | tup (cs : List AV) (h : ∀ v ∈ cs, Cl v) : Cl (.tup cs)
  | rows (sz : Nat) (l : List (List AV)) (h : ∀ r ∈ l, ∀ v ∈ r, Cl v) : Cl (.rows sz l)
  | fp (cs : List AV) (h : ∀ v ∈ cs, Cl v) : Cl (.fp cs)
theorem Cl.noId {v : AV} (h : Cl v) : NoId v := by
  induction h with
  | int k n => intro h ρ ρ' Z x hr; cases hr; exact .int k n
  | bool b => intro h ρ ρ' Z x hr; cases hr; exact .bool b
  | str l => intro h ρ ρ' Z x hr; cases hr; exact .str l _ (by assumption)
  | nilS => intro h ρ ρ' Z x hr; cases hr; exact .nilS
  | nilP => intro h ρ ρ' Z x hr; cases hr; exact .nilP
  | nilF => intro h ρ ρ' Z x hr; cases hr; exact .nilF
  | nilI => intro h ρ ρ' Z x hr; cases hr; exact .nilI
  | emp => intro h ρ ρ' Z x hr; cases hr; exact .emp _ _
  | agg cs hc ih =>
    intro h ρ ρ' Z x hr
    cases hr with
    | agg _ vs hl h2 h3 => exact .agg cs vs hl h2 fun i v y q1 q2 => ih v (List.mem_of_getElem? q1) _ _ _ _ _ (h3 i v y q1 q2)
  | tup cs hc ih =>
    intro h ρ ρ' Z x hr
    cases hr with
    | tup _ vs hl h3 => exact .tup cs vs hl fun i v y q1 q2 => ih v (List.mem_of_getElem? q1) _ _ _ _ _ (h3 i v y q1 q2)
  | rows sz l hc ih =>
    intro h ρ ρ' Z x hr
    cases hr with
    | rows _ _ b o n c f hn hnc hz hw hcc hm hr => exact .rows sz l b o n c f hn hnc hz hw hcc hm fun i r j v q1 q2 => ih r (List.mem_of_getElem? q1) v (List.mem_of_getElem? q2) _ _ _ _ _ (hr i r j v q1 q2)
    | rowsN _ => exact .rowsN sz
    | rowsE _ a c => exact .rowsE sz a c
  | fp cs hc ih =>
    intro h ρ ρ' Z x hr
    cases hr with
    | fp _ b o f hz hcc hm hr => exact .fp cs b o f hz hcc hm fun i v q => ih v (List.mem_of_getElem? q) _ _ _ _ _ (hr i v q)

/-- A function that writes one block: what it hands back, and what the block holds then; Hs: what it looks at. -/
def SW (P : Program) (f : Nat) (args : List AV) (id : Nat) (b : Blk) (Hs : AH) (r : AV) (b' : Blk) : Prop :=
  ACalls P f args ((id, b) :: Hs) fun r' H' => r' = r ∧ H' = (id, b') :: Hs
theorem SW.frame {P : Program} {f : Nat} {args : List AV} {id : Nat} {b : Blk} {Hs : AH} {r : AV} {b' : Blk} (h : SW P f args id b Hs r b') {H : AH} (hg : hget H id = some b) (hs : Sub Hs H) : ACalls P f args H fun r' H' => r' = r ∧ H' = hset H id b' := by
  have s1 : Sub ((id, b) :: Hs) H := fun j c q => by
    simp only [hget] at q
    split at q
    · rename_i e1; subst e1; rw [← q]; exact hg
    · exact hs _ _ q
  refine ⟨h.1, fun w ρ Z xs g hr => (h.2 w ρ Z xs (g.forget s1) hr).mono fun e w' ⟨x, r', H', ρ', Z', a, g1, c, d, k1, k2⟩ => ?_⟩
  subst k1
  subst k2
  obtain ⟨q1, q2⟩ := g.frame s1 d g1 (HS' := hset H id b') fun j c q => by
    rw [hget_hset] at q
    split at q
    · rename_i e1
      rw [hg] at q
      left
      simp only [hget]
      rw [if_pos e1, ← q]
      rfl
    · rename_i e1
      simp only [hget]
      rw [if_neg e1, if_neg e1]
      cases hh : hget Hs j with
      | none => exact .inr ⟨q, rfl⟩
      | some c' => have := hs _ _ hh; rw [q] at this; exact .inl this.symm
  exact ⟨x, _, _, ρ', Z', a, q1, c, q2, rfl, rfl⟩
theorem SW.call {P : Program} {f : Nat} {args : List AV} {id : Nat} {b : Blk} {Hs : AH} {r : AV} {b' : Blk} (h : SW P f args id b Hs r b') {H : AH} {K : AV → AH → Prop} (hg : hget H id = some b) (hs : Sub Hs H) (k : hsetK H id b' fun H1 => K r H1) : callF P f args H K :=
  callF_of ((h.frame hg hs).mono fun r' H' ⟨a, c⟩ => by rw [a, c]; exact k.out)
theorem SW.draw {P : Program} {f : Nat} {args : List AV} {id : Nat} {b : Blk} {Hs : AH} {r : AV} {b' : Blk} (h : SW P f args id b Hs r b') {H0 D H : AH} {K : AV → AH → AH → Prop} (hD : hget D id = some b) (hs : Sub Hs H0) (hp : NoId r) (hb : BlkN b b') (k : hsetK H id b' fun H1 => K r (hdel D id) H1) : callG P f args H0 D H K :=
  ⟨.inr ⟨id, b, r, b', hD, ⟨hp, hb, Hs, hs, h⟩, k.out⟩⟩

/-! ### Arguments that a proof fills in -/
theorem fz_of {H Hc : AH} {v v' : AV} (h : Fz H Hc v v' := by (repeat' (first | exact Fz.refl _ | exact Fz.nil _ | assumption | refine Fz.aggL ?_ | refine Fz.tupL ?_ | refine FzL.cons ?_ ?_ | exact FzL.nil _ _ | refine Fz.rowsL ?_ | exact trivial | refine And.intro ?_ ?_)); (first | done | fail)) : Fz H Hc v v' := h
theorem sub_of {H Hc : AH} (h : Sub Hc H := by (repeat' (first | exact Sub.refl _ | assumption | exact Sub.nil _ | refine Sub.keep ?_ | refine Sub.skip ?_ (by first | assumption | (refine hget_none ?_; (try simp only [neAll, neAll_hset]); (repeat' apply And.intro) <;> first | omega | trivial | assumption | simp_all)) | refine Sub.del ?_ (by first | assumption | (refine hget_none ?_; (try simp only [neAll, neAll_hset]); (repeat' apply And.intro) <;> first | omega | trivial | assumption | simp_all)))); (first | done | fail)) : Sub Hc H := h
theorem cl_of {v : AV} (h : Cl v := by (repeat' (first | constructor | (intro v hv; simp at hv; done))); (first | done | fail)) : Cl v := h
end Go.Proofs.YtlabklehgfdibaaDoor

/- Loops: the frame is the one in which they begin, with what changes laid over it. -/
namespace Go.Proofs.YtlabklehgfdibaaDoor
set_option autoImplicit false
set_option linter.unusedVariables false
noncomputable def app (E L : FL) : FL := @List.rec (Nat × Option AV) (fun _ => FL) L (fun p _ ih => p :: ih) E
/-- A loop's invariant: a state, what changes of the frame, what is owned, the measure, what holds. -/
structure LI {S : Type} (ent : S → FL) (hp : S → AH) (μ : S → Nat) (P : S → Prop) (L0 : FL) (n : Nat) (L : FL) (H : AH) : Prop where
  out : ∃ s, n = μ s ∧ P s ∧ L = app (ent s) L0 ∧ H = hp s
theorem loopS {B : (Nat → FL → AH → Prop) → Nat → FL → AH → Prop} {L0 : FL} {H0 : AH} {S : Type} (ent : S → FL) (hp : S → AH) (μ : S → Nat) (P : S → Prop) (s0 : S) (h0 : P s0)
    (step : ∀ s, P s → B (LI ent hp μ P L0) (μ s) (app (ent s) L0) (hp s))
    (hc : coversZ H0 (hp s0) (app (ent s0) L0) L0 := by repeat (first | exact trivial | refine And.intro (Or.inl rfl) ?_ | refine And.intro (Or.inr (Exists.intro _ (And.intro rfl (Fz.refl _)))) ?_ | refine And.intro (Or.inr (Exists.intro _ (And.intro rfl (fz_eq (congrArg (AV.int _) (by omega)))))) ?_ | refine And.intro (Or.inr (Exists.intro _ (And.intro rfl (fz_eq (congrArg (AV.own _ _ _) (by (try dsimp only); (try simp only [List.length_append, List.length_map, List.length_cons, List.length_nil, List.length_take, List.length_set, List.length_replicate]); (try dsimp only); first | done | omega)))))) ?_)) (hs : Sub (hp s0) H0 := by exact sub_of) :
    ∃ I : Nat → FL → AH → Prop, WeakF (fun M Hk => ∃ n, I n M Hk) L0 H0 ∧ ∀ n L H, I n L H → B I n L H :=
  ⟨LI ent hp μ P L0, ⟨_, _, hc, hs, _, ⟨s0, rfl, h0, rfl, rfl⟩⟩, by rintro n L H ⟨s, rfl, h, rfl, rfl⟩; exact step s h⟩
theorem nextS {S : Type} {ent : S → FL} {hp : S → AH} {μ : S → Nat} {P : S → Prop} {L0 L : FL} {H : AH} {n : Nat} (s : S)
    (hc : coversZ H (hp s) (app (ent s) L0) L) (hs : Sub (hp s) H) (hm : μ s < n) (h : P s) :
    ∃ M Hk, coversZ H Hk M L ∧ Sub Hk H ∧ ∃ m, m < n ∧ LI ent hp μ P L0 m M Hk := ⟨_, _, hc, hs, _, hm, ⟨s, rfl, h, rfl, rfl⟩⟩
/-- .. with a smaller frame: what is looked at from here on. -/
theorem loopM {B : (Nat → FL → AH → Prop) → Nat → FL → AH → Prop} {L0 : FL} {H0 : AH} {S : Type} (L1 : FL) (ent : S → FL) (hp : S → AH) (μ : S → Nat) (P : S → Prop) (s0 : S)
    (hc : coversZ H0 (hp s0) (app (ent s0) L1) L0) (hs : Sub (hp s0) H0) (h0 : P s0)
    (step : ∀ s, P s → B (LI ent hp μ P L1) (μ s) (app (ent s) L1) (hp s)) :
    ∃ I : Nat → FL → AH → Prop, WeakF (fun M Hk => ∃ n, I n M Hk) L0 H0 ∧ ∀ n L H, I n L H → B I n L H :=
  ⟨LI ent hp μ P L1, ⟨_, _, hc, hs, _, ⟨s0, rfl, h0, rfl, rfl⟩⟩, by rintro n L H ⟨s, rfl, h, rfl, rfl⟩; exact step s h⟩
theorem loopL {B : (Nat → FL → AH → Prop) → Nat → FL → AH → Prop} {L0 : FL} {H0 : AH} (L1 : FL) (d a N : Nat) (P : Nat → Prop)
    (hc : coversZ H0 H0 ((d, some (.int .i64 (a : Nat))) :: L1) L0) (ha : a ≤ N) (h0 : P a)
    (step : ∀ i, i ≤ N → P i → B (LI (fun i : Nat => [(d, some (.int .i64 (i : Nat)))]) (fun _ => H0) (fun i => N - i) (fun i => i ≤ N ∧ P i) L1) (N - i) ((d, some (.int .i64 (i : Nat))) :: L1) H0) :
    ∃ I : Nat → FL → AH → Prop, WeakF (fun M Hk => ∃ n, I n M Hk) L0 H0 ∧ ∀ n L H, I n L H → B I n L H :=
  loopM (S := Nat) L1 (fun i => [(d, some (.int .i64 (i : Nat)))]) (fun _ => H0) (fun i => N - i) (fun i => i ≤ N ∧ P i) a hc (Sub.refl _) ⟨ha, h0⟩ (fun i h => step i h.1 h.2)
theorem fz_eq {H Hc : AH} {r v : AV} (h : r = v) : Fz H Hc r v := by rw [h]; exact .refl _
/-- .. that counts from a to N, and owns nothing new. -/
theorem loopN {B : (Nat → FL → AH → Prop) → Nat → FL → AH → Prop} {L0 : FL} {H0 : AH} (d a N : Nat) (P : Nat → Prop) (ha : a ≤ N) (h0 : P a)
    (step : ∀ i, i ≤ N → P i → B (LI (fun i : Nat => [(d, some (.int .i64 (i : Nat)))]) (fun _ => H0) (fun i => N - i) (fun i => i ≤ N ∧ P i) L0) (N - i) ((d, some (.int .i64 (i : Nat))) :: L0) H0)
    (hc : coversZ H0 H0 ((d, some (.int .i64 (a : Nat))) :: L0) L0 := by repeat (first | exact trivial | refine And.intro (Or.inl rfl) ?_ | refine And.intro (Or.inr (Exists.intro _ (And.intro rfl (Fz.refl _)))) ?_ | refine And.intro (Or.inr (Exists.intro _ (And.intro rfl (fz_eq (congrArg (AV.int _) (by omega)))))) ?_ | refine And.intro (Or.inr (Exists.intro _ (And.intro rfl (fz_eq (congrArg (AV.own _ _ _) (by (try dsimp only); (try simp only [List.length_append, List.length_map, List.length_cons, List.length_nil, List.length_take, List.length_set, List.length_replicate]); (try dsimp only); first | done | omega)))))) ?_)) :
    ∃ I : Nat → FL → AH → Prop, WeakF (fun M Hk => ∃ n, I n M Hk) L0 H0 ∧ ∀ n L H, I n L H → B I n L H :=
  loopS (S := Nat) (fun i => [(d, some (.int .i64 (i : Nat)))]) (fun _ => H0) (fun i => N - i) (fun i => i ≤ N ∧ P i) a ⟨ha, h0⟩ (fun i h => step i h.1 h.2) hc (Sub.refl _)
theorem nextN {d N i : Nat} {P : Nat → Prop} {H0 H : AH} {L0 L : FL} (hc : coversZ H H0 ((d, some (.int .i64 ((i + 1 : Nat) : Int))) :: L0) L) (hs : Sub H0 H) (h1 : i < N) (h2 : P (i + 1)) :
    ∃ M Hk, coversZ H Hk M L ∧ Sub Hk H ∧ ∃ m, m < N - i ∧ LI (fun i : Nat => [(d, some (.int .i64 (i : Nat)))]) (fun _ => H0) (fun i => N - i) (fun i => i ≤ N ∧ P i) L0 m M Hk :=
  nextS (S := Nat) (ent := fun i => [(d, some (.int .i64 (i : Nat)))]) (hp := fun _ => H0) (i + 1) hc hs (by show N - (i + 1) < N - i; omega) ⟨h1, h2⟩
theorem ACalls.fzK {P : Program} {f : Nat} {args : List AV} {H : AH} {v : AV} (h : ACalls P f args H fun r H' => Fz H' [] r v) : ACalls P f args H fun r _ => r = v :=
  h.freeze fun r H' a => ⟨v, [], Sub.nil _, a, rfl⟩
/-- Where ways meet: one frame, and what is known there. -/
structure JP (M : FL) (Hk : AH) (P : Prop) (L : FL) (H : AH) : Prop where
  l : L = M
  h : H = Hk
  p : P
theorem joinP {X Y : Prop} {F : (FL → AH → Prop) → Prop} {G : FL → AH → Prop} (M : FL) (Hk : AH) (P : Prop) (h1 : F (JP M Hk P)) (h2 : P → G M Hk) : (X ∨ ∃ J : FL → AH → Prop, F J ∧ ∀ M Hk, J M Hk → G M Hk) ∨ Y :=
  .inl (.inr ⟨JP M Hk P, h1, fun M' Hk' ⟨a, b, c⟩ => by rw [a, b]; exact h2 c⟩)
theorem metP {M L : FL} {Hk H : AH} {P : Prop} (hc : coversZ H Hk M L) (hs : Sub Hk H) (hp : P) : ∃ M' Hk', coversZ H Hk' M' L ∧ Sub Hk' H ∧ JP M Hk P M' Hk' := ⟨M, Hk, hc, hs, rfl, rfl, hp⟩
/-- A function that writes nothing, where more is owned. -/
theorem ACalls.sup {P : Program} {f : Nat} {args : List AV} {Hs H : AH} {K : AV → Prop} (h : ACalls P f args Hs fun r H' => K r ∧ H' = Hs) (hs : Sub Hs H) : ACalls P f args H fun r H' => K r ∧ H' = H := by
  refine ⟨h.1, fun w ρ Z xs g hr => (h.2 w ρ Z xs (g.forget hs) hr).mono fun e w' ⟨x, r', H', ρ', Z', a, g1, c, d, k1, k2⟩ => ?_⟩
  subst k2
  obtain ⟨q1, q2⟩ := g.frame hs d g1 (HS' := H) fun j c q => by
    cases hh : hget H' j with
    | none => exact .inr ⟨q, rfl⟩
    | some c' => have := hs _ _ hh; rw [q] at this; exact .inl this.symm
  exact ⟨x, _, _, ρ', Z', a, q1, c, q2, k1, rfl⟩
/-- A list that is built: nil, or owned. -/
def accV (o : Option Nat) (sz n : Nat) : AV := match o with
  | none => .nilS
  | some id => .own id sz 0 n
def accH (o : Option Nat) (sz : Nat) (l : List (List AV)) (H : AH) : AH := match o with
  | none => H
  | some id => (id, .rows sz l) :: H
theorem accFz {o : Option Nat} {sz n : Nat} {l l' : List (List AV)} {H Hc : AH} (hn : n = l.length) (h0 : o = none → l = []) (hd : ∀ id, o = some id → hget Hc id = none) (h : FzR (accH o sz l H) Hc l l') (hw : ∀ r ∈ l', r.length = sz) : Fz (accH o sz l H) Hc (accV o sz n) (.rows sz l') := by
  subst hn
  cases o with
  | none =>
    have := h0 rfl; subst this
    have : l' = [] := List.eq_nil_of_length_eq_zero h.spec.1.symm
    subst this; exact .nil sz
  | some id => exact Fz.ownL hget_self (hd id rfl) h hw
theorem map_w {α : Type} {f : α → List AV} {sz : Nat} (h : ∀ x, (f x).length = sz) (l : List α) : ∀ r ∈ l.map f, r.length = sz := fun r hr => by
  obtain ⟨x, _, rfl⟩ := List.mem_map.1 hr; exact h x
theorem take_map_succ {α β : Type} (f : α → β) (l : List α) (i : Nat) (h : i < l.length) : (l.take (i + 1)).map f = (l.take i).map f ++ [f l[i]] := by
  simp only [List.take_add_one, List.map_append, List.getElem?_eq_getElem h, Option.toList_some, List.map_cons, List.map_nil]
/-- A list's rows, by what they stand for. -/
theorem row_get {α : Type} {f : α → List AV} {l : List α} {i : Nat} (h : i < l.length) : (l.map f).getD (Int.toNat (i : Nat)) [] = f l[i] := by
  rw [Int.toNat_natCast]; simp [List.getD, h]
theorem readS_all {H : AH} {id sz n : Nat} {l : List (List AV)} (hg : hget H id = some (.rows sz l)) (h : n = l.length) : readS H false sz (.own id sz 0 n) = some l := by
  simp [readS, hg, h]
theorem cast_max (a b : Nat) : ((max a b : Nat) : Int) = max (a : Int) (b : Int) := by omega
theorem cast_min (a b : Nat) : ((min a b : Nat) : Int) = min (a : Int) (b : Int) := by omega
end Go.Proofs.YtlabklehgfdibaaDoor

/- Labels' categories as the layer reckons bits. -/
namespace Go.Proofs.YtlabklehgfdibaaDoor
set_option autoImplicit false
set_option linter.unusedSimpArgs false
theorem wrapU (x : Int) : IntKind.wrap .u64 x = x % 18446744073709551616 := by
  simp only [IntKind.wrap, IntKind.bits, IntKind.signed, Bool.false_and, Bool.false_eq_true, if_false]; omega
theorem ofI_nat {a : Nat} (h : a < 18446744073709551616) : (BitVec.ofInt 64 (a : Int)).toNat = a := by rw [BitVec.toNat_ofInt]; omega
theorem or_val {a b : Nat} (ha : a < 18446744073709551616) (hb : b < 18446744073709551616) : bitsV .or .u64 (a : Int) (b : Int) = ((a ||| b : Nat) : Int) := by
  show IntKind.u64.wrap ((BitVec.ofInt 64 (a : Int) ||| BitVec.ofInt 64 (b : Int)).toNat : Int) = _
  have h : a ||| b < 2 ^ 64 := Nat.or_lt_two_pow ha hb
  rw [BitVec.toNat_or, ofI_nat ha, ofI_nat hb, wrapU]; omega
theorem and_val {a b : Nat} (ha : a < 18446744073709551616) (hb : b < 18446744073709551616) : bitsV .and .u64 (a : Int) (b : Int) = ((a &&& b : Nat) : Int) := by
  show IntKind.u64.wrap ((BitVec.ofInt 64 (a : Int) &&& BitVec.ofInt 64 (b : Int)).toNat : Int) = _
  have h : a &&& b < 2 ^ 64 := Nat.and_lt_two_pow a hb
  rw [BitVec.toNat_and, ofI_nat ha, ofI_nat hb, wrapU]; omega
theorem getLsbD_nat {a i : Nat} (h : a < 18446744073709551616) : (BitVec.ofInt 64 (a : Int)).getLsbD i = a.testBit i := by
  rw [← BitVec.testBit_toNat, ofI_nat h]
theorem andNot_sub {a b : Nat} (ha : a < 18446744073709551616) (hb : b < 18446744073709551616) : decide (bitsV .andNot .u64 (a : Int) (b : Int) = 0) = subB a b := by
  have e : bitsV .andNot .u64 (a : Int) (b : Int) = ((BitVec.ofInt 64 (a : Int) &&& ~~~BitVec.ofInt 64 (b : Int)).toNat : Int) := by
    show IntKind.u64.wrap ((BitVec.ofInt 64 (a : Int) &&& ~~~BitVec.ofInt 64 (b : Int)).toNat : Int) = _
    have := (BitVec.ofInt 64 (a : Int) &&& ~~~BitVec.ofInt 64 (b : Int)).isLt
    rw [wrapU]; omega
  rw [e]
  cases hs : subB a b with
  | true =>
    have h := (subB_iff a b).1 hs
    have z : BitVec.ofInt 64 (a : Int) &&& ~~~BitVec.ofInt 64 (b : Int) = 0#64 := by
      apply BitVec.eq_of_getLsbD_eq
      intro i hi
      simp only [BitVec.getLsbD_and, BitVec.getLsbD_not, BitVec.getLsbD_zero, hi, decide_true, Bool.true_and, getLsbD_nat ha, getLsbD_nat hb]
      cases q : a.testBit i with
      | false => rfl
      | true => rw [h i hi q]; rfl
    rw [z]; rfl
  | false =>
    refine decide_eq_false (fun q => ?_)
    have z : BitVec.ofInt 64 (a : Int) &&& ~~~BitVec.ofInt 64 (b : Int) = 0#64 := BitVec.eq_of_toNat_eq (by simpa using q)
    have : subB a b = true := (subB_iff a b).2 fun i hi h1 => by
      have := congrArg (fun v => v.getLsbD i) z
      simp only [BitVec.getLsbD_and, BitVec.getLsbD_not, BitVec.getLsbD_zero, hi, decide_true, Bool.true_and, getLsbD_nat ha, getLsbD_nat hb, h1] at this
      simpa using this
    rw [hs] at this; cases this
/-- The bit as the program looks at it. -/
theorem bit_val {n i : Nat} (hn : n < 18446744073709551616) (hi : i < 64) : decide (bitsV .and .u64 (Int.fdiv (n : Int) (2 ^ min i 64)) 1 = 1) = n.testBit i := by
  have h2 : n / 2 ^ i ≤ n := Nat.div_le_self _ _
  rw [show min i 64 = i from by omega, show ((2 : Int) ^ i) = ((2 ^ i : Nat) : Int) from by simp, Int.fdiv_eq_ediv_of_nonneg _ (Int.natCast_nonneg _), ← Int.natCast_ediv]
  have := and_val (a := n / 2 ^ i) (b := 1) (by omega) (by omega)
  rw [show ((1 : Nat) : Int) = 1 from rfl] at this
  rw [this, Nat.and_one_is_mod, testBit_div]
  exact decide_eq_decide.2 (by omega)
end Go.Proofs.YtlabklehgfdibaaDoor

/- Labels, walked: how they stand, what they come to. -/
namespace Go.Proofs.YtlabklehgfdibaaDoor
set_option autoImplicit false
set_option linter.unusedSimpArgs false
set_option linter.unusedVariables false
attribute [local irreducible] callA callP ACalls
abbrev labR (lv : Int) (n : Nat) : List AV := [.int .i64 lv, .int .u64 (n : Nat)]
abbrev labA (lv : Int) (n : Nat) : AV := .agg (labR lv n)
def mayL (lv : Int) : Bool := decide (0 ≤ lv ∧ lv ≤ 15)
theorem lab_May_spec (lv : Int) (n : Nat) (H : AH) : ACalls PG label_May.n [labA lv n] H fun r H' => r = .bool (mayL lv) ∧ H' = H := by
  refine ACalls.fz (label_May.of rfl (wpF_start ?_))
  unfold mayL
  (first | refine au ?_ | exact au0 | fail)
  intro id1 hid1 ht1; have n1 := neAll_of hid1; (try simp only [neAll, neAll_hset] at n1); have m1 := n1; (repeat (obtain ⟨_, m1⟩ := m1))
  (first | refine au ?_ | exact au0 | fail)
  (repeat' (first | (refine au ?_; first | refine bsplit_dec (fun _ => ?_) (fun _ => ?_) | refine bsplit_intro (fun _ => ?_) (fun _ => ?_)) | exact au0 | fail)); (all_goals try (first | refine au ?_ | fail))
  all_goals exact ⟨fz_eq (congrArg AV.bool (by first | exact (decide_eq_true (by omega)).symm | exact (decide_eq_false (by omega)).symm | exact decide_eq_decide.2 (by omega))), sub_of⟩
theorem lab_Leq_spec (la : Int) (a : Nat) (lb : Int) (b : Nat) (ha : a < 18446744073709551616) (hb : b < 18446744073709551616) (H : AH) : ACalls PG label_Leq.n [labA la a, labA lb b] H fun r H' => r = .bool (decide (la ≤ lb) && subB a b) ∧ H' = H := by
  refine ACalls.fz (label_Leq.of rfl (wpF_start ?_))
  (first | refine au ?_ | exact au0 | fail)
  intro id2 hid2 ht2; have n2 := neAll_of hid2; (try simp only [neAll, neAll_hset] at n2); have m2 := n2; (repeat (obtain ⟨_, m2⟩ := m2))
  (first | refine au ?_ | exact au0 | fail)
  intro id3 hid3 ht3; have n3 := neAll_of hid3; (try simp only [neAll, neAll_hset] at n3); have m3 := n3; (repeat (obtain ⟨_, m3⟩ := m3))
  (first | refine au ?_ | exact au0 | fail)
  have he := andNot_sub ha hb
  refine bsplit_dec (fun c => ?_) (fun c => ?_)
  · rw [decide_eq_true c, Bool.true_and]
    (first | refine au ?_ | exact au0 | fail)
    exact ⟨fz_eq (congrArg AV.bool he), sub_of⟩
  · rw [decide_eq_false c, Bool.false_and]
    (first | refine au ?_ | exact au0 | fail)
    exact ⟨fz_of, sub_of⟩
theorem lab_Join_spec (la : Int) (a : Nat) (lb : Int) (b : Nat) (ha : a < 18446744073709551616) (hb : b < 18446744073709551616) (H : AH) : ACalls PG label_Join.n [labA la a, labA lb b] H fun r H' => r = labA (max la lb) (a ||| b) ∧ H' = H := by
  refine ACalls.fz (label_Join.of rfl (wpF_start ?_))
  (first | refine au ?_ | exact au0 | fail)
  intro id2 hid2 ht2; have n2 := neAll_of hid2; (try simp only [neAll, neAll_hset] at n2); have m2 := n2; (repeat (obtain ⟨_, m2⟩ := m2))
  (first | refine au ?_ | exact au0 | fail)
  intro id3 hid3 ht3; have n3 := neAll_of hid3; (try simp only [neAll, neAll_hset] at n3); have m3 := n3; (repeat (obtain ⟨_, m3⟩ := m3))
  (first | refine au ?_ | exact au0 | fail)
  intro id4 hid4 ht4; have n4 := neAll_of hid4; (try simp only [neAll, neAll_hset] at n4); have m4 := n4; (repeat (obtain ⟨_, m4⟩ := m4))
  (first | refine au ?_ | exact au0 | fail)
  rw [or_val ha hb]
  (first | refine au ?_ | exact au0 | fail)
  exact ⟨fz_eq (by simp), sub_of⟩
theorem lab_Meet_spec (la : Int) (a : Nat) (lb : Int) (b : Nat) (ha : a < 18446744073709551616) (hb : b < 18446744073709551616) (H : AH) : ACalls PG label_Meet.n [labA la a, labA lb b] H fun r H' => r = labA (min la lb) (a &&& b) ∧ H' = H := by
  refine ACalls.fz (label_Meet.of rfl (wpF_start ?_))
  (first | refine au ?_ | exact au0 | fail)
  intro id2 hid2 ht2; have n2 := neAll_of hid2; (try simp only [neAll, neAll_hset] at n2); have m2 := n2; (repeat (obtain ⟨_, m2⟩ := m2))
  (first | refine au ?_ | exact au0 | fail)
  intro id3 hid3 ht3; have n3 := neAll_of hid3; (try simp only [neAll, neAll_hset] at n3); have m3 := n3; (repeat (obtain ⟨_, m3⟩ := m3))
  (first | refine au ?_ | exact au0 | fail)
  intro id4 hid4 ht4; have n4 := neAll_of hid4; (try simp only [neAll, neAll_hset] at n4); have m4 := n4; (repeat (obtain ⟨_, m4⟩ := m4))
  (first | refine au ?_ | exact au0 | fail)
  rw [and_val ha hb]
  (first | refine au ?_ | exact au0 | fail)
  exact ⟨fz_eq (by simp), sub_of⟩
end Go.Proofs.YtlabklehgfdibaaDoor

/- The library's functions at this program, as the kit's contracts ask. -/
namespace Go.Proofs.YtlabklehgfdibaaDoor
open Go.Shelf
set_option autoImplicit false
set_option maxRecDepth 100000
def lays156_ren : Go.Shelf.Ren := ⟨fun
  | 156 => 24
  | 165 => 32
  | 166 => 33
  | 169 => 34
  | 240 => 40
  | 241 => 41
  | 276 => 51
  | 277 => 52
  | n => n, fun
  | 31 => 41
  | 9 => 9
  | 3 => 3
  | 4 => 4
  | 0 => 0
  | 20 => 20
  | 72 => 59
  | 76 => 63
  | 70 => 56
  | 37 => 57
  | 75 => 62
  | 127 => 68
  | 164 => 77
  | 5 => 5
  | 80 => 65
  | n => n, fun
  | n => n⟩
theorem lays156 : Go.Proofs.Lays.n156 Tryd.prog lays156_ren :=
  { mixed := by kernel_rfl,
    f156 := Tryd.func24.trans (congrArg some (by kernel_rfl)),
    f165 := Tryd.func32.trans (congrArg some (by kernel_rfl)),
    f166 := Tryd.func33.trans (congrArg some (by kernel_rfl)),
    f169 := Tryd.func34.trans (congrArg some (by kernel_rfl)),
    f240 := Tryd.func40.trans (congrArg some (by kernel_rfl)),
    f241 := Tryd.func41.trans (congrArg some (by kernel_rfl)),
    f276 := Tryd.func51.trans (congrArg some (by kernel_rfl)),
    f277 := Tryd.func52.trans (congrArg some (by kernel_rfl)),
    t0 := Tryd.underlying0,
    a0 := Tryd.isAgg0,
    z0 := Tryd.sizeOf0,
    v0 := Tryd.zeroValue0,
    t3 := Tryd.underlying3,
    a3 := Tryd.isAgg3,
    z3 := Tryd.sizeOf3,
    v3 := Tryd.zeroValue3,
    t4 := Tryd.underlying4,
    a4 := Tryd.isAgg4,
    z4 := Tryd.sizeOf4,
    v4 := Tryd.zeroValue4,
    t9 := Tryd.underlying9,
    a9 := Tryd.isAgg9,
    z9 := Tryd.sizeOf9,
    v9 := Tryd.zeroValue9,
    t20 := Tryd.underlying20,
    a20 := Tryd.isAgg20,
    z20 := Tryd.sizeOf20,
    v20 := Tryd.zeroValue20,
    t31 := Tryd.underlying41,
    a31 := Tryd.isAgg41,
    z31 := Tryd.sizeOf41,
    v31 := Tryd.zeroValue41,
    t37 := Tryd.underlying57,
    a37 := Tryd.isAgg57,
    z37 := Tryd.sizeOf57,
    v37 := Tryd.zeroValue57,
    t70 := Tryd.underlying56,
    a70 := Tryd.isAgg56,
    z70 := Tryd.sizeOf56,
    v70 := Tryd.zeroValue56,
    t72 := Tryd.underlying59,
    a72 := Tryd.isAgg59,
    z72 := Tryd.sizeOf59,
    v72 := Tryd.zeroValue59,
    t75 := Tryd.underlying62,
    a75 := Tryd.isAgg62,
    z75 := Tryd.sizeOf62,
    v75 := Tryd.zeroValue62,
    t76 := Tryd.underlying63,
    a76 := Tryd.isAgg63,
    z76 := Tryd.sizeOf63,
    v76 := Tryd.zeroValue63,
    t127 := Tryd.underlying68,
    a127 := Tryd.isAgg68,
    z127 := Tryd.sizeOf68,
    v127 := Tryd.zeroValue68,
    t164 := Tryd.underlying77,
    a164 := Tryd.isAgg77,
    z164 := Tryd.sizeOf77,
    v164 := Tryd.zeroValue77 }
def lays171_ren : Go.Shelf.Ren := ⟨fun
  | 171 => 23
  | 243 => 31
  | 246 => 39
  | 283 => 47
  | 284 => 48
  | 285 => 49
  | 286 => 50
  | 129 => 61
  | 317 => 60
  | 318 => 62
  | 319 => 63
  | 320 => 64
  | 337 => 68
  | 338 => 69
  | n => n, fun
  | 3 => 3
  | 9 => 9
  | 2 => 2
  | 4 => 4
  | 171 => 72
  | 0 => 0
  | 53 => 22
  | 37 => 57
  | 5 => 5
  | 173 => 75
  | 212 => 85
  | 51 => 86
  | 20 => 20
  | 213 => 87
  | 46 => 42
  | 232 => 97
  | 233 => 98
  | n => n, fun
  | 17 => 1
  | 18 => 4
  | 19 => 5
  | n => n⟩
theorem lays171 : Go.Proofs.LaysM.n171 Tryd.prog lays171_ren :=
  { mixed := by kernel_rfl,
    f129 := Tryd.func61.trans (congrArg some (by kernel_rfl)),
    f171 := Tryd.func23.trans (congrArg some (by kernel_rfl)),
    f243 := Tryd.func31.trans (congrArg some (by kernel_rfl)),
    f246 := Tryd.func39.trans (congrArg some (by kernel_rfl)),
    f283 := Tryd.func47.trans (congrArg some (by kernel_rfl)),
    f284 := Tryd.func48.trans (congrArg some (by kernel_rfl)),
    f285 := Tryd.func49.trans (congrArg some (by kernel_rfl)),
    f286 := Tryd.func50.trans (congrArg some (by kernel_rfl)),
    f317 := Tryd.func60.trans (congrArg some (by kernel_rfl)),
    f318 := Tryd.func62.trans (congrArg some (by kernel_rfl)),
    f319 := Tryd.func63.trans (congrArg some (by kernel_rfl)),
    f320 := Tryd.func64.trans (congrArg some (by kernel_rfl)),
    f337 := Tryd.func68.trans (congrArg some (by kernel_rfl)),
    f338 := Tryd.func69.trans (congrArg some (by kernel_rfl)),
    t0 := Tryd.underlying0,
    a0 := Tryd.isAgg0,
    z0 := Tryd.sizeOf0,
    v0 := Tryd.zeroValue0,
    t2 := Tryd.underlying2,
    a2 := Tryd.isAgg2,
    z2 := Tryd.sizeOf2,
    v2 := Tryd.zeroValue2,
    t3 := Tryd.underlying3,
    a3 := Tryd.isAgg3,
    z3 := Tryd.sizeOf3,
    v3 := Tryd.zeroValue3,
    t4 := Tryd.underlying4,
    a4 := Tryd.isAgg4,
    z4 := Tryd.sizeOf4,
    v4 := Tryd.zeroValue4,
    t5 := Tryd.underlying5,
    a5 := Tryd.isAgg5,
    z5 := Tryd.sizeOf5,
    v5 := Tryd.zeroValue5,
    t9 := Tryd.underlying9,
    a9 := Tryd.isAgg9,
    z9 := Tryd.sizeOf9,
    v9 := Tryd.zeroValue9,
    t20 := Tryd.underlying20,
    a20 := Tryd.isAgg20,
    z20 := Tryd.sizeOf20,
    v20 := Tryd.zeroValue20,
    t37 := Tryd.underlying57,
    a37 := Tryd.isAgg57,
    z37 := Tryd.sizeOf57,
    v37 := Tryd.zeroValue57,
    t46 := Tryd.underlying42,
    a46 := Tryd.isAgg42,
    z46 := Tryd.sizeOf42,
    v46 := Tryd.zeroValue42,
    t51 := Tryd.underlying86,
    a51 := Tryd.isAgg86,
    z51 := Tryd.sizeOf86,
    v51 := Tryd.zeroValue86,
    t53 := Tryd.underlying22,
    a53 := Tryd.isAgg22,
    z53 := Tryd.sizeOf22,
    v53 := Tryd.zeroValue22,
    t171 := Tryd.underlying72,
    a171 := Tryd.isAgg72,
    z171 := Tryd.sizeOf72,
    v171 := Tryd.zeroValue72,
    t173 := Tryd.underlying75,
    a173 := Tryd.isAgg75,
    z173 := Tryd.sizeOf75,
    v173 := Tryd.zeroValue75,
    t212 := Tryd.underlying85,
    a212 := Tryd.isAgg85,
    z212 := Tryd.sizeOf85,
    v212 := Tryd.zeroValue85,
    t213 := Tryd.underlying87,
    a213 := Tryd.isAgg87,
    z213 := Tryd.sizeOf87,
    t232 := Tryd.underlying97,
    a232 := Tryd.isAgg97,
    z232 := Tryd.sizeOf97,
    v232 := Tryd.zeroValue97,
    t233 := Tryd.underlying98,
    a233 := Tryd.isAgg98,
    z233 := Tryd.sizeOf98,
    v233 := Tryd.zeroValue98,
    g17 := by kernel_rfl,
    g18 := by kernel_rfl,
    g19 := by kernel_rfl,
    i0 := by kernel_rfl,
    i2 := by kernel_rfl,
    i3 := by kernel_rfl,
    i4 := by kernel_rfl,
    i5 := by kernel_rfl,
    i9 := by kernel_rfl,
    i20 := by kernel_rfl,
    i37 := by kernel_rfl,
    i46 := by kernel_rfl,
    i51 := by kernel_rfl,
    i53 := by kernel_rfl,
    i171 := by kernel_rfl,
    i173 := by kernel_rfl,
    i212 := by kernel_rfl,
    i232 := by kernel_rfl,
    i233 := by kernel_rfl,
    m17 := by kernel_rfl,
    m18 := by kernel_rfl,
    m19 := by kernel_rfl }
def lays145_ren : Go.Shelf.Ren := ⟨fun
  | 145 => 27
  | 220 => 36
  | 219 => 42
  | 217 => 53
  | 225 => 54
  | 224 => 55
  | 267 => 56
  | 266 => 65
  | 314 => 66
  | n => n, fun
  | 9 => 9
  | 4 => 4
  | 59 => 46
  | 3 => 3
  | 5 => 5
  | 46 => 42
  | 146 => 90
  | 51 => 86
  | n => n, fun
  | 1 => 0
  | n => n⟩
theorem lays145 : Go.Proofs.Lays.n145 Tryd.prog lays145_ren :=
  { mixed := by kernel_rfl,
    f145 := Tryd.func27.trans (congrArg some (by kernel_rfl)),
    f217 := Tryd.func53.trans (congrArg some (by kernel_rfl)),
    f219 := Tryd.func42.trans (congrArg some (by kernel_rfl)),
    f220 := Tryd.func36.trans (congrArg some (by kernel_rfl)),
    f224 := Tryd.func55.trans (congrArg some (by kernel_rfl)),
    f225 := Tryd.func54.trans (congrArg some (by kernel_rfl)),
    f266 := Tryd.func65.trans (congrArg some (by kernel_rfl)),
    f267 := Tryd.func56.trans (congrArg some (by kernel_rfl)),
    f314 := Tryd.func66.trans (congrArg some (by kernel_rfl)),
    t3 := Tryd.underlying3,
    a3 := Tryd.isAgg3,
    z3 := Tryd.sizeOf3,
    v3 := Tryd.zeroValue3,
    t4 := Tryd.underlying4,
    a4 := Tryd.isAgg4,
    z4 := Tryd.sizeOf4,
    v4 := Tryd.zeroValue4,
    t5 := Tryd.underlying5,
    a5 := Tryd.isAgg5,
    z5 := Tryd.sizeOf5,
    v5 := Tryd.zeroValue5,
    t9 := Tryd.underlying9,
    a9 := Tryd.isAgg9,
    z9 := Tryd.sizeOf9,
    v9 := Tryd.zeroValue9,
    t46 := Tryd.underlying42,
    a46 := Tryd.isAgg42,
    z46 := Tryd.sizeOf42,
    v46 := Tryd.zeroValue42,
    t51 := Tryd.underlying86,
    a51 := Tryd.isAgg86,
    z51 := Tryd.sizeOf86,
    v51 := Tryd.zeroValue86,
    t59 := Tryd.underlying46,
    a59 := Tryd.isAgg46,
    z59 := Tryd.sizeOf46,
    v59 := Tryd.zeroValue46,
    t146 := Tryd.underlying90,
    a146 := Tryd.isAgg90,
    z146 := Tryd.sizeOf90,
    v146 := Tryd.zeroValue90,
    g1 := by kernel_rfl }
def lays104_ren : Go.Shelf.Ren := ⟨fun
  | 104 => 28
  | 211 => 37
  | 207 => 43
  | n => n, fun
  | 9 => 9
  | 4 => 4
  | 24 => 48
  | 3 => 3
  | n => n, fun
  | n => n⟩
theorem lays104 : Go.Proofs.Lays.n104 Tryd.prog lays104_ren :=
  { mixed := by kernel_rfl,
    f104 := Tryd.func28.trans (congrArg some (by kernel_rfl)),
    f207 := Tryd.func43.trans (congrArg some (by kernel_rfl)),
    f211 := Tryd.func37.trans (congrArg some (by kernel_rfl)),
    t3 := Tryd.underlying3,
    a3 := Tryd.isAgg3,
    z3 := Tryd.sizeOf3,
    v3 := Tryd.zeroValue3,
    t4 := Tryd.underlying4,
    a4 := Tryd.isAgg4,
    z4 := Tryd.sizeOf4,
    v4 := Tryd.zeroValue4,
    t9 := Tryd.underlying9,
    a9 := Tryd.isAgg9,
    z9 := Tryd.sizeOf9,
    v9 := Tryd.zeroValue9,
    t24 := Tryd.underlying48,
    a24 := Tryd.isAgg48,
    z24 := Tryd.sizeOf48,
    v24 := Tryd.zeroValue48 }
def lays146_ren : Go.Shelf.Ren := ⟨fun
  | 146 => 30
  | 221 => 38
  | 268 => 44
  | 138 => 45
  | 143 => 46
  | 195 => 57
  | 197 => 58
  | 218 => 59
  | 219 => 42
  | 260 => 67
  | 217 => 53
  | 225 => 54
  | 224 => 55
  | 267 => 56
  | 266 => 65
  | 314 => 66
  | n => n, fun
  | 9 => 9
  | 31 => 41
  | 3 => 3
  | 4 => 4
  | 0 => 0
  | 105 => 82
  | 21 => 21
  | 5 => 5
  | 46 => 42
  | 119 => 93
  | 139 => 96
  | 138 => 95
  | 146 => 90
  | 51 => 86
  | n => n, fun
  | 1 => 0
  | 3 => 2
  | 4 => 3
  | n => n⟩
theorem lays146 : Go.Proofs.Lays.n146 Tryd.prog lays146_ren :=
  { mixed := by kernel_rfl,
    f138 := Tryd.func45.trans (congrArg some (by kernel_rfl)),
    f143 := Tryd.func46.trans (congrArg some (by kernel_rfl)),
    f146 := Tryd.func30.trans (congrArg some (by kernel_rfl)),
    f195 := Tryd.func57.trans (congrArg some (by kernel_rfl)),
    f197 := Tryd.func58.trans (congrArg some (by kernel_rfl)),
    f217 := Tryd.func53.trans (congrArg some (by kernel_rfl)),
    f218 := Tryd.func59.trans (congrArg some (by kernel_rfl)),
    f219 := Tryd.func42.trans (congrArg some (by kernel_rfl)),
    f221 := Tryd.func38.trans (congrArg some (by kernel_rfl)),
    f224 := Tryd.func55.trans (congrArg some (by kernel_rfl)),
    f225 := Tryd.func54.trans (congrArg some (by kernel_rfl)),
    f260 := Tryd.func67.trans (congrArg some (by kernel_rfl)),
    f266 := Tryd.func65.trans (congrArg some (by kernel_rfl)),
    f267 := Tryd.func56.trans (congrArg some (by kernel_rfl)),
    f268 := Tryd.func44.trans (congrArg some (by kernel_rfl)),
    f314 := Tryd.func66.trans (congrArg some (by kernel_rfl)),
    t0 := Tryd.underlying0,
    a0 := Tryd.isAgg0,
    z0 := Tryd.sizeOf0,
    v0 := Tryd.zeroValue0,
    t3 := Tryd.underlying3,
    a3 := Tryd.isAgg3,
    z3 := Tryd.sizeOf3,
    v3 := Tryd.zeroValue3,
    t4 := Tryd.underlying4,
    a4 := Tryd.isAgg4,
    z4 := Tryd.sizeOf4,
    v4 := Tryd.zeroValue4,
    t5 := Tryd.underlying5,
    a5 := Tryd.isAgg5,
    z5 := Tryd.sizeOf5,
    v5 := Tryd.zeroValue5,
    t9 := Tryd.underlying9,
    a9 := Tryd.isAgg9,
    z9 := Tryd.sizeOf9,
    v9 := Tryd.zeroValue9,
    t21 := Tryd.underlying21,
    a21 := Tryd.isAgg21,
    z21 := Tryd.sizeOf21,
    v21 := Tryd.zeroValue21,
    t31 := Tryd.underlying41,
    a31 := Tryd.isAgg41,
    z31 := Tryd.sizeOf41,
    v31 := Tryd.zeroValue41,
    t46 := Tryd.underlying42,
    a46 := Tryd.isAgg42,
    z46 := Tryd.sizeOf42,
    v46 := Tryd.zeroValue42,
    t51 := Tryd.underlying86,
    a51 := Tryd.isAgg86,
    z51 := Tryd.sizeOf86,
    v51 := Tryd.zeroValue86,
    t105 := Tryd.underlying82,
    a105 := Tryd.isAgg82,
    z105 := Tryd.sizeOf82,
    v105 := Tryd.zeroValue82,
    t119 := Tryd.underlying93,
    a119 := Tryd.isAgg93,
    z119 := Tryd.sizeOf93,
    t138 := Tryd.underlying95,
    a138 := Tryd.isAgg95,
    z138 := Tryd.sizeOf95,
    v138 := Tryd.zeroValue95,
    t139 := Tryd.underlying96,
    a139 := Tryd.isAgg96,
    z139 := Tryd.sizeOf96,
    v139 := Tryd.zeroValue96,
    t146 := Tryd.underlying90,
    a146 := Tryd.isAgg90,
    z146 := Tryd.sizeOf90,
    v146 := Tryd.zeroValue90,
    g1 := by kernel_rfl,
    g3 := by kernel_rfl,
    g4 := by kernel_rfl }
theorem laysExtra : Builder.Extra Tryd.prog lays156_ren :=
  { sizeBuilder := by kernel_rfl,
    liesBuilder := by kernel_rfl,
    t5 := Tryd.underlying5,
    a5 := Tryd.isAgg5,
    z5 := Tryd.sizeOf5,
    v5 := Tryd.zeroValue5,
    infoByte := by kernel_rfl,
    cellsByte := by kernel_rfl,
    sizeByte := by kernel_rfl,
    neB5 := by decide }
end Go.Proofs.YtlabklehgfdibaaDoor

/- The kit's contracts of the library's functions, as contracts of this layer. -/
namespace Go.Proofs.YtlabklehgfdibaaDoor
set_option autoImplicit false
open Go.RowKit

theorem hty_lt {h : Array Obj} {b : Nat} {t : Nat × TypeId} (q : hty h b = some t) : b < h.size := by
  unfold hty at q
  split at q
  · rename_i hx
    exact (Array.getElem?_eq_some_iff.1 hx).1
  · cases q
theorem Below.hty {w w' : World} (q : Below w.heap.size w w') (b : Nat) (t : Nat × TypeId) (h : hty w.heap b = some t) : Go.Proofs.YtlabklehgfdibaaDoor.hty w'.heap b = some t := by
  have := q.block b (hty_lt h)
  unfold Go.Proofs.YtlabklehgfdibaaDoor.hty at h ⊢
  rw [this]
  exact h
/-- A function of the library that leaves all that was there as it was. -/
theorem ACalls.belowT {P : Program} {f : Nat} {args : List AV} {v : AV} (hc : callable P f = true)
    (h : ∀ (w : World) (ρ : Loc) (Z : Nat → Prop) (xs : List Value), TabG w.heap Z → (∀ b, Z b → b < w.heap.size) → RlL w.heap ρ Z args xs → Calls P f xs.toArray w fun e w' => ∃ x, e = .returned x ∧ Rl w'.heap ρ Z v x ∧ Below w.heap.size w w') :
    ACalls P f args [] fun r _ => r = v := by
  refine ⟨hc, fun w ρ Z xs g hr => (h w ρ Z xs g.tab g.zlt hr).mono fun e w' ⟨x, e1, e2, e3⟩ => ⟨x, v, [], ρ, Z, e1, ?_, e2, ?_, rfl⟩⟩
  · refine ⟨fun _ _ q => (by cases q), fun _ _ _ _ _ _ _ _ q => (by cases q), fun b ⟨_, _, _, q, _⟩ => (by cases q), fun b q => Nat.lt_of_lt_of_le (g.zlt b q) e3.size, g.ids, fun id b o q => ?_, g.tab.of (fun _ q => q) (fun b q => e3.block b (g.zlt b q))⟩
    obtain ⟨h1, m, h2⟩ := g.ty id b o q
    exact ⟨h1, m, Below.hty e3 b _ h2⟩
  · exact ⟨e3.size, fun b hb _ => e3.block b hb, fun b t q => Below.hty e3 b t q, fun _ q => q, fun _ q => .inl q, fun _ _ q => q, fun b ⟨_, _, _, q, _⟩ => (by cases q), e3.os, e3.output, e3.tape⟩
theorem ACalls.below {P : Program} {f : Nat} {args : List AV} {v : AV} (hc : callable P f = true)
    (h : ∀ (w : World) (ρ : Loc) (Z : Nat → Prop) (xs : List Value), RlL w.heap ρ Z args xs → Calls P f xs.toArray w fun e w' => ∃ x, e = .returned x ∧ Rl w'.heap ρ Z v x ∧ Below w.heap.size w w') :
    ACalls P f args [] fun r _ => r = v := ACalls.belowT hc fun w ρ Z xs _ _ => h w ρ Z xs
theorem RlL.two {h : Array Obj} {ρ : Loc} {Z : Nat → Prop} {a b : AV} {xs : List Value} (q : RlL h ρ Z [a, b] xs) : ∃ x y, xs = [x, y] ∧ Rl h ρ Z a x ∧ Rl h ρ Z b y := by
  obtain ⟨hl, hr⟩ := q
  match xs, hl with
  | [x, y], _ => exact ⟨x, y, rfl, hr 0 a x rfl rfl, hr 1 b y rfl rfl⟩
theorem RlL.one {h : Array Obj} {ρ : Loc} {Z : Nat → Prop} {a : AV} {xs : List Value} (q : RlL h ρ Z [a] xs) : ∃ x, xs = [x] ∧ Rl h ρ Z a x := by
  obtain ⟨hl, hr⟩ := q
  match xs, hl with
  | [x], _ => exact ⟨x, rfl, hr 0 a x rfl rfl⟩
theorem ACalls.sub {P : Program} {f : Nat} {args : List AV} {H H1 : AH} {v : AV} (h : ACalls P f args H fun r H' => r = v ∧ Sub H1 H') : ACalls P f args H fun r H' => r = v ∧ H' = H1 :=
  h.freeze fun r H' ⟨a, b⟩ => ⟨r, H1, b, .refl _, a, rfl⟩
theorem sub_hset {H H' : AH} {id : Nat} {b : Blk} (h1 : hget H' id = some b) (h2 : ∀ j c, j ≠ id → hget H j = some c → hget H' j = some c) : Sub (hset H id b) H' := fun j c q => by
  rw [hget_hset] at q
  split at q
  · rename_i e
    subst e
    cases hh : hget H j with
    | none => rw [hh] at q; cases q
    | some d => rw [hh] at q; simp only [Option.map_some, Option.some.injEq] at q; rw [← q]; exact h1
  · rename_i e; exact h2 j c e q

end Go.Proofs.YtlabklehgfdibaaDoor

/- strings.Join, by the kit's contract. -/
namespace Go.Proofs.YtlabklehgfdibaaDoor
open Go.Shelf Go.RowKit
set_option autoImplicit false
set_option linter.unusedVariables false
def joinRow (l : List (List UInt8)) : List (List AV) := l.map fun s => [.str s]
theorem Join_spec (l : List (List UInt8)) (s : List UInt8) (h1 : l.length ≤ 140737488355328) (h2 : (Lib.join l s).length ≤ 140737488355328) (H : AH) : ACalls PG strings_Join.n [.rows 1 (joinRow l), .str s] H fun r H' => r = .str (Lib.join l s) ∧ H' = H :=
  (ACalls.belowT (P := PG) (f := strings_Join.n) (args := [.rows 1 (joinRow l), .str s]) (v := .str (Lib.join l s)) (by kernel_rfl) fun w ρ Z xs ht hz hr => by
    obtain ⟨x, y, rfl, hx, hy⟩ := hr.two
    cases hy with
    | str _ sb hs =>
    have hlen : (joinRow l).length = l.length := by simp [joinRow]
    generalize hL : joinRow l = L at hx hlen
    cases hx with
    | rowsN =>
      have : l = [] := List.eq_nil_of_length_eq_zero (by simpa using hlen.symm)
      subst this
      exact (Any.strings_Join_none lays156 laysExtra none 0 sb w).mono fun e w' ⟨e1, e2⟩ => ⟨_, e1, .str _ _ rfl, e2 ▸ Below.refl _ _⟩
    | rowsE _ a c =>
      have : l = [] := List.eq_nil_of_length_eq_zero (by simpa using hlen.symm)
      subst this
      exact (Any.strings_Join_none lays156 laysExtra (some a) c sb w).mono fun e w' ⟨e1, e2⟩ => ⟨_, e1, .str _ _ rfl, e2 ▸ Below.refl _ _⟩
    | rows _ _ b o n c f hn hnc hzz hw hcc hm hrr =>
      rcases Nat.eq_zero_or_pos n with h0 | h0
      · have : l = [] := List.eq_nil_of_length_eq_zero (by omega)
        subst this
        subst h0
        exact (Any.strings_Join_none lays156 laysExtra _ c sb w).mono fun e w' ⟨e1, e2⟩ => ⟨_, e1, .str _ _ rfl, e2 ▸ Below.refl _ _⟩
      have hnl : n = l.length := by omega
      subst hL
      have hj : ((l.map fun s => (⟨s.toArray⟩ : ByteArray)).map (·.data.toList)) = l := by
        rw [List.map_map]
        exact List.map_id' l
      have := Any.strings_Join lays156 laysExtra b o c (l.map fun s => ⟨s.toArray⟩) sb w (fun j x hx => by
        obtain ⟨u, hu⟩ : ∃ u, l[j]? = some u ∧ x = ⟨u.toArray⟩ := by
          rw [List.getElem?_map] at hx
          cases hq : l[j]? with
          | none => rw [hq] at hx; cases hx
          | some u => rw [hq] at hx; exact ⟨u, rfl, (Option.some.inj hx).symm⟩
        have hr1 : (joinRow l)[j]? = some [.str u] := by simp [joinRow, hu.1]
        have hc := hm j _ 0 (.str u) hr1 rfl
        have hv := hrr j _ 0 (.str u) hr1 rfl
        simp only [Nat.mul_one, Nat.add_zero] at hc hv
        rw [cell?_heap, hc]
        cases hv' : f j with
        | string t => 
          rw [hv'] at hv
          cases hv with
          | str _ _ ht => rw [hu.2, ← ht]
        | _ => rw [hv'] at hv; cases hv) (hz b (hzz h0)) (by simpa using h1) (by simpa [← hnl] using hnc) (by rw [hj, hs]; exact h2)
      rw [hj, hs] at this
      rw [List.length_map, ← hnl] at this
      exact this.mono fun e w' ⟨e1, e2⟩ => ⟨_, e1, .str _ _ rfl, e2⟩).frame H
end Go.Proofs.YtlabklehgfdibaaDoor

/- The kit's contracts of functions that hand back what they have made. -/
namespace Go.Proofs.YtlabklehgfdibaaDoor
set_option autoImplicit false
open Go.RowKit
theorem ACalls.belowN {P : Program} {f : Nat} {args : List AV} {v : AV} (hc : callable P f = true)
    (h : ∀ (w : World) (ρ : Loc) (Z : Nat → Prop) (xs : List Value), TabG w.heap Z → (∀ b, Z b → b < w.heap.size) → RlL w.heap ρ Z args xs → Calls P f xs.toArray w fun e w' => ∃ x, e = .returned x ∧ Rl w'.heap ρ (fun b => Z b ∨ (w.heap.size ≤ b ∧ b < w'.heap.size)) v x ∧ Below w.heap.size w w') :
    ACalls P f args [] fun r _ => r = v := by
  refine ⟨hc, fun w ρ Z xs g hr => (h w ρ Z xs g.tab g.zlt hr).mono fun e w' ⟨x, e1, e2, e3⟩ => ⟨x, v, [], ρ, fun b => Z b ∨ (w.heap.size ≤ b ∧ b < w'.heap.size), e1, ?_, e2, ?_, rfl⟩⟩
  · refine ⟨fun _ _ q => (by cases q), fun _ _ _ _ _ _ _ _ q => (by cases q), fun b ⟨_, _, _, q, _⟩ => (by cases q), fun b q => ?_, g.ids, fun id b o q => ?_, g.tab.of (fun _ q => .inl q) (fun b q => e3.block b (g.zlt b q))⟩
    · rcases q with q | q
      · exact Nat.lt_of_lt_of_le (g.zlt b q) e3.size
      · exact q.2
    · obtain ⟨h1, m, h2⟩ := g.ty id b o q
      exact ⟨h1, m, Below.hty e3 b _ h2⟩
  · exact ⟨e3.size, fun b hb _ => e3.block b hb, fun b t q => Below.hty e3 b t q, fun _ q => .inl q, fun b q => q.elim .inl fun q => .inr (.inr q.1), fun _ _ q => q, fun b ⟨_, _, _, q, _⟩ => (by cases q), e3.os, e3.output, e3.tape⟩
end Go.Proofs.YtlabklehgfdibaaDoor

/- The numbers of the package variables that are looked at. -/
namespace Go.Proofs.YtlabklehgfdibaaDoor
abbrev tabG : Nat := 1
abbrev tabT : Nat := 85
abbrev maxG : Nat := 0
end Go.Proofs.YtlabklehgfdibaaDoor

/- The table of powers of ten, as the kit's contracts ask for it. -/
namespace Go.Proofs.YtlabklehgfdibaaDoor
open Go.RowKit
set_option autoImplicit false
theorem tab_is {w : World} {Z : Nat → Prop} (h : TabG w.heap Z) : Lib.TabIs PG w "internal/strconv.uint64pow10" .u64 Lib.pow10Tab := by
  obtain ⟨_, c, q, rfl⟩ := h (tabG, fun c => c = pow10Cells) (by simp [tabs, tabG])
  have hg : PG.globalNamed "internal/strconv.uint64pow10" = some tabG := by kernel_rfl
  unfold Lib.TabIs World.var?
  unfold hrow at q
  rw [hg, Option.bind_some]
  cases hx : w.heap[tabG]? with
  | none => rw [hx] at q; cases q
  | some o =>
    rw [hx] at q
    cases o with
    | cells c t f => exact (show some c = some pow10Cells from q)
    | _ => cases q
end Go.Proofs.YtlabklehgfdibaaDoor

/- The library's cutting and splitting of texts, numbers' texts, by the kit's contracts. -/
namespace Go.Proofs.YtlabklehgfdibaaDoor
open Go.Shelf Go.RowKit
set_option autoImplicit false
set_option linter.unusedVariables false
theorem max_is {w : World} {Z : Nat → Prop} (h : TabG w.heap Z) : ∃ m, w.cell? ⟨maxG, 0, none⟩ = some (.int .i64 m) := by
  obtain ⟨_, c, q, m, hm⟩ := h (maxG, fun c => ∃ m : Int, c[0]? = some (.int .i64 m)) (by simp [tabs, maxG])
  refine ⟨m, ?_⟩
  unfold World.cell?
  unfold hrow at q
  cases hx : w.heap[maxG]? with
  | none => rw [hx] at q; cases q
  | some o =>
    rw [hx] at q
    cases o with
    | cells c' t f =>
      have : c' = c := Option.some.inj q
      subst this
      simpa using hm
    | _ => cases q
theorem strB {s : ByteArray} {l : List UInt8} (h : s.data.toList = l) : s.size = l.length := by rw [← h]; simp
theorem rl_tup2 {h : Array Obj} {ρ : Loc} {Z : Nat → Prop} {a b : AV} {x y : Value} (h1 : Rl h ρ Z a x) (h2 : Rl h ρ Z b y) : Rl h ρ Z (.tup [a, b]) (.tuple #[x, y]) :=
  .tup [a, b] [x, y] rfl fun i v z p q => by
    match i, p, q with
    | 0, p, q => cases p; cases q; exact h1
    | 1, p, q => cases p; cases q; exact h2
theorem rl_tup3 {h : Array Obj} {ρ : Loc} {Z : Nat → Prop} {a b c : AV} {x y z : Value} (h1 : Rl h ρ Z a x) (h2 : Rl h ρ Z b y) (h3 : Rl h ρ Z c z) : Rl h ρ Z (.tup [a, b, c]) (.tuple #[x, y, z]) :=
  .tup [a, b, c] [x, y, z] rfl fun i v z p q => by
    match i, p, q with
    | 0, p, q => cases p; cases q; exact h1
    | 1, p, q => cases p; cases q; exact h2
    | 2, p, q => cases p; cases q; exact h3
theorem Cut_spec (s p : List UInt8) (hs : s.length < 4294967281) (H : AH) : ACalls PG strings_Cut.n [.str s, .str p] H fun r H' => r = .tup [.str (Lib.cut s p).1, .str (Lib.cut s p).2.1, .bool (Lib.cut s p).2.2] ∧ H' = H :=
  (ACalls.belowT (P := PG) (f := strings_Cut.n) (args := [.str s, .str p]) (v := .tup [.str (Lib.cut s p).1, .str (Lib.cut s p).2.1, .bool (Lib.cut s p).2.2]) (by kernel_rfl) fun w ρ Z xs ht hz hr => by
    obtain ⟨x, y, rfl, hx, hy⟩ := hr.two
    cases hx with
    | str _ a ha =>
    cases hy with
    | str _ b hb =>
    obtain ⟨m, hm⟩ := max_is ht
    have := Any.strings_Cut lays145 a b m w (by rw [strB ha]; exact hs) hm
    rw [ha, hb] at this
    refine this.mono fun e w' ⟨h1, n, h2⟩ => ⟨_, h1, ?_, by subst h2; exact ⟨rfl, rfl, rfl, Nat.le_refl _, fun _ _ => rfl⟩⟩
    exact rl_tup3 (.str _ _ rfl) (.str _ _ rfl) (.bool _)).frame H
theorem CutSuffix_spec (s p : List UInt8) (hs : s.length < 4294967281) (H : AH) : ACalls PG strings_CutSuffix.n [.str s, .str p] H fun r H' => r = .tup [.str (Lib.trimSuffix s p), .bool (Lib.hasSuffix s p)] ∧ H' = H :=
  (ACalls.belowT (P := PG) (f := strings_CutSuffix.n) (args := [.str s, .str p]) (v := .tup [.str (Lib.trimSuffix s p), .bool (Lib.hasSuffix s p)]) (by kernel_rfl) fun w ρ Z xs ht hz hr => by
    obtain ⟨x, y, rfl, hx, hy⟩ := hr.two
    cases hx with
    | str _ a ha =>
    cases hy with
    | str _ b hb =>
    have := Any.strings_CutSuffix lays104 a b w (by rw [strB ha]; omega)
    rw [ha, hb] at this
    refine this.mono fun e w' ⟨h1, h2⟩ => ⟨_, h1, ?_, h2 ▸ Below.refl _ _⟩
    exact rl_tup2 (.str _ _ rfl) (.bool _)).frame H
theorem Itoa_spec (n : Int) (h0 : -9223372036854775808 ≤ n) (h1 : n ≤ 9223372036854775807) (H : AH) : ACalls PG strconv_Itoa.n [.int .i64 n] H fun r H' => r = .str (Lib.itoa n) ∧ H' = H :=
  (ACalls.belowT (P := PG) (f := strconv_Itoa.n) (args := [.int .i64 n]) (v := .str (Lib.itoa n)) (by kernel_rfl) fun w ρ Z xs ht hz hr => by
    obtain ⟨x, rfl, hx⟩ := hr.one
    cases hx
    refine (Any.strconv_Itoa lays171 n h0 h1 w (tab_is ht)).mono fun e w' ⟨h1, k, os, h2⟩ => ⟨_, h1, .str _ _ rfl, ?_⟩
    subst h2
    exact ⟨rfl, rfl, rfl, by rw [Go.Sort.size_grow]; exact Nat.le_add_right _ _, fun j hj => Go.Sort.heap_grow_old _ os hj⟩).frame H
theorem Split_spec (s p : List UInt8) (hs : s.length < 4294967281) (hp : 1 ≤ p.length) (H : AH) : ACalls PG strings_Split.n [.str s, .str p] H fun r H' => r = .rows 1 (joinRow (Lib.split s p)) ∧ H' = H :=
  (ACalls.belowN (P := PG) (f := strings_Split.n) (args := [.str s, .str p]) (v := .rows 1 (joinRow (Lib.split s p))) (by kernel_rfl) fun w ρ Z xs ht hz hr => by
    obtain ⟨x, y, rfl, hx, hy⟩ := hr.two
    cases hx with
    | str _ a ha =>
    cases hy with
    | str _ b hb =>
    obtain ⟨m, hm⟩ := max_is ht
    have := Any.strings_Split lays146 (by kernel_rfl) a b m w (by rw [strB ha]; exact hs) hm (by rw [strB hb]; exact hp)
    have hcn : Lib.countB a b = Lib.count s p := by subst ha; subst hb; rfl
    have hsp : (Lib.splitB b 0 (Lib.countB a b) a).map (·.data.toList) = Lib.split s p := by rw [Lib.splitB_data, hcn, ha, hb]; rfl
    have hlen := Lib.splitB_all b (by rw [strB hb]; exact hp) 0 _ a rfl
    generalize Lib.splitB b 0 (Lib.countB a b) a = L at *
    generalize Lib.countB a b = n at *
    refine this.mono fun e w' ⟨h1, h2⟩ => ⟨_, h1, ?_, ?_⟩
    · subst h2
      have hl : (joinRow (Lib.split s p)).length = n + 1 := by rw [← hsp, ← hlen]; simp [joinRow]
      have hat : ∀ (i : Nat) r (j : Nat) v, (joinRow (Lib.split s p))[i]? = some r → r[j]? = some v → ∃ u, L[i]? = some u ∧ j = 0 ∧ r = [.str u.data.toList] ∧ v = .str u.data.toList := fun i r j v q1 q2 => by
        rw [← hsp, joinRow, List.map_map, List.getElem?_map] at q1
        cases hu : L[i]? with
        | none => rw [hu] at q1; cases q1
        | some u =>
          rw [hu] at q1
          obtain rfl := (Option.some.inj q1).symm
          cases j with
          | zero => cases q2; exact ⟨u, rfl, rfl, rfl, rfl⟩
          | succ j => cases q2
      refine .rows 1 (joinRow (Lib.split s p)) w.heap.size 0 (n + 1) (n + 1) (fun i => (L.map Value.string).getD i (.bool false)) hl.symm (Nat.le_refl _) (fun _ => .inr ⟨Nat.le_refl _, ?_⟩) (fun i r q => ?_) (fun i r j v q1 q2 => ?_) (fun i r j v q1 q2 => ?_) (fun i r j v q1 q2 => ?_)
      · show w.heap.size < (w.heap.push _).size
        rw [Array.size_push]; exact Nat.lt_succ_self _
      · rw [← hsp, joinRow, List.map_map, List.getElem?_map] at q
        cases hu : L[i]? with
        | none => rw [hu] at q; cases q
        | some u => rw [hu] at q; obtain rfl := (Option.some.inj q).symm; rfl
      · obtain ⟨u, _, _, _, rfl⟩ := hat i r j v q1 q2
        rfl
      · obtain ⟨u, hu, rfl, _, _⟩ := hat i r j v q1 q2
        rw [← cell?_heap]
        rw [World.cell?_alloc_new]
        simp [hu, List.getD_eq_getElem?_getD]
      · obtain ⟨u, hu, rfl, _, rfl⟩ := hat i r j v q1 q2
        have : (L.map Value.string).getD (i * 1 + 0) (.bool false) = Value.string u := by simp [hu, List.getD_eq_getElem?_getD]
        show Rl _ _ _ _ ((L.map Value.string).getD (i * 1 + 0) (.bool false))
        rw [this]
        exact .str _ _ rfl
    · subst h2
      exact (Below.refl _ _).alloc (Nat.le_refl _) _).frame H
end Go.Proofs.YtlabklehgfdibaaDoor

/- The reference's bytes and digits, walked. -/
namespace Go.Proofs.YtlabklehgfdibaaDoor
set_option autoImplicit false
set_option linter.unusedSimpArgs false
set_option linter.unusedVariables false
attribute [local irreducible] callA callP ACalls
theorem r1_Byte_spec (n : Nat) (hn : n < 256) (H : AH) : ACalls PG broadsheetref01_Byte.n [.int .i64 (n : Nat)] H fun r H' => r = .str [UInt8.ofNat n] ∧ H' = H := by
  refine ACalls.fz (broadsheetref01_Byte.of rfl (wpF_start ?_))
  (first | refine au ?_ | exact au0 | fail)
  refine ⟨[[.int .u8 (n : Nat)]], [UInt8.ofNat n], rfl, ?_, ?_⟩
  · unfold bytesA
    rw [if_pos (by omega)]
    rfl
  (first | refine au ?_ | exact au0 | fail)
  exact ⟨fz_of, sub_of⟩
theorem dec_step (n : Nat) : Lib.decDigits n = (if n < 10 then [] else Lib.decDigits (n / 10)) ++ [UInt8.ofNat (48 + n % 10)] := by
  rw [Lib.decDigits]
  by_cases h : n < 10
  · rw [dif_pos h, if_pos h, Nat.mod_eq_of_lt h]; rfl
  · rw [dif_neg h, if_neg h]
theorem Digits_spec (n : Nat) (hn : n < 18446744073709551616) (H : AH) : ACalls PG broadsheetref08_Digits.n [.int .u64 (n : Nat)] H fun r H' => r = .str (dec n) ∧ H' = H := by
  rw [dec_eq hn]
  have hdl : (Lib.decDigits n).length ≤ 20 := by rw [← dec_eq hn]; exact dec_len n
  refine ACalls.fz (broadsheetref08_Digits.of rfl (wpF_start ?_))
  (first | refine au ?_ | exact au0 | fail)
  refine loopM (S := Nat × List UInt8) [] (fun s => [(0, some (.int .u64 (s.1 : Nat))), (3, some (.str s.2))]) (fun _ => H) (fun s => s.1) (fun s => s.1 ≤ n ∧ Lib.decDigits s.1 ++ s.2 = Lib.decDigits n) (n, []) (by repeat (first | exact trivial | refine And.intro (Or.inl rfl) ?_ | refine And.intro (Or.inr (Exists.intro _ (And.intro rfl (Fz.refl _)))) ?_ | refine And.intro (Or.inr (Exists.intro _ (And.intro rfl (fz_eq (congrArg (AV.int _) (by omega)))))) ?_ | refine And.intro (Or.inr (Exists.intro _ (And.intro rfl (fz_eq (congrArg (AV.own _ _ _) (by (try dsimp only); (try simp only [List.length_append, List.length_map, List.length_cons, List.length_nil, List.length_take, List.length_set, List.length_replicate]); (try dsimp only); first | done | omega)))))) ?_)) (Sub.refl _) ⟨Nat.le_refl _, by simp⟩ (fun s hs => ?_)
  obtain ⟨m, s⟩ := s
  obtain ⟨hm, hs⟩ := hs
  dsimp only at hm hs ⊢
  have hsl : s.length ≤ 20 := by rw [← hs, List.length_append] at hdl; omega
  rw [dec_step] at hs
  (first | refine au ?_ | exact au0 | fail)
  rw [show (48 : Int) + (m : Int) % 10 = ((48 + m % 10 : Nat) : Int) from by omega]
  first | refine callF_eq (r1_Byte_spec (48 + m % 10) (by omega) _) ?_ | refine callG_eq rfl (r1_Byte_spec (48 + m % 10) (by omega) _) ?_
  (first | refine au ?_ | exact au0 | fail)
  refine bsplit_dec (fun c => ?_) (fun c => ?_)
  · rw [if_pos (by omega), List.nil_append] at hs
    (first | refine au ?_ | exact au0 | fail)
    rw [hs]
    exact ⟨fz_of, sub_of⟩
  · rw [if_neg (by omega), List.append_assoc] at hs
    (first | refine au ?_ | exact au0 | fail)
    exact nextS (S := Nat × List UInt8) (m / 10, [UInt8.ofNat (48 + m % 10)] ++ s) (by repeat (first | exact trivial | refine And.intro (Or.inl rfl) ?_ | refine And.intro (Or.inr (Exists.intro _ (And.intro rfl (Fz.refl _)))) ?_ | refine And.intro (Or.inr (Exists.intro _ (And.intro rfl (fz_eq (congrArg (AV.int _) (by omega)))))) ?_ | refine And.intro (Or.inr (Exists.intro _ (And.intro rfl (fz_eq (congrArg (AV.own _ _ _) (by (try dsimp only); (try simp only [List.length_append, List.length_map, List.length_cons, List.length_nil, List.length_take, List.length_set, List.length_replicate]); (try dsimp only); first | done | omega)))))) ?_)) (Sub.refl _) (by dsimp only; omega) ⟨by dsimp only; omega, hs⟩
end Go.Proofs.YtlabklehgfdibaaDoor

/- Labels' texts, walked. -/
namespace Go.Proofs.YtlabklehgfdibaaDoor
set_option autoImplicit false
set_option linter.unusedSimpArgs false
set_option linter.unusedVariables false
attribute [local irreducible] callA callP ACalls
theorem itoa_dec (n : Nat) (h : n < 18446744073709551616) : Lib.itoa (n : Int) = dec n := by rw [Lib.itoa_nonneg, dec_eq h]
theorem decs_len : ∀ l : List Nat, (Lib.join (l.map dec) [44]).length ≤ 21 * l.length
  | [] => by simp [Lib.join_nil]
  | a :: l => by
    have : ∀ l : List Nat, (Lib.joinTail [44] (l.map dec)).length ≤ 21 * l.length := by
      intro l
      induction l with
      | nil => simp [Lib.joinTail]
      | cons b l ih =>
        have := dec_len b
        simp only [Lib.joinTail, List.map_cons, List.flatten_cons, List.length_append, List.length_cons, List.length_nil] at ih ⊢
        omega
    have h1 := this l
    have h2 := dec_len a
    rw [List.map_cons, Lib.join_cons, List.length_append, List.length_cons]; omega
theorem itoa_len (n : Int) (h0 : -9223372036854775808 ≤ n) (h1 : n ≤ 9223372036854775807) : (Lib.itoa n).length ≤ 21 := by
  by_cases h : n < 0
  · obtain ⟨u, rfl⟩ : ∃ u : Nat, n = -(u : Int) := ⟨n.natAbs, by omega⟩
    have := dec_len u
    rw [dec_eq (by omega)] at this
    rw [Lib.itoa_neg u (by omega), List.length_cons]; omega
  · obtain ⟨u, rfl⟩ : ∃ u : Nat, n = u := ⟨n.toNat, by omega⟩
    have := dec_len u
    rw [itoa_dec u (by omega)]; omega
theorem lab_Text_spec0 (lv : Int) (n : Nat) (h0 : -9223372036854775808 ≤ lv) (h1 : lv ≤ 9223372036854775807) (hn : n < 18446744073709551616) : ACalls PG label_Text.n [labA lv n] [] fun r _ => r = .str (labText lv n) := by
  refine ACalls.fzK (label_Text.of rfl (wpF_start ?_))
  (first | refine au ?_ | exact au0 | fail)
  intro id1 hid1 ht1; have n1 := neAll_of hid1; (try simp only [neAll, neAll_hset] at n1); have m1 := n1; (repeat (obtain ⟨_, m1⟩ := m1))
  (first | refine au ?_ | exact au0 | fail)
  refine loopM (S := Nat × Option Nat) [(1, some _)] (fun s => [(5, some (.int .i64 (s.1 : Nat))), (3, some (accV s.2 1 (catN n s.1).length))]) (fun s => accH s.2 1 (joinRow ((catN n s.1).map dec)) [(id1, .rows 2 [labR lv n])]) (fun s => 64 - s.1) (fun s => s.1 ≤ 64 ∧ (s.2 = none → catN n s.1 = []) ∧ ∀ id, s.2 = some id → tag id = ty_string ∧ id ≠ id1) (0, none) (by repeat (first | exact trivial | refine And.intro (Or.inl rfl) ?_ | refine And.intro (Or.inr (Exists.intro _ (And.intro rfl (Fz.refl _)))) ?_ | refine And.intro (Or.inr (Exists.intro _ (And.intro rfl (fz_eq (congrArg (AV.int _) (by omega)))))) ?_ | refine And.intro (Or.inr (Exists.intro _ (And.intro rfl (fz_eq (congrArg (AV.own _ _ _) (by (try dsimp only); (try simp only [List.length_append, List.length_map, List.length_cons, List.length_nil, List.length_take, List.length_set, List.length_replicate]); (try dsimp only); first | done | omega)))))) ?_)) (Sub.refl _) ⟨Nat.zero_le _, fun _ => rfl, fun id q => by cases q⟩ (fun ⟨i, o⟩ hs => ?_)
  dsimp only at hs
  obtain ⟨hi, ho1, ho2⟩ := hs
  have hjl : (joinRow ((catN n i).map dec)).length = (catN n i).length := by simp [joinRow]
  have hcl := catN_len n i
  have hcs := catN_succ n i
  rcases o with _ | ida
  · have hi0 := ho1 rfl
    dsimp only [accH, accV]
    (first | refine au ?_ | exact au0 | fail)
    refine bsplit_dec (fun cc => ?_) (fun cc => ?_)
    · have hil : i < 64 := by omega
      have hbv := bit_val (n := n) (i := i) hn hil
      (first | refine au ?_ | exact au0 | fail)
      rw [show decide (bitsV .and .u64 (Int.fdiv (n : Int) (2 ^ min (Int.toNat (i : Nat)) IntKind.u64.bits)) 1 = 1) = n.testBit i from hbv]
      cases hb : n.testBit i with
      | false =>
        rw [hb, if_neg (by decide)] at hcs
        (first | refine au ?_ | exact au0 | fail)
        refine nextS (S := Nat × Option Nat) (i + 1, none) (by (try dsimp only [accH, accV]); (try rw [hcs]); exact (by repeat (first | exact trivial | refine And.intro (Or.inl rfl) ?_ | refine And.intro (Or.inr (Exists.intro _ (And.intro rfl (Fz.refl _)))) ?_ | refine And.intro (Or.inr (Exists.intro _ (And.intro rfl (fz_eq (congrArg (AV.int _) (by omega)))))) ?_ | refine And.intro (Or.inr (Exists.intro _ (And.intro rfl (fz_eq (congrArg (AV.own _ _ _) (by (try dsimp only); (try simp only [List.length_append, List.length_map, List.length_cons, List.length_nil, List.length_take, List.length_set, List.length_replicate]); (try dsimp only); first | done | omega)))))) ?_))) (by (try dsimp only [accH, accV]); (try rw [hcs]); exact sub_of) (by dsimp only; omega) ⟨hil, (fun _ => by rw [hcs, hi0]), (fun j q => by cases q)⟩
      | true =>
        rw [hb, if_pos rfl] at hcs
        rw [hi0, List.nil_append] at hcs
        (first | refine au ?_ | exact au0 | fail)
        first | refine callF_eq (Itoa_spec (i : Nat) (by omega) (by omega) _) ?_ | refine callG_eq rfl (Itoa_spec (i : Nat) (by omega) (by omega) _) ?_
        rw [itoa_dec i (by omega)]
        (first | refine au ?_ | exact au0 | fail)
        refine ⟨_, rfl, (Nat.le_of_ble_eq_true rfl), (fun q => by cases q), fun _ => ?_⟩
        intro id19 hid19 ht19; have n19 := neAll_of hid19; (try simp only [neAll, neAll_hset] at n19); have m19 := n19; (repeat (obtain ⟨_, m19⟩ := m19))
        (first | refine au ?_ | exact au0 | fail)
        refine nextS (S := Nat × Option Nat) (i + 1, some id19) (by (try dsimp only [accH, accV]); (try rw [hcs]); exact (by repeat (first | exact trivial | refine And.intro (Or.inl rfl) ?_ | refine And.intro (Or.inr (Exists.intro _ (And.intro rfl (Fz.refl _)))) ?_ | refine And.intro (Or.inr (Exists.intro _ (And.intro rfl (fz_eq (congrArg (AV.int _) (by omega)))))) ?_ | refine And.intro (Or.inr (Exists.intro _ (And.intro rfl (fz_eq (congrArg (AV.own _ _ _) (by (try dsimp only); (try simp only [List.length_append, List.length_map, List.length_cons, List.length_nil, List.length_take, List.length_set, List.length_replicate]); (try dsimp only); first | done | omega)))))) ?_))) (by (try dsimp only [accH, accV]); (try rw [hcs]); (try rw [hjr]); exact sub_of) (by dsimp only; omega) ⟨hil, (fun q => by cases q), fun j q => by cases q; exact ⟨ht19, by omega⟩⟩
    · have hi : i = 64 := by omega
      subst hi
      have hdl := decs_len (catN n 64)
      have hil := itoa_len lv h0 h1
      (first | refine au ?_ | exact au0 | fail)
      first | refine callF_eq (Itoa_spec lv h0 h1 _) ?_ | refine callG_eq rfl (Itoa_spec lv h0 h1 _) ?_
      (first | refine au ?_ | exact au0 | fail)
      refine callF_fz (r := .str (Lib.join ((catN n 64).map dec) [44])) (args' := [.rows 1 (joinRow ((catN n 64).map dec)), .str [44]]) (.cons ?_ (.cons (.refl _) (.nil _ _))) rfl ((Join_spec ((catN n 64).map dec) [44] (by simp; omega) (by omega) []).mono fun r H' e => e.1) ?_
      · exact accFz (o := none) (n := (catN n 64).length) (l := joinRow ((catN n 64).map dec)) (by simp [joinRow]) (fun q => by rw [hi0]; rfl) (fun _ _ => rfl) (FzR.refl _ _ _) (by simp [joinRow])
      (first | refine au ?_ | exact au0 | fail)
      exact fz_of
  · obtain ⟨hti, hne⟩ := ho2 ida rfl
    dsimp only [accH, accV]
    (first | refine au ?_ | exact au0 | fail)
    refine bsplit_dec (fun cc => ?_) (fun cc => ?_)
    · have hil : i < 64 := by omega
      have hbv := bit_val (n := n) (i := i) hn hil
      (first | refine au ?_ | exact au0 | fail)
      rw [show decide (bitsV .and .u64 (Int.fdiv (n : Int) (2 ^ min (Int.toNat (i : Nat)) IntKind.u64.bits)) 1 = 1) = n.testBit i from hbv]
      cases hb : n.testBit i with
      | false =>
        rw [hb, if_neg (by decide)] at hcs
        (first | refine au ?_ | exact au0 | fail)
        refine nextS (S := Nat × Option Nat) (i + 1, some ida) (by (try dsimp only [accH, accV]); (try rw [hcs]); exact (by repeat (first | exact trivial | refine And.intro (Or.inl rfl) ?_ | refine And.intro (Or.inr (Exists.intro _ (And.intro rfl (Fz.refl _)))) ?_ | refine And.intro (Or.inr (Exists.intro _ (And.intro rfl (fz_eq (congrArg (AV.int _) (by omega)))))) ?_ | refine And.intro (Or.inr (Exists.intro _ (And.intro rfl (fz_eq (congrArg (AV.own _ _ _) (by (try dsimp only); (try simp only [List.length_append, List.length_map, List.length_cons, List.length_nil, List.length_take, List.length_set, List.length_replicate]); (try dsimp only); first | done | omega)))))) ?_))) (by (try dsimp only [accH, accV]); (try rw [hcs]); exact sub_of) (by dsimp only; omega) ⟨hil, (fun q => by cases q), (fun j q => by cases q; exact ⟨hti, hne⟩)⟩
      | true =>
        rw [hb, if_pos rfl] at hcs
        have hjr : joinRow ((catN n i ++ [i]).map dec) = joinRow ((catN n i).map dec) ++ [[.str (dec i)]] := by simp [joinRow]
        (first | refine au ?_ | exact au0 | fail)
        first | refine callF_eq (Itoa_spec (i : Nat) (by omega) (by omega) _) ?_ | refine callG_eq rfl (Itoa_spec (i : Nat) (by omega) (by omega) _) ?_
        rw [itoa_dec i (by omega)]
        (first | refine au ?_ | exact au0 | fail)
        refine ⟨_, _, readS_all (by exact hg_of) (by ((try dsimp only); (try simp only [List.length_append, List.length_map, List.length_cons, List.length_nil, List.length_take, List.length_set, List.length_replicate]); (try dsimp only); first | done | omega)), rfl, rfl, rfl, (hti), (by ((try dsimp only); (try simp only [List.length_append, List.length_map, List.length_cons, List.length_nil, List.length_take, List.length_set, List.length_replicate]); (try dsimp only); first | done | omega)), ?_⟩
        intro id19 hid19 ht19; have n19 := neAll_of hid19; (try simp only [neAll, neAll_hset] at n19); have m19 := n19; (repeat (obtain ⟨_, m19⟩ := m19))
        (first | refine au ?_ | exact au0 | fail)
        refine nextS (S := Nat × Option Nat) (i + 1, some id19) (by (try dsimp only [accH, accV]); (try rw [hcs]); exact (by repeat (first | exact trivial | refine And.intro (Or.inl rfl) ?_ | refine And.intro (Or.inr (Exists.intro _ (And.intro rfl (Fz.refl _)))) ?_ | refine And.intro (Or.inr (Exists.intro _ (And.intro rfl (fz_eq (congrArg (AV.int _) (by omega)))))) ?_ | refine And.intro (Or.inr (Exists.intro _ (And.intro rfl (fz_eq (congrArg (AV.own _ _ _) (by (try dsimp only); (try simp only [List.length_append, List.length_map, List.length_cons, List.length_nil, List.length_take, List.length_set, List.length_replicate]); (try dsimp only); first | done | omega)))))) ?_))) (by (try dsimp only [accH, accV]); (try rw [hcs]); (try rw [hjr]); exact sub_of) (by dsimp only; omega) ⟨hil, (fun q => by cases q), fun j q => by cases q; exact ⟨ht19, by omega⟩⟩
    · have hi : i = 64 := by omega
      subst hi
      have hdl := decs_len (catN n 64)
      have hil := itoa_len lv h0 h1
      (first | refine au ?_ | exact au0 | fail)
      first | refine callF_eq (Itoa_spec lv h0 h1 _) ?_ | refine callG_eq rfl (Itoa_spec lv h0 h1 _) ?_
      (first | refine au ?_ | exact au0 | fail)
      refine callF_fz (r := .str (Lib.join ((catN n 64).map dec) [44])) (args' := [.rows 1 (joinRow ((catN n 64).map dec)), .str [44]]) (.cons ?_ (.cons (.refl _) (.nil _ _))) rfl ((Join_spec ((catN n 64).map dec) [44] (by simp; omega) (by omega) []).mono fun r H' e => e.1) ?_
      · exact accFz (o := some ida) (n := (catN n 64).length) (l := joinRow ((catN n 64).map dec)) (by simp [joinRow]) (fun q => by cases q) (fun _ _ => rfl) (FzR.refl _ _ _) (by simp [joinRow])
      (first | refine au ?_ | exact au0 | fail)
      exact fz_of
theorem lab_Text_spec (lv : Int) (n : Nat) (h0 : -9223372036854775808 ≤ lv) (h1 : lv ≤ 9223372036854775807) (hn : n < 18446744073709551616) (H : AH) : ACalls PG label_Text.n [labA lv n] H fun r H' => r = .str (labText lv n) ∧ H' = H := (lab_Text_spec0 lv n h0 h1 hn).frame H
end Go.Proofs.YtlabklehgfdibaaDoor

/- Labels in the reference, walked. -/
namespace Go.Proofs.YtlabklehgfdibaaDoor
set_option autoImplicit false
set_option linter.unusedSimpArgs false
set_option linter.unusedVariables false
attribute [local irreducible] callA callP ACalls
def boolRow (l : List Bool) : List (List AV) := l.map fun b => [.bool b]
theorem boolRow_len (l : List Bool) : (boolRow l).length = l.length := by simp [boolRow]
theorem boolRow_mid {L : List Bool} {sz i : Nat} (hL : L.length = sz) (hi : i < sz) : (boolRow (L.take i ++ List.replicate (sz - i) false))[i]? = some [.bool false] := by
  unfold boolRow
  rw [List.getElem?_map, List.getElem?_append_right (by simp; omega), List.getElem?_replicate]
  simp
  omega
theorem boolRow_set {L : List Bool} {sz i : Nat} (hL : L.length = sz) (hi : i < sz) : (boolRow (L.take i ++ List.replicate (sz - i) false)).set i [.bool (L[i]'(by omega))] = boolRow (L.take (i + 1) ++ List.replicate (sz - (i + 1)) false) := by
  unfold boolRow
  rw [show sz - i = (sz - (i + 1)) + 1 from by omega, List.replicate_succ, List.take_succ_eq_append_getElem (by omega : i < L.length)]
  simp only [List.map_append, List.map_cons, List.append_assoc, List.map_nil]
  rw [List.set_append_right _ _ (by simp; omega)]
  simp [show i - min i L.length = 0 from by omega]
theorem r23_May_spec (lv : Int) (n : Nat) (H : AH) : ACalls PG broadsheetref23_May.n [labA lv n] H fun r H' => r = .bool (mayL lv) ∧ H' = H := by
  refine ACalls.fz (broadsheetref23_May.of rfl (wpF_start ?_))
  unfold mayL
  (first | refine au ?_ | exact au0 | fail)
  intro id1 hid1 ht1; have n1 := neAll_of hid1; (try simp only [neAll, neAll_hset] at n1); have m1 := n1; (repeat (obtain ⟨_, m1⟩ := m1))
  (first | refine au ?_ | exact au0 | fail)
  (repeat' (first | (refine au ?_; first | refine bsplit_dec (fun _ => ?_) (fun _ => ?_) | refine bsplit_intro (fun _ => ?_) (fun _ => ?_)) | exact au0 | fail)); (all_goals try (first | refine au ?_ | fail))
  all_goals exact ⟨fz_eq (congrArg AV.bool (by first | exact (decide_eq_true (by omega)).symm | exact (decide_eq_false (by omega)).symm | exact decide_eq_decide.2 (by omega))), sub_of⟩
theorem Cats_spec (lv : Int) (n : Nat) (hn : n < 18446744073709551616) (H : AH) : ACalls PG broadsheetref23_Cats.n [labA lv n] H fun r H' => ∃ id id1 b, r = .own id 1 0 64 ∧ hget ((id1, b) :: H) id = none ∧ hget H id1 = none ∧ tag id = ty_bool ∧ H' = (id, .rows 1 (boolRow (catsL n))) :: (id1, b) :: H := by
  refine broadsheetref23_Cats.of rfl (wpF_start ?_)
  (first | refine au ?_ | exact au0 | fail)
  intro id1 hid1 ht1; have n1 := neAll_of hid1; (try simp only [neAll, neAll_hset] at n1); have m1 := n1; (repeat (obtain ⟨_, m1⟩ := m1))
  (first | refine au ?_ | exact au0 | fail)
  intro id6 hid6 ht6; have n6 := neAll_of hid6; (try simp only [neAll, neAll_hset] at n6); have m6 := n6; (repeat (obtain ⟨_, m6⟩ := m6))
  (first | refine au ?_ | exact au0 | fail)
  have hL := catsL_len n
  refine loopM (S := Nat) [(3, some _)] (fun i => [(5, some (.int .i64 (i : Nat))), (4, some (.int .u64 (n / 2 ^ i : Nat)))]) (fun i => (id6, .rows 1 (boolRow ((catsL n).take i ++ List.replicate (64 - i) false))) :: (id1, .rows 2 [labR lv n]) :: H) (fun i => 64 - i) (fun i => i ≤ 64) 0 (by simp only [Nat.pow_zero, Nat.div_one]; exact (by repeat (first | exact trivial | refine And.intro (Or.inl rfl) ?_ | refine And.intro (Or.inr (Exists.intro _ (And.intro rfl (Fz.refl _)))) ?_ | refine And.intro (Or.inr (Exists.intro _ (And.intro rfl (fz_eq (congrArg (AV.int _) (by omega)))))) ?_ | refine And.intro (Or.inr (Exists.intro _ (And.intro rfl (fz_eq (congrArg (AV.own _ _ _) (by (try dsimp only); (try simp only [List.length_append, List.length_map, List.length_cons, List.length_nil, List.length_take, List.length_set, List.length_replicate]); (try dsimp only); first | done | omega)))))) ?_))) (by simp only [boolRow, List.take_zero, List.nil_append, List.map_replicate]; exact Sub.refl _) (by omega) (fun i hi => ?_)
  have hdl : n / 2 ^ i ≤ n := Nat.div_le_self _ _
  have hps : n / 2 ^ (i + 1) = n / 2 ^ i / 2 := by rw [Nat.pow_succ, Nat.div_div_eq_div_mul]
  have hbt : n.testBit i = decide (n / 2 ^ i % 2 = 1) := testBit_div n i
  dsimp only
  generalize n / 2 ^ i = q at *
  (first | refine au ?_ | exact au0 | fail)
  refine bsplit_dec (fun c => ?_) (fun c => ?_)
  · have hil : i < 64 := by omega
    have hst := boolRow_set (L := catsL n) (sz := 64) (i := i) hL hil
    have hmid := boolRow_mid (L := catsL n) (sz := 64) (i := i) hL hil
    rw [catsL_get, hbt] at hst
    (first | refine au ?_ | exact au0 | fail)
    rw [show decide (Int.tmod (q : Int) 2 = 1) = decide (q % 2 = 1) from decide_eq_decide.2 (by rw [show Int.tmod (q : Int) 2 = ((q % 2 : Nat) : Int) from rfl]; omega)]
    refine ⟨_, _, hget_self, (by rw [Nat.zero_add, Int.toNat_natCast]; exact hmid), rfl, rfl, (Nat.le_of_ble_eq_true rfl), hsetN_of (b' := .rows 1 (boolRow ((catsL n).take (i + 1) ++ List.replicate (64 - (i + 1)) false))) (by rw [Nat.zero_add, Int.toNat_natCast]; exact congrArg (Blk.rows 1) hst) ?_⟩
    (first | refine au ?_ | exact au0 | fail)
    exact nextS (S := Nat) (i + 1) (by rw [hps]; exact (by repeat (first | exact trivial | refine And.intro (Or.inl rfl) ?_ | refine And.intro (Or.inr (Exists.intro _ (And.intro rfl (Fz.refl _)))) ?_ | refine And.intro (Or.inr (Exists.intro _ (And.intro rfl (fz_eq (congrArg (AV.int _) (by omega)))))) ?_ | refine And.intro (Or.inr (Exists.intro _ (And.intro rfl (fz_eq (congrArg (AV.own _ _ _) (by (try dsimp only); (try simp only [List.length_append, List.length_map, List.length_cons, List.length_nil, List.length_take, List.length_set, List.length_replicate]); (try dsimp only); first | done | omega)))))) ?_))) (by exact sub_of) (by omega) (by omega)
  · have hi' : i = 64 := by omega
    subst hi'
    (first | refine au ?_ | exact au0 | fail)
    refine ⟨id6, id1, _, rfl, hid6, hid1, ht6, ?_⟩
    rw [Nat.sub_self, List.replicate_zero, List.append_nil, List.take_of_length_le (by omega)]
    rfl
theorem boolRow_w (l : List Bool) : ∀ r ∈ boolRow l, r.length = 1 := fun r h => by
  obtain ⟨b, _, rfl⟩ := List.mem_map.1 h
  rfl
theorem Cats_rows (lv : Int) (n : Nat) (hn : n < 18446744073709551616) (H : AH) : ACalls PG broadsheetref23_Cats.n [labA lv n] H fun r H' => r = .rows 1 (boolRow (catsL n)) ∧ H' = H :=
  (Cats_spec lv n hn H).freeze fun r H' ⟨id, id1, b, e, h1, h2, _, e2⟩ => ⟨.rows 1 (boolRow (catsL n)), H, by rw [e2]; exact Sub.skip (Sub.skip (Sub.refl _) h2) h1, by
    rw [e, e2]
    exact accFz (o := some id) (n := 64) (l := boolRow (catsL n)) (by rw [boolRow_len, catsL_len]) (fun q => by cases q) (fun i q => by cases q; exact (hget_fresh h1).2) (FzR.refl _ _ _) (boolRow_w _), rfl, rfl⟩
theorem boolRow_get {l : List Bool} {i : Nat} (h : i < l.length) : (boolRow l).getD (Int.toNat (i : Nat)) [] = [.bool l[i]] := row_get (f := fun b => [AV.bool b]) h
theorem of_spec0 (lv : Int) (l : List Bool) (hl : l.length = 64) : ACalls PG broadsheetref23_of.n [.int .i64 lv, .rows 1 (boolRow l)] [] fun r _ => r = labA lv (ofB l) := by
  have hbl := boolRow_len l
  refine ACalls.fzK (broadsheetref23_of.of rfl (wpF_start ?_))
  (first | refine au ?_ | exact au0 | fail)
  intro id4 hid4 ht4; have n4 := neAll_of hid4; (try simp only [neAll, neAll_hset] at n4); have m4 := n4; (repeat (obtain ⟨_, m4⟩ := m4))
  (first | refine au ?_ | exact au0 | fail)
  intro id5 hid5 ht5; have n5 := neAll_of hid5; (try simp only [neAll, neAll_hset] at n5); have m5 := n5; (repeat (obtain ⟨_, m5⟩ := m5))
  (first | refine au ?_ | exact au0 | fail)
  refine loopM (S := Nat) [(1, some _), (4, some _), (5, some _)] (fun j => [(6, some (.int .i64 ((j : Int) - 1)))]) (fun j => [(id5, .rows 2 [labR lv (ofB (l.drop j))]), (id4, .rows 2 [[.int .i64 0, .int .u64 0]])]) (fun j => j) (fun j => j ≤ 64) 64 (by repeat (first | exact trivial | refine And.intro (Or.inl rfl) ?_ | refine And.intro (Or.inr (Exists.intro _ (And.intro rfl (Fz.refl _)))) ?_ | refine And.intro (Or.inr (Exists.intro _ (And.intro rfl (fz_eq (congrArg (AV.int _) (by omega)))))) ?_ | refine And.intro (Or.inr (Exists.intro _ (And.intro rfl (fz_eq (congrArg (AV.own _ _ _) (by (try dsimp only); (try simp only [List.length_append, List.length_map, List.length_cons, List.length_nil, List.length_take, List.length_set, List.length_replicate]); (try dsimp only); first | done | omega)))))) ?_)) (by rw [List.drop_of_length_le (by omega)]; exact Sub.refl _) (by omega) (fun j hj => ?_)
  (first | refine au ?_ | exact au0 | fail)
  refine bsplit_dec (fun c => ?_) (fun c => ?_)
  · obtain ⟨i, rfl⟩ : ∃ i, j = i + 1 := ⟨j - 1, by omega⟩
    have hil : i < l.length := by omega
    have hg := boolRow_get hil
    have ht := ofB_take l i hil
    have hlt := ofB_lt (l.drop (i + 1))
    have hp : 2 ^ (l.drop (i + 1)).length ≤ 2 ^ 63 := Nat.pow_le_pow_right (by decide) (by rw [List.length_drop]; omega)
    generalize ofB (l.drop (i + 1)) = m at *
    generalize l[i] = b at *
    (first | refine au ?_ | exact au0 | fail)
    rw [show (((i + 1 : Nat) : Int) - 1).toNat = Int.toNat (i : Nat) from by omega, hg]
    cases b
    · (first | refine au ?_ | exact au0 | fail)
      exact nextS (S := Nat) i (by repeat (first | exact trivial | refine And.intro (Or.inl rfl) ?_ | refine And.intro (Or.inr (Exists.intro _ (And.intro rfl (Fz.refl _)))) ?_ | refine And.intro (Or.inr (Exists.intro _ (And.intro rfl (fz_eq (congrArg (AV.int _) (by omega)))))) ?_ | refine And.intro (Or.inr (Exists.intro _ (And.intro rfl (fz_eq (congrArg (AV.own _ _ _) (by (try dsimp only); (try simp only [List.length_append, List.length_map, List.length_cons, List.length_nil, List.length_take, List.length_set, List.length_replicate]); (try dsimp only); first | done | omega)))))) ?_)) (by rw [ht]; simp only [Bool.toNat_false, Nat.add_zero, Nat.mul_comm 2 m, Int.natCast_mul]; exact sub_of) (by omega) (by omega)
    · (first | refine au ?_ | exact au0 | fail)
      exact nextS (S := Nat) i (by repeat (first | exact trivial | refine And.intro (Or.inl rfl) ?_ | refine And.intro (Or.inr (Exists.intro _ (And.intro rfl (Fz.refl _)))) ?_ | refine And.intro (Or.inr (Exists.intro _ (And.intro rfl (fz_eq (congrArg (AV.int _) (by omega)))))) ?_ | refine And.intro (Or.inr (Exists.intro _ (And.intro rfl (fz_eq (congrArg (AV.own _ _ _) (by (try dsimp only); (try simp only [List.length_append, List.length_map, List.length_cons, List.length_nil, List.length_take, List.length_set, List.length_replicate]); (try dsimp only); first | done | omega)))))) ?_)) (by rw [ht]; simp only [Bool.toNat_true, Nat.mul_comm 2 m, Int.natCast_mul, Int.natCast_add]; exact sub_of) (by omega) (by omega)
  · have : j = 0 := by omega
    subst this
    (first | refine au ?_ | exact au0 | fail)
    exact fz_of
end Go.Proofs.YtlabklehgfdibaaDoor

/- Labels in the reference, walked: how they stand, what they come to, their texts. -/
namespace Go.Proofs.YtlabklehgfdibaaDoor
set_option autoImplicit false
set_option linter.unusedSimpArgs false
set_option linter.unusedVariables false
attribute [local irreducible] callA callP ACalls
theorem r23_Leq_spec0 (la : Int) (a : Nat) (lb : Int) (b : Nat) (ha : a < 18446744073709551616) (hb : b < 18446744073709551616) : ACalls PG broadsheetref23_Leq.n [labA la a, labA lb b] [] fun r _ => r = .bool (decide (la ≤ lb) && subB a b) := by
  have hca := catsL_len a
  have hcb := catsL_len b
  have hra := boolRow_len (catsL a)
  have hrb := boolRow_len (catsL b)
  refine ACalls.fzK (broadsheetref23_Leq.of rfl (wpF_start ?_))
  (first | refine au ?_ | exact au0 | fail)
  intro id2 hid2 ht2; have n2 := neAll_of hid2; (try simp only [neAll, neAll_hset] at n2); have m2 := n2; (repeat (obtain ⟨_, m2⟩ := m2))
  (first | refine au ?_ | exact au0 | fail)
  intro id3 hid3 ht3; have n3 := neAll_of hid3; (try simp only [neAll, neAll_hset] at n3); have m3 := n3; (repeat (obtain ⟨_, m3⟩ := m3))
  (first | refine au ?_ | exact au0 | fail)
  first | refine callF_eq (Cats_rows la a ha _) ?_ | refine callG_eq rfl (Cats_rows la a ha _) ?_
  (first | refine au ?_ | exact au0 | fail)
  first | refine callF_eq (Cats_rows lb b hb _) ?_ | refine callG_eq rfl (Cats_rows lb b hb _) ?_
  (first | refine au ?_ | exact au0 | fail)
  refine loopM (S := Nat) [(2, some _), (3, some _), (5, some _), (6, some _)] (fun i => [(7, some (.int .i64 (i : Nat)))]) (fun _ => _) (fun i => 64 - i) (fun i => i ≤ 64 ∧ ∀ j, j < i → a.testBit j = true → b.testBit j = true) 0 (by repeat (first | exact trivial | refine And.intro (Or.inl rfl) ?_ | refine And.intro (Or.inr (Exists.intro _ (And.intro rfl (Fz.refl _)))) ?_ | refine And.intro (Or.inr (Exists.intro _ (And.intro rfl (fz_eq (congrArg (AV.int _) (by omega)))))) ?_ | refine And.intro (Or.inr (Exists.intro _ (And.intro rfl (fz_eq (congrArg (AV.own _ _ _) (by (try dsimp only); (try simp only [List.length_append, List.length_map, List.length_cons, List.length_nil, List.length_take, List.length_set, List.length_replicate]); (try dsimp only); first | done | omega)))))) ?_)) (Sub.refl _) ⟨by omega, fun j h => by omega⟩ (fun i hi => ?_)
  obtain ⟨hi, hs⟩ := hi
  (first | refine au ?_ | exact au0 | fail)
  refine bsplit_dec (fun c => ?_) (fun c => ?_)
  · have hil : i < 64 := by omega
    have hga := boolRow_get (l := catsL a) (i := i) (by omega)
    have hgb := boolRow_get (l := catsL b) (i := i) (by omega)
    rw [catsL_get] at hga hgb
    (first | refine au ?_ | exact au0 | fail)
    rw [hga]
    cases hxa : a.testBit i
    · (first | refine au ?_ | exact au0 | fail)
      exact nextS (S := Nat) (i + 1) (by repeat (first | exact trivial | refine And.intro (Or.inl rfl) ?_ | refine And.intro (Or.inr (Exists.intro _ (And.intro rfl (Fz.refl _)))) ?_ | refine And.intro (Or.inr (Exists.intro _ (And.intro rfl (fz_eq (congrArg (AV.int _) (by omega)))))) ?_ | refine And.intro (Or.inr (Exists.intro _ (And.intro rfl (fz_eq (congrArg (AV.own _ _ _) (by (try dsimp only); (try simp only [List.length_append, List.length_map, List.length_cons, List.length_nil, List.length_take, List.length_set, List.length_replicate]); (try dsimp only); first | done | omega)))))) ?_)) sub_of (by omega) ⟨hil, fun j h q => (Nat.lt_succ_iff_lt_or_eq.1 h).elim (fun h => hs j h q) fun h => by rw [h, hxa] at q; cases q⟩
    · (first | refine au ?_ | exact au0 | fail)
      rw [hgb]
      cases hxb : b.testBit i
      · (first | refine au ?_ | exact au0 | fail)
        have : subB a b = false := by
          cases hq : subB a b with
          | false => rfl
          | true =>
            have := (subB_iff a b).1 hq i hil hxa
            rw [hxb] at this; cases this
        rw [this, Bool.and_false]
        exact fz_of
      · (first | refine au ?_ | exact au0 | fail)
        exact nextS (S := Nat) (i + 1) (by repeat (first | exact trivial | refine And.intro (Or.inl rfl) ?_ | refine And.intro (Or.inr (Exists.intro _ (And.intro rfl (Fz.refl _)))) ?_ | refine And.intro (Or.inr (Exists.intro _ (And.intro rfl (fz_eq (congrArg (AV.int _) (by omega)))))) ?_ | refine And.intro (Or.inr (Exists.intro _ (And.intro rfl (fz_eq (congrArg (AV.own _ _ _) (by (try dsimp only); (try simp only [List.length_append, List.length_map, List.length_cons, List.length_nil, List.length_take, List.length_set, List.length_replicate]); (try dsimp only); first | done | omega)))))) ?_)) sub_of (by omega) ⟨hil, fun j h q => (Nat.lt_succ_iff_lt_or_eq.1 h).elim (fun h => hs j h q) fun h => by rw [h]; exact hxb⟩
  · have hq : subB a b = true := (subB_iff a b).2 fun j h q => hs j (by omega) q
    (first | refine au ?_ | exact au0 | fail)
    rw [hq, Bool.and_true]
    exact fz_of
theorem Signed_spec (n : Int) (h0 : -9223372036854775808 ≤ n) (h1 : n ≤ 9223372036854775807) (H : AH) : ACalls PG broadsheetref20_Signed.n [.int .i64 n] H fun r H' => r = .str (Lib.itoa n) ∧ H' = H := by
  have hil := itoa_len n h0 h1
  refine ACalls.fz (broadsheetref20_Signed.of rfl (wpF_start ?_))
  (first | refine au ?_ | exact au0 | fail)
  refine bsplit_dec (fun c => ?_) (fun c => ?_)
  · obtain ⟨u, rfl⟩ : ∃ u : Nat, n = -(u : Int) := ⟨n.natAbs, by omega⟩
    have hdl := dec_len u
    rw [Lib.itoa_neg u (by omega), ← dec_eq (by omega)]
    (first | refine au ?_ | exact au0 | fail)
    refine rng_id (n := (u : Int) - 1) (by rw [show IntKind.i64.wrap (0 - (-(u : Int) + 1)) = (u : Int) - 1 from (wrap_id (by omega) (by omega)).trans (by omega), wrapU]; omega) ?_
    (first | refine au ?_ | exact au0 | fail)
    rw [show (u : Int) - 1 + 1 = (u : Nat) from by omega]
    first | refine callF_eq (Digits_spec u (by omega) _) ?_ | refine callG_eq rfl (Digits_spec u (by omega) _) ?_
    (first | refine au ?_ | exact au0 | fail)
    exact ⟨fz_of, sub_of⟩
  · obtain ⟨u, rfl⟩ : ∃ u : Nat, n = u := ⟨n.toNat, by omega⟩
    rw [itoa_dec u (by omega)]
    (first | refine au ?_ | exact au0 | fail)
    first | refine callF_eq (Digits_spec u (by omega) _) ?_ | refine callG_eq rfl (Digits_spec u (by omega) _) ?_
    (first | refine au ?_ | exact au0 | fail)
    exact ⟨fz_of, sub_of⟩
theorem zip_len {f : Bool → Bool → Bool} (a b : Nat) : (List.zipWith f (catsL a) (catsL b)).length = 64 := by simp [catsL]
theorem zip_get {f : Bool → Bool → Bool} (a b i : Nat) (h : i < (List.zipWith f (catsL a) (catsL b)).length) : (List.zipWith f (catsL a) (catsL b))[i] = f (a.testBit i) (b.testBit i) := by simp [catsL]
/-- The first i done. -/
def mixL (f : Bool → Bool → Bool) (a b i : Nat) : List Bool := (List.zipWith f (catsL a) (catsL b)).take i ++ (catsL a).drop i
theorem mixL_len (f : Bool → Bool → Bool) (a b i : Nat) (h : i ≤ 64) : (mixL f a b i).length = 64 := by
  simp only [mixL, List.length_append, List.length_take, List.length_drop, zip_len, catsL_len]; omega
theorem mixL_get (f : Bool → Bool → Bool) (a b i : Nat) (h : i < 64) (h2 : i < (mixL f a b i).length) : (mixL f a b i)[i] = a.testBit i := by
  simp only [mixL]
  rw [List.getElem_append_right (by rw [List.length_take, zip_len]; omega)]
  simp [catsL, h, List.length_take, zip_len, show i + (i - min i 64) = i from by omega]
theorem mixL_set (f : Bool → Bool → Bool) (a b i : Nat) (h : i < 64) : (boolRow (mixL f a b i)).set i [.bool (f (a.testBit i) (b.testBit i))] = boolRow (mixL f a b (i + 1)) := by
  have hz : i < (List.zipWith f (catsL a) (catsL b)).length := by rw [zip_len]; exact h
  unfold boolRow
  rw [← List.map_set]
  congr 1
  unfold mixL
  rw [List.set_append_right _ _ (by rw [List.length_take, zip_len]; omega), List.length_take, zip_len, show i - min i 64 = 0 from by omega, List.drop_eq_getElem_cons (by rw [catsL_len]; exact h), List.set_cons_zero, List.take_succ_eq_append_getElem hz, zip_get, List.append_assoc]
  rfl
theorem mixL_all (f : Bool → Bool → Bool) (a b : Nat) : mixL f a b 64 = List.zipWith f (catsL a) (catsL b) := by
  unfold mixL
  rw [List.take_of_length_le (by rw [zip_len]; omega), List.drop_of_length_le (by rw [catsL_len]; omega), List.append_nil]
theorem r23_Join_spec0 (la : Int) (a : Nat) (lb : Int) (b : Nat) (ha : a < 18446744073709551616) (hb : b < 18446744073709551616) : ACalls PG broadsheetref23_Join.n [labA la a, labA lb b] [] fun r _ => r = labA (max la lb) (a ||| b) := by
  have hrb := boolRow_len (catsL b)
  have hcb := catsL_len b
  refine ACalls.fzK (broadsheetref23_Join.of rfl (wpF_start ?_))
  (first | refine au ?_ | exact au0 | fail)
  intro id2 hid2 ht2; have n2 := neAll_of hid2; (try simp only [neAll, neAll_hset] at n2); have m2 := n2; (repeat (obtain ⟨_, m2⟩ := m2))
  (first | refine au ?_ | exact au0 | fail)
  intro id3 hid3 ht3; have n3 := neAll_of hid3; (try simp only [neAll, neAll_hset] at n3); have m3 := n3; (repeat (obtain ⟨_, m3⟩ := m3))
  (first | refine au ?_ | exact au0 | fail)
  intro id4 hid4 ht4; have n4 := neAll_of hid4; (try simp only [neAll, neAll_hset] at n4); have m4 := n4; (repeat (obtain ⟨_, m4⟩ := m4))
  (first | refine au ?_ | exact au0 | fail)
  refine callF_of ((Cats_spec la a ha _).mono fun r H1 ⟨id8, id9, bk, e, hid8, hid9, ht8, eH⟩ => ?_)
  subst e
  subst eH
  have n9 := neAll_of hid9
  have n8 := neAll_of hid8
  simp only [neAll] at n9 n8
  obtain ⟨_, _, _, _⟩ := n9
  obtain ⟨_, _, _, _, _⟩ := n8
  (first | refine au ?_ | exact au0 | fail)
  first | refine callF_eq (Cats_rows lb b hb _) ?_ | refine callG_eq rfl (Cats_rows lb b hb _) ?_
  (first | refine au ?_ | exact au0 | fail)
  refine loopM (S := Nat) [(2, some _), (3, some _), (4, some _), (5, some _), (6, some _)] (fun i => [(7, some (.int .i64 (i : Nat)))]) (fun i => (id8, .rows 1 (boolRow (mixL (· || ·) a b i))) :: (id9, bk) :: (id4, .rows 2 [[.int .i64 0, .int .u64 0]]) :: (id3, .rows 2 [labR lb b]) :: (id2, .rows 2 [labR la a]) :: []) (fun i => 64 - i) (fun i => i ≤ 64) 0 (by repeat (first | exact trivial | refine And.intro (Or.inl rfl) ?_ | refine And.intro (Or.inr (Exists.intro _ (And.intro rfl (Fz.refl _)))) ?_ | refine And.intro (Or.inr (Exists.intro _ (And.intro rfl (fz_eq (congrArg (AV.int _) (by omega)))))) ?_ | refine And.intro (Or.inr (Exists.intro _ (And.intro rfl (fz_eq (congrArg (AV.own _ _ _) (by (try dsimp only); (try simp only [List.length_append, List.length_map, List.length_cons, List.length_nil, List.length_take, List.length_set, List.length_replicate]); (try dsimp only); first | done | omega)))))) ?_)) (by rw [show mixL (· || ·) a b 0 = catsL a from by simp [mixL]]; exact Sub.refl _) (by omega) (fun i hi => ?_)
  have hml := mixL_len (· || ·) a b i hi
  have hmr := boolRow_len (mixL (· || ·) a b i)
  (first | refine au ?_ | exact au0 | fail)
  refine bsplit_dec (fun c => ?_) (fun c => ?_)
  · have hil : i < 64 := by omega
    have hga := boolRow_get (l := mixL (· || ·) a b i) (i := i) (by omega)
    have hgb := boolRow_get (l := catsL b) (i := i) (by omega)
    have hst := mixL_set (· || ·) a b i hil
    rw [mixL_get _ _ _ _ hil] at hga
    rw [catsL_get] at hgb
    have hgm : (boolRow (mixL (· || ·) a b i))[i]? = some [.bool (a.testBit i)] := by
      have hlt : i < (mixL (· || ·) a b i).length := by omega
      unfold boolRow
      rw [List.getElem?_map, List.getElem?_eq_getElem hlt, mixL_get _ _ _ _ hil]
      rfl
    (first | refine au ?_ | exact au0 | fail)
    refine ⟨_, _, hget_self, (by rw [Nat.zero_add, Int.toNat_natCast]; exact hgm), ?_⟩
    cases hxa : a.testBit i
    · rw [hxa] at hst
      (first | refine au ?_ | exact au0 | fail)
      rw [hgb]
      (first | refine au ?_ | exact au0 | fail)
      refine ⟨_, _, hget_self, (by rw [Nat.zero_add, Int.toNat_natCast]; exact hgm), rfl, rfl, (Nat.le_of_ble_eq_true rfl), hsetN_of (b' := .rows 1 (boolRow (mixL (· || ·) a b (i + 1)))) (by rw [Nat.zero_add, Int.toNat_natCast]; exact congrArg (Blk.rows 1) hst) ?_⟩
      (first | refine au ?_ | exact au0 | fail)
      exact nextS (S := Nat) (i + 1) (by repeat (first | exact trivial | refine And.intro (Or.inl rfl) ?_ | refine And.intro (Or.inr (Exists.intro _ (And.intro rfl (Fz.refl _)))) ?_ | refine And.intro (Or.inr (Exists.intro _ (And.intro rfl (fz_eq (congrArg (AV.int _) (by omega)))))) ?_ | refine And.intro (Or.inr (Exists.intro _ (And.intro rfl (fz_eq (congrArg (AV.own _ _ _) (by (try dsimp only); (try simp only [List.length_append, List.length_map, List.length_cons, List.length_nil, List.length_take, List.length_set, List.length_replicate]); (try dsimp only); first | done | omega)))))) ?_)) (by exact sub_of) (by omega) hil
    · rw [hxa] at hst
      (first | refine au ?_ | exact au0 | fail)
      refine ⟨_, _, hget_self, (by rw [Nat.zero_add, Int.toNat_natCast]; exact hgm), rfl, rfl, (Nat.le_of_ble_eq_true rfl), hsetN_of (b' := .rows 1 (boolRow (mixL (· || ·) a b (i + 1)))) (by rw [Nat.zero_add, Int.toNat_natCast]; exact congrArg (Blk.rows 1) hst) ?_⟩
      (first | refine au ?_ | exact au0 | fail)
      exact nextS (S := Nat) (i + 1) (by repeat (first | exact trivial | refine And.intro (Or.inl rfl) ?_ | refine And.intro (Or.inr (Exists.intro _ (And.intro rfl (Fz.refl _)))) ?_ | refine And.intro (Or.inr (Exists.intro _ (And.intro rfl (fz_eq (congrArg (AV.int _) (by omega)))))) ?_ | refine And.intro (Or.inr (Exists.intro _ (And.intro rfl (fz_eq (congrArg (AV.own _ _ _) (by (try dsimp only); (try simp only [List.length_append, List.length_map, List.length_cons, List.length_nil, List.length_take, List.length_set, List.length_replicate]); (try dsimp only); first | done | omega)))))) ?_)) (by exact sub_of) (by omega) hil
  · have : i = 64 := by omega
    subst this
    have hz : mixL (· || ·) a b 64 = List.zipWith (· || ·) (catsL a) (catsL b) := mixL_all _ a b
    have hof := fun lv => of_spec0 lv (List.zipWith (· || ·) (catsL a) (catsL b)) (zip_len a b)
    rw [ofB_or ha hb] at hof
    rw [hz]
    (first | refine au ?_ | exact au0 | fail)
    refine bsplit_dec (fun c => ?_) (fun c => ?_)
    · rw [show max la lb = la from by omega]
      (first | refine au ?_ | exact au0 | fail)
      refine callF_fz (r := labA la (a ||| b)) (args' := [.int .i64 la, .rows 1 (boolRow (List.zipWith (· || ·) (catsL a) (catsL b)))]) (.cons (.refl _) (.cons ?_ (.nil _ _))) rfl (hof la) ?_
      · exact accFz (o := some id8) (n := 64) (l := boolRow (List.zipWith (· || ·) (catsL a) (catsL b))) (by rw [boolRow_len, zip_len]) (fun q => by cases q) (fun _ _ => rfl) (FzR.refl _ _ _) (boolRow_w _)
      (first | refine au ?_ | exact au0 | fail)
      exact fz_of
    · rw [show max la lb = lb from by omega]
      (first | refine au ?_ | exact au0 | fail)
      refine callF_fz (r := labA lb (a ||| b)) (args' := [.int .i64 lb, .rows 1 (boolRow (List.zipWith (· || ·) (catsL a) (catsL b)))]) (.cons (.refl _) (.cons ?_ (.nil _ _))) rfl (hof lb) ?_
      · exact accFz (o := some id8) (n := 64) (l := boolRow (List.zipWith (· || ·) (catsL a) (catsL b))) (by rw [boolRow_len, zip_len]) (fun q => by cases q) (fun _ _ => rfl) (FzR.refl _ _ _) (boolRow_w _)
      (first | refine au ?_ | exact au0 | fail)
      exact fz_of
theorem r23_Meet_spec0 (la : Int) (a : Nat) (lb : Int) (b : Nat) (ha : a < 18446744073709551616) (hb : b < 18446744073709551616) : ACalls PG broadsheetref23_Meet.n [labA la a, labA lb b] [] fun r _ => r = labA (min la lb) (a &&& b) := by
  have hrb := boolRow_len (catsL b)
  have hcb := catsL_len b
  refine ACalls.fzK (broadsheetref23_Meet.of rfl (wpF_start ?_))
  (first | refine au ?_ | exact au0 | fail)
  intro id2 hid2 ht2; have n2 := neAll_of hid2; (try simp only [neAll, neAll_hset] at n2); have m2 := n2; (repeat (obtain ⟨_, m2⟩ := m2))
  (first | refine au ?_ | exact au0 | fail)
  intro id3 hid3 ht3; have n3 := neAll_of hid3; (try simp only [neAll, neAll_hset] at n3); have m3 := n3; (repeat (obtain ⟨_, m3⟩ := m3))
  (first | refine au ?_ | exact au0 | fail)
  intro id4 hid4 ht4; have n4 := neAll_of hid4; (try simp only [neAll, neAll_hset] at n4); have m4 := n4; (repeat (obtain ⟨_, m4⟩ := m4))
  (first | refine au ?_ | exact au0 | fail)
  refine callF_of ((Cats_spec la a ha _).mono fun r H1 ⟨id8, id9, bk, e, hid8, hid9, ht8, eH⟩ => ?_)
  subst e
  subst eH
  have n9 := neAll_of hid9
  have n8 := neAll_of hid8
  simp only [neAll] at n9 n8
  obtain ⟨_, _, _, _⟩ := n9
  obtain ⟨_, _, _, _, _⟩ := n8
  (first | refine au ?_ | exact au0 | fail)
  first | refine callF_eq (Cats_rows lb b hb _) ?_ | refine callG_eq rfl (Cats_rows lb b hb _) ?_
  (first | refine au ?_ | exact au0 | fail)
  refine loopM (S := Nat) [(2, some _), (3, some _), (4, some _), (5, some _), (6, some _)] (fun i => [(7, some (.int .i64 (i : Nat)))]) (fun i => (id8, .rows 1 (boolRow (mixL (· && ·) a b i))) :: (id9, bk) :: (id4, .rows 2 [[.int .i64 0, .int .u64 0]]) :: (id3, .rows 2 [labR lb b]) :: (id2, .rows 2 [labR la a]) :: []) (fun i => 64 - i) (fun i => i ≤ 64) 0 (by repeat (first | exact trivial | refine And.intro (Or.inl rfl) ?_ | refine And.intro (Or.inr (Exists.intro _ (And.intro rfl (Fz.refl _)))) ?_ | refine And.intro (Or.inr (Exists.intro _ (And.intro rfl (fz_eq (congrArg (AV.int _) (by omega)))))) ?_ | refine And.intro (Or.inr (Exists.intro _ (And.intro rfl (fz_eq (congrArg (AV.own _ _ _) (by (try dsimp only); (try simp only [List.length_append, List.length_map, List.length_cons, List.length_nil, List.length_take, List.length_set, List.length_replicate]); (try dsimp only); first | done | omega)))))) ?_)) (by rw [show mixL (· && ·) a b 0 = catsL a from by simp [mixL]]; exact Sub.refl _) (by omega) (fun i hi => ?_)
  have hml := mixL_len (· && ·) a b i hi
  have hmr := boolRow_len (mixL (· && ·) a b i)
  (first | refine au ?_ | exact au0 | fail)
  refine bsplit_dec (fun c => ?_) (fun c => ?_)
  · have hil : i < 64 := by omega
    have hga := boolRow_get (l := mixL (· && ·) a b i) (i := i) (by omega)
    have hgb := boolRow_get (l := catsL b) (i := i) (by omega)
    have hst := mixL_set (· && ·) a b i hil
    rw [mixL_get _ _ _ _ hil] at hga
    rw [catsL_get] at hgb
    have hgm : (boolRow (mixL (· && ·) a b i))[i]? = some [.bool (a.testBit i)] := by
      have hlt : i < (mixL (· && ·) a b i).length := by omega
      unfold boolRow
      rw [List.getElem?_map, List.getElem?_eq_getElem hlt, mixL_get _ _ _ _ hil]
      rfl
    (first | refine au ?_ | exact au0 | fail)
    refine ⟨_, _, hget_self, (by rw [Nat.zero_add, Int.toNat_natCast]; exact hgm), ?_⟩
    cases hxa : a.testBit i
    · rw [hxa] at hst
      (first | refine au ?_ | exact au0 | fail)
      refine ⟨_, _, hget_self, (by rw [Nat.zero_add, Int.toNat_natCast]; exact hgm), rfl, rfl, (Nat.le_of_ble_eq_true rfl), hsetN_of (b' := .rows 1 (boolRow (mixL (· && ·) a b (i + 1)))) (by rw [Nat.zero_add, Int.toNat_natCast]; exact congrArg (Blk.rows 1) hst) ?_⟩
      (first | refine au ?_ | exact au0 | fail)
      exact nextS (S := Nat) (i + 1) (by repeat (first | exact trivial | refine And.intro (Or.inl rfl) ?_ | refine And.intro (Or.inr (Exists.intro _ (And.intro rfl (Fz.refl _)))) ?_ | refine And.intro (Or.inr (Exists.intro _ (And.intro rfl (fz_eq (congrArg (AV.int _) (by omega)))))) ?_ | refine And.intro (Or.inr (Exists.intro _ (And.intro rfl (fz_eq (congrArg (AV.own _ _ _) (by (try dsimp only); (try simp only [List.length_append, List.length_map, List.length_cons, List.length_nil, List.length_take, List.length_set, List.length_replicate]); (try dsimp only); first | done | omega)))))) ?_)) (by exact sub_of) (by omega) hil
    · rw [hxa] at hst
      (first | refine au ?_ | exact au0 | fail)
      rw [hgb]
      (first | refine au ?_ | exact au0 | fail)
      refine ⟨_, _, hget_self, (by rw [Nat.zero_add, Int.toNat_natCast]; exact hgm), rfl, rfl, (Nat.le_of_ble_eq_true rfl), hsetN_of (b' := .rows 1 (boolRow (mixL (· && ·) a b (i + 1)))) (by rw [Nat.zero_add, Int.toNat_natCast]; exact congrArg (Blk.rows 1) hst) ?_⟩
      (first | refine au ?_ | exact au0 | fail)
      exact nextS (S := Nat) (i + 1) (by repeat (first | exact trivial | refine And.intro (Or.inl rfl) ?_ | refine And.intro (Or.inr (Exists.intro _ (And.intro rfl (Fz.refl _)))) ?_ | refine And.intro (Or.inr (Exists.intro _ (And.intro rfl (fz_eq (congrArg (AV.int _) (by omega)))))) ?_ | refine And.intro (Or.inr (Exists.intro _ (And.intro rfl (fz_eq (congrArg (AV.own _ _ _) (by (try dsimp only); (try simp only [List.length_append, List.length_map, List.length_cons, List.length_nil, List.length_take, List.length_set, List.length_replicate]); (try dsimp only); first | done | omega)))))) ?_)) (by exact sub_of) (by omega) hil
  · have : i = 64 := by omega
    subst this
    have hz : mixL (· && ·) a b 64 = List.zipWith (· && ·) (catsL a) (catsL b) := mixL_all _ a b
    have hof := fun lv => of_spec0 lv (List.zipWith (· && ·) (catsL a) (catsL b)) (zip_len a b)
    rw [ofB_and ha hb] at hof
    rw [hz]
    (first | refine au ?_ | exact au0 | fail)
    refine bsplit_dec (fun c => ?_) (fun c => ?_)
    · rw [show min la lb = la from by omega]
      (first | refine au ?_ | exact au0 | fail)
      refine callF_fz (r := labA la (a &&& b)) (args' := [.int .i64 la, .rows 1 (boolRow (List.zipWith (· && ·) (catsL a) (catsL b)))]) (.cons (.refl _) (.cons ?_ (.nil _ _))) rfl (hof la) ?_
      · exact accFz (o := some id8) (n := 64) (l := boolRow (List.zipWith (· && ·) (catsL a) (catsL b))) (by rw [boolRow_len, zip_len]) (fun q => by cases q) (fun _ _ => rfl) (FzR.refl _ _ _) (boolRow_w _)
      (first | refine au ?_ | exact au0 | fail)
      exact fz_of
    · rw [show min la lb = lb from by omega]
      (first | refine au ?_ | exact au0 | fail)
      refine callF_fz (r := labA lb (a &&& b)) (args' := [.int .i64 lb, .rows 1 (boolRow (List.zipWith (· && ·) (catsL a) (catsL b)))]) (.cons (.refl _) (.cons ?_ (.nil _ _))) rfl (hof lb) ?_
      · exact accFz (o := some id8) (n := 64) (l := boolRow (List.zipWith (· && ·) (catsL a) (catsL b))) (by rw [boolRow_len, zip_len]) (fun q => by cases q) (fun _ _ => rfl) (FzR.refl _ _ _) (boolRow_w _)
      (first | refine au ?_ | exact au0 | fail)
      exact fz_of
theorem r23_Leq_spec (la : Int) (a : Nat) (lb : Int) (b : Nat) (ha : a < 18446744073709551616) (hb : b < 18446744073709551616) (H : AH) : ACalls PG broadsheetref23_Leq.n [labA la a, labA lb b] H fun r H' => r = .bool (decide (la ≤ lb) && subB a b) ∧ H' = H := (r23_Leq_spec0 la a lb b ha hb).frame H
theorem r23_Join_spec (la : Int) (a : Nat) (lb : Int) (b : Nat) (ha : a < 18446744073709551616) (hb : b < 18446744073709551616) (H : AH) : ACalls PG broadsheetref23_Join.n [labA la a, labA lb b] H fun r H' => r = labA (max la lb) (a ||| b) ∧ H' = H := (r23_Join_spec0 la a lb b ha hb).frame H
theorem r23_Meet_spec (la : Int) (a : Nat) (lb : Int) (b : Nat) (ha : a < 18446744073709551616) (hb : b < 18446744073709551616) (H : AH) : ACalls PG broadsheetref23_Meet.n [labA la a, labA lb b] H fun r H' => r = labA (min la lb) (a &&& b) ∧ H' = H := (r23_Meet_spec0 la a lb b ha hb).frame H
theorem join_snoc (l : List (List UInt8)) (x : List UInt8) : Lib.join (l ++ [x]) [44] = Lib.join l [44] ++ ((if l = [] then [] else [44]) ++ x) := by
  cases l with
  | nil => simp [Lib.join_one, Lib.join_nil]
  | cons a l => rw [List.cons_append, Lib.join_cons, Lib.join_cons]; simp [Lib.joinTail]
theorem dec_ne (n : Nat) : dec n ≠ [] := by
  unfold dec
  rw [show (20 : Nat) = 19 + 1 from rfl, decD]
  split <;> simp
theorem join_dec_nil (l : List Nat) : Lib.join (l.map dec) [44] = [] ↔ l = [] := by
  cases l with
  | nil => simp [Lib.join_nil]
  | cons a l =>
    rw [List.map_cons, Lib.join_cons]
    have := dec_ne a
    simp [this]
theorem r23_Text_spec0 (lv : Int) (n : Nat) (h0 : -9223372036854775808 ≤ lv) (h1 : lv ≤ 9223372036854775807) (hn : n < 18446744073709551616) : ACalls PG broadsheetref23_Text.n [labA lv n] [] fun r _ => r = .str (labText lv n) := by
  have hca := catsL_len n
  have hra := boolRow_len (catsL n)
  have hil0 := itoa_len lv h0 h1
  refine ACalls.fzK (broadsheetref23_Text.of rfl (wpF_start ?_))
  (first | refine au ?_ | exact au0 | fail)
  intro id1 hid1 ht1; have n1 := neAll_of hid1; (try simp only [neAll, neAll_hset] at n1); have m1 := n1; (repeat (obtain ⟨_, m1⟩ := m1))
  (first | refine au ?_ | exact au0 | fail)
  first | refine callF_eq (Cats_rows lv n hn _) ?_ | refine callG_eq rfl (Cats_rows lv n hn _) ?_
  (first | refine au ?_ | exact au0 | fail)
  refine loopM (S := Nat) [(1, some _), (4, some _)] (fun i => [(5, some (.int .i64 (i : Nat))), (3, some (.str (Lib.join ((catN n i).map dec) [44])))]) (fun _ => _) (fun i => 64 - i) (fun i => i ≤ 64) 0 (by repeat (first | exact trivial | refine And.intro (Or.inl rfl) ?_ | refine And.intro (Or.inr (Exists.intro _ (And.intro rfl (Fz.refl _)))) ?_ | refine And.intro (Or.inr (Exists.intro _ (And.intro rfl (fz_eq (congrArg (AV.int _) (by omega)))))) ?_ | refine And.intro (Or.inr (Exists.intro _ (And.intro rfl (fz_eq (congrArg (AV.own _ _ _) (by (try dsimp only); (try simp only [List.length_append, List.length_map, List.length_cons, List.length_nil, List.length_take, List.length_set, List.length_replicate]); (try dsimp only); first | done | omega)))))) ?_)) (Sub.refl _) (by omega) (fun i hi => ?_)
  have hcl := catN_len n i
  have hjl := decs_len (catN n i)
  have hcs := catN_succ n i
  have hjn := join_dec_nil (catN n i)
  (first | refine au ?_ | exact au0 | fail)
  refine bsplit_dec (fun c => ?_) (fun c => ?_)
  · have hil : i < 64 := by omega
    have hga := boolRow_get (l := catsL n) (i := i) (by omega)
    rw [catsL_get] at hga
    have hdl := dec_len i
    (first | refine au ?_ | exact au0 | fail)
    rw [hga]
    cases hb : n.testBit i
    · rw [hb, if_neg (by decide)] at hcs
      (first | refine au ?_ | exact au0 | fail)
      exact nextS (S := Nat) (i + 1) (by rw [hcs]; exact (by repeat (first | exact trivial | refine And.intro (Or.inl rfl) ?_ | refine And.intro (Or.inr (Exists.intro _ (And.intro rfl (Fz.refl _)))) ?_ | refine And.intro (Or.inr (Exists.intro _ (And.intro rfl (fz_eq (congrArg (AV.int _) (by omega)))))) ?_ | refine And.intro (Or.inr (Exists.intro _ (And.intro rfl (fz_eq (congrArg (AV.own _ _ _) (by (try dsimp only); (try simp only [List.length_append, List.length_map, List.length_cons, List.length_nil, List.length_take, List.length_set, List.length_replicate]); (try dsimp only); first | done | omega)))))) ?_))) sub_of (by omega) hil
    · rw [hb, if_pos rfl] at hcs
      have hj := join_snoc ((catN n i).map dec) (dec i)
      rw [← List.map_singleton (f := dec), ← List.map_append, ← hcs] at hj
      (first | refine au ?_ | exact au0 | fail)
      by_cases hn0 : catN n i = []
      · rw [if_pos (by rw [hn0]; rfl), List.nil_append] at hj
        rw [show decide (Lib.join ((catN n i).map dec) [44] ≠ []) = false from decide_eq_false (fun q => q (hjn.2 hn0))]
        (first | refine au ?_ | exact au0 | fail)
        first | refine callF_eq (Digits_spec i (by omega) _) ?_ | refine callG_eq rfl (Digits_spec i (by omega) _) ?_
        (first | refine au ?_ | exact au0 | fail)
        exact nextS (S := Nat) (i + 1) (by rw [hj]; exact (by repeat (first | exact trivial | refine And.intro (Or.inl rfl) ?_ | refine And.intro (Or.inr (Exists.intro _ (And.intro rfl (Fz.refl _)))) ?_ | refine And.intro (Or.inr (Exists.intro _ (And.intro rfl (fz_eq (congrArg (AV.int _) (by omega)))))) ?_ | refine And.intro (Or.inr (Exists.intro _ (And.intro rfl (fz_eq (congrArg (AV.own _ _ _) (by (try dsimp only); (try simp only [List.length_append, List.length_map, List.length_cons, List.length_nil, List.length_take, List.length_set, List.length_replicate]); (try dsimp only); first | done | omega)))))) ?_))) sub_of (by omega) hil
      · rw [if_neg (by simpa using hn0), ← List.append_assoc] at hj
        rw [show decide (Lib.join ((catN n i).map dec) [44] ≠ []) = true from decide_eq_true (fun q => hn0 (hjn.1 q))]
        (first | refine au ?_ | exact au0 | fail)
        first | refine callF_eq (Digits_spec i (by omega) _) ?_ | refine callG_eq rfl (Digits_spec i (by omega) _) ?_
        (first | refine au ?_ | exact au0 | fail)
        exact nextS (S := Nat) (i + 1) (by rw [hj]; exact (by repeat (first | exact trivial | refine And.intro (Or.inl rfl) ?_ | refine And.intro (Or.inr (Exists.intro _ (And.intro rfl (Fz.refl _)))) ?_ | refine And.intro (Or.inr (Exists.intro _ (And.intro rfl (fz_eq (congrArg (AV.int _) (by omega)))))) ?_ | refine And.intro (Or.inr (Exists.intro _ (And.intro rfl (fz_eq (congrArg (AV.own _ _ _) (by (try dsimp only); (try simp only [List.length_append, List.length_map, List.length_cons, List.length_nil, List.length_take, List.length_set, List.length_replicate]); (try dsimp only); first | done | omega)))))) ?_))) sub_of (by omega) hil
  · have : i = 64 := by omega
    subst this
    (first | refine au ?_ | exact au0 | fail)
    first | refine callF_eq (Signed_spec lv h0 h1 _) ?_ | refine callG_eq rfl (Signed_spec lv h0 h1 _) ?_
    (first | refine au ?_ | exact au0 | fail)
    exact fz_of
end Go.Proofs.YtlabklehgfdibaaDoor

/- Labels read off texts; plain. -/
namespace Go.Proofs.YtlabklehgfdibaaDoor
set_option autoImplicit false
def isDg (c : UInt8) : Bool := decide (48 ≤ c.toNat ∧ c.toNat ≤ 57)
def valD (s : List UInt8) : Nat := s.foldl (fun n c => 10 * n + (c.toNat - 48)) 0
theorem valD_snoc (s : List UInt8) (c : UInt8) : valD (s ++ [c]) = 10 * valD s + (c.toNat - 48) := by simp [valD]
theorem valD_lt : ∀ s : List UInt8, s.all isDg = true → valD s < 10 ^ s.length := by
  intro s
  rw [← List.reverse_reverse s]
  induction s.reverse with
  | nil => simp [valD]
  | cons c l ih =>
    intro h
    rw [List.reverse_cons] at h ⊢
    rw [List.all_append, Bool.and_eq_true] at h
    have h1 := ih h.1
    have h2 : 48 ≤ c.toNat ∧ c.toNat ≤ 57 := by simpa [isDg] using h.2
    rw [valD_snoc, List.length_append, List.length_singleton, Nat.pow_succ]
    omega
/-- The number of at most two digits; -1: none. -/
def numL (s : List UInt8) : Int := if s = [] ∨ 2 < s.length ∨ (s.getD 0 0 = 48 ∧ 1 < s.length) then -1 else if s.all isDg = true then (valD s : Int) else -1
theorem numL_range (s : List UInt8) : -1 ≤ numL s ∧ numL s ≤ 99 := by
  unfold numL
  split
  · omega
  · rename_i h
    split
    · rename_i hd
      have := valD_lt s hd
      have : 10 ^ s.length ≤ 10 ^ 2 := Nat.pow_le_pow_right (by decide) (by omega)
      omega
    · omega
/-- Categories, read one behind the other. -/
def catsP : List (List UInt8) → Nat → Int → Option Nat
  | [], c, _ => some c
  | w :: ws, c, last => if numL w ≤ last ∨ 64 ≤ numL w then none else catsP ws (c ||| 2 ^ (numL w).toNat) (numL w)
theorem catsP_lt : ∀ (ws : List (List UInt8)) (c : Nat) (last : Int) (r : Nat), -1 ≤ last → c < 2 ^ 64 → catsP ws c last = some r → r < 2 ^ 64
  | [], c, last, r, _, hc, h => by simp only [catsP, Option.some.injEq] at h; omega
  | w :: ws, c, last, r, hl, hc, h => by
    simp only [catsP] at h
    split at h
    · cases h
    · exact catsP_lt ws _ _ r (by omega) (Nat.or_lt_two_pow hc (Nat.pow_lt_pow_right (by decide) (by omega))) h
def parseL (s : List UInt8) : Option (Int × Nat) :=
  if (Lib.cut s [123]).2.2 = false ∨ Lib.hasSuffix (Lib.cut s [123]).2.1 [125] = false ∨ ¬ (0 ≤ numL (Lib.cut s [123]).1 ∧ numL (Lib.cut s [123]).1 ≤ 15) then none
  else if Lib.trimSuffix (Lib.cut s [123]).2.1 [125] = [] then some (numL (Lib.cut s [123]).1, 0)
  else (catsP (Lib.split (Lib.trimSuffix (Lib.cut s [123]).2.1 [125]) [44]) 0 (-1)).map fun c => (numL (Lib.cut s [123]).1, c)
theorem parse_ex : parseL [51, 123, 48, 44, 53, 125] = some (3, 33) := by decide +kernel
theorem text_ex : labText 3 33 = [51, 123, 48, 44, 53, 125] := by decide +kernel
end Go.Proofs.YtlabklehgfdibaaDoor

/- A label's text is read as it; labels stand as they should: plain. -/
namespace Go.Proofs.YtlabklehgfdibaaDoor
set_option autoImplicit false
theorem index_no (c : UInt8) : ∀ s : List UInt8, c ∉ s → Lib.index s [c] = -1
  | [], _ => by simp [Lib.index]
  | b :: l, h => by
    have h1 : c ≠ b := fun e => h (by rw [e]; exact List.mem_cons_self)
    have ih := index_no c l (fun q => h (List.mem_cons_of_mem _ q))
    have hp : ([c] : List UInt8).isPrefixOf (b :: l) = false := by simp [List.isPrefixOf, h1]
    rw [Lib.index, hp, ih]; rfl
theorem index_hit (c : UInt8) (t : List UInt8) : ∀ s : List UInt8, c ∉ s → Lib.index (s ++ c :: t) [c] = (s.length : Int)
  | [], _ => by rw [List.nil_append, Lib.index]; simp [List.isPrefixOf]
  | b :: l, h => by
    have h1 : c ≠ b := fun e => h (by rw [e]; exact List.mem_cons_self)
    have ih := index_hit c t l (fun q => h (List.mem_cons_of_mem _ q))
    have hp : ([c] : List UInt8).isPrefixOf (b :: (l ++ c :: t)) = false := by simp [List.isPrefixOf, h1]
    rw [List.cons_append, Lib.index, hp, ih, if_neg (by decide), if_neg (by rw [beq_iff_eq]; omega), List.length_cons]; omega
theorem cut_hit (c : UInt8) (s t : List UInt8) (h : c ∉ s) : Lib.cut (s ++ c :: t) [c] = (s, t, true) := by
  unfold Lib.cut
  rw [index_hit c t s h, if_pos (by omega)]
  simp
theorem count_no (c : UInt8) (s : List UInt8) (h : c ∉ s) : Lib.count s [c] = 0 := by rw [Lib.count_one]; exact List.count_eq_zero.2 h
theorem splitK_join (c : UInt8) : ∀ (xs : List (List UInt8)) (x : List UInt8), c ∉ x → (∀ y ∈ xs, c ∉ y) → Lib.splitK [c] 0 xs.length (x ++ Lib.joinTail [c] xs) = x :: xs
  | [], x, h, _ => by simp [Lib.splitK, Lib.joinTail]
  | y :: xs, x, h, hs => by
    have e : x ++ Lib.joinTail [c] (y :: xs) = x ++ c :: (y ++ Lib.joinTail [c] xs) := by simp [Lib.joinTail]
    have ih := splitK_join c xs y (hs y List.mem_cons_self) (fun z q => hs z (List.mem_cons_of_mem _ q))
    rw [e, List.length_cons, Lib.splitK, index_hit c _ x h, if_neg (by rw [beq_iff_eq]; omega)]
    simp only [Int.toNat_natCast, Nat.add_zero, List.length_singleton, List.take_left']
    rw [show x ++ c :: (y ++ Lib.joinTail [c] xs) = (x ++ [c]) ++ (y ++ Lib.joinTail [c] xs) from by simp, List.drop_left' (by simp), ih]
theorem count_join (c : UInt8) : ∀ (xs : List (List UInt8)) (x : List UInt8), c ∉ x → (∀ y ∈ xs, c ∉ y) → (x ++ Lib.joinTail [c] xs).count c = xs.length
  | [], x, h, _ => by simp [Lib.joinTail, List.count_eq_zero.2 h]
  | y :: xs, x, h, hs => by
    have e : x ++ Lib.joinTail [c] (y :: xs) = x ++ c :: (y ++ Lib.joinTail [c] xs) := by simp [Lib.joinTail]
    have ih := count_join c xs y (hs y List.mem_cons_self) (fun z q => hs z (List.mem_cons_of_mem _ q))
    rw [e, List.count_append, List.count_eq_zero.2 h, List.count_cons_self, ih, List.length_cons]; omega
theorem split_join (c : UInt8) (xs : List (List UInt8)) (hne : xs ≠ []) (h : ∀ y ∈ xs, c ∉ y) : Lib.split (Lib.join xs [c]) [c] = xs := by
  cases xs with
  | nil => exact absurd rfl hne
  | cons x xs =>
    have h1 := h x List.mem_cons_self
    have h2 := fun y q => h y (List.mem_cons_of_mem _ q)
    rw [Lib.join_cons, Lib.split, Lib.count_one, count_join c xs x h1 h2]
    exact splitK_join c xs x h1 h2
theorem trim_end (s p : List UInt8) : Lib.trimSuffix (s ++ p) p = s ∧ Lib.hasSuffix (s ++ p) p = true := by
  have h : Lib.hasSuffix (s ++ p) p = true := by
    unfold Lib.hasSuffix
    rw [List.isSuffixOf_iff_suffix]
    exact List.suffix_append s p
  refine ⟨?_, h⟩
  unfold Lib.trimSuffix
  rw [if_pos h]
  simp
/-! ### Digits -/
theorem dg_is (d : Nat) (h : d < 10) : (UInt8.ofNat (48 + d)).toNat = 48 + d := by simp; omega
theorem decDigits_dg : ∀ u : Nat, (Lib.decDigits u).all isDg = true := by
  intro u
  rw [Lib.decDigits_eq, List.all_eq_true]
  intro c hc
  obtain ⟨t, _, rfl⟩ := List.mem_map.1 hc
  have h : u / 10 ^ (Lib.nDigits u - 1 - t) % 10 < 10 := Nat.mod_lt _ (by decide)
  have := dg_is _ h
  unfold Lib.dg
  exact decide_eq_true (by omega)
theorem isDg_of {s : List UInt8} (h : s.all isDg = true) {c : UInt8} (hc : c ∈ s) : 48 ≤ c.toNat ∧ c.toNat ≤ 57 := of_decide_eq_true (List.all_eq_true.1 h c hc)
theorem no_dg {s : List UInt8} (h : s.all isDg = true) {c : UInt8} (hc : ¬ (48 ≤ c.toNat ∧ c.toNat ≤ 57)) : c ∉ s := fun q => hc (isDg_of h q)
theorem numL_small (u : Nat) (h : u < 100) : numL (Lib.decDigits u) = u := by
  have : ∀ u : Fin 100, numL (if u.val < 10 then [UInt8.ofNat (48 + u.val)] else [UInt8.ofNat (48 + u.val / 10), UInt8.ofNat (48 + u.val % 10)]) = (u.val : Int) := by decide +kernel
  have := this ⟨u, h⟩
  by_cases h1 : u < 10
  · rw [Lib.decDigits_one h1]; simpa [h1] using this
  · rw [Lib.decDigits_two h1 h]; simpa [h1] using this
theorem numL_big (u : Nat) (h : ¬ u < 100) : numL (Lib.decDigits u) = -1 := by
  have : 3 ≤ Lib.nDigits u := by
    rw [Lib.nDigits_big (by omega), Lib.nDigits_big (by omega)]
    have := Lib.nDigits_pos (u / 10 / 10)
    omega
  unfold numL
  rw [if_pos (.inr (.inl (by rw [Lib.decDigits_length]; omega)))]
theorem numL_itoa (lv : Int) : (0 ≤ numL (Lib.itoa lv) ∧ numL (Lib.itoa lv) ≤ 15 ↔ 0 ≤ lv ∧ lv ≤ 15) ∧ (0 ≤ lv ∧ lv ≤ 15 → numL (Lib.itoa lv) = lv) := by
  by_cases h : lv < 0
  · obtain ⟨u, rfl⟩ : ∃ u : Nat, lv = -(u : Int) := ⟨lv.natAbs, by omega⟩
    have hn : numL (Lib.itoa (-(u : Int))) = -1 := by
      rw [Lib.itoa_neg u (by omega)]
      unfold numL
      split
      · rfl
      · rw [if_neg (by simp [isDg])]
    rw [hn]
    omega
  · obtain ⟨u, rfl⟩ : ∃ u : Nat, lv = u := ⟨lv.toNat, by omega⟩
    rw [Lib.itoa_nonneg]
    by_cases h1 : u < 100
    · rw [numL_small u h1]; omega
    · rw [numL_big u h1]; omega
theorem itoa_no (c : UInt8) (hc : ¬ (48 ≤ c.toNat ∧ c.toNat ≤ 57)) (h45 : c ≠ 45) (lv : Int) : c ∉ Lib.itoa lv := by
  by_cases h : lv < 0
  · obtain ⟨u, rfl⟩ : ∃ u : Nat, lv = -(u : Int) := ⟨lv.natAbs, by omega⟩
    rw [Lib.itoa_neg u (by omega)]
    intro q
    rcases List.mem_cons.1 q with q | q
    · exact h45 q
    · exact no_dg (decDigits_dg u) hc q
  · obtain ⟨u, rfl⟩ : ∃ u : Nat, lv = u := ⟨lv.toNat, by omega⟩
    rw [Lib.itoa_nonneg]
    exact no_dg (decDigits_dg u) hc
/-! ### Categories -/
theorem catsP_dec : ∀ (ks : List Nat) (c : Nat) (last : Int), ks.Pairwise (· < ·) → (∀ k ∈ ks, k < 64 ∧ last < (k : Int)) → catsP (ks.map dec) c last = some (ks.foldl (fun c k => c ||| 2 ^ k) c)
  | [], c, last, _, _ => rfl
  | k :: ks, c, last, hp, h => by
    have hk := h k List.mem_cons_self
    rw [List.map_cons, catsP, dec_eq (by omega), numL_small k (by omega), if_neg (by omega), Int.toNat_natCast, List.foldl_cons]
    rw [List.pairwise_cons] at hp
    exact catsP_dec ks _ _ hp.2 fun j q => ⟨(h j (List.mem_cons_of_mem _ q)).1, by have := hp.1 j q; omega⟩
theorem foldB (i : Nat) : ∀ (ks : List Nat) (c : Nat), (ks.foldl (fun c k => c ||| 2 ^ k) c).testBit i = (c.testBit i || decide (i ∈ ks))
  | [], c => by simp
  | k :: ks, c => by
    rw [List.foldl_cons, foldB i ks, Nat.testBit_or, Nat.testBit_two_pow, Bool.or_assoc]
    congr 1
    by_cases h : k = i
    · subst h; simp
    · have : i ≠ k := fun e => h e.symm
      simp [h, this]
theorem cats_fold {n : Nat} (h : n < 2 ^ 64) : (catN n 64).foldl (fun c k => c ||| 2 ^ k) 0 = n := Nat.eq_of_testBit_eq fun i => by
  rw [foldB, Nat.zero_testBit, Bool.false_or]
  by_cases hi : i < 64
  · simp [catN, hi]
  · rw [Nat.testBit_lt_two_pow (Nat.lt_of_lt_of_le h (Nat.pow_le_pow_right (by decide) (by omega)))]
    simp [catN, hi]
theorem join_nil_iff (ks : List Nat) (h : ∀ k ∈ ks, k < 64) : Lib.join (ks.map dec) [44] = [] ↔ ks = [] := by
  cases ks with
  | nil => simp [Lib.join_nil]
  | cons k ks =>
    have hk := h k List.mem_cons_self
    rw [List.map_cons, Lib.join_cons]
    have h2 : dec k ≠ [] := by
      rw [dec_eq (by omega)]
      intro e
      have h4 := congrArg List.length e
      rw [Lib.decDigits_length] at h4
      have h5 := Lib.nDigits_pos k
      simp only [List.length_nil] at h4
      omega
    simp [h2]
theorem catN_mem {n k : Nat} (h : k ∈ catN n 64) : k < 64 := by
  unfold catN at h
  simpa using (List.mem_filter.1 h).1
theorem parse_text (lv : Int) {n : Nat} (hn : n < 2 ^ 64) : parseL (labText lv n) = if 0 ≤ lv ∧ lv ≤ 15 then some (lv, n) else none := by
  obtain ⟨h1, h2⟩ := numL_itoa lv
  have hcut : Lib.cut (labText lv n) [123] = (Lib.itoa lv, Lib.join ((catN n 64).map dec) [44] ++ [125], true) := by
    have := cut_hit 123 (Lib.itoa lv) (Lib.join ((catN n 64).map dec) [44] ++ [125]) (itoa_no 123 (by decide) (by decide) lv)
    rw [← this]
    congr 1
    simp [labText]
  obtain ⟨t1, t2⟩ := trim_end (Lib.join ((catN n 64).map dec) [44]) [125]
  unfold parseL
  rw [hcut]
  dsimp only
  rw [t1, t2]
  by_cases hl : 0 ≤ lv ∧ lv ≤ 15
  · rw [if_pos hl, if_neg (by simp only [Bool.true_eq_false, false_or]; exact fun q => q (h1.2 hl)), h2 hl]
    by_cases hk : catN n 64 = []
    · rw [if_pos ((join_nil_iff _ fun k => catN_mem).2 hk)]
      have := cats_fold hn
      rw [hk] at this
      exact congrArg (fun m => some (lv, m)) this
    · rw [if_neg (fun q => hk ((join_nil_iff _ fun k => catN_mem).1 q)), split_join 44 _ (by simpa using hk) ?_, catsP_dec _ _ _ ?_ ?_, cats_fold hn]
      · rfl
      · exact List.Pairwise.filter _ List.pairwise_lt_range
      · exact fun k q => ⟨catN_mem q, by omega⟩
      · intro y hy
        obtain ⟨k, q, rfl⟩ := List.mem_map.1 hy
        have := catN_mem q
        rw [dec_eq (by omega)]
        exact no_dg (decDigits_dg k) (by decide)
  · rw [if_neg hl, if_pos (.inr (.inr (fun q => hl (h1.1 q))))]
/-! ### How labels stand -/
theorem testBit_big {a i : Nat} (h : a < 2 ^ 64) (hi : ¬ i < 64) : a.testBit i = false := Nat.testBit_lt_two_pow (Nat.lt_of_lt_of_le h (Nat.pow_le_pow_right (by decide) (by omega)))
theorem subB_all {a b : Nat} (ha : a < 2 ^ 64) : subB a b = true ↔ ∀ i, a.testBit i = true → b.testBit i = true := by
  rw [subB_iff]
  refine ⟨fun h i q => ?_, fun h i _ => h i⟩
  by_cases hi : i < 64
  · exact h i hi q
  · rw [testBit_big ha hi] at q; cases q
theorem subB_or {a b : Nat} (ha : a < 2 ^ 64) : subB a b = decide (a ||| b = b) := by
  rw [Bool.eq_iff_iff, subB_all ha, decide_eq_true_iff]
  refine ⟨fun h => Nat.eq_of_testBit_eq fun i => ?_, fun h i q => ?_⟩
  · rw [Nat.testBit_or]
    cases q : a.testBit i with
    | false => rfl
    | true => rw [h i q]; rfl
  · rw [← h, Nat.testBit_or, q]; rfl
theorem subB_and {a b : Nat} (ha : a < 2 ^ 64) : subB a b = decide (a &&& b = a) := by
  rw [Bool.eq_iff_iff, subB_all ha, decide_eq_true_iff]
  refine ⟨fun h => Nat.eq_of_testBit_eq fun i => ?_, fun h i q => ?_⟩
  · rw [Nat.testBit_and]
    cases q : a.testBit i with
    | false => rfl
    | true => rw [h i q]; rfl
  · have e := congrArg (fun n => n.testBit i) h
    simp only [Nat.testBit_and, q, Bool.true_and] at e
    exact e
theorem subB_refl {a : Nat} (ha : a < 2 ^ 64) : subB a a = true := (subB_all ha).2 fun _ q => q
theorem subB_trans {a b c : Nat} (ha : a < 2 ^ 64) (hb : b < 2 ^ 64) (h : subB a b = true) (k : subB b c = true) : subB a c = true := (subB_all ha).2 fun i q => (subB_all hb).1 k i ((subB_all ha).1 h i q)
theorem subB_anti {a b : Nat} (ha : a < 2 ^ 64) (hb : b < 2 ^ 64) (h : subB a b = true) (k : subB b a = true) : a = b := Nat.eq_of_testBit_eq fun i => by
  have h1 := (subB_all ha).1 h i
  have h2 := (subB_all hb).1 k i
  cases q : a.testBit i with
  | false =>
    cases p : b.testBit i with
    | false => rfl
    | true => rw [h2 p] at q; cases q
  | true => exact (h1 q).symm
theorem subB_orL {a b c : Nat} (ha : a < 2 ^ 64) (hb : b < 2 ^ 64) : subB (a ||| b) c = (subB a c && subB b c) := by
  rw [Bool.eq_iff_iff, Bool.and_eq_true, subB_all (Nat.or_lt_two_pow ha hb), subB_all ha, subB_all hb]
  refine ⟨fun h => ⟨fun i q => h i (by rw [Nat.testBit_or, q]; rfl), fun i q => h i (by rw [Nat.testBit_or, q]; simp)⟩, fun ⟨h, k⟩ i q => ?_⟩
  rw [Nat.testBit_or, Bool.or_eq_true] at q
  exact q.elim (h i) (k i)
theorem subB_andR {a b c : Nat} (hc : c < 2 ^ 64) : subB c (a &&& b) = (subB c a && subB c b) := by
  rw [Bool.eq_iff_iff, Bool.and_eq_true, subB_all hc, subB_all hc, subB_all hc]
  refine ⟨fun h => ⟨fun i q => ?_, fun i q => ?_⟩, fun ⟨h, k⟩ i q => ?_⟩
  · have := h i q; rw [Nat.testBit_and, Bool.and_eq_true] at this; exact this.1
  · have := h i q; rw [Nat.testBit_and, Bool.and_eq_true] at this; exact this.2
  · rw [Nat.testBit_and, h i q, k i q]; rfl
def labLe (la : Int) (a : Nat) (lb : Int) (b : Nat) : Bool := decide (la ≤ lb) && subB a b
theorem labLe_refl (la : Int) {a : Nat} (ha : a < 2 ^ 64) : (decide (la ≤ la) && subB a a) = true := by rw [subB_refl ha]; simp
theorem labLe_joinL (la lb : Int) {a b : Nat} (ha : a < 2 ^ 64) (hb : b < 2 ^ 64) : (decide (la ≤ max la lb) && subB a (a ||| b)) = true := by
  rw [Bool.and_eq_true, decide_eq_true_iff, subB_all ha]
  exact ⟨by omega, fun i q => by rw [Nat.testBit_or, q]; rfl⟩
theorem labLe_joinR (la lb : Int) {a b : Nat} (ha : a < 2 ^ 64) (hb : b < 2 ^ 64) : (decide (lb ≤ max la lb) && subB b (a ||| b)) = true := by
  rw [Bool.and_eq_true, decide_eq_true_iff, subB_all hb]
  exact ⟨by omega, fun i q => by rw [Nat.testBit_or, q]; simp⟩
theorem labLe_meetL (la lb : Int) {a b : Nat} (ha : a < 2 ^ 64) (hb : b < 2 ^ 64) : (decide (min la lb ≤ la) && subB (a &&& b) a) = true := by
  rw [Bool.and_eq_true, decide_eq_true_iff, subB_all (Nat.and_lt_two_pow a hb)]
  exact ⟨by omega, fun i q => by rw [Nat.testBit_and, Bool.and_eq_true] at q; exact q.1⟩
theorem labLe_meetR (la lb : Int) {a b : Nat} (ha : a < 2 ^ 64) (hb : b < 2 ^ 64) : (decide (min la lb ≤ lb) && subB (a &&& b) b) = true := by
  rw [Bool.and_eq_true, decide_eq_true_iff, subB_all (Nat.and_lt_two_pow a hb)]
  exact ⟨by omega, fun i q => by rw [Nat.testBit_and, Bool.and_eq_true] at q; exact q.2⟩
theorem dec_and {p q r : Prop} [Decidable p] [Decidable q] [Decidable r] (h : r ↔ p ∧ q) : decide r = (decide p && decide q) := by
  rw [Bool.eq_iff_iff, Bool.and_eq_true, decide_eq_true_iff, decide_eq_true_iff, decide_eq_true_iff]; exact h
theorem and4 (p q r s : Bool) : ((p && q) && (r && s)) = ((p && r) && (q && s)) := by cases p <;> cases q <;> cases r <;> cases s <;> rfl
theorem labLe_join (la lb lc : Int) {a b c : Nat} (ha : a < 2 ^ 64) (hb : b < 2 ^ 64) : (decide (max la lb ≤ lc) && subB (a ||| b) c) = ((decide (la ≤ lc) && subB a c) && (decide (lb ≤ lc) && subB b c)) := by
  rw [subB_orL ha hb, dec_and (show max la lb ≤ lc ↔ la ≤ lc ∧ lb ≤ lc by omega), and4]
theorem labLe_meet (la lb lc : Int) {a b c : Nat} (hc : c < 2 ^ 64) : (decide (lc ≤ min la lb) && subB c (a &&& b)) = ((decide (lc ≤ la) && subB c a) && (decide (lc ≤ lb) && subB c b)) := by
  rw [subB_andR hc, dec_and (show lc ≤ min la lb ↔ lc ≤ la ∧ lc ≤ lb by omega), and4]
theorem labLe_anti (la lb : Int) {a b : Nat} (ha : a < 2 ^ 64) (hb : b < 2 ^ 64) : ((decide (la ≤ lb) && subB a b) && (decide (lb ≤ la) && subB b a)) = (decide (la = lb) && decide (a = b)) := by
  rw [Bool.eq_iff_iff]
  simp only [Bool.and_eq_true, decide_eq_true_iff]
  refine ⟨fun ⟨⟨h1, h2⟩, h3, h4⟩ => ⟨by omega, subB_anti ha hb h2 h4⟩, fun ⟨h1, h2⟩ => ?_⟩
  subst h1; subst h2
  exact ⟨⟨by omega, subB_refl ha⟩, by omega, subB_refl ha⟩
theorem labLe_trans (la lb lc : Int) {a b c : Nat} (ha : a < 2 ^ 64) (hb : b < 2 ^ 64) : (decide (la ≤ lb) && subB a b) = true → (decide (lb ≤ lc) && subB b c) = true → (decide (la ≤ lc) && subB a c) = true := by
  simp only [Bool.and_eq_true, decide_eq_true_iff]
  exact fun ⟨h1, h2⟩ ⟨h3, h4⟩ => ⟨by omega, subB_trans ha hb h2 h4⟩
theorem labLe_eqJ (la lb : Int) {a b : Nat} (ha : a < 2 ^ 64) (hb : b < 2 ^ 64) : (decide (la ≤ lb) && subB a b) = (decide (max la lb = lb) && decide (a ||| b = b)) := by
  rw [subB_or ha]
  congr 1
  exact decide_eq_decide.2 (by omega)
theorem labLe_eqM (la lb : Int) {a b : Nat} (ha : a < 2 ^ 64) : (decide (la ≤ lb) && subB a b) = (decide (min la lb = la) && decide (a &&& b = a)) := by
  rw [subB_and ha]
  congr 1
  exact decide_eq_decide.2 (by omega)
end Go.Proofs.YtlabklehgfdibaaDoor

/- Labels read off texts, walked. -/
namespace Go.Proofs.YtlabklehgfdibaaDoor
set_option autoImplicit false
set_option linter.unusedSimpArgs false
set_option linter.unusedVariables false
attribute [local irreducible] callA callP ACalls
theorem number_spec0 (s : List UInt8) : ACalls PG label_number.n [.str s] [] fun r _ => r = .int .i64 (numL s) := by
  refine ACalls.fzK (label_number.of rfl (wpF_start ?_))
  unfold numL
  by_cases c1 : s = []
  · rw [if_pos (.inl c1)]
    subst c1
    (first | refine au ?_ | exact au0 | fail)
    exact fz_of
  have hpos : 0 < s.length := List.length_pos_iff.2 c1
  (first | refine au ?_ | exact au0 | fail)
  rw [decide_eq_false c1]
  (first | refine au ?_ | exact au0 | fail)
  refine bsplit_dec (fun c2 => ?_) (fun c2 => ?_)
  · rw [if_pos (.inr (.inl (by omega)))]
    (first | refine au ?_ | exact au0 | fail)
    exact fz_of
  have h48 : s.getD 0 0 = 48 ↔ (s.getD 0 0).toNat = 48 := ⟨fun e => by rw [e]; rfl, fun e => UInt8.toNat_inj.1 e⟩
  by_cases c3 : s.getD 0 0 = 48 ∧ 1 < s.length
  · rw [if_pos (.inr (.inr c3))]
    have c4 : (s.getD (Int.toNat 0) 0).toNat = 48 := h48.1 c3.1
    have c5 := c3.2
    (first | refine au ?_ | exact au0 | fail)
    exact fz_of
  have hno : ¬ (s = [] ∨ 2 < s.length ∨ (s.getD 0 0 = 48 ∧ 1 < s.length)) := by
    rintro (q | q | q)
    · exact c1 q
    · omega
    · exact c3 q
  rw [if_neg hno]
  have hnum : ∀ i, i ≤ s.length → valD (s.take i) ≤ 99 ∨ (s.take i).all isDg = false := fun i hi => by
    cases h : (s.take i).all isDg with
    | false => exact .inr rfl
    | true =>
      have := valD_lt _ h
      have : 10 ^ (s.take i).length ≤ 10 ^ 2 := Nat.pow_le_pow_right (by decide) (by rw [List.length_take]; omega)
      exact .inl (by omega)
  by_cases c4 : (s.getD (Int.toNat 0) 0).toNat = 48
  · have c5 : ¬ 1 < s.length := fun q => c3 ⟨h48.2 c4, q⟩
    (first | refine au ?_ | exact au0 | fail)
    refine loopM (S := Nat) [(0, some _), (23, some _)] (fun i => [(24, some (.int .i64 (i : Nat))), (3, some (.int .i64 (valD (s.take i) : Nat)))]) (fun _ => _) (fun i => s.length - i) (fun i => i ≤ s.length ∧ (s.take i).all isDg = true) 0 (by repeat (first | exact trivial | refine And.intro (Or.inl rfl) ?_ | refine And.intro (Or.inr (Exists.intro _ (And.intro rfl (Fz.refl _)))) ?_ | refine And.intro (Or.inr (Exists.intro _ (And.intro rfl (fz_eq (congrArg (AV.int _) (by omega)))))) ?_ | refine And.intro (Or.inr (Exists.intro _ (And.intro rfl (fz_eq (congrArg (AV.own _ _ _) (by (try dsimp only); (try simp only [List.length_append, List.length_map, List.length_cons, List.length_nil, List.length_take, List.length_set, List.length_replicate]); (try dsimp only); first | done | omega)))))) ?_)) (Sub.refl _) ⟨Nat.zero_le _, by simp⟩ (fun i hi => ?_)
    obtain ⟨hi, hal⟩ := hi
    have hn1 := hnum i hi
    have hn2 : valD (s.take i) ≤ 99 := by
      rcases hn1 with q | q
      · exact q
      · rw [hal] at q; cases q
    (first | refine au ?_ | exact au0 | fail)
    refine bsplit_dec (fun h1 => ?_) (fun h1 => ?_)
    · have hil : i < s.length := by omega
      have hget : s.getD (Int.toNat (i : Nat)) 0 = s[i] := by simp [hil]
      have htk : s.take (i + 1) = s.take i ++ [s[i]] := List.take_succ_eq_append_getElem hil
      have hmem : s[i] ∈ s := List.getElem_mem hil
      have hcl := (s[i]).toNat_lt
      have hn3 := hnum (i + 1) hil
      rw [htk, valD_snoc, List.all_append, hal, Bool.true_and] at hn3
      have hv := valD_snoc (s.take i) s[i]
      generalize s[i] = c at *
      have hget2 : (s.getD (Int.toNat (i : Nat)) 0).toNat = c.toNat := by rw [hget]
      by_cases hd : 48 ≤ c.toNat ∧ c.toNat ≤ 57
      · have hdg : isDg c = true := decide_eq_true hd
        have hn4 : 10 * valD (s.take i) + (c.toNat - 48) ≤ 99 := by
          rcases hn3 with q | q
          · exact q
          · simp [hdg] at q
        (first | refine au ?_ | exact au0 | fail)
        exact nextS (S := Nat) (i + 1) (by rw [htk, hv]; exact (by repeat (first | exact trivial | refine And.intro (Or.inl rfl) ?_ | refine And.intro (Or.inr (Exists.intro _ (And.intro rfl (Fz.refl _)))) ?_ | refine And.intro (Or.inr (Exists.intro _ (And.intro rfl (fz_eq (congrArg (AV.int _) (by omega)))))) ?_ | refine And.intro (Or.inr (Exists.intro _ (And.intro rfl (fz_eq (congrArg (AV.own _ _ _) (by (try dsimp only); (try simp only [List.length_append, List.length_map, List.length_cons, List.length_nil, List.length_take, List.length_set, List.length_replicate]); (try dsimp only); first | done | omega)))))) ?_))) sub_of (by omega) ⟨hil, by rw [htk, List.all_append, hal]; simp [hdg]⟩
      · have hdg : isDg c = false := decide_eq_false hd
        have hall : s.all isDg = false := by
          cases h : s.all isDg with
          | false => rfl
          | true => rw [List.all_eq_true.1 h c hmem] at hdg; cases hdg
        rw [hall, if_neg (by decide)]
        (first | refine au ?_ | exact au0 | fail)
        refine bsplit_dec (fun h2 => ?_) (fun h2 => ?_)
        all_goals
          (first | refine au ?_ | exact au0 | fail)
          exact fz_of
    · have : i = s.length := by omega
      subst this
      rw [List.take_length] at hal ⊢
      rw [hal, if_pos rfl]
      (first | refine au ?_ | exact au0 | fail)
      exact fz_of
  · (first | refine au ?_ | exact au0 | fail)
    refine loopM (S := Nat) [(0, some _), (23, some _)] (fun i => [(24, some (.int .i64 (i : Nat))), (3, some (.int .i64 (valD (s.take i) : Nat)))]) (fun _ => _) (fun i => s.length - i) (fun i => i ≤ s.length ∧ (s.take i).all isDg = true) 0 (by repeat (first | exact trivial | refine And.intro (Or.inl rfl) ?_ | refine And.intro (Or.inr (Exists.intro _ (And.intro rfl (Fz.refl _)))) ?_ | refine And.intro (Or.inr (Exists.intro _ (And.intro rfl (fz_eq (congrArg (AV.int _) (by omega)))))) ?_ | refine And.intro (Or.inr (Exists.intro _ (And.intro rfl (fz_eq (congrArg (AV.own _ _ _) (by (try dsimp only); (try simp only [List.length_append, List.length_map, List.length_cons, List.length_nil, List.length_take, List.length_set, List.length_replicate]); (try dsimp only); first | done | omega)))))) ?_)) (Sub.refl _) ⟨Nat.zero_le _, by simp⟩ (fun i hi => ?_)
    obtain ⟨hi, hal⟩ := hi
    have hn1 := hnum i hi
    have hn2 : valD (s.take i) ≤ 99 := by
      rcases hn1 with q | q
      · exact q
      · rw [hal] at q; cases q
    (first | refine au ?_ | exact au0 | fail)
    refine bsplit_dec (fun h1 => ?_) (fun h1 => ?_)
    · have hil : i < s.length := by omega
      have hget : s.getD (Int.toNat (i : Nat)) 0 = s[i] := by simp [hil]
      have htk : s.take (i + 1) = s.take i ++ [s[i]] := List.take_succ_eq_append_getElem hil
      have hmem : s[i] ∈ s := List.getElem_mem hil
      have hcl := (s[i]).toNat_lt
      have hn3 := hnum (i + 1) hil
      rw [htk, valD_snoc, List.all_append, hal, Bool.true_and] at hn3
      have hv := valD_snoc (s.take i) s[i]
      generalize s[i] = c at *
      have hget2 : (s.getD (Int.toNat (i : Nat)) 0).toNat = c.toNat := by rw [hget]
      by_cases hd : 48 ≤ c.toNat ∧ c.toNat ≤ 57
      · have hdg : isDg c = true := decide_eq_true hd
        have hn4 : 10 * valD (s.take i) + (c.toNat - 48) ≤ 99 := by
          rcases hn3 with q | q
          · exact q
          · simp [hdg] at q
        (first | refine au ?_ | exact au0 | fail)
        exact nextS (S := Nat) (i + 1) (by rw [htk, hv]; exact (by repeat (first | exact trivial | refine And.intro (Or.inl rfl) ?_ | refine And.intro (Or.inr (Exists.intro _ (And.intro rfl (Fz.refl _)))) ?_ | refine And.intro (Or.inr (Exists.intro _ (And.intro rfl (fz_eq (congrArg (AV.int _) (by omega)))))) ?_ | refine And.intro (Or.inr (Exists.intro _ (And.intro rfl (fz_eq (congrArg (AV.own _ _ _) (by (try dsimp only); (try simp only [List.length_append, List.length_map, List.length_cons, List.length_nil, List.length_take, List.length_set, List.length_replicate]); (try dsimp only); first | done | omega)))))) ?_))) sub_of (by omega) ⟨hil, by rw [htk, List.all_append, hal]; simp [hdg]⟩
      · have hdg : isDg c = false := decide_eq_false hd
        have hall : s.all isDg = false := by
          cases h : s.all isDg with
          | false => rfl
          | true => rw [List.all_eq_true.1 h c hmem] at hdg; cases hdg
        rw [hall, if_neg (by decide)]
        (first | refine au ?_ | exact au0 | fail)
        refine bsplit_dec (fun h2 => ?_) (fun h2 => ?_)
        all_goals
          (first | refine au ?_ | exact au0 | fail)
          exact fz_of
    · have : i = s.length := by omega
      subst this
      rw [List.take_length] at hal ⊢
      rw [hal, if_pos rfl]
      (first | refine au ?_ | exact au0 | fail)
      exact fz_of
theorem number_spec (s : List UInt8) (H : AH) : ACalls PG label_number.n [.str s] H fun r H' => r = .int .i64 (numL s) ∧ H' = H := (number_spec0 s).frame H
def parR (o : Option (Int × Nat)) : AV := match o with
  | some (lv, n) => .tup [labA lv n, .bool true]
  | none => .tup [labA 0 0, .bool false]
theorem cut_len (s p : List UInt8) : (Lib.cut s p).1.length ≤ s.length ∧ (Lib.cut s p).2.1.length ≤ s.length := by
  unfold Lib.cut
  split
  · exact ⟨by simp only [List.length_take]; omega, by simp only [List.length_drop]; omega⟩
  · exact ⟨Nat.le_refl _, by simp⟩
theorem trimS_len (s p : List UInt8) : (Lib.trimSuffix s p).length ≤ s.length := by
  unfold Lib.trimSuffix
  split
  · simp only [List.length_take]; omega
  · exact Nat.le_refl _
theorem splitK_len (sep : List UInt8) (sv : Nat) : ∀ (k : Nat) (s : List UInt8), (Lib.splitK sep sv k s).length ≤ k + 1
  | 0, s => by simp [Lib.splitK]
  | k + 1, s => by
    rw [Lib.splitK]
    split
    · simp
    · have := splitK_len sep sv k (s.drop ((Lib.index s sep).toNat + sep.length))
      rw [List.length_cons]; omega
theorem split_len (c : UInt8) (s : List UInt8) : (Lib.split s [c]).length ≤ s.length + 1 := by
  have := splitK_len [c] 0 (Lib.count s [c]) s
  have h2 : Lib.count s [c] ≤ s.length := by rw [Lib.count_one]; exact List.count_le_length
  unfold Lib.split; omega
theorem pow_rng {j : Nat} (h : j ≤ 63) : IntKind.wrap .u64 (1 * 2 ^ min (Int.toNat (j : Nat)) IntKind.u64.bits) = ((2 ^ j : Nat) : Int) := by
  have hpw : 2 ^ j < 18446744073709551616 := Nat.pow_lt_pow_right (a := 2) (n := 64) (by decide) (by omega)
  have e : min (Int.toNat (j : Nat)) IntKind.u64.bits = j := by simp [IntKind.bits]; omega
  have e2 : ((2 : Int) ^ j) = ((2 ^ j : Nat) : Int) := (Int.natCast_pow 2 j).symm
  rw [e, wrapU, Int.one_mul, e2]
  exact Int.emod_eq_of_lt (Int.natCast_nonneg _) (Int.ofNat_lt.2 hpw)
theorem labText_len (lv : Int) (n : Nat) (h0 : -9223372036854775808 ≤ lv) (h1 : lv ≤ 9223372036854775807) : (labText lv n).length ≤ 1500 := by
  have q1 := itoa_len lv h0 h1
  have q2 := decs_len (catN n 64)
  have q3 := catN_len n 64
  unfold labText
  simp only [List.length_append, List.length_cons, List.length_nil]
  omega
theorem Parse_spec0 (s : List UInt8) (hs : s.length ≤ 1000000) : ACalls PG label_Parse.n [.str s] [] fun r _ => r = parR (parseL s) := by
  have hc := cut_len s [123]
  have ht := trimS_len (Lib.cut s [123]).2.1 [125]
  have h1 := fun H => Cut_spec s [123] (by omega) H
  have h2 := fun H => CutSuffix_spec (Lib.cut s [123]).2.1 [125] (by omega) H
  have h3 := fun H => number_spec (Lib.cut s [123]).1 H
  have h4 := fun H => Split_spec (Lib.trimSuffix (Lib.cut s [123]).2.1 [125]) [44] (by omega) (by decide) H
  have hr := numL_range (Lib.cut s [123]).1
  have hwl := split_len 44 (Lib.trimSuffix (Lib.cut s [123]).2.1 [125])
  unfold parseL
  generalize (Lib.cut s [123]).2.2 = op at *
  generalize Lib.hasSuffix (Lib.cut s [123]).2.1 [125] = en at *
  generalize Lib.trimSuffix (Lib.cut s [123]).2.1 [125] = rest at *
  generalize numL (Lib.cut s [123]).1 = lv at *
  generalize (Lib.cut s [123]).1 = s1 at *
  generalize (Lib.cut s [123]).2.1 = s2 at *
  generalize Lib.split rest [44] = ws at *
  refine ACalls.fzK (label_Parse.of rfl (wpF_start ?_))
  (first | refine au ?_ | exact au0 | fail)
  intro id2 hid2 ht2; have n2 := neAll_of hid2; (try simp only [neAll, neAll_hset] at n2); have m2 := n2; (repeat (obtain ⟨_, m2⟩ := m2))
  (first | refine au ?_ | exact au0 | fail)
  first | refine callF_eq (h1 _) ?_ | refine callG_eq rfl (h1 _) ?_
  (first | refine au ?_ | exact au0 | fail)
  first | refine callF_eq (h2 _) ?_ | refine callG_eq rfl (h2 _) ?_
  (first | refine au ?_ | exact au0 | fail)
  first | refine callF_eq (h3 _) ?_ | refine callG_eq rfl (h3 _) ?_
  (first | refine au ?_ | exact au0 | fail)
  intro id8 hid8 ht8; have n8 := neAll_of hid8; (try simp only [neAll, neAll_hset] at n8); have m8 := n8; (repeat (obtain ⟨_, m8⟩ := m8))
  cases op with
  | false =>
    rw [if_pos (.inl rfl)]
    (first | refine au ?_ | exact au0 | fail)
    exact fz_of
  | true =>
  cases en with
  | false =>
    rw [if_pos (.inr (.inl rfl))]
    (first | refine au ?_ | exact au0 | fail)
    exact fz_of
  | true =>
  (first | refine au ?_ | exact au0 | fail)
  first | refine callF_eq (lab_May_spec lv 0 _) ?_ | refine callG_eq rfl (lab_May_spec lv 0 _) ?_
  unfold mayL
  by_cases hm : 0 ≤ lv ∧ lv ≤ 15
  rotate_left
  · rw [if_pos (.inr (.inr hm)), decide_eq_false hm]
    (first | refine au ?_ | exact au0 | fail)
    exact fz_of
  have hno : ¬ (true = false ∨ true = false ∨ ¬ (0 ≤ lv ∧ lv ≤ 15)) := by
    rintro (q | q | q)
    · cases q
    · cases q
    · exact q hm
  rw [if_neg hno, decide_eq_true hm]
  (first | refine au ?_ | exact au0 | fail)
  by_cases hr0 : rest = []
  · rw [if_pos hr0, decide_eq_true hr0]
    (first | refine au ?_ | exact au0 | fail)
    exact fz_of
  rw [if_neg hr0, decide_eq_false hr0]
  (first | refine au ?_ | exact au0 | fail)
  first | refine callF_eq (h4 _) ?_ | refine callG_eq rfl (h4 _) ?_
  (first | refine au ?_ | exact au0 | fail)
  have hjr : (joinRow ws).length = ws.length := by simp [joinRow]
  refine loopM (S := Nat × Nat × Int) [(2, some _), (8, some _), (43, some _), (44, some _)] (fun s => [(45, some (.int .i64 (s.1 : Nat))), (9, some (.int .i64 s.2.2))]) (fun s => [(id8, .rows 2 [labR lv s.2.1]), (id2, .rows 2 [[.int .i64 0, .int .u64 0]])]) (fun s => ws.length - s.1) (fun s => s.1 ≤ ws.length ∧ s.2.1 < 18446744073709551616 ∧ (-1 ≤ s.2.2 ∧ s.2.2 ≤ 63) ∧ catsP (ws.drop s.1) s.2.1 s.2.2 = catsP ws 0 (-1)) (0, 0, -1) (by repeat (first | exact trivial | refine And.intro (Or.inl rfl) ?_ | refine And.intro (Or.inr (Exists.intro _ (And.intro rfl (Fz.refl _)))) ?_ | refine And.intro (Or.inr (Exists.intro _ (And.intro rfl (fz_eq (congrArg (AV.int _) (by omega)))))) ?_ | refine And.intro (Or.inr (Exists.intro _ (And.intro rfl (fz_eq (congrArg (AV.own _ _ _) (by (try dsimp only); (try simp only [List.length_append, List.length_map, List.length_cons, List.length_nil, List.length_take, List.length_set, List.length_replicate]); (try dsimp only); first | done | omega)))))) ?_)) (Sub.refl _) ⟨Nat.zero_le _, by decide, by decide, rfl⟩ (fun s hs => ?_)
  obtain ⟨i, c, last⟩ := s
  obtain ⟨hi, hcl, hla, he⟩ := hs
  dsimp only at hi hcl hla he ⊢
  rw [← he]
  (first | refine au ?_ | exact au0 | fail)
  refine bsplit_dec (fun hh => ?_) (fun hh => ?_)
  · have hil : i < ws.length := by omega
    have hg : (joinRow ws).getD (Int.toNat (i : Nat)) [] = [.str ws[i]] := row_get (f := fun s => [AV.str s]) hil
    have hd : ws.drop i = ws[i] :: ws.drop (i + 1) := List.drop_eq_getElem_cons hil
    have hn := fun H => number_spec ws[i] H
    have hnr := numL_range ws[i]
    rw [hd]
    simp only [catsP]
    generalize numL ws[i] = k at *
    generalize ws[i] = w at *
    (first | refine au ?_ | exact au0 | fail)
    rw [hg]
    (first | refine au ?_ | exact au0 | fail)
    first | refine callF_eq (hn _) ?_ | refine callG_eq rfl (hn _) ?_
    by_cases hk : k ≤ last ∨ 64 ≤ k
    · rw [if_pos hk]
      (first | refine au ?_ | exact au0 | fail)
      refine bsplit_dec (fun q => ?_) (fun q => ?_)
      all_goals
        (first | refine au ?_ | exact au0 | fail)
        exact fz_of
    · rw [if_neg hk]
      obtain ⟨j, rfl⟩ : ∃ j : Nat, k = j := ⟨k.toNat, by omega⟩
      have hpw : 2 ^ j < 18446744073709551616 := Nat.pow_lt_pow_right (a := 2) (n := 64) (by decide) (by omega)
      (first | refine au ?_ | exact au0 | fail)
      refine rng_id (n := ((2 ^ j : Nat) : Int)) (pow_rng (by omega)) ?_
      (first | refine au ?_ | exact au0 | fail)
      rw [or_val hcl hpw]
      (first | refine au ?_ | exact au0 | fail)
      exact nextS (S := Nat × Nat × Int) (i + 1, c ||| 2 ^ j, (j : Int)) (by repeat (first | exact trivial | refine And.intro (Or.inl rfl) ?_ | refine And.intro (Or.inr (Exists.intro _ (And.intro rfl (Fz.refl _)))) ?_ | refine And.intro (Or.inr (Exists.intro _ (And.intro rfl (fz_eq (congrArg (AV.int _) (by omega)))))) ?_ | refine And.intro (Or.inr (Exists.intro _ (And.intro rfl (fz_eq (congrArg (AV.own _ _ _) (by (try dsimp only); (try simp only [List.length_append, List.length_map, List.length_cons, List.length_nil, List.length_take, List.length_set, List.length_replicate]); (try dsimp only); first | done | omega)))))) ?_)) sub_of (by dsimp only; omega) ⟨hil, Nat.or_lt_two_pow (n := 64) hcl hpw, by dsimp only; omega, rfl⟩
  · have : i = ws.length := by omega
    subst this
    rw [List.drop_length]
    (first | refine au ?_ | exact au0 | fail)
    exact fz_of
theorem Parse_spec (s : List UInt8) (hs : s.length ≤ 1000000) (H : AH) : ACalls PG label_Parse.n [.str s] H fun r H' => r = parR (parseL s) ∧ H' = H := (Parse_spec0 s hs).frame H
end Go.Proofs.YtlabklehgfdibaaDoor

/- Shapes of types, a level at a time; for types that hold themselves. -/
namespace Go.Proofs.YtlabklehgfdibaaDoor
set_option autoImplicit false
set_option linter.unusedVariables false
section
variable {P : Program} {rc : Bool} {n : Nat} {t e : TypeId}
def flOf (P : Program) (t : TypeId) : Option (List (Nat × Nat)) := match P.underlying t with
  | some (.struct fs) => some (fs.toList.map fun f => (f.offset, f.type))
  | _ => none
def slOf (P : Program) (t : TypeId) : Option TypeId := match P.underlying t with
  | some (.slice e) => some e
  | _ => none
def inOf (P : Program) (t : TypeId) : Option IntKind := match P.underlying t with
  | some (.int k) => some k
  | _ => none
def boOf (P : Program) (t : TypeId) : Bool := match P.underlying t with
  | some .bool => true
  | _ => false
def stOf (P : Program) (t : TypeId) : Bool := match P.underlying t with
  | some .string => true
  | _ => false
/-- Fields, one behind the other: each with its offset, cells and type. -/
def fsh (sh : TypeId → Option Sh) : List (Nat × Nat × Nat) → Option Sh
  | [] => some .u
  | (_, _, t) :: r => (sh t).bind fun a => (fsh sh r).map (.p a)
def flC (P : Program) (t : TypeId) : Option (List (Nat × Nat × Nat)) := (flOf P t).map fun l => l.map fun x => (x.1, P.cellsOf x.2, x.2)
def offB : Nat → Nat → List (Nat × Nat × Nat) → Bool
  | tot, o, [] => Nat.beq o tot
  | tot, o, (a, c, _) :: r => Nat.beq a o && offB tot (o + c) r
theorem fsh_of (sh : TypeId → Option Sh) : ∀ (fs : List Field) (tot o : Nat), offB tot o (fs.map fun f => (f.offset, P.cellsOf f.type, f.type)) = true → fieldsSh P sh tot o fs = fsh sh (fs.map fun f => (f.offset, P.cellsOf f.type, f.type))
  | [], tot, o, h => by
    have : o = tot := Nat.eq_of_beq_eq_true h
    simp [fieldsSh, fsh, this]
  | f :: fs, tot, o, h => by
    simp only [List.map_cons, offB, Bool.and_eq_true] at h
    have h1 : f.offset = o := Nat.eq_of_beq_eq_true h.1
    have := fsh_of sh fs tot (o + P.cellsOf f.type) h.2
    simp only [fieldsSh, fsh, List.map_cons, if_pos h1, this]
theorem shO_struct {l : List (Nat × Nat × Nat)} (h : flC P t = some l) (ho : offB (P.cellsOf t) 0 l = true) : shO rc P (n + 1) t = fsh (shO rc P n) l := by
  unfold flC flOf at h
  split at h
  · rename_i fs hu
    simp only [Option.map_some, List.map_map, Option.some.injEq] at h
    subst h
    simp only [shO, hu]
    exact fsh_of _ _ _ _ ho
  · cases h
theorem shO_slice {c b : Nat} (h : slOf P t = some e) (hc : P.cellsOf e = c) (hb : P.bytesOf e = b) (h0 : 0 < c) : shO rc P (n + 1) t = (shO rc P n e).map (.slice c b) := by
  unfold slOf at h
  split at h
  · rename_i hu
    simp only [Option.some.injEq] at h
    subst h
    simp only [shO, hu, hc, hb, if_pos h0]
  · cases h
theorem shO_int {k : IntKind} (h : inOf P t = some k) : shO rc P (n + 1) t = some (.int k) := by
  unfold inOf at h
  split at h
  · rename_i hu
    simp only [Option.some.injEq] at h
    subst h
    simp only [shO, hu]
  · cases h
theorem shO_bool (h : boOf P t = true) : shO rc P (n + 1) t = some .bool := by
  unfold boOf at h
  split at h
  · rename_i hu
    simp only [shO, hu]
  · cases h
theorem shO_str (h : stOf P t = true) : shO rc P (n + 1) t = some .str := by
  unfold stOf at h
  split at h
  · rename_i hu
    simp only [shO, hu]
  · cases h
theorem fsh_some {sh : TypeId → Option Sh} : ∀ {l : List (Nat × Nat × Nat)}, (∀ x ∈ l, ∃ a, sh x.2.2 = some a) → ∃ a, fsh sh l = some a
  | [], _ => ⟨_, rfl⟩
  | x :: l, h => by
    obtain ⟨a, ha⟩ := h x List.mem_cons_self
    obtain ⟨b, hb⟩ := fsh_some (l := l) fun y hy => h y (List.mem_cons_of_mem _ hy)
    exact ⟨_, by simp only [fsh, ha, hb, Option.bind_some, Option.map_some]; rfl⟩
/-- A set of types that is closed has shapes at each depth. -/
def clB (P : Program) (S : List Nat) : Bool := S.all fun t => match P.underlying t with
  | some .bool => true
  | some (.int _) => true
  | some .string => true
  | some (.struct fs) => (match flC P t with
    | some l => offB (P.cellsOf t) 0 l && l.all (fun x => S.contains x.2.2)
    | none => false)
  | some (.slice e) => Nat.ble 1 (P.cellsOf e) && S.contains e
  | _ => false
theorem clB_some {S : List Nat} (h : clB P S = true) : ∀ (n : Nat) (t : Nat), t ∈ S → ∃ sh, shO true P n t = some sh
  | 0, t, _ => ⟨.no, rfl⟩
  | n + 1, t, ht => by
    have q := List.all_eq_true.1 h t ht
    have ih := clB_some h n
    split at q <;> rename_i hu
    · exact ⟨_, by simp only [shO, hu]; rfl⟩
    · exact ⟨_, by simp only [shO, hu]; rfl⟩
    · exact ⟨_, by simp only [shO, hu]; rfl⟩
    · split at q
      · rename_i l hl
        simp only [Bool.and_eq_true, List.all_eq_true, List.contains_iff_mem] at q
        rw [shO_struct hl q.1]
        exact fsh_some fun x hx => ih _ (q.2 x hx)
      · cases q
    · simp only [Bool.and_eq_true, List.contains_iff_mem] at q
      obtain ⟨a, ha⟩ := ih _ q.2
      exact ⟨_, by simp only [shO, hu, if_pos (show 0 < P.cellsOf _ from Nat.le_of_ble_eq_true q.1), ha, Option.map_some]; rfl⟩
    · cases q
end
section
variable {P : Program} {m : Nat} {t e : TypeId} {a sh : Sh} {x vs : List AV}
theorem okInt {k : IntKind} (h : inOf P t = some k) (hs : shO true P m t = some a) (ho : a.OkN x) : ∃ n, x = [.int k n] ∧ k.min ≤ n ∧ n ≤ k.max := by
  cases m with
  | zero => simp only [shO, if_true, Option.some.injEq] at hs; subst hs; exact ho.elim
  | succ m =>
    rw [shO_int h] at hs
    simp only [Option.some.injEq] at hs; subst hs
    obtain ⟨n, h1, h2⟩ := ho
    simp only [Lit.wf, Bool.and_eq_true, decide_eq_true_eq] at h2
    exact ⟨n, h1, h2⟩
theorem okU64 (h : inOf P t = some .u64) (hs : shO true P m t = some a) (ho : a.OkN x) : ∃ n : Nat, x = [.int .u64 (n : Nat)] ∧ n < 18446744073709551616 := by
  obtain ⟨n, h1, h2, h3⟩ := okInt h hs ho
  have e1 : IntKind.min .u64 = 0 := rfl
  have e2 : IntKind.max .u64 = 18446744073709551615 := rfl
  rw [e1] at h2; rw [e2] at h3
  exact ⟨n.toNat, by rw [h1, Int.toNat_of_nonneg h2], by omega⟩
theorem okI64 (h : inOf P t = some .i64) (hs : shO true P m t = some a) (ho : a.OkN x) : ∃ n : Int, x = [.int .i64 n] ∧ -9223372036854775808 ≤ n ∧ n ≤ 9223372036854775807 := okInt h hs ho
theorem okU8 (h : inOf P t = some .u8) (hs : shO true P m t = some a) (ho : a.OkN x) : ∃ n : UInt8, x = [.int .u8 (n.toNat : Nat)] := by
  obtain ⟨n, h1, h2, h3⟩ := okInt h hs ho
  have e1 : IntKind.min .u8 = 0 := rfl
  have e2 : IntKind.max .u8 = 255 := rfl
  rw [e1] at h2; rw [e2] at h3
  refine ⟨UInt8.ofNat n.toNat, ?_⟩
  rw [h1, UInt8.toNat_ofNat', show n.toNat % 2 ^ 8 = n.toNat from by omega, Int.toNat_of_nonneg h2]
theorem okBool (h : boOf P t = true) (hs : shO true P m t = some a) (ho : a.OkN x) : ∃ b, x = [.bool b] := by
  cases m with
  | zero => simp only [shO, if_true, Option.some.injEq] at hs; subst hs; exact ho.elim
  | succ m =>
    rw [shO_bool h] at hs
    simp only [Option.some.injEq] at hs; subst hs
    exact ho
theorem okStr (h : stOf P t = true) (hs : shO true P m t = some a) (ho : a.OkN x) : ∃ l : List UInt8, x = [.str l] ∧ l.length ≤ 140737488351232 := by
  cases m with
  | zero => simp only [shO, if_true, Option.some.injEq] at hs; subst hs; exact ho.elim
  | succ m =>
    rw [shO_str h] at hs
    simp only [Option.some.injEq] at hs; subst hs
    exact ho
theorem okSlice {c b : Nat} (h : slOf P t = some e) (hc : P.cellsOf e = c) (hb : P.bytesOf e = b) (h0 : 0 < c) (hs : shO true P m t = some a) (ho : a.OkN x) :
    ∃ l, x = [.rows c l] ∧ l.length * b ≤ 140737488351232 ∧ ∃ k a', m = k + 1 ∧ shO true P k e = some a' ∧ ∀ r ∈ l, a'.OkN r := by
  cases m with
  | zero => simp only [shO, if_true, Option.some.injEq] at hs; subst hs; exact ho.elim
  | succ m =>
    rw [shO_slice h hc hb h0] at hs
    simp only [Option.map_eq_some_iff] at hs
    obtain ⟨a', h1, rfl⟩ := hs
    obtain ⟨l, h2, h3, h4⟩ := ho
    exact ⟨l, h2, h3, m, a', rfl, h1, h4⟩
theorem okStruct {l : List (Nat × Nat × Nat)} (h : flC P t = some l) (ho : offB (P.cellsOf t) 0 l = true) (hs : shO true P m t = some a) (hk : a.OkN x) : ∃ k, m = k + 1 ∧ fsh (shO true P k) l = some a := by
  cases m with
  | zero => simp only [shO, if_true, Option.some.injEq] at hs; subst hs; exact hk.elim
  | succ m => exact ⟨m, rfl, by rw [← shO_struct h ho]; exact hs⟩
theorem okCons {s : TypeId → Option Sh} {o c : Nat} {r : List (Nat × Nat × Nat)} (h : fsh s ((o, c, t) :: r) = some sh) (hk : sh.OkN vs) :
    ∃ a x b y, s t = some a ∧ a.OkN x ∧ fsh s r = some b ∧ b.OkN y ∧ vs = x ++ y := by
  simp only [fsh, Option.bind_eq_some_iff, Option.map_eq_some_iff] at h
  obtain ⟨a, h1, b, h2, rfl⟩ := h
  obtain ⟨x, y, h3, h4, h5⟩ := hk
  exact ⟨a, x, b, y, h1, h4, h2, h5, h3⟩
theorem okNil {s : TypeId → Option Sh} (h : fsh s [] = some sh) (hk : sh.OkN vs) : vs = [] := by
  simp only [fsh, Option.some.injEq] at h
  subst h; exact hk
end
/-- Rows that each stand for something. -/
theorem rows_of {α : Type} {f : α → List AV} {Q : α → Prop} : ∀ {l : List (List AV)}, (∀ r ∈ l, ∃ x, r = f x ∧ Q x) → ∃ xs : List α, l = xs.map f ∧ ∀ x ∈ xs, Q x
  | [], _ => ⟨[], rfl, by simp⟩
  | r :: l, h => by
    obtain ⟨x, h1, h2⟩ := h r List.mem_cons_self
    obtain ⟨xs, h3, h4⟩ := rows_of (l := l) fun r hr => h r (List.mem_cons_of_mem _ hr)
    refine ⟨x :: xs, by rw [h1, h3]; rfl, fun y hy => ?_⟩
    rcases List.mem_cons.1 hy with rfl | hy
    · exact h2
    · exact h4 y hy
end Go.Proofs.YtlabklehgfdibaaDoor

/- The laws of labels, walked, and from their arguments' shapes. -/
namespace Go.Proofs.YtlabklehgfdibaaDoor
set_option autoImplicit false
set_option linter.unusedSimpArgs false
set_option linter.unusedVariables false
attribute [local irreducible] callA callP ACalls
theorem lab_awake_spec0 : ACalls PG broadsheetlaw23_awake.n [] [] fun r _ => r = .bool true := by
  refine ACalls.fzK (broadsheetlaw23_awake.of rfl (wpF_start ?_))
  have hp := Parse_spec [51, 123, 48, 44, 53, 125] (by decide)
  rw [parse_ex] at hp
  have ht := fun H => lab_Text_spec 3 33 (by decide) (by decide) (by decide) H
  rw [text_ex] at ht
  (first | refine au ?_ | exact au0 | fail)
  first | refine callF_eq (hp _) ?_ | refine callG_eq rfl (hp _) ?_
  (first | refine au ?_ | exact au0 | fail)
  intro id1 hid1 ht1; have n1 := neAll_of hid1; (try simp only [neAll, neAll_hset] at n1); have m1 := n1; (repeat (obtain ⟨_, m1⟩ := m1))
  (first | refine au ?_ | exact au0 | fail)
  refine ⟨true, by simp [eqCells, over, AV.cells], ?_⟩
  (first | refine au ?_ | exact au0 | fail)
  first | refine callF_eq (ht _) ?_ | refine callG_eq rfl (ht _) ?_
  (first | refine au ?_ | exact au0 | fail)
  exact fz_of
theorem lab_awake_spec (H : AH) : ACalls PG broadsheetlaw23_awake.n [] H fun r H' => r = .bool true ∧ H' = H := lab_awake_spec0.frame H
theorem LabelTells_spec (la : Int) (a : Nat) (lb : Int) (b : Nat) (h0 : -9223372036854775808 ≤ la) (h1 : la ≤ 9223372036854775807) (ha : a < 18446744073709551616) (hb : b < 18446744073709551616) : ACalls PG broadsheetlaw23_LabelTells.n [labA la a, labA lb b] [] fun r _ => r = .bool true := by
  refine ACalls.fzK (broadsheetlaw23_LabelTells.of rfl (wpF_start ?_))
  have e1 := fun H => lab_May_spec la a H
  have e2 := fun H => r23_May_spec la a H
  have e3 := fun H => lab_Leq_spec la a lb b ha hb H
  have e4 := fun H => r23_Leq_spec la a lb b ha hb H
  have e5 := fun H => lab_Join_spec la a lb b ha hb H
  have e6 := fun H => r23_Join_spec la a lb b ha hb H
  have e7 := fun H => lab_Meet_spec la a lb b ha hb H
  have e8 := fun H => r23_Meet_spec la a lb b ha hb H
  have e9 := fun H => lab_Text_spec la a h0 h1 ha H
  have e10 := fun H => (r23_Text_spec0 la a h0 h1 ha).frame H
  generalize mayL la = x1 at *
  generalize (decide (la ≤ lb) && subB a b) = x2 at *
  generalize max la lb = x3 at *
  generalize a ||| b = x4 at *
  generalize min la lb = x5 at *
  generalize a &&& b = x6 at *
  generalize labText la a = x7 at *
  (first | refine au ?_ | exact au0 | fail)
  intro id2 hid2 ht2; have n2 := neAll_of hid2; (try simp only [neAll, neAll_hset] at n2); have m2 := n2; (repeat (obtain ⟨_, m2⟩ := m2))
  (first | refine au ?_ | exact au0 | fail)
  intro id3 hid3 ht3; have n3 := neAll_of hid3; (try simp only [neAll, neAll_hset] at n3); have m3 := n3; (repeat (obtain ⟨_, m3⟩ := m3))
  (first | refine au ?_ | exact au0 | fail)
  first | refine callF_eq (e1 _) ?_ | refine callG_eq rfl (e1 _) ?_
  (first | refine au ?_ | exact au0 | fail)
  first | refine callF_eq (e2 _) ?_ | refine callG_eq rfl (e2 _) ?_
  cases x1
  all_goals
    (first | refine au ?_ | exact au0 | fail)
    first | refine callF_eq (e3 _) ?_ | refine callG_eq rfl (e3 _) ?_
    (first | refine au ?_ | exact au0 | fail)
    first | refine callF_eq (e4 _) ?_ | refine callG_eq rfl (e4 _) ?_
    cases x2
    all_goals
      (first | refine au ?_ | exact au0 | fail)
      first | refine callF_eq (e5 _) ?_ | refine callG_eq rfl (e5 _) ?_
      (first | refine au ?_ | exact au0 | fail)
      first | refine callF_eq (e6 _) ?_ | refine callG_eq rfl (e6 _) ?_
      (first | refine au ?_ | exact au0 | fail)
      refine ⟨true, by simp [eqCells, over, AV.cells], ?_⟩
      (first | refine au ?_ | exact au0 | fail)
      first | refine callF_eq (e7 _) ?_ | refine callG_eq rfl (e7 _) ?_
      (first | refine au ?_ | exact au0 | fail)
      first | refine callF_eq (e8 _) ?_ | refine callG_eq rfl (e8 _) ?_
      (first | refine au ?_ | exact au0 | fail)
      refine ⟨true, by simp [eqCells, over, AV.cells], ?_⟩
      (first | refine au ?_ | exact au0 | fail)
      first | refine callF_eq (e9 _) ?_ | refine callG_eq rfl (e9 _) ?_
      (first | refine au ?_ | exact au0 | fail)
      first | refine callF_eq (e10 _) ?_ | refine callG_eq rfl (e10 _) ?_
      (first | refine au ?_ | exact au0 | fail)
      rw [decide_eq_true (rfl : x7 = x7)]
      (first | refine au ?_ | exact au0 | fail)
      first | refine callF_eq (lab_awake_spec _) ?_ | refine callG_eq rfl (lab_awake_spec _) ?_
      (first | refine au ?_ | exact au0 | fail)
      exact fz_of
set_option maxHeartbeats 3200000 in
theorem LabelOrder_spec (la : Int) (a : Nat) (lb : Int) (b : Nat) (lc : Int) (c : Nat) (h0 : -9223372036854775808 ≤ la) (h1 : la ≤ 9223372036854775807) (ha : a < 18446744073709551616) (hb : b < 18446744073709551616) (hc : c < 18446744073709551616) : ACalls PG broadsheetlaw23_LabelOrder.n [labA la a, labA lb b, labA lc c] [] fun r _ => r = .bool true := by
  refine ACalls.fzK (broadsheetlaw23_LabelOrder.of rfl (wpF_start ?_))
  have hor := Nat.or_lt_two_pow (n := 64) ha hb
  have han := Nat.and_lt_two_pow (n := 64) a hb
  have e1 := fun H => lab_Join_spec la a lb b ha hb H
  have e2 := fun H => lab_Meet_spec la a lb b ha hb H
  have saa := fun H => lab_Leq_spec la a la a ha ha H
  have sab := fun H => lab_Leq_spec la a lb b ha hb H
  have sba := fun H => lab_Leq_spec lb b la a hb ha H
  have sbc := fun H => lab_Leq_spec lb b lc c hb hc H
  have sac := fun H => lab_Leq_spec la a lc c ha hc H
  have sca := fun H => lab_Leq_spec lc c la a hc ha H
  have scb := fun H => lab_Leq_spec lc c lb b hc hb H
  have saj := fun H => lab_Leq_spec la a (max la lb) (a ||| b) ha hor H
  have sbj := fun H => lab_Leq_spec lb b (max la lb) (a ||| b) hb hor H
  have sma := fun H => lab_Leq_spec (min la lb) (a &&& b) la a han ha H
  have smb := fun H => lab_Leq_spec (min la lb) (a &&& b) lb b han hb H
  have sjc := fun H => lab_Leq_spec (max la lb) (a ||| b) lc c hor hc H
  have scm := fun H => lab_Leq_spec lc c (min la lb) (a &&& b) hc han H
  have smay := fun H => lab_May_spec la a H
  have stx := fun H => lab_Text_spec la a h0 h1 ha H
  have hil := labText_len la a h0 h1
  have spt := fun H => Parse_spec (labText la a) (by omega) H
  rw [parse_text la ha] at spt
  rw [labLe_refl la ha] at saa
  rw [labLe_joinL la lb ha hb] at saj
  rw [labLe_joinR la lb ha hb] at sbj
  rw [labLe_meetL la lb ha hb] at sma
  rw [labLe_meetR la lb ha hb] at smb
  rw [labLe_join la lb lc ha hb] at sjc
  rw [labLe_meet la lb lc hc] at scm
  have t1 := labLe_anti la lb ha hb
  have t2 := labLe_trans la lb lc ha hb (c := c)
  have t3 := labLe_eqJ la lb ha hb
  have t4 := labLe_eqM la lb ha (b := b)
  generalize (decide (la ≤ lb) && subB a b) = x1 at *
  generalize (decide (lb ≤ la) && subB b a) = x2 at *
  generalize (decide (lb ≤ lc) && subB b c) = x3 at *
  generalize (decide (la ≤ lc) && subB a c) = x4 at *
  generalize (decide (lc ≤ la) && subB c a) = x5 at *
  generalize (decide (lc ≤ lb) && subB c b) = x6 at *
  generalize max la lb = lj at *
  generalize a ||| b = j at *
  generalize min la lb = lm at *
  generalize a &&& b = m at *
  generalize labText la a = tt at *
  have dn : ∀ p q : Nat, decide ((p : Int) = (q : Int)) = decide (p = q) := fun p q => decide_eq_decide.2 (by omega)
  have E1 : eqCells [.i .i64, .i .u64] (labR la a) (labR lb b) = some (x1 && x2) := by rw [t1]; simp [eqCells, dn]
  have E2 : eqCells [.i .i64, .i .u64] (labR lj j) (labR lb b) = some x1 := by rw [t3]; simp [eqCells, dn]
  have E3 : eqCells [.i .i64, .i .u64] (labR lm m) (labR la a) = some x1 := by rw [t4]; simp [eqCells, dn]
  have E4 : eqCells [.i .i64, .i .u64] (labR la a) (labR la a) = some true := by simp [eqCells]
  have W := fun H => lab_awake_spec H
  clear t1 t3 t4 hil hor han
  (first | refine au ?_ | exact au0 | fail)
  intro id2 hid2 ht2; have n2 := neAll_of hid2; (try simp only [neAll, neAll_hset] at n2); have m2 := n2; (repeat (obtain ⟨_, m2⟩ := m2))
  (first | refine au ?_ | exact au0 | fail)
  intro id3 hid3 ht3; have n3 := neAll_of hid3; (try simp only [neAll, neAll_hset] at n3); have m3 := n3; (repeat (obtain ⟨_, m3⟩ := m3))
  (first | refine au ?_ | exact au0 | fail)
  intro id4 hid4 ht4; have n4 := neAll_of hid4; (try simp only [neAll, neAll_hset] at n4); have m4 := n4; (repeat (obtain ⟨_, m4⟩ := m4))
  (first | refine au ?_ | exact au0 | fail)
  first | refine callF_eq (e1 _) ?_ | refine callG_eq rfl (e1 _) ?_
  (first | refine au ?_ | exact au0 | fail)
  first | refine callF_eq (e2 _) ?_ | refine callG_eq rfl (e2 _) ?_
  (first | refine au ?_ | exact au0 | fail)
  intro id5 hid5 ht5; have n5 := neAll_of hid5; (try simp only [neAll, neAll_hset] at n5); have m5 := n5; (repeat (obtain ⟨_, m5⟩ := m5))
  (first | refine au ?_ | exact au0 | fail)
  intro id6 hid6 ht6; have n6 := neAll_of hid6; (try simp only [neAll, neAll_hset] at n6); have m6 := n6; (repeat (obtain ⟨_, m6⟩ := m6))
  clear e1 e2
  (first | refine ab ?_ | exact ab0 | fail)
  refine joinP [(3, some (.ptr id2 2 0 0)), (4, some (.ptr id3 2 0 0)), (5, some (.ptr id4 2 0 0)), (7, some (.ptr id5 2 0 0)), (8, some (.ptr id6 2 0 0))] [(id6, .rows 2 [labR lm m]), (id5, .rows 2 [labR lj j]), (id4, .rows 2 [labR lc c]), (id3, .rows 2 [labR lb b]), (id2, .rows 2 [labR la a])] True ?_ (fun _ => ?_)
  · (repeat' (first | (refine au ?_; first | refine callG_eq rfl (saa _) ?_ | refine callF_eq (saa _) ?_ | refine callG_eq rfl (sab _) ?_ | refine callF_eq (sab _) ?_ | refine callG_eq rfl (sba _) ?_ | refine callF_eq (sba _) ?_ | refine callG_eq rfl (sbc _) ?_ | refine callF_eq (sbc _) ?_ | refine callG_eq rfl (sac _) ?_ | refine callF_eq (sac _) ?_ | refine ⟨_, E1, ?_⟩ | refine ⟨_, E2, ?_⟩ | refine ⟨_, E3, ?_⟩ | refine ⟨_, E4, ?_⟩ | exact fz_of | exact metP (by repeat (first | exact trivial | refine And.intro (Or.inl rfl) ?_ | refine And.intro (Or.inr (Exists.intro _ (And.intro rfl (Fz.refl _)))) ?_ | refine And.intro (Or.inr (Exists.intro _ (And.intro rfl (fz_eq (congrArg (AV.int _) (by omega)))))) ?_ | refine And.intro (Or.inr (Exists.intro _ (And.intro rfl (fz_eq (congrArg (AV.own _ _ _) (by (try dsimp only); (try simp only [List.length_append, List.length_map, List.length_cons, List.length_nil, List.length_take, List.length_set, List.length_replicate]); (try dsimp only); first | done | omega)))))) ?_)) (by exact sub_of) trivial | (refine bsplit_intro (fun h => ?_) (fun h => ?_) <;> subst h) | exact absurd (t2 rfl rfl) (by decide) | (refine (show bsplit (x2 == _) _ from ?_); cases x2) | (refine (show bsplit (x3 == _) _ from ?_); cases x3) | (refine (show bsplit (x6 == _) _ from ?_); cases x6)) | exact au0))
  (first | refine ab ?_ | exact ab0 | fail)
  refine joinP [(3, some (.ptr id2 2 0 0)), (4, some (.ptr id3 2 0 0)), (5, some (.ptr id4 2 0 0)), (7, some (.ptr id5 2 0 0)), (8, some (.ptr id6 2 0 0))] [(id6, .rows 2 [labR lm m]), (id5, .rows 2 [labR lj j]), (id4, .rows 2 [labR lc c]), (id3, .rows 2 [labR lb b]), (id2, .rows 2 [labR la a])] True ?_ (fun _ => ?_)
  · (repeat' (first | (refine au ?_; first | refine callG_eq rfl (saj _) ?_ | refine callF_eq (saj _) ?_ | refine callG_eq rfl (sbj _) ?_ | refine callF_eq (sbj _) ?_ | refine callG_eq rfl (sma _) ?_ | refine callF_eq (sma _) ?_ | refine callG_eq rfl (smb _) ?_ | refine callF_eq (smb _) ?_ | refine ⟨_, E1, ?_⟩ | refine ⟨_, E2, ?_⟩ | refine ⟨_, E3, ?_⟩ | refine ⟨_, E4, ?_⟩ | exact fz_of | exact metP (by repeat (first | exact trivial | refine And.intro (Or.inl rfl) ?_ | refine And.intro (Or.inr (Exists.intro _ (And.intro rfl (Fz.refl _)))) ?_ | refine And.intro (Or.inr (Exists.intro _ (And.intro rfl (fz_eq (congrArg (AV.int _) (by omega)))))) ?_ | refine And.intro (Or.inr (Exists.intro _ (And.intro rfl (fz_eq (congrArg (AV.own _ _ _) (by (try dsimp only); (try simp only [List.length_append, List.length_map, List.length_cons, List.length_nil, List.length_take, List.length_set, List.length_replicate]); (try dsimp only); first | done | omega)))))) ?_)) (by exact sub_of) trivial | (refine bsplit_intro (fun h => ?_) (fun h => ?_) <;> subst h) | exact absurd (t2 rfl rfl) (by decide) | (refine (show bsplit (x2 == _) _ from ?_); cases x2) | (refine (show bsplit (x3 == _) _ from ?_); cases x3) | (refine (show bsplit (x6 == _) _ from ?_); cases x6)) | exact au0))
  (first | refine ab ?_ | exact ab0 | fail)
  refine joinP [(3, some (.ptr id2 2 0 0)), (4, some (.ptr id3 2 0 0)), (5, some (.ptr id4 2 0 0)), (7, some (.ptr id5 2 0 0)), (8, some (.ptr id6 2 0 0))] [(id6, .rows 2 [labR lm m]), (id5, .rows 2 [labR lj j]), (id4, .rows 2 [labR lc c]), (id3, .rows 2 [labR lb b]), (id2, .rows 2 [labR la a])] True ?_ (fun _ => ?_)
  · (repeat' (first | (refine au ?_; first | refine callG_eq rfl (sac _) ?_ | refine callF_eq (sac _) ?_ | refine callG_eq rfl (sbc _) ?_ | refine callF_eq (sbc _) ?_ | refine callG_eq rfl (sjc _) ?_ | refine callF_eq (sjc _) ?_ | refine callG_eq rfl (sca _) ?_ | refine callF_eq (sca _) ?_ | refine callG_eq rfl (scb _) ?_ | refine callF_eq (scb _) ?_ | refine callG_eq rfl (scm _) ?_ | refine callF_eq (scm _) ?_ | refine ⟨_, E1, ?_⟩ | refine ⟨_, E2, ?_⟩ | refine ⟨_, E3, ?_⟩ | refine ⟨_, E4, ?_⟩ | exact fz_of | exact metP (by repeat (first | exact trivial | refine And.intro (Or.inl rfl) ?_ | refine And.intro (Or.inr (Exists.intro _ (And.intro rfl (Fz.refl _)))) ?_ | refine And.intro (Or.inr (Exists.intro _ (And.intro rfl (fz_eq (congrArg (AV.int _) (by omega)))))) ?_ | refine And.intro (Or.inr (Exists.intro _ (And.intro rfl (fz_eq (congrArg (AV.own _ _ _) (by (try dsimp only); (try simp only [List.length_append, List.length_map, List.length_cons, List.length_nil, List.length_take, List.length_set, List.length_replicate]); (try dsimp only); first | done | omega)))))) ?_)) (by exact sub_of) trivial | (refine bsplit_intro (fun h => ?_) (fun h => ?_) <;> subst h) | exact absurd (t2 rfl rfl) (by decide) | (refine (show bsplit (x2 == _) _ from ?_); cases x2) | (refine (show bsplit (x3 == _) _ from ?_); cases x3) | (refine (show bsplit (x6 == _) _ from ?_); cases x6)) | exact au0))
  by_cases hm : 0 ≤ la ∧ la ≤ 15
  · rw [if_pos hm] at spt
    rw [show mayL la = true from decide_eq_true hm] at smay
    clear hm
    cases x1
    all_goals
      (repeat' (first | (refine au ?_; first | refine callG_eq rfl (stx _) ?_ | refine callF_eq (stx _) ?_ | refine callG_eq rfl (spt _) ?_ | refine callF_eq (spt _) ?_ | refine callG_eq rfl (smay _) ?_ | refine callF_eq (smay _) ?_ | refine callG_eq rfl (sab _) ?_ | refine callF_eq (sab _) ?_ | refine callG_eq rfl (W _) ?_ | refine callF_eq (W _) ?_ | refine ⟨_, E1, ?_⟩ | refine ⟨_, E2, ?_⟩ | refine ⟨_, E3, ?_⟩ | refine ⟨_, E4, ?_⟩ | (intro id9 hid9 ht9; have n9 := neAll_of hid9; (try simp only [neAll, neAll_hset] at n9); have m9 := n9; (repeat (obtain ⟨_, m9⟩ := m9))) | exact fz_of | exact metP (by repeat (first | exact trivial | refine And.intro (Or.inl rfl) ?_ | refine And.intro (Or.inr (Exists.intro _ (And.intro rfl (Fz.refl _)))) ?_ | refine And.intro (Or.inr (Exists.intro _ (And.intro rfl (fz_eq (congrArg (AV.int _) (by omega)))))) ?_ | refine And.intro (Or.inr (Exists.intro _ (And.intro rfl (fz_eq (congrArg (AV.own _ _ _) (by (try dsimp only); (try simp only [List.length_append, List.length_map, List.length_cons, List.length_nil, List.length_take, List.length_set, List.length_replicate]); (try dsimp only); first | done | omega)))))) ?_)) (by exact sub_of) trivial | (refine bsplit_intro (fun h => ?_) (fun h => ?_) <;> subst h) | exact absurd (t2 rfl rfl) (by decide) | (refine (show bsplit (x2 == _) _ from ?_); cases x2) | (refine (show bsplit (x3 == _) _ from ?_); cases x3) | (refine (show bsplit (x6 == _) _ from ?_); cases x6)) | exact au0))
  · rw [if_neg hm] at spt
    rw [show mayL la = false from decide_eq_false hm] at smay
    clear hm
    cases x1
    all_goals
      (repeat' (first | (refine au ?_; first | refine callG_eq rfl (stx _) ?_ | refine callF_eq (stx _) ?_ | refine callG_eq rfl (spt _) ?_ | refine callF_eq (spt _) ?_ | refine callG_eq rfl (smay _) ?_ | refine callF_eq (smay _) ?_ | refine callG_eq rfl (sab _) ?_ | refine callF_eq (sab _) ?_ | refine callG_eq rfl (W _) ?_ | refine callF_eq (W _) ?_ | refine ⟨_, E1, ?_⟩ | refine ⟨_, E2, ?_⟩ | refine ⟨_, E3, ?_⟩ | refine ⟨_, E4, ?_⟩ | (intro id9 hid9 ht9; have n9 := neAll_of hid9; (try simp only [neAll, neAll_hset] at n9); have m9 := n9; (repeat (obtain ⟨_, m9⟩ := m9))) | exact fz_of | exact metP (by repeat (first | exact trivial | refine And.intro (Or.inl rfl) ?_ | refine And.intro (Or.inr (Exists.intro _ (And.intro rfl (Fz.refl _)))) ?_ | refine And.intro (Or.inr (Exists.intro _ (And.intro rfl (fz_eq (congrArg (AV.int _) (by omega)))))) ?_ | refine And.intro (Or.inr (Exists.intro _ (And.intro rfl (fz_eq (congrArg (AV.own _ _ _) (by (try dsimp only); (try simp only [List.length_append, List.length_map, List.length_cons, List.length_nil, List.length_take, List.length_set, List.length_replicate]); (try dsimp only); first | done | omega)))))) ?_)) (by exact sub_of) trivial | (refine bsplit_intro (fun h => ?_) (fun h => ?_) <;> subst h) | exact absurd (t2 rfl rfl) (by decide) | (refine (show bsplit (x2 == _) _ from ?_); cases x2) | (refine (show bsplit (x3 == _) _ from ?_); cases x3) | (refine (show bsplit (x6 == _) _ from ?_); cases x6)) | exact au0))
theorem label_fl : flC PG ty_api_Label = some [(0, 1, ty_int), (1, 1, ty_uint64)] := by kernel_rfl
theorem label_sh : ∀ n, ∃ sh, shO true PG n ty_api_Label = some sh := fun n => clB_some (S := [ty_api_Label, ty_int, ty_uint64]) (by kernel_rfl) n _ (by simp)
theorem label_arg {av : AV} (h : ∃ n sh, shO true PG n ty_api_Label = some sh ∧ ArgOk true sh av) : ∃ (lv : Int) (n : Nat), Nw av (labA lv n) ∧ -9223372036854775808 ≤ lv ∧ lv ≤ 9223372036854775807 ∧ n < 18446744073709551616 := by
  obtain ⟨n, sh, hs, h2⟩ := h
  obtain ⟨av', h3, h4⟩ := h2.nonil
  obtain ⟨vs, rfl, hk⟩ := h3
  obtain ⟨k, rfl, h1⟩ := okStruct label_fl (by kernel_rfl) hs hk
  obtain ⟨_, _, _, _, a1, a2, h2, k2, rfl⟩ := okCons h1 hk
  obtain ⟨_, _, _, _, b1, b2, h3, k3, rfl⟩ := okCons h2 k2
  have := okNil h3 k3; subst this
  obtain ⟨lv, rfl, q1, q2⟩ := okI64 (by kernel_rfl) a1 a2
  obtain ⟨u, rfl, hu⟩ := okU64 (by kernel_rfl) b1 b2
  exact ⟨lv, u, h4, q1, q2, hu⟩
theorem LabelOrder_row (a0 : AV) (h0 : ∃ n sh, shO true PG n ty_api_Label = some sh ∧ ArgOk true sh a0) (a1 : AV) (h1 : ∃ n sh, shO true PG n ty_api_Label = some sh ∧ ArgOk true sh a1) (a2 : AV) (h2 : ∃ n sh, shO true PG n ty_api_Label = some sh ∧ ArgOk true sh a2) : ACalls PG broadsheetlaw23_LabelOrder.n [a0, a1, a2] [] fun r _ => r = .bool true := by
  obtain ⟨la, a, p0, p1, p2, p3⟩ := label_arg h0
  obtain ⟨lb, b, q0, q1, q2, q3⟩ := label_arg h1
  obtain ⟨lc, c, u0, u1, u2, u3⟩ := label_arg h2
  exact (LabelOrder_spec la a lb b lc c p1 p2 p3 q3 u3).nw (.cons p0 (.cons q0 (.cons u0 (.refl _))))
theorem LabelTells_row (a0 : AV) (h0 : ∃ n sh, shO true PG n ty_api_Label = some sh ∧ ArgOk true sh a0) (a1 : AV) (h1 : ∃ n sh, shO true PG n ty_api_Label = some sh ∧ ArgOk true sh a1) : ACalls PG broadsheetlaw23_LabelTells.n [a0, a1] [] fun r _ => r = .bool true := by
  obtain ⟨la, a, p0, p1, p2, p3⟩ := label_arg h0
  obtain ⟨lb, b, q0, q1, q2, q3⟩ := label_arg h1
  exact (LabelTells_spec la a lb b p1 p2 p3 q3).nw (.cons p0 (.cons q0 (.refl _)))
end Go.Proofs.YtlabklehgfdibaaDoor

/- The tables that the program's text lays, at the door and behind the condition of the row LabelOrder: PRINTED (wip/tools/tabspec.py). -/
namespace Go.Proofs.YtlabklehgfdibaaDoor
open Go.RowKit
set_option autoImplicit false
set_option linter.unusedVariables false
set_option maxRecDepth 100000
def laidLabelOrder : List (String × DataW Unit) := [("math/bits.deBruijn32tab", Rows.laid_math_bits_deBruijn32tab), ("math/bits.deBruijn64tab", Rows.laid_math_bits_deBruijn64tab), ("internal/strconv.uint64pow10", Rows.laid_internal_strconv_uint64pow10), ("unicode/utf8.acceptRanges", Rows.laid_unicode_utf8_acceptRanges), ("unicode/utf8.first", Rows.laid_unicode_utf8_first)]
theorem tab_ofLabelOrder {W : World} (h : Lib.TabIs PG W "internal/strconv.uint64pow10" .u64 Lib.pow10Tab) (hs : W.ShapedOpen PG) : TabG W.heap fun b => b < W.heap.size := by
  have hg : PG.globalNamed "internal/strconv.uint64pow10" = some tabG := by kernel_rfl
  unfold Lib.TabIs World.var? at h
  rw [hg, Option.bind_some] at h
  intro x hx
  simp only [tabs, List.mem_cons, List.not_mem_nil, or_false] at hx
  rcases hx with hx | hx
  · subst hx
    cases hh : W.heap[tabG]? with
    | none => rw [hh] at h; cases h
    | some o =>
      refine ⟨(Array.getElem?_eq_some_iff.1 hh).1, ?_⟩
      unfold hrow
      show ∃ c, (match W.heap[tabG]? with | some (.cells c _ _) => some c | _ => none) = some c ∧ c = pow10Cells
      rw [hh] at h ⊢
      cases o with
      | cells c t f => exact ⟨c, rfl, Option.some.inj h⟩
      | _ => cases h
  · subst hx
    obtain ⟨m, hm⟩ := cell_of_shapedOpen_int (P := PG) (g := maxG) (t := ty_int) (zero := #[.int .i64 0]) (k := .i64) hs (by decide +kernel) (by kernel_rfl) (by kernel_rfl) (by kernel_rfl) (by kernel_rfl) (by kernel_rfl)
    unfold World.cell? at hm
    cases hh : W.heap[maxG]? with
    | none => rw [hh] at hm; cases hm
    | some o =>
      rw [hh] at hm
      cases o with
      | cells c t f => exact ⟨(Array.getElem?_eq_some_iff.1 hh).1, c, by unfold hrow; show (match W.heap[maxG]? with | some (.cells c _ _) => some c | _ => none) = some c; rw [hh], m, by simpa using hm⟩
      | _ => cases hm
theorem tab_of_laidLabelOrder {W : World} (h : laidMetH PG laidLabelOrder W) (hs : W.ShapedOpen PG) : TabG W.heap fun b => b < W.heap.size := by
  rw [MakeChecks.laidMetH_plain _ _ _ (by kernel_rfl)] at h
  have h3 := (laidMet.tail (laidMet.tail h))
  rw [show Rows.laid_internal_strconv_uint64pow10 = Lib.tabData .u64 Lib.pow10Tab from by kernel_rfl] at h3
  exact tab_ofLabelOrder (Lib.tabIs_of_head (P := PG) (g := tabG) (t := tabT) (e := ty_uint64) (n := 20) (by kernel_rfl) (by kernel_rfl) (by kernel_rfl) (by kernel_rfl) (by kernel_rfl) (by kernel_rfl) h3) hs
/-- A world in which the listed variables hold what is listed. -/
theorem laid_metLabelOrder (os : Os) (args : Array Value) : laidMetH PG laidLabelOrder ((World.laidAll PG os laidLabelOrder).forCall (fun _ _ => 0) ⟨#[], args, []⟩).memory := by
  rw [MakeChecks.laidMetH_plain _ _ _ (by kernel_rfl)]
  exact laidMet_laidAll args (by kernel_rfl) (by kernel_rfl)
theorem returns_andLabelOrder {H : Type} {enc : TypeId × Value → H} {a : Assume} {C : Checked} {os : Os} {f : FuncId} {fn : Func} {s : ChangeSpec} {conds : List PathCond} {apart fresh handsOn again : Bool} {X : World → Array Value → Prop}
    (hX : ∀ (w w' : World) (args : Array Value), w.heap = w'.heap → X w args → X w' args)
    (own : ownKnob C.prog.godebug = none) (started : os.Started) (noInit : C.prog.inits.idxOf? f = none) (hfn : C.prog.funcs[f]? = some fn)
    (witness : ∃ (w : World) (tape : Tape) (i : Input), w.os = os ∧ (w.forCall tape i).Shaped C.prog ∧ i.vars = [] ∧ Input.okWide C.prog (w.forCall tape i) .any w.heap.size f i ∧
      ((s.pre enc C.prog fn conds apart (w.forCall tape i).memory i.args ∧ X (w.forCall tape i).memory i.args) ∧ sizedMet enc C.prog fn (OpenSpec.ofChange s) apart (w.forCall tape i).memory i.args) ∧ a.holds C.prog (lone (Frame.enter C.prog f i.args .normal) [] (w.forCall tape i)))
    (contract : ∀ (W : World) (base : Nat) (args : Array Value) (ds gs : List (DataW H)) (before : List MemPlace),
      (∀ (j : Nat) t v, fn.params[j]? = some t → args[j]? = some v → Value.okWide C.prog W .any base t v) →
      DataW.Whole enc C.prog fn.params.toList s.vars apart W args.toList ds gs before →
      conds.all (PathCond.test C.prog ⟨fn.params.toList, ds, s.plain.varTypes C.prog, gs⟩) = true →
      (DataW.weightsEach C.prog (fn.params.toList ++ s.plain.varTypes C.prog) (ds ++ gs)).all (· ≤ reachBytes) = true → X W args → W.ShapedOpen C.prog →
      a.holds C.prog (lone (Frame.enter C.prog f args .normal) [] W) →
      Calls C.prog f args W fun e W' => ∃ v, e = .returned v ∧ s.post enc C.prog fn apart fresh handsOn again W args v W') :
    ReturnsInHanded a C os f .any (fun w args => (s.pre enc C.prog fn conds apart w args ∧ X w args) ∧ sizedMet enc C.prog fn (OpenSpec.ofChange s) apart w args) (s.post enc C.prog fn apart fresh handsOn again) := by
  refine returnsInHanded_of_calls own started noInit witness ?_
  intro w tape i _ hsh _ hok hpre hholds
  obtain ⟨_, _, _, fn', hfn', _, _, _, _, hval⟩ := hok
  have e : fn' = fn := Option.some.inj (hfn'.symm.trans hfn)
  subst e
  obtain ⟨⟨⟨ds, gs, before, hw, hc⟩, hx⟩, hz⟩ := hpre
  have hw' := DataW.Whole.of_heap (w' := w.forCall tape i) (by rfl) hw
  refine (contract (w.forCall tape i) w.heap.size i.args ds gs before hval hw' hc (hz.weights hw) (hX _ _ _ (by rfl) hx) hsh hholds).mono fun e W' ⟨v, he, hp⟩ => ?_
  subst he
  exact ChangeSpec.post_blind hp
end Go.Proofs.YtlabklehgfdibaaDoor
