/- Programs of a filter: the row of truths ahead of each instruction, and what is wrong first. -/
import Derived.Test.YtehkmfmahgabmaaLikeDp
namespace Go.Proofs.Ytehkmfmahgabmaa
set_option autoImplicit false

abbrev Ins := Int × Int
def opA (c : List Ins) (i : Nat) : Int := (c.getD i (0, 0)).1
def nA (c : List Ins) (i : Nat) : Int := (c.getD i (0, 0)).2
def needs (op : Int) : Int := if op = 3 ∨ op = 4 then 2 else if op = 5 ∨ op = 6 ∨ op = 7 then 1 else 0

/-- What is wrong with an instruction, with so many data, and a truth on top, or not. -/
def wr (c : List Ins) (np nc pc : Nat) (data : Int) (top : Bool) : Int :=
  if opA c pc < 1 ∨ 7 < opA c pc then 4
  else if data < needs (opA c pc) then 2
  else if 5 ≤ opA c pc ∧ top = false then 8
  else if (opA c pc = 1 ∧ (nA c pc < 0 ∨ (np : Int) ≤ nA c pc)) ∨ (opA c pc = 2 ∧ (nA c pc < 0 ∨ (nc : Int) ≤ nA c pc)) ∨ (opA c pc = 3 ∧ (nA c pc < 1 ∨ 6 < nA c pc)) ∨
      (6 ≤ opA c pc ∧ (nA c pc < 0 ∨ (c.length : Int) - pc - 1 < nA c pc)) then 7
  else if opA c pc ≤ 2 ∧ 16 ≤ data then 3 else 0

def stepR (op : Int) (r : List Bool) : List Bool :=
  if op = 1 ∨ op = 2 then r ++ [false] else if op = 3 ∨ op = 4 then r.take (r.length - 2) ++ [true] else if op = 5 then r.take (r.length - 1) ++ [true] else r.take (r.length - 1)
def rowR (c : List Ins) : Nat → List Bool
  | 0 => []
  | i + 1 => stepR (opA c i) (rowR c i)
def topR (r : List Bool) : Bool := decide (0 < r.length) && r.getD (r.length - 1) false
/-- Does a jump ahead of pc lead to t with another row than r? -/
def badAt (c : List Ins) (pc : Nat) (t : Int) (r : List Bool) : Bool :=
  (List.range pc).any fun i => (decide (6 ≤ opA c i) && decide ((i : Int) + 1 + nA c i = t)) && !(rowR c i == r)
theorem badAt_zero (c : List Ins) (t : Int) (r : List Bool) : badAt c 0 t r = false := rfl
theorem badAt_succ (c : List Ins) (pc : Nat) (t : Int) (r : List Bool) : badAt c (pc + 1) t r = (badAt c pc t r || ((decide (6 ≤ opA c pc) && decide ((pc : Int) + 1 + nA c pc = t)) && !(rowR c pc == r))) := by
  simp [badAt, List.range_succ, List.any_append]
def wrA (c : List Ins) (np nc pc : Nat) : Int := wr c np nc pc (rowR c pc).length (topR (rowR c pc))
def errA (c : List Ins) (np nc pc : Nat) : Int :=
  if badAt c pc pc (rowR c pc) = true then 1 else if wrA c np nc pc ≠ 0 then wrA c np nc pc
  else if 6 ≤ opA c pc ∧ badAt c pc ((pc : Int) + 1 + nA c pc) (rowR c pc) = true then 1 else 0
def maxR (c : List Ins) : Nat → Nat
  | 0 => 0
  | n + 1 => max (maxR c n) (rowR c (n + 1)).length
def chkFrom (c : List Ins) (np nc : Nat) : Nat → Nat → Int × Int
  | 0, pc => if badAt c pc pc (rowR c pc) = true ∨ rowR c pc ≠ [true] then (0, 1) else ((maxR c pc : Nat), 0)
  | k + 1, pc => if errA c np nc pc ≠ 0 then (0, errA c np nc pc) else chkFrom c np nc k (pc + 1)
def chk (c : List Ins) (np nc : Nat) : Int × Int := chkFrom c np nc c.length 0
/-- The walk has come to pc, with nothing wrong so far. -/
def upTo (c : List Ins) (np nc pc : Nat) : Prop := pc ≤ c.length ∧ chk c np nc = chkFrom c np nc (c.length - pc) pc ∧ ∀ i, i < pc → errA c np nc i = 0
theorem upTo.zero (c : List Ins) (np nc : Nat) : upTo c np nc 0 := ⟨Nat.zero_le _, by rw [Nat.sub_zero]; rfl, fun i h => absurd h (Nat.not_lt_zero i)⟩
theorem upTo.bad {c : List Ins} {np nc pc : Nat} (h : upTo c np nc pc) (hl : pc < c.length) (he : errA c np nc pc ≠ 0) : chk c np nc = (0, errA c np nc pc) := by
  rw [h.2.1, show c.length - pc = c.length - (pc + 1) + 1 from by omega, chkFrom, if_pos he]
theorem upTo.next {c : List Ins} {np nc pc : Nat} (h : upTo c np nc pc) (hl : pc < c.length) (he : errA c np nc pc = 0) : upTo c np nc (pc + 1) := by
  refine ⟨hl, ?_, fun i hi => ?_⟩
  · rw [h.2.1, show c.length - pc = c.length - (pc + 1) + 1 from by omega, chkFrom, if_neg (by rw [he]; simp)]
  · by_cases e : i = pc
    · rw [e]; exact he
    · exact h.2.2 i (by omega)
theorem upTo.fin {c : List Ins} {np nc : Nat} (h : upTo c np nc c.length) : chk c np nc = if badAt c c.length c.length (rowR c c.length) = true ∨ rowR c c.length ≠ [true] then ((0 : Int), (1 : Int)) else (((maxR c c.length : Nat) : Int), (0 : Int)) := by
  rw [h.2.1, Nat.sub_self, chkFrom]
/-- What an instruction in which nothing is wrong is. -/
theorem wr_ok {c : List Ins} {np nc pc : Nat} {data : Int} {top : Bool} (h : wr c np nc pc data top = 0) :
    1 ≤ opA c pc ∧ opA c pc ≤ 7 ∧ needs (opA c pc) ≤ data ∧ (5 ≤ opA c pc → top = true) ∧ (6 ≤ opA c pc → 0 ≤ nA c pc ∧ nA c pc ≤ (c.length : Int) - pc - 1) ∧ (opA c pc ≤ 2 → data < 16) := by
  unfold wr at h
  split at h
  · omega
  · split at h
    · omega
    · split at h
      · omega
      · split at h
        · omega
        · split at h
          · omega
          · rename_i h1 h2 h3 h4 h5
            refine ⟨by omega, by omega, by omega, fun h6 => ?_, fun h6 => by omega, fun h6 => by omega⟩
            cases ht : top with
            | true => rfl
            | false => exact (h3 ⟨h6, ht⟩).elim
theorem errA_wr {c : List Ins} {np nc pc : Nat} (h : errA c np nc pc = 0) : badAt c pc pc (rowR c pc) = false ∧ wrA c np nc pc = 0 ∧ (6 ≤ opA c pc → badAt c pc ((pc : Int) + 1 + nA c pc) (rowR c pc) = false) := by
  unfold errA at h
  split at h
  · omega
  · rename_i h1
    split at h
    · rename_i h2; exact (h2 h).elim
    · rename_i h2
      split at h
      · omega
      · rename_i h3
        refine ⟨by simpa using h1, by simpa using h2, fun h4 => ?_⟩
        cases hb : badAt c pc ((pc : Int) + 1 + nA c pc) (rowR c pc) with
        | false => rfl
        | true => exact (h3 ⟨h4, hb⟩).elim
theorem stepR_len {op : Int} {r : List Bool} (h : needs op ≤ r.length) (h1 : 1 ≤ op) (h7 : op ≤ 7) : (stepR op r).length = if op ≤ 2 then r.length + 1 else if op = 5 then r.length else r.length - 1 := by
  have hk : op = 1 ∨ op = 2 ∨ op = 3 ∨ op = 4 ∨ op = 5 ∨ op = 6 ∨ op = 7 := by omega
  rcases hk with e | e | e | e | e | e | e <;> subst e <;> simp [stepR, needs, List.length_take] at h ⊢ <;> omega
theorem upTo.pred {c : List Ins} {np nc pc : Nat} (h : upTo c np nc (pc + 1)) : upTo c np nc pc := by
  have he := h.2.2 pc (by omega)
  refine ⟨by have := h.1; omega, ?_, fun i hi => h.2.2 i (by omega)⟩
  have h1 := h.2.1
  have hl := h.1
  rw [h1, show c.length - pc = c.length - (pc + 1) + 1 from by omega, chkFrom, if_neg (by rw [he]; simp)]
theorem upTo.back {c : List Ins} {np nc pc i : Nat} (h : upTo c np nc pc) (hi : i ≤ pc) : upTo c np nc i := by
  induction pc with
  | zero => rwa [show i = 0 from by omega]
  | succ pc ih =>
    by_cases e : i = pc + 1
    · rw [e]; exact h
    · exact ih h.pred (by omega)
/-- Rows are short. -/
theorem rowR_short {c : List Ins} {np nc pc : Nat} (h : upTo c np nc pc) : (rowR c pc).length ≤ 16 := by
  induction pc with
  | zero => simp [rowR]
  | succ pc ih =>
    have h0 : upTo c np nc pc := by
      have he := h.2.2 pc (by omega)
      refine ⟨by have := h.1; omega, ?_, fun i hi => h.2.2 i (by omega)⟩
      have h1 := h.2.1
      have hl := h.1
      rw [h1, show c.length - pc = c.length - (pc + 1) + 1 from by omega, chkFrom, if_neg (by rw [he]; simp)]
    have he := h.2.2 pc (by omega)
    have hw := (errA_wr he).2.1
    obtain ⟨a1, a2, a3, a4, a5, a6⟩ := wr_ok (show wr c np nc pc (rowR c pc).length (topR (rowR c pc)) = 0 from hw)
    have := ih h0
    rw [rowR, stepR_len (by exact_mod_cast a3) a1 a2]
    split
    · rename_i h2; have := a6 h2; omega
    · split <;> omega
/-- All jumps that lead to a place led there with the same row. -/
theorem led_same {c : List Ins} {np nc pc : Nat} (h : upTo c np nc pc) {i j : Nat} (hi : i < pc) (hj : j < pc) (oi : 6 ≤ opA c i) (oj : 6 ≤ opA c j) (e : (i : Int) + 1 + nA c i = (j : Int) + 1 + nA c j) : rowR c i = rowR c j := by
  have key : ∀ i j, i < j → j < pc → 6 ≤ opA c i → 6 ≤ opA c j → (i : Int) + 1 + nA c i = (j : Int) + 1 + nA c j → rowR c i = rowR c j := by
    intro i j hij hj oi oj e
    have hb := (errA_wr (h.2.2 j hj)).2.2 oj
    unfold badAt at hb
    rw [List.any_eq_false] at hb
    have := hb i (List.mem_range.2 hij)
    simpa [oi, e] using this
  rcases Nat.lt_trichotomy i j with q | q | q
  · exact key i j q hj oi oj e
  · rw [q]
  · exact (key j i q hi oj oi e.symm).symm
theorem badAt_iff {c : List Ins} {pc : Nat} {t : Int} {r : List Bool} : badAt c pc t r = true ↔ ∃ i, i < pc ∧ 6 ≤ opA c i ∧ (i : Int) + 1 + nA c i = t ∧ rowR c i ≠ r := by
  unfold badAt
  rw [List.any_eq_true]
  constructor
  · rintro ⟨i, h1, h2⟩
    simp only [Bool.and_eq_true, decide_eq_true_eq, Bool.not_eq_true', beq_eq_false_iff_ne, ne_eq] at h2
    exact ⟨i, List.mem_range.1 h1, h2.1.1, h2.1.2, h2.2⟩
  · rintro ⟨i, h1, h2, h3, h4⟩
    refine ⟨i, List.mem_range.2 h1, ?_⟩
    simp [h2, h3, h4]
/-- .. with what is known of the last that led there. -/
theorem badAt_led {c : List Ins} {np nc pc : Nat} (h : upTo c np nc pc) {t : Int} {r q : List Bool} {ld : Bool} (hl : ld = true ↔ ∃ i, i < pc ∧ 6 ≤ opA c i ∧ (i : Int) + 1 + nA c i = t)
    (hq : ∀ i, i < pc → 6 ≤ opA c i → (i : Int) + 1 + nA c i = t → q = rowR c i) : badAt c pc t r = (ld && !(q == r)) := by
  rw [Bool.eq_iff_iff, badAt_iff]
  simp only [Bool.and_eq_true, Bool.not_eq_true', beq_eq_false_iff_ne, ne_eq]
  constructor
  · rintro ⟨i, h1, h2, h3, h4⟩
    exact ⟨hl.2 ⟨i, h1, h2, h3⟩, by rw [hq i h1 h2 h3]; exact h4⟩
  · rintro ⟨h1, h2⟩
    obtain ⟨i, a1, a2, a3⟩ := hl.1 h1
    exact ⟨i, a1, a2, a3, by rw [← hq i a1 a2 a3]; exact h2⟩
end Go.Proofs.Ytehkmfmahgabmaa
