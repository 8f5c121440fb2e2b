/- Texts of this proof, one behind the other: ListMath, TokMath, TypMath, PathMath, ValMath, FitMath, PathStepMath, ExprMath, ExprSizeMath, CheckMath, PathAtMath, SimDef, SimCode, Tabs, SimRel, SimWp, SimBase, SimOps, SimOps2, SimOps3, SimOps4, SimOps5. -/
import Derived.Lib.Bytealg
import Derived.Tactics
import Derived.Orders
import Derived.OrdersIn
import Derived.TacticsIn
import Derived.RangeFuncLeaves
import Derived.RangeFuncSeq
import Derived.RangeFuncRecord
import Derived.ScopeJumps
import Derived.Laws.Append
import Derived.Laws.Bits
import Derived.Lib.UnsafeStr
import Derived.Lib.Builder
import Derived.Lib.ConvBytes
import Derived.Laws.AppendOwn
import GoSem.Core.Region
import Derived.Laws.MakeOwn
import Derived.Laws.Slices
import Derived.Laws.StructEq
import Derived.Lib.Strings
set_option autoImplicit false
set_option linter.unusedSimpArgs false
set_option linter.unusedVariables false
namespace Go.Proofs.YtjaigpidmngaaaaGreat
section
variable {α : Type} {p : α → Bool} {l : List α} {i : Nat}
def none' (p : α → Bool) (l : List α) (i : Nat) : Prop := ∀ (k : Nat) (h : k < l.length), k < i → p l[k] = false
theorem none'_zero : none' p l 0 := fun k _ h => by omega
theorem none'_succ (h : none' p l i) (hi : i < l.length) (h2 : p l[i] = false) : none' p l (i + 1) := fun k hk h3 => by
  by_cases e : k = i
  · subst e; exact h2
  · exact h k hk (by omega)
theorem none'_any (h : none' p l l.length) : l.any p = false := by
  rw [List.any_eq_false]
  intro x hx
  obtain ⟨k, hk, rfl⟩ := List.getElem_of_mem hx
  simpa using h k hk hk
theorem none'_end (h : none' p l i) (hi : l.length ≤ i) : l.any p = false := none'_any fun k hk _ => h k hk (by omega)
theorem any_hit (hi : i < l.length) (h : p l[i] = true) : l.any p = true := List.any_eq_true.2 ⟨_, List.getElem_mem hi, h⟩
theorem find_hit : ∀ {l : List α} {i : Nat} (_ : none' p l i) (hi : i < l.length) (_ : p l[i] = true), l.findIdx? p = some i
  | a :: l, 0, _, _, h2 => by simp at h2; simp [List.findIdx?_cons, h2]
  | a :: l, i + 1, h, hi, h2 => by
    have h0 : p a = false := h 0 (by simp) (by omega)
    have h' : none' p l i := fun k hk h3 => h (k + 1) (by simpa using hk) (by omega)
    have := find_hit h' (by simpa using hi) (by simpa using h2)
    simp [List.findIdx?_cons, h0, this]
theorem find_none (h : none' p l i) (hi : l.length ≤ i) : l.findIdx? p = none := by
  rw [List.findIdx?_eq_none_iff]
  intro x hx
  obtain ⟨k, hk, rfl⟩ := List.getElem_of_mem hx
  exact h k hk (by omega)
theorem find_some {n : Nat} (h : l.findIdx? p = some n) : ∃ hn : n < l.length, p l[n] = true ∧ none' p l n := by
  rw [List.findIdx?_eq_some_iff_getElem] at h
  obtain ⟨hn, h1, h2⟩ := h
  exact ⟨hn, h1, fun k hk h3 => by have := h2 k h3; simpa using this⟩
end
def fst0 : List Int → Int
  | [] => 0
  | e :: l => if e ≠ 0 then e else fst0 l
theorem fst0_hit : ∀ {l : List Int} {i : Nat} (_ : ∀ (k : Nat) (h : k < l.length), k < i → l[k] = 0) (hi : i < l.length) (_ : l[i] ≠ 0), fst0 l = l[i]
  | e :: l, 0, _, _, h => by simp at h; simp [fst0, h]
  | e :: l, i + 1, h0, hi, h => by
    have h1 : e = 0 := h0 0 (by simp) (by omega)
    have := fst0_hit (l := l) (i := i) (fun k hk h3 => h0 (k + 1) (by simpa using hk) (by omega)) (by simpa using hi) (by simpa using h)
    simp [fst0, h1, this]
theorem fst0_end : ∀ {l : List Int} (_ : ∀ (k : Nat) (h : k < l.length), l[k] = 0), fst0 l = 0
  | [], _ => rfl
  | e :: l, h => by
    have h1 : e = 0 := h 0 (by simp)
    have := fst0_end (l := l) fun k hk => h (k + 1) (by simpa using hk)
    simp [fst0, h1, this]
end Go.Proofs.YtjaigpidmngaaaaGreat

namespace Go.Proofs.YtjaigpidmngaaaaGreat
theorem drop_at {α : Type} (l : List α) (d : α) (i : Nat) (h : i < l.length) : l.drop i = l.getD i d :: l.drop (i + 1) := by
  rw [List.drop_eq_getElem_cons h]; congr 1; simp [List.getD, h]
theorem take_at {α : Type} (l : List α) (d : α) (i : Nat) (h : i < l.length) : l.take (i + 1) = l.take i ++ [l.getD i d] := by
  rw [List.take_add_one]; congr 1; simp [List.getD, h]
def dig (c : UInt8) : Bool := decide (48 ≤ c.toNat) && decide (c.toNat ≤ 57)
def ltr (c : UInt8) : Bool := (decide (97 ≤ c.toNat) && decide (c.toNat ≤ 122)) || (decide (65 ≤ c.toNat) && decide (c.toNat ≤ 90))
def nam (c : UInt8) : Bool := dig c || c == 95 || ltr c
def blnk (c : UInt8) : Bool := c == 32 || c == 9 || c == 10 || c == 13
def sgn (c : UInt8) : Bool := [61, 60, 62, 40, 41, 46, 91, 93, 45].contains c
def nl : List UInt8 → Nat
  | [] => 0
  | c :: r => if ltr c then 1 + (r.takeWhile nam).length else 0
def dl (s : List UInt8) : Nat := (s.takeWhile dig).length
def numV (s : List UInt8) : Nat := s.foldl (fun a c => 10 * a + (c.toNat - 48)) 0
inductive Q where
  | done (t : List UInt8) (n : Nat)
  | odd (i : Nat)
  | short
def qs : List UInt8 → Nat → List UInt8 → Q
  | [], _, _ => .short
  | [c], i, acc => if c.toNat < 32 ∨ 126 < c.toNat then .odd i else if c = 39 then .done acc (i + 1) else .short
  | c :: d :: r, i, acc =>
    if c.toNat < 32 ∨ 126 < c.toNat then .odd i
    else if c = 39 then (if d = 39 then qs r (i + 2) (acc ++ [39]) else .done acc (i + 1))
    else qs (d :: r) (i + 1) (acc ++ [c])
inductive LR where
  | tok (k : Int) (t : List UInt8) (num n : Nat)
  | bad (e : Int) (off : Nat)
def two (s : List UInt8) : Bool := s.take 2 == [60, 62] || s.take 2 == [60, 61] || s.take 2 == [62, 61]
def lex : List UInt8 → LR
  | [] => .bad 11 0
  | c :: r =>
    if ltr c then .tok 1 ((c :: r).take (nl (c :: r))) 0 (nl (c :: r))
    else if dig c then
      if 1 < dl (c :: r) ∧ c = 48 then .bad 1 0
      else if numV ((c :: r).take (dl (c :: r))) < 18446744073709551616 then .tok 2 ((c :: r).take (dl (c :: r))) (numV ((c :: r).take (dl (c :: r)))) (dl (c :: r))
      else .bad 7 0
    else if c = 39 then match qs r 1 [] with
      | .done t n => .tok 3 t 0 n
      | .odd i => .bad 10 i
      | .short => .bad 2 0
    else if c = 37 then match r with
      | d :: _ => if dig d then .tok 4 [37, d] (d.toNat - 48) 2 else .bad 11 0
      | [] => .bad 11 0
    else if sgn c then .tok 5 ((c :: r).take (if two (c :: r) then 2 else 1)) 0 (if two (c :: r) then 2 else 1)
    else .bad 11 0
def rsv : List (List UInt8) := [[65, 78, 68], [79, 82], [78, 79, 84], [66, 69, 84, 87, 69, 69, 78], [76, 73, 75, 69], [84, 82, 85, 69], [70, 65, 76, 83, 69]]
theorem nl_cons (c : UInt8) (r : List UInt8) : nl (c :: r) = if ltr c = true then 1 + (r.takeWhile nam).length else 0 := rfl
theorem nl_le (s : List UInt8) : nl s ≤ s.length := by
  cases s with
  | nil => exact Nat.le_refl _
  | cons c r =>
    have : (r.takeWhile nam).length ≤ r.length := (List.takeWhile_prefix _).length_le
    rw [nl_cons, List.length_cons]
    split <;> omega
theorem dl_le (s : List UInt8) : dl s ≤ s.length := (List.takeWhile_prefix _).length_le
theorem tw_step {f : UInt8 → Bool} : ∀ {r : List UInt8} {n : Nat}, n ≤ (r.takeWhile f).length → n < r.length → (n < (r.takeWhile f).length ↔ f (r.getD n 0) = true)
  | [], n, _, h => by simp at h
  | d :: r, n, h1, h2 => by
    rw [List.takeWhile_cons] at h1 ⊢
    split
    · rename_i hd
      rw [if_pos hd] at h1
      cases n with
      | zero => simp [hd]
      | succ n => simpa using tw_step (r := r) (n := n) (by simpa using h1) (by simpa using h2)
    · rename_i hd
      rw [if_neg hd] at h1
      have : n = 0 := by simpa using h1
      subst this
      simpa using hd
theorem nl_step {s : List UInt8} {n : Nat} (hn : n ≤ nl s) (hl : n < s.length) : n < nl s ↔ (if n = 0 then ltr (s.getD 0 0) else nam (s.getD n 0)) = true := by
  cases s with
  | nil => simp at hl
  | cons c r =>
    rw [nl_cons] at *
    cases n with
    | zero =>
      rw [if_pos rfl, List.getD_cons_zero]
      split
      · rename_i h; simp only [h, iff_true]; omega
      · rename_i h; simp only [h, Nat.lt_irrefl]
        exact ⟨fun q => q.elim, fun q => by cases q⟩
    | succ n =>
      rw [if_neg (Nat.succ_ne_zero n), List.getD_cons_succ]
      split at hn
      · rename_i h
        rw [if_pos h]
        have hl' : n < r.length := by simpa using hl
        rw [← tw_step (f := nam) (r := r) (n := n) (by omega) hl']
        omega
      · omega
theorem dl_step {s : List UInt8} {n : Nat} (hn : n ≤ dl s) (hl : n < s.length) : n < dl s ↔ dig (s.getD n 0) = true := by
  unfold dl at *
  induction s generalizing n with
  | nil => simp at hl
  | cons d r ih =>
    rw [List.takeWhile_cons] at hn ⊢
    split
    · rename_i hd
      rw [if_pos hd] at hn
      cases n with
      | zero => simp [hd]
      | succ n => simpa using ih (by simpa using hn) (by simpa using hl)
    · rename_i hd
      rw [if_neg hd] at hn
      have : n = 0 := by simpa using hn
      subst this
      simpa using hd
end Go.Proofs.YtjaigpidmngaaaaGreat

namespace Go.Proofs.YtjaigpidmngaaaaGreat
structure It where
  nm : List UInt8
  num : Nat
  ty : Int
  key : Bool
  rest : Bool
structure Ty where
  kd : Int
  nm : List UInt8
  bd : Int
  el : Int
  tg : Int
  its : List It
abbrev it0 : It := ⟨[], 0, 0, false, false⟩
abbrev ty0 : Ty := ⟨0, [], 0, 0, 0, []⟩
def isNum (k : Int) : Bool := decide (1 ≤ k ∧ k ≤ 9)
def kNm (k : Int) : Bool := decide (k = 9 ∨ k = 13 ∨ k = 14)
def kBd (k : Int) : Bool := decide (k = 10 ∨ k = 11 ∨ k = 12)
def kEl (k : Int) : Bool := decide (k = 11 ∨ k = 12)
def kTg (k : Int) : Bool := decide (k = 14)
def tAt (l : List Ty) (t : Int) : Ty := l.getD t.toNat ty0
def szK (k : Int) : Nat := if k = 1 ∨ k = 2 then 1 else if k = 3 ∨ k = 4 then 2 else if k = 5 ∨ k = 6 ∨ k = 9 then 4 else if k = 7 ∨ k = 8 then 8 else 0
def sgK (k : Int) : Bool := decide (k = 3 ∨ k = 5 ∨ k = 7 ∨ k = 9)
def lowN (b n : Nat) : Nat := n % 2 ^ (8 * b)
def sgnI (b n : Nat) : Int := if lowN b n < 2 ^ (8 * b - 1) then (lowN b n : Int) else (lowN b n : Int) - 2 ^ (8 * b)
def wide (i : Int) : Nat := (i % 18446744073709551616).toNat
def lowK (k : Int) (n : Nat) : Nat := if szK k = 0 then 0 else lowN (szK k) n
def upK (k : Int) (n : Nat) : Nat := if sgK k = true then wide (sgnI (szK k) n) else lowK k n
def mayK (k : Int) (n : Nat) : Bool := isNum k && decide (upK k n = n) && (decide (k ≠ 1) || decide (n ≤ 1))
def nameOk (s : List UInt8) : Bool := decide (s ≠ []) && decide (s.length ≤ 16) && decide (nl s = s.length) && !rsv.contains s
def parts (t : Ty) : List Int := (if kEl t.kd = true then [t.el] else []) ++ (if kTg t.kd = true then [t.tg] else []) ++ (if t.kd = 13 ∨ t.kd = 14 then t.its.map (·.ty) else [])
def itMore (k : Int) (x : It) : Bool := decide ((k = 9 ∧ x.ty ≠ 0) ∨ (k ≠ 13 ∧ x.key = true) ∨ (k ≠ 14 ∧ x.rest = true) ∨ ((k = 13 ∨ x.rest = true) ∧ x.num ≠ 0))
def tyMore (t : Ty) : Bool := decide ((kNm t.kd = false ∧ (t.nm ≠ [] ∨ t.its ≠ [])) ∨ (kBd t.kd = false ∧ t.bd ≠ 0) ∨ (kEl t.kd = false ∧ t.el ≠ 0) ∨ (kTg t.kd = false ∧ t.tg ≠ 0))
def formE (t : Ty) : Int := if t.kd < 1 ∨ 14 < t.kd then 4 else if tyMore t = true ∨ t.its.any (itMore t.kd) = true then 1 else 0
def namedE (l : List Ty) (t : Ty) (n : Nat) : Int := if kNm t.kd = true then (if nameOk t.nm = true then (if (l.take n).any (fun x => x.nm == t.nm) = true then 6 else 0) else 5) else 0
def boundE (t : Ty) : Int := if kBd t.kd = true ∧ (64 < t.bd ∨ t.bd < 0 ∨ (kEl t.kd = true ∧ t.bd = 0)) then 7 else 0
def orderE (l : List Ty) (t : Ty) (n : Nat) : Int := if (parts t).any (fun p => decide (p < 0 ∨ (n : Int) ≤ p)) = true then 14 else if t.kd = 14 ∧ isNum (tAt l t.tg).kd = false then 8 else 0
def valIx (l : List Ty) (t : Int) (n : Nat) : Option Nat := if 0 ≤ t ∧ t < l.length ∧ (tAt l t).kd = 9 then (tAt l t).its.findIdx? (fun x => x.num == n) else none
def itemIx (l : List Ty) (t : Int) (s : List UInt8) : Option Nat := if 0 ≤ t ∧ t < l.length ∧ kNm (tAt l t).kd = true then (tAt l t).its.findIdx? (fun x => x.nm == s) else none
def brIx (l : List Ty) (t : Int) (n : Nat) : Option Nat := if 0 ≤ t ∧ t < l.length ∧ (tAt l t).kd = 14 then ((tAt l t).its.findIdx? (fun x => x.num == n && !x.rest)).or ((tAt l t).its.findIdx? (·.rest)) else none
def mayT (l : List Ty) (t : Ty) (n : Nat) : Bool := if t.kd = 9 then mayK 9 n else if (tAt l t.tg).kd = 9 then (valIx l t.tg n).isSome else mayK (tAt l t.tg).kd n
def itemE (l : List Ty) (t : Ty) (i : Nat) : Int :=
  let x := t.its.getD i it0
  if nameOk x.nm = true then
    if (t.its.take i).any (fun y => y.nm == x.nm) = true then 6
    else if t.kd = 13 then (if x.key = true ∧ isNum (tAt l x.ty).kd = false ∧ (tAt l x.ty).kd ≠ 10 then 17 else 0)
    else if x.rest = true then (if i + 1 = t.its.length then 0 else 14)
    else if mayT l t x.num = true then (if (t.its.take i).any (fun y => y.num == x.num) = true then 6 else 0)
    else 7
  else 5
def itemsE (l : List Ty) (t : Ty) : Int := if kNm t.kd = true then (if t.its.length = 0 then 18 else if 16 < t.its.length then 3 else fst0 ((List.range t.its.length).map (itemE l t))) else 0
def dpT (l : List Ty) : Nat → List Nat
  | 0 => []
  | n + 1 => dpT l n ++ [(parts (l.getD n ty0)).foldl (fun m p => if 0 ≤ p ∧ p < (n : Int) then max m ((dpT l n).getD p.toNat 0 + 1) else m) 1]
def deepT (l : List Ty) (t : Int) : Nat := if 0 ≤ t ∧ t < l.length then (dpT l (t.toNat + 1)).getD t.toNat 0 else 0
def deepE (l : List Ty) (n : Nat) : Int := if 6 < deepT l n then 9 else 0
def tyErr (l : List Ty) (n : Nat) : Int := let t := l.getD n ty0
  fst0 [formE t, namedE l t n, boundE t, orderE l t n, itemsE l t, deepE l n]
def tyChk (l : List Ty) : Int × Int := if 32 < l.length then (3, 32) else match (List.range l.length).findIdx? (fun i => decide (tyErr l i ≠ 0)) with
  | some i => (tyErr l i, (i : Nat))
  | none => (0, 0)
end Go.Proofs.YtjaigpidmngaaaaGreat

namespace Go.Proofs.YtjaigpidmngaaaaGreat
theorem numVs_snoc (s : List UInt8) (c : UInt8) : numV (s ++ [c]) = 10 * numV s + (c.toNat - 48) := by simp [numV]
theorem numVs_lt : ∀ s : List UInt8, s.all dig = true → numV s < 10 ^ s.length := by
  intro s
  rw [← List.reverse_reverse s]
  induction s.reverse with
  | nil => simp [numV]
  | cons c l ih =>
    intro h
    rw [List.reverse_cons] at h ⊢
    rw [List.all_append, Bool.and_eq_true] at h
    have h1 := ih h.1
    have h2 : 48 ≤ c.toNat ∧ c.toNat ≤ 57 := by simpa [dig] using h.2
    rw [numVs_snoc, List.length_append, List.length_singleton, Nat.pow_succ]
    omega
def numP (s : List UInt8) : Nat × Nat :=
  if s.length < 3 ∨ s.getD 0 0 ≠ 91 ∨ Lib.indexByte s 93 < 2 ∨ 3 < Lib.indexByte s 93 ∨ (s.getD 1 0 = 48 ∧ 2 < Lib.indexByte s 93) then (0, 0)
  else if ((s.take (Lib.indexByte s 93).toNat).drop 1).all dig = true then (numV ((s.take (Lib.indexByte s 93).toNat).drop 1), (Lib.indexByte s 93).toNat + 1) else (0, 0)
theorem indexByte_lt : ∀ (s : List UInt8) (c : UInt8), -1 ≤ Lib.indexByte s c ∧ Lib.indexByte s c < s.length
  | [], c => by simp [Lib.indexByte]
  | b :: l, c => by
    have ih := indexByte_lt l c
    unfold Lib.indexByte
    simp only [List.length_cons]
    repeat' split
    all_goals omega
theorem numP_le (s : List UInt8) : (numP s).2 ≤ s.length ∧ (numP s).1 ≤ 99 := by
  unfold numP
  have h := indexByte_lt s 93
  split
  · simp
  · rename_i hc
    split
    · rename_i hd
      have h1 := numVs_lt _ hd
      have h2 : ((s.take (Lib.indexByte s 93).toNat).drop 1).length ≤ 2 := by rw [List.length_drop, List.length_take]; omega
      have h3 : 10 ^ ((s.take (Lib.indexByte s 93).toNat).drop 1).length ≤ 10 ^ 2 := Nat.pow_le_pow_right (by decide) h2
      exact ⟨by dsimp only; omega, by dsimp only; omega⟩
    · simp
def dotP : List UInt8 → Option (List UInt8)
  | c :: r => if c = 46 then some r else none
  | [] => none
theorem dotP_some {s r : List UInt8} (h : dotP s = some r) : s = 46 :: r := by
  cases s with
  | nil => cases h
  | cons c q =>
    simp only [dotP] at h
    split at h
    · rename_i e; cases h; rw [e]
    · cases h
abbrev Pc := List UInt8 × Nat × Bool
def pcs (s : List UInt8) (first : Bool) : List Pc :=
  if first = false ∧ s = [] then []
  else if h : 0 < (numP s).2 then ([], (numP s).1, true) :: pcs (s.drop (numP s).2) false
  else match h1 : (if first = true then some s else dotP s) with
    | none => [([], 0, false)]
    | some r => if h2 : nl r = 0 then [([], 0, false)] else (r.take (nl r), 0, true) :: pcs (r.drop (nl r)) false
  termination_by s.length
  decreasing_by
    · rw [List.length_drop]
      have := (numP_le s).1
      omega
    · rw [List.length_drop]
      have h3 := nl_le r
      have h4 : r.length ≤ s.length := by
        cases first with
        | true =>
          have e : some s = some r := h1
          cases e; exact Nat.le_refl _
        | false =>
          have e : dotP s = some r := h1
          rw [dotP_some e]; simp
      omega
theorem pcs_end : pcs [] false = [] := by rw [pcs]; simp
theorem pcs_num {s : List UInt8} {first : Bool} (h0 : ¬ (first = false ∧ s = [])) (h : 0 < (numP s).2) : pcs s first = ([], (numP s).1, true) :: pcs (s.drop (numP s).2) false := by
  rw [pcs, if_neg h0, dif_pos h]
theorem pcs_nodot {s : List UInt8} (h0 : s ≠ []) (h : ¬ 0 < (numP s).2) (hd : dotP s = none) : pcs s false = [([], 0, false)] := by
  rw [pcs, if_neg (fun q => h0 q.2), dif_neg h]
  split
  · rfl
  · rename_i r e
    rw [if_neg (by decide), hd] at e; cases e
theorem pcs_item {s r : List UInt8} {first : Bool} (h0 : ¬ (first = false ∧ s = [])) (h : ¬ 0 < (numP s).2) (hr : (if first = true then some s else dotP s) = some r) : pcs s first = if nl r = 0 then [([], 0, false)] else (r.take (nl r), 0, true) :: pcs (r.drop (nl r)) false := by
  rw [pcs, if_neg h0, dif_neg h]
  split
  · rename_i e; rw [hr] at e; cases e
  · rename_i r' e
    rw [hr] at e
    cases e
    split <;> rfl
end Go.Proofs.YtjaigpidmngaaaaGreat

namespace Go.Proofs.YtjaigpidmngaaaaGreat
inductive Vl where
  | mk (kd : Int) (num : Nat) (tx : List UInt8) (its : List Vl)
def Vl.kd : Vl → Int | .mk k _ _ _ => k
def Vl.num : Vl → Nat | .mk _ n _ _ => n
def Vl.tx : Vl → List UInt8 | .mk _ _ t _ => t
def Vl.its : Vl → List Vl | .mk _ _ _ l => l
def decD : Nat → Nat → List UInt8
  | 0, _ => []
  | k + 1, n => if n < 10 then [UInt8.ofNat (48 + n)] else decD k (n / 10) ++ [UInt8.ofNat (48 + n % 10)]
def dec (n : Nat) : List UInt8 := decD 20 n
def figH (n : Nat) : UInt8 := UInt8.ofNat (if n < 10 then 48 + n else 87 + n)
def quoC (c : UInt8) : List UInt8 := if c.toNat < 32 ∨ 126 < c.toNat ∨ c = 39 ∨ c = 92 then [92, figH (c.toNat / 16), figH (c.toNat % 16)] else [c]
def quo (s : List UInt8) : List UInt8 := [39] ++ s.flatMap quoC ++ [39]
end Go.Proofs.YtjaigpidmngaaaaGreat

namespace Go.Proofs.YtjaigpidmngaaaaGreat
structure TyV (l : List Ty) : Prop where
  len : l.length ≤ 32
  ok : ∀ i, i < l.length → tyErr l i = 0
theorem tyChk_v {l : List Ty} (h : (tyChk l).1 = 0) : TyV l := by
  unfold tyChk at h
  split at h
  · cases h
  · rename_i hl
    refine ⟨by omega, fun i hi => ?_⟩
    split at h
    · rename_i k hk
      obtain ⟨hn, h1, _⟩ := find_some hk
      simp only [List.getElem_range, ne_eq, decide_not, Bool.not_eq_true', decide_eq_false_iff_not] at h1
      exact absurd h h1
    · rename_i hk
      rw [List.findIdx?_eq_none_iff] at hk
      have := hk i (List.mem_range.2 hi)
      simpa using this
theorem fst0_all : ∀ {l : List Int}, fst0 l = 0 → ∀ x ∈ l, x = 0
  | [], _, x, h => by cases h
  | e :: l, h, x, hx => by
    simp only [fst0] at h
    split at h
    · rename_i q; exact absurd h q
    · rename_i q
      rcases List.mem_cons.1 hx with rfl | hx
      · exact Classical.not_not.1 q
      · exact fst0_all h x hx
structure TyG (l : List Ty) (n : Nat) (t : Ty) : Prop where
  form : formE t = 0
  named : namedE l t n = 0
  bound : boundE t = 0
  order : orderE l t n = 0
  items : itemsE l t = 0
  deep : deepE l n = 0
theorem TyV.at {l : List Ty} (h : TyV l) {i : Nat} (hi : i < l.length) : TyG l i l[i] := by
  have := h.ok i hi
  unfold tyErr at this
  rw [show l.getD i ty0 = l[i] from by simp [List.getD, hi]] at this
  have q := fst0_all this
  exact ⟨q _ (by simp), q _ (by simp), q _ (by simp), q _ (by simp), q _ (by simp), q _ (by simp)⟩
end Go.Proofs.YtjaigpidmngaaaaGreat

namespace Go.Proofs.YtjaigpidmngaaaaGreat
def kIt (k : Int) : Bool := decide (k = 13 ∨ k = 14)
def stepP (l : List Ty) (t : Int) (p : Pc) : (Bool × Nat) × Int × Int :=
  if p.1 = [] then (if kEl (tAt l t).kd = false then ((false, 0), 0, 4) else if (tAt l t).bd ≤ (p.2.1 : Int) then ((false, 0), 0, 7) else ((true, p.2.1), (tAt l t).el, 0))
  else if kIt (tAt l t).kd = false then ((false, 0), 0, 4)
  else match itemIx l t p.1 with
    | none => ((false, 0), 0, 5)
    | some n => ((false, n), ((tAt l t).its.getD n it0).ty, 0)
def wayP (l : List Ty) : Int → List Pc → List (Bool × Nat) → List (Bool × Nat) × Int × Int
  | t, [], acc => (acc, t, 0)
  | t, p :: ps, acc => if (stepP l t p).2.2 = 0 then wayP l (stepP l t p).2.1 ps (acc ++ [(stepP l t p).1]) else ([], 0, (stepP l t p).2.2)
def knownT (l : List Ty) (t : Int) : Prop := 0 ≤ t ∧ t < l.length ∧ (tyChk l).1 = 0
instance (l : List Ty) (t : Int) : Decidable (knownT l t) := inferInstanceAs (Decidable (_ ∧ _))
def findP (l : List Ty) (t : Int) (s : List UInt8) : List (Bool × Nat) × Int × Int :=
  if knownT l t then (if (pcs s true).all (·.2.2) = true then wayP l t (pcs s true) [] else ([], 0, 1)) else ([], 0, 8)
end Go.Proofs.YtjaigpidmngaaaaGreat

namespace Go.Proofs.YtjaigpidmngaaaaGreat
abbrev Tok := Int × List UInt8 × Nat × Nat
structure Opd where
  k : Int
  t : List UInt8
  neg : Bool
  num : Nat
inductive Ex where
  | mk (op rel : Int) (args : List Opd) (kids : List Ex)
abbrev opd0 : Opd := ⟨0, [], false, 0⟩
abbrev ex0 : Ex := .mk 0 0 [] []
structure PSt where
  p : Nat
  n : Nat
  e : Int
  a : Int
def tk (l : List Tok) (i : Nat) : Tok := l.getD i (6, [], 0, 0)
def PSt.fail (l : List Tok) (σ : PSt) (e : Int) : PSt := if σ.e = 0 then ⟨σ.p, σ.n, e, ((tk l σ.p).2.2.2 : Nat)⟩ else σ
abbrev PSt.on (σ : PSt) : PSt := ⟨σ.p + 1, σ.n, σ.e, σ.a⟩
def isT (l : List Tok) (σ : PSt) (k : Int) (s : List UInt8) : Bool := decide ((tk l σ.p).1 = k) && decide ((tk l σ.p).2.1 = s)
def skb (l : List Tok) (σ : PSt) (k : Int) (s : List UInt8) : Bool := decide (σ.e = 0) && isT l σ k s
def skp (l : List Tok) (σ : PSt) (k : Int) (s : List UInt8) : PSt := if skb l σ k s = true then σ.on else σ
def mst (l : List Tok) (σ : PSt) (k : Int) (s : List UInt8) : PSt := if skb l σ k s = true then σ.on else σ.fail l 11
def nmB (l : List Tok) (σ : PSt) : Bool := decide (σ.e = 0) && (decide ((tk l σ.p).1 = 1) && !rsv.contains (tk l σ.p).2.1)
def nm (l : List Tok) (σ : PSt) : List UInt8 × PSt := if nmB l σ = true then ((tk l σ.p).2.1, σ.on) else ([], σ.fail l 11)
def el (l : List Tok) (σ : PSt) : List UInt8 × PSt :=
  if (tk l (mst l σ 5 [91]).p).1 = 2 then ([91] ++ (tk l (mst l σ 5 [91]).p).2.1 ++ [93], mst l (mst l σ 5 [91]).on 5 [93]) else ([], (mst l σ 5 [91]).fail l 11)
def pthL (l : List Tok) : Nat → List UInt8 → PSt → List UInt8 × PSt
  | 0, s, σ => (s, σ)
  | k + 1, s, σ =>
    if σ.e = 0 then
      if isT l σ 5 [91] = true then pthL l k (s ++ (el l σ).1) (el l σ).2
      else if isT l σ 5 [46] = true then pthL l k (s ++ ([46] ++ (nm l σ.on).1)) (nm l σ.on).2
      else (s, σ)
    else (s, σ)
def pth0 (l : List Tok) (σ : PSt) : List UInt8 × PSt := if isT l σ 5 [91] = true then el l σ else nm l σ
def pth (l : List Tok) (σ : PSt) : List UInt8 × PSt := pthL l (l.length + 1) (pth0 l σ).1 (pth0 l σ).2
def opd1 (l : List Tok) (σ : PSt) (neg : Bool) : Opd × PSt :=
  if (tk l σ.p).1 = 2 then (⟨2, [], neg, (tk l σ.p).2.2.1⟩, σ.on)
  else if neg = true then (opd0, σ.fail l 11)
  else if (tk l σ.p).1 = 3 then (⟨3, (tk l σ.p).2.1, false, 0⟩, σ.on)
  else if (tk l σ.p).1 = 4 then (⟨5, [], false, (tk l σ.p).2.2.1⟩, σ.on)
  else if isT l σ 1 [84, 82, 85, 69] = true then (⟨4, [], false, 1⟩, σ.on)
  else if isT l σ 1 [70, 65, 76, 83, 69] = true then (⟨4, [], false, 0⟩, σ.on)
  else (⟨1, (pth l σ).1, false, 0⟩, (pth l σ).2)
def opd (l : List Tok) (σ : PSt) : Opd × PSt := if σ.e = 0 then opd1 l (skp l σ 5 [45]) (skb l σ 5 [45]) else (opd0, σ)
def relT (s : List UInt8) : Nat := if s = [61] then 1 else if s = [60, 62] then 2 else if s = [60] then 3 else if s = [60, 61] then 4 else if s = [62] then 5 else if s = [62, 61] then 6 else 0
def relOf (t : Tok) : Nat := if t.1 = 5 then relT t.2.1 else 0
def btw (l : List Tok) (a : Opd) (nt : Bool) (σ : PSt) : Ex × PSt :=
  let q := opd l (mst l σ 1 [66, 69, 84, 87, 69, 69, 78])
  let r := opd l (mst l q.2 1 [65, 78, 68])
  (if nt = true then .mk 4 0 [] [.mk 2 0 [a, q.1, r.1] []] else .mk 2 0 [a, q.1, r.1] [], r.2)
def tst (l : List Tok) (σ : PSt) : Ex × PSt :=
  let a := opd l σ
  if a.2.e = 0 then
    if 0 < relOf (tk l a.2.p) then (.mk 1 (relOf (tk l a.2.p)) [a.1, (opd l a.2.on).1] [], (opd l a.2.on).2)
    else if isT l a.2 1 [76, 73, 75, 69] = true then (.mk 3 0 [a.1, (opd l a.2.on).1] [], (opd l a.2.on).2)
    else btw l a.1 (isT l a.2 1 [78, 79, 84]) (skp l a.2 1 [78, 79, 84])
  else (ex0, a.2)
def wth (l : List Tok) (σ : PSt) (f : PSt → Ex × PSt) : Ex × PSt :=
  if 8 ≤ σ.n then (ex0, σ.fail l 9) else ((f ⟨σ.p + 1, σ.n + 1, σ.e, σ.a⟩).1, ⟨(f ⟨σ.p + 1, σ.n + 1, σ.e, σ.a⟩).2.p, (f ⟨σ.p + 1, σ.n + 1, σ.e, σ.a⟩).2.n - 1, (f ⟨σ.p + 1, σ.n + 1, σ.e, σ.a⟩).2.e, (f ⟨σ.p + 1, σ.n + 1, σ.e, σ.a⟩).2.a⟩)
def rwL (l : List Tok) (f : PSt → Ex × PSt) (w : List UInt8) : Nat → List Ex → PSt → List Ex × PSt
  | 0, acc, σ => (acc, σ)
  | k + 1, acc, σ => if skb l σ 1 w = true then rwL l f w k (acc ++ [(f σ.on).1]) (f σ.on).2 else (acc, σ)
def rw' (l : List Tok) (f : PSt → Ex × PSt) (w : List UInt8) (op : Int) (σ : PSt) : Ex × PSt :=
  let q := rwL l f w (l.length + 1) [(f σ).1] (f σ).2
  (if q.1.length = 1 then (f σ).1 else .mk op 0 [] q.1, q.2)
def andE (l : List Tok) (f : PSt → Ex × PSt) : PSt → Ex × PSt := rw' l f [65, 78, 68] 5
def orE (l : List Tok) (f : PSt → Ex × PSt) : PSt → Ex × PSt := rw' l (andE l f) [79, 82] 6
def inNot (f : PSt → Ex × PSt) (τ : PSt) : Ex × PSt := (.mk 4 0 [] [(f τ).1], (f τ).2)
def inBr (l : List Tok) (f : PSt → Ex × PSt) (τ : PSt) : Ex × PSt := ((orE l f τ).1, mst l (orE l f τ).2 5 [41])
def ntE (l : List Tok) : Nat → PSt → Ex × PSt
  | 0, σ => (ex0, σ)
  | n + 1, σ => if σ.e = 0 then
      if isT l σ 1 [78, 79, 84] = true then wth l σ (inNot (ntE l n))
      else if isT l σ 5 [40] = true then wth l σ (inBr l (ntE l n))
      else tst l σ
    else (ex0, σ)
def topE (l : List Tok) : Ex × PSt := orE l (ntE l l.length) ⟨0, 0, 0, 0⟩
def endE (l : List Tok) (σ : PSt) : PSt := if σ.e = 0 ∧ (tk l σ.p).1 ≠ 6 then σ.fail l 11 else σ
structure Wt (l : List Tok) : Prop where
  pos : 0 < l.length
  len : l.length ≤ 65
  last : ∀ i, i < l.length → (tk l i).1 ≠ 6 → i + 1 < l.length
  txt : ∀ i, (tk l i).2.1.length ≤ 256
  word : ∀ i, (tk l i).1 = 1 → (tk l i).2.1 ≠ []
theorem isT_ne {l : List Tok} {σ : PSt} {k : Int} {s : List UInt8} (h : isT l σ k s = true) : (tk l σ.p).1 = k ∧ (tk l σ.p).2.1 = s := by simpa [isT] using h
theorem skb_ne {l : List Tok} {σ : PSt} {k : Int} {s : List UInt8} (h : skb l σ k s = true) : σ.e = 0 ∧ (tk l σ.p).1 = k ∧ (tk l σ.p).2.1 = s := by
  simp only [skb, Bool.and_eq_true, decide_eq_true_eq] at h
  exact ⟨h.1, isT_ne h.2⟩
structure Gd (l : List Tok) (σ σ' : PSt) : Prop where
  le : σ.p ≤ σ'.p
  lt : σ'.p < l.length
  n : σ'.n = σ.n
  z : (σ.e = 0 → σ.a = 0) → σ'.e = 0 → σ'.a = 0
theorem Gd.refl {l : List Tok} {σ : PSt} (h : σ.p < l.length) : Gd l σ σ := ⟨Nat.le_refl _, h, rfl, fun q => q⟩
theorem Gd.trans {l : List Tok} {a b c : PSt} (h : Gd l a b) (k : Gd l b c) : Gd l a c := ⟨Nat.le_trans h.le k.le, k.lt, k.n.trans h.n, fun q => k.z (h.z q)⟩
theorem Gd.fail {l : List Tok} {σ : PSt} (h : σ.p < l.length) (e : Int) (he : e ≠ 0 := by decide) : Gd l σ (σ.fail l e) := by
  unfold PSt.fail; split
  · exact ⟨Nat.le_refl _, h, rfl, fun _ q => absurd q he⟩
  · exact .refl h
theorem Gd.on {l : List Tok} (w : Wt l) {σ : PSt} (h : σ.p < l.length) (h6 : (tk l σ.p).1 ≠ 6) : Gd l σ σ.on := ⟨Nat.le_succ _, w.last _ h h6, rfl, fun q => q⟩
theorem Gd.skp {l : List Tok} (w : Wt l) {σ : PSt} (h : σ.p < l.length) {k : Int} (hk : k ≠ 6) (s : List UInt8) : Gd l σ (skp l σ k s) := by
  unfold Proofs.YtjaigpidmngaaaaGreat.skp; split
  · rename_i q; exact .on w h (by rw [(skb_ne q).2.1]; exact hk)
  · exact .refl h
theorem Gd.mst {l : List Tok} (w : Wt l) {σ : PSt} (h : σ.p < l.length) {k : Int} (hk : k ≠ 6) (s : List UInt8) : Gd l σ (mst l σ k s) := by
  unfold Proofs.YtjaigpidmngaaaaGreat.mst; split
  · rename_i q; exact .on w h (by rw [(skb_ne q).2.1]; exact hk)
  · exact .fail h _
theorem Gd.nm {l : List Tok} (w : Wt l) {σ : PSt} (h : σ.p < l.length) : Gd l σ (nm l σ).2 := by
  unfold Proofs.YtjaigpidmngaaaaGreat.nm; split
  · rename_i q
    simp only [nmB, Bool.and_eq_true, decide_eq_true_eq] at q
    exact .on w h (by rw [q.2.1]; decide)
  · exact .fail h _
theorem Gd.el {l : List Tok} (w : Wt l) {σ : PSt} (h : σ.p < l.length) : Gd l σ (el l σ).2 := by
  have h1 := Gd.mst w h (k := 5) (by decide) [91]
  unfold Proofs.YtjaigpidmngaaaaGreat.el; split
  · rename_i q
    have h2 := Gd.on w h1.lt (by rw [q]; decide)
    exact h1.trans (h2.trans (.mst w h2.lt (by decide) _))
  · exact h1.trans (.fail h1.lt _)
theorem Gd.pthL {l : List Tok} (w : Wt l) : ∀ (k : Nat) {σ : PSt} (s : List UInt8), σ.p < l.length → Gd l σ (pthL l k s σ).2
  | 0, σ, s, h => .refl h
  | k + 1, σ, s, h => by
    unfold Proofs.YtjaigpidmngaaaaGreat.pthL
    split
    · split
      · exact (Gd.el w h).trans (Gd.pthL w k _ (Gd.el w h).lt)
      · split
        · rename_i q
          have h1 := Gd.on w h (by rw [(isT_ne q).1]; decide)
          exact h1.trans ((Gd.nm w h1.lt).trans (Gd.pthL w k _ (Gd.nm w h1.lt).lt))
        · exact .refl h
    · exact .refl h
theorem Gd.pth0 {l : List Tok} (w : Wt l) {σ : PSt} (h : σ.p < l.length) : Gd l σ (pth0 l σ).2 := by
  unfold Proofs.YtjaigpidmngaaaaGreat.pth0; split
  · exact .el w h
  · exact .nm w h
theorem Gd.pth {l : List Tok} (w : Wt l) {σ : PSt} (h : σ.p < l.length) : Gd l σ (pth l σ).2 := (Gd.pth0 w h).trans (.pthL w _ _ (Gd.pth0 w h).lt)
theorem Gd.opd1 {l : List Tok} (w : Wt l) {σ : PSt} (h : σ.p < l.length) (neg : Bool) : Gd l σ (opd1 l σ neg).2 := by
  unfold Proofs.YtjaigpidmngaaaaGreat.opd1
  split
  · rename_i q; exact .on w h (by rw [q]; decide)
  · split
    · exact .fail h _
    · split
      · rename_i q; exact .on w h (by rw [q]; decide)
      · split
        · rename_i q; exact .on w h (by rw [q]; decide)
        · split
          · rename_i q; exact .on w h (by rw [(isT_ne q).1]; decide)
          · split
            · rename_i q; exact .on w h (by rw [(isT_ne q).1]; decide)
            · exact .pth w h
theorem Gd.opd {l : List Tok} (w : Wt l) {σ : PSt} (h : σ.p < l.length) : Gd l σ (opd l σ).2 := by
  unfold Proofs.YtjaigpidmngaaaaGreat.opd
  split
  · exact (Gd.skp w h (by decide) _).trans (.opd1 w (Gd.skp w h (by decide) _).lt _)
  · exact .refl h
theorem relOf_pos {t : Tok} (h : 0 < relOf t) : t.1 = 5 := by
  unfold relOf at h
  split at h
  · assumption
  · omega
theorem Gd.btw {l : List Tok} (w : Wt l) {σ : PSt} (h : σ.p < l.length) (a : Opd) (nt : Bool) : Gd l σ (btw l a nt σ).2 := by
  have h1 := Gd.mst w h (k := 1) (by decide) [66, 69, 84, 87, 69, 69, 78]
  have h2 := Gd.opd w h1.lt
  have h3 := Gd.mst w h2.lt (k := 1) (by decide) [65, 78, 68]
  exact h1.trans (h2.trans (h3.trans (.opd w h3.lt)))
theorem Gd.tst {l : List Tok} (w : Wt l) {σ : PSt} (h : σ.p < l.length) : Gd l σ (tst l σ).2 := by
  have h1 := Gd.opd w h
  unfold Proofs.YtjaigpidmngaaaaGreat.tst
  dsimp only
  split
  · split
    · rename_i q
      have h2 := Gd.on w h1.lt (by rw [relOf_pos q]; decide)
      exact h1.trans (h2.trans (.opd w h2.lt))
    · split
      · rename_i q
        have h2 := Gd.on w h1.lt (by rw [(isT_ne q).1]; decide)
        exact h1.trans (h2.trans (.opd w h2.lt))
      · have h2 := Gd.skp w h1.lt (k := 1) (by decide) [78, 79, 84]
        exact h1.trans (h2.trans (.btw w h2.lt _ _))
  · exact h1
def GdF (l : List Tok) (m : Nat) (f : PSt → Ex × PSt) : Prop := ∀ σ, σ.p < l.length → l.length - σ.p ≤ m → Gd l σ (f σ).2
theorem Gd.wth {l : List Tok} {m : Nat} {f : PSt → Ex × PSt} (hf : GdF l m f) (w : Wt l) {σ : PSt} (h : σ.p < l.length) (h6 : (tk l σ.p).1 ≠ 6) (hm : l.length - σ.p ≤ m + 1) : Gd l σ (wth l σ f).2 := by
  unfold Proofs.YtjaigpidmngaaaaGreat.wth
  split
  · exact .fail h _
  · have h1 := w.last _ h h6
    have h2 := hf ⟨σ.p + 1, σ.n + 1, σ.e, σ.a⟩ h1 (by show l.length - (σ.p + 1) ≤ m; omega)
    exact ⟨Nat.le_trans (Nat.le_succ _) h2.le, h2.lt, by show _ - 1 = _; rw [h2.n]; rfl, h2.z⟩
theorem Gd.rwL {l : List Tok} {m : Nat} {f : PSt → Ex × PSt} (hf : GdF l m f) (w : Wt l) (wd : List UInt8) : ∀ (k : Nat) (acc : List Ex) (σ : PSt), σ.p < l.length → l.length - σ.p ≤ m → Gd l σ (rwL l f wd k acc σ).2
  | 0, acc, σ, h, _ => .refl h
  | k + 1, acc, σ, h, hm => by
    unfold Proofs.YtjaigpidmngaaaaGreat.rwL
    split
    · rename_i q
      have h1 := Gd.on w h (by rw [(skb_ne q).2.1]; decide)
      have h2 := hf _ h1.lt (by show l.length - (σ.p + 1) ≤ m; omega)
      have := h2.le
      exact h1.trans (h2.trans (Gd.rwL hf w wd k _ _ h2.lt (by have := h1.le; omega)))
    · exact .refl h
theorem GdF.rw {l : List Tok} {m : Nat} {f : PSt → Ex × PSt} (hf : GdF l m f) (w : Wt l) (wd : List UInt8) (op : Int) : GdF l m (rw' l f wd op) := fun σ h hm => by
  have h1 := hf σ h hm
  exact h1.trans (.rwL hf w wd _ _ _ h1.lt (by have := h1.le; omega))
theorem GdF.or {l : List Tok} {m : Nat} {f : PSt → Ex × PSt} (hf : GdF l m f) (w : Wt l) : GdF l m (orE l f) := (hf.rw w _ _).rw w _ _
theorem GdF.inBr {l : List Tok} {m : Nat} {f : PSt → Ex × PSt} (hf : GdF l m f) (w : Wt l) : GdF l m (inBr l f) := fun σ h hm => by
  have h1 := hf.or w σ h hm
  exact h1.trans (.mst w h1.lt (by decide) _)
theorem GdF.nt {l : List Tok} (w : Wt l) : ∀ n, GdF l n (ntE l n)
  | 0 => fun σ h hm => by omega
  | n + 1 => fun σ h hm => by
    unfold ntE
    split
    · split
      · rename_i q; exact .wth (f := inNot (ntE l n)) (fun τ a b => GdF.nt w n τ a b) w h (by rw [(isT_ne q).1]; decide) hm
      · split
        · rename_i q; exact .wth ((GdF.nt w n).inBr w) w h (by rw [(isT_ne q).1]; decide) hm
        · exact .tst w h
    · exact .refl h
end Go.Proofs.YtjaigpidmngaaaaGreat

namespace Go.Proofs.YtjaigpidmngaaaaGreat
def Ex.args : Ex → List Opd | .mk _ _ a _ => a
def Ex.kids : Ex → List Ex | .mk _ _ _ k => k
mutual
def eSize : Ex → Nat
  | .mk _ _ a k => 1 + a.length + eSizes k
def eSizes : List Ex → Nat
  | [] => 0
  | a :: l => eSize a + eSizes l
end
def eTx : List Opd → Nat
  | [] => 0
  | o :: l => o.t.length + eTx l
end Go.Proofs.YtjaigpidmngaaaaGreat

namespace Go.Proofs.YtjaigpidmngaaaaGreat
def whatK (l : List Ty) (f : List (Bool × Nat) × Int × Int) : (Int × Int) × Int :=
  if f.2.2 ≠ 0 then ((0, 0), f.2.2)
  else if (tAt l f.2.1).kd = 9 then ((1, f.2.1 + 1), 0)
  else if (tAt l f.2.1).kd = 1 then ((3, 0), 0)
  else if (tAt l f.2.1).kd = 10 then ((2, 0), 0)
  else if isNum (tAt l f.2.1).kd = true then ((1, 0), 0)
  else ((0, 0), 8)
mutual
def eT : Ex → Prop
  | .mk _ _ a k => (a.length ≤ 1000000 ∧ ∀ o ∈ a, o.t.length ≤ 1000000) ∧ k.length ≤ 1000000 ∧ eTs k
def eTs : List Ex → Prop
  | [] => True
  | k :: ks => eT k ∧ eTs ks
end
theorem eTs_mem : ∀ {l : List Ex}, eTs l → ∀ x ∈ l, eT x
  | k :: ks, h, x, hx => by
    simp only [eTs] at h
    rcases List.mem_cons.1 hx with rfl | hx
    · exact h.1
    · exact eTs_mem h.2 x hx
end Go.Proofs.YtjaigpidmngaaaaGreat

namespace Go.Proofs.YtjaigpidmngaaaaGreat
def at1 (l : List Ty) (t : Int) (x : Bool × Int) (v : Vl) : Option (Int × Vl) :=
  if x.1 ≠ kEl (tAt l t).kd ∨ (x.1 = false ∧ kIt (tAt l t).kd = false) ∨ x.2 < 0 then none
  else if x.1 = false ∧ ((tAt l t).its.length : Int) ≤ x.2 then none
  else
    let to := if x.1 = true then (tAt l t).el else ((tAt l t).its.getD x.2.toNat it0).ty
    if (tAt l t).kd = 14 then (if brIx l t v.num = some x.2.toNat then (match v.its with | [] => none | w :: _ => some (to, w)) else none)
    else (v.its[x.2.toNat]?).map fun w => (to, w)
def atP (l : List Ty) : Int → List (Bool × Int) → Vl → Option Vl
  | _, [], v => some v
  | t, x :: xs, v => (at1 l t x v).bind fun y => atP l y.1 xs y.2
end Go.Proofs.YtjaigpidmngaaaaGreat

namespace Go.Proofs.YtjaigpidmngaaaaGreat
def tag (id : Nat) : Nat := id - 2 ^ id.log2
inductive AV where
  | int (k : IntKind) (n : Int)
  | bool (b : Bool)
  | str (l : List UInt8)
  | agg (cs : List AV)
  | tup (vs : List AV)
  | rows (sz : Nat) (l : List (List AV))
  | nilS
  | own (id sz lo hi : Nat)
  | ptr (id sz i j : Nat)
  | fp (cs : List AV)
  | nilP
  | clo (f : Nat) (first caps : List AV)
  | nilF
  | nilI
  | emp
  | yld (id : Nat)
instance : Inhabited AV := ⟨.nilS⟩
def AV.isCell : AV → Bool
  | .agg _ => false
  | .tup _ => false
  | _ => true
def AV.cells : AV → List AV
  | .agg cs => cs
  | v => [v]
inductive LSt where
  | ready
  | busy
  | done (c : Code)
structure LoopB where
  ps : List Nat
  a : Code
  b : Code
  N : Nat
  s : Nat → Option AV
  st : LSt
inductive Blk where
  | rows (sz : Nat) (l : List (List AV))
  | loop (l : LoopB)
abbrev AH := List (Nat × Blk)
def hget : AH → Nat → Option Blk
  | [], _ => none
  | (i, b) :: H, id => if id = i then some b else hget H id
def hset : AH → Nat → Blk → AH
  | [], _, _ => []
  | (i, b) :: H, id, c => if id = i then (i, c) :: H else (i, b) :: hset H id c
def hdel : AH → Nat → AH
  | [], _ => []
  | (i, b) :: H, id => if id = i then hdel H id else (i, b) :: hdel H id
abbrev Fr := Nat → Option AV
def Fr.set (s : Fr) (d : Nat) (x : AV) : Fr := fun t => if t = d then some x else s t
def Fr.clr (s : Fr) (d : Nat) : Fr := fun t => if t = d then none else s t
def Fr.put (s : Fr) (d : Option Nat) (x : AV) : Fr := match d with | some d => s.set d x | none => s
def Fr.del (s : Fr) (d : Option Nat) : Fr := match d with | some d => s.clr d | none => s
def initFr (args : List AV) : Fr := fun t => args[t]?
inductive X where
  | t (n : Nat)
  | c (v : AV)
  | bad
def ev (s : Fr) : X → Option AV
  | .t n => s n
  | .c v => some v
  | .bad => none
def evL (s : Fr) : List X → Option (List AV)
  | [] => some []
  | x :: xs => (ev s x).bind fun v => (evL s xs).bind fun vs => some (v :: vs)
inductive SK where
  | i (k : IntKind)
  | b
  | s
inductive EK where
  | cnt
  | ixb
  | cmp
  | same
inductive CO where
  | mv (x : X)
  | pick (c a b : X)
  | box (T : Nat) (x : X)
  | allc (T : Nat) (zs : List AV)
  | load (n : Option Nat) (x : X)
  | store (n : Nat) (x y : X)
  | faddr (off : Nat) (x : X)
  | iaddr (sz : Nat) (x i : X)
  | iarr (len sz : Nat) (x i : X)
  | field (off : Nat) (n : Option Nat) (x : X)
  | idx (x i : X)
  | idxA (len sz : Nat) (n : Option Nat) (x i : X)
  | bin (op : BinOp) (x y : X)
  | beq (neg : Bool) (x y : X)
  | ncmpS (neg : Bool) (x : X)
  | ncmpP (neg : Bool) (x : X)
  | aeq (neg : Bool) (sh : List SK) (x y : X)
  | un (op : UnOp) (x : X)
  | conv (k : IntKind) (x : X)
  | convS (x : X)
  | bytesS (x : X)
  | strB (x : X)
  | ext (k : EK) (xs : List X)
  | build (zs : List AV) (parts : List (Nat × Nat × X))
  | bslice (T sz n : Nat) (zs : List AV) (parts : List (Nat × X))
  | bsliceO (T sz n : Nat) (zs : List AV) (parts : List (Nat × X))
  | slice (k : Option Nat) (x : X) (lo hi : Option X)
  | mks (T sz bytes : Nat) (zs : List AV) (n : X)
  | len (str : Bool) (x : X)
  | append (T : Nat) (str : Bool) (sz bytes : Nat) (x y : X)
  | mm (mx : Bool) (xs : List X)
  | extr (x : X) (i : Nat)
  | call (f : Nat) (xs : List X)
  | callv (f : X) (xs : List X)
  | mkfn (f : Nat) (first caps : List X)
  | idu (x : X)
  | idf (als : List (Nat × Nat × Nat)) (x : X)
  | peq (neg : Bool) (x y : X)
  | sdata (x : X)
  | ustr (u : Nat) (x n : X)
  | nilck (x : X)
  | bad
structure COp where
  dst : Option Nat
  guard : Option (Nat × Bool)
  co : CO
abbrev oo_ (d : Nat) (c : CO) : COp := ⟨some d, none, c⟩
abbrev om_ (d a : Nat) : COp := ⟨some d, none, .mv (.t a)⟩
abbrev ol_ (d a : Nat) : COp := ⟨some d, none, .load none (.t a)⟩
abbrev of_ (d n a : Nat) : COp := ⟨some d, none, .faddr n (.t a)⟩
abbrev og_ (d a : Nat) (b : Bool) (c : CO) : COp := ⟨some d, some (a, b), c⟩
abbrev os_ (c : CO) : COp := ⟨none, none, c⟩
inductive Rs where
  | val (v : AV)
  | upd (H : AH)
  | valH (v : AV) (H : AH)
  | fresh (T : Nat) (blk : Blk) (v : Nat → AV) (H : AH)
  | call (f : Nat) (args : List AV)
  | yield (id : Nat) (args : List AV)
/-! ### What operations come to -/
def readA (H : AH) : AV → Option (List AV)
  | .fp cs => some cs
  | .ptr id sz i j =>
    match hget H id with
    | some (.rows sz' l) => if sz' = sz then (l[i]?).map (·.drop j) else none
    | _ => none
  | _ => none
def readS (H : AH) (str : Bool) (sz : Nat) (v : AV) : Option (List (List AV)) :=
  match str, v with
  | false, .rows sz' l => if sz' = sz then some l else none
  | false, .nilS => some []
  | false, .own id sz' lo hi =>
    match hget H id with
    | some (.rows sz'' l) => if sz'' = sz ∧ sz' = sz ∧ hi ≤ l.length then some ((l.take hi).drop lo) else none
    | _ => none
  | true, .str l => if sz = 1 then some (l.map fun c => [.int .u8 (c.toNat : Int)]) else none
  | _, _ => none
def over (r : List AV) (j : Nat) (vs : List AV) : List AV := r.take j ++ vs ++ r.drop (j + vs.length)
def overs (cs : List AV) : List (Nat × Nat × AV) → Option (List AV)
  | [] => some cs
  | (off, size, v) :: rest =>
    if v.cells.length = size ∧ off + size ≤ cs.length then overs (over cs off v.cells) rest else none
def setRows (sz : Nat) (l : List (List AV)) : List (Nat × AV) → Option (List (List AV))
  | [] => some l
  | (i, v) :: rest => if v.cells.length = sz ∧ i < l.length then setRows sz (l.set i v.cells) rest else none
def evParts3 (s : Fr) : List (Nat × Nat × X) → Option (List (Nat × Nat × AV))
  | [] => some []
  | (o, z, x) :: r => (ev s x).bind fun v => (evParts3 s r).bind fun vs => some ((o, z, v) :: vs)
def evParts2 (s : Fr) : List (Nat × X) → Option (List (Nat × AV))
  | [] => some []
  | (i, x) :: r => (ev s x).bind fun v => (evParts2 s r).bind fun vs => some ((i, v) :: vs)
def bitsV (op : BinOp) (k : IntKind) (x y : Int) : Int :=
  let a := BitVec.ofInt k.bits x
  let b := BitVec.ofInt k.bits y
  match op with
  | .and => k.wrap (a &&& b).toNat
  | .or => k.wrap (a ||| b).toNat
  | .xor => k.wrap (a ^^^ b).toNat
  | _ => k.wrap (a &&& ~~~b).toNat
def binInt (op : BinOp) (k : IntKind) (a b : Int) : Option AV :=
  match op with
  | .add => some (.int k (k.wrap (a + b)))
  | .sub => some (.int k (k.wrap (a - b)))
  | .mul => some (.int k (k.wrap (a * b)))
  | .quo => if b ≠ 0 then some (.int k (k.wrap (a.tdiv b))) else none
  | .rem => if b ≠ 0 then some (.int k (a.tmod b)) else none
  | .and => some (.int k (bitsV .and k a b))
  | .or => some (.int k (bitsV .or k a b))
  | .xor => some (.int k (bitsV .xor k a b))
  | .andNot => some (.int k (bitsV .andNot k a b))
  | .eql => some (.bool (decide (a = b)))
  | .neq => some (.bool (decide (a ≠ b)))
  | .lss => some (.bool (decide (a < b)))
  | .leq => some (.bool (decide (a ≤ b)))
  | .gtr => some (.bool (decide (b < a)))
  | .geq => some (.bool (decide (b ≤ a)))
  | _ => none
def binStr (op : BinOp) (a b : List UInt8) : Option AV :=
  match op with
  | .add => if ((a.length + b.length : Nat) : Int) ≤ 9223372036854775807 then some (.str (a ++ b)) else none
  | .eql => some (.bool (decide (a = b)))
  | .neq => some (.bool (decide (a ≠ b)))
  | .lss => some (.bool (Op.bytesLess a b))
  | .leq => some (.bool (Op.bytesLess a b || decide (a = b)))
  | .gtr => some (.bool (!(Op.bytesLess a b || decide (a = b))))
  | .geq => some (.bool (!(Op.bytesLess a b)))
  | _ => none
def isNilS : AV → Option Bool
  | .nilS => some true
  | .rows _ l => if l ≠ [] then some false else none
  | .own _ _ _ _ => some false
  | _ => none
def isNilP : AV → Option Bool
  | .nilP => some true
  | .ptr _ _ _ _ => some false
  | .fp _ => some false
  | _ => none
def binV (op : BinOp) (x y : AV) : Option AV :=
  match x, y with
  | .int k a, .int k' b =>
    match op with
    | .shl => if 0 ≤ b then some (.int k (k.wrap (a * 2 ^ (min b.toNat k.bits)))) else none
    | .shr => if 0 ≤ b then some (.int k (a.fdiv (2 ^ (min b.toNat k.bits)))) else none
    | _ => if k = k' then binInt op k a b else none
  | .str a, .str b => binStr op a b
  | _, _ => none
def unV (op : UnOp) (x : AV) : Option AV :=
  match op, x with
  | .neg, .int k n => some (.int k (k.wrap (0 - n)))
  | .not, .bool b => some (.bool (!b))
  | .xor, .int k n => some (.int k (bitsV .xor k (if k.signed then -1 else k.max) n))
  | _, _ => none
def eqCells : List SK → List AV → List AV → Option Bool
  | [], [], [] => some true
  | .i k :: sh, .int k1 a :: xs, .int k2 b :: ys =>
    if k1 = k ∧ k2 = k then (eqCells sh xs ys).map fun r => decide (a = b) && r else none
  | .b :: sh, .bool a :: xs, .bool b :: ys => (eqCells sh xs ys).map fun r => decide (a = b) && r
  | .s :: sh, .str a :: xs, .str b :: ys => (eqCells sh xs ys).map fun r => decide (a = b) && r
  | _, _, _ => none
def mm2 (mx : Bool) : List AV → Option AV
  | [.int k a] => some (.int k a)
  | [.int k a, .int k' b] => if k = k' then some (.int k (if mx then max a b else min a b)) else none
  | [.int k a, .int k' b, .int k'' c] => if k = k' ∧ k = k'' then some (.int k (if mx then max (max a b) c else min (min a b) c)) else none
  | _ => none
def lenA (str : Bool) (v : AV) : Option Int :=
  match str, v with
  | true, .str l => some l.length
  | false, .rows _ l => some l.length
  | false, .nilS => some 0
  | false, .own _ _ lo hi => some ((hi - lo : Nat) : Int)
  | _, _ => none
def partA (cs : List AV) (off : Nat) : Option Nat → Option AV
  | none => (cs[off]?).bind fun v => if v.isCell = true then some v else none
  | some n => if off + n ≤ cs.length then some (.agg ((cs.drop off).take n)) else none
def evO (s : Fr) (d : Int) : Option X → Option Int
  | none => some d
  | some x => (ev s x).bind fun v => match v with | .int _ n => some n | _ => none
def cutA (k : Option Nat) (v : AV) (a b : Nat) : Option AV :=
  match v with
  | .str l => some (.str ((l.take b).drop a))
  | .rows sz l => if k = some sz then some (.rows sz ((l.take b).drop a)) else none
  | .nilS => some .nilS
  | .own id sz l _ => if k = some sz then some (.own id sz (l + a) (l + b)) else none
  | _ => none
def sliceA (s : Fr) (k : Option Nat) (v : AV) (lo hi : Option X) : Option AV :=
  (lenA k.isNone v).bind fun n => (evO s 0 lo).bind fun a => (evO s n hi).bind fun b =>
    if 0 ≤ a ∧ a ≤ b ∧ b ≤ n then cutA k v a.toNat b.toNat else none
def allCells (l : List AV) : Bool := l.all AV.isCell
def bytesA : List (List AV) → Option (List UInt8)
  | [] => some []
  | [.int .u8 n] :: r => if 0 ≤ n ∧ n < 256 then (bytesA r).bind fun l => some (UInt8.ofNat n.toNat :: l) else none
  | _ => none
def extA (k : EK) (vs : List AV) : Option AV :=
  match k, vs with
  | .cnt, [.str l, .int .u8 c] => some (.int .i64 (Lib.countByte l c.toNat.toUInt8 : Nat))
  | .ixb, [.str l, .int .u8 c] => some (.int .i64 (Lib.indexByte l c.toNat.toUInt8))
  | .cmp, [.str a, .str b] => some (.int .i64 (Lib.compareBytes a b))
  | .same, [v] => some v
  | _, _ => none
def evalOp (s : Fr) (H : AH) : CO → Option Rs
  | .mv x => (ev s x).bind fun v => some (.val v)
  | .pick c a b => (ev s c).bind fun v => match v with
    | .bool q => if q = true then (ev s a).bind fun v => some (.val v) else (ev s b).bind fun v => some (.val v)
    | _ => none
  | .box T x => (ev s x).bind fun v => if allCells v.cells = true then some (.fresh T (.rows v.cells.length [v.cells]) (fun id => .ptr id v.cells.length 0 0) H) else none
  | .allc T zs => some (.fresh T (.rows zs.length [zs]) (fun id => .ptr id zs.length 0 0) H)
  | .load n x => (ev s x).bind fun v => (readA H v).bind fun cs => (partA cs 0 n).bind fun r => some (.val r)
  | .store n x y => (ev s x).bind fun v => (ev s y).bind fun z =>
    match v with
    | .ptr id sz i j =>
      match hget H id with
      | some (.rows sz' l) =>
        (l[i]?).bind fun r => if z.cells.length = n ∧ allCells z.cells = true ∧ sz' = sz ∧ j + n ≤ r.length then some (.upd (hset H id (.rows sz (l.set i (over r j z.cells))))) else none
      | _ => none
    | _ => none
  | .faddr off x => (ev s x).bind fun v => match v with
    | .ptr id sz i j => some (.val (.ptr id sz i (j + off)))
    | .fp cs => some (.val (.fp (cs.drop off)))
    | _ => none
  | .iaddr sz x i => (ev s x).bind fun v => (ev s i).bind fun w => match w with
    | .int _ n => match v with
      | .rows sz' l => if sz' = sz ∧ 0 ≤ n ∧ n < l.length then some (.val (.fp (l.getD n.toNat []))) else none
      | .own id sz' lo hi => if sz' = sz ∧ 0 ≤ n ∧ n < ((hi - lo : Nat) : Int) then some (.val (.ptr id sz (lo + n.toNat) 0)) else none
      | _ => none
    | _ => none
  | .iarr len sz x i => (ev s x).bind fun v => (ev s i).bind fun w => match w with
    | .int _ n => if 0 ≤ n ∧ n < len then match v with
      | .ptr id z a j => some (.val (.ptr id z a (j + n.toNat * sz)))
      | .fp cs => some (.val (.fp (cs.drop (n.toNat * sz))))
      | _ => none
      else none
    | _ => none
  | .field off n x => (ev s x).bind fun v => match v with
    | .agg cs => (partA cs off n).bind fun r => some (.val r)
    | _ => none
  | .idx x i => (ev s x).bind fun v => (ev s i).bind fun w => match v, w with
    | .str l, .int _ n => if 0 ≤ n ∧ n < l.length then some (.val (.int .u8 ((l.getD n.toNat 0).toNat : Int))) else none
    | _, _ => none
  | .idxA len sz n x i => (ev s x).bind fun v => (ev s i).bind fun w => match v, w with
    | .agg cs, .int _ a => if 0 ≤ a ∧ a < len then (partA cs (a.toNat * sz) n).bind fun r => some (.val r) else none
    | _, _ => none
  | .bin op x y => (ev s x).bind fun a => (ev s y).bind fun b => (binV op a b).bind fun v => some (.val v)
  | .beq neg x y => (ev s x).bind fun a => (ev s y).bind fun b => match a, b with
    | .bool p, .bool q => some (.val (.bool (if neg then !(p == q) else (p == q))))
    | _, _ => none
  | .ncmpS neg x => (ev s x).bind fun a => (isNilS a).bind fun b => some (.val (.bool (if neg then !b else b)))
  | .ncmpP neg x => (ev s x).bind fun a => (isNilP a).bind fun b => some (.val (.bool (if neg then !b else b)))
  | .aeq neg sh x y => (ev s x).bind fun a => (ev s y).bind fun b => match a, b with
    | .agg xs, .agg ys => (eqCells sh xs ys).bind fun r => some (.val (.bool (if neg then !r else r)))
    | _, _ => none
  | .un op x => (ev s x).bind fun a => (unV op a).bind fun v => some (.val v)
  | .conv k x => (ev s x).bind fun a => match a with
    | .int _ n => some (.val (.int k (k.wrap n)))
    | _ => none
  | .convS x => (ev s x).bind fun a => match a with
    | .str l => some (.val (.str l))
    | _ => none
  | .bytesS x => (ev s x).bind fun v => (readS H false 1 v).bind fun ys => (bytesA ys).bind fun l => some (.val (.str l))
  | .strB x => (ev s x).bind fun v => match v with
    | .str l => some (.val (.rows 1 (l.map fun c => [.int .u8 (c.toNat : Int)])))
    | _ => none
  | .ext k xs => (evL s xs).bind fun vs => (extA k vs).bind fun v => some (.val v)
  | .build zs parts => (evParts3 s parts).bind fun ps => (overs zs ps).bind fun cs => if allCells cs = true then some (.val (.agg cs)) else none
  | .bslice T sz n zs parts => (evParts2 s parts).bind fun ps => (setRows sz (List.replicate n zs) ps).bind fun l =>
    if l.all allCells = true then
      if n = 0 then some (.fresh T (.rows sz []) (fun id => .own id sz 0 0) H) else some (.val (.rows sz l))
    else none
  | .bsliceO T sz n zs parts => (evParts2 s parts).bind fun ps => (setRows sz (List.replicate n zs) ps).bind fun l =>
    if l.all allCells = true then some (.fresh T (.rows sz l) (fun id => .own id sz 0 n) H) else none
  | .slice k x lo hi => (ev s x).bind fun v => (sliceA s k v lo hi).bind fun r => some (.val r)
  | .mks T sz bytes zs n => (ev s n).bind fun v => match v with
    | .int _ a => if 0 ≤ a ∧ a * bytes ≤ 140737488355328 then some (.fresh T (.rows sz (List.replicate a.toNat zs)) (fun id => .own id sz 0 a.toNat) H) else none
    | _ => none
  | .len str x => (ev s x).bind fun v => (lenA str v).bind fun n => some (.val (.int .i64 n))
  | .append T str sz bytes x y => (ev s x).bind fun v => (ev s y).bind fun z => (readS H str sz z).bind fun ys =>
    match v with
    | .nilS => if ys = [] then some (.val .nilS)
      else if ys.length * bytes ≤ 140737488355328 then some (.fresh T (.rows sz ys) (fun id => .own id sz 0 ys.length) H) else none
    | .own id sz' lo hi => (readS H false sz (.own id sz' lo hi)).bind fun xs =>
      if sz' = sz ∧ lo = 0 ∧ tag id = T ∧ (xs.length + ys.length) * bytes ≤ 140737488355328 then
        some (.fresh T (.rows sz (xs ++ ys)) (fun id => .own id sz 0 (xs.length + ys.length)) (hdel H id)) else none
    | .emp => if ys = [] then some (.val .emp)
      else if ys.length * bytes ≤ 140737488355328 then some (.fresh T (.rows sz ys) (fun id => .own id sz 0 ys.length) H) else none
    | _ => none
  | .mm mx xs => (evL s xs).bind fun vs => (mm2 mx vs).bind fun v => some (.val v)
  | .extr x i => (ev s x).bind fun v => match v with
    | .tup vs => (vs[i]?).bind fun r => some (.val r)
    | _ => none
  | .call f xs => (evL s xs).bind fun vs => some (.call f vs)
  | .callv g xs => (ev s g).bind fun c => (evL s xs).bind fun vs => match c with
    | .clo f first caps => some (.call f (first ++ vs ++ caps))
    | .yld id => some (.yield id vs)
    | _ => none
  | .mkfn f first caps => (evL s first).bind fun us => (evL s caps).bind fun vs => some (.val (.clo f us vs))
  | .idu x => (ev s x).bind fun v => match v with
    | .nilP => some (.val .nilP)
    | .ptr id sz i j =>
      match hget H id with
      | some (.rows sz' l) => if sz' = sz ∧ i < l.length ∧ j < sz then some (.val (.ptr id sz i j)) else none
      | _ => none
    | _ => none
  | .idf als x => (ev s x).bind fun v => match v with
    | .nilP => some (.val .nilP)
    | .ptr id sz i j =>
      match hget H id with
      | some (.rows sz' l) => if sz' = sz ∧ i = 0 ∧ 0 < l.length ∧ als.contains (tag id, sz, j) = true then some (.val (.ptr id sz 0 j)) else none
      | _ => none
    | _ => none
  | .peq neg x y => (ev s x).bind fun a => (ev s y).bind fun b => match a, b with
    | .ptr id sz i j, .ptr id' sz' i' j' => if id = id' ∧ sz = sz' ∧ i = i' ∧ j = j' then some (.val (.bool (!neg))) else none
    | _, _ => none
  | .sdata x => (ev s x).bind fun v => match v with
    | .nilS => some (.val .nilP)
    | .own id sz lo hi => if lo < hi then some (.val (.ptr id sz lo 0)) else none
    | _ => none
  | .ustr u x n => (ev s x).bind fun v => (ev s n).bind fun w => match v, w with
    | .nilP, .int .i64 k => if k = 0 then some (.val (.str [])) else none
    | .ptr id sz i j, .int .i64 k =>
      match hget H id with
      | some (.rows sz' l) => (bytesA (l.take k.toNat)).bind fun b =>
        if sz = 1 ∧ sz' = 1 ∧ i = 0 ∧ j = 0 ∧ 0 < k ∧ k ≤ l.length ∧ k ≤ 9223372036854775807 ∧ tag id = u then some (.valH (.str b) (hdel H id)) else none
      | _ => none
    | _, _ => none
  | .nilck x => (ev s x).bind fun v => match v with
    | .ptr _ _ _ _ => some (.val v)
    | .fp _ => some (.val v)
    | _ => none
  | .bad => none
end Go.Proofs.YtjaigpidmngaaaaGreat

namespace Go.Proofs.YtjaigpidmngaaaaGreat
/-! ### Translation -/
def constAV1 : Value → Option AV
  | .int k n => some (.int k n)
  | .bool b => some (.bool b)
  | .string s => some (.str s.data.toList)
  | .slice none 0 0 => some .nilS
  | .pointer none => some .nilP
  | .nilFunc => some .nilF
  | .nilIface => some .nilI
  | _ => none
def constL : List Value → Option (List AV)
  | [] => some []
  | v :: vs => (constAV1 v).bind fun a => (constL vs).bind fun bs => some (a :: bs)
def constAV : Value → Option AV
  | .agg cs => (constL cs.toList).map AV.agg
  | v => constAV1 v
def constCells : Value → Option (List AV)
  | .agg cs => constL cs.toList
  | v => (constAV1 v).map fun a => [a]
def cx : Operand → X
  | .tmp t => .t t
  | .const v => match constAV v with | some a => .c a | none => .bad
  | .func f => .c (.clo f [] [])
  | .global _ => .bad
def optX : Option Operand → Option X
  | none => none
  | some x => some (cx x)
def cxL : List Operand → List X
  | [] => []
  | x :: xs => cx x :: cxL xs
def isAggD : TypeDesc → Bool
  | .struct _ => true
  | .array _ _ => true
  | _ => false
def aggSize (P : Program) (t : TypeId) : Option (Option Nat) :=
  match P.underlying t, P.info? t with
  | some d, some i => if isAggD d then some (some i.size) else some none
  | _, _ => none
def shapeFields (P : Program) (F : TypeId → Option (List SK)) : List Field → Nat → Option (List SK)
  | [], _ => some []
  | f :: fs, pos => (F f.type).bind fun l => (aggSize P f.type).bind fun n =>
    if f.name ≠ "_" ∧ f.offset = pos ∧ l.length = n.getD 1 then (shapeFields P F fs (pos + l.length)).bind fun r => some (l ++ r) else none
def shapeOf (P : Program) : Nat → TypeId → Option (List SK)
  | 0, _ => none
  | d + 1, t =>
    match P.underlying t with
    | some (.int k) => some [.i k]
    | some .bool => some [.b]
    | some .string => some [.s]
    | some (.array n e) => (shapeOf P d e).bind fun l => (aggSize P e).bind fun m => match P.info? e with
      | some i => if l.length = m.getD 1 ∧ i.size = l.length then some ((List.replicate n l).flatten) else none
      | none => none
    | some (.struct fs) => if P.stoodInHeld t then none else shapeFields P (shapeOf P d) fs.toList 0
    | _ => none
def places (P : Program) (fs : Array Field) (i : Nat) : Option (Nat × Nat) :=
  match fs[i]? with
  | some f => match P.info? f.type with | some k => some (f.offset, k.size) | none => none
  | none => none
def partsOf (pl : Nat → Option (Nat × Nat)) : List (Nat × Operand) → Option (List (Nat × Nat × X))
  | [] => some []
  | (i, x) :: r => (pl i).bind fun p => (partsOf pl r).bind fun l => some ((p.1, p.2, cx x) :: l)
def parts2 : List (Nat × Operand) → List (Nat × X)
  | [] => []
  | (i, x) :: r => (i, cx x) :: parts2 r
def sameX : Operand → Operand → Bool
  | .tmp a, .tmp b => a == b
  | .const (.int .i64 a), .const (.int .i64 b) => a == b
  | _, _ => false
def extName (n : String) : Option EK :=
  if n = "internal/bytealg.CountString" then some .cnt
  else if n = "internal/bytealg.IndexByteString" then some .ixb
  else if n = "internal/bytealg.abigen_runtime_cmpstring" then some .cmp
  else if n = "internal/abi.NoEscape" then some .same
  else none
def extOf (P : Program) (f : Nat) : Option EK :=
  match P.funcs[f]? with
  | some fn => if fn.body.isNone && (Extern.findNext fn).isNone then extName fn.name else none
  | none => none
def compCall (P : Program) (c : Call) : CO :=
  match c.callee with
  | .value (.func f) => match extOf P f with
    | some k => .ext k (cxL c.args.toList)
    | none => .call f (cxL c.args.toList)
  | .value (.tmp t) => .callv (.t t) (cxL c.args.toList)
  | .builtin .len =>
    match c.args.toList, c.argTypes.toList with
    | [x], [t] => match P.underlying t with
      | some .string => .len true (cx x)
      | some (.slice _) => .len false (cx x)
      | _ => .bad
    | _, _ => .bad
  | .builtin .append =>
    match c.args.toList, c.argTypes.toList with
    | [x, y], [t, u] => match P.underlying t, P.underlying u with
      | some (.slice e), some (.slice _) => match P.info? e with
        | some i => match i.zero with
          | some z => match constCells z with
            | some zs => if zs.length = i.size ∧ i.bytes ≠ 0 then .append e false i.size i.bytes (cx x) (cx y) else .bad
            | none => .bad
          | none => .bad
        | none => .bad
      | some (.slice e), some .string => match P.info? e with
        | some i => match i.zero with
          | some z => match constCells z with
            | some zs => if zs.length = i.size ∧ i.size = 1 ∧ i.bytes ≠ 0 then .append e true i.size i.bytes (cx x) (cx y) else .bad
            | none => .bad
          | none => .bad
        | none => .bad
      | _, _ => .bad
    | _, _ => .bad
  | .builtin .unsafeSliceData => match c.args.toList with
    | [x] => .sdata (cx x)
    | _ => .bad
  | .builtin .unsafeString => match c.args.toList, c.argTypes.toList with
    | [x, y], [t, _] => match P.underlying t with
      | some (.pointer e) => if P.cellsOf e = 1 then .ustr e (cx x) (cx y) else .bad
      | _ => .bad
    | _, _ => .bad
  | .builtin .max => .mm true (cxL c.args.toList)
  | .builtin .min => .mm false (cxL c.args.toList)
  | _ => .bad
def isNilSl : Operand → Bool
  | .const (.slice none 0 0) => true
  | _ => false
def isNilPt : Operand → Bool
  | .const (.pointer none) => true
  | _ => false
def eqNeg : BinOp → Option Bool
  | .eql => some false
  | .neq => some true
  | _ => none
def compBin (P : Program) (op : BinOp) (t : TypeId) (x y : Operand) : CO :=
  match P.underlying t with
  | none => .bad
  | some d => match d with
    | .int _ => .bin op (cx x) (cx y)
    | .string => .bin op (cx x) (cx y)
    | .bool => match eqNeg op with
      | some n => .beq n (cx x) (cx y)
      | none => .bad
    | .slice _ => match eqNeg op with
      | some n => if isNilSl y then .ncmpS n (cx x) else .bad
      | none => .bad
    | .pointer e => match eqNeg op with
      | some n => if isNilPt y then .ncmpP n (cx x) else match P.info? e with
        | some _ => .peq n (cx x) (cx y)
        | none => .bad
      | none => .bad
    | _ => match eqNeg op, shapeOf P 8 t with
      | some n, some sh => if isAggD d && !(P.eqGuardType P.depth t) && ((P.info? t).any fun i => i.size == sh.length) then .aeq n sh (cx x) (cx y) else .bad
      | _, _ => .bad
def liesIn (P : Program) (u : TypeId) : List (Nat × Nat × Nat) := (u, P.cellsOf u, 0) :: (List.range P.types.size).flatMap fun t => match P.underlying t with
  | some (.struct fs) => fs.toList.filterMap fun f => if f.type == u && !(f.offset == 0) && decide (f.offset < P.cellsOf t) && rowAt P (sameLayout P P.depth · u) P.depth t 1 f.offset 1 then some (t, P.cellsOf t, f.offset) else none
  | _ => []
def compOp (P : Program) (lit : Bool) (op : Op) : CO :=
  match op with
  | .move x => .mv (cx x)
  | .assign x => .mv (cx x)
  | .pick c a b => .pick (cx c) (cx a) (cx b)
  | .alloc t => match P.info? t with
    | some i => match i.zero with
      | some z => match constCells z with
        | some zs => if allCells zs then .allc t zs else .bad
        | none => .bad
      | none => .bad
    | none => .bad
  | .box t x => .box t (cx x)
  | .build t ps => match P.info? t with
    | some i => match i.zero with
      | some z => match constCells z with
        | some zs => match P.underlying t with
          | some (.struct fs) => if fs.toList.all (fun f => (P.info? f.type).isSome) then match partsOf (places P fs) ps.toList with
              | some l => .build zs l
              | none => .bad
            else .bad
          | some (.array _ e) => match P.info? e with
            | some k => match partsOf (fun i => some (i * k.size, k.size)) ps.toList with
              | some l => .build zs l
              | none => .bad
            | none => .bad
          | _ => .bad
        | none => .bad
      | none => .bad
    | none => .bad
  | .buildSlice t n ps => match P.underlying t with
    | some (.slice e) => match P.info? e with
      | some i => match i.zero with
        | some z => match constCells z with
          | some zs => if zs.length = i.size ∧ i.size ≠ 0 ∧ n * i.size ≤ 16777216 then (if lit then (if n = 0 ∧ ps.size = 0 then .mv (.c .emp) else .bsliceO e i.size n zs (parts2 ps.toList)) else .bslice e i.size n zs (parts2 ps.toList)) else .bad
          | none => .bad
        | none => .bad
      | none => .bad
    | _ => .bad
  | .load t x => match aggSize P t with
    | some n => .load n (cx x)
    | none => .bad
  | .store t x y => match P.info? t with
    | some i => .store i.size (cx x) (cx y)
    | none => .bad
  | .nilCheck x => .nilck (cx x)
  | .binOp op t x y _ => compBin P op t x y
  | .unOp op _ x => .un op (cx x)
  | .convert src dst x => match P.underlying src, P.underlying dst with
    | some (.int _), some (.int k) => .conv k (cx x)
    | some .string, some .string => .convS (cx x)
    | some .string, some (.slice e) => match P.underlying e with
      | some (.int .u8) => .strB (cx x)
      | _ => .bad
    | some (.slice e), some .string => match P.underlying e with
      | some (.int .u8) => .bytesS (cx x)
      | _ => .bad
    | some (.pointer t), some .unsafePointer => match P.info? t with
      | some j => if j.size ≠ 0 then .idu (cx x) else .bad
      | none => .bad
    | some .unsafePointer, some (.pointer u) => match P.info? u with
      | some j => if P.cellsOf u ≠ 0 ∧ j.size ≠ 0 then .idf (liesIn P u) (cx x) else .bad
      | none => .bad
    | _, _ => .bad
  | .makeFunc (.func f) first caps => .mkfn f (cxL first.toList) (cxL caps.toList)
  | .makeSlice t l c => if sameX l c then match P.underlying t with
      | some (.slice e) => match P.info? e with
        | some i => match i.zero with
          | some z => match constCells z with
            | some zs => if zs.length = i.size ∧ i.size ≠ 0 ∧ i.bytes ≠ 0 ∧ allCells zs then .mks e i.size i.bytes zs (cx l) else .bad
            | none => .bad
          | none => .bad
        | none => .bad
      | _ => .bad
    else .bad
  | .slice t x lo hi mx => match mx with
    | some _ => .bad
    | none => match P.underlying t with
      | some .string => .slice none (cx x) (optX lo) (optX hi)
      | some (.slice e) => match P.info? e with
        | some i => .slice (some i.size) (cx x) (optX lo) (optX hi)
        | none => .bad
      | _ => .bad
  | .fieldAddr t x f => match P.underlying t with
    | some (.struct fs) => match fs[f]? with
      | some fd => match P.info? fd.type with
        | some k => if k.size = 0 then .bad else .faddr fd.offset (cx x)
        | none => .bad
      | none => .bad
    | _ => .bad
  | .field t x f => match P.underlying t with
    | some (.struct fs) => match fs[f]? with
      | some fd => match aggSize P fd.type with
        | some n => .field fd.offset n (cx x)
        | none => .bad
      | none => .bad
    | _ => .bad
  | .indexAddr t x i => match P.underlying t with
    | some (.slice e) => match P.info? e with
      | some k => .iaddr k.size (cx x) (cx i)
      | none => .bad
    | some (.array n e) => match P.info? e with
      | some k => .iarr n k.size (cx x) (cx i)
      | none => .bad
    | _ => .bad
  | .index t x i => match P.underlying t with
    | some .string => .idx (cx x) (cx i)
    | some (.array n e) => match P.info? e, aggSize P e with
      | some k, some m => .idxA n k.size m (cx x) (cx i)
      | _, _ => .bad
    | _ => .bad
  | .extract x i => .extr (cx x) i
  | .call c => compCall P c
  | _ => .bad
def guardOf (ops : Array Oper) : Option (Nat × Bool) → Option (Option (Nat × Bool))
  | none => some none
  | some (j, q) => match ops[j]? with
    | some o => match o.dst with
      | some d => some (some (d, q))
      | none => none
    | none => none
def litOf (fl : List Nat) (d : Option Nat) : Bool :=
  match d with
  | some d => fl.contains d
  | none => false
def compOper (P : Program) (fl : List Nat) (ops : Array Oper) (o : Oper) : COp :=
  match guardOf ops o.guard with
  | some g => { dst := o.dst, guard := g, co := compOp P (litOf fl o.dst) o.op }
  | none => { dst := o.dst, guard := none, co := .bad }
def compOps (P : Program) (fl : List Nat) (ops : Array Oper) : List Oper → List COp
  | [] => []
  | o :: r => compOper P fl ops o :: compOps P fl ops r
/-! ### Abstract code -/
inductive C where
  | skip
  | reg (ops : List COp)
  | dreg (pre post : List COp)
  | seq (a b : C)
  | cond (x : X) (a b : C)
  | block (id : Nat) (b : C)
  | loop (b : C)
  | exit (id : Nat)
  | scope (b : C)
  | label (l : Nat)
  | goto (l : Nat)
  | ret
  | rangeF (g : X) (ps : List Nat) (a b : C)
  | bad
def X.looks : X → List Nat
  | .t n => [n]
  | _ => []
def looksL : List X → List Nat
  | [] => []
  | x :: xs => x.looks ++ looksL xs
def looks3 : List (Nat × Nat × X) → List Nat
  | [] => []
  | (_, _, x) :: xs => x.looks ++ looks3 xs
def looks2 : List (Nat × X) → List Nat
  | [] => []
  | (_, x) :: xs => x.looks ++ looks2 xs
def looksO : Option X → List Nat
  | none => []
  | some x => x.looks
def CO.looks : CO → List Nat
  | .mv x | .box _ x | .idu x | .idf _ x | .sdata x | .ncmpS _ x | .ncmpP _ x | .load _ x | .faddr _ x | .field _ _ x | .un _ x | .conv _ x | .convS x | .bytesS x | .strB x | .mks _ _ _ _ x | .len _ x | .extr x _ | .nilck x => x.looks
  | .pick c a b => c.looks ++ a.looks ++ b.looks
  | .allc _ _ | .bad => []
  | .store _ x y | .iaddr _ x y | .iarr _ _ x y | .idx x y | .idxA _ _ _ x y | .bin _ x y | .beq _ x y | .aeq _ _ x y | .append _ _ _ _ x y | .peq _ x y | .ustr _ x y => x.looks ++ y.looks
  | .build _ ps => looks3 ps
  | .bslice _ _ _ _ ps | .bsliceO _ _ _ _ ps => looks2 ps
  | .slice _ x lo hi => x.looks ++ looksO lo ++ looksO hi
  | .mm _ xs | .ext _ xs | .call _ xs => looksL xs
  | .mkfn _ us vs => looksL us ++ looksL vs
  | .callv f xs => f.looks ++ looksL xs
def COp.looks (o : COp) : List Nat := (match o.guard with | some (g, _) => [g] | none => []) ++ o.co.looks
def bitOf (b : Array Nat) (j i : Nat) : Bool := (b.getD j 0).testBit i
def edgesBack (ops : Array Oper) : Bool :=
  ops.toList.zipIdx.all fun (o, j) => o.after.toList.all fun e => !Region.binds .any e || decide (e.on < j)
def drawOk (ops : Array Oper) (cs : List COp) (k : Nat) : Bool :=
  let b := Region.before ops
  edgesBack ops &&
  (cs.zipIdx.all fun (o, j) => cs.zipIdx.all fun (p, i) =>
    decide (i = j) ||
    ((match p.dst with
      | some d => !(o.dst == some d) && (!(o.looks.contains d) || (if decide (i < j) then bitOf b j i else bitOf b i j))
      | none => true) &&
     (decide (j < k) || decide (j < i) || bitOf b j i)))
def lateFrom (ops : Array Oper) (n : Nat) : Nat :=
  let b := Region.before ops
  (List.range n).foldr (fun j acc => if acc = j + 1 ∧ (List.range j).all (fun i => bitOf b j i) then j else acc) n
def comp (P : Program) (fl : List Nat) : Code → C
  | .skip => .skip
  | .region _ ops false => .reg (compOps P fl ops ops.toList)
  | .region _ ops true =>
    let cs := compOps P fl ops ops.toList
    let k := min (lateFrom ops ops.size) ops.size
    if drawOk ops cs k then .dreg (cs.take k) (cs.drop k) else .bad
  | .seq a b => .seq (comp P fl a) (comp P fl b)
  | .cond c a b => .cond (cx c) (comp P fl a) (comp P fl b)
  | .block id b => .block id (comp P fl b)
  | .loop b => .loop (comp P fl b)
  | .exit id => .exit id
  | .scope b => .scope (comp P fl b)
  | .label l => .label l
  | .goto l => .goto l
  | .ret => .ret
  | .rangeFunc g ps a b => .rangeF (cx g) ps.toList (comp P fl a) (comp P fl b)
  | _ => .bad
def dstOk (N : Nat) (o : COp) : Bool := match o.dst with | some d => decide (d < N) | none => true
def dstsOk (N : Nat) : C → Bool
  | .reg ops => ops.all (dstOk N)
  | .dreg pre post => pre.all (dstOk N) && post.all (dstOk N)
  | .seq a b => dstsOk N a && dstsOk N b
  | .cond _ a b => dstsOk N a && dstsOk N b
  | .block _ b => dstsOk N b
  | .loop b => dstsOk N b
  | .scope b => dstsOk N b
  | .rangeF _ ps a b => dstsOk N a && dstsOk N b && ps.all fun p => decide (p < N)
  | _ => true
def flatC : C → Bool
  | .seq a b => flatC a && flatC b
  | .cond _ a b => flatC a && flatC b
  | .block _ b => flatC b
  | .loop b => flatC b
  | .scope _ => false
  | .rangeF _ _ _ _ => false
  | _ => true
end Go.Proofs.YtjaigpidmngaaaaGreat

namespace Go.Proofs.YtjaigpidmngaaaaGreat
def tabs : List (Nat × (Array Value → Prop)) := []
end Go.Proofs.YtjaigpidmngaaaaGreat

namespace Go.Proofs.YtjaigpidmngaaaaGreat
/-! ### Numbers of blocks -/
theorem tag_mk {k T : Nat} (h : T < 2 ^ k) : tag (2 ^ k + T) = T := by
  have h0 : 2 ^ k + T ≠ 0 := by have := Nat.two_pow_pos k; omega
  have h1 : k ≤ (2 ^ k + T).log2 := (Nat.le_log2 h0).2 (by omega)
  have h2 : (2 ^ k + T).log2 < k + 1 := (Nat.log2_lt h0).2 (by rw [Nat.pow_succ]; omega)
  unfold tag
  rw [show (2 ^ k + T).log2 = k from by omega]
  omega
theorem lt_pow (n : Nat) : n < 2 ^ n := Nat.lt_two_pow_self
theorem exists_tag (N T : Nat) : ∃ id, N ≤ id ∧ tag id = T := by
  have h1 := lt_pow (N + T)
  exact ⟨2 ^ (N + T) + T, by omega, tag_mk (by omega)⟩
/-! ### The heap alone -/
def hcell (h : Array Obj) (b o : Nat) : Option Value :=
  match h[b]? with
  | some (.cells c _ _) => c[o]?
  | _ => none
def loopT : TypeId := 18446744073709551616
def hty (h : Array Obj) (b : Nat) : Option (Nat × TypeId) :=
  match h[b]? with
  | some (.cells c e _) => some (c.size + 1, e)
  | some (.loop _) => some (0, loopT)
  | _ => none
def hsize (h : Array Obj) (b : Nat) : Option Nat :=
  match h[b]? with
  | some (.cells c _ _) => some c.size
  | _ => none
theorem hsize_hty {h h' : Array Obj} (q : ∀ b t, hty h b = some t → hty h' b = some t) (b m : Nat) (hb : hsize h b = some m) : hsize h' b = some m := by
  unfold hsize at hb
  split at hb
  · rename_i c e _ hx
    simp only [Option.some.injEq] at hb
    have h1 := q b (c.size + 1, e) (by unfold hty; rw [hx])
    unfold hty at h1
    split at h1
    · rename_i c' e' _ hx'
      simp only [Option.some.injEq, Prod.mk.injEq] at h1
      unfold hsize
      rw [hx']
      simp only [Option.some.injEq]
      omega
    · simp at h1
    · cases h1
  · cases hb
theorem cell?_heap (w : World) (b o : Nat) : w.cell? ⟨b, o, none⟩ = hcell w.heap b o := by
  unfold World.cell? hcell
  cases w.heap[b]? with
  | none => rfl
  | some x => cases x <;> simp
abbrev Loc := Nat → Option (Nat × Nat)
inductive Rl (h : Array Obj) (ρ : Loc) (Z : Nat → Prop) : AV → Value → Prop
  | int (k : IntKind) (n : Int) : Rl h ρ Z (.int k n) (.int k n)
  | bool (b : Bool) : Rl h ρ Z (.bool b) (.bool b)
  | str (l : List UInt8) (s : ByteArray) (hs : s.data.toList = l) : Rl h ρ Z (.str l) (.string s)
  | agg (cs : List AV) (vs : List Value) (hl : cs.length = vs.length) (hc : ∀ (i : Nat) v, cs[i]? = some v → v.isCell = true)
      (hr : ∀ (i : Nat) v x, cs[i]? = some v → vs[i]? = some x → Rl h ρ Z v x) : Rl h ρ Z (.agg cs) (.agg vs.toArray)
  | tup (cs : List AV) (vs : List Value) (hl : cs.length = vs.length)
      (hr : ∀ (i : Nat) v x, cs[i]? = some v → vs[i]? = some x → Rl h ρ Z v x) : Rl h ρ Z (.tup cs) (.tuple vs.toArray)
  | rows (sz : Nat) (l : List (List AV)) (b o n c : Nat) (f : Nat → Value) (hn : n = l.length) (hnc : n ≤ c) (hz : 0 < n → Z b)
      (hw : ∀ (i : Nat) r, l[i]? = some r → r.length = sz)
      (hc : ∀ (i : Nat) r (j : Nat) v, l[i]? = some r → r[j]? = some v → v.isCell = true)
      (hm : ∀ (i : Nat) r (j : Nat) v, l[i]? = some r → r[j]? = some v → hcell h b (o + (i * sz + j)) = some (f (i * sz + j)))
      (hr : ∀ (i : Nat) r (j : Nat) v, l[i]? = some r → r[j]? = some v → Rl h ρ Z v (f (i * sz + j))) : Rl h ρ Z (.rows sz l) (.slice (some ⟨b, o, none⟩) n c)
  | rowsN (sz : Nat) : Rl h ρ Z (.rows sz []) (.slice none 0 0)
  | rowsE (sz : Nat) (a : Addr) (c : Nat) : Rl h ρ Z (.rows sz []) (.slice (some a) 0 c)
  | nilS : Rl h ρ Z .nilS (.slice none 0 0)
  | own (id sz lo hi b o0 o n c m : Nat) (hρ : ρ id = some (b, o0)) (hlo : lo ≤ hi) (hn : n = hi - lo) (hnc : n ≤ c) (ho : c = 0 ∨ o = o0 + lo * sz)
      (hm : hsize h b = some m) (hcap : o0 + (lo + c) * sz ≤ m) : Rl h ρ Z (.own id sz lo hi) (.slice (some ⟨b, o, none⟩) n c)
  | ptr (id sz i j b o0 : Nat) (hρ : ρ id = some (b, o0)) : Rl h ρ Z (.ptr id sz i j) (.pointer (some ⟨b, o0 + (i * sz + j), none⟩))
  | fp (cs : List AV) (b o : Nat) (f : Nat → Value) (hz : 0 < cs.length → Z b)
      (hc : ∀ (i : Nat) v, cs[i]? = some v → v.isCell = true)
      (hm : ∀ (i : Nat) v, cs[i]? = some v → hcell h b (o + i) = some (f i))
      (hr : ∀ (i : Nat) v, cs[i]? = some v → Rl h ρ Z v (f i)) : Rl h ρ Z (.fp cs) (.pointer (some ⟨b, o, none⟩))
  | nilP : Rl h ρ Z .nilP (.pointer none)
  | clo (f : Nat) (fs : List AV) (us : List Value) (cs : List AV) (vs : List Value) (hf : fs.length = us.length) (hl : cs.length = vs.length)
      (hq : ∀ (i : Nat) v x, fs[i]? = some v → us[i]? = some x → Rl h ρ Z v x)
      (hr : ∀ (i : Nat) v x, cs[i]? = some v → vs[i]? = some x → Rl h ρ Z v x) : Rl h ρ Z (.clo f fs cs) (.func (.func f) us.toArray vs.toArray)
  | nilI : Rl h ρ Z .nilI .nilIface
  | nilF : Rl h ρ Z .nilF .nilFunc
  | emp (b o : Nat) : Rl h ρ Z .emp (.slice (some ⟨b, o, none⟩) 0 0)
  | yld (id b o0 : Nat) (hρ : ρ id = some (b, o0)) : Rl h ρ Z (.yld id) (.func (.yield b) #[] #[])
theorem Rl.mono {h h' : Array Obj} {ρ ρ' : Loc} {Z Z' : Nat → Prop} {v : AV} {x : Value} (H : Rl h ρ Z v x)
    (hρ : ∀ id p, ρ id = some p → ρ' id = some p) (hZ : ∀ b, Z b → Z' b)
    (hc : ∀ b o u, Z b → hcell h b o = some u → hcell h' b o = some u) (ht : ∀ b t, hty h b = some t → hty h' b = some t) : Rl h' ρ' Z' v x := by
  have hs := hsize_hty ht
  induction H with
  | int k n => exact .int k n
  | bool b => exact .bool b
  | str l s e => exact .str l s e
  | agg cs vs hl hcc hr ih => exact .agg cs vs hl hcc ih
  | tup cs vs hl hr ih => exact .tup cs vs hl ih
  | rows sz l b o n c f hn hnc hz hw hcc hm hr ih =>
    refine .rows sz l b o n c f hn hnc (fun q => hZ _ (hz q)) hw hcc (fun i r j v h1 h2 => hc _ _ _ (hz ?_) (hm i r j v h1 h2)) ih
    have := (List.getElem?_eq_some_iff.1 h1).1
    omega
  | rowsN sz => exact .rowsN sz
  | rowsE sz a c => exact .rowsE sz a c
  | nilS => exact .nilS
  | own id sz lo hi b o0 o n c m hq hlo hn hnc ho hm hcap => exact .own id sz lo hi b o0 o n c m (hρ _ _ hq) hlo hn hnc ho (hs _ _ hm) hcap
  | ptr id sz i j b o0 hq => exact .ptr id sz i j b o0 (hρ _ _ hq)
  | fp cs b o f hz hcc hm hr ih =>
    refine .fp cs b o f (fun q => hZ _ (hz q)) hcc (fun i v h1 => hc _ _ _ (hz ?_) (hm i v h1)) ih
    have := (List.getElem?_eq_some_iff.1 h1).1
    omega
  | nilP => exact .nilP
  | clo f fs us cs vs hf hl hq hr ihq ih => exact .clo f fs us cs vs hf hl ihq ih
  | nilI => exact .nilI
  | nilF => exact .nilF
  | emp b o => exact .emp b o
  | yld id b o0 hq => exact .yld id b o0 (hρ _ _ hq)
def BlkR (h : Array Obj) (ρ : Loc) (Z : Nat → Prop) (b o0 : Nat) : Blk → Prop
  | .rows sz l => ∃ cs e, h[b]? = some (.cells cs e (0, 0)) ∧ o0 + l.length * sz ≤ cs.size ∧
      (∀ (i : Nat) r, l[i]? = some r → r.length = sz) ∧
      ∀ (i : Nat) r (j : Nat) v, l[i]? = some r → r[j]? = some v → v.isCell = true ∧ ∃ x, cs[o0 + (i * sz + j)]? = some x ∧ Rl h ρ Z v x
  | .loop L => ∃ r : Loop, h[b]? = some (.loop r) ∧ (match L.st with
      | .ready => r.state = .ready ∧ r.pending = none
      | .busy => r.state = .busy
      | .done c => r.state = .done ∧ r.pending = some c) ∧
      r.params = L.ps.toArray ∧ r.assign = L.a ∧ r.body = L.b ∧ r.tmps.size = L.N ∧ ∀ t v, L.s t = some v → Rl h ρ Z v (r.tmps.getD t undef)
theorem BlkR.noDefer {h : Array Obj} {ρ : Loc} {Z : Nat → Prop} {b o0 : Nat} {blk : Blk} (q : BlkR h ρ Z b o0 blk) {x : Option (List Deferred)} (e : h[b]? = some (.deferred x)) : False := by
  cases blk with
  | rows sz l => obtain ⟨cs, t, h1, _⟩ := q; rw [e] at h1; cases h1
  | loop L => obtain ⟨r, h1, _⟩ := q; rw [e] at h1; cases h1
def Own (ρ : Loc) (H : AH) (b : Nat) : Prop := ∃ id blk o0, hget H id = some blk ∧ ρ id = some (b, o0)
/-! ### Tables: variables that nobody writes -/
def hrow (h : Array Obj) (b : Nat) : Option (Array Value) :=
  match h[b]? with
  | some (.cells c _ _) => some c
  | _ => none
def TabG (h : Array Obj) (Z : Nat → Prop) : Prop := ∀ x ∈ tabs, Z x.1 ∧ ∃ c, hrow h x.1 = some c ∧ x.2 c
theorem TabG.of {h h' : Array Obj} {Z Z' : Nat → Prop} (q : TabG h Z) (hz : ∀ b, Z b → Z' b) (hb : ∀ b, Z b → h'[b]? = h[b]?) : TabG h' Z' := fun x hx => by
  obtain ⟨a, c, b, d⟩ := q x hx
  refine ⟨hz _ a, c, ?_, d⟩
  unfold hrow at b ⊢
  rw [hb _ a]
  exact b
structure Good (h : Array Obj) (ρ : Loc) (Z : Nat → Prop) (H : AH) : Prop where
  blk : ∀ id blk, hget H id = some blk → ∃ b o0, ρ id = some (b, o0) ∧ BlkR h ρ Z b o0 blk
  inj : ∀ i j a b p q o o', hget H i = some a → hget H j = some b → ρ i = some (p, o) → ρ j = some (q, o') → i ≠ j → p ≠ q
  notZ : ∀ b, Own ρ H b → ¬ Z b
  zlt : ∀ b, Z b → b < h.size
  ids : ∃ N, ∀ id, N ≤ id → ρ id = none
  ty : ∀ id b o, ρ id = some (b, o) → o = 0 ∧ ∃ m, hty h b = some (m, tag id)
  tab : TabG h Z
structure Ext (w : World) (ρ : Loc) (Z : Nat → Prop) (O : Nat → Prop) (w' : World) (ρ' : Loc) (Z' : Nat → Prop) (O' : Nat → Prop) : Prop where
  size : w.heap.size ≤ w'.heap.size
  keep : ∀ b, b < w.heap.size → ¬ O b → w'.heap[b]? = w.heap[b]?
  shape : ∀ b t, hty w.heap b = some t → hty w'.heap b = some t
  zmono : ∀ b, Z b → Z' b
  znew : ∀ b, Z' b → Z b ∨ O b ∨ w.heap.size ≤ b
  loc : ∀ id p, ρ id = some p → ρ' id = some p
  own : ∀ b, O' b → O b ∨ w.heap.size ≤ b
  os : w'.os = w.os
  out : w'.output = w.output
  tape : w'.tape = w.tape
theorem Ext.refl (w : World) (ρ : Loc) (Z O : Nat → Prop) : Ext w ρ Z O w ρ Z O :=
  ⟨Nat.le_refl _, fun _ _ _ => rfl, fun _ _ h => h, fun _ h => h, fun _ h => .inl h, fun _ _ h => h, fun _ h => .inl h, rfl, rfl, rfl⟩
theorem Ext.trans {w w1 w2 : World} {ρ ρ1 ρ2 : Loc} {Z Z1 Z2 O O1 O2 : Nat → Prop} (a : Ext w ρ Z O w1 ρ1 Z1 O1) (b : Ext w1 ρ1 Z1 O1 w2 ρ2 Z2 O2) :
    Ext w ρ Z O w2 ρ2 Z2 O2 where
  size := Nat.le_trans a.size b.size
  keep := fun k hk hO => by
    rw [b.keep k (Nat.lt_of_lt_of_le hk a.size) (fun h => (a.own k h).elim hO (fun h' => absurd hk (Nat.not_lt.2 h'))), a.keep k hk hO]
  shape := fun k m h => b.shape k m (a.shape k m h)
  zmono := fun k h => b.zmono k (a.zmono k h)
  znew := fun k h => by
    rcases b.znew k h with h | h | h
    · exact a.znew k h
    · rcases a.own k h with h | h
      · exact .inr (.inl h)
      · exact .inr (.inr h)
    · exact .inr (.inr (Nat.le_trans a.size h))
  loc := fun i p h => b.loc i p (a.loc i p h)
  own := fun k h => by
    rcases b.own k h with h | h
    · exact a.own k h
    · exact .inr (Nat.le_trans a.size h)
  os := b.os.trans a.os
  out := b.out.trans a.out
  tape := b.tape.trans a.tape
theorem Rl.ext {w w' : World} {ρ ρ' : Loc} {Z Z' O O' : Nat → Prop} {v : AV} {x : Value} (H : Rl w.heap ρ Z v x) (e : Ext w ρ Z O w' ρ' Z' O')
    (hO : ∀ b, O b → ¬ Z b) (hZ : ∀ b, Z b → b < w.heap.size) : Rl w'.heap ρ' Z' v x := by
  refine H.mono e.loc e.zmono (fun b o u hb h => ?_) e.shape
  unfold hcell at *
  rw [e.keep b (hZ b hb) (fun h' => hO b h' hb)]
  exact h
def RlL (h : Array Obj) (ρ : Loc) (Z : Nat → Prop) (vs : List AV) (xs : List Value) : Prop :=
  vs.length = xs.length ∧ ∀ (i : Nat) v x, vs[i]? = some v → xs[i]? = some x → Rl h ρ Z v x
def callable (P : Program) (f : Nat) : Bool :=
  match P.funcs[f]? with
  | some fn => fn.body.isSome && !(fn.name == "runtime.NumGoroutine")
  | none => false
def ACalls (P : Program) (f : Nat) (args : List AV) (H : AH) (K : AV → AH → Prop) : Prop :=
  callable P f = true ∧ ∀ (w : World) (ρ : Loc) (Z : Nat → Prop) (xs : List Value), Good w.heap ρ Z H → RlL w.heap ρ Z args xs →
    Calls P f xs.toArray w fun e w' => ∃ x r H' ρ' Z', e = .returned x ∧ Good w'.heap ρ' Z' H' ∧ Rl w'.heap ρ' Z' r x ∧
      Ext w ρ Z (Own ρ H) w' ρ' Z' (Own ρ' H') ∧ K r H'
def AYields (P : Program) (id : Nat) (args : List AV) (H : AH) (K : AV → AH → Prop) : Prop :=
  ∀ (m : Nat) (w : World) (ρ : Loc) (Z : Nat → Prop) (xs : List Value) (b o : Nat), Good w.heap ρ Z H → RlL w.heap ρ Z args xs → ρ id = some (b, o) →
    YieldAt Fence.wide m P b xs.toArray w fun e w' => ∃ x r H' ρ' Z', e = .returned x ∧ Good w'.heap ρ' Z' H' ∧ Rl w'.heap ρ' Z' r x ∧
      Ext w ρ Z (Own ρ H) w' ρ' Z' (Own ρ' H') ∧ K r H'
theorem ACalls.mono {P : Program} {f : Nat} {args : List AV} {H : AH} {K K' : AV → AH → Prop} (h : ACalls P f args H K) (hk : ∀ r H', K r H' → K' r H') : ACalls P f args H K' :=
  ⟨h.1, fun w ρ Z xs hg hr => (h.2 w ρ Z xs hg hr).mono fun e w' ⟨x, r, H', ρ', Z', a, b, c, d, k⟩ => ⟨x, r, H', ρ', Z', a, b, c, d, hk _ _ k⟩⟩
theorem AYields.mono {P : Program} {id : Nat} {args : List AV} {H : AH} {K K' : AV → AH → Prop} (h : AYields P id args H K) (hk : ∀ r H', K r H' → K' r H') : AYields P id args H K' :=
  fun m w ρ Z xs b o hg hr hρ => by
    obtain ⟨fn, tmps, asg, bd, h1, h2⟩ := h m w ρ Z xs b o hg hr hρ
    exact ⟨fn, tmps, asg, bd, h1, h2.mono fun e w' ⟨x, r, H', ρ', Z', a, b, c, d, k⟩ => ⟨x, r, H', ρ', Z', a, b, c, d, hk _ _ k⟩⟩
/-! ### What was owned becomes what nobody writes -/
inductive Fz (H Hc : AH) : AV → AV → Prop
  | refl (v : AV) : Fz H Hc v v
  | own (id sz lo hi : Nat) (l l' : List (List AV)) (hg : hget H id = some (.rows sz l)) (hd : hget Hc id = none) (hi' : hi ≤ l.length) (hlo : lo ≤ hi)
      (hl : l'.length = hi - lo) (hw : ∀ (i : Nat) r', l'[i]? = some r' → r'.length = sz)
      (hr : ∀ (i : Nat) r r' (j : Nat) v v', l[lo + i]? = some r → l'[i]? = some r' → r[j]? = some v → r'[j]? = some v' → Fz H Hc v v') : Fz H Hc (.own id sz lo hi) (.rows sz l')
  | agg (cs cs' : List AV) (hl : cs.length = cs'.length) (hr : ∀ (i : Nat) v v', cs[i]? = some v → cs'[i]? = some v' → Fz H Hc v v') : Fz H Hc (.agg cs) (.agg cs')
  | tup (cs cs' : List AV) (hl : cs.length = cs'.length) (hr : ∀ (i : Nat) v v', cs[i]? = some v → cs'[i]? = some v' → Fz H Hc v v') : Fz H Hc (.tup cs) (.tup cs')
  | ptr (id sz i j : Nat) (l : List (List AV)) (r cs : List AV) (hg : hget H id = some (.rows sz l)) (hd : hget Hc id = none) (hi : l[i]? = some r) (hl : cs.length = (r.drop j).length)
      (hr : ∀ (k : Nat) v v', (r.drop j)[k]? = some v → cs[k]? = some v' → Fz H Hc v v') : Fz H Hc (.ptr id sz i j) (.fp cs)
  | nil (sz : Nat) : Fz H Hc .nilS (.rows sz [])
  | rows (sz : Nat) (l l' : List (List AV)) (hl : l.length = l'.length) (hw : ∀ (i : Nat) r r', l[i]? = some r → l'[i]? = some r' → r.length = r'.length)
      (hr : ∀ (i : Nat) r r' (j : Nat) v v', l[i]? = some r → l'[i]? = some r' → r[j]? = some v → r'[j]? = some v' → Fz H Hc v v') : Fz H Hc (.rows sz l) (.rows sz l')
  | fp (cs cs' : List AV) (hl : cs.length = cs'.length) (hr : ∀ (i : Nat) v v', cs[i]? = some v → cs'[i]? = some v' → Fz H Hc v v') : Fz H Hc (.fp cs) (.fp cs')
theorem get_same {α β : Type} {l : List α} {l' : List β} (hl : l.length = l'.length) {i : Nat} {b : β} (h : l'[i]? = some b) : ∃ a, l[i]? = some a :=
  ⟨_, List.getElem?_eq_getElem (by rw [hl]; exact (List.getElem?_eq_some_iff.1 h).1)⟩
theorem Fz.isCell {H Hc : AH} {v v' : AV} (h : Fz H Hc v v') : v'.isCell = v.isCell := by
  cases h <;> rfl
def Sub (Hc H : AH) : Prop := ∀ id blk, hget Hc id = some blk → hget H id = some blk
def FzL (H Hc : AH) (vs vs' : List AV) : Prop := vs.length = vs'.length ∧ ∀ (i : Nat) v v', vs[i]? = some v → vs'[i]? = some v' → Fz H Hc v v'
def Drop (ρ : Loc) (H Hc : AH) (b : Nat) : Prop := ∃ id blk o0, hget H id = some blk ∧ hget Hc id = none ∧ ρ id = some (b, o0)
theorem Fz.sound {h : Array Obj} {ρ : Loc} {Z : Nat → Prop} {H Hc : AH} (hg : Good h ρ Z H) {v v' : AV} (hf : Fz H Hc v v') :
    ∀ x, Rl h ρ Z v x → Rl h ρ (fun b => Z b ∨ Drop ρ H Hc b) v' x := by
  have up : ∀ v x, Rl h ρ Z v x → Rl h ρ (fun b => Z b ∨ Drop ρ H Hc b) v x := fun v x q =>
    q.mono (fun _ _ e => e) (fun _ e => .inl e) (fun _ _ _ _ e => e) (fun _ _ e => e)
  induction hf with
  | refl v => exact fun x q => up v x q
  | own id sz lo hi l l' hgt hd hi' hlo hl hw hr ih =>
    intro x q
    cases q with
    | own _ _ _ _ b o0 o n c m hρ hlo hn hnc ho hm hcap =>
      obtain ⟨b', o0', hρ', hb⟩ := hg.blk id _ hgt
      rw [hρ] at hρ'
      obtain ⟨rfl, rfl⟩ : b = b' ∧ o0 = o0' := by simpa using hρ'
      obtain ⟨cs, e, hcs, hsz, hws, hv⟩ := hb
      have key : ∀ (i : Nat) r' (j : Nat) v', l'[i]? = some r' → r'[j]? = some v' → v'.isCell = true ∧ ∃ y, cs[o0 + ((lo + i) * sz + j)]? = some y ∧ Rl h ρ (fun b => Z b ∨ Drop ρ H Hc b) v' y := by
        intro i r' j v' h1 h2
        have hi1 : i < l'.length := (List.getElem?_eq_some_iff.1 h1).1
        have hj1 : j < r'.length := (List.getElem?_eq_some_iff.1 h2).1
        have hli : lo + i < l.length := by omega
        have hl1 : l[lo + i]? = some l[lo + i] := List.getElem?_eq_getElem hli
        have hwj : l[lo + i].length = sz := hws _ _ hl1
        have hjj : j < l[lo + i].length := by rw [hwj, ← hw i r' h1]; exact hj1
        have hv1 : (l[lo + i])[j]? = some (l[lo + i])[j] := List.getElem?_eq_getElem hjj
        obtain ⟨hcell, y, hy, hry⟩ := hv _ _ _ _ hl1 hv1
        have hfz := hr i _ r' j _ v' hl1 h1 hv1 h2
        exact ⟨by rw [hfz.isCell]; exact hcell, y, hy, ih i _ r' j _ v' hl1 h1 hv1 h2 y hry⟩
      have hpos : 0 < n → o = o0 + lo * sz := fun hp => by
        rcases ho with h0 | h0
        · omega
        · exact h0
      refine .rows sz l' b o n c (fun k => (cs[o0 + (lo * sz + k)]?).getD undef) (by omega) hnc (fun _ => .inr ⟨id, _, o0, hgt, hd, hρ⟩) hw (fun i r j v h1 h2 => (key i r j v h1 h2).1) ?_ ?_
      · intro i r' j v' h1 h2
        obtain ⟨_, y, hy, _⟩ := key i r' j v' h1 h2
        have hi1 : i < l'.length := (List.getElem?_eq_some_iff.1 h1).1
        have e1 : o0 + ((lo + i) * sz + j) = o0 + (lo * sz + (i * sz + j)) := by rw [Nat.add_mul]; omega
        rw [e1] at hy
        rw [hpos (by omega)]
        unfold hcell
        rw [hcs]
        simp only [show o0 + lo * sz + (i * sz + j) = o0 + (lo * sz + (i * sz + j)) from by omega, hy, Option.getD_some]
      · intro i r' j v' h1 h2
        obtain ⟨_, y, hy, hry⟩ := key i r' j v' h1 h2
        have e1 : o0 + ((lo + i) * sz + j) = o0 + (lo * sz + (i * sz + j)) := by rw [Nat.add_mul]; omega
        rw [e1] at hy
        simp only [hy, Option.getD_some]
        exact hry
  | agg cs cs' hl hr ih =>
    intro x q
    cases q with
    | agg _ vs hl' hc hr' =>
      refine .agg cs' vs (by omega) (fun i v' h1 => ?_) (fun i v' y h1 h2 => ?_)
      · have hi1 : i < cs.length := by have := (List.getElem?_eq_some_iff.1 h1).1; omega
        have h0 : cs[i]? = some cs[i] := List.getElem?_eq_getElem hi1
        rw [(hr i _ _ h0 h1).isCell]; exact hc i _ h0
      · have hi1 : i < cs.length := by have := (List.getElem?_eq_some_iff.1 h1).1; omega
        have h0 : cs[i]? = some cs[i] := List.getElem?_eq_getElem hi1
        exact ih i _ _ h0 h1 y (hr' i _ _ h0 h2)
  | tup cs cs' hl hr ih =>
    intro x q
    cases q with
    | tup _ vs hl' hr' =>
      refine .tup cs' vs (by omega) (fun i v' y h1 h2 => ?_)
      have hi1 : i < cs.length := by have := (List.getElem?_eq_some_iff.1 h1).1; omega
      have h0 : cs[i]? = some cs[i] := List.getElem?_eq_getElem hi1
      exact ih i _ _ h0 h1 y (hr' i _ _ h0 h2)
  | ptr id sz i j l r cs hgt hd hi hl hr ih =>
    intro x q
    cases q with
    | ptr _ _ _ _ b o0 hρ =>
      obtain ⟨b', o0', hρ', hb⟩ := hg.blk id _ hgt
      rw [hρ] at hρ'
      obtain ⟨rfl, rfl⟩ : b = b' ∧ o0 = o0' := by simpa using hρ'
      obtain ⟨ds, e, hcs, hsz, hws, hv⟩ := hb
      have key : ∀ (k : Nat) v', cs[k]? = some v' → v'.isCell = true ∧ ∃ y, ds[o0 + (i * sz + (j + k))]? = some y ∧ Rl h ρ (fun b => Z b ∨ Drop ρ H Hc b) v' y := by
        intro k v' h1
        have hk : k < (r.drop j).length := by have := (List.getElem?_eq_some_iff.1 h1).1; omega
        have h0 : (r.drop j)[k]? = some (r.drop j)[k] := List.getElem?_eq_getElem hk
        have h00 : r[j + k]? = some (r.drop j)[k] := by rw [← h0, List.getElem?_drop]
        obtain ⟨hcell, y, hy, hry⟩ := hv _ _ _ _ hi h00
        exact ⟨by rw [(hr k _ v' h0 h1).isCell]; exact hcell, y, hy, ih k _ v' h0 h1 y hry⟩
      refine .fp cs b _ (fun k => (ds[o0 + (i * sz + (j + k))]?).getD undef) (fun _ => .inr ⟨id, _, o0, hgt, hd, hρ⟩) (fun k v h1 => (key k v h1).1) ?_ ?_
      · intro k v' h1
        obtain ⟨_, y, hy, _⟩ := key k v' h1
        unfold hcell
        rw [hcs]
        simp only [show o0 + (i * sz + j) + k = o0 + (i * sz + (j + k)) from by omega, hy, Option.getD_some]
      · intro k v' h1
        obtain ⟨_, y, hy, hry⟩ := key k v' h1
        simp only [hy, Option.getD_some]
        exact hry
  | nil sz => intro x q; cases q; exact .rowsN sz
  | rows sz l l' hl hw hp ih =>
    intro x hr
    cases hr with
    | rows _ _ b o n c f hn hnc hz hw2 hcc hm hr' =>
      refine .rows sz l' b o n c f (by omega) hnc (fun q => .inl (hz q)) (fun i r q => ?_) (fun i r j v q1 q2 => ?_) (fun i r j v q1 q2 => ?_) (fun i r j v q1 q2 => ?_)
      · obtain ⟨a, ha⟩ := get_same hl q
        rw [← hw i a r ha q]; exact hw2 i a ha
      · obtain ⟨a, ha⟩ := get_same hl q1
        obtain ⟨u, hu⟩ := get_same (hw i a r ha q1) q2
        rw [(hp i a r j u v ha q1 hu q2).isCell]; exact hcc i a j u ha hu
      · obtain ⟨a, ha⟩ := get_same hl q1
        obtain ⟨u, hu⟩ := get_same (hw i a r ha q1) q2
        exact hm i a j u ha hu
      · obtain ⟨a, ha⟩ := get_same hl q1
        obtain ⟨u, hu⟩ := get_same (hw i a r ha q1) q2
        exact ih i a r j u v ha q1 hu q2 _ (hr' i a j u ha hu)
    | rowsN _ =>
      have : l' = [] := List.eq_nil_of_length_eq_zero hl.symm
      subst this; exact .rowsN sz
    | rowsE _ a c =>
      have : l' = [] := List.eq_nil_of_length_eq_zero hl.symm
      subst this; exact .rowsE sz a c
  | fp cs cs' hl hp ih =>
    intro x hr
    cases hr with
    | fp _ b o f hz hcc hm hr =>
      refine .fp cs' b o f (fun q => .inl (hz (by omega))) (fun i v q => ?_) (fun i v q => ?_) (fun i v q => ?_)
      · obtain ⟨a, ha⟩ := get_same hl q
        rw [(hp i a v ha q).isCell]; exact hcc i a ha
      · obtain ⟨a, ha⟩ := get_same hl q
        exact hm i a ha
      · obtain ⟨a, ha⟩ := get_same hl q
        exact ih i a v ha q _ (hr i a ha)
theorem Own.of_sub {ρ : Loc} {H Hc : AH} (hs : Sub Hc H) {b : Nat} (h : Own ρ Hc b) : Own ρ H b :=
  let ⟨id, blk, o, h1, h2⟩ := h; ⟨id, blk, o, hs _ _ h1, h2⟩
theorem Drop.own {ρ : Loc} {H Hc : AH} {b : Nat} (h : Drop ρ H Hc b) : Own ρ H b :=
  let ⟨id, blk, o, h1, _, h2⟩ := h; ⟨id, blk, o, h1, h2⟩
theorem BlkR.mono {h h' : Array Obj} {ρ ρ' : Loc} {Z Z' : Nat → Prop} {b o0 : Nat} {blk : Blk} (q : BlkR h ρ Z b o0 blk) (hb : h'[b]? = h[b]?)
    (hr : ∀ v x, Rl h ρ Z v x → Rl h' ρ' Z' v x) : BlkR h' ρ' Z' b o0 blk := by
  cases blk with
  | rows sz l =>
    obtain ⟨cs, e, h1, h2, h3, h4⟩ := q
    exact ⟨cs, e, by rw [hb]; exact h1, h2, h3, fun i r j v a b => let ⟨c, x, d, f⟩ := h4 i r j v a b; ⟨c, x, d, hr _ _ f⟩⟩
  | loop L =>
    obtain ⟨r, h1, h2, h3, h4, h5, h6, h7⟩ := q
    exact ⟨r, by rw [hb]; exact h1, h2, h3, h4, h5, h6, fun t v e => hr _ _ (h7 t v e)⟩
theorem BlkR.lt {h : Array Obj} {ρ : Loc} {Z : Nat → Prop} {b o0 : Nat} {blk : Blk} (q : BlkR h ρ Z b o0 blk) : b < h.size := by
  cases blk with
  | rows sz l =>
    obtain ⟨cs, e, h1, _⟩ := q
    exact (Array.getElem?_eq_some_iff.1 h1).1
  | loop L =>
    obtain ⟨r, h1, _⟩ := q
    exact (Array.getElem?_eq_some_iff.1 h1).1
theorem Good.own_lt {h : Array Obj} {ρ : Loc} {Z : Nat → Prop} {H : AH} (g : Good h ρ Z H) {b : Nat} (ho : Own ρ H b) : b < h.size := by
  obtain ⟨id, blk, o0, h1, h2⟩ := ho
  obtain ⟨b', o', h3, h4⟩ := g.blk id blk h1
  rw [h2] at h3
  obtain ⟨rfl, rfl⟩ : b = b' ∧ o0 = o' := by simpa using h3
  exact h4.lt
theorem Good.freeze {h : Array Obj} {ρ : Loc} {Z : Nat → Prop} {H Hc : AH} (g : Good h ρ Z H) (hs : Sub Hc H) : Good h ρ (fun b => Z b ∨ Drop ρ H Hc b) Hc where
  blk := fun id blk h1 => by
    obtain ⟨b, o, h2, h3⟩ := g.blk id blk (hs _ _ h1)
    exact ⟨b, o, h2, h3.mono rfl fun v x q => q.mono (fun _ _ e => e) (fun _ e => .inl e) (fun _ _ _ _ e => e) (fun _ _ e => e)⟩
  inj := fun i j a b p q o o' h1 h2 => g.inj i j a b p q o o' (hs _ _ h1) (hs _ _ h2)
  notZ := fun b h1 h2 => by
    rcases h2 with h2 | ⟨id, blk, o, h3, h4, h5⟩
    · exact g.notZ b (h1.of_sub hs) h2
    · obtain ⟨id', blk', o', h6, h7⟩ := h1
      by_cases e : id = id'
      · subst e; rw [h4] at h6; cases h6
      · exact g.inj id id' _ _ _ _ _ _ h3 (hs _ _ h6) h5 h7 e rfl
  zlt := fun b h1 => by
    rcases h1 with h1 | h1
    · exact g.zlt b h1
    · exact g.own_lt h1.own
  ids := g.ids
  ty := g.ty
  tab := g.tab.of (fun _ q => .inl q) (fun _ _ => rfl)
theorem Good.forget {h : Array Obj} {ρ : Loc} {Z : Nat → Prop} {H Hc : AH} (g : Good h ρ Z H) (hs : Sub Hc H) : Good h ρ Z Hc where
  blk := fun id blk h1 => g.blk id blk (hs _ _ h1)
  inj := fun i j a b p q o o' h1 h2 => g.inj i j a b p q o o' (hs _ _ h1) (hs _ _ h2)
  notZ := fun b h1 => g.notZ b (h1.of_sub hs)
  zlt := g.zlt
  ids := g.ids
  ty := g.ty
  tab := g.tab
theorem RlL.freeze {h : Array Obj} {ρ : Loc} {Z : Nat → Prop} {H Hc : AH} (g : Good h ρ Z H) {vs vs' : List AV} {xs : List Value} (hf : FzL H Hc vs vs') (hr : RlL h ρ Z vs xs) :
    RlL h ρ (fun b => Z b ∨ Drop ρ H Hc b) vs' xs := by
  refine ⟨by rw [← hf.1]; exact hr.1, fun i v' x h1 h2 => ?_⟩
  have hi : i < vs.length := by have := (List.getElem?_eq_some_iff.1 h1).1; rw [hf.1]; exact this
  have h0 : vs[i]? = some vs[i] := List.getElem?_eq_getElem hi
  exact (hf.2 i _ _ h0 h1).sound g x (hr.2 i _ _ h0 h2)
theorem ACalls.freeze {P : Program} {f : Nat} {args : List AV} {H : AH} {K K' : AV → AH → Prop} (h : ACalls P f args H K)
    (hk : ∀ r H', K r H' → ∃ r' Hc, Sub Hc H' ∧ Fz H' Hc r r' ∧ K' r' Hc) : ACalls P f args H K' := by
  refine ⟨h.1, fun w ρ Z xs hg hr => (h.2 w ρ Z xs hg hr).mono fun e w' ⟨x, r, H', ρ', Z', a, g, c, d, k⟩ => ?_⟩
  obtain ⟨r', Hc, hs, hf, hk'⟩ := hk r H' k
  refine ⟨x, r', Hc, ρ', _, a, g.freeze hs, hf.sound g x c, ?_, hk'⟩
  refine { d with zmono := fun b q => .inl (d.zmono b q), znew := fun b q => ?_, own := fun b q => d.own b (q.of_sub hs) }
  rcases q with q | q
  · exact d.znew b q
  · rcases d.own b q.own with q | q
    · exact .inr (.inl q)
    · exact .inr (.inr q)
end Go.Proofs.YtjaigpidmngaaaaGreat

namespace Go.Proofs.YtjaigpidmngaaaaGreat
def OA {α : Type} (o : Option α) (f : α → Prop) : Prop :=
  match o with
  | some x => f x
  | none => False
theorem OA_iff {α : Type} (o : Option α) (f : α → Prop) : OA o f ↔ ∃ x, o = some x ∧ f x := by
  cases o with
  | none => simp [OA]
  | some x => simp [OA]
def AV.plain0 : AV → Bool
  | .int _ _ => true
  | .bool _ => true
  | .str _ => true
  | _ => false
def AV.plain1 : AV → Bool
  | .agg cs => cs.all AV.plain0
  | v => v.plain0
def AV.plain : AV → Bool
  | .tup vs => vs.all AV.plain1
  | v => v.plain1
def callA (P : Program) (f : Nat) (args : List AV) (H : AH) (K : AV → AH → Prop) : Prop :=
  ∃ args' Hc, Sub Hc H ∧ FzL H Hc args args' ∧ (ACalls P f args' Hc K ∨ ACalls P f args' [] fun r _ => r.plain = true ∧ K r H)
def NoId (r : AV) : Prop := ∀ (h : Array Obj) (ρ ρ' : Loc) (Z : Nat → Prop) (x : Value), Rl h ρ Z r x → Rl h ρ' Z r x
def callP (P : Program) (f : Nat) (args : List AV) (H : AH) (r : AV) : Prop :=
  (NoId r ∧ ACalls P f args H (fun r' H' => r' = r ∧ H' = H)) ∨
    ∃ args' Hc, Sub Hc H ∧ FzL H Hc args args' ∧ r.plain = true ∧ ACalls P f args' [] fun r' _ => r' = r
def BlkN (b b' : Blk) : Prop :=
  match b, b' with
  | .rows _ l, .rows _ l' => ∀ r ∈ l', ∀ v ∈ r, NoId v ∨ ∃ r0 ∈ l, v ∈ r0
  | _, _ => False
def callW (P : Program) (f : Nat) (args : List AV) (H : AH) (id : Nat) (b : Blk) (r : AV) (b' : Blk) : Prop :=
  NoId r ∧ BlkN b b' ∧ ∃ Hs, Sub Hs H ∧ ACalls P f args ((id, b) :: Hs) fun r' H' => r' = r ∧ H' = (id, b') :: Hs
def yldA (P : Program) (id : Nat) (args : List AV) (H : AH) (K : AV → AH → Prop) : Prop :=
  ∃ Hs, Sub Hs H ∧ AYields P id args Hs fun r Hs' => ∃ H', (∀ j b, hget H' j = some b → hget Hs' j = some b ∨ (hget H j = some b ∧ hget Hs j = none)) ∧ K r H'
def applyRs (P : Program) (rs : Rs) (d : Option Nat) (s : Fr) (H : AH) (K : Fr → AH → Prop) : Prop :=
  match rs with
  | .val v => K (s.put d v) H
  | .upd H' => K (s.del d) H'
  | .valH v H' => K (s.put d v) H'
  | .fresh T blk v H' => ∀ id, hget H id = none → tag id = T → K (s.put d (v id)) ((id, blk) :: H')
  | .call f args => callA P f args H fun r H' => K (s.put d r) H'
  | .yield id args => yldA P id args H fun r H' => K (s.put d r) H'
def wpOps (P : Program) : List COp → (Fr → AH → Prop) → Fr → AH → Prop
  | [], K, s, H => K s H
  | o :: os, K, s, H =>
    match o.guard with
    | none => OA (evalOp s H o.co) fun rs => applyRs P rs o.dst s H (wpOps P os K)
    | some (g, want) => (∃ q, s g = some (.bool q) ∧ (q = want → OA (evalOp s H o.co) fun rs => applyRs P rs o.dst s H (wpOps P os K)) ∧
        (q = (!want) → wpOps P os K (s.put o.dst (.tup [])) H)) ∨ (s g = some (.tup []) ∧ wpOps P os K (s.put o.dst (.tup [])) H)
def drawRs (P : Program) (rs : Rs) (d : Option Nat) (s : Fr) (H0 F H : AH) (K : Fr → AH → AH → Prop) : Prop :=
  match rs with
  | .val v => K (s.put d v) F H
  | .upd _ => False
  | .valH _ _ => False
  | .fresh T blk v H' => H' = H0 ∧ ∀ id, hget H id = none → tag id = T → K (s.put d (v id)) ((id, blk) :: F) ((id, blk) :: H)
  | .call f args => ∃ r, callP P f args H0 r ∧ K (s.put d r) F H
  | .yield _ _ => False
def drawSt (P : Program) (o : COp) (s : Fr) (H0 D F H : AH) (k : Fr → AH → AH → AH → Prop) : Prop :=
  (OA (evalOp s H0 o.co) fun rs => drawRs P rs o.dst s H0 F H fun s' F' H' => k s' D F' H') ∨
  (∃ id b H' b', hget D id = some b ∧ evalOp s [(id, b)] o.co = some (.upd H') ∧ hget H' id = some b' ∧ k (s.del o.dst) (hdel D id) F (hset H id b')) ∨
  (∃ f args id b r b', evalOp s H0 o.co = some (.call f args) ∧ hget D id = some b ∧ callW P f args H0 id b r b' ∧ k (s.put o.dst r) (hdel D id) F (hset H id b')) ∨
  ∃ id b H' b' t n i j, s t = some (.ptr id n i j) ∧ t ∈ o.looks ∧ hget F id = some b ∧ evalOp s [(id, b)] o.co = some (.upd H') ∧ hget H' id = some b' ∧ k (s.del o.dst) D (hdel F id) (hset H id b')
def wpDraw (P : Program) : List COp → (Fr → AH → Prop) → Fr → AH → AH → AH → AH → Prop
  | [], K, s, _, _, _, H => K s H
  | o :: os, K, s, H0, D, F, H =>
    match o.guard with
    | none => drawSt P o s H0 D F H fun s' D' F' H' => wpDraw P os K s' H0 D' F' H'
    | some (g, want) => (∃ q, s g = some (.bool q) ∧ (q = want → drawSt P o s H0 D F H fun s' D' F' H' => wpDraw P os K s' H0 D' F' H') ∧
        (q = (!want) → wpDraw P os K (s.put o.dst (.tup [])) H0 D F H)) ∨ (s g = some (.tup []) ∧ wpDraw P os K (s.put o.dst (.tup [])) H0 D F H)
def SubFr (s' s : Fr) : Prop := ∀ t v, s' t = some v → s t = some v
def SubFz (H Hc : AH) (s' s : Fr) : Prop := ∀ t v', s' t = some v' → ∃ v, s t = some v ∧ Fz H Hc v v'
theorem SubFr.fz {H Hc : AH} {s' s : Fr} (h : SubFr s' s) : SubFz H Hc s' s := fun t v q => ⟨v, h t v q, .refl v⟩
def Weak (J : Fr → AH → Prop) (s : Fr) (H : AH) : Prop := ∃ s' H', SubFz H H' s' s ∧ Sub H' H ∧ J s' H'
def thenA (next : Fr → AH → Prop) (Q : Exit → Fr → AH → Prop) : Exit → Fr → AH → Prop
  | .normal, s, H => Weak next s H
  | e, s, H => Q e s H
def blockA (id : Nat) (Q : Exit → Fr → AH → Prop) : Exit → Fr → AH → Prop
  | .exit id', s, H => if id' = id then Q .normal s H else Q (.exit id') s H
  | e, s, H => Q e s H
def jumpA (l : Nat) (J : Fr → AH → Prop) (Q : Exit → Fr → AH → Prop) : Exit → Fr → AH → Prop
  | .goto l', s, H => l' = l ∧ J s H
  | e, s, H => Q e s H
def hasL : C → Nat → Bool
  | .seq a b, l => hasL a l || hasL b l
  | .label l', l => l' == l
  | _, _ => false
def wpA (P : Program) : C → Option Nat → (Exit → Fr → AH → Prop) → Fr → AH → Prop
  | .skip, none, Q, s, H => Q .normal s H
  | .reg ops, none, Q, s, H => wpOps P ops (Q .normal) s H
  | .dreg pre post, none, Q, s, H => ∃ H0 D, Sub H0 H ∧ Sub D H ∧ (∀ id b, hget D id = some b → hget H0 id = none) ∧ wpDraw P pre (fun s' H' => wpOps P post (Q .normal) s' H') s H0 D [] H
  | .seq a b, none, Q, s, H => wpA P a none (thenA (wpA P b none Q) Q) s H
  | .seq a b, some l, Q, s, H => if hasL a l = true then wpA P a (some l) (thenA (wpA P b none Q) Q) s H else wpA P b (some l) Q s H
  | .cond x a b, none, Q, s, H => ∃ q, ev s x = some (.bool q) ∧ (q = true → wpA P a none Q s H) ∧ (q = false → wpA P b none Q s H)
  | .block id b, none, Q, s, H => wpA P b none (blockA id Q) s H
  | .loop b, none, Q, s, H => ∃ I : Nat → Fr → AH → Prop, Weak (fun s' H' => ∃ n, I n s' H') s H ∧
      ∀ n s H, I n s H → wpA P b none (thenA (fun s' H' => ∃ m, m < n ∧ I m s' H') Q) s H
  | .exit id, none, Q, s, H => Q (.exit id) s H
  | .scope b, none, Q, s, H => ∃ (l : Nat) (I : Nat → Fr → AH → Prop), wpA P b none (jumpA l (Weak fun s' H' => ∃ m, I m s' H') Q) s H ∧
      ∀ n s H, I n s H → wpA P b (some l) (jumpA l (Weak fun s' H' => ∃ m, m < n ∧ I m s' H') Q) s H
  | .label _, none, Q, s, H => Q .normal s H
  | .label l', some l, Q, s, H => l' = l ∧ Q .normal s H
  | .goto l, none, Q, s, H => Q (.goto l) s H
  | .ret, none, Q, s, H => Q .ret s H
  | .rangeF g ps ca cb, none, Q, s, H => ∃ f first caps, ev s g = some (.clo f first caps) ∧ ∀ (a b : Code) (fl : List Nat) (N lid : Nat), comp P fl a = ca → comp P fl b = cb → (dstsOk N ca && dstsOk N cb && ps.all fun p => decide (p < N)) = true → hget H lid = none →
      ACalls P f (first ++ [.yld lid] ++ caps) ((lid, .loop ⟨ps, a, b, N, s, .ready⟩) :: H) fun _ H' => ∃ st H1, Sub H1 (hdel H' lid) ∧ hget H' lid = some (.loop ⟨ps, a, b, N, s, st⟩) ∧ match st with
        | .ready => Q .normal s H1
        | .done .ret => Q .ret s H1
        | .done (.exit id) => Q (.exit id) s H1
        | _ => False
  | _, _, _, _, _ => False
/-! ### Results -/
inductive CRes where
  | t (n : Nat)
  | cell (n : Nat) (sz : Option Nat)
  | bad
def compRes (P : Program) : List ResultVar → List CRes
  | [] => []
  | .tmp t :: r => .t t :: compRes P r
  | .cell a t :: r => (match aggSize P t with | some n => CRes.cell a n | none => .bad) :: compRes P r
def resOne (s : Fr) (H : AH) : CRes → Option AV
  | .t n => s n
  | .cell n sz => (s n).bind fun v => (readA H v).bind fun cs => partA cs 0 sz
  | .bad => none
def resL (s : Fr) (H : AH) : List CRes → Option (List AV)
  | [] => some []
  | r :: rs => (resOne s H r).bind fun v => (resL s H rs).bind fun vs => some (v :: vs)
def resA (s : Fr) (H : AH) (rs : List CRes) : Option AV :=
  (resL s H rs).bind fun vs => match vs with | [v] => some v | vs => some (.tup vs)
def endA (rs : List CRes) (K : AV → AH → Prop) : Exit → Fr → AH → Prop
  | .normal, s, H => OA (resA s H rs) fun r => K r H
  | .ret, s, H => OA (resA s H rs) fun r => K r H
  | _, _, _ => False
end Go.Proofs.YtjaigpidmngaaaaGreat

namespace Go.Proofs.YtjaigpidmngaaaaGreat
def FR (h : Array Obj) (ρ : Loc) (Z : Nat → Prop) (s : Fr) (a : Act) : Prop := ∀ t v, s t = some v → Rl h ρ Z v (a.tmps.getD t undef)
section
variable {h : Array Obj} {ρ : Loc} {Z : Nat → Prop} {s : Fr} {a : Act}
theorem constAV1_rl {v : Value} {x : AV} (hh : constAV1 v = some x) : Rl h ρ Z x v ∧ (x.isCell = true) := by
  unfold constAV1 at hh
  split at hh <;> simp only [Option.some.injEq, reduceCtorEq] at hh <;> subst hh
  · exact ⟨.int _ _, rfl⟩
  · exact ⟨.bool _, rfl⟩
  · exact ⟨.str _ _ rfl, rfl⟩
  · exact ⟨.nilS, rfl⟩
  · exact ⟨.nilP, rfl⟩
  · exact ⟨.nilF, rfl⟩
  · exact ⟨.nilI, rfl⟩
theorem constL_rl : ∀ {vs : List Value} {bs : List AV}, constL vs = some bs → bs.length = vs.length ∧
    ∀ (i : Nat) x v, bs[i]? = some x → vs[i]? = some v → Rl h ρ Z x v ∧ x.isCell = true
  | [], bs, hh => by simp [constL] at hh; subst hh; simp
  | v :: vs, bs, hh => by
    simp only [constL, Option.bind_eq_some_iff] at hh
    obtain ⟨x, h1, xs, h2, h3⟩ := hh
    simp only [Option.some.injEq] at h3
    subst h3
    obtain ⟨hl, hr⟩ := constL_rl h2
    refine ⟨by simp [hl], fun i y u h4 h5 => ?_⟩
    cases i with
    | zero => simp at h4 h5; subst h4; subst h5; exact constAV1_rl h1
    | succ i => simp at h4 h5; exact hr i y u h4 h5
theorem constAV_rl {v : Value} {x : AV} (hh : constAV v = some x) : Rl h ρ Z x v := by
  unfold constAV at hh
  split at hh
  · rename_i cs
    simp only [Option.map_eq_some_iff] at hh
    obtain ⟨bs, h1, rfl⟩ := hh
    obtain ⟨hl, hr⟩ := constL_rl (h := h) (ρ := ρ) (Z := Z) h1
    have := Rl.agg (h := h) (ρ := ρ) (Z := Z) bs cs.toList hl (fun i v hv => by
      have hi : i < cs.toList.length := by rw [← hl]; exact (List.getElem?_eq_some_iff.1 hv).1
      exact (hr i v _ hv (List.getElem?_eq_getElem hi)).2) (fun i v x h2 h3 => (hr i v x h2 h3).1)
    simpa using this
  · exact (constAV1_rl hh).1
def CellsRl (h : Array Obj) (ρ : Loc) (Z : Nat → Prop) (cs : List AV) (xs : List Value) : Prop :=
  cs.length = xs.length ∧ ∀ (i : Nat) c x, cs[i]? = some c → xs[i]? = some x → c.isCell = true ∧ Rl h ρ Z c x
theorem constCells_rl {v : Value} {cs : List AV} (hh : constCells v = some cs) : CellsRl h ρ Z cs v.cells.toList := by
  unfold constCells at hh
  split at hh
  · obtain ⟨hl, hr⟩ := constL_rl (h := h) (ρ := ρ) (Z := Z) hh
    exact ⟨hl, fun i c x h1 h2 => (hr i c x h1 h2).symm⟩
  · rename_i hne
    simp only [Option.map_eq_some_iff] at hh
    obtain ⟨x, h1, rfl⟩ := hh
    have hc : v.cells = #[v] := by
      cases v <;> first | rfl | (exact absurd rfl (hne _))
    rw [hc]
    refine ⟨rfl, fun i c y h2 h3 => ?_⟩
    cases i with
    | zero => simp at h2 h3; subst h2; subst h3; exact (constAV1_rl h1).symm
    | succ i => simp at h2
theorem Rl.one {c : AV} {x : Value} (hr : Rl h ρ Z c x) (hc : c.isCell = true) : x.oneCell' = true := by
  cases hr <;> first | rfl | (simp [AV.isCell] at hc)
theorem Rl.cells {v : AV} {x : Value} (hr : Rl h ρ Z v x) (hc : allCells v.cells = true) : CellsRl h ρ Z v.cells x.cells.toList := by
  cases hr with
  | agg cs vs hl hcc hr =>
    simp only [AV.cells, Value.cells]
    exact ⟨by simpa using hl, fun i c x h1 h2 => ⟨hcc i c h1, hr i c x h1 (by simpa using h2)⟩⟩
  | tup cs vs hl hr => simp [allCells, AV.cells, AV.isCell] at hc
  | _ =>
    simp only [AV.cells, Value.cells]
    refine ⟨rfl, fun i c y h1 h2 => ?_⟩
    cases i with
    | zero => simp at h1 h2; subst h1; subst h2; exact ⟨rfl, by first | (constructor; done) | (constructor <;> assumption)⟩
    | succ i => simp at h1
theorem ev_rl (hF : FR h ρ Z s a) {x : Operand} {v : AV} (hx : ev s (cx x) = some v) : Rl h ρ Z v (a.eval x) := by
  cases x with
  | tmp t => exact hF t v hx
  | const c =>
    simp only [cx] at hx
    cases hc : constAV c with
    | none => simp [hc, ev] at hx
    | some y => simp only [hc, ev, Option.some.injEq] at hx; subst hx; exact constAV_rl hc
  | global g => simp [cx, ev] at hx
  | func f =>
    simp only [cx, ev, Option.some.injEq] at hx
    subst hx
    exact .clo f [] [] [] [] rfl rfl (by simp) (by simp)
theorem RlL.nil : RlL h ρ Z [] [] := ⟨rfl, by simp⟩
theorem RlL.cons {v : AV} {x : Value} {vs : List AV} {xs : List Value} (h1 : Rl h ρ Z v x) (h2 : RlL h ρ Z vs xs) : RlL h ρ Z (v :: vs) (x :: xs) :=
  ⟨by simp [h2.1], fun i u y a b => by
    cases i with
    | zero => simp at a b; subst a; subst b; exact h1
    | succ i => simp at a b; exact h2.2 i u y a b⟩
theorem RlL.append {vs vs' : List AV} {xs xs' : List Value} (h1 : RlL h ρ Z vs xs) (h2 : RlL h ρ Z vs' xs') : RlL h ρ Z (vs ++ vs') (xs ++ xs') := by
  refine ⟨by simp [h1.1, h2.1], fun i u y a b => ?_⟩
  have hl := h1.1
  by_cases hi : i < vs.length
  · rw [List.getElem?_append_left hi] at a
    rw [List.getElem?_append_left (by omega)] at b
    exact h1.2 i u y a b
  · rw [List.getElem?_append_right (by omega)] at a
    rw [List.getElem?_append_right (by omega)] at b
    rw [← hl] at b
    exact h2.2 _ u y a b
theorem evL_rl (hF : FR h ρ Z s a) : ∀ {xs : List Operand} {vs : List AV}, evL s (cxL xs) = some vs → RlL h ρ Z vs (xs.map a.eval)
  | [], vs, hh => by simp [cxL, evL] at hh; subst hh; exact .nil
  | x :: xs, vs, hh => by
    simp only [cxL, evL, Option.bind_eq_some_iff] at hh
    obtain ⟨v, h1, us, h2, h3⟩ := hh
    simp only [Option.some.injEq] at h3
    subst h3
    exact .cons (ev_rl hF h1) (evL_rl hF h2)
theorem readA_rl {H : AH} (g : Good h ρ Z H) {v : AV} {x : Value} {cs : List AV} (hr : Rl h ρ Z v x) (hc : readA H v = some cs) :
    ∃ b o, x = .pointer (some ⟨b, o, none⟩) ∧ ∀ (k : Nat) c, cs[k]? = some c → c.isCell = true ∧ ∃ y, hcell h b (o + k) = some y ∧ Rl h ρ Z c y := by
  cases hr with
  | ptr id sz i j b o0 hρ =>
    simp only [readA] at hc
    cases hg : hget H id with
    | none => simp [hg] at hc
    | some blk =>
      cases blk with
      | loop L => simp [hg] at hc
      | rows sz' l =>
        simp only [hg] at hc
        split at hc
        · rename_i e
          subst e
          simp only [Option.map_eq_some_iff] at hc
          obtain ⟨r, h1, rfl⟩ := hc
          obtain ⟨b', o0', h2, ds, e, h3, h4, h5, h6⟩ := g.blk id _ hg
          rw [hρ] at h2
          obtain ⟨rfl, rfl⟩ : b = b' ∧ o0 = o0' := by simpa using h2
          refine ⟨b, _, rfl, fun k c hk => ?_⟩
          rw [List.getElem?_drop] at hk
          obtain ⟨h7, y, h8, h9⟩ := h6 i r _ c h1 hk
          refine ⟨h7, y, ?_, h9⟩
          unfold hcell
          rw [h3]
          simp only
          rw [← h8]
          congr 1
          omega
        · cases hc
  | fp cs' b o f hz hcc hm hr =>
    simp only [readA, Option.some.injEq] at hc
    subst hc
    exact ⟨b, o, rfl, fun k c hk => ⟨hcc k c hk, f k, hm k c hk, hr k c hk⟩⟩
  | _ => simp [readA] at hc
end
end Go.Proofs.YtjaigpidmngaaaaGreat

namespace Go.Proofs.YtjaigpidmngaaaaGreat
def upd (ρ : Loc) (id : Nat) (p : Nat × Nat) : Loc := fun j => if j = id then some p else ρ j
def OpOut (P : Program) (w : World) (ρ : Loc) (Z : Nat → Prop) (H : AH) (rs : Rs) (r : Result Next) : Prop :=
  match rs with
  | .val v => ∃ x w' Z', r = .ok (.value x) w' ∧ Good w'.heap ρ Z' H ∧ Rl w'.heap ρ Z' v x ∧ Ext w ρ Z (Own ρ H) w' ρ Z' (Own ρ H)
  | .valH v H' => ∃ x w' Z', r = .ok (.value x) w' ∧ Good w'.heap ρ Z' H' ∧ Rl w'.heap ρ Z' v x ∧ Ext w ρ Z (Own ρ H) w' ρ Z' (Own ρ H')
  | .upd H' => ∃ w', r = .ok .skip w' ∧ Good w'.heap ρ Z H' ∧ Ext w ρ Z (Own ρ H) w' ρ Z (Own ρ H')
  | .fresh T blk vf H' => ∀ id, ρ id = none → tag id = T → ∃ x w' ρ', r = .ok (.value x) w' ∧ (∀ j, j ≠ id → ρ' j = ρ j) ∧ Good w'.heap ρ' Z ((id, blk) :: H') ∧
      Rl w'.heap ρ' Z (vf id) x ∧ Ext w ρ Z (Own ρ H) w' ρ' Z (Own ρ' ((id, blk) :: H'))
  | .call f args => callable P f = true → ∃ xs, r = .ok (.enter f xs.toArray) w ∧ RlL w.heap ρ Z args xs
  | .yield id args => ∃ b o xs, ρ id = some (b, o) ∧ r = (Instr.yield b xs.toArray).run P w ∧ RlL w.heap ρ Z args xs
section
variable {P : Program} {w : World} {ρ : Loc} {Z : Nat → Prop} {H : AH} {s : Fr} {a : Act}
theorem OpOut.pure {v : AV} {x : Value} {r : Result Next} (g : Good w.heap ρ Z H) (hr : r = .ok (.value x) w) (hv : Rl w.heap ρ Z v x) : OpOut P w ρ Z H (.val v) r :=
  ⟨x, w, Z, hr, g, hv, Ext.refl _ _ _ _⟩
/-! ### A new block -/
theorem hcell_push (h : Array Obj) (o : Obj) (b k : Nat) (hb : b < h.size) : hcell (h.push o) b k = hcell h b k := by
  unfold hcell
  rw [Array.getElem?_push, if_neg (by omega)]
theorem hty_push (h : Array Obj) (o : Obj) (b : Nat) (t : Nat × TypeId) (hb : hty h b = some t) : hty (h.push o) b = some t := by
  unfold hty at *
  have : b < h.size := by
    cases hx : h[b]? with
    | none => simp [hx] at hb
    | some x => exact (Array.getElem?_eq_some_iff.1 hx).1
  rw [Array.getElem?_push, if_neg (by omega)]
  exact hb
theorem hcell_lt {h : Array Obj} {b k : Nat} {u : Value} (hb : hcell h b k = some u) : b < h.size := by
  unfold hcell at hb
  cases hx : h[b]? with
  | none => simp [hx] at hb
  | some x => exact (Array.getElem?_eq_some_iff.1 hx).1
theorem Rl.push {h : Array Obj} {v : AV} {x : Value} (hr : Rl h ρ Z v x) (o : Obj) {ρ' : Loc} {Z' : Nat → Prop} (hρ : ∀ id p, ρ id = some p → ρ' id = some p) (hZ : ∀ b, Z b → Z' b) : Rl (h.push o) ρ' Z' v x :=
  hr.mono hρ hZ (fun b k u _ hu => by rw [hcell_push h o b k (hcell_lt hu)]; exact hu) (fun b m hm => hty_push h o b m hm)
theorem upd_mono {id : Nat} {p : Nat × Nat} (hid : ρ id = none) : ∀ j q, ρ j = some q → upd ρ id p j = some q := by
  intro j q hj
  unfold upd
  split
  · rename_i e; subst e; rw [hid] at hj; cases hj
  · exact hj
theorem Own.upd {id : Nat} {blk : Blk} {p : Nat × Nat} {H' : AH} (hs : Sub H' H) (hid : ρ id = none) (g : Good w.heap ρ Z H) {b : Nat} (ho : Own (upd ρ id p) ((id, blk) :: H') b) :
    Own ρ H b ∨ b = p.1 := by
  obtain ⟨j, bl, o, h1, h2⟩ := ho
  simp only [hget] at h1
  unfold Go.Proofs.YtjaigpidmngaaaaGreat.upd at h2
  split at h1
  · rename_i e
    subst e
    rw [if_pos rfl] at h2
    simp only [Option.some.injEq] at h2
    right
    rw [h2]
  · rename_i e
    rw [if_neg e] at h2
    exact .inl ⟨j, bl, o, hs _ _ h1, h2⟩
theorem fresh_out {w1 : World} {x : Value} {r : Result Next} {sz : Nat} {l : List (List AV)} {cs : Array Value} {e : TypeId} {vf : Nat → AV} {H' : AH} (g : Good w.heap ρ Z H) (hw1 : w1.heap = w.heap) (ho : w1.os = w.os) (hu : w1.output = w.output) (ht : w1.tape = w.tape)
    (hr : r = .ok (.value x) (w1.alloc (.cells cs e))) (hs : Sub H' H) (hsz : l.length * sz ≤ cs.size) (hl : ∀ (i : Nat) r, l[i]? = some r → r.length = sz)
    (hv : ∀ (i : Nat) r (j : Nat) v, l[i]? = some r → r[j]? = some v → v.isCell = true ∧ ∃ y, cs[i * sz + j]? = some y ∧ Rl w.heap ρ Z v y)
    (hx : ∀ id h' ρ', ρ' id = some (w.heap.size, 0) → hsize h' w.heap.size = some cs.size → Rl h' ρ' Z (vf id) x) : OpOut P w ρ Z H (.fresh e (.rows sz l) vf H') r := by
  intro id hid htag
  have hheap : (w1.alloc (.cells cs e)).heap = w.heap.push (.cells cs e) := by
    show w1.heap.push _ = _
    rw [hw1]
  have hup := upd_mono (ρ := ρ) (p := (w.heap.size, 0)) hid
  have hrl : ∀ v y, Rl w.heap ρ Z v y → Rl (w.heap.push (.cells cs e)) (upd ρ id (w.heap.size, 0)) Z v y := fun v y q => q.push _ hup (fun _ h => h)
  refine ⟨x, _, upd ρ id (w.heap.size, 0), hr, fun j hj => by simp [upd, hj], ?_, ?_, ?_⟩
  · rw [hheap]
    refine ⟨fun j blk hj => ?_, fun i j a b p q o o' h1 h2 h3 h4 hne => ?_, fun b hb hz => ?_, fun b hz => ?_, ?_, fun j b o hj => ?_, g.tab.of (fun _ q => q) (fun b q => by rw [Array.getElem?_push, if_neg (by have := g.zlt b q; omega)])⟩
    · simp only [hget] at hj
      split at hj
      · rename_i e1
        subst e1
        simp only [Option.some.injEq] at hj
        subst hj
        refine ⟨w.heap.size, 0, by simp [upd], cs, e, by simp, by omega, hl, fun i r j v a b => ?_⟩
        obtain ⟨c, y, d, f⟩ := hv i r j v a b
        exact ⟨c, y, by simpa using d, hrl _ _ f⟩
      · rename_i e1
        obtain ⟨b, o, h1, h2⟩ := g.blk j blk (hs _ _ hj)
        refine ⟨b, o, hup _ _ h1, h2.mono ?_ hrl⟩
        rw [Array.getElem?_push, if_neg (by have := h2.lt; omega)]
    · simp only [hget] at h1 h2
      unfold upd at h3 h4
      split at h1 <;> split at h2
      · rename_i e1 e2; exact absurd (e1.trans e2.symm) hne
      · rename_i e1 e2
        rw [if_pos e1] at h3
        rw [if_neg e2] at h4
        simp only [Option.some.injEq, Prod.mk.injEq] at h3
        have := g.own_lt (b := q) ⟨j, b, o', hs _ _ h2, h4⟩
        omega
      · rename_i e1 e2
        rw [if_neg e1] at h3
        rw [if_pos e2] at h4
        simp only [Option.some.injEq, Prod.mk.injEq] at h4
        have := g.own_lt (b := p) ⟨i, a, o, hs _ _ h1, h3⟩
        omega
      · rename_i e1 e2
        rw [if_neg e1] at h3
        rw [if_neg e2] at h4
        exact g.inj i j a b p q o o' (hs _ _ h1) (hs _ _ h2) h3 h4 hne
    · rcases hb.upd hs hid g with hb | hb
      · exact g.notZ b hb hz
      · have := g.zlt b hz
        simp at hb
        omega
    · have := g.zlt b hz
      simp
      omega
    · obtain ⟨N, hN⟩ := g.ids
      refine ⟨max N (id + 1), fun j hj => ?_⟩
      unfold upd
      rw [if_neg (by omega)]
      exact hN j (by omega)
    · unfold upd at hj
      split at hj
      · rename_i e1
        subst e1
        simp only [Option.some.injEq, Prod.mk.injEq] at hj
        obtain ⟨rfl, rfl⟩ := hj
        exact ⟨rfl, cs.size + 1, by unfold hty; simp [htag]⟩
      · obtain ⟨h1, m, h2⟩ := g.ty j b o hj
        exact ⟨h1, m, hty_push _ _ _ _ h2⟩
  · refine hx id _ _ (by simp [upd]) ?_
    rw [hheap]
    simp [hsize]
  · refine ⟨by rw [hheap]; simp, fun b hb _ => ?_, fun b m hm => by rw [hheap]; exact hty_push _ _ _ _ hm, fun _ h => h, fun _ h => .inl h, hup, fun b hb => ?_, ho, hu, ht⟩
    · rw [hheap, Array.getElem?_push, if_neg (by omega)]
    · rcases hb.upd hs hid g with hb | hb
      · exact .inl hb
      · exact .inr (by simp at hb; omega)
theorem lit_out {x : Value} {r : Result Next} {v : AV} {cs : Array Value} {e : TypeId} (g : Good w.heap ρ Z H)
    (hr : r = .ok (.value x) (w.alloc (.cells cs e)))
    (hx : Rl (w.heap.push (.cells cs e)) ρ (fun b => Z b ∨ b = w.heap.size) v x) : OpOut P w ρ Z H (.val v) r := by
  have hheap : (w.alloc (.cells cs e)).heap = w.heap.push (.cells cs e) := rfl
  have hrl : ∀ v y, Rl w.heap ρ Z v y → Rl (w.heap.push (.cells cs e)) ρ (fun b => Z b ∨ b = w.heap.size) v y := fun v y q => q.push _ (fun _ _ h => h) (fun _ h => .inl h)
  refine ⟨x, _, fun b => Z b ∨ b = w.heap.size, hr, ?_, by rw [hheap]; exact hx, ?_⟩
  · rw [hheap]
    refine ⟨fun j blk hj => ?_, g.inj, fun b hb hz => ?_, fun b hz => ?_, g.ids, fun j b o hj => let ⟨h1, m, h2⟩ := g.ty j b o hj; ⟨h1, m, hty_push _ _ _ _ h2⟩, g.tab.of (fun _ q => .inl q) (fun b q => by rw [Array.getElem?_push, if_neg (by have := g.zlt b q; omega)])⟩
    · obtain ⟨b, o, h1, h2⟩ := g.blk j blk hj
      refine ⟨b, o, h1, h2.mono ?_ hrl⟩
      rw [Array.getElem?_push, if_neg (by have := h2.lt; omega)]
    · rcases hz with hz | hz
      · exact g.notZ b hb hz
      · have := g.own_lt hb; omega
    · rcases hz with hz | hz
      · have := g.zlt b hz; simp; omega
      · simp; omega
  · refine ⟨by rw [hheap]; simp, fun b hb _ => ?_, fun b m hm => by rw [hheap]; exact hty_push _ _ _ _ hm, fun _ h => .inl h, fun b h => ?_, fun _ _ h => h, fun _ h => .inl h, rfl, rfl, rfl⟩
    · rw [hheap, Array.getElem?_push, if_neg (by omega)]
    · rcases h with h | h
      · exact .inl h
      · exact .inr (.inr (by omega))
/-! ### Stores -/
def ovArr (cs : Array Value) (o : Nat) : List Value → Array Value
  | [] => cs
  | x :: xs => ovArr (cs.setIfInBounds o x) (o + 1) xs
theorem size_ovArr : ∀ (xs : List Value) (cs : Array Value) (o : Nat), (ovArr cs o xs).size = cs.size
  | [], cs, o => rfl
  | x :: xs, cs, o => by simp [ovArr, size_ovArr xs]
theorem get_ovArr : ∀ (xs : List Value) (cs : Array Value) (o k : Nat), o + xs.length ≤ cs.size →
    (ovArr cs o xs)[k]? = if o ≤ k ∧ k < o + xs.length then xs[k - o]? else cs[k]?
  | [], cs, o, k, _ => by simp only [ovArr, List.length_nil]; rw [if_neg (by omega)]
  | x :: xs, cs, o, k, hl => by
    simp only [List.length_cons] at hl ⊢
    rw [ovArr, get_ovArr xs _ _ _ (by simp; omega), Array.getElem?_setIfInBounds]
    by_cases h1 : o + 1 ≤ k ∧ k < o + 1 + xs.length
    · rw [if_pos h1, if_pos (by omega)]
      rw [show k - o = (k - (o + 1)) + 1 from by omega]
      simp
    · rw [if_neg h1]
      by_cases h2 : o = k
      · subst h2
        rw [if_pos (by omega), if_pos (by omega)]
        simp
      · rw [if_neg h2, if_neg (by omega)]
theorem addr_add (b o n : Nat) : (⟨b, o, none⟩ : Addr).add n = ⟨b, o + n, none⟩ := Addr.add_lit b o n
theorem run_storeCells' (b o : Nat) (e : TypeId) : ∀ (xs : List Value) (i : Nat) (cs : Array Value) (w : World), w.heap[b]? = some (.cells cs e (0, 0)) →
    o + i + xs.length ≤ cs.size → (∀ x ∈ xs, x.oneCell' = true) →
    (storeCells ⟨b, o, none⟩ xs i).run P w = .ok () { w with heap := w.heap.setIfInBounds b (.cells (ovArr cs (o + i) xs) e (0, 0)) }
  | [], i, cs, w, hb, hl, hx => by
    simp only [storeCells, ovArr, Sem.run_pure]
    congr 1
    have : w.heap.setIfInBounds b (.cells cs e (0, 0)) = w.heap := by
      apply Array.ext_getElem?
      intro k
      rw [Array.getElem?_setIfInBounds]
      split
      · rename_i e1; subst e1; split
        · exact hb.symm
        · rename_i h2; rw [Array.getElem?_eq_none (by omega)]
      · rfl
    rw [this]
  | x :: xs, i, cs, w, hb, hl, hx => by
    simp only [List.length_cons] at hl
    have hc : w.cell? ⟨b, o + i, none⟩ = some cs[o + i] := by
      rw [cell?_heap]; unfold hcell; rw [hb]; simp only [Array.getElem?_eq_getElem (show o + i < cs.size by omega)]
    have hf : w.frozen? ⟨b, o + i, none⟩ = false := by
      unfold World.frozen?; simp only [hb]; simp
    have hset : w.setCell ⟨b, o + i, none⟩ x = { w with heap := w.heap.setIfInBounds b (.cells (cs.setIfInBounds (o + i) x) e (0, 0)) } := by
      unfold World.setCell
      congr 1
      apply Array.ext_getElem?
      intro k
      rw [Array.getElem?_modify, Array.getElem?_setIfInBounds]
      by_cases hk : b = k
      · subst hk
        rw [if_pos rfl, if_pos rfl, hb, if_pos (Array.getElem?_eq_some_iff.1 hb).1]
        rfl
      · rw [if_neg hk, if_neg hk]
    have hb' : ({ w with heap := w.heap.setIfInBounds b (.cells (cs.setIfInBounds (o + i) x) e (0, 0)) } : World).heap[b]? = some (.cells (cs.setIfInBounds (o + i) x) e (0, 0)) := by
      simp only [Array.getElem?_setIfInBounds]
      rw [if_pos trivial, if_pos (Array.getElem?_eq_some_iff.1 hb).1]
    have ih := run_storeCells' b o e xs (i + 1) _ _ hb' (by simp; omega) (fun y hy => hx y (List.mem_cons_of_mem _ hy))
    simp only [storeCells, Sem.run_bind, addr_add]
    rw [run_store P w _ x _ (hx x List.mem_cons_self), hc]
    simp only [hf, Bool.false_eq_true, if_false, Result.andThen_ok]
    rw [hset, ih]
    simp only [ovArr, ← Nat.add_assoc, Array.setIfInBounds_setIfInBounds]
end
end Go.Proofs.YtjaigpidmngaaaaGreat

namespace Go.Proofs.YtjaigpidmngaaaaGreat
section
variable {P : Program} {w : World} {ρ : Loc} {Z : Nat → Prop} {H : AH} {s : Fr} {a : Act} {rs : Rs} {lit : Bool}
theorem aggSize_spec {t : TypeId} {n : Option Nat} (h : aggSize P t = some n) : ∃ d i, P.underlying t = some d ∧ P.info? t = some i ∧
    n = if isAggD d = true then some i.size else none := by
  unfold aggSize at h
  split at h
  · rename_i d i hd hi
    refine ⟨d, i, hd, hi, ?_⟩
    split at h <;> simp_all
  · cases h
theorem run_isAgg {t : TypeId} {d : TypeDesc} (h : P.underlying t = some d) : (isAgg t).run P w = .ok (isAggD d) w := by
  unfold isAgg
  simp only [Sem.run_bind, run_underlying h, Result.andThen_ok]
  cases d <;> rfl
theorem run_sizeOf {t : TypeId} {i : TypeInfo} (h : P.info? t = some i) : (sizeOf t).run P w = .ok i.size w := by
  simp [sizeOf, typeInfo, h]
theorem run_zeroValue {t : TypeId} {i : TypeInfo} {z : Value} (h : P.info? t = some i) (hz : i.zero = some z) : (zeroValue t).run P w = .ok z w := by
  simp [zeroValue, typeInfo, h, hz]
theorem run_part {t : TypeId} {n : Option Nat} {cs : List AV} {off : Nat} {r : AV} {xs : List Value} (h : aggSize P t = some n) (hp : partA cs off n = some r) (hr : CellsRl w.heap ρ Z cs xs) :
    ∃ y, (part t xs.toArray off).run P w = .ok y w ∧ Rl w.heap ρ Z r y := by
  obtain ⟨d, i, hd, hi, rfl⟩ := aggSize_spec h
  unfold part
  simp only [Sem.run_bind, run_isAgg hd, Result.andThen_ok]
  by_cases hag : isAggD d = true
  · rw [if_pos hag] at hp
    simp only [partA] at hp
    split at hp
    · rename_i hle
      simp only [Option.some.injEq] at hp
      subst hp
      simp only [hag, if_true, Sem.run_bind, run_sizeOf hi, Result.andThen_ok, Sem.run_pure]
      refine ⟨_, rfl, ?_⟩
      have he : xs.toArray.extract off (off + i.size) = ((xs.drop off).take i.size).toArray := by
        simp [List.extract_eq_take_drop]
      rw [he]
      refine .agg _ _ (by simp [hr.1]) (fun k v hk => ?_) (fun k v x hk hx => ?_)
      · have hk' := List.getElem?_eq_some_iff.1 hk
        simp only [List.length_take, List.length_drop] at hk'
        have hlt := hk'.1
        rw [List.getElem?_take, if_pos (by omega), List.getElem?_drop] at hk
        exact (hr.2 _ _ _ hk (List.getElem?_eq_getElem (by have := hr.1; omega))).1
      · have hk' := (List.getElem?_eq_some_iff.1 hk).1
        simp only [List.length_take, List.length_drop] at hk'
        rw [List.getElem?_take, if_pos (by omega), List.getElem?_drop] at hk hx
        exact (hr.2 _ _ _ hk hx).2
    · cases hp
  · rw [if_neg hag] at hp
    have hag' : isAggD d = false := by simpa using hag
    simp only [partA, Option.bind_eq_some_iff] at hp
    obtain ⟨v, h1, h2⟩ := hp
    split at h2
    · simp only [Option.some.injEq] at h2
      subst h2
      have hlt : off < xs.length := by have := (List.getElem?_eq_some_iff.1 h1).1; rw [← hr.1]; exact this
      have hx : xs[off]? = some xs[off] := List.getElem?_eq_getElem hlt
      refine ⟨xs[off], ?_, (hr.2 _ _ _ h1 hx).2⟩
      simp only [hag', Bool.false_eq_true, if_false]
      simp [hx]
    · cases h2
theorem run_loadVar {t : TypeId} {n : Option Nat} {cs : List AV} {r : AV} {b o : Nat} (h : aggSize P t = some n) (hp : partA cs 0 n = some r)
    (hr : ∀ (k : Nat) c, cs[k]? = some c → c.isCell = true ∧ ∃ y, hcell w.heap b (o + k) = some y ∧ Rl w.heap ρ Z c y) :
    ∃ y, (loadVar t ⟨b, o, none⟩).run P w = .ok y w ∧ Rl w.heap ρ Z r y := by
  obtain ⟨d, i, hd, hi, rfl⟩ := aggSize_spec h
  unfold loadVar
  simp only [Sem.run_bind, run_isAgg hd, Result.andThen_ok]
  by_cases hag : isAggD d = true
  · rw [if_pos hag] at hp
    simp only [partA] at hp
    split at hp
    · rename_i hle
      simp only [Option.some.injEq] at hp
      subst hp
      have hl := run_loadCells (P := P) w ⟨b, o, none⟩ i.size (fun k => (hcell w.heap b (o + k)).getD undef) (fun k hk => by
        rw [addr_add, cell?_heap]
        obtain ⟨_, y, hy, _⟩ := hr k _ (List.getElem?_eq_getElem (show k < cs.length by omega))
        rw [hy]
        rfl)
      simp only [hag, if_true, Sem.run_bind, run_sizeOf hi, Result.andThen_ok, hl, Sem.run_map]
      refine ⟨_, rfl, ?_⟩
      refine .agg _ _ (by simp; omega) (fun k v hk => ?_) (fun k v x hk hx => ?_)
      · have hlt := (List.getElem?_eq_some_iff.1 hk).1
        simp only [List.length_take, List.length_drop] at hlt
        rw [List.drop_zero, List.getElem?_take, if_pos (by omega)] at hk
        exact (hr _ _ hk).1
      · have hlt := (List.getElem?_eq_some_iff.1 hk).1
        simp only [List.length_take, List.length_drop] at hlt
        rw [List.drop_zero, List.getElem?_take, if_pos (by omega)] at hk
        obtain ⟨_, y, hy, hry⟩ := hr _ _ hk
        rw [List.getElem?_map, List.getElem?_range (by omega)] at hx
        simp only [Option.map_some, Option.some.injEq] at hx
        rw [← hx, hy]
        exact hry
    · cases hp
  · rw [if_neg hag] at hp
    have hag' : isAggD d = false := by simpa using hag
    simp only [partA, Option.bind_eq_some_iff] at hp
    obtain ⟨v, h1, h2⟩ := hp
    split at h2
    · simp only [Option.some.injEq] at h2
      subst h2
      obtain ⟨_, y, hy, hry⟩ := hr 0 _ h1
      refine ⟨y, ?_, hry⟩
      simp only [hag', Bool.false_eq_true, if_false, run_load, cell?_heap]
      rw [Nat.add_zero] at hy
      rw [hy]
    · cases h2
theorem load_out {o : Oper} {t : TypeId} {x : Operand} (ho : o.op = .load t x) (g : Good w.heap ρ Z H) (hF : FR w.heap ρ Z s a) (h : evalOp s H (compOp P lit o.op) = some rs) :
    OpOut P w ρ Z H rs ((execOp a.eval o).run P w) := by
  rw [ho] at h
  simp only [compOp] at h
  split at h
  · rename_i n hn
    simp only [evalOp, Option.bind_eq_some_iff] at h
    obtain ⟨v, h1, cs, h2, r, h3, h4⟩ := h
    simp only [Option.some.injEq] at h4
    subst h4
    obtain ⟨b, k, hx, hr⟩ := readA_rl g (ev_rl hF h1) h2
    obtain ⟨y, hy, hry⟩ := run_loadVar hn h3 hr
    refine OpOut.pure g ?_ hry
    simp only [execOp, ho, Instr.loadAt, Instr.sureAddr, hx, Sem.run_bind, Sem.run_pure, Result.andThen_ok, hy]
  · simp [evalOp] at h
theorem field_out {o : Oper} {t : TypeId} {x : Operand} {f : Nat} (ho : o.op = .field t x f) (g : Good w.heap ρ Z H) (hF : FR w.heap ρ Z s a) (h : evalOp s H (compOp P lit o.op) = some rs) :
    OpOut P w ρ Z H rs ((execOp a.eval o).run P w) := by
  rw [ho] at h
  simp only [compOp] at h
  split at h
  · rename_i fs hu
    split at h
    · rename_i fd hfd
      split at h
      · rename_i n hn
        simp only [evalOp, Option.bind_eq_some_iff] at h
        obtain ⟨v, h1, h2⟩ := h
        cases v with
        | agg cs =>
          simp only [Option.bind_eq_some_iff] at h2
          obtain ⟨r, h3, h4⟩ := h2
          simp only [Option.some.injEq] at h4
          subst h4
          have hr := ev_rl hF h1
          generalize hy : a.eval x = y at hr
          cases hr with
          | agg _ vs hl hc hr =>
            have hcr : CellsRl w.heap ρ Z cs vs := ⟨hl, fun i c x h1 h2 => ⟨hc i c h1, hr i c x h1 h2⟩⟩
            obtain ⟨y, hy2, hry⟩ := run_part hn h3 hcr
            refine OpOut.pure g ?_ hry
            simp only [execOp, ho, hy, Instr.field, Sem.run_bind, run_underlying hu, Result.andThen_ok, hfd, asAgg, Sem.run_pure, hy2]
        | _ => simp at h2
      · simp [evalOp] at h
    · simp [evalOp] at h
  · simp [evalOp] at h
theorem faddr_out {o : Oper} {t : TypeId} {x : Operand} {f : Nat} (ho : o.op = .fieldAddr t x f) (g : Good w.heap ρ Z H) (hF : FR w.heap ρ Z s a) (h : evalOp s H (compOp P lit o.op) = some rs) :
    OpOut P w ρ Z H rs ((execOp a.eval o).run P w) := by
  rw [ho] at h
  simp only [compOp] at h
  split at h
  · rename_i fs hu
    split at h
    · rename_i fd hfd
      split at h
      · rename_i k hk
        split at h
        · simp [evalOp] at h
        · rename_i hk0
          simp only [evalOp, Option.bind_eq_some_iff] at h
          obtain ⟨v, h1, h2⟩ := h
          have hr := ev_rl hF h1
          generalize hy : a.eval x = y at hr
          cases hr with
          | ptr id sz i j b o0 hρ =>
            simp only [Option.some.injEq] at h2
            subst h2
            refine OpOut.pure g (x := .pointer (some ⟨b, o0 + (i * sz + (j + fd.offset)), none⟩)) ?_ (.ptr _ _ _ _ _ _ hρ)
            simp only [execOp, ho, hy, Instr.fieldAt, Sem.run_bind, run_underlying hu, Result.andThen_ok, hfd, Instr.sureAddr, Sem.run_pure, fieldPlace, run_sizeOf hk, if_neg hk0, addr_add]
            rw [show o0 + (i * sz + j) + fd.offset = o0 + (i * sz + (j + fd.offset)) from by omega]
          | fp cs b o' f' hz hcc hm hr =>
            simp only [Option.some.injEq] at h2
            subst h2
            refine OpOut.pure g (x := .pointer (some ⟨b, o' + fd.offset, none⟩)) ?_ (.fp _ _ _ (fun k => f' (fd.offset + k)) (fun hp => hz ?_) ?_ ?_ ?_)
            · simp only [execOp, ho, hy, Instr.fieldAt, Sem.run_bind, run_underlying hu, Result.andThen_ok, hfd, Instr.sureAddr, Sem.run_pure, fieldPlace, run_sizeOf hk, if_neg hk0, addr_add]
            · simp only [List.length_drop] at hp; omega
            · intro i v hv; rw [List.getElem?_drop] at hv; exact hcc _ _ hv
            · intro i v hv; rw [List.getElem?_drop] at hv; rw [← hm _ _ hv]; congr 1; omega
            · intro i v hv; rw [List.getElem?_drop] at hv; exact hr _ _ hv
          | _ => simp at h2
      · simp [evalOp] at h
    · simp [evalOp] at h
  · simp [evalOp] at h
theorem iaddr_out {o : Oper} {t : TypeId} {x ix : Operand} (ho : o.op = .indexAddr t x ix) (g : Good w.heap ρ Z H) (hF : FR w.heap ρ Z s a) (h : evalOp s H (compOp P lit o.op) = some rs) :
    OpOut P w ρ Z H rs ((execOp a.eval o).run P w) := by
  rw [ho] at h
  simp only [compOp] at h
  split at h
  · rename_i e hu
    split at h
    · rename_i k hk
      simp only [evalOp, Option.bind_eq_some_iff] at h
      obtain ⟨v, h1, iv, h2, h3⟩ := h
      have hr := ev_rl hF h1
      have hi := ev_rl hF h2
      generalize hy : a.eval x = y at hr
      generalize hj : a.eval ix = j at hi
      cases hi with
      | int kk n =>
        cases hr with
        | rows sz l b o' nn c f hn hnc hz hw hcc hm hr =>
          simp only at h3
          split at h3
          · rename_i hc
            obtain ⟨rfl, hc1, hc2⟩ := hc
            simp only [Option.some.injEq] at h3
            subst h3
            have hlt : n.toNat < l.length := by omega
            have hli : l[n.toNat]? = some (l.getD n.toNat []) := by simp [List.getD, hlt]
            refine OpOut.pure g (x := .pointer (some ⟨b, o' + n.toNat * k.size, none⟩)) ?_ (.fp _ _ _ (fun q => f (n.toNat * k.size + q)) (fun _ => hz (by omega)) ?_ ?_ ?_)
            · simp only [execOp, ho, hy, hj, Instr.indexAt, asIntOf, Sem.run_bind, run_underlying hu, Result.andThen_ok, Sem.run_pure]
              rw [if_pos ⟨hc1, by omega⟩]
              simp only [Sem.run_bind, run_sizeOf hk, Result.andThen_ok, Sem.run_pure, addr_add]
            · intro q v hv; exact hcc _ _ _ _ hli hv
            · intro q v hv; rw [← hm _ _ _ _ hli hv]; congr 1; omega
            · intro q v hv; exact hr _ _ _ _ hli hv
          · cases h3
        | own id sz lo hi b o0 o' nn c m hρ hlo hn hnc ho' hm hcap =>
          simp only at h3
          split at h3
          · rename_i hc
            obtain ⟨rfl, hc1, hc2⟩ := hc
            simp only [Option.some.injEq] at h3
            subst h3
            have hoo : o' = o0 + lo * k.size := by
              rcases ho' with h0 | h0
              · omega
              · exact h0
            refine OpOut.pure g (x := .pointer (some ⟨b, o0 + ((lo + n.toNat) * k.size + 0), none⟩)) ?_ (.ptr _ _ _ _ _ _ hρ)
            simp only [execOp, ho, hy, hj, Instr.indexAt, asIntOf, Sem.run_bind, run_underlying hu, Result.andThen_ok, Sem.run_pure]
            rw [if_pos ⟨hc1, by omega⟩]
            simp only [Sem.run_bind, run_sizeOf hk, Result.andThen_ok, Sem.run_pure, addr_add, hoo]
            congr 5
            rw [Nat.add_mul]
            omega
          · cases h3
        | rowsN sz =>
          simp at h3
          omega
        | rowsE sz ad c =>
          simp at h3
          omega
        | _ => simp at h3
      | _ => simp at h3
    · simp [evalOp] at h
  · rename_i nn e hu
    split at h
    · rename_i k hk
      simp only [evalOp, Option.bind_eq_some_iff] at h
      obtain ⟨v, h1, iv, h2, h3⟩ := h
      have hr := ev_rl hF h1
      have hi := ev_rl hF h2
      generalize hy : a.eval x = y at hr
      generalize hj : a.eval ix = j at hi
      cases hi with
      | int kk n =>
        simp only at h3
        split at h3
        · rename_i hc
          obtain ⟨hc1, hc2⟩ := hc
          cases hr with
          | ptr id sz i j' b o0 hρ =>
            simp only [Option.some.injEq] at h3
            subst h3
            refine OpOut.pure g (x := .pointer (some ⟨b, o0 + (i * sz + (j' + n.toNat * k.size)), none⟩)) ?_ (.ptr _ _ _ _ _ _ hρ)
            simp only [execOp, ho, hy, hj, Instr.indexAt, asIntOf, Sem.run_bind, run_underlying hu, Result.andThen_ok, Sem.run_pure, Instr.sureAddr]
            rw [if_pos ⟨hc1, hc2⟩]
            simp only [Sem.run_bind, run_sizeOf hk, Result.andThen_ok, Sem.run_pure, addr_add]
            congr 5
            omega
          | fp cs b o' f' hz hcc hm hr =>
            simp only [Option.some.injEq] at h3
            subst h3
            refine OpOut.pure g (x := .pointer (some ⟨b, o' + n.toNat * k.size, none⟩)) ?_ (.fp _ _ _ (fun q => f' (n.toNat * k.size + q)) (fun hp => hz ?_) ?_ ?_ ?_)
            · simp only [execOp, ho, hy, hj, Instr.indexAt, asIntOf, Sem.run_bind, run_underlying hu, Result.andThen_ok, Sem.run_pure, Instr.sureAddr]
              rw [if_pos ⟨hc1, hc2⟩]
              simp only [Sem.run_bind, run_sizeOf hk, Result.andThen_ok, Sem.run_pure, addr_add]
            · simp only [List.length_drop] at hp; omega
            · intro i v hv; rw [List.getElem?_drop] at hv; exact hcc _ _ hv
            · intro i v hv; rw [List.getElem?_drop] at hv; rw [← hm _ _ hv]; congr 1; omega
            · intro i v hv; rw [List.getElem?_drop] at hv; exact hr _ _ hv
          | _ => simp at h3
        · cases h3
      | _ => simp at h3
    · simp [evalOp] at h
  · simp [evalOp] at h
theorem getElem?_toList (b : ByteArray) (i : Nat) : b[i]? = b.data.toList[i]? := by
  show (if h : i < b.size then some b[i] else none) = _
  by_cases h : i < b.size
  · rw [dif_pos h, List.getElem?_eq_getElem (by simpa using h)]
    rfl
  · rw [dif_neg h, List.getElem?_eq_none (by simpa using h)]
theorem index_out {o : Oper} {t : TypeId} {x ix : Operand} (ho : o.op = .index t x ix) (g : Good w.heap ρ Z H) (hF : FR w.heap ρ Z s a) (h : evalOp s H (compOp P lit o.op) = some rs) :
    OpOut P w ρ Z H rs ((execOp a.eval o).run P w) := by
  rw [ho] at h
  simp only [compOp] at h
  split at h
  · rename_i hu
    simp only [evalOp, Option.bind_eq_some_iff] at h
    obtain ⟨v, h1, iv, h2, h3⟩ := h
    have hr := ev_rl hF h1
    have hi := ev_rl hF h2
    generalize hy : a.eval x = y at hr
    generalize hj : a.eval ix = j at hi
    cases hi with
    | int kk n =>
      cases hr with
      | str l b hs =>
        simp only at h3
        split at h3
        · rename_i hc
          obtain ⟨hc1, hc2⟩ := hc
          simp only [Option.some.injEq] at h3
          subst h3
          have hb : b[n.toNat]? = some (l.getD n.toNat 0) := by
            rw [getElem?_toList, hs]
            simp [List.getD, show n.toNat < l.length by omega]
          refine OpOut.pure g ?_ (.int _ _)
          simp only [execOp, ho, hy, hj, Instr.index, asIntOf, Sem.run_bind, run_underlying hu, Result.andThen_ok, Sem.run_pure]
          rw [if_pos hc1, hb]
          rfl
        · cases h3
      | _ => simp at h3
    | _ => simp at h3
  · rename_i nn e hu
    split at h
    · rename_i k m hk hm
      simp only [evalOp, Option.bind_eq_some_iff] at h
      obtain ⟨v, h1, iv, h2, h3⟩ := h
      have hr := ev_rl hF h1
      have hi := ev_rl hF h2
      generalize hy : a.eval x = y at hr
      generalize hj : a.eval ix = j at hi
      cases hi with
      | int kk n =>
        cases hr with
        | agg cs vs hl hc hr =>
          simp only at h3
          split at h3
          · rename_i hcd
            simp only [Option.bind_eq_some_iff] at h3
            obtain ⟨r, h4, h5⟩ := h3
            simp only [Option.some.injEq] at h5
            subst h5
            have hcr : CellsRl w.heap ρ Z cs vs := ⟨hl, fun i c x h1 h2 => ⟨hc i c h1, hr i c x h1 h2⟩⟩
            obtain ⟨y, hy2, hry⟩ := run_part hm h4 hcr
            refine OpOut.pure g ?_ hry
            simp only [execOp, ho, hy, hj, Instr.index, asIntOf, Sem.run_bind, run_underlying hu, Result.andThen_ok, Sem.run_pure]
            rw [if_pos hcd]
            simp only [Sem.run_bind, run_sizeOf hk, Result.andThen_ok, hy2]
          · cases h3
        | _ => simp at h3
      | _ => simp at h3
    · simp [evalOp] at h
  · simp [evalOp] at h
end
end Go.Proofs.YtjaigpidmngaaaaGreat

namespace Go.Proofs.YtjaigpidmngaaaaGreat
section
variable {P : Program} {w : World} {ρ : Loc} {Z : Nat → Prop} {H : AH} {s : Fr} {a : Act} {rs : Rs}
theorem move_out {o : Oper} {x : Operand} (ho : o.op = .move x ∨ o.op = .assign x) (g : Good w.heap ρ Z H) (hF : FR w.heap ρ Z s a) (h : evalOp s H (.mv (cx x)) = some rs) :
    OpOut P w ρ Z H rs ((execOp a.eval o).run P w) := by
  simp only [evalOp, Option.bind_eq_some_iff] at h
  obtain ⟨v, h1, h2⟩ := h
  simp only [Option.some.injEq] at h2
  subst h2
  refine OpOut.pure g ?_ (ev_rl hF h1)
  rcases ho with ho | ho <;> simp only [execOp, ho, Sem.run_pure]
theorem pick_out {o : Oper} {c x y : Operand} (ho : o.op = .pick c x y) (g : Good w.heap ρ Z H) (hF : FR w.heap ρ Z s a) (h : evalOp s H (.pick (cx c) (cx x) (cx y)) = some rs) :
    OpOut P w ρ Z H rs ((execOp a.eval o).run P w) := by
  simp only [evalOp, Option.bind_eq_some_iff] at h
  obtain ⟨v, h1, h2⟩ := h
  have hr := ev_rl hF h1
  generalize hc : a.eval c = cv at hr
  cases hr with
  | bool q =>
    cases q with
    | true =>
      simp only [if_true, Option.bind_eq_some_iff] at h2
      obtain ⟨u, h3, h4⟩ := h2
      simp only [Option.some.injEq] at h4
      subst h4
      refine OpOut.pure g ?_ (ev_rl hF h3)
      simp only [execOp, ho, hc, asBool, Sem.run_bind, Sem.run_pure, Result.andThen_ok, if_true, Sem.run_map]
    | false =>
      simp only [Bool.false_eq_true, if_false, Option.bind_eq_some_iff] at h2
      obtain ⟨u, h3, h4⟩ := h2
      simp only [Option.some.injEq] at h4
      subst h4
      refine OpOut.pure g ?_ (ev_rl hF h3)
      simp only [execOp, ho, hc, asBool, Sem.run_bind, Sem.run_pure, Result.andThen_ok, Bool.false_eq_true, if_false, Sem.run_map]
  | _ => simp at h2
theorem bits_eq {op : BinOp} {k : IntKind} {x y : Int} (h : op = .and ∨ op = .or ∨ op = .xor ∨ op = .andNot) : (Op.intBits op k x y).run P w = .ok (.int k (bitsV op k x y)) w := by
  rcases h with h | h | h | h <;> subst h <;> rfl
theorem binInt_run {op : BinOp} {k : IntKind} {x y : Int} {v : AV} {t : TypeId} (h : binV op (.int k x) (.int k y) = some v) :
    ∃ u, (binOp op t (.int k x) (.int k y)).run P w = .ok u w ∧ Rl w.heap ρ Z v u := by
  cases op <;> simp only [binV, binInt, ite_true, Option.some.injEq, reduceCtorEq] at h
  case add => subst h; exact ⟨_, by simp [binOp, Op.intArith], .int _ _⟩
  case sub => subst h; exact ⟨_, by simp [binOp, Op.intArith], .int _ _⟩
  case mul => subst h; exact ⟨_, by simp [binOp, Op.intArith], .int _ _⟩
  case quo => split at h <;> simp at h; subst h; rename_i hb; exact ⟨_, by simp [binOp, Op.intDiv, hb], .int _ _⟩
  case rem => split at h <;> simp at h; subst h; rename_i hb; exact ⟨_, by simp [binOp, Op.intDiv, hb], .int _ _⟩
  case and => subst h; exact ⟨_, by rw [show binOp .and t (.int k x) (.int k y) = Op.intBits .and k x y from by simp [binOp]]; exact bits_eq (by simp), .int _ _⟩
  case or => subst h; exact ⟨_, by rw [show binOp .or t (.int k x) (.int k y) = Op.intBits .or k x y from by simp [binOp]]; exact bits_eq (by simp), .int _ _⟩
  case xor => subst h; exact ⟨_, by rw [show binOp .xor t (.int k x) (.int k y) = Op.intBits .xor k x y from by simp [binOp]]; exact bits_eq (by simp), .int _ _⟩
  case andNot => subst h; exact ⟨_, by rw [show binOp .andNot t (.int k x) (.int k y) = Op.intBits .andNot k x y from by simp [binOp]]; exact bits_eq (by simp), .int _ _⟩
  case shl => split at h <;> simp at h; subst h; rename_i hb; exact ⟨_, by simp [binOp, Op.shift, show ¬ y < 0 by omega], .int _ _⟩
  case shr => split at h <;> simp at h; subst h; rename_i hb; exact ⟨_, by simp [binOp, Op.shift, show ¬ y < 0 by omega], .int _ _⟩
  case eql => subst h; exact ⟨_, by simp [binOp, Op.intCmp]; rfl, .bool _⟩
  case neq => subst h; exact ⟨.bool (decide (x ≠ y)), by simp [binOp, Op.intCmp, bne]; by_cases e : x = y <;> simp [e], .bool _⟩
  case lss => subst h; exact ⟨_, by simp [binOp, Op.intCmp], .bool _⟩
  case leq => subst h; exact ⟨_, by simp [binOp, Op.intCmp], .bool _⟩
  case gtr => subst h; exact ⟨_, by simp [binOp, Op.intCmp], .bool _⟩
  case geq => subst h; exact ⟨_, by simp [binOp, Op.intCmp], .bool _⟩
theorem toList_eq (b : ByteArray) : b.toList = b.data.toList := ByteArray.toList_eq b
theorem binStr_run {op : BinOp} {x y : ByteArray} {v : AV} {t : TypeId} (h : binStr op x.data.toList y.data.toList = some v) :
    ∃ u, (binOp op t (.string x) (.string y)).run P w = .ok u w ∧ Rl w.heap ρ Z v u := by
  have hs : ∀ b : ByteArray, b.data.toList.length = b.size := fun b => by simp
  cases op <;> simp only [binStr, Option.some.injEq, reduceCtorEq] at h
  case add =>
    split at h <;> simp only [Option.some.injEq, reduceCtorEq] at h
    subst h
    rename_i hb
    refine ⟨.string (x ++ y), ?_, .str _ _ (by simp)⟩
    have hb' : ¬ (((x.size + y.size : Nat) : Int) > IntKind.i64.max) := by
      rw [hs, hs] at hb
      have : IntKind.i64.max = 9223372036854775807 := rfl
      omega
    simp only [binOp, Op.stringOp]
    rw [if_neg hb']
    rfl
  all_goals subst h
  case eql => exact ⟨.bool (decide (x.data.toList = y.data.toList)), by simp [binOp, Op.stringOp, toList_eq]; by_cases e : x.data = y.data <;> simp [e], .bool _⟩
  case neq => exact ⟨.bool (decide (x.data.toList ≠ y.data.toList)), by simp [binOp, Op.stringOp, toList_eq]; by_cases e : x.data = y.data <;> simp [e], .bool _⟩
  case lss => exact ⟨_, by simp [binOp, Op.stringOp, toList_eq], .bool _⟩
  case leq => exact ⟨.bool (Op.bytesLess x.data.toList y.data.toList || decide (x.data.toList = y.data.toList)), by simp [binOp, Op.stringOp, toList_eq]; by_cases e : x.data = y.data <;> simp [e], .bool _⟩
  case gtr => exact ⟨.bool (!(Op.bytesLess x.data.toList y.data.toList || decide (x.data.toList = y.data.toList))), by simp [binOp, Op.stringOp, toList_eq]; by_cases e : x.data = y.data <;> simp [e], .bool _⟩
  case geq => exact ⟨_, by simp [binOp, Op.stringOp, toList_eq], .bool _⟩
theorem binShift_run {op : BinOp} {k k' : IntKind} {x y : Int} {v : AV} {t : TypeId} (hk : k ≠ k') (h : binV op (.int k x) (.int k' y) = some v) :
    ∃ u, (binOp op t (.int k x) (.int k' y)).run P w = .ok u w ∧ Rl w.heap ρ Z v u := by
  cases op <;> simp only [binV, if_neg hk, reduceCtorEq] at h
  case shl => split at h <;> simp at h; subst h; rename_i hb; exact ⟨_, by simp [binOp, Op.shift, show ¬ y < 0 by omega], .int _ _⟩
  case shr => split at h <;> simp at h; subst h; rename_i hb; exact ⟨_, by simp [binOp, Op.shift, show ¬ y < 0 by omega], .int _ _⟩
theorem bin_out {o : Oper} {op : BinOp} {t t' : TypeId} {x y : Operand} (ho : o.op = .binOp op t x y t') (g : Good w.heap ρ Z H) (hF : FR w.heap ρ Z s a) (h : evalOp s H (.bin op (cx x) (cx y)) = some rs) :
    OpOut P w ρ Z H rs ((execOp a.eval o).run P w) := by
  simp only [evalOp, Option.bind_eq_some_iff] at h
  obtain ⟨u, h1, v, h2, r, h3, h4⟩ := h
  simp only [Option.some.injEq] at h4
  subst h4
  have hx := ev_rl hF h1
  have hy := ev_rl hF h2
  generalize ex : a.eval x = xv at hx
  generalize ey : a.eval y = yv at hy
  have fin : (∃ u, (binOp op t xv yv).run P w = .ok u w ∧ Rl w.heap ρ Z r u) → eqGuard op t x y xv yv = pure () → OpOut P w ρ Z H (.val r) ((execOp a.eval o).run P w) := by
    intro ⟨u, hu, hru⟩ he
    refine OpOut.pure g ?_ hru
    simp only [execOp, ho, ex, ey, he, Sem.run_bind, Sem.run_pure, Result.andThen_ok, hu]
  cases hx with
  | int k n =>
    cases hy with
    | int k' m =>
      by_cases hk : k = k'
      · subst hk
        exact fin (binInt_run h3) (by simp only [eqGuard_at_int])
      · exact fin (binShift_run hk h3) (by simp only [eqGuard_at_int])
    | _ => simp [binV] at h3
  | str l b hb =>
    cases hy with
    | str l' b' hb' =>
      subst hb
      subst hb'
      exact fin (binStr_run (by simpa [binV] using h3)) (by simp only [eqGuard_at_string])
    | _ => simp [binV] at h3
  | _ => simp [binV] at h3
theorem equal_succ (t : TypeId) (x y : Value) : Op.equal t x y = Op.equalIn (9999 + 1) t x y := rfl
theorem run_equal_bool {t : TypeId} {p q : Bool} (hu : P.underlying t = some .bool) : (Op.equal t (.bool p) (.bool q)).run P w = .ok (p == q) w := by
  rw [equal_succ]
  exact run_equalIn_bool' w _ _ _ _ hu
theorem run_equal_slice_nil {t e : TypeId} {b : Option Addr} {n c : Nat} (hu : P.underlying t = some (.slice e)) : (Op.equal t (.slice b n c) (.slice none 0 0)).run P w = .ok b.isNone w := by
  rw [equal_succ, Op.equalIn]
  cases b with
  | none => simp [run_underlying hu]
  | some x => simp [run_underlying hu]
theorem run_equal_ptr_nil {t e : TypeId} {b : Option Addr} (hu : P.underlying t = some (.pointer e)) : (Op.equal t (.pointer b) (.pointer none)).run P w = .ok b.isNone w := by
  rw [equal_succ, Op.equalIn]
  cases b with
  | none => simp [run_underlying hu]
  | some x => simp [run_underlying hu]
theorem eqNeg_spec {op : BinOp} {n : Bool} (h : eqNeg op = some n) : (op = .eql ∧ n = false) ∨ (op = .neq ∧ n = true) := by
  cases op <;> simp [eqNeg] at h
  · exact .inl ⟨rfl, h⟩
  · exact .inr ⟨rfl, h⟩
theorem beq_out {o : Oper} {op : BinOp} {n : Bool} {t t' : TypeId} {x y : Operand} (hu : P.underlying t = some .bool) (hn : eqNeg op = some n) (ho : o.op = .binOp op t x y t') (g : Good w.heap ρ Z H)
    (hF : FR w.heap ρ Z s a) (h : evalOp s H (.beq n (cx x) (cx y)) = some rs) : OpOut P w ρ Z H rs ((execOp a.eval o).run P w) := by
  simp only [evalOp, Option.bind_eq_some_iff] at h
  obtain ⟨u, h1, v, h2, h3⟩ := h
  have hx := ev_rl hF h1
  have hy := ev_rl hF h2
  generalize ex : a.eval x = xv at hx
  generalize ey : a.eval y = yv at hy
  cases hx with
  | bool p =>
    cases hy with
    | bool q =>
      simp only [Option.some.injEq] at h3
      subst h3
      refine OpOut.pure g (x := .bool (if n then !(p == q) else (p == q))) ?_ (.bool _)
      rcases eqNeg_spec hn with ⟨rfl, rfl⟩ | ⟨rfl, rfl⟩
      · simp [execOp, ho, ex, ey, eqGuard_at_bool, binOp, run_equal_bool hu]
      · simp [execOp, ho, ex, ey, eqGuard_at_bool, binOp, run_equal_bool hu, bne]
    | _ => simp at h3
  | _ => simp at h3
theorem ncmpS_out {o : Oper} {op : BinOp} {n : Bool} {t t' e : TypeId} {x y : Operand} (hu : P.underlying t = some (.slice e)) (hn : eqNeg op = some n) (hy : isNilSl y = true) (ho : o.op = .binOp op t x y t')
    (g : Good w.heap ρ Z H) (hF : FR w.heap ρ Z s a) (h : evalOp s H (.ncmpS n (cx x)) = some rs) : OpOut P w ρ Z H rs ((execOp a.eval o).run P w) := by
  simp only [evalOp, Option.bind_eq_some_iff] at h
  obtain ⟨u, h1, b, h2, h3⟩ := h
  simp only [Option.some.injEq] at h3
  subst h3
  have ey : a.eval y = .slice none 0 0 := by
    unfold isNilSl at hy
    split at hy
    · rfl
    · cases hy
  have hx := ev_rl hF h1
  generalize ex : a.eval x = xv at hx
  have fin : ∀ (p : Option Addr) (k c : Nat), xv = .slice p k c → p.isNone = b → OpOut P w ρ Z H (.val (.bool (if n then !b else b))) ((execOp a.eval o).run P w) := by
    intro p k c e1 e2
    subst e1
    subst e2
    refine OpOut.pure g (x := .bool (if n then !p.isNone else p.isNone)) ?_ (.bool _)
    rcases eqNeg_spec hn with ⟨rfl, rfl⟩ | ⟨rfl, rfl⟩
    · simp [execOp, ho, ex, ey, eqGuard_at_slice, binOp, run_equal_slice_nil hu]
    · simp [execOp, ho, ex, ey, eqGuard_at_slice, binOp, run_equal_slice_nil hu]
  cases hx with
  | nilS => simp [isNilS] at h2; exact fin none 0 0 rfl (by simp [h2])
  | rows sz l b' o' k c f hn' hnc hz hw hc hm hr =>
    simp only [isNilS] at h2
    split at h2 <;> simp at h2
    exact fin _ _ _ rfl (by simp [← h2])
  | rowsN sz => simp [isNilS] at h2
  | rowsE sz a c => simp [isNilS] at h2
  | own id sz lo hi b' o0 o' k c m hρ hlo hn' hnc ho' hm hcap => simp [isNilS] at h2; exact fin _ _ _ rfl (by simp [← h2])
  | _ => simp [isNilS] at h2
theorem ncmpP_out {o : Oper} {op : BinOp} {n : Bool} {t t' e : TypeId} {x y : Operand} (hu : P.underlying t = some (.pointer e)) (hn : eqNeg op = some n) (hy : isNilPt y = true) (ho : o.op = .binOp op t x y t')
    (g : Good w.heap ρ Z H) (hF : FR w.heap ρ Z s a) (h : evalOp s H (.ncmpP n (cx x)) = some rs) : OpOut P w ρ Z H rs ((execOp a.eval o).run P w) := by
  simp only [evalOp, Option.bind_eq_some_iff] at h
  obtain ⟨u, h1, b, h2, h3⟩ := h
  simp only [Option.some.injEq] at h3
  subst h3
  have ey : a.eval y = .pointer none := by
    unfold isNilPt at hy
    split at hy
    · rfl
    · cases hy
  have hx := ev_rl hF h1
  generalize ex : a.eval x = xv at hx
  have fin : ∀ (p : Option Addr), xv = .pointer p → p.isNone = b → OpOut P w ρ Z H (.val (.bool (if n then !b else b))) ((execOp a.eval o).run P w) := by
    intro p e1 e2
    subst e1
    subst e2
    refine OpOut.pure g (x := .bool (if n then !p.isNone else p.isNone)) ?_ (.bool _)
    rcases eqNeg_spec hn with ⟨rfl, rfl⟩ | ⟨rfl, rfl⟩
    · simp [execOp, ho, ex, ey, eqGuard_at_pointer, binOp, run_equal_ptr_nil hu]
    · simp [execOp, ho, ex, ey, eqGuard_at_pointer, binOp, run_equal_ptr_nil hu]
  cases hx with
  | nilP => simp [isNilP] at h2; exact fin none rfl (by simp [h2])
  | ptr id sz i j b' o0 hρ => simp [isNilP] at h2; exact fin _ rfl (by simp [← h2])
  | fp cs b' o' f hz hc hm hr => simp [isNilP] at h2; exact fin _ rfl (by simp [← h2])
  | _ => simp [isNilP] at h2
theorem un_out {o : Oper} {op : UnOp} {t : TypeId} {x : Operand} (ho : o.op = .unOp op t x) (g : Good w.heap ρ Z H) (hF : FR w.heap ρ Z s a) (h : evalOp s H (.un op (cx x)) = some rs) :
    OpOut P w ρ Z H rs ((execOp a.eval o).run P w) := by
  simp only [evalOp, Option.bind_eq_some_iff] at h
  obtain ⟨u, h1, r, h2, h3⟩ := h
  simp only [Option.some.injEq] at h3
  subst h3
  have hx := ev_rl hF h1
  generalize ex : a.eval x = xv at hx
  cases hx with
  | int k n =>
    cases op <;> simp only [unV, Option.some.injEq, reduceCtorEq] at h2
    · subst h2; exact OpOut.pure g (by simp [execOp, ho, ex, Op.unary, Op.intArith]) (.int _ _)
    · subst h2
      refine OpOut.pure g (x := .int k (bitsV .xor k (if k.signed then -1 else k.max) n)) ?_ (.int _ _)
      simp only [execOp, ho, ex, Op.unary, Sem.run_bind, bits_eq (P := P) (w := w) (op := .xor) (by simp), Result.andThen_ok, Sem.run_pure]
  | bool b =>
    cases op <;> simp only [unV, Option.some.injEq, reduceCtorEq] at h2
    subst h2
    exact OpOut.pure g (by simp [execOp, ho, ex, Op.unary]) (.bool _)
  | _ => cases op <;> simp [unV] at h2
theorem conv_out {o : Oper} {src dst : TypeId} {k k' : IntKind} {x : Operand} (hs : P.underlying src = some (.int k')) (hd : P.underlying dst = some (.int k)) (ho : o.op = .convert src dst x)
    (g : Good w.heap ρ Z H) (hF : FR w.heap ρ Z s a) (h : evalOp s H (.conv k (cx x)) = some rs) : OpOut P w ρ Z H rs ((execOp a.eval o).run P w) := by
  simp only [evalOp, Option.bind_eq_some_iff] at h
  obtain ⟨u, h1, h2⟩ := h
  have hx := ev_rl hF h1
  generalize ex : a.eval x = xv at hx
  cases hx with
  | int q n =>
    simp only [Option.some.injEq] at h2
    subst h2
    refine OpOut.pure g (x := .int k (k.wrap n)) ?_ (.int _ _)
    simp [execOp, ho, ex, convert, run_underlying hs, run_underlying hd, Conv.intToInt]
  | _ => simp at h2
theorem convS_out {o : Oper} {src dst : TypeId} {x : Operand} (hs : P.underlying src = some .string) (hd : P.underlying dst = some .string) (ho : o.op = .convert src dst x)
    (g : Good w.heap ρ Z H) (hF : FR w.heap ρ Z s a) (h : evalOp s H (.convS (cx x)) = some rs) : OpOut P w ρ Z H rs ((execOp a.eval o).run P w) := by
  simp only [evalOp, Option.bind_eq_some_iff] at h
  obtain ⟨u, h1, h2⟩ := h
  have hx := ev_rl hF h1
  generalize ex : a.eval x = xv at hx
  cases hx with
  | str l b hb =>
    simp only [Option.some.injEq] at h2
    subst h2
    refine OpOut.pure g (x := .string b) ?_ (.str _ _ hb)
    simp [execOp, ho, ex, convert, run_underlying hs, run_underlying hd]
  | _ => simp at h2
theorem len_out {o : Oper} {c : Call} {t : TypeId} {x : Operand} {str : Bool} (hu : if str = true then P.underlying t = some .string else ∃ e, P.underlying t = some (.slice e)) (ho : o.op = .call c) (hc : c.callee = .builtin .len)
    (hx : c.args = #[x]) (ht : c.argTypes = #[t]) (g : Good w.heap ρ Z H) (hF : FR w.heap ρ Z s a) (h : evalOp s H (.len str (cx x)) = some rs) : OpOut P w ρ Z H rs ((execOp a.eval o).run P w) := by
  simp only [evalOp, Option.bind_eq_some_iff] at h
  obtain ⟨u, h1, n, h2, h3⟩ := h
  simp only [Option.some.injEq] at h3
  subst h3
  have hr := ev_rl hF h1
  generalize ex : a.eval x = xv at hr
  refine OpOut.pure g (x := .int .i64 n) ?_ (.int _ _)
  cases str with
  | true =>
    rw [if_pos rfl] at hu
    cases hr with
    | str l b hb =>
      simp only [lenA, Option.some.injEq] at h2
      subst h2
      subst hb
      simp [execOp, ho, resolve, hc, hx, ht, ex, invoke, builtin, Builtin.len_, run_underlying hu, goInt]
    | _ => simp [lenA] at h2
  | false =>
    rw [if_neg (by simp)] at hu
    obtain ⟨e, hu⟩ := hu
    cases hr with
    | rows sz l b o' k cc f hn hnc hz hw hcc hm hr =>
      simp only [lenA, Option.some.injEq] at h2
      subst h2; subst hn
      simp [execOp, ho, resolve, hc, hx, ht, ex, invoke, builtin, Builtin.len_, run_underlying hu, goInt]
    | rowsE sz a c =>
      simp only [lenA, Option.some.injEq] at h2
      subst h2
      simp [execOp, ho, resolve, hc, hx, ht, ex, invoke, builtin, Builtin.len_, run_underlying hu, goInt]
    | rowsN sz =>
      simp only [lenA, Option.some.injEq] at h2
      subst h2
      simp [execOp, ho, resolve, hc, hx, ht, ex, invoke, builtin, Builtin.len_, run_underlying hu, goInt]
    | nilS =>
      simp only [lenA, Option.some.injEq] at h2
      subst h2
      simp [execOp, ho, resolve, hc, hx, ht, ex, invoke, builtin, Builtin.len_, run_underlying hu, goInt]
    | own id sz lo hi b o0 o' k cc m hρ hlo hn hnc ho' hm hcap =>
      simp only [lenA, Option.some.injEq] at h2
      subst h2; subst hn
      simp [execOp, ho, resolve, hc, hx, ht, ex, invoke, builtin, Builtin.len_, run_underlying hu, goInt]
    | _ => simp [lenA] at h2
theorem mm_out {o : Oper} {c : Call} {mx : Bool} (ho : o.op = .call c) (hc : c.callee = .builtin (if mx then .max else .min)) (g : Good w.heap ρ Z H) (hF : FR w.heap ρ Z s a)
    (h : evalOp s H (.mm mx (cxL c.args.toList)) = some rs) : OpOut P w ρ Z H rs ((execOp a.eval o).run P w) := by
  simp only [evalOp, Option.bind_eq_some_iff] at h
  obtain ⟨vs, h1, r, h2, h3⟩ := h
  simp only [Option.some.injEq] at h3
  subst h3
  have hl := evL_rl hF h1
  obtain ⟨bs, has⟩ : ∃ bs, c.args.map a.eval = bs := ⟨_, rfl⟩
  have hasl : c.args.toList.map a.eval = bs.toList := by rw [← has]; simp
  rw [hasl] at hl
  have get : ∀ (i : Nat) k n, vs[i]? = some (.int k n) → bs.toList[i]? = some (.int k n) := by
    intro i k n hi
    have hlt : i < bs.toList.length := by rw [← hl.1]; exact (List.getElem?_eq_some_iff.1 hi).1
    have := hl.2 i _ _ hi (List.getElem?_eq_getElem hlt)
    rw [List.getElem?_eq_getElem hlt]
    generalize bs.toList[i] = q at this
    cases this
    rfl
  have hsz : bs.toList.length = vs.length := hl.1.symm
  unfold mm2 at h2
  split at h2
  · rename_i k n
    simp only [Option.some.injEq] at h2
    subst h2
    have e0 := get 0 k n rfl
    refine OpOut.pure g (x := .int k n) ?_ (.int _ _)
    have : bs.toList = [.int k n] := by
      match has' : bs.toList, hsz with
      | [q], _ => rw [has'] at e0; simpa using e0
    cases mx <;> simp [execOp, ho, resolve, hc, has, invoke, builtin, Builtin.max_, Builtin.min_, this]
  · rename_i k n k' m
    split at h2 <;> simp only [Option.some.injEq, reduceCtorEq] at h2
    rename_i hk
    subst hk
    subst h2
    have e0 := get 0 _ _ rfl
    have e1 := get 1 _ _ rfl
    have : bs.toList = [.int k n, .int k m] := by
      match has' : bs.toList, hsz with
      | [q, p], _ => rw [has'] at e0 e1; simp at e0 e1; rw [e0, e1]
    cases mx
    · refine OpOut.pure g (x := .int k (if m < n then m else n)) ?_ ?_
      · simp [execOp, ho, resolve, hc, has, invoke, builtin, Builtin.min_, Builtin.min2, this]
      · have : (if m < n then m else n) = min n m := by split <;> omega
        rw [this]; exact .int _ _
    · refine OpOut.pure g (x := .int k (if m > n then m else n)) ?_ ?_
      · simp [execOp, ho, resolve, hc, has, invoke, builtin, Builtin.max_, Builtin.max2, this]
      · have : (if m > n then m else n) = max n m := by split <;> omega
        rw [this]; exact .int _ _
  · rename_i k n k' m k'' p
    split at h2 <;> simp only [Option.some.injEq, reduceCtorEq] at h2
    rename_i hk
    obtain ⟨rfl, rfl⟩ := hk
    subst h2
    have e0 := get 0 _ _ rfl
    have e1 := get 1 _ _ rfl
    have e2 := get 2 _ _ rfl
    have : bs.toList = [.int k n, .int k m, .int k p] := by
      match has' : bs.toList, hsz with
      | [q, p, r], _ => rw [has'] at e0 e1 e2; simp at e0 e1 e2; rw [e0, e1, e2]
    cases mx
    · refine OpOut.pure g (x := .int k (if p < (if m < n then m else n) then p else (if m < n then m else n))) ?_ ?_
      · simp [execOp, ho, resolve, hc, has, invoke, builtin, Builtin.min_, Builtin.min2, this]
      · have : (if p < (if m < n then m else n) then p else (if m < n then m else n)) = min (min n m) p := by (repeat' split) <;> omega
        rw [this]; exact .int _ _
    · refine OpOut.pure g (x := .int k (if p > (if m > n then m else n) then p else (if m > n then m else n))) ?_ ?_
      · simp [execOp, ho, resolve, hc, has, invoke, builtin, Builtin.max_, Builtin.max2, this]
      · have : (if p > (if m > n then m else n) then p else (if m > n then m else n)) = max (max n m) p := by (repeat' split) <;> omega
        rw [this]; exact .int _ _
  · cases h2
theorem extr_out {o : Oper} {x : Operand} {i : Nat} (ho : o.op = .extract x i) (g : Good w.heap ρ Z H) (hF : FR w.heap ρ Z s a) (h : evalOp s H (.extr (cx x) i) = some rs) :
    OpOut P w ρ Z H rs ((execOp a.eval o).run P w) := by
  simp only [evalOp, Option.bind_eq_some_iff] at h
  obtain ⟨u, h1, h2⟩ := h
  have hx := ev_rl hF h1
  generalize ex : a.eval x = xv at hx
  cases hx with
  | tup cs vs hl hr =>
    simp only [Option.bind_eq_some_iff, Option.some.injEq] at h2
    obtain ⟨r, h3, h4⟩ := h2
    subst h4
    have hlt : i < vs.length := by rw [← hl]; exact (List.getElem?_eq_some_iff.1 h3).1
    refine OpOut.pure g (x := vs[i]) ?_ (hr i _ _ h3 (List.getElem?_eq_getElem hlt))
    simp [execOp, ho, ex, Instr.extract, hlt]
  | _ => simp at h2
theorem nilck_out {o : Oper} {x : Operand} (ho : o.op = .nilCheck x) (g : Good w.heap ρ Z H) (hF : FR w.heap ρ Z s a) (h : evalOp s H (.nilck (cx x)) = some rs) :
    OpOut P w ρ Z H rs ((execOp a.eval o).run P w) := by
  simp only [evalOp, Option.bind_eq_some_iff] at h
  obtain ⟨u, h1, h2⟩ := h
  have hx := ev_rl hF h1
  generalize ex : a.eval x = xv at hx
  have hx' := hx
  cases hx with
  | ptr id sz i j b o0 hρ =>
    simp only [Option.some.injEq] at h2
    subst h2
    exact OpOut.pure g (by simp [execOp, ho, ex]) hx'
  | fp cs b o' f hz hcc hm hr =>
    simp only [Option.some.injEq] at h2
    subst h2
    exact OpOut.pure g (by simp [execOp, ho, ex]) hx'
  | _ => simp at h2
theorem mkfn_out {o : Oper} {f : Nat} {first caps : Array Operand} (ho : o.op = .makeFunc (.func f) first caps) (g : Good w.heap ρ Z H) (hF : FR w.heap ρ Z s a)
    (h : evalOp s H (.mkfn f (cxL first.toList) (cxL caps.toList)) = some rs) : OpOut P w ρ Z H rs ((execOp a.eval o).run P w) := by
  simp only [evalOp, Option.bind_eq_some_iff] at h
  obtain ⟨us, h0, vs, h1, h2⟩ := h
  simp only [Option.some.injEq] at h2
  subst h2
  have hu := evL_rl hF h0
  have hl := evL_rl hF h1
  refine OpOut.pure g (x := .func (.func f) (first.toList.map a.eval).toArray (caps.toList.map a.eval).toArray) ?_ (.clo f us _ vs _ (by rw [hu.1]) (by rw [hl.1]) hu.2 hl.2)
  have hmap : Array.map a.eval caps = (List.map a.eval caps.toList).toArray := by apply Array.ext'; simp
  have hmap2 : Array.map a.eval first = (List.map a.eval first.toList).toArray := by apply Array.ext'; simp
  simp [execOp, ho, Instr.makeFunc, hmap, hmap2]
theorem callFunc_run {f : Nat} {xs : Array Value} (hc : callable P f = true) : (callFunc f xs).run P w = .ok (.enter f xs) w := by
  unfold callable at hc
  split at hc
  · rename_i fn hfn
    simp only [Bool.and_eq_true, Bool.not_eq_true'] at hc
    have hb : fn.body.isNone = false := by
      cases hh : fn.body with
      | none => simp [hh] at hc
      | some b => rfl
    unfold callFunc
    simp only [Sem.run_bind, run_program, Result.andThen_ok, hfn, hc.2, hb, Bool.false_eq_true, if_false, Sem.run_pure]
  · cases hc
theorem call_out {o : Oper} {c : Call} {f : Nat} (ho : o.op = .call c) (hc : c.callee = .value (.func f)) (g : Good w.heap ρ Z H) (hF : FR w.heap ρ Z s a)
    (h : evalOp s H (.call f (cxL c.args.toList)) = some rs) : OpOut P w ρ Z H rs ((execOp a.eval o).run P w) := by
  simp only [evalOp, Option.bind_eq_some_iff] at h
  obtain ⟨vs, h1, h2⟩ := h
  simp only [Option.some.injEq] at h2
  subst h2
  intro hcl
  refine ⟨c.args.toList.map a.eval, ?_, evL_rl hF h1⟩
  simp only [execOp, ho, resolve, hc, Act.eval, Deferred.ofValue, Sem.run_bind, Sem.run_pure, Result.andThen_ok, invoke]
  rw [callFunc_run hcl]
  congr 2
  apply Array.ext'
  simp
theorem callv_out {o : Oper} {c : Call} {t : Nat} (ho : o.op = .call c) (hc : c.callee = .value (.tmp t)) (g : Good w.heap ρ Z H) (hF : FR w.heap ρ Z s a)
    (h : evalOp s H (.callv (.t t) (cxL c.args.toList)) = some rs) : OpOut P w ρ Z H rs ((execOp a.eval o).run P w) := by
  simp only [evalOp, Option.bind_eq_some_iff] at h
  obtain ⟨cv, h0, vs, h1, h2⟩ := h
  have hx := ev_rl (x := .tmp t) hF h0
  generalize ex : a.eval (.tmp t) = xv at hx
  cases hx with
  | clo f fs us cs ws hf hl hq hr =>
    simp only [Option.some.injEq] at h2
    subst h2
    intro hcl
    refine ⟨us ++ c.args.toList.map a.eval ++ ws, ?_, (RlL.append ⟨hf, hq⟩ (evL_rl hF h1)).append ⟨hl, hr⟩⟩
    simp only [execOp, ho, resolve, hc, ex, Deferred.ofValue, Sem.run_bind, Sem.run_pure, Result.andThen_ok, invoke]
    rw [callFunc_run hcl]
    congr 2
    apply Array.ext'
    simp
  | yld id b o0 hq =>
    simp only [Option.some.injEq] at h2
    subst h2
    refine ⟨b, o0, c.args.toList.map a.eval, hq, ?_, evL_rl hF h1⟩
    simp only [execOp, ho, resolve, hc, ex, Deferred.ofValue, Sem.run_bind, Sem.run_pure, Result.andThen_ok, invoke]
    congr 2
    apply Array.ext'
    simp
  | _ => simp at h2
end
end Go.Proofs.YtjaigpidmngaaaaGreat

namespace Go.Proofs.YtjaigpidmngaaaaGreat
section
variable {P : Program} {w : World} {ρ : Loc} {Z : Nat → Prop} {H : AH} {s : Fr} {a : Act} {rs : Rs}
theorem one_row {cs : List AV} {xs : List Value} (hr : CellsRl w.heap ρ Z cs xs) : ∀ (i : Nat) r (j : Nat) v, [cs][i]? = some r → r[j]? = some v →
    v.isCell = true ∧ ∃ y, xs.toArray[i * cs.length + j]? = some y ∧ Rl w.heap ρ Z v y := by
  intro i r j v h1 h2
  cases i with
  | zero =>
    simp at h1
    subst h1
    have hlt : j < xs.length := by rw [← hr.1]; exact (List.getElem?_eq_some_iff.1 h2).1
    have hx : xs[j]? = some xs[j] := List.getElem?_eq_getElem hlt
    obtain ⟨hc, hq⟩ := hr.2 j _ _ h2 hx
    exact ⟨hc, xs[j], by simp [hlt], hq⟩
  | succ i => simp at h1
theorem ptr0 {h' : Array Obj} {ρ' : Loc} {id sz b : Nat} (hρ : ρ' id = some (b, 0)) : Rl h' ρ' Z (.ptr id sz 0 0) (.pointer (some ⟨b, 0, none⟩)) := by
  have := Rl.ptr (h := h') (Z := Z) id sz 0 0 b 0 hρ
  simpa using this
theorem box_out {o : Oper} {t : TypeId} {x : Operand} (ho : o.op = .box t x) (g : Good w.heap ρ Z H) (hF : FR w.heap ρ Z s a) (h : evalOp s H (.box t (cx x)) = some rs) :
    OpOut P w ρ Z H rs ((execOp a.eval o).run P w) := by
  simp only [evalOp, Option.bind_eq_some_iff] at h
  obtain ⟨v, h1, h2⟩ := h
  split at h2 <;> simp only [Option.some.injEq, reduceCtorEq] at h2
  rename_i hc
  subst h2
  have hr := (ev_rl hF h1).cells hc
  refine fresh_out (w1 := w) (x := .pointer (some ⟨w.heap.size, 0, none⟩)) (cs := (a.eval x).cells) (e := t) g rfl rfl rfl rfl ?_ (fun _ _ q => q) ?_ ?_ ?_ ?_
  · simp only [execOp, ho, Instr.box, newVar, newRow, Sem.run_bind, run_newObj, Sem.run_pure, Result.andThen_ok, Sem.run_map]
    rfl
  · have := hr.1; simp at this; simp; omega
  · intro i r hi
    cases i with
    | zero => simp at hi; rw [hi]
    | succ i => simp at hi
  · have := one_row hr
    simpa using this
  · intro id h' ρ' hρ _
    exact ptr0 hρ
theorem allc_out {o : Oper} {t : TypeId} {i : TypeInfo} {z : Value} {zs : List AV} (hi : P.info? t = some i) (hz : i.zero = some z) (hzs : constCells z = some zs) (ho : o.op = .alloc t) (g : Good w.heap ρ Z H)
    (h : evalOp s H (.allc t zs) = some rs) : OpOut P w ρ Z H rs ((execOp a.eval o).run P w) := by
  simp only [evalOp, Option.some.injEq] at h
  subst h
  have hr := constCells_rl (h := w.heap) (ρ := ρ) (Z := Z) hzs
  refine fresh_out (w1 := w) (x := .pointer (some ⟨w.heap.size, 0, none⟩)) (cs := z.cells) (e := t) g rfl rfl rfl rfl ?_ (fun _ _ q => q) ?_ ?_ ?_ ?_
  · simp only [execOp, ho, Instr.alloc, run_zeroValue hi hz, newVar, newRow, Sem.run_bind, run_newObj, Sem.run_pure, Result.andThen_ok, Sem.run_map]
    rfl
  · have := hr.1; simp at this; simp; omega
  · intro i r hi
    cases i with
    | zero => simp at hi; rw [hi]
    | succ i => simp at hi
  · have := one_row hr
    simpa using this
  · intro id h' ρ' hρ _
    exact ptr0 hρ
/-! ### Writing into an owned block -/
theorem hget_hset (H : AH) (id j : Nat) (c : Blk) : hget (hset H id c) j = if j = id then (hget H id).map (fun _ => c) else hget H j := by
  induction H with
  | nil => simp [hset, hget]
  | cons p H ih =>
    obtain ⟨i, b⟩ := p
    simp only [hset]
    split
    · rename_i e
      subst e
      simp only [hget]
      split
      · simp
      · rfl
    · rename_i e
      simp only [hget]
      split
      · rename_i e1
        subst e1
        rw [if_neg (fun q => e q.symm)]
      · rename_i e1
        rw [ih]
theorem hget_hdel (H : AH) (id j : Nat) : hget (hdel H id) j = if j = id then none else hget H j := by
  induction H with
  | nil => simp [hdel, hget]
  | cons p H ih =>
    obtain ⟨i, b⟩ := p
    simp only [hdel]
    split
    · rename_i e
      subst e
      rw [ih]
      split
      · rfl
      · rename_i e1
        simp only [hget, if_neg e1]
    · rename_i e
      simp only [hget]
      rw [ih]
      split
      · rename_i e1
        subst e1
        rw [if_neg (fun q => e q.symm)]
      · rfl
theorem hsub_del (H : AH) (id : Nat) : Sub (hdel H id) H := fun j b hj => by
  rw [hget_hdel] at hj
  split at hj
  · cases hj
  · exact hj
theorem getset (h : Array Obj) (b k : Nat) (o : Obj) (hb : b < h.size) : (h.setIfInBounds b o)[k]? = if k = b then some o else h[k]? := by
  rw [Array.getElem?_setIfInBounds]
  by_cases e : b = k
  · subst e; rw [if_pos rfl, if_pos rfl, if_pos hb]
  · rw [if_neg e, if_neg (fun q => e q.symm)]
theorem Rl.write {h : Array Obj} {b : Nat} {cs cs' : Array Value} {e : TypeId} (hb : h[b]? = some (.cells cs e (0, 0))) (hsz : cs'.size = cs.size) (hZ : ¬ Z b) {v : AV} {x : Value} (hr : Rl h ρ Z v x)
    {ρ' : Loc} (hρ : ∀ id p, ρ id = some p → ρ' id = some p) : Rl (h.setIfInBounds b (.cells cs' e (0, 0))) ρ' Z v x := by
  have hlt := (Array.getElem?_eq_some_iff.1 hb).1
  refine hr.mono hρ (fun _ q => q) (fun k o u hk hu => ?_) (fun k m hm => ?_)
  · unfold hcell at *
    rw [getset _ _ _ _ hlt, if_neg (fun q => hZ (by rw [← q]; exact hk))]
    exact hu
  · unfold hty at *
    rw [getset _ _ _ _ hlt]
    by_cases e1 : k = b
    · subst e1
      rw [if_pos rfl]
      rw [hb] at hm
      simpa [hsz] using hm
    · rw [if_neg e1]
      exact hm
theorem BlkR.write {h : Array Obj} {b : Nat} {cs cs' : Array Value} {e : TypeId} (hb : h[b]? = some (.cells cs e (0, 0))) (hsz : cs'.size = cs.size) (hZ : ¬ Z b) {ρ' : Loc} (hρ : ∀ id p, ρ id = some p → ρ' id = some p)
    {k o : Nat} {blk : Blk} (hk : k ≠ b) (hr : BlkR h ρ Z k o blk) : BlkR (h.setIfInBounds b (.cells cs' e (0, 0))) ρ' Z k o blk :=
  hr.mono (by rw [getset _ _ _ _ (Array.getElem?_eq_some_iff.1 hb).1, if_neg hk]) fun v x q => q.write hb hsz hZ hρ
theorem Own.set {id : Nat} {c : Blk} {b : Nat} : Own ρ (hset H id c) b → Own ρ H b := by
  rintro ⟨j, bl, o, h1, h2⟩
  rw [hget_hset] at h1
  split at h1
  · rename_i e
    subst e
    cases hg : hget H j with
    | none => simp [hg] at h1
    | some q => exact ⟨j, q, o, hg, h2⟩
  · exact ⟨j, bl, o, h1, h2⟩
theorem store_out {o : Oper} {t : TypeId} {i : TypeInfo} {x y : Operand} (hi : P.info? t = some i) (ho : o.op = .store t x y) (g : Good w.heap ρ Z H) (hF : FR w.heap ρ Z s a)
    (h : evalOp s H (.store i.size (cx x) (cx y)) = some rs) : OpOut P w ρ Z H rs ((execOp a.eval o).run P w) := by
  simp only [evalOp, Option.bind_eq_some_iff] at h
  obtain ⟨v, h1, z, h2, h3⟩ := h
  have hx := ev_rl hF h1
  have hy := ev_rl hF h2
  generalize ex : a.eval x = xv at hx
  generalize ey : a.eval y = yv at hy
  cases hx with
  | ptr id sz k j b o0 hρ =>
    simp only at h3
    cases hg : hget H id with
    | none => simp [hg] at h3
    | some blk =>
      cases blk with
      | loop L => simp [hg] at h3
      | rows sz' l =>
        simp only [hg, Option.bind_eq_some_iff] at h3
        obtain ⟨r, hlr, h4⟩ := h3
        split at h4 <;> simp only [Option.some.injEq, reduceCtorEq] at h4
        rename_i hc
        obtain ⟨hlen, hcells, hsz', hfit⟩ := hc
        subst hsz'
        subst h4
        have hcr := hy.cells hcells
        obtain ⟨b', o', hρ', cs, e, hb, hbsz, hws, hvs⟩ := g.blk id _ hg
        rw [hρ] at hρ'
        obtain ⟨rfl, rfl⟩ : b = b' ∧ o0 = o' := by simpa using hρ'
        have hlt := (Array.getElem?_eq_some_iff.1 hb).1
        have hown : Own ρ H b := ⟨id, _, o0, hg, hρ⟩
        have hZ : ¬ Z b := g.notZ b hown
        have hklt : k < l.length := (List.getElem?_eq_some_iff.1 hlr).1
        have hrl : r.length = sz' := hws k r hlr
        have hks : (k + 1) * sz' ≤ l.length * sz' := Nat.mul_le_mul_right _ hklt
        rw [Nat.add_mul, Nat.one_mul] at hks
        have hxl : yv.cells.toList.length = i.size := by rw [← hcr.1]; exact hlen
        have hone : ∀ u ∈ yv.cells.toList, u.oneCell' = true := by
          intro u hu
          obtain ⟨q, hq, rfl⟩ := List.mem_iff_getElem.1 hu
          have hq' : q < z.cells.length := by rw [hcr.1]; exact hq
          obtain ⟨c1, c2⟩ := hcr.2 q _ _ (List.getElem?_eq_getElem hq') (List.getElem?_eq_getElem hq)
          exact c2.one c1
        have hrun := run_storeCells' (P := P) b (o0 + (k * sz' + j)) e yv.cells.toList 0 cs w hb (by omega) hone
        have hsize : (ovArr cs (o0 + (k * sz' + j) + 0) yv.cells.toList).size = cs.size := size_ovArr _ _ _
        generalize hcs' : ovArr cs (o0 + (k * sz' + j) + 0) yv.cells.toList = cs' at *
        have up : ∀ v x, Rl w.heap ρ Z v x → Rl (w.heap.setIfInBounds b (.cells cs' e (0, 0))) ρ Z v x := fun v x q => q.write hb hsize hZ (fun _ _ e => e)
        refine ⟨{ w with heap := w.heap.setIfInBounds b (.cells cs' e (0, 0)) }, ?_, ?_, ?_⟩
        · simp only [execOp, ho, ex, ey, Instr.storeAt, Instr.sureAddr, Sem.run_bind, Sem.run_pure, Result.andThen_ok, storeVar, run_sizeOf hi]
          rw [if_neg (by simp at hxl; simp [hxl])]
          simp only [hrun, Result.andThen_ok]
        · refine ⟨fun jd bl hj => ?_, fun p q a' b' u v o1 o2 e1 e2 e3 e4 hne => ?_, fun q hq => g.notZ q hq.set, fun q hq => by simpa using g.zlt q hq, g.ids, fun j q o hj => ?_, g.tab.of (fun _ q => q) (fun b' q => by simp only [getset _ _ _ _ hlt]; rw [if_neg (fun e1 => hZ (by rw [← e1]; exact q))])⟩
          · rw [hget_hset] at hj
            split at hj
            · rename_i e1
              subst e1
              rw [hg] at hj
              simp only [Option.map_some, Option.some.injEq] at hj
              subst hj
              refine ⟨b, o0, hρ, cs', e, by simp only [getset _ _ _ _ hlt, if_true], by rw [hsize]; simpa using hbsz, fun p q hq => ?_, fun p q m u hp hu => ?_⟩
              · rw [List.getElem?_set] at hq
                split at hq
                · rename_i e2
                  simp only [Option.some.injEq] at hq
                  subst hq
                  simp only [over, List.length_append, List.length_take, List.length_drop]
                  omega
                · exact hws p q hq
              · rw [List.getElem?_set] at hp
                have hplt : p < l.length := by
                  split at hp
                  · rename_i e2; omega
                  · exact (List.getElem?_eq_some_iff.1 hp).1
                have hget := get_ovArr yv.cells.toList cs (o0 + (k * sz' + j) + 0) (o0 + (p * sz' + m)) (by omega)
                rw [hcs'] at hget
                split at hp
                · rename_i e2
                  subst e2
                  simp only [Option.some.injEq] at hp
                  subst hp
                  by_cases hin : j ≤ m ∧ m < j + i.size
                  · rw [if_pos (by omega)] at hget
                    have hov : (over r j z.cells)[m]? = z.cells[m - j]? := by
                      simp only [over]
                      rw [List.append_assoc, List.getElem?_append_right (by simp; omega)]
                      simp only [List.length_take, Nat.min_eq_left (show j ≤ r.length by omega)]
                      rw [List.getElem?_append_left (by omega)]
                    rw [hov] at hu
                    have hml : m - j < yv.cells.toList.length := by omega
                    have hxe : yv.cells.toList[m - j]? = some yv.cells.toList[m - j] := List.getElem?_eq_getElem hml
                    obtain ⟨c1, c2⟩ := hcr.2 _ _ _ hu hxe
                    refine ⟨c1, _, ?_, up _ _ c2⟩
                    rw [hget, show o0 + (k * sz' + m) - (o0 + (k * sz' + j) + 0) = m - j from by omega, hxe]
                  · have hmlt : m < r.length := by
                      have := (List.getElem?_eq_some_iff.1 hu).1
                      simp only [over, List.length_append, List.length_take, List.length_drop] at this
                      omega
                    rw [if_neg (by omega)] at hget
                    have hov : (over r j z.cells)[m]? = r[m]? := by
                      simp only [over]
                      by_cases hmj : m < j
                      · rw [List.append_assoc, List.getElem?_append_left (by simp; omega), List.getElem?_take, if_pos hmj]
                      · rw [List.getElem?_append_right (by simp; omega), List.getElem?_drop]
                        congr 1
                        simp only [List.length_append, List.length_take]
                        omega
                    rw [hov] at hu
                    obtain ⟨c1, y, c2, c3⟩ := hvs _ _ _ _ hlr hu
                    exact ⟨c1, y, by rw [hget]; exact c2, up _ _ c3⟩
                · rename_i e2
                  have hml : m < sz' := by rw [← hws p q hp]; exact (List.getElem?_eq_some_iff.1 hu).1
                  rw [if_neg (by
                    rcases Nat.lt_or_gt_of_ne e2 with h' | h'
                    · have : (k + 1) * sz' ≤ p * sz' := Nat.mul_le_mul_right _ h'
                      rw [Nat.add_mul] at this
                      omega
                    · have : (p + 1) * sz' ≤ k * sz' := Nat.mul_le_mul_right _ h'
                      rw [Nat.add_mul] at this
                      omega)] at hget
                  obtain ⟨c1, y, c2, c3⟩ := hvs _ _ _ _ hp hu
                  exact ⟨c1, y, by rw [hget]; exact c2, up _ _ c3⟩
            · rename_i e1
              obtain ⟨b2, o2, h5, h6⟩ := g.blk jd bl hj
              refine ⟨b2, o2, h5, h6.write hb hsize hZ (fun _ _ e => e) ?_⟩
              exact fun q => g.inj jd id _ _ _ _ _ _ hj hg h5 hρ e1 q
          · have f : ∀ p a', hget (hset H id (.rows sz' (l.set k (over r j z.cells)))) p = some a' → ∃ a'', hget H p = some a'' := by
              intro p a' hp
              rw [hget_hset] at hp
              split at hp
              · rename_i e1; exact ⟨_, by rw [e1]; exact hg⟩
              · exact ⟨_, hp⟩
            obtain ⟨a1, ha1⟩ := f p a' e1
            obtain ⟨a2, ha2⟩ := f q b' e2
            exact g.inj p q _ _ _ _ _ _ ha1 ha2 e3 e4 hne
          · obtain ⟨h1, m, h2⟩ := g.ty j q o hj
            refine ⟨h1, m, ?_⟩
            unfold Go.Proofs.YtjaigpidmngaaaaGreat.hty at *
            simp only [getset _ _ _ _ hlt]
            by_cases e1 : q = b
            · subst e1
              rw [if_pos rfl]
              rw [hb] at h2
              simpa [hsize] using h2
            · rw [if_neg e1]
              exact h2
        · refine ⟨by simp, fun q hq hO => ?_, fun q m hm => ?_, fun _ q => q, fun _ q => .inl q, fun _ _ q => q, fun q hq => .inl hq.set, rfl, rfl, rfl⟩
          · simp only [getset _ _ _ _ hlt]
            rw [if_neg (fun e1 => hO (by rw [e1]; exact hown))]
          · unfold Go.Proofs.YtjaigpidmngaaaaGreat.hty at *
            simp only [getset _ _ _ _ hlt]
            by_cases e1 : q = b
            · subst e1
              rw [if_pos rfl]
              rw [hb] at hm
              simpa [hsize] using hm
            · rw [if_neg e1]
              exact hm
  | _ => simp at h3
end
end Go.Proofs.YtjaigpidmngaaaaGreat

namespace Go.Proofs.YtjaigpidmngaaaaGreat
section
variable {P : Program} {w : World} {ρ : Loc} {Z : Nat → Prop} {H : AH} {s : Fr} {a : Act} {rs : Rs}
/-! ### Rows, one behind the other -/
theorem flat_len {α : Type} (sz : Nat) : ∀ (l : List (List α)), (∀ (i : Nat) r, l[i]? = some r → r.length = sz) → l.flatten.length = l.length * sz
  | [], _ => by simp
  | r :: l, h => by
    have h0 := h 0 r rfl
    have ih := flat_len sz l fun i r hr => h (i + 1) r (by simpa using hr)
    simp only [List.flatten_cons, List.length_append, List.length_cons, ih, h0, Nat.add_mul, Nat.one_mul]
    omega
theorem flat_get {α : Type} (sz : Nat) : ∀ (l : List (List α)) (i j : Nat) (r : List α), (∀ (i : Nat) r, l[i]? = some r → r.length = sz) → l[i]? = some r → j < sz → l.flatten[i * sz + j]? = r[j]?
  | [], i, j, r, _, h, _ => by simp at h
  | q :: l, i, j, r, hw, h, hj => by
    have h0 := hw 0 q rfl
    rw [List.flatten_cons]
    cases i with
    | zero =>
      simp at h
      subst h
      rw [List.getElem?_append_left (by omega)]
      congr 1
      omega
    | succ i =>
      simp at h
      rw [Nat.add_mul, Nat.one_mul, List.getElem?_append_right (by omega), h0, show i * sz + sz + j - sz = i * sz + j from by omega]
      exact flat_get sz l i j r (fun i r hr => hw (i + 1) r (by simpa using hr)) h hj
theorem flat_set {α : Type} (sz : Nat) : ∀ (l : List (List α)) (i : Nat) (r : List α), (∀ (i : Nat) r, l[i]? = some r → r.length = sz) → i < l.length → r.length = sz →
    (l.set i r).flatten = l.flatten.take (i * sz) ++ r ++ l.flatten.drop (i * sz + r.length)
  | [], i, r, _, h, _ => by simp at h
  | q :: l, i, r, hw, h, hr => by
    have h0 := hw 0 q rfl
    cases i with
    | zero => simp [h0, hr, List.drop_append, List.drop_eq_nil_of_le (show q.length ≤ sz by omega)]
    | succ i =>
      have ih := flat_set sz l i r (fun i r hr => hw (i + 1) r (by simpa using hr)) (by simpa using h) hr
      simp only [List.set_cons_succ, List.flatten_cons, ih, Nat.add_mul, Nat.one_mul]
      rw [List.take_append, List.take_of_length_le (show q.length ≤ i * sz + sz by omega), h0, show i * sz + sz - sz = i * sz from by omega,
        List.drop_append, List.drop_eq_nil_of_le (show q.length ≤ i * sz + sz + r.length by omega), h0, show i * sz + sz + r.length - sz = i * sz + r.length from by omega]
      simp
def CellsR (h : Array Obj) (ρ : Loc) (Z : Nat → Prop) (cs : List AV) (xs : List Value) : Prop :=
  cs.length = xs.length ∧ ∀ (i : Nat) c x, cs[i]? = some c → xs[i]? = some x → Rl h ρ Z c x
theorem CellsRl.r {h : Array Obj} {cs : List AV} {xs : List Value} (q : CellsRl h ρ Z cs xs) : CellsR h ρ Z cs xs := ⟨q.1, fun i c x a b => (q.2 i c x a b).2⟩
theorem CellsR.rl {h : Array Obj} {cs : List AV} {xs : List Value} (q : CellsR h ρ Z cs xs) (hc : allCells cs = true) : CellsRl h ρ Z cs xs :=
  ⟨q.1, fun i c x a b => ⟨(List.all_eq_true.1 hc) c (List.mem_of_getElem? a), q.2 i c x a b⟩⟩
theorem Rl.cellsR {h : Array Obj} {v : AV} {x : Value} (hr : Rl h ρ Z v x) : CellsR h ρ Z v.cells x.cells.toList := by
  have one : ∀ (v : AV) (x : Value), Rl h ρ Z v x → CellsR h ρ Z [v] [x] := fun v x q => ⟨rfl, fun i c y h1 h2 => by
    cases i with
    | zero => simp at h1 h2; subst h1; subst h2; exact q
    | succ i => simp at h1⟩
  have hr' := hr
  cases hr with
  | agg cs vs hl hc hr => exact ⟨by simpa [AV.cells, Value.cells] using hl, fun i c x h1 h2 => hr i c x h1 (by simpa [Value.cells] using h2)⟩
  | _ => exact one _ _ hr'
theorem over_ov {h : Array Obj} {cs vs : List AV} {xs ys : List Value} {o : Nat} (h1 : CellsR h ρ Z cs xs) (h2 : CellsR h ρ Z vs ys) (hf : o + vs.length ≤ cs.length) :
    CellsR h ρ Z (over cs o vs) (ovArr xs.toArray o ys).toList := by
  have hl1 := h1.1
  have hl2 := h2.1
  refine ⟨by simp [over, size_ovArr]; omega, fun i c x hc hx => ?_⟩
  have hx' : (ovArr xs.toArray o ys)[i]? = some x := by rw [← hx]; simp
  rw [get_ovArr _ _ _ _ (by simp; omega)] at hx'
  unfold over at hc
  by_cases hin : o ≤ i ∧ i < o + ys.length
  · rw [if_pos hin] at hx'
    rw [List.append_assoc, List.getElem?_append_right (by simp; omega)] at hc
    simp only [List.length_take, Nat.min_eq_left (show o ≤ cs.length by omega)] at hc
    rw [List.getElem?_append_left (by omega)] at hc
    exact h2.2 _ _ _ hc hx'
  · rw [if_neg hin] at hx'
    have hx2 : xs[i]? = some x := by simpa using hx'
    by_cases hi : i < o
    · rw [List.append_assoc, List.getElem?_append_left (by simp; omega), List.getElem?_take, if_pos hi] at hc
      exact h1.2 _ _ _ hc hx2
    · rw [List.getElem?_append_right (by simp; omega), List.getElem?_drop] at hc
      simp only [List.length_append, List.length_take, Nat.min_eq_left (show o ≤ cs.length by omega)] at hc
      rw [show o + vs.length + (i - (o + vs.length)) = i from by omega] at hc
      exact h1.2 _ _ _ hc hx2
theorem fold_ov (off : Nat) : ∀ (xs : List Value) (k : Nat) (cs : Array Value), (xs.zipIdx k).foldl (fun cs (p : Value × Nat) => cs.setIfInBounds (off + p.2) p.1) cs = ovArr cs (off + k) xs
  | [], k, cs => rfl
  | x :: xs, k, cs => by
    simp only [List.zipIdx_cons, List.foldl_cons, ovArr]
    rw [fold_ov off xs (k + 1), Nat.add_assoc]
theorem fill_cons (place : Nat → Option (Nat × Nat)) (cells : Array Value) (i : Nat) (v : Value) (rest : List (Nat × Value)) (off size : Nat) (hp : place i = some (off, size)) (hs : v.cells.toList.length = size) (hf : off + size ≤ cells.size) :
    Instr.fill place cells ((i, v) :: rest) = Instr.fill place (ovArr cells off v.cells.toList) rest := by
  rw [Instr.fill]
  simp only [hp]
  have h1 : (decide (v.cells.size ≠ size) || decide (off + v.cells.size > cells.size)) = false := by
    have : v.cells.size = size := by simpa using hs
    simp; omega
  simp only [h1, Bool.false_eq_true, if_false]
  congr 1
  have h2 := fold_ov off v.cells.toList 0 cells
  rw [Nat.add_zero] at h2
  rw [← h2, ← Array.foldl_toList, Array.toList_zipIdx]
theorem fill_overs (hF : FR w.heap ρ Z s a) {pl : Nat → Option (Nat × Nat)} {place : Nat → Option (Nat × Nat)} (hpl : ∀ i p, pl i = some p → place i = some p) :
    ∀ (ps : List (Nat × Operand)) (l : List (Nat × Nat × X)) (qs : List (Nat × Nat × AV)) (zs cs : List AV) (cells : Array Value), partsOf pl ps = some l → evParts3 s l = some qs → overs zs qs = some cs →
      CellsR w.heap ρ Z zs cells.toList → ∃ cells', Instr.fill place cells (ps.map fun p => (p.1, a.eval p.2)) = some cells' ∧ CellsR w.heap ρ Z cs cells'.toList
  | [], l, qs, zs, cs, cells, h1, h2, h3, h4 => by
    simp only [partsOf, Option.some.injEq] at h1
    subst h1
    simp only [evParts3, Option.some.injEq] at h2
    subst h2
    simp only [overs, Option.some.injEq] at h3
    subst h3
    exact ⟨cells, rfl, h4⟩
  | (i, x) :: ps, l, qs, zs, cs, cells, h1, h2, h3, h4 => by
    simp only [partsOf, Option.bind_eq_some_iff, Option.some.injEq] at h1
    obtain ⟨p, hp, l', hl', rfl⟩ := h1
    simp only [evParts3, Option.bind_eq_some_iff, Option.some.injEq] at h2
    obtain ⟨v, hv, vs, hvs, rfl⟩ := h2
    simp only [overs] at h3
    split at h3
    · rename_i hc
      have hr := (ev_rl hF hv).cellsR
      have hsz : cells.size = zs.length := by rw [h4.1]; simp
      have hov := over_ov (o := p.1) h4 hr (by omega)
      simp only [List.map_cons]
      rw [fill_cons place cells i (a.eval x) _ p.1 p.2 (hpl i p hp) (by rw [← hr.1]; exact hc.1) (by omega)]
      refine fill_overs hF hpl ps l' vs _ cs _ hl' hvs h3 ?_
      simpa using hov
    · cases h3
theorem mapM_places (fs : List Field) (hall : fs.all (fun f => (P.info? f.type).isSome) = true) :
    ∃ l, (fs.mapM fun f => (do pure (f.offset, ← sizeOf f.type) : Sem (Nat × Nat))).run P w = .ok l w ∧
      ∀ (i : Nat) f k, fs[i]? = some f → P.info? f.type = some k → l[i]? = some (f.offset, k.size) := by
  induction fs with
  | nil => exact ⟨[], rfl, by simp⟩
  | cons f fs ih =>
    simp only [List.all_cons, Bool.and_eq_true] at hall
    obtain ⟨l, h1, h2⟩ := ih hall.2
    cases hi : P.info? f.type with
    | none => simp [hi] at hall
    | some k =>
      refine ⟨(f.offset, k.size) :: l, ?_, ?_⟩
      · simp only [List.mapM_cons, Sem.run_bind, run_sizeOf hi, Result.andThen_ok, Sem.run_pure, h1]
      · intro i f' k' hf hk
        cases i with
        | zero => simp at hf; subst hf; rw [hi] at hk; simp at hk; subst hk; simp
        | succ i => simp at hf ⊢; exact h2 i f' k' hf hk
theorem places_spec {fs : Array Field} {i : Nat} {p : Nat × Nat} (h : places P fs i = some p) : ∃ f k, fs.toList[i]? = some f ∧ P.info? f.type = some k ∧ p = (f.offset, k.size) := by
  unfold places at h
  split at h
  · rename_i f hf
    split at h
    · rename_i k hk
      simp only [Option.some.injEq] at h
      exact ⟨f, k, by simpa using hf, hk, h.symm⟩
    · cases h
  · cases h
theorem build_out {o : Oper} {t : TypeId} {i : TypeInfo} {z : Value} {zs : List AV} {ps : Array (Nat × Operand)} (hi : P.info? t = some i) (hz : i.zero = some z) (hzs : constCells z = some zs) (ho : o.op = .build t ps)
    {l : List (Nat × Nat × X)} (g : Good w.heap ρ Z H) (hF : FR w.heap ρ Z s a)
    (hl : (∃ fs, P.underlying t = some (.struct fs) ∧ fs.toList.all (fun f => (P.info? f.type).isSome) = true ∧ partsOf (places P fs) ps.toList = some l) ∨
      (∃ n e k, P.underlying t = some (.array n e) ∧ P.info? e = some k ∧ partsOf (fun i => some (i * k.size, k.size)) ps.toList = some l))
    (h : evalOp s H (.build zs l) = some rs) : OpOut P w ρ Z H rs ((execOp a.eval o).run P w) := by
  simp only [evalOp, Option.bind_eq_some_iff] at h
  obtain ⟨qs, h1, cs, h2, h3⟩ := h
  split at h3 <;> simp only [Option.some.injEq, reduceCtorEq] at h3
  rename_i hc
  subst h3
  have hz0 := (constCells_rl (h := w.heap) (ρ := ρ) (Z := Z) hzs).r
  have fin : ∀ cells' : Array Value, CellsR w.heap ρ Z cs cells'.toList → Rl w.heap ρ Z (.agg cs) (.agg cells') := by
    intro cells' hr
    have q := hr.rl hc
    have := Rl.agg (h := w.heap) (ρ := ρ) (Z := Z) cs cells'.toList q.1 (fun i v hv => (List.all_eq_true.1 hc) v (List.mem_of_getElem? hv)) (fun i v x a b => (q.2 i v x a b).2)
    simpa using this
  have hmap : (ps.map fun (i, x) => (i, a.eval x)).toList = ps.toList.map fun p => (p.1, a.eval p.2) := by simp
  rcases hl with ⟨fs, hu, hall, hp⟩ | ⟨n, e, k, hu, hk, hp⟩
  · obtain ⟨pls, hpls, hpl⟩ := mapM_places (P := P) (w := w) fs.toList hall
    obtain ⟨cells', hf, hr⟩ := fill_overs hF (pl := places P fs) (place := (pls.toArray[·]?)) (fun i p hpi => by
      obtain ⟨f, k, q1, q2, rfl⟩ := places_spec hpi
      have := hpl i f k q1 q2
      simpa using this) ps.toList l qs zs cs z.cells hp h1 h2 hz0
    refine OpOut.pure g (x := .agg cells') ?_ (fin cells' hr)
    have hm : (fs.mapM fun f => (do pure (f.offset, ← sizeOf f.type) : Sem (Nat × Nat))).run P w = .ok pls.toArray w := by
      rw [Array.mapM_eq_mapM_toList, Sem.run_map, hpls]
      rfl
    simp only [execOp, ho, Instr.build, Sem.run_bind, run_zeroValue hi hz, run_underlying hu, Result.andThen_ok, hm, hmap, hf, Sem.run_pure]
  · obtain ⟨cells', hf, hr⟩ := fill_overs hF (pl := fun i => some (i * k.size, k.size)) (place := fun i => some (i * k.size, k.size)) (fun i p hpi => hpi) ps.toList l qs zs cs z.cells hp h1 h2 hz0
    refine OpOut.pure g (x := .agg cells') ?_ (fin cells' hr)
    simp only [execOp, ho, Instr.build, Sem.run_bind, run_zeroValue hi hz, run_underlying hu, run_sizeOf hk, Result.andThen_ok, hmap, hf, Sem.run_pure]
/-! ### Slices that are written out -/
theorem fill_rows (hF : FR w.heap ρ Z s a) (sz : Nat) :
    ∀ (ps : List (Nat × Operand)) (qs : List (Nat × AV)) (l l' : List (List AV)) (cells : Array Value), evParts2 s (parts2 ps) = some qs → setRows sz l qs = some l' →
      (∀ (i : Nat) r, l[i]? = some r → r.length = sz) → CellsR w.heap ρ Z l.flatten cells.toList →
      ∃ cells', Instr.fill (fun i => some (i * sz, sz)) cells (ps.map fun p => (p.1, a.eval p.2)) = some cells' ∧ CellsR w.heap ρ Z l'.flatten cells'.toList ∧ l'.length = l.length ∧ ∀ (i : Nat) r, l'[i]? = some r → r.length = sz
  | [], qs, l, l', cells, h1, h2, h3, h4 => by
    simp only [parts2, evParts2, Option.some.injEq] at h1
    subst h1
    simp only [setRows, Option.some.injEq] at h2
    subst h2
    exact ⟨cells, rfl, h4, rfl, h3⟩
  | (i, x) :: ps, qs, l, l', cells, h1, h2, h3, h4 => by
    simp only [parts2, evParts2, Option.bind_eq_some_iff, Option.some.injEq] at h1
    obtain ⟨v, hv, vs, hvs, rfl⟩ := h1
    simp only [setRows] at h2
    split at h2
    · rename_i hc
      have hr := (ev_rl hF hv).cellsR
      have hfl := flat_len sz l h3
      have hmul : (i + 1) * sz ≤ l.length * sz := Nat.mul_le_mul_right _ hc.2
      rw [Nat.add_mul, Nat.one_mul] at hmul
      have hov := over_ov (o := i * sz) h4 hr (by omega)
      have hsz : cells.size = l.flatten.length := by rw [h4.1]; simp
      simp only [List.map_cons]
      rw [fill_cons _ cells i (a.eval x) _ (i * sz) sz rfl (by rw [← hr.1]; exact hc.1) (by omega)]
      have hset : (l.set i v.cells).flatten = over l.flatten (i * sz) v.cells := flat_set sz l i v.cells h3 hc.2 hc.1
      have hw : ∀ (j : Nat) r, (l.set i v.cells)[j]? = some r → r.length = sz := by
        intro j r hj
        rw [List.getElem?_set] at hj
        split at hj
        · simp only [hc.2, if_true, Option.some.injEq] at hj
          rw [← hj]; exact hc.1
        · exact h3 j r hj
      obtain ⟨cells', e1, e2, e3, e4⟩ := fill_rows hF sz ps vs _ l' (ovArr cells (i * sz) (a.eval x).cells.toList) hvs h2 hw (by rw [hset]; simpa using hov)
      exact ⟨cells', e1, e2, by rw [e3]; simp, e4⟩
    · cases h2
theorem zero_rows {zs : List AV} {z : Value} (hzs : CellsR w.heap ρ Z zs z.cells.toList) (n : Nat) (hp : 0 < zs.length) :
    CellsR w.heap ρ Z (List.replicate n zs).flatten ((Array.range (n * zs.length)).map (z.cells[· % z.cells.size]!)).toList := by
  have hsz : z.cells.size = zs.length := by rw [hzs.1]; simp
  refine ⟨by simp, fun i c x h1 h2 => ?_⟩
  have hi := (List.getElem?_eq_some_iff.1 h1).1
  simp at hi
  have hq : i / zs.length < n := by
    rw [Nat.div_lt_iff_lt_mul hp]; exact hi
  have hm : i % zs.length < zs.length := Nat.mod_lt _ hp
  have hrow : (List.replicate n zs)[i / zs.length]? = some zs := by rw [List.getElem?_replicate, if_pos hq]
  have hf := flat_get zs.length (List.replicate n zs) (i / zs.length) (i % zs.length) zs (fun j r hr => by
    rw [List.getElem?_replicate] at hr
    split at hr <;> simp at hr
    rw [← hr]) hrow hm
  rw [show i / zs.length * zs.length + i % zs.length = i from by rw [Nat.mul_comm]; exact Nat.div_add_mod _ _] at hf
  rw [hf] at h1
  have hx : x = z.cells[i % z.cells.size]! := by
    simp [hi] at h2
    exact h2.symm
  rw [hx, hsz]
  refine hzs.2 _ _ _ h1 ?_
  have hlt : i % zs.length < z.cells.size := by omega
  simp [hlt]
theorem rows_of_flat {h : Array Obj} {sz : Nat} {l : List (List AV)} {xs : List Value} (hw : ∀ (i : Nat) r, l[i]? = some r → r.length = sz) (hr : CellsR h ρ Z l.flatten xs) (hc : l.all allCells = true) :
    ∀ (i : Nat) r (j : Nat) v, l[i]? = some r → r[j]? = some v → v.isCell = true ∧ ∃ y, xs[i * sz + j]? = some y ∧ Rl h ρ Z v y := by
  intro i r j v h1 h2
  have hj : j < sz := by rw [← hw i r h1]; exact (List.getElem?_eq_some_iff.1 h2).1
  have hf := flat_get sz l i j r hw h1 hj
  rw [h2] at hf
  have hlt : i * sz + j < xs.length := by rw [← hr.1]; exact (List.getElem?_eq_some_iff.1 hf).1
  refine ⟨?_, xs[i * sz + j], List.getElem?_eq_getElem hlt, hr.2 _ _ _ hf (List.getElem?_eq_getElem hlt)⟩
  have := (List.all_eq_true.1 hc) r (List.mem_of_getElem? h1)
  exact (List.all_eq_true.1 this) v (List.mem_of_getElem? h2)
theorem bslice_out {o : Oper} {t e : TypeId} {i : TypeInfo} {z : Value} {zs : List AV} {n : Nat} {ps : Array (Nat × Operand)} (hu : P.underlying t = some (.slice e)) (hi : P.info? e = some i) (hz : i.zero = some z) (hzs : constCells z = some zs)
    (hsz : zs.length = i.size) (h0 : i.size ≠ 0) (hmax : n * i.size ≤ 16777216) (ho : o.op = .buildSlice t n ps) (g : Good w.heap ρ Z H) (hF : FR w.heap ρ Z s a)
    (h : evalOp s H (.bslice e i.size n zs (parts2 ps.toList)) = some rs) : OpOut P w ρ Z H rs ((execOp a.eval o).run P w) := by
  simp only [evalOp, Option.bind_eq_some_iff] at h
  obtain ⟨qs, h1, l, h2, h3⟩ := h
  split at h3
  · rename_i hc
    have hz0 := (constCells_rl (h := w.heap) (ρ := ρ) (Z := Z) hzs).r
    have hzr := zero_rows hz0 n (by omega)
    rw [hsz] at hzr
    have hmap : (ps.map fun (i, x) => (i, a.eval x)).toList = ps.toList.map fun p => (p.1, a.eval p.2) := by simp
    obtain ⟨cells', hf, hr, hlen, hw⟩ := fill_rows hF i.size ps.toList qs _ l _ h1 h2 (fun j r hj => by
      rw [List.getElem?_replicate] at hj
      split at hj <;> simp at hj
      rw [← hj]; exact hsz) hzr
    have hlen' : l.length = n := by simpa using hlen
    have hrows := rows_of_flat hw hr hc
    have hcs : cells'.size = n * i.size := by
      have := hr.1
      rw [flat_len i.size l hw, hlen'] at this
      simpa using this.symm
    have hrun : (execOp a.eval o).run P w = .ok (.value (.slice (some ⟨w.heap.size, 0, none⟩) n n)) (w.alloc (.cells cells' e)) := by
      have hbig : ¬ (n * i.size > 2 ^ 24) := by omega
      simp only [execOp, ho, Instr.buildSlice, Sem.run_bind, run_underlying hu, run_sizeOf hi, Result.andThen_ok, hmap]
      rw [if_neg hbig]
      by_cases hn0 : n * i.size = 0
      · have hcells : ((Array.range (n * i.size)).map (z.cells[· % z.cells.size]!)) = ((Array.range (n * i.size)).map ((#[] : Array Value)[· % (#[] : Array Value).size]!)) := by rw [hn0]; simp [Array.range_zero']
        rw [hcells] at hf
        rw [if_pos hn0]
        simp only [Sem.run_bind, Sem.run_pure, Result.andThen_ok, hf, newRow, run_newObj]
        rfl
      · rw [if_neg hn0]
        simp only [Sem.run_bind, Sem.run_pure, run_zeroValue hi hz, Sem.run_map, Result.andThen_ok, hf, newRow, run_newObj]
        rfl
    split at h3
    · rename_i hn
      simp only [Option.some.injEq] at h3
      subst h3
      refine fresh_out (w1 := w) (x := .slice (some ⟨w.heap.size, 0, none⟩) n n) (cs := cells') (e := e) g rfl rfl rfl rfl hrun (fun _ _ q => q) (by simp) (by simp) (by simp) ?_
      intro id h' ρ' hρ hm
      subst hn
      exact .own id i.size 0 0 w.heap.size 0 0 0 0 cells'.size hρ (Nat.le_refl _) rfl (Nat.le_refl _) (.inl rfl) hm (by omega)
    · rename_i hn
      simp only [Option.some.injEq] at h3
      subst h3
      refine lit_out g hrun ?_
      have hpush : (w.heap.push (.cells cells' e))[w.heap.size]? = some (.cells cells' e) := by simp
      refine .rows _ _ _ _ _ _ (fun k => (cells'[k]?).getD undef) hlen'.symm (Nat.le_refl _) (fun _ => .inr rfl) hw (fun p r j v q1 q2 => (hrows p r j v q1 q2).1) ?_ ?_
      · intro p r j v q1 q2
        obtain ⟨_, y, hy, _⟩ := hrows p r j v q1 q2
        have hy' : cells'[p * i.size + j]? = some y := by simpa using hy
        unfold hcell
        rw [hpush]
        simp only [Nat.zero_add, hy', Option.getD_some]
      · intro p r j v q1 q2
        obtain ⟨_, y, hy, hry⟩ := hrows p r j v q1 q2
        have hy' : cells'[p * i.size + j]? = some y := by simpa using hy
        simp only [hy', Option.getD_some]
        exact hry.push _ (fun _ _ e => e) (fun _ e => .inl e)
  · cases h3
theorem emp_out {o : Oper} {t e : TypeId} {i : TypeInfo} {n : Nat} {ps : Array (Nat × Operand)} (hu : P.underlying t = some (.slice e)) (hi : P.info? e = some i)
    (hn : n = 0 ∧ ps.size = 0) (ho : o.op = .buildSlice t n ps) (g : Good w.heap ρ Z H) (h : evalOp s H (.mv (.c .emp)) = some rs) : OpOut P w ρ Z H rs ((execOp a.eval o).run P w) := by
  obtain ⟨rfl, hp⟩ := hn
  obtain rfl : ps = #[] := by simpa using hp
  simp only [evalOp, ev, Option.bind_some, Option.some.injEq] at h
  subst h
  have hrun : (execOp a.eval o).run P w = .ok (.value (.slice (some ⟨w.heap.size, 0, none⟩) 0 0)) (w.alloc (.cells #[] e)) := by
    simp only [execOp, ho, Instr.buildSlice, Sem.run_bind, run_underlying hu, run_sizeOf hi, Result.andThen_ok, Nat.zero_mul]
    simp [newRow, run_newObj, Instr.fill, Array.range_zero']
  exact lit_out g hrun (.emp _ _)
theorem bsliceO_out {o : Oper} {t e : TypeId} {i : TypeInfo} {z : Value} {zs : List AV} {n : Nat} {ps : Array (Nat × Operand)} (hu : P.underlying t = some (.slice e)) (hi : P.info? e = some i) (hz : i.zero = some z) (hzs : constCells z = some zs)
    (hsz : zs.length = i.size) (h0 : i.size ≠ 0) (hmax : n * i.size ≤ 16777216) (ho : o.op = .buildSlice t n ps) (g : Good w.heap ρ Z H) (hF : FR w.heap ρ Z s a)
    (h : evalOp s H (.bsliceO e i.size n zs (parts2 ps.toList)) = some rs) : OpOut P w ρ Z H rs ((execOp a.eval o).run P w) := by
  simp only [evalOp, Option.bind_eq_some_iff] at h
  obtain ⟨qs, h1, l, h2, h3⟩ := h
  split at h3
  · rename_i hc
    have hz0 := (constCells_rl (h := w.heap) (ρ := ρ) (Z := Z) hzs).r
    have hzr := zero_rows hz0 n (by omega)
    rw [hsz] at hzr
    have hmap : (ps.map fun (i, x) => (i, a.eval x)).toList = ps.toList.map fun p => (p.1, a.eval p.2) := by simp
    obtain ⟨cells', hf, hr, hlen, hw⟩ := fill_rows hF i.size ps.toList qs _ l _ h1 h2 (fun j r hj => by
      rw [List.getElem?_replicate] at hj
      split at hj <;> simp at hj
      rw [← hj]; exact hsz) hzr
    have hlen' : l.length = n := by simpa using hlen
    have hrows := rows_of_flat hw hr hc
    have hcs : cells'.size = n * i.size := by
      have := hr.1
      rw [flat_len i.size l hw, hlen'] at this
      simpa using this.symm
    have hrun : (execOp a.eval o).run P w = .ok (.value (.slice (some ⟨w.heap.size, 0, none⟩) n n)) (w.alloc (.cells cells' e)) := by
      have hbig : ¬ (n * i.size > 2 ^ 24) := by omega
      simp only [execOp, ho, Instr.buildSlice, Sem.run_bind, run_underlying hu, run_sizeOf hi, Result.andThen_ok, hmap]
      rw [if_neg hbig]
      by_cases hn0 : n * i.size = 0
      · have hcells : ((Array.range (n * i.size)).map (z.cells[· % z.cells.size]!)) = ((Array.range (n * i.size)).map ((#[] : Array Value)[· % (#[] : Array Value).size]!)) := by rw [hn0]; simp [Array.range_zero']
        rw [hcells] at hf
        rw [if_pos hn0]
        simp only [Sem.run_bind, Sem.run_pure, Result.andThen_ok, hf, newRow, run_newObj]
        rfl
      · rw [if_neg hn0]
        simp only [Sem.run_bind, Sem.run_pure, run_zeroValue hi hz, Sem.run_map, Result.andThen_ok, hf, newRow, run_newObj]
        rfl
    simp only [Option.some.injEq] at h3
    subst h3
    refine fresh_out (w1 := w) (x := .slice (some ⟨w.heap.size, 0, none⟩) n n) (cs := cells') (e := e) g rfl rfl rfl rfl hrun (fun _ _ q => q) (by rw [hlen', hcs]; omega) hw ?_ ?_
    · intro p r j u q1 q2
      obtain ⟨c1, y, c2, c3⟩ := hrows p r j u q1 q2
      exact ⟨c1, y, by rw [← Array.getElem?_toList]; exact c2, c3⟩
    · intro id h' ρ' hρ hm
      rw [hcs] at hm
      exact .own id i.size 0 n w.heap.size 0 0 n n _ hρ (Nat.zero_le _) (by omega) (Nat.le_refl _) (.inr (by omega)) hm (by simp)
  · cases h3
/-! ### make -/
theorem sameX_eval {l c : Operand} (h : sameX l c = true) : a.eval c = a.eval l := by
  unfold sameX at h
  split at h
  · simp at h; rw [h]
  · simp at h; rw [h]
  · cases h
theorem mks_out {o : Oper} {t e : TypeId} {i : TypeInfo} {z : Value} {zs : List AV} {l c : Operand} (hs : sameX l c = true) (hu : P.underlying t = some (.slice e)) (hi : P.info? e = some i) (hz : i.zero = some z) (hzs : constCells z = some zs)
    (hsz : zs.length = i.size) (h0 : i.size ≠ 0) (hb0 : i.bytes ≠ 0) (hc : allCells zs = true) (ho : o.op = .makeSlice t l c) (g : Good w.heap ρ Z H) (hF : FR w.heap ρ Z s a)
    (h : evalOp s H (.mks e i.size i.bytes zs (cx l)) = some rs) : OpOut P w ρ Z H rs ((execOp a.eval o).run P w) := by
  simp only [evalOp, Option.bind_eq_some_iff] at h
  obtain ⟨v, h1, h2⟩ := h
  have hr := ev_rl hF h1
  have hsame := sameX_eval (a := a) hs
  generalize el : a.eval l = lv at hr
  cases hr with
  | int k n =>
    simp only at h2
    split at h2 <;> simp only [Option.some.injEq, reduceCtorEq] at h2
    rename_i hcond
    obtain ⟨hn0, hbytes⟩ := hcond
    subst h2
    have hz0 := (constCells_rl (h := w.heap) (ρ := ρ) (Z := Z) hzs).r
    have hzr := zero_rows hz0 n.toNat (by omega)
    rw [hsz] at hzr
    have hw : ∀ (j : Nat) r, (List.replicate n.toNat zs)[j]? = some r → r.length = i.size := by
      intro j r hj
      rw [List.getElem?_replicate] at hj
      split at hj <;> simp at hj
      rw [← hj]; exact hsz
    have hrows := rows_of_flat hw hzr (by simp [List.all_replicate, hc])
    have hb1 : (1 : Int) ≤ i.bytes := by omega
    have hle : n * 1 ≤ n * (i.bytes : Int) := Int.mul_le_mul_of_nonneg_left hb1 hn0
    have hrun := run_make (P := P) w t e i z hu hi hz k k n n hn0 (Int.le_refl _) (by rw [Int.mul_comm]; omega) (by omega)
    refine fresh_out (w1 := w) (x := .slice (some ⟨w.heap.size, 0, none⟩) n.toNat n.toNat) (cs := madeCells z.cells (n.toNat * i.size)) (e := e) g rfl rfl rfl rfl ?_ (fun _ _ q => q) ?_ hw ?_ ?_
    · simp only [execOp, ho, el, hsame, Sem.run_bind, hrun, Result.andThen_ok, Sem.run_pure]
    · simp [size_madeCells]
    · intro p r j u q1 q2
      obtain ⟨c1, y, c2, c3⟩ := hrows p r j u q1 q2
      exact ⟨c1, y, by rw [← Array.getElem?_toList]; exact c2, c3⟩
    · intro id h' ρ' hρ hm
      rw [size_madeCells] at hm
      exact .own id i.size 0 n.toNat w.heap.size 0 0 n.toNat n.toNat _ hρ (Nat.zero_le _) (by omega) (Nat.le_refl _) (.inr (by omega)) hm (by simp)
  | _ => simp at h2
/-! ### Cutting -/
theorem evO_run (hF : FR w.heap ρ Z s a) {d n : Int} {lo : Option Operand} (h : evO s d (optX lo) = some n) : (lo = none ∧ n = d) ∨ ∃ x k, lo = some x ∧ a.eval x = .int k n := by
  cases lo with
  | none => simp [optX, evO] at h; exact .inl ⟨rfl, h.symm⟩
  | some x =>
    right
    simp only [optX, evO, Option.bind_eq_some_iff] at h
    obtain ⟨v, h1, h2⟩ := h
    have hr := ev_rl hF h1
    generalize ex : a.eval x = xv at hr
    cases hr with
    | int k m => simp at h2; subst h2; exact ⟨x, k, rfl, ex⟩
    | _ => simp at h2
theorem run_sliceBound' {k : IntKind} {i : Int} {y : Nat} {code : BoundsCode} (h : 0 ≤ i ∧ i ≤ y) : (Instr.sliceBound (.int k i) y code).run P w = .ok i.toNat w := by
  simp [Instr.sliceBound, asIntOf, h]
theorem run_bounds (hF : FR w.heap ρ Z s a) {isS : Bool} {len cap : Nat} {lo hi : Option Operand} {x y : Int} (hlo : evO s 0 (optX lo) = some x) (hhi : evO s len (optX hi) = some y) (h0 : 0 ≤ x) (h1 : x ≤ y) (h2 : y ≤ len) (hc : len ≤ cap) :
    (Instr.sliceBounds isS len cap (lo.map a.eval) (hi.map a.eval) none).run P w = .ok (x.toNat, y.toNat, cap) w := by
  rcases evO_run hF hlo with ⟨rfl, rfl⟩ | ⟨lx, kl, rfl, el⟩ <;> rcases evO_run hF hhi with ⟨rfl, rfl⟩ | ⟨hx, kh, rfl, eh⟩
  · simp [Instr.sliceBounds]
  · simp [Instr.sliceBounds, eh, run_sliceBound' (P := P) (w := w) (k := kh) (i := y) (y := cap) ⟨by omega, by omega⟩]
  · simp [Instr.sliceBounds, el, run_sliceBound' (P := P) (w := w) (k := kl) (i := x) (y := len) ⟨by omega, by omega⟩]
  · simp [Instr.sliceBounds, el, eh, run_sliceBound' (P := P) (w := w) (k := kh) (i := y) (y := cap) ⟨by omega, by omega⟩, run_sliceBound' (P := P) (w := w) (k := kl) (i := x) (y := y.toNat) ⟨by omega, by omega⟩]
theorem sliceStr_out {o : Oper} {t : TypeId} {x : Operand} {lo hi : Option Operand} (hu : P.underlying t = some .string) (ho : o.op = .slice t x lo hi none) (g : Good w.heap ρ Z H) (hF : FR w.heap ρ Z s a)
    (h : evalOp s H (.slice none (cx x) (optX lo) (optX hi)) = some rs) : OpOut P w ρ Z H rs ((execOp a.eval o).run P w) := by
  simp only [evalOp, Option.bind_eq_some_iff] at h
  obtain ⟨v, h1, r, h2, h3⟩ := h
  simp only [Option.some.injEq] at h3
  subst h3
  have hr := ev_rl hF h1
  generalize ex : a.eval x = xv at hr
  simp only [sliceA, Option.bind_eq_some_iff] at h2
  obtain ⟨n, hn, p, hp, q, hq, h4⟩ := h2
  cases hr with
  | str l b hb =>
    simp only [Option.isNone_some, Option.isNone_none, lenA, Option.some.injEq] at hn
    subst hn
    by_cases hc : 0 ≤ p ∧ p ≤ q ∧ q ≤ (l.length : Int)
    case neg => rw [if_neg hc] at h4; cases h4
    rw [if_pos hc] at h4
    simp only [cutA, Option.some.injEq] at h4
    subst h4
    have hbs : b.size = l.length := by rw [← hb]; simp
    have hbd := run_bounds (P := P) (isS := false) (cap := b.size) hF hp (by rw [hbs]; exact hq) hc.1 hc.2.1 (by omega) (Nat.le_refl _)
    refine OpOut.pure g (x := .string (b.extract p.toNat q.toNat)) ?_ (.str _ _ ?_)
    · simp [execOp, ho, ex, Instr.sliceAt, Instr.slice, run_underlying hu, hbd]
    · rw [show (b.extract p.toNat q.toNat).data.toList = (b.data.toList.drop p.toNat).take (q.toNat - p.toNat) from Lib.extract_data b _ _, hb, List.drop_take]
  | _ => simp [lenA] at hn
theorem sliceSl_out {o : Oper} {t e : TypeId} {i : TypeInfo} {x : Operand} {lo hi : Option Operand} (hu : P.underlying t = some (.slice e)) (hi' : P.info? e = some i) (ho : o.op = .slice t x lo hi none) (g : Good w.heap ρ Z H) (hF : FR w.heap ρ Z s a)
    (h : evalOp s H (.slice (some i.size) (cx x) (optX lo) (optX hi)) = some rs) : OpOut P w ρ Z H rs ((execOp a.eval o).run P w) := by
  simp only [evalOp, Option.bind_eq_some_iff] at h
  obtain ⟨v, h1, r, h2, h3⟩ := h
  simp only [Option.some.injEq] at h3
  subst h3
  have hr := ev_rl hF h1
  generalize ex : a.eval x = xv at hr
  simp only [sliceA, Option.bind_eq_some_iff] at h2
  obtain ⟨n, hn, p, hp, q, hq, h4⟩ := h2
  by_cases hc : 0 ≤ p ∧ p ≤ q ∧ q ≤ n
  case neg => rw [if_neg hc] at h4; cases h4
  rw [if_pos hc] at h4
  have run : ∀ (base : Option Addr) (len cap : Nat), xv = .slice base len cap → n = len → len ≤ cap →
      (execOp a.eval o).run P w = .ok (.value (.slice (if cap = p.toNat then base else base.map (·.add (p.toNat * i.size))) (q.toNat - p.toNat) (cap - p.toNat))) w := by
    intro base len cap e1 e2 e3
    subst e1
    subst e2
    have hbd := run_bounds (P := P) (isS := true) (cap := cap) hF hp hq hc.1 hc.2.1 hc.2.2 e3
    simp only [execOp, ho, ex, Instr.sliceAt, Instr.slice, run_underlying hu, Sem.run_bind, Result.andThen_ok, Option.map_none, hbd, run_sizeOf hi', Sem.run_pure]
  cases hr with
  | rows sz l b o' k c f hk hnc hz hww hcc hm hr =>
    simp only [Option.isNone_some, lenA, Option.some.injEq] at hn
    simp only [cutA] at h4
    split at h4 <;> simp only [Option.some.injEq, reduceCtorEq] at h4
    rename_i hsz
    simp only [Option.some.injEq] at hsz
    subst hsz
    subst h4
    have hrun := run _ _ _ rfl (by omega) hnc
    refine OpOut.pure g hrun ?_
    have hll : ((l.take q.toNat).drop p.toNat).length = q.toNat - p.toNat := by simp; omega
    by_cases e1 : c = p.toNat
    · rw [if_pos e1]
      have hnil : (l.take q.toNat).drop p.toNat = [] := List.eq_nil_of_length_eq_zero (by omega)
      rw [hnil]
      exact .rows _ _ _ _ _ _ (fun _ => undef) (by simp; omega) (by omega) (fun hp' => absurd hp' (by omega)) (by simp) (by simp) (by simp) (by simp)
    · rw [if_neg e1]
      have get : ∀ (j : Nat) r, ((l.take q.toNat).drop p.toNat)[j]? = some r → l[p.toNat + j]? = some r := by
        intro j r hj
        rw [List.getElem?_drop, List.getElem?_take] at hj
        split at hj
        · exact hj
        · cases hj
      simp only [Option.map_some, addr_add]
      refine .rows i.size _ b _ (q.toNat - p.toNat) (c - p.toNat) (fun k => f (p.toNat * i.size + k)) hll.symm (by omega) (fun hp' => hz (by omega)) (fun j r hj => hww _ _ (get j r hj)) (fun j r m u hj hu => hcc _ _ _ _ (get j r hj) hu) ?_ ?_
      · intro j r m u hj hu
        have := hm _ _ _ _ (get j r hj) hu
        have e2 : (p.toNat + j) * i.size + m = p.toNat * i.size + (j * i.size + m) := by rw [Nat.add_mul]; omega
        rw [e2] at this
        rw [← this, Nat.add_assoc]
      · intro j r m u hj hu
        have := hr _ _ _ _ (get j r hj) hu
        have e2 : (p.toNat + j) * i.size + m = p.toNat * i.size + (j * i.size + m) := by rw [Nat.add_mul]; omega
        rw [e2] at this
        exact this
  | rowsE sz ad c =>
    simp only [Option.isNone_some, lenA, Option.some.injEq] at hn
    simp only [cutA] at h4
    split at h4 <;> simp only [Option.some.injEq, reduceCtorEq] at h4
    subst h4
    have hn' : n = 0 := by simpa using hn.symm
    have hrun := run (some ad) 0 c rfl (by omega) (Nat.zero_le _)
    have hp0 : p.toNat = 0 := by omega
    have hq0 : q.toNat = 0 := by omega
    rw [hp0, hq0] at hrun ⊢
    refine OpOut.pure g hrun ?_
    simp only [Nat.zero_mul, Option.map_some, Nat.sub_zero]
    have e : (if c = 0 then some ad else some (ad.add 0)) = some ad := by split <;> simp [Addr.add]
    rw [e]
    simp
    exact .rowsE _ _ _
  | rowsN sz =>
    simp only [Option.isNone_some, lenA, Option.some.injEq] at hn
    simp only [cutA] at h4
    split at h4 <;> simp only [Option.some.injEq, reduceCtorEq] at h4
    subst h4
    have hn' : n = 0 := by simpa using hn.symm
    have hrun := run none 0 0 rfl (by omega) (Nat.le_refl _)
    have hp0 : p.toNat = 0 := by omega
    have hq0 : q.toNat = 0 := by omega
    rw [hp0, hq0] at hrun ⊢
    refine OpOut.pure g hrun ?_
    simp
    exact .rowsN _
  | nilS =>
    simp only [Option.isNone_some, Option.isNone_none, lenA, Option.some.injEq] at hn
    simp only [cutA, Option.some.injEq] at h4
    subst h4
    have hrun := run none 0 0 rfl (by omega) (Nat.le_refl _)
    have hp0 : p.toNat = 0 := by omega
    have hq0 : q.toNat = 0 := by omega
    rw [hp0, hq0] at hrun
    refine OpOut.pure g hrun ?_
    simp
    exact .nilS
  | own id sz l0 h0 b o0 o' k c m hρ hlo hk hnc ho' hm hcap =>
    simp only [Option.isNone_some, lenA, Option.some.injEq] at hn
    simp only [cutA] at h4
    split at h4 <;> simp only [Option.some.injEq, reduceCtorEq] at h4
    rename_i hsz
    simp only [Option.some.injEq] at hsz
    subst hsz
    subst h4
    have hrun := run _ _ _ rfl (by omega) hnc
    refine OpOut.pure g hrun ?_
    have hcm : (l0 + p.toNat + (c - p.toNat)) * i.size = (l0 + c) * i.size := by
      congr 1; omega
    by_cases e1 : c = p.toNat
    · rw [if_pos e1]
      exact .own _ _ _ _ b o0 o' _ _ m hρ (by omega) (by omega) (by omega) (.inl (by omega)) hm (by rw [hcm]; exact hcap)
    · rw [if_neg e1]
      simp only [Option.map_some, addr_add]
      refine .own _ _ _ _ b o0 _ _ _ m hρ (by omega) (by omega) (by omega) (.inr ?_) hm (by rw [hcm]; exact hcap)
      rcases ho' with e2 | e2
      · omega
      · rw [e2, Nat.add_mul]; omega
  | _ => simp [lenA] at hn
end
end Go.Proofs.YtjaigpidmngaaaaGreat
