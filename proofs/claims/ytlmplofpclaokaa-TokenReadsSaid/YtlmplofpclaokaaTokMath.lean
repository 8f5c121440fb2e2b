/- Tokens of a text; plain. -/
namespace Go.Proofs.Ytlmplofpclaokaa
set_option autoImplicit false

theorem drop_at {α : Type} (l : List α) (d : α) (i : Nat) (h : i < l.length) : l.drop i = l.getD i d :: l.drop (i + 1) := by
  rw [List.drop_eq_getElem_cons h]; congr 1; simp [List.getD, h]
theorem take_at {α : Type} (l : List α) (d : α) (i : Nat) (h : i < l.length) : l.take (i + 1) = l.take i ++ [l.getD i d] := by
  rw [List.take_add_one]; congr 1; simp [List.getD, h]
def dig (c : UInt8) : Bool := decide (48 ≤ c.toNat) && decide (c.toNat ≤ 57)
def ltr (c : UInt8) : Bool := (decide (97 ≤ c.toNat) && decide (c.toNat ≤ 122)) || (decide (65 ≤ c.toNat) && decide (c.toNat ≤ 90))
def nam (c : UInt8) : Bool := dig c || c == 95 || ltr c
def blnk (c : UInt8) : Bool := c == 32 || c == 9 || c == 10 || c == 13
def sgn (c : UInt8) : Bool := [61, 60, 62, 40, 41, 46, 91, 93, 45].contains c

/-- With how many bytes of a name a text begins. -/
def nl : List UInt8 → Nat
  | [] => 0
  | c :: r => if ltr c then 1 + (r.takeWhile nam).length else 0
def dl (s : List UInt8) : Nat := (s.takeWhile dig).length
def numV (s : List UInt8) : Nat := s.foldl (fun a c => 10 * a + (c.toNat - 48)) 0

inductive Q where
  | done (t : List UInt8) (n : Nat)
  | odd (i : Nat)
  | short
/-- Behind a quote: i bytes are read, acc is what they stand for. -/
def qs : List UInt8 → Nat → List UInt8 → Q
  | [], _, _ => .short
  | [c], i, acc => if c.toNat < 32 ∨ 126 < c.toNat then .odd i else if c = 39 then .done acc (i + 1) else .short
  | c :: d :: r, i, acc =>
    if c.toNat < 32 ∨ 126 < c.toNat then .odd i
    else if c = 39 then (if d = 39 then qs r (i + 2) (acc ++ [39]) else .done acc (i + 1))
    else qs (d :: r) (i + 1) (acc ++ [c])

inductive LR where
  | tok (k : Int) (t : List UInt8) (num n : Nat)
  | bad (e : Int) (off : Nat)
def two (s : List UInt8) : Bool := s.take 2 == [60, 62] || s.take 2 == [60, 61] || s.take 2 == [62, 61]
/-- The token with which a text begins. -/
def lex : List UInt8 → LR
  | [] => .bad 11 0
  | c :: r =>
    if ltr c then .tok 1 ((c :: r).take (nl (c :: r))) 0 (nl (c :: r))
    else if dig c then
      if 1 < dl (c :: r) ∧ c = 48 then .bad 1 0
      else if numV ((c :: r).take (dl (c :: r))) < 18446744073709551616 then .tok 2 ((c :: r).take (dl (c :: r))) (numV ((c :: r).take (dl (c :: r)))) (dl (c :: r))
      else .bad 7 0
    else if c = 39 then match qs r 1 [] with
      | .done t n => .tok 3 t 0 n
      | .odd i => .bad 10 i
      | .short => .bad 2 0
    else if c = 37 then match r with
      | d :: _ => if dig d then .tok 4 [37, d] (d.toNat - 48) 2 else .bad 11 0
      | [] => .bad 11 0
    else if sgn c then .tok 5 ((c :: r).take (if two (c :: r) then 2 else 1)) 0 (if two (c :: r) then 2 else 1)
    else .bad 11 0

theorem nl_cons (c : UInt8) (r : List UInt8) : nl (c :: r) = if ltr c = true then 1 + (r.takeWhile nam).length else 0 := rfl
theorem nl_le (s : List UInt8) : nl s ≤ s.length := by
  cases s with
  | nil => exact Nat.le_refl _
  | cons c r =>
    have : (r.takeWhile nam).length ≤ r.length := (List.takeWhile_prefix _).length_le
    rw [nl_cons, List.length_cons]
    split <;> omega
theorem dl_le (s : List UInt8) : dl s ≤ s.length := (List.takeWhile_prefix _).length_le
theorem tw_step {f : UInt8 → Bool} : ∀ {r : List UInt8} {n : Nat}, n ≤ (r.takeWhile f).length → n < r.length → (n < (r.takeWhile f).length ↔ f (r.getD n 0) = true)
  | [], n, _, h => by simp at h
  | d :: r, n, h1, h2 => by
    rw [List.takeWhile_cons] at h1 ⊢
    split
    · rename_i hd
      rw [if_pos hd] at h1
      cases n with
      | zero => simp [hd]
      | succ n => simpa using tw_step (r := r) (n := n) (by simpa using h1) (by simpa using h2)
    · rename_i hd
      rw [if_neg hd] at h1
      have : n = 0 := by simpa using h1
      subst this
      simpa using hd
/-- Is byte n, behind n of a name, of a name, too? -/
theorem nl_step {s : List UInt8} {n : Nat} (hn : n ≤ nl s) (hl : n < s.length) : n < nl s ↔ (if n = 0 then ltr (s.getD 0 0) else nam (s.getD n 0)) = true := by
  cases s with
  | nil => simp at hl
  | cons c r =>
    rw [nl_cons] at *
    cases n with
    | zero =>
      rw [if_pos rfl, List.getD_cons_zero]
      split
      · rename_i h; simp only [h, iff_true]; omega
      · rename_i h; simp only [h, Nat.lt_irrefl]
        exact ⟨fun q => q.elim, fun q => by cases q⟩
    | succ n =>
      rw [if_neg (Nat.succ_ne_zero n), List.getD_cons_succ]
      split at hn
      · rename_i h
        rw [if_pos h]
        have hl' : n < r.length := by simpa using hl
        rw [← tw_step (f := nam) (r := r) (n := n) (by omega) hl']
        omega
      · omega
theorem dl_step {s : List UInt8} {n : Nat} (hn : n ≤ dl s) (hl : n < s.length) : n < dl s ↔ dig (s.getD n 0) = true := by
  unfold dl at *
  induction s generalizing n with
  | nil => simp at hl
  | cons d r ih =>
    rw [List.takeWhile_cons] at hn ⊢
    split
    · rename_i hd
      rw [if_pos hd] at hn
      cases n with
      | zero => simp [hd]
      | succ n => simpa using ih (by simpa using hn) (by simpa using hl)
    · rename_i hd
      rw [if_neg hd] at hn
      have : n = 0 := by simpa using hn
      subst this
      simpa using hd
end Go.Proofs.Ytlmplofpclaokaa
