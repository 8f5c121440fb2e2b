/- Patterns: what it is to stand for a text, and why one mark to go back to is enough. -/
namespace Go.Proofs.Ytehkmfmahgabmaa
set_option autoImplicit false

/-- Two ways to say the same with lists. -/
theorem drop_at {α : Type} (l : List α) (d : α) (i : Nat) (h : i < l.length) : l.drop i = l.getD i d :: l.drop (i + 1) := by
  rw [List.drop_eq_getElem_cons h]; congr 1; simp [List.getD, h]
theorem take_at {α : Type} (l : List α) (d : α) (i : Nat) (h : i < l.length) : l.take (i + 1) = l.take i ++ [l.getD i d] := by
  rw [List.take_add_one]; congr 1; simp [List.getD, h]
theorem u8lit (c : UInt8) (n : Nat) (hn : n < 256) : ((c.toNat : Nat) : Int) = (n : Int) ↔ c = UInt8.ofNat n := by
  rw [Int.ofNat_inj]
  constructor
  · intro h; apply UInt8.toNat.inj; rw [h, UInt8.toNat_ofNat']; omega
  · intro h; rw [h, UInt8.toNat_ofNat']; omega
theorem u8eq (c d : UInt8) : ((c.toNat : Nat) : Int) = ((d.toNat : Nat) : Int) ↔ c = d := by
  rw [Int.ofNat_inj]
  exact ⟨fun h => UInt8.toNat.inj h, fun h => by rw [h]⟩
theorem lex_lt {a b a' b' B : Nat} (h : a' < a) (hb : b' < B) : a' * B + b' < a * B + b := by
  have : (a' + 1) * B ≤ a * B := Nat.mul_le_mul_right B h
  rw [Nat.add_mul] at this
  omega

/-- The bytes ahead of the first sign that stands for others. -/
def wild (c : UInt8) : Bool := c == 37 || c == 95
def lead (p : List UInt8) : List UInt8 := p.takeWhile fun c => !wild c
theorem lead_stop {p : List UInt8} {i : Nat} (h : i < p.length) (hl : lead p = p.take i ++ lead (p.drop i)) (hw : wild (p.getD i 0) = true) : lead p = p.take i := by
  rw [hl, drop_at p 0 i h]; simp only [lead, List.takeWhile, hw, Bool.not_true, List.append_nil]
theorem lead_go {p : List UInt8} {i : Nat} (h : i < p.length) (hl : lead p = p.take i ++ lead (p.drop i)) (hw : wild (p.getD i 0) = false) : lead p = p.take (i + 1) ++ lead (p.drop (i + 1)) := by
  rw [hl, drop_at p 0 i h, take_at p 0 i h]; simp only [lead, List.takeWhile, hw, Bool.not_false, List.append_assoc, List.singleton_append]

def okc (c d : UInt8) : Prop := c = 95 ∨ c = d

/-- A pattern stands for a text. -/
def Mt : List UInt8 → List UInt8 → Prop
  | [], s => s = []
  | c :: p, s => (c = 37 ∧ ∃ k, k ≤ s.length ∧ Mt p (s.drop k)) ∨ (c ≠ 37 ∧ ∃ d s', s = d :: s' ∧ okc c d ∧ Mt p s')

/-- .. as a Bool. -/
def mtB : List UInt8 → List UInt8 → Bool
  | [], s => s.isEmpty
  | c :: p, s => if c = 37 then (List.range (s.length + 1)).any fun k => mtB p (s.drop k) else match s with
    | [] => false
    | d :: s' => (c == 95 || c == d) && mtB p s'
theorem mtB_iff : ∀ {p s : List UInt8}, mtB p s = true ↔ Mt p s
  | [], s => by simp [mtB, Mt]
  | c :: p, s => by
    rw [mtB.eq_def, Mt]
    show (if c = 37 then (List.range (s.length + 1)).any (fun k => mtB p (s.drop k)) else match s with | [] => false | d :: s' => (c == 95 || c == d) && mtB p s') = true ↔ _
    by_cases hc : c = 37
    · rw [if_pos hc, List.any_eq_true]
      constructor
      · rintro ⟨k, h1, h2⟩
        rw [List.mem_range] at h1
        exact .inl ⟨hc, k, by omega, mtB_iff.1 h2⟩
      · rintro (⟨_, k, h1, h2⟩ | ⟨h, _⟩)
        · exact ⟨k, by rw [List.mem_range]; omega, mtB_iff.2 h2⟩
        · exact (h hc).elim
    · rw [if_neg hc]
      cases s with
      | nil => simp [hc]
      | cons d s' =>
        simp only [Bool.and_eq_true, Bool.or_eq_true, beq_iff_eq]
        constructor
        · rintro ⟨h1, h2⟩
          exact .inr ⟨hc, d, s', rfl, h1, mtB_iff.1 h2⟩
        · rintro (⟨h, _⟩ | ⟨_, d', s2, h1, h2, h3⟩)
          · exact (hc h).elim
          · simp only [List.cons.injEq] at h1
            rw [h1.1, h1.2]
            exact ⟨h2, mtB_iff.2 h3⟩
theorem mtB_true {p s : List UInt8} (h : Mt p s) : mtB p s = true := mtB_iff.2 h
theorem mtB_false {p s : List UInt8} (h : ¬ Mt p s) : mtB p s = false := by
  cases hb : mtB p s with
  | true => exact (h (mtB_iff.1 hb)).elim
  | false => rfl

section
variable {p s : List UInt8} {i k : Nat}

theorem Mt_pct (hi : i < p.length) (hc : p.getD i 0 = 37) (hk : k ≤ s.length) : Mt (p.drop i) (s.drop k) ↔ ∃ f, k ≤ f ∧ f ≤ s.length ∧ Mt (p.drop (i + 1)) (s.drop f) := by
  rw [drop_at p 0 i hi, Mt, hc]
  constructor
  · rintro (⟨_, f, h1, h2⟩ | ⟨h, _⟩)
    · rw [List.drop_drop] at h2
      rw [List.length_drop] at h1
      exact ⟨k + f, by omega, by omega, h2⟩
    · exact (h rfl).elim
  · rintro ⟨f, h1, h2, h3⟩
    refine .inl ⟨rfl, f - k, by rw [List.length_drop]; omega, ?_⟩
    rw [List.drop_drop, show k + (f - k) = f from by omega]
    exact h3
theorem Mt_chr (hi : i < p.length) (hc : p.getD i 0 ≠ 37) (hk : k < s.length) : Mt (p.drop i) (s.drop k) ↔ okc (p.getD i 0) (s.getD k 0) ∧ Mt (p.drop (i + 1)) (s.drop (k + 1)) := by
  rw [drop_at p 0 i hi, Mt, drop_at s 0 k hk]
  constructor
  · rintro (⟨h, _⟩ | ⟨_, d, s', h1, h2, h3⟩)
    · exact (hc h).elim
    · simp only [List.cons.injEq] at h1
      rw [h1.1, h1.2]
      exact ⟨h2, h3⟩
  · rintro ⟨h1, h2⟩
    exact .inr ⟨hc, _, _, rfl, h1, h2⟩
theorem Mt_out (hi : i < p.length) (hc : p.getD i 0 ≠ 37) (hk : s.length ≤ k) : ¬ Mt (p.drop i) (s.drop k) := by
  rw [drop_at p 0 i hi, Mt, List.drop_eq_nil_of_le hk]
  rintro (⟨h, _⟩ | ⟨_, d, s', h1, _⟩)
  · exact hc h
  · cases h1
theorem Mt_end (hi : p.length ≤ i) : Mt (p.drop i) (s.drop k) ↔ s.length ≤ k := by
  rw [List.drop_eq_nil_of_le hi, Mt, List.drop_eq_nil_iff]

theorem Mt_lit : ∀ (m b f : Nat), f ≤ s.length → (∀ t, t < m → b + t < p.length ∧ p.getD (b + t) 0 ≠ 37) → Mt (p.drop b) (s.drop f) → f + m ≤ s.length ∧ Mt (p.drop (b + m)) (s.drop (f + m))
  | 0, b, f, hf, _, h => ⟨hf, h⟩
  | m + 1, b, f, hf, hl, h => by
    have h0 := hl 0 (by omega)
    by_cases hfs : f < s.length
    · have h1 := ((Mt_chr h0.1 h0.2 hfs).1 h).2
      have h2 := Mt_lit m (b + 1) (f + 1) (by omega) (fun t ht => by have := hl (t + 1) (by omega); rwa [show b + 1 + t = b + (t + 1) from by omega]) h1
      rw [show b + (m + 1) = b + 1 + m from by omega, show f + (m + 1) = f + 1 + m from by omega]
      exact h2
    · exact (Mt_out h0.1 h0.2 (by omega) h).elim

/-- Where the walk stands: at i and k; bk: behind the last % that was met (or -1); fr: from where. -/
structure MInv (p s : List UInt8) (i k : Nat) (bk : Int) (fr : Nat) : Prop where
  hi : i ≤ p.length
  hk : k ≤ s.length
  hf : fr ≤ k
  ok : Mt p s ↔ Mt (p.drop i) (s.drop k) ∨ ∃ b : Nat, bk = b ∧ ∃ f, fr < f ∧ f ≤ s.length ∧ Mt (p.drop b) (s.drop f)
  bk : bk = -1 ∨ ∃ b : Nat, bk = b ∧ b ≤ i ∧ k - fr = i - b ∧ ∀ t, t < i - b → p.getD (b + t) 0 ≠ 37

def mu (p s : List UInt8) (i : Nat) (bk : Int) (fr : Nat) : Nat := (((p.length : Int) - bk).toNat * (s.length + 1) + (s.length - fr)) * (p.length + 1) + (p.length - i)

theorem MInv.init : MInv p s 0 0 (-1) 0 := ⟨Nat.zero_le _, Nat.zero_le _, Nat.le_refl _, by simp, .inl rfl⟩

variable {bk : Int} {fr : Nat}

theorem MInv.star (h : MInv p s i k bk fr) (hi : i < p.length) (hc : p.getD i 0 = 37) : MInv p s (i + 1) k ((i + 1 : Nat) : Int) k ∧ mu p s (i + 1) ((i + 1 : Nat) : Int) k < mu p s i bk fr := by
  refine ⟨⟨hi, h.hk, Nat.le_refl _, ?_, .inr ⟨i + 1, rfl, Nat.le_refl _, by omega, fun t ht => by omega⟩⟩, ?_⟩
  · rw [h.ok, Mt_pct hi hc h.hk]
    constructor
    · rintro (⟨f, h1, h2, h3⟩ | ⟨b, e, f, h1, h2, h3⟩)
      · by_cases hkf : f = k
        · subst hkf; exact .inl h3
        · exact .inr ⟨i + 1, rfl, f, by omega, h2, h3⟩
      · rcases h.bk with h4 | ⟨b', e', h5, h6, h7⟩
        · omega
        · have : b' = b := by omega
          subst this
          have h8 := Mt_lit (i - b') b' f h2 (fun t ht => ⟨by omega, h7 t ht⟩) h3
          rw [show b' + (i - b') = i from by omega, Mt_pct hi hc h8.1] at h8
          obtain ⟨h9, f', h10, h11, h12⟩ := h8
          have := h.hf
          exact .inr ⟨i + 1, rfl, f', by omega, h11, h12⟩
    · rintro (h1 | ⟨b, e, f, h1, h2, h3⟩)
      · exact .inl ⟨k, Nat.le_refl _, h.hk, h1⟩
      · have : b = i + 1 := by omega
        subst this
        exact .inl ⟨f, by omega, h2, h3⟩
  · refine lex_lt (lex_lt ?_ (by omega)) (by omega)
    rcases h.bk with h4 | ⟨b', e', h5, _⟩ <;> omega

theorem MInv.fin (h : MInv p s i k bk fr) (hk : k = s.length) (hc : i < p.length → p.getD i 0 ≠ 37) : Mt p s ↔ i = p.length := by
  have hi := h.hi
  have hf := h.hf
  rw [h.ok]
  constructor
  · rintro (h1 | ⟨b, e, f, h1, h2, h3⟩)
    · by_cases hip : i < p.length
      · exact (Mt_out hip (hc hip) (by omega) h1).elim
      · omega
    · rcases h.bk with h4 | ⟨b', e', h5, h6, h7⟩
      · omega
      · have : b' = b := by omega
        subst this
        have h8 := (Mt_lit (i - b') b' f h2 (fun t ht => ⟨by omega, h7 t ht⟩) h3).1
        omega
  · intro hip
    exact .inl ((Mt_end (by omega)).2 (by omega))

theorem MInv.chr (h : MInv p s i k bk fr) (hi : i < p.length) (hc : p.getD i 0 ≠ 37) (hk : k < s.length) (ho : okc (p.getD i 0) (s.getD k 0)) : MInv p s (i + 1) (k + 1) bk fr ∧ mu p s (i + 1) bk fr < mu p s i bk fr := by
  refine ⟨⟨hi, hk, by have := h.hf; omega, ?_, ?_⟩, by unfold mu; omega⟩
  · rw [h.ok, Mt_chr hi hc hk, and_iff_right ho]
  · have hf := h.hf
    rcases h.bk with h4 | ⟨b, e, h5, h6, h7⟩
    · exact .inl h4
    · refine .inr ⟨b, e, by omega, by omega, fun t ht => ?_⟩
      by_cases htb : t < i - b
      · exact h7 t htb
      · rw [show b + t = i from by omega]; exact hc

theorem Mt_miss (hk : k < s.length) (hc : i < p.length → p.getD i 0 ≠ 37 ∧ ¬ okc (p.getD i 0) (s.getD k 0)) : ¬ Mt (p.drop i) (s.drop k) := by
  by_cases hip : i < p.length
  · rw [Mt_chr hip (hc hip).1 hk]; exact fun q => (hc hip).2 q.1
  · rw [Mt_end (by omega)]; omega

theorem MInv.back (h : MInv p s i k bk fr) (hk : k < s.length) (hc : i < p.length → p.getD i 0 ≠ 37 ∧ ¬ okc (p.getD i 0) (s.getD k 0)) (hb : 0 ≤ bk) : MInv p s bk.toNat (fr + 1) bk (fr + 1) ∧ mu p s bk.toNat bk (fr + 1) < mu p s i bk fr := by
  have hm := Mt_miss hk hc
  have hi := h.hi
  have hf := h.hf
  rcases h.bk with h4 | ⟨b, e, h5, h6, h7⟩
  · omega
  · subst e
    rw [Int.toNat_natCast]
    refine ⟨⟨by omega, by omega, Nat.le_refl _, ?_, .inr ⟨b, rfl, by omega, by omega, fun t ht => by omega⟩⟩, ?_⟩
    · rw [h.ok]
      constructor
      · rintro (h1 | ⟨b', e, f, h1, h2, h3⟩)
        · exact (hm h1).elim
        · have : b' = b := by omega
          subst this
          by_cases hff : f = fr + 1
          · subst hff; exact .inl h3
          · exact .inr ⟨b', rfl, f, by omega, h2, h3⟩
      · rintro (h1 | ⟨b', e, f, h1, h2, h3⟩)
        · exact .inr ⟨b, rfl, fr + 1, by omega, by omega, h1⟩
        · have : b' = b := by omega
          subst this
          exact .inr ⟨b', rfl, f, by omega, h2, h3⟩
    · exact lex_lt (by omega) (by omega)

theorem MInv.none (h : MInv p s i k bk fr) (hk : k < s.length) (hc : i < p.length → p.getD i 0 ≠ 37 ∧ ¬ okc (p.getD i 0) (s.getD k 0)) (hb : bk < 0) : ¬ Mt p s := by
  rw [h.ok]
  rintro (h1 | ⟨b, e, _⟩)
  · exact Mt_miss hk hc h1
  · omega

end

/-- A pattern behind a pattern. -/
theorem Mt_append : ∀ (p q s : List UInt8), Mt (p ++ q) s ↔ ∃ i, i ≤ s.length ∧ Mt p (s.take i) ∧ Mt q (s.drop i)
  | [], q, s => by
    simp only [List.nil_append, Mt]
    constructor
    · intro h; exact ⟨0, Nat.zero_le _, by simp, by simpa using h⟩
    · rintro ⟨i, h1, h2, h3⟩
      rw [List.take_eq_nil_iff] at h2
      rcases h2 with h2 | h2
      · subst h2; simpa using h3
      · subst h2; simpa using h3
  | c :: p, q, s => by
    simp only [List.cons_append, Mt]
    constructor
    · rintro (⟨hc, k, h1, h2⟩ | ⟨hc, d, s', h1, h2, h3⟩)
      · obtain ⟨i, h3, h4, h5⟩ := (Mt_append p q _).1 h2
        rw [List.length_drop] at h3
        rw [List.drop_drop] at h5
        refine ⟨k + i, by omega, .inl ⟨hc, k, ?_, ?_⟩, h5⟩
        · rw [List.length_take]; omega
        · rw [List.drop_take, show k + i - k = i from by omega]; exact h4
      · subst h1
        obtain ⟨i, h4, h5, h6⟩ := (Mt_append p q _).1 h3
        exact ⟨i + 1, by simp; omega, .inr ⟨hc, d, s'.take i, by simp, h2, h5⟩, by simpa using h6⟩
    · rintro ⟨i, h1, h2 | h2, h3⟩
      · obtain ⟨hc, k, h4, h5⟩ := h2
        rw [List.length_take] at h4
        refine .inl ⟨hc, k, by omega, (Mt_append p q _).2 ⟨i - k, by rw [List.length_drop]; omega, ?_, ?_⟩⟩
        · rw [List.drop_take] at h5; exact h5
        · rw [List.drop_drop, show k + (i - k) = i from by omega]; exact h3
      · obtain ⟨hc, d, s', h4, h5, h6⟩ := h2
        cases s with
        | nil => simp at h4
        | cons e s =>
          cases i with
          | zero => simp at h4
          | succ i =>
            simp only [List.take_succ_cons, List.cons.injEq] at h4
            simp only [List.drop_succ_cons] at h3
            simp only [List.length_cons] at h1
            refine .inr ⟨hc, d, s, by rw [h4.1], h5, (Mt_append p q _).2 ⟨i, by omega, by rw [h4.2]; exact h6, h3⟩⟩

end Go.Proofs.Ytehkmfmahgabmaa
