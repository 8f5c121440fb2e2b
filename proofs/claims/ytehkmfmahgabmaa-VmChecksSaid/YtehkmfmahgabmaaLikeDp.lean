/- Patterns, row by row: which beginnings of a text a beginning of the pattern stands for; and how many bytes there are at least. -/
import Derived.Test.YtehkmfmahgabmaaLikeMath
import Derived.Lib.Bytealg
namespace Go.Proofs.Ytehkmfmahgabmaa
set_option autoImplicit false

theorem Mt_one_pct (t : List UInt8) : Mt [37] t := by
  rw [Mt]
  exact .inl ⟨rfl, t.length, Nat.le_refl _, by simp [Mt]⟩
theorem Mt_one {c : UInt8} (h : c ≠ 37) (t : List UInt8) : Mt [c] t ↔ ∃ d, t = [d] ∧ okc c d := by
  rw [Mt]
  constructor
  · rintro (⟨e, _⟩ | ⟨_, d, s', e1, e2, e3⟩)
    · exact (h e).elim
    · rw [Mt] at e3; exact ⟨d, by rw [e1, e3], e2⟩
  · rintro ⟨d, e1, e2⟩
    exact .inr ⟨h, d, [], e1, e2, rfl⟩
theorem Mt_snoc_pct (p s : List UInt8) (k : Nat) (hk : k ≤ s.length) : Mt (p ++ [37]) (s.take k) ↔ ∃ j, j ≤ k ∧ Mt p (s.take j) := by
  rw [Mt_append]
  constructor
  · rintro ⟨j, h1, h2, _⟩
    rw [List.length_take] at h1
    rw [List.take_take, show min j k = j from by omega] at h2
    exact ⟨j, by omega, h2⟩
  · rintro ⟨j, h1, h2⟩
    refine ⟨j, by rw [List.length_take]; omega, ?_, Mt_one_pct _⟩
    rw [List.take_take, show min j k = j from by omega]
    exact h2
theorem row_pct (p s : List UInt8) (k : Nat) (hk : k ≤ s.length) : mtB (p ++ [37]) (s.take k) = (mtB p (s.take k) || (decide (0 < k) && mtB (p ++ [37]) (s.take (k - 1)))) := by
  rw [Bool.eq_iff_iff, Bool.or_eq_true, Bool.and_eq_true, decide_eq_true_eq, mtB_iff, mtB_iff, mtB_iff, Mt_snoc_pct p s k hk, Mt_snoc_pct p s (k - 1) (by omega)]
  constructor
  · rintro ⟨j, h1, h2⟩
    by_cases e : j = k
    · subst e; exact .inl h2
    · exact .inr ⟨by omega, j, by omega, h2⟩
  · rintro (h | ⟨h0, j, h1, h2⟩)
    · exact ⟨k, Nat.le_refl _, h⟩
    · exact ⟨j, by omega, h2⟩
theorem row_chr {c : UInt8} (hc : c ≠ 37) (p s : List UInt8) (k : Nat) (h0 : 0 < k) (hk : k ≤ s.length) :
    mtB (p ++ [c]) (s.take k) = (mtB p (s.take (k - 1)) && (c == 95 || c == s.getD (k - 1) 0)) := by
  have hs : s.take k = s.take (k - 1) ++ [s.getD (k - 1) 0] := by
    have := take_at s 0 (k - 1) (by omega)
    rwa [show k - 1 + 1 = k from by omega] at this
  have hl : (s.take (k - 1)).length = k - 1 := by rw [List.length_take]; omega
  rw [Bool.eq_iff_iff, Bool.and_eq_true, Bool.or_eq_true, beq_iff_eq, beq_iff_eq, mtB_iff, mtB_iff, Mt_append]
  constructor
  · rintro ⟨j, h1, h2, h3⟩
    rw [Mt_one hc] at h3
    obtain ⟨d, h4, h5⟩ := h3
    have h6 := congrArg List.length h4
    rw [List.length_drop, List.length_take, List.length_singleton] at h6
    have hj : j = k - 1 := by omega
    subst hj
    rw [List.take_take, show min (k - 1) k = k - 1 from by omega] at h2
    refine ⟨h2, ?_⟩
    rw [hs, List.drop_append_of_le_length (by omega), List.drop_eq_nil_of_le (by omega)] at h4
    simp only [List.nil_append, List.cons.injEq, and_true] at h4
    rw [h4]
    exact h5
  · rintro ⟨h1, h2⟩
    refine ⟨k - 1, by rw [List.length_take]; omega, ?_, ?_⟩
    · rw [List.take_take, show min (k - 1) k = k - 1 from by omega]; exact h1
    · rw [Mt_one hc]
      refine ⟨s.getD (k - 1) 0, ?_, h2⟩
      rw [hs, List.drop_append_of_le_length (by omega), List.drop_eq_nil_of_le (by omega)]
      rfl
theorem row_zero {c : UInt8} (hc : c ≠ 37) (p s : List UInt8) : mtB (p ++ [c]) (s.take 0) = false := by
  apply mtB_false
  rw [Mt_append]
  rintro ⟨j, h1, _, h3⟩
  rw [Mt_one hc] at h3
  obtain ⟨d, h4, _⟩ := h3
  simp at h4

/-- A list by places, one of them replaced. -/
theorem map_set {α : Type} {f g : Nat → α} {n k : Nat} {y : α} (hk : g k = y) (hj : ∀ j, j ≠ k → f j = g j) : ((List.range n).map f).set k y = (List.range n).map g := by
  apply List.ext_getElem
  · simp
  · intro i h1 h2
    simp only [List.getElem_set, List.getElem_map, List.getElem_range]
    split
    · rename_i e; rw [← e, hk]
    · rename_i e; exact hj i (fun q => e q.symm)
theorem map_range_get {α : Type} {f : Nat → α} {n k : Nat} (h : k < n) : ((List.range n).map f)[k]? = some (f k) := by
  rw [List.getElem?_map, List.getElem?_range h]; rfl

/-- How many bytes there are at least. -/
def lst (p : List UInt8) : Nat := (p.filter fun c => c != 37).length
theorem lst_count (p : List UInt8) : lst p + p.count 37 = p.length := by
  induction p with
  | nil => rfl
  | cons c p ih =>
    unfold lst at *
    rw [List.filter_cons, List.count_cons, List.length_cons]
    by_cases h : c = 37
    · subst h; simp; omega
    · rw [if_pos (by simpa using h), if_neg (by simpa using h), List.length_cons]; omega
theorem lst_snoc (p : List UInt8) (c : UInt8) : lst (p ++ [c]) = lst p + if c = 37 then 0 else 1 := by
  unfold lst
  rw [List.filter_append, List.length_append]
  by_cases h : c = 37
  · subst h; simp
  · rw [if_neg h, List.filter_cons, if_pos (by simpa using h)]; rfl
theorem lst_le (p : List UInt8) : lst p ≤ p.length := by have := lst_count p; omega

/-- What a pattern stands for has its least, or more, and begins with its lead. -/
theorem Mt_lst : ∀ {p s : List UInt8}, Mt p s → lst p ≤ s.length
  | [], s, h => Nat.zero_le _
  | c :: p, s, h => by
    rw [Mt] at h
    rcases h with ⟨hc, k, h1, h2⟩ | ⟨hc, d, s', rfl, h2, h3⟩
    · have := Mt_lst h2
      rw [List.length_drop] at this
      unfold lst at *
      rw [List.filter_cons, if_neg (by simpa using hc)]
      omega
    · have := Mt_lst h3
      unfold lst at *
      rw [List.filter_cons, if_pos (by simpa using hc), List.length_cons, List.length_cons]
      omega
theorem lead_len (p : List UInt8) : (lead p).length ≤ p.length := by
  have : lead p <+: p := List.takeWhile_prefix _
  exact this.length_le
theorem lead_take (p : List UInt8) : p.take (lead p).length = lead p := (List.prefix_iff_eq_take.1 (List.takeWhile_prefix _)).symm
theorem takeWhile_ok {α : Type} {f : α → Bool} : ∀ (l : List α) (c : α), c ∈ l.takeWhile f → f c = true
  | [], c, h => by simp at h
  | d :: l, c, h => by
    rw [List.takeWhile_cons] at h
    split at h
    · rename_i hd
      rcases List.mem_cons.1 h with e | e
      · rw [e]; exact hd
      · exact takeWhile_ok l c e
    · simp at h
theorem lead_plain (p : List UInt8) : ∀ c ∈ lead p, c ≠ 37 ∧ c ≠ 95 := by
  intro c h
  have := takeWhile_ok _ _ h
  simp [wild] at this
  exact this
theorem Mt_plain : ∀ {l s : List UInt8}, (∀ c ∈ l, c ≠ 37 ∧ c ≠ 95) → (Mt l s ↔ l = s)
  | [], s, h => by rw [Mt]; exact eq_comm
  | c :: l, s, h => by
    have hc := h c (by simp)
    have ih := fun s => Mt_plain (l := l) (s := s) (fun d hd => h d (by simp [hd]))
    rw [Mt]
    constructor
    · rintro (⟨e, _⟩ | ⟨_, d, s', rfl, e2, e3⟩)
      · exact (hc.1 e).elim
      · rw [ih] at e3
        rcases e2 with e2 | e2
        · exact (hc.2 e2).elim
        · rw [e2, e3]
    · rintro rfl
      exact .inr ⟨hc.1, c, l, rfl, .inr rfl, (ih l).2 rfl⟩
theorem mtB_lead (p s : List UInt8) : mtB (lead p) s = decide (lead p = s) := by
  rw [Bool.eq_iff_iff, mtB_iff, decide_eq_true_eq]
  exact Mt_plain (lead_plain p)
theorem Mt_lead {p s : List UInt8} (h : Mt p s) : (lead p).length ≤ s.length ∧ s.take (lead p).length = lead p := by
  induction p generalizing s with
  | nil => simp [lead]
  | cons c p ih =>
    by_cases hw : wild c = true
    · have : lead (c :: p) = [] := by simp [lead, List.takeWhile, hw]
      rw [this]; simp
    · have hl : lead (c :: p) = c :: lead p := by
        have : wild c = false := by simpa using hw
        simp [lead, List.takeWhile, this]
      have hc : c ≠ 37 ∧ c ≠ 95 := by simpa [wild] using hw
      rw [Mt] at h
      rcases h with ⟨e, _⟩ | ⟨_, d, s', rfl, e2, e3⟩
      · exact (hc.1 e).elim
      · have := ih e3
        rcases e2 with e2 | e2
        · exact (hc.2 e2).elim
        · rw [hl, e2]
          exact ⟨by simpa using this.1, by simpa using this.2⟩
theorem mtB_pct (s : List UInt8) : mtB [37] s = true := mtB_true (Mt_one_pct s)
/-- Does a pattern stand for an end of the text, from place i on? -/
theorem Mt_pct_cons (p s : List UInt8) : Mt (37 :: p) s ↔ ∃ k, k ≤ s.length ∧ Mt p (s.drop k) := by
  rw [Mt]
  exact ⟨fun h => h.elim (fun q => q.2) (fun q => (q.1 rfl).elim), fun h => .inl ⟨rfl, h⟩⟩
end Go.Proofs.Ytehkmfmahgabmaa
