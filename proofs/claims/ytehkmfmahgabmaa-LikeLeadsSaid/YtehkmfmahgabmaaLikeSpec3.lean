/- What the reference's Match computes: the rows, one by one. -/
import Derived.Test.YtehkmfmahgabmaaLikeSpec2
namespace Go.Proofs.Ytehkmfmahgabmaa
set_option autoImplicit false
set_option linter.unusedSimpArgs false
set_option linter.unusedVariables false
attribute [local irreducible] callA callP ACalls
/-- The row behind i bytes of the pattern. -/
def dpRow (p s : List UInt8) (i : Nat) : List (List AV) := (List.range (s.length + 1)).map fun k => [AV.bool (mtB (p.take i) (s.take k))]
/-- .. half made. -/
def dpHalf (p s : List UInt8) (i k : Nat) : List (List AV) := (List.range (s.length + 1)).map fun j => [AV.bool (decide (j < k) && mtB (p.take (i + 1)) (s.take j))]
theorem dpRow_len (p s : List UInt8) (i : Nat) : (dpRow p s i).length = s.length + 1 := by simp [dpRow]
theorem dpRow_get {p s : List UInt8} {i k : Nat} (h : k ≤ s.length) : (dpRow p s i)[k]? = some [AV.bool (mtB (p.take i) (s.take k))] := map_range_get (f := fun k => [AV.bool (mtB (p.take i) (s.take k))]) (by omega)
theorem dpHalf_get {p s : List UInt8} {i j k : Nat} (h : j < k) (hk : j ≤ s.length) : (dpHalf p s i k)[j]? = some [AV.bool (mtB (p.take (i + 1)) (s.take j))] := by
  unfold dpHalf; rw [map_range_get (by omega)]; simp [h]
theorem dpHalf_get' {p s : List UInt8} {i k : Nat} (hk : k ≤ s.length) : (dpHalf p s i k)[k]? = some [AV.bool false] := by
  unfold dpHalf; rw [map_range_get (by omega)]; simp
theorem dpHalf_zero (p s : List UInt8) (i : Nat) : List.replicate (s.length + 1) [AV.bool false] = dpHalf p s i 0 := by
  unfold dpHalf
  apply List.ext_getElem
  · simp
  · intro j h1 h2; simp
theorem dpHalf_set {p s : List UInt8} {i k : Nat} {b : Bool} (hb : b = mtB (p.take (i + 1)) (s.take k)) : (dpHalf p s i k).set k [AV.bool b] = dpHalf p s i (k + 1) := by
  unfold dpHalf
  refine map_set (by simp [hb]) fun j hj => ?_
  rw [show decide (j < k) = decide (j < k + 1) from decide_eq_decide.2 (by omega)]
theorem dpHalf_skip {p s : List UInt8} {i k : Nat} (hb : mtB (p.take (i + 1)) (s.take k) = false) : dpHalf p s i k = dpHalf p s i (k + 1) := by
  unfold dpHalf
  refine List.map_congr_left fun j _ => ?_
  by_cases e : j = k
  · subst e; simp [hb]
  · rw [show decide (j < k) = decide (j < k + 1) from decide_eq_decide.2 (by omega)]
theorem dpHalf_full (p s : List UInt8) (i : Nat) : dpHalf p s i (s.length + 1) = dpRow p s (i + 1) := by
  unfold dpHalf dpRow
  refine List.map_congr_left fun j hj => ?_
  rw [List.mem_range] at hj
  simp [hj]
theorem dpRow_zero (p s : List UInt8) : (List.replicate (s.length + 1) [AV.bool false]).set 0 [AV.bool true] = dpRow p s 0 := by
  unfold dpRow
  apply List.ext_getElem
  · simp
  · intro j h1 h2
    rw [List.getElem_set]
    simp only [List.getElem_map, List.getElem_range, List.take_zero]
    split
    · rename_i e; subst e; simp [mtB]
    · rename_i e
      simp only [List.length_map, List.length_range] at h2
      have : s.take j ≠ [] := by
        intro q
        have := congrArg List.length q
        rw [List.length_take, List.length_nil] at this
        omega
      simp [mtB, this]

theorem dpRow_at {p s : List UInt8} {i k : Nat} (h : k ≤ s.length) : (dpRow p s i)[0 + (k : Int).toNat]? = some [AV.bool (mtB (p.take i) (s.take k))] := by
  rw [Nat.zero_add, Int.toNat_natCast]; exact dpRow_get h
theorem dpRow_prev {p s : List UInt8} {i k : Nat} (h0 : 0 < k) (h : k ≤ s.length) : (dpRow p s i)[0 + ((k : Int) - 1).toNat]? = some [AV.bool (mtB (p.take i) (s.take (k - 1)))] := by
  rw [show 0 + ((k : Int) - 1).toNat = k - 1 from by omega]; exact dpRow_get (by omega)
theorem dpHalf_prev {p s : List UInt8} {i k : Nat} (h0 : 0 < k) (h : k ≤ s.length) : (dpHalf p s i k)[0 + ((k : Int) - 1).toNat]? = some [AV.bool (mtB (p.take (i + 1)) (s.take (k - 1)))] := by
  rw [show 0 + ((k : Int) - 1).toNat = k - 1 from by omega]; exact dpHalf_get (by omega) (by omega)
theorem dpHalf_at {p s : List UInt8} {i k : Nat} (h : k ≤ s.length) : (dpHalf p s i k)[0 + (k : Int).toNat]? = some [AV.bool false] := by
  rw [Nat.zero_add, Int.toNat_natCast]; exact dpHalf_get' h
theorem ref_Match_spec0 (p s : List UInt8) (hp : p.length ≤ 140737488351230) (hs : s.length ≤ 140737488351230) : ACalls PG broadsheetref17_Match.n [.str p, .str s] [] fun r H' => r = .bool (mtB p s) := by
  refine broadsheetref17_Match.of rfl (wpF_start ?_)
  (repeat ((conv => whnf); first | refine Or.inl ?_ | refine Exists.intro _ (Exists.intro _ (And.intro hget_self (And.intro rfl ?_))) | refine Exists.intro _ (Exists.intro _ (And.intro ((hget_tail (by assumption)).trans hget_self) (And.intro rfl ?_))) | refine And.intro (by first | omega | exact rfl | (exact ⟨by omega, by omega⟩) | decide) ?_ | refine rng_i64 (by omega) (by omega) ?_ | refine rng_u8 (by omega) (by omega) ?_ | refine bsplit_tt ?_ | refine bsplit_ff ?_ | refine bsplit_not ?_ | refine bsplit_pos (by omega) ?_ | refine bsplit_neg (by omega) ?_ | rw [hset_self])); (conv => whnf)
  intro id hid
  (repeat ((conv => whnf); first | refine Or.inl ?_ | refine Exists.intro _ (Exists.intro _ (And.intro hget_self (And.intro rfl ?_))) | refine Exists.intro _ (Exists.intro _ (And.intro ((hget_tail (by assumption)).trans hget_self) (And.intro rfl ?_))) | refine And.intro (by first | omega | exact rfl | (exact ⟨by omega, by omega⟩) | decide) ?_ | refine rng_i64 (by omega) (by omega) ?_ | refine rng_u8 (by omega) (by omega) ?_ | refine bsplit_tt ?_ | refine bsplit_ff ?_ | refine bsplit_not ?_ | refine bsplit_pos (by omega) ?_ | refine bsplit_neg (by omega) ?_ | rw [hset_self])); (conv => whnf)
  refine ⟨fun n L H => ∃ (i : Nat) (id : Nat), n = p.length - i ∧ i ≤ p.length ∧ L = [(0, some (.str p)), (1, some (.str s)), (5, some (.own id 1 0 (s.length + 1))), (6, some (.int .i64 i))] ∧ H = [(id, .rows 1 (dpRow p s i))],
    ⟨_, [(id, .rows 1 (dpRow p s 0))], ?_, ?_, _, 0, id, rfl, Nat.zero_le _, rfl, rfl⟩, ?_⟩
  · exact ⟨rfl, rfl, rfl, rfl, trivial⟩
  · rw [← dpRow_zero]; exact Sub.refl _
  · rintro n L H ⟨i, id, rfl, hi, rfl, rfl⟩
    (repeat ((conv => whnf); first | refine Or.inl ?_ | refine Exists.intro _ (Exists.intro _ (And.intro hget_self (And.intro rfl ?_))) | refine Exists.intro _ (Exists.intro _ (And.intro ((hget_tail (by assumption)).trans hget_self) (And.intro rfl ?_))) | refine And.intro (by first | omega | exact rfl | (exact ⟨by omega, by omega⟩) | decide) ?_ | refine rng_i64 (by omega) (by omega) ?_ | refine rng_u8 (by omega) (by omega) ?_ | refine bsplit_tt ?_ | refine bsplit_ff ?_ | refine bsplit_not ?_ | refine bsplit_pos (by omega) ?_ | refine bsplit_neg (by omega) ?_ | rw [hset_self])); (conv => whnf)
    refine bsplit_dec (fun h => ?_) (fun h => ?_)
    · (repeat ((conv => whnf); first | refine Or.inl ?_ | refine Exists.intro _ (Exists.intro _ (And.intro hget_self (And.intro rfl ?_))) | refine Exists.intro _ (Exists.intro _ (And.intro ((hget_tail (by assumption)).trans hget_self) (And.intro rfl ?_))) | refine And.intro (by first | omega | exact rfl | (exact ⟨by omega, by omega⟩) | decide) ?_ | refine rng_i64 (by omega) (by omega) ?_ | refine rng_u8 (by omega) (by omega) ?_ | refine bsplit_tt ?_ | refine bsplit_ff ?_ | refine bsplit_not ?_ | refine bsplit_pos (by omega) ?_ | refine bsplit_neg (by omega) ?_ | rw [hset_self])); (conv => whnf)
      intro id2 hid2
      have hne : id2 ≠ id := (hget_fresh hid2).1
      (repeat ((conv => whnf); first | refine Or.inl ?_ | refine Exists.intro _ (Exists.intro _ (And.intro hget_self (And.intro rfl ?_))) | refine Exists.intro _ (Exists.intro _ (And.intro ((hget_tail (by assumption)).trans hget_self) (And.intro rfl ?_))) | refine And.intro (by first | omega | exact rfl | (exact ⟨by omega, by omega⟩) | decide) ?_ | refine rng_i64 (by omega) (by omega) ?_ | refine rng_u8 (by omega) (by omega) ?_ | refine bsplit_tt ?_ | refine bsplit_ff ?_ | refine bsplit_not ?_ | refine bsplit_pos (by omega) ?_ | refine bsplit_neg (by omega) ?_ | rw [hset_self])); (conv => whnf)
      refine ⟨fun n L H => ∃ (k : Nat), n = s.length + 1 - k ∧ k ≤ s.length + 1 ∧ L = [(0, some (.str p)), (1, some (.str s)), (5, some (.own id 1 0 (s.length + 1))), (6, some (.int .i64 i)), (7, some (.own id2 1 0 (s.length + 1))), (8, some (.int .i64 k))] ∧ H = [(id2, .rows 1 (dpHalf p s i k)), (id, .rows 1 (dpRow p s i))],
        ⟨_, [(id2, .rows 1 (dpHalf p s i 0)), (id, .rows 1 (dpRow p s i))], ?_, ?_, _, 0, rfl, Nat.zero_le _, rfl, rfl⟩, ?_⟩
      · exact ⟨rfl, rfl, rfl, rfl, rfl, rfl, trivial⟩
      · rw [← dpHalf_zero]; exact Sub.refl _
      · rintro n L H ⟨k, rfl, hk, rfl, rfl⟩
        (repeat ((conv => whnf); first | refine Or.inl ?_ | refine Exists.intro _ (Exists.intro _ (And.intro hget_self (And.intro rfl ?_))) | refine Exists.intro _ (Exists.intro _ (And.intro ((hget_tail (by assumption)).trans hget_self) (And.intro rfl ?_))) | refine And.intro (by first | omega | exact rfl | (exact ⟨by omega, by omega⟩) | decide) ?_ | refine rng_i64 (by omega) (by omega) ?_ | refine rng_u8 (by omega) (by omega) ?_ | refine bsplit_tt ?_ | refine bsplit_ff ?_ | refine bsplit_not ?_ | refine bsplit_pos (by omega) ?_ | refine bsplit_neg (by omega) ?_ | rw [hset_self])); (conv => whnf)
        refine bsplit_dec (fun h2 => ?_) (fun h2 => ?_)
        · have hks : k ≤ s.length := by omega
          have tk : p.take (i + 1) = p.take i ++ [p.getD i 0] := take_at p 0 i (by omega)
          have fin : ∀ b, b = mtB (p.take (i + 1)) (s.take k) → Sub [(id2, .rows 1 (dpHalf p s i (k + 1))), (id, .rows 1 (dpRow p s i))] [(id2, .rows 1 ((dpHalf p s i k).set (0 + (k : Int).toNat) (over [AV.bool false] 0 (AV.bool b).cells))), (id, .rows 1 (dpRow p s i))] := by
            intro b hb
            rw [Nat.zero_add, Int.toNat_natCast, ← dpHalf_set hb]
            exact Sub.refl _
          (repeat ((conv => whnf); first | refine Or.inl ?_ | refine Exists.intro _ (Exists.intro _ (And.intro hget_self (And.intro rfl ?_))) | refine Exists.intro _ (Exists.intro _ (And.intro ((hget_tail (by assumption)).trans hget_self) (And.intro rfl ?_))) | refine And.intro (by first | omega | exact rfl | (exact ⟨by omega, by omega⟩) | decide) ?_ | refine rng_i64 (by omega) (by omega) ?_ | refine rng_u8 (by omega) (by omega) ?_ | refine bsplit_tt ?_ | refine bsplit_ff ?_ | refine bsplit_not ?_ | refine bsplit_pos (by omega) ?_ | refine bsplit_neg (by omega) ?_ | rw [hset_self])); (conv => whnf)
          refine bsplit_dec (fun h3 => ?_) (fun h3 => ?_)
          · have hc : p.getD i 0 = 37 := (u8lit (p.getD i 0) 37 (by decide)).1 h3
            have hrow := row_pct (p.take i) s k hks
            rw [← show p.take (i + 1) = p.take i ++ [37] from by rw [tk, hc]] at hrow
            (repeat ((conv => whnf); first | refine Or.inl ?_ | refine Exists.intro _ (Exists.intro _ (And.intro hget_self (And.intro rfl ?_))) | refine Exists.intro _ (Exists.intro _ (And.intro ((hget_tail (by assumption)).trans hget_self) (And.intro rfl ?_))) | refine And.intro (by first | omega | exact rfl | (exact ⟨by omega, by omega⟩) | decide) ?_ | refine rng_i64 (by omega) (by omega) ?_ | refine rng_u8 (by omega) (by omega) ?_ | refine bsplit_tt ?_ | refine bsplit_ff ?_ | refine bsplit_not ?_ | refine bsplit_pos (by omega) ?_ | refine bsplit_neg (by omega) ?_ | rw [hset_self])); (conv => whnf)
            refine ⟨_, _, (hget_tail hne).trans hget_self, dpRow_at hks, ?_⟩
            (repeat ((conv => whnf); first | refine Or.inl ?_ | refine Exists.intro _ (Exists.intro _ (And.intro hget_self (And.intro rfl ?_))) | refine Exists.intro _ (Exists.intro _ (And.intro ((hget_tail (by assumption)).trans hget_self) (And.intro rfl ?_))) | refine And.intro (by first | omega | exact rfl | (exact ⟨by omega, by omega⟩) | decide) ?_ | refine rng_i64 (by omega) (by omega) ?_ | refine rng_u8 (by omega) (by omega) ?_ | refine bsplit_tt ?_ | refine bsplit_ff ?_ | refine bsplit_not ?_ | refine bsplit_pos (by omega) ?_ | refine bsplit_neg (by omega) ?_ | rw [hset_self])); (conv => whnf)
            refine bsplit_intro (fun h4 => ?_) (fun h4 => ?_)
            · (repeat ((conv => whnf); first | refine Or.inl ?_ | refine Exists.intro _ (Exists.intro _ (And.intro hget_self (And.intro rfl ?_))) | refine Exists.intro _ (Exists.intro _ (And.intro ((hget_tail (by assumption)).trans hget_self) (And.intro rfl ?_))) | refine And.intro (by first | omega | exact rfl | (exact ⟨by omega, by omega⟩) | decide) ?_ | refine rng_i64 (by omega) (by omega) ?_ | refine rng_u8 (by omega) (by omega) ?_ | refine bsplit_tt ?_ | refine bsplit_ff ?_ | refine bsplit_not ?_ | refine bsplit_pos (by omega) ?_ | refine bsplit_neg (by omega) ?_ | rw [hset_self])); (conv => whnf)
              refine ⟨_, _, hget_self, dpHalf_at hks, ?_⟩
              (repeat ((conv => whnf); first | refine Or.inl ?_ | refine Exists.intro _ (Exists.intro _ (And.intro hget_self (And.intro rfl ?_))) | refine Exists.intro _ (Exists.intro _ (And.intro ((hget_tail (by assumption)).trans hget_self) (And.intro rfl ?_))) | refine And.intro (by first | omega | exact rfl | (exact ⟨by omega, by omega⟩) | decide) ?_ | refine rng_i64 (by omega) (by omega) ?_ | refine rng_u8 (by omega) (by omega) ?_ | refine bsplit_tt ?_ | refine bsplit_ff ?_ | refine bsplit_not ?_ | refine bsplit_pos (by omega) ?_ | refine bsplit_neg (by omega) ?_ | rw [hset_self])); (conv => whnf)
              refine ⟨[(0, some (.str p)), (1, some (.str s)), (5, some (.own id 1 0 (s.length + 1))), (6, some (.int .i64 i)), (7, some (.own id2 1 0 (s.length + 1))), (8, some (.int .i64 (k + 1 : Nat)))], [(id2, .rows 1 (dpHalf p s i (k + 1))), (id, .rows 1 (dpRow p s i))],
                ⟨rfl, rfl, rfl, rfl, rfl, rfl, trivial⟩, fin _ (by rw [hrow, h4]; rfl), _, ?_, k + 1, rfl, by omega, rfl, rfl⟩
              omega
            · (repeat ((conv => whnf); first | refine Or.inl ?_ | refine Exists.intro _ (Exists.intro _ (And.intro hget_self (And.intro rfl ?_))) | refine Exists.intro _ (Exists.intro _ (And.intro ((hget_tail (by assumption)).trans hget_self) (And.intro rfl ?_))) | refine And.intro (by first | omega | exact rfl | (exact ⟨by omega, by omega⟩) | decide) ?_ | refine rng_i64 (by omega) (by omega) ?_ | refine rng_u8 (by omega) (by omega) ?_ | refine bsplit_tt ?_ | refine bsplit_ff ?_ | refine bsplit_not ?_ | refine bsplit_pos (by omega) ?_ | refine bsplit_neg (by omega) ?_ | rw [hset_self])); (conv => whnf)
              refine bsplit_dec (fun h5 => ?_) (fun h5 => ?_)
              · (repeat ((conv => whnf); first | refine Or.inl ?_ | refine Exists.intro _ (Exists.intro _ (And.intro hget_self (And.intro rfl ?_))) | refine Exists.intro _ (Exists.intro _ (And.intro ((hget_tail (by assumption)).trans hget_self) (And.intro rfl ?_))) | refine And.intro (by first | omega | exact rfl | (exact ⟨by omega, by omega⟩) | decide) ?_ | refine rng_i64 (by omega) (by omega) ?_ | refine rng_u8 (by omega) (by omega) ?_ | refine bsplit_tt ?_ | refine bsplit_ff ?_ | refine bsplit_not ?_ | refine bsplit_pos (by omega) ?_ | refine bsplit_neg (by omega) ?_ | rw [hset_self])); (conv => whnf)
                refine ⟨_, _, hget_self, dpHalf_prev (by omega) hks, ?_⟩
                (repeat ((conv => whnf); first | refine Or.inl ?_ | refine Exists.intro _ (Exists.intro _ (And.intro hget_self (And.intro rfl ?_))) | refine Exists.intro _ (Exists.intro _ (And.intro ((hget_tail (by assumption)).trans hget_self) (And.intro rfl ?_))) | refine And.intro (by first | omega | exact rfl | (exact ⟨by omega, by omega⟩) | decide) ?_ | refine rng_i64 (by omega) (by omega) ?_ | refine rng_u8 (by omega) (by omega) ?_ | refine bsplit_tt ?_ | refine bsplit_ff ?_ | refine bsplit_not ?_ | refine bsplit_pos (by omega) ?_ | refine bsplit_neg (by omega) ?_ | rw [hset_self])); (conv => whnf)
                refine ⟨_, _, hget_self, dpHalf_at hks, ?_⟩
                (repeat ((conv => whnf); first | refine Or.inl ?_ | refine Exists.intro _ (Exists.intro _ (And.intro hget_self (And.intro rfl ?_))) | refine Exists.intro _ (Exists.intro _ (And.intro ((hget_tail (by assumption)).trans hget_self) (And.intro rfl ?_))) | refine And.intro (by first | omega | exact rfl | (exact ⟨by omega, by omega⟩) | decide) ?_ | refine rng_i64 (by omega) (by omega) ?_ | refine rng_u8 (by omega) (by omega) ?_ | refine bsplit_tt ?_ | refine bsplit_ff ?_ | refine bsplit_not ?_ | refine bsplit_pos (by omega) ?_ | refine bsplit_neg (by omega) ?_ | rw [hset_self])); (conv => whnf)
                refine ⟨[(0, some (.str p)), (1, some (.str s)), (5, some (.own id 1 0 (s.length + 1))), (6, some (.int .i64 i)), (7, some (.own id2 1 0 (s.length + 1))), (8, some (.int .i64 (k + 1 : Nat)))], [(id2, .rows 1 (dpHalf p s i (k + 1))), (id, .rows 1 (dpRow p s i))],
                  ⟨rfl, rfl, rfl, rfl, rfl, rfl, trivial⟩, fin _ (by rw [hrow, h4, decide_eq_true (show 0 < k from by omega)]; rfl), _, ?_, k + 1, rfl, by omega, rfl, rfl⟩
                omega
              · (repeat ((conv => whnf); first | refine Or.inl ?_ | refine Exists.intro _ (Exists.intro _ (And.intro hget_self (And.intro rfl ?_))) | refine Exists.intro _ (Exists.intro _ (And.intro ((hget_tail (by assumption)).trans hget_self) (And.intro rfl ?_))) | refine And.intro (by first | omega | exact rfl | (exact ⟨by omega, by omega⟩) | decide) ?_ | refine rng_i64 (by omega) (by omega) ?_ | refine rng_u8 (by omega) (by omega) ?_ | refine bsplit_tt ?_ | refine bsplit_ff ?_ | refine bsplit_not ?_ | refine bsplit_pos (by omega) ?_ | refine bsplit_neg (by omega) ?_ | rw [hset_self])); (conv => whnf)
                refine ⟨_, _, hget_self, dpHalf_at hks, ?_⟩
                (repeat ((conv => whnf); first | refine Or.inl ?_ | refine Exists.intro _ (Exists.intro _ (And.intro hget_self (And.intro rfl ?_))) | refine Exists.intro _ (Exists.intro _ (And.intro ((hget_tail (by assumption)).trans hget_self) (And.intro rfl ?_))) | refine And.intro (by first | omega | exact rfl | (exact ⟨by omega, by omega⟩) | decide) ?_ | refine rng_i64 (by omega) (by omega) ?_ | refine rng_u8 (by omega) (by omega) ?_ | refine bsplit_tt ?_ | refine bsplit_ff ?_ | refine bsplit_not ?_ | refine bsplit_pos (by omega) ?_ | refine bsplit_neg (by omega) ?_ | rw [hset_self])); (conv => whnf)
                refine ⟨[(0, some (.str p)), (1, some (.str s)), (5, some (.own id 1 0 (s.length + 1))), (6, some (.int .i64 i)), (7, some (.own id2 1 0 (s.length + 1))), (8, some (.int .i64 (k + 1 : Nat)))], [(id2, .rows 1 (dpHalf p s i (k + 1))), (id, .rows 1 (dpRow p s i))],
                  ⟨rfl, rfl, rfl, rfl, rfl, rfl, trivial⟩, fin _ (by rw [hrow, h4, decide_eq_false (show ¬ 0 < k from by omega)]; rfl), _, ?_, k + 1, rfl, by omega, rfl, rfl⟩
                omega
          · (repeat ((conv => whnf); first | refine Or.inl ?_ | refine Exists.intro _ (Exists.intro _ (And.intro hget_self (And.intro rfl ?_))) | refine Exists.intro _ (Exists.intro _ (And.intro ((hget_tail (by assumption)).trans hget_self) (And.intro rfl ?_))) | refine And.intro (by first | omega | exact rfl | (exact ⟨by omega, by omega⟩) | decide) ?_ | refine rng_i64 (by omega) (by omega) ?_ | refine rng_u8 (by omega) (by omega) ?_ | refine bsplit_tt ?_ | refine bsplit_ff ?_ | refine bsplit_not ?_ | refine bsplit_pos (by omega) ?_ | refine bsplit_neg (by omega) ?_ | rw [hset_self])); (conv => whnf)
            have hc : p.getD i 0 ≠ 37 := mt (u8lit (p.getD i 0) 37 (by decide)).2 h3
            refine bsplit_dec (fun h4 => ?_) (fun h4 => ?_)
            · have hrow := row_chr hc (p.take i) s k (by omega) hks
              rw [← tk] at hrow
              (repeat ((conv => whnf); first | refine Or.inl ?_ | refine Exists.intro _ (Exists.intro _ (And.intro hget_self (And.intro rfl ?_))) | refine Exists.intro _ (Exists.intro _ (And.intro ((hget_tail (by assumption)).trans hget_self) (And.intro rfl ?_))) | refine And.intro (by first | omega | exact rfl | (exact ⟨by omega, by omega⟩) | decide) ?_ | refine rng_i64 (by omega) (by omega) ?_ | refine rng_u8 (by omega) (by omega) ?_ | refine bsplit_tt ?_ | refine bsplit_ff ?_ | refine bsplit_not ?_ | refine bsplit_pos (by omega) ?_ | refine bsplit_neg (by omega) ?_ | rw [hset_self])); (conv => whnf)
              refine ⟨_, _, (hget_tail hne).trans hget_self, dpRow_prev (by omega) hks, ?_⟩
              (repeat ((conv => whnf); first | refine Or.inl ?_ | refine Exists.intro _ (Exists.intro _ (And.intro hget_self (And.intro rfl ?_))) | refine Exists.intro _ (Exists.intro _ (And.intro ((hget_tail (by assumption)).trans hget_self) (And.intro rfl ?_))) | refine And.intro (by first | omega | exact rfl | (exact ⟨by omega, by omega⟩) | decide) ?_ | refine rng_i64 (by omega) (by omega) ?_ | refine rng_u8 (by omega) (by omega) ?_ | refine bsplit_tt ?_ | refine bsplit_ff ?_ | refine bsplit_not ?_ | refine bsplit_pos (by omega) ?_ | refine bsplit_neg (by omega) ?_ | rw [hset_self])); (conv => whnf)
              refine bsplit_intro (fun h5 => ?_) (fun h5 => ?_)
              · (repeat ((conv => whnf); first | refine Or.inl ?_ | refine Exists.intro _ (Exists.intro _ (And.intro hget_self (And.intro rfl ?_))) | refine Exists.intro _ (Exists.intro _ (And.intro ((hget_tail (by assumption)).trans hget_self) (And.intro rfl ?_))) | refine And.intro (by first | omega | exact rfl | (exact ⟨by omega, by omega⟩) | decide) ?_ | refine rng_i64 (by omega) (by omega) ?_ | refine rng_u8 (by omega) (by omega) ?_ | refine bsplit_tt ?_ | refine bsplit_ff ?_ | refine bsplit_not ?_ | refine bsplit_pos (by omega) ?_ | refine bsplit_neg (by omega) ?_ | rw [hset_self])); (conv => whnf)
                refine bsplit_dec (fun h6 => ?_) (fun h6 => ?_)
                · (repeat ((conv => whnf); first | refine Or.inl ?_ | refine Exists.intro _ (Exists.intro _ (And.intro hget_self (And.intro rfl ?_))) | refine Exists.intro _ (Exists.intro _ (And.intro ((hget_tail (by assumption)).trans hget_self) (And.intro rfl ?_))) | refine And.intro (by first | omega | exact rfl | (exact ⟨by omega, by omega⟩) | decide) ?_ | refine rng_i64 (by omega) (by omega) ?_ | refine rng_u8 (by omega) (by omega) ?_ | refine bsplit_tt ?_ | refine bsplit_ff ?_ | refine bsplit_not ?_ | refine bsplit_pos (by omega) ?_ | refine bsplit_neg (by omega) ?_ | rw [hset_self])); (conv => whnf)
                  refine ⟨_, _, hget_self, dpHalf_at hks, ?_⟩
                  (repeat ((conv => whnf); first | refine Or.inl ?_ | refine Exists.intro _ (Exists.intro _ (And.intro hget_self (And.intro rfl ?_))) | refine Exists.intro _ (Exists.intro _ (And.intro ((hget_tail (by assumption)).trans hget_self) (And.intro rfl ?_))) | refine And.intro (by first | omega | exact rfl | (exact ⟨by omega, by omega⟩) | decide) ?_ | refine rng_i64 (by omega) (by omega) ?_ | refine rng_u8 (by omega) (by omega) ?_ | refine bsplit_tt ?_ | refine bsplit_ff ?_ | refine bsplit_not ?_ | refine bsplit_pos (by omega) ?_ | refine bsplit_neg (by omega) ?_ | rw [hset_self])); (conv => whnf)
                  refine ⟨[(0, some (.str p)), (1, some (.str s)), (5, some (.own id 1 0 (s.length + 1))), (6, some (.int .i64 i)), (7, some (.own id2 1 0 (s.length + 1))), (8, some (.int .i64 (k + 1 : Nat)))], [(id2, .rows 1 (dpHalf p s i (k + 1))), (id, .rows 1 (dpRow p s i))],
                    ⟨rfl, rfl, rfl, rfl, rfl, rfl, trivial⟩, fin _ (by rw [hrow, h5, (u8lit (p.getD i 0) 95 (by decide)).1 h6]; rfl), _, ?_, k + 1, rfl, by omega, rfl, rfl⟩
                  omega
                · (repeat ((conv => whnf); first | refine Or.inl ?_ | refine Exists.intro _ (Exists.intro _ (And.intro hget_self (And.intro rfl ?_))) | refine Exists.intro _ (Exists.intro _ (And.intro ((hget_tail (by assumption)).trans hget_self) (And.intro rfl ?_))) | refine And.intro (by first | omega | exact rfl | (exact ⟨by omega, by omega⟩) | decide) ?_ | refine rng_i64 (by omega) (by omega) ?_ | refine rng_u8 (by omega) (by omega) ?_ | refine bsplit_tt ?_ | refine bsplit_ff ?_ | refine bsplit_not ?_ | refine bsplit_pos (by omega) ?_ | refine bsplit_neg (by omega) ?_ | rw [hset_self])); (conv => whnf)
                  refine ⟨_, _, hget_self, dpHalf_at hks, ?_⟩
                  (repeat ((conv => whnf); first | refine Or.inl ?_ | refine Exists.intro _ (Exists.intro _ (And.intro hget_self (And.intro rfl ?_))) | refine Exists.intro _ (Exists.intro _ (And.intro ((hget_tail (by assumption)).trans hget_self) (And.intro rfl ?_))) | refine And.intro (by first | omega | exact rfl | (exact ⟨by omega, by omega⟩) | decide) ?_ | refine rng_i64 (by omega) (by omega) ?_ | refine rng_u8 (by omega) (by omega) ?_ | refine bsplit_tt ?_ | refine bsplit_ff ?_ | refine bsplit_not ?_ | refine bsplit_pos (by omega) ?_ | refine bsplit_neg (by omega) ?_ | rw [hset_self])); (conv => whnf)
                  have h6' := mt (u8lit (p.getD i 0) 95 (by decide)).2 h6
                  refine ⟨[(0, some (.str p)), (1, some (.str s)), (5, some (.own id 1 0 (s.length + 1))), (6, some (.int .i64 i)), (7, some (.own id2 1 0 (s.length + 1))), (8, some (.int .i64 (k + 1 : Nat)))], [(id2, .rows 1 (dpHalf p s i (k + 1))), (id, .rows 1 (dpRow p s i))],
                    ⟨rfl, rfl, rfl, rfl, rfl, rfl, trivial⟩, fin _ ?_, _, ?_, k + 1, rfl, by omega, rfl, rfl⟩
                  · rw [hrow, h5, Bool.eq_iff_iff, decide_eq_true_eq, Int.toNat_natCast, show ((k : Int) - 1).toNat = k - 1 from by omega, u8eq]
                    simp
                    exact fun q => (h6' q).elim
                  · omega
              · (repeat ((conv => whnf); first | refine Or.inl ?_ | refine Exists.intro _ (Exists.intro _ (And.intro hget_self (And.intro rfl ?_))) | refine Exists.intro _ (Exists.intro _ (And.intro ((hget_tail (by assumption)).trans hget_self) (And.intro rfl ?_))) | refine And.intro (by first | omega | exact rfl | (exact ⟨by omega, by omega⟩) | decide) ?_ | refine rng_i64 (by omega) (by omega) ?_ | refine rng_u8 (by omega) (by omega) ?_ | refine bsplit_tt ?_ | refine bsplit_ff ?_ | refine bsplit_not ?_ | refine bsplit_pos (by omega) ?_ | refine bsplit_neg (by omega) ?_ | rw [hset_self])); (conv => whnf)
                refine ⟨_, _, hget_self, dpHalf_at hks, ?_⟩
                (repeat ((conv => whnf); first | refine Or.inl ?_ | refine Exists.intro _ (Exists.intro _ (And.intro hget_self (And.intro rfl ?_))) | refine Exists.intro _ (Exists.intro _ (And.intro ((hget_tail (by assumption)).trans hget_self) (And.intro rfl ?_))) | refine And.intro (by first | omega | exact rfl | (exact ⟨by omega, by omega⟩) | decide) ?_ | refine rng_i64 (by omega) (by omega) ?_ | refine rng_u8 (by omega) (by omega) ?_ | refine bsplit_tt ?_ | refine bsplit_ff ?_ | refine bsplit_not ?_ | refine bsplit_pos (by omega) ?_ | refine bsplit_neg (by omega) ?_ | rw [hset_self])); (conv => whnf)
                refine ⟨[(0, some (.str p)), (1, some (.str s)), (5, some (.own id 1 0 (s.length + 1))), (6, some (.int .i64 i)), (7, some (.own id2 1 0 (s.length + 1))), (8, some (.int .i64 (k + 1 : Nat)))], [(id2, .rows 1 (dpHalf p s i (k + 1))), (id, .rows 1 (dpRow p s i))],
                  ⟨rfl, rfl, rfl, rfl, rfl, rfl, trivial⟩, fin _ (by rw [hrow, h5]; rfl), _, ?_, k + 1, rfl, by omega, rfl, rfl⟩
                omega
            · (repeat ((conv => whnf); first | refine Or.inl ?_ | refine Exists.intro _ (Exists.intro _ (And.intro hget_self (And.intro rfl ?_))) | refine Exists.intro _ (Exists.intro _ (And.intro ((hget_tail (by assumption)).trans hget_self) (And.intro rfl ?_))) | refine And.intro (by first | omega | exact rfl | (exact ⟨by omega, by omega⟩) | decide) ?_ | refine rng_i64 (by omega) (by omega) ?_ | refine rng_u8 (by omega) (by omega) ?_ | refine bsplit_tt ?_ | refine bsplit_ff ?_ | refine bsplit_not ?_ | refine bsplit_pos (by omega) ?_ | refine bsplit_neg (by omega) ?_ | rw [hset_self])); (conv => whnf)
              have hk0 : k = 0 := by omega
              subst hk0
              refine ⟨[(0, some (.str p)), (1, some (.str s)), (5, some (.own id 1 0 (s.length + 1))), (6, some (.int .i64 i)), (7, some (.own id2 1 0 (s.length + 1))), (8, some (.int .i64 (0 + 1 : Nat)))], [(id2, .rows 1 (dpHalf p s i (0 + 1))), (id, .rows 1 (dpRow p s i))],
                ⟨rfl, rfl, rfl, rfl, rfl, rfl, trivial⟩, by rw [← dpHalf_skip (by rw [tk]; exact row_zero hc _ _)]; exact Sub.refl _, _, ?_, 0 + 1, rfl, by omega, rfl, rfl⟩
              omega
        · (repeat ((conv => whnf); first | refine Or.inl ?_ | refine Exists.intro _ (Exists.intro _ (And.intro hget_self (And.intro rfl ?_))) | refine Exists.intro _ (Exists.intro _ (And.intro ((hget_tail (by assumption)).trans hget_self) (And.intro rfl ?_))) | refine And.intro (by first | omega | exact rfl | (exact ⟨by omega, by omega⟩) | decide) ?_ | refine rng_i64 (by omega) (by omega) ?_ | refine rng_u8 (by omega) (by omega) ?_ | refine bsplit_tt ?_ | refine bsplit_ff ?_ | refine bsplit_not ?_ | refine bsplit_pos (by omega) ?_ | refine bsplit_neg (by omega) ?_ | rw [hset_self])); (conv => whnf)
          have hk2 : k = s.length + 1 := by omega
          subst hk2
          refine ⟨[(0, some (.str p)), (1, some (.str s)), (5, some (.own id2 1 0 (s.length + 1))), (6, some (.int .i64 (i + 1 : Nat)))], [(id2, .rows 1 (dpRow p s (i + 1)))], ⟨rfl, rfl, rfl, rfl, trivial⟩, ?_, _, ?_, i + 1, id2, rfl, by omega, rfl, rfl⟩
          · rw [dpHalf_full]
            intro j b q
            simp only [hget] at q ⊢
            split at q
            · rename_i e; rw [if_pos e]; exact q
            · cases q
          · omega
    · (repeat ((conv => whnf); first | refine Or.inl ?_ | refine Exists.intro _ (Exists.intro _ (And.intro hget_self (And.intro rfl ?_))) | refine Exists.intro _ (Exists.intro _ (And.intro ((hget_tail (by assumption)).trans hget_self) (And.intro rfl ?_))) | refine And.intro (by first | omega | exact rfl | (exact ⟨by omega, by omega⟩) | decide) ?_ | refine rng_i64 (by omega) (by omega) ?_ | refine rng_u8 (by omega) (by omega) ?_ | refine bsplit_tt ?_ | refine bsplit_ff ?_ | refine bsplit_not ?_ | refine bsplit_pos (by omega) ?_ | refine bsplit_neg (by omega) ?_ | rw [hset_self])); (conv => whnf)
      have hi2 : i = p.length := by omega
      subst hi2
      refine ⟨_, _, hget_self, dpRow_at (Nat.le_refl _), ?_⟩
      (repeat ((conv => whnf); first | refine Or.inl ?_ | refine Exists.intro _ (Exists.intro _ (And.intro hget_self (And.intro rfl ?_))) | refine Exists.intro _ (Exists.intro _ (And.intro ((hget_tail (by assumption)).trans hget_self) (And.intro rfl ?_))) | refine And.intro (by first | omega | exact rfl | (exact ⟨by omega, by omega⟩) | decide) ?_ | refine rng_i64 (by omega) (by omega) ?_ | refine rng_u8 (by omega) (by omega) ?_ | refine bsplit_tt ?_ | refine bsplit_ff ?_ | refine bsplit_not ?_ | refine bsplit_pos (by omega) ?_ | refine bsplit_neg (by omega) ?_ | rw [hset_self])); (conv => whnf)
      simp
theorem ref_Match_spec (p s : List UInt8) (hp : p.length ≤ 140737488351230) (hs : s.length ≤ 140737488351230) (H : AH) : ACalls PG broadsheetref17_Match.n [.str p, .str s] H fun r H' => r = .bool (mtB p s) ∧ H' = H := .plain rfl (ref_Match_spec0 p s hp hs)
end Go.Proofs.Ytehkmfmahgabmaa
