/- What the reference's functions compute, and the other functions of 'like'. -/
import Derived.Test.YtehkmfmahgabmaaLikeJoinsLaw
import Derived.Test.YtehkmfmahgabmaaLikeDp
namespace Go.Proofs.Ytehkmfmahgabmaa
set_option autoImplicit false
set_option linter.unusedSimpArgs false
set_option linter.unusedVariables false
attribute [local irreducible] callA callP ACalls

theorem ref_Lead_spec (p : List UInt8) (hp : p.length ≤ 140737488351232) (H : AH) : ACalls PG broadsheetref17_Lead.n [.str p] H fun r H' => r = .str (lead p) ∧ H' = H := by
  refine broadsheetref17_Lead.of rfl (wpF_start ?_)
  (repeat ((conv => whnf); first | refine Or.inl ?_ | refine Exists.intro _ (Exists.intro _ (And.intro hget_self (And.intro rfl ?_))) | refine Exists.intro _ (Exists.intro _ (And.intro ((hget_tail (by assumption)).trans hget_self) (And.intro rfl ?_))) | refine And.intro (by first | omega | exact rfl | (exact ⟨by omega, by omega⟩) | decide) ?_ | refine rng_i64 (by omega) (by omega) ?_ | refine rng_u8 (by omega) (by omega) ?_ | refine bsplit_tt ?_ | refine bsplit_ff ?_ | refine bsplit_not ?_ | refine bsplit_pos (by omega) ?_ | refine bsplit_neg (by omega) ?_ | rw [hset_self])); (conv => whnf)
  refine ⟨fun n L H' => ∃ i : Nat, n = p.length - i ∧ i ≤ p.length ∧ lead p = p.take i ++ lead (p.drop i) ∧ L = [(0, some (.str p)), (3, some (.int .i64 i))] ∧ H' = H, ⟨_, H, ?_, Sub.refl H, _, 0, rfl, Nat.zero_le _, rfl, rfl, rfl⟩, ?_⟩
  · refine ⟨rfl, rfl, trivial⟩
  · rintro n L H' ⟨i, rfl, hi, hl, rfl, rfl⟩
    (repeat ((conv => whnf); first | refine Or.inl ?_ | refine Exists.intro _ (Exists.intro _ (And.intro hget_self (And.intro rfl ?_))) | refine Exists.intro _ (Exists.intro _ (And.intro ((hget_tail (by assumption)).trans hget_self) (And.intro rfl ?_))) | refine And.intro (by first | omega | exact rfl | (exact ⟨by omega, by omega⟩) | decide) ?_ | refine rng_i64 (by omega) (by omega) ?_ | refine rng_u8 (by omega) (by omega) ?_ | refine bsplit_tt ?_ | refine bsplit_ff ?_ | refine bsplit_not ?_ | refine bsplit_pos (by omega) ?_ | refine bsplit_neg (by omega) ?_ | rw [hset_self])); (conv => whnf)
    refine bsplit_dec (fun h => ?_) (fun h => ?_)
    · (repeat ((conv => whnf); first | refine Or.inl ?_ | refine Exists.intro _ (Exists.intro _ (And.intro hget_self (And.intro rfl ?_))) | refine Exists.intro _ (Exists.intro _ (And.intro ((hget_tail (by assumption)).trans hget_self) (And.intro rfl ?_))) | refine And.intro (by first | omega | exact rfl | (exact ⟨by omega, by omega⟩) | decide) ?_ | refine rng_i64 (by omega) (by omega) ?_ | refine rng_u8 (by omega) (by omega) ?_ | refine bsplit_tt ?_ | refine bsplit_ff ?_ | refine bsplit_not ?_ | refine bsplit_pos (by omega) ?_ | refine bsplit_neg (by omega) ?_ | rw [hset_self])); (conv => whnf)
      refine bsplit_dec (fun h2 => ?_) (fun h2 => ?_)
      · (repeat ((conv => whnf); first | refine Or.inl ?_ | refine Exists.intro _ (Exists.intro _ (And.intro hget_self (And.intro rfl ?_))) | refine Exists.intro _ (Exists.intro _ (And.intro ((hget_tail (by assumption)).trans hget_self) (And.intro rfl ?_))) | refine And.intro (by first | omega | exact rfl | (exact ⟨by omega, by omega⟩) | decide) ?_ | refine rng_i64 (by omega) (by omega) ?_ | refine rng_u8 (by omega) (by omega) ?_ | refine bsplit_tt ?_ | refine bsplit_ff ?_ | refine bsplit_not ?_ | refine bsplit_pos (by omega) ?_ | refine bsplit_neg (by omega) ?_ | rw [hset_self])); (conv => whnf)
        exact ⟨by rw [lead_stop (by omega) hl (by rw [(u8lit (p.getD i 0) 37 (by decide)).1 h2]; rfl)]; rfl, rfl⟩
      · (repeat ((conv => whnf); first | refine Or.inl ?_ | refine Exists.intro _ (Exists.intro _ (And.intro hget_self (And.intro rfl ?_))) | refine Exists.intro _ (Exists.intro _ (And.intro ((hget_tail (by assumption)).trans hget_self) (And.intro rfl ?_))) | refine And.intro (by first | omega | exact rfl | (exact ⟨by omega, by omega⟩) | decide) ?_ | refine rng_i64 (by omega) (by omega) ?_ | refine rng_u8 (by omega) (by omega) ?_ | refine bsplit_tt ?_ | refine bsplit_ff ?_ | refine bsplit_not ?_ | refine bsplit_pos (by omega) ?_ | refine bsplit_neg (by omega) ?_ | rw [hset_self])); (conv => whnf)
        refine bsplit_dec (fun h3 => ?_) (fun h3 => ?_)
        · (repeat ((conv => whnf); first | refine Or.inl ?_ | refine Exists.intro _ (Exists.intro _ (And.intro hget_self (And.intro rfl ?_))) | refine Exists.intro _ (Exists.intro _ (And.intro ((hget_tail (by assumption)).trans hget_self) (And.intro rfl ?_))) | refine And.intro (by first | omega | exact rfl | (exact ⟨by omega, by omega⟩) | decide) ?_ | refine rng_i64 (by omega) (by omega) ?_ | refine rng_u8 (by omega) (by omega) ?_ | refine bsplit_tt ?_ | refine bsplit_ff ?_ | refine bsplit_not ?_ | refine bsplit_pos (by omega) ?_ | refine bsplit_neg (by omega) ?_ | rw [hset_self])); (conv => whnf)
          exact ⟨by rw [lead_stop (by omega) hl (by rw [(u8lit (p.getD i 0) 95 (by decide)).1 h3]; rfl)]; rfl, rfl⟩
        · (repeat ((conv => whnf); first | refine Or.inl ?_ | refine Exists.intro _ (Exists.intro _ (And.intro hget_self (And.intro rfl ?_))) | refine Exists.intro _ (Exists.intro _ (And.intro ((hget_tail (by assumption)).trans hget_self) (And.intro rfl ?_))) | refine And.intro (by first | omega | exact rfl | (exact ⟨by omega, by omega⟩) | decide) ?_ | refine rng_i64 (by omega) (by omega) ?_ | refine rng_u8 (by omega) (by omega) ?_ | refine bsplit_tt ?_ | refine bsplit_ff ?_ | refine bsplit_not ?_ | refine bsplit_pos (by omega) ?_ | refine bsplit_neg (by omega) ?_ | rw [hset_self])); (conv => whnf)
          refine ⟨[(0, some (.str p)), (3, some (.int .i64 (i + 1 : Nat)))], H', ⟨rfl, rfl, trivial⟩, Sub.refl _, _, ?_, i + 1, rfl, by omega, lead_go (by omega) hl ?_, rfl, rfl⟩
          · omega
          · have h2' := mt (u8lit (p.getD i 0) 37 (by decide)).2 h2
            have h3' := mt (u8lit (p.getD i 0) 95 (by decide)).2 h3
            simp only [wild, Bool.or_eq_false_iff, beq_eq_false_iff_ne, ne_eq]
            exact ⟨h2', h3'⟩
    · (repeat ((conv => whnf); first | refine Or.inl ?_ | refine Exists.intro _ (Exists.intro _ (And.intro hget_self (And.intro rfl ?_))) | refine Exists.intro _ (Exists.intro _ (And.intro ((hget_tail (by assumption)).trans hget_self) (And.intro rfl ?_))) | refine And.intro (by first | omega | exact rfl | (exact ⟨by omega, by omega⟩) | decide) ?_ | refine rng_i64 (by omega) (by omega) ?_ | refine rng_u8 (by omega) (by omega) ?_ | refine bsplit_tt ?_ | refine bsplit_ff ?_ | refine bsplit_not ?_ | refine bsplit_pos (by omega) ?_ | refine bsplit_neg (by omega) ?_ | rw [hset_self])); (conv => whnf)
      have : i = p.length := by omega
      subst this
      refine ⟨?_, rfl⟩
      rw [hl]; simp [lead]

theorem ref_Least_spec (p : List UInt8) (hp : p.length ≤ 140737488351232) (H : AH) : ACalls PG broadsheetref17_Least.n [.str p] H fun r H' => r = .int .i64 (lst p : Nat) ∧ H' = H := by
  refine broadsheetref17_Least.of rfl (wpF_start ?_)
  (repeat ((conv => whnf); first | refine Or.inl ?_ | refine Exists.intro _ (Exists.intro _ (And.intro hget_self (And.intro rfl ?_))) | refine Exists.intro _ (Exists.intro _ (And.intro ((hget_tail (by assumption)).trans hget_self) (And.intro rfl ?_))) | refine And.intro (by first | omega | exact rfl | (exact ⟨by omega, by omega⟩) | decide) ?_ | refine rng_i64 (by omega) (by omega) ?_ | refine rng_u8 (by omega) (by omega) ?_ | refine bsplit_tt ?_ | refine bsplit_ff ?_ | refine bsplit_not ?_ | refine bsplit_pos (by omega) ?_ | refine bsplit_neg (by omega) ?_ | rw [hset_self])); (conv => whnf)
  refine ⟨fun n L H' => ∃ i : Nat, n = p.length - i ∧ i ≤ p.length ∧ L = [(0, some (.str p)), (3, some (.int .i64 (lst (p.take i) : Nat))), (4, some (.int .i64 i))] ∧ H' = H, ⟨_, H, ?_, Sub.refl H, _, 0, rfl, Nat.zero_le _, rfl, rfl⟩, ?_⟩
  · refine ⟨rfl, rfl, rfl, trivial⟩
  · rintro n L H' ⟨i, rfl, hi, rfl, rfl⟩
    have hll := lst_le (p.take i)
    rw [List.length_take] at hll
    (repeat ((conv => whnf); first | refine Or.inl ?_ | refine Exists.intro _ (Exists.intro _ (And.intro hget_self (And.intro rfl ?_))) | refine Exists.intro _ (Exists.intro _ (And.intro ((hget_tail (by assumption)).trans hget_self) (And.intro rfl ?_))) | refine And.intro (by first | omega | exact rfl | (exact ⟨by omega, by omega⟩) | decide) ?_ | refine rng_i64 (by omega) (by omega) ?_ | refine rng_u8 (by omega) (by omega) ?_ | refine bsplit_tt ?_ | refine bsplit_ff ?_ | refine bsplit_not ?_ | refine bsplit_pos (by omega) ?_ | refine bsplit_neg (by omega) ?_ | rw [hset_self])); (conv => whnf)
    refine bsplit_dec (fun h => ?_) (fun h => ?_)
    · have hsn := lst_snoc (p.take i) (p.getD i 0)
      rw [← take_at p 0 i (by omega)] at hsn
      (repeat ((conv => whnf); first | refine Or.inl ?_ | refine Exists.intro _ (Exists.intro _ (And.intro hget_self (And.intro rfl ?_))) | refine Exists.intro _ (Exists.intro _ (And.intro ((hget_tail (by assumption)).trans hget_self) (And.intro rfl ?_))) | refine And.intro (by first | omega | exact rfl | (exact ⟨by omega, by omega⟩) | decide) ?_ | refine rng_i64 (by omega) (by omega) ?_ | refine rng_u8 (by omega) (by omega) ?_ | refine bsplit_tt ?_ | refine bsplit_ff ?_ | refine bsplit_not ?_ | refine bsplit_pos (by omega) ?_ | refine bsplit_neg (by omega) ?_ | rw [hset_self])); (conv => whnf)
      refine bsplit_dec (fun h2 => ?_) (fun h2 => ?_)
      · (repeat ((conv => whnf); first | refine Or.inl ?_ | refine Exists.intro _ (Exists.intro _ (And.intro hget_self (And.intro rfl ?_))) | refine Exists.intro _ (Exists.intro _ (And.intro ((hget_tail (by assumption)).trans hget_self) (And.intro rfl ?_))) | refine And.intro (by first | omega | exact rfl | (exact ⟨by omega, by omega⟩) | decide) ?_ | refine rng_i64 (by omega) (by omega) ?_ | refine rng_u8 (by omega) (by omega) ?_ | refine bsplit_tt ?_ | refine bsplit_ff ?_ | refine bsplit_not ?_ | refine bsplit_pos (by omega) ?_ | refine bsplit_neg (by omega) ?_ | rw [hset_self])); (conv => whnf)
        rw [if_neg (show ¬ p.getD i 0 = 37 from mt (u8lit (p.getD i 0) 37 (by decide)).2 h2)] at hsn
        refine ⟨[(0, some (.str p)), (3, some (.int .i64 (lst (p.take (i + 1)) : Nat))), (4, some (.int .i64 (i + 1 : Nat)))], H', ⟨rfl, by rw [hsn]; rfl, rfl, trivial⟩, Sub.refl _, _, ?_, i + 1, rfl, by omega, rfl, rfl⟩
        omega
      · (repeat ((conv => whnf); first | refine Or.inl ?_ | refine Exists.intro _ (Exists.intro _ (And.intro hget_self (And.intro rfl ?_))) | refine Exists.intro _ (Exists.intro _ (And.intro ((hget_tail (by assumption)).trans hget_self) (And.intro rfl ?_))) | refine And.intro (by first | omega | exact rfl | (exact ⟨by omega, by omega⟩) | decide) ?_ | refine rng_i64 (by omega) (by omega) ?_ | refine rng_u8 (by omega) (by omega) ?_ | refine bsplit_tt ?_ | refine bsplit_ff ?_ | refine bsplit_not ?_ | refine bsplit_pos (by omega) ?_ | refine bsplit_neg (by omega) ?_ | rw [hset_self])); (conv => whnf)
        rw [if_pos (show p.getD i 0 = 37 from (u8lit (p.getD i 0) 37 (by decide)).1 (Classical.not_not.1 h2))] at hsn
        refine ⟨[(0, some (.str p)), (3, some (.int .i64 (lst (p.take (i + 1)) : Nat))), (4, some (.int .i64 (i + 1 : Nat)))], H', ⟨rfl, by rw [hsn]; rfl, rfl, trivial⟩, Sub.refl _, _, ?_, i + 1, rfl, by omega, rfl, rfl⟩
        omega
    · (repeat ((conv => whnf); first | refine Or.inl ?_ | refine Exists.intro _ (Exists.intro _ (And.intro hget_self (And.intro rfl ?_))) | refine Exists.intro _ (Exists.intro _ (And.intro ((hget_tail (by assumption)).trans hget_self) (And.intro rfl ?_))) | refine And.intro (by first | omega | exact rfl | (exact ⟨by omega, by omega⟩) | decide) ?_ | refine rng_i64 (by omega) (by omega) ?_ | refine rng_u8 (by omega) (by omega) ?_ | refine bsplit_tt ?_ | refine bsplit_ff ?_ | refine bsplit_not ?_ | refine bsplit_pos (by omega) ?_ | refine bsplit_neg (by omega) ?_ | rw [hset_self])); (conv => whnf)
      have : i = p.length := by omega
      subst this
      simp

theorem Count_pct (p : List UInt8) (H : AH) : ACalls PG strings_Count.n [.str p, .str [37]] H fun r H' => r = .int .i64 (p.count 37 : Nat) ∧ H' = H := by
  refine strings_Count.of rfl (wpF_start ?_)
  (repeat ((conv => whnf); first | refine Or.inl ?_ | refine Exists.intro _ (Exists.intro _ (And.intro hget_self (And.intro rfl ?_))) | refine Exists.intro _ (Exists.intro _ (And.intro ((hget_tail (by assumption)).trans hget_self) (And.intro rfl ?_))) | refine And.intro (by first | omega | exact rfl | (exact ⟨by omega, by omega⟩) | decide) ?_ | refine rng_i64 (by omega) (by omega) ?_ | refine rng_u8 (by omega) (by omega) ?_ | refine bsplit_tt ?_ | refine bsplit_ff ?_ | refine bsplit_not ?_ | refine bsplit_pos (by omega) ?_ | refine bsplit_neg (by omega) ?_ | rw [hset_self])); (conv => whnf)

theorem like_Least_spec (p : List UInt8) (hp : p.length ≤ 140737488351232) (H : AH) : ACalls PG like_Least.n [.str p] H fun r H' => r = .int .i64 (lst p : Nat) ∧ H' = H := by
  have hc := lst_count p
  refine like_Least.of rfl (wpF_start ?_)
  (repeat ((conv => whnf); first | refine Or.inl ?_ | refine Exists.intro _ (Exists.intro _ (And.intro hget_self (And.intro rfl ?_))) | refine Exists.intro _ (Exists.intro _ (And.intro ((hget_tail (by assumption)).trans hget_self) (And.intro rfl ?_))) | refine And.intro (by first | omega | exact rfl | (exact ⟨by omega, by omega⟩) | decide) ?_ | refine rng_i64 (by omega) (by omega) ?_ | refine rng_u8 (by omega) (by omega) ?_ | refine bsplit_tt ?_ | refine bsplit_ff ?_ | refine bsplit_not ?_ | refine bsplit_pos (by omega) ?_ | refine bsplit_neg (by omega) ?_ | rw [hset_self])); (conv => whnf)
  refine callF_eq (Count_pct _ _) ?_
  (repeat ((conv => whnf); first | refine Or.inl ?_ | refine Exists.intro _ (Exists.intro _ (And.intro hget_self (And.intro rfl ?_))) | refine Exists.intro _ (Exists.intro _ (And.intro ((hget_tail (by assumption)).trans hget_self) (And.intro rfl ?_))) | refine And.intro (by first | omega | exact rfl | (exact ⟨by omega, by omega⟩) | decide) ?_ | refine rng_i64 (by omega) (by omega) ?_ | refine rng_u8 (by omega) (by omega) ?_ | refine bsplit_tt ?_ | refine bsplit_ff ?_ | refine bsplit_not ?_ | refine bsplit_pos (by omega) ?_ | refine bsplit_neg (by omega) ?_ | rw [hset_self])); (conv => whnf)
  exact ⟨by rw [show (p.length : Int) - (p.count 37 : Nat) = (lst p : Nat) from by omega], rfl⟩

theorem like_suffix_spec (p s : List UInt8) (hp : p.length ≤ 140737488351232) (hs : s.length ≤ 140737488351230) (H : AH) : ACalls PG broadsheetlaw17_suffix.n [.str p, .str s] H fun r H' => r = .bool (mtB (37 :: p) s) ∧ H' = H := by
  refine broadsheetlaw17_suffix.of rfl (wpF_start ?_)
  (repeat ((conv => whnf); first | refine Or.inl ?_ | refine Exists.intro _ (Exists.intro _ (And.intro hget_self (And.intro rfl ?_))) | refine Exists.intro _ (Exists.intro _ (And.intro ((hget_tail (by assumption)).trans hget_self) (And.intro rfl ?_))) | refine And.intro (by first | omega | exact rfl | (exact ⟨by omega, by omega⟩) | decide) ?_ | refine rng_i64 (by omega) (by omega) ?_ | refine rng_u8 (by omega) (by omega) ?_ | refine bsplit_tt ?_ | refine bsplit_ff ?_ | refine bsplit_not ?_ | refine bsplit_pos (by omega) ?_ | refine bsplit_neg (by omega) ?_ | rw [hset_self])); (conv => whnf)
  refine ⟨fun n L H' => ∃ i : Nat, n = s.length + 1 - i ∧ i ≤ s.length + 1 ∧ (∀ j, j < i → ¬ Mt p (s.drop j)) ∧ L = [(0, some (.str p)), (1, some (.str s)), (5, some (.int .i64 i))] ∧ H' = H, ⟨_, H, ?_, Sub.refl H, _, 0, rfl, Nat.zero_le _, fun j hj => by omega, rfl, rfl⟩, ?_⟩
  · refine ⟨rfl, rfl, rfl, trivial⟩
  · rintro n L H' ⟨i, rfl, hi, hno, rfl, rfl⟩
    (repeat ((conv => whnf); first | refine Or.inl ?_ | refine Exists.intro _ (Exists.intro _ (And.intro hget_self (And.intro rfl ?_))) | refine Exists.intro _ (Exists.intro _ (And.intro ((hget_tail (by assumption)).trans hget_self) (And.intro rfl ?_))) | refine And.intro (by first | omega | exact rfl | (exact ⟨by omega, by omega⟩) | decide) ?_ | refine rng_i64 (by omega) (by omega) ?_ | refine rng_u8 (by omega) (by omega) ?_ | refine bsplit_tt ?_ | refine bsplit_ff ?_ | refine bsplit_not ?_ | refine bsplit_pos (by omega) ?_ | refine bsplit_neg (by omega) ?_ | rw [hset_self])); (conv => whnf)
    refine bsplit_dec (fun h => ?_) (fun h => ?_)
    · (repeat ((conv => whnf); first | refine Or.inl ?_ | refine Exists.intro _ (Exists.intro _ (And.intro hget_self (And.intro rfl ?_))) | refine Exists.intro _ (Exists.intro _ (And.intro ((hget_tail (by assumption)).trans hget_self) (And.intro rfl ?_))) | refine And.intro (by first | omega | exact rfl | (exact ⟨by omega, by omega⟩) | decide) ?_ | refine rng_i64 (by omega) (by omega) ?_ | refine rng_u8 (by omega) (by omega) ?_ | refine bsplit_tt ?_ | refine bsplit_ff ?_ | refine bsplit_not ?_ | refine bsplit_pos (by omega) ?_ | refine bsplit_neg (by omega) ?_ | rw [hset_self])); (conv => whnf)
      refine callF_eq (like_Match_spec _ _ hp (by simp; omega) _) ?_
      rw [show List.drop (i : Int).toNat (List.take (s.length : Int).toNat s) = s.drop i from by simp]
      (repeat ((conv => whnf); first | refine Or.inl ?_ | refine Exists.intro _ (Exists.intro _ (And.intro hget_self (And.intro rfl ?_))) | refine Exists.intro _ (Exists.intro _ (And.intro ((hget_tail (by assumption)).trans hget_self) (And.intro rfl ?_))) | refine And.intro (by first | omega | exact rfl | (exact ⟨by omega, by omega⟩) | decide) ?_ | refine rng_i64 (by omega) (by omega) ?_ | refine rng_u8 (by omega) (by omega) ?_ | refine bsplit_tt ?_ | refine bsplit_ff ?_ | refine bsplit_not ?_ | refine bsplit_pos (by omega) ?_ | refine bsplit_neg (by omega) ?_ | rw [hset_self])); (conv => whnf)
      refine bsplit_intro (fun h7 => ?_) (fun h7 => ?_)
      · (repeat ((conv => whnf); first | refine Or.inl ?_ | refine Exists.intro _ (Exists.intro _ (And.intro hget_self (And.intro rfl ?_))) | refine Exists.intro _ (Exists.intro _ (And.intro ((hget_tail (by assumption)).trans hget_self) (And.intro rfl ?_))) | refine And.intro (by first | omega | exact rfl | (exact ⟨by omega, by omega⟩) | decide) ?_ | refine rng_i64 (by omega) (by omega) ?_ | refine rng_u8 (by omega) (by omega) ?_ | refine bsplit_tt ?_ | refine bsplit_ff ?_ | refine bsplit_not ?_ | refine bsplit_pos (by omega) ?_ | refine bsplit_neg (by omega) ?_ | rw [hset_self])); (conv => whnf)
        exact ⟨by rw [mtB_true ((Mt_pct_cons p s).2 ⟨i, by omega, mtB_iff.1 h7⟩)], rfl⟩
      · (repeat ((conv => whnf); first | refine Or.inl ?_ | refine Exists.intro _ (Exists.intro _ (And.intro hget_self (And.intro rfl ?_))) | refine Exists.intro _ (Exists.intro _ (And.intro ((hget_tail (by assumption)).trans hget_self) (And.intro rfl ?_))) | refine And.intro (by first | omega | exact rfl | (exact ⟨by omega, by omega⟩) | decide) ?_ | refine rng_i64 (by omega) (by omega) ?_ | refine rng_u8 (by omega) (by omega) ?_ | refine bsplit_tt ?_ | refine bsplit_ff ?_ | refine bsplit_not ?_ | refine bsplit_pos (by omega) ?_ | refine bsplit_neg (by omega) ?_ | rw [hset_self])); (conv => whnf)
        refine ⟨[(0, some (.str p)), (1, some (.str s)), (5, some (.int .i64 (i + 1 : Nat)))], H', ⟨rfl, rfl, rfl, trivial⟩, Sub.refl _, _, ?_, i + 1, rfl, by omega, ?_, rfl, rfl⟩
        · omega
        · intro j hj
          by_cases e : j = i
          · subst e; intro q; rw [mtB_true q] at h7; cases h7
          · exact hno j (by omega)
    · (repeat ((conv => whnf); first | refine Or.inl ?_ | refine Exists.intro _ (Exists.intro _ (And.intro hget_self (And.intro rfl ?_))) | refine Exists.intro _ (Exists.intro _ (And.intro ((hget_tail (by assumption)).trans hget_self) (And.intro rfl ?_))) | refine And.intro (by first | omega | exact rfl | (exact ⟨by omega, by omega⟩) | decide) ?_ | refine rng_i64 (by omega) (by omega) ?_ | refine rng_u8 (by omega) (by omega) ?_ | refine bsplit_tt ?_ | refine bsplit_ff ?_ | refine bsplit_not ?_ | refine bsplit_pos (by omega) ?_ | refine bsplit_neg (by omega) ?_ | rw [hset_self])); (conv => whnf)
      refine ⟨?_, rfl⟩
      rw [mtB_false]
      rw [Mt_pct_cons]
      rintro ⟨k, h1, h2⟩
      exact hno k (by omega) h2
end Go.Proofs.Ytehkmfmahgabmaa
