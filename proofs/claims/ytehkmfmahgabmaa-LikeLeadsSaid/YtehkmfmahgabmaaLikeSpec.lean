/- What the functions of 'like' compute. -/
import Derived.Test.YtehkmfmahgabmaaSimFast2
import Derived.Test.YtehkmfmahgabmaaCodeA
import Derived.Test.YtehkmfmahgabmaaLikeMath
namespace Go.Proofs.Ytehkmfmahgabmaa
set_option autoImplicit false
set_option linter.unusedSimpArgs false
set_option linter.unusedVariables false
attribute [local irreducible] callA callP ACalls

theorem like_Lead_spec (p : List UInt8) (hp : p.length ≤ 140737488351232) (H : AH) : ACalls PG like_Lead.n [.str p] H fun r H' => r = .str (lead p) ∧ H' = H := by
  refine like_Lead.of rfl (wpF_start ?_)
  (repeat ((conv => whnf); first | refine Or.inl ?_ | refine Exists.intro _ (Exists.intro _ (And.intro hget_self (And.intro rfl ?_))) | refine Exists.intro _ (Exists.intro _ (And.intro ((hget_tail (by assumption)).trans hget_self) (And.intro rfl ?_))) | refine And.intro (by first | omega | exact rfl | (exact ⟨by omega, by omega⟩) | decide) ?_ | refine rng_i64 (by omega) (by omega) ?_ | refine rng_u8 (by omega) (by omega) ?_ | refine bsplit_tt ?_ | refine bsplit_ff ?_ | refine bsplit_not ?_ | refine bsplit_pos (by omega) ?_ | refine bsplit_neg (by omega) ?_ | rw [hset_self])); (conv => whnf)
  refine ⟨fun n L H' => ∃ i : Nat, n = p.length - i ∧ i ≤ p.length ∧ lead p = p.take i ++ lead (p.drop i) ∧ L = [(0, some (.str p)), (5, some (.int .i64 p.length)), (6, some (.int .i64 i))] ∧ H' = H, ⟨_, H, ?_, Sub.refl H, _, 0, rfl, Nat.zero_le _, rfl, rfl, rfl⟩, ?_⟩
  · refine ⟨rfl, rfl, rfl, trivial⟩
  · rintro n L H' ⟨i, rfl, hi, hl, rfl, rfl⟩
    (repeat ((conv => whnf); first | refine Or.inl ?_ | refine Exists.intro _ (Exists.intro _ (And.intro hget_self (And.intro rfl ?_))) | refine Exists.intro _ (Exists.intro _ (And.intro ((hget_tail (by assumption)).trans hget_self) (And.intro rfl ?_))) | refine And.intro (by first | omega | exact rfl | (exact ⟨by omega, by omega⟩) | decide) ?_ | refine rng_i64 (by omega) (by omega) ?_ | refine rng_u8 (by omega) (by omega) ?_ | refine bsplit_tt ?_ | refine bsplit_ff ?_ | refine bsplit_not ?_ | refine bsplit_pos (by omega) ?_ | refine bsplit_neg (by omega) ?_ | rw [hset_self])); (conv => whnf)
    refine bsplit_dec (fun h => ?_) (fun h => ?_)
    · (repeat ((conv => whnf); first | refine Or.inl ?_ | refine Exists.intro _ (Exists.intro _ (And.intro hget_self (And.intro rfl ?_))) | refine Exists.intro _ (Exists.intro _ (And.intro ((hget_tail (by assumption)).trans hget_self) (And.intro rfl ?_))) | refine And.intro (by first | omega | exact rfl | (exact ⟨by omega, by omega⟩) | decide) ?_ | refine rng_i64 (by omega) (by omega) ?_ | refine rng_u8 (by omega) (by omega) ?_ | refine bsplit_tt ?_ | refine bsplit_ff ?_ | refine bsplit_not ?_ | refine bsplit_pos (by omega) ?_ | refine bsplit_neg (by omega) ?_ | rw [hset_self])); (conv => whnf)
      refine bsplit_dec (fun h2 => ?_) (fun h2 => ?_)
      · (repeat ((conv => whnf); first | refine Or.inl ?_ | refine Exists.intro _ (Exists.intro _ (And.intro hget_self (And.intro rfl ?_))) | refine Exists.intro _ (Exists.intro _ (And.intro ((hget_tail (by assumption)).trans hget_self) (And.intro rfl ?_))) | refine And.intro (by first | omega | exact rfl | (exact ⟨by omega, by omega⟩) | decide) ?_ | refine rng_i64 (by omega) (by omega) ?_ | refine rng_u8 (by omega) (by omega) ?_ | refine bsplit_tt ?_ | refine bsplit_ff ?_ | refine bsplit_not ?_ | refine bsplit_pos (by omega) ?_ | refine bsplit_neg (by omega) ?_ | rw [hset_self])); (conv => whnf)
        exact ⟨by rw [lead_stop (by omega) hl (by rw [(u8lit (p.getD i 0) 37 (by decide)).1 h2]; rfl)]; rfl, rfl⟩
      · (repeat ((conv => whnf); first | refine Or.inl ?_ | refine Exists.intro _ (Exists.intro _ (And.intro hget_self (And.intro rfl ?_))) | refine Exists.intro _ (Exists.intro _ (And.intro ((hget_tail (by assumption)).trans hget_self) (And.intro rfl ?_))) | refine And.intro (by first | omega | exact rfl | (exact ⟨by omega, by omega⟩) | decide) ?_ | refine rng_i64 (by omega) (by omega) ?_ | refine rng_u8 (by omega) (by omega) ?_ | refine bsplit_tt ?_ | refine bsplit_ff ?_ | refine bsplit_not ?_ | refine bsplit_pos (by omega) ?_ | refine bsplit_neg (by omega) ?_ | rw [hset_self])); (conv => whnf)
        refine bsplit_dec (fun h3 => ?_) (fun h3 => ?_)
        · (repeat ((conv => whnf); first | refine Or.inl ?_ | refine Exists.intro _ (Exists.intro _ (And.intro hget_self (And.intro rfl ?_))) | refine Exists.intro _ (Exists.intro _ (And.intro ((hget_tail (by assumption)).trans hget_self) (And.intro rfl ?_))) | refine And.intro (by first | omega | exact rfl | (exact ⟨by omega, by omega⟩) | decide) ?_ | refine rng_i64 (by omega) (by omega) ?_ | refine rng_u8 (by omega) (by omega) ?_ | refine bsplit_tt ?_ | refine bsplit_ff ?_ | refine bsplit_not ?_ | refine bsplit_pos (by omega) ?_ | refine bsplit_neg (by omega) ?_ | rw [hset_self])); (conv => whnf)
          exact ⟨by rw [lead_stop (by omega) hl (by rw [(u8lit (p.getD i 0) 95 (by decide)).1 h3]; rfl)]; rfl, rfl⟩
        · (repeat ((conv => whnf); first | refine Or.inl ?_ | refine Exists.intro _ (Exists.intro _ (And.intro hget_self (And.intro rfl ?_))) | refine Exists.intro _ (Exists.intro _ (And.intro ((hget_tail (by assumption)).trans hget_self) (And.intro rfl ?_))) | refine And.intro (by first | omega | exact rfl | (exact ⟨by omega, by omega⟩) | decide) ?_ | refine rng_i64 (by omega) (by omega) ?_ | refine rng_u8 (by omega) (by omega) ?_ | refine bsplit_tt ?_ | refine bsplit_ff ?_ | refine bsplit_not ?_ | refine bsplit_pos (by omega) ?_ | refine bsplit_neg (by omega) ?_ | rw [hset_self])); (conv => whnf)
          refine ⟨[(0, some (.str p)), (5, some (.int .i64 p.length)), (6, some (.int .i64 (i + 1 : Nat)))], H', ⟨rfl, rfl, rfl, trivial⟩, Sub.refl _, _, ?_, i + 1, rfl, by omega, lead_go (by omega) hl ?_, rfl, rfl⟩
          · omega
          · have h2' := mt (u8lit (p.getD i 0) 37 (by decide)).2 h2
            have h3' := mt (u8lit (p.getD i 0) 95 (by decide)).2 h3
            simp only [wild, Bool.or_eq_false_iff, beq_eq_false_iff_ne, ne_eq]
            exact ⟨h2', h3'⟩
    · (repeat ((conv => whnf); first | refine Or.inl ?_ | refine Exists.intro _ (Exists.intro _ (And.intro hget_self (And.intro rfl ?_))) | refine Exists.intro _ (Exists.intro _ (And.intro ((hget_tail (by assumption)).trans hget_self) (And.intro rfl ?_))) | refine And.intro (by first | omega | exact rfl | (exact ⟨by omega, by omega⟩) | decide) ?_ | refine rng_i64 (by omega) (by omega) ?_ | refine rng_u8 (by omega) (by omega) ?_ | refine bsplit_tt ?_ | refine bsplit_ff ?_ | refine bsplit_not ?_ | refine bsplit_pos (by omega) ?_ | refine bsplit_neg (by omega) ?_ | rw [hset_self])); (conv => whnf)
      have : i = p.length := by omega
      subst this
      refine ⟨?_, rfl⟩
      rw [hl]; simp [lead]

/-- The frame at the label. -/
def mF (p s : List UInt8) (i k : Nat) (bk : Int) (fr : Nat) : FL := [(0, some (.str p)), (1, some (.str s)), (4, some (.bool false)), (5, some (.int .i64 i)), (6, some (.int .i64 k)), (7, some (.int .i64 bk)), (8, some (.int .i64 fr))]
def mI (p s : List UInt8) (H : AH) (n : Nat) (L : FL) (H' : AH) : Prop := ∃ i k bk fr, MInv p s i k bk fr ∧ n = mu p s i bk fr ∧ L = mF p s i k bk fr ∧ H' = H

theorem like_Match_step (p s : List UInt8) (hp : p.length ≤ 140737488351232) (hs : s.length ≤ 140737488351232) (H : AH) (n : Nat) (L : FL) (H' : AH) (hI : mI p s H n L H') :
    wpF PG like_Match.lab0 none (jumpF 0 (WeakF fun L' H' => ∃ m, m < n ∧ mI p s H m L' H') (endF [.t 4] fun r H' => r = .bool (mtB p s) ∧ H' = H)) L H' := by
  obtain ⟨i, k, bk, fr, inv, rfl, rfl, rfl⟩ := hI
  have hi := inv.hi
  have hk := inv.hk
  have hf := inv.hf
  have hb : -1 ≤ bk ∧ bk ≤ i := by rcases inv.bk with h | ⟨b, h, h2, _⟩ <;> omega
  have hmf : ∀ i k bk fr, covers (mF p s i k bk fr) (mF p s i k bk fr) := fun i k bk fr => ⟨rfl, rfl, rfl, rfl, rfl, rfl, rfl, trivial⟩
  (repeat ((conv => whnf); first | refine Or.inl ?_ | refine Exists.intro _ (Exists.intro _ (And.intro hget_self (And.intro rfl ?_))) | refine Exists.intro _ (Exists.intro _ (And.intro ((hget_tail (by assumption)).trans hget_self) (And.intro rfl ?_))) | refine And.intro (by first | omega | exact rfl | (exact ⟨by omega, by omega⟩) | decide) ?_ | refine rng_i64 (by omega) (by omega) ?_ | refine rng_u8 (by omega) (by omega) ?_ | refine bsplit_tt ?_ | refine bsplit_ff ?_ | refine bsplit_not ?_ | refine bsplit_pos (by omega) ?_ | refine bsplit_neg (by omega) ?_ | rw [hset_self])); (conv => whnf)
  refine bsplit_dec (fun h1 => ?_) (fun h1 => ?_)
  · (repeat ((conv => whnf); first | refine Or.inl ?_ | refine Exists.intro _ (Exists.intro _ (And.intro hget_self (And.intro rfl ?_))) | refine Exists.intro _ (Exists.intro _ (And.intro ((hget_tail (by assumption)).trans hget_self) (And.intro rfl ?_))) | refine And.intro (by first | omega | exact rfl | (exact ⟨by omega, by omega⟩) | decide) ?_ | refine rng_i64 (by omega) (by omega) ?_ | refine rng_u8 (by omega) (by omega) ?_ | refine bsplit_tt ?_ | refine bsplit_ff ?_ | refine bsplit_not ?_ | refine bsplit_pos (by omega) ?_ | refine bsplit_neg (by omega) ?_ | rw [hset_self])); (conv => whnf)
    refine bsplit_dec (fun h2 => ?_) (fun h2 => ?_)
    · (repeat ((conv => whnf); first | refine Or.inl ?_ | refine Exists.intro _ (Exists.intro _ (And.intro hget_self (And.intro rfl ?_))) | refine Exists.intro _ (Exists.intro _ (And.intro ((hget_tail (by assumption)).trans hget_self) (And.intro rfl ?_))) | refine And.intro (by first | omega | exact rfl | (exact ⟨by omega, by omega⟩) | decide) ?_ | refine rng_i64 (by omega) (by omega) ?_ | refine rng_u8 (by omega) (by omega) ?_ | refine bsplit_tt ?_ | refine bsplit_ff ?_ | refine bsplit_not ?_ | refine bsplit_pos (by omega) ?_ | refine bsplit_neg (by omega) ?_ | rw [hset_self])); (conv => whnf)
      have st := inv.star (by omega) ((u8lit (p.getD i 0) 37 (by decide)).1 h2)
      exact ⟨mF p s (i + 1) k (i + 1 : Nat) k, H', ⟨rfl, rfl, rfl, rfl, rfl, rfl, rfl, trivial⟩, Sub.refl _, _, st.2, _, _, _, _, st.1, rfl, rfl, rfl⟩
    · (repeat ((conv => whnf); first | refine Or.inl ?_ | refine Exists.intro _ (Exists.intro _ (And.intro hget_self (And.intro rfl ?_))) | refine Exists.intro _ (Exists.intro _ (And.intro ((hget_tail (by assumption)).trans hget_self) (And.intro rfl ?_))) | refine And.intro (by first | omega | exact rfl | (exact ⟨by omega, by omega⟩) | decide) ?_ | refine rng_i64 (by omega) (by omega) ?_ | refine rng_u8 (by omega) (by omega) ?_ | refine bsplit_tt ?_ | refine bsplit_ff ?_ | refine bsplit_not ?_ | refine bsplit_pos (by omega) ?_ | refine bsplit_neg (by omega) ?_ | rw [hset_self])); (conv => whnf)
      have h2' := mt (u8lit (p.getD i 0) 37 (by decide)).2 h2
      refine bsplit_dec (fun h3 => ?_) (fun h3 => ?_)
      · (repeat ((conv => whnf); first | refine Or.inl ?_ | refine Exists.intro _ (Exists.intro _ (And.intro hget_self (And.intro rfl ?_))) | refine Exists.intro _ (Exists.intro _ (And.intro ((hget_tail (by assumption)).trans hget_self) (And.intro rfl ?_))) | refine And.intro (by first | omega | exact rfl | (exact ⟨by omega, by omega⟩) | decide) ?_ | refine rng_i64 (by omega) (by omega) ?_ | refine rng_u8 (by omega) (by omega) ?_ | refine bsplit_tt ?_ | refine bsplit_ff ?_ | refine bsplit_not ?_ | refine bsplit_pos (by omega) ?_ | refine bsplit_neg (by omega) ?_ | rw [hset_self])); (conv => whnf)
        refine ⟨?_, rfl⟩
        have : ¬ Mt p s := by rw [inv.fin (by omega) (fun _ => h2')]; omega
        rw [mtB_false this]
        exact congrArg AV.bool (decide_eq_false (by omega))
      · (repeat ((conv => whnf); first | refine Or.inl ?_ | refine Exists.intro _ (Exists.intro _ (And.intro hget_self (And.intro rfl ?_))) | refine Exists.intro _ (Exists.intro _ (And.intro ((hget_tail (by assumption)).trans hget_self) (And.intro rfl ?_))) | refine And.intro (by first | omega | exact rfl | (exact ⟨by omega, by omega⟩) | decide) ?_ | refine rng_i64 (by omega) (by omega) ?_ | refine rng_u8 (by omega) (by omega) ?_ | refine bsplit_tt ?_ | refine bsplit_ff ?_ | refine bsplit_not ?_ | refine bsplit_pos (by omega) ?_ | refine bsplit_neg (by omega) ?_ | rw [hset_self])); (conv => whnf)
        refine bsplit_dec (fun h4 => ?_) (fun h4 => ?_)
        · (repeat ((conv => whnf); first | refine Or.inl ?_ | refine Exists.intro _ (Exists.intro _ (And.intro hget_self (And.intro rfl ?_))) | refine Exists.intro _ (Exists.intro _ (And.intro ((hget_tail (by assumption)).trans hget_self) (And.intro rfl ?_))) | refine And.intro (by first | omega | exact rfl | (exact ⟨by omega, by omega⟩) | decide) ?_ | refine rng_i64 (by omega) (by omega) ?_ | refine rng_u8 (by omega) (by omega) ?_ | refine bsplit_tt ?_ | refine bsplit_ff ?_ | refine bsplit_not ?_ | refine bsplit_pos (by omega) ?_ | refine bsplit_neg (by omega) ?_ | rw [hset_self])); (conv => whnf)
          have st := inv.chr (by omega) h2' (by omega) (.inl ((u8lit (p.getD i 0) 95 (by decide)).1 h4))
          exact ⟨mF p s (i + 1) (k + 1) bk fr, H', ⟨rfl, rfl, rfl, rfl, rfl, rfl, rfl, trivial⟩, Sub.refl _, _, st.2, _, _, _, _, st.1, rfl, rfl, rfl⟩
        · (repeat ((conv => whnf); first | refine Or.inl ?_ | refine Exists.intro _ (Exists.intro _ (And.intro hget_self (And.intro rfl ?_))) | refine Exists.intro _ (Exists.intro _ (And.intro ((hget_tail (by assumption)).trans hget_self) (And.intro rfl ?_))) | refine And.intro (by first | omega | exact rfl | (exact ⟨by omega, by omega⟩) | decide) ?_ | refine rng_i64 (by omega) (by omega) ?_ | refine rng_u8 (by omega) (by omega) ?_ | refine bsplit_tt ?_ | refine bsplit_ff ?_ | refine bsplit_not ?_ | refine bsplit_pos (by omega) ?_ | refine bsplit_neg (by omega) ?_ | rw [hset_self])); (conv => whnf)
          have h4' := mt (u8lit (p.getD i 0) 95 (by decide)).2 h4
          refine bsplit_dec (fun h5 => ?_) (fun h5 => ?_)
          · (repeat ((conv => whnf); first | refine Or.inl ?_ | refine Exists.intro _ (Exists.intro _ (And.intro hget_self (And.intro rfl ?_))) | refine Exists.intro _ (Exists.intro _ (And.intro ((hget_tail (by assumption)).trans hget_self) (And.intro rfl ?_))) | refine And.intro (by first | omega | exact rfl | (exact ⟨by omega, by omega⟩) | decide) ?_ | refine rng_i64 (by omega) (by omega) ?_ | refine rng_u8 (by omega) (by omega) ?_ | refine bsplit_tt ?_ | refine bsplit_ff ?_ | refine bsplit_not ?_ | refine bsplit_pos (by omega) ?_ | refine bsplit_neg (by omega) ?_ | rw [hset_self])); (conv => whnf)
            have st := inv.chr (by omega) h2' (by omega) (.inr ((u8eq (p.getD i 0) (s.getD k 0)).1 h5))
            exact ⟨mF p s (i + 1) (k + 1) bk fr, H', ⟨rfl, rfl, rfl, rfl, rfl, rfl, rfl, trivial⟩, Sub.refl _, _, st.2, _, _, _, _, st.1, rfl, rfl, rfl⟩
          · (repeat ((conv => whnf); first | refine Or.inl ?_ | refine Exists.intro _ (Exists.intro _ (And.intro hget_self (And.intro rfl ?_))) | refine Exists.intro _ (Exists.intro _ (And.intro ((hget_tail (by assumption)).trans hget_self) (And.intro rfl ?_))) | refine And.intro (by first | omega | exact rfl | (exact ⟨by omega, by omega⟩) | decide) ?_ | refine rng_i64 (by omega) (by omega) ?_ | refine rng_u8 (by omega) (by omega) ?_ | refine bsplit_tt ?_ | refine bsplit_ff ?_ | refine bsplit_not ?_ | refine bsplit_pos (by omega) ?_ | refine bsplit_neg (by omega) ?_ | rw [hset_self])); (conv => whnf)
            have h5' : i < p.length → p.getD i 0 ≠ 37 ∧ ¬ okc (p.getD i 0) (s.getD k 0) := fun _ => ⟨h2', fun q => q.elim h4' (mt (u8eq (p.getD i 0) (s.getD k 0)).2 h5)⟩
            refine bsplit_dec (fun h6 => ?_) (fun h6 => ?_)
            · (repeat ((conv => whnf); first | refine Or.inl ?_ | refine Exists.intro _ (Exists.intro _ (And.intro hget_self (And.intro rfl ?_))) | refine Exists.intro _ (Exists.intro _ (And.intro ((hget_tail (by assumption)).trans hget_self) (And.intro rfl ?_))) | refine And.intro (by first | omega | exact rfl | (exact ⟨by omega, by omega⟩) | decide) ?_ | refine rng_i64 (by omega) (by omega) ?_ | refine rng_u8 (by omega) (by omega) ?_ | refine bsplit_tt ?_ | refine bsplit_ff ?_ | refine bsplit_not ?_ | refine bsplit_pos (by omega) ?_ | refine bsplit_neg (by omega) ?_ | rw [hset_self])); (conv => whnf)
              have st := inv.back (by omega) h5' h6
              exact ⟨mF p s bk.toNat (fr + 1) bk (fr + 1), H', ⟨rfl, rfl, rfl, by show some (AV.int _ bk) = _; rw [show (bk.toNat : Int) = bk from by omega], rfl, rfl, rfl, trivial⟩, Sub.refl _, _, st.2, _, _, _, _, st.1, rfl, rfl, rfl⟩
            · (repeat ((conv => whnf); first | refine Or.inl ?_ | refine Exists.intro _ (Exists.intro _ (And.intro hget_self (And.intro rfl ?_))) | refine Exists.intro _ (Exists.intro _ (And.intro ((hget_tail (by assumption)).trans hget_self) (And.intro rfl ?_))) | refine And.intro (by first | omega | exact rfl | (exact ⟨by omega, by omega⟩) | decide) ?_ | refine rng_i64 (by omega) (by omega) ?_ | refine rng_u8 (by omega) (by omega) ?_ | refine bsplit_tt ?_ | refine bsplit_ff ?_ | refine bsplit_not ?_ | refine bsplit_pos (by omega) ?_ | refine bsplit_neg (by omega) ?_ | rw [hset_self])); (conv => whnf)
              exact ⟨by rw [mtB_false (inv.none (by omega) h5' (by omega))], rfl⟩
  · (repeat ((conv => whnf); first | refine Or.inl ?_ | refine Exists.intro _ (Exists.intro _ (And.intro hget_self (And.intro rfl ?_))) | refine Exists.intro _ (Exists.intro _ (And.intro ((hget_tail (by assumption)).trans hget_self) (And.intro rfl ?_))) | refine And.intro (by first | omega | exact rfl | (exact ⟨by omega, by omega⟩) | decide) ?_ | refine rng_i64 (by omega) (by omega) ?_ | refine rng_u8 (by omega) (by omega) ?_ | refine bsplit_tt ?_ | refine bsplit_ff ?_ | refine bsplit_not ?_ | refine bsplit_pos (by omega) ?_ | refine bsplit_neg (by omega) ?_ | rw [hset_self])); (conv => whnf)
    have hip : i = p.length := by omega
    refine bsplit_dec (fun h3 => ?_) (fun h3 => ?_)
    · (repeat ((conv => whnf); first | refine Or.inl ?_ | refine Exists.intro _ (Exists.intro _ (And.intro hget_self (And.intro rfl ?_))) | refine Exists.intro _ (Exists.intro _ (And.intro ((hget_tail (by assumption)).trans hget_self) (And.intro rfl ?_))) | refine And.intro (by first | omega | exact rfl | (exact ⟨by omega, by omega⟩) | decide) ?_ | refine rng_i64 (by omega) (by omega) ?_ | refine rng_u8 (by omega) (by omega) ?_ | refine bsplit_tt ?_ | refine bsplit_ff ?_ | refine bsplit_not ?_ | refine bsplit_pos (by omega) ?_ | refine bsplit_neg (by omega) ?_ | rw [hset_self])); (conv => whnf)
      refine ⟨?_, rfl⟩
      have : Mt p s := by rw [inv.fin (by omega) (fun _ => by omega)]; omega
      rw [mtB_true this]
      exact congrArg AV.bool (decide_eq_true (by omega))
    · (repeat ((conv => whnf); first | refine Or.inl ?_ | refine Exists.intro _ (Exists.intro _ (And.intro hget_self (And.intro rfl ?_))) | refine Exists.intro _ (Exists.intro _ (And.intro ((hget_tail (by assumption)).trans hget_self) (And.intro rfl ?_))) | refine And.intro (by first | omega | exact rfl | (exact ⟨by omega, by omega⟩) | decide) ?_ | refine rng_i64 (by omega) (by omega) ?_ | refine rng_u8 (by omega) (by omega) ?_ | refine bsplit_tt ?_ | refine bsplit_ff ?_ | refine bsplit_not ?_ | refine bsplit_pos (by omega) ?_ | refine bsplit_neg (by omega) ?_ | rw [hset_self])); (conv => whnf)
      refine bsplit_dec (fun h6 => ?_) (fun h6 => ?_)
      · (repeat ((conv => whnf); first | refine Or.inl ?_ | refine Exists.intro _ (Exists.intro _ (And.intro hget_self (And.intro rfl ?_))) | refine Exists.intro _ (Exists.intro _ (And.intro ((hget_tail (by assumption)).trans hget_self) (And.intro rfl ?_))) | refine And.intro (by first | omega | exact rfl | (exact ⟨by omega, by omega⟩) | decide) ?_ | refine rng_i64 (by omega) (by omega) ?_ | refine rng_u8 (by omega) (by omega) ?_ | refine bsplit_tt ?_ | refine bsplit_ff ?_ | refine bsplit_not ?_ | refine bsplit_pos (by omega) ?_ | refine bsplit_neg (by omega) ?_ | rw [hset_self])); (conv => whnf)
        have st := inv.back (by omega) (fun _ => by omega) h6
        exact ⟨mF p s bk.toNat (fr + 1) bk (fr + 1), H', ⟨rfl, rfl, rfl, by show some (AV.int _ bk) = _; rw [show (bk.toNat : Int) = bk from by omega], rfl, rfl, rfl, trivial⟩, Sub.refl _, _, st.2, _, _, _, _, st.1, rfl, rfl, rfl⟩
      · (repeat ((conv => whnf); first | refine Or.inl ?_ | refine Exists.intro _ (Exists.intro _ (And.intro hget_self (And.intro rfl ?_))) | refine Exists.intro _ (Exists.intro _ (And.intro ((hget_tail (by assumption)).trans hget_self) (And.intro rfl ?_))) | refine And.intro (by first | omega | exact rfl | (exact ⟨by omega, by omega⟩) | decide) ?_ | refine rng_i64 (by omega) (by omega) ?_ | refine rng_u8 (by omega) (by omega) ?_ | refine bsplit_tt ?_ | refine bsplit_ff ?_ | refine bsplit_not ?_ | refine bsplit_pos (by omega) ?_ | refine bsplit_neg (by omega) ?_ | rw [hset_self])); (conv => whnf)
        exact ⟨by rw [mtB_false (inv.none (by omega) (fun _ => by omega) (by omega))], rfl⟩

theorem like_Match_spec (p s : List UInt8) (hp : p.length ≤ 140737488351232) (hs : s.length ≤ 140737488351232) (H : AH) : ACalls PG like_Match.n [.str p, .str s] H fun r H' => r = .bool (mtB p s) ∧ H' = H := by
  refine like_Match.of rfl (wpF_start ?_)
  (repeat ((conv => whnf); first | refine Or.inl ?_ | refine Exists.intro _ (Exists.intro _ (And.intro hget_self (And.intro rfl ?_))) | refine Exists.intro _ (Exists.intro _ (And.intro ((hget_tail (by assumption)).trans hget_self) (And.intro rfl ?_))) | refine And.intro (by first | omega | exact rfl | (exact ⟨by omega, by omega⟩) | decide) ?_ | refine rng_i64 (by omega) (by omega) ?_ | refine rng_u8 (by omega) (by omega) ?_ | refine bsplit_tt ?_ | refine bsplit_ff ?_ | refine bsplit_not ?_ | refine bsplit_pos (by omega) ?_ | refine bsplit_neg (by omega) ?_ | rw [hset_self])); (conv => whnf)
  refine ⟨0, mu p s 0 (-1) 0, mI p s H, ?_, fun n L H' hI => ?_⟩
  · (conv => whnf)
    refine .inr ⟨mF p s 0 0 (-1) 0, H, ?_, ?_⟩
    · (conv => whnf)
      exact ⟨⟨rfl, rfl, rfl, rfl, rfl, rfl, rfl, trivial⟩, Sub.refl _⟩
    · exact like_Match_step p s hp hs H _ _ _ ⟨0, 0, -1, 0, .init, rfl, rfl, rfl⟩
  · exact ⟨rfl, like_Match_step p s hp hs H n L H' hI⟩
end Go.Proofs.Ytehkmfmahgabmaa
