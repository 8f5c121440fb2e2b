/- One token, as the reference takes it. -/
import Derived.Test.YtlmplofpclaokaaTokRef3
namespace Go.Proofs.Ytlmplofpclaokaa
set_option autoImplicit false
set_option linter.unusedSimpArgs false
set_option linter.unusedVariables false
attribute [local irreducible] callA callP ACalls

theorem ref_num_spec (s : List UInt8) (hs : s.length ≤ 140737488351230) (hd : s.all dig = true) (h0 : s.length ≤ 1 ∨ s.getD 0 0 ≠ 48) (H : AH) :
    ACalls PG broadsheetref14_num.n [.str s] H fun r H' => r = (if numV s < 18446744073709551616 then .tup [.int .u64 (numV s : Nat), .bool true] else .tup [.int .u64 0, .bool false]) ∧ H' = H := by
  have hb := num_big hd h0
  refine broadsheetref14_num.of rfl (wpF_start ?_)
  by_cases hv : numV s < 18446744073709551616
  · rw [if_pos hv]
    have hnb : ¬ (20 < s.length ∨ (s.length = 20 ∧ (!(Op.bytesLess s maxT || decide (s = maxT))) = true)) := fun q => by have := hb.1 q; omega
    (first | refine ab ?_ | exact ab0 | fail)
    refine .inr ⟨[(0, some (.str s))], H, ?_, ?_⟩
    · (first | refine au ?_ | exact au0 | fail)
      by_cases h20 : s.length = 20
      · have hx : (Op.bytesLess s [49, 56, 52, 52, 54, 55, 52, 52, 48, 55, 51, 55, 48, 57, 53, 53, 49, 54, 49, 53] || decide (s = [49, 56, 52, 52, 54, 55, 52, 52, 48, 55, 51, 55, 48, 57, 53, 53, 49, 54, 49, 53])) = true := by
          cases hh : (Op.bytesLess s maxT || decide (s = maxT)) with
          | true => exact hh
          | false => exact (hnb (.inr ⟨h20, by rw [hh]; rfl⟩)).elim
        (first | refine au ?_ | exact au0 | fail)
        rw [hx]
        (first | refine au ?_ | exact au0 | fail)
        exact ⟨(by repeat (first | exact trivial | refine And.intro (Exists.intro _ (And.intro rfl (Fz.refl _))) ?_)), Sub.refl _⟩
      · (first | refine au ?_ | exact au0 | fail)
        exact ⟨(by repeat (first | exact trivial | refine And.intro (Exists.intro _ (And.intro rfl (Fz.refl _))) ?_)), Sub.refl _⟩
    · (first | refine au ?_ | exact au0 | fail)
      refine ⟨fun n L H' => ∃ i : Nat, n = s.length - i ∧ i ≤ s.length ∧ L = [(0, some (.str s)), (4, some (.int .u64 (numV (s.take i) : Nat))), (5, some (.int .i64 i))] ∧ H' = H, ⟨_, H, ?_, Sub.refl _, _, 0, rfl, Nat.zero_le _, rfl, rfl⟩, ?_⟩
      · exact (by repeat (first | exact trivial | refine And.intro (Exists.intro _ (And.intro rfl (Fz.refl _))) ?_))
      · rintro n L H' ⟨i, rfl, hi, rfl, rfl⟩
        (first | refine au ?_ | exact au0 | fail)
        refine bsplit_dec (fun h1 => ?_) (fun h1 => ?_)
        · have hdi : 48 ≤ (s.getD i 0).toNat ∧ (s.getD i 0).toNat ≤ 57 := (dig_iff _).1 (by
            rw [List.all_eq_true] at hd
            refine hd _ ?_
            rw [show s.getD i 0 = s[i]'(by omega) from by simp [List.getD, show i < s.length by omega]]
            exact List.getElem_mem _)
          have hsn : numV (s.take (i + 1)) = 10 * numV (s.take i) + ((s.getD i 0).toNat - 48) := by rw [take_at s 0 i (by omega), numV_snoc]
          have hm := numV_mono s (show i + 1 ≤ s.length by omega)
          rw [List.take_length] at hm
          (first | refine au ?_ | exact au0 | fail)
          rw [Int.toNat_natCast]
          (first | refine au ?_ | exact au0 | fail)
          refine ⟨[(0, some (.str s)), (4, some (.int .u64 (numV (s.take (i + 1)) : Nat))), (5, some (.int .i64 (i + 1 : Nat)))], H', ⟨⟨_, rfl, .refl _⟩, Exists.intro _ (And.intro ?_ (Fz.refl _)), ⟨_, rfl, .refl _⟩, trivial⟩, Sub.refl _, _, ?_, i + 1, rfl, by omega, rfl, rfl⟩
          · show some (AV.int .u64 _) = some (AV.int .u64 _)
            congr 2
            omega
          · omega
        · (first | refine au ?_ | exact au0 | fail)
          obtain rfl : i = s.length := by omega
          rw [List.take_length]
          exact ⟨rfl, rfl⟩
  · rw [if_neg hv]
    have hbb := hb.2 (by omega)
    (first | refine au ?_ | exact au0 | fail)
    refine bsplit_dec (fun h1 => ?_) (fun h1 => ?_)
    · (first | refine au ?_ | exact au0 | fail)
    · obtain ⟨h20, hx⟩ := hbb.resolve_left (by omega)
      have hx : (Op.bytesLess s [49, 56, 52, 52, 54, 55, 52, 52, 48, 55, 51, 55, 48, 57, 53, 53, 49, 54, 49, 53] || decide (s = [49, 56, 52, 52, 54, 55, 52, 52, 48, 55, 51, 55, 48, 57, 53, 53, 49, 54, 49, 53])) = false := by
        cases hh : (Op.bytesLess s maxT || decide (s = maxT)) with
        | false => exact hh
        | true => rw [hh] at hx; cases hx
      (first | refine au ?_ | exact au0 | fail)
      rw [hx]
      (first | refine au ?_ | exact au0 | fail)

theorem ref_bad_spec (s : List UInt8) (at' : Nat) (ha : at' < s.length) (hs : s.length ≤ 140737488351230) (H : AH) :
    ACalls PG broadsheetref14_bad.n [.str s, .int .i64 at'] H fun r H' => r = fltA (if s.getD at' 0 = 39 then 2 else 11) at' ∧ H' = H := by
  refine ACalls.keepSub (K := fun r => r = fltA (if s.getD at' 0 = 39 then 2 else 11) at') (broadsheetref14_bad.of rfl (wpF_start ?_))
  (first | refine au ?_ | exact au0 | fail)
  intro id hid ht
  (first | refine au ?_ | exact au0 | fail)
  rw [Int.toNat_natCast]
  refine bsplit_dec (fun h1 => ?_) (fun h1 => ?_)
  · (first | refine au ?_ | exact au0 | fail)
    rw [if_neg (fun e => h1 (by rw [e]; rfl))]
    exact ⟨rfl, Sub.skip (Sub.refl _) hid⟩
  · (first | refine au ?_ | exact au0 | fail)
    rw [if_pos (show s.getD at' 0 = 39 from Classical.byContradiction fun e => h1 (fun q => e ((u8lit _ 39 (by decide)).1 q)))]
    exact ⟨rfl, Sub.skip (Sub.refl _) hid⟩

theorem lg_le (s : List UInt8) : ∀ m n b k, n + m ≤ s.length + 1 → b ≤ s.length → (lg s m n b k).1 ≤ s.length
  | 0, n, b, k, _, hb => by unfold lg; split <;> simp [hb]
  | m + 1, n, b, k, h, hb => by
    unfold lg
    split
    · show n ≤ _; omega
    · split
      · exact hb
      · split
        · exact lg_le s m _ _ _ (by omega) (by omega)
        · exact lg_le s m _ _ _ (by omega) hb
theorem longest_le (s : List UInt8) : (longest s).1 ≤ s.length := lg_le s _ _ _ _ (by omega) (Nat.zero_le _)
theorem fo_take {l : List UInt8} {j : Nat} (hj : j < l.length) (hn : fo (l.take j) = none) : (oddB (l.getD j 0) = true → ∀ m, j < m → fo (l.take m) = some j) ∧ (oddB (l.getD j 0) = false → fo (l.take (j + 1)) = none) := by
  induction l generalizing j with
  | nil => simp at hj
  | cons c l ih =>
    cases j with
    | zero =>
      constructor
      · intro h m hm
        obtain ⟨m, rfl⟩ : ∃ m', m = m' + 1 := ⟨m - 1, by omega⟩
        rw [List.take_succ_cons, fo, if_pos (by simpa using h)]
      · intro h
        rw [List.take_succ_cons, fo, if_neg (by simpa using h)]; rfl
    | succ j =>
      rw [List.take_succ_cons, fo] at hn
      split at hn
      · cases hn
      · rename_i hc
        have hn' : fo (l.take j) = none := by
          cases hh : fo (l.take j) with
          | none => rfl
          | some x => rw [hh] at hn; cases hn
        obtain ⟨i1, i2⟩ := ih (by simpa using hj) hn'
        rw [List.getD_cons_succ]
        constructor
        · intro h m hm
          obtain ⟨m, rfl⟩ : ∃ m', m = m' + 1 := ⟨m - 1, by omega⟩
          rw [List.take_succ_cons, fo, if_neg hc, i1 h m (by omega)]; rfl
        · intro h
          rw [List.take_succ_cons, fo, if_neg hc, i2 h]; rfl
def oddV (at' : Nat) (o : Option Nat) : Int := match o with
  | some j => ((at' + j : Nat) : Int)
  | none => -1
theorem ref_odd_spec (s : List UInt8) (at' : Nat) (ha : at' < s.length) (hs : s.length ≤ 140737488351230) (H : AH) :
    ACalls PG broadsheetref14_odd.n [.str s, .int .i64 at'] H fun r H' => r = .int .i64 (oddV at' (fo ((s.drop at').take (if 0 < (longest (s.drop at')).1 then (longest (s.drop at')).1 else (s.drop at').length)))) ∧ H' = H := by
  have hdl : (s.drop at').length = s.length - at' := List.length_drop
  have hL := longest_le (s.drop at')
  have hne : s.drop at' ≠ [] := fun e => by rw [e] at hdl; simp at hdl; omega
  refine broadsheetref14_odd.of rfl (wpF_start ?_)
  (first | refine au ?_ | exact au0 | fail)
  rw [show List.drop (at' : Int).toNat (s.take (s.length : Int).toNat) = s.drop at' from by rw [Int.toNat_natCast, Int.toNat_natCast, List.take_length]]
  refine callF_eq (ref_longest_spec _ (by omega) hne _) ?_
  (first | refine ab ?_ | exact ab0 | fail)
  generalize hE : (if 0 < (longest (s.drop at')).1 then (longest (s.drop at')).1 else (s.drop at').length) = E
  have hEl : E ≤ s.length - at' := by rw [← hE]; split <;> omega
  refine .inr ⟨[(0, some (.str s)), (1, some (.int .i64 at')), (7, some (.int .i64 (at' + E : Nat)))], H, ?_, ?_⟩
  · (first | refine au ?_ | exact au0 | fail)
    refine bsplit_dec (fun h1 => ?_) (fun h1 => ?_)
    · rw [if_pos (by omega)] at hE
      (first | refine au ?_ | exact au0 | fail)
      refine ⟨⟨⟨_, rfl, .refl _⟩, ⟨_, rfl, .refl _⟩, Exists.intro _ (And.intro ?_ (Fz.refl _)), trivial⟩, Sub.refl _⟩
      show some (AV.int .i64 _) = some (AV.int .i64 _)
      congr 2
      omega
    · rw [if_neg (by omega)] at hE
      (first | refine au ?_ | exact au0 | fail)
      refine ⟨⟨⟨_, rfl, .refl _⟩, ⟨_, rfl, .refl _⟩, Exists.intro _ (And.intro ?_ (Fz.refl _)), trivial⟩, Sub.refl _⟩
      show some (AV.int .i64 _) = some (AV.int .i64 _)
      congr 2
      omega
  · (first | refine au ?_ | exact au0 | fail)
    refine ⟨fun n L H' => ∃ j : Nat, n = E - j ∧ j ≤ E ∧ fo ((s.drop at').take j) = none ∧ L = [(0, some (.str s)), (7, some (.int .i64 (at' + E : Nat))), (8, some (.int .i64 (at' + j : Nat)))] ∧ H' = H, ⟨_, H, ?_, Sub.refl _, _, 0, rfl, Nat.zero_le _, rfl, rfl, rfl⟩, ?_⟩
    · exact (by repeat (first | exact trivial | refine And.intro (Exists.intro _ (And.intro rfl (Fz.refl _))) ?_))
    · rintro n L H' ⟨j, rfl, hj, hf, rfl, rfl⟩
      (first | refine au ?_ | exact au0 | fail)
      refine bsplit_dec (fun h1 => ?_) (fun h1 => ?_)
      · obtain ⟨f1, f2⟩ := fo_take (l := s.drop at') (j := j) (by omega) hf
        rw [show (s.drop at').getD j 0 = s.getD (at' + j) 0 from by simp [List.getD]] at f1 f2
        (first | refine au ?_ | exact au0 | fail)
        rw [Int.toNat_natCast]
        refine bsplit_dec (fun h2 => ?_) (fun h2 => ?_)
        · (first | refine au ?_ | exact au0 | fail)
          rw [f1 ((oddB_iff _).2 (.inl (by omega))) E (by omega)]
          exact ⟨rfl, rfl⟩
        · (first | refine au ?_ | exact au0 | fail)
          rw [Int.toNat_natCast]
          refine bsplit_dec (fun h3 => ?_) (fun h3 => ?_)
          · (first | refine au ?_ | exact au0 | fail)
            rw [f1 ((oddB_iff _).2 (.inr (by omega))) E (by omega)]
            exact ⟨rfl, rfl⟩
          · (first | refine au ?_ | exact au0 | fail)
            have hno : oddB (s.getD (at' + j) 0) = false := by
              cases hh : oddB (s.getD (at' + j) 0) with
              | false => rfl
              | true => rw [oddB_iff] at hh; omega
            refine ⟨[(0, some (.str s)), (7, some (.int .i64 (at' + E : Nat))), (8, some (.int .i64 (at' + (j + 1) : Nat)))], H', ⟨⟨_, rfl, .refl _⟩, ⟨_, rfl, .refl _⟩, Exists.intro _ (And.intro ?_ (Fz.refl _)), trivial⟩, Sub.refl _, _, ?_, j + 1, rfl, by omega, f2 hno, rfl, rfl⟩
            · show some (AV.int .i64 _) = some (AV.int .i64 _)
              congr 2
            · omega
      · (first | refine au ?_ | exact au0 | fail)
        obtain rfl : j = E := by omega
        rw [hf]
        exact ⟨rfl, rfl⟩
end Go.Proofs.Ytlmplofpclaokaa
