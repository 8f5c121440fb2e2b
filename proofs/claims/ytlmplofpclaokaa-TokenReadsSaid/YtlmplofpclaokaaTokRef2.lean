/- What the reference's functions on tokens compute. -/
import Derived.Test.YtlmplofpclaokaaTokRefMath2
namespace Go.Proofs.Ytlmplofpclaokaa
set_option autoImplicit false
set_option linter.unusedSimpArgs false
set_option linter.unusedVariables false
attribute [local irreducible] callA callP ACalls

theorem ref_Lead_spec (s : List UInt8) (hs : s.length ≤ 140737488351230) (H : AH) : ACalls PG broadsheetref04_Lead.n [.str s] H fun r H' => r = .int .i64 (nl s : Nat) ∧ H' = H := by
  have hle := nl_le s
  refine broadsheetref04_Lead.of rfl (wpF_start ?_)
  (first | refine au ?_ | exact au0 | fail)
  refine ⟨fun n L H' => ∃ i : Nat, n = s.length - i ∧ i ≤ nl s ∧ L = [(0, some (.str s)), (3, some (.int .i64 i))] ∧ H' = H, ⟨_, H, ?_, Sub.refl _, _, 0, rfl, Nat.zero_le _, rfl, rfl⟩, ?_⟩
  · exact (by repeat (first | exact trivial | refine And.intro (Exists.intro _ (And.intro rfl (Fz.refl _))) ?_))
  · rintro n L H' ⟨i, rfl, hi, rfl, rfl⟩
    (first | refine au ?_ | exact au0 | fail)
    refine bsplit_dec (fun h1 => ?_) (fun h1 => ?_)
    · have htl : (s.take (i + 1)).length = i + 1 := by rw [List.length_take]; omega
      (first | refine au ?_ | exact au0 | fail)
      rw [show ((i : Int) + 1).toNat = i + 1 from by omega]
      rw [show List.drop (Int.toNat 0) (s.take (i + 1)) = s.take (i + 1) from rfl]
      refine callF_eq (ref_formed_spec _ (by omega) _) ?_
      rw [fmd_take hi (by omega)]
      (first | refine au ?_ | exact au0 | fail)
      refine bsplit_dec (fun h2 => ?_) (fun h2 => ?_)
      · (first | refine au ?_ | exact au0 | fail)
        refine ⟨[(0, some (.str s)), (3, some (.int .i64 (i + 1 : Nat)))], H', (by repeat (first | exact trivial | refine And.intro (Exists.intro _ (And.intro rfl (Fz.refl _))) ?_)), Sub.refl _, _, ?_, i + 1, rfl, by omega, rfl, rfl⟩
        omega
      · (first | refine au ?_ | exact au0 | fail)
        exact ⟨by rw [show i = nl s from by omega], rfl⟩
    · (first | refine au ?_ | exact au0 | fail)
      exact ⟨by rw [show i = nl s from by omega], rfl⟩

def strRow (l : List (List UInt8)) : List (List AV) := l.map fun x => [.str x]
theorem strRow_len (l : List (List UInt8)) : (strRow l).length = l.length := by simp [strRow]
theorem ref_Find_spec (l : List (List UInt8)) (hl : l.length ≤ 1000000) (s : List UInt8) (H : AH) : ACalls PG broadsheetref04_Find.n [.rows 1 (strRow l), .str s] H fun r H' => (∃ v : Int, r = .int .i64 v ∧ (0 ≤ v ↔ l.contains s = true) ∧ -1 ≤ v ∧ v < l.length) ∧ H' = H := by
  refine broadsheetref04_Find.of rfl (wpF_start ?_)
  (first | refine au ?_ | exact au0 | fail)
  refine ⟨fun n L H' => ∃ i : Nat, n = l.length - i ∧ i ≤ l.length ∧ (l.take i).contains s = false ∧ L = [(0, some (.rows 1 (strRow l))), (1, some (.str s)), (5, some (.int .i64 i))] ∧ H' = H, ⟨_, H, ?_, Sub.refl _, _, 0, rfl, Nat.zero_le _, rfl, rfl, rfl⟩, ?_⟩
  · exact (by repeat (first | exact trivial | refine And.intro (Exists.intro _ (And.intro rfl (Fz.refl _))) ?_))
  · have hlen := strRow_len l
    rintro n L H' ⟨i, rfl, hi, hc, rfl, rfl⟩
    (first | refine au ?_ | exact au0 | fail)
    refine bsplit_dec (fun h1 => ?_) (fun h1 => ?_)
    · have hil : i < l.length := by omega
      have tk := take_at l [] i hil
      have hg : (strRow l).getD (i : Int).toNat [] = [.str (l.getD i [])] := by
        rw [Int.toNat_natCast]; simp [strRow, List.getD, hil]
      (first | refine au ?_ | exact au0 | fail)
      rw [hg]
      (first | refine au ?_ | exact au0 | fail)
      refine bsplit_dec (fun h2 => ?_) (fun h2 => ?_)
      · (first | refine au ?_ | exact au0 | fail)
        refine ⟨⟨_, rfl, ⟨fun _ => ?_, fun _ => by omega⟩, by omega, by omega⟩, rfl⟩
        rw [← List.take_append_drop (i + 1) l, tk, ← h2]
        simp
      · (first | refine au ?_ | exact au0 | fail)
        refine ⟨[(0, some (.rows 1 (strRow l))), (1, some (.str s)), (5, some (.int .i64 (i + 1 : Nat)))], H', (by repeat (first | exact trivial | refine And.intro (Exists.intro _ (And.intro rfl (Fz.refl _))) ?_)), Sub.refl _, _, ?_, i + 1, rfl, by omega, ?_, rfl, rfl⟩
        · omega
        · rw [tk]
          simp only [List.contains_eq_mem, List.mem_append, List.mem_singleton] at hc ⊢
          rw [decide_eq_false_iff_not] at hc ⊢
          rintro (q | q)
          · exact hc q
          · exact h2 q.symm
    · (first | refine au ?_ | exact au0 | fail)
      obtain rfl : i = l.length := by omega
      rw [List.take_length] at hc
      exact ⟨⟨_, rfl, ⟨fun q => by omega, fun q => by rw [hc] at q; cases q⟩, by omega, by omega⟩, rfl⟩

theorem ref_digits_spec (s : List UInt8) (hs : s.length ≤ 140737488351232) (H : AH) : ACalls PG broadsheetref14_digits.n [.str s] H fun r H' => r = .bool (decide (s ≠ [] ∧ s.all dig = true)) ∧ H' = H := by
  refine broadsheetref14_digits.of rfl (wpF_start ?_)
  (first | refine au ?_ | exact au0 | fail)
  refine ⟨fun n L H' => ∃ i : Nat, n = s.length - i ∧ i ≤ s.length ∧ (s.take i).all dig = true ∧ L = [(0, some (.str s)), (3, some (.int .i64 i))] ∧ H' = H, ⟨_, H, ?_, Sub.refl _, _, 0, rfl, Nat.zero_le _, rfl, rfl, rfl⟩, ?_⟩
  · exact (by repeat (first | exact trivial | refine And.intro (Exists.intro _ (And.intro rfl (Fz.refl _))) ?_))
  · rintro n L H' ⟨i, rfl, hi, ha, rfl, rfl⟩
    (first | refine au ?_ | exact au0 | fail)
    refine bsplit_dec (fun h1 => ?_) (fun h1 => ?_)
    · have at1 := all_take (f := dig) s i (by omega)
      (first | refine au ?_ | exact au0 | fail)
      refine callF_eq (ref_Digit_spec _ _) ?_
      rw [Int.toNat_natCast]
      cases hd : dig (s.getD i 0) with
      | true =>
        (first | refine au ?_ | exact au0 | fail)
        refine ⟨[(0, some (.str s)), (3, some (.int .i64 (i + 1 : Nat)))], H', (by repeat (first | exact trivial | refine And.intro (Exists.intro _ (And.intro rfl (Fz.refl _))) ?_)), Sub.refl _, _, ?_, i + 1, rfl, by omega, by rw [at1, ha, hd]; rfl, rfl, rfl⟩
        omega
      | false =>
        (first | refine au ?_ | exact au0 | fail)
        exact ⟨congrArg AV.bool (decide_eq_false (fun q => by have := q.2; rw [all_ge (by omega) hd] at this; cases this)).symm, rfl⟩
    · (first | refine au ?_ | exact au0 | fail)
      obtain rfl : i = s.length := by omega
      rw [List.take_length] at ha
      exact ⟨congrArg AV.bool (decide_eq_decide.2 ⟨fun q => ⟨q, ha⟩, fun q => q.1⟩), rfl⟩

theorem slc1 {s : List UInt8} {j : Nat} (h : j < s.length) : (s.take (j + 1)).drop j = [s.getD j 0] := by
  rw [take_at s 0 j h, List.drop_append]
  simp [List.length_take, Nat.min_eq_left (Nat.le_of_lt h)]
theorem qdr_step (c : UInt8) (r : List UInt8) (acc : List UInt8) : qdr (c :: r) acc = if c = 39 then (if r = [] then some acc else if r.getD 0 0 = 39 then qdr (r.drop 1) (acc ++ [39]) else none) else qdr r (acc ++ [c]) := by
  cases r with
  | nil => simp [qdr]
  | cons d r => simp [qdr]
def qdV (o : Option (List UInt8)) : AV := match o with
  | some t => .tup [.str t, .bool true]
  | none => .tup [.str [], .bool false]
theorem ref_Quoted_spec (s : List UInt8) (hs : s.length ≤ 140737488351230) (H : AH) : ACalls PG broadsheetref14_Quoted.n [.str s] H fun r H' => r = qdV (qd s) ∧ H' = H := by
  refine broadsheetref14_Quoted.of rfl (wpF_start ?_)
  (first | refine au ?_ | exact au0 | fail)
  refine bsplit_dec (fun h1 => ?_) (fun h1 => ?_)
  · (first | refine au ?_ | exact au0 | fail)
    exact ⟨by unfold qd; rw [if_neg (fun q => by omega)]; rfl, rfl⟩
  · (first | refine au ?_ | exact au0 | fail)
    refine bsplit_dec (fun h2 => ?_) (fun h2 => ?_)
    · (first | refine au ?_ | exact au0 | fail)
      refine ⟨?_, rfl⟩
      unfold qd
      rw [if_neg (fun q => h2 (by rw [show s.getD (Int.toNat 0) 0 = 39 from q.1]; rfl))]
      rfl
    · have h39 : s.getD 0 0 = 39 := Classical.byContradiction fun e => h2 (fun q => e ((u8lit _ 39 (by decide)).1 q))
      have hq : qd s = qdr (s.drop 1) [] := by unfold qd; rw [if_pos ⟨h39, by omega⟩]
      rw [hq]
      (first | refine au ?_ | exact au0 | fail)
      generalize hR : qdr (s.drop 1) [] = R
      refine ⟨fun n L H' => ∃ (i : Nat) (acc : List UInt8), n = s.length - i ∧ 1 ≤ i ∧ i ≤ s.length ∧ acc.length ≤ i ∧ qdr (s.drop i) acc = R ∧ L = [(0, some (.str s)), (4, some (.str acc)), (5, some (.int .i64 i))] ∧ H' = H, ⟨_, H, ?_, Sub.refl _, _, 1, [], rfl, Nat.le_refl _, by omega, by simp, hR, rfl, rfl⟩, ?_⟩
      · exact (by repeat (first | exact trivial | refine And.intro (Exists.intro _ (And.intro rfl (Fz.refl _))) ?_))
      · clear hR
        rintro n L H' ⟨i, acc, rfl, h0, hi, hacc, hR, rfl, rfl⟩
        (first | refine au ?_ | exact au0 | fail)
        refine bsplit_dec (fun h3 => ?_) (fun h3 => ?_)
        · have hdr := drop_at s 0 i (by omega)
          have hdl : (s.drop (i + 1)).length = s.length - (i + 1) := List.length_drop
          rw [hdr, qdr_step] at hR
          (first | refine au ?_ | exact au0 | fail)
          rw [Int.toNat_natCast]
          have hsl : ∀ j : Nat, j < s.length → (s.drop j).take 1 = [s.getD j 0] := fun j hj => by rw [drop_at s 0 j hj]; rfl
          by_cases hc : s.getD i 0 = 39
          · rw [if_pos hc] at hR
            rw [hc]
            (first | refine au ?_ | exact au0 | fail)
            refine bsplit_dec (fun h4 => ?_) (fun h4 => ?_)
            · rw [if_pos (List.drop_eq_nil_of_le (by omega))] at hR
              (first | refine au ?_ | exact au0 | fail)
              rw [← hR]
              exact ⟨rfl, rfl⟩
            · rw [if_neg (fun q => by have := congrArg List.length q; rw [hdl, List.length_nil] at this; omega), show (s.drop (i + 1)).getD 0 0 = s.getD (i + 1) 0 from by simp [List.getD], List.drop_drop] at hR
              (first | refine au ?_ | exact au0 | fail)
              rw [show ((i : Int) + 1).toNat = i + 1 from by omega]
              refine bsplit_dec (fun h5 => ?_) (fun h5 => ?_)
              · rw [if_neg (fun q => h5 (by rw [q]; rfl))] at hR
                (first | refine au ?_ | exact au0 | fail)
                rw [← hR]
                exact ⟨rfl, rfl⟩
              · have h5' : s.getD (i + 1) 0 = 39 := Classical.byContradiction fun e => h5 (fun q => e ((u8lit _ 39 (by decide)).1 q))
                rw [if_pos h5'] at hR
                (first | refine au ?_ | exact au0 | fail)
                rw [show ((i : Int) + 1).toNat = i + 1 from by omega, show ((i : Int) + 1 + 1).toNat = i + 1 + 1 from by omega, slc1 (show i + 1 < s.length by omega), h5']
                rw [show ([(39 : UInt8)]).length = 1 from rfl]
                (first | refine au ?_ | exact au0 | fail)
                refine ⟨[(0, some (.str s)), (4, some (.str (acc ++ [39]))), (5, some (.int .i64 (i + 2 : Nat)))], H', (by repeat (first | exact trivial | refine And.intro (Exists.intro _ (And.intro rfl (Fz.refl _))) ?_)), Sub.refl _, _, ?_, i + 2, acc ++ [39], rfl, by omega, by omega, by simp; omega, hR, rfl, rfl⟩
                omega
          · rw [if_neg hc] at hR
            have hne : (s.getD i 0).toNat ≠ 39 := fun e => hc ((nat_eq _ 39 (by decide)).2 e)
            (first | refine au ?_ | exact au0 | fail)
            rw [Int.toNat_natCast, show ((i : Int) + 1).toNat = i + 1 from by omega, slc1 (show i < s.length by omega), show ([s.getD i 0]).length = 1 from rfl]
            (first | refine au ?_ | exact au0 | fail)
            refine ⟨[(0, some (.str s)), (4, some (.str (acc ++ [s.getD i 0]))), (5, some (.int .i64 (i + 1 : Nat)))], H', (by repeat (first | exact trivial | refine And.intro (Exists.intro _ (And.intro rfl (Fz.refl _))) ?_)), Sub.refl _, _, ?_, i + 1, acc ++ [s.getD i 0], rfl, by omega, by omega, by simp; omega, hR, rfl, rfl⟩
            omega
        · (first | refine au ?_ | exact au0 | fail)
          rw [List.drop_eq_nil_of_le (show s.length ≤ i by omega)] at hR
          rw [← hR]
          exact ⟨rfl, rfl⟩
end Go.Proofs.Ytlmplofpclaokaa
