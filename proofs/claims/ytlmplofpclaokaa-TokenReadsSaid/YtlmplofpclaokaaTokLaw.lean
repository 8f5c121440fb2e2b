/- The law 'TokenReads', walked. -/
import Derived.Test.YtlmplofpclaokaaTokRef6
namespace Go.Proofs.Ytlmplofpclaokaa
set_option autoImplicit false
set_option linter.unusedSimpArgs false
set_option linter.unusedVariables false
attribute [local irreducible] callA callP ACalls

def tokV : TR → AV
  | .ok l => .tup [.rows 4 (l.map tkR), fltA 0 0]
  | .bad e p => .tup [.nilS, fltA e (p : Nat)]
theorem TokO.fz {R : TR} {r : AV} {H : AH} (h : TokO R r H) : ∃ r' Hc, Sub Hc H ∧ Fz H Hc r r' ∧ r' = tokV R := by
  cases hR : R with
  | ok l =>
    obtain ⟨id, rfl, hg⟩ := h.ok l hR
    refine ⟨_, [], (fun _ _ q => by cases q), ?_, rfl⟩
    have hf := fz_own (Hc := []) hg rfl (Nat.zero_le l.length) (by rw [List.length_map]; exact Nat.le_refl _) (tkR_len l)
    rw [List.drop_zero, show (l.map tkR).take l.length = l.map tkR from by rw [show l.length = (l.map tkR).length from by simp, List.take_length]] at hf
    obtain ⟨q1, q2⟩ := FzL.cons hf (FzL.cons (Fz.refl (fltA 0 0)) (FzL.nil H []))
    exact .tup _ _ q1 q2
  | bad e p =>
    obtain rfl := h.bad e p hR
    exact ⟨_, [], (fun _ _ q => by cases q), .refl _, rfl⟩
theorem Tokens_spec {s : List UInt8} (hs : s.length ≤ 140737488351232) : ACalls PG token_Tokens.n [.str s] [] fun r _ => r = tokV (tokens s) :=
  (Tokens_spec0 hs).freeze fun _ _ h => h.fz
theorem ref_Tokens_spec {s : List UInt8} (hs : s.length ≤ 140737488351232) : ACalls PG broadsheetref14_Tokens.n [.str s] [] fun r _ => r = tokV (tokens s) :=
  (ref_Tokens_spec0 hs).freeze fun _ _ h => h.fz

theorem eqTk (x : Int × List UInt8 × Nat × Nat) : eqCells [.i .i64, .s, .i .u64, .i .i64] (tkR x) (tkR x) = some true := by
  simp [eqCells]
theorem ref_Same_nil (H : AH) : ACalls PG broadsheetref14_Same.n [.nilS, .nilS, .bool true] H fun r H' => r = .bool true ∧ H' = H := by
  refine broadsheetref14_Same.of rfl (wpF_start ?_)
  (first | refine au ?_ | exact au0 | fail)
  refine ⟨fun n L H' => L = [(0, some .nilS), (7, some (.int .i64 0))] ∧ H' = H, ⟨_, H, ?_, Sub.refl _, 0, rfl, rfl⟩, ?_⟩
  · exact (by repeat (first | exact trivial | refine And.intro (Exists.intro _ (And.intro rfl (Fz.refl _))) ?_))
  · rintro n L H' ⟨rfl, rfl⟩
    (first | refine au ?_ | exact au0 | fail)
theorem ref_Same_spec (l : List (Int × List UInt8 × Nat × Nat)) (hl : l.length ≤ 1000000) (H : AH) : ACalls PG broadsheetref14_Same.n [.rows 4 (l.map tkR), .rows 4 (l.map tkR), .bool true] H fun r H' => r = .bool true ∧ H' = H := by
  have hlen : (l.map tkR).length = l.length := by simp
  refine ACalls.keepSub (K := fun r => r = .bool true) (broadsheetref14_Same.of rfl (wpF_start ?_))
  (first | refine au ?_ | exact au0 | fail)
  refine ⟨fun n L H' => ∃ i : Nat, n = l.length - i ∧ i ≤ l.length ∧ L = [(0, some (.rows 4 (l.map tkR))), (1, some (.rows 4 (l.map tkR))), (2, some (.bool true)), (7, some (.int .i64 i))] ∧ H' = H, ⟨_, H, ?_, Sub.refl _, _, 0, rfl, Nat.zero_le _, rfl, rfl⟩, ?_⟩
  · exact (by repeat (first | exact trivial | refine And.intro (Exists.intro _ (And.intro rfl (Fz.refl _))) ?_))
  · rintro n L H' ⟨i, rfl, hi, rfl, rfl⟩
    (first | refine au ?_ | exact au0 | fail)
    refine bsplit_dec (fun h1 => ?_) (fun h1 => ?_)
    · have hil : i < l.length := by omega
      have hg : (l.map tkR).getD (i : Int).toNat [] = tkR (l[i]'hil) := by
        rw [Int.toNat_natCast]; simp [List.getD, hil]
      (first | refine au ?_ | exact au0 | fail)
      rw [hg]
      (first | refine au ?_ | exact au0 | fail)
      intro id hid ht
      (first | refine au ?_ | exact au0 | fail)
      rw [hg]
      (first | refine au ?_ | exact au0 | fail)
      refine ⟨true, eqTk _, ?_⟩
      (first | refine au ?_ | exact au0 | fail)
      refine ⟨[(0, some (.rows 4 (l.map tkR))), (1, some (.rows 4 (l.map tkR))), (2, some (.bool true)), (7, some (.int .i64 (i + 1 : Nat)))], H', (by repeat (first | exact trivial | refine And.intro (Exists.intro _ (And.intro rfl (Fz.refl _))) ?_)), Sub.skip (Sub.refl _) hid, _, ?_, i + 1, rfl, by omega, rfl, rfl⟩
      omega
    · (first | refine au ?_ | exact au0 | fail)
      exact Sub.refl _
theorem tks_len (s : List UInt8) : ∀ (k a n : Nat) (l : List (Int × List UInt8 × Nat × Nat)), s.length - a ≤ k → n ≤ 64 → tks s a n = .ok l → l.length + n ≤ 65
  | k, a, n, l, hk, hn, h => by
    rcases Nat.lt_or_ge a s.length with hl | hl
    · rw [tks_eq hl] at h
      obtain ⟨k, rfl⟩ : ∃ k', k = k' + 1 := ⟨k - 1, by omega⟩
      split at h
      · exact tks_len s k _ n l (by omega) hn h
      · split at h
        · cases h
        · rename_i kk t num m hx
          have := lex_bound hx
          split at h
          · cases h
          · cases hh : tks s (a + m) (n + 1) with
            | bad e p => rw [hh] at h; cases h
            | ok l' =>
              rw [hh] at h
              have := tks_len s k _ (n + 1) l' (by omega) (by omega) hh
              cases h
              simp; omega
    · rw [tks_end hl] at h
      cases h
      simp; omega
theorem tokens_len {s : List UInt8} {l : List (Int × List UInt8 × Nat × Nat)} (h : tokens s = .ok l) : l.length ≤ 65 := by
  unfold tokens at h
  split at h
  · cases h
  · have := tks_len s _ 0 0 l (Nat.le_refl _) (by omega) h
    omega
theorem tks_tok {s : List UInt8} {a n : Nat} {k : Int} {t : List UInt8} {num m : Nat} (h : a < s.length) (hb : blnk (s.getD a 0) = false) (hx : lex (s.drop a) = .tok k t num m) (hn : n ≠ 64) : tks s a n = TR.pre [(k, t, num, a)] (tks s (a + m) (n + 1)) := by
  rw [tks_eq h, hb, if_neg (by decide), hx]
  show (if n = 64 then _ else _) = _
  rw [if_neg hn]
theorem tok_awake_spec (H : AH) : ACalls PG broadsheetlaw14_awake.n [] H fun r H' => r = .bool true ∧ H' = H := by
  have ex : tokens [97, 60, 61, 45, 53] = .ok [(1, [97], 0, 0), (5, [60, 61], 0, 1), (5, [45], 0, 3), (2, [53], 5, 4), (6, [], 0, 5)] := by
    unfold tokens
    rw [if_neg (by decide), tks_tok (k := 1) (t := [97]) (num := 0) (m := 1) (by decide) rfl rfl (by decide), tks_tok (k := 5) (t := [60, 61]) (num := 0) (m := 2) (by decide) rfl rfl (by decide),
      tks_tok (k := 5) (t := [45]) (num := 0) (m := 1) (by decide) rfl rfl (by decide), tks_tok (k := 2) (t := [53]) (num := 5) (m := 1) (by decide) rfl rfl (by decide), tks_end (by decide)]
    rfl
  refine ACalls.keepSub (K := fun r => r = .bool true) (broadsheetlaw14_awake.of rfl (wpF_start ?_))
  (first | refine au ?_ | exact au0 | fail)
  refine callF_eq ((Tokens_spec (s := [97, 60, 61, 45, 53]) (by simp)).frame _) ?_
  rw [ex]
  (first | refine au ?_ | exact au0 | fail)
  intro id hid ht
  (first | refine au ?_ | exact au0 | fail)
  refine ⟨true, rfl, ?_⟩
  (first | refine au ?_ | exact au0 | fail)
  exact Sub.skip (Sub.refl _) hid
theorem TokenReads_spec {s : List UInt8} (hs : s.length ≤ 140737488351232) : ACalls PG broadsheetlaw14_TokenReads.n [.str s] [] fun r _ => r = .bool true := by
  refine broadsheetlaw14_TokenReads.of rfl (wpF_start ?_)
  (first | refine au ?_ | exact au0 | fail)
  refine callF_eq ((Tokens_spec hs).frame _) ?_
  cases hR : tokens s with
  | ok l =>
    (first | refine au ?_ | exact au0 | fail)
    intro id3 hid3 ht3
    (first | refine au ?_ | exact au0 | fail)
    refine callF_eq ((ref_Tokens_spec hs).frame _) ?_
    rw [hR]
    (first | refine au ?_ | exact au0 | fail)
    intro id4 hid4 ht4
    have n43 := (hget_fresh hid4).1
    (first | refine au ?_ | exact au0 | fail)
    refine callF_eq (ref_Same_spec l (by have := tokens_len hR; omega) _) ?_
    (first | refine au ?_ | exact au0 | fail)
    refine ⟨true, rfl, ?_⟩
    (first | refine au ?_ | exact au0 | fail)
    refine callF_eq (tok_awake_spec _) ?_
    (first | refine au ?_ | exact au0 | fail)
  | bad e p =>
    (first | refine au ?_ | exact au0 | fail)
    intro id3 hid3 ht3
    (first | refine au ?_ | exact au0 | fail)
    refine callF_eq ((ref_Tokens_spec hs).frame _) ?_
    rw [hR]
    (first | refine au ?_ | exact au0 | fail)
    intro id4 hid4 ht4
    have n43 := (hget_fresh hid4).1
    (first | refine au ?_ | exact au0 | fail)
    refine callF_eq (ref_Same_nil _) ?_
    (first | refine au ?_ | exact au0 | fail)
    refine ⟨true, by simp [eqCells, over, fltA, AV.cells], ?_⟩
    (first | refine au ?_ | exact au0 | fail)
    refine callF_eq (tok_awake_spec _) ?_
    (first | refine au ?_ | exact au0 | fail)
def Shapes.tokenReads0 : Sh := .str
theorem TokenReads_row (a0 : AV) (h0 : ArgOk false Shapes.tokenReads0 a0) : ACalls PG 3 [a0] [] fun r _ => r = .bool true := by
  obtain ⟨p, e0, h⟩ := h0
  simp only [List.cons.injEq, and_true] at e0
  subst e0
  exact TokenReads_spec h
end Go.Proofs.Ytlmplofpclaokaa
