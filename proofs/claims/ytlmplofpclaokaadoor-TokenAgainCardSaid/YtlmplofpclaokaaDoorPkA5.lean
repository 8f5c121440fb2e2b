/- Texts of this proof, one behind the other: TokLex, TokTokens, TokRef, TokRefMath, TokRefMath2, TokRef2, TokRef3, TokRef4, TokRef5, TokRef6, TokLaw, SimRec, TokJoinLaw, TokAgainMath, TokAgainLaw, TabSpecTokenAgain. -/
import Derived.Test.YtlmplofpclaokaaDoorPkA4
import Derived.Test.YtlmplofpclaokaaDoorCards
import Derived.Test.YtlmplofpclaokaaDoorTie
import Derived.Lib.LaidTab
import Derived.LaidMore
import Derived.Stop.LaidErr
import Derived.SevenTiedAt
import Derived.Shelf.Vars
import Derived.ShapedOpen
import Derived.Lay
/- All tokens of a text; plain. -/
namespace Go.Proofs.YtlmplofpclaokaaDoor
set_option autoImplicit false

theorem qs_bound : ∀ (m : Nat) (r : List UInt8) (i : Nat) (acc t : List UInt8) (n : Nat), r.length ≤ m → qs r i acc = .done t n → i < n ∧ n ≤ i + r.length
  | m, [], i, acc, t, n, _, h => by cases h
  | m, [c], i, acc, t, n, _, h => by
    simp only [qs] at h
    split at h
    · cases h
    · split at h
      · cases h; simp
      · cases h
  | 0, c :: d :: r, i, acc, t, n, hm, h => by simp at hm
  | m + 1, c :: d :: r, i, acc, t, n, hm, h => by
    simp only [List.length_cons] at hm ⊢
    simp only [qs] at h
    split at h
    · cases h
    · split at h
      · split at h
        · have := qs_bound m r _ _ t n (by omega) h
          omega
        · cases h; omega
      · have := qs_bound m (d :: r) _ _ t n (by simp; omega) h
        simp only [List.length_cons] at this
        omega
theorem lex_cons (c : UInt8) (r : List UInt8) : lex (c :: r) =
    if ltr c then .tok 1 ((c :: r).take (nl (c :: r))) 0 (nl (c :: r))
    else if dig c then
      if 1 < dl (c :: r) ∧ c = 48 then .bad 1 0
      else if numV ((c :: r).take (dl (c :: r))) < 18446744073709551616 then .tok 2 ((c :: r).take (dl (c :: r))) (numV ((c :: r).take (dl (c :: r)))) (dl (c :: r))
      else .bad 7 0
    else if c = 39 then match qs r 1 [] with
      | .done t n => .tok 3 t 0 n
      | .odd i => .bad 10 i
      | .short => .bad 2 0
    else if c = 37 then match r with
      | d :: _ => if dig d then .tok 4 [37, d] (d.toNat - 48) 2 else .bad 11 0
      | [] => .bad 11 0
    else if sgn c then .tok 5 ((c :: r).take (if two (c :: r) then 2 else 1)) 0 (if two (c :: r) then 2 else 1)
    else .bad 11 0 := rfl
theorem lex_bound {l : List UInt8} {k : Int} {t : List UInt8} {num n : Nat} (h : lex l = .tok k t num n) : 1 ≤ n ∧ n ≤ l.length := by
  cases l with
  | nil => cases h
  | cons c r =>
    rw [lex_cons] at h
    split at h
    · rename_i hc
      cases h
      refine ⟨?_, nl_le _⟩
      rw [nl_cons, if_pos hc]; omega
    · split at h
      · rename_i hd
        have h1 : 1 ≤ dl (c :: r) := (dl_step (s := c :: r) (n := 0) (Nat.zero_le _) (by simp)).2 hd
        split at h
        · cases h
        · split at h
          · cases h; exact ⟨h1, dl_le _⟩
          · cases h
      · split at h
        · split at h
          · rename_i e; cases h
            have := qs_bound _ _ _ _ _ _ (Nat.le_refl _) e
            simp only [List.length_cons]; omega
          · cases h
          · cases h
        · split at h
          · split at h
            · split at h
              · cases h; simp
              · cases h
            · cases h
          · split at h
            · cases h
              split
              · rename_i h2
                refine ⟨by omega, ?_⟩
                cases r with
                | nil => simp [two] at h2
                | cons d r => simp
              · simp
            · cases h
theorem lex_err {l : List UInt8} {e : Int} {off : Nat} (h : lex l = .bad e off) : 0 < e ∧ e < 100 := by
  cases l with
  | nil => cases h; decide
  | cons c r =>
    rw [lex_cons] at h
    repeat' split at h
    all_goals first | (cases h; decide) | cases h

inductive TR where
  | ok (l : List (Int × List UInt8 × Nat × Nat))
  | bad (e : Int) (p : Nat)
def TR.pre (l : List (Int × List UInt8 × Nat × Nat)) : TR → TR
  | .ok l' => .ok (l ++ l')
  | .bad e p => .bad e p
theorem TR.pre_pre (l l' : List (Int × List UInt8 × Nat × Nat)) (R : TR) : TR.pre l (TR.pre l' R) = TR.pre (l ++ l') R := by cases R <;> simp [TR.pre]
theorem TR.pre_nil (R : TR) : TR.pre [] R = R := by cases R <;> rfl

/-- The tokens from a byte on, n tokens being there. -/
def tks (s : List UInt8) (a n : Nat) : TR :=
    if a < s.length then
      if blnk (s.getD a 0) then tks s (a + 1) n
      else match lex (s.drop a) with
        | .bad e off => .bad e (a + off)
        | .tok k t num m => if n = 64 then .bad 3 a else TR.pre [(k, t, num, a)] (tks s (a + (m - 1) + 1) (n + 1))
    else .ok [(6, [], 0, s.length)]
  termination_by s.length - a
  decreasing_by all_goals omega
theorem tks_end {s : List UInt8} {a n : Nat} (h : s.length ≤ a) : tks s a n = .ok [(6, [], 0, s.length)] := by
  rw [tks, if_neg (by omega)]
theorem tks_eq {s : List UInt8} {a n : Nat} (h : a < s.length) : tks s a n =
    if blnk (s.getD a 0) then tks s (a + 1) n
      else match lex (s.drop a) with
        | .bad e off => .bad e (a + off)
        | .tok k t num m => if n = 64 then .bad 3 a else TR.pre [(k, t, num, a)] (tks s (a + m) (n + 1)) := by
  rw [tks, if_pos h]
  split
  · rfl
  · split
    · rfl
    · rename_i k t num m e
      have := lex_bound e
      rw [show a + (m - 1) + 1 = a + m from by omega]
def tokens (s : List UInt8) : TR := if 256 < s.length then .bad 3 0 else tks s 0 0
end Go.Proofs.YtlmplofpclaokaaDoor

/- What Tokens computes. -/
namespace Go.Proofs.YtlmplofpclaokaaDoor
set_option autoImplicit false
set_option linter.unusedSimpArgs false
set_option linter.unusedVariables false
--HSET
attribute [local irreducible] callA callP ACalls

/-- A slice that is owned, or nil. -/
structure OwnS (H : AH) (T sz : Nat) (v : AV) (l : List (List AV)) : Prop where
  or : (v = .nilS ∧ l = []) ∨ ∃ id, v = .own id sz 0 l.length ∧ hget H id = some (.rows sz l) ∧ tag id = T ∧ 0 < l.length
abbrev tkR (x : Int × List UInt8 × Nat × Nat) : List AV := [.int .i64 x.1, .str x.2.1, .int .u64 (x.2.2.1 : Nat), .int .i64 (x.2.2.2 : Nat)]
theorem tkR_len (l : List (Int × List UInt8 × Nat × Nat)) : ∀ (i : Nat) r, (l.map tkR)[i]? = some r → r.length = 4 := by
  intro i r h
  rw [List.getElem?_map] at h
  cases hh : l[i]? with
  | none => rw [hh] at h; cases h
  | some x => rw [hh] at h; simp at h; rw [← h]; rfl

structure TS (s : List UInt8) (id3 id4 at' : Nat) (v : AV) (l : List (Int × List UInt8 × Nat × Nat)) (H : AH) : Prop where
  g4 : hget H id4 = some (.rows 2 [[.str s, .int .i64 (at' : Nat)]])
  g3 : hget H id3 = some (.rows 2 [[.int .i64 0, .int .i64 0]])
  n : id3 ≠ id4
  s : OwnS H ty_api_Token 4 v (l.map tkR)
  len : l.length ≤ 64
theorem TS.own {s : List UInt8} {id3 id4 at' : Nat} {v : AV} {l : List (Int × List UInt8 × Nat × Nat)} {H : AH} (h : TS s id3 id4 at' v l H) : (v = .nilS ∧ l = []) ∨ ∃ id, v = .own id 4 0 l.length ∧ hget H id = some (.rows 4 (l.map tkR)) ∧ tag id = ty_api_Token ∧ 0 < l.length ∧ id ≠ id3 ∧ id ≠ id4 := by
  rcases h.s.or with ⟨q1, q2⟩ | ⟨id, q1, q2, q3, q4⟩
  · exact .inl ⟨q1, by simpa using q2⟩
  · refine .inr ⟨id, by rw [q1, List.length_map], q2, q3, by simpa using q4, fun e => ?_, fun e => ?_⟩
    · rw [e, h.g3] at q2; cases q2
    · rw [e, h.g4] at q2; cases q2
theorem TS.step {s : List UInt8} {id3 id4 at' b' : Nat} {v : AV} {l : List (Int × List UInt8 × Nat × Nat)} {H : AH} (h : TS s id3 id4 at' v l H) : TS s id3 id4 b' v l (hset H id4 (.rows 2 [[.str s, .int .i64 (b' : Nat)]])) := by
  refine ⟨hget_set h.g4, (hget_set_ne h.n).trans h.g3, h.n, ⟨?_⟩, h.len⟩
  rcases h.own with ⟨q1, q2⟩ | ⟨id, q1, q2, q3, q4, q5, q6⟩
  · exact .inl ⟨q1, by rw [q2]; rfl⟩
  · exact .inr ⟨id, by rw [q1, List.length_map], (hget_set_ne q6).trans q2, q3, by simpa using q4⟩

/-- What Tokens hands back. -/
structure TokR (R : TR) (r : AV) : Prop where
  ok : ∀ l, R = .ok l → r = .tup [.rows 4 (l.map tkR), fltA 0 0]
  bad : ∀ e p, R = .bad e p → r = .tup [.nilS, fltA e (p : Nat)]
/-- .. what is owned told. -/
structure TokO (R : TR) (r : AV) (H : AH) : Prop where
  ok : ∀ l, R = .ok l → ∃ id, r = .tup [.own id 4 0 l.length, fltA 0 0] ∧ hget H id = some (.rows 4 (l.map tkR))
  bad : ∀ e p, R = .bad e p → r = .tup [.nilS, fltA e (p : Nat)]
theorem TokO.of_bad {e : Int} {p : Nat} {r : AV} {H : AH} (h : r = .tup [.nilS, fltA e (p : Nat)]) : TokO (.bad e p) r H := ⟨(fun _ q => by cases q), fun e p q => by cases q; exact h⟩
theorem TokO.of_ok {l : List (Int × List UInt8 × Nat × Nat)} {r : AV} {H : AH} {id : Nat} (h : r = .tup [.own id 4 0 l.length, fltA 0 0]) (h2 : hget H id = some (.rows 4 (l.map tkR))) : TokO (.ok l) r H :=
  ⟨fun _ q => by cases q; exact ⟨id, h, h2⟩, fun _ _ q => by cases q⟩

def bl (s : List UInt8) (a : Nat) : Nat := ((s.drop a).takeWhile blnk).length
theorem bl_step {s : List UInt8} {a i : Nat} (hi : i ≤ bl s a) (h : a + i < s.length) : i < bl s a ↔ blnk (s.getD (a + i) 0) = true := by
  have := tw_step (f := blnk) (r := s.drop a) (n := i) hi (by rw [List.length_drop]; omega)
  rw [show (s.drop a).getD i 0 = s.getD (a + i) 0 from by simp [List.getD]] at this
  exact this
theorem bl_stop (s : List UInt8) (a : Nat) : a + bl s a < s.length → blnk (s.getD (a + bl s a) 0) = false := fun h => by
  have := bl_step (Nat.le_refl (bl s a)) h
  cases hh : blnk (s.getD (a + bl s a) 0) with
  | false => rfl
  | true => exact absurd (this.2 hh) (Nat.lt_irrefl _)
theorem tks_skip (s : List UInt8) (a n : Nat) : tks s a n = tks s (a + bl s a) n := by
  have key : ∀ i, i ≤ bl s a → tks s a n = tks s (a + i) n := by
    intro i
    induction i with
    | zero => intro _; rfl
    | succ i ih =>
      intro h
      rw [ih (by omega)]
      have hl : a + i < s.length := by
        have := (List.takeWhile_prefix (l := s.drop a) blnk).length_le
        rw [List.length_drop] at this
        unfold bl at h
        omega
      rw [tks_eq hl, if_pos ((bl_step (by omega) hl).1 (by omega))]
      rfl
  exact key _ (Nat.le_refl _)
set_option maxHeartbeats 1000000 in
theorem Tokens_spec0 {s : List UInt8} (hs : s.length ≤ 140737488351232) : ACalls PG token_Tokens.n [.str s] [] (TokO (tokens s)) := by
  refine token_Tokens.of rfl (wpF_start ?_)
  unfold tokens
  (first | refine ah ?_ | exact ah0 | fail)
  intro id3 hid3 ht3
  (first | refine ah ?_ | exact ah0 | fail)
  refine bsplit_dec (fun e1 => ?_) (fun e1 => ?_)
  · (first | refine ah ?_ | exact ah0 | fail)
    rw [if_pos (by omega)]
    exact TokO.of_bad rfl
  · rw [if_neg (by omega)]
    have hle : s.length ≤ 256 := by omega
    (first | refine ah ?_ | exact ah0 | fail)
    intro id4 hid4 ht4
    have n34 : id3 ≠ id4 := (hget_fresh hid4).1.symm
    (first | refine ah ?_ | exact ah0 | fail)
    generalize hR : tks s 0 0 = R
    refine ⟨fun n L H' => ∃ (a : Nat) (v : AV) (l : List (Int × List UInt8 × Nat × Nat)), n = s.length - a ∧ a ≤ s.length ∧ TR.pre l (tks s a l.length) = R ∧ L = [(0, some (.str s)), (3, some (.ptr id3 2 0 0)), (4, some (.ptr id4 2 0 0)), (5, some v)] ∧ TS s id3 id4 a v l H',
      ⟨_, _, ?_, Sub.refl _, _, 0, .nilS, [], rfl, Nat.zero_le _, (TR.pre_nil _).trans hR, rfl, ?_⟩, ?_⟩
    · exact (by repeat (first | exact trivial | refine And.intro (Or.inl rfl) ?_ | refine And.intro (Or.inr (Exists.intro _ (And.intro rfl (Fz.refl _)))) ?_ | refine And.intro (Or.inr (Exists.intro _ (And.intro rfl (fz_eq (congrArg (AV.int _) (by omega)))))) ?_ | refine And.intro (Or.inr (Exists.intro _ (And.intro rfl (fz_eq (congrArg (AV.own _ _ _) (by (try dsimp only); (try simp only [List.length_append, List.length_map, List.length_cons, List.length_nil, List.length_take, List.length_set, List.length_replicate]); (try dsimp only); first | done | omega)))))) ?_))
    · exact ⟨hget_self, (hget_tail n34.symm).trans hget_self, n34, ⟨.inl ⟨rfl, rfl⟩⟩, by simp⟩
    · clear hid3 hid4 hR
      rintro n L H' ⟨a, v, l, rfl, ha, hR, rfl, T⟩
      have g4 := T.g4
      have hbl : bl s a ≤ s.length - a := by
        have := (List.takeWhile_prefix (l := s.drop a) blnk).length_le
        rw [List.length_drop] at this
        exact this
      (first | refine ac ?_ | exact ac0 | fail)
      refine .inr ⟨[(0, some (.str s)), (3, some (.ptr id3 2 0 0)), (4, some (.ptr id4 2 0 0)), (5, some v)], hset H' id4 (.rows 2 [[.str s, .int .i64 (a + bl s a : Nat)]]), ?_, ?_⟩
      · (first | refine ah ?_ | exact ah0 | fail)
        refine ⟨fun n L H'' => ∃ i, n = bl s a - i ∧ i ≤ bl s a ∧ L = [(0, some (.str s)), (3, some (.ptr id3 2 0 0)), (4, some (.ptr id4 2 0 0)), (5, some v)] ∧ H'' = hset H' id4 (.rows 2 [[.str s, .int .i64 (a + i : Nat)]]), ⟨_, hset H' id4 (.rows 2 [[.str s, .int .i64 (a + 0 : Nat)]]), ?_, sub_hset g4 (fun _ _ _ q => q), _, 0, rfl, Nat.zero_le _, rfl, rfl⟩, ?_⟩
        · exact (by repeat (first | exact trivial | refine And.intro (Or.inl rfl) ?_ | refine And.intro (Or.inr (Exists.intro _ (And.intro rfl (Fz.refl _)))) ?_ | refine And.intro (Or.inr (Exists.intro _ (And.intro rfl (fz_eq (congrArg (AV.int _) (by omega)))))) ?_ | refine And.intro (Or.inr (Exists.intro _ (And.intro rfl (fz_eq (congrArg (AV.own _ _ _) (by (try dsimp only); (try simp only [List.length_append, List.length_map, List.length_cons, List.length_nil, List.length_take, List.length_set, List.length_replicate]); (try dsimp only); first | done | omega)))))) ?_))
        · rintro n L H'' ⟨i, rfl, hi, rfl, rfl⟩
          have g : hget (hset H' id4 (.rows 2 [[.str s, .int .i64 (a + i : Nat)]])) id4 = some (.rows 2 [[.str s, .int .i64 (a + i : Nat)]]) := hget_set g4
          have hst := bl_step (s := s) (a := a) (i := i) hi
          (first | refine ah ?_ | exact ah0 | fail)
          refine bsplit_dec (fun e2 => ?_) (fun e2 => ?_)
          · (first | refine ah ?_ | exact ah0 | fail)
            refine callF_eq (token_blank_spec _ _) ?_
            rw [Int.toNat_natCast, show blnk (s.getD (a + i) 0) = decide (i < bl s a) from bool_iff (hst (by omega)).symm]
            (first | refine ah ?_ | exact ah0 | fail)
            refine bsplit_dec (fun e3 => ?_) (fun e3 => ?_)
            · (first | refine ah ?_ | exact ah0 | fail)
              refine ⟨[(0, some (.str s)), (3, some (.ptr id3 2 0 0)), (4, some (.ptr id4 2 0 0)), (5, some v)], hset H' id4 (.rows 2 [[.str s, .int .i64 (a + (i + 1) : Nat)]]), (by repeat (first | exact trivial | refine And.intro (Or.inl rfl) ?_ | refine And.intro (Or.inr (Exists.intro _ (And.intro rfl (Fz.refl _)))) ?_ | refine And.intro (Or.inr (Exists.intro _ (And.intro rfl (fz_eq (congrArg (AV.int _) (by omega)))))) ?_ | refine And.intro (Or.inr (Exists.intro _ (And.intro rfl (fz_eq (congrArg (AV.own _ _ _) (by (try dsimp only); (try simp only [List.length_append, List.length_map, List.length_cons, List.length_nil, List.length_take, List.length_set, List.length_replicate]); (try dsimp only); first | done | omega)))))) ?_)), ?_, _, ?_, i + 1, rfl, by omega, rfl, rfl⟩
              · rw [show ((a + (i + 1) : Nat) : Int) = ((a + i : Nat) : Int) + 1 from by omega]
                exact sub_hset (hget_set g) (fun j c q1 q2 => (hget_set_ne q1).trans ((hget_set_ne q1).trans q2))
              · omega
            · (first | refine ah ?_ | exact ah0 | fail)
              obtain rfl : i = bl s a := by omega
              exact ⟨(by repeat (first | exact trivial | refine And.intro (Or.inl rfl) ?_ | refine And.intro (Or.inr (Exists.intro _ (And.intro rfl (Fz.refl _)))) ?_ | refine And.intro (Or.inr (Exists.intro _ (And.intro rfl (fz_eq (congrArg (AV.int _) (by omega)))))) ?_ | refine And.intro (Or.inr (Exists.intro _ (And.intro rfl (fz_eq (congrArg (AV.own _ _ _) (by (try dsimp only); (try simp only [List.length_append, List.length_map, List.length_cons, List.length_nil, List.length_take, List.length_set, List.length_replicate]); (try dsimp only); first | done | omega)))))) ?_)), Sub.refl _⟩
          · (first | refine ah ?_ | exact ah0 | fail)
            obtain rfl : i = bl s a := by omega
            exact ⟨(by repeat (first | exact trivial | refine And.intro (Or.inl rfl) ?_ | refine And.intro (Or.inr (Exists.intro _ (And.intro rfl (Fz.refl _)))) ?_ | refine And.intro (Or.inr (Exists.intro _ (And.intro rfl (fz_eq (congrArg (AV.int _) (by omega)))))) ?_ | refine And.intro (Or.inr (Exists.intro _ (And.intro rfl (fz_eq (congrArg (AV.own _ _ _) (by (try dsimp only); (try simp only [List.length_append, List.length_map, List.length_cons, List.length_nil, List.length_take, List.length_set, List.length_replicate]); (try dsimp only); first | done | omega)))))) ?_)), Sub.refl _⟩
      · rw [tks_skip] at hR
        have hnb := bl_stop s a
        have ha' : a + bl s a ≤ s.length := by omega
        have T1 := T.step (b' := a + bl s a)
        have hle1 : a ≤ a + bl s a := Nat.le_add_right _ _
        generalize a + bl s a = a1 at *
        generalize hset H' id4 (.rows 2 [[.str s, .int .i64 (a1 : Nat)]]) = H1 at *
        clear T g4
        have g4 := T1.g4
        have g3 := T1.g3
        (first | refine ah ?_ | exact ah0 | fail)
        refine bsplit_dec (fun e2 => ?_) (fun e2 => ?_)
        · rw [tks_end (by omega)] at hR
          subst hR
          rcases T1.own with ⟨rfl, rfl⟩ | ⟨ids, rfl, gs, ts, pos, ns3, ns4⟩
          · obtain rfl : a1 = s.length := by omega
            (first | refine ah ?_ | exact ah0 | fail)
            refine ⟨_, rfl, by simp, (fun e => by cases e), fun _ => ?_⟩
            intro idn hidn htn
            have nn3 := hget_ne_of hidn g3
            (first | refine ah ?_ | exact ah0 | fail)
            exact TokO.of_ok (l := [(6, [], 0, s.length)]) rfl hget_self
          · obtain rfl : a1 = s.length := by omega
            have len := T1.len
            have exs : (((l.map tkR).take l.length).drop 0) = l.map tkR := by rw [List.drop_zero, show l.length = (l.map tkR).length from by simp, List.take_length]
            (first | refine ah ?_ | exact ah0 | fail)
            refine ⟨_, _, (readS_own gs (by simp)).trans (congrArg some exs), rfl, rfl, rfl, ts, by simp; omega, ?_⟩
            intro idn hidn htn
            have nn3 := hget_ne_of hidn g3
            (first | refine ah ?_ | exact ah0 | fail)
            refine TokO.of_ok (l := l ++ [(6, [], 0, s.length)]) (id := idn) ?_ ?_
            · have hln : (l ++ [((6 : Int), ([] : List UInt8), 0, s.length)]).length = (l.map tkR).length + 1 := by simp
              rw [hln]
              rfl
            · rw [List.map_append]
              exact hget_self
        · have hlt : a1 < s.length := by omega
          rw [tks_eq hlt, hnb hlt, if_neg (by decide)] at hR
          (first | refine ah ?_ | exact ah0 | fail)
          refine callF_of ((lexer_next_spec (s := s) (at' := a1) g4 hlt hs).mono fun rr H2 hh => ?_)
          have k3 := hh.keep id3 _ n34 g3
          cases hx : lex (s.drop a1) with
          | bad e off =>
            obtain ⟨k, t, num, ap, rfl⟩ := hh.bad e off hx
            have := lex_err hx
            rw [hx] at hR
            subst hR
            (first | refine ah ?_ | exact ah0 | fail)
            intro id7 hid7 ht7
            (first | refine ah ?_ | exact ah0 | fail)
            intro id8 hid8 ht8
            have n73 := hget_ne_of hid7 k3
            have n83 := hget_ne_of hid8 ((hget_tail n73).trans k3)
            have n87 := (hget_fresh hid8).1
            (first | refine ah ?_ | exact ah0 | fail)
            exact TokO.of_bad rfl
          | tok k t num m =>
            obtain ⟨rfl, g4n⟩ := hh.tok k t num m hx
            have bd := lex_bound hx
            rw [List.length_drop] at bd
            rw [hx] at hR
            (first | refine ah ?_ | exact ah0 | fail)
            intro id7 hid7 ht7
            (first | refine ah ?_ | exact ah0 | fail)
            intro id8 hid8 ht8
            have n73 := hget_ne_of hid7 k3
            have n83 := hget_ne_of hid8 ((hget_tail n73).trans k3)
            have n87 := (hget_fresh hid8).1
            have n74 := hget_ne_of hid7 g4n
            have n84 := hget_ne_of hid8 ((hget_tail n74).trans g4n)
            have len := T1.len
            replace hR : TR.pre l (if l.length = 64 then TR.bad 3 a1 else TR.pre [(k, t, num, a1)] (tks s (a1 + m) (l.length + 1))) = R := hR
            by_cases h64 : l.length = 64
            · rw [if_pos h64] at hR
              subst hR
              rcases T1.own with ⟨rfl, rfl⟩ | ⟨ids, rfl, gs, ts, pos, ns3, ns4⟩
              · cases h64
              · (first | refine ah ?_ | exact ah0 | fail)
                exact TokO.of_bad rfl
            · rw [if_neg h64, TR.pre_pre] at hR
              have hln : (l ++ [(k, t, num, a1)]).length = l.length + 1 := by simp
              rw [← hln] at hR
              rcases T1.own with ⟨rfl, rfl⟩ | ⟨ids, rfl, gs, ts, pos, ns3, ns4⟩
              · (first | refine ah ?_ | exact ah0 | fail)
                refine ⟨_, rfl, by simp, (fun e => by cases e), fun _ => ?_⟩
                intro idn hidn htn
                (first | refine ah ?_ | exact ah0 | fail)
                refine ⟨[(0, some (.str s)), (3, some (.ptr id3 2 0 0)), (4, some (.ptr id4 2 0 0)), (5, some (.own idn 4 0 1))], _, (by repeat (first | exact trivial | refine And.intro (Or.inl rfl) ?_ | refine And.intro (Or.inr (Exists.intro _ (And.intro rfl (Fz.refl _)))) ?_ | refine And.intro (Or.inr (Exists.intro _ (And.intro rfl (fz_eq (congrArg (AV.int _) (by omega)))))) ?_ | refine And.intro (Or.inr (Exists.intro _ (And.intro rfl (fz_eq (congrArg (AV.own _ _ _) (by (try dsimp only); (try simp only [List.length_append, List.length_map, List.length_cons, List.length_nil, List.length_take, List.length_set, List.length_replicate]); (try dsimp only); first | done | omega)))))) ?_)), Sub.refl _, _, ?_, a1 + m, _, _, rfl, by omega, hR, rfl, ?_⟩
                · omega
                · have q8 := (hget_fresh hidn)
                  have q7 := (hget_fresh q8.2)
                  have m4 := hget_ne_of q7.2 g4n
                  have m3 := hget_ne_of q7.2 k3
                  exact ⟨by exact hg_of, by exact hg_of, n34, ⟨.inr ⟨idn, rfl, hget_self, htn, by simp⟩⟩, by simp⟩
              · have exs : (((l.map tkR).take l.length).drop 0) = l.map tkR := by rw [List.drop_zero, show l.length = (l.map tkR).length from by simp, List.take_length]
                have gs2 := hh.keep ids _ ns4 gs
                have n7s := hget_ne_of hid7 gs2
                have n8s := hget_ne_of hid8 ((hget_tail n7s).trans gs2)
                (first | refine ah ?_ | exact ah0 | fail)
                refine ⟨_, _, (readS_own (by exact hg_of) (by simp)).trans (congrArg some exs), rfl, rfl, rfl, ts, by simp; omega, ?_⟩
                intro idn hidn htn
                have q0 : ∀ j b, j ≠ ids → j ≠ id7 → j ≠ id8 → hget H2 j = some b → idn ≠ j := fun j b r1 r2 r3 r4 => hget_ne_of hidn (show hget _ j = some b by exact hg_of)
                (first | refine ah ?_ | exact ah0 | fail)
                have m4 := q0 id4 _ ns4.symm n74.symm n84.symm g4n
                have m3 := q0 id3 _ ns3.symm n73.symm n83.symm k3
                refine ⟨[(0, some (.str s)), (3, some (.ptr id3 2 0 0)), (4, some (.ptr id4 2 0 0)), (5, some (.own idn 4 0 ((l.map tkR).length + 1)))], _, (by repeat (first | exact trivial | refine And.intro (Or.inl rfl) ?_ | refine And.intro (Or.inr (Exists.intro _ (And.intro rfl (Fz.refl _)))) ?_ | refine And.intro (Or.inr (Exists.intro _ (And.intro rfl (fz_eq (congrArg (AV.int _) (by omega)))))) ?_ | refine And.intro (Or.inr (Exists.intro _ (And.intro rfl (fz_eq (congrArg (AV.own _ _ _) (by (try dsimp only); (try simp only [List.length_append, List.length_map, List.length_cons, List.length_nil, List.length_take, List.length_set, List.length_replicate]); (try dsimp only); first | done | omega)))))) ?_)), Sub.refl _, _, ?_, a1 + m, _, _, rfl, by omega, hR, rfl, ?_⟩
                · omega
                · exact ⟨by exact hg_of, by exact hg_of, n34, ⟨.inr ⟨idn, by simp, by rw [List.map_append]; exact hget_self, htn, by simp⟩⟩, by simp; omega⟩
end Go.Proofs.YtlmplofpclaokaaDoor

/- What the reference's small functions compute. -/
namespace Go.Proofs.YtlmplofpclaokaaDoor
set_option autoImplicit false
set_option linter.unusedSimpArgs false
set_option linter.unusedVariables false
--HSET
attribute [local irreducible] callA callP ACalls

end Go.Proofs.YtlmplofpclaokaaDoor

/- The longest beginning that is a token; plain. -/
namespace Go.Proofs.YtlmplofpclaokaaDoor
set_option autoImplicit false
set_option linter.unusedSimpArgs false
set_option linter.unusedVariables false

theorem ltr_nam {c : UInt8} (h : ltr c = true) : nam c = true := by simp [nam, h]
theorem dig_not_ltr {c : UInt8} (h : dig c = true) : ltr c = false := by
  cases hh : ltr c with
  | false => rfl
  | true => rw [dig_iff] at h; rw [ltr_iff] at hh; omega
theorem tw_all {f : UInt8 → Bool} : ∀ {r : List UInt8} {n : Nat}, n ≤ (r.takeWhile f).length → (r.take n).all f = true
  | [], n, _ => by simp
  | c :: r, 0, _ => rfl
  | c :: r, n + 1, h => by
    rw [List.takeWhile_cons] at h
    split at h
    · rename_i hc
      rw [List.take_succ_cons, List.all_cons, hc, tw_all (by simpa using h)]; rfl
    · simp at h
theorem tw_full {f : UInt8 → Bool} : ∀ {r : List UInt8}, (r.takeWhile f).length = r.length ↔ r.all f = true
  | [] => by simp
  | c :: r => by
    rw [List.takeWhile_cons, List.all_cons]
    cases hc : f c with
    | true => simp [tw_full (f := f) (r := r)]
    | false => simp
theorem fmd_take {s : List UInt8} {n : Nat} (hn : n ≤ nl s) (hl : n < s.length) : fmd (s.take (n + 1)) = decide (n < nl s) := by
  cases s with
  | nil => simp at hl
  | cons c r =>
    rw [nl_cons] at hn ⊢
    unfold fmd
    rw [List.take_succ_cons, decide_eq_true (by simp), List.getD_cons_zero, List.all_cons]
    cases hc : ltr c with
    | false => rw [decide_eq_false (by simp)]; rfl
    | true =>
      rw [hc, if_pos rfl] at hn
      rw [ltr_nam hc, if_pos rfl]
      simp only [Bool.true_and]
      have hl' : n ≤ r.length := by simpa using Nat.le_of_lt_succ (by simpa using hl)
      cases n with
      | zero => simp; omega
      | succ n =>
        have hl2 : n < r.length := hl'
        rw [all_take _ _ hl2, tw_all (show n ≤ (r.takeWhile nam).length by omega), Bool.true_and]
        have := tw_step (f := nam) (r := r) (n := n) (by omega) hl2
        exact bool_iff (by rw [← this]; omega)

def signs : List (List UInt8) := [[61], [60, 62], [60], [60, 61], [62], [62, 61], [40], [41], [46], [91], [93], [45]]
def qdr : List UInt8 → List UInt8 → Option (List UInt8)
  | [], _ => none
  | [c], acc => if c = 39 then some acc else none
  | c :: d :: r, acc => if c = 39 then (if d = 39 then qdr r (acc ++ [39]) else none) else qdr (d :: r) (acc ++ [c])
def qd (s : List UInt8) : Option (List UInt8) := if s.getD 0 0 = 39 ∧ 2 ≤ s.length then qdr (s.drop 1) [] else none
/-- Of which kind a text is. -/
def kd (s : List UInt8) : Nat :=
  if nl s = s.length then 1 else if s ≠ [] ∧ s.all dig = true then 2 else if (qd s).isSome = true then 3
  else if s.length = 2 ∧ s.getD 0 0 = 37 ∧ dig (s.getD 1 0) = true then 4 else if signs.contains s = true then 5 else 0

theorem signs_head {c : UInt8} {r : List UInt8} (h : signs.contains (c :: r) = true) : sgn c = true := by
  simp only [signs, List.contains_cons, Bool.or_eq_true, List.contains_nil, Bool.false_eq_true, or_false, beq_iff_eq, List.cons.injEq] at h
  rcases h with h | h | h | h | h | h | h | h | h | h | h | h <;> (rw [h.1]; rfl)
theorem sgn_not {c : UInt8} (h : sgn c = true) : ltr c = false ∧ dig c = false ∧ c ≠ 39 ∧ c ≠ 37 := by
  have : ∀ d ∈ ([61, 60, 62, 40, 41, 46, 91, 93, 45] : List UInt8), ltr d = false ∧ dig d = false ∧ d ≠ 39 ∧ d ≠ 37 := by decide
  exact this c (by simpa [sgn] using h)
theorem kd_nl {c : UInt8} {r : List UInt8} (h : ltr c = false) : kd (c :: r) = if (c :: r).all dig = true then 2 else if (qd (c :: r)).isSome = true then 3
    else if (c :: r).length = 2 ∧ (c :: r).getD 0 0 = 37 ∧ dig ((c :: r).getD 1 0) = true then 4 else if signs.contains (c :: r) = true then 5 else 0 := by
  have e : nl (c :: r) = 0 := by rw [nl_cons, h]; rfl
  unfold kd
  rw [if_neg (by rw [e]; simp)]
  by_cases q : (c :: r).all dig = true
  · rw [if_pos ⟨by simp, q⟩, if_pos q]
  · rw [if_neg (fun w => q w.2), if_neg q]
theorem kd_nd {c : UInt8} {r : List UInt8} (h : ltr c = false) (h2 : dig c = false) : kd (c :: r) = if (qd (c :: r)).isSome = true then 3
    else if (c :: r).length = 2 ∧ (c :: r).getD 0 0 = 37 ∧ dig ((c :: r).getD 1 0) = true then 4 else if signs.contains (c :: r) = true then 5 else 0 := by
  rw [kd_nl h, if_neg (by rw [List.all_cons, h2]; simp)]
theorem qd_not {c : UInt8} {r : List UInt8} (h : c ≠ 39) : (qd (c :: r)).isSome = false := by
  unfold qd
  rw [if_neg (fun q => h q.1)]; rfl
theorem qd_39 (r : List UInt8) : qd (39 :: r) = qdr r [] := by
  cases r with
  | nil => rfl
  | cons d r => unfold qd; rw [if_pos ⟨rfl, by simp⟩]; rfl
theorem kd_ltr {c : UInt8} {r : List UInt8} (h : ltr c = true) : kd (c :: r) = if r.all nam = true then 1 else 0 := by
  unfold kd
  rw [nl_cons, if_pos h, List.length_cons]
  by_cases ha : r.all nam = true
  · rw [if_pos (by rw [tw_full.2 ha]; omega), if_pos ha]
  · have hne : (r.takeWhile nam).length ≠ r.length := fun e => ha (tw_full.1 e)
    have h1 : dig c = false := by
      cases hd : dig c with
      | false => rfl
      | true => rw [dig_not_ltr hd] at h; cases h
    have h2 : c ≠ 39 := fun e => by rw [e] at h; cases h
    have h3 : c ≠ 37 := fun e => by rw [e] at h; cases h
    rw [if_neg (by omega), if_neg (fun q => by have := q.2; rw [List.all_cons, h1] at this; cases this), if_neg (by rw [qd_not h2]; decide), if_neg (fun q => h3 q.2.1), if_neg (fun q => by have := (sgn_not (signs_head q)).1; rw [h] at this; cases this), if_neg ha]
theorem kd_dig {c : UInt8} {r : List UInt8} (h : dig c = true) : kd (c :: r) = if r.all dig = true then 2 else 0 := by
  have hl := dig_not_ltr h
  have h2 : c ≠ 39 := fun e => by rw [e] at h; cases h
  have h3 : c ≠ 37 := fun e => by rw [e] at h; cases h
  rw [kd_nl hl, List.all_cons, h, Bool.true_and]
  by_cases ha : r.all dig = true
  · rw [if_pos ha, if_pos ha]
  · rw [if_neg ha, if_neg ha, if_neg (by rw [qd_not h2]; decide), if_neg (fun q => h3 q.2.1), if_neg (fun q => by have := (sgn_not (signs_head q)).2.1; rw [h] at this; cases this)]
theorem kd_39 (r : List UInt8) : kd (39 :: r) = if (qdr r []).isSome = true then 3 else 0 := by
  rw [kd_nd rfl rfl, qd_39]
  by_cases h : (qdr r []).isSome = true
  · rw [if_pos h, if_pos h]
  · rw [if_neg h, if_neg h, if_neg (fun q => absurd q.2.1 (by decide : ¬ (39 : UInt8) = 37)), if_neg (fun q => (sgn_not (signs_head q)).2.2.1 rfl)]
theorem kd_37 (r : List UInt8) : kd (37 :: r) = if r.length = 1 ∧ dig (r.getD 0 0) = true then 4 else 0 := by
  rw [kd_nd rfl rfl, if_neg (by rw [qd_not (by decide)]; decide), if_neg (c := signs.contains _ = true) (fun q => (sgn_not (signs_head q)).2.2.2 rfl)]
  by_cases h : r.length = 1 ∧ dig (r.getD 0 0) = true
  · rw [if_pos h, if_pos ⟨by rw [List.length_cons, h.1], rfl, h.2⟩]
  · rw [if_neg h, if_neg (fun q => h ⟨by have := q.1; rw [List.length_cons] at this; omega, q.2.2⟩)]
theorem kd_sgn {c : UInt8} {r : List UInt8} (h1 : ltr c = false) (h2 : dig c = false) (h3 : c ≠ 39) (h4 : c ≠ 37) : kd (c :: r) = if signs.contains (c :: r) = true then 5 else 0 := by
  rw [kd_nd h1 h2, if_neg (by rw [qd_not h3]; decide), if_neg (fun q => h4 q.2.1)]

/-- The longest beginning, as it is sought. -/
def lg (s : List UInt8) : Nat → Nat → Nat → Nat → Nat × Nat
  | 0, _, best, k => if k = 3 then (0, 0) else (best, k)
  | m + 1, n, best, k =>
    if kd (s.take n) = 3 ∧ (n = s.length ∨ s.getD n 0 ≠ 39) then (n, 3)
    else if s.getD 0 0 ≠ 39 ∧ kd (s.take n) = 0 ∧ 1 < n then (best, k)
    else if 0 < kd (s.take n) then lg s m (n + 1) n (kd (s.take n)) else lg s m (n + 1) best k
def longest (s : List UInt8) : Nat × Nat := lg s s.length 1 0 0

theorem lg_run {s : List UInt8} {N K : Nat} (h39 : s.getD 0 0 ≠ 39) (hK : K ≠ 3) (hK0 : 0 < K) (hN : 1 ≤ N) (hNl : N ≤ s.length) (hk : ∀ n, 2 ≤ n → n ≤ N → kd (s.take n) = K)
    (h1 : kd (s.take 1) = K ∨ (kd (s.take 1) = 0 ∧ 2 ≤ N)) (h0 : N < s.length → kd (s.take (N + 1)) = 0) : longest s = (N, K) := by
  have run : ∀ m n best k, n + m = s.length + 1 → 2 ≤ n → n ≤ N + 1 → ((best = n - 1 ∧ k = K) ∨ (n = 2 ∧ 2 ≤ N ∧ k = 0)) → lg s m n best k = (N, K) := by
    intro m
    induction m with
    | zero =>
      intro n best k e1 e2 e3 e4
      unfold lg
      rcases e4 with ⟨rfl, rfl⟩ | ⟨rfl, e5, rfl⟩
      · rw [if_neg hK, show n - 1 = N from by omega]
      · omega
    | succ m ih =>
      intro n best k e1 e2 e3 e4
      unfold lg
      by_cases hn : n ≤ N
      · rw [hk n e2 hn, if_neg (fun q => hK q.1), if_neg (fun q => by omega), if_pos hK0]
        exact ih (n + 1) n K (by omega) (by omega) (by omega) (.inl ⟨rfl, rfl⟩)
      · obtain rfl : n = N + 1 := by omega
        rw [h0 (by omega), if_neg (fun q => by omega), if_pos ⟨h39, rfl, by omega⟩]
        rcases e4 with ⟨rfl, rfl⟩ | ⟨e5, e6, rfl⟩
        · rfl
        · omega
  unfold longest
  obtain ⟨m, hm⟩ : ∃ m, s.length = m + 1 := ⟨s.length - 1, by omega⟩
  rw [hm]
  unfold lg
  rcases h1 with h1 | ⟨h1, h2⟩
  · rw [h1, if_neg (fun q => hK q.1), if_neg (fun q => by omega), if_pos hK0]
    exact run m 2 1 K (by omega) (by omega) (by omega) (.inl ⟨rfl, rfl⟩)
  · rw [h1, if_neg (fun q => by omega), if_neg (fun q => by omega), if_neg (by omega)]
    exact run m 2 0 0 (by omega) (by omega) (by omega) (.inr ⟨rfl, h2, rfl⟩)
theorem lg_none {s : List UInt8} (h39 : s.getD 0 0 ≠ 39) (hl : 1 ≤ s.length) (h1 : kd (s.take 1) = 0) (h2 : 2 ≤ s.length → kd (s.take 2) = 0) : longest s = (0, 0) := by
  unfold longest
  obtain ⟨m, hm⟩ : ∃ m, s.length = m + 1 := ⟨s.length - 1, by omega⟩
  rw [hm]
  unfold lg
  rw [h1, if_neg (fun q => by omega), if_neg (fun q => by omega), if_neg (by omega)]
  cases m with
  | zero => rfl
  | succ m =>
    unfold lg
    rw [h2 (by omega), if_neg (fun q => by omega), if_pos ⟨h39, rfl, by omega⟩]

theorem take_cons1 (c : UInt8) (r : List UInt8) {n : Nat} (h : 1 ≤ n) : (c :: r).take n = c :: r.take (n - 1) := by
  obtain ⟨m, rfl⟩ : ∃ m, n = m + 1 := ⟨n - 1, by omega⟩
  rfl
theorem longest_ltr {c : UInt8} {r : List UInt8} (h : ltr c = true) : longest (c :: r) = (nl (c :: r), 1) := by
  have hn : nl (c :: r) = 1 + (r.takeWhile nam).length := by rw [nl_cons, if_pos h]
  have hle := nl_le (c :: r)
  rw [List.length_cons] at hle
  have ok : ∀ n, 1 ≤ n → n ≤ nl (c :: r) → kd ((c :: r).take n) = 1 := fun n h1 h2 => by
    rw [take_cons1 _ _ h1, kd_ltr h, if_pos (tw_all (by omega))]
  refine lg_run (fun e => by rw [show c = 39 from e] at h; cases h) (by decide) (by decide) (by omega) (by simpa using hle) (fun n h1 h2 => ok n (by omega) h2) (.inl (ok 1 (Nat.le_refl _) (by omega))) fun h2 => ?_
  rw [List.length_cons] at h2
  rw [take_cons1 _ _ (by omega), kd_ltr h, if_neg]
  rw [show nl (c :: r) + 1 - 1 = (r.takeWhile nam).length + 1 from by omega, all_take _ _ (by omega)]
  have := tw_step (f := nam) (r := r) (n := (r.takeWhile nam).length) (Nat.le_refl _) (by omega)
  intro q
  rw [Bool.and_eq_true] at q
  exact absurd (this.2 q.2) (Nat.lt_irrefl _)
theorem dl_cons {c : UInt8} {r : List UInt8} (h : dig c = true) : dl (c :: r) = 1 + (r.takeWhile dig).length := by
  unfold dl; rw [List.takeWhile_cons, if_pos h, List.length_cons]; omega
theorem longest_dig {c : UInt8} {r : List UInt8} (h : dig c = true) : longest (c :: r) = (dl (c :: r), 2) := by
  have hn : dl (c :: r) = 1 + (r.takeWhile dig).length := dl_cons h
  have hle := dl_le (c :: r)
  rw [List.length_cons] at hle
  have ok : ∀ n, 1 ≤ n → n ≤ dl (c :: r) → kd ((c :: r).take n) = 2 := fun n h1 h2 => by
    rw [take_cons1 _ _ h1, kd_dig h, if_pos (tw_all (by omega))]
  refine lg_run (fun e => by rw [show c = 39 from e] at h; cases h) (by decide) (by decide) (by omega) (by simpa using hle) (fun n h1 h2 => ok n (by omega) h2) (.inl (ok 1 (Nat.le_refl _) (by omega))) fun h2 => ?_
  rw [List.length_cons] at h2
  rw [take_cons1 _ _ (by omega), kd_dig h, if_neg]
  rw [show dl (c :: r) + 1 - 1 = (r.takeWhile dig).length + 1 from by omega, all_take _ _ (by omega)]
  have := tw_step (f := dig) (r := r) (n := (r.takeWhile dig).length) (Nat.le_refl _) (by omega)
  intro q
  rw [Bool.and_eq_true] at q
  exact absurd (this.2 q.2) (Nat.lt_irrefl _)
theorem longest_37 (r : List UInt8) : longest (37 :: r) = if 1 ≤ r.length ∧ dig (r.getD 0 0) = true then (2, 4) else (0, 0) := by
  split
  · rename_i h
    refine lg_run (s := 37 :: r) (N := 2) (fun e => absurd e (by decide : ¬ (37 : UInt8) = 39)) (by decide) (by decide) (by decide) (by rw [List.length_cons]; omega) (fun n h1 h2 => ?_) (.inr ⟨?_, by decide⟩) fun h2 => ?_
    · obtain rfl : n = 2 := by omega
      rw [take_cons1 _ _ (by omega), kd_37, if_pos]
      cases r with
      | nil => simp at h
      | cons d r => simpa using h.2
    · rw [take_cons1 _ _ (by omega), kd_37, if_neg (by simp)]
    · rw [take_cons1 _ _ (by omega), kd_37, if_neg]
      rw [List.length_cons] at h2
      rw [List.length_take]
      omega
  · rename_i h
    refine lg_none (s := 37 :: r) (fun e => absurd e (by decide : ¬ (37 : UInt8) = 39)) (by simp) ?_ fun h2 => ?_
    · rw [take_cons1 _ _ (by omega), kd_37, if_neg (by simp)]
    · rw [take_cons1 _ _ (by omega), kd_37, if_neg]
      cases r with
      | nil => simp
      | cons d r => intro q; exact h ⟨by simp, by simpa using q.2⟩
theorem signs_1 {c : UInt8} : signs.contains [c] = sgn c := by
  rw [Bool.eq_iff_iff]
  simp [signs, sgn]
theorem signs_2 {c d : UInt8} : signs.contains [c, d] = two [c, d] := by
  rw [Bool.eq_iff_iff]
  simp [signs, two, or_assoc]
theorem signs_3 {c d e : UInt8} {r : List UInt8} : signs.contains (c :: d :: e :: r) = false := by
  simp [signs]
theorem longest_sgn {c : UInt8} {r : List UInt8} (h : sgn c = true) : longest (c :: r) = (if two (c :: r) then 2 else 1, 5) := by
  obtain ⟨h1, h2, h3, h4⟩ := sgn_not h
  have k1 : kd [c] = 5 := by rw [kd_sgn h1 h2 h3 h4, signs_1, h]; rfl
  cases r with
  | nil =>
    rw [show two [c] = false from by simp [two]]
    exact lg_run (N := 1) h3 (by decide) (by decide) (by decide) (by simp) (fun n q1 q2 => by omega) (.inl k1) (fun q => by simp at q)
  | cons d r =>
    have t2 : two (c :: d :: r) = two [c, d] := rfl
    have k2 : kd [c, d] = if two [c, d] = true then 5 else 0 := by rw [kd_sgn h1 h2 h3 h4, signs_2]
    rw [t2]
    cases ht : two [c, d] with
    | true =>
      refine lg_run (N := 2) h3 (by decide) (by decide) (by decide) (by simp) (fun n q1 q2 => ?_) (.inl k1) (fun q => ?_)
      · obtain rfl : n = 2 := by omega
        show kd [c, d] = 5
        rw [k2, ht]; rfl
      · cases r with
        | nil => simp at q
        | cons e r => show kd [c, d, e] = 0; rw [kd_sgn h1 h2 h3 h4, signs_3]; rfl
    | false =>
      refine lg_run (N := 1) h3 (by decide) (by decide) (by decide) (by simp) (fun n q1 q2 => by omega) (.inl k1) (fun q => ?_)
      show kd [c, d] = 0
      rw [k2, ht]; rfl
theorem longest_no {c : UInt8} {r : List UInt8} (h1 : ltr c = false) (h2 : dig c = false) (h3 : c ≠ 39) (h4 : c ≠ 37) (h5 : sgn c = false) : longest (c :: r) = (0, 0) := by
  have key : ∀ r, kd (c :: r) = 0 := fun r => by
    rw [kd_sgn h1 h2 h3 h4, if_neg]
    intro q
    rw [signs_head q] at h5; cases h5
  refine lg_none h3 (by simp) (key _) fun q => ?_
  rw [take_cons1 _ _ (by omega)]
  exact key _
end Go.Proofs.YtlmplofpclaokaaDoor

/- Texts in quotes and numbers, as the reference has them; plain. -/
namespace Go.Proofs.YtlmplofpclaokaaDoor
set_option autoImplicit false
set_option linter.unusedSimpArgs false
set_option linter.unusedVariables false

/-- The first end of a text in quotes. -/
def qz : List UInt8 → Nat → List UInt8 → Option (List UInt8 × Nat)
  | [], _, _ => none
  | [c], i, acc => if c = 39 then some (acc, i + 1) else none
  | c :: d :: r, i, acc => if c = 39 then (if d = 39 then qz r (i + 2) (acc ++ [39]) else some (acc, i + 1)) else qz (d :: r) (i + 1) (acc ++ [c])
theorem qz_of : ∀ (N : Nat) (r : List UInt8), r.length ≤ N → ∀ (i : Nat) (acc : List UInt8) (m : Nat) (t : List UInt8), m ≤ r.length → qdr (r.take m) acc = some t → (m = r.length ∨ r.getD m 0 ≠ 39) → qz r i acc = some (t, i + m)
  | _, [], _, i, acc, m, t, hm, h, _ => by simp [qdr] at h
  | _, [c], _, i, acc, m, t, hm, h, _ => by
    rcases (show m = 0 ∨ m = 1 from by simp at hm; omega) with rfl | rfl
    · simp [qdr] at h
    · simp only [List.take_succ_cons, List.take_zero, qdr] at h
      split at h
      · rename_i hc
        cases h
        simp [qz, hc]
      · cases h
  | 0, c :: d :: r, hN, _, _, _, _, _, _, _ => by simp at hN
  | N + 1, c :: d :: r, hN, i, acc, m, t, hm, h, he => by
    simp only [List.length_cons] at hN hm he
    match m with
    | 0 => simp [qdr] at h
    | 1 =>
      simp only [List.take_succ_cons, List.take_zero, qdr] at h
      split at h
      · rename_i hc
        cases h
        have hd : d ≠ 39 := by
          rcases he with he | he
          · omega
          · exact he
        simp [qz, hc, hd]
      · cases h
    | m + 2 =>
      simp only [List.take_succ_cons, qdr] at h
      unfold qz
      split at h
      · rename_i hc
        rw [if_pos hc]
        split at h
        · rename_i hd
          rw [if_pos hd, qz_of N r (by omega) (i + 2) _ m t (by omega) h (by
            rcases he with he | he
            · exact .inl (by omega)
            · exact .inr he)]
          rw [show i + 2 + m = i + (m + 2) from by omega]
        · cases h
      · rename_i hc
        rw [if_neg hc, qz_of N (d :: r) (by simp only [List.length_cons]; omega) (i + 1) _ (m + 1) t (by simp only [List.length_cons]; omega) (by simpa using h) (by
          rcases he with he | he
          · exact .inl (by simp only [List.length_cons]; omega)
          · exact .inr he)]
        rw [show i + 1 + (m + 1) = i + (m + 2) from by omega]
theorem qz_to : ∀ (N : Nat) (r : List UInt8), r.length ≤ N → ∀ (i : Nat) (acc t : List UInt8) (n : Nat), qz r i acc = some (t, n) → ∃ m, n = i + m ∧ 1 ≤ m ∧ m ≤ r.length ∧ qdr (r.take m) acc = some t ∧ (m = r.length ∨ r.getD m 0 ≠ 39)
  | _, [], _, i, acc, t, n, h => by cases h
  | _, [c], _, i, acc, t, n, h => by
    simp only [qz] at h
    split at h
    · rename_i hc
      cases h
      exact ⟨1, rfl, Nat.le_refl _, by simp, by simp [qdr, hc], .inl rfl⟩
    · cases h
  | 0, c :: d :: r, hN, _, _, _, _, _ => by simp at hN
  | N + 1, c :: d :: r, hN, i, acc, t, n, h => by
    simp only [List.length_cons] at hN
    simp only [qz] at h
    split at h
    · rename_i hc
      split at h
      · rename_i hd
        obtain ⟨m, e, h1, h2, h3, h4⟩ := qz_to N r (by omega) _ _ _ _ h
        refine ⟨m + 2, by omega, by omega, by simp only [List.length_cons]; omega, ?_, ?_⟩
        · simp only [List.take_succ_cons, qdr, hc, hd, if_true]; exact h3
        · rcases h4 with h4 | h4
          · exact .inl (by simp only [List.length_cons]; omega)
          · exact .inr h4
      · rename_i hd
        cases h
        exact ⟨1, rfl, Nat.le_refl _, by simp, by simp [qdr, hc], .inr hd⟩
    · rename_i hc
      obtain ⟨m, e, h1, h2, h3, h4⟩ := qz_to N (d :: r) (by simp only [List.length_cons]; omega) _ _ _ _ h
      obtain ⟨m, rfl⟩ : ∃ m', m = m' + 1 := ⟨m - 1, by omega⟩
      simp only [List.length_cons] at h2
      refine ⟨m + 2, by omega, by omega, by simp only [List.length_cons]; omega, ?_, ?_⟩
      · simp only [List.take_succ_cons, qdr, hc, if_false]
        simpa using h3
      · rcases h4 with h4 | h4
        · exact .inl (by simp only [List.length_cons] at h4 ⊢; omega)
        · exact .inr h4
theorem longest_39 (r : List UInt8) : longest (39 :: r) = match qz r 1 [] with
    | some (_, n) => (n, 3)
    | none => (0, 0) := by
  have key : ∀ m n best k, n + m = r.length + 2 → 1 ≤ n → ((k = 0 ∧ best = 0) ∨ k = 3) → (∀ n', 1 ≤ n' → n' < n → ¬ ((qdr (r.take (n' - 1)) []).isSome = true ∧ (n' - 1 = r.length ∨ r.getD (n' - 1) 0 ≠ 39))) → lg (39 :: r) m n best k = match qz r 1 [] with
      | some (_, n) => (n, 3)
      | none => (0, 0) := by
    intro m
    induction m with
    | zero =>
      intro n best k e1 e2 e3 e4
      have hz : qz r 1 [] = none := by
        cases hq : qz r 1 [] with
        | none => rfl
        | some p =>
          obtain ⟨t, n0⟩ := p
          obtain ⟨m, f1, f2, f3, f4, f5⟩ := qz_to _ r (Nat.le_refl _) _ _ _ _ hq
          exact (e4 (m + 1) (by omega) (by omega) (by rw [show m + 1 - 1 = m from rfl, f4]; exact ⟨rfl, f5⟩)).elim
      rw [hz]
      unfold lg
      rcases e3 with ⟨rfl, rfl⟩ | rfl <;> rfl
    | succ m ih =>
      intro n best k e1 e2 e3 e4
      have hk : kd ((39 :: r).take n) = if (qdr (r.take (n - 1)) []).isSome = true then 3 else 0 := by rw [take_cons1 _ _ e2, kd_39]
      have hg : (39 :: r).getD n 0 = r.getD (n - 1) 0 := by
        obtain ⟨n', rfl⟩ : ∃ n', n = n' + 1 := ⟨n - 1, by omega⟩
        rfl
      have next : ¬ ((qdr (r.take (n - 1)) []).isSome = true ∧ (n - 1 = r.length ∨ r.getD (n - 1) 0 ≠ 39)) → ∀ best k, ((k = 0 ∧ best = 0) ∨ k = 3) → lg (39 :: r) m (n + 1) best k = match qz r 1 [] with
          | some (_, n) => (n, 3)
          | none => (0, 0) := fun hs best k e3 => by
        refine ih (n + 1) best k (by omega) (by omega) e3 fun n' q1 q2 => ?_
        by_cases e : n' = n
        · subst e; exact hs
        · exact e4 n' q1 (by omega)
      unfold lg
      rw [hk, hg, List.length_cons]
      by_cases hs : (qdr (r.take (n - 1)) []).isSome = true
      · rw [if_pos hs]
        by_cases he : n - 1 = r.length ∨ r.getD (n - 1) 0 ≠ 39
        · rw [if_pos ⟨rfl, he.imp (fun e => by omega) id⟩]
          obtain ⟨t, ht⟩ := Option.isSome_iff_exists.1 hs
          rw [qz_of _ r (Nat.le_refl _) 1 [] (n - 1) t (by omega) ht he, show 1 + (n - 1) = n from by omega]
        · rw [if_neg (fun q => he (q.2.imp (fun e => by omega) id)), if_neg (fun q => q.1 rfl), if_pos (by decide)]
          exact next (fun q => he q.2) _ _ (.inr rfl)
      · rw [if_neg hs, if_neg (fun q => by omega), if_neg (fun q => q.1 rfl), if_neg (by decide)]
        exact next (fun q => hs q.1) _ _ e3
  exact key _ 1 0 0 (by simp; omega) (Nat.le_refl _) (.inl ⟨rfl, rfl⟩) fun n' q1 q2 => by omega

/-- The first byte that may not be. -/
def oddB (c : UInt8) : Bool := decide (c.toNat < 32) || decide (126 < c.toNat)
def fo : List UInt8 → Option Nat
  | [] => none
  | c :: r => if oddB c = true then some 0 else (fo r).map (· + 1)
theorem oddB_iff (c : UInt8) : oddB c = true ↔ (c.toNat < 32 ∨ 126 < c.toNat) := by simp [oddB]
theorem qs_eq : ∀ (N : Nat) (r : List UInt8), r.length ≤ N → ∀ (i : Nat) (acc : List UInt8), qs r i acc = match qz r i acc with
    | some (t, n) => (match fo (r.take (n - i)) with
      | some j => .odd (i + j)
      | none => .done t n)
    | none => match fo r with
      | some j => .odd (i + j)
      | none => .short
  | _, [], _, i, acc => rfl
  | _, [c], _, i, acc => by
    simp only [qs, qz]
    by_cases ho : c.toNat < 32 ∨ 126 < c.toNat
    · have hb := (oddB_iff c).2 ho
      rw [if_pos ho]
      split
      · rename_i e; split at e
        · cases e; rw [show i + 1 - i = 1 from by omega]; simp [fo, hb]
        · cases e
      · simp [fo, hb]
    · have hb : oddB c = false := by cases q : oddB c with | false => rfl | true => exact (ho ((oddB_iff c).1 q)).elim
      rw [if_neg ho]
      by_cases hc : c = 39
      · rw [if_pos hc, if_pos hc]
        simp only [show i + 1 - i = 1 from by omega]
        simp [fo, hb]
      · rw [if_neg hc, if_neg hc]
        simp [fo, hb]
  | 0, c :: d :: r, hN, _, _ => by simp at hN
  | N + 1, c :: d :: r, hN, i, acc => by
    simp only [List.length_cons] at hN
    by_cases ho : c.toNat < 32 ∨ 126 < c.toNat
    · have hb := (oddB_iff c).2 ho
      simp only [qs]
      rw [if_pos ho]
      cases hq : qz (c :: d :: r) i acc with
      | none => simp [fo, hb]
      | some p =>
        obtain ⟨t, n⟩ := p
        obtain ⟨m, f1, f2, f3, f4, f5⟩ := qz_to _ _ (Nat.le_refl _) _ _ _ _ hq
        obtain ⟨m, rfl⟩ : ∃ m', m = m' + 1 := ⟨m - 1, by omega⟩
        simp only [f1, show i + (m + 1) - i = m + 1 from by omega, List.take_succ_cons]
        simp [fo, hb]
    · have hb : oddB c = false := by cases q : oddB c with | false => rfl | true => exact (ho ((oddB_iff c).1 q)).elim
      simp only [qs, qz]
      rw [if_neg ho]
      by_cases hc : c = 39
      · rw [if_pos hc, if_pos hc]
        by_cases hd : d = 39
        · rw [if_pos hd, if_pos hd, qs_eq N r (by omega)]
          have hbd : oddB d = false := by rw [hd]; rfl
          cases hq : qz r (i + 2) (acc ++ [39]) with
          | none =>
            simp only [fo, hb, hbd]
            cases fo r with
            | none => rfl
            | some j => simp; omega
          | some p =>
            obtain ⟨t, n⟩ := p
            obtain ⟨m, f1, f2, f3, f4, f5⟩ := qz_to _ _ (Nat.le_refl _) _ _ _ _ hq
            simp only [f1, show i + 2 + m - (i + 2) = m from by omega, show i + 2 + m - i = m + 2 from by omega, List.take_succ_cons, fo, hb, hbd]
            cases fo (r.take m) with
            | none => rfl
            | some j => simp; omega
        · rw [if_neg hd, if_neg hd]
          simp only [show i + 1 - i = 1 from by omega]
          simp [fo, hb]
      · rw [if_neg hc, if_neg hc, qs_eq N (d :: r) (by simp only [List.length_cons]; omega)]
        cases hq : qz (d :: r) (i + 1) (acc ++ [c]) with
        | none =>
          simp only []
          rw [show fo (c :: d :: r) = (fo (d :: r)).map (· + 1) from by rw [fo, hb]; rfl]
          cases fo (d :: r) with
          | none => rfl
          | some j => simp; omega
        | some p =>
          obtain ⟨t, n⟩ := p
          obtain ⟨m, f1, f2, f3, f4, f5⟩ := qz_to _ _ (Nat.le_refl _) _ _ _ _ hq
          simp only [f1, show i + 1 + m - (i + 1) = m from by omega, show i + 1 + m - i = m + 1 from by omega]
          rw [List.take_succ_cons, show ∀ l, fo (c :: l) = (fo l).map (· + 1) from fun l => by rw [fo, hb]; rfl]
          cases fo ((d :: r).take m) with
          | none => rfl
          | some j => simp; omega

/-! ### Numbers -/
theorem numV_from (l : List UInt8) : ∀ a, l.foldl (fun a c => 10 * a + (c.toNat - 48)) a = a * 10 ^ l.length + numV l := by
  induction l with
  | nil => intro a; simp [numV]
  | cons c l ih =>
    intro a
    rw [List.foldl_cons, ih]
    rw [show numV (c :: l) = (c.toNat - 48) * 10 ^ l.length + numV l from by unfold numV; rw [List.foldl_cons, ← numV, Nat.mul_zero, Nat.zero_add]; exact ih _]
    rw [List.length_cons, Nat.pow_succ, Nat.add_mul, ← Nat.add_assoc]
    congr 1
    congr 1
    rw [Nat.mul_comm 10 a, Nat.mul_assoc, Nat.mul_comm 10]
theorem numV_cons (c : UInt8) (l : List UInt8) : numV (c :: l) = (c.toNat - 48) * 10 ^ l.length + numV l := by
  unfold numV; rw [List.foldl_cons, ← numV, Nat.mul_zero, Nat.zero_add]; exact numV_from l _
theorem numV_lt {l : List UInt8} (h : l.all dig = true) : numV l < 10 ^ l.length := by
  induction l with
  | nil => decide
  | cons c l ih =>
    rw [List.all_cons, Bool.and_eq_true] at h
    have hd := (dig_iff c).1 h.1
    have := ih h.2
    rw [numV_cons, List.length_cons, Nat.pow_succ]
    have h9 : (c.toNat - 48) * 10 ^ l.length ≤ 9 * 10 ^ l.length := Nat.mul_le_mul_right _ (by omega)
    omega
theorem less_num : ∀ {a b : List UInt8}, a.length = b.length → a.all dig = true → b.all dig = true → (Op.bytesLess a b = true ↔ numV a < numV b)
  | [], [], _, _, _ => by simp [Op.bytesLess, numV]
  | [], d :: b, h, _, _ => by simp at h
  | c :: a, [], h, _, _ => by simp at h
  | c :: a, d :: b, h, h1, h2 => by
    simp only [List.length_cons, Nat.add_right_cancel_iff] at h
    rw [List.all_cons, Bool.and_eq_true] at h1 h2
    have hc := (dig_iff c).1 h1.1
    have hd := (dig_iff d).1 h2.1
    have la := numV_lt h1.2
    have lb := numV_lt h2.2
    have ih := less_num h h1.2 h2.2
    rw [numV_cons, numV_cons, h]
    rw [h] at la
    unfold Op.bytesLess
    rw [Bool.or_eq_true, Bool.and_eq_true, decide_eq_true_eq, beq_iff_eq, ih, UInt8.lt_iff_toNat_lt]
    rcases Nat.lt_trichotomy c.toNat d.toNat with q | q | q
    · have : (c.toNat - 48 + 1) * 10 ^ b.length ≤ (d.toNat - 48) * 10 ^ b.length := Nat.mul_le_mul_right _ (by omega)
      rw [Nat.add_mul, Nat.one_mul] at this
      constructor
      · intro _; omega
      · intro _; exact .inl q
    · have e : c = d := UInt8.toNat.inj q
      subst e
      constructor
      · rintro (q | ⟨_, q⟩)
        · exact absurd q (Nat.lt_irrefl _)
        · omega
      · intro q; exact .inr ⟨rfl, by omega⟩
    · have : (d.toNat - 48 + 1) * 10 ^ b.length ≤ (c.toNat - 48) * 10 ^ b.length := Nat.mul_le_mul_right _ (by omega)
      rw [Nat.add_mul, Nat.one_mul] at this
      constructor
      · rintro (q2 | ⟨e, _⟩)
        · omega
        · rw [e] at q; exact absurd q (Nat.lt_irrefl _)
      · intro _; omega
def maxT : List UInt8 := [49, 56, 52, 52, 54, 55, 52, 52, 48, 55, 51, 55, 48, 57, 53, 53, 49, 54, 49, 53]
theorem num_eq : ∀ {a b : List UInt8}, a.length = b.length → a.all dig = true → b.all dig = true → numV a = numV b → a = b
  | [], [], _, _, _, _ => rfl
  | [], d :: b, h, _, _, _ => by simp at h
  | c :: a, [], h, _, _, _ => by simp at h
  | c :: a, d :: b, h, h1, h2, e => by
    simp only [List.length_cons, Nat.add_right_cancel_iff] at h
    rw [List.all_cons, Bool.and_eq_true] at h1 h2
    have hc := (dig_iff c).1 h1.1
    have hd := (dig_iff d).1 h2.1
    have la := numV_lt h1.2
    have lb := numV_lt h2.2
    rw [numV_cons, numV_cons, h] at e
    rw [h] at la
    have q : c.toNat = d.toNat := by
      rcases Nat.lt_trichotomy c.toNat d.toNat with q | q | q
      · have : (c.toNat - 48 + 1) * 10 ^ b.length ≤ (d.toNat - 48) * 10 ^ b.length := Nat.mul_le_mul_right _ (by omega)
        rw [Nat.add_mul, Nat.one_mul] at this
        omega
      · exact q
      · have : (d.toNat - 48 + 1) * 10 ^ b.length ≤ (c.toNat - 48) * 10 ^ b.length := Nat.mul_le_mul_right _ (by omega)
        rw [Nat.add_mul, Nat.one_mul] at this
        omega
    have e1 : c = d := UInt8.toNat.inj q
    subst e1
    rw [num_eq h h1.2 h2.2 (by omega)]
/-- Is a number too great? -/
theorem num_big {a : List UInt8} (h : a.all dig = true) (h0 : a.length ≤ 1 ∨ a.getD 0 0 ≠ 48) : (20 < a.length ∨ (a.length = 20 ∧ (!(Op.bytesLess a maxT || decide (a = maxT))) = true)) ↔ 18446744073709551616 ≤ numV a := by
  have hm : numV maxT = 18446744073709551615 := by decide
  have lt := numV_lt h
  rcases Nat.lt_trichotomy a.length 20 with q | q | q
  · have : 10 ^ a.length ≤ 10 ^ 19 := Nat.pow_le_pow_right (by decide) (by omega)
    constructor
    · omega
    · intro w; omega
  · have hl : a.length = maxT.length := q
    have l1 := less_num hl h (by decide)
    rw [hm] at l1
    have l2 : a = maxT ↔ numV a = 18446744073709551615 := ⟨fun e => by rw [e, hm], fun e => num_eq hl h (by decide) (by rw [e, hm])⟩
    rw [Bool.not_eq_true', Bool.or_eq_false_iff, decide_eq_false_iff_not, l2, Bool.eq_false_iff, Ne, l1]
    omega
  · cases a with
    | nil => simp at q
    | cons c l =>
      rw [List.all_cons, Bool.and_eq_true] at h
      have hd := (dig_iff c).1 h.1
      rw [List.length_cons] at q h0
      have hc : c.toNat ≠ 48 := by
        rcases h0 with h0 | h0
        · omega
        · exact fun e => h0 ((nat_eq c 48 (by decide)).2 e)
      rw [numV_cons]
      have h1 : 1 * 10 ^ l.length ≤ (c.toNat - 48) * 10 ^ l.length := Nat.mul_le_mul_right _ (by omega)
      have h2 : 10 ^ 20 ≤ 10 ^ l.length := Nat.pow_le_pow_right (by decide) (by omega)
      rw [List.length_cons]
      constructor
      · intro _; omega
      · intro _; exact .inl q
end Go.Proofs.YtlmplofpclaokaaDoor

/- What the reference's functions on tokens compute. -/
namespace Go.Proofs.YtlmplofpclaokaaDoor
set_option autoImplicit false
set_option linter.unusedSimpArgs false
set_option linter.unusedVariables false
--HSET
attribute [local irreducible] callA callP ACalls

theorem slc1 {s : List UInt8} {j : Nat} (h : j < s.length) : (s.take (j + 1)).drop j = [s.getD j 0] := by
  rw [take_at s 0 j h, List.drop_append]
  simp [List.length_take, Nat.min_eq_left (Nat.le_of_lt h)]
theorem qdr_step (c : UInt8) (r : List UInt8) (acc : List UInt8) : qdr (c :: r) acc = if c = 39 then (if r = [] then some acc else if r.getD 0 0 = 39 then qdr (r.drop 1) (acc ++ [39]) else none) else qdr r (acc ++ [c]) := by
  cases r with
  | nil => simp [qdr]
  | cons d r => simp [qdr]
def qdV (o : Option (List UInt8)) : AV := match o with
  | some t => .tup [.str t, .bool true]
  | none => .tup [.str [], .bool false]
end Go.Proofs.YtlmplofpclaokaaDoor

/- What the reference's functions on tokens compute, further. -/
namespace Go.Proofs.YtlmplofpclaokaaDoor
set_option autoImplicit false
set_option linter.unusedSimpArgs false
set_option linter.unusedVariables false
--HSET
attribute [local irreducible] callA callP ACalls

theorem kd_le (s : List UInt8) : kd s ≤ 5 := by
  unfold kd
  repeat' split
  all_goals omega
end Go.Proofs.YtlmplofpclaokaaDoor

/- One token, as the reference takes it. -/
namespace Go.Proofs.YtlmplofpclaokaaDoor
set_option autoImplicit false
set_option linter.unusedSimpArgs false
set_option linter.unusedVariables false
--HSET
attribute [local irreducible] callA callP ACalls

theorem lg_le (s : List UInt8) : ∀ m n b k, n + m ≤ s.length + 1 → b ≤ s.length → (lg s m n b k).1 ≤ s.length
  | 0, n, b, k, _, hb => by unfold lg; split <;> simp [hb]
  | m + 1, n, b, k, h, hb => by
    unfold lg
    split
    · show n ≤ _; omega
    · split
      · exact hb
      · split
        · exact lg_le s m _ _ _ (by omega) (by omega)
        · exact lg_le s m _ _ _ (by omega) hb
theorem longest_le (s : List UInt8) : (longest s).1 ≤ s.length := lg_le s _ _ _ _ (by omega) (Nat.zero_le _)
theorem fo_take {l : List UInt8} {j : Nat} (hj : j < l.length) (hn : fo (l.take j) = none) : (oddB (l.getD j 0) = true → ∀ m, j < m → fo (l.take m) = some j) ∧ (oddB (l.getD j 0) = false → fo (l.take (j + 1)) = none) := by
  induction l generalizing j with
  | nil => simp at hj
  | cons c l ih =>
    cases j with
    | zero =>
      constructor
      · intro h m hm
        obtain ⟨m, rfl⟩ : ∃ m', m = m' + 1 := ⟨m - 1, by omega⟩
        rw [List.take_succ_cons, fo, if_pos (by simpa using h)]
      · intro h
        rw [List.take_succ_cons, fo, if_neg (by simpa using h)]; rfl
    | succ j =>
      rw [List.take_succ_cons, fo] at hn
      split at hn
      · cases hn
      · rename_i hc
        have hn' : fo (l.take j) = none := by
          cases hh : fo (l.take j) with
          | none => rfl
          | some x => rw [hh] at hn; cases hn
        obtain ⟨i1, i2⟩ := ih (by simpa using hj) hn'
        rw [List.getD_cons_succ]
        constructor
        · intro h m hm
          obtain ⟨m, rfl⟩ : ∃ m', m = m' + 1 := ⟨m - 1, by omega⟩
          rw [List.take_succ_cons, fo, if_neg hc, i1 h m (by omega)]; rfl
        · intro h
          rw [List.take_succ_cons, fo, if_neg hc, i2 h]; rfl
def oddV (at' : Nat) (o : Option Nat) : Int := match o with
  | some j => ((at' + j : Nat) : Int)
  | none => -1
end Go.Proofs.YtlmplofpclaokaaDoor

/- One token, as the reference takes it: the walk. -/
namespace Go.Proofs.YtlmplofpclaokaaDoor
set_option autoImplicit false
set_option linter.unusedSimpArgs false
set_option linter.unusedVariables false
--HSET
attribute [local irreducible] callA callP ACalls

structure OneK (R : LR) (at' : Nat) (r : AV) : Prop where
  tok : ∀ k t num n, R = .tok k t num n → r = .tup [tokA k t num at', .int .i64 (n : Nat), fltA 0 0]
  bad : ∀ e off, R = .bad e off → ∃ k t num a m, r = .tup [tokA k t num a, .int .i64 m, fltA e (at' + off : Nat)]
theorem OneK.of_tok {at' : Nat} {k : Int} {t : List UInt8} {num n : Nat} {r : AV} (h : r = .tup [tokA k t num at', .int .i64 (n : Nat), fltA 0 0]) : OneK (.tok k t num n) at' r :=
  ⟨(fun k t num n e => by cases e; exact h), (fun e off q => by cases q)⟩
theorem OneK.of_bad {at' : Nat} {e : Int} {off : Nat} {k num a m : Int} {t : List UInt8} {r : AV} (h : r = .tup [tokA k t num a, .int .i64 m, fltA e (at' + off : Nat)]) : OneK (.bad e off) at' r :=
  ⟨(fun k t num n e => by cases e), (fun e' off' q => by cases q; exact ⟨k, t, num, a, m, h⟩)⟩
theorem slcn (s : List UInt8) (a n : Nat) : List.drop a (s.take (a + n)) = (s.drop a).take n := by rw [List.take_drop]
theorem sub_two {H : AH} {id2 id3 : Nat} {b2 b2' b3 : Blk} (h2 : hget H id2 = none) (h3 : hget ((id2, b2') :: H) id3 = none) : Sub H ((id3, b3) :: (id2, b2) :: H) := by
  obtain ⟨n, h3'⟩ := hget_fresh h3
  refine Sub.skip (Sub.skip (Sub.refl _) h2) ((hget_tail n.symm).trans h3')

end Go.Proofs.YtlmplofpclaokaaDoor

/- All tokens, as the reference takes them. -/
namespace Go.Proofs.YtlmplofpclaokaaDoor
set_option autoImplicit false
set_option linter.unusedSimpArgs false
set_option linter.unusedVariables false
--HSET
attribute [local irreducible] callA callP ACalls

structure TS2 (id3 : Nat) (v : AV) (l : List (Int × List UInt8 × Nat × Nat)) (H : AH) : Prop where
  g3 : hget H id3 = some (.rows 2 [[.int .i64 0, .int .i64 0]])
  s : OwnS H ty_api_Token 4 v (l.map tkR)
  len : l.length ≤ 64
theorem TS2.own {id3 : Nat} {v : AV} {l : List (Int × List UInt8 × Nat × Nat)} {H : AH} (h : TS2 id3 v l H) : (v = .nilS ∧ l = []) ∨ ∃ id, v = .own id 4 0 l.length ∧ hget H id = some (.rows 4 (l.map tkR)) ∧ tag id = ty_api_Token ∧ 0 < l.length ∧ id ≠ id3 := by
  rcases h.s.or with ⟨q1, q2⟩ | ⟨id, q1, q2, q3, q4⟩
  · exact .inl ⟨q1, by simpa using q2⟩
  · refine .inr ⟨id, by rw [q1, List.length_map], q2, q3, by simpa using q4, fun e => ?_⟩
    rw [e, h.g3] at q2; cases q2

end Go.Proofs.YtlmplofpclaokaaDoor

/- The law 'TokenReads', walked. -/
namespace Go.Proofs.YtlmplofpclaokaaDoor
set_option autoImplicit false
set_option linter.unusedSimpArgs false
set_option linter.unusedVariables false
--HSET
attribute [local irreducible] callA callP ACalls

def tokV : TR → AV
  | .ok l => .tup [.rows 4 (l.map tkR), fltA 0 0]
  | .bad e p => .tup [.nilS, fltA e (p : Nat)]
theorem TokO.fz {R : TR} {r : AV} {H : AH} (h : TokO R r H) : ∃ r' Hc, Sub Hc H ∧ Fz H Hc r r' ∧ r' = tokV R := by
  cases hR : R with
  | ok l =>
    obtain ⟨id, rfl, hg⟩ := h.ok l hR
    refine ⟨_, [], (fun _ _ q => by cases q), ?_, rfl⟩
    have hf := fz_own (Hc := []) hg rfl (Nat.zero_le l.length) (by rw [List.length_map]; exact Nat.le_refl _) (tkR_len l)
    rw [List.drop_zero, show (l.map tkR).take l.length = l.map tkR from by rw [show l.length = (l.map tkR).length from by simp, List.take_length]] at hf
    obtain ⟨q1, q2⟩ := FzL.cons hf (FzL.cons (Fz.refl (fltA 0 0)) (FzL.nil H []))
    exact .tup _ _ q1 q2
  | bad e p =>
    obtain rfl := h.bad e p hR
    exact ⟨_, [], (fun _ _ q => by cases q), .refl _, rfl⟩
theorem Tokens_spec {s : List UInt8} (hs : s.length ≤ 140737488351232) : ACalls PG token_Tokens.n [.str s] [] fun r _ => r = tokV (tokens s) :=
  (Tokens_spec0 hs).freeze fun _ _ h => h.fz
theorem eqTk (x : Int × List UInt8 × Nat × Nat) : eqCells [.i .i64, .s, .i .u64, .i .i64] (tkR x) (tkR x) = some true := by
  simp [eqCells]
theorem ref_Same_nil (H : AH) : ACalls PG broadsheetref14_Same.n [.nilS, .nilS, .bool true] H fun r H' => r = .bool true ∧ H' = H := by
  refine broadsheetref14_Same.of rfl (wpF_start ?_)
  (first | refine ah ?_ | exact ah0 | fail)
  refine ⟨fun n L H' => L = [(0, some .nilS), (7, some (.int .i64 0))] ∧ H' = H, ⟨_, H, ?_, Sub.refl _, 0, rfl, rfl⟩, ?_⟩
  · exact (by repeat (first | exact trivial | refine And.intro (Or.inl rfl) ?_ | refine And.intro (Or.inr (Exists.intro _ (And.intro rfl (Fz.refl _)))) ?_ | refine And.intro (Or.inr (Exists.intro _ (And.intro rfl (fz_eq (congrArg (AV.int _) (by omega)))))) ?_ | refine And.intro (Or.inr (Exists.intro _ (And.intro rfl (fz_eq (congrArg (AV.own _ _ _) (by (try dsimp only); (try simp only [List.length_append, List.length_map, List.length_cons, List.length_nil, List.length_take, List.length_set, List.length_replicate]); (try dsimp only); first | done | omega)))))) ?_))
  · rintro n L H' ⟨rfl, rfl⟩
    (first | refine ah ?_ | exact ah0 | fail)
theorem ref_Same_spec (l : List (Int × List UInt8 × Nat × Nat)) (hl : l.length ≤ 1000000) (H : AH) : ACalls PG broadsheetref14_Same.n [.rows 4 (l.map tkR), .rows 4 (l.map tkR), .bool true] H fun r H' => r = .bool true ∧ H' = H := by
  have hlen : (l.map tkR).length = l.length := by simp
  refine ACalls.keepSub (K := fun r => r = .bool true) (broadsheetref14_Same.of rfl (wpF_start ?_))
  (first | refine ah ?_ | exact ah0 | fail)
  refine ⟨fun n L H' => ∃ i : Nat, n = l.length - i ∧ i ≤ l.length ∧ L = [(0, some (.rows 4 (l.map tkR))), (1, some (.rows 4 (l.map tkR))), (2, some (.bool true)), (7, some (.int .i64 i))] ∧ H' = H, ⟨_, H, ?_, Sub.refl _, _, 0, rfl, Nat.zero_le _, rfl, rfl⟩, ?_⟩
  · exact (by repeat (first | exact trivial | refine And.intro (Or.inl rfl) ?_ | refine And.intro (Or.inr (Exists.intro _ (And.intro rfl (Fz.refl _)))) ?_ | refine And.intro (Or.inr (Exists.intro _ (And.intro rfl (fz_eq (congrArg (AV.int _) (by omega)))))) ?_ | refine And.intro (Or.inr (Exists.intro _ (And.intro rfl (fz_eq (congrArg (AV.own _ _ _) (by (try dsimp only); (try simp only [List.length_append, List.length_map, List.length_cons, List.length_nil, List.length_take, List.length_set, List.length_replicate]); (try dsimp only); first | done | omega)))))) ?_))
  · rintro n L H' ⟨i, rfl, hi, rfl, rfl⟩
    (first | refine ah ?_ | exact ah0 | fail)
    refine bsplit_dec (fun h1 => ?_) (fun h1 => ?_)
    · have hil : i < l.length := by omega
      have hg : (l.map tkR).getD (i : Int).toNat [] = tkR (l[i]'hil) := by
        rw [Int.toNat_natCast]; simp [List.getD, hil]
      (first | refine ah ?_ | exact ah0 | fail)
      rw [hg]
      (first | refine ah ?_ | exact ah0 | fail)
      intro id hid ht
      (first | refine ah ?_ | exact ah0 | fail)
      rw [hg]
      (first | refine ah ?_ | exact ah0 | fail)
      refine ⟨true, eqTk _, ?_⟩
      (first | refine ah ?_ | exact ah0 | fail)
      refine ⟨[(0, some (.rows 4 (l.map tkR))), (1, some (.rows 4 (l.map tkR))), (2, some (.bool true)), (7, some (.int .i64 (i + 1 : Nat)))], H', (by repeat (first | exact trivial | refine And.intro (Or.inl rfl) ?_ | refine And.intro (Or.inr (Exists.intro _ (And.intro rfl (Fz.refl _)))) ?_ | refine And.intro (Or.inr (Exists.intro _ (And.intro rfl (fz_eq (congrArg (AV.int _) (by omega)))))) ?_ | refine And.intro (Or.inr (Exists.intro _ (And.intro rfl (fz_eq (congrArg (AV.own _ _ _) (by (try dsimp only); (try simp only [List.length_append, List.length_map, List.length_cons, List.length_nil, List.length_take, List.length_set, List.length_replicate]); (try dsimp only); first | done | omega)))))) ?_)), Sub.skip (Sub.refl _) hid, _, ?_, i + 1, rfl, by omega, rfl, rfl⟩
      omega
    · (first | refine ah ?_ | exact ah0 | fail)
      exact Sub.refl _
theorem tks_len (s : List UInt8) : ∀ (k a n : Nat) (l : List (Int × List UInt8 × Nat × Nat)), s.length - a ≤ k → n ≤ 64 → tks s a n = .ok l → l.length + n ≤ 65
  | k, a, n, l, hk, hn, h => by
    rcases Nat.lt_or_ge a s.length with hl | hl
    · rw [tks_eq hl] at h
      obtain ⟨k, rfl⟩ : ∃ k', k = k' + 1 := ⟨k - 1, by omega⟩
      split at h
      · exact tks_len s k _ n l (by omega) hn h
      · split at h
        · cases h
        · rename_i kk t num m hx
          have := lex_bound hx
          split at h
          · cases h
          · cases hh : tks s (a + m) (n + 1) with
            | bad e p => rw [hh] at h; cases h
            | ok l' =>
              rw [hh] at h
              have := tks_len s k _ (n + 1) l' (by omega) (by omega) hh
              cases h
              simp; omega
    · rw [tks_end hl] at h
      cases h
      simp; omega
theorem tokens_len {s : List UInt8} {l : List (Int × List UInt8 × Nat × Nat)} (h : tokens s = .ok l) : l.length ≤ 65 := by
  unfold tokens at h
  split at h
  · cases h
  · have := tks_len s _ 0 0 l (Nat.le_refl _) (by omega) h
    omega
theorem tks_tok {s : List UInt8} {a n : Nat} {k : Int} {t : List UInt8} {num m : Nat} (h : a < s.length) (hb : blnk (s.getD a 0) = false) (hx : lex (s.drop a) = .tok k t num m) (hn : n ≠ 64) : tks s a n = TR.pre [(k, t, num, a)] (tks s (a + m) (n + 1)) := by
  rw [tks_eq h, hb, if_neg (by decide), hx]
  show (if n = 64 then _ else _) = _
  rw [if_neg hn]
theorem tok_awake_spec (H : AH) : ACalls PG broadsheetlaw14_awake.n [] H fun r H' => r = .bool true ∧ H' = H := by
  have ex : tokens [97, 60, 61, 45, 53] = .ok [(1, [97], 0, 0), (5, [60, 61], 0, 1), (5, [45], 0, 3), (2, [53], 5, 4), (6, [], 0, 5)] := by
    unfold tokens
    rw [if_neg (by decide), tks_tok (k := 1) (t := [97]) (num := 0) (m := 1) (by decide) rfl rfl (by decide), tks_tok (k := 5) (t := [60, 61]) (num := 0) (m := 2) (by decide) rfl rfl (by decide),
      tks_tok (k := 5) (t := [45]) (num := 0) (m := 1) (by decide) rfl rfl (by decide), tks_tok (k := 2) (t := [53]) (num := 5) (m := 1) (by decide) rfl rfl (by decide), tks_end (by decide)]
    rfl
  refine ACalls.keepSub (K := fun r => r = .bool true) (broadsheetlaw14_awake.of rfl (wpF_start ?_))
  (first | refine ah ?_ | exact ah0 | fail)
  refine callF_eq ((Tokens_spec (s := [97, 60, 61, 45, 53]) (by simp)).frame _) ?_
  rw [ex]
  (first | refine ah ?_ | exact ah0 | fail)
  intro id hid ht
  (first | refine ah ?_ | exact ah0 | fail)
  refine ⟨true, rfl, ?_⟩
  (first | refine ah ?_ | exact ah0 | fail)
  exact Sub.skip (Sub.refl _) hid
def Shapes.tokenReads0 : Sh := .str
end Go.Proofs.YtlmplofpclaokaaDoor

/- Shapes of types, a level at a time; for types that hold themselves. -/
namespace Go.Proofs.YtlmplofpclaokaaDoor
set_option autoImplicit false
set_option linter.unusedVariables false
section
variable {P : Program} {rc : Bool} {n : Nat} {t e : TypeId}
def flOf (P : Program) (t : TypeId) : Option (List (Nat × Nat)) := match P.underlying t with
  | some (.struct fs) => some (fs.toList.map fun f => (f.offset, f.type))
  | _ => none
def slOf (P : Program) (t : TypeId) : Option TypeId := match P.underlying t with
  | some (.slice e) => some e
  | _ => none
def inOf (P : Program) (t : TypeId) : Option IntKind := match P.underlying t with
  | some (.int k) => some k
  | _ => none
def boOf (P : Program) (t : TypeId) : Bool := match P.underlying t with
  | some .bool => true
  | _ => false
def stOf (P : Program) (t : TypeId) : Bool := match P.underlying t with
  | some .string => true
  | _ => false
/-- Fields, one behind the other: each with its offset, cells and type. -/
def fsh (sh : TypeId → Option Sh) : List (Nat × Nat × Nat) → Option Sh
  | [] => some .u
  | (_, _, t) :: r => (sh t).bind fun a => (fsh sh r).map (.p a)
def flC (P : Program) (t : TypeId) : Option (List (Nat × Nat × Nat)) := (flOf P t).map fun l => l.map fun x => (x.1, P.cellsOf x.2, x.2)
def offB : Nat → Nat → List (Nat × Nat × Nat) → Bool
  | tot, o, [] => Nat.beq o tot
  | tot, o, (a, c, _) :: r => Nat.beq a o && offB tot (o + c) r
theorem fsh_of (sh : TypeId → Option Sh) : ∀ (fs : List Field) (tot o : Nat), offB tot o (fs.map fun f => (f.offset, P.cellsOf f.type, f.type)) = true → fieldsSh P sh tot o fs = fsh sh (fs.map fun f => (f.offset, P.cellsOf f.type, f.type))
  | [], tot, o, h => by
    have : o = tot := Nat.eq_of_beq_eq_true h
    simp [fieldsSh, fsh, this]
  | f :: fs, tot, o, h => by
    simp only [List.map_cons, offB, Bool.and_eq_true] at h
    have h1 : f.offset = o := Nat.eq_of_beq_eq_true h.1
    have := fsh_of sh fs tot (o + P.cellsOf f.type) h.2
    simp only [fieldsSh, fsh, List.map_cons, if_pos h1, this]
theorem shO_struct {l : List (Nat × Nat × Nat)} (h : flC P t = some l) (ho : offB (P.cellsOf t) 0 l = true) : shO rc P (n + 1) t = fsh (shO rc P n) l := by
  unfold flC flOf at h
  split at h
  · rename_i fs hu
    simp only [Option.map_some, List.map_map, Option.some.injEq] at h
    subst h
    simp only [shO, hu]
    exact fsh_of _ _ _ _ ho
  · cases h
theorem shO_slice {c b : Nat} (h : slOf P t = some e) (hc : P.cellsOf e = c) (hb : P.bytesOf e = b) (h0 : 0 < c) : shO rc P (n + 1) t = (shO rc P n e).map (.slice c b) := by
  unfold slOf at h
  split at h
  · rename_i hu
    simp only [Option.some.injEq] at h
    subst h
    simp only [shO, hu, hc, hb, if_pos h0]
  · cases h
theorem shO_int {k : IntKind} (h : inOf P t = some k) : shO rc P (n + 1) t = some (.int k) := by
  unfold inOf at h
  split at h
  · rename_i hu
    simp only [Option.some.injEq] at h
    subst h
    simp only [shO, hu]
  · cases h
theorem shO_bool (h : boOf P t = true) : shO rc P (n + 1) t = some .bool := by
  unfold boOf at h
  split at h
  · rename_i hu
    simp only [shO, hu]
  · cases h
theorem shO_str (h : stOf P t = true) : shO rc P (n + 1) t = some .str := by
  unfold stOf at h
  split at h
  · rename_i hu
    simp only [shO, hu]
  · cases h
theorem fsh_some {sh : TypeId → Option Sh} : ∀ {l : List (Nat × Nat × Nat)}, (∀ x ∈ l, ∃ a, sh x.2.2 = some a) → ∃ a, fsh sh l = some a
  | [], _ => ⟨_, rfl⟩
  | x :: l, h => by
    obtain ⟨a, ha⟩ := h x List.mem_cons_self
    obtain ⟨b, hb⟩ := fsh_some (l := l) fun y hy => h y (List.mem_cons_of_mem _ hy)
    exact ⟨_, by simp only [fsh, ha, hb, Option.bind_some, Option.map_some]; rfl⟩
/-- A set of types that is closed has shapes at each depth. -/
def clB (P : Program) (S : List Nat) : Bool := S.all fun t => match P.underlying t with
  | some .bool => true
  | some (.int _) => true
  | some .string => true
  | some (.struct fs) => (match flC P t with
    | some l => offB (P.cellsOf t) 0 l && l.all (fun x => S.contains x.2.2)
    | none => false)
  | some (.slice e) => Nat.ble 1 (P.cellsOf e) && S.contains e
  | _ => false
theorem clB_some {S : List Nat} (h : clB P S = true) : ∀ (n : Nat) (t : Nat), t ∈ S → ∃ sh, shO true P n t = some sh
  | 0, t, _ => ⟨.no, rfl⟩
  | n + 1, t, ht => by
    have q := List.all_eq_true.1 h t ht
    have ih := clB_some h n
    split at q <;> rename_i hu
    · exact ⟨_, by simp only [shO, hu]; rfl⟩
    · exact ⟨_, by simp only [shO, hu]; rfl⟩
    · exact ⟨_, by simp only [shO, hu]; rfl⟩
    · split at q
      · rename_i l hl
        simp only [Bool.and_eq_true, List.all_eq_true, List.contains_iff_mem] at q
        rw [shO_struct hl q.1]
        exact fsh_some fun x hx => ih _ (q.2 x hx)
      · cases q
    · simp only [Bool.and_eq_true, List.contains_iff_mem] at q
      obtain ⟨a, ha⟩ := ih _ q.2
      exact ⟨_, by simp only [shO, hu, if_pos (show 0 < P.cellsOf _ from Nat.le_of_ble_eq_true q.1), ha, Option.map_some]; rfl⟩
    · cases q
end
section
variable {P : Program} {m : Nat} {t e : TypeId} {a sh : Sh} {x vs : List AV}
theorem okInt {k : IntKind} (h : inOf P t = some k) (hs : shO true P m t = some a) (ho : a.OkN x) : ∃ n, x = [.int k n] ∧ k.min ≤ n ∧ n ≤ k.max := by
  cases m with
  | zero => simp only [shO, if_true, Option.some.injEq] at hs; subst hs; exact ho.elim
  | succ m =>
    rw [shO_int h] at hs
    simp only [Option.some.injEq] at hs; subst hs
    obtain ⟨n, h1, h2⟩ := ho
    simp only [Lit.wf, Bool.and_eq_true, decide_eq_true_eq] at h2
    exact ⟨n, h1, h2⟩
theorem okU64 (h : inOf P t = some .u64) (hs : shO true P m t = some a) (ho : a.OkN x) : ∃ n : Nat, x = [.int .u64 (n : Nat)] ∧ n < 18446744073709551616 := by
  obtain ⟨n, h1, h2, h3⟩ := okInt h hs ho
  have e1 : IntKind.min .u64 = 0 := rfl
  have e2 : IntKind.max .u64 = 18446744073709551615 := rfl
  rw [e1] at h2; rw [e2] at h3
  exact ⟨n.toNat, by rw [h1, Int.toNat_of_nonneg h2], by omega⟩
theorem okI64 (h : inOf P t = some .i64) (hs : shO true P m t = some a) (ho : a.OkN x) : ∃ n : Int, x = [.int .i64 n] ∧ -9223372036854775808 ≤ n ∧ n ≤ 9223372036854775807 := okInt h hs ho
theorem okU8 (h : inOf P t = some .u8) (hs : shO true P m t = some a) (ho : a.OkN x) : ∃ n : UInt8, x = [.int .u8 (n.toNat : Nat)] := by
  obtain ⟨n, h1, h2, h3⟩ := okInt h hs ho
  have e1 : IntKind.min .u8 = 0 := rfl
  have e2 : IntKind.max .u8 = 255 := rfl
  rw [e1] at h2; rw [e2] at h3
  refine ⟨UInt8.ofNat n.toNat, ?_⟩
  rw [h1, UInt8.toNat_ofNat', show n.toNat % 2 ^ 8 = n.toNat from by omega, Int.toNat_of_nonneg h2]
theorem okBool (h : boOf P t = true) (hs : shO true P m t = some a) (ho : a.OkN x) : ∃ b, x = [.bool b] := by
  cases m with
  | zero => simp only [shO, if_true, Option.some.injEq] at hs; subst hs; exact ho.elim
  | succ m =>
    rw [shO_bool h] at hs
    simp only [Option.some.injEq] at hs; subst hs
    exact ho
theorem okStr (h : stOf P t = true) (hs : shO true P m t = some a) (ho : a.OkN x) : ∃ l : List UInt8, x = [.str l] ∧ l.length ≤ 140737488351232 := by
  cases m with
  | zero => simp only [shO, if_true, Option.some.injEq] at hs; subst hs; exact ho.elim
  | succ m =>
    rw [shO_str h] at hs
    simp only [Option.some.injEq] at hs; subst hs
    exact ho
theorem okSlice {c b : Nat} (h : slOf P t = some e) (hc : P.cellsOf e = c) (hb : P.bytesOf e = b) (h0 : 0 < c) (hs : shO true P m t = some a) (ho : a.OkN x) :
    ∃ l, x = [.rows c l] ∧ l.length * b ≤ 140737488351232 ∧ ∃ k a', m = k + 1 ∧ shO true P k e = some a' ∧ ∀ r ∈ l, a'.OkN r := by
  cases m with
  | zero => simp only [shO, if_true, Option.some.injEq] at hs; subst hs; exact ho.elim
  | succ m =>
    rw [shO_slice h hc hb h0] at hs
    simp only [Option.map_eq_some_iff] at hs
    obtain ⟨a', h1, rfl⟩ := hs
    obtain ⟨l, h2, h3, h4⟩ := ho
    exact ⟨l, h2, h3, m, a', rfl, h1, h4⟩
theorem okStruct {l : List (Nat × Nat × Nat)} (h : flC P t = some l) (ho : offB (P.cellsOf t) 0 l = true) (hs : shO true P m t = some a) (hk : a.OkN x) : ∃ k, m = k + 1 ∧ fsh (shO true P k) l = some a := by
  cases m with
  | zero => simp only [shO, if_true, Option.some.injEq] at hs; subst hs; exact hk.elim
  | succ m => exact ⟨m, rfl, by rw [← shO_struct h ho]; exact hs⟩
theorem okCons {s : TypeId → Option Sh} {o c : Nat} {r : List (Nat × Nat × Nat)} (h : fsh s ((o, c, t) :: r) = some sh) (hk : sh.OkN vs) :
    ∃ a x b y, s t = some a ∧ a.OkN x ∧ fsh s r = some b ∧ b.OkN y ∧ vs = x ++ y := by
  simp only [fsh, Option.bind_eq_some_iff, Option.map_eq_some_iff] at h
  obtain ⟨a, h1, b, h2, rfl⟩ := h
  obtain ⟨x, y, h3, h4, h5⟩ := hk
  exact ⟨a, x, b, y, h1, h4, h2, h5, h3⟩
theorem okNil {s : TypeId → Option Sh} (h : fsh s [] = some sh) (hk : sh.OkN vs) : vs = [] := by
  simp only [fsh, Option.some.injEq] at h
  subst h; exact hk
end
/-- Rows that each stand for something. -/
theorem rows_of {α : Type} {f : α → List AV} {Q : α → Prop} : ∀ {l : List (List AV)}, (∀ r ∈ l, ∃ x, r = f x ∧ Q x) → ∃ xs : List α, l = xs.map f ∧ ∀ x ∈ xs, Q x
  | [], _ => ⟨[], rfl, by simp⟩
  | r :: l, h => by
    obtain ⟨x, h1, h2⟩ := h r List.mem_cons_self
    obtain ⟨xs, h3, h4⟩ := rows_of (l := l) fun r hr => h r (List.mem_cons_of_mem _ hr)
    refine ⟨x :: xs, by rw [h1, h3]; rfl, fun y hy => ?_⟩
    rcases List.mem_cons.1 hy with rfl | hy
    · exact h2
    · exact h4 y hy
end Go.Proofs.YtlmplofpclaokaaDoor

/- The law 'TokenJoins', walked. -/
namespace Go.Proofs.YtlmplofpclaokaaDoor
set_option autoImplicit false
set_option linter.unusedSimpArgs false
set_option linter.unusedVariables false
attribute [local irreducible] callA callP ACalls
/-- The bytes of texts, as far as they are counted. -/
def capT (l : List TkI) : Nat := l.foldl (fun n x => min (n + x.2.1.length) 1048576) 0
theorem capT_of (l : List TkI) : min (lenT l) 1048576 = capT l := by
  have h : ∀ (l : List TkI) (n : Nat), l.foldl (fun n x => min (n + x.2.1.length) 1048576) (min n 1048576) = min (n + lenT l) 1048576 := by
    intro l
    induction l with
    | nil => intro n; simp [lenT]
    | cons x l ih =>
      intro n
      rw [List.foldl_cons, show min (min n 1048576 + x.2.1.length) 1048576 = min (n + x.2.1.length) 1048576 from by omega, ih]
      simp only [lenT, List.map_cons, List.sum_cons]
      congr 1
      omega
  have := h l 0
  rw [Nat.zero_add, Nat.zero_min] at this
  exact this.symm
theorem capT_take (l : List TkI) (i : Nat) (h : i < l.length) : capT (l.take (i + 1)) = min (capT (l.take i) + l[i].2.1.length) 1048576 := by
  rw [List.take_succ_eq_append_getElem h, capT, List.foldl_append]
  rfl
theorem mem_lenT {l : List TkI} {x : TkI} (h : x ∈ l) : x.2.1.length ≤ lenT l := by
  induction l with
  | nil => cases h
  | cons y l ih =>
    simp only [lenT, List.map_cons, List.sum_cons] at ih ⊢
    rcases List.mem_cons.1 h with rfl | h
    · omega
    · have := ih h; omega
theorem TokenJoins_spec (l : List TkI) (s : List UInt8) (hs : s.length ≤ 140737488351232) (hll : l.length ≤ 140737488351232) (hls : ∀ x ∈ l, x.2.1.length ≤ 140737488351232) : ACalls PG broadsheetlaw14_TokenJoins.n [.rows 4 (l.map tkI), .str s] [] fun r _ => r = .bool true := by
  have hlen : (l.map tkI).length = l.length := by simp
  refine ACalls.fzK (broadsheetlaw14_TokenJoins.of rfl (wpF_start ?_))
  (first | refine au ?_ | exact au0 | fail)
  by_cases c1 : 200 < l.length
  · (first | refine au ?_ | exact au0 | fail)
    first | refine callF_eq (tok_awake_spec _) ?_ | refine callG_eq rfl (tok_awake_spec _) ?_
    (first | refine au ?_ | exact au0 | fail)
    exact fz_of
  by_cases c2 : 2000 < s.length
  · (first | refine au ?_ | exact au0 | fail)
    first | refine callF_eq (tok_awake_spec _) ?_ | refine callG_eq rfl (tok_awake_spec _) ?_
    (first | refine au ?_ | exact au0 | fail)
    exact fz_of
  (first | refine au ?_ | exact au0 | fail)
  refine loopM (S := Nat) [(0, some _), (1, some _)] (fun i => [(6, some (.int .i64 (i : Nat))), (5, some (.int .i64 (capT (l.take i) : Nat)))]) (fun _ => _) (fun i => l.length - i) (fun i => i ≤ l.length) 0 (by repeat (first | exact trivial | refine And.intro (Or.inl rfl) ?_ | refine And.intro (Or.inr (Exists.intro _ (And.intro rfl (Fz.refl _)))) ?_ | refine And.intro (Or.inr (Exists.intro _ (And.intro rfl (fz_eq (congrArg (AV.int _) (by omega)))))) ?_ | refine And.intro (Or.inr (Exists.intro _ (And.intro rfl (fz_eq (congrArg (AV.own _ _ _) (by (try dsimp only); (try simp only [List.length_append, List.length_map, List.length_cons, List.length_nil, List.length_take, List.length_set, List.length_replicate]); (try dsimp only); first | done | omega)))))) ?_)) (Sub.refl _) (Nat.zero_le _) (fun i hi => ?_)
  have hcap := capT_of (l.take i)
  (first | refine au ?_ | exact au0 | fail)
  refine bsplit_dec (fun cc => ?_) (fun cc => ?_)
  · have hil : i < l.length := by omega
    have hg : (l.map tkI).getD (Int.toNat (i : Nat)) [] = tkI l[i] := row_get (f := tkI) hil
    have hst := capT_take l i hil
    have hxl := hls _ (List.getElem_mem hil)
    generalize l[i] = x at *
    obtain ⟨xk, xs, xn, xa⟩ := x
    dsimp only at hxl hst
    (first | refine au ?_ | exact au0 | fail)
    rw [hg]
    (first | refine au ?_ | exact au0 | fail)
    simp only [Bool.false_eq_true, if_false]
    exact nextS (S := Nat) (i + 1) (by rw [hst]; exact (by repeat (first | exact trivial | refine And.intro (Or.inl rfl) ?_ | refine And.intro (Or.inr (Exists.intro _ (And.intro rfl (Fz.refl _)))) ?_ | refine And.intro (Or.inr (Exists.intro _ (And.intro rfl (fz_eq (congrArg (AV.int _) (by omega)))))) ?_ | refine And.intro (Or.inr (Exists.intro _ (And.intro rfl (fz_eq (congrArg (AV.own _ _ _) (by (try dsimp only); (try simp only [List.length_append, List.length_map, List.length_cons, List.length_nil, List.length_take, List.length_set, List.length_replicate]); (try dsimp only); first | done | omega)))))) ?_))) (by exact sub_of) (by omega) hil
  · have hi2 : i = l.length := by omega
    subst hi2
    rw [List.take_length] at hcap ⊢
    have hq := tok_Quote_spec s (by omega)
    have hr := r14_Quote_spec s (by omega)
    generalize quoteL s = qs at *
    by_cases c3 : 5000 < capT l
    · (first | refine au ?_ | exact au0 | fail)
      first | refine callF_eq (hq _) ?_ | refine callG_eq rfl (hq _) ?_
      (first | refine au ?_ | exact au0 | fail)
      first | refine callF_eq (hr _) ?_ | refine callG_eq rfl (hr _) ?_
      (first | refine au ?_ | exact au0 | fail)
      rw [decide_eq_true (rfl : qs = qs)]
      (first | refine au ?_ | exact au0 | fail)
      first | refine callF_eq (tok_awake_spec _) ?_ | refine callG_eq rfl (tok_awake_spec _) ?_
      (first | refine au ?_ | exact au0 | fail)
      exact fz_of
    · have hj := tok_Join_spec0 l (by omega) (fun x hx => by have := mem_lenT hx; omega) (by omega)
      have hk := r14_Join_spec0 l (by omega) (fun x hx => by have := mem_lenT hx; omega) (by omega)
      generalize joinT l = ql at *
      (first | refine au ?_ | exact au0 | fail)
      first | refine callF_eq (hj.frame _) ?_ | refine callG_eq rfl (hj.frame _) ?_
      (first | refine au ?_ | exact au0 | fail)
      first | refine callF_eq (hk.frame _) ?_ | refine callG_eq rfl (hk.frame _) ?_
      (first | refine au ?_ | exact au0 | fail)
      rw [decide_eq_true (rfl : ql = ql)]
      (first | refine au ?_ | exact au0 | fail)
      first | refine callF_eq (hq _) ?_ | refine callG_eq rfl (hq _) ?_
      (first | refine au ?_ | exact au0 | fail)
      first | refine callF_eq (hr _) ?_ | refine callG_eq rfl (hr _) ?_
      (first | refine au ?_ | exact au0 | fail)
      rw [decide_eq_true (rfl : qs = qs)]
      (first | refine au ?_ | exact au0 | fail)
      first | refine callF_eq (tok_awake_spec _) ?_ | refine callG_eq rfl (tok_awake_spec _) ?_
      (first | refine au ?_ | exact au0 | fail)
      exact fz_of
theorem token_fl : flC PG ty_api_Token = some [(0, 1, ty_int), (1, 1, ty_string), (2, 1, ty_uint64), (3, 1, ty_int)] := by kernel_rfl
theorem tokens_sh : ∀ n, ∃ sh, shO true PG n ty_S_api_Token = some sh := fun n => clB_some (S := [ty_S_api_Token, ty_api_Token, ty_int, ty_uint64, ty_string]) (by kernel_rfl) n _ (by simp)
theorem str_sh : ∀ n, ∃ sh, shO true PG n ty_string = some sh := fun n => clB_some (S := [ty_string]) (by kernel_rfl) n _ (by simp)
theorem str_arg {av : AV} (h : ∃ n sh, shO true PG n ty_string = some sh ∧ ArgOk false sh av) : ∃ s : List UInt8, av = .str s ∧ s.length ≤ 140737488351232 := by
  obtain ⟨n, sh, h1, h2⟩ := h
  obtain ⟨av', h3, h4⟩ := h2.nonil
  obtain ⟨k, e, h5⟩ := okStr (by kernel_rfl) h1 h3
  simp only [List.cons.injEq, and_true] at e
  subst e
  cases h4 with
  | refl _ => exact ⟨k, rfl, h5⟩
theorem tokens_arg {av : AV} (h : ∃ n sh, shO true PG n ty_S_api_Token = some sh ∧ ArgOk false sh av) : ∃ l : List TkI, Nw av (.rows 4 (l.map tkI)) ∧ l.length ≤ 140737488351232 ∧ ∀ x ∈ l, x.2.1.length ≤ 140737488351232 := by
  obtain ⟨n, sh, h1, h2⟩ := h
  obtain ⟨av', h3, h4⟩ := h2.nonil
  obtain ⟨l, e, hl, k1, s1, e2, h5', h6'⟩ := okSlice (e := ty_api_Token) (c := 4) (b := 40) (by kernel_rfl) (by kernel_rfl) (by kernel_rfl) (by decide) h1 h3
  obtain ⟨ts, rfl, hi⟩ := rows_of (f := tkI) (Q := fun x => x.2.1.length ≤ 140737488351232) fun r hr => by
    have hk := h6' r hr
    obtain ⟨k, rfl, h1⟩ := okStruct token_fl (by kernel_rfl) h5' hk
    obtain ⟨_, _, _, _, a1, a2, h2, k2, rfl⟩ := okCons h1 hk
    obtain ⟨_, _, _, _, b1, b2, h3, k3, rfl⟩ := okCons h2 k2
    obtain ⟨_, _, _, _, c1, c2, h4, k4, rfl⟩ := okCons h3 k3
    obtain ⟨_, _, _, _, d1, d2, h5, k5, rfl⟩ := okCons h4 k4
    have := okNil h5 k5; subst this
    obtain ⟨kd, rfl, _⟩ := okI64 (by kernel_rfl) a1 a2
    obtain ⟨s, rfl, hs⟩ := okStr (by kernel_rfl) b1 b2
    obtain ⟨u, rfl, hu⟩ := okU64 (by kernel_rfl) c1 c2
    obtain ⟨at', rfl, _⟩ := okI64 (by kernel_rfl) d1 d2
    exact ⟨(kd, s, (u : Int), at'), rfl, hs⟩
  rw [List.length_map] at hl
  simp only [List.cons.injEq, and_true] at e
  subst e
  exact ⟨ts, h4, by omega, hi⟩
theorem TokenJoins_row (a0 : AV) (h0 : ∃ n sh, shO true PG n ty_S_api_Token = some sh ∧ ArgOk false sh a0) (a1 : AV) (h1 : ∃ n sh, shO true PG n ty_string = some sh ∧ ArgOk false sh a1) : ACalls PG broadsheetlaw14_TokenJoins.n [a0, a1] [] fun r _ => r = .bool true := by
  obtain ⟨l, p0, p1, p2⟩ := tokens_arg h0
  obtain ⟨s, rfl, q1⟩ := str_arg h1
  exact (TokenJoins_spec l s q1 p1 p2).nw (.cons p0 (.refl _))
end Go.Proofs.YtlmplofpclaokaaDoor

/- Joined tokens are split into the same ones; plain. -/
namespace Go.Proofs.YtlmplofpclaokaaDoor
set_option autoImplicit false
abbrev Tk := Int × List UInt8 × Nat × Nat
abbrev embT (x : Tk) : TkI := (x.1, x.2.1, (x.2.2.1 : Nat), (x.2.2.2 : Nat))
def prn (c : UInt8) : Bool := decide (32 ≤ c.toNat ∧ c.toNat ≤ 126)
/-- What a token may be. -/
def TokOk (k : Int) (t : List UInt8) (num : Nat) : Prop :=
  (k = 1 ∧ num = 0 ∧ ∃ c r, t = c :: r ∧ ltr c = true ∧ r.all nam = true) ∨
  (k = 2 ∧ num = numV t ∧ numV t < 18446744073709551616 ∧ t.all dig = true ∧ (∃ c r, t = c :: r ∧ ¬ (1 < t.length ∧ c = 48))) ∨
  (k = 3 ∧ num = 0 ∧ t.all prn = true) ∨
  (k = 4 ∧ ∃ d, t = [37, d] ∧ dig d = true ∧ num = d.toNat - 48) ∨
  (k = 5 ∧ num = 0 ∧ ((∃ c, t = [c] ∧ sgn c = true) ∨ (t = [60, 62] ∨ t = [60, 61] ∨ t = [62, 61])))
theorem take_tw {f : UInt8 → Bool} (l : List UInt8) : l.take (l.takeWhile f).length = l.takeWhile f := by
  conv => lhs; rhs; rw [← List.takeWhile_append_dropWhile (p := f) (l := l)]
  rw [List.take_left]
theorem all_tw {f : UInt8 → Bool} : ∀ l : List UInt8, (l.takeWhile f).all f = true
  | [] => rfl
  | c :: l => by
    rw [List.takeWhile_cons]
    split
    · rename_i h; rw [List.all_cons, h, all_tw l]; rfl
    · rfl
theorem qs_prn : ∀ (m : Nat) (r : List UInt8) (i : Nat) (acc t : List UInt8) (n : Nat), r.length ≤ m → acc.all prn = true → qs r i acc = .done t n → t.all prn = true
  | m, [], i, acc, t, n, _, _, h => by cases h
  | m, [c], i, acc, t, n, _, ha, h => by
    simp only [qs] at h
    split at h
    · cases h
    · split at h
      · cases h; exact ha
      · cases h
  | 0, c :: d :: r, i, acc, t, n, hm, _, h => by simp at hm
  | m + 1, c :: d :: r, i, acc, t, n, hm, ha, h => by
    simp only [List.length_cons] at hm
    simp only [qs] at h
    split at h
    · cases h
    · rename_i hp
      have hc : prn c = true := decide_eq_true (by omega)
      split at h
      · split at h
        · exact qs_prn m r _ _ t n (by omega) (by rw [List.all_append, ha]; rfl) h
        · cases h; exact ha
      · exact qs_prn m (d :: r) _ _ t n (by simp; omega) (by rw [List.all_append, ha]; simp [hc]) h
theorem qs_odd : ∀ (m : Nat) (r : List UInt8) (i : Nat) (acc : List UInt8) (n : Nat), r.length ≤ m → qs r i acc = .odd n → n < i + r.length
  | m, [], i, acc, n, _, h => by cases h
  | m, [c], i, acc, n, _, h => by
    simp only [qs] at h
    split at h
    · cases h; simp
    · split at h <;> cases h
  | 0, c :: d :: r, i, acc, n, hm, h => by simp at hm
  | m + 1, c :: d :: r, i, acc, n, hm, h => by
    simp only [List.length_cons] at hm ⊢
    simp only [qs] at h
    split at h
    · cases h; omega
    · split at h
      · split at h
        · have := qs_odd m r _ _ n (by omega) h; omega
        · cases h
      · have := qs_odd m (d :: r) _ _ n (by simp; omega) h
        simp only [List.length_cons] at this; omega
theorem qs_len : ∀ (m : Nat) (r : List UInt8) (i : Nat) (acc t : List UInt8) (n : Nat), r.length ≤ m → qs r i acc = .done t n → t.length ≤ acc.length + r.length
  | m, [], i, acc, t, n, _, h => by cases h
  | m, [c], i, acc, t, n, _, h => by
    simp only [qs] at h
    split at h
    · cases h
    · split at h
      · cases h; omega
      · cases h
  | 0, c :: d :: r, i, acc, t, n, hm, h => by simp at hm
  | m + 1, c :: d :: r, i, acc, t, n, hm, h => by
    simp only [List.length_cons] at hm ⊢
    simp only [qs] at h
    split at h
    · cases h
    · split at h
      · split at h
        · have := qs_len m r _ _ t n (by omega) h
          simp only [List.length_append, List.length_cons, List.length_nil] at this; omega
        · cases h; omega
      · have := qs_len m (d :: r) _ _ t n (by simp; omega) h
        simp only [List.length_append, List.length_cons, List.length_nil] at this; omega
theorem lex_len {l : List UInt8} {k : Int} {t : List UInt8} {num n : Nat} (h : lex l = .tok k t num n) : t.length ≤ l.length := by
  cases l with
  | nil => cases h
  | cons c r =>
    rw [lex_cons] at h
    have tl : ∀ j, ((c :: r).take j).length ≤ (c :: r).length := fun j => by rw [List.length_take]; omega
    split at h
    · cases h; exact tl _
    · split at h
      · split at h
        · cases h
        · split at h
          · cases h; exact tl _
          · cases h
      · split at h
        · split at h
          · rename_i e; cases h
            have := qs_len _ _ _ _ _ _ (Nat.le_refl _) e
            simp only [List.length_nil, List.length_cons] at this ⊢; omega
          · cases h
          · cases h
        · split at h
          · split at h
            · split at h
              · cases h; simp
              · cases h
            · cases h
          · split at h
            · cases h; exact tl _
            · cases h
theorem lex_off {l : List UInt8} {e : Int} {off : Nat} (hl : l ≠ []) (h : lex l = .bad e off) : off < l.length := by
  cases l with
  | nil => exact absurd rfl hl
  | cons c r =>
    rw [lex_cons] at h
    split at h
    · cases h
    · split at h
      · split at h
        · cases h; simp
        · split at h
          · cases h
          · cases h; simp
      · split at h
        · split at h
          · cases h
          · rename_i i e; cases h
            have := qs_odd _ _ _ _ _ (Nat.le_refl _) e
            simp only [List.length_cons]; omega
          · cases h; simp
        · split at h
          · split at h
            · split at h
              · cases h
              · cases h; simp
            · cases h; simp
          · split at h
            · cases h
            · cases h; simp
theorem lex_ok {l : List UInt8} {k : Int} {t : List UInt8} {num n : Nat} (h : lex l = .tok k t num n) : TokOk k t num := by
  cases l with
  | nil => cases h
  | cons c r =>
    rw [lex_cons] at h
    split at h
    · rename_i hc
      cases h
      refine .inl ⟨rfl, rfl, c, r.takeWhile nam, ?_, hc, all_tw r⟩
      rw [nl_cons, if_pos hc, Nat.add_comm, List.take_succ_cons, take_tw]
    · split at h
      · rename_i hd
        have ht : (c :: r).take (dl (c :: r)) = (c :: r).takeWhile dig := take_tw _
        have hcr : (c :: r).takeWhile dig = c :: r.takeWhile dig := by rw [List.takeWhile_cons, if_pos hd]
        split at h
        · cases h
        · rename_i h0
          split at h
          · rename_i h1
            cases h
            rw [ht] at h1 ⊢
            refine .inr (.inl ⟨rfl, rfl, h1, all_tw _, c, r.takeWhile dig, hcr, fun q => h0 ⟨q.1, q.2⟩⟩)
          · cases h
      · split at h
        · split at h
          · rename_i e; cases h
            exact .inr (.inr (.inl ⟨rfl, rfl, qs_prn _ _ _ _ _ _ (Nat.le_refl _) rfl e⟩))
          · cases h
          · cases h
        · split at h
          · split at h
            · rename_i d _
              split at h
              · rename_i hd; cases h
                exact .inr (.inr (.inr (.inl ⟨rfl, d, rfl, hd, rfl⟩)))
              · cases h
            · cases h
          · split at h
            · rename_i hs
              cases h
              refine .inr (.inr (.inr (.inr ⟨rfl, rfl, ?_⟩)))
              split
              · rename_i h2
                right
                simp only [two, Bool.or_eq_true, beq_iff_eq] at h2
                rcases h2 with (h2 | h2) | h2
                · exact .inl h2
                · exact .inr (.inl h2)
                · exact .inr (.inr h2)
              · left; exact ⟨c, by simp, hs⟩
            · cases h
/-- A token as it is written. -/
def tokS (k : Int) (t : List UInt8) : List UInt8 := if k = 3 then quoteL t else t
theorem tw_stop {f : UInt8 → Bool} (l r : List UInt8) (c : UInt8) (h : l.all f = true) (hc : f c = false) : (l ++ c :: r).takeWhile f = l := by
  induction l with
  | nil => simp [hc]
  | cons d l ih =>
    rw [List.all_cons, Bool.and_eq_true] at h
    rw [List.cons_append, List.takeWhile_cons, if_pos h.1, ih h.2]
theorem qs_quote : ∀ (t : List UInt8) (r : List UInt8) (i : Nat) (acc : List UInt8), t.all prn = true → qs (replB 39 [39, 39] t ++ 39 :: 32 :: r) i acc = .done (acc ++ t) (i + (replB 39 [39, 39] t).length + 1)
  | [], r, i, acc, _ => by
    show qs (39 :: 32 :: r) i acc = _
    simp only [qs]
    rw [if_neg (by decide), if_pos trivial, if_neg (by decide)]
    simp [replB]
  | c :: t, r, i, acc, h => by
    rw [List.all_cons, Bool.and_eq_true] at h
    have hc : 32 ≤ c.toNat ∧ c.toNat ≤ 126 := of_decide_eq_true h.1
    rw [replB_cons]
    by_cases h39 : c = 39
    · subst h39
      rw [if_pos rfl]
      show qs (39 :: 39 :: (replB 39 [39, 39] t ++ 39 :: 32 :: r)) i acc = _
      simp only [qs]
      rw [if_neg (by decide), if_pos trivial, if_pos trivial, qs_quote t r (i + 2) (acc ++ [39]) h.2]
      simp only [List.append_assoc, List.cons_append, List.nil_append, List.length_append, List.length_cons, List.length_nil]
      congr 1; omega
    · rw [if_neg h39]
      have ih := qs_quote t r (i + 1) (acc ++ [c]) h.2
      obtain ⟨d, q, e⟩ : ∃ d q, replB 39 [39, 39] t ++ 39 :: 32 :: r = d :: q := by
        cases replB 39 [39, 39] t with
        | nil => exact ⟨_, _, rfl⟩
        | cons d q => exact ⟨_, _, rfl⟩
      rw [List.append_assoc, List.singleton_append, e]
      rw [e] at ih
      simp only [qs]
      rw [if_neg (by omega), if_neg h39, ih]
      simp only [List.append_assoc, List.cons_append, List.nil_append, List.length_append, List.length_cons, List.length_nil]
      congr 1; omega
theorem ltr_nb {c : UInt8} (h : ltr c = true) : blnk c = false := by
  simp only [ltr, Bool.or_eq_true, Bool.and_eq_true, decide_eq_true_eq] at h
  cases hb : blnk c with
  | false => rfl
  | true =>
    simp only [blnk, Bool.or_eq_true, beq_iff_eq] at hb
    rcases hb with ((hb | hb) | hb) | hb <;> subst hb <;> revert h <;> decide
theorem dig_nb {c : UInt8} (h : dig c = true) : blnk c = false ∧ ltr c = false := by
  simp only [dig, Bool.and_eq_true, decide_eq_true_eq] at h
  constructor
  · cases hb : blnk c with
    | false => rfl
    | true =>
      simp only [blnk, Bool.or_eq_true, beq_iff_eq] at hb
      rcases hb with ((hb | hb) | hb) | hb <;> subst hb <;> revert h <;> decide
  · cases hb : ltr c with
    | false => rfl
    | true =>
      simp only [ltr, Bool.or_eq_true, Bool.and_eq_true, decide_eq_true_eq] at hb
      omega
theorem sgn_cases {c : UInt8} (h : sgn c = true) : c ∈ ([61, 60, 62, 40, 41, 46, 91, 93, 45] : List UInt8) := by simpa [sgn] using h
theorem lex_again {k : Int} {t : List UInt8} {num : Nat} (h : TokOk k t num) (r : List UInt8) : lex (tokS k t ++ 32 :: r) = .tok k t num (tokS k t).length ∧ ∃ c q, tokS k t = c :: q ∧ blnk c = false := by
  rcases h with ⟨rfl, rfl, c, q, rfl, hc, hq⟩ | ⟨rfl, rfl, hn, ha, c, q, rfl, h0⟩ | ⟨rfl, rfl, ha⟩ | ⟨rfl, d, rfl, hd, rfl⟩ | ⟨rfl, rfl, hs⟩
  · refine ⟨?_, c, q, rfl, ltr_nb hc⟩
    show lex (c :: (q ++ 32 :: r)) = .tok 1 (c :: q) 0 (c :: q).length
    have hn : nl (c :: (q ++ 32 :: r)) = (c :: q).length := by rw [nl_cons, if_pos hc, tw_stop q r 32 hq (by decide), List.length_cons]; omega
    rw [lex_cons, if_pos hc, hn, ← List.cons_append, List.take_left]
  · rw [List.all_cons, Bool.and_eq_true] at ha
    obtain ⟨b1, b2⟩ := dig_nb ha.1
    refine ⟨?_, c, q, rfl, b1⟩
    show lex (c :: (q ++ 32 :: r)) = .tok 2 (c :: q) _ (c :: q).length
    have hn2 : dl (c :: (q ++ 32 :: r)) = (c :: q).length := by
      unfold dl
      rw [← List.cons_append, tw_stop (c :: q) r 32 (by rw [List.all_cons, ha.1, ha.2]; rfl) (by decide)]
    have ht : (c :: (q ++ 32 :: r)).take (c :: q).length = c :: q := by rw [← List.cons_append, List.take_left]
    rw [lex_cons, if_neg (by rw [b2]; decide), if_pos ha.1, hn2, ht, if_neg h0, if_pos hn]
  · refine ⟨?_, 39, replB 39 [39, 39] t ++ [39], by simp [tokS, quoteL], by decide⟩
    have e : tokS 3 t ++ 32 :: r = 39 :: (replB 39 [39, 39] t ++ 39 :: 32 :: r) := by simp [tokS, quoteL]
    rw [e, lex_cons, if_neg (by decide), if_neg (by decide), if_pos rfl, qs_quote t r 1 [] ha]
    simp only [List.nil_append, tokS, quoteL, if_true, List.length_append, List.length_cons, List.length_nil]
    try (congr 1; omega)
  · refine ⟨?_, 37, [d], rfl, by decide⟩
    show lex (37 :: d :: 32 :: r) = _
    rw [lex_cons, if_neg (by decide), if_neg (by decide), if_neg (by decide), if_pos rfl]
    dsimp only
    rw [if_pos hd]
    rfl
  · rcases hs with ⟨c, rfl, hs⟩ | hs
    · have hm := sgn_cases hs
      have key : ∀ c ∈ ([61, 60, 62, 40, 41, 46, 91, 93, 45] : List UInt8), ltr c = false ∧ dig c = false ∧ c ≠ 39 ∧ c ≠ 37 ∧ blnk c = false ∧ two [c, 32] = false := by decide
      obtain ⟨k1, k2, k3, k4, k5, k6⟩ := key c hm
      refine ⟨?_, c, [], rfl, k5⟩
      show lex (c :: 32 :: r) = _
      have h2 : two (c :: 32 :: r) = false := by rw [← k6]; simp [two]
      rw [lex_cons, if_neg (by rw [k1]; decide), if_neg (by rw [k2]; decide), if_neg k3, if_neg k4, if_pos hs, h2]
      simp [tokS]
    · rcases hs with rfl | rfl | rfl
      · exact ⟨rfl, _, _, rfl, by decide⟩
      · exact ⟨rfl, _, _, rfl, by decide⟩
      · exact ⟨rfl, _, _, rfl, by decide⟩
/-- What all tokens of a text are. -/
theorem tks_ok : ∀ (m : Nat) (s : List UInt8) (a n : Nat) (l : List Tk), s.length - a ≤ m → a ≤ s.length → n ≤ 64 → tks s a n = .ok l →
    ∃ xs : List Tk, l = xs ++ [(6, [], 0, s.length)] ∧ n + xs.length ≤ 64 ∧ (∀ x ∈ xs, TokOk x.1 x.2.1 x.2.2.1 ∧ a ≤ x.2.2.2 ∧ x.2.2.2 < s.length ∧ x.2.1.length ≤ s.length) ∧ xs.Pairwise (fun x y => x.2.2.2 < y.2.2.2)
  | m, s, a, n, l, hm, ha, hn, h => by
    by_cases hlt : a < s.length
    · rw [tks_eq hlt] at h
      cases m with
      | zero => omega
      | succ m =>
      split at h
      · obtain ⟨xs, e, h1, h2, h3⟩ := tks_ok m s (a + 1) n l (by omega) (by omega) hn h
        exact ⟨xs, e, h1, fun x hx => ⟨(h2 x hx).1, by have := (h2 x hx).2.1; omega, (h2 x hx).2.2⟩, h3⟩
      · split at h
        · cases h
        · rename_i k t num q e
          have hb := lex_bound e
          rw [List.length_drop] at hb
          split at h
          · cases h
          · cases hr : tks s (a + q) (n + 1) with
            | bad e p => rw [hr] at h; cases h
            | ok l' =>
              rw [hr] at h
              simp only [TR.pre, TR.ok.injEq] at h
              subst h
              obtain ⟨xs, e2, h1, h2, h3⟩ := tks_ok m s (a + q) (n + 1) l' (by omega) (by omega) (by omega) hr
              subst e2
              refine ⟨(k, t, num, a) :: xs, rfl, by simp only [List.length_cons]; omega, fun x hx => ?_, List.pairwise_cons.2 ⟨fun y hy => ?_, h3⟩⟩
              · rcases List.mem_cons.1 hx with rfl | hx
                · exact ⟨lex_ok e, Nat.le_refl _, hlt, by have := lex_len e; rw [List.length_drop] at this; show t.length ≤ _; omega⟩
                · exact ⟨(h2 x hx).1, by have := (h2 x hx).2.1; omega, (h2 x hx).2.2⟩
              · have := (h2 y hy).2.1
                show a < y.2.2.2
                omega
    · rw [tks_end (by omega)] at h
      cases h
      exact ⟨[], rfl, by simpa using hn, (fun x hx => by cases hx), List.Pairwise.nil⟩
theorem tks_bad : ∀ (m : Nat) (s : List UInt8) (a n : Nat) (e : Int) (p : Nat), s.length - a ≤ m → tks s a n = .bad e p → p < s.length ∧ 0 < e
  | m, s, a, n, e, p, hm, h => by
    by_cases hlt : a < s.length
    · rw [tks_eq hlt] at h
      cases m with
      | zero => omega
      | succ m =>
      split at h
      · exact tks_bad m s (a + 1) n e p (by omega) h
      · split at h
        · rename_i e' off eq
          cases h
          have := lex_off (l := s.drop a) (by intro q; have := congrArg List.length q; rw [List.length_drop] at this; simp at this; omega) eq
          rw [List.length_drop] at this
          exact ⟨by omega, (lex_err eq).1⟩
        · rename_i k t num q e'
          have hb := lex_bound e'
          split at h
          · cases h; exact ⟨hlt, by decide⟩
          · cases hr : tks s (a + q) (n + 1) with
            | ok l' => rw [hr] at h; cases h
            | bad e2 p2 =>
              rw [hr] at h
              cases h
              exact tks_bad m s (a + q) (n + 1) e p (by omega) hr
    · rw [tks_end (by omega)] at h; cases h
/-- Tokens, one behind the other, each with a blank behind it. -/
def rowT (xs : List Tk) : List UInt8 := xs.flatMap fun x => tokS x.1 x.2.1 ++ [32]
/-- .. and where each stands. -/
def place : List Tk → Nat → List Tk
  | [], _ => []
  | x :: xs, a => (x.1, x.2.1, x.2.2.1, a) :: place xs (a + (tokS x.1 x.2.1).length + 1)
theorem place_len : ∀ (xs : List Tk) (a : Nat), (place xs a).length = xs.length
  | [], _ => rfl
  | x :: xs, a => by simp [place, place_len xs]
theorem place_get : ∀ (xs : List Tk) (a i : Nat) (h : i < xs.length) (h' : i < (place xs a).length), ∃ p, (place xs a)[i] = (xs[i].1, xs[i].2.1, xs[i].2.2.1, p)
  | x :: xs, a, 0, _, _ => ⟨a, rfl⟩
  | x :: xs, a, i + 1, h, h' => place_get xs _ i (by simpa using h) (by simpa [place] using h')
theorem tks_again : ∀ (xs : List Tk) (pre : List UInt8) (n : Nat), (∀ x ∈ xs, TokOk x.1 x.2.1 x.2.2.1) → n + xs.length ≤ 64 → tks (pre ++ rowT xs) pre.length n = .ok (place xs pre.length ++ [(6, [], 0, (pre ++ rowT xs).length)])
  | [], pre, n, _, _ => by rw [tks_end (by simp [rowT])]; rfl
  | x :: xs, pre, n, h, hn => by
    have hx := h x List.mem_cons_self
    have er : rowT (x :: xs) = tokS x.1 x.2.1 ++ 32 :: rowT xs := by simp [rowT]
    obtain ⟨h1, c, q, h2, h3⟩ := lex_again hx (rowT xs)
    have hs : pre ++ rowT (x :: xs) = (pre ++ tokS x.1 x.2.1 ++ [32]) ++ rowT xs := by rw [er]; simp
    have hlen : (pre ++ rowT (x :: xs)).length = pre.length + (tokS x.1 x.2.1).length + 1 + (rowT xs).length := by rw [hs]; simp only [List.length_append, List.length_cons, List.length_nil]
    have hd : (pre ++ rowT (x :: xs)).drop pre.length = tokS x.1 x.2.1 ++ 32 :: rowT xs := by rw [List.drop_left, er]
    have h0 : (pre ++ rowT (x :: xs)).getD pre.length 0 = c := by
      rw [er, h2]; simp [List.getD]
    have hp : (pre ++ rowT (x :: xs)).getD (pre.length + (tokS x.1 x.2.1).length) 0 = 32 := by
      rw [er]; simp [List.getD, List.getElem?_append]
    simp only [List.length_cons] at hn
    rw [tks_eq (by omega), h0, h3, if_neg (by decide), hd, h1]
    dsimp only
    rw [if_neg (by omega), tks_eq (by omega), hp, if_pos (by decide)]
    have ih := tks_again xs (pre ++ tokS x.1 x.2.1 ++ [32]) (n + 1) (fun y hy => h y (List.mem_cons_of_mem _ hy)) (by omega)
    have hl : (pre ++ tokS x.1 x.2.1 ++ [32]).length = pre.length + (tokS x.1 x.2.1).length + 1 := by simp only [List.length_append, List.length_cons, List.length_nil]
    rw [← hs, hl] at ih
    rw [ih]
    rfl
theorem rowT_join (xs : List Tk) (p : Nat) : joinT ((xs ++ [(6, [], 0, p)]).map embT) = rowT xs := by
  have key : ∀ xs : List Tk, Lib.joinTail [32] (((xs ++ [((6 : Int), ([] : List UInt8), 0, p)]).map embT).map tokT) = 32 :: rowT xs := by
    intro xs
    induction xs with
    | nil => simp [Lib.joinTail, rowT, tokT]
    | cons x xs ih =>
      have e : tokT (embT x) = tokS x.1 x.2.1 := rfl
      simp only [Lib.joinTail, List.cons_append, List.map_cons, List.flatten_cons] at ih ⊢
      rw [ih, e]
      simp [rowT]
  cases xs with
  | nil => simp [joinT, Lib.join_one, rowT, tokT]
  | cons x xs =>
    have e : tokT (embT x) = tokS x.1 x.2.1 := rfl
    rw [joinT, List.cons_append, List.map_cons, List.map_cons, Lib.join_cons, key xs, e]
    simp [rowT]
theorem tokens_again {s : List UInt8} {l : List Tk} (h : tokens s = .ok l) : ∃ xs : List Tk, l = xs ++ [(6, [], 0, s.length)] ∧ xs.length ≤ 64 ∧ s.length ≤ 256 ∧ (∀ x ∈ xs, TokOk x.1 x.2.1 x.2.2.1 ∧ x.2.2.2 < s.length ∧ x.2.1.length ≤ s.length) ∧ xs.Pairwise (fun x y => x.2.2.2 < y.2.2.2) ∧
    joinT (l.map embT) = rowT xs ∧ (tokens (rowT xs) = if 256 < (rowT xs).length then .bad 3 0 else .ok (place xs 0 ++ [(6, [], 0, (rowT xs).length)])) ∧ joinT ((place xs 0 ++ [(6, [], 0, (rowT xs).length)]).map embT) = rowT xs := by
  unfold tokens at h
  split at h
  · cases h
  · obtain ⟨xs, rfl, h1, h2, h3⟩ := tks_ok _ s 0 0 l (Nat.le_refl _) (by omega) (by omega) h
    have ha := tks_again xs [] 0 (fun x hx => (h2 x hx).1) h1
    simp only [List.nil_append, List.length_nil] at ha
    have hpl : rowT (place xs 0) = rowT xs := by
      have : ∀ (xs : List Tk) (a : Nat), rowT (place xs a) = rowT xs := by
        intro xs
        induction xs with
        | nil => intro a; rfl
        | cons x xs ih => intro a; simp only [place, rowT, List.flatMap_cons] at ih ⊢; rw [ih]
      exact this xs 0
    refine ⟨xs, rfl, by omega, by omega, fun x hx => ⟨(h2 x hx).1, (h2 x hx).2.2⟩, h3, rowT_join xs _, ?_, by rw [rowT_join, hpl]⟩
    unfold tokens
    split
    · rfl
    · exact ha
theorem tokens_bad {s : List UInt8} {e : Int} {p : Nat} (h : tokens s = .bad e p) : (p < s.length ∨ (e = 3 ∧ p = 0)) ∧ 0 < e := by
  unfold tokens at h
  split at h
  · cases h; exact ⟨.inr ⟨rfl, rfl⟩, by decide⟩
  · have := tks_bad _ s 0 0 e p (Nat.le_refl _) h
    exact ⟨.inl this.1, this.2⟩
theorem TokOk.kind {k : Int} {t : List UInt8} {num : Nat} (h : TokOk k t num) : k ≠ 6 := by
  rcases h with ⟨rfl, _⟩ | ⟨rfl, _⟩ | ⟨rfl, _⟩ | ⟨rfl, _⟩ | ⟨rfl, _⟩ <;> decide
/-- How tokens stand. -/
theorem tok_order {xs : List Tk} {p : Nat} (h1 : ∀ x ∈ xs, TokOk x.1 x.2.1 x.2.2.1 ∧ x.2.2.2 < p ∧ x.2.1.length ≤ p) (h2 : xs.Pairwise (fun x y => x.2.2.2 < y.2.2.2)) {l : List Tk} (e : l = xs ++ [(6, [], 0, p)]) :
    (∀ (i : Nat) (h : i < l.length), l[i].2.2.2 ≤ p ∧ l[i].2.1.length ≤ p ∧ (l[i].1 = 6 ↔ i = l.length - 1)) ∧ (∀ (i : Nat) (h : i + 1 < l.length), (l[i]).2.2.2 < (l[i + 1]).2.2.2) := by
  subst e
  have hl : (xs ++ [((6 : Int), ([] : List UInt8), 0, p)]).length = xs.length + 1 := by simp
  refine ⟨fun i h => ?_, fun i h => ?_⟩
  · by_cases hi : i < xs.length
    · rw [List.getElem_append_left hi]
      have := h1 _ (List.getElem_mem hi)
      exact ⟨by omega, this.2.2, fun q => absurd q this.1.kind, fun q => by omega⟩
    · obtain rfl : i = xs.length := by omega
      rw [List.getElem_append_right (Nat.le_refl _)]
      simp
  · by_cases hi : i + 1 < xs.length
    · rw [List.getElem_append_left hi, List.getElem_append_left (by omega)]
      exact List.pairwise_iff_getElem.1 h2 i (i + 1) (by omega) hi (by omega)
    · have hx : i < xs.length := by omega
      have he : i + 1 - xs.length = 0 := by omega
      rw [List.getElem_append_left hx, List.getElem_append_right (by omega)]
      have := h1 _ (List.getElem_mem hx)
      simp only [he, List.getElem_cons_zero]
      exact this.2.1
theorem lenT_le (n : Nat) : ∀ l : List TkI, (∀ x ∈ l, x.2.1.length ≤ n) → lenT l ≤ n * l.length
  | [], _ => by simp [lenT]
  | x :: l, h => by
    have h1 := h x List.mem_cons_self
    have h2 := lenT_le n l fun y hy => h y (List.mem_cons_of_mem _ hy)
    simp only [lenT, List.map_cons, List.sum_cons, List.length_cons, Nat.mul_add, Nat.mul_one] at h2 ⊢
    omega
/-- What of two lists is the same, but for the places. -/
def AlikeT (l l' : List Tk) : Prop := l.length = l'.length ∧ ∀ (i : Nat) (h : i < l.length) (h' : i < l'.length), l'[i].1 = l[i].1 ∧ l'[i].2.1 = l[i].2.1 ∧ l'[i].2.2.1 = l[i].2.2.1
theorem place_alike (xs : List Tk) (p q : Nat) : AlikeT (xs ++ [(6, [], 0, p)]) (place xs 0 ++ [(6, [], 0, q)]) := by
  refine ⟨by simp [place_len], fun i h h' => ?_⟩
  by_cases hi : i < xs.length
  · rw [List.getElem_append_left hi, List.getElem_append_left (by rw [place_len]; exact hi)]
    obtain ⟨r, e⟩ := place_get xs 0 i hi (by rw [place_len]; exact hi)
    rw [e]; exact ⟨rfl, rfl, rfl⟩
  · have hi2 : i = xs.length := by simp at h; omega
    subst hi2
    rw [List.getElem_append_right (Nat.le_refl _), List.getElem_append_right (by rw [place_len]; exact Nat.le_refl _)]
    simp [place_len]
end Go.Proofs.YtlmplofpclaokaaDoor

/- The law 'TokenAgain', walked. -/
namespace Go.Proofs.YtlmplofpclaokaaDoor
set_option autoImplicit false
set_option linter.unusedSimpArgs false
set_option linter.unusedVariables false
attribute [local irreducible] callA callP ACalls
theorem tkR_emb (l : List Tk) : l.map tkR = (l.map embT).map tkI := by rw [List.map_map]; rfl
theorem Tokens_any {s : List UInt8} (hs : s.length ≤ 140737488351232) (H : AH) : ACalls PG token_Tokens.n [.str s] H fun r H' => r = tokV (tokens s) ∧ H' = H := (Tokens_spec hs).frame H
theorem ref_Same_np (l l' : List Tk) (ha : AlikeT l l') (hl : l.length ≤ 1000000) (H : AH) : ACalls PG broadsheetref14_Same.n [.rows 4 (l.map tkR), .rows 4 (l'.map tkR), .bool false] H fun r H' => r = .bool true ∧ H' = H := by
  have hlen : (l.map tkR).length = l.length := by simp
  have hlen' : (l'.map tkR).length = l'.length := by simp
  have h0 := ha.1
  refine ACalls.keepSub (K := fun r => r = .bool true) (broadsheetref14_Same.of rfl (wpF_start ?_))
  (first | refine au ?_ | exact au0 | fail)
  refine loopM (S := Nat) [(0, some _), (1, some _), (2, some _)] (fun i => [(7, some (.int .i64 (i : Nat)))]) (fun _ => H) (fun i => l.length - i) (fun i => i ≤ l.length) 0 (by repeat (first | exact trivial | refine And.intro (Or.inl rfl) ?_ | refine And.intro (Or.inr (Exists.intro _ (And.intro rfl (Fz.refl _)))) ?_ | refine And.intro (Or.inr (Exists.intro _ (And.intro rfl (fz_eq (congrArg (AV.int _) (by omega)))))) ?_ | refine And.intro (Or.inr (Exists.intro _ (And.intro rfl (fz_eq (congrArg (AV.own _ _ _) (by (try dsimp only); (try simp only [List.length_append, List.length_map, List.length_cons, List.length_nil, List.length_take, List.length_set, List.length_replicate]); (try dsimp only); first | done | omega)))))) ?_)) (Sub.refl _) (Nat.zero_le _) (fun i hi => ?_)
  (first | refine au ?_ | exact au0 | fail)
  refine bsplit_dec (fun cc => ?_) (fun cc => ?_)
  · have hil : i < l.length := by omega
    have hil' : i < l'.length := by omega
    have hg : (l.map tkR).getD (Int.toNat (i : Nat)) [] = tkR l[i] := row_get (f := tkR) hil
    have hg' : (l'.map tkR).getD (Int.toNat (i : Nat)) [] = tkR l'[i] := row_get (f := tkR) hil'
    obtain ⟨q1, q2, q3⟩ := ha.2 i hil hil'
    generalize l[i] = x at *
    generalize l'[i] = y at *
    obtain ⟨xk, xt, xn, xa⟩ := x
    obtain ⟨yk, yt, yn, ya⟩ := y
    dsimp only at q1 q2 q3
    subst q1; subst q2; subst q3
    (first | refine au ?_ | exact au0 | fail)
    rw [hg]
    (first | refine au ?_ | exact au0 | fail)
    intro id8 hid8 ht8; have n8 := neAll_of hid8; (try simp only [neAll, neAll_hset] at n8); have m8 := n8; (repeat (obtain ⟨_, m8⟩ := m8))
    (first | refine au ?_ | exact au0 | fail)
    rw [hg']
    (first | refine au ?_ | exact au0 | fail)
    rw [hg']
    (first | refine au ?_ | exact au0 | fail)
    refine ⟨true, by simp [eqCells, over, AV.cells], ?_⟩
    (first | refine au ?_ | exact au0 | fail)
    exact nextS (S := Nat) (i + 1) (by repeat (first | exact trivial | refine And.intro (Or.inl rfl) ?_ | refine And.intro (Or.inr (Exists.intro _ (And.intro rfl (Fz.refl _)))) ?_ | refine And.intro (Or.inr (Exists.intro _ (And.intro rfl (fz_eq (congrArg (AV.int _) (by omega)))))) ?_ | refine And.intro (Or.inr (Exists.intro _ (And.intro rfl (fz_eq (congrArg (AV.own _ _ _) (by (try dsimp only); (try simp only [List.length_append, List.length_map, List.length_cons, List.length_nil, List.length_take, List.length_set, List.length_replicate]); (try dsimp only); first | done | omega)))))) ?_)) sub_of (by omega) hil
  · (first | refine au ?_ | exact au0 | fail)
    exact sub_of
theorem emb_lens {l : List Tk} {n : Nat} (h : ∀ (i : Nat) (h : i < l.length), l[i].2.1.length ≤ n) : ∀ x ∈ l.map embT, x.2.1.length ≤ n := fun x hx => by
  obtain ⟨y, hy, rfl⟩ := List.mem_map.1 hx
  obtain ⟨i, hi, rfl⟩ := List.getElem_of_mem hy
  exact h i hi
theorem TokenAgain_spec (s : List UInt8) (hs : s.length ≤ 140737488351232) : ACalls PG broadsheetlaw14_TokenAgain.n [.str s] [] fun r _ => r = .bool true := by
  refine ACalls.fzK (broadsheetlaw14_TokenAgain.of rfl (wpF_start ?_))
  have hT := Tokens_any hs
  (first | refine au ?_ | exact au0 | fail)
  cases hR : tokens s with
  | bad e p =>
    rw [hR] at hT
    first | refine callF_eq (hT _) ?_ | refine callG_eq rfl (hT _) ?_
    obtain ⟨hb, he⟩ := tokens_bad hR
    (first | refine au ?_ | exact au0 | fail)
    intro id4 hid4 ht4; have n4 := neAll_of hid4; (try simp only [neAll, neAll_hset] at n4); have m4 := n4; (repeat (obtain ⟨_, m4⟩ := m4))
    (first | refine au ?_ | exact au0 | fail)
    rcases hb with hp | ⟨rfl, rfl⟩
    · (first | refine au ?_ | exact au0 | fail)
      first | refine callF_eq (tok_awake_spec _) ?_ | refine callG_eq rfl (tok_awake_spec _) ?_
      (first | refine au ?_ | exact au0 | fail)
      exact fz_of
    · by_cases c0 : 0 < s.length
      · (first | refine au ?_ | exact au0 | fail)
        first | refine callF_eq (tok_awake_spec _) ?_ | refine callG_eq rfl (tok_awake_spec _) ?_
        (first | refine au ?_ | exact au0 | fail)
        exact fz_of
      · (first | refine au ?_ | exact au0 | fail)
        refine ⟨true, by simp [eqCells, over, AV.cells], ?_⟩
        (first | refine au ?_ | exact au0 | fail)
        first | refine callF_eq (tok_awake_spec _) ?_ | refine callG_eq rfl (tok_awake_spec _) ?_
        (first | refine au ?_ | exact au0 | fail)
        exact fz_of
  | ok l =>
    rw [hR] at hT
    obtain ⟨xs, el, hx1, hs256, hx2, hx3, hj, ht2, hj2⟩ := tokens_again hR
    obtain ⟨o1, o2⟩ := tok_order (fun x hx => hx2 x hx) hx3 el
    have hal := place_alike xs s.length (rowT xs).length
    rw [← el] at hal
    have hll : l.length = xs.length + 1 := by rw [el]; simp
    have hlen : (l.map tkR).length = l.length := by simp
    have hJ := tok_Join_spec0 (l.map embT) (by rw [List.length_map]; omega) (fun x hx => by have := emb_lens (n := s.length) (fun i h => (o1 i h).2.1) x hx; omega) (by
      have := lenT_le s.length (l.map embT) (emb_lens (fun i h => (o1 i h).2.1))
      rw [List.length_map] at this
      have : s.length * l.length ≤ 256 * 65 := Nat.mul_le_mul hs256 (by omega)
      omega)
    rw [hj, ← tkR_emb] at hJ
    first | refine callF_eq (hT _) ?_ | refine callG_eq rfl (hT _) ?_
    (first | refine au ?_ | exact au0 | fail)
    intro id4 hid4 ht4; have n4 := neAll_of hid4; (try simp only [neAll, neAll_hset] at n4); have m4 := n4; (repeat (obtain ⟨_, m4⟩ := m4))
    (first | refine au ?_ | exact au0 | fail)
    refine loopM (S := Nat) [(0, some _), (3, some _)] (fun i => [(5, some (.int .i64 (i : Nat)))]) (fun _ => _) (fun i => l.length - i) (fun i => i ≤ l.length) 0 (by repeat (first | exact trivial | refine And.intro (Or.inl rfl) ?_ | refine And.intro (Or.inr (Exists.intro _ (And.intro rfl (Fz.refl _)))) ?_ | refine And.intro (Or.inr (Exists.intro _ (And.intro rfl (fz_eq (congrArg (AV.int _) (by omega)))))) ?_ | refine And.intro (Or.inr (Exists.intro _ (And.intro rfl (fz_eq (congrArg (AV.own _ _ _) (by (try dsimp only); (try simp only [List.length_append, List.length_map, List.length_cons, List.length_nil, List.length_take, List.length_set, List.length_replicate]); (try dsimp only); first | done | omega)))))) ?_)) (Sub.refl _) (Nat.zero_le _) (fun i hi => ?_)
    (first | refine au ?_ | exact au0 | fail)
    refine bsplit_dec (fun cc => ?_) (fun cc => ?_)
    · have hil : i < l.length := by omega
      have hg : (l.map tkR).getD (Int.toNat (i : Nat)) [] = tkR l[i] := row_get (f := tkR) hil
      obtain ⟨p1, p2, p3⟩ := o1 i hil
      have pg : ∀ h0 : ¬ i = 0, (l.map tkR).getD (Int.toNat ((i : Nat) - 1 : Int)) [] = tkR l[i - 1] ∧ l[i - 1].2.2.2 < l[i].2.2.2 := fun h0 => by
        have hm : i - 1 + 1 < l.length := by omega
        have h2 := o2 (i - 1) hm
        have e : i - 1 + 1 = i := by omega
        simp only [e] at h2
        exact ⟨by rw [show Int.toNat ((i : Nat) - 1 : Int) = Int.toNat ((i - 1 : Nat) : Int) from by omega]; exact row_get (f := tkR) (by omega), h2⟩
      by_cases h0 : i = 0
      · generalize l[i] = x at *
        obtain ⟨xk, xt, xn, xa⟩ := x
        dsimp only at p1 p2 p3
        (first | refine au ?_ | exact au0 | fail)
        repeat (first | (rw [hg]; (first | refine au ?_ | exact au0 | fail)) | (fail; (first | refine au ?_ | exact au0 | fail)))
        have hb : (decide (xk = 6) == decide ((i : Int) = ((l.map tkR).length : Int) - 1)) = true := by
          rw [beq_iff_eq]
          exact decide_eq_decide.2 (by rw [p3]; omega)
        rw [show (decide ((xk, xt, xn, xa).fst = 6) == decide ((i : Int) = ((l.map tkR).length : Int) - 1)) = true from hb]
        (first | refine au ?_ | exact au0 | fail)
        exact nextS (S := Nat) (i + 1) (by repeat (first | exact trivial | refine And.intro (Or.inl rfl) ?_ | refine And.intro (Or.inr (Exists.intro _ (And.intro rfl (Fz.refl _)))) ?_ | refine And.intro (Or.inr (Exists.intro _ (And.intro rfl (fz_eq (congrArg (AV.int _) (by omega)))))) ?_ | refine And.intro (Or.inr (Exists.intro _ (And.intro rfl (fz_eq (congrArg (AV.own _ _ _) (by (try dsimp only); (try simp only [List.length_append, List.length_map, List.length_cons, List.length_nil, List.length_take, List.length_set, List.length_replicate]); (try dsimp only); first | done | omega)))))) ?_)) sub_of (by omega) hil
      · obtain ⟨pg1, pg2⟩ := pg h0
        generalize l[i] = x at *
        generalize l[i - 1] = y at *
        obtain ⟨xk, xt, xn, xa⟩ := x
        obtain ⟨yk, yt, yn, ya⟩ := y
        dsimp only at p1 p2 p3 pg2
        (first | refine au ?_ | exact au0 | fail)
        repeat (first | (rw [hg]; (first | refine au ?_ | exact au0 | fail)) | (rw [pg1]; (first | refine au ?_ | exact au0 | fail)))
        have hb : (decide (xk = 6) == decide ((i : Int) = ((l.map tkR).length : Int) - 1)) = true := by
          rw [beq_iff_eq]
          exact decide_eq_decide.2 (by rw [p3]; omega)
        rw [show (decide ((xk, xt, xn, xa).fst = 6) == decide ((i : Int) = ((l.map tkR).length : Int) - 1)) = true from hb]
        (first | refine au ?_ | exact au0 | fail)
        exact nextS (S := Nat) (i + 1) (by repeat (first | exact trivial | refine And.intro (Or.inl rfl) ?_ | refine And.intro (Or.inr (Exists.intro _ (And.intro rfl (Fz.refl _)))) ?_ | refine And.intro (Or.inr (Exists.intro _ (And.intro rfl (fz_eq (congrArg (AV.int _) (by omega)))))) ?_ | refine And.intro (Or.inr (Exists.intro _ (And.intro rfl (fz_eq (congrArg (AV.own _ _ _) (by (try dsimp only); (try simp only [List.length_append, List.length_map, List.length_cons, List.length_nil, List.length_take, List.length_set, List.length_replicate]); (try dsimp only); first | done | omega)))))) ?_)) sub_of (by omega) hil
    · have hi2 : i = l.length := by omega
      subst hi2
      (first | refine au ?_ | exact au0 | fail)
      first | refine callF_eq (hJ.frame _) ?_ | refine callG_eq rfl (hJ.frame _) ?_
      (first | refine au ?_ | exact au0 | fail)
      have hrl : (rowT xs).length ≤ 1000000 := by
        have q1 := joinT_len (l.map embT)
        have q2 := lenT_le s.length (l.map embT) (emb_lens (fun i h => (o1 i h).2.1))
        rw [hj, List.length_map] at q1
        rw [List.length_map] at q2
        have : s.length * l.length ≤ 256 * 65 := Nat.mul_le_mul hs256 (by omega)
        omega
      have hT2 := Tokens_any (s := rowT xs) (by omega)
      rw [ht2] at hT2
      by_cases c6 : 256 < (rowT xs).length
      · rw [if_pos c6] at hT2
        generalize rowT xs = t at *
        first | refine callF_eq (hT2 _) ?_ | refine callG_eq rfl (hT2 _) ?_
        (first | refine au ?_ | exact au0 | fail)
        intro id8 hid8 ht8; have n8 := neAll_of hid8; (try simp only [neAll, neAll_hset] at n8); have m8 := n8; (repeat (obtain ⟨_, m8⟩ := m8))
        (first | refine au ?_ | exact au0 | fail)
        refine ⟨true, by simp [eqCells, over, AV.cells], ?_⟩
        (first | refine au ?_ | exact au0 | fail)
        first | refine callF_eq (tok_awake_spec _) ?_ | refine callG_eq rfl (tok_awake_spec _) ?_
        (first | refine au ?_ | exact au0 | fail)
        exact fz_of
      · rw [if_neg c6] at hT2
        generalize hl2 : place xs 0 ++ [((6 : Int), ([] : List UInt8), 0, (rowT xs).length)] = l2 at *
        have hl2l : l.length = l2.length := hal.1
        have o3 : ∀ (i : Nat) (h : i < l2.length), l2[i].2.1.length ≤ s.length := fun i h => by
          have := (hal.2 i (by omega) h).2.1
          rw [this]
          exact (o1 i (by omega)).2.1
        have hK := tok_Join_spec0 (l2.map embT) (by rw [List.length_map]; omega) (fun x hx => by have := emb_lens (n := s.length) o3 x hx; omega) (by
          have := lenT_le s.length (l2.map embT) (emb_lens o3)
          rw [List.length_map] at this
          have : s.length * l2.length ≤ 256 * 65 := Nat.mul_le_mul hs256 (by omega)
          omega)
        rw [hj2, ← tkR_emb] at hK
        have hS := fun H => ref_Same_np l l2 hal (by omega) H
        generalize rowT xs = t at *
        first | refine callF_eq (hT2 _) ?_ | refine callG_eq rfl (hT2 _) ?_
        (first | refine au ?_ | exact au0 | fail)
        intro id8 hid8 ht8; have n8 := neAll_of hid8; (try simp only [neAll, neAll_hset] at n8); have m8 := n8; (repeat (obtain ⟨_, m8⟩ := m8))
        (first | refine au ?_ | exact au0 | fail)
        refine ⟨true, by simp [eqCells, over, AV.cells], ?_⟩
        (first | refine au ?_ | exact au0 | fail)
        first | refine callF_eq (hS _) ?_ | refine callG_eq rfl (hS _) ?_
        (first | refine au ?_ | exact au0 | fail)
        first | refine callF_eq (hK.frame _) ?_ | refine callG_eq rfl (hK.frame _) ?_
        (first | refine au ?_ | exact au0 | fail)
        rw [decide_eq_true (rfl : t = t)]
        (first | refine au ?_ | exact au0 | fail)
        first | refine callF_eq (tok_awake_spec _) ?_ | refine callG_eq rfl (tok_awake_spec _) ?_
        (first | refine au ?_ | exact au0 | fail)
        exact fz_of
theorem TokenAgain_row (a0 : AV) (h0 : ∃ n sh, shO true PG n ty_string = some sh ∧ ArgOk false sh a0) : ACalls PG broadsheetlaw14_TokenAgain.n [a0] [] fun r _ => r = .bool true := by
  obtain ⟨s, rfl, q1⟩ := str_arg h0
  exact TokenAgain_spec s q1
end Go.Proofs.YtlmplofpclaokaaDoor

/- The tables that the program's text lays, at the door and behind the condition of the row TokenAgain: PRINTED (wip/tools/tabspec.py). -/
namespace Go.Proofs.YtlmplofpclaokaaDoor
open Go.RowKit
set_option autoImplicit false
set_option linter.unusedVariables false
set_option maxRecDepth 100000
def laidTokenAgain : List (String × DataW Unit) := [("unicode/utf8.acceptRanges", Rows.laid_unicode_utf8_acceptRanges), ("unicode/utf8.first", Rows.laid_unicode_utf8_first)]
theorem max_ofTokenAgain {W : World} (hs : W.ShapedOpen PG) : W.heap.size > maxG ∧ ∃ c, hrow W.heap maxG = some c ∧ ∃ m : Int, c[0]? = some (.int .i64 m) := by
  obtain ⟨m, hm⟩ := cell_of_shapedOpen_int (P := PG) (g := maxG) (t := ty_int) (zero := #[.int .i64 0]) (k := .i64) hs (by decide +kernel) (by kernel_rfl) (by kernel_rfl) (by kernel_rfl) (by kernel_rfl) (by kernel_rfl)
  unfold World.cell? at hm
  cases hh : W.heap[maxG]? with
  | none => rw [hh] at hm; cases hm
  | some o =>
    rw [hh] at hm
    cases o with
    | cells c t f => exact ⟨(Array.getElem?_eq_some_iff.1 hh).1, c, by unfold hrow; show (match W.heap[maxG]? with | some (.cells c _ _) => some c | _ => none) = some c; rw [hh], m, by simpa using hm⟩
    | _ => cases hm
theorem tab_of_laidTokenAgain {W : World} (h : laidMetH PG laidTokenAgain W) (hs : W.ShapedOpen PG) : TabG W.heap fun b => b < W.heap.size := by
  intro x hx
  simp only [tabs, List.mem_cons, List.not_mem_nil, or_false] at hx
  · subst hx; exact max_ofTokenAgain hs
/-- A world in which the listed variables hold what is listed. -/
theorem laid_metTokenAgain (os : Os) (args : Array Value) : laidMetH PG laidTokenAgain ((World.laidAll PG os laidTokenAgain).forCall (fun _ _ => 0) ⟨#[], args, []⟩).memory := by
  rw [MakeChecks.laidMetH_plain _ _ _ (by kernel_rfl)]
  exact laidMet_laidAll args (by kernel_rfl) (by kernel_rfl)
theorem returns_andTokenAgain {H : Type} {enc : TypeId × Value → H} {a : Assume} {C : Checked} {os : Os} {f : FuncId} {fn : Func} {s : ChangeSpec} {conds : List PathCond} {apart fresh handsOn again : Bool} {X : World → Array Value → Prop}
    (hX : ∀ (w w' : World) (args : Array Value), w.heap = w'.heap → X w args → X w' args)
    (own : ownKnob C.prog.godebug = none) (started : os.Started) (noInit : C.prog.inits.idxOf? f = none) (hfn : C.prog.funcs[f]? = some fn)
    (witness : ∃ (w : World) (tape : Tape) (i : Input), w.os = os ∧ (w.forCall tape i).Shaped C.prog ∧ i.vars = [] ∧ Input.okWide C.prog (w.forCall tape i) .any w.heap.size f i ∧
      ((s.pre enc C.prog fn conds apart (w.forCall tape i).memory i.args ∧ X (w.forCall tape i).memory i.args) ∧ sizedMet enc C.prog fn (OpenSpec.ofChange s) apart (w.forCall tape i).memory i.args) ∧ a.holds C.prog (lone (Frame.enter C.prog f i.args .normal) [] (w.forCall tape i)))
    (contract : ∀ (W : World) (base : Nat) (args : Array Value) (ds gs : List (DataW H)) (before : List MemPlace),
      (∀ (j : Nat) t v, fn.params[j]? = some t → args[j]? = some v → Value.okWide C.prog W .any base t v) →
      DataW.Whole enc C.prog fn.params.toList s.vars apart W args.toList ds gs before →
      conds.all (PathCond.test C.prog ⟨fn.params.toList, ds, s.plain.varTypes C.prog, gs⟩) = true →
      (DataW.weightsEach C.prog (fn.params.toList ++ s.plain.varTypes C.prog) (ds ++ gs)).all (· ≤ reachBytes) = true → X W args → W.ShapedOpen C.prog →
      a.holds C.prog (lone (Frame.enter C.prog f args .normal) [] W) →
      Calls C.prog f args W fun e W' => ∃ v, e = .returned v ∧ s.post enc C.prog fn apart fresh handsOn again W args v W') :
    ReturnsInHanded a C os f .any (fun w args => (s.pre enc C.prog fn conds apart w args ∧ X w args) ∧ sizedMet enc C.prog fn (OpenSpec.ofChange s) apart w args) (s.post enc C.prog fn apart fresh handsOn again) := by
  refine returnsInHanded_of_calls own started noInit witness ?_
  intro w tape i _ hsh _ hok hpre hholds
  obtain ⟨_, _, _, fn', hfn', _, _, _, _, hval⟩ := hok
  have e : fn' = fn := Option.some.inj (hfn'.symm.trans hfn)
  subst e
  obtain ⟨⟨⟨ds, gs, before, hw, hc⟩, hx⟩, hz⟩ := hpre
  have hw' := DataW.Whole.of_heap (w' := w.forCall tape i) (by rfl) hw
  refine (contract (w.forCall tape i) w.heap.size i.args ds gs before hval hw' hc (hz.weights hw) (hX _ _ _ (by rfl) hx) hsh hholds).mono fun e W' ⟨v, he, hp⟩ => ?_
  subst he
  exact ChangeSpec.post_blind hp
end Go.Proofs.YtlmplofpclaokaaDoor
