/- What Tokens computes. -/
import Derived.Test.YtlmplofpclaokaaTokNext
import Derived.Test.YtlmplofpclaokaaTokLex
namespace Go.Proofs.Ytlmplofpclaokaa
set_option autoImplicit false
set_option linter.unusedSimpArgs false
set_option linter.unusedVariables false
attribute [local irreducible] callA callP ACalls

/-- A slice that is owned, or nil. -/
structure OwnS (H : AH) (T sz : Nat) (v : AV) (l : List (List AV)) : Prop where
  or : (v = .nilS ∧ l = []) ∨ ∃ id, v = .own id sz 0 l.length ∧ hget H id = some (.rows sz l) ∧ tag id = T ∧ 0 < l.length
abbrev tkR (x : Int × List UInt8 × Nat × Nat) : List AV := [.int .i64 x.1, .str x.2.1, .int .u64 (x.2.2.1 : Nat), .int .i64 (x.2.2.2 : Nat)]
theorem tkR_len (l : List (Int × List UInt8 × Nat × Nat)) : ∀ (i : Nat) r, (l.map tkR)[i]? = some r → r.length = 4 := by
  intro i r h
  rw [List.getElem?_map] at h
  cases hh : l[i]? with
  | none => rw [hh] at h; cases h
  | some x => rw [hh] at h; simp at h; rw [← h]; rfl

structure TS (s : List UInt8) (id3 id4 at' : Nat) (v : AV) (l : List (Int × List UInt8 × Nat × Nat)) (H : AH) : Prop where
  g4 : hget H id4 = some (.rows 2 [[.str s, .int .i64 (at' : Nat)]])
  g3 : hget H id3 = some (.rows 2 [[.int .i64 0, .int .i64 0]])
  n : id3 ≠ id4
  s : OwnS H 48 4 v (l.map tkR)
  len : l.length ≤ 64
theorem TS.own {s : List UInt8} {id3 id4 at' : Nat} {v : AV} {l : List (Int × List UInt8 × Nat × Nat)} {H : AH} (h : TS s id3 id4 at' v l H) : (v = .nilS ∧ l = []) ∨ ∃ id, v = .own id 4 0 l.length ∧ hget H id = some (.rows 4 (l.map tkR)) ∧ tag id = 48 ∧ 0 < l.length ∧ id ≠ id3 ∧ id ≠ id4 := by
  rcases h.s.or with ⟨q1, q2⟩ | ⟨id, q1, q2, q3, q4⟩
  · exact .inl ⟨q1, by simpa using q2⟩
  · refine .inr ⟨id, by rw [q1, List.length_map], q2, q3, by simpa using q4, fun e => ?_, fun e => ?_⟩
    · rw [e, h.g3] at q2; cases q2
    · rw [e, h.g4] at q2; cases q2
theorem TS.step {s : List UInt8} {id3 id4 at' b' : Nat} {v : AV} {l : List (Int × List UInt8 × Nat × Nat)} {H : AH} (h : TS s id3 id4 at' v l H) : TS s id3 id4 b' v l (hset H id4 (.rows 2 [[.str s, .int .i64 (b' : Nat)]])) := by
  refine ⟨hget_set h.g4, (hget_set_ne h.n).trans h.g3, h.n, ⟨?_⟩, h.len⟩
  rcases h.own with ⟨q1, q2⟩ | ⟨id, q1, q2, q3, q4, q5, q6⟩
  · exact .inl ⟨q1, by rw [q2]; rfl⟩
  · exact .inr ⟨id, by rw [q1, List.length_map], (hget_set_ne q6).trans q2, q3, by simpa using q4⟩

/-- What Tokens hands back. -/
structure TokR (R : TR) (r : AV) : Prop where
  ok : ∀ l, R = .ok l → r = .tup [.rows 4 (l.map tkR), fltA 0 0]
  bad : ∀ e p, R = .bad e p → r = .tup [.nilS, fltA e (p : Nat)]
/-- .. what is owned told. -/
structure TokO (R : TR) (r : AV) (H : AH) : Prop where
  ok : ∀ l, R = .ok l → ∃ id, r = .tup [.own id 4 0 l.length, fltA 0 0] ∧ hget H id = some (.rows 4 (l.map tkR))
  bad : ∀ e p, R = .bad e p → r = .tup [.nilS, fltA e (p : Nat)]
theorem TokO.of_bad {e : Int} {p : Nat} {r : AV} {H : AH} (h : r = .tup [.nilS, fltA e (p : Nat)]) : TokO (.bad e p) r H := ⟨(fun _ q => by cases q), fun e p q => by cases q; exact h⟩
theorem TokO.of_ok {l : List (Int × List UInt8 × Nat × Nat)} {r : AV} {H : AH} {id : Nat} (h : r = .tup [.own id 4 0 l.length, fltA 0 0]) (h2 : hget H id = some (.rows 4 (l.map tkR))) : TokO (.ok l) r H :=
  ⟨fun _ q => by cases q; exact ⟨id, h, h2⟩, fun _ _ q => by cases q⟩

def bl (s : List UInt8) (a : Nat) : Nat := ((s.drop a).takeWhile blnk).length
theorem bl_step {s : List UInt8} {a i : Nat} (hi : i ≤ bl s a) (h : a + i < s.length) : i < bl s a ↔ blnk (s.getD (a + i) 0) = true := by
  have := tw_step (f := blnk) (r := s.drop a) (n := i) hi (by rw [List.length_drop]; omega)
  rw [show (s.drop a).getD i 0 = s.getD (a + i) 0 from by simp [List.getD]] at this
  exact this
theorem bl_stop (s : List UInt8) (a : Nat) : a + bl s a < s.length → blnk (s.getD (a + bl s a) 0) = false := fun h => by
  have := bl_step (Nat.le_refl (bl s a)) h
  cases hh : blnk (s.getD (a + bl s a) 0) with
  | false => rfl
  | true => exact absurd (this.2 hh) (Nat.lt_irrefl _)
theorem tks_skip (s : List UInt8) (a n : Nat) : tks s a n = tks s (a + bl s a) n := by
  have key : ∀ i, i ≤ bl s a → tks s a n = tks s (a + i) n := by
    intro i
    induction i with
    | zero => intro _; rfl
    | succ i ih =>
      intro h
      rw [ih (by omega)]
      have hl : a + i < s.length := by
        have := (List.takeWhile_prefix (l := s.drop a) blnk).length_le
        rw [List.length_drop] at this
        unfold bl at h
        omega
      rw [tks_eq hl, if_pos ((bl_step (by omega) hl).1 (by omega))]
      rfl
  exact key _ (Nat.le_refl _)
set_option maxHeartbeats 1000000 in
theorem Tokens_spec0 {s : List UInt8} (hs : s.length ≤ 140737488351232) : ACalls PG token_Tokens.n [.str s] [] (TokO (tokens s)) := by
  refine token_Tokens.of rfl (wpF_start ?_)
  unfold tokens
  (first | refine au ?_ | exact au0 | fail)
  intro id3 hid3 ht3
  (first | refine au ?_ | exact au0 | fail)
  refine bsplit_dec (fun e1 => ?_) (fun e1 => ?_)
  · (first | refine au ?_ | exact au0 | fail)
    rw [if_pos (by omega)]
    exact TokO.of_bad rfl
  · rw [if_neg (by omega)]
    have hle : s.length ≤ 256 := by omega
    (first | refine au ?_ | exact au0 | fail)
    intro id4 hid4 ht4
    have n34 : id3 ≠ id4 := (hget_fresh hid4).1.symm
    (first | refine au ?_ | exact au0 | fail)
    generalize hR : tks s 0 0 = R
    refine ⟨fun n L H' => ∃ (a : Nat) (v : AV) (l : List (Int × List UInt8 × Nat × Nat)), n = s.length - a ∧ a ≤ s.length ∧ TR.pre l (tks s a l.length) = R ∧ L = [(0, some (.str s)), (3, some (.ptr id3 2 0 0)), (4, some (.ptr id4 2 0 0)), (5, some v)] ∧ TS s id3 id4 a v l H',
      ⟨_, _, ?_, Sub.refl _, _, 0, .nilS, [], rfl, Nat.zero_le _, (TR.pre_nil _).trans hR, rfl, ?_⟩, ?_⟩
    · exact (by repeat (first | exact trivial | refine And.intro (Exists.intro _ (And.intro rfl (Fz.refl _))) ?_))
    · exact ⟨hget_self, (hget_tail n34.symm).trans hget_self, n34, ⟨.inl ⟨rfl, rfl⟩⟩, by simp⟩
    · clear hid3 hid4 hR
      rintro n L H' ⟨a, v, l, rfl, ha, hR, rfl, T⟩
      have g4 := T.g4
      have hbl : bl s a ≤ s.length - a := by
        have := (List.takeWhile_prefix (l := s.drop a) blnk).length_le
        rw [List.length_drop] at this
        exact this
      (first | refine ab ?_ | exact ab0 | fail)
      refine .inr ⟨[(0, some (.str s)), (3, some (.ptr id3 2 0 0)), (4, some (.ptr id4 2 0 0)), (5, some v)], hset H' id4 (.rows 2 [[.str s, .int .i64 (a + bl s a : Nat)]]), ?_, ?_⟩
      · (first | refine au ?_ | exact au0 | fail)
        refine ⟨fun n L H'' => ∃ i, n = bl s a - i ∧ i ≤ bl s a ∧ L = [(0, some (.str s)), (3, some (.ptr id3 2 0 0)), (4, some (.ptr id4 2 0 0)), (5, some v)] ∧ H'' = hset H' id4 (.rows 2 [[.str s, .int .i64 (a + i : Nat)]]), ⟨_, hset H' id4 (.rows 2 [[.str s, .int .i64 (a + 0 : Nat)]]), ?_, sub_hset g4 (fun _ _ _ q => q), _, 0, rfl, Nat.zero_le _, rfl, rfl⟩, ?_⟩
        · exact (by repeat (first | exact trivial | refine And.intro (Exists.intro _ (And.intro rfl (Fz.refl _))) ?_))
        · rintro n L H'' ⟨i, rfl, hi, rfl, rfl⟩
          have g : hget (hset H' id4 (.rows 2 [[.str s, .int .i64 (a + i : Nat)]])) id4 = some (.rows 2 [[.str s, .int .i64 (a + i : Nat)]]) := hget_set g4
          have hst := bl_step (s := s) (a := a) (i := i) hi
          (first | refine au ?_ | exact au0 | fail)
          refine bsplit_dec (fun e2 => ?_) (fun e2 => ?_)
          · (first | refine au ?_ | exact au0 | fail)
            refine callF_eq (token_blank_spec _ _) ?_
            rw [Int.toNat_natCast, show blnk (s.getD (a + i) 0) = decide (i < bl s a) from bool_iff (hst (by omega)).symm]
            (first | refine au ?_ | exact au0 | fail)
            refine bsplit_dec (fun e3 => ?_) (fun e3 => ?_)
            · (first | refine au ?_ | exact au0 | fail)
              refine ⟨[(0, some (.str s)), (3, some (.ptr id3 2 0 0)), (4, some (.ptr id4 2 0 0)), (5, some v)], hset H' id4 (.rows 2 [[.str s, .int .i64 (a + (i + 1) : Nat)]]), (by repeat (first | exact trivial | refine And.intro (Exists.intro _ (And.intro rfl (Fz.refl _))) ?_)), ?_, _, ?_, i + 1, rfl, by omega, rfl, rfl⟩
              · rw [show ((a + (i + 1) : Nat) : Int) = ((a + i : Nat) : Int) + 1 from by omega]
                exact sub_hset (hget_set g) (fun j c q1 q2 => (hget_set_ne q1).trans ((hget_set_ne q1).trans q2))
              · omega
            · (first | refine au ?_ | exact au0 | fail)
              obtain rfl : i = bl s a := by omega
              exact ⟨(by repeat (first | exact trivial | refine And.intro (Exists.intro _ (And.intro rfl (Fz.refl _))) ?_)), Sub.refl _⟩
          · (first | refine au ?_ | exact au0 | fail)
            obtain rfl : i = bl s a := by omega
            exact ⟨(by repeat (first | exact trivial | refine And.intro (Exists.intro _ (And.intro rfl (Fz.refl _))) ?_)), Sub.refl _⟩
      · rw [tks_skip] at hR
        have hnb := bl_stop s a
        have ha' : a + bl s a ≤ s.length := by omega
        have T1 := T.step (b' := a + bl s a)
        have hle1 : a ≤ a + bl s a := Nat.le_add_right _ _
        generalize a + bl s a = a1 at *
        generalize hset H' id4 (.rows 2 [[.str s, .int .i64 (a1 : Nat)]]) = H1 at *
        clear T g4
        have g4 := T1.g4
        have g3 := T1.g3
        (first | refine au ?_ | exact au0 | fail)
        refine bsplit_dec (fun e2 => ?_) (fun e2 => ?_)
        · rw [tks_end (by omega)] at hR
          subst hR
          rcases T1.own with ⟨rfl, rfl⟩ | ⟨ids, rfl, gs, ts, pos, ns3, ns4⟩
          · obtain rfl : a1 = s.length := by omega
            (first | refine au ?_ | exact au0 | fail)
            refine ⟨_, rfl, by simp, (fun e => by cases e), fun _ => ?_⟩
            intro idn hidn htn
            have nn3 := hget_ne_of hidn g3
            (first | refine au ?_ | exact au0 | fail)
            exact TokO.of_ok (l := [(6, [], 0, s.length)]) rfl hget_self
          · obtain rfl : a1 = s.length := by omega
            have len := T1.len
            have exs : (((l.map tkR).take l.length).drop 0) = l.map tkR := by rw [List.drop_zero, show l.length = (l.map tkR).length from by simp, List.take_length]
            (first | refine au ?_ | exact au0 | fail)
            refine ⟨_, _, (readS_own gs (by simp)).trans (congrArg some exs), rfl, rfl, rfl, ts, by simp; omega, ?_⟩
            intro idn hidn htn
            have nn3 := hget_ne_of hidn g3
            (first | refine au ?_ | exact au0 | fail)
            refine TokO.of_ok (l := l ++ [(6, [], 0, s.length)]) (id := idn) ?_ ?_
            · have hln : (l ++ [((6 : Int), ([] : List UInt8), 0, s.length)]).length = (l.map tkR).length + 1 := by simp
              rw [hln]
              rfl
            · rw [List.map_append]
              exact hget_self
        · have hlt : a1 < s.length := by omega
          rw [tks_eq hlt, hnb hlt, if_neg (by decide)] at hR
          (first | refine au ?_ | exact au0 | fail)
          refine callF_of ((lexer_next_spec (s := s) (at' := a1) g4 hlt hs).mono fun rr H2 hh => ?_)
          have k3 := hh.keep id3 _ n34 g3
          cases hx : lex (s.drop a1) with
          | bad e off =>
            obtain ⟨k, t, num, ap, rfl⟩ := hh.bad e off hx
            have := lex_err hx
            rw [hx] at hR
            subst hR
            (first | refine au ?_ | exact au0 | fail)
            intro id7 hid7 ht7
            (first | refine au ?_ | exact au0 | fail)
            intro id8 hid8 ht8
            have n73 := hget_ne_of hid7 k3
            have n83 := hget_ne_of hid8 ((hget_tail n73).trans k3)
            have n87 := (hget_fresh hid8).1
            (first | refine au ?_ | exact au0 | fail)
            exact TokO.of_bad rfl
          | tok k t num m =>
            obtain ⟨rfl, g4n⟩ := hh.tok k t num m hx
            have bd := lex_bound hx
            rw [List.length_drop] at bd
            rw [hx] at hR
            (first | refine au ?_ | exact au0 | fail)
            intro id7 hid7 ht7
            (first | refine au ?_ | exact au0 | fail)
            intro id8 hid8 ht8
            have n73 := hget_ne_of hid7 k3
            have n83 := hget_ne_of hid8 ((hget_tail n73).trans k3)
            have n87 := (hget_fresh hid8).1
            have n74 := hget_ne_of hid7 g4n
            have n84 := hget_ne_of hid8 ((hget_tail n74).trans g4n)
            have len := T1.len
            replace hR : TR.pre l (if l.length = 64 then TR.bad 3 a1 else TR.pre [(k, t, num, a1)] (tks s (a1 + m) (l.length + 1))) = R := hR
            by_cases h64 : l.length = 64
            · rw [if_pos h64] at hR
              subst hR
              rcases T1.own with ⟨rfl, rfl⟩ | ⟨ids, rfl, gs, ts, pos, ns3, ns4⟩
              · cases h64
              · (first | refine au ?_ | exact au0 | fail)
                exact TokO.of_bad rfl
            · rw [if_neg h64, TR.pre_pre] at hR
              have hln : (l ++ [(k, t, num, a1)]).length = l.length + 1 := by simp
              rw [← hln] at hR
              rcases T1.own with ⟨rfl, rfl⟩ | ⟨ids, rfl, gs, ts, pos, ns3, ns4⟩
              · (first | refine au ?_ | exact au0 | fail)
                refine ⟨_, rfl, by simp, (fun e => by cases e), fun _ => ?_⟩
                intro idn hidn htn
                (first | refine au ?_ | exact au0 | fail)
                refine ⟨[(0, some (.str s)), (3, some (.ptr id3 2 0 0)), (4, some (.ptr id4 2 0 0)), (5, some (.own idn 4 0 1))], _, (by repeat (first | exact trivial | refine And.intro (Exists.intro _ (And.intro rfl (Fz.refl _))) ?_)), Sub.refl _, _, ?_, a1 + m, _, _, rfl, by omega, hR, rfl, ?_⟩
                · omega
                · have q8 := (hget_fresh hidn)
                  have q7 := (hget_fresh q8.2)
                  have m4 := hget_ne_of q7.2 g4n
                  have m3 := hget_ne_of q7.2 k3
                  exact ⟨by exact hg_of, by exact hg_of, n34, ⟨.inr ⟨idn, rfl, hget_self, htn, by simp⟩⟩, by simp⟩
              · have exs : (((l.map tkR).take l.length).drop 0) = l.map tkR := by rw [List.drop_zero, show l.length = (l.map tkR).length from by simp, List.take_length]
                have gs2 := hh.keep ids _ ns4 gs
                have n7s := hget_ne_of hid7 gs2
                have n8s := hget_ne_of hid8 ((hget_tail n7s).trans gs2)
                (first | refine au ?_ | exact au0 | fail)
                refine ⟨_, _, (readS_own (by exact hg_of) (by simp)).trans (congrArg some exs), rfl, rfl, rfl, ts, by simp; omega, ?_⟩
                intro idn hidn htn
                have q0 : ∀ j b, j ≠ ids → j ≠ id7 → j ≠ id8 → hget H2 j = some b → idn ≠ j := fun j b r1 r2 r3 r4 => hget_ne_of hidn (show hget _ j = some b by exact hg_of)
                (first | refine au ?_ | exact au0 | fail)
                have m4 := q0 id4 _ ns4.symm n74.symm n84.symm g4n
                have m3 := q0 id3 _ ns3.symm n73.symm n83.symm k3
                refine ⟨[(0, some (.str s)), (3, some (.ptr id3 2 0 0)), (4, some (.ptr id4 2 0 0)), (5, some (.own idn 4 0 ((l.map tkR).length + 1)))], _, (by repeat (first | exact trivial | refine And.intro (Exists.intro _ (And.intro rfl (Fz.refl _))) ?_)), Sub.refl _, _, ?_, a1 + m, _, _, rfl, by omega, hR, rfl, ?_⟩
                · omega
                · exact ⟨by exact hg_of, by exact hg_of, n34, ⟨.inr ⟨idn, by simp, by rw [List.map_append]; exact hget_self, htn, by simp⟩⟩, by simp; omega⟩
end Go.Proofs.Ytlmplofpclaokaa
