/- All tokens, as the reference takes them. -/
import Derived.Test.YtlmplofpclaokaaTokRef5
namespace Go.Proofs.Ytlmplofpclaokaa
set_option autoImplicit false
set_option linter.unusedSimpArgs false
set_option linter.unusedVariables false
attribute [local irreducible] callA callP ACalls

structure TS2 (id3 : Nat) (v : AV) (l : List (Int × List UInt8 × Nat × Nat)) (H : AH) : Prop where
  g3 : hget H id3 = some (.rows 2 [[.int .i64 0, .int .i64 0]])
  s : OwnS H 48 4 v (l.map tkR)
  len : l.length ≤ 64
theorem TS2.own {id3 : Nat} {v : AV} {l : List (Int × List UInt8 × Nat × Nat)} {H : AH} (h : TS2 id3 v l H) : (v = .nilS ∧ l = []) ∨ ∃ id, v = .own id 4 0 l.length ∧ hget H id = some (.rows 4 (l.map tkR)) ∧ tag id = 48 ∧ 0 < l.length ∧ id ≠ id3 := by
  rcases h.s.or with ⟨q1, q2⟩ | ⟨id, q1, q2, q3, q4⟩
  · exact .inl ⟨q1, by simpa using q2⟩
  · refine .inr ⟨id, by rw [q1, List.length_map], q2, q3, by simpa using q4, fun e => ?_⟩
    rw [e, h.g3] at q2; cases q2

set_option maxHeartbeats 4000000 in
theorem ref_Tokens_spec0 {s : List UInt8} (hs : s.length ≤ 140737488351232) : ACalls PG broadsheetref14_Tokens.n [.str s] [] (TokO (tokens s)) := by
  refine broadsheetref14_Tokens.of rfl (wpF_start ?_)
  unfold tokens
  (first | refine au ?_ | exact au0 | fail)
  intro id3 hid3 ht3
  (first | refine au ?_ | exact au0 | fail)
  refine bsplit_dec (fun e1 => ?_) (fun e1 => ?_)
  · (first | refine au ?_ | exact au0 | fail)
    rw [if_pos (by omega)]
    exact TokO.of_bad rfl
  · rw [if_neg (by omega)]
    have hle : s.length ≤ 256 := by omega
    (first | refine au ?_ | exact au0 | fail)
    generalize hR : tks s 0 0 = R
    refine ⟨fun n L H' => ∃ (a : Nat) (v : AV) (l : List (Int × List UInt8 × Nat × Nat)), n = s.length - a ∧ a ≤ s.length ∧ TR.pre l (tks s a l.length) = R ∧ L = [(0, some (.str s)), (3, some (.ptr id3 2 0 0)), (4, some v), (5, some (.int .i64 a))] ∧ TS2 id3 v l H',
      ⟨_, _, ?_, Sub.refl _, _, 0, .nilS, [], rfl, Nat.zero_le _, (TR.pre_nil _).trans hR, rfl, ?_⟩, ?_⟩
    · exact (by repeat (first | exact trivial | refine And.intro (Exists.intro _ (And.intro rfl (Fz.refl _))) ?_))
    · exact ⟨hget_self, ⟨.inl ⟨rfl, rfl⟩⟩, by simp⟩
    · clear hid3 hR
      rintro n L H1 ⟨a, v, l, rfl, ha, hR, rfl, T1⟩
      have g3 := T1.g3
      have len := T1.len
      (first | refine au ?_ | exact au0 | fail)
      refine bsplit_dec (fun e2 => ?_) (fun e2 => ?_)
      · have hlt : a < s.length := by omega
        rw [tks_eq hlt] at hR
        have hbi := blnk_iff (s.getD a 0)
        have hge : s.getD (a : Int).toNat 0 = s.getD a 0 := by rw [Int.toNat_natCast]
        cases hb : blnk (s.getD a 0) with
        | true =>
          rw [hb, if_pos rfl] at hR
          have hb' := hbi.1 hb
          rw [← hge] at hb'
          rcases hb' with hb' | hb' | hb' | hb'
          all_goals
            (first | refine au ?_ | exact au0 | fail)
            exact ⟨[(0, some (.str s)), (3, some (.ptr id3 2 0 0)), (4, some v), (5, some (.int .i64 (a + 1 : Nat)))], H1, (by repeat (first | exact trivial | refine And.intro (Exists.intro _ (And.intro rfl (Fz.refl _))) ?_)), Sub.refl _, s.length - (a + 1), by omega, a + 1, v, l, rfl, by omega, hR, rfl, T1⟩
        | false =>
          rw [hb, if_neg (by decide)] at hR
          have hb' := mt hbi.2 (by rw [hb]; decide)
          rw [← hge] at hb'
          (first | refine au ?_ | exact au0 | fail)
          refine callF_of ((ref_one_spec s a hlt (by omega) _).mono fun rr H2 hh => ?_)
          obtain ⟨hh, rfl⟩ := hh
          cases hx : lex (s.drop a) with
          | bad e off =>
            obtain ⟨k, t, num, ap, m, rfl⟩ := hh.bad e off hx
            have := lex_err hx
            rw [hx] at hR
            subst hR
            (first | refine au ?_ | exact au0 | fail)
            intro id7 hid7 ht7
            (first | refine au ?_ | exact au0 | fail)
            intro id8 hid8 ht8
            have n73 := hget_ne_of hid7 g3
            have n83 := hget_ne_of hid8 ((hget_tail n73).trans g3)
            have n87 := (hget_fresh hid8).1
            (first | refine au ?_ | exact au0 | fail)
            exact TokO.of_bad rfl
          | tok k t num m =>
            obtain rfl := hh.tok k t num m hx
            have bd := lex_bound hx
            rw [List.length_drop] at bd
            rw [hx] at hR
            (first | refine au ?_ | exact au0 | fail)
            intro id7 hid7 ht7
            (first | refine au ?_ | exact au0 | fail)
            intro id8 hid8 ht8
            have n73 := hget_ne_of hid7 g3
            have n83 := hget_ne_of hid8 ((hget_tail n73).trans g3)
            have n87 := (hget_fresh hid8).1
            replace hR : TR.pre l (if l.length = 64 then TR.bad 3 a else TR.pre [(k, t, num, a)] (tks s (a + m) (l.length + 1))) = R := hR
            by_cases h64 : l.length = 64
            · rw [if_pos h64] at hR
              subst hR
              rcases T1.own with ⟨rfl, rfl⟩ | ⟨ids, rfl, gs, ts, pos, ns3⟩
              · cases h64
              · (first | refine au ?_ | exact au0 | fail)
                exact TokO.of_bad rfl
            · rw [if_neg h64, TR.pre_pre] at hR
              have hln : (l ++ [(k, t, num, a)]).length = l.length + 1 := by simp
              rw [← hln] at hR
              rcases T1.own with ⟨rfl, rfl⟩ | ⟨ids, rfl, gs, ts, pos, ns3⟩
              · (first | refine au ?_ | exact au0 | fail)
                refine ⟨_, rfl, by simp, (fun e => by cases e), fun _ => ?_⟩
                intro idn hidn htn
                (first | refine au ?_ | exact au0 | fail)
                have q8 := (hget_fresh hidn)
                have q7 := (hget_fresh q8.2)
                have m3 := hget_ne_of q7.2 g3
                refine ⟨[(0, some (.str s)), (3, some (.ptr id3 2 0 0)), (4, some (.own idn 4 0 1)), (5, some (.int .i64 (a + m : Nat)))], _, (by repeat (first | exact trivial | refine And.intro (Exists.intro _ (And.intro rfl (Fz.refl _))) ?_)), Sub.refl _, _, ?_, a + m, _, _, rfl, by omega, hR, rfl, ?_⟩
                · omega
                · exact ⟨by exact hg_of, ⟨.inr ⟨idn, rfl, hget_self, htn, by simp⟩⟩, by simp⟩
              · have exs : (((l.map tkR).take l.length).drop 0) = l.map tkR := by rw [List.drop_zero, show l.length = (l.map tkR).length from by simp, List.take_length]
                have n7s := hget_ne_of hid7 gs
                have n8s := hget_ne_of hid8 ((hget_tail n7s).trans gs)
                (first | refine au ?_ | exact au0 | fail)
                refine ⟨_, _, (readS_own (by exact hg_of) (by simp)).trans (congrArg some exs), rfl, rfl, rfl, ts, by simp; omega, ?_⟩
                intro idn hidn htn
                have m3 : idn ≠ id3 := hget_ne_of hidn (show hget _ id3 = some (.rows 2 [[.int .i64 0, .int .i64 0]]) by exact hg_of)
                (first | refine au ?_ | exact au0 | fail)
                refine ⟨[(0, some (.str s)), (3, some (.ptr id3 2 0 0)), (4, some (.own idn 4 0 ((l.map tkR).length + 1))), (5, some (.int .i64 (a + m : Nat)))], _, (by repeat (first | exact trivial | refine And.intro (Exists.intro _ (And.intro rfl (Fz.refl _))) ?_)), Sub.refl _, _, ?_, a + m, _, _, rfl, by omega, hR, rfl, ?_⟩
                · omega
                · exact ⟨by exact hg_of, ⟨.inr ⟨idn, by simp, by rw [List.map_append]; exact hget_self, htn, by simp⟩⟩, by simp; omega⟩
      · rw [tks_end (by omega)] at hR
        subst hR
        rcases T1.own with ⟨rfl, rfl⟩ | ⟨ids, rfl, gs, ts, pos, ns3⟩
        · obtain rfl : a = s.length := by omega
          (first | refine au ?_ | exact au0 | fail)
          refine ⟨_, rfl, by simp, (fun e => by cases e), fun _ => ?_⟩
          intro idn hidn htn
          have nn3 := hget_ne_of hidn g3
          (first | refine au ?_ | exact au0 | fail)
          exact TokO.of_ok (l := [(6, [], 0, s.length)]) rfl hget_self
        · obtain rfl : a = s.length := by omega
          have exs : (((l.map tkR).take l.length).drop 0) = l.map tkR := by rw [List.drop_zero, show l.length = (l.map tkR).length from by simp, List.take_length]
          (first | refine au ?_ | exact au0 | fail)
          refine ⟨_, _, (readS_own gs (by simp)).trans (congrArg some exs), rfl, rfl, rfl, ts, by simp; omega, ?_⟩
          intro idn hidn htn
          have nn3 := hget_ne_of hidn g3
          (first | refine au ?_ | exact au0 | fail)
          refine TokO.of_ok (l := l ++ [(6, [], 0, s.length)]) (id := idn) ?_ ?_
          · have hln : (l ++ [((6 : Int), ([] : List UInt8), 0, s.length)]).length = (l.map tkR).length + 1 := by simp
            rw [hln]
            rfl
          · rw [List.map_append]
            exact hget_self
end Go.Proofs.Ytlmplofpclaokaa
