/- How a text in quotes is taken. -/
import Derived.Test.YtlmplofpclaokaaTokTake2
namespace Go.Proofs.Ytlmplofpclaokaa
set_option autoImplicit false
set_option linter.unusedSimpArgs false
set_option linter.unusedVariables false
attribute [local irreducible] callA callP ACalls

theorem Bld.hset {H : AH} {id j : Nat} {ob : Option Nat} {l : List UInt8} {X : Blk} (h : Bld H id ob l) (h1 : j ≠ id) (h2 : ob ≠ some j) : Bld (hset H j X) id ob l := by
  obtain ⟨ht, p, v, hg, hp, hv⟩ := h
  refine ⟨ht, p, v, (hget_set_ne h1.symm).trans hg, hp, ?_⟩
  rcases hv with hv | ⟨idb, q1, q2, q3, q4, q5⟩
  · exact .inl hv
  · exact .inr ⟨idb, q1, q2, (hget_set_ne (fun e => h2 (by rw [q1, e]))).trans q3, q4, q5⟩

/-- What holds while a text is read: i bytes are read, acc is built. -/
structure TI (s : List UInt8) (at' id : Nat) (H : AH) (id2 id3 id4 id5 : Nat) (ob : Option Nat) (i : Nat) (acc : List UInt8) (H' : AH) : Prop where
  g : hget H' id = some (.rows 2 [[.str s, .int .i64 (at' + i : Nat)]])
  g2 : hget H' id2 = some (.rows 4 [[.int .i64 0, .str [], .int .u64 0, .int .i64 0]])
  g3 : hget H' id3 = some (.rows 2 [[.int .i64 0, .int .i64 0]])
  g4 : hget H' id4 = some (.rows 4 [[.int .i64 3, .str [], .int .u64 0, .int .i64 at']])
  b : Bld H' id5 ob acc
  n2 : id ≠ id2
  n3 : id ≠ id3
  n4 : id ≠ id4
  n5 : id ≠ id5
  n23 : id2 ≠ id3
  n24 : id2 ≠ id4
  n25 : id2 ≠ id5
  n34 : id3 ≠ id4
  n35 : id3 ≠ id5
  n45 : id4 ≠ id5
  o : ob ≠ some id
  o2 : ob ≠ some id2
  o3 : ob ≠ some id3
  o4 : ob ≠ some id4
  k : ∀ j b, j ≠ id → hget H j = some b → hget H' j = some b ∧ j ≠ id2 ∧ j ≠ id3 ∧ j ≠ id4 ∧ j ≠ id5 ∧ ob ≠ some j

theorem TI.step {s : List UInt8} {at' id : Nat} {H : AH} {id2 id3 id4 id5 : Nat} {ob : Option Nat} {i i' : Nat} {acc : List UInt8} {H' : AH} (h : TI s at' id H id2 id3 id4 id5 ob i acc H'):
    TI s at' id H id2 id3 id4 id5 ob i' acc (hset H' id (.rows 2 [[.str s, .int .i64 (at' + i' : Nat)]])) :=
  { h with
    g := hget_set h.g
    g2 := (hget_set_ne h.n2.symm).trans h.g2
    g3 := (hget_set_ne h.n3.symm).trans h.g3
    g4 := (hget_set_ne h.n4.symm).trans h.g4
    b := h.b.hset h.n5 h.o
    k := fun j b q r => ⟨(hget_set_ne q).trans (h.k j b q r).1, (h.k j b q r).2⟩ }
theorem TI.write {s : List UInt8} {at' id : Nat} {H : AH} {id2 id3 id4 id5 : Nat} {ob : Option Nat} {i : Nat} {acc : List UInt8} {H' H2 : AH} {c : UInt8} {idb : Nat} (h : TI s at' id H id2 id3 id4 id5 ob i acc H')
    (h1 : Bld H2 id5 (some idb) (acc ++ [c])) (h2 : hget H' idb = none ∨ ob = some idb) (h3 : ∀ j b, j ≠ id5 → ob ≠ some j → hget H' j = some b → hget H2 j = some b) : TI s at' id H id2 id3 id4 id5 (some idb) i (acc ++ [c]) H2 := by
  have ne : ∀ j b, ob ≠ some j → hget H' j = some b → (some idb : Option Nat) ≠ some j := by
    intro j b q1 q2 e
    cases e
    rcases h2 with h2 | h2
    · rw [h2] at q2; cases q2
    · exact q1 h2
  exact { h with
    g := h3 _ _ h.n5 h.o h.g
    g2 := h3 _ _ h.n25 h.o2 h.g2
    g3 := h3 _ _ h.n35 h.o3 h.g3
    g4 := h3 _ _ h.n45 h.o4 h.g4
    b := h1
    o := ne _ _ h.o h.g
    o2 := ne _ _ h.o2 h.g2
    o3 := ne _ _ h.o3 h.g3
    o4 := ne _ _ h.o4 h.g4
    k := fun j b q r => let ⟨k1, k2, k3, k4, k5, k6⟩ := h.k j b q r; ⟨h3 _ _ k5 k6 k1, k2, k3, k4, k5, ne _ _ k6 k1⟩ }

theorem qs_step (c : UInt8) (r : List UInt8) (i : Nat) (acc : List UInt8) : qs (c :: r) i acc =
    if c.toNat < 32 ∨ 126 < c.toNat then .odd i else if c = 39 then (if r.take 1 = [39] then qs (r.drop 1) (i + 2) (acc ++ [39]) else .done acc (i + 1)) else qs r (i + 1) (acc ++ [c]) := by
  cases r with
  | nil =>
    simp only [qs, List.take_nil, List.drop_nil]
    rw [if_neg (show ¬ ([] : List UInt8) = [39] from by simp)]
  | cons d r =>
    simp only [qs, List.take_succ_cons, List.take_zero, List.drop_succ_cons, List.drop_zero, List.cons.injEq, and_true]
theorem token_text_spec {s : List UInt8} {at' id : Nat} {H : AH} (hg : hget H id = some (lx s at')) (ha : at' < s.length) (hs : s.length ≤ 140737488351232) :
    ACalls PG token_text.n [.ptr id 2 0 0] H (TkK s at' id H (match qs (s.drop (at' + 1)) 1 [] with
      | .done t n => .tok 3 t 0 n
      | .odd i => .bad 10 i
      | .short => .bad 2 0)) := by
  refine token_text.of rfl (wpF_start ?_)
  (first | refine au ?_ | exact au0 | fail)
  intro id2 hid2 ht2
  (first | refine au ?_ | exact au0 | fail)
  intro id3 hid3 ht3
  have tw := Two.mk' hg hid2 hid3
  generalize ((id3, Blk.rows [AV.int .i64 0, AV.int .i64 0].length [[AV.int .i64 0, AV.int .i64 0]]) :: (id2, Blk.rows [AV.int .i64 0, AV.str [], AV.int .u64 0, AV.int .i64 0].length [[AV.int .i64 0, AV.str [], AV.int .u64 0, AV.int .i64 0]]) :: H) = H1 at *
  have hg1 := tw.keep _ _ hg
  have hg1' : hget H1 id = some (.rows 2 [[.str s, .int .i64 (at' : Nat)]]) := hg1
  have n2 := tw.n2
  have n3 := tw.n3
  have n32 := tw.n32
  have g2 : hget H1 id2 = some (.rows 4 [[.int .i64 0, .str [], .int .u64 0, .int .i64 0]]) := tw.g2
  have g3 : hget H1 id3 = some (.rows 2 [[.int .i64 0, .int .i64 0]]) := tw.g3
  (first | refine au ?_ | exact au0 | fail)
  intro id4 hid4 ht4
  have f4 : id4 ≠ id := hget_ne_of hid4 hg1
  have f42 : id4 ≠ id2 := hget_ne_of hid4 g2
  have f43 : id4 ≠ id3 := hget_ne_of hid4 g3
  (first | refine au ?_ | exact au0 | fail)
  intro id5 hid5 ht5
  have f5 : id5 ≠ id := hget_ne_of hid5 ((hget_tail f4).trans hg1)
  have f52 : id5 ≠ id2 := hget_ne_of hid5 ((hget_tail f42).trans g2)
  have f53 : id5 ≠ id3 := hget_ne_of hid5 ((hget_tail f43).trans g3)
  have f54 : id5 ≠ id4 := hget_ne_of hid5 hget_self
  (first | refine au ?_ | exact au0 | fail)
  have T0 : TI s at' id H id2 id3 id4 id5 none 1 [] ((id5, .rows 2 [[.nilP, .nilS]]) :: (id4, tkB 3 [] 0 at') :: hset H1 id (.rows 2 [[.str s, .int .i64 (at' + 1 : Nat)]])) :=
    { g := (hget_tail f5).trans ((hget_tail f4).trans (hget_set hg1))
      g2 := (hget_tail f52).trans ((hget_tail f42).trans ((hget_set_ne n2).trans g2))
      g3 := (hget_tail f53).trans ((hget_tail f43).trans ((hget_set_ne n3).trans g3))
      g4 := (hget_tail f54).trans hget_self
      b := ⟨ht5, .nilP, .nilS, hget_self, .inl rfl, .inl ⟨rfl, rfl, rfl⟩⟩
      n2 := n2.symm
      n3 := n3.symm
      n4 := f4.symm
      n5 := f5.symm
      n23 := n32.symm
      n24 := f42.symm
      n25 := f52.symm
      n34 := f43.symm
      n35 := f53.symm
      n45 := f54.symm
      o := fun e => by cases e
      o2 := fun e => by cases e
      o3 := fun e => by cases e
      o4 := fun e => by cases e
      k := fun j b q r => by
        have k1 := tw.keep j b r
        have k4 := hget_ne_of hid4 k1
        have k5 := hget_ne_of hid5 ((hget_tail k4).trans k1)
        exact ⟨(hget_tail k5).trans ((hget_tail k4).trans ((hget_set_ne q).trans k1)), (tw.new j b r).1, (tw.new j b r).2, k4.symm, k5.symm, fun e => by cases e⟩ }
  generalize hR : qs (s.drop (at' + 1)) 1 [] = R
  refine ⟨fun n L H' => ∃ (i : Nat) (acc : List UInt8) (ob : Option Nat), n = s.length - (at' + i) ∧ at' + i ≤ s.length ∧ acc.length ≤ i ∧ qs (s.drop (at' + i)) i acc = R ∧
    L = [(0, some (.ptr id 2 0 0)), (2, some (.ptr id2 4 0 0)), (3, some (.ptr id3 2 0 0)), (4, some (.ptr id4 4 0 0)), (5, some (.ptr id5 2 0 0))] ∧ TI s at' id H id2 id3 id4 id5 ob i acc H', ⟨_, _, ?_, ?_, _, 1, [], none, rfl, by omega, by simp, hR, rfl, T0⟩, ?_⟩
  · exact (by repeat (first | exact trivial | refine And.intro (Exists.intro _ (And.intro rfl (Fz.refl _))) ?_))
  · rw [show ((at' + 1 : Nat) : Int) = (at' : Int) + 1 from by omega]
    exact Sub.refl _
  · clear hid2 hid3 hid4 hid5 hg1 hg1' g2 g3 tw T0 hR
    rintro n L H' ⟨i, acc, ob, rfl, hi, hl, hq, rfl, T⟩
    have g := T.g
    have g2 := T.g2
    have g3 := T.g3
    have g4 := T.g4
    (first | refine au ?_ | exact au0 | fail)
    refine bsplit_dec (fun h1 => ?_) (fun h1 => ?_)
    · have hlt : at' + i < s.length := by omega
      have hdr : s.drop (at' + i) = s.getD (at' + i) 0 :: s.drop (at' + i + 1) := drop_at s 0 (at' + i) hlt
      rw [hdr, qs_step] at hq
      (first | refine au ?_ | exact au0 | fail)
      rw [Int.toNat_natCast]
      have gl : hget H' id = some (lx s (at' + i)) := g
      have hdl : (s.drop (at' + i + 1)).length = s.length - (at' + i + 1) := List.length_drop
      generalize s.getD (at' + i) 0 = c at *
      by_cases ho : c.toNat < 32 ∨ 126 < c.toNat
      · rw [if_pos ho] at hq
        subst hq
        refine bsplit_dec (fun e1 => ?_) (fun e1 => ?_)
        · (first | refine au ?_ | exact au0 | fail)
          refine TkK.of_bad rfl (fun j b q r => ?_)
          obtain ⟨k1, k2, k3, k4, k5, k6⟩ := T.k j b q r
          exact hg_of
        · (first | refine au ?_ | exact au0 | fail)
          refine TkK.of_bad rfl (fun j b q r => ?_)
          obtain ⟨k1, k2, k3, k4, k5, k6⟩ := T.k j b q r
          exact hg_of
      · rw [if_neg ho] at hq
        by_cases h39 : c = 39
        · subst h39
          rw [if_pos rfl] at hq
          (first | refine au ?_ | exact au0 | fail)
          refine callF_eq (lexer_rest_spec gl (by omega) hs) ?_
          (first | refine au ?_ | exact au0 | fail)
          refine callF_eq (strings_HasPrefix_spec _ _ _) ?_
          rw [pre2 _ [39, 39] rfl, hdr, show decide (List.take 2 (39 :: List.drop (at' + i + 1) s) = [39, 39]) = decide (List.take 1 (List.drop (at' + i + 1) s) = [39]) from decide_eq_decide.2 (by simp)]
          (first | refine au ?_ | exact au0 | fail)
          refine bsplit_dec (fun h2 => ?_) (fun h2 => ?_)
          · rw [if_pos h2] at hq
            have h2l := congrArg List.length h2
            rw [List.length_take, hdl, List.length_singleton] at h2l
            (first | refine au ?_ | exact au0 | fail)
            refine callF_of ((WriteByte_spec T.b (by omega)).mono fun rr H2 hh => ?_)
            obtain ⟨rfl, idb, b1, b2, b3⟩ := hh
            have T2 := T.write b1 b2 b3
            have g' := T2.g
            (first | refine au ?_ | exact au0 | fail)
            refine ⟨[(0, some (.ptr id 2 0 0)), (2, some (.ptr id2 4 0 0)), (3, some (.ptr id3 2 0 0)), (4, some (.ptr id4 4 0 0)), (5, some (.ptr id5 2 0 0))], _, (by repeat (first | exact trivial | refine And.intro (Exists.intro _ (And.intro rfl (Fz.refl _))) ?_)), Sub.refl _, s.length - (at' + (i + 2)), by omega, i + 2, acc ++ [39], some idb, rfl, by omega, by simp; omega, ?_, rfl, ?_⟩
            · rw [← hq, List.drop_drop]
              rfl
            · have e1 : ((at' + i : Nat) : Int) + 1 = ((at' + (i + 1) : Nat) : Int) := by omega
              have e2 : ((at' + i : Nat) : Int) + 1 + 1 = ((at' + (i + 2) : Nat) : Int) := by omega
              have T4 := (T2.step (i' := i + 1)).step (i' := i + 2)
              rw [← e1, ← e2] at T4
              exact T4
          · rw [if_neg h2] at hq
            subst hq
            have T3 := T.step (i' := i + 1)
            rw [show ((at' + (i + 1) : Nat) : Int) = ((at' + i : Nat) : Int) + 1 from by omega] at T3
            (first | refine au ?_ | exact au0 | fail)
            refine callF_of ((String_spec T3.b (by omega)).mono fun rr H2 hh => ?_)
            obtain ⟨rfl, b3⟩ := hh
            have q1 := b3 _ _ T3.o T3.g
            have q2 := b3 _ _ T3.o2 T3.g2
            have q3 := b3 _ _ T3.o3 T3.g3
            have q4 := b3 _ _ T3.o4 T3.g4
            (first | refine au ?_ | exact au0 | fail)
            refine TkK.of_tok rfl ?_ (fun j b q r => ?_)
            · have e1 : ((at' + i : Nat) : Int) + 1 = ((at' + (i + 1) : Nat) : Int) := by omega
              have q1' : hget H2 id = some (lx s (at' + (i + 1))) := by unfold lx; rw [← e1]; exact q1
              have := T.n2
              have := T.n3
              have := T.n4
              exact hg_of
            · obtain ⟨k1, k2, k3, k4, k5, k6⟩ := T3.k j b q r
              have := b3 _ _ k6 k1
              exact hg_of
        · rw [if_neg h39] at hq
          have hne : c.toNat ≠ 39 := fun e => h39 ((nat_eq c 39 (by decide)).2 e)
          (first | refine au ?_ | exact au0 | fail)
          refine callF_of ((WriteByte_spec T.b (by omega)).mono fun rr H2 hh => ?_)
          obtain ⟨rfl, idb, b1, b2, b3⟩ := hh
          have T2 := T.write b1 b2 b3
          have g' := T2.g
          (first | refine au ?_ | exact au0 | fail)
          refine ⟨[(0, some (.ptr id 2 0 0)), (2, some (.ptr id2 4 0 0)), (3, some (.ptr id3 2 0 0)), (4, some (.ptr id4 4 0 0)), (5, some (.ptr id5 2 0 0))], _, (by repeat (first | exact trivial | refine And.intro (Exists.intro _ (And.intro rfl (Fz.refl _))) ?_)), Sub.refl _, s.length - (at' + (i + 1)), by omega, i + 1, acc ++ [c], some idb, rfl, by omega, by simp; omega, hq, rfl, ?_⟩
          have e1 : ((at' + i : Nat) : Int) + 1 = ((at' + (i + 1) : Nat) : Int) := by omega
          have T4 := T2.step (i' := i + 1)
          rw [← e1] at T4
          exact T4
    · have hnil : s.drop (at' + i) = [] := List.drop_eq_nil_of_le (by omega)
      rw [hnil] at hq
      subst hq
      (first | refine au ?_ | exact au0 | fail)
      refine TkK.of_bad rfl (fun j b q r => ?_)
      obtain ⟨k1, k2, k3, k4, k5, k6⟩ := T.k j b q r
      exact hg_of
end Go.Proofs.Ytlmplofpclaokaa
