/- Texts of this proof, one behind the other: PathRound, PathFind, PathRMath, SimShelf, TokSpec, TokBld, TokTake, TokTake2, TokText, TokNext, TokLex, TokTokens, TokRefMath, PathRFind, ExprSpec, ExprSpec2, CodeC, CheckSpec, ExprTest, ExprSpec3, ExprRefMath, ExprWt, TokRef5, TokRef6, TokLaw, ExprParse, ExprSizeSpec, CheckTree, CheckTree2, RCheck, CheckDatum, RFitSpec3, PathAtMath2, PathAt, PathRAt, TruthMath3. -/
import Derived.Test.YtjaigpidmngaaaaGreatPkT4
import Derived.Below
import Derived.KernelRfl
set_option autoImplicit false
set_option linter.unusedSimpArgs false
set_option linter.unusedVariables false
namespace Go.Proofs.YtjaigpidmngaaaaGreat
attribute [local irreducible] callA callP ACalls
theorem path_pieces_spec (s : List UInt8) (H : AH) : ACalls PG path_pieces.n [.str s] H fun r H' => ∃ id, r = .clo path_pieces_1.n [] [.ptr id 1 0 0] ∧ hget H id = none ∧ tag id = ty_string ∧ H' = (id, .rows 1 [[.str s]]) :: H := by
  refine path_pieces.of rfl (wpF_start ?_)
  (first | refine au ?_ | exact au0)
  intro id1 hid1 ht1; have n1 := neAll_of hid1; (try simp only [neAll, neAll_hset] at n1); have m1 := n1; (repeat (obtain ⟨_, m1⟩ := m1))
  (first | refine au ?_ | exact au0)
  exact ⟨id1, rfl, hid1, ht1, rfl⟩
abbrev findA (x : List (Bool × Nat) × Int × Int) : AV := .tup [.rows 2 (x.1.map spR), .int .i64 x.2.1, .int .i64 x.2.2]
theorem of_bodyG {ps : List Nat} {a b : Code} {fl : List Nat} {N lid : Nat} {L : FL} {fr : Nat → Option AV} {ca cb : C} {args : List AV} {H : AH} {K : AV → AH → Prop} (hm : PG.follows .mixedOrders = true) (ha : comp PG fl a = ca) (hb : comp PG fl b = cb) (hfr : frm L = fr)
    (hd : (dstsOk N ca && dstsOk N cb && ps.all fun p => decide (p < N)) = true) (hfa : flatC ca = true) (hfb : flatC cb = true) (hl : args.length = ps.length) (hid : hget H lid = some (.loop ⟨ps, a, b, N, fr, .ready⟩))
    (h : wpF PG ca none (assignF PG lid ⟨ps, a, b, N, fr, .ready⟩ cb K) (putsL ps args L) H) : AYields PG lid args H K := by
  subst hfr
  exact AYields.of_bodyF hm ha hb hd hfa hfb hl hid h
theorem all_ok {l : List Pc} (h : ∀ j (h : j < l.length), l[j].2.2 = true) : l.all (·.2.2) = true := by
  rw [List.all_eq_true]
  intro x hx
  obtain ⟨j, hj, rfl⟩ := List.getElem_of_mem hx
  exact h j hj
theorem Sub.swp {H : AH} {i j : Nat} {b c : Blk} (h : i ≠ j) : Sub ((i, b) :: (j, c) :: H) ((j, c) :: (i, b) :: H) := by
  intro k x q
  simp only [hget] at q ⊢
  by_cases e1 : k = i
  · subst e1
    simp_all
  · by_cases e2 : k = j <;> simp_all [Ne.symm e1]
abbrev base1 (id3 id4 id6 id7 id8 : Nat) (l : List Ty) (t : Int) : AH := [(id8, .rows 1 [[.int .i64 0]]), (id7, .rows 1 [[.int .i64 0]]), (id6, .rows 1 [[.nilS]]), (id4, .rows 1 [[.int .i64 t]]), (id3, .rows 1 [[tysA l]])]
abbrev base2 (id3 id4 id6 id7 id8 : Nat) (l : List Ty) (t e : Int) : AH := [(id8, .rows 1 [[.int .i64 e]]), (id7, .rows 1 [[.int .i64 0]]), (id6, .rows 1 [[.nilS]]), (id4, .rows 1 [[.int .i64 t]]), (id3, .rows 1 [[tysA l]])]
theorem AYields.freeze {P : Program} {id : Nat} {args : List AV} {H : AH} {K K' : AV → AH → Prop} (h : AYields P id args H K)
    (hk : ∀ r H', K r H' → ∃ r' Hc, Sub Hc H' ∧ Fz H' Hc r r' ∧ K' r' Hc) : AYields P id args H K' := by
  intro m w ρ Z xs b o hg hr hb
  obtain ⟨fn, tmps, asg, bd, h1, h2⟩ := h m w ρ Z xs b o hg hr hb
  refine ⟨fn, tmps, asg, bd, h1, h2.mono fun e w' ⟨x, r, H', ρ', Z', a, g, c, d, k⟩ => ?_⟩
  obtain ⟨r', Hc, hs, hf, hk'⟩ := hk r H' k
  refine ⟨x, r', Hc, ρ', _, a, g.freeze hs, hf.sound g x c, ?_, hk'⟩
  refine { d with zmono := fun b q => .inl (d.zmono b q), znew := fun b q => ?_, own := fun b q => d.own b (q.of_sub hs) }
  rcases q with q | q
  · exact d.znew b q
  · rcases d.own b q.own with q | q
    · exact .inr (.inl q)
    · exact .inr (.inr q)
theorem Sub.of_cons {H K : AH} {id : Nat} {b : Blk} (h : hget H id = some b) (hs : Sub K H) : Sub ((id, b) :: K) H := fun j c q => by
  simp only [hget] at q
  split at q
  · rename_i e; subst e; rw [h]; exact q
  · exact hs _ _ q
abbrev L2 (idq id11 idp id8 id7 id6 id4 id3 : Nat) (l : List Ty) (t : Int) (s : List UInt8) : FL :=
  ((27, some (AV.clo path_pieces_1.n [] [AV.ptr idq 1 0 0])) ::
      (26, some (AV.str s)) ::
        (11, some ((fun id => AV.ptr id [AV.nilS].length 0 0) id11)) ::
          (21, some (AV.clo path_pieces_1.n [] [AV.ptr idp 1 0 0])) ::
            (20, some (AV.str s)) ::
              (19, some (AV.bool !true)) ::
                (18, some (AV.bool true)) ::
                  (17, some (AV.int IntKind.i64 t)) ::
                    (16, some (tysA l)) ::
                      (8, some ((fun id => AV.ptr id [AV.int IntKind.i64 0].length 0 0) id8)) ::
                        (7, some ((fun id => AV.ptr id [AV.int IntKind.i64 0].length 0 0) id7)) ::
                          (6, some ((fun id => AV.ptr id [AV.nilS].length 0 0) id6)) ::
                            (4, some ((fun id => AV.ptr id (AV.int IntKind.i64 t).cells.length 0 0) id4)) ::
                              (3, some ((fun id => AV.ptr id (tysA l).cells.length 0 0) id3)) ::
                                argsL 0 [tysA l, AV.int IntKind.i64 t, AV.str s])
abbrev base3 (o : Option Nat) (acc : List (Bool × Nat)) (id11 id3 id4 id6 id7 id8 : Nat) (l : List Ty) (t : Int) : AH := accH o 2 (acc.map spR) [(id11, .rows 1 [[accV o 2 acc.length]]), (id8, .rows 1 [[.int .i64 0]]), (id7, .rows 1 [[.int .i64 0]]), (id6, .rows 1 [[.nilS]]), (id4, .rows 1 [[.int .i64 t]]), (id3, .rows 1 [[tysA l]])]
abbrev ca2 : C := (C.reg [{ dst := some 12, guard := none, co := CO.allc ty_path_piece [AV.str [], AV.int IntKind.i64 0] }, { dst := none, guard := none, co := CO.store 2 (X.t 12) (X.t 28) }])
abbrev cb2 : C := C.block 3
      ((C.reg
            [{ dst := some 31, guard := none, co := CO.load none (X.t 3) },
              { dst := some 32, guard := none, co := CO.load none (X.t 4) },
              { dst := some 33, guard := none, co := CO.load (some 2) (X.t 12) },
              { dst := some 34, guard := none, co := CO.call path_step.n [X.t 31, X.t 32, X.t 33] },
              { dst := some 30, guard := none, co := CO.mv (X.t 34) },
              { dst := some 35, guard := none, co := CO.extr (X.t 30) 0 },
              { dst := some 36, guard := none, co := CO.extr (X.t 30) 1 },
              { dst := some 37, guard := none, co := CO.extr (X.t 30) 2 },
              { dst := some 13, guard := none, co := CO.allc ty_api_Step [AV.bool false, AV.int IntKind.i64 0] },
              { dst := none, guard := none, co := CO.store 2 (X.t 13) (X.t 35) },
              { dst := some 14, guard := none, co := CO.mv (X.t 36) },
              { dst := some 15, guard := none, co := CO.mv (X.t 37) }]).seq
        (((C.reg
                  [{ dst := some 38, guard := none, co := CO.mv (X.t 15) },
                    { dst := some 39, guard := none,
                      co := CO.bin BinOp.neq (X.t 38) (X.c (AV.int IntKind.i64 0)) }]).seq
              (C.cond (X.t 39)
                ((C.reg
                      [{ dst := some 40, guard := none, co := CO.mv (X.t 15) },
                        { dst := none, guard := none, co := CO.store 1 (X.t 6) (X.c AV.nilS) },
                        { dst := none, guard := none, co := CO.store 1 (X.t 7) (X.c (AV.int IntKind.i64 0)) },
                        { dst := none, guard := none, co := CO.store 1 (X.t 8) (X.t 40) }]).seq
                  C.ret)
                C.skip)).seq
          (C.reg
            [{ dst := some 41, guard := none, co := CO.load none (X.t 11) },
              { dst := some 42, guard := none, co := CO.load (some 2) (X.t 13) },
              { dst := some 43, guard := none,
                co := CO.bslice ty_api_Step 2 1 [AV.bool false, AV.int IntKind.i64 0] [(0, X.t 42)] },
              { dst := some 44, guard := none, co := CO.append ty_api_Step false 2 16 (X.t 41) (X.t 43) },
              { dst := some 45, guard := none, co := CO.mv (X.t 14) },
              { dst := none, guard := none, co := CO.store 1 (X.t 11) (X.t 44) },
              { dst := none, guard := none, co := CO.store 1 (X.t 4) (X.t 45) }])))
structure J2 (lid idq : Nat) (lr : Blk) (id11 id3 id4 id6 id7 id8 : Nat) (l : List Ty) (t : Int) (ps : List Pc) (i : Nat) (H : AH) : Prop where
  mk :: out : ∃ (o : Option Nat) (acc : List (Bool × Nat)) (t' : Int), H = (lid, lr) :: base3 o acc id11 id3 id4 id6 id7 id8 l t' ∧ (o = none → acc = []) ∧
    (∀ id, o = some id → tag id = ty_api_Step ∧ id ≠ lid ∧ id ≠ idq ∧ id ≠ id11 ∧ id ≠ id8 ∧ id ≠ id7 ∧ id ≠ id6 ∧ id ≠ id4 ∧ id ≠ id3) ∧ 0 ≤ t' ∧ t' < l.length ∧ acc.length = i ∧ wayP l t ps [] = wayP l t' (ps.drop i) acc
structure X2 (lid : Nat) (lr : Blk) (id6 id7 id8 : Nat) (l : List Ty) (t : Int) (ps : List Pc) (H : AH) : Prop where
  mk :: out : ∃ e : Int, H = [(lid, lr), (id8, .rows 1 [[.int .i64 e]]), (id7, .rows 1 [[.int .i64 0]]), (id6, .rows 1 [[.nilS]])] ∧ wayP l t ps [] = ([], 0, e)
theorem step_in {l : List Ty} (hv : TyV l) {t : Int} (h0 : 0 ≤ t) (h1 : t < l.length) (p : Pc) (h : (stepP l t p).2.2 = 0) : 0 ≤ (stepP l t p).2.1 ∧ (stepP l t p).2.1 < l.length := by
  have hp := (hv.tAt h0 h1).parts
  unfold stepP at h ⊢
  split at h
  · rename_i c
    rw [if_pos c]
    split at h
    · cases h
    · rename_i c2
      rw [if_neg c2]
      split at h
      · cases h
      · rename_i c3
        rw [if_neg c3]
        have := hp (tAt l t).el (by unfold parts; rw [if_pos (by simpa using c2)]; simp)
        dsimp only
        omega
  · rename_i c
    rw [if_neg c]
    split at h
    · cases h
    · rename_i c2
      rw [if_neg c2]
      cases hi : itemIx l t p.1 with
      | none => rw [hi] at h; cases h
      | some n =>
        dsimp only
        have hil : n < (tAt l t).its.length := by
          unfold itemIx at hi
          split at hi
          · exact (List.findIdx?_eq_some_iff_getElem.1 hi).1
          · cases hi
        have hk : (tAt l t).kd = 13 ∨ (tAt l t).kd = 14 := by
          simp only [kIt, decide_eq_false_iff_not, Classical.not_not] at c2
          exact c2
        have := hp ((tAt l t).its[n]).ty (by unfold parts; rw [if_pos hk]; simp only [List.mem_append, List.mem_map]; exact .inr ⟨_, List.getElem_mem hil, rfl⟩)
        rw [show (tAt l t).its.getD n it0 = (tAt l t).its[n] from by simp [List.getD, hil]]
        omega
set_option maxHeartbeats 4000000 in
theorem round2 (ps : List Pc) (l : List Ty) (hl : TysOk l) (hv : TyV l) (t : Int) (s : List UInt8) (lid idq id11 idp id8 id7 id6 id4 id3 : Nat) (a b : Code) (fl : List Nat) (N : Nat) (ha : comp PG fl a = ca2) (hb : comp PG fl b = cb2) (fr : Nat → Option AV) (hfr : frm (L2 idq id11 idp id8 id7 id6 id4 id3 l t s) = fr)
    (hd : (dstsOk N ca2 && dstsOk N cb2 && [28, 29].all fun p => decide (p < N)) = true) (hpl : ps.length ≤ 1000001)
    (nl : lid ≠ idq ∧ lid ≠ id11 ∧ lid ≠ id8 ∧ lid ≠ id7 ∧ lid ≠ id6 ∧ lid ≠ id4 ∧ lid ≠ id3) (nq : idq ≠ id11 ∧ idq ≠ id8 ∧ idq ≠ id7 ∧ idq ≠ id6 ∧ idq ≠ id4 ∧ idq ≠ id3)
    (n11 : id11 ≠ id8 ∧ id11 ≠ id7 ∧ id11 ≠ id6 ∧ id11 ≠ id4 ∧ id11 ≠ id3) (n8 : id8 ≠ id7 ∧ id8 ≠ id6 ∧ id8 ≠ id4 ∧ id8 ≠ id3) (n7 : id7 ≠ id6 ∧ id7 ≠ id4 ∧ id7 ≠ id3) (n6 : id6 ≠ id4 ∧ id6 ≠ id3) (n4 : id4 ≠ id3)
    (t11 : tag id11 = ty_S_api_Step) (t8 : tag id8 = ty_api_Errno) (t7 : tag id7 = ty_int) (t6 : tag id6 = ty_S_api_Step) (t4 : tag id4 = ty_int) (t3 : tag id3 = ty_S_api_Type) :
    Round lid idq ps (J2 lid idq (.loop ⟨[28, 29], a, b, N, fr, .ready⟩) id11 id3 id4 id6 id7 id8 l t ps) (X2 lid (.loop ⟨[28, 29], a, b, N, fr, .done .ret⟩) id6 id7 id8 l t ps) := by
  obtain ⟨l1, l2, l3, l4, l5, l6, l7⟩ := nl
  obtain ⟨q1, q2, q3, q4, q5, q6⟩ := nq
  obtain ⟨e1, e2, e3, e4, e5⟩ := n11
  obtain ⟨g1, g2, g3, g4⟩ := n8
  obtain ⟨k1, k2, k3⟩ := n7
  obtain ⟨k4, k5⟩ := n6
  intro i hi H b0 hH hj
  obtain ⟨o, acc, t', e, ho1, ho2, ht0, ht1, hla, hw⟩ := hj.out
  subst e
  refine AYields.freeze (K := fun r H' => ∃ Hc, Sub Hc H' ∧ (∃ q, r = .bool q) ∧ ∃ H2, Hc = (idq, b0) :: H2 ∧ ((r = .bool true ∧ hget H2 idq = none ∧ J2 lid idq (.loop ⟨[28, 29], a, b, N, fr, .ready⟩) id11 id3 id4 id6 id7 id8 l t ps (i + 1) H2) ∨ (r = .bool false ∧ X2 lid (.loop ⟨[28, 29], a, b, N, fr, .done .ret⟩) id6 id7 id8 l t ps H2))) ?_ (fun r H' ⟨Hc, hs, ⟨q, hq⟩, hk⟩ => ⟨r, Hc, hs, by subst hq; exact Fz.refl _, hk⟩)
  have hid : hget ((idq, b0) :: (lid, Blk.loop ⟨[28, 29], a, b, N, fr, .ready⟩) :: base3 o acc id11 id3 id4 id6 id7 id8 l t') lid = some (.loop ⟨[28, 29], a, b, N, fr, .ready⟩) := (hget_tail l1.symm).trans hget_self
  rw [List.drop_eq_getElem_cons hi, wayP] at hw
  have hin := step_in hv ht0 ht1 (ps[i])
  have hsp := step_spec l hl t' ht0 ht1 (ps[i])
  generalize (ps[i]) = p at *
  generalize stepP l t' p = st at *
  obtain ⟨⟨eb, en⟩, to, er⟩ := st
  dsimp only at hw hin
  rcases o with _ | ida
  · have hac := ho1 rfl
    subst hac
    have hi0 : i = 0 := hla.symm
    clear hla ho1 ho2 hpl
    dsimp only [base3, accH, accV, List.map_nil, List.length_nil] at hH hid ⊢
    refine of_bodyG mixed ha hb hfr hd rfl rfl rfl hid ?_
    clear hid hH hd ha hb hfr hj
    (first | refine au ?_ | exact au0)
    intro id12 hid12 ht12; have n12 := neAll_of hid12; (try simp only [neAll, neAll_hset] at n12); have m12 := n12; (repeat (obtain ⟨_, m12⟩ := m12))
    clear hid12
    (first | refine au ?_ | exact au0)
    refine ⟨by exact hg_of, ?_⟩
    (first | refine au ?_ | exact au0)
    first | refine callF_eq (hsp _) ?_ | refine callG_eq rfl (hsp _) ?_
    (first | refine au ?_ | exact au0)
    intro id13 hid13 ht13; have n13 := neAll_of hid13; (try simp only [neAll, neAll_hset] at n13); have m13 := n13; (repeat (obtain ⟨_, m13⟩ := m13))
    clear hid13
    (first | refine au ?_ | exact au0)
    refine bsplit_dec (fun ce => ?_) (fun ce => ?_)
    · (first | refine au ?_ | exact au0)
      refine ⟨by exact hg_of, ?_⟩
      (first | refine au ?_ | exact au0)
      refine ⟨[(idq, b0), (lid, .loop ⟨[28, 29], a, b, N, fr, .done .ret⟩), (id8, .rows 1 [[.int .i64 er]]), (id7, .rows 1 [[.int .i64 0]]), (id6, .rows 1 [[.nilS]])], ?_, ⟨false, rfl⟩, _, rfl, .inr ⟨rfl, ⟨er, rfl, by rw [hw, if_neg ce]⟩⟩⟩
      (repeat (refine Sub.of_cons ?_ ?_; (next => (repeat (first | ((with_reducible refine Eq.trans hget_self ?_); exact rfl) | with_reducible refine (hget_tail (by first | with_reducible assumption | (apply Ne.symm; with_reducible assumption))).trans ?_ | with_reducible refine (hget_set_ne (by first | with_reducible assumption | (apply Ne.symm; with_reducible assumption))).trans ?_ | with_reducible refine (hget_del_ne (by first | with_reducible assumption | (apply Ne.symm; with_reducible assumption))).trans ?_ | ((with_reducible refine Eq.trans (hget_set ?_) ?_); rotate_left; exact rfl))))))
      exact Sub.nil _
    (first | refine au ?_ | exact au0)
    refine ⟨_, rfl, (Nat.le_of_ble_eq_true rfl), (fun q => by cases q), fun _ => ?_⟩
    intro id44 hid44 ht44; have n44 := neAll_of hid44; (try simp only [neAll, neAll_hset] at n44); have m44 := n44; (repeat (obtain ⟨_, m44⟩ := m44))
    clear hid44
    (first | refine au ?_ | exact au0)
    refine ⟨by exact hg_of, ?_⟩
    (first | refine au ?_ | exact au0)
    have er0 : er = 0 := by first | exact ce | exact Classical.not_not.1 ce
    refine ⟨(idq, b0) :: (lid, .loop ⟨[28, 29], a, b, N, fr, .ready⟩) :: base3 (some id44) [(eb, en)] id11 id3 id4 id6 id7 id8 l to, ?_, ⟨true, rfl⟩, _, rfl, .inl ⟨rfl, ?_, ⟨some id44, [(eb, en)], to, rfl, (fun q => by cases q), (fun id q => by cases q; exact ⟨ht44, by assumption, by assumption, by assumption, by assumption, by assumption, by assumption, by assumption, by assumption⟩), (hin er0).1, (hin er0).2, by rw [hi0]; rfl, by rw [hw, if_pos er0]; rfl⟩⟩⟩
    · dsimp only [base3, accH, accV]
      (repeat (refine Sub.of_cons ?_ ?_; (next => (repeat (first | ((with_reducible refine Eq.trans hget_self ?_); exact rfl) | with_reducible refine (hget_tail (by first | with_reducible assumption | (apply Ne.symm; with_reducible assumption))).trans ?_ | with_reducible refine (hget_set_ne (by first | with_reducible assumption | (apply Ne.symm; with_reducible assumption))).trans ?_ | with_reducible refine (hget_del_ne (by first | with_reducible assumption | (apply Ne.symm; with_reducible assumption))).trans ?_ | ((with_reducible refine Eq.trans (hget_set ?_) ?_); rotate_left; exact rfl))))))
      exact Sub.nil _
    · refine hget_none ?_
      simp only [base3, accH, neAll]
      (repeat' apply And.intro) <;> first | with_reducible assumption | (apply Ne.symm; with_reducible assumption) | trivial
  · obtain ⟨hti, a1, a2, a3, a4, a5, a6, a7, a8⟩ := ho2 ida rfl
    have hal : acc.length ≤ 1000001 := by omega
    clear ho1 ho2 hpl
    dsimp only [base3, accH, accV] at hH hid ⊢
    refine of_bodyG mixed ha hb hfr hd rfl rfl rfl hid ?_
    clear hid hH hd ha hb hfr hj
    (first | refine au ?_ | exact au0)
    intro id12 hid12 ht12; have n12 := neAll_of hid12; (try simp only [neAll, neAll_hset] at n12); have m12 := n12; (repeat (obtain ⟨_, m12⟩ := m12))
    clear hid12
    (first | refine au ?_ | exact au0)
    refine ⟨by exact hg_of, ?_⟩
    (first | refine au ?_ | exact au0)
    first | refine callF_eq (hsp _) ?_ | refine callG_eq rfl (hsp _) ?_
    (first | refine au ?_ | exact au0)
    intro id13 hid13 ht13; have n13 := neAll_of hid13; (try simp only [neAll, neAll_hset] at n13); have m13 := n13; (repeat (obtain ⟨_, m13⟩ := m13))
    clear hid13
    (first | refine au ?_ | exact au0)
    refine bsplit_dec (fun ce => ?_) (fun ce => ?_)
    · (first | refine au ?_ | exact au0)
      refine ⟨by exact hg_of, ?_⟩
      (first | refine au ?_ | exact au0)
      refine ⟨[(idq, b0), (lid, .loop ⟨[28, 29], a, b, N, fr, .done .ret⟩), (id8, .rows 1 [[.int .i64 er]]), (id7, .rows 1 [[.int .i64 0]]), (id6, .rows 1 [[.nilS]])], ?_, ⟨false, rfl⟩, _, rfl, .inr ⟨rfl, ⟨er, rfl, by rw [hw, if_neg ce]⟩⟩⟩
      (repeat (refine Sub.of_cons ?_ ?_; (next => (repeat (first | ((with_reducible refine Eq.trans hget_self ?_); exact rfl) | with_reducible refine (hget_tail (by first | with_reducible assumption | (apply Ne.symm; with_reducible assumption))).trans ?_ | with_reducible refine (hget_set_ne (by first | with_reducible assumption | (apply Ne.symm; with_reducible assumption))).trans ?_ | with_reducible refine (hget_del_ne (by first | with_reducible assumption | (apply Ne.symm; with_reducible assumption))).trans ?_ | ((with_reducible refine Eq.trans (hget_set ?_) ?_); rotate_left; exact rfl))))))
      exact Sub.nil _
    (first | refine au ?_ | exact au0)
    refine ⟨_, _, readS_all (by exact hg_of) ?_, rfl, rfl, rfl, hti, ?_, ?_⟩
    · simp
    · simp only [List.length_map, List.length_set, List.length_replicate]; omega
    (first | refine au ?_ | exact au0)
    intro id44 hid44 ht44; have n44 := neAll_of hid44; (try simp only [neAll, neAll_hset] at n44); have m44 := n44; (repeat (obtain ⟨_, m44⟩ := m44))
    clear hid44
    (first | refine au ?_ | exact au0)
    refine ⟨by exact hg_of, ?_⟩
    (first | refine au ?_ | exact au0)
    have er0 : er = 0 := by first | exact ce | exact Classical.not_not.1 ce
    refine ⟨(idq, b0) :: (lid, .loop ⟨[28, 29], a, b, N, fr, .ready⟩) :: base3 (some id44) (acc ++ [(eb, en)]) id11 id3 id4 id6 id7 id8 l to, ?_, ⟨true, rfl⟩, _, rfl, .inl ⟨rfl, ?_, ⟨some id44, acc ++ [(eb, en)], to, rfl, (fun q => by cases q), (fun id q => by cases q; exact ⟨ht44, by assumption, by assumption, by assumption, by assumption, by assumption, by assumption, by assumption, by assumption⟩), (hin er0).1, (hin er0).2, by rw [List.length_append, hla]; rfl, by rw [hw, if_pos er0]⟩⟩⟩
    · dsimp only [base3, accH, accV]
      rw [List.map_append, List.length_append, show acc.length = (acc.map spR).length from by simp]
      have b1 : id44 ≠ lid := by assumption
      have b2 : id44 ≠ id11 := by assumption
      have b3 : id44 ≠ id4 := by assumption
      have hB : ∀ T : AH, hget T lid = some (.loop ⟨[28, 29], a, b, N, fr, .busy⟩) → ∀ c, hget (hset T lid c) lid = some c := fun T h c => hget_set h
      have hC : ∀ T : AH, hget T id11 = some (.rows 1 [[.own ida 2 0 (acc.map spR).length]]) → ∀ c, hget (hset T id11 c) id11 = some c := fun T h c => hget_set h
      have hD : ∀ T : AH, hget T id4 = some (.rows 1 [[.int .i64 t']]) → ∀ c, hget (hset T id4 c) id4 = some c := fun T h c => hget_set h
      (repeat (refine Sub.of_cons ?_ ?_; (next => (repeat (first | ((with_reducible refine Eq.trans hget_self ?_); exact rfl) | with_reducible refine (hget_tail (by first | with_reducible assumption | (apply Ne.symm; with_reducible assumption))).trans ?_ | with_reducible refine (hget_set_ne (by first | with_reducible assumption | (apply Ne.symm; with_reducible assumption))).trans ?_ | with_reducible refine (hget_del_ne (by first | with_reducible assumption | (apply Ne.symm; with_reducible assumption))).trans ?_ | (with_reducible refine (hB _ ?_ _).trans rfl) | (with_reducible refine (hC _ ?_ _).trans rfl) | (with_reducible refine (hD _ ?_ _).trans rfl))))))
      exact Sub.nil _
    · refine hget_none ?_
      simp only [base3, accH, neAll]
      (repeat' apply And.intro) <;> first | with_reducible assumption | (apply Ne.symm; with_reducible assumption) | trivial
end Go.Proofs.YtjaigpidmngaaaaGreat

namespace Go.Proofs.YtjaigpidmngaaaaGreat
attribute [local irreducible] callA callP ACalls
theorem sub_del2 {T : AH} {i k : Nat} {b x : Blk} (h1 : hget T i = none) (h2 : hget T k = none) : Sub T (hdel ((i, b) :: (k, x) :: T) k) := fun j c q => by
  have e1 : i ≠ j := fun e => by subst e; rw [h1] at q; cases q
  have e2 : j ≠ k := fun e => by subst e; rw [h2] at q; cases q
  rw [hget_del_ne e2, hget_tail e1, hget_tail e2.symm]; exact q
theorem pcs_len : ∀ (n : Nat) (s : List UInt8) (f : Bool), s.length < n → (pcs s f).length ≤ s.length + 1
  | 0, s, f, h => absurd h (Nat.not_lt_zero _)
  | n + 1, s, f, h => by
    by_cases h0 : f = false ∧ s = []
    · obtain ⟨rfl, rfl⟩ := h0
      rw [pcs_end]; simp
    by_cases h1 : 0 < (numP s).2
    · rw [pcs_num h0 h1, List.length_cons]
      have := (numP_le s).1
      have := pcs_len n (s.drop (numP s).2) false (by rw [List.length_drop]; omega)
      rw [List.length_drop] at this
      omega
    cases hr : (if f = true then some s else dotP s) with
    | none =>
      cases f with
      | true => cases hr
      | false => rw [pcs_nodot (fun q => h0 ⟨rfl, q⟩) h1 hr]; simp
    | some r =>
      rw [pcs_item h0 h1 hr]
      have h4 : r.length ≤ s.length := by
        cases f with
        | true => cases hr; exact Nat.le_refl _
        | false => rw [dotP_some hr]; simp
      split
      · simp
      · have h3 := nl_le r
        have := pcs_len n (r.drop (nl r)) false (by rw [List.length_drop]; omega)
        rw [List.length_drop] at this
        rw [List.length_cons]
        omega
set_option maxHeartbeats 4000000 in
theorem Find_spec0 (l : List Ty) (hl : TysOk l) (t : Int) (s : List UInt8) (hs : s.length ≤ 1000000) : ACalls PG path_Find.n [tysA l, .int .i64 t, .str s] [] fun r _ => r = findA (findP l t s) := by
  have hlen : (l.map tyR).length = l.length := by simp
  have hll := hl.len
  refine ACalls.fzK (path_Find.of rfl (wpF_start ?_))
  unfold findP
  (first | refine au ?_ | exact au0)
  intro id3 hid3 ht3; have n3 := neAll_of hid3; (try simp only [neAll, neAll_hset] at n3); have m3 := n3; (repeat (obtain ⟨_, m3⟩ := m3))
  (first | refine au ?_ | exact au0)
  intro id4 hid4 ht4; have n4 := neAll_of hid4; (try simp only [neAll, neAll_hset] at n4); have m4 := n4; (repeat (obtain ⟨_, m4⟩ := m4))
  (first | refine au ?_ | exact au0)
  intro id6 hid6 ht6; have n6 := neAll_of hid6; (try simp only [neAll, neAll_hset] at n6); have m6 := n6; (repeat (obtain ⟨_, m6⟩ := m6))
  (first | refine au ?_ | exact au0)
  intro id7 hid7 ht7; have n7 := neAll_of hid7; (try simp only [neAll, neAll_hset] at n7); have m7 := n7; (repeat (obtain ⟨_, m7⟩ := m7))
  (first | refine au ?_ | exact au0)
  intro id8 hid8 ht8; have n8 := neAll_of hid8; (try simp only [neAll, neAll_hset] at n8); have m8 := n8; (repeat (obtain ⟨_, m8⟩ := m8))
  (first | refine au ?_ | exact au0)
  first | refine callF_eq (path_known_spec l hl t _) ?_ | refine callG_eq rfl (path_known_spec l hl t _) ?_
  by_cases hk : knownT l t
  · rw [if_pos hk, decide_eq_true hk]
    (first | refine au ?_ | exact au0)
    refine callF_of ((path_pieces_spec s _).mono fun r H1 ⟨idp, e1, hidp, htp, e2⟩ => ?_)
    subst e1; subst e2
    (first | refine au ?_ | exact au0)
    clear hid3 hid4 hid6 hid7 hid8
    have np := neAll_of hidp
    simp only [neAll] at np
    refine ⟨fun a b fl N lid ha hb hd hli => ?_⟩
    have nl := neAll_of hli
    simp only [neAll] at nl
    generalize hfr : frm _ = fr
    have hround : Round lid idp (pcs s true) (fun i H => H = (lid, .loop ⟨[22, 23], a, b, N, fr, .ready⟩) :: base1 id3 id4 id6 id7 id8 l t ∧ ∀ j (h : j < (pcs s true).length), j < i → (pcs s true)[j].2.2 = true)
        (fun H => H = (lid, .loop ⟨[22, 23], a, b, N, fr, .done .ret⟩) :: base2 id3 id4 id6 id7 id8 l t 1 ∧ (pcs s true).all (·.2.2) = false) := by
      intro i hi H b0 hH ⟨e, hok⟩
      subst e
      refine of_bodyG mixed ha hb hfr hd rfl rfl rfl (by exact hg_of) ?_
      (first | refine au ?_ | exact au0)
      refine ⟨by exact hg_of, ?_⟩
      (first | refine au ?_ | exact au0)
      refine bsplit_intro (fun c => ?_) (fun c => ?_)
      · (first | refine au ?_ | exact au0)
        refine ⟨by exact hg_of, ?_⟩
        (first | refine au ?_ | exact au0)
        exact ⟨_, rfl, .inl ⟨rfl, hH, rfl, fun j h q => by
          by_cases e : j < i
          · exact hok j h e
          · have : j = i := by omega
            subst this; exact c⟩⟩
      · (first | refine au ?_ | exact au0)
        refine ⟨by exact hg_of, ?_⟩
        (first | refine au ?_ | exact au0)
        refine ⟨_, rfl, .inr ⟨rfl, rfl, ?_⟩⟩
        rw [← Bool.not_eq_true]
        intro q
        rw [List.all_eq_true.1 q _ (List.getElem_mem hi)] at c
        cases c
    refine ((pieces_iter s (by omega) lid idp htp _ _ hround _ ?_ ⟨rfl, fun j h q => by omega⟩).perm ?_ ?_).mono fun r H' hio => ?_
    · refine hget_none ?_
      simp only [neAll]
      (repeat' apply And.intro) <;> first | omega | trivial
    · exact Sub.swp (by omega)
    · exact Sub.swp (by omega)
    obtain ⟨b', H2, rfl, ⟨rfl, hok⟩ | ⟨rfl, hno⟩⟩ := hio.out
    · refine ⟨.ready, base1 id3 id4 id6 id7 id8 l t, ?_, ?_, ?_⟩
      · exact sub_of
      · exact hg_of
      rw [if_pos (all_ok fun j h => hok j h h)]
      (first | refine au ?_ | exact au0)
      intro id11 hid11 ht11; have n11 := neAll_of hid11; (try simp only [neAll, neAll_hset] at n11); have m11 := n11; (repeat (obtain ⟨_, m11⟩ := m11))
      (first | refine au ?_ | exact au0)
      clear hid11 hli
      have hpl := pcs_len (s.length + 1) s true (Nat.lt_succ_self _)
      have hv := tyChk_v hk.2.2
      refine callF_of ((path_pieces_spec s _).mono fun r H1 ⟨idq, e1, hidq, htq, e2⟩ => ?_)
      subst e1; subst e2
      (first | refine au ?_ | exact au0)
      have nq := neAll_of hidq
      simp only [neAll] at nq
      clear hidq
      refine ⟨fun a b fl N lid ha hb hd hli => ?_⟩
      have nl2 := neAll_of hli
      simp only [neAll] at nl2
      clear hli
      have hr := round2 (pcs s true) l hl hv t s lid idq id11 idp id8 id7 id6 id4 id3 a b fl N ha hb _ rfl hd (by omega) ⟨nl2.1, nl2.2.1, nl2.2.2.1, nl2.2.2.2.1, nl2.2.2.2.2.1, nl2.2.2.2.2.2.1, nl2.2.2.2.2.2.2.1⟩ ⟨nq.1, nq.2.1, nq.2.2.1, nq.2.2.2.1, nq.2.2.2.2.1, nq.2.2.2.2.2.1⟩ ⟨n11.1, n11.2.1, n11.2.2.1, n11.2.2.2.1, n11.2.2.2.2.1⟩ ⟨n8.1, n8.2.1, n8.2.2.1, n8.2.2.2.1⟩ ⟨n7.1, n7.2.1, n7.2.2.1⟩ ⟨n6.1, n6.2.1⟩ n4.1 ht11 ht8 ht7 ht6 ht4 ht3
      refine ((pieces_iter s (by omega) lid idq htq _ _ hr ((lid, .loop ⟨[28, 29], a, b, N, _, .ready⟩) :: (id11, .rows 1 [[.nilS]]) :: base1 id3 id4 id6 id7 id8 l t) ?_ ⟨none, [], t, rfl, fun _ => rfl, (fun id q => by cases q), hk.1, hk.2.1, rfl, rfl⟩).perm ?_ ?_).mono fun r H' hio => ?_
      · refine hget_none ?_
        simp only [neAll]
        exact ⟨nl2.1.symm, nq⟩
      · exact Sub.swp nl2.1.symm
      · exact Sub.swp nl2.1
      obtain ⟨b', H2, rfl, hj | hx⟩ := hio.out
      · obtain ⟨o, acc, t', rfl, ho1, ho2, h0, h1, hla, hw⟩ := hj.out
        rw [List.drop_length, wayP] at hw
        rw [hw]
        rcases o with _ | ida
        · have hac := ho1 rfl
          subst hac
          refine ⟨.ready, base3 none [] id11 id3 id4 id6 id7 id8 l t', ?_, (hget_tail nl2.1.symm).trans hget_self, ?_⟩
          · exact sub_del2 (hget_none (by simp only [base3, accH, neAll]; exact nq)) (hget_none (by simp only [base3, accH, neAll]; exact nl2.2))
          dsimp only [base3, accH, accV]
          (first | refine au ?_ | exact au0)
          exact fz_of
        · obtain ⟨hti, a1, a2, a3, a4, a5, a6, a7, a8⟩ := ho2 ida rfl
          refine ⟨.ready, base3 (some ida) acc id11 id3 id4 id6 id7 id8 l t', ?_, (hget_tail nl2.1.symm).trans hget_self, ?_⟩
          · exact sub_del2 (hget_none (by simp only [base3, accH, neAll]; exact ⟨a2.symm, nq⟩)) (hget_none (by simp only [base3, accH, neAll]; exact ⟨a1.symm, nl2.2⟩))
          dsimp only [base3, accH, accV]
          (first | refine au ?_ | exact au0)
          have hlm : acc.length = (acc.map spR).length := (List.length_map _).symm
          rw [hlm]
          refine Fz.tupL (FzL.cons (Fz.ownL hget_self rfl (FzR.refl _ _ _) (map_w (f := spR) (fun _ => rfl) _)) (FzL.cons (Fz.refl _) (FzL.cons (Fz.refl _) (FzL.nil _ _))))
      · obtain ⟨e, rfl, hw⟩ := hx.out
        rw [hw]
        refine ⟨.done .ret, [(id8, .rows 1 [[.int .i64 e]]), (id7, .rows 1 [[.int .i64 0]]), (id6, .rows 1 [[.nilS]])], ?_, ?_, ?_⟩
        · exact sub_del2 (hget_none (by simp only [neAll]; exact ⟨nq.2.1, nq.2.2.1, nq.2.2.2.1, trivial⟩)) (hget_none (by simp only [neAll]; exact ⟨nl2.2.2.1, nl2.2.2.2.1, nl2.2.2.2.2.1, trivial⟩))
        · exact (hget_tail nl2.1.symm).trans hget_self
        (first | refine au ?_ | exact au0)
        exact fz_of
    · refine ⟨.done .ret, (idp, b') :: base2 id3 id4 id6 id7 id8 l t 1, ?_, ?_, ?_⟩
      · exact sub_of
      · exact hg_of
      rw [hno, if_neg (by decide)]
      (first | refine au ?_ | exact au0)
      exact fz_of
  · rw [if_neg hk, decide_eq_false hk]
    (first | refine au ?_ | exact au0)
    exact fz_of
theorem Find_spec (l : List Ty) (hl : TysOk l) (t : Int) (s : List UInt8) (hs : s.length ≤ 1000000) (H : AH) : ACalls PG path_Find.n [tysA l, .int .i64 t, .str s] H fun r H' => r = findA (findP l t s) ∧ H' = H := (Find_spec0 l hl t s hs).frame H
end Go.Proofs.YtjaigpidmngaaaaGreat

namespace Go.Proofs.YtjaigpidmngaaaaGreat
def brk (n : Nat) : List UInt8 := 91 :: (dec n ++ [93])
theorem dec_small : ∀ n, n < 100 → dec n = (if n < 10 then [UInt8.ofNat (48 + n)] else [UInt8.ofNat (48 + n / 10), UInt8.ofNat (48 + n % 10)]) := by decide +kernel
theorem numP_hit {s : List UInt8} (h : 0 < (numP s).2) : ∃ r, s = brk (numP s).1 ++ r := by
  unfold numP at h ⊢
  split at h
  · simp at h
  rename_i hc
  split at h
  rotate_left
  · simp at h
  rename_i hd
  rw [if_neg hc, if_pos hd]
  dsimp only
  have hc1 : ¬ s.length < 3 := fun q => hc (.inl q)
  have hc2 : s.getD 0 0 = 91 := Classical.byContradiction fun q => hc (.inr (.inl q))
  have hc3 : 2 ≤ Lib.indexByte s 93 := Classical.byContradiction fun q => hc (.inr (.inr (.inl (by omega))))
  have hc4 : Lib.indexByte s 93 ≤ 3 := Classical.byContradiction fun q => hc (.inr (.inr (.inr (.inl (by omega)))))
  have hc5 : ¬ (s.getD 1 0 = 48 ∧ 2 < Lib.indexByte s 93) := fun q => hc (.inr (.inr (.inr (.inr q))))
  clear hc h
  have key : ∀ n, n < 100 → ∀ r, s = 91 :: ((if n < 10 then [UInt8.ofNat (48 + n)] else [UInt8.ofNat (48 + n / 10), UInt8.ofNat (48 + n % 10)]) ++ 93 :: r) → ∃ r, s = brk n ++ r := fun n hn r e => ⟨r, by rw [e, ← dec_small n hn]; simp [brk]⟩
  match s, hc1, hc2, hc3, hc4, hc5, hd, key with
  | [], c, _, _, _, _, _, _ => simp at c
  | [_], c, _, _, _, _, _, _ => simp at c
  | [_, _], c, _, _, _, _, _, _ => simp at c
  | a :: b :: c :: t, _, q2, q3, q4, q5, hd, key =>
    simp only [List.getD_cons_zero] at q2
    subst q2
    have hb : b ≠ 93 := by
      intro e; subst e
      simp [Lib.indexByte] at q3
    by_cases hcc : c = 93
    · subst hcc
      have ei : Lib.indexByte (91 :: b :: 93 :: t) 93 = 2 := by simp [Lib.indexByte, hb]
      rw [ei] at hd ⊢
      simp only [show (2 : Int).toNat = 2 from rfl, List.take_succ_cons, List.take_zero, List.drop_succ_cons, List.drop_zero, List.all_cons, List.all_nil, Bool.and_true] at hd ⊢
      have hb2 : 48 ≤ b.toNat ∧ b.toNat ≤ 57 := by simpa [dig] using hd
      have en : numV [b] = b.toNat - 48 := by simp [numV]
      rw [en]
      refine key _ (by omega) t ?_
      rw [if_pos (by omega), show 48 + (b.toNat - 48) = b.toNat from by omega, UInt8.ofNat_toNat]
      rfl
    · have ht := indexByte_lt t 93
      have ei : Lib.indexByte (91 :: b :: c :: t) 93 = (if Lib.indexByte t 93 = -1 then -1 else Lib.indexByte t 93 + 3) := by
        simp only [Lib.indexByte, beq_iff_eq, hb, hcc, if_false, show ¬ ((91 : UInt8) = 93) from by decide]
        split <;> simp_all <;> omega
      have e0 : Lib.indexByte t 93 = 0 := by
        rw [ei] at q3 q4
        split at q3
        · omega
        · rename_i h; rw [if_neg h] at q4; omega
      rw [ei, e0] at hd q5 ⊢
      obtain ⟨r, rfl⟩ : ∃ r, t = 93 :: r := by
        cases t with
        | nil => simp [Lib.indexByte] at e0
        | cons x t =>
          refine ⟨t, ?_⟩
          have h2 := indexByte_lt t 93
          by_cases e : x = 93
          · rw [e]
          · simp only [Lib.indexByte, beq_iff_eq, e, if_false] at e0
            split at e0 <;> omega
      simp only [if_neg (show ¬ ((0 : Int) = -1) from by decide), show ((0 : Int) + 3).toNat = 3 from rfl, List.take_succ_cons, List.take_zero, List.drop_succ_cons, List.drop_zero, List.all_cons, List.all_nil, Bool.and_true, Bool.and_eq_true] at hd q5 ⊢
      have hb2 : 48 ≤ b.toNat ∧ b.toNat ≤ 57 := by simpa [dig] using hd.1
      have hc2 : 48 ≤ c.toNat ∧ c.toNat ≤ 57 := by simpa [dig] using hd.2
      have en : numV [b, c] = 10 * (b.toNat - 48) + (c.toNat - 48) := by
        simp [numV]
      have hb3 : b.toNat ≠ 48 := by
        intro e
        refine q5 ⟨?_, by decide⟩
        simp only [List.getD_cons_succ, List.getD_cons_zero]
        exact UInt8.toNat_inj.1 e
      rw [en]
      refine key _ (by omega) r ?_
      rw [if_neg (by omega), show 48 + (10 * (b.toNat - 48) + (c.toNat - 48)) / 10 = b.toNat from by omega, show 48 + (10 * (b.toNat - 48) + (c.toNat - 48)) % 10 = c.toNat from by omega, UInt8.ofNat_toNat, UInt8.ofNat_toNat]
      rfl
end Go.Proofs.YtjaigpidmngaaaaGreat

namespace Go.Proofs.YtjaigpidmngaaaaGreat
open Go.RowKit
theorem hty_lt {h : Array Obj} {b : Nat} {t : Nat × TypeId} (q : hty h b = some t) : b < h.size := by
  unfold hty at q
  split at q
  · rename_i hx
    exact (Array.getElem?_eq_some_iff.1 hx).1
  · rename_i hx
    exact (Array.getElem?_eq_some_iff.1 hx).1
  · cases q
theorem Below.hty {w w' : World} (q : Below w.heap.size w w') (b : Nat) (t : Nat × TypeId) (h : hty w.heap b = some t) : Go.Proofs.YtjaigpidmngaaaaGreat.hty w'.heap b = some t := by
  have := q.block b (hty_lt h)
  unfold Go.Proofs.YtjaigpidmngaaaaGreat.hty at h ⊢
  rw [this]
  exact h
theorem ACalls.belowT {P : Program} {f : Nat} {args : List AV} {v : AV} (hc : callable P f = true)
    (h : ∀ (w : World) (ρ : Loc) (Z : Nat → Prop) (xs : List Value), TabG w.heap Z → (∀ b, Z b → b < w.heap.size) → RlL w.heap ρ Z args xs → Calls P f xs.toArray w fun e w' => ∃ x, e = .returned x ∧ Rl w'.heap ρ Z v x ∧ Below w.heap.size w w') :
    ACalls P f args [] fun r _ => r = v := by
  refine ⟨hc, fun w ρ Z xs g hr => (h w ρ Z xs g.tab g.zlt hr).mono fun e w' ⟨x, e1, e2, e3⟩ => ⟨x, v, [], ρ, Z, e1, ?_, e2, ?_, rfl⟩⟩
  · refine ⟨fun _ _ q => (by cases q), fun _ _ _ _ _ _ _ _ q => (by cases q), fun b ⟨_, _, _, q, _⟩ => (by cases q), fun b q => Nat.lt_of_lt_of_le (g.zlt b q) e3.size, g.ids, fun id b o q => ?_, g.tab.of (fun _ q => q) (fun b q => e3.block b (g.zlt b q))⟩
    obtain ⟨h1, m, h2⟩ := g.ty id b o q
    exact ⟨h1, m, Below.hty e3 b _ h2⟩
  · exact ⟨e3.size, fun b hb _ => e3.block b hb, fun b t q => Below.hty e3 b t q, fun _ q => q, fun _ q => .inl q, fun _ _ q => q, fun b ⟨_, _, _, q, _⟩ => (by cases q), e3.os, e3.output, e3.tape⟩
theorem ACalls.below {P : Program} {f : Nat} {args : List AV} {v : AV} (hc : callable P f = true)
    (h : ∀ (w : World) (ρ : Loc) (Z : Nat → Prop) (xs : List Value), RlL w.heap ρ Z args xs → Calls P f xs.toArray w fun e w' => ∃ x, e = .returned x ∧ Rl w'.heap ρ Z v x ∧ Below w.heap.size w w') :
    ACalls P f args [] fun r _ => r = v := ACalls.belowT hc fun w ρ Z xs _ _ => h w ρ Z xs
theorem RlL.two {h : Array Obj} {ρ : Loc} {Z : Nat → Prop} {a b : AV} {xs : List Value} (q : RlL h ρ Z [a, b] xs) : ∃ x y, xs = [x, y] ∧ Rl h ρ Z a x ∧ Rl h ρ Z b y := by
  obtain ⟨hl, hr⟩ := q
  match xs, hl with
  | [x, y], _ => exact ⟨x, y, rfl, hr 0 a x rfl rfl, hr 1 b y rfl rfl⟩
theorem RlL.one {h : Array Obj} {ρ : Loc} {Z : Nat → Prop} {a : AV} {xs : List Value} (q : RlL h ρ Z [a] xs) : ∃ x, xs = [x] ∧ Rl h ρ Z a x := by
  obtain ⟨hl, hr⟩ := q
  match xs, hl with
  | [x], _ => exact ⟨x, rfl, hr 0 a x rfl rfl⟩
theorem ACalls.sub {P : Program} {f : Nat} {args : List AV} {H H1 : AH} {v : AV} (h : ACalls P f args H fun r H' => r = v ∧ Sub H1 H') : ACalls P f args H fun r H' => r = v ∧ H' = H1 :=
  h.freeze fun r H' ⟨a, b⟩ => ⟨r, H1, b, .refl _, a, rfl⟩
theorem sub_hset {H H' : AH} {id : Nat} {b : Blk} (h1 : hget H' id = some b) (h2 : ∀ j c, j ≠ id → hget H j = some c → hget H' j = some c) : Sub (hset H id b) H' := fun j c q => by
  rw [hget_hset] at q
  split at q
  · rename_i e
    subst e
    cases hh : hget H j with
    | none => rw [hh] at q; cases q
    | some d => rw [hh] at q; simp only [Option.map_some, Option.some.injEq] at q; rw [← q]; exact h1
  · rename_i e; exact h2 j c e q
end Go.Proofs.YtjaigpidmngaaaaGreat

namespace Go.Proofs.YtjaigpidmngaaaaGreat
attribute [local irreducible] callA callP ACalls
theorem token_digit_spec (c : UInt8) (H : AH) : ACalls PG token_digit.n [u8A c] H fun r H' => r = .bool (dig c) ∧ H' = H := by
  rw [bool_iff (dig_iff c)]
  refine token_digit.of rfl (wpF_start ?_)
  (repeat' (first | (refine au ?_; first | refine bsplit_dec (fun _ => ?_) (fun _ => ?_) | refine bsplit_intro (fun _ => ?_) (fun _ => ?_)) | exact au0 | fail)); (all_goals try (first | refine au ?_ | fail))
  all_goals (conv => whnf)
  all_goals exact ⟨congrArg AV.bool (by first | exact (decide_eq_true (by omega)).symm | exact (decide_eq_false (by omega)).symm | exact decide_eq_decide.2 (by omega)), rfl⟩
theorem token_blank_spec (c : UInt8) (H : AH) : ACalls PG token_blank.n [u8A c] H fun r H' => r = .bool (blnk c) ∧ H' = H := by
  rw [bool_iff (blnk_iff c)]
  refine token_blank.of rfl (wpF_start ?_)
  (repeat' (first | (refine au ?_; first | refine bsplit_dec (fun _ => ?_) (fun _ => ?_) | refine bsplit_intro (fun _ => ?_) (fun _ => ?_)) | exact au0 | fail)); (all_goals try (first | refine au ?_ | fail))
  all_goals (conv => whnf)
  all_goals exact ⟨congrArg AV.bool (by first | exact (decide_eq_true (by omega)).symm | exact (decide_eq_false (by omega)).symm | exact decide_eq_decide.2 (by omega)), rfl⟩
def lx (s : List UInt8) (at' : Nat) : Blk := .rows 2 [[.str s, .int .i64 (at' : Nat)]]
theorem lexer_rest_spec {s : List UInt8} {at' id : Nat} {H : AH} (hg : hget H id = some (lx s at')) (ha : at' ≤ s.length) (hs : s.length ≤ 140737488351232) :
    ACalls PG token_lexer_rest.n [.ptr id 2 0 0] H fun r H' => r = .str (s.drop at') ∧ H' = H := by
  unfold lx at hg
  refine token_lexer_rest.of rfl (wpF_start ?_)
  (first | refine ah ?_ | exact ah0)
  exact ⟨by simp, rfl⟩
theorem lexer_cut_spec {s : List UInt8} {at' id n : Nat} {k : Int} {H : AH} (hg : hget H id = some (lx s at')) (ha : at' + n ≤ s.length) (hs : s.length ≤ 140737488351232) :
    ACalls PG token_lexer_cut.n [.ptr id 2 0 0, .int .i64 k, .int .i64 n] H fun r H' => r = .agg [.int .i64 k, .str ((s.drop at').take n), .int .u64 0, .int .i64 at'] ∧ H' = hset H id (lx s (at' + n)) := by
  have hg0 := hg
  unfold lx at hg0
  refine ACalls.sub (token_lexer_cut.of rfl (wpF_start ?_))
  (first | refine ah ?_ | exact ah0)
  intro id6 hid6 ht6
  have n6 : id6 ≠ id := hget_ne_of hid6 hg
  (first | refine ah ?_ | exact ah0)
  have hdl : (s.drop at').length = s.length - at' := List.length_drop
  refine callG_eq rfl (lexer_rest_spec ((hget_tail n6).trans hg) (by omega) hs) ?_
  (first | refine ah ?_ | exact ah0)
  intro id7 hid7 ht7
  have n7 : id7 ≠ id := hget_ne_of (hget_fresh hid7).2 hg
  have n76 : id7 ≠ id6 := (hget_fresh hid7).1
  (first | refine ah ?_ | exact ah0)
  exact Sub.cons (Sub.cons (Sub.refl _) ((hget_set_ne n6).trans hid6)) ((hget_tail n76.symm).trans ((hget_set_ne n7).trans (hget_fresh hid7).2))
theorem kinds1_spec (c : UInt8) (H : AH) : ACalls PG token_kinds_1.n [u8A c] H fun r H' => r = .bool (ltr c) ∧ H' = H := by
  refine token_kinds_1.of rfl (wpF_start ?_)
  (first | refine ah ?_ | exact ah0)
  refine ⟨_, _, rfl, (show bytesA [[u8A c]] = some [c] from by simp [bytesA]; have := c.toNat_lt; omega), ?_⟩
  (first | refine ah ?_ | exact ah0)
  refine callF_eq (name_Lead_spec [c] (by simp) _) ?_
  (first | refine ah ?_ | exact ah0)
  refine ⟨congrArg AV.bool ?_, rfl⟩
  rw [nl_cons]
  cases ltr c <;> simp
theorem kinds2_spec (c : UInt8) (H : AH) : ACalls PG token_kinds_2.n [u8A c] H fun r H' => r = .bool (decide (c = 39)) ∧ H' = H := by
  refine token_kinds_2.of rfl (wpF_start ?_)
  (first | refine ah ?_ | exact ah0)
  exact ⟨congrArg AV.bool (decide_eq_decide.2 (u8lit c 39 (by decide))), rfl⟩
theorem kinds3_spec (c : UInt8) (H : AH) : ACalls PG token_kinds_3.n [u8A c] H fun r H' => r = .bool (decide (c = 37)) ∧ H' = H := by
  refine token_kinds_3.of rfl (wpF_start ?_)
  (first | refine ah ?_ | exact ah0)
  exact ⟨congrArg AV.bool (decide_eq_decide.2 (u8lit c 37 (by decide))), rfl⟩
theorem kinds4_spec (c : UInt8) (H : AH) : ACalls PG token_kinds_4.n [u8A c] H fun r H' => r = .bool (sgn c) ∧ H' = H := by
  refine token_kinds_4.of rfl (wpF_start ?_)
  (first | refine ah ?_ | exact ah0)
  refine callF_eq (strings_IndexByte_spec _ c _) ?_
  (first | refine ah ?_ | exact ah0)
  exact ⟨congrArg AV.bool (bool_iff (indexByte_in _ c).symm).symm, rfl⟩
theorem stringslite_HasPrefix_spec (s p : List UInt8) (H : AH) : ACalls PG stringslite_HasPrefix.n [.str s, .str p] H fun r H' => r = .bool (decide (p.length ≤ s.length) && decide (s.take p.length = p)) ∧ H' = H := by
  refine stringslite_HasPrefix.of rfl (wpF_start ?_)
  (first | refine ah ?_ | exact ah0)
  refine bsplit_dec (fun h => ?_) (fun h => ?_)
  · (first | refine ah ?_ | exact ah0)
    exact ⟨by rw [decide_eq_true (show p.length ≤ s.length from by omega)]; simp, rfl⟩
  · (first | refine ah ?_ | exact ah0)
    exact ⟨by rw [decide_eq_false (show ¬ p.length ≤ s.length from by omega)]; simp, rfl⟩
theorem strings_HasPrefix_spec (s p : List UInt8) (H : AH) : ACalls PG strings_HasPrefix.n [.str s, .str p] H fun r H' => r = .bool (decide (p.length ≤ s.length) && decide (s.take p.length = p)) ∧ H' = H := by
  refine strings_HasPrefix.of rfl (wpF_start ?_)
  (first | refine ah ?_ | exact ah0)
  refine callF_eq (stringslite_HasPrefix_spec s p _) ?_
  (first | refine ah ?_ | exact ah0)
end Go.Proofs.YtjaigpidmngaaaaGreat

namespace Go.Proofs.YtjaigpidmngaaaaGreat
attribute [local irreducible] callA callP ACalls
theorem callF_to {P : Program} {f : Nat} {args : List AV} {H H1 : AH} {K : AV → AH → Prop} {r : AV} (h : ACalls P f args H fun r' H' => r' = r ∧ H' = H1) (k : K r H1) : callF P f args H K :=
  callF_of (h.mono fun r' H' ⟨a, b⟩ => by rw [a, b]; exact k)
abbrev tyBld : Nat := ty_strings_Builder
abbrev tyU8 : Nat := ty_uint8
def byteRow (l : List UInt8) : List (List AV) := l.map fun c => [u8A c]
theorem byteRow_len (l : List UInt8) : (byteRow l).length = l.length := by simp [byteRow]
theorem byteRow_bytes (l : List UInt8) : bytesA (byteRow l) = some l := by
  induction l with
  | nil => rfl
  | cons c l ih =>
    have hc := c.toNat_lt
    show bytesA ([u8A c] :: byteRow l) = _
    unfold bytesA
    rw [if_pos (by omega), ih]
    simp
structure Bld (H : AH) (id : Nat) (ob : Option Nat) (l : List UInt8) : Prop where
  tg : tag id = tyBld
  blk : ∃ p v, hget H id = some (.rows 2 [[p, v]]) ∧ (p = .nilP ∨ p = .ptr id 2 0 0) ∧
    ((ob = none ∧ v = .nilS ∧ l = []) ∨ ∃ idb, ob = some idb ∧ v = .own idb 1 0 l.length ∧ hget H idb = some (.rows 1 (byteRow l)) ∧ tag idb = tyU8 ∧ idb ≠ id ∧ 0 < l.length)
theorem copyCheck_spec {id : Nat} {H : AH} {p v : AV} (hg : hget H id = some (.rows 2 [[p, v]])) (hp : p = .nilP ∨ p = .ptr id 2 0 0) (ht : tag id = tyBld) :
    ACalls PG strings_Builder_copyCheck.n [.ptr id 2 0 0] H fun r H' => r = .tup [] ∧ H' = hset H id (.rows 2 [[.ptr id 2 0 0, v]]) := by
  refine ACalls.sub (strings_Builder_copyCheck.of rfl (wpF_start ?_))
  rcases hp with rfl | rfl
  · (first | refine ah ?_ | exact ah0)
    refine ⟨⟨rfl, by simp⟩, rfl, ?_⟩
    (first | refine ah ?_ | exact ah0)
    exact Sub.refl _
  · (first | refine ah ?_ | exact ah0)
    exact sub_hset hg (fun j c _ q => q)
theorem readS_own {H : AH} {id sz lo hi : Nat} {l : List (List AV)} (hg : hget H id = some (.rows sz l)) (h : hi ≤ l.length) : readS H false sz (.own id sz lo hi) = some ((l.take hi).drop lo) := by
  simp [readS, hg, h]
theorem WriteByte_spec {id : Nat} {ob : Option Nat} {l : List UInt8} {c : UInt8} {H : AH} (hb : Bld H id ob l) (hl : l.length ≤ 140737488351232) :
    ACalls PG strings_Builder_WriteByte.n [.ptr id 2 0 0, u8A c] H fun r H' => r = .nilI ∧ ∃ idb, Bld H' id (some idb) (l ++ [c]) ∧ (hget H idb = none ∨ ob = some idb) ∧ ∀ j b, j ≠ id → ob ≠ some j → hget H j = some b → hget H' j = some b := by
  obtain ⟨ht, p, v, hg, hp, hv⟩ := hb
  refine strings_Builder_WriteByte.of rfl (wpF_start ?_)
  (first | refine ah ?_ | exact ah0)
  refine callF_to (copyCheck_spec hg hp ht) ?_
  have hg1 : hget (hset H id (.rows 2 [[.ptr id 2 0 0, v]])) id = some (.rows 2 [[.ptr id 2 0 0, v]]) := hget_set hg
  have hk1 : ∀ j b, j ≠ id → hget H j = some b → hget (hset H id (.rows 2 [[.ptr id 2 0 0, v]])) j = some b := fun j b q r => (hget_set_ne q).trans r
  have hf1 : ∀ j, j ≠ id → hget (hset H id (.rows 2 [[.ptr id 2 0 0, v]])) j = none → hget H j = none := fun j q r => (hget_set_ne q).symm.trans r
  generalize hset H id (.rows 2 [[.ptr id 2 0 0, v]]) = H1 at *
  rcases hv with ⟨rfl, rfl, rfl⟩ | ⟨idb, rfl, rfl, hgb, htb, hne, hpos⟩
  · (first | refine ah ?_ | exact ah0)
    refine ⟨_, rfl, by simp, (fun e => by cases e), fun _ => ?_⟩
    intro idn hidn htn
    have nn : idn ≠ id := hget_ne_of hidn hg1
    (first | refine ah ?_ | exact ah0)
    refine ⟨idn, ⟨ht, .ptr id 2 0 0, .own idn 1 0 1, ?_, .inr rfl, .inr ⟨idn, rfl, rfl, ?_, htn, nn, by simp⟩⟩, .inl (hf1 idn nn hidn), fun j b q _ r => ?_⟩
    · exact (hget_tail nn).trans (hget_set hg1)
    · exact hget_self
    · exact (hget_tail (hget_ne_of hidn (hk1 j b q r))).trans ((hget_set_ne q).trans (hk1 j b q r))
  · have hgb1 := hk1 _ _ hne hgb
    have exs : ((byteRow l).take l.length).drop 0 = byteRow l := by rw [List.drop_zero, ← byteRow_len, List.take_length]
    (first | refine ah ?_ | exact ah0)
    refine ⟨_, _, (readS_own hgb1 (by rw [byteRow_len]; exact Nat.le_refl _)).trans (congrArg some exs), rfl, rfl, rfl, htb, by rw [byteRow_len]; simp; omega, ?_⟩
    intro idn hidn htn
    have nn : idn ≠ id := hget_ne_of hidn hg1
    have nb : idn ≠ idb := hget_ne_of hidn hgb1
    (first | refine ah ?_ | exact ah0)
    have hg2 : hget (hdel H1 idb) id = some (.rows 2 [[.ptr id 2 0 0, .own idb 1 0 l.length]]) := (hget_del_ne hne.symm).trans hg1
    refine ⟨idn, ⟨ht, .ptr id 2 0 0, .own idn 1 0 (l ++ [c]).length, ?_, .inr rfl, .inr ⟨idn, rfl, rfl, ?_, htn, nn, by simp⟩⟩, .inl (hf1 idn nn hidn), fun j b q q2 r => ?_⟩
    · refine (hget_tail nn).trans ((hget_set hg2).trans ?_)
      have : (byteRow l).length + ((List.replicate 1 [AV.int .u8 0]).set 0 (u8A c).cells).length = (l ++ [c]).length := by rw [byteRow_len, List.length_append]; rfl
      rw [← this]; rfl
    · refine hget_self.trans ?_
      simp [byteRow]
      rfl
    · have qb : j ≠ idb := fun e => q2 (by rw [e])
      exact (hget_tail (hget_ne_of hidn (hk1 j b q r))).trans ((hget_set_ne q).trans ((hget_del_ne qb).trans (hk1 j b q r)))
theorem String_spec {id : Nat} {ob : Option Nat} {l : List UInt8} {H : AH} (hb : Bld H id ob l) (hl : l.length ≤ 140737488351232) :
    ACalls PG strings_Builder_String.n [.ptr id 2 0 0] H fun r H' => r = .str l ∧ ∀ j b, ob ≠ some j → hget H j = some b → hget H' j = some b := by
  obtain ⟨ht, p, v, hg, hp, hv⟩ := hb
  refine strings_Builder_String.of rfl (wpF_start ?_)
  rcases hv with ⟨rfl, rfl, rfl⟩ | ⟨idb, rfl, rfl, hgb, htb, hne, hpos⟩
  · (first | refine ah ?_ | exact ah0)
    exact fun j b _ q => q
  · (first | refine ah ?_ | exact ah0)
    refine ⟨_, l, hgb, ?_, rfl, rfl, rfl, by omega, by rw [byteRow_len]; omega, by omega, htb, ?_⟩
    · rw [show (((l.length - 0 : Nat) : Int)).toNat = (byteRow l).length from by rw [byteRow_len]; omega, List.take_length, byteRow_bytes]
    (first | refine ah ?_ | exact ah0)
    exact fun j b q r => (hget_del_ne (fun e => q (by rw [e]))).trans r
end Go.Proofs.YtjaigpidmngaaaaGreat

namespace Go.Proofs.YtjaigpidmngaaaaGreat
attribute [local irreducible] callA callP ACalls
def tokA (k : Int) (t : List UInt8) (num : Int) (at' : Int) : AV := .agg [.int .i64 k, .str t, .int .u64 num, .int .i64 at']
abbrev fltA (e at' : Int) : AV := .agg [.int .i64 e, .int .i64 at']
abbrev tkB (k : Int) (t : List UInt8) (num : Int) (at' : Int) : Blk := .rows 4 [[.int .i64 k, .str t, .int .u64 num, .int .i64 at']]
abbrev flB (e at' : Int) : Blk := .rows 2 [[.int .i64 e, .int .i64 at']]
def Keep (id : Nat) (H H' : AH) : Prop := ∀ j b, j ≠ id → hget H j = some b → hget H' j = some b
structure TkK (s : List UInt8) (at' id : Nat) (H : AH) (R : LR) (r : AV) (H' : AH) : Prop where
  tok : ∀ k t num n, R = .tok k t num n → r = .tup [tokA k t num at', fltA 0 0] ∧ hget H' id = some (lx s (at' + n))
  bad : ∀ e off, R = .bad e off → ∃ k t num a, r = .tup [tokA k t num a, fltA e (at' + off : Nat)]
  keep : Keep id H H'
theorem TkK.of_tok {s : List UInt8} {at' id : Nat} {H : AH} {k : Int} {t : List UInt8} {num n : Nat} {r : AV} {H' : AH} (h : r = .tup [tokA k t num at', fltA 0 0]) (h1 : hget H' id = some (lx s (at' + n))) (h2 : Keep id H H') : TkK s at' id H (.tok k t num n) r H' :=
  ⟨fun k t num n e => by cases e; exact ⟨h, h1⟩, (fun e off q => by cases q), h2⟩
theorem TkK.of_bad {s : List UInt8} {at' id : Nat} {H : AH} {e : Int} {off : Nat} {k num a : Int} {t : List UInt8} {r : AV} {H' : AH} (h : r = .tup [tokA k t num a, fltA e (at' + off : Nat)]) (h2 : Keep id H H') : TkK s at' id H (.bad e off) r H' :=
  ⟨fun k t num n e => (by cases e), (fun e' off' q => by cases q; exact ⟨k, t, num, a, h⟩), h2⟩
structure Two (H H1 : AH) (id id2 id3 : Nat) : Prop where
  n2 : id2 ≠ id
  n3 : id3 ≠ id
  n32 : id3 ≠ id2
  g2 : hget H1 id2 = some (tkB 0 [] 0 0)
  g3 : hget H1 id3 = some (flB 0 0)
  keep : ∀ j b, hget H j = some b → hget H1 j = some b
  new : ∀ j b, hget H j = some b → j ≠ id2 ∧ j ≠ id3
theorem Two.mk' {H : AH} {id id2 id3 : Nat} {b : Blk} (hg : hget H id = some b) (h2 : hget H id2 = none) (h3 : hget ((id2, tkB 0 [] 0 0) :: H) id3 = none) : Two H ((id3, flB 0 0) :: (id2, tkB 0 [] 0 0) :: H) id id2 id3 := by
  obtain ⟨n32, h3'⟩ := hget_fresh h3
  have n2 := hget_ne_of h2 hg
  have n3 := hget_ne_of h3' hg
  refine ⟨n2, n3, n32, (hget_tail n32).trans hget_self, hget_self, fun j b q => ?_, fun j b q => ⟨(hget_ne_of h2 q).symm, (hget_ne_of h3' q).symm⟩⟩
  exact (hget_tail (hget_ne_of h3' q)).trans ((hget_tail (hget_ne_of h2 q)).trans q)
theorem token_word_spec {s : List UInt8} {at' id : Nat} {H : AH} (hg : hget H id = some (lx s at')) (ha : at' ≤ s.length) (hs : s.length ≤ 140737488351232) :
    ACalls PG token_word.n [.ptr id 2 0 0] H (TkK s at' id H (.tok 1 ((s.drop at').take (nl (s.drop at'))) 0 (nl (s.drop at')))) := by
  have hdl : (s.drop at').length = s.length - at' := List.length_drop
  have hnl := nl_le (s.drop at')
  refine token_word.of rfl (wpF_start ?_)
  (first | refine ah ?_ | exact ah0)
  intro id2 hid2 ht2
  (first | refine ah ?_ | exact ah0)
  intro id3 hid3 ht3
  have tw := Two.mk' hg hid2 hid3
  generalize ((id3, Blk.rows [AV.int .i64 0, AV.int .i64 0].length [[AV.int .i64 0, AV.int .i64 0]]) :: (id2, Blk.rows [AV.int .i64 0, AV.str [], AV.int .u64 0, AV.int .i64 0].length [[AV.int .i64 0, AV.str [], AV.int .u64 0, AV.int .i64 0]]) :: H) = H1 at *
  have hg1 := tw.keep _ _ hg
  have hg1' : hget H1 id = some (.rows 2 [[.str s, .int .i64 (at' : Nat)]]) := hg1
  have n2 := tw.n2
  have n3 := tw.n3
  have n32 := tw.n32
  have g2 : hget H1 id2 = some (.rows 4 [[.int .i64 0, .str [], .int .u64 0, .int .i64 0]]) := tw.g2
  have g3 : hget H1 id3 = some (.rows 2 [[.int .i64 0, .int .i64 0]]) := tw.g3
  (first | refine ah ?_ | exact ah0)
  refine callF_eq (lexer_rest_spec hg1 ha hs) ?_
  (first | refine ah ?_ | exact ah0)
  refine callF_eq (name_Lead_spec _ (by omega) _) ?_
  (first | refine ah ?_ | exact ah0)
  refine callF_to (lexer_cut_spec (n := nl (s.drop at')) hg1 (by omega) hs) ?_
  (first | refine ah ?_ | exact ah0)
  refine TkK.of_tok rfl ?_ (fun j b q r => ?_)
  · exact hg_of
  · obtain ⟨q2, q3⟩ := tw.new j b r
    have := tw.keep j b r
    exact hg_of
end Go.Proofs.YtjaigpidmngaaaaGreat

namespace Go.Proofs.YtjaigpidmngaaaaGreat
attribute [local irreducible] callA callP ACalls
theorem pre2 (s p : List UInt8) (h : p.length = 2) : (decide (p.length ≤ s.length) && decide (s.take p.length = p)) = decide (s.take 2 = p) := by
  rw [h]
  by_cases e : s.take 2 = p
  · have := congrArg List.length e
    rw [List.length_take, h] at this
    simp [e]; omega
  · simp [e]
theorem token_sign_spec {s : List UInt8} {at' id : Nat} {H : AH} (hg : hget H id = some (lx s at')) (ha : at' < s.length) (hs : s.length ≤ 140737488351232) :
    ACalls PG token_sign.n [.ptr id 2 0 0] H (TkK s at' id H (.tok 5 ((s.drop at').take (if two (s.drop at') then 2 else 1)) 0 (if two (s.drop at') then 2 else 1))) := by
  have hdl : (s.drop at').length = s.length - at' := List.length_drop
  refine token_sign.of rfl (wpF_start ?_)
  (first | refine ah ?_ | exact ah0)
  intro id2 hid2 ht2
  (first | refine ah ?_ | exact ah0)
  intro id3 hid3 ht3
  have tw := Two.mk' hg hid2 hid3
  generalize ((id3, Blk.rows [AV.int .i64 0, AV.int .i64 0].length [[AV.int .i64 0, AV.int .i64 0]]) :: (id2, Blk.rows [AV.int .i64 0, AV.str [], AV.int .u64 0, AV.int .i64 0].length [[AV.int .i64 0, AV.str [], AV.int .u64 0, AV.int .i64 0]]) :: H) = H1 at *
  have hg1 := tw.keep _ _ hg
  have hg1' : hget H1 id = some (.rows 2 [[.str s, .int .i64 (at' : Nat)]]) := hg1
  have n2 := tw.n2
  have n3 := tw.n3
  have n32 := tw.n32
  have g2 : hget H1 id2 = some (.rows 4 [[.int .i64 0, .str [], .int .u64 0, .int .i64 0]]) := tw.g2
  have g3 : hget H1 id3 = some (.rows 2 [[.int .i64 0, .int .i64 0]]) := tw.g3
  (first | refine ah ?_ | exact ah0)
  refine ⟨fun n L H' => ∃ i : Nat, n = 3 - i ∧ i ≤ 3 ∧ L = [(0, some (.ptr id 2 0 0)), (2, some (.ptr id2 4 0 0)), (3, some (.ptr id3 2 0 0)), (6, some (.rows 1 [[.str [60, 62]], [.str [60, 61]], [.str [62, 61]]])), (7, some (.int .i64 3)), (8, some (.int .i64 i))] ∧ H' = H1 ∧
    (0 < i → (s.drop at').take 2 ≠ [60, 62]) ∧ (1 < i → (s.drop at').take 2 ≠ [60, 61]) ∧ (2 < i → (s.drop at').take 2 ≠ [62, 61]), ⟨_, H1, ?_, Sub.refl _, _, 0, rfl, Nat.zero_le _, rfl, rfl, (fun h => by omega), (fun h => by omega), (fun h => by omega)⟩, ?_⟩
  · exact (by exact cov_of)
  · rintro n L H' ⟨i, rfl, hi, rfl, rfl, w1, w2, w3⟩
    rcases (show i = 0 ∨ i = 1 ∨ i = 2 ∨ i = 3 from by omega) with rfl | rfl | rfl | rfl
    · (first | refine ah ?_ | exact ah0)
      refine callF_eq (lexer_rest_spec hg1 (by omega) hs) ?_
      (first | refine ah ?_ | exact ah0)
      refine callF_eq (strings_HasPrefix_spec _ _ _) ?_
      (first | refine ah ?_ | exact ah0)
      rw [pre2 _ [60, 62] rfl]
      refine bsplit_dec (fun e => ?_) (fun e => ?_)
      · have l2 := (congrArg List.length e).symm
        rw [List.length_take, hdl] at l2
        simp only [List.length_cons, List.length_nil] at l2
        (first | refine ah ?_ | exact ah0)
        refine callF_to (lexer_cut_spec (n := 2) hg1 (by omega) hs) ?_
        (first | refine ah ?_ | exact ah0)
        rw [show two (s.drop at') = true from by simp [two, e], if_pos rfl]
        refine TkK.of_tok rfl ?_ (fun j b q r => ?_)
        · exact hg_of
        · obtain ⟨q2, q3⟩ := tw.new j b r
          have := tw.keep j b r
          exact hg_of
      · (first | refine ah ?_ | exact ah0)
        refine ⟨[(0, some (.ptr id 2 0 0)), (2, some (.ptr id2 4 0 0)), (3, some (.ptr id3 2 0 0)), (6, some (.rows 1 [[.str [60, 62]], [.str [60, 61]], [.str [62, 61]]])), (7, some (.int .i64 3)), (8, some (.int .i64 (1 : Nat)))], H', (by exact cov_of), Sub.refl _, _, ?_, 1, rfl, by omega, rfl, rfl, (fun _ => e), (fun h => by omega), (fun h => by omega)⟩
        omega
    · (first | refine ah ?_ | exact ah0)
      refine callF_eq (lexer_rest_spec hg1 (by omega) hs) ?_
      (first | refine ah ?_ | exact ah0)
      refine callF_eq (strings_HasPrefix_spec _ _ _) ?_
      (first | refine ah ?_ | exact ah0)
      rw [pre2 _ [60, 61] rfl]
      refine bsplit_dec (fun e => ?_) (fun e => ?_)
      · have l2 := (congrArg List.length e).symm
        rw [List.length_take, hdl] at l2
        simp only [List.length_cons, List.length_nil] at l2
        (first | refine ah ?_ | exact ah0)
        refine callF_to (lexer_cut_spec (n := 2) hg1 (by omega) hs) ?_
        (first | refine ah ?_ | exact ah0)
        rw [show two (s.drop at') = true from by simp [two, e], if_pos rfl]
        refine TkK.of_tok rfl ?_ (fun j b q r => ?_)
        · exact hg_of
        · obtain ⟨q2, q3⟩ := tw.new j b r
          have := tw.keep j b r
          exact hg_of
      · (first | refine ah ?_ | exact ah0)
        refine ⟨[(0, some (.ptr id 2 0 0)), (2, some (.ptr id2 4 0 0)), (3, some (.ptr id3 2 0 0)), (6, some (.rows 1 [[.str [60, 62]], [.str [60, 61]], [.str [62, 61]]])), (7, some (.int .i64 3)), (8, some (.int .i64 (2 : Nat)))], H', (by exact cov_of), Sub.refl _, _, ?_, 2, rfl, by omega, rfl, rfl, (fun _ => w1 (by omega)), (fun _ => e), (fun h => by omega)⟩
        omega
    · (first | refine ah ?_ | exact ah0)
      refine callF_eq (lexer_rest_spec hg1 (by omega) hs) ?_
      (first | refine ah ?_ | exact ah0)
      refine callF_eq (strings_HasPrefix_spec _ _ _) ?_
      (first | refine ah ?_ | exact ah0)
      rw [pre2 _ [62, 61] rfl]
      refine bsplit_dec (fun e => ?_) (fun e => ?_)
      · have l2 := (congrArg List.length e).symm
        rw [List.length_take, hdl] at l2
        simp only [List.length_cons, List.length_nil] at l2
        (first | refine ah ?_ | exact ah0)
        refine callF_to (lexer_cut_spec (n := 2) hg1 (by omega) hs) ?_
        (first | refine ah ?_ | exact ah0)
        rw [show two (s.drop at') = true from by simp [two, e], if_pos rfl]
        refine TkK.of_tok rfl ?_ (fun j b q r => ?_)
        · exact hg_of
        · obtain ⟨q2, q3⟩ := tw.new j b r
          have := tw.keep j b r
          exact hg_of
      · (first | refine ah ?_ | exact ah0)
        refine ⟨[(0, some (.ptr id 2 0 0)), (2, some (.ptr id2 4 0 0)), (3, some (.ptr id3 2 0 0)), (6, some (.rows 1 [[.str [60, 62]], [.str [60, 61]], [.str [62, 61]]])), (7, some (.int .i64 3)), (8, some (.int .i64 (3 : Nat)))], H', (by exact cov_of), Sub.refl _, _, ?_, 3, rfl, by omega, rfl, rfl, (fun _ => w1 (by omega)), (fun _ => w2 (by omega)), (fun _ => e)⟩
        omega
    · (first | refine ah ?_ | exact ah0)
      refine callF_to (lexer_cut_spec (n := 1) hg1 (by omega) hs) ?_
      (first | refine ah ?_ | exact ah0)
      rw [show two (s.drop at') = false from by simp [two, w1 (by omega), w2 (by omega), w3 (by omega)], if_neg (by decide)]
      refine TkK.of_tok rfl ?_ (fun j b q r => ?_)
      · exact hg_of
      · obtain ⟨q2, q3⟩ := tw.new j b r
        have := tw.keep j b r
        exact hg_of
theorem token_param_spec {s : List UInt8} {at' id : Nat} {H : AH} (hg : hget H id = some (lx s at')) (ha : at' < s.length) (hs : s.length ≤ 140737488351232) :
    ACalls PG token_param.n [.ptr id 2 0 0] H (TkK s at' id H (if 2 ≤ (s.drop at').length ∧ dig ((s.drop at').getD 1 0) = true then .tok 4 ((s.drop at').take 2) (((s.drop at').getD 1 0).toNat - 48) 2 else .bad 11 0)) := by
  have hdl : (s.drop at').length = s.length - at' := List.length_drop
  refine token_param.of rfl (wpF_start ?_)
  (first | refine ah ?_ | exact ah0)
  intro id2 hid2 ht2
  (first | refine ah ?_ | exact ah0)
  intro id3 hid3 ht3
  have tw := Two.mk' hg hid2 hid3
  generalize ((id3, Blk.rows [AV.int .i64 0, AV.int .i64 0].length [[AV.int .i64 0, AV.int .i64 0]]) :: (id2, Blk.rows [AV.int .i64 0, AV.str [], AV.int .u64 0, AV.int .i64 0].length [[AV.int .i64 0, AV.str [], AV.int .u64 0, AV.int .i64 0]]) :: H) = H1 at *
  have hg1 := tw.keep _ _ hg
  have hg1' : hget H1 id = some (.rows 2 [[.str s, .int .i64 (at' : Nat)]]) := hg1
  have n2 := tw.n2
  have n3 := tw.n3
  have n32 := tw.n32
  have g2 : hget H1 id2 = some (.rows 4 [[.int .i64 0, .str [], .int .u64 0, .int .i64 0]]) := tw.g2
  have g3 : hget H1 id3 = some (.rows 2 [[.int .i64 0, .int .i64 0]]) := tw.g3
  (first | refine ah ?_ | exact ah0)
  refine callF_eq (lexer_rest_spec hg1 (by omega) hs) ?_
  (first | refine ah ?_ | exact ah0)
  refine bsplit_dec (fun e => ?_) (fun e => ?_)
  · (first | refine ah ?_ | exact ah0)
    rw [if_neg (fun h => by have := h.1; omega)]
    refine TkK.of_bad rfl (fun j b q r => ?_)
    obtain ⟨q2, q3⟩ := tw.new j b r
    have := tw.keep j b r
    exact hg_of
  · (first | refine ah ?_ | exact ah0)
    refine callF_eq (lexer_rest_spec hg1 (by omega) hs) ?_
    (first | refine ah ?_ | exact ah0)
    refine callF_eq (token_digit_spec _ _) ?_
    (first | refine ah ?_ | exact ah0)
    refine bsplit_intro (fun h => ?_) (fun h => ?_)
    · (first | refine ah ?_ | exact ah0)
      refine callF_to (lexer_cut_spec (n := 2) hg1 (by omega) hs) ?_
      (first | refine ah ?_ | exact ah0)
      intro id4 hid4 ht4
      have f4 : id4 ≠ id := hget_ne_of hid4 (hget_set hg1)
      have f42 : id4 ≠ id2 := hget_ne_of hid4 ((hget_set_ne n2).trans g2)
      have f43 : id4 ≠ id3 := hget_ne_of hid4 ((hget_set_ne n3).trans g3)
      have htk : ((s.drop at').take 2).length = 2 := by rw [List.length_take]; omega
      have hgd : ((s.drop at').take 2).getD (Int.toNat 1) 0 = (s.drop at').getD (Int.toNat 1) 0 := by simp [List.getElem?_take]
      have hdg := (dig_iff _).1 h
      have hpos : 2 ≤ (List.drop at' s).length ∧ dig ((List.drop at' s).getD 1 0) = true := ⟨by omega, h⟩
      (first | refine ah ?_ | exact ah0)
      rw [hgd]
      (first | refine ah ?_ | exact ah0)
      rw [if_pos hpos]
      have hsub : (((((List.drop at' s).getD 1 0).toNat - 48 : Nat)) : Int) = (((List.drop at' s).getD 1 0).toNat : Int) - 48 := by
        have : 48 ≤ ((List.drop at' s).getD 1 0).toNat := hdg.1
        omega
      refine TkK.of_tok (by unfold tokA; rw [hsub]; rfl) ?_ (fun j b q r => ?_)
      · exact hg_of
      · obtain ⟨q2, q3⟩ := tw.new j b r
        have q4 : j ≠ id4 := (hget_ne_of hid4 ((hget_set_ne q).trans (tw.keep j b r))).symm
        have := tw.keep j b r
        exact hg_of
    · (first | refine ah ?_ | exact ah0)
      rw [if_neg (fun e2 => by have := e2.2; simp_all)]
      refine TkK.of_bad rfl (fun j b q r => ?_)
      obtain ⟨q2, q3⟩ := tw.new j b r
      have := tw.keep j b r
      exact hg_of
theorem numV_snoc (l : List UInt8) (c : UInt8) : numV (l ++ [c]) = 10 * numV l + (c.toNat - 48) := by simp [numV]
theorem numV_ge : ∀ (l : List UInt8) (a : Nat), a ≤ l.foldl (fun a c => 10 * a + (c.toNat - 48)) a
  | [], a => Nat.le_refl _
  | c :: l, a => Nat.le_trans (by omega) (numV_ge l (10 * a + (c.toNat - 48)))
theorem numV_mono (r : List UInt8) {i n : Nat} (h : i ≤ n) : numV (r.take i) ≤ numV (r.take n) := by
  rw [← List.take_append_drop i (r.take n), List.take_take, Nat.min_eq_left h]
  unfold numV
  rw [List.foldl_append]
  exact numV_ge _ _
theorem token_number_spec {s : List UInt8} {at' id : Nat} {H : AH} (hg : hget H id = some (lx s at')) (ha : at' < s.length) (hd : dig ((s.drop at').getD 0 0) = true) (hs : s.length ≤ 140737488351232) :
    ACalls PG token_number.n [.ptr id 2 0 0] H (TkK s at' id H (
      if 1 < dl (s.drop at') ∧ (s.drop at').getD 0 0 = 48 then .bad 1 0
      else if numV ((s.drop at').take (dl (s.drop at'))) < 18446744073709551616 then .tok 2 ((s.drop at').take (dl (s.drop at'))) (numV ((s.drop at').take (dl (s.drop at')))) (dl (s.drop at'))
      else .bad 7 0)) := by
  have hdl : (s.drop at').length = s.length - at' := List.length_drop
  generalize hr : s.drop at' = r at *
  have hle := dl_le r
  have h1l : 0 < dl r := (dl_step (n := 0) (Nat.zero_le _) (by omega)).2 hd
  refine token_number.of rfl (wpF_start ?_)
  (first | refine ah ?_ | exact ah0)
  intro id2 hid2 ht2
  (first | refine ah ?_ | exact ah0)
  intro id3 hid3 ht3
  have tw := Two.mk' hg hid2 hid3
  generalize ((id3, Blk.rows [AV.int .i64 0, AV.int .i64 0].length [[AV.int .i64 0, AV.int .i64 0]]) :: (id2, Blk.rows [AV.int .i64 0, AV.str [], AV.int .u64 0, AV.int .i64 0].length [[AV.int .i64 0, AV.str [], AV.int .u64 0, AV.int .i64 0]]) :: H) = H1 at *
  have hg1 := tw.keep _ _ hg
  have hg1' : hget H1 id = some (.rows 2 [[.str s, .int .i64 (at' : Nat)]]) := hg1
  have n2 := tw.n2
  have n3 := tw.n3
  have n32 := tw.n32
  have g2 : hget H1 id2 = some (.rows 4 [[.int .i64 0, .str [], .int .u64 0, .int .i64 0]]) := tw.g2
  have g3 : hget H1 id3 = some (.rows 2 [[.int .i64 0, .int .i64 0]]) := tw.g3
  (first | refine ac ?_ | exact ac0)
  refine .inr ⟨[(0, some (.ptr id 2 0 0)), (2, some (.ptr id2 4 0 0)), (3, some (.ptr id3 2 0 0)), (4, some (.int .i64 (dl r : Nat)))], H1, ?_, ?_⟩
  · (first | refine ah ?_ | exact ah0)
    refine ⟨fun n L H' => ∃ i : Nat, n = r.length - i ∧ i ≤ dl r ∧ L = [(0, some (.ptr id 2 0 0)), (2, some (.ptr id2 4 0 0)), (3, some (.ptr id3 2 0 0)), (4, some (.int .i64 i))] ∧ H' = H1, ⟨_, H1, ?_, Sub.refl _, _, 0, rfl, Nat.zero_le _, rfl, rfl⟩, ?_⟩
    · exact (by exact cov_of)
    · rintro n L H' ⟨i, rfl, hi, rfl, rfl⟩
      (first | refine ah ?_ | exact ah0)
      refine callF_eq (lexer_rest_spec hg1 (by omega) hs) ?_
      rw [hr]
      (first | refine ah ?_ | exact ah0)
      refine bsplit_dec (fun h1 => ?_) (fun h1 => ?_)
      · have hst := dl_step hi (by omega)
        (first | refine ah ?_ | exact ah0)
        refine callF_eq (lexer_rest_spec hg1 (by omega) hs) ?_
        rw [hr]
        (first | refine ah ?_ | exact ah0)
        refine callF_eq (token_digit_spec _ _) ?_
        rw [show dig (r.getD (i : Int).toNat 0) = decide (i < dl r) from bool_iff hst.symm]
        (first | refine ah ?_ | exact ah0)
        refine bsplit_dec (fun h2 => ?_) (fun h2 => ?_)
        · (first | refine ah ?_ | exact ah0)
          refine ⟨[(0, some (.ptr id 2 0 0)), (2, some (.ptr id2 4 0 0)), (3, some (.ptr id3 2 0 0)), (4, some (.int .i64 (i + 1 : Nat)))], H', (by exact cov_of), Sub.refl _, _, ?_, i + 1, rfl, by omega, rfl, rfl⟩
          omega
        · (first | refine ah ?_ | exact ah0)
          obtain rfl : i = dl r := by omega
          exact ⟨(by exact cov_of), Sub.refl _⟩
      · (first | refine ah ?_ | exact ah0)
        obtain rfl : i = dl r := by omega
        exact ⟨(by exact cov_of), Sub.refl _⟩
  · (first | refine ah ?_ | exact ah0)
    refine callF_to (lexer_cut_spec (n := dl r) hg1 (by omega) hs) ?_
    (first | refine ah ?_ | exact ah0)
    intro id5 hid5 ht5
    have f5 : id5 ≠ id := hget_ne_of hid5 (hget_set hg1)
    have f52 : id5 ≠ id2 := hget_ne_of hid5 ((hget_set_ne n2).trans g2)
    have f53 : id5 ≠ id3 := hget_ne_of hid5 ((hget_set_ne n3).trans g3)
    rw [hr]
    have i3 : hget (hset H1 id (lx s (at' + dl r))) id = some (lx s (at' + dl r)) := hget_set hg1
    have i32 : hget (hset H1 id (lx s (at' + dl r))) id2 = some (.rows 4 [[.int .i64 0, .str [], .int .u64 0, .int .i64 0]]) := (hget_set_ne n2).trans g2
    have i33 : hget (hset H1 id (lx s (at' + dl r))) id3 = some (.rows 2 [[.int .i64 0, .int .i64 0]]) := (hget_set_ne n3).trans g3
    have kp : ∀ j b, j ≠ id → hget H j = some b → hget (hset H1 id (lx s (at' + dl r))) j = some b ∧ j ≠ id2 ∧ j ≠ id3 ∧ j ≠ id5 := fun j b q r =>
      have q5 := (hget_set_ne q).trans (tw.keep j b r)
      ⟨q5, (tw.new j b r).1, (tw.new j b r).2, (hget_ne_of hid5 q5).symm⟩
    generalize hset H1 id (lx s (at' + dl r)) = H3 at *
    have htl : (r.take (dl r)).length = dl r := by rw [List.length_take]; omega
    have ht0 : (r.take (dl r)).getD (Int.toNat 0) 0 = r.getD 0 0 := by simp [List.getElem?_take, h1l]
    by_cases hz : 1 < dl r ∧ r.getD 0 0 = 48
    · have hz1 := hz.1
      rw [if_pos hz]
      (first | refine ah ?_ | exact ah0)
      rw [ht0, hz.2]
      (first | refine ah ?_ | exact ah0)
      refine TkK.of_bad rfl (fun j b q r => ?_)
      obtain ⟨q0, q2, q3, q5⟩ := kp j b q r
      exact hg_of
    · rw [if_neg hz]
      (first | refine ac ?_ | exact ac0)
      refine .inr ⟨[(0, some (.ptr id 2 0 0)), (2, some (.ptr id2 4 0 0)), (3, some (.ptr id3 2 0 0)), (4, some (.int .i64 (dl r : Nat))), (5, some (.ptr id5 4 0 0))], (id5, tkB 2 (r.take (dl r)) 0 at') :: H3, ?_, ?_⟩
      · (first | refine ah ?_ | exact ah0)
        refine bsplit_dec (fun e1 => ?_) (fun e1 => ?_)
        · (first | refine ah ?_ | exact ah0)
          rw [ht0]
          refine bsplit_dec (fun e2 => ?_) (fun e2 => ?_)
          · exact absurd ⟨by omega, (u8lit _ 48 (by decide)).1 e2⟩ hz
          · (first | refine ah ?_ | exact ah0)
            exact ⟨(by exact cov_of), Sub.refl _⟩
        · (first | refine ah ?_ | exact ah0)
          exact ⟨(by exact cov_of), Sub.refl _⟩
      · (first | refine ah ?_ | exact ah0)
        refine ⟨fun n L H' => ∃ i : Nat, n = dl r - i ∧ i ≤ dl r ∧ numV (r.take i) < 18446744073709551616 ∧ L = [(0, some (.ptr id 2 0 0)), (2, some (.ptr id2 4 0 0)), (3, some (.ptr id3 2 0 0)), (5, some (.ptr id5 4 0 0)), (37, some (.int .i64 (dl r : Nat))), (38, some (.int .i64 i))] ∧ H' = (id5, tkB 2 (r.take (dl r)) (numV (r.take i) : Nat) at') :: H3,
          ⟨_, (id5, tkB 2 (r.take (dl r)) 0 at') :: H3, ?_, Sub.refl _, _, 0, rfl, Nat.zero_le _, by simp [numV], rfl, rfl⟩, ?_⟩
        · exact (by exact cov_of)
        · rintro n L H' ⟨i, rfl, hi, hv, rfl, rfl⟩
          (first | refine ah ?_ | exact ah0)
          refine bsplit_dec (fun e1 => ?_) (fun e1 => ?_)
          · have hil : i < dl r := by omega
            have hdi := (dig_iff _).1 ((dl_step hi (by omega)).1 hil)
            have hti : (r.take (dl r)).getD (i : Int).toNat 0 = r.getD i 0 := by simp [List.getElem?_take, hil]
            have hsn : numV (r.take (i + 1)) = 10 * numV (r.take i) + ((r.getD i 0).toNat - 48) := by rw [take_at r 0 i (by omega), numV_snoc]
            (first | refine ah ?_ | exact ah0)
            rw [hti]
            (first | refine ah ?_ | exact ah0)
            refine bsplit_dec (fun e2 => ?_) (fun e2 => ?_)
            · have hm := numV_mono r (show i + 1 ≤ dl r from hil)
              (first | refine ah ?_ | exact ah0)
              rw [if_neg (by omega)]
              refine TkK.of_bad rfl (fun j b q r => ?_)
              obtain ⟨q0, q2, q3, q5⟩ := kp j b q r
              exact hg_of
            · (first | refine ah ?_ | exact ah0)
              refine ⟨[(0, some (.ptr id 2 0 0)), (2, some (.ptr id2 4 0 0)), (3, some (.ptr id3 2 0 0)), (5, some (.ptr id5 4 0 0)), (37, some (.int .i64 (dl r : Nat))), (38, some (.int .i64 (i + 1 : Nat)))], (id5, tkB 2 (r.take (dl r)) (numV (r.take (i + 1)) : Nat) at') :: H3,
                (by exact cov_of), ?_, _, ?_, i + 1, rfl, by omega, by omega, rfl, rfl⟩
              · rw [show ((numV (r.take (i + 1)) : Nat) : Int) = 10 * (numV (r.take i) : Nat) + (((r.getD i 0).toNat : Int) - 48) from by omega]
                exact Sub.refl _
              · omega
          · obtain rfl : i = dl r := by omega
            (first | refine ah ?_ | exact ah0)
            rw [if_pos hv]
            refine TkK.of_tok rfl ?_ (fun j b q r => ?_)
            · exact hg_of
            · skip
              obtain ⟨q0, q2, q3, q5⟩ := kp j b q r
              exact hg_of
end Go.Proofs.YtjaigpidmngaaaaGreat

namespace Go.Proofs.YtjaigpidmngaaaaGreat
attribute [local irreducible] callA callP ACalls
theorem Bld.hset {H : AH} {id j : Nat} {ob : Option Nat} {l : List UInt8} {X : Blk} (h : Bld H id ob l) (h1 : j ≠ id) (h2 : ob ≠ some j) : Bld (hset H j X) id ob l := by
  obtain ⟨ht, p, v, hg, hp, hv⟩ := h
  refine ⟨ht, p, v, (hget_set_ne h1.symm).trans hg, hp, ?_⟩
  rcases hv with hv | ⟨idb, q1, q2, q3, q4, q5⟩
  · exact .inl hv
  · exact .inr ⟨idb, q1, q2, (hget_set_ne (fun e => h2 (by rw [q1, e]))).trans q3, q4, q5⟩
structure TI (s : List UInt8) (at' id : Nat) (H : AH) (id2 id3 id4 id5 : Nat) (ob : Option Nat) (i : Nat) (acc : List UInt8) (H' : AH) : Prop where
  g : hget H' id = some (.rows 2 [[.str s, .int .i64 (at' + i : Nat)]])
  g2 : hget H' id2 = some (.rows 4 [[.int .i64 0, .str [], .int .u64 0, .int .i64 0]])
  g3 : hget H' id3 = some (.rows 2 [[.int .i64 0, .int .i64 0]])
  g4 : hget H' id4 = some (.rows 4 [[.int .i64 3, .str [], .int .u64 0, .int .i64 at']])
  b : Bld H' id5 ob acc
  n2 : id ≠ id2
  n3 : id ≠ id3
  n4 : id ≠ id4
  n5 : id ≠ id5
  n23 : id2 ≠ id3
  n24 : id2 ≠ id4
  n25 : id2 ≠ id5
  n34 : id3 ≠ id4
  n35 : id3 ≠ id5
  n45 : id4 ≠ id5
  o : ob ≠ some id
  o2 : ob ≠ some id2
  o3 : ob ≠ some id3
  o4 : ob ≠ some id4
  k : ∀ j b, j ≠ id → hget H j = some b → hget H' j = some b ∧ j ≠ id2 ∧ j ≠ id3 ∧ j ≠ id4 ∧ j ≠ id5 ∧ ob ≠ some j
theorem TI.step {s : List UInt8} {at' id : Nat} {H : AH} {id2 id3 id4 id5 : Nat} {ob : Option Nat} {i i' : Nat} {acc : List UInt8} {H' : AH} (h : TI s at' id H id2 id3 id4 id5 ob i acc H'):
    TI s at' id H id2 id3 id4 id5 ob i' acc (hset H' id (.rows 2 [[.str s, .int .i64 (at' + i' : Nat)]])) :=
  { h with
    g := hget_set h.g
    g2 := (hget_set_ne h.n2.symm).trans h.g2
    g3 := (hget_set_ne h.n3.symm).trans h.g3
    g4 := (hget_set_ne h.n4.symm).trans h.g4
    b := h.b.hset h.n5 h.o
    k := fun j b q r => ⟨(hget_set_ne q).trans (h.k j b q r).1, (h.k j b q r).2⟩ }
theorem TI.write {s : List UInt8} {at' id : Nat} {H : AH} {id2 id3 id4 id5 : Nat} {ob : Option Nat} {i : Nat} {acc : List UInt8} {H' H2 : AH} {c : UInt8} {idb : Nat} (h : TI s at' id H id2 id3 id4 id5 ob i acc H')
    (h1 : Bld H2 id5 (some idb) (acc ++ [c])) (h2 : hget H' idb = none ∨ ob = some idb) (h3 : ∀ j b, j ≠ id5 → ob ≠ some j → hget H' j = some b → hget H2 j = some b) : TI s at' id H id2 id3 id4 id5 (some idb) i (acc ++ [c]) H2 := by
  have ne : ∀ j b, ob ≠ some j → hget H' j = some b → (some idb : Option Nat) ≠ some j := by
    intro j b q1 q2 e
    cases e
    rcases h2 with h2 | h2
    · rw [h2] at q2; cases q2
    · exact q1 h2
  exact { h with
    g := h3 _ _ h.n5 h.o h.g
    g2 := h3 _ _ h.n25 h.o2 h.g2
    g3 := h3 _ _ h.n35 h.o3 h.g3
    g4 := h3 _ _ h.n45 h.o4 h.g4
    b := h1
    o := ne _ _ h.o h.g
    o2 := ne _ _ h.o2 h.g2
    o3 := ne _ _ h.o3 h.g3
    o4 := ne _ _ h.o4 h.g4
    k := fun j b q r => let ⟨k1, k2, k3, k4, k5, k6⟩ := h.k j b q r; ⟨h3 _ _ k5 k6 k1, k2, k3, k4, k5, ne _ _ k6 k1⟩ }
theorem qs_step (c : UInt8) (r : List UInt8) (i : Nat) (acc : List UInt8) : qs (c :: r) i acc =
    if c.toNat < 32 ∨ 126 < c.toNat then .odd i else if c = 39 then (if r.take 1 = [39] then qs (r.drop 1) (i + 2) (acc ++ [39]) else .done acc (i + 1)) else qs r (i + 1) (acc ++ [c]) := by
  cases r with
  | nil =>
    simp only [qs, List.take_nil, List.drop_nil]
    rw [if_neg (show ¬ ([] : List UInt8) = [39] from by simp)]
  | cons d r =>
    simp only [qs, List.take_succ_cons, List.take_zero, List.drop_succ_cons, List.drop_zero, List.cons.injEq, and_true]
theorem token_text_spec {s : List UInt8} {at' id : Nat} {H : AH} (hg : hget H id = some (lx s at')) (ha : at' < s.length) (hs : s.length ≤ 140737488351232) :
    ACalls PG token_text.n [.ptr id 2 0 0] H (TkK s at' id H (match qs (s.drop (at' + 1)) 1 [] with
      | .done t n => .tok 3 t 0 n
      | .odd i => .bad 10 i
      | .short => .bad 2 0)) := by
  refine token_text.of rfl (wpF_start ?_)
  (first | refine ah ?_ | exact ah0)
  intro id2 hid2 ht2
  (first | refine ah ?_ | exact ah0)
  intro id3 hid3 ht3
  have tw := Two.mk' hg hid2 hid3
  generalize ((id3, Blk.rows [AV.int .i64 0, AV.int .i64 0].length [[AV.int .i64 0, AV.int .i64 0]]) :: (id2, Blk.rows [AV.int .i64 0, AV.str [], AV.int .u64 0, AV.int .i64 0].length [[AV.int .i64 0, AV.str [], AV.int .u64 0, AV.int .i64 0]]) :: H) = H1 at *
  have hg1 := tw.keep _ _ hg
  have hg1' : hget H1 id = some (.rows 2 [[.str s, .int .i64 (at' : Nat)]]) := hg1
  have n2 := tw.n2
  have n3 := tw.n3
  have n32 := tw.n32
  have g2 : hget H1 id2 = some (.rows 4 [[.int .i64 0, .str [], .int .u64 0, .int .i64 0]]) := tw.g2
  have g3 : hget H1 id3 = some (.rows 2 [[.int .i64 0, .int .i64 0]]) := tw.g3
  (first | refine ah ?_ | exact ah0)
  intro id4 hid4 ht4
  have f4 : id4 ≠ id := hget_ne_of hid4 hg1
  have f42 : id4 ≠ id2 := hget_ne_of hid4 g2
  have f43 : id4 ≠ id3 := hget_ne_of hid4 g3
  (first | refine ah ?_ | exact ah0)
  intro id5 hid5 ht5
  have f5 : id5 ≠ id := hget_ne_of hid5 ((hget_tail f4).trans hg1)
  have f52 : id5 ≠ id2 := hget_ne_of hid5 ((hget_tail f42).trans g2)
  have f53 : id5 ≠ id3 := hget_ne_of hid5 ((hget_tail f43).trans g3)
  have f54 : id5 ≠ id4 := hget_ne_of hid5 hget_self
  (first | refine ah ?_ | exact ah0)
  have T0 : TI s at' id H id2 id3 id4 id5 none 1 [] ((id5, .rows 2 [[.nilP, .nilS]]) :: (id4, tkB 3 [] 0 at') :: hset H1 id (.rows 2 [[.str s, .int .i64 (at' + 1 : Nat)]])) :=
    { g := (hget_tail f5).trans ((hget_tail f4).trans (hget_set hg1))
      g2 := (hget_tail f52).trans ((hget_tail f42).trans ((hget_set_ne n2).trans g2))
      g3 := (hget_tail f53).trans ((hget_tail f43).trans ((hget_set_ne n3).trans g3))
      g4 := (hget_tail f54).trans hget_self
      b := ⟨ht5, .nilP, .nilS, hget_self, .inl rfl, .inl ⟨rfl, rfl, rfl⟩⟩
      n2 := n2.symm
      n3 := n3.symm
      n4 := f4.symm
      n5 := f5.symm
      n23 := n32.symm
      n24 := f42.symm
      n25 := f52.symm
      n34 := f43.symm
      n35 := f53.symm
      n45 := f54.symm
      o := fun e => by cases e
      o2 := fun e => by cases e
      o3 := fun e => by cases e
      o4 := fun e => by cases e
      k := fun j b q r => by
        have k1 := tw.keep j b r
        have k4 := hget_ne_of hid4 k1
        have k5 := hget_ne_of hid5 ((hget_tail k4).trans k1)
        exact ⟨(hget_tail k5).trans ((hget_tail k4).trans ((hget_set_ne q).trans k1)), (tw.new j b r).1, (tw.new j b r).2, k4.symm, k5.symm, fun e => by cases e⟩ }
  generalize hR : qs (s.drop (at' + 1)) 1 [] = R
  refine ⟨fun n L H' => ∃ (i : Nat) (acc : List UInt8) (ob : Option Nat), n = s.length - (at' + i) ∧ at' + i ≤ s.length ∧ acc.length ≤ i ∧ qs (s.drop (at' + i)) i acc = R ∧
    L = [(0, some (.ptr id 2 0 0)), (2, some (.ptr id2 4 0 0)), (3, some (.ptr id3 2 0 0)), (4, some (.ptr id4 4 0 0)), (5, some (.ptr id5 2 0 0))] ∧ TI s at' id H id2 id3 id4 id5 ob i acc H', ⟨_, _, ?_, ?_, _, 1, [], none, rfl, by omega, by simp, hR, rfl, T0⟩, ?_⟩
  · exact (by exact cov_of)
  · rw [show ((at' + 1 : Nat) : Int) = (at' : Int) + 1 from by omega]
    exact Sub.refl _
  · clear hid2 hid3 hid4 hid5 hg1 hg1' g2 g3 tw T0 hR
    rintro n L H' ⟨i, acc, ob, rfl, hi, hl, hq, rfl, T⟩
    have g := T.g
    have g2 := T.g2
    have g3 := T.g3
    have g4 := T.g4
    (first | refine ah ?_ | exact ah0)
    refine bsplit_dec (fun h1 => ?_) (fun h1 => ?_)
    · have hlt : at' + i < s.length := by omega
      have hdr : s.drop (at' + i) = s.getD (at' + i) 0 :: s.drop (at' + i + 1) := drop_at s 0 (at' + i) hlt
      rw [hdr, qs_step] at hq
      (first | refine ah ?_ | exact ah0)
      rw [Int.toNat_natCast]
      have gl : hget H' id = some (lx s (at' + i)) := g
      have hdl : (s.drop (at' + i + 1)).length = s.length - (at' + i + 1) := List.length_drop
      generalize s.getD (at' + i) 0 = c at *
      by_cases ho : c.toNat < 32 ∨ 126 < c.toNat
      · rw [if_pos ho] at hq
        subst hq
        refine bsplit_dec (fun e1 => ?_) (fun e1 => ?_)
        · (first | refine ah ?_ | exact ah0)
          refine TkK.of_bad rfl (fun j b q r => ?_)
          obtain ⟨k1, k2, k3, k4, k5, k6⟩ := T.k j b q r
          exact hg_of
        · (first | refine ah ?_ | exact ah0)
          refine TkK.of_bad rfl (fun j b q r => ?_)
          obtain ⟨k1, k2, k3, k4, k5, k6⟩ := T.k j b q r
          exact hg_of
      · rw [if_neg ho] at hq
        by_cases h39 : c = 39
        · subst h39
          rw [if_pos rfl] at hq
          (first | refine ah ?_ | exact ah0)
          refine callF_eq (lexer_rest_spec gl (by omega) hs) ?_
          (first | refine ah ?_ | exact ah0)
          refine callF_eq (strings_HasPrefix_spec _ _ _) ?_
          rw [pre2 _ [39, 39] rfl, hdr, show decide (List.take 2 (39 :: List.drop (at' + i + 1) s) = [39, 39]) = decide (List.take 1 (List.drop (at' + i + 1) s) = [39]) from decide_eq_decide.2 (by simp)]
          (first | refine ah ?_ | exact ah0)
          refine bsplit_dec (fun h2 => ?_) (fun h2 => ?_)
          · rw [if_pos h2] at hq
            have h2l := congrArg List.length h2
            rw [List.length_take, hdl, List.length_singleton] at h2l
            (first | refine ah ?_ | exact ah0)
            refine callF_of ((WriteByte_spec T.b (by omega)).mono fun rr H2 hh => ?_)
            obtain ⟨rfl, idb, b1, b2, b3⟩ := hh
            have T2 := T.write b1 b2 b3
            have g' := T2.g
            (first | refine ah ?_ | exact ah0)
            refine ⟨[(0, some (.ptr id 2 0 0)), (2, some (.ptr id2 4 0 0)), (3, some (.ptr id3 2 0 0)), (4, some (.ptr id4 4 0 0)), (5, some (.ptr id5 2 0 0))], _, (by exact cov_of), Sub.refl _, s.length - (at' + (i + 2)), by omega, i + 2, acc ++ [39], some idb, rfl, by omega, by simp; omega, ?_, rfl, ?_⟩
            · rw [← hq, List.drop_drop]
              rfl
            · have e1 : ((at' + i : Nat) : Int) + 1 = ((at' + (i + 1) : Nat) : Int) := by omega
              have e2 : ((at' + i : Nat) : Int) + 1 + 1 = ((at' + (i + 2) : Nat) : Int) := by omega
              have T4 := (T2.step (i' := i + 1)).step (i' := i + 2)
              rw [← e1, ← e2] at T4
              exact T4
          · rw [if_neg h2] at hq
            subst hq
            have T3 := T.step (i' := i + 1)
            rw [show ((at' + (i + 1) : Nat) : Int) = ((at' + i : Nat) : Int) + 1 from by omega] at T3
            (first | refine ah ?_ | exact ah0)
            refine callF_of ((String_spec T3.b (by omega)).mono fun rr H2 hh => ?_)
            obtain ⟨rfl, b3⟩ := hh
            have q1 := b3 _ _ T3.o T3.g
            have q2 := b3 _ _ T3.o2 T3.g2
            have q3 := b3 _ _ T3.o3 T3.g3
            have q4 := b3 _ _ T3.o4 T3.g4
            (first | refine ah ?_ | exact ah0)
            refine TkK.of_tok rfl ?_ (fun j b q r => ?_)
            · have e1 : ((at' + i : Nat) : Int) + 1 = ((at' + (i + 1) : Nat) : Int) := by omega
              have q1' : hget H2 id = some (lx s (at' + (i + 1))) := by unfold lx; rw [← e1]; exact q1
              have := T.n2
              have := T.n3
              have := T.n4
              exact hg_of
            · obtain ⟨k1, k2, k3, k4, k5, k6⟩ := T3.k j b q r
              have := b3 _ _ k6 k1
              exact hg_of
        · rw [if_neg h39] at hq
          have hne : c.toNat ≠ 39 := fun e => h39 ((nat_eq c 39 (by decide)).2 e)
          (first | refine ah ?_ | exact ah0)
          refine callF_of ((WriteByte_spec T.b (by omega)).mono fun rr H2 hh => ?_)
          obtain ⟨rfl, idb, b1, b2, b3⟩ := hh
          have T2 := T.write b1 b2 b3
          have g' := T2.g
          (first | refine ah ?_ | exact ah0)
          refine ⟨[(0, some (.ptr id 2 0 0)), (2, some (.ptr id2 4 0 0)), (3, some (.ptr id3 2 0 0)), (4, some (.ptr id4 4 0 0)), (5, some (.ptr id5 2 0 0))], _, (by exact cov_of), Sub.refl _, s.length - (at' + (i + 1)), by omega, i + 1, acc ++ [c], some idb, rfl, by omega, by simp; omega, hq, rfl, ?_⟩
          have e1 : ((at' + i : Nat) : Int) + 1 = ((at' + (i + 1) : Nat) : Int) := by omega
          have T4 := T2.step (i' := i + 1)
          rw [← e1] at T4
          exact T4
    · have hnil : s.drop (at' + i) = [] := List.drop_eq_nil_of_le (by omega)
      rw [hnil] at hq
      subst hq
      (first | refine ah ?_ | exact ah0)
      refine TkK.of_bad rfl (fun j b q r => ?_)
      obtain ⟨k1, k2, k3, k4, k5, k6⟩ := T.k j b q r
      exact hg_of
end Go.Proofs.YtjaigpidmngaaaaGreat

namespace Go.Proofs.YtjaigpidmngaaaaGreat
attribute [local irreducible] callA callP ACalls
abbrev kindsV : List (List AV) := [[.clo token_kinds_1.n [] [], .clo token_word.n [] []], [.clo token_digit.n [] [], .clo token_number.n [] []], [.clo token_kinds_2.n [] [], .clo token_text.n [] []], [.clo token_kinds_3.n [] [], .clo token_param.n [] []], [.clo token_kinds_4.n [] [], .clo token_sign.n [] []]]
theorem token_kinds_spec (H : AH) : ACalls PG token_kinds.n [] H fun r H' => r = .rows 2 kindsV ∧ H' = H := by
  refine token_kinds.of rfl (wpF_start ?_)
  (first | refine ah ?_ | exact ah0)
theorem TkK.opened {s : List UInt8} {at' id : Nat} {H : AH} {R : LR} {r : AV} {H2 : AH} (h : TkK s at' id H R r H2) : ∃ k t num a e p, r = .tup [tokA k t num a, fltA e p] ∧
    ∀ H0 H' : AH, (∀ b, hget H2 id = some b → hget H' id = some b) → Keep id H0 H' → TkK s at' id H0 R r H' := by
  cases hR : R with
  | tok k t num n =>
    obtain ⟨rfl, h2⟩ := h.tok k t num n hR
    exact ⟨k, t, num, at', 0, 0, rfl, fun H0 H' q1 q2 => .of_tok rfl (q1 _ h2) q2⟩
  | bad e off =>
    obtain ⟨k, t, num, a, rfl⟩ := h.bad e off hR
    exact ⟨k, t, num, a, e, _, rfl, fun H0 H' q1 q2 => .of_bad rfl q2⟩
theorem TkK.cong {s : List UInt8} {at' id : Nat} {H : AH} {R R' : LR} {r : AV} {H2 : AH} (h : TkK s at' id H R r H2) (e : R' = R) : TkK s at' id H R' r H2 := by rw [e]; exact h
theorem lex_word (c : UInt8) (r : List UInt8) (h : ltr c = true) : lex (c :: r) = .tok 1 ((c :: r).take (nl (c :: r))) 0 (nl (c :: r)) := by simp only [lex, h, if_true]
theorem lex_num (c : UInt8) (r : List UInt8) (h1 : ltr c = false) (h2 : dig c = true) : lex (c :: r) =
    (if 1 < dl (c :: r) ∧ (c :: r).getD 0 0 = 48 then .bad 1 0
      else if numV ((c :: r).take (dl (c :: r))) < 18446744073709551616 then .tok 2 ((c :: r).take (dl (c :: r))) (numV ((c :: r).take (dl (c :: r)))) (dl (c :: r))
      else .bad 7 0) := by
  simp only [lex, h1, h2, if_true, Bool.false_eq_true, if_false, List.getD_cons_zero]
theorem lex_text (r : List UInt8) : lex (39 :: r) = (match qs r 1 [] with
      | .done t n => .tok 3 t 0 n
      | .odd i => .bad 10 i
      | .short => .bad 2 0) := rfl
theorem lex_param (r : List UInt8) : lex (37 :: r) = (if 2 ≤ (37 :: r).length ∧ dig ((37 :: r).getD 1 0) = true then .tok 4 ((37 :: r).take 2) (((37 :: r).getD 1 0).toNat - 48) 2 else .bad 11 0) := by
  cases r with
  | nil => rfl
  | cons d r =>
    simp only [List.getD_cons_succ, List.getD_cons_zero, List.take_succ_cons, List.take_zero, List.length_cons]
    show (if dig d = true then _ else _) = _
    by_cases h : dig d = true
    · rw [if_pos h, if_pos ⟨by omega, h⟩]
    · rw [if_neg h, if_neg (fun q => h q.2)]
theorem lex_sign (c : UInt8) (r : List UInt8) (h1 : ltr c = false) (h2 : dig c = false) (h3 : c ≠ 39) (h4 : c ≠ 37) (h5 : sgn c = true) : lex (c :: r) = .tok 5 ((c :: r).take (if two (c :: r) then 2 else 1)) 0 (if two (c :: r) then 2 else 1) := by
  simp only [lex, h1, h2, h3, h4, h5, if_true, Bool.false_eq_true, if_false]
theorem lex_none (c : UInt8) (r : List UInt8) (h1 : ltr c = false) (h2 : dig c = false) (h3 : c ≠ 39) (h4 : c ≠ 37) (h5 : sgn c = false) : lex (c :: r) = .bad 11 0 := by
  simp only [lex, h1, h2, h3, h4, h5, Bool.false_eq_true, if_false]
theorem lexer_next_spec {s : List UInt8} {at' id : Nat} {H : AH} (hg : hget H id = some (lx s at')) (ha : at' < s.length) (hs : s.length ≤ 140737488351232) :
    ACalls PG token_lexer_next.n [.ptr id 2 0 0] H (TkK s at' id H (lex (s.drop at'))) := by
  have hdr : s.drop at' = s.getD at' 0 :: s.drop (at' + 1) := drop_at s 0 at' ha
  refine token_lexer_next.of rfl (wpF_start ?_)
  (first | refine ah ?_ | exact ah0)
  intro id2 hid2 ht2
  (first | refine ah ?_ | exact ah0)
  intro id3 hid3 ht3
  have tw := Two.mk' hg hid2 hid3
  generalize ((id3, Blk.rows [AV.int .i64 0, AV.int .i64 0].length [[AV.int .i64 0, AV.int .i64 0]]) :: (id2, Blk.rows [AV.int .i64 0, AV.str [], AV.int .u64 0, AV.int .i64 0].length [[AV.int .i64 0, AV.str [], AV.int .u64 0, AV.int .i64 0]]) :: H) = H1 at *
  have hg1 := tw.keep _ _ hg
  have hg1' : hget H1 id = some (.rows 2 [[.str s, .int .i64 (at' : Nat)]]) := hg1
  have n2 := tw.n2
  have n3 := tw.n3
  have n32 := tw.n32
  have g2 : hget H1 id2 = some (.rows 4 [[.int .i64 0, .str [], .int .u64 0, .int .i64 0]]) := tw.g2
  have g3 : hget H1 id3 = some (.rows 2 [[.int .i64 0, .int .i64 0]]) := tw.g3
  (first | refine ah ?_ | exact ah0)
  refine callF_eq (token_kinds_spec _) ?_
  (first | refine ah ?_ | exact ah0)
  generalize hc : s.getD at' 0 = c at *
  refine ⟨fun n L H' => ∃ i : Nat, n = 5 - i ∧ i ≤ 5 ∧ L = [(0, some (.ptr id 2 0 0)), (2, some (.ptr id2 4 0 0)), (3, some (.ptr id3 2 0 0)), (6, some (.rows 2 kindsV)), (7, some (.int .i64 5)), (8, some (.int .i64 i))] ∧ H' = H1 ∧
    (0 < i → ltr c = false) ∧ (1 < i → dig c = false) ∧ (2 < i → c ≠ 39) ∧ (3 < i → c ≠ 37) ∧ (4 < i → sgn c = false), ⟨_, H1, ?_, Sub.refl _, _, 0, rfl, Nat.zero_le _, rfl, rfl, (fun h => by omega), (fun h => by omega), (fun h => by omega), (fun h => by omega), (fun h => by omega)⟩, ?_⟩
  · exact (by exact cov_of)
  · rintro n L H' ⟨i, rfl, hi, rfl, rfl, w1, w2, w3, w4, w5⟩
    rcases (show i = 0 ∨ i = 1 ∨ i = 2 ∨ i = 3 ∨ i = 4 ∨ i = 5 from by omega) with rfl | rfl | rfl | rfl | rfl | rfl
    · (first | refine ah ?_ | exact ah0)
      intro id5 hid5 ht5
      have f5 : id5 ≠ id := hget_ne_of hid5 hg1
      have f52 : id5 ≠ id2 := hget_ne_of hid5 g2
      have f53 : id5 ≠ id3 := hget_ne_of hid5 g3
      (first | refine ah ?_ | exact ah0)
      rw [Int.toNat_natCast, hc]
      refine callF_eq (kinds1_spec c _) ?_
      (first | refine ah ?_ | exact ah0)
      refine bsplit_intro (fun e => ?_) (fun e => ?_)
      · (first | refine ah ?_ | exact ah0)
        refine callF_of ((token_word_spec (s := s) (at' := at') (by exact hg_of) (by omega) hs).mono fun rr H2 hh => ?_)
        replace hh := hh.cong (R' := lex (s.drop at')) (by rw [hdr, lex_word c _ e])
        have k2 := hh.keep id2 _ n2 ((hget_tail f52).trans g2)
        have k3 := hh.keep id3 _ n3 ((hget_tail f53).trans g3)
        obtain ⟨k, t, num, a, e', p, rfl, fin⟩ := hh.opened
        (first | refine ah ?_ | exact ah0)
        refine fin H _ (fun b q => by exact hg_of) (fun j b q r => ?_)
        have r1 := tw.keep j b r
        have q5 := hget_ne_of hid5 r1
        have r2 := hh.keep j b q ((hget_tail q5).trans r1)
        obtain ⟨q2, q3⟩ := tw.new j b r
        exact hg_of
      · (first | refine ah ?_ | exact ah0)
        refine ⟨[(0, some (.ptr id 2 0 0)), (2, some (.ptr id2 4 0 0)), (3, some (.ptr id3 2 0 0)), (6, some (.rows 2 kindsV)), (7, some (.int .i64 5)), (8, some (.int .i64 (1 : Nat)))], H', (by exact cov_of), Sub.skip (Sub.refl _) hid5, _, ?_, 1, rfl, by omega, rfl, rfl, (fun _ => e), (fun h => by omega), (fun h => by omega), (fun h => by omega), (fun h => by omega)⟩
        omega
    · (first | refine ah ?_ | exact ah0)
      intro id5 hid5 ht5
      have f5 : id5 ≠ id := hget_ne_of hid5 hg1
      have f52 : id5 ≠ id2 := hget_ne_of hid5 g2
      have f53 : id5 ≠ id3 := hget_ne_of hid5 g3
      (first | refine ah ?_ | exact ah0)
      rw [Int.toNat_natCast, hc]
      refine callF_eq (token_digit_spec c _) ?_
      (first | refine ah ?_ | exact ah0)
      refine bsplit_intro (fun e => ?_) (fun e => ?_)
      · (first | refine ah ?_ | exact ah0)
        refine callF_of ((token_number_spec (s := s) (at' := at') (by exact hg_of) (by omega) (by rw [hdr]; exact e) hs).mono fun rr H2 hh => ?_)
        replace hh := hh.cong (R' := lex (s.drop at')) (by rw [hdr, lex_num c _ (w1 (by omega)) e])
        have k2 := hh.keep id2 _ n2 ((hget_tail f52).trans g2)
        have k3 := hh.keep id3 _ n3 ((hget_tail f53).trans g3)
        obtain ⟨k, t, num, a, e', p, rfl, fin⟩ := hh.opened
        (first | refine ah ?_ | exact ah0)
        refine fin H _ (fun b q => by exact hg_of) (fun j b q r => ?_)
        have r1 := tw.keep j b r
        have q5 := hget_ne_of hid5 r1
        have r2 := hh.keep j b q ((hget_tail q5).trans r1)
        obtain ⟨q2, q3⟩ := tw.new j b r
        exact hg_of
      · (first | refine ah ?_ | exact ah0)
        refine ⟨[(0, some (.ptr id 2 0 0)), (2, some (.ptr id2 4 0 0)), (3, some (.ptr id3 2 0 0)), (6, some (.rows 2 kindsV)), (7, some (.int .i64 5)), (8, some (.int .i64 (2 : Nat)))], H', (by exact cov_of), Sub.skip (Sub.refl _) hid5, _, ?_, 2, rfl, by omega, rfl, rfl, (fun _ => w1 (by omega)), (fun _ => e), (fun h => by omega), (fun h => by omega), (fun h => by omega)⟩
        omega
    · (first | refine ah ?_ | exact ah0)
      intro id5 hid5 ht5
      have f5 : id5 ≠ id := hget_ne_of hid5 hg1
      have f52 : id5 ≠ id2 := hget_ne_of hid5 g2
      have f53 : id5 ≠ id3 := hget_ne_of hid5 g3
      (first | refine ah ?_ | exact ah0)
      rw [Int.toNat_natCast, hc]
      refine callF_eq (kinds2_spec c _) ?_
      (first | refine ah ?_ | exact ah0)
      refine bsplit_dec (fun e => ?_) (fun e => ?_)
      · (first | refine ah ?_ | exact ah0)
        refine callF_of ((token_text_spec (s := s) (at' := at') (by exact hg_of) (by omega) hs).mono fun rr H2 hh => ?_)
        replace hh := hh.cong (R' := lex (s.drop at')) (by rw [hdr, e]; exact lex_text _)
        have k2 := hh.keep id2 _ n2 ((hget_tail f52).trans g2)
        have k3 := hh.keep id3 _ n3 ((hget_tail f53).trans g3)
        obtain ⟨k, t, num, a, e', p, rfl, fin⟩ := hh.opened
        (first | refine ah ?_ | exact ah0)
        refine fin H _ (fun b q => by exact hg_of) (fun j b q r => ?_)
        have r1 := tw.keep j b r
        have q5 := hget_ne_of hid5 r1
        have r2 := hh.keep j b q ((hget_tail q5).trans r1)
        obtain ⟨q2, q3⟩ := tw.new j b r
        exact hg_of
      · (first | refine ah ?_ | exact ah0)
        refine ⟨[(0, some (.ptr id 2 0 0)), (2, some (.ptr id2 4 0 0)), (3, some (.ptr id3 2 0 0)), (6, some (.rows 2 kindsV)), (7, some (.int .i64 5)), (8, some (.int .i64 (3 : Nat)))], H', (by exact cov_of), Sub.skip (Sub.refl _) hid5, _, ?_, 3, rfl, by omega, rfl, rfl, (fun _ => w1 (by omega)), (fun _ => w2 (by omega)), (fun _ => e), (fun h => by omega), (fun h => by omega)⟩
        omega
    · (first | refine ah ?_ | exact ah0)
      intro id5 hid5 ht5
      have f5 : id5 ≠ id := hget_ne_of hid5 hg1
      have f52 : id5 ≠ id2 := hget_ne_of hid5 g2
      have f53 : id5 ≠ id3 := hget_ne_of hid5 g3
      (first | refine ah ?_ | exact ah0)
      rw [Int.toNat_natCast, hc]
      refine callF_eq (kinds3_spec c _) ?_
      (first | refine ah ?_ | exact ah0)
      refine bsplit_dec (fun e => ?_) (fun e => ?_)
      · (first | refine ah ?_ | exact ah0)
        refine callF_of ((token_param_spec (s := s) (at' := at') (by exact hg_of) (by omega) hs).mono fun rr H2 hh => ?_)
        replace hh := hh.cong (R' := lex (s.drop at')) (by rw [hdr, e]; exact lex_param _)
        have k2 := hh.keep id2 _ n2 ((hget_tail f52).trans g2)
        have k3 := hh.keep id3 _ n3 ((hget_tail f53).trans g3)
        obtain ⟨k, t, num, a, e', p, rfl, fin⟩ := hh.opened
        (first | refine ah ?_ | exact ah0)
        refine fin H _ (fun b q => by exact hg_of) (fun j b q r => ?_)
        have r1 := tw.keep j b r
        have q5 := hget_ne_of hid5 r1
        have r2 := hh.keep j b q ((hget_tail q5).trans r1)
        obtain ⟨q2, q3⟩ := tw.new j b r
        exact hg_of
      · (first | refine ah ?_ | exact ah0)
        refine ⟨[(0, some (.ptr id 2 0 0)), (2, some (.ptr id2 4 0 0)), (3, some (.ptr id3 2 0 0)), (6, some (.rows 2 kindsV)), (7, some (.int .i64 5)), (8, some (.int .i64 (4 : Nat)))], H', (by exact cov_of), Sub.skip (Sub.refl _) hid5, _, ?_, 4, rfl, by omega, rfl, rfl, (fun _ => w1 (by omega)), (fun _ => w2 (by omega)), (fun _ => w3 (by omega)), (fun _ => e), (fun h => by omega)⟩
        omega
    · (first | refine ah ?_ | exact ah0)
      intro id5 hid5 ht5
      have f5 : id5 ≠ id := hget_ne_of hid5 hg1
      have f52 : id5 ≠ id2 := hget_ne_of hid5 g2
      have f53 : id5 ≠ id3 := hget_ne_of hid5 g3
      (first | refine ah ?_ | exact ah0)
      rw [Int.toNat_natCast, hc]
      refine callF_eq (kinds4_spec c _) ?_
      (first | refine ah ?_ | exact ah0)
      refine bsplit_intro (fun e => ?_) (fun e => ?_)
      · (first | refine ah ?_ | exact ah0)
        refine callF_of ((token_sign_spec (s := s) (at' := at') (by exact hg_of) (by omega) hs).mono fun rr H2 hh => ?_)
        replace hh := hh.cong (R' := lex (s.drop at')) (by rw [hdr, lex_sign c _ (w1 (by omega)) (w2 (by omega)) (w3 (by omega)) (w4 (by omega)) e])
        have k2 := hh.keep id2 _ n2 ((hget_tail f52).trans g2)
        have k3 := hh.keep id3 _ n3 ((hget_tail f53).trans g3)
        obtain ⟨k, t, num, a, e', p, rfl, fin⟩ := hh.opened
        (first | refine ah ?_ | exact ah0)
        refine fin H _ (fun b q => by exact hg_of) (fun j b q r => ?_)
        have r1 := tw.keep j b r
        have q5 := hget_ne_of hid5 r1
        have r2 := hh.keep j b q ((hget_tail q5).trans r1)
        obtain ⟨q2, q3⟩ := tw.new j b r
        exact hg_of
      · (first | refine ah ?_ | exact ah0)
        refine ⟨[(0, some (.ptr id 2 0 0)), (2, some (.ptr id2 4 0 0)), (3, some (.ptr id3 2 0 0)), (6, some (.rows 2 kindsV)), (7, some (.int .i64 5)), (8, some (.int .i64 (5 : Nat)))], H', (by exact cov_of), Sub.skip (Sub.refl _) hid5, _, ?_, 5, rfl, by omega, rfl, rfl, (fun _ => w1 (by omega)), (fun _ => w2 (by omega)), (fun _ => w3 (by omega)), (fun _ => w4 (by omega)), (fun _ => e)⟩
        omega
    · (first | refine ah ?_ | exact ah0)
      rw [hdr, lex_none c _ (w1 (by omega)) (w2 (by omega)) (w3 (by omega)) (w4 (by omega)) (w5 (by omega))]
      refine TkK.of_bad rfl (fun j b q r => ?_)
      obtain ⟨q2, q3⟩ := tw.new j b r
      have := tw.keep j b r
      exact hg_of
end Go.Proofs.YtjaigpidmngaaaaGreat

namespace Go.Proofs.YtjaigpidmngaaaaGreat
theorem qs_bound : ∀ (m : Nat) (r : List UInt8) (i : Nat) (acc t : List UInt8) (n : Nat), r.length ≤ m → qs r i acc = .done t n → i < n ∧ n ≤ i + r.length
  | m, [], i, acc, t, n, _, h => by cases h
  | m, [c], i, acc, t, n, _, h => by
    simp only [qs] at h
    split at h
    · cases h
    · split at h
      · cases h; simp
      · cases h
  | 0, c :: d :: r, i, acc, t, n, hm, h => by simp at hm
  | m + 1, c :: d :: r, i, acc, t, n, hm, h => by
    simp only [List.length_cons] at hm ⊢
    simp only [qs] at h
    split at h
    · cases h
    · split at h
      · split at h
        · have := qs_bound m r _ _ t n (by omega) h
          omega
        · cases h; omega
      · have := qs_bound m (d :: r) _ _ t n (by simp; omega) h
        simp only [List.length_cons] at this
        omega
theorem lex_cons (c : UInt8) (r : List UInt8) : lex (c :: r) =
    if ltr c then .tok 1 ((c :: r).take (nl (c :: r))) 0 (nl (c :: r))
    else if dig c then
      if 1 < dl (c :: r) ∧ c = 48 then .bad 1 0
      else if numV ((c :: r).take (dl (c :: r))) < 18446744073709551616 then .tok 2 ((c :: r).take (dl (c :: r))) (numV ((c :: r).take (dl (c :: r)))) (dl (c :: r))
      else .bad 7 0
    else if c = 39 then match qs r 1 [] with
      | .done t n => .tok 3 t 0 n
      | .odd i => .bad 10 i
      | .short => .bad 2 0
    else if c = 37 then match r with
      | d :: _ => if dig d then .tok 4 [37, d] (d.toNat - 48) 2 else .bad 11 0
      | [] => .bad 11 0
    else if sgn c then .tok 5 ((c :: r).take (if two (c :: r) then 2 else 1)) 0 (if two (c :: r) then 2 else 1)
    else .bad 11 0 := rfl
theorem lex_bound {l : List UInt8} {k : Int} {t : List UInt8} {num n : Nat} (h : lex l = .tok k t num n) : 1 ≤ n ∧ n ≤ l.length := by
  cases l with
  | nil => cases h
  | cons c r =>
    rw [lex_cons] at h
    split at h
    · rename_i hc
      cases h
      refine ⟨?_, nl_le _⟩
      rw [nl_cons, if_pos hc]; omega
    · split at h
      · rename_i hd
        have h1 : 1 ≤ dl (c :: r) := (dl_step (s := c :: r) (n := 0) (Nat.zero_le _) (by simp)).2 hd
        split at h
        · cases h
        · split at h
          · cases h; exact ⟨h1, dl_le _⟩
          · cases h
      · split at h
        · split at h
          · rename_i e; cases h
            have := qs_bound _ _ _ _ _ _ (Nat.le_refl _) e
            simp only [List.length_cons]; omega
          · cases h
          · cases h
        · split at h
          · split at h
            · split at h
              · cases h; simp
              · cases h
            · cases h
          · split at h
            · cases h
              split
              · rename_i h2
                refine ⟨by omega, ?_⟩
                cases r with
                | nil => simp [two] at h2
                | cons d r => simp
              · simp
            · cases h
theorem lex_err {l : List UInt8} {e : Int} {off : Nat} (h : lex l = .bad e off) : 0 < e ∧ e < 100 := by
  cases l with
  | nil => cases h; decide
  | cons c r =>
    rw [lex_cons] at h
    repeat' split at h
    all_goals first | (cases h; decide) | cases h
inductive TR where
  | ok (l : List (Int × List UInt8 × Nat × Nat))
  | bad (e : Int) (p : Nat)
def TR.pre (l : List (Int × List UInt8 × Nat × Nat)) : TR → TR
  | .ok l' => .ok (l ++ l')
  | .bad e p => .bad e p
theorem TR.pre_pre (l l' : List (Int × List UInt8 × Nat × Nat)) (R : TR) : TR.pre l (TR.pre l' R) = TR.pre (l ++ l') R := by cases R <;> simp [TR.pre]
theorem TR.pre_nil (R : TR) : TR.pre [] R = R := by cases R <;> rfl
def tks (s : List UInt8) (a n : Nat) : TR :=
    if a < s.length then
      if blnk (s.getD a 0) then tks s (a + 1) n
      else match lex (s.drop a) with
        | .bad e off => .bad e (a + off)
        | .tok k t num m => if n = 64 then .bad 3 a else TR.pre [(k, t, num, a)] (tks s (a + (m - 1) + 1) (n + 1))
    else .ok [(6, [], 0, s.length)]
  termination_by s.length - a
  decreasing_by all_goals omega
theorem tks_end {s : List UInt8} {a n : Nat} (h : s.length ≤ a) : tks s a n = .ok [(6, [], 0, s.length)] := by
  rw [tks, if_neg (by omega)]
theorem tks_eq {s : List UInt8} {a n : Nat} (h : a < s.length) : tks s a n =
    if blnk (s.getD a 0) then tks s (a + 1) n
      else match lex (s.drop a) with
        | .bad e off => .bad e (a + off)
        | .tok k t num m => if n = 64 then .bad 3 a else TR.pre [(k, t, num, a)] (tks s (a + m) (n + 1)) := by
  rw [tks, if_pos h]
  split
  · rfl
  · split
    · rfl
    · rename_i k t num m e
      have := lex_bound e
      rw [show a + (m - 1) + 1 = a + m from by omega]
def tokens (s : List UInt8) : TR := if 256 < s.length then .bad 3 0 else tks s 0 0
end Go.Proofs.YtjaigpidmngaaaaGreat

namespace Go.Proofs.YtjaigpidmngaaaaGreat
attribute [local irreducible] callA callP ACalls
structure OwnS (H : AH) (T sz : Nat) (v : AV) (l : List (List AV)) : Prop where
  or : (v = .nilS ∧ l = []) ∨ ∃ id, v = .own id sz 0 l.length ∧ hget H id = some (.rows sz l) ∧ tag id = T ∧ 0 < l.length
abbrev tkR (x : Int × List UInt8 × Nat × Nat) : List AV := [.int .i64 x.1, .str x.2.1, .int .u64 (x.2.2.1 : Nat), .int .i64 (x.2.2.2 : Nat)]
theorem tkR_len (l : List (Int × List UInt8 × Nat × Nat)) : ∀ (i : Nat) r, (l.map tkR)[i]? = some r → r.length = 4 := by
  intro i r h
  rw [List.getElem?_map] at h
  cases hh : l[i]? with
  | none => rw [hh] at h; cases h
  | some x => rw [hh] at h; simp at h; rw [← h]; rfl
structure TS (s : List UInt8) (id3 id4 at' : Nat) (v : AV) (l : List (Int × List UInt8 × Nat × Nat)) (H : AH) : Prop where
  g4 : hget H id4 = some (.rows 2 [[.str s, .int .i64 (at' : Nat)]])
  g3 : hget H id3 = some (.rows 2 [[.int .i64 0, .int .i64 0]])
  n : id3 ≠ id4
  s : OwnS H ty_api_Token 4 v (l.map tkR)
  len : l.length ≤ 64
theorem TS.own {s : List UInt8} {id3 id4 at' : Nat} {v : AV} {l : List (Int × List UInt8 × Nat × Nat)} {H : AH} (h : TS s id3 id4 at' v l H) : (v = .nilS ∧ l = []) ∨ ∃ id, v = .own id 4 0 l.length ∧ hget H id = some (.rows 4 (l.map tkR)) ∧ tag id = ty_api_Token ∧ 0 < l.length ∧ id ≠ id3 ∧ id ≠ id4 := by
  rcases h.s.or with ⟨q1, q2⟩ | ⟨id, q1, q2, q3, q4⟩
  · exact .inl ⟨q1, by simpa using q2⟩
  · refine .inr ⟨id, by rw [q1, List.length_map], q2, q3, by simpa using q4, fun e => ?_, fun e => ?_⟩
    · rw [e, h.g3] at q2; cases q2
    · rw [e, h.g4] at q2; cases q2
theorem TS.step {s : List UInt8} {id3 id4 at' b' : Nat} {v : AV} {l : List (Int × List UInt8 × Nat × Nat)} {H : AH} (h : TS s id3 id4 at' v l H) : TS s id3 id4 b' v l (hset H id4 (.rows 2 [[.str s, .int .i64 (b' : Nat)]])) := by
  refine ⟨hget_set h.g4, (hget_set_ne h.n).trans h.g3, h.n, ⟨?_⟩, h.len⟩
  rcases h.own with ⟨q1, q2⟩ | ⟨id, q1, q2, q3, q4, q5, q6⟩
  · exact .inl ⟨q1, by rw [q2]; rfl⟩
  · exact .inr ⟨id, by rw [q1, List.length_map], (hget_set_ne q6).trans q2, q3, by simpa using q4⟩
structure TokO (R : TR) (r : AV) (H : AH) : Prop where
  ok : ∀ l, R = .ok l → ∃ id, r = .tup [.own id 4 0 l.length, fltA 0 0] ∧ hget H id = some (.rows 4 (l.map tkR))
  bad : ∀ e p, R = .bad e p → r = .tup [.nilS, fltA e (p : Nat)]
theorem TokO.of_bad {e : Int} {p : Nat} {r : AV} {H : AH} (h : r = .tup [.nilS, fltA e (p : Nat)]) : TokO (.bad e p) r H := ⟨(fun _ q => by cases q), fun e p q => by cases q; exact h⟩
theorem TokO.of_ok {l : List (Int × List UInt8 × Nat × Nat)} {r : AV} {H : AH} {id : Nat} (h : r = .tup [.own id 4 0 l.length, fltA 0 0]) (h2 : hget H id = some (.rows 4 (l.map tkR))) : TokO (.ok l) r H :=
  ⟨fun _ q => by cases q; exact ⟨id, h, h2⟩, fun _ _ q => by cases q⟩
def bl (s : List UInt8) (a : Nat) : Nat := ((s.drop a).takeWhile blnk).length
theorem bl_step {s : List UInt8} {a i : Nat} (hi : i ≤ bl s a) (h : a + i < s.length) : i < bl s a ↔ blnk (s.getD (a + i) 0) = true := by
  have := tw_step (f := blnk) (r := s.drop a) (n := i) hi (by rw [List.length_drop]; omega)
  rw [show (s.drop a).getD i 0 = s.getD (a + i) 0 from by simp [List.getD]] at this
  exact this
theorem bl_stop (s : List UInt8) (a : Nat) : a + bl s a < s.length → blnk (s.getD (a + bl s a) 0) = false := fun h => by
  have := bl_step (Nat.le_refl (bl s a)) h
  cases hh : blnk (s.getD (a + bl s a) 0) with
  | false => rfl
  | true => exact absurd (this.2 hh) (Nat.lt_irrefl _)
theorem tks_skip (s : List UInt8) (a n : Nat) : tks s a n = tks s (a + bl s a) n := by
  have key : ∀ i, i ≤ bl s a → tks s a n = tks s (a + i) n := by
    intro i
    induction i with
    | zero => intro _; rfl
    | succ i ih =>
      intro h
      rw [ih (by omega)]
      have hl : a + i < s.length := by
        have := (List.takeWhile_prefix (l := s.drop a) blnk).length_le
        rw [List.length_drop] at this
        unfold bl at h
        omega
      rw [tks_eq hl, if_pos ((bl_step (by omega) hl).1 (by omega))]
      rfl
  exact key _ (Nat.le_refl _)
set_option maxHeartbeats 1000000 in
theorem Tokens_spec0 {s : List UInt8} (hs : s.length ≤ 140737488351232) : ACalls PG token_Tokens.n [.str s] [] (TokO (tokens s)) := by
  refine token_Tokens.of rfl (wpF_start ?_)
  unfold tokens
  (first | refine ah ?_ | exact ah0)
  intro id3 hid3 ht3
  (first | refine ah ?_ | exact ah0)
  refine bsplit_dec (fun e1 => ?_) (fun e1 => ?_)
  · (first | refine ah ?_ | exact ah0)
    rw [if_pos (by omega)]
    exact TokO.of_bad rfl
  · rw [if_neg (by omega)]
    have hle : s.length ≤ 256 := by omega
    (first | refine ah ?_ | exact ah0)
    intro id4 hid4 ht4
    have n34 : id3 ≠ id4 := (hget_fresh hid4).1.symm
    (first | refine ah ?_ | exact ah0)
    generalize hR : tks s 0 0 = R
    refine ⟨fun n L H' => ∃ (a : Nat) (v : AV) (l : List (Int × List UInt8 × Nat × Nat)), n = s.length - a ∧ a ≤ s.length ∧ TR.pre l (tks s a l.length) = R ∧ L = [(0, some (.str s)), (3, some (.ptr id3 2 0 0)), (4, some (.ptr id4 2 0 0)), (5, some v)] ∧ TS s id3 id4 a v l H',
      ⟨_, _, ?_, Sub.refl _, _, 0, .nilS, [], rfl, Nat.zero_le _, (TR.pre_nil _).trans hR, rfl, ?_⟩, ?_⟩
    · exact (by exact cov_of)
    · exact ⟨hget_self, (hget_tail n34.symm).trans hget_self, n34, ⟨.inl ⟨rfl, rfl⟩⟩, by simp⟩
    · clear hid3 hid4 hR
      rintro n L H' ⟨a, v, l, rfl, ha, hR, rfl, T⟩
      have g4 := T.g4
      have hbl : bl s a ≤ s.length - a := by
        have := (List.takeWhile_prefix (l := s.drop a) blnk).length_le
        rw [List.length_drop] at this
        exact this
      (first | refine ac ?_ | exact ac0)
      refine .inr ⟨[(0, some (.str s)), (3, some (.ptr id3 2 0 0)), (4, some (.ptr id4 2 0 0)), (5, some v)], hset H' id4 (.rows 2 [[.str s, .int .i64 (a + bl s a : Nat)]]), ?_, ?_⟩
      · (first | refine ah ?_ | exact ah0)
        refine ⟨fun n L H'' => ∃ i, n = bl s a - i ∧ i ≤ bl s a ∧ L = [(0, some (.str s)), (3, some (.ptr id3 2 0 0)), (4, some (.ptr id4 2 0 0)), (5, some v)] ∧ H'' = hset H' id4 (.rows 2 [[.str s, .int .i64 (a + i : Nat)]]), ⟨_, hset H' id4 (.rows 2 [[.str s, .int .i64 (a + 0 : Nat)]]), ?_, sub_hset g4 (fun _ _ _ q => q), _, 0, rfl, Nat.zero_le _, rfl, rfl⟩, ?_⟩
        · exact (by exact cov_of)
        · rintro n L H'' ⟨i, rfl, hi, rfl, rfl⟩
          have g : hget (hset H' id4 (.rows 2 [[.str s, .int .i64 (a + i : Nat)]])) id4 = some (.rows 2 [[.str s, .int .i64 (a + i : Nat)]]) := hget_set g4
          have hst := bl_step (s := s) (a := a) (i := i) hi
          (first | refine ah ?_ | exact ah0)
          refine bsplit_dec (fun e2 => ?_) (fun e2 => ?_)
          · (first | refine ah ?_ | exact ah0)
            refine callF_eq (token_blank_spec _ _) ?_
            rw [Int.toNat_natCast, show blnk (s.getD (a + i) 0) = decide (i < bl s a) from bool_iff (hst (by omega)).symm]
            (first | refine ah ?_ | exact ah0)
            refine bsplit_dec (fun e3 => ?_) (fun e3 => ?_)
            · (first | refine ah ?_ | exact ah0)
              refine ⟨[(0, some (.str s)), (3, some (.ptr id3 2 0 0)), (4, some (.ptr id4 2 0 0)), (5, some v)], hset H' id4 (.rows 2 [[.str s, .int .i64 (a + (i + 1) : Nat)]]), (by exact cov_of), ?_, _, ?_, i + 1, rfl, by omega, rfl, rfl⟩
              · rw [show ((a + (i + 1) : Nat) : Int) = ((a + i : Nat) : Int) + 1 from by omega]
                exact sub_hset (hget_set g) (fun j c q1 q2 => (hget_set_ne q1).trans ((hget_set_ne q1).trans q2))
              · omega
            · (first | refine ah ?_ | exact ah0)
              obtain rfl : i = bl s a := by omega
              exact ⟨(by exact cov_of), Sub.refl _⟩
          · (first | refine ah ?_ | exact ah0)
            obtain rfl : i = bl s a := by omega
            exact ⟨(by exact cov_of), Sub.refl _⟩
      · rw [tks_skip] at hR
        have hnb := bl_stop s a
        have ha' : a + bl s a ≤ s.length := by omega
        have T1 := T.step (b' := a + bl s a)
        have hle1 : a ≤ a + bl s a := Nat.le_add_right _ _
        generalize a + bl s a = a1 at *
        generalize hset H' id4 (.rows 2 [[.str s, .int .i64 (a1 : Nat)]]) = H1 at *
        clear T g4
        have g4 := T1.g4
        have g3 := T1.g3
        (first | refine ah ?_ | exact ah0)
        refine bsplit_dec (fun e2 => ?_) (fun e2 => ?_)
        · rw [tks_end (by omega)] at hR
          subst hR
          rcases T1.own with ⟨rfl, rfl⟩ | ⟨ids, rfl, gs, ts, pos, ns3, ns4⟩
          · obtain rfl : a1 = s.length := by omega
            (first | refine ah ?_ | exact ah0)
            refine ⟨_, rfl, by simp, (fun e => by cases e), fun _ => ?_⟩
            intro idn hidn htn
            have nn3 := hget_ne_of hidn g3
            (first | refine ah ?_ | exact ah0)
            exact TokO.of_ok (l := [(6, [], 0, s.length)]) rfl hget_self
          · obtain rfl : a1 = s.length := by omega
            have len := T1.len
            have exs : (((l.map tkR).take l.length).drop 0) = l.map tkR := by rw [List.drop_zero, show l.length = (l.map tkR).length from by simp, List.take_length]
            (first | refine ah ?_ | exact ah0)
            refine ⟨_, _, (readS_own gs (by simp)).trans (congrArg some exs), rfl, rfl, rfl, ts, by simp; omega, ?_⟩
            intro idn hidn htn
            have nn3 := hget_ne_of hidn g3
            (first | refine ah ?_ | exact ah0)
            refine TokO.of_ok (l := l ++ [(6, [], 0, s.length)]) (id := idn) ?_ ?_
            · have hln : (l ++ [((6 : Int), ([] : List UInt8), 0, s.length)]).length = (l.map tkR).length + 1 := by simp
              rw [hln]
              rfl
            · rw [List.map_append]
              exact hget_self
        · have hlt : a1 < s.length := by omega
          rw [tks_eq hlt, hnb hlt, if_neg (by decide)] at hR
          (first | refine ah ?_ | exact ah0)
          refine callF_of ((lexer_next_spec (s := s) (at' := a1) g4 hlt hs).mono fun rr H2 hh => ?_)
          have k3 := hh.keep id3 _ n34 g3
          cases hx : lex (s.drop a1) with
          | bad e off =>
            obtain ⟨k, t, num, ap, rfl⟩ := hh.bad e off hx
            have := lex_err hx
            rw [hx] at hR
            subst hR
            (first | refine ah ?_ | exact ah0)
            intro id7 hid7 ht7
            (first | refine ah ?_ | exact ah0)
            intro id8 hid8 ht8
            have n73 := hget_ne_of hid7 k3
            have n83 := hget_ne_of hid8 ((hget_tail n73).trans k3)
            have n87 := (hget_fresh hid8).1
            (first | refine ah ?_ | exact ah0)
            exact TokO.of_bad rfl
          | tok k t num m =>
            obtain ⟨rfl, g4n⟩ := hh.tok k t num m hx
            have bd := lex_bound hx
            rw [List.length_drop] at bd
            rw [hx] at hR
            (first | refine ah ?_ | exact ah0)
            intro id7 hid7 ht7
            (first | refine ah ?_ | exact ah0)
            intro id8 hid8 ht8
            have n73 := hget_ne_of hid7 k3
            have n83 := hget_ne_of hid8 ((hget_tail n73).trans k3)
            have n87 := (hget_fresh hid8).1
            have n74 := hget_ne_of hid7 g4n
            have n84 := hget_ne_of hid8 ((hget_tail n74).trans g4n)
            have len := T1.len
            replace hR : TR.pre l (if l.length = 64 then TR.bad 3 a1 else TR.pre [(k, t, num, a1)] (tks s (a1 + m) (l.length + 1))) = R := hR
            by_cases h64 : l.length = 64
            · rw [if_pos h64] at hR
              subst hR
              rcases T1.own with ⟨rfl, rfl⟩ | ⟨ids, rfl, gs, ts, pos, ns3, ns4⟩
              · cases h64
              · (first | refine ah ?_ | exact ah0)
                exact TokO.of_bad rfl
            · rw [if_neg h64, TR.pre_pre] at hR
              have hln : (l ++ [(k, t, num, a1)]).length = l.length + 1 := by simp
              rw [← hln] at hR
              rcases T1.own with ⟨rfl, rfl⟩ | ⟨ids, rfl, gs, ts, pos, ns3, ns4⟩
              · (first | refine ah ?_ | exact ah0)
                refine ⟨_, rfl, by simp, (fun e => by cases e), fun _ => ?_⟩
                intro idn hidn htn
                (first | refine ah ?_ | exact ah0)
                refine ⟨[(0, some (.str s)), (3, some (.ptr id3 2 0 0)), (4, some (.ptr id4 2 0 0)), (5, some (.own idn 4 0 1))], _, (by exact cov_of), Sub.refl _, _, ?_, a1 + m, _, _, rfl, by omega, hR, rfl, ?_⟩
                · omega
                · have q8 := (hget_fresh hidn)
                  have q7 := (hget_fresh q8.2)
                  have m4 := hget_ne_of q7.2 g4n
                  have m3 := hget_ne_of q7.2 k3
                  exact ⟨by exact hg_of, by exact hg_of, n34, ⟨.inr ⟨idn, rfl, hget_self, htn, by simp⟩⟩, by simp⟩
              · have exs : (((l.map tkR).take l.length).drop 0) = l.map tkR := by rw [List.drop_zero, show l.length = (l.map tkR).length from by simp, List.take_length]
                have gs2 := hh.keep ids _ ns4 gs
                have n7s := hget_ne_of hid7 gs2
                have n8s := hget_ne_of hid8 ((hget_tail n7s).trans gs2)
                (first | refine ah ?_ | exact ah0)
                refine ⟨_, _, (readS_own (by exact hg_of) (by simp)).trans (congrArg some exs), rfl, rfl, rfl, ts, by simp; omega, ?_⟩
                intro idn hidn htn
                have q0 : ∀ j b, j ≠ ids → j ≠ id7 → j ≠ id8 → hget H2 j = some b → idn ≠ j := fun j b r1 r2 r3 r4 => hget_ne_of hidn (show hget _ j = some b by exact hg_of)
                (first | refine ah ?_ | exact ah0)
                have m4 := q0 id4 _ ns4.symm n74.symm n84.symm g4n
                have m3 := q0 id3 _ ns3.symm n73.symm n83.symm k3
                refine ⟨[(0, some (.str s)), (3, some (.ptr id3 2 0 0)), (4, some (.ptr id4 2 0 0)), (5, some (.own idn 4 0 ((l.map tkR).length + 1)))], _, (by exact cov_of), Sub.refl _, _, ?_, a1 + m, _, _, rfl, by omega, hR, rfl, ?_⟩
                · omega
                · exact ⟨by exact hg_of, by exact hg_of, n34, ⟨.inr ⟨idn, by simp, by rw [List.map_append]; exact hget_self, htn, by simp⟩⟩, by simp; omega⟩
end Go.Proofs.YtjaigpidmngaaaaGreat

namespace Go.Proofs.YtjaigpidmngaaaaGreat
def signs : List (List UInt8) := [[61], [60, 62], [60], [60, 61], [62], [62, 61], [40], [41], [46], [91], [93], [45]]
def qdr : List UInt8 → List UInt8 → Option (List UInt8)
  | [], _ => none
  | [c], acc => if c = 39 then some acc else none
  | c :: d :: r, acc => if c = 39 then (if d = 39 then qdr r (acc ++ [39]) else none) else qdr (d :: r) (acc ++ [c])
def qd (s : List UInt8) : Option (List UInt8) := if s.getD 0 0 = 39 ∧ 2 ≤ s.length then qdr (s.drop 1) [] else none
def kd (s : List UInt8) : Nat :=
  if nl s = s.length then 1 else if s ≠ [] ∧ s.all dig = true then 2 else if (qd s).isSome = true then 3
  else if s.length = 2 ∧ s.getD 0 0 = 37 ∧ dig (s.getD 1 0) = true then 4 else if signs.contains s = true then 5 else 0
def lg (s : List UInt8) : Nat → Nat → Nat → Nat → Nat × Nat
  | 0, _, best, k => if k = 3 then (0, 0) else (best, k)
  | m + 1, n, best, k =>
    if kd (s.take n) = 3 ∧ (n = s.length ∨ s.getD n 0 ≠ 39) then (n, 3)
    else if s.getD 0 0 ≠ 39 ∧ kd (s.take n) = 0 ∧ 1 < n then (best, k)
    else if 0 < kd (s.take n) then lg s m (n + 1) n (kd (s.take n)) else lg s m (n + 1) best k
def longest (s : List UInt8) : Nat × Nat := lg s s.length 1 0 0
end Go.Proofs.YtjaigpidmngaaaaGreat

namespace Go.Proofs.YtjaigpidmngaaaaGreat
attribute [local irreducible] callA callP ACalls
theorem itemIx_lt {l : List Ty} {t : Int} {nm : List UInt8} {n : Nat} (h : itemIx l t nm = some n) : n < (tAt l t).its.length := by
  unfold itemIx at h
  split at h
  · exact (List.findIdx?_eq_some_iff_getElem.1 h).1
  · cases h
end Go.Proofs.YtjaigpidmngaaaaGreat

namespace Go.Proofs.YtjaigpidmngaaaaGreat
attribute [local irreducible] callA callP ACalls
abbrev psB (l : List Tok) (σ : PSt) : Blk := .rows 5 [[.rows 4 (l.map tkR), .int .i64 (σ.p : Nat), .int .i64 (σ.n : Nat), .int .i64 σ.e, .int .i64 σ.a]]
abbrev tkA (t : Tok) : AV := .agg (tkR t)
theorem tk_get {l : List Tok} {i : Nat} (h : i < l.length) : (l.map tkR).getD i [] = tkR (tk l i) := by
  simp [tk, List.getD, h]
theorem now_spec {l : List Tok} (w : Wt l) {σ : PSt} (h : σ.p < l.length) (id : Nat) : SW PG expr_parser_now.n [.ptr id 5 0 0] id (psB l σ) [] (tkA (tk l σ.p)) (psB l σ) := by
  have hw := w.len
  have hl : (l.map tkR).length = l.length := by simp
  refine ACalls.fz (expr_parser_now.of rfl (wpF_start ?_))
  (first | refine au ?_ | exact au0)
  intro id2 hid2 ht2; have n2 := neAll_of hid2; (try simp only [neAll, neAll_hset] at n2); have m2 := n2; (repeat (obtain ⟨_, m2⟩ := m2))
  (first | refine au ?_ | exact au0)
  rw [show (Int.toNat (σ.p : Nat)) = σ.p from rfl, tk_get h]
  (first | refine au ?_ | exact au0)
  exact ⟨fz_of, sub_of⟩
theorem bad_spec (l : List Tok) (σ : PSt) (id : Nat) : SW PG expr_parser_bad.n [.ptr id 5 0 0] id (psB l σ) [] (.bool (decide (σ.e ≠ 0))) (psB l σ) := by
  refine ACalls.fz (expr_parser_bad.of rfl (wpF_start ?_))
  (first | refine au ?_ | exact au0)
  exact ⟨fz_of, sub_of⟩
theorem fail_spec {l : List Tok} (w : Wt l) {σ : PSt} (h : σ.p < l.length) (id : Nat) (e : Int) : SW PG expr_parser_fail.n [.ptr id 5 0 0, .int .i64 e] id (psB l σ) [] (.tup []) (psB l (σ.fail l e)) := by
  refine ACalls.fz (expr_parser_fail.of rfl (wpF_start ?_))
  unfold PSt.fail
  (first | refine au ?_ | exact au0)
  refine bsplit_dec (fun h1 => ?_) (fun h1 => ?_)
  · rw [if_pos h1]
    (first | refine au ?_ | exact au0)
    refine (now_spec w h id).call (by exact hg_of) (Sub.nil _) ?_
    (first | refine au ?_ | exact au0)
    exact ⟨fz_of, sub_of⟩
  · rw [if_neg h1]
    (first | refine au ?_ | exact au0)
    exact ⟨fz_of, sub_of⟩
theorem is_spec {l : List Tok} (w : Wt l) {σ : PSt} (h : σ.p < l.length) (id : Nat) (k : Int) (s : List UInt8) : SW PG expr_parser_is.n [.ptr id 5 0 0, .int .i64 k, .str s] id (psB l σ) [] (.bool (isT l σ k s)) (psB l σ) := by
  refine ACalls.fz (expr_parser_is.of rfl (wpF_start ?_))
  unfold isT
  (first | refine au ?_ | exact au0)
  refine (now_spec w h id).call (by exact hg_of) (Sub.nil _) ?_
  (first | refine au ?_ | exact au0)
  intro id7 hid7 ht7; have n7 := neAll_of hid7; (try simp only [neAll, neAll_hset] at n7); have m7 := n7; (repeat (obtain ⟨_, m7⟩ := m7))
  (first | refine au ?_ | exact au0)
  refine bsplit_dec (fun h1 => ?_) (fun h1 => ?_)
  · rw [decide_eq_true h1]
    (first | refine au ?_ | exact au0)
    exact ⟨fz_of, sub_of⟩
  · rw [decide_eq_false h1]
    (first | refine au ?_ | exact au0)
    exact ⟨fz_of, sub_of⟩
theorem skip_spec {l : List Tok} (w : Wt l) {σ : PSt} (h : σ.p < l.length) (id : Nat) (k : Int) (s : List UInt8) : SW PG expr_parser_skip.n [.ptr id 5 0 0, .int .i64 k, .str s] id (psB l σ) [] (.bool (skb l σ k s)) (psB l (skp l σ k s)) := by
  have hw := w.len
  refine ACalls.fz (expr_parser_skip.of rfl (wpF_start ?_))
  unfold skp skb
  (first | refine au ?_ | exact au0)
  refine (bad_spec l σ id).call (by exact hg_of) (Sub.nil _) ?_
  (first | refine au ?_ | exact au0)
  refine bsplit_dec (fun h1 => ?_) (fun h1 => ?_)
  · rw [decide_eq_false h1]
    (first | refine au ?_ | exact au0)
    exact ⟨fz_of, sub_of⟩
  · rw [decide_eq_true (Classical.not_not.1 h1)]
    (first | refine au ?_ | exact au0)
    refine (is_spec w h id k s).call (by exact hg_of) (Sub.nil _) ?_
    cases hI : isT l σ k s with
    | true =>
      (first | refine au ?_ | exact au0)
      exact ⟨fz_of, sub_of⟩
    | false =>
      (first | refine au ?_ | exact au0)
      exact ⟨fz_of, sub_of⟩
theorem must_spec {l : List Tok} (w : Wt l) {σ : PSt} (h : σ.p < l.length) (id : Nat) (k : Int) (s : List UInt8) : SW PG expr_parser_must.n [.ptr id 5 0 0, .int .i64 k, .str s] id (psB l σ) [] (.tup []) (psB l (mst l σ k s)) := by
  refine ACalls.fz (expr_parser_must.of rfl (wpF_start ?_))
  unfold mst
  (first | refine au ?_ | exact au0)
  refine (skip_spec w h id k s).call (by exact hg_of) (Sub.nil _) ?_
  unfold skp
  cases hI : skb l σ k s with
  | true =>
    (first | refine au ?_ | exact au0)
    exact ⟨fz_of, sub_of⟩
  | false =>
    (first | refine au ?_ | exact au0)
    refine (fail_spec w h id 11).call (by exact hg_of) (Sub.nil _) ?_
    (first | refine au ?_ | exact au0)
    exact ⟨fz_of, sub_of⟩
theorem name_spec {l : List Tok} (w : Wt l) {σ : PSt} (h : σ.p < l.length) (id : Nat) : SW PG expr_parser_name.n [.ptr id 5 0 0] id (psB l σ) [] (.str (nm l σ).1) (psB l (nm l σ).2) := by
  have hw := w.len
  refine ACalls.fz (expr_parser_name.of rfl (wpF_start ?_))
  unfold nm nmB
  (first | refine au ?_ | exact au0)
  refine (now_spec w h id).call (by exact hg_of) (Sub.nil _) ?_
  (first | refine au ?_ | exact au0)
  intro id3 hid3 ht3; have n3 := neAll_of hid3; (try simp only [neAll, neAll_hset] at n3); have m3 := n3; (repeat (obtain ⟨_, m3⟩ := m3))
  (first | refine au ?_ | exact au0)
  refine (bad_spec l σ id).call (by exact hg_of) (Sub.nil _) ?_
  (first | refine au ?_ | exact au0)
  refine bsplit_dec (fun h1 => ?_) (fun h1 => ?_)
  · rw [decide_eq_false h1]
    (first | refine au ?_ | exact au0)
    refine (fail_spec w h id 11).call (by exact hg_of) (Sub.nil _) ?_
    (first | refine au ?_ | exact au0)
    exact ⟨fz_of, sub_of⟩
  · rw [decide_eq_true (Classical.not_not.1 h1)]
    (first | refine au ?_ | exact au0)
    refine bsplit_dec (fun h2 => ?_) (fun h2 => ?_)
    · rw [decide_eq_false h2]
      (first | refine au ?_ | exact au0)
      refine (fail_spec w h id 11).call (by exact hg_of) (Sub.nil _) ?_
      (first | refine au ?_ | exact au0)
      exact ⟨fz_of, sub_of⟩
    · rw [decide_eq_true (Classical.not_not.1 h2)]
      (first | refine au ?_ | exact au0)
      refine callF_eq (word_spec _ _) ?_
      cases hI : rsv.contains (tk l σ.p).2.1 with
      | true =>
        (first | refine au ?_ | exact au0)
        refine (fail_spec w h id 11).call (by exact hg_of) (Sub.nil _) ?_
        (first | refine au ?_ | exact au0)
        exact ⟨fz_of, sub_of⟩
      | false =>
        (first | refine au ?_ | exact au0)
        exact ⟨fz_of, sub_of⟩
theorem elem_spec {l : List Tok} (w : Wt l) {σ : PSt} (h : σ.p < l.length) (id : Nat) : SW PG expr_parser_elem.n [.ptr id 5 0 0] id (psB l σ) [] (.str (el l σ).1) (psB l (el l σ).2) := by
  have hw := w.len
  have h1 := Gd.mst w h (k := 5) (by decide) [91]
  have hx := w.txt (mst l σ 5 [91]).p
  refine ACalls.fz (expr_parser_elem.of rfl (wpF_start ?_))
  unfold el
  (first | refine au ?_ | exact au0)
  refine (must_spec w h id 5 [91]).call (by exact hg_of) (Sub.nil _) ?_
  (first | refine au ?_ | exact au0)
  refine (now_spec w h1.lt id).call (by exact hg_of) (Sub.nil _) ?_
  generalize mst l σ 5 [91] = τ at *
  have h1l := h1.lt
  (first | refine au ?_ | exact au0)
  intro id3 hid3 ht3; have n3 := neAll_of hid3; (try simp only [neAll, neAll_hset] at n3); have m3 := n3; (repeat (obtain ⟨_, m3⟩ := m3))
  (first | refine au ?_ | exact au0)
  refine bsplit_dec (fun h2 => ?_) (fun h2 => ?_)
  · rw [if_neg h2]
    (first | refine au ?_ | exact au0)
    refine (fail_spec w h1.lt id 11).call (by exact hg_of) (Sub.nil _) ?_
    (first | refine au ?_ | exact au0)
    exact ⟨fz_of, sub_of⟩
  · have h2' := Classical.not_not.1 h2
    rw [if_pos h2']
    have h3 := Gd.on w h1.lt (by rw [h2']; decide)
    (first | refine au ?_ | exact au0)
    refine (must_spec w h3.lt id 5 [93]).call (by exact hg_of) (Sub.nil _) ?_
    (first | refine au ?_ | exact au0)
    exact ⟨fz_of, sub_of⟩
end Go.Proofs.YtjaigpidmngaaaaGreat

namespace Go.Proofs.YtjaigpidmngaaaaGreat
attribute [local irreducible] callA callP ACalls
theorem nm_len {l : List Tok} (w : Wt l) (σ : PSt) : (nm l σ).1.length ≤ 256 := by
  unfold nm; split
  · exact w.txt _
  · simp
theorem el_len {l : List Tok} (w : Wt l) (σ : PSt) : (el l σ).1.length ≤ 258 := by
  unfold el; split
  · have := w.txt (mst l σ 5 [91]).p
    simp; omega
  · simp
theorem path_spec {l : List Tok} (w : Wt l) {σ : PSt} (h : σ.p < l.length) (id : Nat) : SW PG expr_parser_path.n [.ptr id 5 0 0] id (psB l σ) [] (.str (pth l σ).1) (psB l (pth l σ).2) := by
  have hw := w.len
  have hG := Gd.pth0 w h
  refine ACalls.fz (expr_parser_path.of rfl (wpF_start ?_))
  (first | refine ab ?_ | exact ab0)
  refine .inr ⟨[(0, some (.ptr id 5 0 0)), (3, some (.str (pth0 l σ).1))], [(id, psB l (pth0 l σ).2)], ?_, ?_⟩
  · unfold pth0
    (first | refine au ?_ | exact au0)
    refine (is_spec w h id 5 [91]).call (by exact hg_of) (Sub.nil _) ?_
    cases hI : isT l σ 5 [91] with
    | true =>
      (first | refine au ?_ | exact au0)
      refine (elem_spec w h id).call (by exact hg_of) (Sub.nil _) ?_
      (first | refine au ?_ | exact au0)
      exact ⟨(by exact cov_of), sub_of⟩
    | false =>
      (first | refine au ?_ | exact au0)
      refine (name_spec w h id).call (by exact hg_of) (Sub.nil _) ?_
      (first | refine au ?_ | exact au0)
      exact ⟨(by exact cov_of), sub_of⟩
  · unfold pth
    have hlen : (pth0 l σ).1.length ≤ 258 := by
      unfold pth0; split
      · exact el_len w σ
      · have := nm_len w σ; omega
    generalize hR : pthL l (l.length + 1) (pth0 l σ).1 (pth0 l σ).2 = R
    have hlt := hG.lt
    generalize hk : l.length + 1 = k at hR
    generalize (pth0 l σ).1 = s0 at *
    generalize (pth0 l σ).2 = τ0 at *
    (first | refine au ?_ | exact au0)
    refine ⟨fun n L H' => ∃ (τ : PSt) (s : List UInt8), τ.p < l.length ∧ l.length < τ.p + n ∧ s.length ≤ 258 + (l.length + 1) * 300 - n * 300 ∧ n ≤ l.length + 1 ∧ pthL l n s τ = R ∧ L = [(0, some (.ptr id 5 0 0)), (3, some (.str s))] ∧ H' = [(id, psB l τ)],
      ⟨_, _, ?_, Sub.refl _, k, τ0, s0, hlt, by omega, by omega, by omega, hR, rfl, rfl⟩, ?_⟩
    · exact (by exact cov_of)
    · clear hR hlt hlen hG hk
      rintro n L H' ⟨τ, s, hlt, hn, hs, hnk, hR, rfl, rfl⟩
      obtain ⟨n, rfl⟩ : ∃ m, n = m + 1 := ⟨n - 1, by omega⟩
      unfold pthL at hR
      (first | refine au ?_ | exact au0)
      refine (bad_spec l τ id).call (by exact hg_of) (Sub.nil _) ?_
      (first | refine au ?_ | exact au0)
      refine bsplit_dec (fun h1 => ?_) (fun h1 => ?_)
      · rw [if_neg h1] at hR
        subst hR
        (first | refine au ?_ | exact au0)
        exact ⟨fz_of, sub_of⟩
      · rw [if_pos (Classical.not_not.1 h1)] at hR
        (first | refine au ?_ | exact au0)
        refine (is_spec w hlt id 5 [91]).call (by exact hg_of) (Sub.nil _) ?_
        cases hI : isT l τ 5 [91] with
        | true =>
          rw [hI, if_pos rfl] at hR
          have h2 := Gd.el w hlt
          have h3 := el_len w τ
          (first | refine au ?_ | exact au0)
          refine (elem_spec w hlt id).call (by exact hg_of) (Sub.nil _) ?_
          (first | refine au ?_ | exact au0)
          refine ⟨[(0, some (.ptr id 5 0 0)), (3, some (.str (s ++ (el l τ).1)))], _, (by exact cov_of), Sub.refl _, n, by omega, _, _, h2.lt, ?_, ?_, by omega, hR, rfl, rfl⟩
          · have q : τ.p < (el l τ).2.p := by
              have := isT_ne hI
              unfold el
              have hm : mst l τ 5 [91] = τ.on := by unfold mst skb; rw [hI, decide_eq_true (Classical.not_not.1 h1)]; rfl
              rw [hm]
              have h4 := Gd.on w hlt (by rw [this.1]; decide)
              split
              · rename_i h5
                have h6 := Gd.on w h4.lt (by rw [h5]; decide)
                have h7 := Gd.mst w h6.lt (k := 5) (by decide) [93]
                have := h7.le
                have := h6.le
                show τ.p < (mst l τ.on.on 5 [93]).p
                have : τ.on.p = τ.p + 1 := rfl
                omega
              · have := (Gd.fail (l := l) h4.lt 11).le
                have : τ.on.p = τ.p + 1 := rfl
                show τ.p < (PSt.fail l τ.on 11).p
                omega
            omega
          · simp; omega
        | false =>
          rw [hI, if_neg (by decide)] at hR
          (first | refine au ?_ | exact au0)
          refine (skip_spec w hlt id 5 [46]).call (by exact hg_of) (Sub.nil _) ?_
          have hsk : skb l τ 5 [46] = isT l τ 5 [46] := by unfold skb; rw [decide_eq_true (Classical.not_not.1 h1)]; rfl
          unfold skp
          rw [hsk]
          cases hD : isT l τ 5 [46] with
          | true =>
            rw [hD, if_pos rfl] at hR
            have h2 := Gd.on w hlt (by rw [(isT_ne hD).1]; decide)
            have h3 := Gd.nm w h2.lt
            have h4 := nm_len w τ.on
            (first | refine au ?_ | exact au0)
            refine (name_spec w h2.lt id).call (by exact hg_of) (Sub.nil _) ?_
            (first | refine au ?_ | exact au0)
            refine ⟨[(0, some (.ptr id 5 0 0)), (3, some (.str (s ++ ([46] ++ (nm l τ.on).1))))], _, (by exact cov_of), Sub.refl _, n, by omega, _, _, h3.lt, ?_, ?_, by omega, hR, rfl, rfl⟩
            · have := h3.le
              have : τ.on.p = τ.p + 1 := rfl
              omega
            · simp; omega
          | false =>
            rw [hD, if_neg (by decide)] at hR
            subst hR
            (first | refine au ?_ | exact au0)
            exact ⟨fz_of, sub_of⟩
abbrev opA (o : Opd) : AV := .agg [.int .i64 o.k, .str o.t, .bool o.neg, .int .u64 (o.num : Nat)]
theorem operand_spec {l : List Tok} (w : Wt l) {σ : PSt} (h : σ.p < l.length) (id : Nat) : SW PG expr_parser_operand.n [.ptr id 5 0 0] id (psB l σ) [] (opA (opd l σ).1) (psB l (opd l σ).2) := by
  have hw := w.len
  refine ACalls.fz (expr_parser_operand.of rfl (wpF_start ?_))
  unfold opd
  (first | refine au ?_ | exact au0)
  intro id2 hid2 ht2; have n2 := neAll_of hid2; (try simp only [neAll, neAll_hset] at n2); have m2 := n2; (repeat (obtain ⟨_, m2⟩ := m2))
  (first | refine au ?_ | exact au0)
  refine (bad_spec l σ id).call (by exact hg_of) (Sub.nil _) ?_
  (first | refine au ?_ | exact au0)
  refine bsplit_dec (fun h1 => ?_) (fun h1 => ?_)
  · rw [if_neg h1]
    (first | refine au ?_ | exact au0)
    exact ⟨fz_of, sub_of⟩
  · rw [if_pos (Classical.not_not.1 h1)]
    have h1' := Classical.not_not.1 h1
    (first | refine au ?_ | exact au0)
    refine (skip_spec w h id 5 [45]).call (by exact hg_of) (Sub.nil _) ?_
    have hG := Gd.skp w h (k := 5) (by decide) [45]
    have he : (skp l σ 5 [45]).e = 0 := by unfold skp; split <;> exact h1'
    generalize skp l σ 5 [45] = τ at *
    generalize skb l σ 5 [45] = neg at *
    have hlt := hG.lt
    (first | refine au ?_ | exact au0)
    refine (now_spec w hlt id).call (by exact hg_of) (Sub.nil _) ?_
    unfold opd1
    (first | refine au ?_ | exact au0)
    intro id4 hid4 ht4; have n4 := neAll_of hid4; (try simp only [neAll, neAll_hset] at n4); have m4 := n4; (repeat (obtain ⟨_, m4⟩ := m4))
    (first | refine au ?_ | exact au0)
    refine bsplit_dec (fun h2 => ?_) (fun h2 => ?_)
    · rw [if_pos h2]
      (first | refine au ?_ | exact au0)
      exact ⟨fz_of, sub_of⟩
    · rw [if_neg h2]
      (first | refine au ?_ | exact au0)
      cases neg with
      | true =>
        (first | refine au ?_ | exact au0)
        refine (fail_spec w hlt id 11).call (by exact hg_of) (Sub.nil _) ?_
        (first | refine au ?_ | exact au0)
        exact ⟨fz_of, sub_of⟩
      | false =>
        rw [if_neg (by decide)]
        (first | refine au ?_ | exact au0)
        refine bsplit_dec (fun h3 => ?_) (fun h3 => ?_)
        · rw [if_pos h3]
          (first | refine au ?_ | exact au0)
          exact ⟨fz_of, sub_of⟩
        · rw [if_neg h3]
          (first | refine au ?_ | exact au0)
          refine bsplit_dec (fun h4 => ?_) (fun h4 => ?_)
          · rw [if_pos h4]
            (first | refine au ?_ | exact au0)
            exact ⟨fz_of, sub_of⟩
          · rw [if_neg h4]
            (first | refine au ?_ | exact au0)
            have hs : ∀ s, skb l τ 1 s = isT l τ 1 s := fun s => by unfold skb; rw [decide_eq_true he]; rfl
            refine (skip_spec w hlt id 1 [84, 82, 85, 69]).call (by exact hg_of) (Sub.nil _) ?_
            unfold skp
            rw [hs]
            cases h5 : isT l τ 1 [84, 82, 85, 69] with
            | true =>
              (first | refine au ?_ | exact au0)
              exact ⟨fz_of, sub_of⟩
            | false =>
              (first | refine au ?_ | exact au0)
              refine (skip_spec w hlt id 1 [70, 65, 76, 83, 69]).call (by exact hg_of) (Sub.nil _) ?_
              unfold skp
              rw [hs]
              cases h6 : isT l τ 1 [70, 65, 76, 83, 69] with
              | true =>
                (first | refine au ?_ | exact au0)
                exact ⟨fz_of, sub_of⟩
              | false =>
                (first | refine au ?_ | exact au0)
                refine (path_spec w hlt id).call (by exact hg_of) (Sub.nil _) ?_
                (first | refine au ?_ | exact au0)
                exact ⟨fz_of, sub_of⟩
theorem relation_spec (t : Tok) (H : AH) : ACalls PG expr_relation.n [tkA t] H fun r H' => r = .int .i64 (relOf t : Nat) ∧ H' = H := by
  refine ACalls.fz (expr_relation.of rfl (wpF_start ?_))
  unfold relOf
  (first | refine au ?_ | exact au0)
  intro id1 hid1 ht1; have n1 := neAll_of hid1; (try simp only [neAll, neAll_hset] at n1); have m1 := n1; (repeat (obtain ⟨_, m1⟩ := m1))
  (first | refine au ?_ | exact au0)
  refine bsplit_dec (fun h1 => ?_) (fun h1 => ?_)
  · rw [if_neg h1]
    (first | refine au ?_ | exact au0)
    exact ⟨fz_of, sub_of⟩
  · rw [if_pos (Classical.not_not.1 h1)]
    unfold relT
    (repeat' (first | (refine au ?_; first | refine bsplit_dec (fun _ => ?_) (fun _ => ?_) | refine bsplit_intro (fun _ => ?_) (fun _ => ?_)) | exact au0 | fail)); (all_goals try (first | refine au ?_ | fail))
    all_goals (refine ⟨?_, sub_of⟩; rename_i h2; simp [*]; exact fz_of)
mutual
def exR : Ex → List AV
  | .mk op rel args kids => [.int .i64 op, .int .i64 rel, .rows 4 (args.map fun o => [.int .i64 o.k, .str o.t, .bool o.neg, .int .u64 (o.num : Nat)]), .rows 4 (exRs kids)]
def exRs : List Ex → List (List AV)
  | [] => []
  | k :: ks => exR k :: exRs ks
end
abbrev opR (o : Opd) : List AV := [.int .i64 o.k, .str o.t, .bool o.neg, .int .u64 (o.num : Nat)]
abbrev exA (x : Ex) : AV := .agg (exR x)
theorem exRs_map : ∀ l : List Ex, exRs l = l.map exR
  | [] => rfl
  | k :: ks => by rw [exRs, exRs_map ks]; rfl
mutual
theorem exR_cl : ∀ (x : Ex), ∀ v ∈ exR x, Cl v
  | .mk op rel args kids => by
    intro v hv
    simp only [exR, List.mem_cons, List.not_mem_nil, or_false] at hv
    rcases hv with rfl | rfl | rfl | rfl
    · exact .int _ _
    · exact .int _ _
    · refine .rows _ _ fun r hr v hv => ?_
      obtain ⟨o, _, rfl⟩ := List.mem_map.1 hr
      simp only [List.mem_cons, List.not_mem_nil, or_false] at hv
      rcases hv with rfl | rfl | rfl | rfl
      · exact .int _ _
      · exact .str _
      · exact .bool _
      · exact .int _ _
    · exact .rows _ _ (exRs_cl kids)
theorem exRs_cl : ∀ (l : List Ex), ∀ r ∈ exRs l, ∀ v ∈ r, Cl v
  | [] => by simp [exRs]
  | k :: ks => by
    intro r hr
    simp only [exRs, List.mem_cons] at hr
    rcases hr with rfl | hr
    · exact exR_cl k
    · exact exRs_cl ks r hr
end
theorem exA_no (x : Ex) : NoId (exA x) := (Cl.agg _ (exR_cl x)).noId
theorem opA_no (o : Opd) : NoId (opA o) := NoId.plain rfl
theorem psB_n (l : List Tok) (σ τ : PSt) : BlkN (psB l σ) (psB l τ) := by
  intro r hr v hv
  simp only [List.mem_cons, List.not_mem_nil, or_false] at hr
  subst hr
  simp only [List.mem_cons, List.not_mem_nil, or_false] at hv
  rcases hv with rfl | rfl | rfl | rfl | rfl
  · exact .inr ⟨_, List.mem_cons_self, List.mem_cons_self⟩
  all_goals exact .inl (NoId.plain rfl)
theorem exR_len (x : Ex) : (exR x).length = 4 := by cases x; rfl
end Go.Proofs.YtjaigpidmngaaaaGreat

namespace Go.Proofs.YtjaigpidmngaaaaGreat
set_option maxRecDepth 100000
def broadsheetlaw19_TruthRel.n : Nat := 8
noncomputable def broadsheetlaw19_TruthRel.c : C := (.seq (.reg [oo_ 4 (.box 38 (.t 1)), oo_ 5 (.box 38 (.t 2)), oo_ 6 (.mv (.c (.bool false)))]) (.seq (.dreg [om_ 7 0, oo_ 8 (.load (some 4) (.t 4)), oo_ 9 (.load (some 4) (.t 5)), oo_ 10 (.call 29 [(.t 7), (.t 8), (.t 9)]), om_ 11 0, oo_ 12 (.load (some 4) (.t 4)), oo_ 13 (.load (some 4) (.t 5))] [oo_ 14 (.call 30 [(.t 11), (.t 12), (.t 13)]), oo_ 15 (.beq false (.t 10) (.t 14)), om_ 16 15, og_ 17 16 true (.call 24 []), oo_ 18 (.pick (.t 16) (.t 17) (.c (.bool false))), om_ 6 18]) .ret))
theorem broadsheetlaw19_TruthRel.code : comp PG [] (Tryz.f8.body.getD .skip) = broadsheetlaw19_TruthRel.c := by kernel_rfl
theorem broadsheetlaw19_TruthRel.of : OfE PG 8 3 broadsheetlaw19_TruthRel.c [(.t 6)] := fnE (nt := 19) mixed Tryz.func8 broadsheetlaw19_TruthRel.code (by kernel_rfl) (by kernel_rfl) (by kernel_rfl) (by kernel_rfl) (by kernel_rfl) (by kernel_rfl)
def broadsheetlaw19_TruthOne.n : Nat := 9
noncomputable def broadsheetlaw19_TruthOne.c : C := (.seq (.reg [oo_ 2 (.box 38 (.t 0)), oo_ 3 (.box 38 (.t 1)), oo_ 4 (.mv (.c (.bool false)))]) (.seq (.reg [oo_ 5 (.mv (.c (.int .i64 0)))]) (.seq (.seq (.reg [oo_ 6 (.mv (.c (.int .i64 1)))]) (.block 0 (.loop (.seq (.seq (.reg [om_ 10 6, oo_ 11 (.bin .leq (.t 10) (.c (.int .i64 6)))]) (.cond (.t 11) .skip (.exit 0))) (.seq (.block 1 (.seq (.reg [om_ 14 6, oo_ 15 (.load (some 4) (.t 2)), oo_ 16 (.load (some 4) (.t 3)), oo_ 17 (.call 29 [(.t 14), (.t 15), (.t 16)])]) (.cond (.t 17) (.reg [om_ 18 5, oo_ 19 (.bin .add (.t 18) (.c (.int .i64 1))), om_ 5 19]) .skip))) (.reg [om_ 12 6, oo_ 13 (.bin .add (.t 12) (.c (.int .i64 1))), om_ 6 13])))))) (.seq (.seq (.reg [of_ 20 0 2, ol_ 21 20, of_ 22 0 3, ol_ 23 22, oo_ 24 (.bin .neq (.t 21) (.t 23)), om_ 25 24, og_ 26 25 false (.faddr 0 (.t 2)), og_ 27 25 false (.load none (.t 26)), og_ 28 25 false (.bin .eql (.t 27) (.c (.int .i64 0))), oo_ 29 (.pick (.t 25) (.c (.bool true)) (.t 28))]) (.cond (.t 29) (.seq (.reg [om_ 30 5, oo_ 31 (.bin .eql (.t 30) (.c (.int .i64 0))), om_ 32 31, og_ 33 32 true (.call 24 []), oo_ 34 (.pick (.t 32) (.t 33) (.c (.bool false))), om_ 4 34]) .ret) .skip)) (.seq (.dreg [oo_ 35 (.load (some 4) (.t 2)), oo_ 36 (.load (some 4) (.t 3)), oo_ 37 (.call 29 [(.c (.int .i64 3)), (.t 35), (.t 36)]), oo_ 38 (.load (some 4) (.t 2)), oo_ 39 (.load (some 4) (.t 3)), oo_ 40 (.call 29 [(.c (.int .i64 1)), (.t 38), (.t 39)]), oo_ 41 (.load (some 4) (.t 2)), oo_ 42 (.load (some 4) (.t 3))] [oo_ 43 (.call 29 [(.c (.int .i64 5)), (.t 41), (.t 42)]), om_ 7 37, om_ 8 40, om_ 9 43]) (.seq (.reg [om_ 44 5, oo_ 45 (.bin .eql (.t 44) (.c (.int .i64 3))), om_ 46 45, og_ 47 46 true (.mv (.t 7)), og_ 48 46 true (.mv (.t 47)), og_ 49 48 false (.mv (.t 8)), og_ 50 46 true (.pick (.t 48) (.c (.bool true)) (.t 49)), og_ 51 46 true (.mv (.t 50)), og_ 52 51 false (.mv (.t 9)), og_ 53 46 true (.pick (.t 51) (.c (.bool true)) (.t 52)), oo_ 54 (.pick (.t 46) (.t 53) (.c (.bool false))), om_ 55 54, og_ 56 55 true (.mv (.t 7)), og_ 57 55 true (.mv (.t 56)), og_ 58 57 true (.mv (.t 8)), og_ 59 55 true (.pick (.t 57) (.t 58) (.c (.bool false))), og_ 60 55 true (.un .not (.t 59)), oo_ 61 (.pick (.t 55) (.t 60) (.c (.bool false))), om_ 62 61, og_ 63 62 true (.mv (.t 7)), og_ 64 62 true (.mv (.t 63)), og_ 65 64 true (.mv (.t 9)), og_ 66 62 true (.pick (.t 64) (.t 65) (.c (.bool false))), og_ 67 62 true (.un .not (.t 66)), oo_ 68 (.pick (.t 62) (.t 67) (.c (.bool false))), om_ 69 68, og_ 70 69 true (.mv (.t 8)), og_ 71 69 true (.mv (.t 70)), og_ 72 71 true (.mv (.t 9)), og_ 73 69 true (.pick (.t 71) (.t 72) (.c (.bool false))), og_ 74 69 true (.un .not (.t 73)), oo_ 75 (.pick (.t 69) (.t 74) (.c (.bool false))), om_ 76 75, og_ 77 76 true (.load (some 4) (.t 2)), og_ 78 76 true (.load (some 4) (.t 3)), og_ 79 76 true (.call 29 [(.c (.int .i64 2)), (.t 77), (.t 78)]), og_ 80 76 true (.mv (.t 8)), og_ 81 76 true (.un .not (.t 80)), og_ 82 76 true (.beq false (.t 79) (.t 81)), oo_ 83 (.pick (.t 76) (.t 82) (.c (.bool false))), om_ 84 83, og_ 85 84 true (.load (some 4) (.t 2)), og_ 86 84 true (.load (some 4) (.t 3)), og_ 87 84 true (.call 29 [(.c (.int .i64 4)), (.t 85), (.t 86)]), og_ 88 84 true (.mv (.t 9)), og_ 89 84 true (.un .not (.t 88)), og_ 90 84 true (.beq false (.t 87) (.t 89)), oo_ 91 (.pick (.t 84) (.t 90) (.c (.bool false))), om_ 92 91, og_ 93 92 true (.load (some 4) (.t 2)), og_ 94 92 true (.load (some 4) (.t 3)), og_ 95 92 true (.call 29 [(.c (.int .i64 6)), (.t 93), (.t 94)]), og_ 96 92 true (.mv (.t 7)), og_ 97 92 true (.un .not (.t 96)), og_ 98 92 true (.beq false (.t 95) (.t 97)), oo_ 99 (.pick (.t 92) (.t 98) (.c (.bool false))), om_ 100 99, og_ 101 100 true (.load (some 4) (.t 3)), og_ 102 100 true (.load (some 4) (.t 2)), og_ 103 100 true (.call 29 [(.c (.int .i64 5)), (.t 101), (.t 102)]), og_ 104 100 true (.mv (.t 7)), og_ 105 100 true (.beq false (.t 103) (.t 104)), oo_ 106 (.pick (.t 100) (.t 105) (.c (.bool false))), om_ 107 106, og_ 108 107 true (.call 24 []), oo_ 109 (.pick (.t 107) (.t 108) (.c (.bool false))), om_ 4 109]) .ret))))))
theorem broadsheetlaw19_TruthOne.code : comp PG [] (Tryz.f9.body.getD .skip) = broadsheetlaw19_TruthOne.c := by kernel_rfl
theorem broadsheetlaw19_TruthOne.of : OfE PG 9 2 broadsheetlaw19_TruthOne.c [(.t 4)] := fnE (nt := 110) mixed Tryz.func9 broadsheetlaw19_TruthOne.code (by kernel_rfl) (by kernel_rfl) (by kernel_rfl) (by kernel_rfl) (by kernel_rfl) (by kernel_rfl)
def check_Datum.n : Nat := 16
noncomputable def check_Datum.c : C := (.seq (.reg [oo_ 6 (.box 35 (.t 2)), oo_ 7 (.box 35 (.t 3)), oo_ 8 (.allc 38 [(.int .i64 0), (.bool false), (.int .u64 0), (.str [])])]) (.seq (.seq (.reg [of_ 13 0 6, ol_ 14 13]) (.block 0 (.seq (.reg [oo_ 16 (.bin .eql (.t 14) (.c (.int .i64 2))), om_ 15 16]) (.cond (.t 15) (.seq (.reg [of_ 17 2 6, ol_ 18 17, om_ 19 18, og_ 20 19 true (.faddr 3 (.t 6)), og_ 21 19 true (.load none (.t 20)), og_ 22 19 true (.bin .gtr (.t 21) (.c (.int .u64 0))), oo_ 23 (.pick (.t 19) (.t 22) (.c (.bool false))), of_ 24 3 6, ol_ 25 24, oo_ 26 (.build [(.int .i64 0), (.bool false), (.int .u64 0), (.str [])] [(0, (1, (.c (.int .i64 1)))), (1, (1, (.t 23))), (2, (1, (.t 25)))]), os_ (.store 4 (.t 8) (.t 26))]) .ret) (.seq (.reg [oo_ 28 (.bin .eql (.t 14) (.c (.int .i64 4))), om_ 27 28]) (.cond (.t 27) (.seq (.reg [of_ 29 3 6, ol_ 30 29, oo_ 31 (.build [(.int .i64 0), (.bool false), (.int .u64 0), (.str [])] [(0, (1, (.c (.int .i64 3)))), (2, (1, (.t 30)))]), os_ (.store 4 (.t 8) (.t 31))]) .ret) (.seq (.reg [oo_ 33 (.bin .eql (.t 14) (.c (.int .i64 3))), om_ 32 33]) (.cond (.t 32) (.seq (.seq (.reg [of_ 34 0 7, ol_ 35 34, oo_ 36 (.bin .eql (.t 35) (.c (.int .i64 1)))]) (.cond (.t 36) (.seq (.reg [om_ 38 0, om_ 39 1, oo_ 40 (.build [.nilS, (.int .i64 0)] [(0, (1, (.t 38))), (1, (1, (.t 39)))]), of_ 41 1 7, ol_ 42 41, oo_ 43 (.call 41 [(.t 40), (.t 42)]), om_ 37 43, oo_ 44 (.extr (.t 37) 0), oo_ 45 (.extr (.t 37) 1), oo_ 9 (.allc 80 [(.int .i64 0), (.int .i64 0)]), os_ (.store 2 (.t 9) (.t 44)), om_ 10 45]) (.seq (.reg [om_ 46 10, oo_ 47 (.bin .eql (.t 46) (.c (.int .i64 0))), om_ 48 47, og_ 49 48 true (.faddr 1 (.t 9)), og_ 50 48 true (.load none (.t 49)), og_ 51 48 true (.bin .gtr (.t 50) (.c (.int .i64 0))), oo_ 52 (.pick (.t 48) (.t 51) (.c (.bool false)))]) (.cond (.t 52) (.seq (.reg [om_ 54 0, of_ 55 1 9, ol_ 56 55, oo_ 57 (.bin .sub (.t 56) (.c (.int .i64 1))), of_ 58 1 6, ol_ 59 58, oo_ 60 (.call 42 [(.t 54), (.t 57), (.t 59)]), om_ 53 60, oo_ 61 (.extr (.t 53) 0), oo_ 62 (.extr (.t 53) 1), om_ 11 61, om_ 12 62]) (.seq (.reg [om_ 63 12]) (.cond (.t 63) (.seq (.reg [om_ 64 0, of_ 65 1 9, ol_ 66 65, oo_ 67 (.bin .sub (.t 66) (.c (.int .i64 1))), oo_ 68 (.iaddr 6 (.t 64) (.t 67)), of_ 69 5 68, ol_ 70 69, om_ 71 11, oo_ 72 (.iaddr 5 (.t 70) (.t 71)), of_ 73 1 72, ol_ 74 73, oo_ 75 (.call 43 [(.c (.int .i64 9)), (.t 74)]), os_ (.store 4 (.t 8) (.t 75))]) .ret) .skip))) .skip))) .skip)) (.seq (.reg [of_ 76 1 6, ol_ 77 76, oo_ 78 (.build [(.int .i64 0), (.bool false), (.int .u64 0), (.str [])] [(0, (1, (.c (.int .i64 2)))), (3, (1, (.t 77)))]), os_ (.store 4 (.t 8) (.t 78))]) .ret)) .skip)))))))) (.seq (.reg [oo_ 79 (.build [(.int .i64 0), (.bool false), (.int .u64 0), (.str [])] []), os_ (.store 4 (.t 8) (.t 79))]) .ret)))
theorem check_Datum.code : comp PG [] (Tryz.f16.body.getD .skip) = check_Datum.c := by kernel_rfl
theorem check_Datum.of : OfE PG 16 4 check_Datum.c [(.cell 8 (some 4))] := fnE (nt := 80) mixed Tryz.func16 check_Datum.code (by kernel_rfl) (by kernel_rfl) (by kernel_rfl) (by kernel_rfl) (by kernel_rfl) (by kernel_rfl)
def broadsheetlaw19_awake.n : Nat := 24
noncomputable def broadsheetlaw19_awake.c : C := (.seq (.reg [oo_ 0 (.mv (.c (.bool false)))]) (.seq (.reg [oo_ 7 (.build [(.int .i64 0), (.str []), (.int .i64 0), (.int .i64 0), (.int .i64 0), .nilS] [(0, (1, (.c (.int .i64 2))))]), oo_ 8 (.build [(.int .i64 0), (.str []), (.int .i64 0), (.int .i64 0), (.int .i64 0), .nilS] [(0, (1, (.c (.int .i64 11)))), (2, (1, (.c (.int .i64 3))))]), oo_ 9 (.build [(.str []), (.int .u64 0), (.int .i64 0), (.bool false), (.bool false)] [(0, (1, (.c (.str [115])))), (2, (1, (.c (.int .i64 1))))]), oo_ 10 (.bslice 70 5 1 [(.str []), (.int .u64 0), (.int .i64 0), (.bool false), (.bool false)] [(0, (.t 9))]), oo_ 11 (.build [(.int .i64 0), (.str []), (.int .i64 0), (.int .i64 0), (.int .i64 0), .nilS] [(0, (1, (.c (.int .i64 13)))), (1, (1, (.c (.str [80])))), (5, (1, (.t 10)))]), oo_ 12 (.bslice 67 6 3 [(.int .i64 0), (.str []), (.int .i64 0), (.int .i64 0), (.int .i64 0), .nilS] [(0, (.t 7)), (1, (.t 8)), (2, (.t 11))]), om_ 1 12]) (.seq (.reg [oo_ 13 (.build [(.int .i64 0), (.int .u64 0), (.str []), .nilS] [(0, (1, (.c (.int .i64 2)))), (1, (1, (.c (.int .u64 5))))]), oo_ 14 (.bslice 52 4 1 [(.int .i64 0), (.int .u64 0), (.str []), .nilS] [(0, (.t 13))]), oo_ 15 (.build [(.int .i64 0), (.int .u64 0), (.str []), .nilS] [(0, (1, (.c (.int .i64 11)))), (3, (1, (.t 14)))]), oo_ 16 (.bslice 52 4 1 [(.int .i64 0), (.int .u64 0), (.str []), .nilS] [(0, (.t 15))]), oo_ 17 (.build [(.int .i64 0), (.int .u64 0), (.str []), .nilS] [(0, (1, (.c (.int .i64 13)))), (3, (1, (.t 16)))]), oo_ 2 (.allc 52 [(.int .i64 0), (.int .u64 0), (.str []), .nilS]), os_ (.store 4 (.t 2) (.t 17))]) (.seq (.reg [oo_ 19 (.call 36 [(.c (.str [115, 91, 48, 93, 32, 61, 32, 53]))]), om_ 18 19, oo_ 20 (.extr (.t 18) 0), oo_ 21 (.extr (.t 18) 1), oo_ 3 (.allc 26 [(.int .i64 0), (.int .i64 0), .nilS, .nilS]), oo_ 4 (.allc 72 [(.int .i64 0), (.int .i64 0)]), os_ (.store 4 (.t 3) (.t 20)), os_ (.store 2 (.t 4) (.t 21))]) (.seq (.reg [oo_ 23 (.call 36 [(.c (.str [115, 91, 49, 93, 32, 61, 32, 53, 32, 79, 82, 32, 115, 91, 49, 93, 32, 60, 62, 32, 53]))]), om_ 22 23, oo_ 24 (.extr (.t 22) 0), oo_ 25 (.extr (.t 22) 1), oo_ 5 (.allc 26 [(.int .i64 0), (.int .i64 0), .nilS, .nilS]), oo_ 6 (.allc 72 [(.int .i64 0), (.int .i64 0)]), os_ (.store 4 (.t 5) (.t 24)), os_ (.store 2 (.t 6) (.t 25))]) (.seq (.reg [om_ 26 1, oo_ 27 (.load (some 4) (.t 3)), oo_ 28 (.load (some 4) (.t 2)), oo_ 29 (.call 25 [(.t 26), (.c (.int .i64 2)), (.t 27), (.t 28)]), om_ 30 29, og_ 31 30 true (.mv (.t 1)), og_ 32 30 true (.load (some 4) (.t 5)), og_ 33 30 true (.load (some 4) (.t 2)), og_ 34 30 true (.call 25 [(.t 31), (.c (.int .i64 2)), (.t 32), (.t 33)]), og_ 35 30 true (.un .not (.t 34)), oo_ 36 (.pick (.t 30) (.t 35) (.c (.bool false))), om_ 0 36]) .ret))))))
theorem broadsheetlaw19_awake.code : comp PG [] (Tryz.f24.body.getD .skip) = broadsheetlaw19_awake.c := by kernel_rfl
theorem broadsheetlaw19_awake.of : OfE PG 24 0 broadsheetlaw19_awake.c [(.t 0)] := fnE (nt := 37) mixed Tryz.func24 broadsheetlaw19_awake.code (by kernel_rfl) (by kernel_rfl) (by kernel_rfl) (by kernel_rfl) (by kernel_rfl) (by kernel_rfl)
def truth_Holds.n : Nat := 25
noncomputable def truth_Holds.c : C := (.seq (.reg [oo_ 4 (.box 22 (.t 0)), oo_ 5 (.box 3 (.t 1)), oo_ 6 (.box 26 (.t 2)), oo_ 7 (.box 52 (.t 3)), oo_ 8 (.mv (.c (.bool false)))]) (.seq (.reg [oo_ 10 (.mkfn 51 [] [(.t 4), (.t 5), (.t 7)]), om_ 9 10]) (.seq (.reg [om_ 11 9, oo_ 12 (.load (some 4) (.t 6)), oo_ 13 (.call 52 [(.t 11), (.t 12)]), om_ 8 13]) .ret)))
theorem truth_Holds.code : comp PG [] (Tryz.f25.body.getD .skip) = truth_Holds.c := by kernel_rfl
theorem truth_Holds.of : OfE PG 25 4 truth_Holds.c [(.t 8)] := fnE (nt := 14) mixed Tryz.func25 truth_Holds.code (by kernel_rfl) (by kernel_rfl) (by kernel_rfl) (by kernel_rfl) (by kernel_rfl) (by kernel_rfl)
def truth_Datum.n : Nat := 27
noncomputable def truth_Datum.c : C := (.seq (.reg [oo_ 7 (.box 35 (.t 2)), oo_ 8 (.box 35 (.t 3)), oo_ 9 (.box 52 (.t 4)), oo_ 10 (.allc 38 [(.int .i64 0), (.bool false), (.int .u64 0), (.str [])])]) (.seq (.seq (.reg [of_ 16 0 7, ol_ 17 16, oo_ 18 (.bin .neq (.t 17) (.c (.int .i64 1)))]) (.cond (.t 18) (.seq (.reg [om_ 19 0, om_ 20 1, oo_ 21 (.load (some 4) (.t 7)), oo_ 22 (.load (some 4) (.t 8)), oo_ 23 (.call 16 [(.t 19), (.t 20), (.t 21), (.t 22)]), os_ (.store 4 (.t 10) (.t 23))]) .ret) .skip)) (.seq (.reg [om_ 25 0, om_ 26 1, of_ 27 1 7, ol_ 28 27, oo_ 29 (.call 55 [(.t 25), (.t 26), (.t 28)]), om_ 24 29, oo_ 30 (.extr (.t 24) 0), oo_ 31 (.extr (.t 24) 1), oo_ 32 (.extr (.t 24) 2), om_ 11 30, om_ 12 31, om_ 13 32]) (.seq (.seq (.reg [om_ 33 13, oo_ 34 (.bin .neq (.t 33) (.c (.int .i64 0)))]) (.cond (.t 34) (.seq (.reg [oo_ 35 (.build [(.int .i64 0), (.bool false), (.int .u64 0), (.str [])] []), os_ (.store 4 (.t 10) (.t 35))]) .ret) .skip)) (.seq (.reg [om_ 37 0, om_ 38 1, om_ 39 11, oo_ 40 (.load (some 4) (.t 9)), oo_ 41 (.call 56 [(.t 37), (.t 38), (.t 39), (.t 40)]), om_ 36 41, oo_ 42 (.extr (.t 36) 0), oo_ 43 (.extr (.t 36) 1), oo_ 14 (.allc 52 [(.int .i64 0), (.int .u64 0), (.str []), .nilS]), os_ (.store 4 (.t 14) (.t 42)), om_ 15 43]) (.seq (.block 0 (.seq (.reg [om_ 45 15, oo_ 46 (.un .not (.t 45)), om_ 44 46]) (.cond (.t 44) (.seq (.reg [oo_ 47 (.build [(.int .i64 0), (.bool false), (.int .u64 0), (.str [])] []), os_ (.store 4 (.t 10) (.t 47))]) .ret) (.seq (.reg [of_ 49 0 14, ol_ 50 49, oo_ 51 (.bin .eql (.t 50) (.c (.int .i64 10))), om_ 48 51]) (.cond (.t 48) (.seq (.reg [of_ 52 2 14, ol_ 53 52, oo_ 54 (.build [(.int .i64 0), (.bool false), (.int .u64 0), (.str [])] [(0, (1, (.c (.int .i64 2)))), (3, (1, (.t 53)))]), os_ (.store 4 (.t 10) (.t 54))]) .ret) .skip))))) (.seq (.reg [of_ 55 0 14, ol_ 56 55, of_ 57 1 14, ol_ 58 57, oo_ 59 (.call 43 [(.t 56), (.t 58)]), os_ (.store 4 (.t 10) (.t 59))]) .ret)))))))
theorem truth_Datum.code : comp PG [] (Tryz.f27.body.getD .skip) = truth_Datum.c := by kernel_rfl
theorem truth_Datum.of : OfE PG 27 5 truth_Datum.c [(.cell 10 (some 4))] := fnE (nt := 60) mixed Tryz.func27 truth_Datum.code (by kernel_rfl) (by kernel_rfl) (by kernel_rfl) (by kernel_rfl) (by kernel_rfl) (by kernel_rfl)
def truth_Rel.n : Nat := 29
noncomputable def truth_Rel.c : C := (.seq (.reg [oo_ 4 (.box 38 (.t 1)), oo_ 5 (.box 38 (.t 2)), oo_ 6 (.mv (.c (.bool false)))]) (.seq (.seq (.reg [of_ 8 0 4, ol_ 9 8, of_ 10 0 5, ol_ 11 10, oo_ 12 (.bin .neq (.t 9) (.t 11)), om_ 13 12, og_ 14 13 false (.faddr 0 (.t 4)), og_ 15 13 false (.load none (.t 14)), og_ 16 13 false (.bin .eql (.t 15) (.c (.int .i64 0))), oo_ 17 (.pick (.t 13) (.c (.bool true)) (.t 16))]) (.cond (.t 17) (.seq (.reg [oo_ 6 (.mv (.c (.bool false)))]) .ret) .skip)) (.seq (.reg [oo_ 18 (.load (some 4) (.t 4)), oo_ 19 (.load (some 4) (.t 5)), oo_ 20 (.call 59 [(.t 18), (.t 19)]), om_ 7 20]) (.seq (.seq (.reg [om_ 21 0]) (.block 0 (.seq (.reg [oo_ 23 (.bin .eql (.t 21) (.c (.int .i64 1))), om_ 22 23]) (.cond (.t 22) (.seq (.reg [om_ 24 7, oo_ 25 (.bin .eql (.t 24) (.c (.int .i64 0))), om_ 6 25]) .ret) (.seq (.reg [oo_ 27 (.bin .eql (.t 21) (.c (.int .i64 2))), om_ 26 27]) (.cond (.t 26) (.seq (.reg [om_ 28 7, oo_ 29 (.bin .neq (.t 28) (.c (.int .i64 0))), om_ 6 29]) .ret) (.seq (.reg [oo_ 31 (.bin .eql (.t 21) (.c (.int .i64 3))), om_ 30 31]) (.cond (.t 30) (.seq (.reg [om_ 32 7, oo_ 33 (.bin .lss (.t 32) (.c (.int .i64 0))), om_ 6 33]) .ret) (.seq (.reg [oo_ 35 (.bin .eql (.t 21) (.c (.int .i64 4))), om_ 34 35]) (.cond (.t 34) (.seq (.reg [om_ 36 7, oo_ 37 (.bin .leq (.t 36) (.c (.int .i64 0))), om_ 6 37]) .ret) (.seq (.reg [oo_ 39 (.bin .eql (.t 21) (.c (.int .i64 5))), om_ 38 39]) (.cond (.t 38) (.seq (.reg [om_ 40 7, oo_ 41 (.bin .gtr (.t 40) (.c (.int .i64 0))), om_ 6 41]) .ret) (.seq (.reg [oo_ 43 (.bin .eql (.t 21) (.c (.int .i64 6))), om_ 42 43]) (.cond (.t 42) (.seq (.reg [om_ 44 7, oo_ 45 (.bin .geq (.t 44) (.c (.int .i64 0))), om_ 6 45]) .ret) .skip)))))))))))))) (.seq (.reg [oo_ 6 (.mv (.c (.bool false)))]) .ret)))))
theorem truth_Rel.code : comp PG [] (Tryz.f29.body.getD .skip) = truth_Rel.c := by kernel_rfl
theorem truth_Rel.of : OfE PG 29 3 truth_Rel.c [(.t 6)] := fnE (nt := 46) mixed Tryz.func29 truth_Rel.code (by kernel_rfl) (by kernel_rfl) (by kernel_rfl) (by kernel_rfl) (by kernel_rfl) (by kernel_rfl)
def broadsheetref19_Rel.n : Nat := 30
noncomputable def broadsheetref19_Rel.c : C := (.seq (.reg [oo_ 4 (.box 38 (.t 1)), oo_ 5 (.box 38 (.t 2)), oo_ 6 (.mv (.c (.bool false)))]) (.seq (.seq (.reg [of_ 11 0 4, ol_ 12 11, of_ 13 0 5, ol_ 14 13, oo_ 15 (.bin .neq (.t 12) (.t 14)), om_ 16 15, og_ 17 16 false (.faddr 0 (.t 4)), og_ 18 16 false (.load none (.t 17)), og_ 19 16 false (.bin .eql (.t 18) (.c (.int .i64 0))), oo_ 20 (.pick (.t 16) (.c (.bool true)) (.t 19)), om_ 21 20, og_ 22 21 false (.mv (.t 0)), og_ 23 21 false (.bin .lss (.t 22) (.c (.int .i64 1))), oo_ 24 (.pick (.t 21) (.c (.bool true)) (.t 23)), om_ 25 24, og_ 26 25 false (.mv (.t 0)), og_ 27 25 false (.bin .gtr (.t 26) (.c (.int .i64 6))), oo_ 28 (.pick (.t 25) (.c (.bool true)) (.t 27))]) (.cond (.t 28) (.seq (.reg [oo_ 6 (.mv (.c (.bool false)))]) .ret) .skip)) (.seq (.reg [oo_ 29 (.load (some 4) (.t 4)), oo_ 30 (.load (some 4) (.t 5)), oo_ 31 (.call 60 [(.t 29), (.t 30)]), om_ 7 31]) (.seq (.reg [oo_ 32 (.bslice 4 1 7 [(.bool false)] [(0, (.c (.bool false))), (1, (.c (.bool false))), (2, (.c (.bool true))), (3, (.c (.bool true))), (4, (.c (.bool true))), (5, (.c (.bool false))), (6, (.c (.bool false)))]), om_ 8 32]) (.seq (.reg [oo_ 33 (.bslice 4 1 7 [(.bool false)] [(0, (.c (.bool false))), (1, (.c (.bool true))), (2, (.c (.bool false))), (3, (.c (.bool false))), (4, (.c (.bool true))), (5, (.c (.bool false))), (6, (.c (.bool true)))]), om_ 9 33]) (.seq (.reg [oo_ 34 (.bslice 4 1 7 [(.bool false)] [(0, (.c (.bool false))), (1, (.c (.bool false))), (2, (.c (.bool true))), (3, (.c (.bool false))), (4, (.c (.bool false))), (5, (.c (.bool true))), (6, (.c (.bool true)))]), om_ 10 34]) (.seq (.seq (.reg [om_ 35 7, oo_ 36 (.bin .lss (.t 35) (.c (.int .i64 0)))]) (.cond (.t 36) (.seq (.reg [om_ 37 8, om_ 38 0, oo_ 39 (.iaddr 1 (.t 37) (.t 38)), ol_ 40 39, om_ 6 40]) .ret) .skip)) (.seq (.seq (.reg [om_ 41 7, oo_ 42 (.bin .gtr (.t 41) (.c (.int .i64 0)))]) (.cond (.t 42) (.seq (.reg [om_ 43 10, om_ 44 0, oo_ 45 (.iaddr 1 (.t 43) (.t 44)), ol_ 46 45, om_ 6 46]) .ret) .skip)) (.seq (.reg [om_ 47 9, om_ 48 0, oo_ 49 (.iaddr 1 (.t 47) (.t 48)), ol_ 50 49, om_ 6 50]) .ret)))))))))
theorem broadsheetref19_Rel.code : comp PG [] (Tryz.f30.body.getD .skip) = broadsheetref19_Rel.c := by kernel_rfl
theorem broadsheetref19_Rel.of : OfE PG 30 3 broadsheetref19_Rel.c [(.t 6)] := fnE (nt := 51) mixed Tryz.func30 broadsheetref19_Rel.code (by kernel_rfl) (by kernel_rfl) (by kernel_rfl) (by kernel_rfl) (by kernel_rfl) (by kernel_rfl)
def check_plan_at.n : Nat := 41
noncomputable def check_plan_at.c : C := (.seq (.reg [oo_ 2 (.box 77 (.t 0)), oo_ 4 (.allc 80 [(.int .i64 0), (.int .i64 0)]), oo_ 5 (.mv (.c (.int .i64 0)))]) (.seq (.reg [of_ 11 0 2, ol_ 12 11, of_ 13 1 2, ol_ 14 13, om_ 15 1, oo_ 16 (.call 55 [(.t 12), (.t 14), (.t 15)]), om_ 10 16, oo_ 17 (.extr (.t 10) 0), oo_ 18 (.extr (.t 10) 1), oo_ 19 (.extr (.t 10) 2), om_ 6 17, om_ 7 18, om_ 8 19]) (.seq (.seq (.reg [om_ 20 8, oo_ 21 (.bin .neq (.t 20) (.c (.int .i64 0)))]) (.cond (.t 21) (.seq (.reg [oo_ 22 (.build [(.int .i64 0), (.int .i64 0)] []), om_ 23 8, os_ (.store 2 (.t 4) (.t 22)), om_ 5 23]) .ret) .skip)) (.seq (.seq (.reg [of_ 24 0 2, ol_ 25 24, om_ 26 7, oo_ 27 (.iaddr 6 (.t 25) (.t 26)), of_ 28 0 27, ol_ 29 28, om_ 9 29]) (.block 0 (.seq (.reg [om_ 31 9, oo_ 32 (.bin .eql (.t 31) (.c (.int .i64 9))), om_ 30 32]) (.cond (.t 30) (.seq (.reg [om_ 33 7, oo_ 34 (.bin .add (.t 33) (.c (.int .i64 1))), oo_ 35 (.build [(.int .i64 0), (.int .i64 0)] [(0, (1, (.c (.int .i64 1)))), (1, (1, (.t 34)))]), os_ (.store 2 (.t 4) (.t 35)), oo_ 5 (.mv (.c (.int .i64 0)))]) .ret) (.seq (.reg [om_ 37 9, oo_ 38 (.bin .eql (.t 37) (.c (.int .i64 1))), om_ 36 38]) (.cond (.t 36) (.seq (.reg [oo_ 39 (.build [(.int .i64 0), (.int .i64 0)] [(0, (1, (.c (.int .i64 3)))), (1, (1, (.c (.int .i64 0))))]), os_ (.store 2 (.t 4) (.t 39)), oo_ 5 (.mv (.c (.int .i64 0)))]) .ret) (.seq (.reg [om_ 41 9, oo_ 42 (.bin .eql (.t 41) (.c (.int .i64 10))), om_ 40 42]) (.cond (.t 40) (.seq (.reg [oo_ 43 (.build [(.int .i64 0), (.int .i64 0)] [(0, (1, (.c (.int .i64 2)))), (1, (1, (.c (.int .i64 0))))]), os_ (.store 2 (.t 4) (.t 43)), oo_ 5 (.mv (.c (.int .i64 0)))]) .ret) (.seq (.reg [om_ 45 9, oo_ 46 (.call 77 [(.t 45)]), om_ 44 46]) (.cond (.t 44) (.seq (.reg [oo_ 47 (.build [(.int .i64 0), (.int .i64 0)] [(0, (1, (.c (.int .i64 1)))), (1, (1, (.c (.int .i64 0))))]), os_ (.store 2 (.t 4) (.t 47)), oo_ 5 (.mv (.c (.int .i64 0)))]) .ret) .skip)))))))))) (.seq (.reg [oo_ 48 (.build [(.int .i64 0), (.int .i64 0)] []), os_ (.store 2 (.t 4) (.t 48)), oo_ 5 (.mv (.c (.int .i64 8)))]) .ret)))))
theorem check_plan_at.code : comp PG [] (Tryz.f41.body.getD .skip) = check_plan_at.c := by kernel_rfl
theorem check_plan_at.of : OfE PG 41 2 check_plan_at.c [(.cell 4 (some 2)), (.t 5)] := fnE (nt := 49) mixed Tryz.func41 check_plan_at.code (by kernel_rfl) (by kernel_rfl) (by kernel_rfl) (by kernel_rfl) (by kernel_rfl) (by kernel_rfl)
def truth_Holds_1.n : Nat := 51
noncomputable def truth_Holds_1.c : C := (.seq (.reg [oo_ 5 (.box 35 (.t 0)), oo_ 6 (.box 35 (.t 1)), oo_ 7 (.allc 38 [(.int .i64 0), (.bool false), (.int .u64 0), (.str [])]), oo_ 8 (.allc 38 [(.int .i64 0), (.bool false), (.int .u64 0), (.str [])])]) (.seq (.dreg [ol_ 9 2, ol_ 10 3, oo_ 11 (.load (some 4) (.t 5)), oo_ 12 (.load (some 4) (.t 6)), oo_ 13 (.load (some 4) (.t 4)), oo_ 14 (.call 27 [(.t 9), (.t 10), (.t 11), (.t 12), (.t 13)]), ol_ 15 2, ol_ 16 3, oo_ 17 (.load (some 4) (.t 6)), oo_ 18 (.load (some 4) (.t 5)), oo_ 19 (.load (some 4) (.t 4))] [oo_ 20 (.call 27 [(.t 15), (.t 16), (.t 17), (.t 18), (.t 19)]), os_ (.store 4 (.t 7) (.t 14)), os_ (.store 4 (.t 8) (.t 20))]) .ret))
theorem truth_Holds_1.code : comp PG [] (Tryz.f51.body.getD .skip) = truth_Holds_1.c := by kernel_rfl
theorem truth_Holds_1.of' : OfL PG 51 21 truth_Holds_1.c [(.cell 7 (some 4)), (.cell 8 (some 4))] := fnL mixed Tryz.func51 truth_Holds_1.code (by kernel_rfl) (by kernel_rfl) (by kernel_rfl) (by kernel_rfl) (by kernel_rfl)
def truth_both_holds.n : Nat := 52
noncomputable def truth_both_holds.c : C := (.seq (.reg [oo_ 3 (.box 26 (.t 1)), oo_ 4 (.mv (.c (.bool false)))]) (.seq (.seq (.reg [of_ 9 0 3, ol_ 10 9]) (.block 0 (.seq (.reg [oo_ 12 (.bin .eql (.t 10) (.c (.int .i64 4))), om_ 11 12]) (.cond (.t 11) (.seq (.reg [of_ 13 3 3, ol_ 14 13, oo_ 15 (.len false (.t 14)), oo_ 16 (.bin .gtr (.t 15) (.c (.int .i64 0))), om_ 17 16, og_ 18 17 true (.mv (.t 0)), og_ 19 17 true (.faddr 3 (.t 3)), og_ 20 17 true (.load none (.t 19)), og_ 21 17 true (.iaddr 4 (.t 20) (.c (.int .i64 0))), og_ 22 17 true (.load (some 4) (.t 21)), og_ 23 17 true (.call 52 [(.t 18), (.t 22)]), og_ 24 17 true (.un .not (.t 23)), oo_ 25 (.pick (.t 17) (.t 24) (.c (.bool false))), om_ 4 25]) .ret) (.seq (.reg [oo_ 27 (.bin .eql (.t 10) (.c (.int .i64 5))), om_ 26 27]) (.cond (.t 26) (.seq (.seq (.reg [of_ 28 3 3, ol_ 29 28, oo_ 30 (.len false (.t 29)), oo_ 31 (.mv (.c (.int .i64 0)))]) (.block 1 (.loop (.seq (.reg [oo_ 32 (.bin .lss (.t 31) (.t 30))]) (.seq (.cond (.t 32) .skip (.exit 1)) (.seq (.block 2 (.seq (.reg [oo_ 33 (.iaddr 4 (.t 29) (.t 31)), oo_ 34 (.load (some 4) (.t 33)), oo_ 6 (.allc 26 [(.int .i64 0), (.int .i64 0), .nilS, .nilS]), os_ (.store 4 (.t 6) (.t 34))]) (.seq (.reg [om_ 35 0, oo_ 36 (.load (some 4) (.t 6)), oo_ 37 (.call 52 [(.t 35), (.t 36)]), oo_ 38 (.un .not (.t 37))]) (.cond (.t 38) (.seq (.reg [oo_ 4 (.mv (.c (.bool false)))]) .ret) .skip)))) (.reg [oo_ 39 (.bin .add (.t 31) (.c (.int .i64 1))), om_ 31 39]))))))) (.seq (.reg [oo_ 4 (.mv (.c (.bool true)))]) .ret)) (.seq (.reg [oo_ 41 (.bin .eql (.t 10) (.c (.int .i64 6))), om_ 40 41]) (.cond (.t 40) (.seq (.seq (.reg [of_ 42 3 3, ol_ 43 42, oo_ 44 (.len false (.t 43)), oo_ 45 (.mv (.c (.int .i64 0)))]) (.block 3 (.loop (.seq (.reg [oo_ 46 (.bin .lss (.t 45) (.t 44))]) (.seq (.cond (.t 46) .skip (.exit 3)) (.seq (.block 4 (.seq (.reg [oo_ 47 (.iaddr 4 (.t 43) (.t 45)), oo_ 48 (.load (some 4) (.t 47)), oo_ 8 (.allc 26 [(.int .i64 0), (.int .i64 0), .nilS, .nilS]), os_ (.store 4 (.t 8) (.t 48))]) (.seq (.reg [om_ 49 0, oo_ 50 (.load (some 4) (.t 8)), oo_ 51 (.call 52 [(.t 49), (.t 50)])]) (.cond (.t 51) (.seq (.reg [oo_ 4 (.mv (.c (.bool true)))]) .ret) .skip)))) (.reg [oo_ 52 (.bin .add (.t 45) (.c (.int .i64 1))), om_ 45 52]))))))) (.seq (.reg [oo_ 4 (.mv (.c (.bool false)))]) .ret)) .skip)))))))) (.seq (.reg [om_ 53 0, oo_ 54 (.load (some 4) (.t 3)), oo_ 55 (.call 98 [(.t 53), (.t 54)]), om_ 4 55]) .ret)))
theorem truth_both_holds.code : comp PG [] (Tryz.f52.body.getD .skip) = truth_both_holds.c := by kernel_rfl
theorem truth_both_holds.of : OfE PG 52 2 truth_both_holds.c [(.t 4)] := fnE (nt := 56) mixed Tryz.func52 truth_both_holds.code (by kernel_rfl) (by kernel_rfl) (by kernel_rfl) (by kernel_rfl) (by kernel_rfl) (by kernel_rfl)
def truth_both_test.n : Nat := 98
noncomputable def truth_both_test.c : C := (.seq (.reg [oo_ 2 (.box 93 (.t 0)), oo_ 3 (.box 26 (.t 1)), oo_ 4 (.mv (.c (.bool false)))]) (.seq (.reg [oo_ 8 (.mkfn 143 [] [(.t 2), (.t 3)]), om_ 5 8]) (.seq (.block 0 (.seq (.reg [of_ 10 0 3, ol_ 11 10, oo_ 12 (.bin .eql (.t 11) (.c (.int .i64 1))), om_ 13 12, og_ 14 13 true (.faddr 2 (.t 3)), og_ 15 13 true (.load none (.t 14)), og_ 16 13 true (.len false (.t 15)), og_ 17 13 true (.bin .eql (.t 16) (.c (.int .i64 2))), oo_ 18 (.pick (.t 13) (.t 17) (.c (.bool false))), om_ 9 18]) (.cond (.t 9) (.seq (.reg [om_ 19 5, of_ 20 1 3, ol_ 21 20, oo_ 22 (.callv (.t 19) [(.t 21), (.c (.int .i64 0)), (.c (.int .i64 1))]), om_ 4 22]) .ret) (.seq (.reg [of_ 24 0 3, ol_ 25 24, oo_ 26 (.bin .eql (.t 25) (.c (.int .i64 2))), om_ 27 26, og_ 28 27 true (.faddr 2 (.t 3)), og_ 29 27 true (.load none (.t 28)), og_ 30 27 true (.len false (.t 29)), og_ 31 27 true (.bin .eql (.t 30) (.c (.int .i64 3))), oo_ 32 (.pick (.t 27) (.t 31) (.c (.bool false))), om_ 23 32]) (.cond (.t 23) (.seq (.reg [om_ 33 5, oo_ 34 (.callv (.t 33) [(.c (.int .i64 6)), (.c (.int .i64 0)), (.c (.int .i64 1))]), om_ 35 34, og_ 36 35 true (.mv (.t 5)), og_ 37 35 true (.callv (.t 36) [(.c (.int .i64 4)), (.c (.int .i64 0)), (.c (.int .i64 2))]), oo_ 38 (.pick (.t 35) (.t 37) (.c (.bool false))), om_ 4 38]) .ret) (.seq (.reg [of_ 40 0 3, ol_ 41 40, oo_ 42 (.bin .eql (.t 41) (.c (.int .i64 3))), om_ 43 42, og_ 44 43 true (.faddr 2 (.t 3)), og_ 45 43 true (.load none (.t 44)), og_ 46 43 true (.len false (.t 45)), og_ 47 43 true (.bin .eql (.t 46) (.c (.int .i64 2))), oo_ 48 (.pick (.t 43) (.t 47) (.c (.bool false))), om_ 39 48]) (.cond (.t 39) (.seq (.dreg [ol_ 50 2, of_ 51 2 3, ol_ 52 51, oo_ 53 (.iaddr 4 (.t 52) (.c (.int .i64 0))), oo_ 54 (.load (some 4) (.t 53)), of_ 55 2 3, ol_ 56 55, oo_ 57 (.iaddr 4 (.t 56) (.c (.int .i64 1))), oo_ 58 (.load (some 4) (.t 57)), oo_ 59 (.callv (.t 50) [(.t 54), (.t 58)]), om_ 49 59, oo_ 60 (.extr (.t 49) 0), oo_ 61 (.extr (.t 49) 1), oo_ 6 (.allc 38 [(.int .i64 0), (.bool false), (.int .u64 0), (.str [])]), oo_ 7 (.allc 38 [(.int .i64 0), (.bool false), (.int .u64 0), (.str [])]), os_ (.store 4 (.t 6) (.t 60))] [os_ (.store 4 (.t 7) (.t 61))]) (.seq (.reg [of_ 62 0 6, ol_ 63 62, oo_ 64 (.bin .eql (.t 63) (.c (.int .i64 2))), om_ 65 64, og_ 66 65 true (.faddr 0 (.t 7)), og_ 67 65 true (.load none (.t 66)), og_ 68 65 true (.bin .eql (.t 67) (.c (.int .i64 2))), oo_ 69 (.pick (.t 65) (.t 68) (.c (.bool false))), om_ 70 69, og_ 71 70 true (.faddr 3 (.t 7)), og_ 72 70 true (.load none (.t 71)), og_ 73 70 true (.faddr 3 (.t 6)), og_ 74 70 true (.load none (.t 73)), og_ 75 70 true (.call 144 [(.t 72), (.t 74)]), oo_ 76 (.pick (.t 70) (.t 75) (.c (.bool false))), om_ 4 76]) .ret)) .skip))))))) (.seq (.reg [oo_ 4 (.mv (.c (.bool false)))]) .ret))))
theorem truth_both_test.code : comp PG [] (Tryz.f98.body.getD .skip) = truth_both_test.c := by kernel_rfl
theorem truth_both_test.of : OfE PG 98 2 truth_both_test.c [(.t 4)] := fnE (nt := 77) mixed Tryz.func98 truth_both_test.code (by kernel_rfl) (by kernel_rfl) (by kernel_rfl) (by kernel_rfl) (by kernel_rfl) (by kernel_rfl)
def truth_both_test_1.n : Nat := 143
noncomputable def truth_both_test_1.c : C := (.seq (.reg [oo_ 8 (.mv (.c (.bool false)))]) (.seq (.dreg [ol_ 12 3, of_ 13 2 4, ol_ 14 13, om_ 15 1, oo_ 16 (.iaddr 4 (.t 14) (.t 15)), oo_ 17 (.load (some 4) (.t 16)), of_ 18 2 4, ol_ 19 18, om_ 20 2, oo_ 21 (.iaddr 4 (.t 19) (.t 20)), oo_ 22 (.load (some 4) (.t 21)), oo_ 23 (.callv (.t 12) [(.t 17), (.t 22)]), om_ 11 23, oo_ 24 (.extr (.t 11) 0), oo_ 25 (.extr (.t 11) 1), oo_ 9 (.allc 38 [(.int .i64 0), (.bool false), (.int .u64 0), (.str [])]), oo_ 10 (.allc 38 [(.int .i64 0), (.bool false), (.int .u64 0), (.str [])]), os_ (.store 4 (.t 9) (.t 24))] [os_ (.store 4 (.t 10) (.t 25))]) (.seq (.reg [om_ 26 0, oo_ 27 (.load (some 4) (.t 9)), oo_ 28 (.load (some 4) (.t 10)), oo_ 29 (.call 29 [(.t 26), (.t 27), (.t 28)]), om_ 8 29]) .ret)))
theorem truth_both_test_1.code : comp PG [] (Tryz.f143.body.getD .skip) = truth_both_test_1.c := by kernel_rfl
theorem truth_both_test_1.of' : OfL PG 143 30 truth_both_test_1.c [(.t 8)] := fnL mixed Tryz.func143 truth_both_test_1.code (by kernel_rfl) (by kernel_rfl) (by kernel_rfl) (by kernel_rfl) (by kernel_rfl)
end Go.Proofs.YtjaigpidmngaaaaGreat

namespace Go.Proofs.YtjaigpidmngaaaaGreat
attribute [local irreducible] callA callP ACalls
theorem wayP_in {l : List Ty} (hv : TyV l) : ∀ (ps : List Pc) {t : Int} (_ : 0 ≤ t) (_ : t < l.length) (acc : List (Bool × Nat)), (wayP l t ps acc).2.2 = 0 → 0 ≤ (wayP l t ps acc).2.1 ∧ (wayP l t ps acc).2.1 < l.length
  | [], t, h0, h1, acc, _ => ⟨h0, h1⟩
  | p :: ps, t, h0, h1, acc, h => by
    rw [wayP] at h ⊢
    split
    · rename_i c
      rw [if_pos c] at h
      have := step_in hv h0 h1 p c
      exact wayP_in hv ps this.1 this.2 _ h
    · rename_i c
      rw [if_neg c] at h
      exact absurd h c
theorem findP_in {l : List Ty} {t : Int} {s : List UInt8} (h : (findP l t s).2.2 = 0) : knownT l t ∧ 0 ≤ (findP l t s).2.1 ∧ (findP l t s).2.1 < l.length := by
  unfold findP at h ⊢
  split at h
  · rename_i c
    rw [if_pos c]
    split at h
    · rename_i c2
      rw [if_pos c2]
      exact ⟨c, wayP_in (tyChk_v c.2.2) _ c.1 c.2.1 _ h⟩
    · cases h
  · cases h
abbrev plA (l : List Ty) (t : Int) : AV := .agg [tysA l, .int .i64 t]
abbrev whA (x : (Int × Int) × Int) : AV := .tup [.agg [.int .i64 x.1.1, .int .i64 x.1.2], .int .i64 x.2]
theorem plan_at_spec (l : List Ty) (hl : TysOk l) (t : Int) (s : List UInt8) (hs : s.length ≤ 1000000) (H : AH) : ACalls PG check_plan_at.n [plA l t, .str s] H fun r H' => r = whA (whatK l (findP l t s)) ∧ H' = H := by
  have hlen : (l.map tyR).length = l.length := by simp
  have hll := hl.len
  have hf := fun H => Find_spec l hl t s hs H
  have hin := @findP_in l t s
  generalize findP l t s = f at *
  obtain ⟨fs, to, e⟩ := f
  dsimp only at hin
  refine ACalls.fz (check_plan_at.of rfl (wpF_start ?_))
  unfold whatK
  (first | refine au ?_ | exact au0)
  intro id2 hid2 ht2; have n2 := neAll_of hid2; (try simp only [neAll, neAll_hset] at n2); have m2 := n2; (repeat (obtain ⟨_, m2⟩ := m2))
  clear hid2
  (first | refine au ?_ | exact au0)
  intro id4 hid4 ht4; have n4 := neAll_of hid4; (try simp only [neAll, neAll_hset] at n4); have m4 := n4; (repeat (obtain ⟨_, m4⟩ := m4))
  clear hid4
  (first | refine au ?_ | exact au0)
  first | refine callF_eq (hf _) ?_ | refine callG_eq rfl (hf _) ?_
  (first | refine au ?_ | exact au0)
  refine bsplit_dec (fun c => ?_) (fun c => ?_)
  · rw [if_pos c]
    (first | refine au ?_ | exact au0)
    exact ⟨fz_of, sub_of⟩
  · rw [if_neg c]
    have c0 : e = 0 := Classical.not_not.1 c
    obtain ⟨hk, q0, q1⟩ := hin c0
    have hge := tAt_get q0 q1
    dsimp only
    generalize tAt l to = g at *
    (first | refine au ?_ | exact au0)
    rw [hge]
    (first | refine au ?_ | exact au0)
    refine bsplit_dec (fun c9 => ?_) (fun c9 => ?_)
    · rw [if_pos c9]
      (first | refine au ?_ | exact au0)
      exact ⟨fz_of, sub_of⟩
    rw [if_neg c9]
    (first | refine au ?_ | exact au0)
    refine bsplit_dec (fun c1 => ?_) (fun c1 => ?_)
    · rw [if_pos c1]
      (first | refine au ?_ | exact au0)
      exact ⟨fz_of, sub_of⟩
    rw [if_neg c1]
    (first | refine au ?_ | exact au0)
    refine bsplit_dec (fun c10 => ?_) (fun c10 => ?_)
    · rw [if_pos c10]
      (first | refine au ?_ | exact au0)
      exact ⟨fz_of, sub_of⟩
    rw [if_neg c10]
    (first | refine au ?_ | exact au0)
    first | refine callF_eq (prim_Number_spec _ _) ?_ | refine callG_eq rfl (prim_Number_spec _ _) ?_
    cases isNum g.kd with
    | true =>
      (first | refine au ?_ | exact au0)
      exact ⟨fz_of, sub_of⟩
    | false =>
      (first | refine au ?_ | exact au0)
      exact ⟨fz_of, sub_of⟩
end Go.Proofs.YtjaigpidmngaaaaGreat

namespace Go.Proofs.YtjaigpidmngaaaaGreat
attribute [local irreducible] callA callP ACalls
set_option maxHeartbeats 1000000 in
theorem test_spec {l : List Tok} (w : Wt l) {σ : PSt} (h : σ.p < l.length) (id : Nat) : SW PG expr_parser_test.n [.ptr id 5 0 0] id (psB l σ) [] (exA (tst l σ).1) (psB l (tst l σ).2) := by
  have hw := w.len
  refine ACalls.fz (expr_parser_test.of rfl (wpF_start ?_))
  unfold tst
  (first | refine au ?_ | exact au0)
  intro id2 hid2 ht2; have n2 := neAll_of hid2; (try simp only [neAll, neAll_hset] at n2); have m2 := n2; (repeat (obtain ⟨_, m2⟩ := m2))
  (first | refine au ?_ | exact au0)
  have hG := Gd.opd w h
  refine (operand_spec w h id).call (by exact hg_of) (Sub.nil _) ?_
  generalize opd l σ = a at *
  obtain ⟨a, τ⟩ := a
  have hlt := hG.lt
  dsimp only at hlt hG ⊢
  (first | refine au ?_ | exact au0)
  intro id3 hid3 ht3; have n3 := neAll_of hid3; (try simp only [neAll, neAll_hset] at n3); have m3 := n3; (repeat (obtain ⟨_, m3⟩ := m3))
  (first | refine au ?_ | exact au0)
  refine (bad_spec l τ id).call (by exact hg_of) (Sub.nil _) ?_
  (first | refine au ?_ | exact au0)
  refine bsplit_dec (fun h1 => ?_) (fun h1 => ?_)
  · rw [if_neg h1]
    (first | refine au ?_ | exact au0)
    exact ⟨fz_of, sub_of⟩
  · have h1' := Classical.not_not.1 h1
    have hs : ∀ s, skb l τ 1 s = isT l τ 1 s := fun s => by unfold skb; rw [decide_eq_true h1']; rfl
    rw [if_pos h1']
    (first | refine au ?_ | exact au0)
    refine (now_spec w hlt id).call (by exact hg_of) (Sub.nil _) ?_
    (first | refine au ?_ | exact au0)
    refine callF_eq (relation_spec _ _) ?_
    (first | refine au ?_ | exact au0)
    refine bsplit_dec (fun h2 => ?_) (fun h2 => ?_)
    · rw [if_pos (by omega)]
      have hG2 := Gd.on w hlt (by rw [relOf_pos (by omega)]; decide)
      (first | refine ab ?_ | exact ab0)
      refine dPick (id := id) (b := psB l τ.on) (by exact hg_of) ?_
      (first | refine au ?_ | exact au0)
      refine (operand_spec w hG2.lt id).draw hget_self (Sub.nil _) (opA_no _) (psB_n _ _ _) ?_
      (first | refine au ?_ | exact au0)
      exact ⟨fz_of, sub_of⟩
    · rw [if_neg (by omega)]
      (first | refine au ?_ | exact au0)
      have qL := skip_spec w hlt id 1 [76, 73, 75, 69]
      have qN := skip_spec w hlt id 1 [78, 79, 84]
      unfold skp at qL
      rw [hs] at qL qN
      cases h3 : isT l τ 1 [76, 73, 75, 69] with
      | true =>
        rw [h3, if_pos rfl] at qL
        rw [if_pos rfl]
        have hG2 := Gd.on w hlt (by rw [(isT_ne h3).1]; decide)
        refine SW.call qL (by exact hg_of) (Sub.nil _) ?_
        (first | refine ab ?_ | exact ab0)
        refine dPick (id := id) (b := psB l τ.on) (by exact hg_of) ?_
        (first | refine au ?_ | exact au0)
        refine (operand_spec w hG2.lt id).draw hget_self (Sub.nil _) (opA_no _) (psB_n _ _ _) ?_
        (first | refine au ?_ | exact au0)
        exact ⟨fz_of, sub_of⟩
      | false =>
        rw [h3, if_neg (by decide)] at qL
        rw [if_neg (by decide)]
        refine SW.call qL (by exact hg_of) (Sub.nil _) ?_
        (first | refine au ?_ | exact au0)
        refine SW.call qN (by exact hg_of) (Sub.nil _) ?_
        clear qL qN
        have hG3 := Gd.skp w hlt (k := 1) (by decide) [78, 79, 84]
        generalize skp l τ 1 [78, 79, 84] = τ2 at *
        generalize isT l τ 1 [78, 79, 84] = nt at *
        unfold btw
        dsimp only
        have hG4 := Gd.mst w hG3.lt (k := 1) (by decide) [66, 69, 84, 87, 69, 69, 78]
        (first | refine au ?_ | exact au0)
        refine (must_spec w hG3.lt id 1 _).call (by exact hg_of) (Sub.nil _) ?_
        generalize mst l τ2 1 [66, 69, 84, 87, 69, 69, 78] = τ3 at *
        (first | refine au ?_ | exact au0)
        have hG5 := Gd.opd w hG4.lt
        refine (operand_spec w hG4.lt id).call (by exact hg_of) (Sub.nil _) ?_
        generalize opd l τ3 = b at *
        obtain ⟨b, τ4⟩ := b
        dsimp only at hG5 ⊢
        (first | refine au ?_ | exact au0)
        intro id6 hid6 ht6; have n6 := neAll_of hid6; (try simp only [neAll, neAll_hset] at n6); have m6 := n6; (repeat (obtain ⟨_, m6⟩ := m6))
        (first | refine au ?_ | exact au0)
        have hG6 := Gd.mst w hG5.lt (k := 1) (by decide) [65, 78, 68]
        refine (must_spec w hG5.lt id 1 _).call (by exact hg_of) (Sub.nil _) ?_
        generalize mst l τ4 1 [65, 78, 68] = τ5 at *
        (first | refine ab ?_ | exact ab0)
        refine dPick (id := id) (b := psB l τ5) (by exact hg_of) ?_
        (first | refine au ?_ | exact au0)
        refine (operand_spec w hG6.lt id).draw hget_self (Sub.nil _) (opA_no _) (psB_n _ _ _) ?_
        (first | refine au ?_ | exact au0)
        intro id7 hid7 ht7; have n7 := neAll_of hid7; (try simp only [neAll, neAll_hset] at n7); have m7 := n7; (repeat (obtain ⟨_, m7⟩ := m7))
        (first | refine au ?_ | exact au0)
        cases nt with
        | true =>
          (first | refine au ?_ | exact au0)
          exact ⟨fz_of, sub_of⟩
        | false =>
          (first | refine au ?_ | exact au0)
          exact ⟨fz_of, sub_of⟩
end Go.Proofs.YtjaigpidmngaaaaGreat

namespace Go.Proofs.YtjaigpidmngaaaaGreat
attribute [local irreducible] callA callP ACalls
def RdF (l : List Tok) (m : Nat) (id : Nat) (fn : Nat) (args : List AV) (Hs : AH) (f : PSt → Ex × PSt) : Prop :=
  ∀ σ : PSt, σ.p < l.length → l.length - σ.p ≤ m → σ.n ≤ 8 → SW PG fn args id (psB l σ) Hs (exA (f σ).1) (psB l (f σ).2)
theorem within_spec {l : List Tok} (w : Wt l) {m id : Nat} {fn : Nat} {fs cs : List AV} {Hs : AH} {f : PSt → Ex × PSt} (hid : hget Hs id = none) (hf : RdF l m id fn (fs ++ [] ++ cs) Hs f) (hg : GdF l m f) {σ : PSt} (h : σ.p < l.length) (h6 : (tk l σ.p).1 ≠ 6)
    (hm : l.length - σ.p ≤ m + 1) (hn : σ.n ≤ 8) : SW PG expr_parser_within.n [.ptr id 5 0 0, .clo fn fs cs] id (psB l σ) Hs (exA (wth l σ f).1) (psB l (wth l σ f).2) := by
  have hw := w.len
  refine ACalls.fz (expr_parser_within.of rfl (wpF_start ?_))
  unfold wth
  (first | refine au ?_ | exact au0)
  intro id4 hid4 ht4; have n4 := neAll_of hid4; (try simp only [neAll, neAll_hset] at n4); have m4 := n4; (repeat (obtain ⟨_, m4⟩ := m4))
  (first | refine au ?_ | exact au0)
  refine bsplit_dec (fun h1 => ?_) (fun h1 => ?_)
  · rw [if_pos (by omega)]
    (first | refine au ?_ | exact au0)
    refine (fail_spec w h id 9).call (by exact hg_of) (Sub.nil _) ?_
    (first | refine au ?_ | exact au0)
    exact ⟨fz_of, sub_of⟩
  · rw [if_neg (by omega)]
    have h2 := w.last _ h h6
    (first | refine au ?_ | exact au0)
    have q := hf ⟨σ.p + 1, σ.n + 1, σ.e, σ.a⟩ h2 (by show l.length - (σ.p + 1) ≤ m; omega) (by show σ.n + 1 ≤ 8; omega)
    have q2 := hg ⟨σ.p + 1, σ.n + 1, σ.e, σ.a⟩ h2 (by show l.length - (σ.p + 1) ≤ m; omega)
    refine SW.call q (by exact hg_of) sub_of ?_
    have q3 := q2.n
    generalize f ⟨σ.p + 1, σ.n + 1, σ.e, σ.a⟩ = R at *
    obtain ⟨x, τ⟩ := R
    obtain ⟨p, n, e, a⟩ := τ
    dsimp only at q3 ⊢
    subst q3
    obtain ⟨op, rel, args, kids⟩ := x
    (first | refine au ?_ | exact au0)
    intro id5 hid5 ht5; have n5 := neAll_of hid5; (try simp only [neAll, neAll_hset] at n5); have m5 := n5; (repeat (obtain ⟨_, m5⟩ := m5))
    (first | refine au ?_ | exact au0)
    refine ⟨fz_of, ?_⟩
    have ee : psB l ⟨p, σ.n + 1 - 1, e, a⟩ = .rows 5 [[.rows 4 (l.map tkR), .int .i64 (p : Nat), .int .i64 (((σ.n + 1 : Nat) : Int) - 1), .int .i64 e, .int .i64 a]] := by
      rw [show (((σ.n + 1 : Nat) : Int) - 1) = ((σ.n + 1 - 1 : Nat) : Int) from by omega]
    rw [ee]
    exact sub_of
theorem Sub.swap {a b : Nat} {x y : Blk} {H : AH} (h : a ≠ b) : Sub ((a, x) :: (b, y) :: H) ((b, y) :: (a, x) :: H) := fun j c q => by
  simp only [hget] at q ⊢
  split at q
  · rename_i e; subst e; rw [if_neg h, if_pos rfl]; exact q
  · rename_i e
    split at q
    · rename_i e2; rw [if_pos e2]; exact q
    · rename_i e2; rw [if_neg e2, if_neg e]; exact q
theorem exRs_len (l : List Ex) : (exRs l).length = l.length := by rw [exRs_map]; simp
theorem exRs_app (l : List Ex) (x : Ex) : exRs (l ++ [x]) = exRs l ++ [exR x] := by simp [exRs_map]
theorem exRs_w (l : List Ex) : ∀ r ∈ exRs l, r.length = 4 := by
  intro r h
  rw [exRs_map] at h
  obtain ⟨x, _, rfl⟩ := List.mem_map.1 h
  exact exR_len x
set_option maxHeartbeats 2000000 in
theorem row_spec {l : List Tok} (w : Wt l) {m id : Nat} {fn : Nat} {fs cs : List AV} {Hs : AH} {f : PSt → Ex × PSt} (hid : hget Hs id = none) (hf : RdF l m id fn (fs ++ [] ++ cs) Hs f) (hg : GdF l m f) (op : Int) (wd : List UInt8) :
    ∀ σ : PSt, σ.p < l.length → l.length - σ.p ≤ m → σ.n ≤ 8 → SW PG expr_parser_row.n [.ptr id 5 0 0, .int .i64 op, .str wd, .clo fn fs cs] id (psB l σ) Hs (exA (rw' l f wd op σ).1) (psB l (rw' l f wd op σ).2) := by
  intro σ h hm hn
  have hw := w.len
  have G1 := hg σ h hm
  refine ACalls.fz (expr_parser_row.of rfl (wpF_start ?_))
  unfold rw'
  dsimp only
  (first | refine au ?_ | exact au0)
  intro id8 hid8 ht8; have n8 := neAll_of hid8; (try simp only [neAll, neAll_hset] at n8); have m8 := n8; (repeat (obtain ⟨_, m8⟩ := m8))
  (first | refine au ?_ | exact au0)
  refine SW.call (hf σ h hm hn) (by exact hg_of) sub_of ?_
  generalize f σ = R at *
  obtain ⟨x, τ⟩ := R
  have hlt := G1.lt
  have hle := G1.le
  have hnn := G1.n
  dsimp only at hlt hle hnn ⊢
  obtain ⟨op1, rel1, args1, kids1⟩ := x
  (first | refine au ?_ | exact au0)
  intro id9 hid9 ht9; have n9 := neAll_of hid9; (try simp only [neAll, neAll_hset] at n9); have m9 := n9; (repeat (obtain ⟨_, m9⟩ := m9))
  (first | refine au ?_ | exact au0)
  intro id15 hid15 ht15; have n15 := neAll_of hid15; (try simp only [neAll, neAll_hset] at n15); have m15 := n15; (repeat (obtain ⟨_, m15⟩ := m15))
  (first | refine au ?_ | exact au0)
  intro id10 hid10 ht10; have n10 := neAll_of hid10; (try simp only [neAll, neAll_hset] at n10); have m10 := n10; (repeat (obtain ⟨_, m10⟩ := m10))
  (first | refine au ?_ | exact au0)
  generalize hx : Ex.mk op1 rel1 args1 kids1 = x at *
  have hx' : [AV.int .i64 op1, .int .i64 rel1, .rows 4 (args1.map opR), .rows 4 (exRs kids1)] = exR x := by rw [← hx]; rfl
  generalize hR : rwL l f wd (l.length + 1) [x] τ = R
  refine ⟨fun n L H' => ∃ (τ' : PSt) (acc : List Ex) (idk : Nat), τ'.p < l.length ∧ σ.p ≤ τ'.p ∧ τ'.n = σ.n ∧ l.length < τ'.p + n ∧ acc.length + n ≤ l.length + 2 ∧ 0 < acc.length ∧ rwL l f wd n acc τ' = R ∧ tag idk = ty_api_Expr ∧
      (idk ≠ id10 ∧ idk ≠ id9 ∧ idk ≠ id8 ∧ idk ≠ id ∧ neAll Hs idk) ∧
      L = [(0, some (.ptr id 5 0 0)), (1, some (.int .i64 op)), (2, some (.str wd)), (3, some (.clo fn fs cs)), (8, some (.ptr id8 4 0 0)), (9, some (.ptr id9 4 0 0)), (10, some (.ptr id10 4 0 0))] ∧
      H' = (idk, .rows 4 (exRs acc)) :: (id10, .rows 4 [[.int .i64 op, .int .i64 0, .nilS, .own idk 4 0 (exRs acc).length]]) :: (id9, .rows 4 [exR x]) :: (id8, .rows 4 [[.int .i64 0, .int .i64 0, .nilS, .nilS]]) :: (id, psB l τ') :: Hs,
    ⟨_, _, ?_, ?_, l.length + 1, τ, [x], id15, hlt, hle, hnn, by omega, by simp; omega, by simp, hR, ht15, ?_, rfl, rfl⟩, ?_⟩
  · exact (by exact cov_of)
  · rw [← hx]
    exact Sub.swap (by omega)
  · obtain ⟨a1, a2, a3, a4⟩ := n15
    exact ⟨by omega, by omega, by omega, by omega, a4⟩
  · clear hR hlt hle hnn G1
    have n8' := n8.2
    have n9' := n9.2.2
    have n10' := n10.2.2.2.2
    clear hid8 hid9 hid10 hid15 n15
    rintro n L H' ⟨τ', acc, idk, hlt, hle, hnn, hn2, hac, hpos, hR, htk, hk, rfl, rfl⟩
    obtain ⟨n, rfl⟩ : ∃ m, n = m + 1 := ⟨n - 1, by omega⟩
    unfold rwL at hR
    have hel := exRs_len acc
    (first | refine au ?_ | exact au0)
    have qs := skip_spec w hlt id 1 wd
    unfold skp at qs
    cases hs : skb l τ' 1 wd with
    | true =>
      rw [hs, if_pos rfl] at qs hR
      refine SW.call qs (by exact hg_of) (Sub.nil _) ?_
      (first | refine ab ?_ | exact ab0)
      have G2 := Gd.on w hlt (by rw [(skb_ne hs).2.1]; decide)
      have G3 := hg τ'.on G2.lt (by show l.length - (τ'.p + 1) ≤ m; omega)
      have q3 := hf τ'.on G2.lt (by show l.length - (τ'.p + 1) ≤ m; omega) (by show τ'.n ≤ 8; omega)
      refine dPick (id := id) (b := psB l τ'.on) (by exact hg_of) ?_
      generalize f τ'.on = S at *
      obtain ⟨y, τ2⟩ := S
      dsimp only at G3 q3 hR
      have hy := exRs_app acc y
      (first | refine au ?_ | exact au0)
      refine SW.draw q3 hget_self sub_of (exA_no _) (psB_n _ _ _) ?_
      obtain ⟨op2, rel2, args2, kids2⟩ := y
      (first | refine au ?_ | exact au0)
      have hk5 := hk.2.2.2.2
      refine ⟨_, _, readS_own (by exact hg_of) (Nat.le_refl _), rfl, rfl, rfl, htk, by simp; omega, ?_⟩
      intro id25 hid25 ht25; have n25 := neAll_of hid25; (try simp only [neAll, neAll_hset] at n25); have m25 := n25; (repeat (obtain ⟨_, m25⟩ := m25))
      (first | refine au ?_ | exact au0)
      generalize hyy : Ex.mk op2 rel2 args2 kids2 = y at *
      have e1 : List.drop 0 (List.take (exRs acc).length (exRs acc)) ++ (List.replicate 1 [AV.int .i64 0, .int .i64 0, .nilS, .nilS]).set 0 (exA y).cells = exRs (acc ++ [y]) := by rw [hy, List.take_length]; rfl
      have e2 : (List.drop 0 (List.take (exRs acc).length (exRs acc))).length + ((List.replicate 1 [AV.int .i64 0, .int .i64 0, .nilS, .nilS]).set 0 (exA y).cells).length = (exRs (acc ++ [y])).length := by rw [← e1, List.length_append]
      have e3 : (List.take (exRs acc).length (exRs acc)).length + ((List.replicate 1 [AV.int .i64 0, .int .i64 0, .nilS, .nilS]).set 0 (exR y)).length = (exRs (acc ++ [y])).length := by rw [List.take_length, hy]; simp
      rw [hdel_cons, hset_self, e1, e2, e3]
      rotate_left
      · exact hget_none ⟨hk.1, hk.2.1, hk.2.2.1, hk.2.2.2.1, hk5⟩
      refine ⟨[(0, some (.ptr id 5 0 0)), (1, some (.int .i64 op)), (2, some (.str wd)), (3, some (.clo fn fs cs)), (8, some (.ptr id8 4 0 0)), (9, some (.ptr id9 4 0 0)), (10, some (.ptr id10 4 0 0))],
        (id25, .rows 4 (exRs (acc ++ [y]))) :: (id10, .rows 4 [[.int .i64 op, .int .i64 0, .nilS, .own id25 4 0 (exRs (acc ++ [y])).length]]) :: (id9, .rows 4 [exR x]) :: (id8, .rows 4 [[.int .i64 0, .int .i64 0, .nilS, .nilS]]) :: (id, psB l τ2) :: Hs,
        (by exact cov_of), Sub.refl _, n, by omega, τ2, acc ++ [y], id25, G3.lt, ?_, ?_, ?_, ?_, by simp, hR, ht25, ?_, rfl, rfl⟩
      · have := G3.le; have : τ'.on.p = τ'.p + 1 := rfl; omega
      · exact G3.n.trans hnn
      · have := G3.le; have : τ'.on.p = τ'.p + 1 := rfl; omega
      · simp; omega
      · exact n25.2
    | false =>
      rw [hs, if_neg (by decide)] at qs hR
      refine SW.call qs (by exact hg_of) (Sub.nil _) ?_
      subst hR
      (first | refine au ?_ | exact au0)
      dsimp only
      refine bsplit_dec (fun h1 => ?_) (fun h1 => ?_)
      · rw [if_pos (by omega)]
        subst hx
        (first | refine au ?_ | exact au0)
        exact ⟨fz_of, sub_of⟩
      · rw [if_neg (by omega)]
        (first | refine au ?_ | exact au0)
        refine ⟨Fz.aggL (FzL.cons (.refl _) (FzL.cons (.refl _) (FzL.cons (.nil _) (FzL.cons ?_ (FzL.nil _ _))))), sub_of⟩
        exact Fz.ownL hget_self (hget_none ⟨hk.2.2.2.1, hk.2.2.2.2⟩) (FzR.refl _ _ _) (exRs_w acc)
theorem RdF.row {l : List Tok} (w : Wt l) {m id : Nat} {fn : Nat} {fs cs : List AV} {f : PSt → Ex × PSt} (hf : RdF l m id fn (fs ++ [] ++ cs) [] f) (hg : GdF l m f) (op : Int) (wd : List UInt8) :
    RdF l m id expr_parser_row.n [.ptr id 5 0 0, .int .i64 op, .str wd, .clo fn fs cs] [] (rw' l f wd op) := fun σ h hm hn => row_spec w rfl hf hg op wd σ h hm hn
theorem and_spec {l : List Tok} (w : Wt l) {m id : Nat} {f : PSt → Ex × PSt} (hf : RdF l m id expr_parser_not.n [.ptr id 5 0 0] [] f) (hg : GdF l m f) : RdF l m id expr_parser_and.n [.ptr id 5 0 0] [] (andE l f) := by
  intro σ h hm hn
  refine ACalls.fz (expr_parser_and.of rfl (wpF_start ?_))
  unfold andE
  (first | refine au ?_ | exact au0)
  intro id2 hid2 ht2; have n2 := neAll_of hid2; (try simp only [neAll, neAll_hset] at n2); have m2 := n2; (repeat (obtain ⟨_, m2⟩ := m2))
  (first | refine au ?_ | exact au0)
  refine SW.call (RdF.row (fs := [.ptr id 5 0 0]) (cs := []) w hf hg 5 [65, 78, 68] σ h hm hn) (by exact hg_of) (Sub.nil _) ?_
  generalize rw' l f [65, 78, 68] 5 σ = R
  obtain ⟨x, τ⟩ := R
  obtain ⟨op, rel, args, kids⟩ := x
  (first | refine au ?_ | exact au0)
  exact ⟨fz_of, sub_of⟩
theorem or_spec {l : List Tok} (w : Wt l) {m id : Nat} {f : PSt → Ex × PSt} (hf : RdF l m id expr_parser_not.n [.ptr id 5 0 0] [] f) (hg : GdF l m f) : RdF l m id expr_parser_or.n [.ptr id 5 0 0] [] (orE l f) := by
  intro σ h hm hn
  refine ACalls.fz (expr_parser_or.of rfl (wpF_start ?_))
  unfold orE
  (first | refine au ?_ | exact au0)
  intro id2 hid2 ht2; have n2 := neAll_of hid2; (try simp only [neAll, neAll_hset] at n2); have m2 := n2; (repeat (obtain ⟨_, m2⟩ := m2))
  (first | refine au ?_ | exact au0)
  refine SW.call (RdF.row (fs := [.ptr id 5 0 0]) (cs := []) w (and_spec w hf hg) (hg.rw w _ _) 6 [79, 82] σ h hm hn) (by exact hg_of) (Sub.nil _) ?_
  generalize rw' l (andE l f) [79, 82] 6 σ = R
  obtain ⟨x, τ⟩ := R
  obtain ⟨op, rel, args, kids⟩ := x
  (first | refine au ?_ | exact au0)
  exact ⟨fz_of, sub_of⟩
abbrev boxB (id : Nat) : Blk := .rows 1 [[.ptr id 5 0 0]]
theorem not1_spec {l : List Tok} {m id idb : Nat} {f : PSt → Ex × PSt} (hne : idb ≠ id) (hf : RdF l m id expr_parser_not.n [.ptr id 5 0 0] [] f) : RdF l m id expr_parser_not_1.n [.ptr idb 1 0 0] [(idb, boxB id)] (inNot f) := by
  intro σ h hm hn
  refine ACalls.fz (expr_parser_not_1.of' (Nat.le_of_ble_eq_true rfl) (wpF_start ?_))
  unfold inNot
  (first | refine au ?_ | exact au0)
  intro id1 hid1 ht1; have n1 := neAll_of hid1; (try simp only [neAll, neAll_hset] at n1); have m1 := n1; (repeat (obtain ⟨_, m1⟩ := m1))
  (first | refine au ?_ | exact au0)
  refine SW.call (hf σ h hm hn) (by exact hg_of) (Sub.nil _) ?_
  generalize f σ = R
  obtain ⟨x, τ⟩ := R
  obtain ⟨op, rel, args, kids⟩ := x
  (first | refine au ?_ | exact au0)
  exact ⟨fz_of, sub_of⟩
theorem not2_spec {l : List Tok} (w : Wt l) {m id idb : Nat} {f : PSt → Ex × PSt} (hne : idb ≠ id) (hf : RdF l m id expr_parser_not.n [.ptr id 5 0 0] [] f) (hg : GdF l m f) : RdF l m id expr_parser_not_2.n [.ptr idb 1 0 0] [(idb, boxB id)] (inBr l f) := by
  intro σ h hm hn
  have G := hg.or w σ h hm
  refine ACalls.fz (expr_parser_not_2.of' (Nat.le_of_ble_eq_true rfl) (wpF_start ?_))
  unfold inBr
  (first | refine au ?_ | exact au0)
  intro id1 hid1 ht1; have n1 := neAll_of hid1; (try simp only [neAll, neAll_hset] at n1); have m1 := n1; (repeat (obtain ⟨_, m1⟩ := m1))
  (first | refine au ?_ | exact au0)
  refine SW.call (or_spec w hf hg σ h hm hn) (by exact hg_of) (Sub.nil _) ?_
  generalize orE l f σ = R at *
  obtain ⟨x, τ⟩ := R
  obtain ⟨op, rel, args, kids⟩ := x
  (first | refine au ?_ | exact au0)
  intro id2 hid2 ht2; have n2 := neAll_of hid2; (try simp only [neAll, neAll_hset] at n2); have m2 := n2; (repeat (obtain ⟨_, m2⟩ := m2))
  (first | refine au ?_ | exact au0)
  refine (must_spec w G.lt id 5 [41]).call (by exact hg_of) (Sub.nil _) ?_
  (first | refine au ?_ | exact au0)
  exact ⟨fz_of, sub_of⟩
theorem not_spec {l : List Tok} (w : Wt l) (id : Nat) : ∀ n : Nat, RdF l n id expr_parser_not.n [.ptr id 5 0 0] [] (ntE l n)
  | 0 => fun σ h hm hn => by omega
  | n + 1 => by
    intro σ h hm hn
    have ih := not_spec w id n
    have hg := GdF.nt w n
    refine ACalls.fz (expr_parser_not.of rfl (wpF_start ?_))
    unfold ntE
    (first | refine au ?_ | exact au0)
    intro id1 hid1 ht1; have n1 := neAll_of hid1; (try simp only [neAll, neAll_hset] at n1); have m1 := n1; (repeat (obtain ⟨_, m1⟩ := m1))
    (first | refine au ?_ | exact au0)
    intro id2 hid2 ht2; have n2 := neAll_of hid2; (try simp only [neAll, neAll_hset] at n2); have m2 := n2; (repeat (obtain ⟨_, m2⟩ := m2))
    (first | refine au ?_ | exact au0)
    refine (bad_spec l σ id).call (by exact hg_of) (Sub.nil _) ?_
    (first | refine au ?_ | exact au0)
    refine bsplit_dec (fun h1 => ?_) (fun h1 => ?_)
    · rw [if_neg h1]
      (first | refine au ?_ | exact au0)
      exact ⟨fz_of, sub_of⟩
    · rw [if_pos (Classical.not_not.1 h1)]
      (first | refine au ?_ | exact au0)
      refine (is_spec w h id 1 [78, 79, 84]).call (by exact hg_of) (Sub.nil _) ?_
      cases h2 : isT l σ 1 [78, 79, 84] with
      | true =>
        have ne1 : id1 ≠ id := n1.1
        rw [if_pos rfl]
        (first | refine au ?_ | exact au0)
        refine SW.call (within_spec (fs := []) (cs := [.ptr id1 1 0 0]) w (hget_tail ne1) (not1_spec ne1 ih) (fun τ a b => hg τ a b) h (by rw [(isT_ne h2).1]; decide) hm hn) (by exact hg_of) sub_of ?_
        generalize wth l σ (inNot (ntE l n)) = R
        obtain ⟨x, τ⟩ := R
        obtain ⟨op, rel, args, kids⟩ := x
        (first | refine au ?_ | exact au0)
        exact ⟨fz_of, sub_of⟩
      | false =>
        rw [if_neg (by decide)]
        (first | refine au ?_ | exact au0)
        refine (is_spec w h id 5 [40]).call (by exact hg_of) (Sub.nil _) ?_
        cases h3 : isT l σ 5 [40] with
        | true =>
          have ne1 : id1 ≠ id := n1.1
          rw [if_pos rfl]
          (first | refine au ?_ | exact au0)
          refine SW.call (within_spec (fs := []) (cs := [.ptr id1 1 0 0]) w (hget_tail ne1) (not2_spec w ne1 ih hg) (hg.inBr w) h (by rw [(isT_ne h3).1]; decide) hm hn) (by exact hg_of) sub_of ?_
          generalize wth l σ (inBr l (ntE l n)) = R
          obtain ⟨x, τ⟩ := R
          obtain ⟨op, rel, args, kids⟩ := x
          (first | refine au ?_ | exact au0)
          exact ⟨fz_of, sub_of⟩
        | false =>
          rw [if_neg (by decide)]
          (first | refine au ?_ | exact au0)
          refine (test_spec w h id).call (by exact hg_of) (Sub.nil _) ?_
          generalize tst l σ = R
          obtain ⟨x, τ⟩ := R
          obtain ⟨op, rel, args, kids⟩ := x
          (first | refine au ?_ | exact au0)
          exact ⟨fz_of, sub_of⟩
end Go.Proofs.YtjaigpidmngaaaaGreat

namespace Go.Proofs.YtjaigpidmngaaaaGreat
structure Rl2 (X Y : Ex × PSt) : Prop where
  s : Y.2 = X.2
  v : X.2.e = 0 → Y.1 = X.1
theorem Rl2.refl (X : Ex × PSt) : Rl2 X X := ⟨rfl, fun _ => rfl⟩
end Go.Proofs.YtjaigpidmngaaaaGreat

namespace Go.Proofs.YtjaigpidmngaaaaGreat
theorem qs_len : ∀ (m : Nat) (r : List UInt8) (i : Nat) (acc t : List UInt8) (n : Nat), r.length ≤ m → qs r i acc = .done t n → t.length ≤ acc.length + r.length
  | m, [], i, acc, t, n, _, h => by cases h
  | m, [c], i, acc, t, n, _, h => by
    simp only [qs] at h
    split at h
    · cases h
    · split at h
      · cases h; simp
      · cases h
  | 0, c :: d :: r, i, acc, t, n, hm, h => by simp at hm
  | m + 1, c :: d :: r, i, acc, t, n, hm, h => by
    simp only [List.length_cons] at hm ⊢
    simp only [qs] at h
    split at h
    · cases h
    · split at h
      · split at h
        · have := qs_len m r _ _ t n (by omega) h
          simp at this
          omega
        · cases h; omega
      · have := qs_len m (d :: r) _ _ t n (by simp; omega) h
        simp only [List.length_cons, List.length_append, List.length_nil] at this
        omega
theorem lex_tok {s : List UInt8} {k : Int} {t : List UInt8} {num n : Nat} (h : lex s = .tok k t num n) : 1 ≤ k ∧ k ≤ 5 ∧ t.length ≤ s.length ∧ (k = 1 → t ≠ []) := by
  cases s with
  | nil => cases h
  | cons c r =>
    rw [lex_cons] at h
    split at h
    · rename_i hc
      cases h
      refine ⟨by decide, by decide, by rw [List.length_take]; exact Nat.min_le_right _ _, fun _ => ?_⟩
      intro e
      have := congrArg List.length e
      rw [List.length_take, nl_cons, if_pos hc] at this
      simp at this
    · split at h
      · split at h
        · cases h
        · split at h
          · cases h; exact ⟨by decide, by decide, by rw [List.length_take]; exact Nat.min_le_right _ _, fun e => by cases e⟩
          · cases h
      · split at h
        · split at h
          · rename_i e; cases h
            have := qs_len _ _ _ _ _ _ (Nat.le_refl _) e
            simp only [List.length_nil] at this
            exact ⟨by decide, by decide, by simp only [List.length_cons]; omega, fun e => by cases e⟩
          · cases h
          · cases h
        · split at h
          · split at h
            · split at h
              · cases h; exact ⟨by decide, by decide, by simp, fun e => by cases e⟩
              · cases h
            · cases h
          · split at h
            · cases h
              exact ⟨by decide, by decide, by rw [List.length_take]; exact Nat.min_le_right _ _, fun e => by cases e⟩
            · cases h
structure Tks (s : List UInt8) (n : Nat) (l : List Tok) : Prop where
  ex : ∃ p : List Tok, l = p ++ [(6, [], 0, s.length)] ∧ p.length + n ≤ 64 ∧ ∀ t ∈ p, 1 ≤ t.1 ∧ t.1 ≤ 5 ∧ t.2.1.length ≤ s.length ∧ (t.1 = 1 → t.2.1 ≠ [])
theorem tks_wt (s : List UInt8) : ∀ (k a n : Nat) (l : List Tok), s.length - a ≤ k → n ≤ 64 → tks s a n = .ok l → Tks s n l
  | k, a, n, l, hk, hn, h => by
    rcases Nat.lt_or_ge a s.length with hl | hl
    · rw [tks_eq hl] at h
      obtain ⟨k, rfl⟩ : ∃ k', k = k' + 1 := ⟨k - 1, by omega⟩
      split at h
      · exact tks_wt s k _ n l (by omega) hn h
      · split at h
        · cases h
        · rename_i kk t num m hx
          have := lex_bound hx
          have ht := lex_tok hx
          split at h
          · cases h
          · cases hh : tks s (a + m) (n + 1) with
            | bad e p => rw [hh] at h; cases h
            | ok l' =>
              rw [hh] at h
              obtain ⟨p, rfl, q2, q3⟩ := tks_wt s k _ (n + 1) l' (by omega) (by omega) hh
              cases h
              refine ⟨(kk, t, num, a) :: p, rfl, by simp; omega, fun x hx => ?_⟩
              rcases List.mem_cons.1 hx with rfl | hx
              · refine ⟨ht.1, ht.2.1, ?_, ht.2.2.2⟩
                have := ht.2.2.1
                rw [List.length_drop] at this
                show t.length ≤ s.length
                omega
              · exact q3 x hx
    · rw [tks_end hl] at h
      cases h
      exact ⟨[], rfl, by simpa using hn, by simp⟩
theorem tokens_wt {s : List UInt8} {l : List Tok} (h : tokens s = .ok l) : Wt l := by
  unfold tokens at h
  split at h
  · cases h
  · rename_i hs
    obtain ⟨p, rfl, h2, h3⟩ := tks_wt s _ 0 0 l (Nat.le_refl _) (by omega) h
    have tkp : ∀ i, i < p.length → ∃ t ∈ p, tk (p ++ [(6, [], 0, s.length)]) i = t := fun i hi => ⟨p[i], List.getElem_mem hi, by
      unfold tk; rw [List.getD_eq_getElem?_getD, List.getElem?_append_left hi]; simp [hi]⟩
    have tko : ∀ i, p.length ≤ i → (tk (p ++ [(6, [], 0, s.length)]) i).1 = 6 ∧ (tk (p ++ [(6, [], 0, s.length)]) i).2.1 = [] := fun i hi => by
      unfold tk
      rw [List.getD_eq_getElem?_getD, List.getElem?_append_right hi]
      cases i - p.length with
      | zero => simp
      | succ j => simp
    refine ⟨by simp, by simp; omega, fun i hi h6 => ?_, fun i => ?_, fun i h1 => ?_⟩
    · rcases Nat.lt_or_ge i p.length with h | h
      · simp; omega
      · exact absurd (tko i h).1 h6
    · rcases Nat.lt_or_ge i p.length with h | h
      · obtain ⟨t, ht, e⟩ := tkp i h
        rw [e]
        have := (h3 t ht).2.2.1
        omega
      · rw [(tko i h).2]; simp
    · rcases Nat.lt_or_ge i p.length with h | h
      · obtain ⟨t, ht, e⟩ := tkp i h
        rw [e] at h1 ⊢
        exact (h3 t ht).2.2.2 h1
      · rw [(tko i h).1] at h1; cases h1
end Go.Proofs.YtjaigpidmngaaaaGreat

namespace Go.Proofs.YtjaigpidmngaaaaGreat
attribute [local irreducible] callA callP ACalls
structure OneK (R : LR) (at' : Nat) (r : AV) : Prop where
  tok : ∀ k t num n, R = .tok k t num n → r = .tup [tokA k t num at', .int .i64 (n : Nat), fltA 0 0]
  bad : ∀ e off, R = .bad e off → ∃ k t num a m, r = .tup [tokA k t num a, .int .i64 m, fltA e (at' + off : Nat)]
theorem OneK.of_tok {at' : Nat} {k : Int} {t : List UInt8} {num n : Nat} {r : AV} (h : r = .tup [tokA k t num at', .int .i64 (n : Nat), fltA 0 0]) : OneK (.tok k t num n) at' r :=
  ⟨(fun k t num n e => by cases e; exact h), (fun e off q => by cases q)⟩
theorem OneK.of_bad {at' : Nat} {e : Int} {off : Nat} {k num a m : Int} {t : List UInt8} {r : AV} (h : r = .tup [tokA k t num a, .int .i64 m, fltA e (at' + off : Nat)]) : OneK (.bad e off) at' r :=
  ⟨(fun k t num n e => by cases e), (fun e' off' q => by cases q; exact ⟨k, t, num, a, m, h⟩)⟩
end Go.Proofs.YtjaigpidmngaaaaGreat

namespace Go.Proofs.YtjaigpidmngaaaaGreat
attribute [local irreducible] callA callP ACalls
structure TS2 (id3 : Nat) (v : AV) (l : List (Int × List UInt8 × Nat × Nat)) (H : AH) : Prop where
  g3 : hget H id3 = some (.rows 2 [[.int .i64 0, .int .i64 0]])
  s : OwnS H ty_api_Token 4 v (l.map tkR)
  len : l.length ≤ 64
theorem TS2.own {id3 : Nat} {v : AV} {l : List (Int × List UInt8 × Nat × Nat)} {H : AH} (h : TS2 id3 v l H) : (v = .nilS ∧ l = []) ∨ ∃ id, v = .own id 4 0 l.length ∧ hget H id = some (.rows 4 (l.map tkR)) ∧ tag id = ty_api_Token ∧ 0 < l.length ∧ id ≠ id3 := by
  rcases h.s.or with ⟨q1, q2⟩ | ⟨id, q1, q2, q3, q4⟩
  · exact .inl ⟨q1, by simpa using q2⟩
  · refine .inr ⟨id, by rw [q1, List.length_map], q2, q3, by simpa using q4, fun e => ?_⟩
    rw [e, h.g3] at q2; cases q2
end Go.Proofs.YtjaigpidmngaaaaGreat

namespace Go.Proofs.YtjaigpidmngaaaaGreat
attribute [local irreducible] callA callP ACalls
def tokV : TR → AV
  | .ok l => .tup [.rows 4 (l.map tkR), fltA 0 0]
  | .bad e p => .tup [.nilS, fltA e (p : Nat)]
theorem TokO.fz {R : TR} {r : AV} {H : AH} (h : TokO R r H) : ∃ r' Hc, Sub Hc H ∧ Fz H Hc r r' ∧ r' = tokV R := by
  cases hR : R with
  | ok l =>
    obtain ⟨id, rfl, hg⟩ := h.ok l hR
    refine ⟨_, [], (fun _ _ q => by cases q), ?_, rfl⟩
    have hf := fz_own (Hc := []) hg rfl (Nat.zero_le l.length) (by rw [List.length_map]; exact Nat.le_refl _) (tkR_len l)
    rw [List.drop_zero, show (l.map tkR).take l.length = l.map tkR from by rw [show l.length = (l.map tkR).length from by simp, List.take_length]] at hf
    obtain ⟨q1, q2⟩ := FzL.cons hf (FzL.cons (Fz.refl (fltA 0 0)) (FzL.nil H []))
    exact .tup _ _ q1 q2
  | bad e p =>
    obtain rfl := h.bad e p hR
    exact ⟨_, [], (fun _ _ q => by cases q), .refl _, rfl⟩
theorem Tokens_spec {s : List UInt8} (hs : s.length ≤ 140737488351232) : ACalls PG token_Tokens.n [.str s] [] fun r _ => r = tokV (tokens s) :=
  (Tokens_spec0 hs).freeze fun _ _ h => h.fz
end Go.Proofs.YtjaigpidmngaaaaGreat

namespace Go.Proofs.YtjaigpidmngaaaaGreat
attribute [local irreducible] callA callP ACalls
theorem tksP_bad (s : List UInt8) : ∀ (k a n : Nat) (e : Int) (p : Nat), s.length - a ≤ k → tks s a n = .bad e p → 0 < e
  | k, a, n, e, p, hk, h => by
    rcases Nat.lt_or_ge a s.length with hl | hl
    · rw [tks_eq hl] at h
      obtain ⟨k, rfl⟩ : ∃ k', k = k' + 1 := ⟨k - 1, by omega⟩
      split at h
      · exact tksP_bad s k _ n e p (by omega) h
      · split at h
        · rename_i hx; cases h; exact (lex_err hx).1
        · rename_i kk t num m hx
          have := lex_bound hx
          split at h
          · cases h; decide
          · cases hh : tks s (a + m) (n + 1) with
            | bad e' p' => rw [hh] at h; cases h; exact tksP_bad s k _ _ _ _ (by omega) hh
            | ok l' => rw [hh] at h; cases h
    · rw [tks_end hl] at h; cases h
theorem tokensP_bad {s : List UInt8} {e : Int} {p : Nat} (h : tokens s = .bad e p) : 0 < e := by
  unfold tokens at h
  split at h
  · cases h; decide
  · exact tksP_bad s _ 0 0 e p (Nat.le_refl _) h
def parseT (l : List Tok) : Ex × Int × Int := if (endE l (topE l).2).e = 0 then ((topE l).1, 0, 0) else (ex0, (endE l (topE l).2).e, (endE l (topE l).2).a)
def parseP (s : List UInt8) : Ex × Int × Int := match tokens s with
  | .bad e p => (ex0, e, (p : Nat))
  | .ok l => parseT l
theorem parseP_ok {s : List UInt8} {l : List Tok} (h : tokens s = .ok l) : parseP s = parseT l := by unfold parseP; rw [h]
theorem parseP_bad {s : List UInt8} {e : Int} {p : Nat} (h : tokens s = .bad e p) : parseP s = (ex0, e, ((p : Nat) : Int)) := by unfold parseP; rw [h]
abbrev parV (R : Ex × Int × Int) : AV := .tup [exA R.1, fltA R.2.1 R.2.2]
theorem Parse_spec {s : List UInt8} (hs : s.length ≤ 140737488351232) : ACalls PG expr_Parse.n [.str s] [] fun r _ => r = parV (parseP s) := by
  refine ACalls.fzK (expr_Parse.of rfl (wpF_start ?_))
  (first | refine au ?_ | exact au0)
  intro id2 hid2 ht2; have n2 := neAll_of hid2; (try simp only [neAll, neAll_hset] at n2); have m2 := n2; (repeat (obtain ⟨_, m2⟩ := m2))
  (first | refine au ?_ | exact au0)
  intro id3 hid3 ht3; have n3 := neAll_of hid3; (try simp only [neAll, neAll_hset] at n3); have m3 := n3; (repeat (obtain ⟨_, m3⟩ := m3))
  (first | refine au ?_ | exact au0)
  refine callF_eq ((Tokens_spec hs).frame _) ?_
  cases hT : tokens s with
  | bad e p =>
    have he := tokensP_bad hT
    rw [parseP_bad hT]
    (first | refine au ?_ | exact au0)
    intro id5 hid5 ht5; have n5 := neAll_of hid5; (try simp only [neAll, neAll_hset] at n5); have m5 := n5; (repeat (obtain ⟨_, m5⟩ := m5))
    (first | refine au ?_ | exact au0)
    exact fz_of
  | ok l =>
    have w := tokens_wt hT
    rw [parseP_ok hT]
    have hpos := w.pos
    have hw := w.len
    (first | refine au ?_ | exact au0)
    intro id5 hid5 ht5; have n5 := neAll_of hid5; (try simp only [neAll, neAll_hset] at n5); have m5 := n5; (repeat (obtain ⟨_, m5⟩ := m5))
    (first | refine au ?_ | exact au0)
    intro id20 hid20 ht20; have n20 := neAll_of hid20; (try simp only [neAll, neAll_hset] at n20); have m20 := n20; (repeat (obtain ⟨_, m20⟩ := m20))
    (first | refine au ?_ | exact au0)
    have G := (GdF.nt w l.length).or w ⟨0, 0, 0, 0⟩ hpos (by show l.length - 0 ≤ _; omega)
    refine SW.call (or_spec w (not_spec w id20 l.length) (GdF.nt w l.length) ⟨0, 0, 0, 0⟩ hpos (by show l.length - 0 ≤ _; omega) (by decide)) (by exact hg_of) (Sub.nil _) ?_
    generalize hX : topE l = X
    have hP : parseT l = if (endE l X.2).e = 0 then (X.1, 0, 0) else (ex0, (endE l X.2).e, (endE l X.2).a) := by unfold parseT; rw [hX]
    rw [hP]
    unfold topE at hX
    rw [hX] at G ⊢
    obtain ⟨x, τ⟩ := X
    obtain ⟨op, rel, args, kids⟩ := x
    have Glt : τ.p < l.length := G.lt
    show hsetK _ _ (psB l τ) _
    (first | refine au ?_ | exact au0)
    intro id7 hid7 ht7; have n7 := neAll_of hid7; (try simp only [neAll, neAll_hset] at n7); have m7 := n7; (repeat (obtain ⟨_, m7⟩ := m7))
    (first | refine au ?_ | exact au0)
    refine (bad_spec l τ id20).call (by exact hg_of) (Sub.nil _) ?_
    by_cases he : τ.e = 0
    · by_cases h6 : (tk l τ.p).1 = 6
      · rw [show endE l τ = τ from if_neg fun q => q.2 h6, if_pos he]
        (first | refine au ?_ | exact au0)
        refine (now_spec w Glt id20).call (by exact hg_of) (Sub.nil _) ?_
        (first | refine au ?_ | exact au0)
        refine (bad_spec l τ id20).call (by exact hg_of) (Sub.nil _) ?_
        (first | refine au ?_ | exact au0)
        exact fz_of
      · rw [show endE l τ = τ.fail l 11 from if_pos ⟨he, h6⟩]
        have hf : (τ.fail l 11).e = 11 := by unfold PSt.fail; rw [if_pos he]
        rw [if_neg (show ¬ (τ.fail l 11).e = 0 by rw [hf]; decide)]
        (first | refine au ?_ | exact au0)
        refine (now_spec w Glt id20).call (by exact hg_of) (Sub.nil _) ?_
        (first | refine au ?_ | exact au0)
        refine (fail_spec w Glt id20 11).call (by exact hg_of) (Sub.nil _) ?_
        (first | refine au ?_ | exact au0)
        refine (bad_spec l (τ.fail l 11) id20).call (by exact hg_of) (Sub.nil _) ?_
        (first | refine au ?_ | exact au0)
        exact fz_of
    · rw [show endE l τ = τ from if_neg fun q => he q.1, if_neg he]
      (first | refine au ?_ | exact au0)
      refine (bad_spec l τ id20).call (by exact hg_of) (Sub.nil _) ?_
      (first | refine au ?_ | exact au0)
      exact fz_of
end Go.Proofs.YtjaigpidmngaaaaGreat

namespace Go.Proofs.YtjaigpidmngaaaaGreat
attribute [local irreducible] callA callP ACalls
def txB (a : List Opd) (i : Nat) : Nat := min (eTx (a.take i)) 100000
def cnt (a : List Opd) (k : List Ex) (i : Nat) : Nat := min (txB a a.length + eSizes (k.take i)) 100000
end Go.Proofs.YtjaigpidmngaaaaGreat

namespace Go.Proofs.YtjaigpidmngaaaaGreat
attribute [local irreducible] callA callP ACalls
theorem len2 {α : Type} {l : List α} (h : l.length = 2) : ∃ a b, l = [a, b] := by
  match l, h with
  | [a, b], _ => exact ⟨a, b, rfl⟩
theorem len3 {α : Type} {l : List α} (h : l.length = 3) : ∃ a b c, l = [a, b, c] := by
  match l, h with
  | [a, b, c], _ => exact ⟨a, b, c, rfl⟩
theorem AYields.sub {P : Program} {id : Nat} {args : List AV} {H : AH} {K : AV → AH → Prop} (h : AYields P id args H fun r H' => ∃ q Hc, r = .bool q ∧ Sub Hc H' ∧ K (.bool q) Hc) : AYields P id args H K :=
  h.freeze fun r H' ⟨q, Hc, e, hs, hk⟩ => ⟨.bool q, Hc, hs, by subst e; exact Fz.refl _, hk⟩
end Go.Proofs.YtjaigpidmngaaaaGreat

namespace Go.Proofs.YtjaigpidmngaaaaGreat
attribute [local irreducible] callA callP ACalls
theorem exR_kid {k : List Ex} {i : Nat} (h : i < k.length) : (exRs k).getD ((i : Nat) : Int).toNat [] = exR k[i] := by
  rw [exRs_map]; exact row_get (f := exR) h
end Go.Proofs.YtjaigpidmngaaaaGreat

namespace Go.Proofs.YtjaigpidmngaaaaGreat
attribute [local irreducible] callA callP ACalls
structure Wh (w : Int × Int) (n : Nat) : Prop where
  h0 : 0 ≤ w.2
  h1 : w.2 ≤ n
  h2 : 0 < w.2 → w.1 = 1
  h3 : 0 ≤ w.1 ∧ w.1 ≤ 3
theorem whK_wh (l : List Ty) (t : Int) (s : List UInt8) : Wh (whatK l (findP l t s)).1 l.length := by
  unfold whatK
  split
  · exact ⟨by dsimp only; omega, by dsimp only; omega, by dsimp only; omega, by dsimp only; omega⟩
  · rename_i c
    have := findP_in (Classical.not_not.1 c)
    repeat' split
    all_goals exact ⟨by dsimp only; omega, by dsimp only; omega, by dsimp only; omega, by dsimp only; omega⟩
end Go.Proofs.YtjaigpidmngaaaaGreat

namespace Go.Proofs.YtjaigpidmngaaaaGreat
attribute [local irreducible] callA callP ACalls
theorem whatK_err {l : List Ty} {f : List (Bool × Nat) × Int × Int} (h : 0 < (whatK l f).1.2) : (whatK l f).2 = 0 := by
  unfold whatK at h ⊢
  repeat' split at h
  all_goals first | (dsimp only at h; omega) | skip
  rename_i c c9
  rw [if_neg c, if_pos c9]
theorem check_Datum_spec (l : List Ty) (hl : TysOk l) (t : Int) (o b : Opd) (hs : b.t.length ≤ 1000000) (H : AH) : ACalls PG check_Datum.n [tysA l, .int .i64 t, opA o, opA b] H fun r H' => r = datA (chkD l t o b) ∧ H' = H := by
  have hlen : (l.map tyR).length = l.length := by simp
  have hll := hl.len
  have hat := fun H => plan_at_spec l hl t b.t hs H
  have hw := whK_wh l t b.t
  have hke := @whatK_err l (findP l t b.t)
  have hi := fun n H => Item_spec l hl n o.t H
  refine ACalls.fz (check_Datum.of rfl (wpF_start ?_))
  unfold chkD
  generalize whatK l (findP l t b.t) = w at *
  (first | refine au ?_ | exact au0)
  intro id4 hid4 ht4; have n4 := neAll_of hid4; (try simp only [neAll, neAll_hset] at n4); have m4 := n4; (repeat (obtain ⟨_, m4⟩ := m4))
  clear hid4
  (first | refine au ?_ | exact au0)
  intro id5 hid5 ht5; have n5 := neAll_of hid5; (try simp only [neAll, neAll_hset] at n5); have m5 := n5; (repeat (obtain ⟨_, m5⟩ := m5))
  clear hid5
  (first | refine au ?_ | exact au0)
  intro id6 hid6 ht6; have n6 := neAll_of hid6; (try simp only [neAll, neAll_hset] at n6); have m6 := n6; (repeat (obtain ⟨_, m6⟩ := m6))
  clear hid6
  (first | refine au ?_ | exact au0)
  by_cases c2 : o.k = 2
  · rw [if_pos c2]
    obtain ⟨ok, ot, og, on⟩ := o
    dsimp only at c2 ⊢
    cases og
    · (first | refine au ?_ | exact au0)
      exact ⟨fz_of, sub_of⟩
    · rw [show (true && decide (0 < on)) = decide ((0 : Int) < (on : Nat)) from by rw [Bool.true_and]; exact decide_eq_decide.2 (by omega)]
      (first | refine au ?_ | exact au0)
      exact ⟨fz_of, sub_of⟩
  rw [if_neg c2]
  by_cases c4 : o.k = 4
  · rw [if_pos c4]
    (first | refine au ?_ | exact au0)
    exact ⟨fz_of, sub_of⟩
  rw [if_neg c4]
  by_cases c3 : o.k = 3
  rotate_left
  · rw [if_neg c3]
    (first | refine au ?_ | exact au0)
    exact ⟨fz_of, sub_of⟩
  rw [if_pos c3]
  by_cases cb : b.k = 1
  rotate_left
  · rw [if_neg (fun q => cb q.1)]
    (first | refine au ?_ | exact au0)
    exact ⟨fz_of, sub_of⟩
  obtain ⟨⟨wk, wo⟩, we⟩ := w
  have hw0 := hw.h0
  have hw1 := hw.h1
  dsimp only at hke hw0 hw1 ⊢
  (first | refine au ?_ | exact au0)
  first | refine callF_eq (hat _) ?_ | refine callG_eq rfl (hat _) ?_
  (first | refine au ?_ | exact au0)
  intro id14 hid14 ht14; have n14 := neAll_of hid14; (try simp only [neAll, neAll_hset] at n14); have m14 := n14; (repeat (obtain ⟨_, m14⟩ := m14))
  clear hid14
  (first | refine au ?_ | exact au0)
  by_cases cw : 0 < wo
  rotate_left
  · rw [if_neg (fun q => cw q.2)]
    by_cases ce : we = 0
    · (first | refine au ?_ | exact au0)
      exact ⟨fz_of, sub_of⟩
    · (first | refine au ?_ | exact au0)
      exact ⟨fz_of, sub_of⟩
  rw [if_pos ⟨cb, cw⟩]
  have ce := hke cw
  clear hke
  have hi := fun H => hi (wo - 1) H
  have hii := fun n => @itemIx_lt l (wo - 1) o.t n
  have hge := tAt_get (l := l) (t := wo - 1) (by omega) (by omega)
  have hti := (hl.all _ (tAt_mem (l := l) (t := wo - 1) (by omega) (by omega))).its
  have hnm := fun n (q : n < (tAt l (wo - 1)).its.length) => (hl.all _ (tAt_mem (l := l) (t := wo - 1) (by omega) (by omega))).nums _ (List.getElem_mem q)
  generalize itemIx l (wo - 1) o.t = ix at *
  generalize tAt l (wo - 1) = g at *
  cases ix with
  | none =>
    (first | refine au ?_ | exact au0)
    first | refine callF_eq (hi _) ?_ | refine callG_eq rfl (hi _) ?_
    (first | refine au ?_ | exact au0)
    exact ⟨fz_of, sub_of⟩
  | some n =>
    have hii := hii n rfl
    have hge2 := row_get (f := itR) hii
    have hlen2 : (g.its.map itR).length = g.its.length := by simp
    dsimp only
    rw [show g.its.getD n it0 = g.its[n] from by simp [List.getD, hii]]
    (first | refine au ?_ | exact au0)
    first | refine callF_eq (hi _) ?_ | refine callG_eq rfl (hi _) ?_
    (first | refine au ?_ | exact au0)
    rw [hge]
    (first | refine au ?_ | exact au0)
    rw [hge2]
    (first | refine au ?_ | exact au0)
    first | refine callF_eq (prim_Datum_spec 9 g.its[n].num _) ?_ | refine callG_eq rfl (prim_Datum_spec 9 g.its[n].num _) ?_
    (first | refine au ?_ | exact au0)
    exact ⟨fz_of, sub_of⟩
end Go.Proofs.YtjaigpidmngaaaaGreat

namespace Go.Proofs.YtjaigpidmngaaaaGreat
attribute [local irreducible] callA callP ACalls
theorem TyG.more {l : List Ty} {n : Nat} {t : Ty} (h : TyG l n t) : tyMore t = false ∧ t.its.any (itMore t.kd) = false := by
  have := h.form
  unfold formE at this
  split at this
  · cases this
  · split at this
    · cases this
    · rename_i q
      constructor
      · cases hm : tyMore t
        · rfl
        · exact absurd (.inl hm) q
      · cases hm : t.its.any (itMore t.kd)
        · rfl
        · exact absurd (.inr hm) q
end Go.Proofs.YtjaigpidmngaaaaGreat

namespace Go.Proofs.YtjaigpidmngaaaaGreat
theorem atP_ok {l : List Ty} : ∀ (p : List (Bool × Int)) {t : Int} {v w : Vl} (_ : vOk v) (_ : atP l t p v = some w), vOk w
  | [], t, v, w, h, e => by simp only [atP, Option.some.injEq] at e; rw [← e]; exact h
  | x :: xs, t, v, w, h, e => by
    rw [atP, Option.bind_eq_some_iff] at e
    obtain ⟨⟨u, y⟩, h1, h2⟩ := e
    refine atP_ok xs ?_ h2
    obtain ⟨k, n, tx, vs⟩ := v
    simp only [vOk] at h
    unfold at1 at h1
    dsimp only [Vl.its] at h1
    split at h1
    · cases h1
    split at h1
    · cases h1
    split at h1
    · split at h1
      · cases vs with
        | nil => cases h1
        | cons w2 ws =>
          simp only [Option.some.injEq, Prod.mk.injEq] at h1
          rw [← h1.2]; exact vOks_mem h.2.2.2 _ List.mem_cons_self
      · cases h1
    · rw [Option.map_eq_some_iff] at h1
      obtain ⟨z, hz, e2⟩ := h1
      simp only [Prod.mk.injEq] at e2
      rw [← e2.2]; exact vOks_mem h.2.2.2 _ (List.mem_of_getElem? hz)
end Go.Proofs.YtjaigpidmngaaaaGreat

namespace Go.Proofs.YtjaigpidmngaaaaGreat
attribute [local irreducible] callA callP ACalls
abbrev spI (x : Bool × Int) : List AV := [.bool x.1, .int .i64 x.2]
abbrev v0 : Vl := .mk 0 0 [] []
abbrev atA : Option Vl → AV
  | some v => .tup [vlA v, .bool true]
  | none => .tup [vlA v0, .bool false]
theorem At_spec0 (l : List Ty) (hl : TysOk l) (t : Int) (p : List (Bool × Int)) (hpl : p.length ≤ 2000000) (v : Vl) (hok : vOk v) : ACalls PG path_At.n [tysA l, .int .i64 t, .rows 2 (p.map spI), vlA v] [] fun r _ => r = atA (if knownT l t then atP l t p v else none) := by
  have hlen : (l.map tyR).length = l.length := by simp
  have hll := hl.len
  have hplen : (p.map spI).length = p.length := by simp
  obtain ⟨k0, n0, x0, vs0⟩ := v
  refine ACalls.fzK (path_At.of rfl (wpF_start ?_))
  (first | refine au ?_ | exact au0)
  intro id7 hid7 ht7; have n7 := neAll_of hid7; (try simp only [neAll, neAll_hset] at n7); have m7 := n7; (repeat (obtain ⟨_, m7⟩ := m7))
  clear hid7
  (first | refine au ?_ | exact au0)
  intro id8 hid8 ht8; have n8 := neAll_of hid8; (try simp only [neAll, neAll_hset] at n8); have m8 := n8; (repeat (obtain ⟨_, m8⟩ := m8))
  clear hid8
  (first | refine au ?_ | exact au0)
  first | refine callF_eq (path_known_spec l hl t _) ?_ | refine callG_eq rfl (path_known_spec l hl t _) ?_
  by_cases hk : knownT l t
  · rw [if_pos hk, decide_eq_true hk]
    have hv := tyChk_v hk.2.2
    (first | refine au ?_ | exact au0)
    refine loopM (S := Nat × Int × Vl) [(0, some _), (7, some _), (8, some _), (22, some _), (23, some _)] (fun z => [(24, some (.int .i64 (z.1 : Nat))), (1, some (.int .i64 z.2.1))]) (fun z => [(id8, .rows 4 [[.int .i64 0, .int .u64 0, .str [], .nilS]]), (id7, .rows 4 [vlR z.2.2])]) (fun z => p.length - z.1) (fun z => z.1 ≤ p.length ∧ 0 ≤ z.2.1 ∧ z.2.1 < l.length ∧ vOk z.2.2 ∧ atP l t p (.mk k0 n0 x0 vs0) = atP l z.2.1 (p.drop z.1) z.2.2) (0, t, .mk k0 n0 x0 vs0) (by exact cov_of) (by dsimp only; exact sub_of) ⟨Nat.zero_le _, hk.1, hk.2.1, hok, rfl⟩ (fun ⟨i, u, w⟩ hz => ?_)
    obtain ⟨hi, h0, h1, hwo, hw⟩ := hz
    dsimp only at hi h0 h1 hwo hw ⊢
    (first | refine au ?_ | exact au0)
    refine bsplit_dec (fun h2 => ?_) (fun h2 => ?_)
    · have hil : i < p.length := by omega
      have hgp := row_get (f := spI) hil
      have hge := tAt_get h0 h1
      have hti := (hl.all _ (tAt_mem h0 h1)).its
      have hin := (hv.tAt h0 h1).parts
      rw [List.drop_eq_getElem_cons hil, atP] at hw
      generalize p[i] = sp at *
      obtain ⟨e, n⟩ := sp
      (first | refine au ?_ | exact au0)
      rw [hgp]
      (first | refine au ?_ | exact au0)
      intro id11 hid11 ht11; have n11 := neAll_of hid11; (try simp only [neAll, neAll_hset] at n11); have m11 := n11; (repeat (obtain ⟨_, m11⟩ := m11))
      clear hid11
      (first | refine au ?_ | exact au0)
      rw [hge]
      (first | refine au ?_ | exact au0)
      intro id13 hid13 ht13; have n13 := neAll_of hid13; (try simp only [neAll, neAll_hset] at n13); have m13 := n13; (repeat (obtain ⟨_, m13⟩ := m13))
      clear hid13
      have hbr := fun m => Branch_spec l hl u m
      have hel := elems_spec (tAt l u)
      have hit := items_spec' (tAt l u)
      unfold at1 at hw
      generalize tAt l u = g at *
      generalize hbe : kEl g.kd = be at *
      generalize hbi : kIt g.kd = bi at *
      (first | refine au ?_ | exact au0)
      first | refine callF_eq (hel _) ?_ | refine callG_eq rfl (hel _) ?_
      (first | refine au ?_ | exact au0)
      by_cases cm : e ≠ be ∨ (e = false ∧ bi = false) ∨ n < 0
      · rw [if_pos cm] at hw
        rw [show atP l t p (.mk k0 n0 x0 vs0) = none from hw]
        cases e <;> cases be <;> cases bi
        all_goals first | ((first | refine au ?_ | exact au0); exact fz_of) | ((first | refine au ?_ | exact au0); (first | refine callF_eq (hit _) ?_ | refine callG_eq rfl (hit _) ?_); (first | refine au ?_ | exact au0); exact fz_of) | (have cn : n < 0 := by (simp at cm; exact cm)); (first | ((first | refine au ?_ | exact au0); exact fz_of) | ((first | refine au ?_ | exact au0); (first | refine callF_eq (hit _) ?_ | refine callG_eq rfl (hit _) ?_); (first | refine au ?_ | exact au0); exact fz_of))
      · rw [if_neg cm] at hw
        have hn0 : 0 ≤ n := by
          apply Classical.byContradiction
          intro q
          exact cm (.inr (.inr (by omega)))
        have heb : e = be := by
          apply Classical.byContradiction
          intro q
          exact cm (.inl q)
        subst heb
        obtain ⟨wk, wn, wx, ws⟩ := w
        have hwsl : (vlRs ws).length = ws.length := vlRs_len ws
        cases e with
        | true =>
          have hk14 : ¬ g.kd = 14 := by
            simp only [kEl, decide_eq_true_eq] at hbe
            omega
          rw [if_neg (by simp)] at hw
          simp only [if_true, if_neg hk14, Vl.its] at hw
          have hel2 := hin g.el (by unfold parts; rw [if_pos hbe]; simp)
          (first | refine au ?_ | exact au0)
          refine bsplit_dec (fun h3 => ?_) (fun h3 => ?_)
          · rw [List.getElem?_eq_none (by omega)] at hw
            rw [show atP l t p (.mk k0 n0 x0 vs0) = none from hw]
            (first | refine au ?_ | exact au0)
            exact fz_of
          · have hws : n.toNat < ws.length := by omega
            have hgv : (vlRs ws).getD n.toNat [] = vlR ws[n.toNat] := by rw [vlRs_map]; exact row_get (f := vlR) hws
            rw [List.getElem?_eq_getElem hws] at hw
            have hwo2 : vOk ws[n.toNat] := by have q := hwo; simp only [vOk] at q; exact vOks_mem q.2.2.2 _ (List.getElem_mem hws)
            generalize ws[n.toNat] = w2 at *
            obtain ⟨wk2, wn2, wx2, ws2⟩ := w2
            (first | refine au ?_ | exact au0)
            rw [hgv]
            (first | refine au ?_ | exact au0)
            exact nextS (S := Nat × Int × Vl) (i + 1, g.el, .mk wk2 wn2 wx2 ws2) (by exact cov_of) (by dsimp only; exact sub_of) (by dsimp only; omega) ⟨by dsimp only; omega, hel2.1, by dsimp only; omega, hwo2, hw⟩
        | false =>
          have hbt : bi = true := by
            cases bi with
            | true => rfl
            | false => exact absurd (.inr (.inl ⟨rfl, rfl⟩)) cm
          subst hbt
          have hkk : g.kd = 13 ∨ g.kd = 14 := by simpa [kIt] using hbi
          have hlen2 : (g.its.map itR).length = g.its.length := by simp
          (first | refine au ?_ | exact au0)
          first | refine callF_eq (hit _) ?_ | refine callG_eq rfl (hit _) ?_
          by_cases c3 : (g.its.length : Int) ≤ n
          · rw [if_pos ⟨rfl, c3⟩] at hw
            rw [show atP l t p (.mk k0 n0 x0 vs0) = none from hw]
            (first | refine au ?_ | exact au0)
            exact fz_of
          · rw [if_neg (fun q => c3 q.2)] at hw
            have hil2 : n.toNat < g.its.length := by omega
            have hge2 : (g.its.map itR).getD n.toNat [] = itR g.its[n.toNat] := row_get (f := itR) hil2
            rw [show g.its.getD n.toNat it0 = g.its[n.toNat] from by simp [List.getD, hil2]] at hw
            have hel2 := hin g.its[n.toNat].ty (by unfold parts; rw [if_pos hkk]; simp only [List.mem_append, List.mem_map]; exact .inr ⟨_, List.getElem_mem hil2, rfl⟩)
            (first | refine au ?_ | exact au0)
            rw [hge2]
            (first | refine au ?_ | exact au0)
            refine bsplit_dec (fun hk14 => ?_) (fun hk14 => ?_)
            · simp only [if_pos hk14, Vl.its, Vl.num] at hw
              have hbw := hbr wn
              cases hbx : brIx l u wn with
              | none =>
                rw [hbx] at hbw
                simp only [hbx] at hw
                rw [show atP l t p (.mk k0 n0 x0 vs0) = none from by rw [hw]; simp]
                (first | refine au ?_ | exact au0)
                first | refine callF_eq (hbw _) ?_ | refine callG_eq rfl (hbw _) ?_
                (first | refine au ?_ | exact au0)
                exact fz_of
              | some m =>
                rw [hbx] at hbw
                simp only [hbx, Option.some.injEq] at hw
                (first | refine au ?_ | exact au0)
                first | refine callF_eq (hbw _) ?_ | refine callG_eq rfl (hbw _) ?_
                (first | refine au ?_ | exact au0)
                refine bsplit_dec (fun h5 => ?_) (fun h5 => ?_)
                · rw [if_neg (by omega)] at hw
                  rw [show atP l t p (.mk k0 n0 x0 vs0) = none from hw]
                  (first | refine au ?_ | exact au0)
                  exact fz_of
                · rw [if_pos (by omega)] at hw
                  (first | refine au ?_ | exact au0)
                  cases ws with
                  | nil =>
                    rw [show atP l t p (.mk k0 n0 x0 vs0) = none from hw]
                    (first | refine au ?_ | exact au0)
                    exact fz_of
                  | cons w2 ws =>
                    have hwo2 : vOk w2 := by have q := hwo; simp only [vOk] at q; exact vOks_mem q.2.2.2 _ List.mem_cons_self
                    have hgv : (vlRs (w2 :: ws)).getD 0 [] = vlR w2 := rfl
                    obtain ⟨wk2, wn2, wx2, ws2⟩ := w2
                    have hlw : (vlRs (.mk wk2 wn2 wx2 ws2 :: ws)).length = ws.length + 1 := by rw [vlRs_len]; rfl
                    (first | refine au ?_ | exact au0)
                    rw [show (vlRs (.mk wk2 wn2 wx2 ws2 :: ws)).getD (Int.toNat 0) [] = vlR (.mk wk2 wn2 wx2 ws2) from rfl]
                    (first | refine au ?_ | exact au0)
                    exact nextS (S := Nat × Int × Vl) (i + 1, g.its[n.toNat].ty, .mk wk2 wn2 wx2 ws2) (by exact cov_of) (by dsimp only; exact sub_of) (by dsimp only; omega) ⟨by dsimp only; omega, hel2.1, by dsimp only; omega, hwo2, hw⟩
            · simp only [if_neg hk14, Vl.its] at hw
              (first | refine au ?_ | exact au0)
              refine bsplit_dec (fun h3 => ?_) (fun h3 => ?_)
              · rw [List.getElem?_eq_none (by omega)] at hw
                rw [show atP l t p (.mk k0 n0 x0 vs0) = none from hw]
                (first | refine au ?_ | exact au0)
                exact fz_of
              · have hws : n.toNat < ws.length := by omega
                have hgv : (vlRs ws).getD n.toNat [] = vlR ws[n.toNat] := by rw [vlRs_map]; exact row_get (f := vlR) hws
                rw [List.getElem?_eq_getElem hws] at hw
                have hwo2 : vOk ws[n.toNat] := by have q := hwo; simp only [vOk] at q; exact vOks_mem q.2.2.2 _ (List.getElem_mem hws)
                generalize ws[n.toNat] = w2 at *
                obtain ⟨wk2, wn2, wx2, ws2⟩ := w2
                (first | refine au ?_ | exact au0)
                rw [hgv]
                (first | refine au ?_ | exact au0)
                exact nextS (S := Nat × Int × Vl) (i + 1, g.its[n.toNat].ty, .mk wk2 wn2 wx2 ws2) (by exact cov_of) (by dsimp only; exact sub_of) (by dsimp only; omega) ⟨by dsimp only; omega, hel2.1, by dsimp only; omega, hwo2, hw⟩
    · have hie : i = p.length := by omega
      rw [hie, List.drop_length, atP] at hw
      rw [hw]
      obtain ⟨k, m, x, vs⟩ := w
      (first | refine au ?_ | exact au0)
      exact fz_of
  · rw [if_neg hk, decide_eq_false hk]
    (first | refine au ?_ | exact au0)
    exact fz_of
end Go.Proofs.YtjaigpidmngaaaaGreat

namespace Go.Proofs.YtjaigpidmngaaaaGreat
attribute [local irreducible] callA callP ACalls
theorem atA_no (o : Option Vl) : NoId (atA o) := by
  cases o with
  | none => exact (Cl.tup _ (by intro v hv; simp only [List.mem_cons, List.not_mem_nil, or_false] at hv; rcases hv with rfl | rfl; exact .agg _ (vlR_cl v0); exact .bool _)).noId
  | some w => exact (Cl.tup _ (by intro v hv; simp only [List.mem_cons, List.not_mem_nil, or_false] at hv; rcases hv with rfl | rfl; exact .agg _ (vlR_cl w); exact .bool _)).noId
end Go.Proofs.YtjaigpidmngaaaaGreat

namespace Go.Proofs.YtjaigpidmngaaaaGreat
theorem cb_three : ∀ a b : List UInt8, (Lib.compareBytes a b = -1 ∧ Lib.compareBytes b a = 1) ∨ (Lib.compareBytes a b = 0 ∧ Lib.compareBytes b a = 0) ∨ (Lib.compareBytes a b = 1 ∧ Lib.compareBytes b a = -1)
  | [], [] => by right; left; exact ⟨rfl, rfl⟩
  | [], _ :: _ => by left; exact ⟨rfl, rfl⟩
  | _ :: _, [] => by right; right; exact ⟨rfl, rfl⟩
  | a :: x, b :: y => by
    simp only [Lib.compareBytes]
    by_cases h1 : a < b
    · have h2 : ¬ b < a := fun q => absurd (UInt8.lt_trans h1 q) (UInt8.lt_irrefl a)
      left; rw [if_pos h1, if_neg h2, if_pos h1]; exact ⟨rfl, rfl⟩
    · by_cases h2 : b < a
      · right; right; rw [if_neg h1, if_pos h2, if_pos h2]; exact ⟨rfl, rfl⟩
      · rw [if_neg h1, if_neg h2, if_neg h2, if_neg h1]; exact cb_three x y
theorem cb_less : ∀ a b : List UInt8, Op.bytesLess a b = decide (Lib.compareBytes a b < 0)
  | [], [] => rfl
  | [], _ :: _ => rfl
  | _ :: _, [] => rfl
  | a :: x, b :: y => by
    have ih := cb_less x y
    have e0 : Op.bytesLess (a :: x) (b :: y) = (decide (a < b) || (a == b && Op.bytesLess x y)) := rfl
    have e1 : Lib.compareBytes (a :: x) (b :: y) = if a < b then -1 else if b < a then 1 else Lib.compareBytes x y := rfl
    by_cases h1 : a < b
    · rw [if_pos h1] at e1
      rw [e0, e1, decide_eq_true h1]; rfl
    · by_cases h2 : b < a
      · have h3 : (a == b) = false := by
          rw [beq_eq_false_iff_ne]; intro e; subst e; exact h1 h2
        rw [if_neg h1, if_pos h2] at e1
        rw [e0, e1, decide_eq_false h1, h3]; rfl
      · have h3 : (a == b) = true := by
          rw [beq_iff_eq]; exact UInt8.le_antisymm (UInt8.not_lt.1 h2) (UInt8.not_lt.1 h1)
        rw [if_neg h1, if_neg h2] at e1
        rw [e0, e1, decide_eq_false h1, h3, ih]; simp
theorem cb_zero : ∀ a b : List UInt8, Lib.compareBytes a b = 0 → a = b
  | [], [], _ => rfl
  | [], _ :: _, h => by cases h
  | _ :: _, [], h => by cases h
  | a :: x, b :: y, h => by
    have e1 : Lib.compareBytes (a :: x) (b :: y) = if a < b then -1 else if b < a then 1 else Lib.compareBytes x y := rfl
    rw [e1] at h
    by_cases h1 : a < b
    · rw [if_pos h1] at h; cases h
    · by_cases h2 : b < a
      · rw [if_neg h1, if_pos h2] at h; cases h
      · rw [if_neg h1, if_neg h2] at h
        rw [cb_zero x y h, UInt8.le_antisymm (UInt8.not_lt.1 h2) (UInt8.not_lt.1 h1)]
theorem cb_refl (a : List UInt8) : Lib.compareBytes a a = 0 := by rcases cb_three a a with ⟨q, w⟩ | ⟨q, _⟩ | ⟨q, w⟩ <;> omega
theorem cb_if (a b : List UInt8) : (if Op.bytesLess a b = true then (-1 : Int) else if (!(Op.bytesLess a b || decide (a = b))) = true then 1 else 0) = Lib.compareBytes a b := by
  rw [cb_less]
  rcases cb_three a b with ⟨q, _⟩ | ⟨q, _⟩ | ⟨q, _⟩
  · rw [q]; rfl
  · rw [q, decide_eq_true (cb_zero a b q)]; rfl
  · have hne : a ≠ b := fun e => by rw [e, cb_refl] at q; cases q
    rw [q, decide_eq_false hne]; rfl
theorem cmpN_three (a b : Nat) : (cmpN a b = -1 ∧ cmpN b a = 1) ∨ (cmpN a b = 0 ∧ cmpN b a = 0) ∨ (cmpN a b = 1 ∧ cmpN b a = -1) := by
  unfold cmpN
  rcases Nat.lt_trichotomy a b with h | h | h
  · left; rw [if_pos h, if_neg (by omega), if_pos h]; exact ⟨rfl, rfl⟩
  · right; left; subst h; simp
  · right; right; rw [if_neg (by omega), if_pos h, if_pos h]; exact ⟨rfl, rfl⟩
theorem cmpD_three (a b : Dat) (h : a.kd = b.kd) : (cmpD a b = -1 ∧ cmpD b a = 1) ∨ (cmpD a b = 0 ∧ cmpD b a = 0) ∨ (cmpD a b = 1 ∧ cmpD b a = -1) := by
  unfold cmpD
  rw [← h]
  by_cases c2 : a.kd = 2
  · rw [if_pos c2, if_pos c2]; exact cb_three _ _
  rw [if_neg c2, if_neg c2]
  by_cases c3 : a.kd = 3
  · rw [if_pos c3, if_pos c3]; exact cmpN_three _ _
  rw [if_neg c3, if_neg c3]
  by_cases c1 : a.kd ≠ 1
  · rw [if_pos c1, if_pos c1]; right; left; exact ⟨rfl, rfl⟩
  rw [if_neg c1, if_neg c1]
  cases neg? a <;> cases neg? b
  · simpa using cmpN_three a.nu b.nu
  · right; right; simp
  · left; simp
  · simpa using cmpN_three b.nu a.nu
end Go.Proofs.YtjaigpidmngaaaaGreat
