/- Texts of this proof, one behind the other: CheckTree2, ExprLaw, SimRec, ExprSizeLaw, TypArg, NilTy, CheckLaw, CheckMath2, BindSpec, BindSpec2, AroundLaw. -/
import Derived.Test.YtjaigpidmngaaaaGreatPkU5
set_option autoImplicit false
set_option linter.unusedSimpArgs false
set_option linter.unusedVariables false
namespace Go.Proofs.YtjaigpidmngaaaaGreat
attribute [local irreducible] callA callP ACalls
theorem exR_kid {k : List Ex} {i : Nat} (h : i < k.length) : (exRs k).getD ((i : Nat) : Int).toNat [] = exR k[i] := by
  rw [exRs_map]; exact row_get (f := exR) h
set_option maxHeartbeats 4000000 in
theorem tree_spec (l : List Ty) (hl : TysOk l) (t : Int) : ∀ (n : Nat) (x : Ex), SizeOf.sizeOf x < n → eT x → ACalls PG check_plan_tree.n [plA l t, exA x] [] fun r _ => r = .int .i64 (treeE l t x)
  | 0, x, h, _ => absurd h (Nat.not_lt_zero _)
  | n + 1, .mk op rel a ks, hn, hT => by
    simp only [eT] at hT
    obtain ⟨⟨hal, hat⟩, hkl, hks⟩ := hT
    have ih := fun y (hy : y ∈ ks) => tree_spec l hl t n y (by have := List.sizeOf_lt_of_mem hy; simp only [Ex.mk.sizeOf_spec] at hn; omega) (eTs_mem hks y hy)
    have hform := fun H => formed_spec op rel a ks (by omega) (by omega) H
    have htest := fun q => tests_spec0 l hl t op rel a ks hat q
    refine ACalls.fzK (check_plan_tree.of rfl (wpF_start ?_))
    rw [treeE]
    (first | refine au ?_ | exact au0)
    intro id2 hid2 ht2; have n2 := neAll_of hid2; (try simp only [neAll, neAll_hset] at n2); have m2 := n2; (repeat (obtain ⟨_, m2⟩ := m2))
    (first | refine au ?_ | exact au0)
    intro id3 hid3 ht3; have n3 := neAll_of hid3; (try simp only [neAll, neAll_hset] at n3); have m3 := n3; (repeat (obtain ⟨_, m3⟩ := m3))
    (first | refine au ?_ | exact au0)
    intro id4 hid4 ht4; have n4 := neAll_of hid4; (try simp only [neAll, neAll_hset] at n4); have m4 := n4; (repeat (obtain ⟨_, m4⟩ := m4))
    (first | refine au ?_ | exact au0)
    refine callF_of ((operands_spec l t (.mk op rel a ks) _).mono fun r H1 ⟨i, j, e1, hi, hj, hij, e2⟩ => ?_)
    subst e1; subst e2
    (first | refine au ?_ | exact au0)
    clear hid2 hid3 hid4
    have ni := neAll_of hi
    have nj := neAll_of hj
    simp only [neAll] at ni nj
    obtain ⟨ni1, ni2, ni3, _⟩ := ni
    obtain ⟨nj1, nj2, nj3, _⟩ := nj
    refine ⟨fun xa xb fl N lid ha hb hd hli => ?_⟩
    have nl := neAll_of hli
    simp only [neAll] at nl
    obtain ⟨nl1, nl2, nl3, nl4, nl5, _⟩ := nl
    clear n2 n3 n4 hi hj
    generalize hfr : frm _ = fr
    have hround : RoundO lid i j (.rows 2 [[tysA l, .int .i64 t]]) (.rows 4 [exR (.mk op rel a ks)]) l t a (fun k H => H = (lid, .loop ⟨[14, 15], xa, xb, N, fr, .ready⟩) :: tb l t (.mk op rel a ks) id4 id3 id2 0 ∧ ∀ m (h : m < a.length), m < k → (whatO l t a[m]).2 = 0)
        (fun H => ∃ e, H = (lid, .loop ⟨[14, 15], xa, xb, N, fr, .done .ret⟩) :: tb l t (.mk op rel a ks) id4 id3 id2 e ∧ fst0 (a.map fun o => (whatO l t o).2) = e ∧ e ≠ 0) := by
      intro k hk H hHi hHj ⟨e, hok⟩
      subst e
      clear hHi hHj hli
      obtain ⟨we, hW⟩ : ∃ W, (whatO l t a[k]).2 = W := ⟨_, rfl⟩
      rw [hW]
      refine AYields.sub ?_
      refine of_bodyG mixed ha hb hfr hd rfl rfl rfl (by exact hg_of) ?_
      generalize ho : a[k] = o
      (first | refine au ?_ | exact au0)
      refine ⟨by exact hg_of, ?_⟩
      (first | refine au ?_ | exact au0)
      refine bsplit_dec (fun c => ?_) (fun c => ?_)
      · (first | refine au ?_ | exact au0)
        refine ⟨by exact hg_of, ?_⟩
        (first | refine au ?_ | exact au0)
        refine ⟨false, (j, .rows 4 [exR (.mk op rel a ks)]) :: (i, .rows 2 [[tysA l, .int .i64 t]]) :: (lid, .loop ⟨[14, 15], xa, xb, N, fr, .done .ret⟩) :: tb l t (.mk op rel a ks) id4 id3 id2 we, rfl, sub_of, _, rfl, .inr ⟨rfl, we, rfl, ?_, c⟩⟩
        have := fstM_hit (f := fun o => (whatO l t o).2) (l := a) (i := k) hok hk (by rw [hW]; exact c)
        rw [this, hW]
      · (first | refine au ?_ | exact au0)
        refine ⟨by exact hg_of, ?_⟩
        (first | refine au ?_ | exact au0)
        refine ⟨true, (j, .rows 4 [exR (.mk op rel a ks)]) :: (i, .rows 2 [[tysA l, .int .i64 t]]) :: (lid, .loop ⟨[14, 15], xa, xb, N, fr, .ready⟩) :: tb l t (.mk op rel a ks) id4 id3 id2 0, rfl, sub_of, _, rfl, .inl ⟨rfl, ?_, ?_, rfl, fun m h q => ?_⟩⟩
        · exact hget_none ⟨nl2.symm, ni1, ni2, ni3, trivial⟩
        · exact hget_none ⟨nl1.symm, nj1, nj2, nj3, trivial⟩
        · by_cases e : m < k
          · exact hok m h e
          · have : m = k := by omega
            subst this
            rw [hW]; exact Classical.not_not.1 c
    refine ((operands_iter l hl t op rel a ks (by omega) hat lid i j hij _ _ hround ((lid, .loop ⟨[14, 15], xa, xb, N, fr, .ready⟩) :: tb l t (.mk op rel a ks) id4 id3 id2 0) (hget_none ⟨nl2.symm, ni1, ni2, ni3, trivial⟩) (hget_none ⟨nl1.symm, nj1, nj2, nj3, trivial⟩) ⟨rfl, fun m h q => by omega⟩).perm ?_ ?_).mono fun r H' ⟨H2, e, hio⟩ => ?_
    · (repeat (refine Sub.of_cons ?_ ?_; (next => (repeat (first | ((with_reducible refine Eq.trans hget_self ?_); exact rfl) | with_reducible refine (hget_tail (by first | with_reducible assumption | (apply Ne.symm; with_reducible assumption))).trans ?_ | with_reducible refine (hget_set_ne (by first | with_reducible assumption | (apply Ne.symm; with_reducible assumption))).trans ?_ | with_reducible refine (hget_del_ne (by first | with_reducible assumption | (apply Ne.symm; with_reducible assumption))).trans ?_ | ((with_reducible refine Eq.trans (hget_set ?_) ?_); rotate_left; exact rfl))))))
      exact Sub.nil _
    · (repeat (refine Sub.of_cons ?_ ?_; (next => (repeat (first | ((with_reducible refine Eq.trans hget_self ?_); exact rfl) | with_reducible refine (hget_tail (by first | with_reducible assumption | (apply Ne.symm; with_reducible assumption))).trans ?_ | with_reducible refine (hget_set_ne (by first | with_reducible assumption | (apply Ne.symm; with_reducible assumption))).trans ?_ | with_reducible refine (hget_del_ne (by first | with_reducible assumption | (apply Ne.symm; with_reducible assumption))).trans ?_ | ((with_reducible refine Eq.trans (hget_set ?_) ?_); rotate_left; exact rfl))))))
      exact Sub.nil _
    subst e
    clear hround
    rcases hio with ⟨rfl, hok⟩ | ⟨e, rfl, he, hno⟩
    · refine ⟨.ready, tb l t (.mk op rel a ks) id4 id3 id2 0, ?_, ?_, ?_⟩
      · exact sub_of
      · exact hg_of
      rw [fstM_none (f := fun o => (whatO l t o).2) (l := a) (fun m h => hok m h h), if_neg (by simp)]
      clear nl1 nl2 nl3 nl4 nl5 ni1 ni2 ni3 nj1 nj2 nj3 hij hli
      (first | refine au ?_ | exact au0)
      first | refine callF_eq (hform _) ?_ | refine callG_eq rfl (hform _) ?_
      cases hf : formB op rel a.length ks.length with
      | false =>
        rw [if_pos rfl]
        (first | refine au ?_ | exact au0)
        exact fz_of
      | true =>
        rw [if_neg (by simp)]
        (first | refine au ?_ | exact au0)
        first | refine callF_eq ((htest hf).frame _) ?_ | refine callG_eq rfl ((htest hf).frame _) ?_
        (first | refine au ?_ | exact au0)
        refine bsplit_dec (fun c => ?_) (fun c => ?_)
        · rw [if_pos c]
          (first | refine au ?_ | exact au0)
          exact fz_of
        rw [if_neg c]
        (first | refine au ?_ | exact au0)
        clear hform htest
        have hlk := exRs_len ks
        refine loopL [(2, some _), (4, some _), (29, some _), (30, some _)] 31 0 ks.length (fun m => ∀ q (h : q < ks.length), q < m → treeE l t ks[q] = 0) (by exact cov_of) (Nat.zero_le _) (fun q h1 h2 => absurd h2 (Nat.not_lt_zero _)) (fun m hm hno => ?_)
        (first | refine au ?_ | exact au0)
        refine bsplit_dec (fun c5 => ?_) (fun c5 => ?_)
        · have hil : m < ks.length := by omega
          have hge := exR_kid hil
          have hi := ih ks[m] (List.getElem_mem hil)
          have hhit := treeEs_hit (l := l) (t := t) (ks := ks) (i := m) hno hil
          obtain ⟨E, hE⟩ : ∃ E, treeE l t ks[m] = E := ⟨_, rfl⟩
          rw [hE] at hi hhit
          generalize hy : ks[m] = y at hge hi
          obtain ⟨o2, r2, a2, k2⟩ := y
          (first | refine au ?_ | exact au0)
          rw [hge]
          (first | refine au ?_ | exact au0)
          intro id7 hid7 ht7; have n7 := neAll_of hid7; (try simp only [neAll, neAll_hset] at n7); have m7 := n7; (repeat (obtain ⟨_, m7⟩ := m7))
          clear hid7
          (first | refine au ?_ | exact au0)
          first | refine callF_eq (hi.frame _) ?_ | refine callG_eq rfl (hi.frame _) ?_
          (first | refine au ?_ | exact au0)
          refine bsplit_dec (fun c6 => ?_) (fun c6 => ?_)
          · rw [hhit c6]
            (first | refine au ?_ | exact au0)
            exact fz_of
          · (first | refine au ?_ | exact au0)
            refine nextN (by exact cov_of) (by exact sub_of) (by omega) (fun q h1 h2 => ?_)
            by_cases e : q < m
            · exact hno q h1 e
            · have : q = m := by omega
              subst this
              rw [hE]; exact Classical.not_not.1 c6
        · rw [treeEs_none (fun q h => hno q h (by omega))]
          (first | refine au ?_ | exact au0)
          exact fz_of
    · refine ⟨.done .ret, tb l t (.mk op rel a ks) id4 id3 id2 e, ?_, ?_, ?_⟩
      · exact sub_of
      · exact hg_of
      rw [he, if_pos hno]
      (first | refine au ?_ | exact au0)
      exact fz_of
theorem check_Check_spec (l : List Ty) (hl : TysOk l) (t : Int) (x : Ex) (hx : eT x) : ACalls PG check_Check.n [tysA l, .int .i64 t, exA x] [] fun r _ => r = .int .i64 (checkE l t x) := by
  have hlen : (l.map tyR).length = l.length := by simp
  have hll := hl.len
  have hC := fun H => Check_spec l hl H
  have ht := tree_spec l hl t _ x (Nat.lt_succ_self _) hx
  obtain ⟨op, rel, a, ks⟩ := x
  refine ACalls.fzK (check_Check.of rfl (wpF_start ?_))
  unfold checkE
  by_cases hb : 0 ≤ t ∧ t < l.length
  · obtain ⟨h0, h1⟩ := hb
    (first | refine au ?_ | exact au0)
    intro id3 hid3 ht3; have n3 := neAll_of hid3; (try simp only [neAll, neAll_hset] at n3); have m3 := n3; (repeat (obtain ⟨_, m3⟩ := m3))
    (first | refine au ?_ | exact au0)
    first | refine callF_eq (hC _) ?_ | refine callG_eq rfl (hC _) ?_
    by_cases hc : (tyChk l).1 = 0
    · rw [if_pos (show knownT l t from ⟨h0, h1, hc⟩)]
      (first | refine au ?_ | exact au0)
      first | refine callF_eq (ht.frame _) ?_ | refine callG_eq rfl (ht.frame _) ?_
      (first | refine au ?_ | exact au0)
      exact fz_of
    · rw [if_neg (fun q : knownT l t => hc q.2.2)]
      (first | refine au ?_ | exact au0)
      exact fz_of
  · rw [if_neg (fun q : knownT l t => hb ⟨q.1, q.2.1⟩)]
    (first | refine au ?_ | exact au0)
    intro id3 hid3 ht3; have n3 := neAll_of hid3; (try simp only [neAll, neAll_hset] at n3); have m3 := n3; (repeat (obtain ⟨_, m3⟩ := m3))
    (repeat' (first | (refine au ?_; first | refine bsplit_dec (fun _ => ?_) (fun _ => ?_) | refine bsplit_intro (fun _ => ?_) (fun _ => ?_)) | exact au0 | fail)); (all_goals try (first | refine au ?_ | fail))
    all_goals first | omega | exact fz_of
end Go.Proofs.YtjaigpidmngaaaaGreat

namespace Go.Proofs.YtjaigpidmngaaaaGreat
attribute [local irreducible] callA callP ACalls
def tksF (s : List UInt8) : Nat → Nat → Nat → TR
  | 0, a, n => .ok [(6, [], 0, s.length)]
  | k + 1, a, n => if a < s.length then
      if blnk (s.getD a 0) then tksF s k (a + 1) n
      else match lex (s.drop a) with
        | .bad e off => .bad e (a + off)
        | .tok kk t num m => if n = 64 then .bad 3 a else TR.pre [(kk, t, num, a)] (tksF s k (a + m) (n + 1))
    else .ok [(6, [], 0, s.length)]
theorem tks_fuel (s : List UInt8) : ∀ (k a n : Nat), s.length - a ≤ k → tks s a n = tksF s k a n
  | 0, a, n, h => by rw [tks_end (by omega)]; rfl
  | k + 1, a, n, h => by
    unfold tksF
    split
    · rename_i hl
      rw [tks_eq hl]
      split
      · exact tks_fuel s k _ n (by omega)
      · cases hx : lex (s.drop a) with
        | bad e off => rfl
        | tok kk t num m =>
          have := lex_bound hx
          dsimp only
          rw [tks_fuel s k _ _ (by omega)]
    · rw [tks_end (by omega)]
end Go.Proofs.YtjaigpidmngaaaaGreat

namespace Go.Proofs.YtjaigpidmngaaaaGreat
section
variable {P : Program} {rc : Bool} {n : Nat} {t e : TypeId}
def flOf (P : Program) (t : TypeId) : Option (List (Nat × Nat)) := match P.underlying t with
  | some (.struct fs) => some (fs.toList.map fun f => (f.offset, f.type))
  | _ => none
def slOf (P : Program) (t : TypeId) : Option TypeId := match P.underlying t with
  | some (.slice e) => some e
  | _ => none
def inOf (P : Program) (t : TypeId) : Option IntKind := match P.underlying t with
  | some (.int k) => some k
  | _ => none
def boOf (P : Program) (t : TypeId) : Bool := match P.underlying t with
  | some .bool => true
  | _ => false
def stOf (P : Program) (t : TypeId) : Bool := match P.underlying t with
  | some .string => true
  | _ => false
def fsh (sh : TypeId → Option Sh) : List (Nat × Nat × Nat) → Option Sh
  | [] => some .u
  | (_, _, t) :: r => (sh t).bind fun a => (fsh sh r).map (.p a)
def flC (P : Program) (t : TypeId) : Option (List (Nat × Nat × Nat)) := (flOf P t).map fun l => l.map fun x => (x.1, P.cellsOf x.2, x.2)
def offB : Nat → Nat → List (Nat × Nat × Nat) → Bool
  | tot, o, [] => Nat.beq o tot
  | tot, o, (a, c, _) :: r => Nat.beq a o && offB tot (o + c) r
theorem fsh_of (sh : TypeId → Option Sh) : ∀ (fs : List Field) (tot o : Nat), offB tot o (fs.map fun f => (f.offset, P.cellsOf f.type, f.type)) = true → fieldsSh P sh tot o fs = fsh sh (fs.map fun f => (f.offset, P.cellsOf f.type, f.type))
  | [], tot, o, h => by
    have : o = tot := Nat.eq_of_beq_eq_true h
    simp [fieldsSh, fsh, this]
  | f :: fs, tot, o, h => by
    simp only [List.map_cons, offB, Bool.and_eq_true] at h
    have h1 : f.offset = o := Nat.eq_of_beq_eq_true h.1
    have := fsh_of sh fs tot (o + P.cellsOf f.type) h.2
    simp only [fieldsSh, fsh, List.map_cons, if_pos h1, this]
theorem shO_struct {l : List (Nat × Nat × Nat)} (h : flC P t = some l) (ho : offB (P.cellsOf t) 0 l = true) : shO rc P (n + 1) t = fsh (shO rc P n) l := by
  unfold flC flOf at h
  split at h
  · rename_i fs hu
    simp only [Option.map_some, List.map_map, Option.some.injEq] at h
    subst h
    simp only [shO, hu]
    exact fsh_of _ _ _ _ ho
  · cases h
theorem shO_slice {c b : Nat} (h : slOf P t = some e) (hc : P.cellsOf e = c) (hb : P.bytesOf e = b) (h0 : 0 < c) : shO rc P (n + 1) t = (shO rc P n e).map (.slice c b) := by
  unfold slOf at h
  split at h
  · rename_i hu
    simp only [Option.some.injEq] at h
    subst h
    simp only [shO, hu, hc, hb, if_pos h0]
  · cases h
theorem shO_int {k : IntKind} (h : inOf P t = some k) : shO rc P (n + 1) t = some (.int k) := by
  unfold inOf at h
  split at h
  · rename_i hu
    simp only [Option.some.injEq] at h
    subst h
    simp only [shO, hu]
  · cases h
theorem shO_bool (h : boOf P t = true) : shO rc P (n + 1) t = some .bool := by
  unfold boOf at h
  split at h
  · rename_i hu
    simp only [shO, hu]
  · cases h
theorem shO_str (h : stOf P t = true) : shO rc P (n + 1) t = some .str := by
  unfold stOf at h
  split at h
  · rename_i hu
    simp only [shO, hu]
  · cases h
theorem fsh_some {sh : TypeId → Option Sh} : ∀ {l : List (Nat × Nat × Nat)}, (∀ x ∈ l, ∃ a, sh x.2.2 = some a) → ∃ a, fsh sh l = some a
  | [], _ => ⟨_, rfl⟩
  | x :: l, h => by
    obtain ⟨a, ha⟩ := h x List.mem_cons_self
    obtain ⟨b, hb⟩ := fsh_some (l := l) fun y hy => h y (List.mem_cons_of_mem _ hy)
    exact ⟨_, by simp only [fsh, ha, hb, Option.bind_some, Option.map_some]; rfl⟩
def clB (P : Program) (S : List Nat) : Bool := S.all fun t => match P.underlying t with
  | some .bool => true
  | some (.int _) => true
  | some .string => true
  | some (.struct fs) => (match flC P t with
    | some l => offB (P.cellsOf t) 0 l && l.all (fun x => S.contains x.2.2)
    | none => false)
  | some (.slice e) => Nat.ble 1 (P.cellsOf e) && S.contains e
  | _ => false
theorem clB_some {S : List Nat} (h : clB P S = true) : ∀ (n : Nat) (t : Nat), t ∈ S → ∃ sh, shO true P n t = some sh
  | 0, t, _ => ⟨.no, rfl⟩
  | n + 1, t, ht => by
    have q := List.all_eq_true.1 h t ht
    have ih := clB_some h n
    split at q <;> rename_i hu
    · exact ⟨_, by simp only [shO, hu]; rfl⟩
    · exact ⟨_, by simp only [shO, hu]; rfl⟩
    · exact ⟨_, by simp only [shO, hu]; rfl⟩
    · split at q
      · rename_i l hl
        simp only [Bool.and_eq_true, List.all_eq_true, List.contains_iff_mem] at q
        rw [shO_struct hl q.1]
        exact fsh_some fun x hx => ih _ (q.2 x hx)
      · cases q
    · simp only [Bool.and_eq_true, List.contains_iff_mem] at q
      obtain ⟨a, ha⟩ := ih _ q.2
      exact ⟨_, by simp only [shO, hu, if_pos (show 0 < P.cellsOf _ from Nat.le_of_ble_eq_true q.1), ha, Option.map_some]; rfl⟩
    · cases q
end
section
variable {P : Program} {m : Nat} {t e : TypeId} {a sh : Sh} {x vs : List AV}
theorem okInt {k : IntKind} (h : inOf P t = some k) (hs : shO true P m t = some a) (ho : a.OkN x) : ∃ n, x = [.int k n] ∧ k.min ≤ n ∧ n ≤ k.max := by
  cases m with
  | zero => simp only [shO, if_true, Option.some.injEq] at hs; subst hs; exact ho.elim
  | succ m =>
    rw [shO_int h] at hs
    simp only [Option.some.injEq] at hs; subst hs
    obtain ⟨n, h1, h2⟩ := ho
    simp only [Lit.wf, Bool.and_eq_true, decide_eq_true_eq] at h2
    exact ⟨n, h1, h2⟩
theorem okU64 (h : inOf P t = some .u64) (hs : shO true P m t = some a) (ho : a.OkN x) : ∃ n : Nat, x = [.int .u64 (n : Nat)] ∧ n < 18446744073709551616 := by
  obtain ⟨n, h1, h2, h3⟩ := okInt h hs ho
  have e1 : IntKind.min .u64 = 0 := rfl
  have e2 : IntKind.max .u64 = 18446744073709551615 := rfl
  rw [e1] at h2; rw [e2] at h3
  exact ⟨n.toNat, by rw [h1, Int.toNat_of_nonneg h2], by omega⟩
theorem okI64 (h : inOf P t = some .i64) (hs : shO true P m t = some a) (ho : a.OkN x) : ∃ n : Int, x = [.int .i64 n] ∧ -9223372036854775808 ≤ n ∧ n ≤ 9223372036854775807 := okInt h hs ho
theorem okBool (h : boOf P t = true) (hs : shO true P m t = some a) (ho : a.OkN x) : ∃ b, x = [.bool b] := by
  cases m with
  | zero => simp only [shO, if_true, Option.some.injEq] at hs; subst hs; exact ho.elim
  | succ m =>
    rw [shO_bool h] at hs
    simp only [Option.some.injEq] at hs; subst hs
    exact ho
theorem okStr (h : stOf P t = true) (hs : shO true P m t = some a) (ho : a.OkN x) : ∃ l : List UInt8, x = [.str l] ∧ l.length ≤ 140737488351232 := by
  cases m with
  | zero => simp only [shO, if_true, Option.some.injEq] at hs; subst hs; exact ho.elim
  | succ m =>
    rw [shO_str h] at hs
    simp only [Option.some.injEq] at hs; subst hs
    exact ho
theorem okSlice {c b : Nat} (h : slOf P t = some e) (hc : P.cellsOf e = c) (hb : P.bytesOf e = b) (h0 : 0 < c) (hs : shO true P m t = some a) (ho : a.OkN x) :
    ∃ l, x = [.rows c l] ∧ l.length * b ≤ 140737488351232 ∧ ∃ k a', m = k + 1 ∧ shO true P k e = some a' ∧ ∀ r ∈ l, a'.OkN r := by
  cases m with
  | zero => simp only [shO, if_true, Option.some.injEq] at hs; subst hs; exact ho.elim
  | succ m =>
    rw [shO_slice h hc hb h0] at hs
    simp only [Option.map_eq_some_iff] at hs
    obtain ⟨a', h1, rfl⟩ := hs
    obtain ⟨l, h2, h3, h4⟩ := ho
    exact ⟨l, h2, h3, m, a', rfl, h1, h4⟩
theorem okStruct {l : List (Nat × Nat × Nat)} (h : flC P t = some l) (ho : offB (P.cellsOf t) 0 l = true) (hs : shO true P m t = some a) (hk : a.OkN x) : ∃ k, m = k + 1 ∧ fsh (shO true P k) l = some a := by
  cases m with
  | zero => simp only [shO, if_true, Option.some.injEq] at hs; subst hs; exact hk.elim
  | succ m => exact ⟨m, rfl, by rw [← shO_struct h ho]; exact hs⟩
theorem okCons {s : TypeId → Option Sh} {o c : Nat} {r : List (Nat × Nat × Nat)} (h : fsh s ((o, c, t) :: r) = some sh) (hk : sh.OkN vs) :
    ∃ a x b y, s t = some a ∧ a.OkN x ∧ fsh s r = some b ∧ b.OkN y ∧ vs = x ++ y := by
  simp only [fsh, Option.bind_eq_some_iff, Option.map_eq_some_iff] at h
  obtain ⟨a, h1, b, h2, rfl⟩ := h
  obtain ⟨x, y, h3, h4, h5⟩ := hk
  exact ⟨a, x, b, y, h1, h4, h2, h5, h3⟩
theorem okNil {s : TypeId → Option Sh} (h : fsh s [] = some sh) (hk : sh.OkN vs) : vs = [] := by
  simp only [fsh, Option.some.injEq] at h
  subst h; exact hk
end
theorem rows_of {α : Type} {f : α → List AV} {Q : α → Prop} : ∀ {l : List (List AV)}, (∀ r ∈ l, ∃ x, r = f x ∧ Q x) → ∃ xs : List α, l = xs.map f ∧ ∀ x ∈ xs, Q x
  | [], _ => ⟨[], rfl, by simp⟩
  | r :: l, h => by
    obtain ⟨x, h1, h2⟩ := h r List.mem_cons_self
    obtain ⟨xs, h3, h4⟩ := rows_of (l := l) fun r hr => h r (List.mem_cons_of_mem _ hr)
    refine ⟨x :: xs, by rw [h1, h3]; rfl, fun y hy => ?_⟩
    rcases List.mem_cons.1 hy with rfl | hy
    · exact h2
    · exact h4 y hy
end Go.Proofs.YtjaigpidmngaaaaGreat

namespace Go.Proofs.YtjaigpidmngaaaaGreat
attribute [local irreducible] callA callP ACalls
theorem eOks_of : ∀ {l : List Ex}, (∀ x ∈ l, eOk x) → eOks l
  | [], _ => trivial
  | k :: ks, h => ⟨h k List.mem_cons_self, eOks_of fun x hx => h x (List.mem_cons_of_mem _ hx)⟩
theorem opd_fl : flC PG ty_api_Operand = some [(0, 1, ty_int), (1, 1, ty_string), (2, 1, ty_bool), (3, 1, ty_uint64)] := by kernel_rfl
theorem expr_fl : flC PG ty_api_Expr = some [(0, 1, ty_int), (1, 1, ty_int), (2, 1, ty_S_api_Operand), (3, 1, ty_S_api_Expr)] := by kernel_rfl
theorem opd_of {m : Nat} {sh : Sh} {vs : List AV} (hs : shO true PG m ty_api_Operand = some sh) (hk : sh.OkN vs) : ∃ o : Opd, vs = opR o ∧ o.t.length ≤ 140737488351232 := by
  obtain ⟨k, rfl, h1⟩ := okStruct opd_fl (by kernel_rfl) hs hk
  obtain ⟨_, _, _, _, a1, a2, h2, k2', rfl⟩ := okCons h1 hk
  obtain ⟨_, _, _, _, b1, b2, h3', k3', rfl⟩ := okCons h2 k2'
  obtain ⟨_, _, _, _, c1, c2, h4', k4', rfl⟩ := okCons h3' k3'
  obtain ⟨_, _, _, _, d1, d2, h5', k5', rfl⟩ := okCons h4' k4'
  have := okNil h5' k5'; subst this
  obtain ⟨n, rfl, _⟩ := okI64 (by kernel_rfl) a1 a2
  obtain ⟨s, rfl, hs⟩ := okStr (by kernel_rfl) b1 b2
  obtain ⟨b, rfl⟩ := okBool (by kernel_rfl) c1 c2
  obtain ⟨u, rfl, _⟩ := okU64 (by kernel_rfl) d1 d2
  exact ⟨⟨n, s, b, u⟩, rfl, hs⟩
theorem expr_of : ∀ (m : Nat) {sh : Sh} {vs : List AV} (_ : shO true PG m ty_api_Expr = some sh) (_ : sh.OkN vs), ∃ x : Ex, vs = exR x ∧ eOk x := by
  intro m
  induction m using Nat.strongRecOn with
  | _ m ih =>
  intro sh vs hs hk
  obtain ⟨k, rfl, h1⟩ := okStruct expr_fl (by kernel_rfl) hs hk
  obtain ⟨_, _, _, _, a1, a2, h2, k2', rfl⟩ := okCons h1 hk
  obtain ⟨_, _, _, _, b1, b2, h3', k3', rfl⟩ := okCons h2 k2'
  obtain ⟨_, _, _, _, c1, c2, h4', k4', rfl⟩ := okCons h3' k3'
  obtain ⟨_, _, _, _, d1, d2, h5', k5', rfl⟩ := okCons h4' k4'
  have := okNil h5' k5'; subst this
  obtain ⟨op, rfl, _⟩ := okI64 (by kernel_rfl) a1 a2
  obtain ⟨rel, rfl, _⟩ := okI64 (by kernel_rfl) b1 b2
  obtain ⟨l, rfl, hl, k1, s1, rfl, h3, h4⟩ := okSlice (e := ty_api_Operand) (c := 4) (b := 40) (by kernel_rfl) (by kernel_rfl) (by kernel_rfl) (by decide) c1 c2
  obtain ⟨l2, rfl, hl2, k2, s2, e2, h5, h6⟩ := okSlice (e := ty_api_Expr) (c := 4) (b := 64) (by kernel_rfl) (by kernel_rfl) (by kernel_rfl) (by decide) d1 d2
  obtain ⟨args, rfl, ha⟩ := rows_of (f := opR) fun r hr => opd_of h3 (h4 r hr)
  obtain ⟨kids, rfl, hkk⟩ := rows_of (f := exR) fun r hr => ih k2 (by omega) h5 (h6 r hr)
  rw [List.length_map] at hl hl2
  exact ⟨.mk op rel args kids, by rw [exR, exRs_map]; rfl, by omega, ha, by omega, eOks_of hkk⟩
end Go.Proofs.YtjaigpidmngaaaaGreat

namespace Go.Proofs.YtjaigpidmngaaaaGreat
theorem item_fl : flC PG ty_api_Item = some [(0, 1, ty_string), (1, 1, ty_uint64), (2, 1, ty_int), (3, 1, ty_bool), (4, 1, ty_bool)] := by kernel_rfl
theorem type_fl : flC PG ty_api_Type = some [(0, 1, ty_int), (1, 1, ty_string), (2, 1, ty_int), (3, 1, ty_int), (4, 1, ty_int), (5, 1, ty_S_api_Item)] := by kernel_rfl
theorem item_of {m : Nat} {sh : Sh} {vs : List AV} (hs : shO true PG m ty_api_Item = some sh) (hk : sh.OkN vs) : ∃ x : It, vs = itR x ∧ x.nm.length ≤ 140737488351232 ∧ x.num < 18446744073709551616 := by
  obtain ⟨k, rfl, h1⟩ := okStruct item_fl (by kernel_rfl) hs hk
  obtain ⟨_, _, _, _, a1, a2, h2, k2, rfl⟩ := okCons h1 hk
  obtain ⟨_, _, _, _, b1, b2, h3, k3, rfl⟩ := okCons h2 k2
  obtain ⟨_, _, _, _, c1, c2, h4, k4, rfl⟩ := okCons h3 k3
  obtain ⟨_, _, _, _, d1, d2, h5, k5, rfl⟩ := okCons h4 k4
  obtain ⟨_, _, _, _, e1, e2, h6, k6, rfl⟩ := okCons h5 k5
  have := okNil h6 k6; subst this
  obtain ⟨s, rfl, hs⟩ := okStr (by kernel_rfl) a1 a2
  obtain ⟨u, rfl, hu⟩ := okU64 (by kernel_rfl) b1 b2
  obtain ⟨n, rfl, _⟩ := okI64 (by kernel_rfl) c1 c2
  obtain ⟨b, rfl⟩ := okBool (by kernel_rfl) d1 d2
  obtain ⟨b', rfl⟩ := okBool (by kernel_rfl) e1 e2
  exact ⟨⟨s, u, n, b, b'⟩, rfl, hs, hu⟩
theorem type_of {m : Nat} {sh : Sh} {vs : List AV} (hs : shO true PG m ty_api_Type = some sh) (hk : sh.OkN vs) : ∃ t : Ty, vs = tyR t ∧ TyOk t := by
  obtain ⟨k, rfl, h1⟩ := okStruct type_fl (by kernel_rfl) hs hk
  obtain ⟨_, _, _, _, a1, a2, h2, k2, rfl⟩ := okCons h1 hk
  obtain ⟨_, _, _, _, b1, b2, h3, k3, rfl⟩ := okCons h2 k2
  obtain ⟨_, _, _, _, c1, c2, h4, k4, rfl⟩ := okCons h3 k3
  obtain ⟨_, _, _, _, d1, d2, h5, k5, rfl⟩ := okCons h4 k4
  obtain ⟨_, _, _, _, e1, e2, h6, k6, rfl⟩ := okCons h5 k5
  obtain ⟨_, _, _, _, f1, f2, h7, k7, rfl⟩ := okCons h6 k6
  have := okNil h7 k7; subst this
  obtain ⟨kd, rfl, _⟩ := okI64 (by kernel_rfl) a1 a2
  obtain ⟨s, rfl, hs⟩ := okStr (by kernel_rfl) b1 b2
  obtain ⟨bd, rfl, _⟩ := okI64 (by kernel_rfl) c1 c2
  obtain ⟨el, rfl, _⟩ := okI64 (by kernel_rfl) d1 d2
  obtain ⟨tg, rfl, _⟩ := okI64 (by kernel_rfl) e1 e2
  obtain ⟨l, rfl, hl, k1, s1, _, h3', h4'⟩ := okSlice (e := ty_api_Item) (c := 5) (b := 40) (by kernel_rfl) (by kernel_rfl) (by kernel_rfl) (by decide) f1 f2
  obtain ⟨its, rfl, hi⟩ := rows_of (f := itR) fun r hr => item_of h3' (h4' r hr)
  rw [List.length_map] at hl
  exact ⟨⟨kd, s, bd, el, tg, its⟩, rfl, hs, by show its.length ≤ _; omega, fun x hx => (hi x hx).1, fun x hx => (hi x hx).2⟩
def Shapes.TypS : List Nat := [ty_S_api_Type, ty_api_Type, ty_int, ty_uint64, ty_string, ty_bool, ty_S_api_Item, ty_api_Item]
theorem types_sh : ∀ n, ∃ sh, shO true PG n ty_S_api_Type = some sh := fun n => clB_some (S := Shapes.TypS) (by kernel_rfl) n _ (by simp [Shapes.TypS])
theorem int_sh : ∀ n, ∃ sh, shO true PG n ty_int = some sh := fun n => clB_some (S := Shapes.TypS) (by kernel_rfl) n _ (by simp [Shapes.TypS])
theorem types_arg {av : AV} (h : ∃ n sh, shO true PG n ty_S_api_Type = some sh ∧ ArgOk false sh av) : ∃ l : List Ty, Nw av (tysA l) ∧ TysOk l := by
  obtain ⟨n, sh, h1, h2⟩ := h
  obtain ⟨av', h3, h4⟩ := h2.nonil
  obtain ⟨l, e, hl, k1, s1, e2, h5', h6'⟩ := okSlice (e := ty_api_Type) (c := 6) (b := 72) (by kernel_rfl) (by kernel_rfl) (by kernel_rfl) (by decide) h1 h3
  obtain ⟨ts, rfl, hi⟩ := rows_of (f := tyR) fun r hr => type_of h5' (h6' r hr)
  rw [List.length_map] at hl
  simp only [List.cons.injEq, and_true] at e
  subst e
  exact ⟨ts, h4, by omega, hi⟩
theorem int_arg {av : AV} (h : ∃ n sh, shO true PG n ty_int = some sh ∧ ArgOk false sh av) : ∃ n : Int, av = .int .i64 n ∧ -9223372036854775808 ≤ n ∧ n ≤ 9223372036854775807 := by
  obtain ⟨n, sh, h1, h2⟩ := h
  obtain ⟨av', h3, h4⟩ := h2.nonil
  obtain ⟨k, e, h5⟩ := okI64 (by kernel_rfl) h1 h3
  simp only [List.cons.injEq, and_true] at e
  subst e
  cases h4 with
  | refl _ => exact ⟨k, rfl, h5⟩
end Go.Proofs.YtjaigpidmngaaaaGreat

namespace Go.Proofs.YtjaigpidmngaaaaGreat
def nItR : List It → AV
  | [] => .nilS
  | x :: l => .rows 5 ((x :: l).map itR)
def ntyR (t : Ty) : List AV := [.int .i64 t.kd, .str t.nm, .int .i64 t.bd, .int .i64 t.el, .int .i64 t.tg, nItR t.its]
theorem nw_items (l : List It) : Nw (nItR l) (.rows 5 (l.map itR)) := by
  cases l with
  | nil => exact .nil 5
  | cons x l => exact .refl _
theorem nwl_ty (t : Ty) : NwL (ntyR t) (tyR t) := .cons (.refl _) (.cons (.refl _) (.cons (.refl _) (.cons (.refl _) (.cons (.refl _) (.cons (nw_items t.its) (.refl _))))))
theorem nw_map {α : Type} {f g : α → List AV} (h : ∀ x, NwL (f x) (g x)) (sz : Nat) (l : List α) : Nw (.rows sz (l.map f)) (.rows sz (l.map g)) := by
  refine .rows sz _ _ (by simp) (fun i r r' h1 h2 => ?_) (fun i r r' j v v' h1 h2 h3 h4 => ?_)
  · rw [List.getElem?_map, Option.map_eq_some_iff] at h1 h2
    obtain ⟨x, hx, rfl⟩ := h1
    obtain ⟨y, hy, rfl⟩ := h2
    rw [hx] at hy; cases hy
    exact (h x).1
  · rw [List.getElem?_map, Option.map_eq_some_iff] at h1 h2
    obtain ⟨x, hx, rfl⟩ := h1
    obtain ⟨y, hy, rfl⟩ := h2
    rw [hx] at hy; cases hy
    exact (h x).2 j v v' h3 h4
theorem nw_tys (l : List Ty) : Nw (.rows 6 (l.map ntyR)) (tysA l) := nw_map nwl_ty 6 l
end Go.Proofs.YtjaigpidmngaaaaGreat

namespace Go.Proofs.YtjaigpidmngaaaaGreat
attribute [local irreducible] callA callP ACalls
def awC : List Ty := [⟨2, [], 0, 0, 0, []⟩, ⟨10, [], 3, 0, 0, []⟩, ⟨13, [80], 0, 0, 0, [⟨[97], 0, 0, false, false⟩, ⟨[115], 0, 1, false, false⟩]⟩]
theorem awC_ok : TysOk awC := ⟨by decide, by
  intro t ht
  simp only [awC, List.mem_cons, List.not_mem_nil, or_false] at ht
  rcases ht with rfl | rfl | rfl
  all_goals exact ⟨by decide, by decide, by simp, by simp⟩⟩
def awS1 : List UInt8 := [97, 32, 61, 32, 39, 120, 39]
def awS2 : List UInt8 := [115, 32, 76, 73, 75, 69, 32, 39, 120, 39]
def awT1 : Ex := .mk 1 1 [⟨1, [97], false, 0⟩, ⟨3, [120], false, 0⟩] []
def awT2 : Ex := .mk 3 0 [⟨1, [115], false, 0⟩, ⟨3, [120], false, 0⟩] []
theorem awS1_eq : parseP awS1 = (awT1, 0, 0) := by
  rw [parseP_ok (l := [(1, [97], 0, 0), (5, [61], 0, 2), (3, [120], 0, 4), (6, [], 0, 7)]) (by
    unfold tokens
    rw [if_neg (by decide), tks_fuel awS1 7 0 0 (by decide)]
    kernel_rfl)]
  kernel_rfl
theorem awS2_eq : parseP awS2 = (awT2, 0, 0) := by
  rw [parseP_ok (l := [(1, [115], 0, 0), (1, [76, 73, 75, 69], 0, 2), (3, [120], 0, 7), (6, [], 0, 10)]) (by
    unfold tokens
    rw [if_neg (by decide), tks_fuel awS2 10 0 0 (by decide)]
    kernel_rfl)]
  kernel_rfl
theorem awC_known : knownT awC 2 := ⟨by decide, by decide, by kernel_rfl⟩
theorem one_pcs {c : UInt8} (h : ltr c = true) (h91 : c ≠ 91) : pcs [c] true = [([c], 0, true)] := by
  have hn : numP [c] = (0, 0) := by unfold numP; rw [if_pos (.inl (by simp))]
  have hl : nl [c] = 1 := by simp [nl, h]
  rw [pcs_item (r := [c]) (by simp) (by rw [hn]; simp) rfl, hl, if_neg (by decide), show List.drop 1 [c] = [] from rfl, pcs_end]
  rfl
theorem awC_a : findP awC 2 [97] = ([(false, 0)], 0, 0) := by
  unfold findP
  rw [if_pos awC_known, one_pcs (by decide) (by decide)]
  kernel_rfl
theorem awC_s : findP awC 2 [115] = ([(false, 1)], 1, 0) := by
  unfold findP
  rw [if_pos awC_known, one_pcs (by decide) (by decide)]
  kernel_rfl
theorem awC_1 : checkE awC 2 awT1 = 8 := by
  unfold checkE
  rw [if_pos awC_known]
  have h1 : whatO awC 2 ⟨1, [97], false, 0⟩ = ((1, 0), 0) := by
    unfold whatO
    rw [if_pos rfl]
    dsimp only
    rw [awC_a]
    kernel_rfl
  have h2 : whatO awC 2 ⟨3, [120], false, 0⟩ = ((2, 0), 0) := rfl
  simp only [awT1, treeE, List.map_cons, List.map_nil, h1, h2, fst0, formB, testE, togE, List.getD_cons_zero, List.getD_cons_succ]
  decide
theorem awC_2 : checkE awC 2 awT2 = 0 := by
  unfold checkE
  rw [if_pos awC_known]
  have h1 : whatO awC 2 ⟨1, [115], false, 0⟩ = ((2, 0), 0) := by
    unfold whatO
    rw [if_pos rfl]
    dsimp only
    rw [awC_s]
    kernel_rfl
  have h2 : whatO awC 2 ⟨3, [120], false, 0⟩ = ((2, 0), 0) := rfl
  simp only [awT2, treeE, treeEs, List.map_cons, List.map_nil, h1, h2, fst0, formB, testE, List.all_cons, List.all_nil]
  decide
theorem chk_awake_spec (H : AH) : ACalls PG broadsheetlaw18_awake.n [] H fun r H' => r = .bool true ∧ H' = H := by
  have h1 := fun H => (check_Check_spec awC awC_ok 2 awT1 (by simp [awT1, eT, eTs])).frame H
  have h2 := fun H => (check_Check_spec awC awC_ok 2 awT2 (by simp [awT2, eT, eTs])).frame H
  rw [awC_1] at h1
  rw [awC_2] at h2
  have n1 := fun H => (h1 H).nw (.cons (nw_tys awC) (.refl _))
  have n2 := fun H => (h2 H).nw (.cons (nw_tys awC) (.refl _))
  refine ACalls.fz (broadsheetlaw18_awake.of rfl (wpF_start ?_))
  (first | refine au ?_ | exact au0)
  refine callF_eq ((Parse_spec (s := awS1) (by decide)).frame _) ?_
  rw [awS1_eq]
  unfold awT1
  (first | refine au ?_ | exact au0)
  intro id3 hid3 ht3; have n3 := neAll_of hid3; (try simp only [neAll, neAll_hset] at n3); have m3 := n3; (repeat (obtain ⟨_, m3⟩ := m3))
  (first | refine au ?_ | exact au0)
  intro id4 hid4 ht4; have n4 := neAll_of hid4; (try simp only [neAll, neAll_hset] at n4); have m4 := n4; (repeat (obtain ⟨_, m4⟩ := m4))
  (first | refine au ?_ | exact au0)
  refine callF_eq ((Parse_spec (s := awS2) (by decide)).frame _) ?_
  rw [awS2_eq]
  unfold awT2
  (first | refine au ?_ | exact au0)
  intro id5 hid5 ht5; have n5 := neAll_of hid5; (try simp only [neAll, neAll_hset] at n5); have m5 := n5; (repeat (obtain ⟨_, m5⟩ := m5))
  (first | refine au ?_ | exact au0)
  intro id6 hid6 ht6; have n6 := neAll_of hid6; (try simp only [neAll, neAll_hset] at n6); have m6 := n6; (repeat (obtain ⟨_, m6⟩ := m6))
  (first | refine au ?_ | exact au0)
  first | refine callF_eq (n1 _) ?_ | refine callG_eq rfl (n1 _) ?_
  (first | refine au ?_ | exact au0)
  first | refine callF_eq (n2 _) ?_ | refine callG_eq rfl (n2 _) ?_
  (first | refine au ?_ | exact au0)
  exact ⟨fz_of, sub_of⟩
end Go.Proofs.YtjaigpidmngaaaaGreat

namespace Go.Proofs.YtjaigpidmngaaaaGreat
def bindO (lit : List UInt8 → Option Opd) (ps : List (List UInt8)) (o : Opd) : Opd × Int :=
  if o.k = 5 then (if ps.length ≤ o.num then (opd0, 18) else match lit (ps.getD o.num []) with
    | none => (opd0, 1)
    | some v => (v, 0)) else (o, 0)
mutual
def bindE (lit : List UInt8 → Option Opd) (ps : List (List UInt8)) : Ex → Ex × Int
  | .mk op rel a k =>
    if fst0 (a.map fun o => (bindO lit ps o).2) ≠ 0 then (ex0, fst0 (a.map fun o => (bindO lit ps o).2))
    else if (bindEs lit ps k).2 ≠ 0 then (ex0, (bindEs lit ps k).2)
    else (.mk op rel (a.map fun o => (bindO lit ps o).1) (bindEs lit ps k).1, 0)
def bindEs (lit : List UInt8 → Option Opd) (ps : List (List UInt8)) : List Ex → List Ex × Int
  | [] => ([], 0)
  | k :: ks => if (bindE lit ps k).2 ≠ 0 then ([], (bindE lit ps k).2) else if (bindEs lit ps ks).2 ≠ 0 then ([], (bindEs lit ps ks).2) else ((bindE lit ps k).1 :: (bindEs lit ps ks).1, 0)
end
mutual
def parB : Ex → Bool
  | .mk _ _ a k => a.any (fun o => decide (o.k = 5)) || parBs k
def parBs : List Ex → Bool
  | [] => false
  | k :: ks => parB k || parBs ks
end
theorem bindE_err (lit : List UInt8 → Option Opd) (ps : List (List UInt8)) : ∀ x : Ex, (bindE lit ps x).2 ≠ 0 → (bindE lit ps x).1 = ex0
  | .mk op rel a k, h => by
    simp only [bindE] at h ⊢
    split
    · rfl
    · rename_i c
      rw [if_neg c] at h
      split
      · rfl
      · rename_i c2
        rw [if_neg c2] at h
        exact absurd rfl h
theorem fst0_id {l : List Int} (h : ∀ x ∈ l, x = 0) : fst0 l = 0 := by
  induction l with
  | nil => rfl
  | cons a l ih => simp only [fst0]; rw [if_neg (by have := h a List.mem_cons_self; omega)]; exact ih fun x hx => h x (List.mem_cons_of_mem _ hx)
mutual
theorem bindE_id (lit : List UInt8 → Option Opd) (ps : List (List UInt8)) : ∀ x : Ex, parB x = false → bindE lit ps x = (x, 0)
  | .mk op rel a k, h => by
    simp only [parB, Bool.or_eq_false_iff] at h
    have ho : ∀ o ∈ a, bindO lit ps o = (o, 0) := fun o ho => by
      have := List.any_eq_false.1 h.1 o ho
      unfold bindO
      rw [if_neg (by simpa using this)]
    have h1 : fst0 (a.map fun o => (bindO lit ps o).2) = 0 := fst0_id fun x hx => by
      obtain ⟨o, ho', rfl⟩ := List.mem_map.1 hx
      rw [ho o ho']
    have h2 : (a.map fun o => (bindO lit ps o).1) = a := by
      refine (List.map_congr_left fun o ho' => ?_).trans (List.map_id a)
      rw [ho o ho']; rfl
    have hk := bindEs_id lit ps k h.2
    simp only [bindE, h1, h2, hk]
    simp
theorem bindEs_id (lit : List UInt8 → Option Opd) (ps : List (List UInt8)) : ∀ x : List Ex, parBs x = false → bindEs lit ps x = (x, 0)
  | [], _ => by simp [bindEs]
  | k :: ks, h => by
    simp only [parBs, Bool.or_eq_false_iff] at h
    simp only [bindEs, bindE_id lit ps k h.1, bindEs_id lit ps ks h.2]
    simp
end
mutual
theorem bindE_par (lit : List UInt8 → Option Opd) (hl : ∀ s v, lit s = some v → v.k ≠ 5) (ps : List (List UInt8)) : ∀ x : Ex, (bindE lit ps x).2 = 0 → parB (bindE lit ps x).1 = false
  | .mk op rel a k, h => by
    simp only [bindE] at h ⊢
    split
    · rename_i c; rw [if_pos c] at h; exact absurd h c
    · rename_i c
      rw [if_neg c] at h
      split
      · rename_i c2; rw [if_pos c2] at h; exact absurd h c2
      · rename_i c2
        have h0 := fst0_all (Classical.not_not.1 c)
        simp only [parB, Bool.or_eq_false_iff]
        refine ⟨?_, bindEs_par lit hl ps k (Classical.not_not.1 c2)⟩
        rw [List.any_eq_false]
        intro o ho
        obtain ⟨o', ho', rfl⟩ := List.mem_map.1 ho
        have := h0 _ (List.mem_map.2 ⟨o', ho', rfl⟩)
        unfold bindO at this ⊢
        split
        · rename_i c5
          rw [if_pos c5] at this
          split
          · rename_i c6; rw [if_pos c6] at this; cases this
          · rename_i c6
            rw [if_neg c6] at this
            cases e : lit (ps.getD o'.num []) with
            | none => rw [e] at this; cases this
            | some v => simpa using hl _ v e
        · rename_i c5; simpa using c5
theorem bindEs_par (lit : List UInt8 → Option Opd) (hl : ∀ s v, lit s = some v → v.k ≠ 5) (ps : List (List UInt8)) : ∀ x : List Ex, (bindEs lit ps x).2 = 0 → parBs (bindEs lit ps x).1 = false
  | [], _ => by simp [bindEs, parBs]
  | k :: ks, h => by
    simp only [bindEs] at h ⊢
    split
    · rename_i c; rw [if_pos c] at h; exact absurd h c
    · rename_i c
      rw [if_neg c] at h
      split
      · rename_i c2; rw [if_pos c2] at h; exact absurd h c2
      · rename_i c2
        simp only [parBs, Bool.or_eq_false_iff]
        exact ⟨bindE_par lit hl ps k (Classical.not_not.1 c), bindEs_par lit hl ps ks (Classical.not_not.1 c2)⟩
end
theorem tree_not (l : List Ty) (t : Int) (y : Ex) : treeE l t (.mk 4 0 [] [y]) = treeE l t y := by
  by_cases h : treeE l t y = 0 <;> simp [treeE, treeEs, fst0, formB, testE, h]
theorem tree_and (l : List Ty) (t : Int) (y : Ex) : treeE l t (.mk 5 0 [] [y, .mk 4 0 [] [y]]) = treeE l t y := by
  have e := tree_not l t y
  by_cases h : treeE l t y = 0
  · simp [treeE, treeEs, fst0, formB, testE] at e ⊢; simp [h]
  · simp [treeE, treeEs, fst0, formB, testE, h]
theorem tree_or (l : List Ty) (t : Int) (y : Ex) : treeE l t (.mk 6 0 [] [y, y, .mk 5 0 [] [y, .mk 4 0 [] [y]]]) = treeE l t y := by
  by_cases h : treeE l t y = 0 <;> simp [treeE, treeEs, fst0, formB, testE, h]
theorem bindEs_hit {lit : List UInt8 → Option Opd} {ps : List (List UInt8)} : ∀ {ks : List Ex} {i : Nat} (_ : ∀ j (h : j < ks.length), j < i → (bindE lit ps ks[j]).2 = 0) (h : i < ks.length), (bindE lit ps ks[i]).2 ≠ 0 → (bindEs lit ps ks).2 = (bindE lit ps ks[i]).2
  | [], i, _, h, _ => by simp at h
  | a :: ks, 0, _, h, hn => by simp only [List.getElem_cons_zero] at hn; simp [bindEs, hn]
  | a :: ks, i + 1, h0, h, hn => by
    have h1 : (bindE lit ps a).2 = 0 := h0 0 (by simp) (by omega)
    have h2 := bindEs_hit (lit := lit) (ps := ps) (ks := ks) (i := i) (fun j a b => h0 (j + 1) (by simpa using a) (by omega)) (by simpa using h) hn
    simp only [List.getElem_cons_succ] at hn ⊢
    simp only [bindEs, h1, ne_eq, not_true_eq_false, if_false]
    rw [h2, if_pos hn]
theorem bindEs_none {lit : List UInt8 → Option Opd} {ps : List (List UInt8)} : ∀ {ks : List Ex} (_ : ∀ j (h : j < ks.length), (bindE lit ps ks[j]).2 = 0), bindEs lit ps ks = (ks.map fun k => (bindE lit ps k).1, 0)
  | [], _ => by simp [bindEs]
  | a :: ks, h => by
    have h1 : (bindE lit ps a).2 = 0 := h 0 (by simp)
    have h2 := bindEs_none (lit := lit) (ps := ps) (ks := ks) (fun j q => h (j + 1) (by simpa using q))
    simp only [bindEs, h1, h2, ne_eq, not_true_eq_false, if_false, List.map_cons]
theorem bindEs_len (lit : List UInt8 → Option Opd) (ps : List (List UInt8)) : ∀ ks : List Ex, (bindEs lit ps ks).1.length ≤ ks.length
  | [] => by simp [bindEs]
  | k :: ks => by
    have := bindEs_len lit ps ks
    simp only [bindEs]
    split
    · simp
    · split
      · simp
      · simp only [List.length_cons]; omega
theorem parBs_hit {ks : List Ex} {i : Nat} (h : i < ks.length) (q : parB ks[i] = true) : parBs ks = true := by
  induction ks generalizing i with
  | nil => simp at h
  | cons a ks ih =>
    cases i with
    | zero => simp only [List.getElem_cons_zero] at q; simp [parBs, q]
    | succ i => simp only [parBs, Bool.or_eq_true]; exact .inr (ih (by simpa using h) (by simpa using q))
theorem parBs_none : ∀ {ks : List Ex} (_ : ∀ j (h : j < ks.length), parB ks[j] = false), parBs ks = false
  | [], _ => by simp [parBs]
  | a :: ks, h => by
    have h1 : parB a = false := h 0 (by simp)
    have := parBs_none (ks := ks) (fun j q => h (j + 1) (by simpa using q))
    simp [parBs, h1, this]
end Go.Proofs.YtjaigpidmngaaaaGreat

namespace Go.Proofs.YtjaigpidmngaaaaGreat
attribute [local irreducible] callA callP ACalls
def litV : List Tok → Opd × Bool
  | [x] => if x.1 = 2 then (⟨2, [], false, x.2.2.1⟩, true) else if x.1 = 3 then (⟨3, x.2.1, false, 0⟩, true) else if x.1 ≠ 1 then (opd0, false) else if x.2.1 = [84, 82, 85, 69] then (⟨4, [], false, 1⟩, true) else (⟨4, [], false, 0⟩, decide (x.2.1 = [70, 65, 76, 83, 69]))
  | [x, y] => if (x.1 = 5 ∧ x.2.1 = [45]) ∧ y.1 = 2 then (⟨2, [], true, y.2.2.1⟩, true) else (opd0, false)
  | _ => (opd0, false)
def litS (s : List UInt8) : Opd × Bool := match tokens s with
  | .ok l => litV l.dropLast
  | .bad _ _ => (opd0, false)
def litP (s : List UInt8) : Option Opd := if (litS s).2 = true then some (litS s).1 else none
theorem literal_spec0 (s : List UInt8) (hs : s.length ≤ 140737488351232) : ACalls PG check_literal.n [.str s] [] fun r _ => r = .tup [opA (litS s).1, .bool (litS s).2] := by
  have ht := Tokens_spec hs
  have hw := fun l => @tokens_wt s l
  have hb := fun e p => @tokensP_bad s e p
  refine ACalls.fzK (check_literal.of rfl (wpF_start ?_))
  unfold litS
  generalize tokens s = T at *
  (first | refine au ?_ | exact au0)
  intro id2 hid2 ht2; have n2 := neAll_of hid2; (try simp only [neAll, neAll_hset] at n2); have m2 := n2; (repeat (obtain ⟨_, m2⟩ := m2))
  (first | refine au ?_ | exact au0)
  cases T with
  | bad e p =>
    have hb := hb e p rfl
    refine callF_eq (ht.frame _) ?_
    unfold tokV
    (first | refine au ?_ | exact au0)
    intro id5 hid5 ht5; have n5 := neAll_of hid5; (try simp only [neAll, neAll_hset] at n5); have m5 := n5; (repeat (obtain ⟨_, m5⟩ := m5))
    (first | refine au ?_ | exact au0)
    exact fz_of
  | ok l =>
    have w := hw l rfl
    have w1 := w.pos
    have w2 := w.len
    clear hw hb w
    refine callF_eq (ht.frame _) ?_
    unfold tokV
    dsimp only
    match l, w1, w2 with
    | [e], _, _ =>
      rw [show litV [e].dropLast = (opd0, false) from rfl]
      have hl1 : (List.map tkR [e]).length = 1 := rfl
      (first | refine au ?_ | exact au0)
      intro id5 hid5 ht5; have n5 := neAll_of hid5; (try simp only [neAll, neAll_hset] at n5); have m5 := n5; (repeat (obtain ⟨_, m5⟩ := m5))
      (first | refine au ?_ | exact au0)
      exact fz_of
    | [x, e], _, _ =>
      obtain ⟨k, t, n, a⟩ := x
      rw [show [(k, t, n, a), e].dropLast = [(k, t, n, a)] from rfl]
      unfold litV
      dsimp only
      have hl1 : (List.map tkR [(k, t, n, a), e]).length = 2 := rfl
      (first | refine au ?_ | exact au0)
      intro id5 hid5 ht5; have n5 := neAll_of hid5; (try simp only [neAll, neAll_hset] at n5); have m5 := n5; (repeat (obtain ⟨_, m5⟩ := m5))
      (first | refine au ?_ | exact au0)
      rw [hl1, show List.drop (Int.toNat 0) (List.take (((2 : Nat) : Int) - 1).toNat (List.map tkR [(k, t, n, a), e])) = [tkR (k, t, n, a)] from rfl]
      have hl2 : [tkR (k, t, n, a)].length = 1 := rfl
      by_cases c2 : k = 2
      · rw [if_pos c2]
        (first | refine au ?_ | exact au0)
        exact fz_of
      rw [if_neg c2]
      by_cases c3 : k = 3
      · rw [if_pos c3]
        (first | refine au ?_ | exact au0)
        exact fz_of
      rw [if_neg c3]
      by_cases c1 : k = 1
      rotate_left
      · rw [if_pos c1]
        (first | refine au ?_ | exact au0)
        exact fz_of
      rw [if_neg (fun q => q c1)]
      by_cases cT : t = [84, 82, 85, 69]
      · rw [if_pos cT]
        subst cT
        (first | refine au ?_ | exact au0)
        exact fz_of
      rw [if_neg cT]
      (first | refine au ?_ | exact au0)
      exact fz_of
    | [x, y, e], _, _ =>
      obtain ⟨k, t, n, a⟩ := x
      obtain ⟨k2, t2, n2, a2⟩ := y
      rw [show [(k, t, n, a), (k2, t2, n2, a2), e].dropLast = [(k, t, n, a), (k2, t2, n2, a2)] from rfl]
      unfold litV
      dsimp only
      have hl1 : (List.map tkR [(k, t, n, a), (k2, t2, n2, a2), e]).length = 3 := rfl
      (first | refine au ?_ | exact au0)
      intro id5 hid5 ht5; have n5 := neAll_of hid5; (try simp only [neAll, neAll_hset] at n5); have m5 := n5; (repeat (obtain ⟨_, m5⟩ := m5))
      (first | refine au ?_ | exact au0)
      rw [hl1, show List.drop (Int.toNat 0) (List.take (((3 : Nat) : Int) - 1).toNat (List.map tkR [(k, t, n, a), (k2, t2, n2, a2), e])) = [tkR (k, t, n, a), tkR (k2, t2, n2, a2)] from rfl]
      have hl2 : [tkR (k, t, n, a), tkR (k2, t2, n2, a2)].length = 2 := rfl
      have hl3 : [tkR (k2, t2, n2, a2)].length = 1 := rfl
      by_cases c5 : k = 5
      rotate_left
      · rw [if_neg (fun q => c5 q.1.1)]
        (first | refine au ?_ | exact au0)
        exact fz_of
      by_cases ct : t = [45]
      rotate_left
      · rw [if_neg (fun q => ct q.1.2)]
        (first | refine au ?_ | exact au0)
        exact fz_of
      subst ct
      (first | refine au ?_ | exact au0)
      rw [hl2, show List.drop (Int.toNat 1) (List.take (((2 : Nat) : Int)).toNat [tkR (k, [45], n, a), tkR (k2, t2, n2, a2)]) = [tkR (k2, t2, n2, a2)] from rfl]
      by_cases c2 : k2 = 2
      · rw [if_pos ⟨⟨c5, rfl⟩, c2⟩]
        (first | refine au ?_ | exact au0)
        exact fz_of
      · rw [if_neg (fun q => c2 q.2)]
        (first | refine au ?_ | exact au0)
        exact fz_of
    | x :: y :: z :: u :: r, _, w2 =>
      rw [show litV (x :: y :: z :: u :: r).dropLast = (opd0, false) from rfl]
      have hr : r.length ≤ 61 := by simp at w2; omega
      have hl1 : ((x :: y :: z :: u :: r).map tkR).length = r.length + 4 := by simp
      generalize hQ : (x :: y :: z :: u :: r).map tkR = Q at *
      have hl2 : (List.drop (Int.toNat 0) (List.take (((Q.length : Nat) : Int) - 1).toNat Q)).length = r.length + 3 := by rw [List.length_drop, List.length_take]; omega
      (first | refine au ?_ | exact au0)
      intro id5 hid5 ht5; have n5 := neAll_of hid5; (try simp only [neAll, neAll_hset] at n5); have m5 := n5; (repeat (obtain ⟨_, m5⟩ := m5))
      (first | refine au ?_ | exact au0)
      exact fz_of
theorem literal_spec (s : List UInt8) (hs : s.length ≤ 140737488351232) (H : AH) : ACalls PG check_literal.n [.str s] H fun r H' => r = .tup [opA (litS s).1, .bool (litS s).2] ∧ H' = H := (literal_spec0 s hs).frame H
end Go.Proofs.YtjaigpidmngaaaaGreat

namespace Go.Proofs.YtjaigpidmngaaaaGreat
attribute [local irreducible] callA callP ACalls
abbrev stR (s : List UInt8) : List AV := [.str s]
structure PsOk (ps : List (List UInt8)) : Prop where
  len : ps.length ≤ 8796093022208
  txt : ∀ s ∈ ps, s.length ≤ 140737488351232
theorem bindO_yes {ps : List (List UInt8)} {o : Opd} (h5 : o.k = 5) (hn : o.num < ps.length) (h : (litS ps[o.num]).2 = true) : bindO litP ps o = ((litS ps[o.num]).1, 0) := by
  unfold bindO
  rw [if_pos h5, if_neg (by omega), show ps.getD o.num [] = ps[o.num] from by simp [List.getD, hn]]
  unfold litP
  rw [if_pos h]
theorem bindO_not {ps : List (List UInt8)} {o : Opd} (h5 : o.k = 5) (hn : o.num < ps.length) (h : (litS ps[o.num]).2 = false) : bindO litP ps o = (opd0, 1) := by
  unfold bindO
  rw [if_pos h5, if_neg (by omega), show ps.getD o.num [] = ps[o.num] from by simp [List.getD, hn]]
  unfold litP
  rw [if_neg (by rw [h]; simp)]
theorem bind_fz {H : AH} {op rel : Int} {A K : AV} {A' K' : List (List AV)} (hA : Fz H [] A (.rows 4 A')) (hK : Fz H [] K (.rows 4 K')) : Fz H [] (.tup [.agg [.int .i64 op, .int .i64 rel, A, K], .int .i64 0]) (.tup [.agg [.int .i64 op, .int .i64 rel, .rows 4 A', .rows 4 K'], .int .i64 0]) :=
  Fz.tupL (.cons (Fz.aggL (.cons (.refl _) (.cons (.refl _) (.cons hA (.cons hK (.nil _ _)))))) (.cons (.refl _) (.nil _ _)))
theorem fz_ownN {H : AH} {id n : Nat} {L : List (List AV)} (hg : hget H id = some (.rows 4 L)) (hl : L.length = n) (hw : ∀ r ∈ L, r.length = 4) : Fz H [] (.own id 4 0 n) (.rows 4 L) := by
  subst hl
  exact Fz.ownL hg rfl (FzR.refl _ _ _) hw
theorem opRs_w (l : List Opd) : ∀ r ∈ l.map opR, r.length = 4 := fun r hr => by
  obtain ⟨x, _, rfl⟩ := List.mem_map.1 hr; rfl
theorem exM_w (l : List Ex) : ∀ r ∈ l.map exR, r.length = 4 := fun r hr => by
  obtain ⟨x, _, rfl⟩ := List.mem_map.1 hr; exact exR_len x
set_option maxHeartbeats 4000000 in
theorem Bind_spec (ps : List (List UInt8)) (hps : PsOk ps) : ∀ (n : Nat) (x : Ex), SizeOf.sizeOf x < n → eT x → ACalls PG check_Bind.n [exA x, .rows 1 (ps.map stR)] [] fun r _ => r = .tup [exA (bindE litP ps x).1, .int .i64 (bindE litP ps x).2]
  | 0, x, h, _ => absurd h (Nat.not_lt_zero _)
  | n + 1, .mk op rel a ks, hn, hT => by
    simp only [eT] at hT
    obtain ⟨⟨hal, hat⟩, hkl, hks⟩ := hT
    have ih := fun y (hy : y ∈ ks) => Bind_spec ps hps n y (by have := List.sizeOf_lt_of_mem hy; simp only [Ex.mk.sizeOf_spec] at hn; omega) (eTs_mem hks y hy)
    have hlk := exRs_len ks
    have hla : (a.map fun o : Opd => [AV.int .i64 o.k, .str o.t, .bool o.neg, .int .u64 (o.num : Nat)]).length = a.length := by simp
    have hlp : (ps.map stR).length = ps.length := by simp
    have hpl := hps.len
    refine ACalls.fzK (check_Bind.of rfl (wpF_start ?_))
    rw [bindE]
    (first | refine au ?_ | exact au0)
    intro id2 hid2 ht2; have n2 := neAll_of hid2; (try simp only [neAll, neAll_hset] at n2); have m2 := n2; (repeat (obtain ⟨_, m2⟩ := m2))
    (first | refine au ?_ | exact au0)
    intro id3 hid3 ht3; have n3 := neAll_of hid3; (try simp only [neAll, neAll_hset] at n3); have m3 := n3; (repeat (obtain ⟨_, m3⟩ := m3))
    (first | refine au ?_ | exact au0)
    refine loopM (S := Nat × Option Nat) [(1, some _), (2, some _), (4, some _), (17, some _), (18, some _)] (fun z => [(6, some (accV z.2 4 z.1)), (19, some (.int .i64 (z.1 : Nat)))]) (fun z => accH z.2 4 (((a.take z.1).map fun o => (bindO litP ps o).1).map opR) [(id3, .rows 4 [[.int .i64 0, .int .i64 0, .nilS, .nilS]]), (id2, .rows 4 [exR (.mk op rel a ks)])]) (fun z => a.length - z.1) (fun z => z.1 ≤ a.length ∧ (∀ j (h : j < a.length), j < z.1 → (bindO litP ps a[j]).2 = 0) ∧ (z.2 = none → z.1 = 0) ∧ ∀ id, z.2 = some id → tag id = ty_api_Operand ∧ id ≠ id3 ∧ id ≠ id2) (0, none) (by exact cov_of) (Sub.refl _) ⟨Nat.zero_le _, fun j h q => absurd q (Nat.not_lt_zero _), fun _ => rfl, fun id q => by cases q⟩ (fun ⟨i, o⟩ hz => ?_)
    obtain ⟨hi, hno, ho1, ho2⟩ := hz
    dsimp only at hi hno ho1 ho2 ⊢
    rcases o with _ | ida
    · have hi0 := ho1 rfl
      subst hi0
      clear ho1 ho2
      dsimp only [accH, accV]
      (first | refine au ?_ | exact au0)
      refine bsplit_dec (fun c => ?_) (fun c => ?_)
      · have hil : 0 < a.length := by omega
        have hge := row_get (f := fun o : Opd => [AV.int .i64 o.k, .str o.t, .bool o.neg, .int .u64 (o.num : Nat)]) hil
        have hot := hat _ (List.getElem_mem hil)
        have hhit := fstM_hit (f := fun o => (bindO litP ps o).2) (l := a) (i := 0) hno hil
        generalize hoo : a[0] = o at hge hot hhit
        (first | refine au ?_ | exact au0)
        rw [hge]
        (first | refine au ?_ | exact au0)
        intro id8 hid8 ht8; have n8 := neAll_of hid8; (try simp only [neAll, neAll_hset] at n8); have m8 := n8; (repeat (obtain ⟨_, m8⟩ := m8))
        clear hid8
        (first | refine au ?_ | exact au0)
        by_cases c5 : o.k = 5
        · by_cases cn : ps.length ≤ o.num
          · have e : bindO litP ps o = (opd0, 18) := by unfold bindO; rw [if_pos c5, if_pos cn]
            rw [e] at hhit
            rw [hhit (by simp), if_pos (by simp)]
            (first | refine au ?_ | exact au0)
            exact fz_of
          · have hpn : o.num < ps.length := by omega
            have hgs := row_get (f := stR) hpn
            have hlt := fun H => literal_spec ps[o.num] (hps.txt _ (List.getElem_mem hpn)) H
            have ey := @bindO_yes ps o c5 hpn
            have en := @bindO_not ps o c5 hpn
            generalize litS ps[o.num] = L at *
            obtain ⟨v, is⟩ := L
            cases is with
            | false =>
              have e := en rfl
              rw [e] at hhit
              rw [hhit (by simp), if_pos (by simp)]
              clear ey en hhit
              (first | refine au ?_ | exact au0)
              rw [hgs]
              (first | refine au ?_ | exact au0)
              first | refine callF_eq (hlt _) ?_ | refine callG_eq rfl (hlt _) ?_
              (first | refine au ?_ | exact au0)
              intro id10 hid10 ht10; have n10 := neAll_of hid10; (try simp only [neAll, neAll_hset] at n10); have m10 := n10; (repeat (obtain ⟨_, m10⟩ := m10))
              clear hid10
              (first | refine au ?_ | exact au0)
              exact fz_of
            | true =>
              have e := ey rfl
              have hb1 : (bindO litP ps a[0]).1 = v := by rw [hoo, e]
              have hb2 : (bindO litP ps a[0]).2 = 0 := by rw [hoo, e]
              clear ey en hhit
              (first | refine au ?_ | exact au0)
              rw [hgs]
              (first | refine au ?_ | exact au0)
              first | refine callF_eq (hlt _) ?_ | refine callG_eq rfl (hlt _) ?_
              (first | refine au ?_ | exact au0)
              intro id10 hid10 ht10; have n10 := neAll_of hid10; (try simp only [neAll, neAll_hset] at n10); have m10 := n10; (repeat (obtain ⟨_, m10⟩ := m10))
              clear hid10
              (first | refine au ?_ | exact au0)
              refine ⟨_, rfl, (Nat.le_of_ble_eq_true rfl), (fun q => by cases q), fun _ => ?_⟩
              intro id99 hid99 ht99; have n99 := neAll_of hid99; (try simp only [neAll, neAll_hset] at n99); have m99 := n99; (repeat (obtain ⟨_, m99⟩ := m99))
              (first | refine au ?_ | exact au0)
              have htk : (a.take (0 + 1)).map (fun o => (bindO litP ps o).1) = (a.take 0).map (fun o => (bindO litP ps o).1) ++ [v] := by rw [List.take_succ_eq_append_getElem hil, List.map_append, List.map_singleton, hb1]
              have hll : ((a.take 0).map fun o => (bindO litP ps o).1).length = 0 := by rw [List.length_map, List.length_take]; omega
              exact nextS (S := Nat × Option Nat) (0 + 1, some id99) (by (try dsimp only [accV]); exact (by exact cov_of)) (by (try dsimp only [accH]); rw [htk, List.map_append]; exact sub_of) (by dsimp only; omega) ⟨hil, (fun j h q => by
                by_cases e : j < 0
                · exact hno j h e
                · have : j = 0 := by omega
                  subst this
                  exact hb2), (fun q => by cases q), fun id q => by cases q; exact ⟨ht99, by assumption, by assumption⟩⟩
        · have e : bindO litP ps o = (o, 0) := by unfold bindO; rw [if_neg c5]
          have hb1 : (bindO litP ps a[0]).1 = o := by rw [hoo, e]
          have hb2 : (bindO litP ps a[0]).2 = 0 := by rw [hoo, e]
          (first | refine au ?_ | exact au0)
          refine ⟨_, rfl, (Nat.le_of_ble_eq_true rfl), (fun q => by cases q), fun _ => ?_⟩
          intro id99 hid99 ht99; have n99 := neAll_of hid99; (try simp only [neAll, neAll_hset] at n99); have m99 := n99; (repeat (obtain ⟨_, m99⟩ := m99))
          (first | refine au ?_ | exact au0)
          have htk : (a.take (0 + 1)).map (fun o => (bindO litP ps o).1) = (a.take 0).map (fun o => (bindO litP ps o).1) ++ [o] := by rw [List.take_succ_eq_append_getElem hil, List.map_append, List.map_singleton, hb1]
          have hll : ((a.take 0).map fun o => (bindO litP ps o).1).length = 0 := by rw [List.length_map, List.length_take]; omega
          exact nextS (S := Nat × Option Nat) (0 + 1, some id99) (by (try dsimp only [accV]); exact (by exact cov_of)) (by (try dsimp only [accH]); rw [htk, List.map_append]; exact sub_of) (by dsimp only; omega) ⟨hil, (fun j h q => by
            by_cases e : j < 0
            · exact hno j h e
            · have : j = 0 := by omega
              subst this
              exact hb2), (fun q => by cases q), fun id q => by cases q; exact ⟨ht99, by assumption, by assumption⟩⟩
      · have hi0 : a.length = 0 := by omega
        have hn0 : fst0 (a.map fun o => (bindO litP ps o).2) = 0 := fstM_none (f := fun o => (bindO litP ps o).2) (l := a) (fun j h => hno j h (by omega))
        rw [hn0, if_neg (by simp)]
        clear hno hn0
        (first | refine au ?_ | exact au0)
        refine loopM (S := Nat × Option Nat) [(1, some _), (2, some _), (4, some _), (6, some _), (52, some _), (53, some _)] (fun z => [(11, some (accV z.2 4 z.1)), (54, some (.int .i64 (z.1 : Nat)))]) (fun z => accH z.2 4 (((ks.take z.1).map fun k => (bindE litP ps k).1).map exR) ([(id3, .rows 4 [[.int .i64 0, .int .i64 0, .nilS, .nilS]]), (id2, .rows 4 [exR (.mk op rel a ks)])])) (fun z => ks.length - z.1) (fun z => z.1 ≤ ks.length ∧ (∀ j (h : j < ks.length), j < z.1 → (bindE litP ps ks[j]).2 = 0) ∧ (z.2 = none → z.1 = 0) ∧ ∀ id, z.2 = some id → tag id = ty_api_Expr ∧ id ≠ id3 ∧ id ≠ id2) (0, none) (by exact cov_of) (by exact sub_of) ⟨Nat.zero_le _, fun j h q => absurd q (Nat.not_lt_zero _), fun _ => rfl, fun id q => by cases q⟩ (fun ⟨m, o⟩ hz => ?_)
        obtain ⟨hm, hkn, hq1, hq2⟩ := hz
        dsimp only at hm hkn hq1 hq2 ⊢
        rcases o with _ | idk
        · have hm0 := hq1 rfl
          subst hm0
          clear hq1 hq2
          dsimp only [accH, accV]
          (first | refine au ?_ | exact au0)
          refine bsplit_dec (fun c7 => ?_) (fun c7 => ?_)
          · have hil : 0 < ks.length := by omega
            have hge := exR_kid hil
            have hib := ih ks[0] (List.getElem_mem hil)
            have hhit := bindEs_hit (lit := litP) (ps := ps) (ks := ks) (i := 0) hkn hil
            generalize hyy : ks[0] = y at hge hib hhit
            obtain ⟨⟨bx, be⟩, hB⟩ : ∃ B, bindE litP ps y = B := ⟨_, rfl⟩
            rw [hB] at hib hhit
            obtain ⟨o2', r2', a2', k2'⟩ := y
            obtain ⟨o3', r3', a3', k3'⟩ := bx
            (first | refine au ?_ | exact au0)
            rw [hge]
            (first | refine au ?_ | exact au0)
            intro id12 hid12 ht12; have n12 := neAll_of hid12; (try simp only [neAll, neAll_hset] at n12); have m12 := n12; (repeat (obtain ⟨_, m12⟩ := m12))
            clear hid12
            (first | refine au ?_ | exact au0)
            first | refine callF_eq (hib.frame _) ?_ | refine callG_eq rfl (hib.frame _) ?_
            (first | refine au ?_ | exact au0)
            intro id13 hid13 ht13; have n13 := neAll_of hid13; (try simp only [neAll, neAll_hset] at n13); have m13 := n13; (repeat (obtain ⟨_, m13⟩ := m13))
            clear hid13
            (first | refine au ?_ | exact au0)
            refine bsplit_dec (fun c6 => ?_) (fun c6 => ?_)
            · rw [hhit c6, if_pos c6]
              (first | refine au ?_ | exact au0)
              exact fz_of
            · (first | refine au ?_ | exact au0)
              refine ⟨_, rfl, (Nat.le_of_ble_eq_true rfl), (fun q => by cases q), fun _ => ?_⟩
              intro id98 hid98 ht98; have n98 := neAll_of hid98; (try simp only [neAll, neAll_hset] at n98); have m98 := n98; (repeat (obtain ⟨_, m98⟩ := m98))
              (first | refine au ?_ | exact au0)
              have hb1 : (bindE litP ps ks[0]).1 = .mk o3' r3' a3' k3' := by rw [hyy, hB]
              have hb2 : (bindE litP ps ks[0]).2 = 0 := by rw [hyy, hB]; exact Classical.not_not.1 c6
              have htk : (ks.take (0 + 1)).map (fun k => (bindE litP ps k).1) = (ks.take 0).map (fun k => (bindE litP ps k).1) ++ [.mk o3' r3' a3' k3'] := by rw [List.take_succ_eq_append_getElem hil, List.map_append, List.map_singleton, hb1]
              exact nextS (S := Nat × Option Nat) (0 + 1, some id98) (by (try dsimp only [accV]); exact (by exact cov_of)) (by (try dsimp only [accH]); rw [htk, List.map_append]; exact sub_of) (by dsimp only; omega) ⟨hil, (fun j h q => by
                by_cases e : j < 0
                · exact hkn j h e
                · have : j = 0 := by omega
                  subst this
                  exact hb2), (fun q => by cases q), fun id q => by cases q; exact ⟨ht98, by assumption, by assumption⟩⟩
          · have hkm : ks.length = 0 := by omega
            rw [bindEs_none (lit := litP) (ps := ps) (ks := ks) (fun j h => hkn j h (by omega))]
            rw [if_neg (by simp)]
            (first | refine au ?_ | exact au0)
            obtain rfl : a = [] := List.length_eq_zero_iff.1 hi0; obtain rfl : ks = [] := List.length_eq_zero_iff.1 hkm; exact bind_fz (A' := []) (K' := []) fz_of fz_of
        · obtain ⟨htk, hke1, hke2⟩ := hq2 idk rfl
          clear hq1 hq2
          dsimp only [accH, accV]
          (first | refine au ?_ | exact au0)
          refine bsplit_dec (fun c7 => ?_) (fun c7 => ?_)
          · have hil : m < ks.length := by omega
            have hge := exR_kid hil
            have hib := ih ks[m] (List.getElem_mem hil)
            have hhit := bindEs_hit (lit := litP) (ps := ps) (ks := ks) (i := m) hkn hil
            generalize hyy : ks[m] = y at hge hib hhit
            obtain ⟨⟨bx, be⟩, hB⟩ : ∃ B, bindE litP ps y = B := ⟨_, rfl⟩
            rw [hB] at hib hhit
            obtain ⟨o2', r2', a2', k2'⟩ := y
            obtain ⟨o3', r3', a3', k3'⟩ := bx
            (first | refine au ?_ | exact au0)
            rw [hge]
            (first | refine au ?_ | exact au0)
            intro id12 hid12 ht12; have n12 := neAll_of hid12; (try simp only [neAll, neAll_hset] at n12); have m12 := n12; (repeat (obtain ⟨_, m12⟩ := m12))
            clear hid12
            (first | refine au ?_ | exact au0)
            first | refine callF_eq (hib.frame _) ?_ | refine callG_eq rfl (hib.frame _) ?_
            (first | refine au ?_ | exact au0)
            intro id13 hid13 ht13; have n13 := neAll_of hid13; (try simp only [neAll, neAll_hset] at n13); have m13 := n13; (repeat (obtain ⟨_, m13⟩ := m13))
            clear hid13
            (first | refine au ?_ | exact au0)
            refine bsplit_dec (fun c6 => ?_) (fun c6 => ?_)
            · rw [hhit c6, if_pos c6]
              (first | refine au ?_ | exact au0)
              exact fz_of
            · (first | refine au ?_ | exact au0)
              refine ⟨_, _, readS_all (by exact hg_of) (by ((try dsimp only); (try simp only [List.length_append, List.length_map, List.length_cons, List.length_nil, List.length_take, List.length_set, List.length_replicate]); (try dsimp only); first | done | omega)), rfl, rfl, rfl, (htk), (by ((try dsimp only); (try simp only [List.length_append, List.length_map, List.length_cons, List.length_nil, List.length_take, List.length_set, List.length_replicate]); (try dsimp only); first | done | omega)), ?_⟩
              intro id98 hid98 ht98; have n98 := neAll_of hid98; (try simp only [neAll, neAll_hset] at n98); have m98 := n98; (repeat (obtain ⟨_, m98⟩ := m98))
              (first | refine au ?_ | exact au0)
              have hb1 : (bindE litP ps ks[m]).1 = .mk o3' r3' a3' k3' := by rw [hyy, hB]
              have hb2 : (bindE litP ps ks[m]).2 = 0 := by rw [hyy, hB]; exact Classical.not_not.1 c6
              have htk : (ks.take (m + 1)).map (fun k => (bindE litP ps k).1) = (ks.take m).map (fun k => (bindE litP ps k).1) ++ [.mk o3' r3' a3' k3'] := by rw [List.take_succ_eq_append_getElem hil, List.map_append, List.map_singleton, hb1]
              exact nextS (S := Nat × Option Nat) (m + 1, some id98) (by (try dsimp only [accV]); exact (by exact cov_of)) (by (try dsimp only [accH]); rw [htk, List.map_append]; exact sub_of) (by dsimp only; omega) ⟨hil, (fun j h q => by
                by_cases e : j < m
                · exact hkn j h e
                · have : j = m := by omega
                  subst this
                  exact hb2), (fun q => by cases q), fun id q => by cases q; exact ⟨ht98, by assumption, by assumption⟩⟩
          · have hkm : ks.length = m := by omega
            rw [bindEs_none (lit := litP) (ps := ps) (ks := ks) (fun j h => hkn j h (by omega))]
            rw [if_neg (by simp)]
            (first | refine au ?_ | exact au0)
            obtain rfl : a = [] := List.length_eq_zero_iff.1 hi0; rw [List.take_of_length_le (show ks.length ≤ m from by omega)]; refine bind_fz (A' := []) (K' := exRs (ks.map fun k => (bindE litP ps k).1)) fz_of ?_; rw [exRs_map]; exact fz_ownN (by exact hg_of) (by simp; omega) (exM_w _)
    · obtain ⟨hti, hne1, hne2⟩ := ho2 ida rfl
      clear ho1 ho2
      dsimp only [accH, accV]
      (first | refine au ?_ | exact au0)
      refine bsplit_dec (fun c => ?_) (fun c => ?_)
      · have hil : i < a.length := by omega
        have hge := row_get (f := fun o : Opd => [AV.int .i64 o.k, .str o.t, .bool o.neg, .int .u64 (o.num : Nat)]) hil
        have hot := hat _ (List.getElem_mem hil)
        have hhit := fstM_hit (f := fun o => (bindO litP ps o).2) (l := a) (i := i) hno hil
        generalize hoo : a[i] = o at hge hot hhit
        (first | refine au ?_ | exact au0)
        rw [hge]
        (first | refine au ?_ | exact au0)
        intro id8 hid8 ht8; have n8 := neAll_of hid8; (try simp only [neAll, neAll_hset] at n8); have m8 := n8; (repeat (obtain ⟨_, m8⟩ := m8))
        clear hid8
        (first | refine au ?_ | exact au0)
        by_cases c5 : o.k = 5
        · by_cases cn : ps.length ≤ o.num
          · have e : bindO litP ps o = (opd0, 18) := by unfold bindO; rw [if_pos c5, if_pos cn]
            rw [e] at hhit
            rw [hhit (by simp), if_pos (by simp)]
            (first | refine au ?_ | exact au0)
            exact fz_of
          · have hpn : o.num < ps.length := by omega
            have hgs := row_get (f := stR) hpn
            have hlt := fun H => literal_spec ps[o.num] (hps.txt _ (List.getElem_mem hpn)) H
            have ey := @bindO_yes ps o c5 hpn
            have en := @bindO_not ps o c5 hpn
            generalize litS ps[o.num] = L at *
            obtain ⟨v, is⟩ := L
            cases is with
            | false =>
              have e := en rfl
              rw [e] at hhit
              rw [hhit (by simp), if_pos (by simp)]
              clear ey en hhit
              (first | refine au ?_ | exact au0)
              rw [hgs]
              (first | refine au ?_ | exact au0)
              first | refine callF_eq (hlt _) ?_ | refine callG_eq rfl (hlt _) ?_
              (first | refine au ?_ | exact au0)
              intro id10 hid10 ht10; have n10 := neAll_of hid10; (try simp only [neAll, neAll_hset] at n10); have m10 := n10; (repeat (obtain ⟨_, m10⟩ := m10))
              clear hid10
              (first | refine au ?_ | exact au0)
              exact fz_of
            | true =>
              have e := ey rfl
              have hb1 : (bindO litP ps a[i]).1 = v := by rw [hoo, e]
              have hb2 : (bindO litP ps a[i]).2 = 0 := by rw [hoo, e]
              clear ey en hhit
              (first | refine au ?_ | exact au0)
              rw [hgs]
              (first | refine au ?_ | exact au0)
              first | refine callF_eq (hlt _) ?_ | refine callG_eq rfl (hlt _) ?_
              (first | refine au ?_ | exact au0)
              intro id10 hid10 ht10; have n10 := neAll_of hid10; (try simp only [neAll, neAll_hset] at n10); have m10 := n10; (repeat (obtain ⟨_, m10⟩ := m10))
              clear hid10
              (first | refine au ?_ | exact au0)
              refine ⟨_, _, readS_all (by exact hg_of) (by ((try dsimp only); (try simp only [List.length_append, List.length_map, List.length_cons, List.length_nil, List.length_take, List.length_set, List.length_replicate]); (try dsimp only); first | done | omega)), rfl, rfl, rfl, (hti), (by ((try dsimp only); (try simp only [List.length_append, List.length_map, List.length_cons, List.length_nil, List.length_take, List.length_set, List.length_replicate]); (try dsimp only); first | done | omega)), ?_⟩
              intro id99 hid99 ht99; have n99 := neAll_of hid99; (try simp only [neAll, neAll_hset] at n99); have m99 := n99; (repeat (obtain ⟨_, m99⟩ := m99))
              (first | refine au ?_ | exact au0)
              have htk : (a.take (i + 1)).map (fun o => (bindO litP ps o).1) = (a.take i).map (fun o => (bindO litP ps o).1) ++ [v] := by rw [List.take_succ_eq_append_getElem hil, List.map_append, List.map_singleton, hb1]
              have hll : ((a.take i).map fun o => (bindO litP ps o).1).length = i := by rw [List.length_map, List.length_take]; omega
              exact nextS (S := Nat × Option Nat) (i + 1, some id99) (by (try dsimp only [accV]); exact (by exact cov_of)) (by (try dsimp only [accH]); rw [htk, List.map_append]; exact sub_of) (by dsimp only; omega) ⟨hil, (fun j h q => by
                by_cases e : j < i
                · exact hno j h e
                · have : j = i := by omega
                  subst this
                  exact hb2), (fun q => by cases q), fun id q => by cases q; exact ⟨ht99, by assumption, by assumption⟩⟩
        · have e : bindO litP ps o = (o, 0) := by unfold bindO; rw [if_neg c5]
          have hb1 : (bindO litP ps a[i]).1 = o := by rw [hoo, e]
          have hb2 : (bindO litP ps a[i]).2 = 0 := by rw [hoo, e]
          (first | refine au ?_ | exact au0)
          refine ⟨_, _, readS_all (by exact hg_of) (by ((try dsimp only); (try simp only [List.length_append, List.length_map, List.length_cons, List.length_nil, List.length_take, List.length_set, List.length_replicate]); (try dsimp only); first | done | omega)), rfl, rfl, rfl, (hti), (by ((try dsimp only); (try simp only [List.length_append, List.length_map, List.length_cons, List.length_nil, List.length_take, List.length_set, List.length_replicate]); (try dsimp only); first | done | omega)), ?_⟩
          intro id99 hid99 ht99; have n99 := neAll_of hid99; (try simp only [neAll, neAll_hset] at n99); have m99 := n99; (repeat (obtain ⟨_, m99⟩ := m99))
          (first | refine au ?_ | exact au0)
          have htk : (a.take (i + 1)).map (fun o => (bindO litP ps o).1) = (a.take i).map (fun o => (bindO litP ps o).1) ++ [o] := by rw [List.take_succ_eq_append_getElem hil, List.map_append, List.map_singleton, hb1]
          have hll : ((a.take i).map fun o => (bindO litP ps o).1).length = i := by rw [List.length_map, List.length_take]; omega
          exact nextS (S := Nat × Option Nat) (i + 1, some id99) (by (try dsimp only [accV]); exact (by exact cov_of)) (by (try dsimp only [accH]); rw [htk, List.map_append]; exact sub_of) (by dsimp only; omega) ⟨hil, (fun j h q => by
            by_cases e : j < i
            · exact hno j h e
            · have : j = i := by omega
              subst this
              exact hb2), (fun q => by cases q), fun id q => by cases q; exact ⟨ht99, by assumption, by assumption⟩⟩
      · have hi0 : a.length = i := by omega
        have hn0 : fst0 (a.map fun o => (bindO litP ps o).2) = 0 := fstM_none (f := fun o => (bindO litP ps o).2) (l := a) (fun j h => hno j h (by omega))
        rw [hn0, if_neg (by simp)]
        clear hno hn0
        (first | refine au ?_ | exact au0)
        refine loopM (S := Nat × Option Nat) [(1, some _), (2, some _), (4, some _), (6, some _), (52, some _), (53, some _)] (fun z => [(11, some (accV z.2 4 z.1)), (54, some (.int .i64 (z.1 : Nat)))]) (fun z => accH z.2 4 (((ks.take z.1).map fun k => (bindE litP ps k).1).map exR) ([(ida, .rows 4 (((a.take i).map fun o => (bindO litP ps o).1).map opR)), (id3, .rows 4 [[.int .i64 0, .int .i64 0, .nilS, .nilS]]), (id2, .rows 4 [exR (.mk op rel a ks)])])) (fun z => ks.length - z.1) (fun z => z.1 ≤ ks.length ∧ (∀ j (h : j < ks.length), j < z.1 → (bindE litP ps ks[j]).2 = 0) ∧ (z.2 = none → z.1 = 0) ∧ ∀ id, z.2 = some id → tag id = ty_api_Expr ∧ id ≠ id3 ∧ id ≠ id2 ∧ id ≠ ida) (0, none) (by exact cov_of) (by exact sub_of) ⟨Nat.zero_le _, fun j h q => absurd q (Nat.not_lt_zero _), fun _ => rfl, fun id q => by cases q⟩ (fun ⟨m, o⟩ hz => ?_)
        obtain ⟨hm, hkn, hq1, hq2⟩ := hz
        dsimp only at hm hkn hq1 hq2 ⊢
        rcases o with _ | idk
        · have hm0 := hq1 rfl
          subst hm0
          clear hq1 hq2
          dsimp only [accH, accV]
          (first | refine au ?_ | exact au0)
          refine bsplit_dec (fun c7 => ?_) (fun c7 => ?_)
          · have hil : 0 < ks.length := by omega
            have hge := exR_kid hil
            have hib := ih ks[0] (List.getElem_mem hil)
            have hhit := bindEs_hit (lit := litP) (ps := ps) (ks := ks) (i := 0) hkn hil
            generalize hyy : ks[0] = y at hge hib hhit
            obtain ⟨⟨bx, be⟩, hB⟩ : ∃ B, bindE litP ps y = B := ⟨_, rfl⟩
            rw [hB] at hib hhit
            obtain ⟨o2', r2', a2', k2'⟩ := y
            obtain ⟨o3', r3', a3', k3'⟩ := bx
            (first | refine au ?_ | exact au0)
            rw [hge]
            (first | refine au ?_ | exact au0)
            intro id12 hid12 ht12; have n12 := neAll_of hid12; (try simp only [neAll, neAll_hset] at n12); have m12 := n12; (repeat (obtain ⟨_, m12⟩ := m12))
            clear hid12
            (first | refine au ?_ | exact au0)
            first | refine callF_eq (hib.frame _) ?_ | refine callG_eq rfl (hib.frame _) ?_
            (first | refine au ?_ | exact au0)
            intro id13 hid13 ht13; have n13 := neAll_of hid13; (try simp only [neAll, neAll_hset] at n13); have m13 := n13; (repeat (obtain ⟨_, m13⟩ := m13))
            clear hid13
            (first | refine au ?_ | exact au0)
            refine bsplit_dec (fun c6 => ?_) (fun c6 => ?_)
            · rw [hhit c6, if_pos c6]
              (first | refine au ?_ | exact au0)
              exact fz_of
            · (first | refine au ?_ | exact au0)
              refine ⟨_, rfl, (Nat.le_of_ble_eq_true rfl), (fun q => by cases q), fun _ => ?_⟩
              intro id98 hid98 ht98; have n98 := neAll_of hid98; (try simp only [neAll, neAll_hset] at n98); have m98 := n98; (repeat (obtain ⟨_, m98⟩ := m98))
              (first | refine au ?_ | exact au0)
              have hb1 : (bindE litP ps ks[0]).1 = .mk o3' r3' a3' k3' := by rw [hyy, hB]
              have hb2 : (bindE litP ps ks[0]).2 = 0 := by rw [hyy, hB]; exact Classical.not_not.1 c6
              have htk : (ks.take (0 + 1)).map (fun k => (bindE litP ps k).1) = (ks.take 0).map (fun k => (bindE litP ps k).1) ++ [.mk o3' r3' a3' k3'] := by rw [List.take_succ_eq_append_getElem hil, List.map_append, List.map_singleton, hb1]
              exact nextS (S := Nat × Option Nat) (0 + 1, some id98) (by (try dsimp only [accV]); exact (by exact cov_of)) (by (try dsimp only [accH]); rw [htk, List.map_append]; exact sub_of) (by dsimp only; omega) ⟨hil, (fun j h q => by
                by_cases e : j < 0
                · exact hkn j h e
                · have : j = 0 := by omega
                  subst this
                  exact hb2), (fun q => by cases q), fun id q => by cases q; exact ⟨ht98, by assumption, by assumption, by assumption⟩⟩
          · have hkm : ks.length = 0 := by omega
            rw [bindEs_none (lit := litP) (ps := ps) (ks := ks) (fun j h => hkn j h (by omega))]
            rw [if_neg (by simp)]
            (first | refine au ?_ | exact au0)
            obtain rfl : ks = [] := List.length_eq_zero_iff.1 hkm; rw [List.take_of_length_le (show a.length ≤ i from by omega)]; exact bind_fz (A' := (a.map fun o => (bindO litP ps o).1).map opR) (K' := []) (fz_ownN (by exact hg_of) (by simp; omega) (opRs_w _)) fz_of
        · obtain ⟨htk, hke1, hke2, hke3⟩ := hq2 idk rfl
          clear hq1 hq2
          dsimp only [accH, accV]
          (first | refine au ?_ | exact au0)
          refine bsplit_dec (fun c7 => ?_) (fun c7 => ?_)
          · have hil : m < ks.length := by omega
            have hge := exR_kid hil
            have hib := ih ks[m] (List.getElem_mem hil)
            have hhit := bindEs_hit (lit := litP) (ps := ps) (ks := ks) (i := m) hkn hil
            generalize hyy : ks[m] = y at hge hib hhit
            obtain ⟨⟨bx, be⟩, hB⟩ : ∃ B, bindE litP ps y = B := ⟨_, rfl⟩
            rw [hB] at hib hhit
            obtain ⟨o2', r2', a2', k2'⟩ := y
            obtain ⟨o3', r3', a3', k3'⟩ := bx
            (first | refine au ?_ | exact au0)
            rw [hge]
            (first | refine au ?_ | exact au0)
            intro id12 hid12 ht12; have n12 := neAll_of hid12; (try simp only [neAll, neAll_hset] at n12); have m12 := n12; (repeat (obtain ⟨_, m12⟩ := m12))
            clear hid12
            (first | refine au ?_ | exact au0)
            first | refine callF_eq (hib.frame _) ?_ | refine callG_eq rfl (hib.frame _) ?_
            (first | refine au ?_ | exact au0)
            intro id13 hid13 ht13; have n13 := neAll_of hid13; (try simp only [neAll, neAll_hset] at n13); have m13 := n13; (repeat (obtain ⟨_, m13⟩ := m13))
            clear hid13
            (first | refine au ?_ | exact au0)
            refine bsplit_dec (fun c6 => ?_) (fun c6 => ?_)
            · rw [hhit c6, if_pos c6]
              (first | refine au ?_ | exact au0)
              exact fz_of
            · (first | refine au ?_ | exact au0)
              refine ⟨_, _, readS_all (by exact hg_of) (by ((try dsimp only); (try simp only [List.length_append, List.length_map, List.length_cons, List.length_nil, List.length_take, List.length_set, List.length_replicate]); (try dsimp only); first | done | omega)), rfl, rfl, rfl, (htk), (by ((try dsimp only); (try simp only [List.length_append, List.length_map, List.length_cons, List.length_nil, List.length_take, List.length_set, List.length_replicate]); (try dsimp only); first | done | omega)), ?_⟩
              intro id98 hid98 ht98; have n98 := neAll_of hid98; (try simp only [neAll, neAll_hset] at n98); have m98 := n98; (repeat (obtain ⟨_, m98⟩ := m98))
              (first | refine au ?_ | exact au0)
              have hb1 : (bindE litP ps ks[m]).1 = .mk o3' r3' a3' k3' := by rw [hyy, hB]
              have hb2 : (bindE litP ps ks[m]).2 = 0 := by rw [hyy, hB]; exact Classical.not_not.1 c6
              have htk : (ks.take (m + 1)).map (fun k => (bindE litP ps k).1) = (ks.take m).map (fun k => (bindE litP ps k).1) ++ [.mk o3' r3' a3' k3'] := by rw [List.take_succ_eq_append_getElem hil, List.map_append, List.map_singleton, hb1]
              exact nextS (S := Nat × Option Nat) (m + 1, some id98) (by (try dsimp only [accV]); exact (by exact cov_of)) (by (try dsimp only [accH]); rw [htk, List.map_append]; exact sub_of) (by dsimp only; omega) ⟨hil, (fun j h q => by
                by_cases e : j < m
                · exact hkn j h e
                · have : j = m := by omega
                  subst this
                  exact hb2), (fun q => by cases q), fun id q => by cases q; exact ⟨ht98, by assumption, by assumption, by assumption⟩⟩
          · have hkm : ks.length = m := by omega
            rw [bindEs_none (lit := litP) (ps := ps) (ks := ks) (fun j h => hkn j h (by omega))]
            rw [if_neg (by simp)]
            (first | refine au ?_ | exact au0)
            rw [List.take_of_length_le (show a.length ≤ i from by omega), List.take_of_length_le (show ks.length ≤ m from by omega)]; refine bind_fz (A' := (a.map fun o => (bindO litP ps o).1).map opR) (K' := exRs (ks.map fun k => (bindE litP ps k).1)) (fz_ownN (by exact hg_of) (by simp; omega) (opRs_w _)) ?_; rw [exRs_map]; exact fz_ownN (by exact hg_of) (by simp; omega) (exM_w _)
end Go.Proofs.YtjaigpidmngaaaaGreat

namespace Go.Proofs.YtjaigpidmngaaaaGreat
attribute [local irreducible] callA callP ACalls
theorem litV_kind : ∀ (l : List Tok), (litV l).2 = true → (litV l).1.k ≠ 5
  | [], h => by simp [litV] at h
  | [x], h => by
    unfold litV at h ⊢
    dsimp only at h ⊢
    repeat' split at h
    all_goals first | (rename_i c; simp_all) | simp_all
  | [x, y], h => by
    unfold litV at h ⊢
    dsimp only at h ⊢
    split at h
    · rename_i c; rw [if_pos c]; simp
    · cases h
  | _ :: _ :: _ :: _, h => by simp [litV] at h
theorem litV_txt : ∀ (l : List Tok), (∀ x ∈ l, x.2.1.length ≤ 256) → (litV l).1.t.length ≤ 256
  | [], h => by simp [litV]
  | [x], h => by
    have := h x (by simp)
    unfold litV
    dsimp only
    repeat' split
    all_goals first | (simp; done) | (dsimp only; omega)
  | [x, y], h => by
    unfold litV
    dsimp only
    repeat' split
    all_goals simp
  | _ :: _ :: _ :: _, h => by simp [litV]
theorem litP_kind (s : List UInt8) (v : Opd) (h : litP s = some v) : v.k ≠ 5 := by
  unfold litP at h
  split at h
  · rename_i c
    cases h
    unfold litS at c ⊢
    split at c
    · exact litV_kind _ c
    · cases c
  · cases h
theorem litP_txt (s : List UInt8) (v : Opd) (h : litP s = some v) : v.t.length ≤ 256 := by
  unfold litP at h
  split at h
  · rename_i c
    cases h
    unfold litS at c ⊢
    cases hT : tokens s with
    | bad e p => simp [opd0]
    | ok l =>
      have w := tokens_wt hT
      refine litV_txt _ fun x hx => ?_
      rw [List.dropLast_eq_take] at hx
      have hx := List.mem_of_mem_take hx
      obtain ⟨i, hi, rfl⟩ := List.getElem_of_mem hx
      have := w.txt i
      rw [show tk l i = l[i] from by simp [tk, List.getD, hi]] at this
      exact this
  · cases h
mutual
theorem eT_bind (ps : List (List UInt8)) : ∀ x : Ex, eT x → eT (bindE litP ps x).1
  | .mk op rel a k, h => by
    simp only [eT] at h
    simp only [bindE]
    split
    · simp [ex0, eT, eTs]
    · rename_i c
      split
      · simp [ex0, eT, eTs]
      · rename_i c2
        simp only [eT, List.length_map]
        refine ⟨⟨h.1.1, fun o ho => ?_⟩, ?_, eTs_bind ps k h.2.2⟩
        · obtain ⟨o', ho', rfl⟩ := List.mem_map.1 ho
          have := h.1.2 o' ho'
          unfold bindO
          split
          · split
            · simp [opd0]
            · cases e : litP (ps.getD o'.num []) with
              | none => simp [opd0]
              | some v => have := litP_txt _ v e; dsimp only; omega
          · exact this
        · have := bindEs_len litP ps k
          omega
theorem eTs_bind (ps : List (List UInt8)) : ∀ x : List Ex, eTs x → eTs (bindEs litP ps x).1
  | [], _ => by simp [bindEs, eTs]
  | k :: ks, h => by
    simp only [eTs] at h
    simp only [bindEs]
    split
    · simp [eTs]
    · split
      · simp [eTs]
      · simp only [eTs]; exact ⟨eT_bind ps k h.1, eTs_bind ps ks h.2⟩
end
set_option maxHeartbeats 1000000 in
theorem params_spec : ∀ (n : Nat) (x : Ex), SizeOf.sizeOf x < n → eT x → ACalls PG broadsheetlaw18_params.n [exA x] [] fun r _ => r = .bool (parB x)
  | 0, x, h, _ => absurd h (Nat.not_lt_zero _)
  | n + 1, .mk op rel a ks, hn, hT => by
    simp only [eT] at hT
    obtain ⟨⟨hal, hat⟩, hkl, hks⟩ := hT
    have ih := fun y (hy : y ∈ ks) => params_spec n y (by have := List.sizeOf_lt_of_mem hy; simp only [Ex.mk.sizeOf_spec] at hn; omega) (eTs_mem hks y hy)
    have hlk := exRs_len ks
    have hla : (a.map fun o : Opd => [AV.int .i64 o.k, .str o.t, .bool o.neg, .int .u64 (o.num : Nat)]).length = a.length := by simp
    refine ACalls.fzK (broadsheetlaw18_params.of rfl (wpF_start ?_))
    rw [parB]
    (first | refine au ?_ | exact au0)
    intro id1 hid1 ht1; have n1 := neAll_of hid1; (try simp only [neAll, neAll_hset] at n1); have m1 := n1; (repeat (obtain ⟨_, m1⟩ := m1))
    (first | refine au ?_ | exact au0)
    refine loopL [(1, some _)] 3 0 a.length (none' (fun o : Opd => decide (o.k = 5)) a) (by exact cov_of) (Nat.zero_le _) none'_zero (fun i hi hno => ?_)
    (first | refine au ?_ | exact au0)
    refine bsplit_dec (fun c => ?_) (fun c => ?_)
    · have hil : i < a.length := by omega
      have hge := row_get (f := fun o : Opd => [AV.int .i64 o.k, .str o.t, .bool o.neg, .int .u64 (o.num : Nat)]) hil
      have hnx := none'_succ hno hil
      have hany : decide (a[i].k = 5) = true → a.any (fun o => decide (o.k = 5)) = true := fun q => List.any_eq_true.2 ⟨_, List.getElem_mem hil, q⟩
      generalize a[i] = o at *
      (first | refine au ?_ | exact au0)
      rw [hge]
      (first | refine au ?_ | exact au0)
      refine bsplit_dec (fun c5 => ?_) (fun c5 => ?_)
      · rw [hany (decide_eq_true c5), Bool.true_or]
        (first | refine au ?_ | exact au0)
        exact fz_of
      · (first | refine au ?_ | exact au0)
        exact nextN (by exact cov_of) (by exact sub_of) (by omega) (hnx (decide_eq_false c5))
    · rw [show a.any (fun o => decide (o.k = 5)) = false from by rw [← List.take_of_length_le (show a.length ≤ i from by omega)]; exact none'_take hno, Bool.false_or]
      (first | refine au ?_ | exact au0)
      refine loopL [(1, some _)] 4 0 ks.length (fun m => ∀ q (h : q < ks.length), q < m → parB ks[q] = false) (by exact cov_of) (Nat.zero_le _) (fun q h1 h2 => absurd h2 (Nat.not_lt_zero _)) (fun m hm hno => ?_)
      (first | refine au ?_ | exact au0)
      refine bsplit_dec (fun c5 => ?_) (fun c5 => ?_)
      · have hil : m < ks.length := by omega
        have hge := exR_kid hil
        have hi := ih ks[m] (List.getElem_mem hil)
        have hhit := parBs_hit hil
        obtain ⟨E, hE⟩ : ∃ E, parB ks[m] = E := ⟨_, rfl⟩
        rw [hE] at hi hhit
        generalize hy : ks[m] = y at hge hi
        obtain ⟨o2, r2, a2, k2⟩ := y
        (first | refine au ?_ | exact au0)
        rw [hge]
        (first | refine au ?_ | exact au0)
        first | refine callF_eq (hi.frame _) ?_ | refine callG_eq rfl (hi.frame _) ?_
        cases E with
        | true =>
          rw [hhit rfl]
          (first | refine au ?_ | exact au0)
          exact fz_of
        | false =>
          (first | refine au ?_ | exact au0)
          refine nextN (by exact cov_of) (by exact sub_of) (by omega) (fun q h1 h2 => ?_)
          by_cases e : q < m
          · exact hno q h1 e
          · have : q = m := by omega
            subst this
            exact hE
      · rw [parBs_none (fun q h => hno q h (by omega))]
        (first | refine au ?_ | exact au0)
        exact fz_of
theorem chk_not (l : List Ty) (t : Int) (y : Ex) : checkE l t (.mk 4 0 [] [y]) = checkE l t y := by unfold checkE; rw [tree_not]
theorem chk_and (l : List Ty) (t : Int) (y : Ex) : checkE l t (.mk 5 0 [] [y, .mk 4 0 [] [y]]) = checkE l t y := by unfold checkE; rw [tree_and]
theorem chk_or (l : List Ty) (t : Int) (y : Ex) : checkE l t (.mk 6 0 [] [y, y, .mk 5 0 [] [y, .mk 4 0 [] [y]]]) = checkE l t y := by unfold checkE; rw [tree_or]
mutual
theorem exOk_T : ∀ x : Ex, eT x → exOk x
  | .mk op rel a k, h => by
    simp only [eT] at h
    simp only [exOk]
    exact ⟨by omega, by omega, exsOk_T k h.2.2⟩
theorem exsOk_T : ∀ x : List Ex, eTs x → exsOk x
  | [], _ => by simp [exsOk]
  | k :: ks, h => by
    simp only [eTs] at h
    simp only [exsOk]
    exact ⟨exOk_T k h.1, exsOk_T ks h.2⟩
end
theorem nw_ex0 : Nw (.agg [.int .i64 0, .int .i64 0, .nilS, .nilS]) (exA ex0) := by
  have q : NwL [.int .i64 0, .int .i64 0, .nilS, .nilS] (exR ex0) := .cons (.refl _) (.cons (.refl _) (.cons (.nil 4) (.cons (.nil 4) (.refl _))))
  exact .agg _ _ q.1 q.2
theorem Nw.rowsD {sz : Nat} {r r' : List AV} {l l' : List (List AV)} (h : NwL r r') (k : Nw (.rows sz l) (.rows sz l')) : Nw (.rows sz (r :: l)) (.rows sz (r' :: l')) := by
  have hk : l.length = l'.length ∧ (∀ (i : Nat) r r', l[i]? = some r → l'[i]? = some r' → r.length = r'.length) ∧ ∀ (i : Nat) r r' (j : Nat) v v', l[i]? = some r → l'[i]? = some r' → r[j]? = some v → r'[j]? = some v' → Nw v v' := by
    cases k with
    | refl => exact ⟨rfl, fun i r r' a b => by rw [a] at b; cases b; rfl, fun i r r' j v v' a b c d => by rw [a] at b; cases b; rw [c] at d; cases d; exact .refl _⟩
    | rows _ _ _ a b c => exact ⟨a, b, c⟩
  obtain ⟨a, b, c⟩ := hk
  refine .rows _ _ _ (by simp [a]) (fun i => ?_) (fun i => ?_)
  · cases i with
    | zero => intro x y p q; cases p; cases q; exact h.1
    | succ i => intro x y p q; exact b i x y p q
  · cases i with
    | zero => intro x y j v v' p q; cases p; cases q; exact fun p q => h.2 j v v' p q
    | succ i => intro x y j v v' p q; exact c i x y j v v' p q
theorem nw_ex (op : Int) {k k' : List (List AV)} (h : Nw (.rows 4 k) (.rows 4 k')) : NwL [.int .i64 op, .int .i64 0, .nilS, .rows 4 k] [.int .i64 op, .int .i64 0, .rows 4 [], .rows 4 k'] := .cons (.refl _) (.cons (.refl _) (.cons (.nil 4) (.cons h (.refl _))))
theorem nw_1 (y : Ex) : NwL [.int .i64 4, .int .i64 0, .nilS, .rows 4 [exR y]] (exR (.mk 4 0 [] [y])) := nw_ex 4 (.refl _)
theorem nw_2 (y : Ex) : NwL [.int .i64 5, .int .i64 0, .nilS, .rows 4 [exR y, [.int .i64 4, .int .i64 0, .nilS, .rows 4 [exR y]]]] (exR (.mk 5 0 [] [y, .mk 4 0 [] [y]])) := nw_ex 5 (.rowsD (.refl _) (.rowsD (nw_1 y) (.refl _)))
theorem nw_3 (y : Ex) : NwL [.int .i64 6, .int .i64 0, .nilS, .rows 4 [exR y, exR y, [.int .i64 5, .int .i64 0, .nilS, .rows 4 [exR y, [.int .i64 4, .int .i64 0, .nilS, .rows 4 [exR y]]]]]] (exR (.mk 6 0 [] [y, y, .mk 5 0 [] [y, .mk 4 0 [] [y]]])) := nw_ex 6 (.rowsD (.refl _) (.rowsD (.refl _) (.rowsD (nw_2 y) (.refl _))))
theorem nwAgg {r r' : List AV} (h : NwL r r') : Nw (.agg r) (.agg r') := .agg _ _ h.1 h.2
set_option maxHeartbeats 4000000 in
theorem CheckAround_spec (l : List Ty) (hl : TysOk l) (t : Int) (x : Ex) (hx : eOk x) (ps : List (List UInt8)) (hps : PsOk ps) : ACalls PG broadsheetlaw18_CheckAround.n [tysA l, .int .i64 t, .agg (exR x ++ [.rows 1 (ps.map stR)])] [] fun r _ => r = .bool true := by
  have hg := fun H => tGreat_spec l hl H
  have hm := Great_spec _ x 0 (Nat.lt_succ_self _) hx (by omega)
  have hT := @eT_much x 0
  have hpl := hps.len
  have hlp : (ps.map stR).length = ps.length := by simp
  obtain ⟨⟨y, e⟩, hB⟩ : ∃ B, bindE litP ps x = B := ⟨_, rfl⟩
  have hbind := fun q => Bind_spec ps hps _ x (Nat.lt_succ_self _) q
  have hty := fun q => eT_bind ps x q
  have hpar := bindE_par litP litP_kind ps x
  have hid := bindE_id litP ps x
  have her := bindE_err litP ps x
  rw [hB] at hbind hty hpar hid her
  clear hB
  dsimp only at hbind hty hpar her
  have hpx := fun q => params_spec _ x (Nat.lt_succ_self _) q
  have hpy := fun q => params_spec _ y (Nat.lt_succ_self _) q
  have hsx := fun q => same_spec _ x (Nat.lt_succ_self _) q
  have hs0 := same_spec _ ex0 (Nat.lt_succ_self _) (by simp [exOk, exsOk])
  have hc1 := fun q => check_Check_spec l hl t y q
  have hc2 := fun q => check_Check_spec l hl t (.mk 4 0 [] [y]) q
  have hc3 := fun q => check_Check_spec l hl t (.mk 5 0 [] [y, .mk 4 0 [] [y]]) q
  have hc4 := fun q => check_Check_spec l hl t (.mk 6 0 [] [y, y, .mk 5 0 [] [y, .mk 4 0 [] [y]]]) q
  rw [chk_not] at hc2
  rw [chk_and] at hc3
  rw [chk_or] at hc4
  generalize checkE l t y = E at *
  have hx2 := exOk_T x
  obtain ⟨op, rel, ag, ks⟩ := x
  generalize tyGreat l = a at *
  generalize eMuch (.mk op rel ag ks) 0 = b at *
  refine ACalls.fzK (broadsheetlaw18_CheckAround.of rfl (wpF_start ?_))
  (first | refine au ?_ | exact au0)
  intro id5 hid5 ht5; have n5 := neAll_of hid5; (try simp only [neAll, neAll_hset] at n5); have m5 := n5; (repeat (obtain ⟨_, m5⟩ := m5))
  clear hid5
  (first | refine au ?_ | exact au0)
  first | refine callF_eq (hg _) ?_ | refine callG_eq rfl (hg _) ?_
  cases a
  rotate_left
  · (first | refine au ?_ | exact au0)
    first | refine callF_eq (chk_awake_spec _) ?_ | refine callG_eq rfl (chk_awake_spec _) ?_
    (first | refine au ?_ | exact au0)
    exact fz_of
  (first | refine au ?_ | exact au0)
  first | refine callF_eq (hm.frame _) ?_ | refine callG_eq rfl (hm.frame _) ?_
  cases b
  rotate_left
  · (first | refine au ?_ | exact au0)
    first | refine callF_eq (chk_awake_spec _) ?_ | refine callG_eq rfl (chk_awake_spec _) ?_
    (first | refine au ?_ | exact au0)
    exact fz_of
  (first | refine au ?_ | exact au0)
  by_cases c20 : 20 < ps.length
  · (first | refine au ?_ | exact au0)
    first | refine callF_eq (chk_awake_spec _) ?_ | refine callG_eq rfl (chk_awake_spec _) ?_
    (first | refine au ?_ | exact au0)
    exact fz_of
  have hTx := hT rfl
  have hTy := hty hTx
  have hbind := hbind hTx
  have hpx := hpx hTx
  have hpy := hpy hTy
  have hsx := hsx (hx2 hTx)
  have hc1 := hc1 hTy
  have hc2 := hc2 (by simp [eT, eTs, hTy])
  have hc3 := hc3 (by simp [eT, eTs, hTy])
  have hc4 := hc4 (by simp [eT, eTs, hTy])
  clear hT hx2 hty hm hg
  (first | refine au ?_ | exact au0)
  refine loopL [(0, some _), (1, some _), (5, some _)] 7 0 ps.length (fun _ => True) (by exact cov_of) (Nat.zero_le _) trivial (fun i hi _ => ?_)
  (first | refine au ?_ | exact au0)
  refine bsplit_dec (fun c => ?_) (fun c => ?_)
  · have hil : i < ps.length := by omega
    have hgs := row_get (f := stR) hil
    generalize ps[i] = s at hgs
    (first | refine au ?_ | exact au0)
    rw [hgs]
    (first | refine au ?_ | exact au0)
    refine bsplit_dec (fun c3 => ?_) (fun c3 => ?_)
    · (first | refine au ?_ | exact au0)
      first | refine callF_eq (chk_awake_spec _) ?_ | refine callG_eq rfl (chk_awake_spec _) ?_
      (first | refine au ?_ | exact au0)
      exact fz_of
    · (first | refine au ?_ | exact au0)
      exact nextN (by exact cov_of) (by exact sub_of) (by omega) trivial
  (first | refine au ?_ | exact au0)
  first | refine callF_eq (hbind.frame _) ?_ | refine callG_eq rfl (hbind.frame _) ?_
  obtain ⟨yo, yr, ya, yk⟩ := y
  (first | refine au ?_ | exact au0)
  intro id8 hid8 ht8; have n8 := neAll_of hid8; (try simp only [neAll, neAll_hset] at n8); have m8 := n8; (repeat (obtain ⟨_, m8⟩ := m8))
  clear hid8
  (first | refine au ?_ | exact au0)
  by_cases c0 : e = 0
  · rw [hpar c0] at hpy
    clear hpar her hs0
    obtain ⟨P, hP⟩ : ∃ P, parB (.mk op rel ag ks) = P := ⟨_, rfl⟩
    rw [hP] at hpx hid
    cases P with
    | true =>
      clear hid hsx
      (first | refine au ?_ | exact au0)
      first | refine callF_eq (hpy.frame _) ?_ | refine callG_eq rfl (hpy.frame _) ?_
      (first | refine au ?_ | exact au0)
      first | refine callF_eq (hpx.frame _) ?_ | refine callG_eq rfl (hpx.frame _) ?_
      (first | refine au ?_ | exact au0)
      first | refine callF_eq (hc1.frame _) ?_ | refine callG_eq rfl (hc1.frame _) ?_
      (first | refine au ?_ | exact au0)
      intro id30 hid30 ht30; have n30 := neAll_of hid30; (try simp only [neAll, neAll_hset] at n30); have m30 := n30; (repeat (obtain ⟨_, m30⟩ := m30))
      clear hid30
      (first | refine au ?_ | exact au0)
      intro id31 hid31 ht31; have n31 := neAll_of hid31; (try simp only [neAll, neAll_hset] at n31); have m31 := n31; (repeat (obtain ⟨_, m31⟩ := m31))
      clear hid31
      (first | refine au ?_ | exact au0)
      intro id32 hid32 ht32; have n32 := neAll_of hid32; (try simp only [neAll, neAll_hset] at n32); have m32 := n32; (repeat (obtain ⟨_, m32⟩ := m32))
      clear hid32
      (first | refine au ?_ | exact au0)
      first | refine callF_eq ((hc2.frame _).nw (.cons (.refl _) (.cons (.refl _) (.cons (nwAgg (nw_1 _)) (.refl _))))) ?_ | refine callG_eq rfl ((hc2.frame _).nw (.cons (.refl _) (.cons (.refl _) (.cons (nwAgg (nw_1 _)) (.refl _))))) ?_
      (first | refine au ?_ | exact au0)
      first | refine callF_eq ((hc3.frame _).nw (.cons (.refl _) (.cons (.refl _) (.cons (nwAgg (nw_2 _)) (.refl _))))) ?_ | refine callG_eq rfl ((hc3.frame _).nw (.cons (.refl _) (.cons (.refl _) (.cons (nwAgg (nw_2 _)) (.refl _))))) ?_
      (first | refine au ?_ | exact au0)
      first | refine callF_eq ((hc4.frame _).nw (.cons (.refl _) (.cons (.refl _) (.cons (nwAgg (nw_3 _)) (.refl _))))) ?_ | refine callG_eq rfl ((hc4.frame _).nw (.cons (.refl _) (.cons (.refl _) (.cons (nwAgg (nw_3 _)) (.refl _))))) ?_
      (first | refine au ?_ | exact au0)
      first | refine callF_eq (chk_awake_spec _) ?_ | refine callG_eq rfl (chk_awake_spec _) ?_
      (first | refine au ?_ | exact au0)
      exact fz_of
    | false =>
      have hq := hid rfl
      simp only [Prod.mk.injEq, Ex.mk.injEq] at hq
      obtain ⟨⟨rfl, rfl, rfl, rfl⟩, _⟩ := hq
      clear hid
      (first | refine au ?_ | exact au0)
      first | refine callF_eq (hpy.frame _) ?_ | refine callG_eq rfl (hpy.frame _) ?_
      (first | refine au ?_ | exact au0)
      first | refine callF_eq (hpx.frame _) ?_ | refine callG_eq rfl (hpx.frame _) ?_
      (first | refine au ?_ | exact au0)
      first | refine callF_eq (hsx _) ?_ | refine callG_eq rfl (hsx _) ?_
      (first | refine au ?_ | exact au0)
      clear hsx
      first | refine callF_eq (hc1.frame _) ?_ | refine callG_eq rfl (hc1.frame _) ?_
      (first | refine au ?_ | exact au0)
      intro id30 hid30 ht30; have n30 := neAll_of hid30; (try simp only [neAll, neAll_hset] at n30); have m30 := n30; (repeat (obtain ⟨_, m30⟩ := m30))
      clear hid30
      (first | refine au ?_ | exact au0)
      intro id31 hid31 ht31; have n31 := neAll_of hid31; (try simp only [neAll, neAll_hset] at n31); have m31 := n31; (repeat (obtain ⟨_, m31⟩ := m31))
      clear hid31
      (first | refine au ?_ | exact au0)
      intro id32 hid32 ht32; have n32 := neAll_of hid32; (try simp only [neAll, neAll_hset] at n32); have m32 := n32; (repeat (obtain ⟨_, m32⟩ := m32))
      clear hid32
      (first | refine au ?_ | exact au0)
      first | refine callF_eq ((hc2.frame _).nw (.cons (.refl _) (.cons (.refl _) (.cons (nwAgg (nw_1 _)) (.refl _))))) ?_ | refine callG_eq rfl ((hc2.frame _).nw (.cons (.refl _) (.cons (.refl _) (.cons (nwAgg (nw_1 _)) (.refl _))))) ?_
      (first | refine au ?_ | exact au0)
      first | refine callF_eq ((hc3.frame _).nw (.cons (.refl _) (.cons (.refl _) (.cons (nwAgg (nw_2 _)) (.refl _))))) ?_ | refine callG_eq rfl ((hc3.frame _).nw (.cons (.refl _) (.cons (.refl _) (.cons (nwAgg (nw_2 _)) (.refl _))))) ?_
      (first | refine au ?_ | exact au0)
      first | refine callF_eq ((hc4.frame _).nw (.cons (.refl _) (.cons (.refl _) (.cons (nwAgg (nw_3 _)) (.refl _))))) ?_ | refine callG_eq rfl ((hc4.frame _).nw (.cons (.refl _) (.cons (.refl _) (.cons (nwAgg (nw_3 _)) (.refl _))))) ?_
      (first | refine au ?_ | exact au0)
      first | refine callF_eq (chk_awake_spec _) ?_ | refine callG_eq rfl (chk_awake_spec _) ?_
      (first | refine au ?_ | exact au0)
      exact fz_of
  · have hq := her c0
    have hP : parB (.mk op rel ag ks) = true := by
      cases h : parB (.mk op rel ag ks) with
      | true => rfl
      | false =>
        have := hid h
        simp only [Prod.mk.injEq] at this
        exact absurd this.2 c0
    rw [hP] at hpx
    simp only [Ex.mk.injEq] at hq
    obtain ⟨rfl, rfl, rfl, rfl⟩ := hq
    clear hid her hpar hsx
    (first | refine au ?_ | exact au0)
    first | refine callF_eq (hpx.frame _) ?_ | refine callG_eq rfl (hpx.frame _) ?_
    (first | refine au ?_ | exact au0)
    first | refine callF_eq ((hs0 _).nw (.cons (.refl _) (.cons nw_ex0 (.refl _)))) ?_ | refine callG_eq rfl ((hs0 _).nw (.cons (.refl _) (.cons nw_ex0 (.refl _)))) ?_
    (first | refine au ?_ | exact au0)
    clear hs0
    first | refine callF_eq (hc1.frame _) ?_ | refine callG_eq rfl (hc1.frame _) ?_
    (first | refine au ?_ | exact au0)
    intro id30 hid30 ht30; have n30 := neAll_of hid30; (try simp only [neAll, neAll_hset] at n30); have m30 := n30; (repeat (obtain ⟨_, m30⟩ := m30))
    clear hid30
    (first | refine au ?_ | exact au0)
    intro id31 hid31 ht31; have n31 := neAll_of hid31; (try simp only [neAll, neAll_hset] at n31); have m31 := n31; (repeat (obtain ⟨_, m31⟩ := m31))
    clear hid31
    (first | refine au ?_ | exact au0)
    intro id32 hid32 ht32; have n32 := neAll_of hid32; (try simp only [neAll, neAll_hset] at n32); have m32 := n32; (repeat (obtain ⟨_, m32⟩ := m32))
    clear hid32
    (first | refine au ?_ | exact au0)
    first | refine callF_eq ((hc2.frame _).nw (.cons (.refl _) (.cons (.refl _) (.cons (nwAgg (nw_1 _)) (.refl _))))) ?_ | refine callG_eq rfl ((hc2.frame _).nw (.cons (.refl _) (.cons (.refl _) (.cons (nwAgg (nw_1 _)) (.refl _))))) ?_
    (first | refine au ?_ | exact au0)
    first | refine callF_eq ((hc3.frame _).nw (.cons (.refl _) (.cons (.refl _) (.cons (nwAgg (nw_2 _)) (.refl _))))) ?_ | refine callG_eq rfl ((hc3.frame _).nw (.cons (.refl _) (.cons (.refl _) (.cons (nwAgg (nw_2 _)) (.refl _))))) ?_
    (first | refine au ?_ | exact au0)
    first | refine callF_eq ((hc4.frame _).nw (.cons (.refl _) (.cons (.refl _) (.cons (nwAgg (nw_3 _)) (.refl _))))) ?_ | refine callG_eq rfl ((hc4.frame _).nw (.cons (.refl _) (.cons (.refl _) (.cons (nwAgg (nw_3 _)) (.refl _))))) ?_
    (first | refine au ?_ | exact au0)
    first | refine callF_eq (chk_awake_spec _) ?_ | refine callG_eq rfl (chk_awake_spec _) ?_
    (first | refine au ?_ | exact au0)
    exact fz_of
theorem bound_fl : flC PG ty_broadsheetlaw18_Bound = some [(0, 4, ty_api_Expr), (4, 1, ty_S_string)] := by kernel_rfl
def Shapes.BoundS : List Nat := [ty_broadsheetlaw18_Bound, ty_api_Expr, ty_int, ty_uint64, ty_string, ty_bool, ty_S_api_Operand, ty_api_Operand, ty_S_api_Expr, ty_S_string]
theorem bound_sh : ∀ n, ∃ sh, shO true PG n ty_broadsheetlaw18_Bound = some sh := fun n => clB_some (S := Shapes.BoundS) (by kernel_rfl) n _ (by simp [Shapes.BoundS])
theorem str_of {m : Nat} {sh : Sh} {vs : List AV} (hs : shO true PG m ty_string = some sh) (hk : sh.OkN vs) : ∃ s : List UInt8, vs = stR s ∧ s.length ≤ 140737488351232 := by
  obtain ⟨s, rfl, h⟩ := okStr (by kernel_rfl) hs hk
  exact ⟨s, rfl, h⟩
theorem bound_arg {av : AV} (h : ∃ n sh, shO true PG n ty_broadsheetlaw18_Bound = some sh ∧ ArgOk true sh av) : ∃ (x : Ex) (ps : List (List UInt8)), Nw av (.agg (exR x ++ [.rows 1 (ps.map stR)])) ∧ eOk x ∧ PsOk ps := by
  obtain ⟨n, sh, h1, h2⟩ := h
  obtain ⟨av', h3, h4⟩ := h2.nonil
  obtain ⟨vs, rfl, h5⟩ := h3
  obtain ⟨k, rfl, q1⟩ := okStruct bound_fl (by kernel_rfl) h1 h5
  obtain ⟨_, _, _, _, a1, a2, q2, k2, rfl⟩ := okCons q1 h5
  obtain ⟨_, _, _, _, b1, b2, q3, k3, rfl⟩ := okCons q2 k2
  have := okNil q3 k3; subst this
  obtain ⟨x, rfl, hx⟩ := expr_of _ a1 a2
  obtain ⟨l, rfl, hl, k1, s1, _, h5', h6'⟩ := okSlice (e := ty_string) (c := 1) (b := 16) (by kernel_rfl) (by kernel_rfl) (by kernel_rfl) (by decide) b1 b2
  obtain ⟨ps, rfl, hp⟩ := rows_of (f := stR) fun r hr => str_of h5' (h6' r hr)
  rw [List.length_map] at hl
  exact ⟨x, ps, by rw [List.append_nil] at h4; exact h4, hx, by omega, hp⟩
theorem CheckAround_row (a0 : AV) (h0 : ∃ n sh, shO true PG n ty_S_api_Type = some sh ∧ ArgOk false sh a0) (a1 : AV) (h1 : ∃ n sh, shO true PG n ty_int = some sh ∧ ArgOk false sh a1) (a2 : AV) (h2 : ∃ n sh, shO true PG n ty_broadsheetlaw18_Bound = some sh ∧ ArgOk true sh a2) : ACalls PG broadsheetlaw18_CheckAround.n [a0, a1, a2] [] fun r _ => r = .bool true := by
  obtain ⟨l, q0, hl⟩ := types_arg h0
  obtain ⟨t, rfl, _⟩ := int_arg h1
  obtain ⟨x, ps, q2, hx, hp⟩ := bound_arg h2
  exact (CheckAround_spec l hl t x hx ps hp).nw (.cons q0 (.cons (.refl _) (.cons q2 (.refl _))))
end Go.Proofs.YtjaigpidmngaaaaGreat
