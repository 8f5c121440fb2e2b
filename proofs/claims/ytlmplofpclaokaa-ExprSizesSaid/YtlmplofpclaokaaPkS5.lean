/- Texts of this proof, one behind the other: ExprSpec3, TokRef, TokRefMath, TokRefMath2, TokRef2, ExprRef, ExprRefMath, ExprRef2, ExprRef3, ExprRef4, ExprWt, TokRef3, TokRef4, TokRef5, TokRef6, TokLaw, ExprParse, ExprSame, SimLoop, ExprSizeSpec. -/
import Derived.Test.YtlmplofpclaokaaPkS4
/- The parser that calls itself, walked. -/
namespace Go.Proofs.Ytlmplofpclaokaa
set_option autoImplicit false
set_option linter.unusedSimpArgs false
set_option linter.unusedVariables false
attribute [local irreducible] callA callP ACalls
/-- A part that is read: from every place that is far enough it does what f says. -/
def RdF (l : List Tok) (m : Nat) (id : Nat) (fn : Nat) (args : List AV) (Hs : AH) (f : PSt → Ex × PSt) : Prop :=
  ∀ σ : PSt, σ.p < l.length → l.length - σ.p ≤ m → σ.n ≤ 8 → SW PG fn args id (psB l σ) Hs (exA (f σ).1) (psB l (f σ).2)
theorem within_spec {l : List Tok} (w : Wt l) {m id : Nat} {fn : Nat} {fs cs : List AV} {Hs : AH} {f : PSt → Ex × PSt} (hid : hget Hs id = none) (hf : RdF l m id fn (fs ++ [] ++ cs) Hs f) (hg : GdF l m f) {σ : PSt} (h : σ.p < l.length) (h6 : (tk l σ.p).1 ≠ 6)
    (hm : l.length - σ.p ≤ m + 1) (hn : σ.n ≤ 8) : SW PG expr_parser_within.n [.ptr id 5 0 0, .clo fn fs cs] id (psB l σ) Hs (exA (wth l σ f).1) (psB l (wth l σ f).2) := by
  have hw := w.len
  refine ACalls.fz (expr_parser_within.of rfl (wpF_start ?_))
  unfold wth
  (first | refine au ?_ | exact au0 | fail)
  intro id4 hid4 ht4; have n4 := neAll_of hid4; (try simp only [neAll, neAll_hset] at n4); have m4 := n4; (repeat (obtain ⟨_, m4⟩ := m4))
  (first | refine au ?_ | exact au0 | fail)
  refine bsplit_dec (fun h1 => ?_) (fun h1 => ?_)
  · rw [if_pos (by omega)]
    (first | refine au ?_ | exact au0 | fail)
    refine (fail_spec w h id 9).call (by exact hg_of) (Sub.nil _) ?_
    (first | refine au ?_ | exact au0 | fail)
    exact ⟨fz_of, sub_of⟩
  · rw [if_neg (by omega)]
    have h2 := w.last _ h h6
    (first | refine au ?_ | exact au0 | fail)
    have q := hf ⟨σ.p + 1, σ.n + 1, σ.e, σ.a⟩ h2 (by show l.length - (σ.p + 1) ≤ m; omega) (by show σ.n + 1 ≤ 8; omega)
    have q2 := hg ⟨σ.p + 1, σ.n + 1, σ.e, σ.a⟩ h2 (by show l.length - (σ.p + 1) ≤ m; omega)
    refine SW.call q (by exact hg_of) sub_of ?_
    have q3 := q2.n
    generalize f ⟨σ.p + 1, σ.n + 1, σ.e, σ.a⟩ = R at *
    obtain ⟨x, τ⟩ := R
    obtain ⟨p, n, e, a⟩ := τ
    dsimp only at q3 ⊢
    subst q3
    obtain ⟨op, rel, args, kids⟩ := x
    (first | refine au ?_ | exact au0 | fail)
    intro id5 hid5 ht5; have n5 := neAll_of hid5; (try simp only [neAll, neAll_hset] at n5); have m5 := n5; (repeat (obtain ⟨_, m5⟩ := m5))
    (first | refine au ?_ | exact au0 | fail)
    refine ⟨fz_of, ?_⟩
    have ee : psB l ⟨p, σ.n + 1 - 1, e, a⟩ = .rows 5 [[.rows 4 (l.map tkR), .int .i64 (p : Nat), .int .i64 (((σ.n + 1 : Nat) : Int) - 1), .int .i64 e, .int .i64 a]] := by
      rw [show (((σ.n + 1 : Nat) : Int) - 1) = ((σ.n + 1 - 1 : Nat) : Int) from by omega]
    rw [ee]
    exact sub_of
theorem Sub.swap {a b : Nat} {x y : Blk} {H : AH} (h : a ≠ b) : Sub ((a, x) :: (b, y) :: H) ((b, y) :: (a, x) :: H) := fun j c q => by
  simp only [hget] at q ⊢
  split at q
  · rename_i e; subst e; rw [if_neg h, if_pos rfl]; exact q
  · rename_i e
    split at q
    · rename_i e2; rw [if_pos e2]; exact q
    · rename_i e2; rw [if_neg e2, if_neg e]; exact q
theorem exRs_len (l : List Ex) : (exRs l).length = l.length := by rw [exRs_map]; simp
theorem exRs_app (l : List Ex) (x : Ex) : exRs (l ++ [x]) = exRs l ++ [exR x] := by simp [exRs_map]
theorem exRs_w (l : List Ex) : ∀ r ∈ exRs l, r.length = 4 := by
  intro r h
  rw [exRs_map] at h
  obtain ⟨x, _, rfl⟩ := List.mem_map.1 h
  exact exR_len x
set_option maxHeartbeats 2000000 in
/-- What is built while several are read: the place, the block of the trees, the frame. -/
theorem row_spec {l : List Tok} (w : Wt l) {m id : Nat} {fn : Nat} {fs cs : List AV} {Hs : AH} {f : PSt → Ex × PSt} (hid : hget Hs id = none) (hf : RdF l m id fn (fs ++ [] ++ cs) Hs f) (hg : GdF l m f) (op : Int) (wd : List UInt8) :
    ∀ σ : PSt, σ.p < l.length → l.length - σ.p ≤ m → σ.n ≤ 8 → SW PG expr_parser_row.n [.ptr id 5 0 0, .int .i64 op, .str wd, .clo fn fs cs] id (psB l σ) Hs (exA (rw' l f wd op σ).1) (psB l (rw' l f wd op σ).2) := by
  intro σ h hm hn
  have hw := w.len
  have G1 := hg σ h hm
  refine ACalls.fz (expr_parser_row.of rfl (wpF_start ?_))
  unfold rw'
  dsimp only
  (first | refine au ?_ | exact au0 | fail)
  intro id8 hid8 ht8; have n8 := neAll_of hid8; (try simp only [neAll, neAll_hset] at n8); have m8 := n8; (repeat (obtain ⟨_, m8⟩ := m8))
  (first | refine au ?_ | exact au0 | fail)
  refine SW.call (hf σ h hm hn) (by exact hg_of) sub_of ?_
  generalize f σ = R at *
  obtain ⟨x, τ⟩ := R
  have hlt := G1.lt
  have hle := G1.le
  have hnn := G1.n
  dsimp only at hlt hle hnn ⊢
  obtain ⟨op1, rel1, args1, kids1⟩ := x
  (first | refine au ?_ | exact au0 | fail)
  intro id9 hid9 ht9; have n9 := neAll_of hid9; (try simp only [neAll, neAll_hset] at n9); have m9 := n9; (repeat (obtain ⟨_, m9⟩ := m9))
  (first | refine au ?_ | exact au0 | fail)
  intro id15 hid15 ht15; have n15 := neAll_of hid15; (try simp only [neAll, neAll_hset] at n15); have m15 := n15; (repeat (obtain ⟨_, m15⟩ := m15))
  (first | refine au ?_ | exact au0 | fail)
  intro id10 hid10 ht10; have n10 := neAll_of hid10; (try simp only [neAll, neAll_hset] at n10); have m10 := n10; (repeat (obtain ⟨_, m10⟩ := m10))
  (first | refine au ?_ | exact au0 | fail)
  generalize hx : Ex.mk op1 rel1 args1 kids1 = x at *
  have hx' : [AV.int .i64 op1, .int .i64 rel1, .rows 4 (args1.map opR), .rows 4 (exRs kids1)] = exR x := by rw [← hx]; rfl
  generalize hR : rwL l f wd (l.length + 1) [x] τ = R
  refine ⟨fun n L H' => ∃ (τ' : PSt) (acc : List Ex) (idk : Nat), τ'.p < l.length ∧ σ.p ≤ τ'.p ∧ τ'.n = σ.n ∧ l.length < τ'.p + n ∧ acc.length + n ≤ l.length + 2 ∧ 0 < acc.length ∧ rwL l f wd n acc τ' = R ∧ tag idk = ty_api_Expr ∧
      (idk ≠ id10 ∧ idk ≠ id9 ∧ idk ≠ id8 ∧ idk ≠ id ∧ neAll Hs idk) ∧
      L = [(0, some (.ptr id 5 0 0)), (1, some (.int .i64 op)), (2, some (.str wd)), (3, some (.clo fn fs cs)), (8, some (.ptr id8 4 0 0)), (9, some (.ptr id9 4 0 0)), (10, some (.ptr id10 4 0 0))] ∧
      H' = (idk, .rows 4 (exRs acc)) :: (id10, .rows 4 [[.int .i64 op, .int .i64 0, .nilS, .own idk 4 0 (exRs acc).length]]) :: (id9, .rows 4 [exR x]) :: (id8, .rows 4 [[.int .i64 0, .int .i64 0, .nilS, .nilS]]) :: (id, psB l τ') :: Hs,
    ⟨_, _, ?_, ?_, l.length + 1, τ, [x], id15, hlt, hle, hnn, by omega, by simp; omega, by simp, hR, ht15, ?_, rfl, rfl⟩, ?_⟩
  · exact (by repeat (first | exact trivial | refine And.intro (Or.inl rfl) ?_ | refine And.intro (Or.inr (Exists.intro _ (And.intro rfl (Fz.refl _)))) ?_))
  · rw [← hx]
    exact Sub.swap (by omega)
  · obtain ⟨a1, a2, a3, a4⟩ := n15
    exact ⟨by omega, by omega, by omega, by omega, a4⟩
  · clear hR hlt hle hnn G1
    have n8' := n8.2
    have n9' := n9.2.2
    have n10' := n10.2.2.2.2
    clear hid8 hid9 hid10 hid15 n15
    rintro n L H' ⟨τ', acc, idk, hlt, hle, hnn, hn2, hac, hpos, hR, htk, hk, rfl, rfl⟩
    obtain ⟨n, rfl⟩ : ∃ m, n = m + 1 := ⟨n - 1, by omega⟩
    unfold rwL at hR
    have hel := exRs_len acc
    (first | refine au ?_ | exact au0 | fail)
    have qs := skip_spec w hlt id 1 wd
    unfold skp at qs
    cases hs : skb l τ' 1 wd with
    | true =>
      rw [hs, if_pos rfl] at qs hR
      refine SW.call qs (by exact hg_of) (Sub.nil _) ?_
      (first | refine ab ?_ | exact ab0 | fail)
      have G2 := Gd.on w hlt (by rw [(skb_ne hs).2.1]; decide)
      have G3 := hg τ'.on G2.lt (by show l.length - (τ'.p + 1) ≤ m; omega)
      have q3 := hf τ'.on G2.lt (by show l.length - (τ'.p + 1) ≤ m; omega) (by show τ'.n ≤ 8; omega)
      refine dPick (id := id) (b := psB l τ'.on) (by exact hg_of) ?_
      generalize f τ'.on = S at *
      obtain ⟨y, τ2⟩ := S
      dsimp only at G3 q3 hR
      have hy := exRs_app acc y
      (first | refine au ?_ | exact au0 | fail)
      refine SW.draw q3 hget_self sub_of (exA_no _) (psB_n _ _ _) ?_
      obtain ⟨op2, rel2, args2, kids2⟩ := y
      (first | refine au ?_ | exact au0 | fail)
      have hk5 := hk.2.2.2.2
      refine ⟨_, _, readS_own (by exact hg_of) (Nat.le_refl _), rfl, rfl, rfl, htk, by simp; omega, ?_⟩
      intro id25 hid25 ht25; have n25 := neAll_of hid25; (try simp only [neAll, neAll_hset] at n25); have m25 := n25; (repeat (obtain ⟨_, m25⟩ := m25))
      (first | refine au ?_ | exact au0 | fail)
      generalize hyy : Ex.mk op2 rel2 args2 kids2 = y at *
      have e1 : List.drop 0 (List.take (exRs acc).length (exRs acc)) ++ (List.replicate 1 [AV.int .i64 0, .int .i64 0, .nilS, .nilS]).set 0 (exA y).cells = exRs (acc ++ [y]) := by rw [hy, List.take_length]; rfl
      have e2 : (List.drop 0 (List.take (exRs acc).length (exRs acc))).length + ((List.replicate 1 [AV.int .i64 0, .int .i64 0, .nilS, .nilS]).set 0 (exA y).cells).length = (exRs (acc ++ [y])).length := by rw [← e1, List.length_append]
      have e3 : (List.take (exRs acc).length (exRs acc)).length + ((List.replicate 1 [AV.int .i64 0, .int .i64 0, .nilS, .nilS]).set 0 (exR y)).length = (exRs (acc ++ [y])).length := by rw [List.take_length, hy]; simp
      rw [hdel_cons, hset_self, e1, e2, e3]
      rotate_left
      · exact hget_none ⟨hk.1, hk.2.1, hk.2.2.1, hk.2.2.2.1, hk5⟩
      refine ⟨[(0, some (.ptr id 5 0 0)), (1, some (.int .i64 op)), (2, some (.str wd)), (3, some (.clo fn fs cs)), (8, some (.ptr id8 4 0 0)), (9, some (.ptr id9 4 0 0)), (10, some (.ptr id10 4 0 0))],
        (id25, .rows 4 (exRs (acc ++ [y]))) :: (id10, .rows 4 [[.int .i64 op, .int .i64 0, .nilS, .own id25 4 0 (exRs (acc ++ [y])).length]]) :: (id9, .rows 4 [exR x]) :: (id8, .rows 4 [[.int .i64 0, .int .i64 0, .nilS, .nilS]]) :: (id, psB l τ2) :: Hs,
        (by repeat (first | exact trivial | refine And.intro (Or.inl rfl) ?_ | refine And.intro (Or.inr (Exists.intro _ (And.intro rfl (Fz.refl _)))) ?_)), Sub.refl _, n, by omega, τ2, acc ++ [y], id25, G3.lt, ?_, ?_, ?_, ?_, by simp, hR, ht25, ?_, rfl, rfl⟩
      · have := G3.le; have : τ'.on.p = τ'.p + 1 := rfl; omega
      · exact G3.n.trans hnn
      · have := G3.le; have : τ'.on.p = τ'.p + 1 := rfl; omega
      · simp; omega
      · exact n25.2
    | false =>
      rw [hs, if_neg (by decide)] at qs hR
      refine SW.call qs (by exact hg_of) (Sub.nil _) ?_
      subst hR
      (first | refine au ?_ | exact au0 | fail)
      dsimp only
      refine bsplit_dec (fun h1 => ?_) (fun h1 => ?_)
      · rw [if_pos (by omega)]
        subst hx
        (first | refine au ?_ | exact au0 | fail)
        exact ⟨fz_of, sub_of⟩
      · rw [if_neg (by omega)]
        (first | refine au ?_ | exact au0 | fail)
        refine ⟨Fz.aggL (FzL.cons (.refl _) (FzL.cons (.refl _) (FzL.cons (.nil _) (FzL.cons ?_ (FzL.nil _ _))))), sub_of⟩
        exact Fz.ownL hget_self (hget_none ⟨hk.2.2.2.1, hk.2.2.2.2⟩) (FzR.refl _ _ _) (exRs_w acc)
theorem RdF.row {l : List Tok} (w : Wt l) {m id : Nat} {fn : Nat} {fs cs : List AV} {f : PSt → Ex × PSt} (hf : RdF l m id fn (fs ++ [] ++ cs) [] f) (hg : GdF l m f) (op : Int) (wd : List UInt8) :
    RdF l m id expr_parser_row.n [.ptr id 5 0 0, .int .i64 op, .str wd, .clo fn fs cs] [] (rw' l f wd op) := fun σ h hm hn => row_spec w rfl hf hg op wd σ h hm hn
theorem and_spec {l : List Tok} (w : Wt l) {m id : Nat} {f : PSt → Ex × PSt} (hf : RdF l m id expr_parser_not.n [.ptr id 5 0 0] [] f) (hg : GdF l m f) : RdF l m id expr_parser_and.n [.ptr id 5 0 0] [] (andE l f) := by
  intro σ h hm hn
  refine ACalls.fz (expr_parser_and.of rfl (wpF_start ?_))
  unfold andE
  (first | refine au ?_ | exact au0 | fail)
  intro id2 hid2 ht2; have n2 := neAll_of hid2; (try simp only [neAll, neAll_hset] at n2); have m2 := n2; (repeat (obtain ⟨_, m2⟩ := m2))
  (first | refine au ?_ | exact au0 | fail)
  refine SW.call (RdF.row (fs := [.ptr id 5 0 0]) (cs := []) w hf hg 5 [65, 78, 68] σ h hm hn) (by exact hg_of) (Sub.nil _) ?_
  generalize rw' l f [65, 78, 68] 5 σ = R
  obtain ⟨x, τ⟩ := R
  obtain ⟨op, rel, args, kids⟩ := x
  (first | refine au ?_ | exact au0 | fail)
  exact ⟨fz_of, sub_of⟩
theorem or_spec {l : List Tok} (w : Wt l) {m id : Nat} {f : PSt → Ex × PSt} (hf : RdF l m id expr_parser_not.n [.ptr id 5 0 0] [] f) (hg : GdF l m f) : RdF l m id expr_parser_or.n [.ptr id 5 0 0] [] (orE l f) := by
  intro σ h hm hn
  refine ACalls.fz (expr_parser_or.of rfl (wpF_start ?_))
  unfold orE
  (first | refine au ?_ | exact au0 | fail)
  intro id2 hid2 ht2; have n2 := neAll_of hid2; (try simp only [neAll, neAll_hset] at n2); have m2 := n2; (repeat (obtain ⟨_, m2⟩ := m2))
  (first | refine au ?_ | exact au0 | fail)
  refine SW.call (RdF.row (fs := [.ptr id 5 0 0]) (cs := []) w (and_spec w hf hg) (hg.rw w _ _) 6 [79, 82] σ h hm hn) (by exact hg_of) (Sub.nil _) ?_
  generalize rw' l (andE l f) [79, 82] 6 σ = R
  obtain ⟨x, τ⟩ := R
  obtain ⟨op, rel, args, kids⟩ := x
  (first | refine au ?_ | exact au0 | fail)
  exact ⟨fz_of, sub_of⟩
abbrev boxB (id : Nat) : Blk := .rows 1 [[.ptr id 5 0 0]]
theorem not1_spec {l : List Tok} {m id idb : Nat} {f : PSt → Ex × PSt} (hne : idb ≠ id) (hf : RdF l m id expr_parser_not.n [.ptr id 5 0 0] [] f) : RdF l m id expr_parser_not_1.n [.ptr idb 1 0 0] [(idb, boxB id)] (inNot f) := by
  intro σ h hm hn
  refine ACalls.fz (expr_parser_not_1.of' (Nat.le_of_ble_eq_true rfl) (wpF_start ?_))
  unfold inNot
  (first | refine au ?_ | exact au0 | fail)
  intro id1 hid1 ht1; have n1 := neAll_of hid1; (try simp only [neAll, neAll_hset] at n1); have m1 := n1; (repeat (obtain ⟨_, m1⟩ := m1))
  (first | refine au ?_ | exact au0 | fail)
  refine SW.call (hf σ h hm hn) (by exact hg_of) (Sub.nil _) ?_
  generalize f σ = R
  obtain ⟨x, τ⟩ := R
  obtain ⟨op, rel, args, kids⟩ := x
  (first | refine au ?_ | exact au0 | fail)
  exact ⟨fz_of, sub_of⟩
theorem not2_spec {l : List Tok} (w : Wt l) {m id idb : Nat} {f : PSt → Ex × PSt} (hne : idb ≠ id) (hf : RdF l m id expr_parser_not.n [.ptr id 5 0 0] [] f) (hg : GdF l m f) : RdF l m id expr_parser_not_2.n [.ptr idb 1 0 0] [(idb, boxB id)] (inBr l f) := by
  intro σ h hm hn
  have G := hg.or w σ h hm
  refine ACalls.fz (expr_parser_not_2.of' (Nat.le_of_ble_eq_true rfl) (wpF_start ?_))
  unfold inBr
  (first | refine au ?_ | exact au0 | fail)
  intro id1 hid1 ht1; have n1 := neAll_of hid1; (try simp only [neAll, neAll_hset] at n1); have m1 := n1; (repeat (obtain ⟨_, m1⟩ := m1))
  (first | refine au ?_ | exact au0 | fail)
  refine SW.call (or_spec w hf hg σ h hm hn) (by exact hg_of) (Sub.nil _) ?_
  generalize orE l f σ = R at *
  obtain ⟨x, τ⟩ := R
  obtain ⟨op, rel, args, kids⟩ := x
  (first | refine au ?_ | exact au0 | fail)
  intro id2 hid2 ht2; have n2 := neAll_of hid2; (try simp only [neAll, neAll_hset] at n2); have m2 := n2; (repeat (obtain ⟨_, m2⟩ := m2))
  (first | refine au ?_ | exact au0 | fail)
  refine (must_spec w G.lt id 5 [41]).call (by exact hg_of) (Sub.nil _) ?_
  (first | refine au ?_ | exact au0 | fail)
  exact ⟨fz_of, sub_of⟩
theorem not_spec {l : List Tok} (w : Wt l) (id : Nat) : ∀ n : Nat, RdF l n id expr_parser_not.n [.ptr id 5 0 0] [] (ntE l n)
  | 0 => fun σ h hm hn => by omega
  | n + 1 => by
    intro σ h hm hn
    have ih := not_spec w id n
    have hg := GdF.nt w n
    refine ACalls.fz (expr_parser_not.of rfl (wpF_start ?_))
    unfold ntE
    (first | refine au ?_ | exact au0 | fail)
    intro id1 hid1 ht1; have n1 := neAll_of hid1; (try simp only [neAll, neAll_hset] at n1); have m1 := n1; (repeat (obtain ⟨_, m1⟩ := m1))
    (first | refine au ?_ | exact au0 | fail)
    intro id2 hid2 ht2; have n2 := neAll_of hid2; (try simp only [neAll, neAll_hset] at n2); have m2 := n2; (repeat (obtain ⟨_, m2⟩ := m2))
    (first | refine au ?_ | exact au0 | fail)
    refine (bad_spec l σ id).call (by exact hg_of) (Sub.nil _) ?_
    (first | refine au ?_ | exact au0 | fail)
    refine bsplit_dec (fun h1 => ?_) (fun h1 => ?_)
    · rw [if_neg h1]
      (first | refine au ?_ | exact au0 | fail)
      exact ⟨fz_of, sub_of⟩
    · rw [if_pos (Classical.not_not.1 h1)]
      (first | refine au ?_ | exact au0 | fail)
      refine (is_spec w h id 1 [78, 79, 84]).call (by exact hg_of) (Sub.nil _) ?_
      cases h2 : isT l σ 1 [78, 79, 84] with
      | true =>
        have ne1 : id1 ≠ id := n1.1
        rw [if_pos rfl]
        (first | refine au ?_ | exact au0 | fail)
        refine SW.call (within_spec (fs := []) (cs := [.ptr id1 1 0 0]) w (hget_tail ne1) (not1_spec ne1 ih) (fun τ a b => hg τ a b) h (by rw [(isT_ne h2).1]; decide) hm hn) (by exact hg_of) sub_of ?_
        generalize wth l σ (inNot (ntE l n)) = R
        obtain ⟨x, τ⟩ := R
        obtain ⟨op, rel, args, kids⟩ := x
        (first | refine au ?_ | exact au0 | fail)
        exact ⟨fz_of, sub_of⟩
      | false =>
        rw [if_neg (by decide)]
        (first | refine au ?_ | exact au0 | fail)
        refine (is_spec w h id 5 [40]).call (by exact hg_of) (Sub.nil _) ?_
        cases h3 : isT l σ 5 [40] with
        | true =>
          have ne1 : id1 ≠ id := n1.1
          rw [if_pos rfl]
          (first | refine au ?_ | exact au0 | fail)
          refine SW.call (within_spec (fs := []) (cs := [.ptr id1 1 0 0]) w (hget_tail ne1) (not2_spec w ne1 ih hg) (hg.inBr w) h (by rw [(isT_ne h3).1]; decide) hm hn) (by exact hg_of) sub_of ?_
          generalize wth l σ (inBr l (ntE l n)) = R
          obtain ⟨x, τ⟩ := R
          obtain ⟨op, rel, args, kids⟩ := x
          (first | refine au ?_ | exact au0 | fail)
          exact ⟨fz_of, sub_of⟩
        | false =>
          rw [if_neg (by decide)]
          (first | refine au ?_ | exact au0 | fail)
          refine (test_spec w h id).call (by exact hg_of) (Sub.nil _) ?_
          generalize tst l σ = R
          obtain ⟨x, τ⟩ := R
          obtain ⟨op, rel, args, kids⟩ := x
          (first | refine au ?_ | exact au0 | fail)
          exact ⟨fz_of, sub_of⟩
end Go.Proofs.Ytlmplofpclaokaa

/- What the reference's small functions compute. -/
namespace Go.Proofs.Ytlmplofpclaokaa
set_option autoImplicit false
set_option linter.unusedSimpArgs false
set_option linter.unusedVariables false
--HSET
attribute [local irreducible] callA callP ACalls

theorem ref_Digit_spec (c : UInt8) (H : AH) : ACalls PG broadsheetref04_Digit.n [u8A c] H fun r H' => r = .bool (dig c) ∧ H' = H := by
  rw [bool_iff (dig_iff c)]
  refine broadsheetref04_Digit.of rfl (wpF_start ?_)
  (repeat' (first | (refine au ?_; first | refine bsplit_dec (fun _ => ?_) (fun _ => ?_) | refine bsplit_intro (fun _ => ?_) (fun _ => ?_)) | exact au0 | fail)); (all_goals try (first | refine au ?_ | fail))
  all_goals (conv => whnf)
  all_goals exact ⟨congrArg AV.bool (by first | exact (decide_eq_true (by omega)).symm | exact (decide_eq_false (by omega)).symm | exact decide_eq_decide.2 (by omega)), rfl⟩
theorem ref_Letter_spec (c : UInt8) (H : AH) : ACalls PG broadsheetref04_Letter.n [u8A c] H fun r H' => r = .bool (ltr c) ∧ H' = H := by
  rw [bool_iff (ltr_iff c)]
  refine broadsheetref04_Letter.of rfl (wpF_start ?_)
  (repeat' (first | (refine au ?_; first | refine bsplit_dec (fun _ => ?_) (fun _ => ?_) | refine bsplit_intro (fun _ => ?_) (fun _ => ?_)) | exact au0 | fail)); (all_goals try (first | refine au ?_ | fail))
  all_goals (conv => whnf)
  all_goals exact ⟨congrArg AV.bool (by first | exact (decide_eq_true (by omega)).symm | exact (decide_eq_false (by omega)).symm | exact decide_eq_decide.2 (by omega)), rfl⟩

def fmd (s : List UInt8) : Bool := decide (s ≠ []) && ltr (s.getD 0 0) && s.all nam
theorem all_take {f : UInt8 → Bool} (s : List UInt8) (i : Nat) (h : i < s.length) : (s.take (i + 1)).all f = ((s.take i).all f && f (s.getD i 0)) := by
  rw [take_at s 0 i h, List.all_append]; simp
theorem all_ge {f : UInt8 → Bool} {s : List UInt8} {i : Nat} (h : i < s.length) (hf : f (s.getD i 0) = false) : s.all f = false := by
  rw [List.all_eq_false]
  have e : s.getD i 0 = s[i] := by simp [List.getD, h]
  rw [e] at hf
  exact ⟨s[i], List.getElem_mem h, by rw [hf]; decide⟩
theorem ref_formed_spec (s : List UInt8) (hs : s.length ≤ 140737488351232) (H : AH) : ACalls PG broadsheetref04_formed.n [.str s] H fun r H' => r = .bool (fmd s) ∧ H' = H := by
  refine broadsheetref04_formed.of rfl (wpF_start ?_)
  (first | refine ah ?_ | exact ah0 | fail)
  by_cases h0 : s = []
  · subst h0
    (first | refine ah ?_ | exact ah0 | fail)
  · have hl : 0 < s.length := List.length_pos_iff.2 h0
    rw [decide_eq_false h0]
    (first | refine ah ?_ | exact ah0 | fail)
    refine callF_eq (ref_Letter_spec _ _) ?_
    (first | refine ah ?_ | exact ah0 | fail)
    refine bsplit_intro (fun e => ?_) (fun e => ?_)
    · (first | refine ah ?_ | exact ah0 | fail)
      refine ⟨fun n L H' => ∃ i : Nat, n = s.length - i ∧ i ≤ s.length ∧ (s.take i).all nam = true ∧ L = [(0, some (.str s)), (3, some (.int .i64 i))] ∧ H' = H, ⟨_, H, ?_, Sub.refl _, _, 0, rfl, Nat.zero_le _, rfl, rfl, rfl⟩, ?_⟩
      · exact (by repeat (first | exact trivial | refine And.intro (Or.inl rfl) ?_ | refine And.intro (Or.inr (Exists.intro _ (And.intro rfl (Fz.refl _)))) ?_))
      · rintro n L H' ⟨i, rfl, hi, ha, rfl, rfl⟩
        (first | refine ah ?_ | exact ah0 | fail)
        refine bsplit_dec (fun h1 => ?_) (fun h1 => ?_)
        · have at1 := all_take (f := nam) s i (by omega)
          (first | refine ah ?_ | exact ah0 | fail)
          refine callF_eq (ref_Letter_spec _ _) ?_
          rw [Int.toNat_natCast]
          have hn := nam_iff (s.getD i 0)
          rw [← dig_iff, ← nat_eq _ 95 (by decide), ← ltr_iff] at hn
          cases hL : ltr (s.getD i 0) with
          | true =>
            (first | refine ah ?_ | exact ah0 | fail)
            refine ⟨[(0, some (.str s)), (3, some (.int .i64 (i + 1 : Nat)))], H', (by repeat (first | exact trivial | refine And.intro (Or.inl rfl) ?_ | refine And.intro (Or.inr (Exists.intro _ (And.intro rfl (Fz.refl _)))) ?_)), Sub.refl _, _, ?_, i + 1, rfl, by omega, by rw [at1, ha, hn.2 (.inr (.inr hL))]; rfl, rfl, rfl⟩
            omega
          | false =>
            (first | refine ah ?_ | exact ah0 | fail)
            refine callF_eq (ref_Digit_spec _ _) ?_
            rw [Int.toNat_natCast]
            cases hD : dig (s.getD i 0) with
            | true =>
              (first | refine ah ?_ | exact ah0 | fail)
              refine ⟨[(0, some (.str s)), (3, some (.int .i64 (i + 1 : Nat)))], H', (by repeat (first | exact trivial | refine And.intro (Or.inl rfl) ?_ | refine And.intro (Or.inr (Exists.intro _ (And.intro rfl (Fz.refl _)))) ?_)), Sub.refl _, _, ?_, i + 1, rfl, by omega, by rw [at1, ha, hn.2 (.inl hD)]; rfl, rfl, rfl⟩
              omega
            | false =>
              (first | refine ah ?_ | exact ah0 | fail)
              rw [Int.toNat_natCast]
              refine bsplit_dec (fun h2 => ?_) (fun h2 => ?_)
              · (first | refine ah ?_ | exact ah0 | fail)
                refine ⟨congrArg AV.bool ?_, rfl⟩
                have h3 : ¬ s.getD i 0 = UInt8.ofNat 95 := fun e => h2 ((u8lit _ 95 (by decide)).2 e)
                have hf : nam (s.getD i 0) = false := by
                  cases hh : nam (s.getD i 0) with
                  | false => rfl
                  | true =>
                    rcases hn.1 hh with q | q | q
                    · rw [hD] at q; cases q
                    · exact (h3 q).elim
                    · rw [hL] at q; cases q
                unfold fmd
                rw [all_ge (by omega) hf]; simp
              · (first | refine ah ?_ | exact ah0 | fail)
                have h3 : s.getD i 0 = UInt8.ofNat 95 := Classical.byContradiction fun e => h2 (fun q => e ((u8lit _ 95 (by decide)).1 q))
                refine ⟨[(0, some (.str s)), (3, some (.int .i64 (i + 1 : Nat)))], H', (by repeat (first | exact trivial | refine And.intro (Or.inl rfl) ?_ | refine And.intro (Or.inr (Exists.intro _ (And.intro rfl (Fz.refl _)))) ?_)), Sub.refl _, _, ?_, i + 1, rfl, by omega, by rw [at1, ha, hn.2 (.inr (.inl h3))]; rfl, rfl, rfl⟩
                omega
        · (first | refine ah ?_ | exact ah0 | fail)
          obtain rfl : i = s.length := by omega
          rw [List.take_length] at ha
          refine ⟨congrArg AV.bool ?_, rfl⟩
          have e : ltr (s.getD 0 0) = true := e
          unfold fmd
          rw [e, ha, decide_eq_true h0]; rfl
    · (first | refine ah ?_ | exact ah0 | fail)
      exact ⟨congrArg AV.bool (by have e : ltr (s.getD 0 0) = false := e; unfold fmd; rw [e]; simp), rfl⟩
end Go.Proofs.Ytlmplofpclaokaa

/- The longest beginning that is a token; plain. -/
namespace Go.Proofs.Ytlmplofpclaokaa
set_option autoImplicit false
set_option linter.unusedSimpArgs false
set_option linter.unusedVariables false

theorem ltr_nam {c : UInt8} (h : ltr c = true) : nam c = true := by simp [nam, h]
theorem dig_not_ltr {c : UInt8} (h : dig c = true) : ltr c = false := by
  cases hh : ltr c with
  | false => rfl
  | true => rw [dig_iff] at h; rw [ltr_iff] at hh; omega
theorem tw_all {f : UInt8 → Bool} : ∀ {r : List UInt8} {n : Nat}, n ≤ (r.takeWhile f).length → (r.take n).all f = true
  | [], n, _ => by simp
  | c :: r, 0, _ => rfl
  | c :: r, n + 1, h => by
    rw [List.takeWhile_cons] at h
    split at h
    · rename_i hc
      rw [List.take_succ_cons, List.all_cons, hc, tw_all (by simpa using h)]; rfl
    · simp at h
theorem tw_full {f : UInt8 → Bool} : ∀ {r : List UInt8}, (r.takeWhile f).length = r.length ↔ r.all f = true
  | [] => by simp
  | c :: r => by
    rw [List.takeWhile_cons, List.all_cons]
    cases hc : f c with
    | true => simp [tw_full (f := f) (r := r)]
    | false => simp
theorem fmd_take {s : List UInt8} {n : Nat} (hn : n ≤ nl s) (hl : n < s.length) : fmd (s.take (n + 1)) = decide (n < nl s) := by
  cases s with
  | nil => simp at hl
  | cons c r =>
    rw [nl_cons] at hn ⊢
    unfold fmd
    rw [List.take_succ_cons, decide_eq_true (by simp), List.getD_cons_zero, List.all_cons]
    cases hc : ltr c with
    | false => rw [decide_eq_false (by simp)]; rfl
    | true =>
      rw [hc, if_pos rfl] at hn
      rw [ltr_nam hc, if_pos rfl]
      simp only [Bool.true_and]
      have hl' : n ≤ r.length := by simpa using Nat.le_of_lt_succ (by simpa using hl)
      cases n with
      | zero => simp; omega
      | succ n =>
        have hl2 : n < r.length := hl'
        rw [all_take _ _ hl2, tw_all (show n ≤ (r.takeWhile nam).length by omega), Bool.true_and]
        have := tw_step (f := nam) (r := r) (n := n) (by omega) hl2
        exact bool_iff (by rw [← this]; omega)

def signs : List (List UInt8) := [[61], [60, 62], [60], [60, 61], [62], [62, 61], [40], [41], [46], [91], [93], [45]]
def qdr : List UInt8 → List UInt8 → Option (List UInt8)
  | [], _ => none
  | [c], acc => if c = 39 then some acc else none
  | c :: d :: r, acc => if c = 39 then (if d = 39 then qdr r (acc ++ [39]) else none) else qdr (d :: r) (acc ++ [c])
def qd (s : List UInt8) : Option (List UInt8) := if s.getD 0 0 = 39 ∧ 2 ≤ s.length then qdr (s.drop 1) [] else none
/-- Of which kind a text is. -/
def kd (s : List UInt8) : Nat :=
  if nl s = s.length then 1 else if s ≠ [] ∧ s.all dig = true then 2 else if (qd s).isSome = true then 3
  else if s.length = 2 ∧ s.getD 0 0 = 37 ∧ dig (s.getD 1 0) = true then 4 else if signs.contains s = true then 5 else 0

theorem signs_head {c : UInt8} {r : List UInt8} (h : signs.contains (c :: r) = true) : sgn c = true := by
  simp only [signs, List.contains_cons, Bool.or_eq_true, List.contains_nil, Bool.false_eq_true, or_false, beq_iff_eq, List.cons.injEq] at h
  rcases h with h | h | h | h | h | h | h | h | h | h | h | h <;> (rw [h.1]; rfl)
theorem sgn_not {c : UInt8} (h : sgn c = true) : ltr c = false ∧ dig c = false ∧ c ≠ 39 ∧ c ≠ 37 := by
  have : ∀ d ∈ ([61, 60, 62, 40, 41, 46, 91, 93, 45] : List UInt8), ltr d = false ∧ dig d = false ∧ d ≠ 39 ∧ d ≠ 37 := by decide
  exact this c (by simpa [sgn] using h)
theorem kd_nl {c : UInt8} {r : List UInt8} (h : ltr c = false) : kd (c :: r) = if (c :: r).all dig = true then 2 else if (qd (c :: r)).isSome = true then 3
    else if (c :: r).length = 2 ∧ (c :: r).getD 0 0 = 37 ∧ dig ((c :: r).getD 1 0) = true then 4 else if signs.contains (c :: r) = true then 5 else 0 := by
  have e : nl (c :: r) = 0 := by rw [nl_cons, h]; rfl
  unfold kd
  rw [if_neg (by rw [e]; simp)]
  by_cases q : (c :: r).all dig = true
  · rw [if_pos ⟨by simp, q⟩, if_pos q]
  · rw [if_neg (fun w => q w.2), if_neg q]
theorem kd_nd {c : UInt8} {r : List UInt8} (h : ltr c = false) (h2 : dig c = false) : kd (c :: r) = if (qd (c :: r)).isSome = true then 3
    else if (c :: r).length = 2 ∧ (c :: r).getD 0 0 = 37 ∧ dig ((c :: r).getD 1 0) = true then 4 else if signs.contains (c :: r) = true then 5 else 0 := by
  rw [kd_nl h, if_neg (by rw [List.all_cons, h2]; simp)]
theorem qd_not {c : UInt8} {r : List UInt8} (h : c ≠ 39) : (qd (c :: r)).isSome = false := by
  unfold qd
  rw [if_neg (fun q => h q.1)]; rfl
theorem qd_39 (r : List UInt8) : qd (39 :: r) = qdr r [] := by
  cases r with
  | nil => rfl
  | cons d r => unfold qd; rw [if_pos ⟨rfl, by simp⟩]; rfl
theorem kd_ltr {c : UInt8} {r : List UInt8} (h : ltr c = true) : kd (c :: r) = if r.all nam = true then 1 else 0 := by
  unfold kd
  rw [nl_cons, if_pos h, List.length_cons]
  by_cases ha : r.all nam = true
  · rw [if_pos (by rw [tw_full.2 ha]; omega), if_pos ha]
  · have hne : (r.takeWhile nam).length ≠ r.length := fun e => ha (tw_full.1 e)
    have h1 : dig c = false := by
      cases hd : dig c with
      | false => rfl
      | true => rw [dig_not_ltr hd] at h; cases h
    have h2 : c ≠ 39 := fun e => by rw [e] at h; cases h
    have h3 : c ≠ 37 := fun e => by rw [e] at h; cases h
    rw [if_neg (by omega), if_neg (fun q => by have := q.2; rw [List.all_cons, h1] at this; cases this), if_neg (by rw [qd_not h2]; decide), if_neg (fun q => h3 q.2.1), if_neg (fun q => by have := (sgn_not (signs_head q)).1; rw [h] at this; cases this), if_neg ha]
theorem kd_dig {c : UInt8} {r : List UInt8} (h : dig c = true) : kd (c :: r) = if r.all dig = true then 2 else 0 := by
  have hl := dig_not_ltr h
  have h2 : c ≠ 39 := fun e => by rw [e] at h; cases h
  have h3 : c ≠ 37 := fun e => by rw [e] at h; cases h
  rw [kd_nl hl, List.all_cons, h, Bool.true_and]
  by_cases ha : r.all dig = true
  · rw [if_pos ha, if_pos ha]
  · rw [if_neg ha, if_neg ha, if_neg (by rw [qd_not h2]; decide), if_neg (fun q => h3 q.2.1), if_neg (fun q => by have := (sgn_not (signs_head q)).2.1; rw [h] at this; cases this)]
theorem kd_39 (r : List UInt8) : kd (39 :: r) = if (qdr r []).isSome = true then 3 else 0 := by
  rw [kd_nd rfl rfl, qd_39]
  by_cases h : (qdr r []).isSome = true
  · rw [if_pos h, if_pos h]
  · rw [if_neg h, if_neg h, if_neg (fun q => absurd q.2.1 (by decide : ¬ (39 : UInt8) = 37)), if_neg (fun q => (sgn_not (signs_head q)).2.2.1 rfl)]
theorem kd_37 (r : List UInt8) : kd (37 :: r) = if r.length = 1 ∧ dig (r.getD 0 0) = true then 4 else 0 := by
  rw [kd_nd rfl rfl, if_neg (by rw [qd_not (by decide)]; decide), if_neg (c := signs.contains _ = true) (fun q => (sgn_not (signs_head q)).2.2.2 rfl)]
  by_cases h : r.length = 1 ∧ dig (r.getD 0 0) = true
  · rw [if_pos h, if_pos ⟨by rw [List.length_cons, h.1], rfl, h.2⟩]
  · rw [if_neg h, if_neg (fun q => h ⟨by have := q.1; rw [List.length_cons] at this; omega, q.2.2⟩)]
theorem kd_sgn {c : UInt8} {r : List UInt8} (h1 : ltr c = false) (h2 : dig c = false) (h3 : c ≠ 39) (h4 : c ≠ 37) : kd (c :: r) = if signs.contains (c :: r) = true then 5 else 0 := by
  rw [kd_nd h1 h2, if_neg (by rw [qd_not h3]; decide), if_neg (fun q => h4 q.2.1)]

/-- The longest beginning, as it is sought. -/
def lg (s : List UInt8) : Nat → Nat → Nat → Nat → Nat × Nat
  | 0, _, best, k => if k = 3 then (0, 0) else (best, k)
  | m + 1, n, best, k =>
    if kd (s.take n) = 3 ∧ (n = s.length ∨ s.getD n 0 ≠ 39) then (n, 3)
    else if s.getD 0 0 ≠ 39 ∧ kd (s.take n) = 0 ∧ 1 < n then (best, k)
    else if 0 < kd (s.take n) then lg s m (n + 1) n (kd (s.take n)) else lg s m (n + 1) best k
def longest (s : List UInt8) : Nat × Nat := lg s s.length 1 0 0

theorem lg_run {s : List UInt8} {N K : Nat} (h39 : s.getD 0 0 ≠ 39) (hK : K ≠ 3) (hK0 : 0 < K) (hN : 1 ≤ N) (hNl : N ≤ s.length) (hk : ∀ n, 2 ≤ n → n ≤ N → kd (s.take n) = K)
    (h1 : kd (s.take 1) = K ∨ (kd (s.take 1) = 0 ∧ 2 ≤ N)) (h0 : N < s.length → kd (s.take (N + 1)) = 0) : longest s = (N, K) := by
  have run : ∀ m n best k, n + m = s.length + 1 → 2 ≤ n → n ≤ N + 1 → ((best = n - 1 ∧ k = K) ∨ (n = 2 ∧ 2 ≤ N ∧ k = 0)) → lg s m n best k = (N, K) := by
    intro m
    induction m with
    | zero =>
      intro n best k e1 e2 e3 e4
      unfold lg
      rcases e4 with ⟨rfl, rfl⟩ | ⟨rfl, e5, rfl⟩
      · rw [if_neg hK, show n - 1 = N from by omega]
      · omega
    | succ m ih =>
      intro n best k e1 e2 e3 e4
      unfold lg
      by_cases hn : n ≤ N
      · rw [hk n e2 hn, if_neg (fun q => hK q.1), if_neg (fun q => by omega), if_pos hK0]
        exact ih (n + 1) n K (by omega) (by omega) (by omega) (.inl ⟨rfl, rfl⟩)
      · obtain rfl : n = N + 1 := by omega
        rw [h0 (by omega), if_neg (fun q => by omega), if_pos ⟨h39, rfl, by omega⟩]
        rcases e4 with ⟨rfl, rfl⟩ | ⟨e5, e6, rfl⟩
        · rfl
        · omega
  unfold longest
  obtain ⟨m, hm⟩ : ∃ m, s.length = m + 1 := ⟨s.length - 1, by omega⟩
  rw [hm]
  unfold lg
  rcases h1 with h1 | ⟨h1, h2⟩
  · rw [h1, if_neg (fun q => hK q.1), if_neg (fun q => by omega), if_pos hK0]
    exact run m 2 1 K (by omega) (by omega) (by omega) (.inl ⟨rfl, rfl⟩)
  · rw [h1, if_neg (fun q => by omega), if_neg (fun q => by omega), if_neg (by omega)]
    exact run m 2 0 0 (by omega) (by omega) (by omega) (.inr ⟨rfl, h2, rfl⟩)
theorem lg_none {s : List UInt8} (h39 : s.getD 0 0 ≠ 39) (hl : 1 ≤ s.length) (h1 : kd (s.take 1) = 0) (h2 : 2 ≤ s.length → kd (s.take 2) = 0) : longest s = (0, 0) := by
  unfold longest
  obtain ⟨m, hm⟩ : ∃ m, s.length = m + 1 := ⟨s.length - 1, by omega⟩
  rw [hm]
  unfold lg
  rw [h1, if_neg (fun q => by omega), if_neg (fun q => by omega), if_neg (by omega)]
  cases m with
  | zero => rfl
  | succ m =>
    unfold lg
    rw [h2 (by omega), if_neg (fun q => by omega), if_pos ⟨h39, rfl, by omega⟩]

theorem take_cons1 (c : UInt8) (r : List UInt8) {n : Nat} (h : 1 ≤ n) : (c :: r).take n = c :: r.take (n - 1) := by
  obtain ⟨m, rfl⟩ : ∃ m, n = m + 1 := ⟨n - 1, by omega⟩
  rfl
theorem longest_ltr {c : UInt8} {r : List UInt8} (h : ltr c = true) : longest (c :: r) = (nl (c :: r), 1) := by
  have hn : nl (c :: r) = 1 + (r.takeWhile nam).length := by rw [nl_cons, if_pos h]
  have hle := nl_le (c :: r)
  rw [List.length_cons] at hle
  have ok : ∀ n, 1 ≤ n → n ≤ nl (c :: r) → kd ((c :: r).take n) = 1 := fun n h1 h2 => by
    rw [take_cons1 _ _ h1, kd_ltr h, if_pos (tw_all (by omega))]
  refine lg_run (fun e => by rw [show c = 39 from e] at h; cases h) (by decide) (by decide) (by omega) (by simpa using hle) (fun n h1 h2 => ok n (by omega) h2) (.inl (ok 1 (Nat.le_refl _) (by omega))) fun h2 => ?_
  rw [List.length_cons] at h2
  rw [take_cons1 _ _ (by omega), kd_ltr h, if_neg]
  rw [show nl (c :: r) + 1 - 1 = (r.takeWhile nam).length + 1 from by omega, all_take _ _ (by omega)]
  have := tw_step (f := nam) (r := r) (n := (r.takeWhile nam).length) (Nat.le_refl _) (by omega)
  intro q
  rw [Bool.and_eq_true] at q
  exact absurd (this.2 q.2) (Nat.lt_irrefl _)
theorem dl_cons {c : UInt8} {r : List UInt8} (h : dig c = true) : dl (c :: r) = 1 + (r.takeWhile dig).length := by
  unfold dl; rw [List.takeWhile_cons, if_pos h, List.length_cons]; omega
theorem longest_dig {c : UInt8} {r : List UInt8} (h : dig c = true) : longest (c :: r) = (dl (c :: r), 2) := by
  have hn : dl (c :: r) = 1 + (r.takeWhile dig).length := dl_cons h
  have hle := dl_le (c :: r)
  rw [List.length_cons] at hle
  have ok : ∀ n, 1 ≤ n → n ≤ dl (c :: r) → kd ((c :: r).take n) = 2 := fun n h1 h2 => by
    rw [take_cons1 _ _ h1, kd_dig h, if_pos (tw_all (by omega))]
  refine lg_run (fun e => by rw [show c = 39 from e] at h; cases h) (by decide) (by decide) (by omega) (by simpa using hle) (fun n h1 h2 => ok n (by omega) h2) (.inl (ok 1 (Nat.le_refl _) (by omega))) fun h2 => ?_
  rw [List.length_cons] at h2
  rw [take_cons1 _ _ (by omega), kd_dig h, if_neg]
  rw [show dl (c :: r) + 1 - 1 = (r.takeWhile dig).length + 1 from by omega, all_take _ _ (by omega)]
  have := tw_step (f := dig) (r := r) (n := (r.takeWhile dig).length) (Nat.le_refl _) (by omega)
  intro q
  rw [Bool.and_eq_true] at q
  exact absurd (this.2 q.2) (Nat.lt_irrefl _)
theorem longest_37 (r : List UInt8) : longest (37 :: r) = if 1 ≤ r.length ∧ dig (r.getD 0 0) = true then (2, 4) else (0, 0) := by
  split
  · rename_i h
    refine lg_run (s := 37 :: r) (N := 2) (fun e => absurd e (by decide : ¬ (37 : UInt8) = 39)) (by decide) (by decide) (by decide) (by rw [List.length_cons]; omega) (fun n h1 h2 => ?_) (.inr ⟨?_, by decide⟩) fun h2 => ?_
    · obtain rfl : n = 2 := by omega
      rw [take_cons1 _ _ (by omega), kd_37, if_pos]
      cases r with
      | nil => simp at h
      | cons d r => simpa using h.2
    · rw [take_cons1 _ _ (by omega), kd_37, if_neg (by simp)]
    · rw [take_cons1 _ _ (by omega), kd_37, if_neg]
      rw [List.length_cons] at h2
      rw [List.length_take]
      omega
  · rename_i h
    refine lg_none (s := 37 :: r) (fun e => absurd e (by decide : ¬ (37 : UInt8) = 39)) (by simp) ?_ fun h2 => ?_
    · rw [take_cons1 _ _ (by omega), kd_37, if_neg (by simp)]
    · rw [take_cons1 _ _ (by omega), kd_37, if_neg]
      cases r with
      | nil => simp
      | cons d r => intro q; exact h ⟨by simp, by simpa using q.2⟩
theorem signs_1 {c : UInt8} : signs.contains [c] = sgn c := by
  rw [Bool.eq_iff_iff]
  simp [signs, sgn]
theorem signs_2 {c d : UInt8} : signs.contains [c, d] = two [c, d] := by
  rw [Bool.eq_iff_iff]
  simp [signs, two, or_assoc]
theorem signs_3 {c d e : UInt8} {r : List UInt8} : signs.contains (c :: d :: e :: r) = false := by
  simp [signs]
theorem longest_sgn {c : UInt8} {r : List UInt8} (h : sgn c = true) : longest (c :: r) = (if two (c :: r) then 2 else 1, 5) := by
  obtain ⟨h1, h2, h3, h4⟩ := sgn_not h
  have k1 : kd [c] = 5 := by rw [kd_sgn h1 h2 h3 h4, signs_1, h]; rfl
  cases r with
  | nil =>
    rw [show two [c] = false from by simp [two]]
    exact lg_run (N := 1) h3 (by decide) (by decide) (by decide) (by simp) (fun n q1 q2 => by omega) (.inl k1) (fun q => by simp at q)
  | cons d r =>
    have t2 : two (c :: d :: r) = two [c, d] := rfl
    have k2 : kd [c, d] = if two [c, d] = true then 5 else 0 := by rw [kd_sgn h1 h2 h3 h4, signs_2]
    rw [t2]
    cases ht : two [c, d] with
    | true =>
      refine lg_run (N := 2) h3 (by decide) (by decide) (by decide) (by simp) (fun n q1 q2 => ?_) (.inl k1) (fun q => ?_)
      · obtain rfl : n = 2 := by omega
        show kd [c, d] = 5
        rw [k2, ht]; rfl
      · cases r with
        | nil => simp at q
        | cons e r => show kd [c, d, e] = 0; rw [kd_sgn h1 h2 h3 h4, signs_3]; rfl
    | false =>
      refine lg_run (N := 1) h3 (by decide) (by decide) (by decide) (by simp) (fun n q1 q2 => by omega) (.inl k1) (fun q => ?_)
      show kd [c, d] = 0
      rw [k2, ht]; rfl
theorem longest_no {c : UInt8} {r : List UInt8} (h1 : ltr c = false) (h2 : dig c = false) (h3 : c ≠ 39) (h4 : c ≠ 37) (h5 : sgn c = false) : longest (c :: r) = (0, 0) := by
  have key : ∀ r, kd (c :: r) = 0 := fun r => by
    rw [kd_sgn h1 h2 h3 h4, if_neg]
    intro q
    rw [signs_head q] at h5; cases h5
  refine lg_none h3 (by simp) (key _) fun q => ?_
  rw [take_cons1 _ _ (by omega)]
  exact key _
end Go.Proofs.Ytlmplofpclaokaa

/- Texts in quotes and numbers, as the reference has them; plain. -/
namespace Go.Proofs.Ytlmplofpclaokaa
set_option autoImplicit false
set_option linter.unusedSimpArgs false
set_option linter.unusedVariables false

/-- The first end of a text in quotes. -/
def qz : List UInt8 → Nat → List UInt8 → Option (List UInt8 × Nat)
  | [], _, _ => none
  | [c], i, acc => if c = 39 then some (acc, i + 1) else none
  | c :: d :: r, i, acc => if c = 39 then (if d = 39 then qz r (i + 2) (acc ++ [39]) else some (acc, i + 1)) else qz (d :: r) (i + 1) (acc ++ [c])
theorem qz_of : ∀ (N : Nat) (r : List UInt8), r.length ≤ N → ∀ (i : Nat) (acc : List UInt8) (m : Nat) (t : List UInt8), m ≤ r.length → qdr (r.take m) acc = some t → (m = r.length ∨ r.getD m 0 ≠ 39) → qz r i acc = some (t, i + m)
  | _, [], _, i, acc, m, t, hm, h, _ => by simp [qdr] at h
  | _, [c], _, i, acc, m, t, hm, h, _ => by
    rcases (show m = 0 ∨ m = 1 from by simp at hm; omega) with rfl | rfl
    · simp [qdr] at h
    · simp only [List.take_succ_cons, List.take_zero, qdr] at h
      split at h
      · rename_i hc
        cases h
        simp [qz, hc]
      · cases h
  | 0, c :: d :: r, hN, _, _, _, _, _, _, _ => by simp at hN
  | N + 1, c :: d :: r, hN, i, acc, m, t, hm, h, he => by
    simp only [List.length_cons] at hN hm he
    match m with
    | 0 => simp [qdr] at h
    | 1 =>
      simp only [List.take_succ_cons, List.take_zero, qdr] at h
      split at h
      · rename_i hc
        cases h
        have hd : d ≠ 39 := by
          rcases he with he | he
          · omega
          · exact he
        simp [qz, hc, hd]
      · cases h
    | m + 2 =>
      simp only [List.take_succ_cons, qdr] at h
      unfold qz
      split at h
      · rename_i hc
        rw [if_pos hc]
        split at h
        · rename_i hd
          rw [if_pos hd, qz_of N r (by omega) (i + 2) _ m t (by omega) h (by
            rcases he with he | he
            · exact .inl (by omega)
            · exact .inr he)]
          rw [show i + 2 + m = i + (m + 2) from by omega]
        · cases h
      · rename_i hc
        rw [if_neg hc, qz_of N (d :: r) (by simp only [List.length_cons]; omega) (i + 1) _ (m + 1) t (by simp only [List.length_cons]; omega) (by simpa using h) (by
          rcases he with he | he
          · exact .inl (by simp only [List.length_cons]; omega)
          · exact .inr he)]
        rw [show i + 1 + (m + 1) = i + (m + 2) from by omega]
theorem qz_to : ∀ (N : Nat) (r : List UInt8), r.length ≤ N → ∀ (i : Nat) (acc t : List UInt8) (n : Nat), qz r i acc = some (t, n) → ∃ m, n = i + m ∧ 1 ≤ m ∧ m ≤ r.length ∧ qdr (r.take m) acc = some t ∧ (m = r.length ∨ r.getD m 0 ≠ 39)
  | _, [], _, i, acc, t, n, h => by cases h
  | _, [c], _, i, acc, t, n, h => by
    simp only [qz] at h
    split at h
    · rename_i hc
      cases h
      exact ⟨1, rfl, Nat.le_refl _, by simp, by simp [qdr, hc], .inl rfl⟩
    · cases h
  | 0, c :: d :: r, hN, _, _, _, _, _ => by simp at hN
  | N + 1, c :: d :: r, hN, i, acc, t, n, h => by
    simp only [List.length_cons] at hN
    simp only [qz] at h
    split at h
    · rename_i hc
      split at h
      · rename_i hd
        obtain ⟨m, e, h1, h2, h3, h4⟩ := qz_to N r (by omega) _ _ _ _ h
        refine ⟨m + 2, by omega, by omega, by simp only [List.length_cons]; omega, ?_, ?_⟩
        · simp only [List.take_succ_cons, qdr, hc, hd, if_true]; exact h3
        · rcases h4 with h4 | h4
          · exact .inl (by simp only [List.length_cons]; omega)
          · exact .inr h4
      · rename_i hd
        cases h
        exact ⟨1, rfl, Nat.le_refl _, by simp, by simp [qdr, hc], .inr hd⟩
    · rename_i hc
      obtain ⟨m, e, h1, h2, h3, h4⟩ := qz_to N (d :: r) (by simp only [List.length_cons]; omega) _ _ _ _ h
      obtain ⟨m, rfl⟩ : ∃ m', m = m' + 1 := ⟨m - 1, by omega⟩
      simp only [List.length_cons] at h2
      refine ⟨m + 2, by omega, by omega, by simp only [List.length_cons]; omega, ?_, ?_⟩
      · simp only [List.take_succ_cons, qdr, hc, if_false]
        simpa using h3
      · rcases h4 with h4 | h4
        · exact .inl (by simp only [List.length_cons] at h4 ⊢; omega)
        · exact .inr h4
theorem longest_39 (r : List UInt8) : longest (39 :: r) = match qz r 1 [] with
    | some (_, n) => (n, 3)
    | none => (0, 0) := by
  have key : ∀ m n best k, n + m = r.length + 2 → 1 ≤ n → ((k = 0 ∧ best = 0) ∨ k = 3) → (∀ n', 1 ≤ n' → n' < n → ¬ ((qdr (r.take (n' - 1)) []).isSome = true ∧ (n' - 1 = r.length ∨ r.getD (n' - 1) 0 ≠ 39))) → lg (39 :: r) m n best k = match qz r 1 [] with
      | some (_, n) => (n, 3)
      | none => (0, 0) := by
    intro m
    induction m with
    | zero =>
      intro n best k e1 e2 e3 e4
      have hz : qz r 1 [] = none := by
        cases hq : qz r 1 [] with
        | none => rfl
        | some p =>
          obtain ⟨t, n0⟩ := p
          obtain ⟨m, f1, f2, f3, f4, f5⟩ := qz_to _ r (Nat.le_refl _) _ _ _ _ hq
          exact (e4 (m + 1) (by omega) (by omega) (by rw [show m + 1 - 1 = m from rfl, f4]; exact ⟨rfl, f5⟩)).elim
      rw [hz]
      unfold lg
      rcases e3 with ⟨rfl, rfl⟩ | rfl <;> rfl
    | succ m ih =>
      intro n best k e1 e2 e3 e4
      have hk : kd ((39 :: r).take n) = if (qdr (r.take (n - 1)) []).isSome = true then 3 else 0 := by rw [take_cons1 _ _ e2, kd_39]
      have hg : (39 :: r).getD n 0 = r.getD (n - 1) 0 := by
        obtain ⟨n', rfl⟩ : ∃ n', n = n' + 1 := ⟨n - 1, by omega⟩
        rfl
      have next : ¬ ((qdr (r.take (n - 1)) []).isSome = true ∧ (n - 1 = r.length ∨ r.getD (n - 1) 0 ≠ 39)) → ∀ best k, ((k = 0 ∧ best = 0) ∨ k = 3) → lg (39 :: r) m (n + 1) best k = match qz r 1 [] with
          | some (_, n) => (n, 3)
          | none => (0, 0) := fun hs best k e3 => by
        refine ih (n + 1) best k (by omega) (by omega) e3 fun n' q1 q2 => ?_
        by_cases e : n' = n
        · subst e; exact hs
        · exact e4 n' q1 (by omega)
      unfold lg
      rw [hk, hg, List.length_cons]
      by_cases hs : (qdr (r.take (n - 1)) []).isSome = true
      · rw [if_pos hs]
        by_cases he : n - 1 = r.length ∨ r.getD (n - 1) 0 ≠ 39
        · rw [if_pos ⟨rfl, he.imp (fun e => by omega) id⟩]
          obtain ⟨t, ht⟩ := Option.isSome_iff_exists.1 hs
          rw [qz_of _ r (Nat.le_refl _) 1 [] (n - 1) t (by omega) ht he, show 1 + (n - 1) = n from by omega]
        · rw [if_neg (fun q => he (q.2.imp (fun e => by omega) id)), if_neg (fun q => q.1 rfl), if_pos (by decide)]
          exact next (fun q => he q.2) _ _ (.inr rfl)
      · rw [if_neg hs, if_neg (fun q => by omega), if_neg (fun q => q.1 rfl), if_neg (by decide)]
        exact next (fun q => hs q.1) _ _ e3
  exact key _ 1 0 0 (by simp; omega) (Nat.le_refl _) (.inl ⟨rfl, rfl⟩) fun n' q1 q2 => by omega

/-- The first byte that may not be. -/
def oddB (c : UInt8) : Bool := decide (c.toNat < 32) || decide (126 < c.toNat)
def fo : List UInt8 → Option Nat
  | [] => none
  | c :: r => if oddB c = true then some 0 else (fo r).map (· + 1)
theorem oddB_iff (c : UInt8) : oddB c = true ↔ (c.toNat < 32 ∨ 126 < c.toNat) := by simp [oddB]
theorem qs_eq : ∀ (N : Nat) (r : List UInt8), r.length ≤ N → ∀ (i : Nat) (acc : List UInt8), qs r i acc = match qz r i acc with
    | some (t, n) => (match fo (r.take (n - i)) with
      | some j => .odd (i + j)
      | none => .done t n)
    | none => match fo r with
      | some j => .odd (i + j)
      | none => .short
  | _, [], _, i, acc => rfl
  | _, [c], _, i, acc => by
    simp only [qs, qz]
    by_cases ho : c.toNat < 32 ∨ 126 < c.toNat
    · have hb := (oddB_iff c).2 ho
      rw [if_pos ho]
      split
      · rename_i e; split at e
        · cases e; rw [show i + 1 - i = 1 from by omega]; simp [fo, hb]
        · cases e
      · simp [fo, hb]
    · have hb : oddB c = false := by cases q : oddB c with | false => rfl | true => exact (ho ((oddB_iff c).1 q)).elim
      rw [if_neg ho]
      by_cases hc : c = 39
      · rw [if_pos hc, if_pos hc]
        simp only [show i + 1 - i = 1 from by omega]
        simp [fo, hb]
      · rw [if_neg hc, if_neg hc]
        simp [fo, hb]
  | 0, c :: d :: r, hN, _, _ => by simp at hN
  | N + 1, c :: d :: r, hN, i, acc => by
    simp only [List.length_cons] at hN
    by_cases ho : c.toNat < 32 ∨ 126 < c.toNat
    · have hb := (oddB_iff c).2 ho
      simp only [qs]
      rw [if_pos ho]
      cases hq : qz (c :: d :: r) i acc with
      | none => simp [fo, hb]
      | some p =>
        obtain ⟨t, n⟩ := p
        obtain ⟨m, f1, f2, f3, f4, f5⟩ := qz_to _ _ (Nat.le_refl _) _ _ _ _ hq
        obtain ⟨m, rfl⟩ : ∃ m', m = m' + 1 := ⟨m - 1, by omega⟩
        simp only [f1, show i + (m + 1) - i = m + 1 from by omega, List.take_succ_cons]
        simp [fo, hb]
    · have hb : oddB c = false := by cases q : oddB c with | false => rfl | true => exact (ho ((oddB_iff c).1 q)).elim
      simp only [qs, qz]
      rw [if_neg ho]
      by_cases hc : c = 39
      · rw [if_pos hc, if_pos hc]
        by_cases hd : d = 39
        · rw [if_pos hd, if_pos hd, qs_eq N r (by omega)]
          have hbd : oddB d = false := by rw [hd]; rfl
          cases hq : qz r (i + 2) (acc ++ [39]) with
          | none =>
            simp only [fo, hb, hbd]
            cases fo r with
            | none => rfl
            | some j => simp; omega
          | some p =>
            obtain ⟨t, n⟩ := p
            obtain ⟨m, f1, f2, f3, f4, f5⟩ := qz_to _ _ (Nat.le_refl _) _ _ _ _ hq
            simp only [f1, show i + 2 + m - (i + 2) = m from by omega, show i + 2 + m - i = m + 2 from by omega, List.take_succ_cons, fo, hb, hbd]
            cases fo (r.take m) with
            | none => rfl
            | some j => simp; omega
        · rw [if_neg hd, if_neg hd]
          simp only [show i + 1 - i = 1 from by omega]
          simp [fo, hb]
      · rw [if_neg hc, if_neg hc, qs_eq N (d :: r) (by simp only [List.length_cons]; omega)]
        cases hq : qz (d :: r) (i + 1) (acc ++ [c]) with
        | none =>
          simp only []
          rw [show fo (c :: d :: r) = (fo (d :: r)).map (· + 1) from by rw [fo, hb]; rfl]
          cases fo (d :: r) with
          | none => rfl
          | some j => simp; omega
        | some p =>
          obtain ⟨t, n⟩ := p
          obtain ⟨m, f1, f2, f3, f4, f5⟩ := qz_to _ _ (Nat.le_refl _) _ _ _ _ hq
          simp only [f1, show i + 1 + m - (i + 1) = m from by omega, show i + 1 + m - i = m + 1 from by omega]
          rw [List.take_succ_cons, show ∀ l, fo (c :: l) = (fo l).map (· + 1) from fun l => by rw [fo, hb]; rfl]
          cases fo ((d :: r).take m) with
          | none => rfl
          | some j => simp; omega

/-! ### Numbers -/
theorem numV_from (l : List UInt8) : ∀ a, l.foldl (fun a c => 10 * a + (c.toNat - 48)) a = a * 10 ^ l.length + numV l := by
  induction l with
  | nil => intro a; simp [numV]
  | cons c l ih =>
    intro a
    rw [List.foldl_cons, ih]
    rw [show numV (c :: l) = (c.toNat - 48) * 10 ^ l.length + numV l from by unfold numV; rw [List.foldl_cons, ← numV, Nat.mul_zero, Nat.zero_add]; exact ih _]
    rw [List.length_cons, Nat.pow_succ, Nat.add_mul, ← Nat.add_assoc]
    congr 1
    congr 1
    rw [Nat.mul_comm 10 a, Nat.mul_assoc, Nat.mul_comm 10]
theorem numV_cons (c : UInt8) (l : List UInt8) : numV (c :: l) = (c.toNat - 48) * 10 ^ l.length + numV l := by
  unfold numV; rw [List.foldl_cons, ← numV, Nat.mul_zero, Nat.zero_add]; exact numV_from l _
theorem numV_lt {l : List UInt8} (h : l.all dig = true) : numV l < 10 ^ l.length := by
  induction l with
  | nil => decide
  | cons c l ih =>
    rw [List.all_cons, Bool.and_eq_true] at h
    have hd := (dig_iff c).1 h.1
    have := ih h.2
    rw [numV_cons, List.length_cons, Nat.pow_succ]
    have h9 : (c.toNat - 48) * 10 ^ l.length ≤ 9 * 10 ^ l.length := Nat.mul_le_mul_right _ (by omega)
    omega
theorem less_num : ∀ {a b : List UInt8}, a.length = b.length → a.all dig = true → b.all dig = true → (Op.bytesLess a b = true ↔ numV a < numV b)
  | [], [], _, _, _ => by simp [Op.bytesLess, numV]
  | [], d :: b, h, _, _ => by simp at h
  | c :: a, [], h, _, _ => by simp at h
  | c :: a, d :: b, h, h1, h2 => by
    simp only [List.length_cons, Nat.add_right_cancel_iff] at h
    rw [List.all_cons, Bool.and_eq_true] at h1 h2
    have hc := (dig_iff c).1 h1.1
    have hd := (dig_iff d).1 h2.1
    have la := numV_lt h1.2
    have lb := numV_lt h2.2
    have ih := less_num h h1.2 h2.2
    rw [numV_cons, numV_cons, h]
    rw [h] at la
    unfold Op.bytesLess
    rw [Bool.or_eq_true, Bool.and_eq_true, decide_eq_true_eq, beq_iff_eq, ih, UInt8.lt_iff_toNat_lt]
    rcases Nat.lt_trichotomy c.toNat d.toNat with q | q | q
    · have : (c.toNat - 48 + 1) * 10 ^ b.length ≤ (d.toNat - 48) * 10 ^ b.length := Nat.mul_le_mul_right _ (by omega)
      rw [Nat.add_mul, Nat.one_mul] at this
      constructor
      · intro _; omega
      · intro _; exact .inl q
    · have e : c = d := UInt8.toNat.inj q
      subst e
      constructor
      · rintro (q | ⟨_, q⟩)
        · exact absurd q (Nat.lt_irrefl _)
        · omega
      · intro q; exact .inr ⟨rfl, by omega⟩
    · have : (d.toNat - 48 + 1) * 10 ^ b.length ≤ (c.toNat - 48) * 10 ^ b.length := Nat.mul_le_mul_right _ (by omega)
      rw [Nat.add_mul, Nat.one_mul] at this
      constructor
      · rintro (q2 | ⟨e, _⟩)
        · omega
        · rw [e] at q; exact absurd q (Nat.lt_irrefl _)
      · intro _; omega
def maxT : List UInt8 := [49, 56, 52, 52, 54, 55, 52, 52, 48, 55, 51, 55, 48, 57, 53, 53, 49, 54, 49, 53]
theorem num_eq : ∀ {a b : List UInt8}, a.length = b.length → a.all dig = true → b.all dig = true → numV a = numV b → a = b
  | [], [], _, _, _, _ => rfl
  | [], d :: b, h, _, _, _ => by simp at h
  | c :: a, [], h, _, _, _ => by simp at h
  | c :: a, d :: b, h, h1, h2, e => by
    simp only [List.length_cons, Nat.add_right_cancel_iff] at h
    rw [List.all_cons, Bool.and_eq_true] at h1 h2
    have hc := (dig_iff c).1 h1.1
    have hd := (dig_iff d).1 h2.1
    have la := numV_lt h1.2
    have lb := numV_lt h2.2
    rw [numV_cons, numV_cons, h] at e
    rw [h] at la
    have q : c.toNat = d.toNat := by
      rcases Nat.lt_trichotomy c.toNat d.toNat with q | q | q
      · have : (c.toNat - 48 + 1) * 10 ^ b.length ≤ (d.toNat - 48) * 10 ^ b.length := Nat.mul_le_mul_right _ (by omega)
        rw [Nat.add_mul, Nat.one_mul] at this
        omega
      · exact q
      · have : (d.toNat - 48 + 1) * 10 ^ b.length ≤ (c.toNat - 48) * 10 ^ b.length := Nat.mul_le_mul_right _ (by omega)
        rw [Nat.add_mul, Nat.one_mul] at this
        omega
    have e1 : c = d := UInt8.toNat.inj q
    subst e1
    rw [num_eq h h1.2 h2.2 (by omega)]
/-- Is a number too great? -/
theorem num_big {a : List UInt8} (h : a.all dig = true) (h0 : a.length ≤ 1 ∨ a.getD 0 0 ≠ 48) : (20 < a.length ∨ (a.length = 20 ∧ (!(Op.bytesLess a maxT || decide (a = maxT))) = true)) ↔ 18446744073709551616 ≤ numV a := by
  have hm : numV maxT = 18446744073709551615 := by decide
  have lt := numV_lt h
  rcases Nat.lt_trichotomy a.length 20 with q | q | q
  · have : 10 ^ a.length ≤ 10 ^ 19 := Nat.pow_le_pow_right (by decide) (by omega)
    constructor
    · omega
    · intro w; omega
  · have hl : a.length = maxT.length := q
    have l1 := less_num hl h (by decide)
    rw [hm] at l1
    have l2 : a = maxT ↔ numV a = 18446744073709551615 := ⟨fun e => by rw [e, hm], fun e => num_eq hl h (by decide) (by rw [e, hm])⟩
    rw [Bool.not_eq_true', Bool.or_eq_false_iff, decide_eq_false_iff_not, l2, Bool.eq_false_iff, Ne, l1]
    omega
  · cases a with
    | nil => simp at q
    | cons c l =>
      rw [List.all_cons, Bool.and_eq_true] at h
      have hd := (dig_iff c).1 h.1
      rw [List.length_cons] at q h0
      have hc : c.toNat ≠ 48 := by
        rcases h0 with h0 | h0
        · omega
        · exact fun e => h0 ((nat_eq c 48 (by decide)).2 e)
      rw [numV_cons]
      have h1 : 1 * 10 ^ l.length ≤ (c.toNat - 48) * 10 ^ l.length := Nat.mul_le_mul_right _ (by omega)
      have h2 : 10 ^ 20 ≤ 10 ^ l.length := Nat.pow_le_pow_right (by decide) (by omega)
      rw [List.length_cons]
      constructor
      · intro _; omega
      · intro _; exact .inl q
end Go.Proofs.Ytlmplofpclaokaa

/- What the reference's functions on tokens compute. -/
namespace Go.Proofs.Ytlmplofpclaokaa
set_option autoImplicit false
set_option linter.unusedSimpArgs false
set_option linter.unusedVariables false
--HSET
attribute [local irreducible] callA callP ACalls

theorem ref_Lead_spec (s : List UInt8) (hs : s.length ≤ 140737488351230) (H : AH) : ACalls PG broadsheetref04_Lead.n [.str s] H fun r H' => r = .int .i64 (nl s : Nat) ∧ H' = H := by
  have hle := nl_le s
  refine broadsheetref04_Lead.of rfl (wpF_start ?_)
  (first | refine ah ?_ | exact ah0 | fail)
  refine ⟨fun n L H' => ∃ i : Nat, n = s.length - i ∧ i ≤ nl s ∧ L = [(0, some (.str s)), (3, some (.int .i64 i))] ∧ H' = H, ⟨_, H, ?_, Sub.refl _, _, 0, rfl, Nat.zero_le _, rfl, rfl⟩, ?_⟩
  · exact (by repeat (first | exact trivial | refine And.intro (Or.inl rfl) ?_ | refine And.intro (Or.inr (Exists.intro _ (And.intro rfl (Fz.refl _)))) ?_))
  · rintro n L H' ⟨i, rfl, hi, rfl, rfl⟩
    (first | refine ah ?_ | exact ah0 | fail)
    refine bsplit_dec (fun h1 => ?_) (fun h1 => ?_)
    · have htl : (s.take (i + 1)).length = i + 1 := by rw [List.length_take]; omega
      (first | refine ah ?_ | exact ah0 | fail)
      rw [show ((i : Int) + 1).toNat = i + 1 from by omega]
      rw [show List.drop (Int.toNat 0) (s.take (i + 1)) = s.take (i + 1) from rfl]
      refine callF_eq (ref_formed_spec _ (by omega) _) ?_
      rw [fmd_take hi (by omega)]
      (first | refine ah ?_ | exact ah0 | fail)
      refine bsplit_dec (fun h2 => ?_) (fun h2 => ?_)
      · (first | refine ah ?_ | exact ah0 | fail)
        refine ⟨[(0, some (.str s)), (3, some (.int .i64 (i + 1 : Nat)))], H', (by repeat (first | exact trivial | refine And.intro (Or.inl rfl) ?_ | refine And.intro (Or.inr (Exists.intro _ (And.intro rfl (Fz.refl _)))) ?_)), Sub.refl _, _, ?_, i + 1, rfl, by omega, rfl, rfl⟩
        omega
      · (first | refine ah ?_ | exact ah0 | fail)
        exact ⟨by rw [show i = nl s from by omega], rfl⟩
    · (first | refine ah ?_ | exact ah0 | fail)
      exact ⟨by rw [show i = nl s from by omega], rfl⟩

def strRow (l : List (List UInt8)) : List (List AV) := l.map fun x => [.str x]
theorem strRow_len (l : List (List UInt8)) : (strRow l).length = l.length := by simp [strRow]
theorem ref_Find_spec (l : List (List UInt8)) (hl : l.length ≤ 1000000) (s : List UInt8) (H : AH) : ACalls PG broadsheetref04_Find.n [.rows 1 (strRow l), .str s] H fun r H' => (∃ v : Int, r = .int .i64 v ∧ (0 ≤ v ↔ l.contains s = true) ∧ -1 ≤ v ∧ v < l.length) ∧ H' = H := by
  refine broadsheetref04_Find.of rfl (wpF_start ?_)
  (first | refine ah ?_ | exact ah0 | fail)
  refine ⟨fun n L H' => ∃ i : Nat, n = l.length - i ∧ i ≤ l.length ∧ (l.take i).contains s = false ∧ L = [(0, some (.rows 1 (strRow l))), (1, some (.str s)), (5, some (.int .i64 i))] ∧ H' = H, ⟨_, H, ?_, Sub.refl _, _, 0, rfl, Nat.zero_le _, rfl, rfl, rfl⟩, ?_⟩
  · exact (by repeat (first | exact trivial | refine And.intro (Or.inl rfl) ?_ | refine And.intro (Or.inr (Exists.intro _ (And.intro rfl (Fz.refl _)))) ?_))
  · have hlen := strRow_len l
    rintro n L H' ⟨i, rfl, hi, hc, rfl, rfl⟩
    (first | refine ah ?_ | exact ah0 | fail)
    refine bsplit_dec (fun h1 => ?_) (fun h1 => ?_)
    · have hil : i < l.length := by omega
      have tk := take_at l [] i hil
      have hg : (strRow l).getD (i : Int).toNat [] = [.str (l.getD i [])] := by
        rw [Int.toNat_natCast]; simp [strRow, List.getD, hil]
      (first | refine ah ?_ | exact ah0 | fail)
      rw [hg]
      (first | refine ah ?_ | exact ah0 | fail)
      refine bsplit_dec (fun h2 => ?_) (fun h2 => ?_)
      · (first | refine ah ?_ | exact ah0 | fail)
        refine ⟨⟨_, rfl, ⟨fun _ => ?_, fun _ => by omega⟩, by omega, by omega⟩, rfl⟩
        rw [← List.take_append_drop (i + 1) l, tk, ← h2]
        simp
      · (first | refine ah ?_ | exact ah0 | fail)
        refine ⟨[(0, some (.rows 1 (strRow l))), (1, some (.str s)), (5, some (.int .i64 (i + 1 : Nat)))], H', (by repeat (first | exact trivial | refine And.intro (Or.inl rfl) ?_ | refine And.intro (Or.inr (Exists.intro _ (And.intro rfl (Fz.refl _)))) ?_)), Sub.refl _, _, ?_, i + 1, rfl, by omega, ?_, rfl, rfl⟩
        · omega
        · rw [tk]
          simp only [List.contains_eq_mem, List.mem_append, List.mem_singleton] at hc ⊢
          rw [decide_eq_false_iff_not] at hc ⊢
          rintro (q | q)
          · exact hc q
          · exact h2 q.symm
    · (first | refine ah ?_ | exact ah0 | fail)
      obtain rfl : i = l.length := by omega
      rw [List.take_length] at hc
      exact ⟨⟨_, rfl, ⟨fun q => by omega, fun q => by rw [hc] at q; cases q⟩, by omega, by omega⟩, rfl⟩

theorem ref_digits_spec (s : List UInt8) (hs : s.length ≤ 140737488351232) (H : AH) : ACalls PG broadsheetref14_digits.n [.str s] H fun r H' => r = .bool (decide (s ≠ [] ∧ s.all dig = true)) ∧ H' = H := by
  refine broadsheetref14_digits.of rfl (wpF_start ?_)
  (first | refine ah ?_ | exact ah0 | fail)
  refine ⟨fun n L H' => ∃ i : Nat, n = s.length - i ∧ i ≤ s.length ∧ (s.take i).all dig = true ∧ L = [(0, some (.str s)), (3, some (.int .i64 i))] ∧ H' = H, ⟨_, H, ?_, Sub.refl _, _, 0, rfl, Nat.zero_le _, rfl, rfl, rfl⟩, ?_⟩
  · exact (by repeat (first | exact trivial | refine And.intro (Or.inl rfl) ?_ | refine And.intro (Or.inr (Exists.intro _ (And.intro rfl (Fz.refl _)))) ?_))
  · rintro n L H' ⟨i, rfl, hi, ha, rfl, rfl⟩
    (first | refine ah ?_ | exact ah0 | fail)
    refine bsplit_dec (fun h1 => ?_) (fun h1 => ?_)
    · have at1 := all_take (f := dig) s i (by omega)
      (first | refine ah ?_ | exact ah0 | fail)
      refine callF_eq (ref_Digit_spec _ _) ?_
      rw [Int.toNat_natCast]
      cases hd : dig (s.getD i 0) with
      | true =>
        (first | refine ah ?_ | exact ah0 | fail)
        refine ⟨[(0, some (.str s)), (3, some (.int .i64 (i + 1 : Nat)))], H', (by repeat (first | exact trivial | refine And.intro (Or.inl rfl) ?_ | refine And.intro (Or.inr (Exists.intro _ (And.intro rfl (Fz.refl _)))) ?_)), Sub.refl _, _, ?_, i + 1, rfl, by omega, by rw [at1, ha, hd]; rfl, rfl, rfl⟩
        omega
      | false =>
        (first | refine ah ?_ | exact ah0 | fail)
        exact ⟨congrArg AV.bool (decide_eq_false (fun q => by have := q.2; rw [all_ge (by omega) hd] at this; cases this)).symm, rfl⟩
    · (first | refine ah ?_ | exact ah0 | fail)
      obtain rfl : i = s.length := by omega
      rw [List.take_length] at ha
      exact ⟨congrArg AV.bool (decide_eq_decide.2 ⟨fun q => ⟨q, ha⟩, fun q => q.1⟩), rfl⟩

theorem slc1 {s : List UInt8} {j : Nat} (h : j < s.length) : (s.take (j + 1)).drop j = [s.getD j 0] := by
  rw [take_at s 0 j h, List.drop_append]
  simp [List.length_take, Nat.min_eq_left (Nat.le_of_lt h)]
theorem qdr_step (c : UInt8) (r : List UInt8) (acc : List UInt8) : qdr (c :: r) acc = if c = 39 then (if r = [] then some acc else if r.getD 0 0 = 39 then qdr (r.drop 1) (acc ++ [39]) else none) else qdr r (acc ++ [c]) := by
  cases r with
  | nil => simp [qdr]
  | cons d r => simp [qdr]
def qdV (o : Option (List UInt8)) : AV := match o with
  | some t => .tup [.str t, .bool true]
  | none => .tup [.str [], .bool false]
theorem ref_Quoted_spec (s : List UInt8) (hs : s.length ≤ 140737488351230) (H : AH) : ACalls PG broadsheetref14_Quoted.n [.str s] H fun r H' => r = qdV (qd s) ∧ H' = H := by
  refine broadsheetref14_Quoted.of rfl (wpF_start ?_)
  (first | refine ah ?_ | exact ah0 | fail)
  refine bsplit_dec (fun h1 => ?_) (fun h1 => ?_)
  · (first | refine ah ?_ | exact ah0 | fail)
    exact ⟨by unfold qd; rw [if_neg (fun q => by omega)]; rfl, rfl⟩
  · (first | refine ah ?_ | exact ah0 | fail)
    refine bsplit_dec (fun h2 => ?_) (fun h2 => ?_)
    · (first | refine ah ?_ | exact ah0 | fail)
      refine ⟨?_, rfl⟩
      unfold qd
      rw [if_neg (fun q => h2 (by rw [show s.getD (Int.toNat 0) 0 = 39 from q.1]; rfl))]
      rfl
    · have h39 : s.getD 0 0 = 39 := Classical.byContradiction fun e => h2 (fun q => e ((u8lit _ 39 (by decide)).1 q))
      have hq : qd s = qdr (s.drop 1) [] := by unfold qd; rw [if_pos ⟨h39, by omega⟩]
      rw [hq]
      (first | refine ah ?_ | exact ah0 | fail)
      generalize hR : qdr (s.drop 1) [] = R
      refine ⟨fun n L H' => ∃ (i : Nat) (acc : List UInt8), n = s.length - i ∧ 1 ≤ i ∧ i ≤ s.length ∧ acc.length ≤ i ∧ qdr (s.drop i) acc = R ∧ L = [(0, some (.str s)), (4, some (.str acc)), (5, some (.int .i64 i))] ∧ H' = H, ⟨_, H, ?_, Sub.refl _, _, 1, [], rfl, Nat.le_refl _, by omega, by simp, hR, rfl, rfl⟩, ?_⟩
      · exact (by repeat (first | exact trivial | refine And.intro (Or.inl rfl) ?_ | refine And.intro (Or.inr (Exists.intro _ (And.intro rfl (Fz.refl _)))) ?_))
      · clear hR
        rintro n L H' ⟨i, acc, rfl, h0, hi, hacc, hR, rfl, rfl⟩
        (first | refine ah ?_ | exact ah0 | fail)
        refine bsplit_dec (fun h3 => ?_) (fun h3 => ?_)
        · have hdr := drop_at s 0 i (by omega)
          have hdl : (s.drop (i + 1)).length = s.length - (i + 1) := List.length_drop
          rw [hdr, qdr_step] at hR
          (first | refine ah ?_ | exact ah0 | fail)
          rw [Int.toNat_natCast]
          have hsl : ∀ j : Nat, j < s.length → (s.drop j).take 1 = [s.getD j 0] := fun j hj => by rw [drop_at s 0 j hj]; rfl
          by_cases hc : s.getD i 0 = 39
          · rw [if_pos hc] at hR
            rw [hc]
            (first | refine ah ?_ | exact ah0 | fail)
            refine bsplit_dec (fun h4 => ?_) (fun h4 => ?_)
            · rw [if_pos (List.drop_eq_nil_of_le (by omega))] at hR
              (first | refine ah ?_ | exact ah0 | fail)
              rw [← hR]
              exact ⟨rfl, rfl⟩
            · rw [if_neg (fun q => by have := congrArg List.length q; rw [hdl, List.length_nil] at this; omega), show (s.drop (i + 1)).getD 0 0 = s.getD (i + 1) 0 from by simp [List.getD], List.drop_drop] at hR
              (first | refine ah ?_ | exact ah0 | fail)
              rw [show ((i : Int) + 1).toNat = i + 1 from by omega]
              refine bsplit_dec (fun h5 => ?_) (fun h5 => ?_)
              · rw [if_neg (fun q => h5 (by rw [q]; rfl))] at hR
                (first | refine ah ?_ | exact ah0 | fail)
                rw [← hR]
                exact ⟨rfl, rfl⟩
              · have h5' : s.getD (i + 1) 0 = 39 := Classical.byContradiction fun e => h5 (fun q => e ((u8lit _ 39 (by decide)).1 q))
                rw [if_pos h5'] at hR
                (first | refine ah ?_ | exact ah0 | fail)
                rw [show ((i : Int) + 1).toNat = i + 1 from by omega, show ((i : Int) + 1 + 1).toNat = i + 1 + 1 from by omega, slc1 (show i + 1 < s.length by omega), h5']
                rw [show ([(39 : UInt8)]).length = 1 from rfl]
                (first | refine ah ?_ | exact ah0 | fail)
                refine ⟨[(0, some (.str s)), (4, some (.str (acc ++ [39]))), (5, some (.int .i64 (i + 2 : Nat)))], H', (by repeat (first | exact trivial | refine And.intro (Or.inl rfl) ?_ | refine And.intro (Or.inr (Exists.intro _ (And.intro rfl (Fz.refl _)))) ?_)), Sub.refl _, _, ?_, i + 2, acc ++ [39], rfl, by omega, by omega, by simp; omega, hR, rfl, rfl⟩
                omega
          · rw [if_neg hc] at hR
            have hne : (s.getD i 0).toNat ≠ 39 := fun e => hc ((nat_eq _ 39 (by decide)).2 e)
            (first | refine ah ?_ | exact ah0 | fail)
            rw [Int.toNat_natCast, show ((i : Int) + 1).toNat = i + 1 from by omega, slc1 (show i < s.length by omega), show ([s.getD i 0]).length = 1 from rfl]
            (first | refine ah ?_ | exact ah0 | fail)
            refine ⟨[(0, some (.str s)), (4, some (.str (acc ++ [s.getD i 0]))), (5, some (.int .i64 (i + 1 : Nat)))], H', (by repeat (first | exact trivial | refine And.intro (Or.inl rfl) ?_ | refine And.intro (Or.inr (Exists.intro _ (And.intro rfl (Fz.refl _)))) ?_)), Sub.refl _, _, ?_, i + 1, acc ++ [s.getD i 0], rfl, by omega, by omega, by simp; omega, hR, rfl, rfl⟩
            omega
        · (first | refine ah ?_ | exact ah0 | fail)
          rw [List.drop_eq_nil_of_le (show s.length ≤ i by omega)] at hR
          rw [← hR]
          exact ⟨rfl, rfl⟩
end Go.Proofs.Ytlmplofpclaokaa

/- The reference's parser, walked. -/
namespace Go.Proofs.Ytlmplofpclaokaa
set_option autoImplicit false
set_option linter.unusedSimpArgs false
set_option linter.unusedVariables false
attribute [local irreducible] callA callP ACalls
abbrev stA (σ : PSt) : AV := .agg [.int .i64 (σ.p : Nat), .int .i64 (σ.n : Nat), .int .i64 σ.e, .int .i64 σ.a]
theorem rbad_spec {l : List Tok} (w : Wt l) {σ : PSt} (h : σ.p < l.length) (e : Int) (H : AH) : ACalls PG broadsheetref15_bad.n [.rows 4 (l.map tkR), stA σ, .int .i64 e] H fun r H' => r = stA (σ.fail l e) ∧ H' = H := by
  have hw := w.len
  refine ACalls.fz (broadsheetref15_bad.of rfl (wpF_start ?_))
  unfold PSt.fail
  (first | refine au ?_ | exact au0 | fail)
  intro id4 hid4 ht4; have n4 := neAll_of hid4; (try simp only [neAll, neAll_hset] at n4); have m4 := n4; (repeat (obtain ⟨_, m4⟩ := m4))
  (first | refine au ?_ | exact au0 | fail)
  intro id6 hid6 ht6; have n6 := neAll_of hid6; (try simp only [neAll, neAll_hset] at n6); have m6 := n6; (repeat (obtain ⟨_, m6⟩ := m6))
  (first | refine au ?_ | exact au0 | fail)
  refine bsplit_dec (fun h1 => ?_) (fun h1 => ?_)
  · rw [if_pos h1]
    (first | refine au ?_ | exact au0 | fail)
    rw [show (Int.toNat (σ.p : Nat)) = σ.p from rfl, tk_get h]
    (first | refine au ?_ | exact au0 | fail)
    exact ⟨fz_of, sub_of⟩
  · rw [if_neg h1]
    (first | refine au ?_ | exact au0 | fail)
    exact ⟨fz_of, sub_of⟩
theorem ris_spec {l : List Tok} (w : Wt l) {σ : PSt} (h : σ.p < l.length) (k : Int) (s : List UInt8) (H : AH) : ACalls PG broadsheetref15_is.n [.rows 4 (l.map tkR), stA σ, .int .i64 k, .str s] H fun r H' => r = .bool (skb l σ k s) ∧ H' = H := by
  have hw := w.len
  refine ACalls.fz (broadsheetref15_is.of rfl (wpF_start ?_))
  unfold skb isT
  (first | refine au ?_ | exact au0 | fail)
  intro id5 hid5 ht5; have n5 := neAll_of hid5; (try simp only [neAll, neAll_hset] at n5); have m5 := n5; (repeat (obtain ⟨_, m5⟩ := m5))
  (first | refine au ?_ | exact au0 | fail)
  refine bsplit_dec (fun h1 => ?_) (fun h1 => ?_)
  · rw [decide_eq_true h1]
    (first | refine au ?_ | exact au0 | fail)
    rw [show (Int.toNat (σ.p : Nat)) = σ.p from rfl, tk_get h]
    (first | refine au ?_ | exact au0 | fail)
    refine bsplit_dec (fun h2 => ?_) (fun h2 => ?_)
    · rw [decide_eq_true h2]
      (first | refine au ?_ | exact au0 | fail)
      rw [show (Int.toNat (σ.p : Nat)) = σ.p from rfl, tk_get h]
      (first | refine au ?_ | exact au0 | fail)
      exact ⟨fz_of, sub_of⟩
    · rw [decide_eq_false h2]
      (first | refine au ?_ | exact au0 | fail)
      exact ⟨fz_of, sub_of⟩
  · rw [decide_eq_false h1]
    (first | refine au ?_ | exact au0 | fail)
    exact ⟨fz_of, sub_of⟩
theorem rmust_spec {l : List Tok} (w : Wt l) {σ : PSt} (h : σ.p < l.length) (k : Int) (s : List UInt8) (H : AH) : ACalls PG broadsheetref15_must.n [.rows 4 (l.map tkR), stA σ, .int .i64 k, .str s] H fun r H' => r = stA (mst l σ k s) ∧ H' = H := by
  have hw := w.len
  refine ACalls.fz (broadsheetref15_must.of rfl (wpF_start ?_))
  unfold mst
  (first | refine au ?_ | exact au0 | fail)
  intro id5 hid5 ht5; have n5 := neAll_of hid5; (try simp only [neAll, neAll_hset] at n5); have m5 := n5; (repeat (obtain ⟨_, m5⟩ := m5))
  (first | refine au ?_ | exact au0 | fail)
  intro id8 hid8 ht8; have n8 := neAll_of hid8; (try simp only [neAll, neAll_hset] at n8); have m8 := n8; (repeat (obtain ⟨_, m8⟩ := m8))
  (first | refine au ?_ | exact au0 | fail)
  refine callF_eq (ris_spec w h k s _) ?_
  cases hs : skb l σ k s with
  | true =>
    rw [if_pos rfl]
    (first | refine au ?_ | exact au0 | fail)
    exact ⟨fz_of, sub_of⟩
  | false =>
    rw [if_neg (by decide)]
    (first | refine au ?_ | exact au0 | fail)
    refine callF_eq (rbad_spec w h 11 _) ?_
    (first | refine au ?_ | exact au0 | fail)
    exact ⟨fz_of, sub_of⟩
theorem rword_spec (s : List UInt8) (H : AH) : ACalls PG broadsheetref04_Word.n [.str s] H fun r H' => r = .bool (rsv.contains s) ∧ H' = H := by
  refine ACalls.fz (broadsheetref04_Word.of rfl (wpF_start ?_))
  (first | refine au ?_ | exact au0 | fail)
  refine callF_of ((ref_Find_spec rsv (by decide) s _).mono fun rr H2 hh => ?_)
  obtain ⟨⟨v, rfl, h1, h2, h3⟩, rfl⟩ := hh
  (first | refine au ?_ | exact au0 | fail)
  refine ⟨?_, sub_of⟩
  cases hI : rsv.contains s with
  | true => rw [decide_eq_true (h1.2 hI)]; exact .refl _
  | false => rw [decide_eq_false (fun q => by have := h1.1 q; rw [hI] at this; cases this)]; exact .refl _
set_option maxHeartbeats 2000000 in
theorem rpath_spec {l : List Tok} (w : Wt l) {σ : PSt} (h : σ.p < l.length) (he : σ.e = 0) (H : AH) : ACalls PG broadsheetref15_path.n [.rows 4 (l.map tkR), stA σ] H fun r H' => r = .tup [.str (pth l σ).1, stA (pth l σ).2] ∧ H' = H := by
  have hw := w.len
  refine ACalls.fz (broadsheetref15_path.of rfl (wpF_start ?_))
  (first | refine au ?_ | exact au0 | fail)
  intro id3 hid3 ht3; have n3 := neAll_of hid3; (try simp only [neAll, neAll_hset] at n3); have m3 := n3; (repeat (obtain ⟨_, m3⟩ := m3))
  (first | refine au ?_ | exact au0 | fail)
  intro id5 hid5 ht5; have n5 := neAll_of hid5; (try simp only [neAll, neAll_hset] at n5); have m5 := n5; (repeat (obtain ⟨_, m5⟩ := m5))
  (first | refine au ?_ | exact au0 | fail)
  generalize hR : pth l σ = R
  unfold pth at hR
  refine ⟨fun n L H' => ∃ (τ : PSt) (s : List UInt8), τ.p < l.length ∧ l.length < τ.p + n ∧ s.length ≤ 600 * (l.length + 2 - n) ∧ n ≤ l.length + 2 ∧ ((s = [] ∧ τ = σ ∧ n = l.length + 2) ∨ (s ≠ [] ∧ pthL l n s τ = R ∧ n ≤ l.length + 1)) ∧
      L = [(0, some (.rows 4 (l.map tkR))), (3, some (.ptr id3 4 0 0)), (4, some (.str [])), (5, some (.ptr id5 4 0 0)), (6, some (.str s))] ∧ H' = (id5, .rows 4 [[.int .i64 0, .int .i64 0, .int .i64 0, .int .i64 0]]) :: (id3, .rows 4 [(stA τ).cells]) :: H,
    ⟨_, _, (by repeat (first | exact trivial | refine And.intro (Or.inl rfl) ?_ | refine And.intro (Or.inr (Exists.intro _ (And.intro rfl (Fz.refl _)))) ?_)), Sub.refl _, l.length + 2, σ, [], h, by omega, by simp, by omega, .inl ⟨rfl, rfl, rfl⟩, rfl, rfl⟩, ?_⟩
  rintro n L H' ⟨τ, s, hlt, hn, hs, hnk, hph, rfl, rfl⟩
  obtain ⟨n, rfl⟩ : ∃ m, n = m + 1 := ⟨n - 1, by omega⟩
  (first | refine au ?_ | exact au0 | fail)
  refine bsplit_dec (fun h1 => ?_) (fun h1 => ?_)
  · have hskb : ∀ k s, skb l τ k s = isT l τ k s := fun k s => by unfold skb; rw [decide_eq_true h1]; rfl
    (first | refine au ?_ | exact au0 | fail)
    refine bsplit_dec (fun h2 => ?_) (fun h2 => ?_)
    · rcases hph with ⟨rfl, _⟩ | ⟨_, q2, q3⟩
      · exact absurd rfl h2
      (first | refine au ?_ | exact au0 | fail)
      refine callF_eq (ris_spec w hlt 5 [46] _) ?_
      rw [hskb]
      rw [pthL, if_pos h1] at q2
      cases hD : isT l τ 5 [46] with
      | true =>
        (first | refine au ?_ | exact au0 | fail)
        refine callF_eq (ris_spec w hlt 5 [91] _) ?_
        have hO : isT l τ 5 [91] = false := by
          have := isT_ne hD
          unfold isT
          rw [this.2]; simp
        rw [hskb, hO]
        rw [hO, hD, if_neg (by decide), if_pos rfl, ← List.append_assoc] at q2
        have hR' := q2
        have h0 := Gd.on w hlt (by rw [(isT_ne hD).1]; decide)
        have h0l : τ.p + 1 < l.length := h0.lt
        have h1' : τ.on.e = 0 := h1
        (first | refine au ?_ | exact au0 | fail)
        generalize hss : s ++ [46] = s' at *
        have hs' : s'.length ≤ 600 * (l.length + 2 - (n + 1)) + 1 := by rw [← hss]; simp; omega
        clear hss hskb hD hO h1 hs q2
        have hlt' := h0.lt
        have hx := w.txt τ.on.p
        have hx' : (tk l (τ.p + 1)).2.1.length ≤ 256 := hx
        (first | refine au ?_ | exact au0 | fail)
        rw [show (Int.toNat ((τ.p : Nat) + 1)) = τ.on.p from rfl, tk_get hlt']
        unfold nm nmB at hR'
        rw [decide_eq_true h1', Bool.true_and] at hR'
        (first | refine au ?_ | exact au0 | fail)
        refine bsplit_dec (fun h5 => ?_) (fun h5 => ?_)
        · rw [decide_eq_true h5, Bool.true_and] at hR'
          (first | refine au ?_ | exact au0 | fail)
          rw [show (Int.toNat ((τ.p : Nat) + 1)) = τ.on.p from rfl, tk_get hlt']
          (first | refine au ?_ | exact au0 | fail)
          refine callF_eq (rword_spec _ _) ?_
          cases hW : rsv.contains (tk l τ.on.p).2.1 with
          | true =>
            rw [hW, if_neg (by decide)] at hR'
            obtain ⟨n, rfl⟩ : ∃ m, n = m + 1 := ⟨n - 1, by omega⟩
            have hf : ¬ (τ.on.fail l 11).e = 0 := by unfold PSt.fail; rw [if_pos h1']; exact (by decide : ¬ (11 : Int) = 0)
            rw [pthL, if_neg hf, List.append_nil] at hR'
            subst hR'
            (first | refine au ?_ | exact au0 | fail)
            refine callF_eq (rbad_spec w hlt' 11 _) ?_
            (first | refine au ?_ | exact au0 | fail)
            exact ⟨fz_of, sub_of⟩
          | false =>
            rw [hW, if_pos (by decide)] at hR'
            have h4 := Gd.on w hlt' (by rw [h5]; decide)
            have h4l : τ.p + 2 < l.length := h4.lt
            (first | refine au ?_ | exact au0 | fail)
            rw [show (Int.toNat ((τ.p : Nat) + 1)) = τ.on.p from rfl, tk_get hlt']
            (first | refine au ?_ | exact au0 | fail)
            refine ⟨[(0, some (.rows 4 (l.map tkR))), (3, some (.ptr id3 4 0 0)), (4, some (.str [])), (5, some (.ptr id5 4 0 0)), (6, some (.str _))], _, (by repeat (first | exact trivial | refine And.intro (Or.inl rfl) ?_ | refine And.intro (Or.inr (Exists.intro _ (And.intro rfl (Fz.refl _)))) ?_)), Sub.refl _, n, by omega, τ.on.on, _, h4.lt, ?_, ?_, by omega, .inr ⟨?_, hR', by omega⟩, rfl, rfl⟩
            · have : τ.on.on.p = τ.p + 2 := rfl
              omega
            · simp; omega
            · have := w.word τ.on.p h5
              simp [this]
        · rw [decide_eq_false h5, Bool.false_and, if_neg (by decide)] at hR'
          obtain ⟨n, rfl⟩ : ∃ m, n = m + 1 := ⟨n - 1, by omega⟩
          have hf : ¬ (τ.on.fail l 11).e = 0 := by unfold PSt.fail; rw [if_pos h1']; exact (by decide : ¬ (11 : Int) = 0)
          rw [pthL, if_neg hf, List.append_nil] at hR'
          subst hR'
          (first | refine au ?_ | exact au0 | fail)
          refine callF_eq (rbad_spec w hlt' 11 _) ?_
          (first | refine au ?_ | exact au0 | fail)
          exact ⟨fz_of, sub_of⟩
      | false =>
        (first | refine au ?_ | exact au0 | fail)
        refine callF_eq (ris_spec w hlt 5 [91] _) ?_
        rw [hskb]
        cases hO : isT l τ 5 [91] with
        | true =>
          rw [hO, if_pos rfl] at q2
          have hR' := q2
          (first | refine au ?_ | exact au0 | fail)
          have hm : mst l τ 5 [91] = τ.on := by unfold mst; rw [hskb, hO]; rfl
          have h4 := Gd.on w hlt (by rw [(isT_ne hO).1]; decide)
          have h4l : τ.p + 1 < l.length := h4.lt
          (first | refine au ?_ | exact au0 | fail)
          rw [show (Int.toNat ((τ.p : Nat) + 1)) = τ.on.p from rfl, tk_get h4.lt]
          (first | refine au ?_ | exact au0 | fail)
          refine bsplit_dec (fun h5 => ?_) (fun h5 => ?_)
          · unfold el at hR'
            rw [hm, if_neg h5] at hR'
            obtain ⟨n, rfl⟩ : ∃ m, n = m + 1 := ⟨n - 1, by omega⟩
            have hf : ¬ (τ.on.fail l 11).e = 0 := by unfold PSt.fail; rw [if_pos h1]; exact (by decide : ¬ (11 : Int) = 0)
            rw [pthL, if_neg hf, List.append_nil] at hR'
            subst hR'
            (first | refine au ?_ | exact au0 | fail)
            refine callF_eq (rbad_spec w h4.lt 11 _) ?_
            (first | refine au ?_ | exact au0 | fail)
            exact ⟨fz_of, sub_of⟩
          · have h5' := Classical.not_not.1 h5
            unfold el at hR'
            rw [hm, if_pos h5'] at hR'
            have h6 := Gd.on w h4.lt (by rw [h5']; decide)
            have h6l : τ.p + 2 < l.length := h6.lt
            have h7 := Gd.mst w h6.lt (k := 5) (by decide) [93]
            have h7l := h7.le
            have hx := w.txt τ.on.p
            have hx' : (tk l (τ.p + 1)).2.1.length ≤ 256 := hx
            (first | refine au ?_ | exact au0 | fail)
            rw [show (Int.toNat ((τ.p : Nat) + 1)) = τ.on.p from rfl, tk_get h4.lt]
            (first | refine au ?_ | exact au0 | fail)
            refine callF_eq (rmust_spec w h6.lt 5 [93] _) ?_
            (first | refine au ?_ | exact au0 | fail)
            refine ⟨[(0, some (.rows 4 (l.map tkR))), (3, some (.ptr id3 4 0 0)), (4, some (.str [])), (5, some (.ptr id5 4 0 0)), (6, some (.str _))], _, (by repeat (first | exact trivial | refine And.intro (Or.inl rfl) ?_ | refine And.intro (Or.inr (Exists.intro _ (And.intro rfl (Fz.refl _)))) ?_)), Sub.refl _, n, by omega, mst l τ.on.on 5 [93], _, h7.lt, ?_, ?_, by omega, .inr ⟨?_, hR', by omega⟩, rfl, rfl⟩
            · have : τ.on.on.p = τ.p + 2 := rfl
              omega
            · simp; omega
            · simp
        | false =>
          rw [hO, hD, if_neg (by decide), if_neg (by decide)] at q2
          subst q2
          (first | refine au ?_ | exact au0 | fail)
          exact ⟨fz_of, sub_of⟩
    · rcases hph with ⟨rfl, rfl, hnn⟩ | ⟨q1, _⟩
      rotate_left
      · exact absurd q1 h2
      obtain rfl : n = l.length + 1 := by omega
      unfold pth0 at hR
      (first | refine au ?_ | exact au0 | fail)
      refine callF_eq (ris_spec w hlt 5 [91] _) ?_
      rw [hskb]
      cases hO : isT l τ 5 [91] with
      | true =>
        rw [hO] at hR
        simp only [if_true] at hR
        have hR' : pthL l (l.length + 1) ([] ++ (el l τ).1) (el l τ).2 = R := hR
        generalize l.length + 1 = n at *
        (first | refine au ?_ | exact au0 | fail)
        have hm : mst l τ 5 [91] = τ.on := by unfold mst; rw [hskb, hO]; rfl
        have h4 := Gd.on w hlt (by rw [(isT_ne hO).1]; decide)
        have h4l : τ.p + 1 < l.length := h4.lt
        (first | refine au ?_ | exact au0 | fail)
        rw [show (Int.toNat ((τ.p : Nat) + 1)) = τ.on.p from rfl, tk_get h4.lt]
        (first | refine au ?_ | exact au0 | fail)
        refine bsplit_dec (fun h5 => ?_) (fun h5 => ?_)
        · unfold el at hR'
          rw [hm, if_neg h5] at hR'
          obtain ⟨n, rfl⟩ : ∃ m, n = m + 1 := ⟨n - 1, by omega⟩
          have hf : ¬ (τ.on.fail l 11).e = 0 := by unfold PSt.fail; rw [if_pos h1]; exact (by decide : ¬ (11 : Int) = 0)
          rw [pthL, if_neg hf, List.append_nil] at hR'
          subst hR'
          (first | refine au ?_ | exact au0 | fail)
          refine callF_eq (rbad_spec w h4.lt 11 _) ?_
          (first | refine au ?_ | exact au0 | fail)
          exact ⟨fz_of, sub_of⟩
        · have h5' := Classical.not_not.1 h5
          unfold el at hR'
          rw [hm, if_pos h5'] at hR'
          have h6 := Gd.on w h4.lt (by rw [h5']; decide)
          have h6l : τ.p + 2 < l.length := h6.lt
          have h7 := Gd.mst w h6.lt (k := 5) (by decide) [93]
          have h7l := h7.le
          have hx := w.txt τ.on.p
          have hx' : (tk l (τ.p + 1)).2.1.length ≤ 256 := hx
          (first | refine au ?_ | exact au0 | fail)
          rw [show (Int.toNat ((τ.p : Nat) + 1)) = τ.on.p from rfl, tk_get h4.lt]
          (first | refine au ?_ | exact au0 | fail)
          refine callF_eq (rmust_spec w h6.lt 5 [93] _) ?_
          (first | refine au ?_ | exact au0 | fail)
          refine ⟨[(0, some (.rows 4 (l.map tkR))), (3, some (.ptr id3 4 0 0)), (4, some (.str [])), (5, some (.ptr id5 4 0 0)), (6, some (.str _))], _, (by repeat (first | exact trivial | refine And.intro (Or.inl rfl) ?_ | refine And.intro (Or.inr (Exists.intro _ (And.intro rfl (Fz.refl _)))) ?_)), Sub.refl _, n, by omega, mst l τ.on.on 5 [93], _, h7.lt, ?_, ?_, by omega, .inr ⟨?_, hR', by omega⟩, rfl, rfl⟩
          · have : τ.on.on.p = τ.p + 2 := rfl
            omega
          · simp; omega
          · simp
      | false =>
        rw [hO] at hR
        simp only [Bool.false_eq_true, if_false] at hR
        have hR' : pthL l (l.length + 1) ([] ++ (nm l τ).1) (nm l τ).2 = R := hR
        generalize l.length + 1 = n at *
        (first | refine au ?_ | exact au0 | fail)
        have hx := w.txt τ.p
        (first | refine au ?_ | exact au0 | fail)
        rw [show (Int.toNat (τ.p : Nat)) = τ.p from rfl, tk_get hlt]
        unfold nm nmB at hR'
        rw [decide_eq_true h1, Bool.true_and] at hR'
        (first | refine au ?_ | exact au0 | fail)
        refine bsplit_dec (fun h5 => ?_) (fun h5 => ?_)
        · rw [decide_eq_true h5, Bool.true_and] at hR'
          (first | refine au ?_ | exact au0 | fail)
          rw [show (Int.toNat (τ.p : Nat)) = τ.p from rfl, tk_get hlt]
          (first | refine au ?_ | exact au0 | fail)
          refine callF_eq (rword_spec _ _) ?_
          cases hW : rsv.contains (tk l τ.p).2.1 with
          | true =>
            rw [hW, if_neg (by decide)] at hR'
            obtain ⟨n, rfl⟩ : ∃ m, n = m + 1 := ⟨n - 1, by omega⟩
            have hf : ¬ (τ.fail l 11).e = 0 := by unfold PSt.fail; rw [if_pos h1]; exact (by decide : ¬ (11 : Int) = 0)
            rw [pthL, if_neg hf, List.append_nil] at hR'
            subst hR'
            (first | refine au ?_ | exact au0 | fail)
            refine callF_eq (rbad_spec w hlt 11 _) ?_
            (first | refine au ?_ | exact au0 | fail)
            exact ⟨fz_of, sub_of⟩
          | false =>
            rw [hW, if_pos (by decide)] at hR'
            have h4 := Gd.on w hlt (by rw [h5]; decide)
            have h4l : τ.p + 1 < l.length := h4.lt
            (first | refine au ?_ | exact au0 | fail)
            rw [show (Int.toNat (τ.p : Nat)) = τ.p from rfl, tk_get hlt]
            (first | refine au ?_ | exact au0 | fail)
            refine ⟨[(0, some (.rows 4 (l.map tkR))), (3, some (.ptr id3 4 0 0)), (4, some (.str [])), (5, some (.ptr id5 4 0 0)), (6, some (.str _))], _, (by repeat (first | exact trivial | refine And.intro (Or.inl rfl) ?_ | refine And.intro (Or.inr (Exists.intro _ (And.intro rfl (Fz.refl _)))) ?_)), Sub.refl _, n, by omega, τ.on, _, h4.lt, ?_, ?_, by omega, .inr ⟨?_, hR', by omega⟩, rfl, rfl⟩
            · have : τ.on.p = τ.p + 1 := rfl
              omega
            · simp; omega
            · have := w.word τ.p h5
              simp [this]
        · rw [decide_eq_false h5, Bool.false_and, if_neg (by decide)] at hR'
          obtain ⟨n, rfl⟩ : ∃ m, n = m + 1 := ⟨n - 1, by omega⟩
          have hf : ¬ (τ.fail l 11).e = 0 := by unfold PSt.fail; rw [if_pos h1]; exact (by decide : ¬ (11 : Int) = 0)
          rw [pthL, if_neg hf, List.append_nil] at hR'
          subst hR'
          (first | refine au ?_ | exact au0 | fail)
          refine callF_eq (rbad_spec w hlt 11 _) ?_
          (first | refine au ?_ | exact au0 | fail)
          exact ⟨fz_of, sub_of⟩
  · rcases hph with ⟨rfl, rfl, _⟩ | ⟨q1, q2, q3⟩
    · exact absurd he h1
    · rw [pthL, if_neg h1] at q2
      subst q2
      (first | refine au ?_ | exact au0 | fail)
      exact ⟨fz_of, sub_of⟩
end Go.Proofs.Ytlmplofpclaokaa

/- The reference's parser; plain: what it builds is what the parser builds, as long as nothing is wrong. -/
namespace Go.Proofs.Ytlmplofpclaokaa
set_option autoImplicit false
set_option linter.unusedVariables false
set_option linter.unusedSimpArgs false
def rtst (l : List Tok) (σ : PSt) : Ex × PSt :=
  let a := opd l σ
  if a.2.e = 0 ∧ 0 < relOf (tk l a.2.p) then (.mk 1 (relOf (tk l a.2.p)) [a.1, (opd l a.2.on).1] [], (opd l a.2.on).2)
  else if skb l a.2 1 [76, 73, 75, 69] = true then (.mk 3 0 [a.1, (opd l a.2.on).1] [], (opd l a.2.on).2)
  else btw l a.1 (skb l a.2 1 [78, 79, 84]) (skp l a.2 1 [78, 79, 84])
def rnt (l : List Tok) : Nat → PSt → Ex × PSt
  | 0, σ => (ex0, σ)
  | n + 1, σ => if skb l σ 1 [78, 79, 84] = true then wth l σ (inNot (rnt l n)) else if skb l σ 5 [40] = true then wth l σ (inBr l (rnt l n)) else rtst l σ
/-- The same place; the same tree, if nothing was wrong. -/
structure Rl2 (X Y : Ex × PSt) : Prop where
  s : Y.2 = X.2
  v : X.2.e = 0 → Y.1 = X.1
theorem Rl2.refl (X : Ex × PSt) : Rl2 X X := ⟨rfl, fun _ => rfl⟩
theorem skb_bad {l : List Tok} {σ : PSt} (h : ¬ σ.e = 0) (k : Int) (s : List UInt8) : skb l σ k s = false := by unfold skb; rw [decide_eq_false h]; rfl
theorem skb_ok {l : List Tok} {σ : PSt} (h : σ.e = 0) (k : Int) (s : List UInt8) : skb l σ k s = isT l σ k s := by unfold skb; rw [decide_eq_true h]; rfl
theorem mst_bad {l : List Tok} {σ : PSt} (h : ¬ σ.e = 0) (k : Int) (s : List UInt8) : mst l σ k s = σ := by unfold mst; rw [skb_bad h, if_neg (by decide)]; unfold PSt.fail; rw [if_neg h]
theorem skp_bad {l : List Tok} {σ : PSt} (h : ¬ σ.e = 0) (k : Int) (s : List UInt8) : skp l σ k s = σ := by unfold skp; rw [skb_bad h, if_neg (by decide)]
theorem opd_bad {l : List Tok} {σ : PSt} (h : ¬ σ.e = 0) : opd l σ = (opd0, σ) := by unfold opd; rw [if_neg h]
theorem btw_bad {l : List Tok} {σ : PSt} (h : ¬ σ.e = 0) (a : Opd) (nt : Bool) : (btw l a nt σ).2 = σ := by
  unfold btw; dsimp only; rw [mst_bad h, opd_bad h]; dsimp only; rw [mst_bad h, opd_bad h]
theorem tst_rel (l : List Tok) (σ : PSt) : Rl2 (tst l σ) (rtst l σ) := by
  unfold tst rtst
  dsimp only
  by_cases h : (opd l σ).2.e = 0
  · rw [if_pos h, skb_ok h, skb_ok h]
    by_cases h2 : 0 < relOf (tk l (opd l σ).2.p)
    · rw [if_pos h2, if_pos ⟨h, h2⟩]; exact .refl _
    · rw [if_neg h2, if_neg (fun q : (opd l σ).2.e = 0 ∧ 0 < relOf (tk l (opd l σ).2.p) => h2 q.2)]; exact .refl _
  · rw [if_neg h, if_neg (fun q => h q.1), skb_bad h, skb_bad h, if_neg (by decide), skp_bad h]
    exact ⟨btw_bad h _ _, fun q => absurd q h⟩
def RlF (f g : PSt → Ex × PSt) : Prop := ∀ σ, Rl2 (f σ) (g σ)
theorem rwL_rel {l : List Tok} {f g : PSt → Ex × PSt} (h : RlF f g) (w : List UInt8) : ∀ (k : Nat) (acc acc' : List Ex) (σ : PSt), (σ.e = 0 → acc' = acc) → acc'.length = acc.length →
    (rwL l g w k acc' σ).2 = (rwL l f w k acc σ).2 ∧ ((rwL l f w k acc σ).2.e = 0 → (rwL l g w k acc' σ).1 = (rwL l f w k acc σ).1) ∧ (rwL l g w k acc' σ).1.length = (rwL l f w k acc σ).1.length
  | 0, acc, acc', σ, ha, hl => ⟨rfl, ha, hl⟩
  | k + 1, acc, acc', σ, ha, hl => by
    unfold rwL
    split
    · rename_i q
      obtain ⟨a, b⟩ := h σ.on
      rw [a]
      refine rwL_rel h w k _ _ _ (fun e => ?_) (by simp [hl])
      rw [ha (skb_ne q).1, b e]
    · exact ⟨rfl, ha, hl⟩
theorem rw_rel {l : List Tok} {f g : PSt → Ex × PSt} (h : RlF f g) (w : List UInt8) (op : Int) : RlF (rw' l f w op) (rw' l g w op) := fun σ => by
  obtain ⟨a, b⟩ := h σ
  have := rwL_rel (l := l) h w (l.length + 1) [(f σ).1] [(g σ).1] (f σ).2 (fun e => by rw [b e]) rfl
  unfold rw'
  dsimp only
  rw [a]
  refine ⟨this.1, fun e => ?_⟩
  dsimp only at e ⊢
  rw [this.2.1 e]
  split
  · rename_i q
    have e0 : (f σ).2.e = 0 := by
      -- with one tree alone nothing else was read
      cases hs : skb l (f σ).2 1 w with
      | true => exact (skb_ne hs).1
      | false => unfold rwL at e; rw [hs, if_neg (by decide)] at e; exact e
    exact b e0
  · rfl
theorem nt_rel (l : List Tok) : ∀ n, RlF (ntE l n) (rnt l n)
  | 0 => fun σ => .refl _
  | n + 1 => fun σ => by
    have ih := nt_rel l n
    have wth_rel : ∀ {f g : PSt → Ex × PSt}, RlF f g → Rl2 (wth l σ f) (wth l σ g) := fun {f g} h => by
      unfold wth
      split
      · exact .refl _
      · obtain ⟨a, b⟩ := h ⟨σ.p + 1, σ.n + 1, σ.e, σ.a⟩
        exact ⟨by dsimp only; rw [a], fun e => b e⟩
    unfold ntE rnt
    by_cases h : σ.e = 0
    · rw [if_pos h, skb_ok h, skb_ok h]
      split
      · exact wth_rel fun τ => ⟨(ih τ).s, fun e => by show Ex.mk _ _ _ _ = Ex.mk _ _ _ _; rw [(ih τ).v e]⟩
      · split
        · refine wth_rel fun τ => ?_
          obtain ⟨a, b⟩ := rw_rel (l := l) (rw_rel (l := l) ih [65, 78, 68] 5) [79, 82] 6 τ
          refine ⟨by show mst _ _ _ _ = mst _ _ _ _; unfold orE andE; rw [a], fun e => ?_⟩
          refine b ?_
          by_cases e1 : (orE l (ntE l n) τ).2.e = 0
          · exact e1
          · exfalso
            have e' : (mst l (orE l (ntE l n) τ).2 5 [41]).e = 0 := e
            rw [mst_bad e1] at e'
            exact e1 e'
        · exact tst_rel l σ
    · rw [if_neg h, skb_bad h, skb_bad h, if_neg (by decide), if_neg (by decide)]
      have := tst_rel l σ
      refine ⟨this.s.trans ?_, fun e => absurd e h⟩
      unfold tst; dsimp only; rw [opd_bad h, if_neg h]
theorem top_rel (l : List Tok) (n : Nat) : RlF (orE l (ntE l n)) (orE l (rnt l n)) := rw_rel (l := l) (rw_rel (l := l) (nt_rel l n) [65, 78, 68] 5) [79, 82] 6
theorem GdF.rnt {l : List Tok} (w : Wt l) (n : Nat) : GdF l n (rnt l n) := fun σ h hm => by rw [(nt_rel l n σ).s]; exact GdF.nt w n σ h hm
def relsL : List (List UInt8) := [[], [61], [60, 62], [60], [60, 61], [62], [62, 61]]
theorem rel_at : ∀ i : Nat, 1 ≤ i → i < 7 → relT (relsL.getD i []) = i
  | 0, h, _ => by omega
  | 1, _, _ => rfl
  | 2, _, _ => rfl
  | 3, _, _ => rfl
  | 4, _, _ => rfl
  | 5, _, _ => rfl
  | 6, _, _ => rfl
  | n + 7, _, h => by omega
theorem rel_none {s : List UInt8} (h : ∀ i : Nat, 1 ≤ i → i < 7 → s ≠ relsL.getD i []) : relT s = 0 := by
  have h1 : s ≠ [61] := h 1 (by omega) (by omega)
  have h2 : s ≠ [60, 62] := h 2 (by omega) (by omega)
  have h3 : s ≠ [60] := h 3 (by omega) (by omega)
  have h4 : s ≠ [60, 61] := h 4 (by omega) (by omega)
  have h5 : s ≠ [62] := h 5 (by omega) (by omega)
  have h6 : s ≠ [62, 61] := h 6 (by omega) (by omega)
  unfold relT
  rw [if_neg h1, if_neg h2, if_neg h3, if_neg h4, if_neg h5, if_neg h6]
end Go.Proofs.Ytlmplofpclaokaa

/- The reference's operands and tests, walked. -/
namespace Go.Proofs.Ytlmplofpclaokaa
set_option autoImplicit false
set_option linter.unusedSimpArgs false
set_option linter.unusedVariables false
attribute [local irreducible] callA callP ACalls
set_option maxHeartbeats 2000000 in
theorem roperand_spec {l : List Tok} (w : Wt l) {σ : PSt} (h : σ.p < l.length) (H : AH) : ACalls PG broadsheetref15_operand.n [.rows 4 (l.map tkR), stA σ] H fun r H' => r = .tup [opA (opd l σ).1, stA (opd l σ).2] ∧ H' = H := by
  have hw := w.len
  refine ACalls.fz (broadsheetref15_operand.of rfl (wpF_start ?_))
  (first | refine au ?_ | exact au0 | fail)
  intro id3 hid3 ht3; have n3 := neAll_of hid3; (try simp only [neAll, neAll_hset] at n3); have m3 := n3; (repeat (obtain ⟨_, m3⟩ := m3))
  (first | refine au ?_ | exact au0 | fail)
  intro id4 hid4 ht4; have n4 := neAll_of hid4; (try simp only [neAll, neAll_hset] at n4); have m4 := n4; (repeat (obtain ⟨_, m4⟩ := m4))
  (first | refine au ?_ | exact au0 | fail)
  intro id5 hid5 ht5; have n5 := neAll_of hid5; (try simp only [neAll, neAll_hset] at n5); have m5 := n5; (repeat (obtain ⟨_, m5⟩ := m5))
  (first | refine au ?_ | exact au0 | fail)
  unfold opd
  refine bsplit_dec (fun h1 => ?_) (fun h1 => ?_)
  · rw [if_neg h1]
    (first | refine au ?_ | exact au0 | fail)
    exact ⟨fz_of, sub_of⟩
  · have h1' := Classical.not_not.1 h1
    have hsk : skb l σ 5 [45] = isT l σ 5 [45] := skb_ok h1' _ _
    rw [if_pos h1']
    (first | refine au ?_ | exact au0 | fail)
    refine callF_eq (ris_spec w h 5 [45] _) ?_
    unfold skp
    rw [hsk]
    cases hN : isT l σ 5 [45] with
    | true =>
      rw [if_pos rfl]
      unfold opd1
      have h4 := Gd.on w h (by rw [(isT_ne hN).1]; decide)
      have h4l : σ.p + 1 < l.length := h4.lt
      (first | refine au ?_ | exact au0 | fail)
      rw [show (Int.toNat ((σ.p : Nat) + 1)) = σ.on.p from rfl, tk_get h4.lt]
      (first | refine au ?_ | exact au0 | fail)
      refine bsplit_dec (fun h2 => ?_) (fun h2 => ?_)
      · rw [if_neg h2, if_pos rfl]
        (first | refine au ?_ | exact au0 | fail)
        refine callF_eq (rbad_spec w h4.lt 11 _) ?_
        (first | refine au ?_ | exact au0 | fail)
        exact ⟨fz_of, sub_of⟩
      · rw [if_pos (Classical.not_not.1 h2)]
        (first | refine au ?_ | exact au0 | fail)
        rw [show (Int.toNat ((σ.p : Nat) + 1)) = σ.on.p from rfl, tk_get h4.lt]
        (first | refine au ?_ | exact au0 | fail)
        exact ⟨fz_of, sub_of⟩
    | false =>
      rw [if_neg (by decide : ¬ false = true)]
      unfold opd1
      rw [if_neg (by decide : ¬ false = true)]
      (first | refine au ?_ | exact au0 | fail)
      rw [show (Int.toNat (σ.p : Nat)) = σ.p from rfl, tk_get h]
      (first | refine au ?_ | exact au0 | fail)
      intro id6 hid6 ht6; have n6 := neAll_of hid6; (try simp only [neAll, neAll_hset] at n6); have m6 := n6; (repeat (obtain ⟨_, m6⟩ := m6))
      (first | refine au ?_ | exact au0 | fail)
      intro id7 hid7 ht7; have n7 := neAll_of hid7; (try simp only [neAll, neAll_hset] at n7); have m7 := n7; (repeat (obtain ⟨_, m7⟩ := m7))
      (first | refine au ?_ | exact au0 | fail)
      refine bsplit_dec (fun h2 => ?_) (fun h2 => ?_)
      · rw [if_pos h2]
        (first | refine au ?_ | exact au0 | fail)
        exact ⟨fz_of, sub_of⟩
      · rw [if_neg h2]
        (first | refine au ?_ | exact au0 | fail)
        refine bsplit_dec (fun h3 => ?_) (fun h3 => ?_)
        · rw [if_pos h3]
          (first | refine au ?_ | exact au0 | fail)
          exact ⟨fz_of, sub_of⟩
        · rw [if_neg h3]
          (first | refine au ?_ | exact au0 | fail)
          refine bsplit_dec (fun h4 => ?_) (fun h4 => ?_)
          · rw [if_pos h4]
            (first | refine au ?_ | exact au0 | fail)
            exact ⟨fz_of, sub_of⟩
          · rw [if_neg h4]
            unfold isT
            (first | refine au ?_ | exact au0 | fail)
            refine bsplit_dec (fun h5 => ?_) (fun h5 => ?_)
            · rw [decide_eq_true h5]
              (first | refine au ?_ | exact au0 | fail)
              refine bsplit_dec (fun h6 => ?_) (fun h6 => ?_)
              · rw [decide_eq_true h6]
                (first | refine au ?_ | exact au0 | fail)
                exact ⟨fz_of, sub_of⟩
              · rw [decide_eq_false h6]
                (first | refine au ?_ | exact au0 | fail)
                refine bsplit_dec (fun h7 => ?_) (fun h7 => ?_)
                · rw [decide_eq_true h7]
                  (first | refine au ?_ | exact au0 | fail)
                  exact ⟨fz_of, sub_of⟩
                · rw [decide_eq_false h7]
                  (first | refine au ?_ | exact au0 | fail)
                  refine callF_eq (rpath_spec w h h1' _) ?_
                  (first | refine au ?_ | exact au0 | fail)
                  exact ⟨fz_of, sub_of⟩
            · rw [decide_eq_false h5]
              (first | refine au ?_ | exact au0 | fail)
              refine callF_eq (rpath_spec w h h1' _) ?_
              (first | refine au ?_ | exact au0 | fail)
              exact ⟨fz_of, sub_of⟩
end Go.Proofs.Ytlmplofpclaokaa

/- The reference's tests, walked. -/
namespace Go.Proofs.Ytlmplofpclaokaa
set_option autoImplicit false
set_option linter.unusedSimpArgs false
set_option linter.unusedVariables false
attribute [local irreducible] callA callP ACalls
theorem strRow_get (l : List (List UInt8)) {i : Nat} (h : i < l.length) : (strRow l).getD i [] = [.str (l.getD i [])] := by
  simp [strRow, List.getD, h]
set_option maxHeartbeats 4000000 in
theorem rtest_spec {l : List Tok} (w : Wt l) {σ : PSt} (h : σ.p < l.length) (H : AH) : ACalls PG broadsheetref15_test.n [.rows 4 (l.map tkR), stA σ] H fun r H' => r = .tup [exA (rtst l σ).1, stA (rtst l σ).2] ∧ H' = H := by
  have hw := w.len
  have hG := Gd.opd w h
  refine ACalls.fz (broadsheetref15_test.of rfl (wpF_start ?_))
  (first | refine au ?_ | exact au0 | fail)
  intro id3 hid3 ht3; have n3 := neAll_of hid3; (try simp only [neAll, neAll_hset] at n3); have m3 := n3; (repeat (obtain ⟨_, m3⟩ := m3))
  (first | refine au ?_ | exact au0 | fail)
  intro id4 hid4 ht4; have n4 := neAll_of hid4; (try simp only [neAll, neAll_hset] at n4); have m4 := n4; (repeat (obtain ⟨_, m4⟩ := m4))
  (first | refine au ?_ | exact au0 | fail)
  intro id5 hid5 ht5; have n5 := neAll_of hid5; (try simp only [neAll, neAll_hset] at n5); have m5 := n5; (repeat (obtain ⟨_, m5⟩ := m5))
  (first | refine au ?_ | exact au0 | fail)
  refine callF_eq (roperand_spec w h _) ?_
  generalize hR : rtst l σ = R
  unfold rtst at hR
  dsimp only at hR
  generalize opd l σ = a at *
  obtain ⟨a, τ⟩ := a
  have hlt := hG.lt
  dsimp only at hR hlt
  (first | refine au ?_ | exact au0 | fail)
  intro id6 hid6 ht6; have n6 := neAll_of hid6; (try simp only [neAll, neAll_hset] at n6); have m6 := n6; (repeat (obtain ⟨_, m6⟩ := m6))
  (first | refine au ?_ | exact au0 | fail)
  refine ⟨fun n L H' => ∃ i : Nat, n = 8 - i ∧ 1 ≤ i ∧ i ≤ 7 ∧ (∀ j, 1 ≤ j → j < i → skb l τ 5 (relsL.getD j []) = false) ∧ L = [(0, some (.rows 4 (l.map tkR))), (3, some (.ptr id3 4 0 0)), (4, some (.ptr id4 4 0 0)), (5, some (.ptr id5 4 0 0)), (6, some (.ptr id6 4 0 0)), (7, some (.rows 1 (strRow relsL))), (8, some (.int .i64 i))] ∧
      H' = (id6, .rows 4 [(opA a).cells]) :: (id5, .rows 4 [[.int .i64 0, .int .i64 0, .int .i64 0, .int .i64 0]]) :: (id4, .rows 4 [[.int .i64 0, .int .i64 0, .nilS, .nilS]]) :: (id3, .rows 4 [(stA τ).cells]) :: H,
    ⟨_, _, (by repeat (first | exact trivial | refine And.intro (Or.inl rfl) ?_ | refine And.intro (Or.inr (Exists.intro _ (And.intro rfl (Fz.refl _)))) ?_)), Sub.refl _, 7, 1, rfl, by omega, by omega, fun j a b => by omega, rfl, rfl⟩, ?_⟩
  clear hid4 hid5 hid6
  rintro n L H' ⟨i, rfl, hi1, hi7, hno, rfl, rfl⟩
  have hl7 : (strRow relsL).length = 7 := rfl
  (first | refine au ?_ | exact au0 | fail)
  refine bsplit_dec (fun h1 => ?_) (fun h1 => ?_)
  · have hi : i < 7 := by omega
    (first | refine au ?_ | exact au0 | fail)
    rw [show (Int.toNat (i : Nat)) = i from rfl, strRow_get relsL (by exact hi)]
    (first | refine au ?_ | exact au0 | fail)
    refine callF_eq (ris_spec w hlt 5 (relsL.getD i []) _) ?_
    cases hS : skb l τ 5 (relsL.getD i []) with
    | true =>
      obtain ⟨q1, q2, q3⟩ := skb_ne hS
      have hrel : relOf (tk l τ.p) = i := by unfold relOf; rw [if_pos q2, q3, rel_at i hi1 hi]
      rw [hrel, if_pos ⟨q1, by omega⟩] at hR
      subst hR
      have h2 := Gd.on w hlt (by rw [q2]; decide)
      have h2l : τ.p + 1 < l.length := h2.lt
      (first | refine au ?_ | exact au0 | fail)
      refine callF_eq (roperand_spec w h2.lt _) ?_
      (first | refine au ?_ | exact au0 | fail)
      intro id9 hid9 ht9; have n9 := neAll_of hid9; (try simp only [neAll, neAll_hset] at n9); have m9 := n9; (repeat (obtain ⟨_, m9⟩ := m9))
      (first | refine au ?_ | exact au0 | fail)
      intro id10 hid10 ht10; have n10 := neAll_of hid10; (try simp only [neAll, neAll_hset] at n10); have m10 := n10; (repeat (obtain ⟨_, m10⟩ := m10))
      (first | refine au ?_ | exact au0 | fail)
      exact ⟨fz_of, sub_of⟩
    | false =>
      (first | refine au ?_ | exact au0 | fail)
      refine ⟨_, _, ?_, Sub.refl _, 8 - (i + 1), by omega, i + 1, rfl, by omega, by omega, fun j a b => ?_, rfl, rfl⟩
      · exact (by repeat (first | exact trivial | refine And.intro (Or.inl rfl) ?_ | refine And.intro (Or.inr (Exists.intro _ (And.intro rfl (Fz.refl _)))) ?_))
      · rcases Nat.lt_or_ge j i with c | c
        · exact hno j a c
        · rw [show j = i from by omega]; exact hS
  · have hi : i = 7 := by omega
    subst hi
    have hnr : ¬ (τ.e = 0 ∧ 0 < relOf (tk l τ.p)) := by
      rintro ⟨q1, q2⟩
      have h5 := relOf_pos q2
      unfold relOf at q2
      rw [if_pos h5, rel_none] at q2
      · omega
      · intro j a b e
        have := hno j a b
        unfold skb isT at this
        rw [decide_eq_true q1, decide_eq_true h5, decide_eq_true e] at this
        cases this
    rw [if_neg hnr] at hR
    clear hno
    (first | refine au ?_ | exact au0 | fail)
    refine callF_eq (ris_spec w hlt 1 [76, 73, 75, 69] _) ?_
    cases hS : skb l τ 1 [76, 73, 75, 69] with
    | true =>
      rw [hS, if_pos rfl] at hR
      subst hR
      have h2 := Gd.on w hlt (by rw [(skb_ne hS).2.1]; decide)
      have h2l : τ.p + 1 < l.length := h2.lt
      (first | refine au ?_ | exact au0 | fail)
      refine callF_eq (roperand_spec w h2.lt _) ?_
      (first | refine au ?_ | exact au0 | fail)
      intro id11 hid11 ht11; have n11 := neAll_of hid11; (try simp only [neAll, neAll_hset] at n11); have m11 := n11; (repeat (obtain ⟨_, m11⟩ := m11))
      (first | refine au ?_ | exact au0 | fail)
      intro id12 hid12 ht12; have n12 := neAll_of hid12; (try simp only [neAll, neAll_hset] at n12); have m12 := n12; (repeat (obtain ⟨_, m12⟩ := m12))
      (first | refine au ?_ | exact au0 | fail)
      exact ⟨fz_of, sub_of⟩
    | false =>
      rw [hS, if_neg (by decide)] at hR
      (first | refine au ?_ | exact au0 | fail)
      refine callF_eq (ris_spec w hlt 1 [78, 79, 84] _) ?_
      have hG3 := Gd.skp w hlt (k := 1) (by decide) [78, 79, 84]
      (first | refine ab ?_ | exact ab0 | fail)
      refine .inr ⟨[(0, some (.rows 4 (l.map tkR))), (3, some (.ptr id3 4 0 0)), (4, some (.ptr id4 4 0 0)), (5, some (.ptr id5 4 0 0)), (6, some (.ptr id6 4 0 0)), (13, some (.bool (skb l τ 1 [78, 79, 84])))],
        (id6, .rows 4 [(opA a).cells]) :: (id5, .rows 4 [[.int .i64 0, .int .i64 0, .int .i64 0, .int .i64 0]]) :: (id4, .rows 4 [[.int .i64 0, .int .i64 0, .nilS, .nilS]]) :: (id3, .rows 4 [(stA (skp l τ 1 [78, 79, 84])).cells]) :: H, ?_, ?_⟩
      · unfold skp
        cases hB : skb l τ 1 [78, 79, 84] with
        | true =>
          have h2 := Gd.on w hlt (by rw [(skb_ne hB).2.1]; decide)
          have h2l : τ.p + 1 < l.length := h2.lt
          (first | refine au ?_ | exact au0 | fail)
          exact ⟨(by repeat (first | exact trivial | refine And.intro (Or.inl rfl) ?_ | refine And.intro (Or.inr (Exists.intro _ (And.intro rfl (Fz.refl _)))) ?_)), sub_of⟩
        | false =>
          (first | refine au ?_ | exact au0 | fail)
          exact ⟨(by repeat (first | exact trivial | refine And.intro (Or.inl rfl) ?_ | refine And.intro (Or.inr (Exists.intro _ (And.intro rfl (Fz.refl _)))) ?_)), sub_of⟩
      · generalize skp l τ 1 [78, 79, 84] = τ2 at *
        generalize skb l τ 1 [78, 79, 84] = nt at *
        unfold btw at hR
        dsimp only at hR
        have hG4 := Gd.mst w hG3.lt (k := 1) (by decide) [66, 69, 84, 87, 69, 69, 78]
        (first | refine au ?_ | exact au0 | fail)
        refine callF_eq (rmust_spec w hG3.lt 1 _ _) ?_
        generalize mst l τ2 1 [66, 69, 84, 87, 69, 69, 78] = τ3 at *
        have hG5 := Gd.opd w hG4.lt
        (first | refine au ?_ | exact au0 | fail)
        refine callF_eq (roperand_spec w hG4.lt _) ?_
        generalize opd l τ3 = b at *
        obtain ⟨b, τ4⟩ := b
        dsimp only at hG5 hR
        (first | refine au ?_ | exact au0 | fail)
        intro id14 hid14 ht14; have n14 := neAll_of hid14; (try simp only [neAll, neAll_hset] at n14); have m14 := n14; (repeat (obtain ⟨_, m14⟩ := m14))
        (first | refine au ?_ | exact au0 | fail)
        have hG6 := Gd.mst w hG5.lt (k := 1) (by decide) [65, 78, 68]
        refine callF_eq (rmust_spec w hG5.lt 1 _ _) ?_
        generalize mst l τ4 1 [65, 78, 68] = τ5 at *
        (first | refine au ?_ | exact au0 | fail)
        refine callF_eq (roperand_spec w hG6.lt _) ?_
        generalize opd l τ5 = c at *
        obtain ⟨c, τ6⟩ := c
        dsimp only at hR
        (first | refine au ?_ | exact au0 | fail)
        intro id15 hid15 ht15; have n15 := neAll_of hid15; (try simp only [neAll, neAll_hset] at n15); have m15 := n15; (repeat (obtain ⟨_, m15⟩ := m15))
        (first | refine au ?_ | exact au0 | fail)
        intro id16 hid16 ht16; have n16 := neAll_of hid16; (try simp only [neAll, neAll_hset] at n16); have m16 := n16; (repeat (obtain ⟨_, m16⟩ := m16))
        (first | refine au ?_ | exact au0 | fail)
        subst hR
        cases nt with
        | true =>
          (first | refine au ?_ | exact au0 | fail)
          exact ⟨fz_of, sub_of⟩
        | false =>
          (first | refine au ?_ | exact au0 | fail)
          exact ⟨fz_of, sub_of⟩
end Go.Proofs.Ytlmplofpclaokaa

/- The reference's rows and NOTs, walked. -/
namespace Go.Proofs.Ytlmplofpclaokaa
set_option autoImplicit false
set_option linter.unusedSimpArgs false
set_option linter.unusedVariables false
attribute [local irreducible] callA callP ACalls
theorem hdel_ne {i id : Nat} {c : Blk} {T : AH} (h : i ≠ id) : hdel ((i, c) :: T) id = (i, c) :: hdel T id := by simp only [hdel]; rw [if_neg (fun e => h e.symm)]
/-- A part that the reference reads. -/
def RrF (l : List Tok) (m : Nat) (fn : Nat) (more : List AV) (f : PSt → Ex × PSt) : Prop :=
  ∀ σ : PSt, σ.p < l.length → l.length - σ.p ≤ m → σ.n ≤ 8 → ∀ H, ACalls PG fn (.rows 4 (l.map tkR) :: stA σ :: more) H fun r H' => r = .tup [exA (f σ).1, stA (f σ).2] ∧ H' = H
theorem rrow5_spec {l : List Tok} (w : Wt l) {m : Nat} {f : PSt → Ex × PSt} (hin : RrF l m broadsheetref15_not.n [] f) (hg : GdF l m f) : RrF l m broadsheetref15_row.n [.int .i64 5] (andE l f) := by
  unfold andE
  intro σ h hm hn H
  have hw := w.len
  refine ACalls.fz (broadsheetref15_row.of rfl (wpF_start ?_))
  (first | refine au ?_ | exact au0 | fail)
  intro id4 hid4 ht4; have n4 := neAll_of hid4; (try simp only [neAll, neAll_hset] at n4); have m4 := n4; (repeat (obtain ⟨_, m4⟩ := m4))
  (first | refine au ?_ | exact au0 | fail)
  intro id6 hid6 ht6; have n6 := neAll_of hid6; (try simp only [neAll, neAll_hset] at n6); have m6 := n6; (repeat (obtain ⟨_, m6⟩ := m6))
  (first | refine au ?_ | exact au0 | fail)
  intro id7 hid7 ht7; have n7 := neAll_of hid7; (try simp only [neAll, neAll_hset] at n7); have m7 := n7; (repeat (obtain ⟨_, m7⟩ := m7))
  (first | refine au ?_ | exact au0 | fail)
  have G1 := hg σ h hm
  generalize hRR : rw' l f [65, 78, 68] 5 σ = RR
  unfold rw' at hRR
  dsimp only at hRR
  generalize hR : rwL l f [65, 78, 68] (l.length + 1) [(f σ).1] (f σ).2 = R at hRR
  refine ⟨fun n L H' => ∃ (τ : PSt) (acc : List Ex) (kv : AV), τ.p < l.length ∧ σ.p ≤ τ.p ∧ τ.n = σ.n ∧ l.length < τ.p + n ∧ acc.length + n ≤ l.length + 1 ∧ (acc = [] → τ = σ) ∧ rwL l f [65, 78, 68] n (acc ++ [(f τ).1]) (f τ).2 = R ∧
      L = [(0, some (.rows 4 (l.map tkR))), (2, some (.int .i64 5)), (4, some (.ptr id4 4 0 0)), (6, some (.ptr id6 4 0 0)), (7, some (.ptr id7 4 0 0)), (8, some (.str [65, 78, 68])), (9, some kv)] ∧
      ((kv = .nilS ∧ acc = [] ∧ H' = (id7, .rows 4 [[.int .i64 0, .int .i64 0, .int .i64 0, .int .i64 0]]) :: (id6, .rows 4 [[.int .i64 0, .int .i64 0, .nilS, .nilS]]) :: (id4, .rows 4 [(stA τ).cells]) :: H) ∨
        ∃ idk, kv = .own idk 4 0 (exRs acc).length ∧ acc ≠ [] ∧ tag idk = ty_api_Expr ∧ idk ≠ id7 ∧ idk ≠ id6 ∧ idk ≠ id4 ∧ neAll H idk ∧
          H' = (idk, .rows 4 (exRs acc)) :: (id7, .rows 4 [[.int .i64 0, .int .i64 0, .int .i64 0, .int .i64 0]]) :: (id6, .rows 4 [[.int .i64 0, .int .i64 0, .nilS, .nilS]]) :: (id4, .rows 4 [(stA τ).cells]) :: H),
    ⟨_, _, (by repeat (first | exact trivial | refine And.intro (Or.inl rfl) ?_ | refine And.intro (Or.inr (Exists.intro _ (And.intro rfl (Fz.refl _)))) ?_)), Sub.refl _, l.length + 1, σ, [], .nilS, h, Nat.le_refl _, rfl, by omega, by simp, fun _ => rfl, hR, rfl, .inl ⟨rfl, rfl, rfl⟩⟩, ?_⟩
  rintro n L H' ⟨τ, acc, kv, hlt, hle, hnn, hn2, hac, hfirst, hR, rfl, hk⟩
  obtain ⟨n, rfl⟩ : ∃ m, n = m + 1 := ⟨n - 1, by omega⟩
  have G2 := hg τ hlt (by omega)
  have hc := hin τ hlt (by omega) (by omega)
  generalize hS : f τ = S at *
  obtain ⟨x, τ2⟩ := S
  have G2lt := G2.lt
  have G2le := G2.le
  have G2n := G2.n
  dsimp only at G2lt G2le G2n hR hc
  unfold rwL at hR
  have hel := exRs_len acc
  have hap := exRs_app acc x
  have key : ∀ (idn : Nat), tag idn = ty_api_Expr → idn ≠ id7 → idn ≠ id6 → idn ≠ id4 → neAll H idn → True := fun _ _ _ _ _ _ => trivial
  have hxl : (acc ++ [x]).length = acc.length + 1 := by simp
  rcases hk with ⟨rfl, rfl, rfl⟩ | ⟨idk, rfl, hne, htk, k1, k2, k3, k4, rfl⟩
  · obtain rfl := hfirst rfl
    (first | refine au ?_ | exact au0 | fail)
    intro id10 hid10 ht10; have n10 := neAll_of hid10; (try simp only [neAll, neAll_hset] at n10); have m10 := n10; (repeat (obtain ⟨_, m10⟩ := m10))
    (first | refine au ?_ | exact au0 | fail)
    refine callF_eq (hc _) ?_
    obtain ⟨op1, rel1, args1, kids1⟩ := x
    (first | refine au ?_ | exact au0 | fail)
    refine ⟨_, rfl, by simp, (fun e => by cases e), fun _ => ?_⟩
    intro id30 hid30 ht30; have n30 := neAll_of hid30; (try simp only [neAll, neAll_hset] at n30); have m30 := n30; (repeat (obtain ⟨_, m30⟩ := m30))
    (first | refine au ?_ | exact au0 | fail)
    refine callF_eq (ris_spec w G2lt 1 [65, 78, 68] _) ?_
    cases hs : skb l τ2 1 [65, 78, 68] with
    | true =>
      rw [hs, if_pos rfl] at hR
      have h3 := Gd.on w G2lt (by rw [(skb_ne hs).2.1]; decide)
      have h3l : τ2.p + 1 < l.length := h3.lt
      (first | refine au ?_ | exact au0 | fail)
      refine ⟨[(0, some (.rows 4 (l.map tkR))), (2, some (.int .i64 5)), (4, some (.ptr id4 4 0 0)), (6, some (.ptr id6 4 0 0)), (7, some (.ptr id7 4 0 0)), (8, some (.str [65, 78, 68])), (9, some (.own id30 4 0 (exRs ([] ++ [(Ex.mk op1 rel1 args1 kids1)])).length))],
        (id30, .rows 4 (exRs ([] ++ [(Ex.mk op1 rel1 args1 kids1)]))) :: (id7, .rows 4 [[.int .i64 0, .int .i64 0, .int .i64 0, .int .i64 0]]) :: (id6, .rows 4 [[.int .i64 0, .int .i64 0, .nilS, .nilS]]) :: (id4, .rows 4 [(stA τ2.on).cells]) :: H, (by repeat (first | exact trivial | refine And.intro (Or.inl rfl) ?_ | refine And.intro (Or.inr (Exists.intro _ (And.intro rfl (Fz.refl _)))) ?_)), ?_, n, by omega, τ2.on, [] ++ [(Ex.mk op1 rel1 args1 kids1)], _, h3.lt, ?_, G2n.trans hnn, ?_, ?_, fun e => by simp at e, hR, rfl, .inr ⟨id30, rfl, by simp, ht30, ?_, ?_, ?_, ?_, rfl⟩⟩
      · exact sub_of
      · show _ ≤ τ2.p + 1; omega
      · show l.length < τ2.p + 1 + n; omega
      · simp at hac ⊢; omega
      all_goals first | omega | assumption
    | false =>
      rw [hs, if_neg (by decide)] at hR
      subst hR
      dsimp only at hRR
      rw [if_pos (by rfl)] at hRR
      rw [hS] at hRR
      subst hRR
      (first | refine au ?_ | exact au0 | fail)
      refine And.intro ⟨Int.le_refl _, Int.ofNat_lt.2 (Nat.zero_lt_succ 0)⟩ ?_
      (first | refine au ?_ | exact au0 | fail)
      exact ⟨fz_of, sub_of⟩
  · (first | refine au ?_ | exact au0 | fail)
    intro id10 hid10 ht10; have n10 := neAll_of hid10; (try simp only [neAll, neAll_hset] at n10); have m10 := n10; (repeat (obtain ⟨_, m10⟩ := m10))
    (first | refine au ?_ | exact au0 | fail)
    refine callF_eq (hc _) ?_
    generalize hx0 : x = x0 at *
    obtain ⟨op1, rel1, args1, kids1⟩ := x0
    (first | refine au ?_ | exact au0 | fail)
    refine ⟨_, _, readS_own (by exact hg_of) (Nat.le_refl _), rfl, rfl, rfl, htk, by simp; omega, ?_⟩
    have e1 : List.drop 0 (List.take (exRs acc).length (exRs acc)) ++ (List.replicate 1 [AV.int .i64 0, .int .i64 0, .nilS, .nilS]).set 0 (AV.agg (List.take 4 (List.drop 0 (List.drop 0 (exR (Ex.mk op1 rel1 args1 kids1) ++ List.drop (exR (Ex.mk op1 rel1 args1 kids1)).length [AV.int .i64 0, .int .i64 0, .nilS, .nilS]))))).cells = exRs (acc ++ [(Ex.mk op1 rel1 args1 kids1)]) := by rw [hap, List.take_length]; rfl
    have e2 : (List.drop 0 (List.take (exRs acc).length (exRs acc))).length + ((List.replicate 1 [AV.int .i64 0, .int .i64 0, .nilS, .nilS]).set 0 (AV.agg (List.take 4 (List.drop 0 (List.drop 0 (exR (Ex.mk op1 rel1 args1 kids1) ++ List.drop (exR (Ex.mk op1 rel1 args1 kids1)).length [AV.int .i64 0, .int .i64 0, .nilS, .nilS]))))).cells).length = (exRs (acc ++ [(Ex.mk op1 rel1 args1 kids1)])).length := by rw [← e1, List.length_append]
    rw [hdel_ne (show id10 ≠ idk by omega), hdel_cons, e1, e2]
    rotate_left
    · exact hget_none ⟨k1, k2, k3, k4⟩
    intro id30 hid30 ht30; have n30 := neAll_of hid30; (try simp only [neAll, neAll_hset] at n30); have m30 := n30; (repeat (obtain ⟨_, m30⟩ := m30))
    (first | refine au ?_ | exact au0 | fail)
    refine callF_eq (ris_spec w G2lt 1 [65, 78, 68] _) ?_
    cases hs : skb l τ2 1 [65, 78, 68] with
    | true =>
      rw [hs, if_pos rfl] at hR
      have h3 := Gd.on w G2lt (by rw [(skb_ne hs).2.1]; decide)
      have h3l : τ2.p + 1 < l.length := h3.lt
      (first | refine au ?_ | exact au0 | fail)
      refine ⟨[(0, some (.rows 4 (l.map tkR))), (2, some (.int .i64 5)), (4, some (.ptr id4 4 0 0)), (6, some (.ptr id6 4 0 0)), (7, some (.ptr id7 4 0 0)), (8, some (.str [65, 78, 68])), (9, some (.own id30 4 0 (exRs (acc ++ [(Ex.mk op1 rel1 args1 kids1)])).length))],
        (id30, .rows 4 (exRs (acc ++ [(Ex.mk op1 rel1 args1 kids1)]))) :: (id7, .rows 4 [[.int .i64 0, .int .i64 0, .int .i64 0, .int .i64 0]]) :: (id6, .rows 4 [[.int .i64 0, .int .i64 0, .nilS, .nilS]]) :: (id4, .rows 4 [(stA τ2.on).cells]) :: H, (by repeat (first | exact trivial | refine And.intro (Or.inl rfl) ?_ | refine And.intro (Or.inr (Exists.intro _ (And.intro rfl (Fz.refl _)))) ?_)), ?_, n, by omega, τ2.on, acc ++ [(Ex.mk op1 rel1 args1 kids1)], _, h3.lt, ?_, G2n.trans hnn, ?_, ?_, fun e => by simp at e, hR, rfl, .inr ⟨id30, rfl, by simp, ht30, ?_, ?_, ?_, ?_, rfl⟩⟩
      · exact sub_of
      · show _ ≤ τ2.p + 1; omega
      · show l.length < τ2.p + 1 + n; omega
      · simp at hac ⊢; omega
      all_goals first | omega | assumption
    | false =>
      rw [hs, if_neg (by decide)] at hR
      subst hR
      dsimp only at hRR
      have hap2 : 0 < acc.length := List.length_pos_iff.2 hne
      rw [if_neg (by simp; omega)] at hRR
      subst hRR
      have hel2 := exRs_len (acc ++ [Ex.mk op1 rel1 args1 kids1])
      (first | refine au ?_ | exact au0 | fail)
      refine ⟨Fz.tupL (FzL.cons (Fz.aggL (FzL.cons (.refl _) (FzL.cons (.refl _) (FzL.cons (.nil _) (FzL.cons ?_ (FzL.nil _ _)))))) (FzL.cons (.refl _) (FzL.nil _ _))), sub_of⟩
      exact Fz.ownL (by exact hg_of) (hget_none m30) (FzR.refl _ _ _) (exRs_w _)
theorem rrow6_spec' {l : List Tok} (w : Wt l) {m : Nat} {f : PSt → Ex × PSt} (hin : RrF l m broadsheetref15_row.n [.int .i64 5] f) (hg : GdF l m f) : RrF l m broadsheetref15_row.n [.int .i64 6] (rw' l f [79, 82] 6) := by
  intro σ h hm hn H
  have hw := w.len
  refine ACalls.fz (broadsheetref15_row.of rfl (wpF_start ?_))
  (first | refine au ?_ | exact au0 | fail)
  intro id4 hid4 ht4; have n4 := neAll_of hid4; (try simp only [neAll, neAll_hset] at n4); have m4 := n4; (repeat (obtain ⟨_, m4⟩ := m4))
  (first | refine au ?_ | exact au0 | fail)
  intro id6 hid6 ht6; have n6 := neAll_of hid6; (try simp only [neAll, neAll_hset] at n6); have m6 := n6; (repeat (obtain ⟨_, m6⟩ := m6))
  (first | refine au ?_ | exact au0 | fail)
  intro id7 hid7 ht7; have n7 := neAll_of hid7; (try simp only [neAll, neAll_hset] at n7); have m7 := n7; (repeat (obtain ⟨_, m7⟩ := m7))
  (first | refine au ?_ | exact au0 | fail)
  have G1 := hg σ h hm
  generalize hRR : rw' l f [79, 82] 6 σ = RR
  unfold rw' at hRR
  dsimp only at hRR
  generalize hR : rwL l f [79, 82] (l.length + 1) [(f σ).1] (f σ).2 = R at hRR
  refine ⟨fun n L H' => ∃ (τ : PSt) (acc : List Ex) (kv : AV), τ.p < l.length ∧ σ.p ≤ τ.p ∧ τ.n = σ.n ∧ l.length < τ.p + n ∧ acc.length + n ≤ l.length + 1 ∧ (acc = [] → τ = σ) ∧ rwL l f [79, 82] n (acc ++ [(f τ).1]) (f τ).2 = R ∧
      L = [(0, some (.rows 4 (l.map tkR))), (2, some (.int .i64 6)), (4, some (.ptr id4 4 0 0)), (6, some (.ptr id6 4 0 0)), (7, some (.ptr id7 4 0 0)), (8, some (.str [79, 82])), (9, some kv)] ∧
      ((kv = .nilS ∧ acc = [] ∧ H' = (id7, .rows 4 [[.int .i64 0, .int .i64 0, .int .i64 0, .int .i64 0]]) :: (id6, .rows 4 [[.int .i64 0, .int .i64 0, .nilS, .nilS]]) :: (id4, .rows 4 [(stA τ).cells]) :: H) ∨
        ∃ idk, kv = .own idk 4 0 (exRs acc).length ∧ acc ≠ [] ∧ tag idk = ty_api_Expr ∧ idk ≠ id7 ∧ idk ≠ id6 ∧ idk ≠ id4 ∧ neAll H idk ∧
          H' = (idk, .rows 4 (exRs acc)) :: (id7, .rows 4 [[.int .i64 0, .int .i64 0, .int .i64 0, .int .i64 0]]) :: (id6, .rows 4 [[.int .i64 0, .int .i64 0, .nilS, .nilS]]) :: (id4, .rows 4 [(stA τ).cells]) :: H),
    ⟨_, _, (by repeat (first | exact trivial | refine And.intro (Or.inl rfl) ?_ | refine And.intro (Or.inr (Exists.intro _ (And.intro rfl (Fz.refl _)))) ?_)), Sub.refl _, l.length + 1, σ, [], .nilS, h, Nat.le_refl _, rfl, by omega, by simp, fun _ => rfl, hR, rfl, .inl ⟨rfl, rfl, rfl⟩⟩, ?_⟩
  rintro n L H' ⟨τ, acc, kv, hlt, hle, hnn, hn2, hac, hfirst, hR, rfl, hk⟩
  obtain ⟨n, rfl⟩ : ∃ m, n = m + 1 := ⟨n - 1, by omega⟩
  have G2 := hg τ hlt (by omega)
  have hc := hin τ hlt (by omega) (by omega)
  generalize hS : f τ = S at *
  obtain ⟨x, τ2⟩ := S
  have G2lt := G2.lt
  have G2le := G2.le
  have G2n := G2.n
  dsimp only at G2lt G2le G2n hR hc
  unfold rwL at hR
  have hel := exRs_len acc
  have hap := exRs_app acc x
  have key : ∀ (idn : Nat), tag idn = ty_api_Expr → idn ≠ id7 → idn ≠ id6 → idn ≠ id4 → neAll H idn → True := fun _ _ _ _ _ _ => trivial
  have hxl : (acc ++ [x]).length = acc.length + 1 := by simp
  rcases hk with ⟨rfl, rfl, rfl⟩ | ⟨idk, rfl, hne, htk, k1, k2, k3, k4, rfl⟩
  · obtain rfl := hfirst rfl
    (first | refine au ?_ | exact au0 | fail)
    intro id10 hid10 ht10; have n10 := neAll_of hid10; (try simp only [neAll, neAll_hset] at n10); have m10 := n10; (repeat (obtain ⟨_, m10⟩ := m10))
    (first | refine au ?_ | exact au0 | fail)
    refine callF_eq (hc _) ?_
    obtain ⟨op1, rel1, args1, kids1⟩ := x
    (first | refine au ?_ | exact au0 | fail)
    refine ⟨_, rfl, by simp, (fun e => by cases e), fun _ => ?_⟩
    intro id30 hid30 ht30; have n30 := neAll_of hid30; (try simp only [neAll, neAll_hset] at n30); have m30 := n30; (repeat (obtain ⟨_, m30⟩ := m30))
    (first | refine au ?_ | exact au0 | fail)
    refine callF_eq (ris_spec w G2lt 1 [79, 82] _) ?_
    cases hs : skb l τ2 1 [79, 82] with
    | true =>
      rw [hs, if_pos rfl] at hR
      have h3 := Gd.on w G2lt (by rw [(skb_ne hs).2.1]; decide)
      have h3l : τ2.p + 1 < l.length := h3.lt
      (first | refine au ?_ | exact au0 | fail)
      refine ⟨[(0, some (.rows 4 (l.map tkR))), (2, some (.int .i64 6)), (4, some (.ptr id4 4 0 0)), (6, some (.ptr id6 4 0 0)), (7, some (.ptr id7 4 0 0)), (8, some (.str [79, 82])), (9, some (.own id30 4 0 (exRs ([] ++ [(Ex.mk op1 rel1 args1 kids1)])).length))],
        (id30, .rows 4 (exRs ([] ++ [(Ex.mk op1 rel1 args1 kids1)]))) :: (id7, .rows 4 [[.int .i64 0, .int .i64 0, .int .i64 0, .int .i64 0]]) :: (id6, .rows 4 [[.int .i64 0, .int .i64 0, .nilS, .nilS]]) :: (id4, .rows 4 [(stA τ2.on).cells]) :: H, (by repeat (first | exact trivial | refine And.intro (Or.inl rfl) ?_ | refine And.intro (Or.inr (Exists.intro _ (And.intro rfl (Fz.refl _)))) ?_)), ?_, n, by omega, τ2.on, [] ++ [(Ex.mk op1 rel1 args1 kids1)], _, h3.lt, ?_, G2n.trans hnn, ?_, ?_, fun e => by simp at e, hR, rfl, .inr ⟨id30, rfl, by simp, ht30, ?_, ?_, ?_, ?_, rfl⟩⟩
      · exact sub_of
      · show _ ≤ τ2.p + 1; omega
      · show l.length < τ2.p + 1 + n; omega
      · simp at hac ⊢; omega
      all_goals first | omega | assumption
    | false =>
      rw [hs, if_neg (by decide)] at hR
      subst hR
      dsimp only at hRR
      rw [if_pos (by rfl)] at hRR
      rw [hS] at hRR
      subst hRR
      (first | refine au ?_ | exact au0 | fail)
      refine And.intro ⟨Int.le_refl _, Int.ofNat_lt.2 (Nat.zero_lt_succ 0)⟩ ?_
      (first | refine au ?_ | exact au0 | fail)
      exact ⟨fz_of, sub_of⟩
  · (first | refine au ?_ | exact au0 | fail)
    intro id10 hid10 ht10; have n10 := neAll_of hid10; (try simp only [neAll, neAll_hset] at n10); have m10 := n10; (repeat (obtain ⟨_, m10⟩ := m10))
    (first | refine au ?_ | exact au0 | fail)
    refine callF_eq (hc _) ?_
    generalize hx0 : x = x0 at *
    obtain ⟨op1, rel1, args1, kids1⟩ := x0
    (first | refine au ?_ | exact au0 | fail)
    refine ⟨_, _, readS_own (by exact hg_of) (Nat.le_refl _), rfl, rfl, rfl, htk, by simp; omega, ?_⟩
    have e1 : List.drop 0 (List.take (exRs acc).length (exRs acc)) ++ (List.replicate 1 [AV.int .i64 0, .int .i64 0, .nilS, .nilS]).set 0 (AV.agg (List.take 4 (List.drop 0 (List.drop 0 (exR (Ex.mk op1 rel1 args1 kids1) ++ List.drop (exR (Ex.mk op1 rel1 args1 kids1)).length [AV.int .i64 0, .int .i64 0, .nilS, .nilS]))))).cells = exRs (acc ++ [(Ex.mk op1 rel1 args1 kids1)]) := by rw [hap, List.take_length]; rfl
    have e2 : (List.drop 0 (List.take (exRs acc).length (exRs acc))).length + ((List.replicate 1 [AV.int .i64 0, .int .i64 0, .nilS, .nilS]).set 0 (AV.agg (List.take 4 (List.drop 0 (List.drop 0 (exR (Ex.mk op1 rel1 args1 kids1) ++ List.drop (exR (Ex.mk op1 rel1 args1 kids1)).length [AV.int .i64 0, .int .i64 0, .nilS, .nilS]))))).cells).length = (exRs (acc ++ [(Ex.mk op1 rel1 args1 kids1)])).length := by rw [← e1, List.length_append]
    rw [hdel_ne (show id10 ≠ idk by omega), hdel_cons, e1, e2]
    rotate_left
    · exact hget_none ⟨k1, k2, k3, k4⟩
    intro id30 hid30 ht30; have n30 := neAll_of hid30; (try simp only [neAll, neAll_hset] at n30); have m30 := n30; (repeat (obtain ⟨_, m30⟩ := m30))
    (first | refine au ?_ | exact au0 | fail)
    refine callF_eq (ris_spec w G2lt 1 [79, 82] _) ?_
    cases hs : skb l τ2 1 [79, 82] with
    | true =>
      rw [hs, if_pos rfl] at hR
      have h3 := Gd.on w G2lt (by rw [(skb_ne hs).2.1]; decide)
      have h3l : τ2.p + 1 < l.length := h3.lt
      (first | refine au ?_ | exact au0 | fail)
      refine ⟨[(0, some (.rows 4 (l.map tkR))), (2, some (.int .i64 6)), (4, some (.ptr id4 4 0 0)), (6, some (.ptr id6 4 0 0)), (7, some (.ptr id7 4 0 0)), (8, some (.str [79, 82])), (9, some (.own id30 4 0 (exRs (acc ++ [(Ex.mk op1 rel1 args1 kids1)])).length))],
        (id30, .rows 4 (exRs (acc ++ [(Ex.mk op1 rel1 args1 kids1)]))) :: (id7, .rows 4 [[.int .i64 0, .int .i64 0, .int .i64 0, .int .i64 0]]) :: (id6, .rows 4 [[.int .i64 0, .int .i64 0, .nilS, .nilS]]) :: (id4, .rows 4 [(stA τ2.on).cells]) :: H, (by repeat (first | exact trivial | refine And.intro (Or.inl rfl) ?_ | refine And.intro (Or.inr (Exists.intro _ (And.intro rfl (Fz.refl _)))) ?_)), ?_, n, by omega, τ2.on, acc ++ [(Ex.mk op1 rel1 args1 kids1)], _, h3.lt, ?_, G2n.trans hnn, ?_, ?_, fun e => by simp at e, hR, rfl, .inr ⟨id30, rfl, by simp, ht30, ?_, ?_, ?_, ?_, rfl⟩⟩
      · exact sub_of
      · show _ ≤ τ2.p + 1; omega
      · show l.length < τ2.p + 1 + n; omega
      · simp at hac ⊢; omega
      all_goals first | omega | assumption
    | false =>
      rw [hs, if_neg (by decide)] at hR
      subst hR
      dsimp only at hRR
      have hap2 : 0 < acc.length := List.length_pos_iff.2 hne
      rw [if_neg (by simp; omega)] at hRR
      subst hRR
      have hel2 := exRs_len (acc ++ [Ex.mk op1 rel1 args1 kids1])
      (first | refine au ?_ | exact au0 | fail)
      refine ⟨Fz.tupL (FzL.cons (Fz.aggL (FzL.cons (.refl _) (FzL.cons (.refl _) (FzL.cons (.nil _) (FzL.cons ?_ (FzL.nil _ _)))))) (FzL.cons (.refl _) (FzL.nil _ _))), sub_of⟩
      exact Fz.ownL (by exact hg_of) (hget_none m30) (FzR.refl _ _ _) (exRs_w _)
theorem rrow6_spec {l : List Tok} (w : Wt l) {m : Nat} {f : PSt → Ex × PSt} (hin : RrF l m broadsheetref15_not.n [] f) (hg : GdF l m f) : RrF l m broadsheetref15_row.n [.int .i64 6] (orE l f) := rrow6_spec' w (rrow5_spec w hin hg) (hg.rw w _ _)
theorem rnot_spec {l : List Tok} (w : Wt l) : ∀ n : Nat, RrF l n broadsheetref15_not.n [] (rnt l n)
  | 0 => fun σ h hm hn => by omega
  | n + 1 => by
    intro σ h hm hn H
    have ih := rnot_spec w n
    have hg := GdF.rnt w n
    have hw := w.len
    refine ACalls.fz (broadsheetref15_not.of rfl (wpF_start ?_))
    unfold rnt
    (first | refine au ?_ | exact au0 | fail)
    intro id3 hid3 ht3; have n3 := neAll_of hid3; (try simp only [neAll, neAll_hset] at n3); have m3 := n3; (repeat (obtain ⟨_, m3⟩ := m3))
    (first | refine au ?_ | exact au0 | fail)
    intro id4 hid4 ht4; have n4 := neAll_of hid4; (try simp only [neAll, neAll_hset] at n4); have m4 := n4; (repeat (obtain ⟨_, m4⟩ := m4))
    (first | refine au ?_ | exact au0 | fail)
    intro id5 hid5 ht5; have n5 := neAll_of hid5; (try simp only [neAll, neAll_hset] at n5); have m5 := n5; (repeat (obtain ⟨_, m5⟩ := m5))
    (first | refine au ?_ | exact au0 | fail)
    refine callF_eq (ris_spec w h 1 [78, 79, 84] _) ?_
    cases h2 : skb l σ 1 [78, 79, 84] with
    | true =>
      have hl := w.last _ h (by rw [(skb_ne h2).2.1]; decide)
      rw [if_pos rfl]
      unfold wth
      (first | refine au ?_ | exact au0 | fail)
      refine bsplit_dec (fun h1 => ?_) (fun h1 => ?_)
      · rw [if_pos (by omega)]
        (first | refine au ?_ | exact au0 | fail)
        refine callF_eq (rbad_spec w h 9 _) ?_
        (first | refine au ?_ | exact au0 | fail)
        exact ⟨fz_of, sub_of⟩
      · rw [if_neg (by omega)]
        have q := ih ⟨σ.p + 1, σ.n + 1, σ.e, σ.a⟩ hl (by show l.length - (σ.p + 1) ≤ n; omega) (by show σ.n + 1 ≤ 8; omega)
        have q2 := (hg ⟨σ.p + 1, σ.n + 1, σ.e, σ.a⟩ hl (by show l.length - (σ.p + 1) ≤ n; omega)).n
        unfold inNot
        generalize rnt l n ⟨σ.p + 1, σ.n + 1, σ.e, σ.a⟩ = R at *
        obtain ⟨x, τ⟩ := R
        obtain ⟨p, m, e, a⟩ := τ
        dsimp only at q2 ⊢
        subst q2
        (first | refine au ?_ | exact au0 | fail)
        intro id7 hid7 ht7; have n7 := neAll_of hid7; (try simp only [neAll, neAll_hset] at n7); have m7 := n7; (repeat (obtain ⟨_, m7⟩ := m7))
        (first | refine au ?_ | exact au0 | fail)
        refine callF_eq (q _) ?_
        obtain ⟨op, rel, args, kids⟩ := x
        (first | refine au ?_ | exact au0 | fail)
        rw [show (((σ.n + 1 : Nat) : Int) - 1) = ((σ.n + 1 - 1 : Nat) : Int) from by omega]
        exact ⟨fz_of, sub_of⟩
    | false =>
      rw [if_neg (by decide)]
      (first | refine au ?_ | exact au0 | fail)
      refine callF_eq (ris_spec w h 5 [40] _) ?_
      cases h3 : skb l σ 5 [40] with
      | true =>
        have hl := w.last _ h (by rw [(skb_ne h3).2.1]; decide)
        rw [if_pos rfl]
        unfold wth
        (first | refine au ?_ | exact au0 | fail)
        refine bsplit_dec (fun h1 => ?_) (fun h1 => ?_)
        · rw [if_pos (by omega)]
          (first | refine au ?_ | exact au0 | fail)
          refine callF_eq (rbad_spec w h 9 _) ?_
          (first | refine au ?_ | exact au0 | fail)
          exact ⟨fz_of, sub_of⟩
        · rw [if_neg (by omega)]
          have q := rrow6_spec w ih hg ⟨σ.p + 1, σ.n + 1, σ.e, σ.a⟩ hl (by show l.length - (σ.p + 1) ≤ n; omega) (by show σ.n + 1 ≤ 8; omega)
          have q1 := hg.or w ⟨σ.p + 1, σ.n + 1, σ.e, σ.a⟩ hl (by show l.length - (σ.p + 1) ≤ n; omega)
          unfold inBr
          generalize orE l (rnt l n) ⟨σ.p + 1, σ.n + 1, σ.e, σ.a⟩ = R at *
          obtain ⟨x, τ⟩ := R
          have q2 := (q1.trans (Gd.mst w q1.lt (k := 5) (by decide) [41])).n
          dsimp only at q2 q1 ⊢
          (first | refine au ?_ | exact au0 | fail)
          intro id7 hid7 ht7; have n7 := neAll_of hid7; (try simp only [neAll, neAll_hset] at n7); have m7 := n7; (repeat (obtain ⟨_, m7⟩ := m7))
          (first | refine au ?_ | exact au0 | fail)
          refine callF_eq (q _) ?_
          obtain ⟨op, rel, args, kids⟩ := x
          (first | refine au ?_ | exact au0 | fail)
          refine callF_eq (rmust_spec w q1.lt 5 [41] _) ?_
          generalize mst l τ 5 [41] = τ5 at *
          obtain ⟨p, m, e, a⟩ := τ5
          dsimp only at q2 ⊢
          subst q2
          (first | refine au ?_ | exact au0 | fail)
          rw [show (((σ.n + 1 : Nat) : Int) - 1) = ((σ.n + 1 - 1 : Nat) : Int) from by omega]
          exact ⟨fz_of, sub_of⟩
      | false =>
        rw [if_neg (by decide)]
        (first | refine au ?_ | exact au0 | fail)
        refine callF_eq (rtest_spec w h _) ?_
        generalize rtst l σ = R
        obtain ⟨x, τ⟩ := R
        obtain ⟨op, rel, args, kids⟩ := x
        (first | refine au ?_ | exact au0 | fail)
        exact ⟨fz_of, sub_of⟩
end Go.Proofs.Ytlmplofpclaokaa

/- What the tokens of a text are like; plain. -/
namespace Go.Proofs.Ytlmplofpclaokaa
set_option autoImplicit false
theorem qs_len : ∀ (m : Nat) (r : List UInt8) (i : Nat) (acc t : List UInt8) (n : Nat), r.length ≤ m → qs r i acc = .done t n → t.length ≤ acc.length + r.length
  | m, [], i, acc, t, n, _, h => by cases h
  | m, [c], i, acc, t, n, _, h => by
    simp only [qs] at h
    split at h
    · cases h
    · split at h
      · cases h; simp
      · cases h
  | 0, c :: d :: r, i, acc, t, n, hm, h => by simp at hm
  | m + 1, c :: d :: r, i, acc, t, n, hm, h => by
    simp only [List.length_cons] at hm ⊢
    simp only [qs] at h
    split at h
    · cases h
    · split at h
      · split at h
        · have := qs_len m r _ _ t n (by omega) h
          simp at this
          omega
        · cases h; omega
      · have := qs_len m (d :: r) _ _ t n (by simp; omega) h
        simp only [List.length_cons, List.length_append, List.length_nil] at this
        omega
theorem lex_tok {s : List UInt8} {k : Int} {t : List UInt8} {num n : Nat} (h : lex s = .tok k t num n) : 1 ≤ k ∧ k ≤ 5 ∧ t.length ≤ s.length ∧ (k = 1 → t ≠ []) := by
  cases s with
  | nil => cases h
  | cons c r =>
    rw [lex_cons] at h
    split at h
    · rename_i hc
      cases h
      refine ⟨by decide, by decide, by rw [List.length_take]; exact Nat.min_le_right _ _, fun _ => ?_⟩
      intro e
      have := congrArg List.length e
      rw [List.length_take, nl_cons, if_pos hc] at this
      simp at this
    · split at h
      · split at h
        · cases h
        · split at h
          · cases h; exact ⟨by decide, by decide, by rw [List.length_take]; exact Nat.min_le_right _ _, fun e => by cases e⟩
          · cases h
      · split at h
        · split at h
          · rename_i e; cases h
            have := qs_len _ _ _ _ _ _ (Nat.le_refl _) e
            simp only [List.length_nil] at this
            exact ⟨by decide, by decide, by simp only [List.length_cons]; omega, fun e => by cases e⟩
          · cases h
          · cases h
        · split at h
          · split at h
            · split at h
              · cases h; exact ⟨by decide, by decide, by simp, fun e => by cases e⟩
              · cases h
            · cases h
          · split at h
            · cases h
              exact ⟨by decide, by decide, by rw [List.length_take]; exact Nat.min_le_right _ _, fun e => by cases e⟩
            · cases h
/-- All but the last are tokens of the text. -/
structure Tks (s : List UInt8) (n : Nat) (l : List Tok) : Prop where
  ex : ∃ p : List Tok, l = p ++ [(6, [], 0, s.length)] ∧ p.length + n ≤ 64 ∧ ∀ t ∈ p, 1 ≤ t.1 ∧ t.1 ≤ 5 ∧ t.2.1.length ≤ s.length ∧ (t.1 = 1 → t.2.1 ≠ [])
theorem tks_wt (s : List UInt8) : ∀ (k a n : Nat) (l : List Tok), s.length - a ≤ k → n ≤ 64 → tks s a n = .ok l → Tks s n l
  | k, a, n, l, hk, hn, h => by
    rcases Nat.lt_or_ge a s.length with hl | hl
    · rw [tks_eq hl] at h
      obtain ⟨k, rfl⟩ : ∃ k', k = k' + 1 := ⟨k - 1, by omega⟩
      split at h
      · exact tks_wt s k _ n l (by omega) hn h
      · split at h
        · cases h
        · rename_i kk t num m hx
          have := lex_bound hx
          have ht := lex_tok hx
          split at h
          · cases h
          · cases hh : tks s (a + m) (n + 1) with
            | bad e p => rw [hh] at h; cases h
            | ok l' =>
              rw [hh] at h
              obtain ⟨p, rfl, q2, q3⟩ := tks_wt s k _ (n + 1) l' (by omega) (by omega) hh
              cases h
              refine ⟨(kk, t, num, a) :: p, rfl, by simp; omega, fun x hx => ?_⟩
              rcases List.mem_cons.1 hx with rfl | hx
              · refine ⟨ht.1, ht.2.1, ?_, ht.2.2.2⟩
                have := ht.2.2.1
                rw [List.length_drop] at this
                show t.length ≤ s.length
                omega
              · exact q3 x hx
    · rw [tks_end hl] at h
      cases h
      exact ⟨[], rfl, by simpa using hn, by simp⟩
theorem tokens_wt {s : List UInt8} {l : List Tok} (h : tokens s = .ok l) : Wt l := by
  unfold tokens at h
  split at h
  · cases h
  · rename_i hs
    obtain ⟨p, rfl, h2, h3⟩ := tks_wt s _ 0 0 l (Nat.le_refl _) (by omega) h
    have tkp : ∀ i, i < p.length → ∃ t ∈ p, tk (p ++ [(6, [], 0, s.length)]) i = t := fun i hi => ⟨p[i], List.getElem_mem hi, by
      unfold tk; rw [List.getD_eq_getElem?_getD, List.getElem?_append_left hi]; simp [hi]⟩
    have tko : ∀ i, p.length ≤ i → (tk (p ++ [(6, [], 0, s.length)]) i).1 = 6 ∧ (tk (p ++ [(6, [], 0, s.length)]) i).2.1 = [] := fun i hi => by
      unfold tk
      rw [List.getD_eq_getElem?_getD, List.getElem?_append_right hi]
      cases i - p.length with
      | zero => simp
      | succ j => simp
    refine ⟨by simp, by simp; omega, fun i hi h6 => ?_, fun i => ?_, fun i h1 => ?_⟩
    · rcases Nat.lt_or_ge i p.length with h | h
      · simp; omega
      · exact absurd (tko i h).1 h6
    · rcases Nat.lt_or_ge i p.length with h | h
      · obtain ⟨t, ht, e⟩ := tkp i h
        rw [e]
        have := (h3 t ht).2.2.1
        omega
      · rw [(tko i h).2]; simp
    · rcases Nat.lt_or_ge i p.length with h | h
      · obtain ⟨t, ht, e⟩ := tkp i h
        rw [e] at h1 ⊢
        exact (h3 t ht).2.2.2 h1
      · rw [(tko i h).1] at h1; cases h1
end Go.Proofs.Ytlmplofpclaokaa

/- What the reference's functions on tokens compute, further. -/
namespace Go.Proofs.Ytlmplofpclaokaa
set_option autoImplicit false
set_option linter.unusedSimpArgs false
set_option linter.unusedVariables false
--HSET
attribute [local irreducible] callA callP ACalls

theorem ref_kind_spec (s : List UInt8) (hs : s.length ≤ 140737488351230) (H : AH) : ACalls PG broadsheetref14_kind.n [.str s] H fun r H' => r = .int .i64 (kd s : Nat) ∧ H' = H := by
  have hle := nl_le s
  refine broadsheetref14_kind.of rfl (wpF_start ?_)
  (first | refine ah ?_ | exact ah0 | fail)
  refine callF_eq (ref_Lead_spec s hs _) ?_
  (first | refine ah ?_ | exact ah0 | fail)
  unfold kd
  refine bsplit_dec (fun h1 => ?_) (fun h1 => ?_)
  · (first | refine ah ?_ | exact ah0 | fail)
    rw [if_pos (by omega)]
    exact ⟨rfl, rfl⟩
  · rw [if_neg (show ¬ nl s = s.length by omega)]
    (first | refine ah ?_ | exact ah0 | fail)
    refine callF_eq (ref_digits_spec s (by omega) _) ?_
    (first | refine ah ?_ | exact ah0 | fail)
    refine bsplit_dec (fun h2 => ?_) (fun h2 => ?_)
    · (first | refine ah ?_ | exact ah0 | fail)
      rw [if_pos h2]
      exact ⟨rfl, rfl⟩
    · rw [if_neg h2]
      (first | refine ah ?_ | exact ah0 | fail)
      refine callF_eq (ref_Quoted_spec s hs _) ?_
      cases hq : qd s with
      | some t =>
        rw [if_pos (by rfl)]
        (first | refine ah ?_ | exact ah0 | fail)
      | none =>
        rw [if_neg (by intro q; cases q)]
        (first | refine ac ?_ | exact ac0 | fail)
        refine .inl (.inl ?_)
        by_cases h4 : s.length = 2 ∧ s.getD 0 0 = 37 ∧ dig (s.getD 1 0) = true
        · rw [if_pos h4]
          have hl := h4.1
          (first | refine ah ?_ | exact ah0 | fail)
          rw [show s.getD (Int.toNat 0) 0 = 37 from h4.2.1]
          (first | refine ah ?_ | exact ah0 | fail)
          refine callF_eq (ref_Digit_spec _ _) ?_
          rw [show dig (s.getD (Int.toNat 1) 0) = true from h4.2.2]
          (first | refine ah ?_ | exact ah0 | fail)
        · rw [if_neg h4]
          (first | refine ac ?_ | exact ac0 | fail)
          refine .inr ⟨[(0, some (.str s))], H, ?_, ?_⟩
          · (first | refine ah ?_ | exact ah0 | fail)
            refine bsplit_dec (fun h5 => ?_) (fun h5 => ?_)
            · (first | refine ah ?_ | exact ah0 | fail)
              refine bsplit_dec (fun h6 => ?_) (fun h6 => ?_)
              · (first | refine ah ?_ | exact ah0 | fail)
                refine callF_eq (ref_Digit_spec _ _) ?_
                have h7 : dig (s.getD (Int.toNat 1) 0) = false := by
                  cases hh : dig (s.getD (Int.toNat 1) 0) with
                  | false => rfl
                  | true => exact (h4 ⟨by omega, (u8lit _ 37 (by decide)).1 h6, hh⟩).elim
                rw [h7]
                (first | refine ah ?_ | exact ah0 | fail)
                exact ⟨(by repeat (first | exact trivial | refine And.intro (Or.inl rfl) ?_ | refine And.intro (Or.inr (Exists.intro _ (And.intro rfl (Fz.refl _)))) ?_)), Sub.refl _⟩
              · (first | refine ah ?_ | exact ah0 | fail)
                exact ⟨(by repeat (first | exact trivial | refine And.intro (Or.inl rfl) ?_ | refine And.intro (Or.inr (Exists.intro _ (And.intro rfl (Fz.refl _)))) ?_)), Sub.refl _⟩
            · (first | refine ah ?_ | exact ah0 | fail)
              exact ⟨(by repeat (first | exact trivial | refine And.intro (Or.inl rfl) ?_ | refine And.intro (Or.inr (Exists.intro _ (And.intro rfl (Fz.refl _)))) ?_)), Sub.refl _⟩
          · (first | refine ah ?_ | exact ah0 | fail)
            refine callF_of ((ref_Find_spec signs (by decide) s _).mono fun rr H2 hh => ?_)
            obtain ⟨⟨v, rfl, hv, hv2, hv3⟩, rfl⟩ := hh
            (first | refine ah ?_ | exact ah0 | fail)
            refine bsplit_dec (fun h5 => ?_) (fun h5 => ?_)
            · (first | refine ah ?_ | exact ah0 | fail)
              rw [if_pos (hv.1 h5)]
              exact ⟨rfl, rfl⟩
            · (first | refine ah ?_ | exact ah0 | fail)
              rw [if_neg (mt hv.2 h5)]
              exact ⟨rfl, rfl⟩

theorem kd_le (s : List UInt8) : kd s ≤ 5 := by
  unfold kd
  repeat' split
  all_goals omega
theorem ref_longest_spec (s : List UInt8) (hs : s.length ≤ 140737488351230) (h0 : s ≠ []) (H : AH) : ACalls PG broadsheetref14_longest.n [.str s] H fun r H' => r = .tup [.int .i64 ((longest s).1 : Nat), .int .i64 ((longest s).2 : Nat)] ∧ H' = H := by
  have hpos : 0 < s.length := List.length_pos_iff.2 h0
  refine broadsheetref14_longest.of rfl (wpF_start ?_)
  unfold longest
  generalize hR : lg s s.length 1 0 0 = R
  (first | refine ah ?_ | exact ah0 | fail)
  refine ⟨fun n L H' => ∃ (i b k : Nat), n = s.length + 1 - i ∧ 1 ≤ i ∧ i ≤ s.length + 1 ∧ b ≤ s.length ∧ k ≤ 5 ∧ lg s (s.length + 1 - i) i b k = R ∧ L = [(0, some (.str s)), (4, some (.int .i64 b)), (5, some (.int .i64 k)), (6, some (.int .i64 i))] ∧ H' = H,
    ⟨_, H, ?_, Sub.refl _, _, 1, 0, 0, rfl, Nat.le_refl _, by omega, by omega, by omega, hR, rfl, rfl⟩, ?_⟩
  · exact (by repeat (first | exact trivial | refine And.intro (Or.inl rfl) ?_ | refine And.intro (Or.inr (Exists.intro _ (And.intro rfl (Fz.refl _)))) ?_))
  · clear hR
    rintro n L H' ⟨i, b, k, rfl, hi, hi2, hb, hk, hR, rfl, rfl⟩
    (first | refine ah ?_ | exact ah0 | fail)
    refine bsplit_dec (fun h1 => ?_) (fun h1 => ?_)
    · have hile : i ≤ s.length := by omega
      have htl : (s.take i).length = i := by rw [List.length_take]; omega
      have hkd := kd_le (s.take i)
      rw [show s.length + 1 - i = (s.length + 1 - (i + 1)) + 1 from by omega] at hR
      unfold lg at hR
      (first | refine ah ?_ | exact ah0 | fail)
      rw [show List.drop (Int.toNat 0) (s.take (i : Int).toNat) = s.take i from by rw [Int.toNat_natCast]; rfl]
      refine callF_eq (ref_kind_spec _ (by omega) _) ?_
      generalize kd (s.take i) = c at *
      have go : ∀ b' k' : Nat, b' ≤ s.length → k' ≤ 5 → lg s (s.length + 1 - (i + 1)) (i + 1) b' k' = R → ∃ n, n < s.length + 1 - i ∧ ∃ (i2 b2 k2 : Nat), n = s.length + 1 - i2 ∧ 1 ≤ i2 ∧ i2 ≤ s.length + 1 ∧ b2 ≤ s.length ∧ k2 ≤ 5 ∧ lg s (s.length + 1 - i2) i2 b2 k2 = R ∧ [(0, some (AV.str s)), (4, some (.int .i64 b')), (5, some (.int .i64 k')), (6, some (.int .i64 (i + 1 : Nat)))] = [(0, some (AV.str s)), (4, some (.int .i64 b2)), (5, some (.int .i64 k2)), (6, some (.int .i64 i2))] ∧ H' = H' :=
        fun b' k' q1 q2 q3 => ⟨_, by omega, i + 1, b', k', rfl, by omega, by omega, q1, q2, q3, rfl, rfl⟩
      by_cases hc : c = 0
      · subst hc
        rw [if_neg (fun q => by omega)] at hR
        (first | refine ah ?_ | exact ah0 | fail)
        refine bsplit_dec (fun h2 => ?_) (fun h2 => ?_)
        · have h2' : s.getD 0 0 ≠ 39 := fun e => h2 (by rw [show s.getD (Int.toNat 0) 0 = 39 from e]; rfl)
          (first | refine ah ?_ | exact ah0 | fail)
          refine bsplit_dec (fun h3 => ?_) (fun h3 => ?_)
          · rw [if_pos ⟨h2', rfl, by omega⟩] at hR
            (first | refine ah ?_ | exact ah0 | fail)
            rw [← hR]
            exact ⟨rfl, rfl⟩
          · rw [if_neg (fun q => by omega), if_neg (by decide)] at hR
            (first | refine ah ?_ | exact ah0 | fail)
            exact ⟨[(0, some (.str s)), (4, some (.int .i64 b)), (5, some (.int .i64 k)), (6, some (.int .i64 (i + 1 : Nat)))], H', (by repeat (first | exact trivial | refine And.intro (Or.inl rfl) ?_ | refine And.intro (Or.inr (Exists.intro _ (And.intro rfl (Fz.refl _)))) ?_)), Sub.refl _, go b k hb hk hR⟩
        · have h2' : s.getD 0 0 = 39 := Classical.byContradiction fun e => h2 (fun q => e ((u8lit _ 39 (by decide)).1 q))
          rw [if_neg (fun q => q.1 h2'), if_neg (by decide)] at hR
          (first | refine ah ?_ | exact ah0 | fail)
          exact ⟨[(0, some (.str s)), (4, some (.int .i64 b)), (5, some (.int .i64 k)), (6, some (.int .i64 (i + 1 : Nat)))], H', (by repeat (first | exact trivial | refine And.intro (Or.inl rfl) ?_ | refine And.intro (Or.inr (Exists.intro _ (And.intro rfl (Fz.refl _)))) ?_)), Sub.refl _, go b k hb hk hR⟩
      · have hcp : 0 < c := by omega
        by_cases h3 : c = 3
        · subst h3
          (first | refine ah ?_ | exact ah0 | fail)
          refine bsplit_dec (fun h2 => ?_) (fun h2 => ?_)
          · rw [if_pos ⟨rfl, .inl (by omega)⟩] at hR
            (first | refine ah ?_ | exact ah0 | fail)
            rw [← hR]
            exact ⟨rfl, rfl⟩
          · (first | refine ah ?_ | exact ah0 | fail)
            rw [Int.toNat_natCast]
            refine bsplit_dec (fun h4 => ?_) (fun h4 => ?_)
            · rw [if_pos ⟨rfl, .inr (fun e => h4 (by rw [e]; rfl))⟩] at hR
              (first | refine ah ?_ | exact ah0 | fail)
              rw [← hR]
              exact ⟨rfl, rfl⟩
            · have h4' : s.getD i 0 = 39 := Classical.byContradiction fun e => h4 (fun q => e ((u8lit _ 39 (by decide)).1 q))
              rw [if_neg (fun q => q.2.elim (fun e => by omega) (fun e => e h4')), if_neg (fun q => by omega), if_pos (by decide)] at hR
              (first | refine ah ?_ | exact ah0 | fail)
              refine bsplit_dec (fun h5 => ?_) (fun h5 => ?_)
              · (first | refine ah ?_ | exact ah0 | fail)
                exact ⟨[(0, some (.str s)), (4, some (.int .i64 i)), (5, some (.int .i64 3)), (6, some (.int .i64 (i + 1 : Nat)))], H', (by repeat (first | exact trivial | refine And.intro (Or.inl rfl) ?_ | refine And.intro (Or.inr (Exists.intro _ (And.intro rfl (Fz.refl _)))) ?_)), Sub.refl _, go i 3 hile hkd hR⟩
              · (first | refine ah ?_ | exact ah0 | fail)
                exact ⟨[(0, some (.str s)), (4, some (.int .i64 i)), (5, some (.int .i64 3)), (6, some (.int .i64 (i + 1 : Nat)))], H', (by repeat (first | exact trivial | refine And.intro (Or.inl rfl) ?_ | refine And.intro (Or.inr (Exists.intro _ (And.intro rfl (Fz.refl _)))) ?_)), Sub.refl _, go i 3 hile hkd hR⟩
        · rw [if_neg (fun q => h3 q.1), if_neg (fun q => by omega), if_pos hcp] at hR
          (first | refine ah ?_ | exact ah0 | fail)
          refine bsplit_dec (fun h5 => ?_) (fun h5 => ?_)
          · (first | refine ah ?_ | exact ah0 | fail)
            exact ⟨[(0, some (.str s)), (4, some (.int .i64 i)), (5, some (.int .i64 c)), (6, some (.int .i64 (i + 1 : Nat)))], H', (by repeat (first | exact trivial | refine And.intro (Or.inl rfl) ?_ | refine And.intro (Or.inr (Exists.intro _ (And.intro rfl (Fz.refl _)))) ?_)), Sub.refl _, go i c hile hkd hR⟩
          · (first | refine ah ?_ | exact ah0 | fail)
            exact ⟨[(0, some (.str s)), (4, some (.int .i64 i)), (5, some (.int .i64 c)), (6, some (.int .i64 (i + 1 : Nat)))], H', (by repeat (first | exact trivial | refine And.intro (Or.inl rfl) ?_ | refine And.intro (Or.inr (Exists.intro _ (And.intro rfl (Fz.refl _)))) ?_)), Sub.refl _, go i c hile hkd hR⟩
    · obtain rfl : i = s.length + 1 := by omega
      rw [show s.length + 1 - (s.length + 1) = 0 from by omega] at hR
      unfold lg at hR
      (first | refine ah ?_ | exact ah0 | fail)
      refine bsplit_dec (fun h5 => ?_) (fun h5 => ?_)
      · rw [if_pos (by omega)] at hR
        (first | refine ah ?_ | exact ah0 | fail)
        rw [← hR]
        exact ⟨rfl, rfl⟩
      · rw [if_neg (by omega)] at hR
        (first | refine ah ?_ | exact ah0 | fail)
        rw [← hR]
        exact ⟨rfl, rfl⟩
end Go.Proofs.Ytlmplofpclaokaa

/- One token, as the reference takes it. -/
namespace Go.Proofs.Ytlmplofpclaokaa
set_option autoImplicit false
set_option linter.unusedSimpArgs false
set_option linter.unusedVariables false
--HSET
attribute [local irreducible] callA callP ACalls

theorem ref_num_spec (s : List UInt8) (hs : s.length ≤ 140737488351230) (hd : s.all dig = true) (h0 : s.length ≤ 1 ∨ s.getD 0 0 ≠ 48) (H : AH) :
    ACalls PG broadsheetref14_num.n [.str s] H fun r H' => r = (if numV s < 18446744073709551616 then .tup [.int .u64 (numV s : Nat), .bool true] else .tup [.int .u64 0, .bool false]) ∧ H' = H := by
  have hb := num_big hd h0
  refine broadsheetref14_num.of rfl (wpF_start ?_)
  by_cases hv : numV s < 18446744073709551616
  · rw [if_pos hv]
    have hnb : ¬ (20 < s.length ∨ (s.length = 20 ∧ (!(Op.bytesLess s maxT || decide (s = maxT))) = true)) := fun q => by have := hb.1 q; omega
    (first | refine ac ?_ | exact ac0 | fail)
    refine .inr ⟨[(0, some (.str s))], H, ?_, ?_⟩
    · (first | refine ah ?_ | exact ah0 | fail)
      by_cases h20 : s.length = 20
      · have hx : (Op.bytesLess s [49, 56, 52, 52, 54, 55, 52, 52, 48, 55, 51, 55, 48, 57, 53, 53, 49, 54, 49, 53] || decide (s = [49, 56, 52, 52, 54, 55, 52, 52, 48, 55, 51, 55, 48, 57, 53, 53, 49, 54, 49, 53])) = true := by
          cases hh : (Op.bytesLess s maxT || decide (s = maxT)) with
          | true => exact hh
          | false => exact (hnb (.inr ⟨h20, by rw [hh]; rfl⟩)).elim
        (first | refine ah ?_ | exact ah0 | fail)
        rw [hx]
        (first | refine ah ?_ | exact ah0 | fail)
        exact ⟨(by repeat (first | exact trivial | refine And.intro (Or.inl rfl) ?_ | refine And.intro (Or.inr (Exists.intro _ (And.intro rfl (Fz.refl _)))) ?_)), Sub.refl _⟩
      · (first | refine ah ?_ | exact ah0 | fail)
        exact ⟨(by repeat (first | exact trivial | refine And.intro (Or.inl rfl) ?_ | refine And.intro (Or.inr (Exists.intro _ (And.intro rfl (Fz.refl _)))) ?_)), Sub.refl _⟩
    · (first | refine ah ?_ | exact ah0 | fail)
      refine ⟨fun n L H' => ∃ i : Nat, n = s.length - i ∧ i ≤ s.length ∧ L = [(0, some (.str s)), (4, some (.int .u64 (numV (s.take i) : Nat))), (5, some (.int .i64 i))] ∧ H' = H, ⟨_, H, ?_, Sub.refl _, _, 0, rfl, Nat.zero_le _, rfl, rfl⟩, ?_⟩
      · exact (by repeat (first | exact trivial | refine And.intro (Or.inl rfl) ?_ | refine And.intro (Or.inr (Exists.intro _ (And.intro rfl (Fz.refl _)))) ?_))
      · rintro n L H' ⟨i, rfl, hi, rfl, rfl⟩
        (first | refine ah ?_ | exact ah0 | fail)
        refine bsplit_dec (fun h1 => ?_) (fun h1 => ?_)
        · have hdi : 48 ≤ (s.getD i 0).toNat ∧ (s.getD i 0).toNat ≤ 57 := (dig_iff _).1 (by
            rw [List.all_eq_true] at hd
            refine hd _ ?_
            rw [show s.getD i 0 = s[i]'(by omega) from by simp [List.getD, show i < s.length by omega]]
            exact List.getElem_mem _)
          have hsn : numV (s.take (i + 1)) = 10 * numV (s.take i) + ((s.getD i 0).toNat - 48) := by rw [take_at s 0 i (by omega), numV_snoc]
          have hm := numV_mono s (show i + 1 ≤ s.length by omega)
          rw [List.take_length] at hm
          (first | refine ah ?_ | exact ah0 | fail)
          rw [Int.toNat_natCast]
          (first | refine ah ?_ | exact ah0 | fail)
          refine ⟨[(0, some (.str s)), (4, some (.int .u64 (numV (s.take (i + 1)) : Nat))), (5, some (.int .i64 (i + 1 : Nat)))], H', ⟨.inr ⟨_, rfl, .refl _⟩, .inr (Exists.intro _ (And.intro ?_ (Fz.refl _))), .inr ⟨_, rfl, .refl _⟩, trivial⟩, Sub.refl _, _, ?_, i + 1, rfl, by omega, rfl, rfl⟩
          · show some (AV.int .u64 _) = some (AV.int .u64 _)
            congr 2
            omega
          · omega
        · (first | refine ah ?_ | exact ah0 | fail)
          obtain rfl : i = s.length := by omega
          rw [List.take_length]
          exact ⟨rfl, rfl⟩
  · rw [if_neg hv]
    have hbb := hb.2 (by omega)
    (first | refine ah ?_ | exact ah0 | fail)
    refine bsplit_dec (fun h1 => ?_) (fun h1 => ?_)
    · (first | refine ah ?_ | exact ah0 | fail)
    · obtain ⟨h20, hx⟩ := hbb.resolve_left (by omega)
      have hx : (Op.bytesLess s [49, 56, 52, 52, 54, 55, 52, 52, 48, 55, 51, 55, 48, 57, 53, 53, 49, 54, 49, 53] || decide (s = [49, 56, 52, 52, 54, 55, 52, 52, 48, 55, 51, 55, 48, 57, 53, 53, 49, 54, 49, 53])) = false := by
        cases hh : (Op.bytesLess s maxT || decide (s = maxT)) with
        | false => exact hh
        | true => rw [hh] at hx; cases hx
      (first | refine ah ?_ | exact ah0 | fail)
      rw [hx]
      (first | refine ah ?_ | exact ah0 | fail)

theorem ref_bad_spec (s : List UInt8) (at' : Nat) (ha : at' < s.length) (hs : s.length ≤ 140737488351230) (H : AH) :
    ACalls PG broadsheetref14_bad.n [.str s, .int .i64 at'] H fun r H' => r = fltA (if s.getD at' 0 = 39 then 2 else 11) at' ∧ H' = H := by
  refine ACalls.keepSub (K := fun r => r = fltA (if s.getD at' 0 = 39 then 2 else 11) at') (broadsheetref14_bad.of rfl (wpF_start ?_))
  (first | refine ah ?_ | exact ah0 | fail)
  intro id hid ht
  (first | refine ah ?_ | exact ah0 | fail)
  rw [Int.toNat_natCast]
  refine bsplit_dec (fun h1 => ?_) (fun h1 => ?_)
  · (first | refine ah ?_ | exact ah0 | fail)
    rw [if_neg (fun e => h1 (by rw [e]; rfl))]
    exact ⟨rfl, Sub.skip (Sub.refl _) hid⟩
  · (first | refine ah ?_ | exact ah0 | fail)
    rw [if_pos (show s.getD at' 0 = 39 from Classical.byContradiction fun e => h1 (fun q => e ((u8lit _ 39 (by decide)).1 q)))]
    exact ⟨rfl, Sub.skip (Sub.refl _) hid⟩

theorem lg_le (s : List UInt8) : ∀ m n b k, n + m ≤ s.length + 1 → b ≤ s.length → (lg s m n b k).1 ≤ s.length
  | 0, n, b, k, _, hb => by unfold lg; split <;> simp [hb]
  | m + 1, n, b, k, h, hb => by
    unfold lg
    split
    · show n ≤ _; omega
    · split
      · exact hb
      · split
        · exact lg_le s m _ _ _ (by omega) (by omega)
        · exact lg_le s m _ _ _ (by omega) hb
theorem longest_le (s : List UInt8) : (longest s).1 ≤ s.length := lg_le s _ _ _ _ (by omega) (Nat.zero_le _)
theorem fo_take {l : List UInt8} {j : Nat} (hj : j < l.length) (hn : fo (l.take j) = none) : (oddB (l.getD j 0) = true → ∀ m, j < m → fo (l.take m) = some j) ∧ (oddB (l.getD j 0) = false → fo (l.take (j + 1)) = none) := by
  induction l generalizing j with
  | nil => simp at hj
  | cons c l ih =>
    cases j with
    | zero =>
      constructor
      · intro h m hm
        obtain ⟨m, rfl⟩ : ∃ m', m = m' + 1 := ⟨m - 1, by omega⟩
        rw [List.take_succ_cons, fo, if_pos (by simpa using h)]
      · intro h
        rw [List.take_succ_cons, fo, if_neg (by simpa using h)]; rfl
    | succ j =>
      rw [List.take_succ_cons, fo] at hn
      split at hn
      · cases hn
      · rename_i hc
        have hn' : fo (l.take j) = none := by
          cases hh : fo (l.take j) with
          | none => rfl
          | some x => rw [hh] at hn; cases hn
        obtain ⟨i1, i2⟩ := ih (by simpa using hj) hn'
        rw [List.getD_cons_succ]
        constructor
        · intro h m hm
          obtain ⟨m, rfl⟩ : ∃ m', m = m' + 1 := ⟨m - 1, by omega⟩
          rw [List.take_succ_cons, fo, if_neg hc, i1 h m (by omega)]; rfl
        · intro h
          rw [List.take_succ_cons, fo, if_neg hc, i2 h]; rfl
def oddV (at' : Nat) (o : Option Nat) : Int := match o with
  | some j => ((at' + j : Nat) : Int)
  | none => -1
theorem ref_odd_spec (s : List UInt8) (at' : Nat) (ha : at' < s.length) (hs : s.length ≤ 140737488351230) (H : AH) :
    ACalls PG broadsheetref14_odd.n [.str s, .int .i64 at'] H fun r H' => r = .int .i64 (oddV at' (fo ((s.drop at').take (if 0 < (longest (s.drop at')).1 then (longest (s.drop at')).1 else (s.drop at').length)))) ∧ H' = H := by
  have hdl : (s.drop at').length = s.length - at' := List.length_drop
  have hL := longest_le (s.drop at')
  have hne : s.drop at' ≠ [] := fun e => by rw [e] at hdl; simp at hdl; omega
  refine broadsheetref14_odd.of rfl (wpF_start ?_)
  (first | refine ah ?_ | exact ah0 | fail)
  rw [show List.drop (at' : Int).toNat (s.take (s.length : Int).toNat) = s.drop at' from by rw [Int.toNat_natCast, Int.toNat_natCast, List.take_length]]
  refine callF_eq (ref_longest_spec _ (by omega) hne _) ?_
  (first | refine ac ?_ | exact ac0 | fail)
  generalize hE : (if 0 < (longest (s.drop at')).1 then (longest (s.drop at')).1 else (s.drop at').length) = E
  have hEl : E ≤ s.length - at' := by rw [← hE]; split <;> omega
  refine .inr ⟨[(0, some (.str s)), (1, some (.int .i64 at')), (7, some (.int .i64 (at' + E : Nat)))], H, ?_, ?_⟩
  · (first | refine ah ?_ | exact ah0 | fail)
    refine bsplit_dec (fun h1 => ?_) (fun h1 => ?_)
    · rw [if_pos (by omega)] at hE
      (first | refine ah ?_ | exact ah0 | fail)
      refine ⟨⟨.inr ⟨_, rfl, .refl _⟩, .inr ⟨_, rfl, .refl _⟩, .inr (Exists.intro _ (And.intro ?_ (Fz.refl _))), trivial⟩, Sub.refl _⟩
      show some (AV.int .i64 _) = some (AV.int .i64 _)
      congr 2
      omega
    · rw [if_neg (by omega)] at hE
      (first | refine ah ?_ | exact ah0 | fail)
      refine ⟨⟨.inr ⟨_, rfl, .refl _⟩, .inr ⟨_, rfl, .refl _⟩, .inr (Exists.intro _ (And.intro ?_ (Fz.refl _))), trivial⟩, Sub.refl _⟩
      show some (AV.int .i64 _) = some (AV.int .i64 _)
      congr 2
      omega
  · (first | refine ah ?_ | exact ah0 | fail)
    refine ⟨fun n L H' => ∃ j : Nat, n = E - j ∧ j ≤ E ∧ fo ((s.drop at').take j) = none ∧ L = [(0, some (.str s)), (7, some (.int .i64 (at' + E : Nat))), (8, some (.int .i64 (at' + j : Nat)))] ∧ H' = H, ⟨_, H, ?_, Sub.refl _, _, 0, rfl, Nat.zero_le _, rfl, rfl, rfl⟩, ?_⟩
    · exact (by repeat (first | exact trivial | refine And.intro (Or.inl rfl) ?_ | refine And.intro (Or.inr (Exists.intro _ (And.intro rfl (Fz.refl _)))) ?_))
    · rintro n L H' ⟨j, rfl, hj, hf, rfl, rfl⟩
      (first | refine ah ?_ | exact ah0 | fail)
      refine bsplit_dec (fun h1 => ?_) (fun h1 => ?_)
      · obtain ⟨f1, f2⟩ := fo_take (l := s.drop at') (j := j) (by omega) hf
        rw [show (s.drop at').getD j 0 = s.getD (at' + j) 0 from by simp [List.getD]] at f1 f2
        (first | refine ah ?_ | exact ah0 | fail)
        rw [Int.toNat_natCast]
        refine bsplit_dec (fun h2 => ?_) (fun h2 => ?_)
        · (first | refine ah ?_ | exact ah0 | fail)
          rw [f1 ((oddB_iff _).2 (.inl (by omega))) E (by omega)]
          exact ⟨rfl, rfl⟩
        · (first | refine ah ?_ | exact ah0 | fail)
          rw [Int.toNat_natCast]
          refine bsplit_dec (fun h3 => ?_) (fun h3 => ?_)
          · (first | refine ah ?_ | exact ah0 | fail)
            rw [f1 ((oddB_iff _).2 (.inr (by omega))) E (by omega)]
            exact ⟨rfl, rfl⟩
          · (first | refine ah ?_ | exact ah0 | fail)
            have hno : oddB (s.getD (at' + j) 0) = false := by
              cases hh : oddB (s.getD (at' + j) 0) with
              | false => rfl
              | true => rw [oddB_iff] at hh; omega
            refine ⟨[(0, some (.str s)), (7, some (.int .i64 (at' + E : Nat))), (8, some (.int .i64 (at' + (j + 1) : Nat)))], H', ⟨.inr ⟨_, rfl, .refl _⟩, .inr ⟨_, rfl, .refl _⟩, .inr (Exists.intro _ (And.intro ?_ (Fz.refl _))), trivial⟩, Sub.refl _, _, ?_, j + 1, rfl, by omega, f2 hno, rfl, rfl⟩
            · show some (AV.int .i64 _) = some (AV.int .i64 _)
              congr 2
            · omega
      · (first | refine ah ?_ | exact ah0 | fail)
        obtain rfl : j = E := by omega
        rw [hf]
        exact ⟨rfl, rfl⟩
end Go.Proofs.Ytlmplofpclaokaa

/- One token, as the reference takes it: the walk. -/
namespace Go.Proofs.Ytlmplofpclaokaa
set_option autoImplicit false
set_option linter.unusedSimpArgs false
set_option linter.unusedVariables false
--HSET
attribute [local irreducible] callA callP ACalls

structure OneK (R : LR) (at' : Nat) (r : AV) : Prop where
  tok : ∀ k t num n, R = .tok k t num n → r = .tup [tokA k t num at', .int .i64 (n : Nat), fltA 0 0]
  bad : ∀ e off, R = .bad e off → ∃ k t num a m, r = .tup [tokA k t num a, .int .i64 m, fltA e (at' + off : Nat)]
theorem OneK.of_tok {at' : Nat} {k : Int} {t : List UInt8} {num n : Nat} {r : AV} (h : r = .tup [tokA k t num at', .int .i64 (n : Nat), fltA 0 0]) : OneK (.tok k t num n) at' r :=
  ⟨(fun k t num n e => by cases e; exact h), (fun e off q => by cases q)⟩
theorem OneK.of_bad {at' : Nat} {e : Int} {off : Nat} {k num a m : Int} {t : List UInt8} {r : AV} (h : r = .tup [tokA k t num a, .int .i64 m, fltA e (at' + off : Nat)]) : OneK (.bad e off) at' r :=
  ⟨(fun k t num n e => by cases e), (fun e' off' q => by cases q; exact ⟨k, t, num, a, m, h⟩)⟩
theorem slcn (s : List UInt8) (a n : Nat) : List.drop a (s.take (a + n)) = (s.drop a).take n := by rw [List.take_drop]
theorem sub_two {H : AH} {id2 id3 : Nat} {b2 b2' b3 : Blk} (h2 : hget H id2 = none) (h3 : hget ((id2, b2') :: H) id3 = none) : Sub H ((id3, b3) :: (id2, b2) :: H) := by
  obtain ⟨n, h3'⟩ := hget_fresh h3
  refine Sub.skip (Sub.skip (Sub.refl _) h2) ((hget_tail n.symm).trans h3')

set_option maxHeartbeats 4000000 in
theorem ref_one_spec (s : List UInt8) (at' : Nat) (ha : at' < s.length) (hs : s.length ≤ 140737488351230) (H : AH) :
    ACalls PG broadsheetref14_one.n [.str s, .int .i64 at'] H fun r H' => OneK (lex (s.drop at')) at' r ∧ H' = H := by
  have hdl : (s.drop at').length = s.length - at' := List.length_drop
  have hL := longest_le (s.drop at')
  have hdr : s.drop at' = s.getD at' 0 :: s.drop (at' + 1) := drop_at s 0 at' ha
  have hne : s.drop at' ≠ [] := fun e => by rw [e] at hdl; simp at hdl; omega
  have hrest : List.drop (at' : Int).toNat (s.take (s.length : Int).toNat) = s.drop at' := by rw [Int.toNat_natCast, Int.toNat_natCast, List.take_length]
  refine ACalls.keepSub (K := fun r => OneK (lex (s.drop at')) at' r) (broadsheetref14_one.of rfl (wpF_start ?_))
  (first | refine ah ?_ | exact ah0 | fail)
  intro id2 hid2 ht2
  (first | refine ah ?_ | exact ah0 | fail)
  intro id3 hid3 ht3
  obtain ⟨n32, hid3'⟩ := hget_fresh hid3
  (first | refine ah ?_ | exact ah0 | fail)
  rw [Int.toNat_natCast]
  by_cases h39 : s.getD at' 0 = 39
  · rw [h39] at hdr
    rw [h39]
    (first | refine ah ?_ | exact ah0 | fail)
    refine callF_eq (ref_odd_spec s at' ha hs _) ?_
    have hlen : (39 :: s.drop (at' + 1)).length = (s.drop (at' + 1)).length + 1 := rfl
    have hfo : ∀ l, fo (39 :: l) = (fo l).map (· + 1) := fun l => rfl
    have hdl1 := hdl
    rw [hdr, hlen] at hdl1
    cases hq : qz (s.drop (at' + 1)) 1 [] with
    | some p =>
      obtain ⟨t, n⟩ := p
      obtain ⟨m, f1, f2, f3, f4, f5⟩ := qz_to _ _ (Nat.le_refl _) _ _ _ _ hq
      have hlo : longest (s.drop at') = (n, 3) := by rw [hdr, longest_39, hq]
      have hfr : fo ((s.drop at').take (if 0 < (longest (s.drop at')).1 then (longest (s.drop at')).1 else (s.drop at').length)) = (fo ((s.drop (at' + 1)).take (n - 1))).map (· + 1) := by
        rw [hlo, if_pos (show 0 < n by omega), hdr, take_cons1 _ _ (by omega), hfo]
      have hlx : lex (s.drop at') = (match fo ((s.drop (at' + 1)).take (n - 1)) with
        | some j => .bad 10 (j + 1)
        | none => .tok 3 t 0 n) := by
        rw [hdr, lex_text, qs_eq _ _ (Nat.le_refl _), hq]
        simp only []
        cases fo ((s.drop (at' + 1)).take (n - 1)) with
        | none => rfl
        | some j => show LR.bad 10 (1 + j) = _; rw [Nat.add_comm]
      rw [hfr]
      cases hf : fo ((s.drop (at' + 1)).take (n - 1)) with
      | some j =>
        rw [hlx, hf]
        rw [show oddV at' (Option.map (· + 1) (some j)) = ((at' + (j + 1) : Nat) : Int) from rfl]
        (first | refine ah ?_ | exact ah0 | fail)
        exact ⟨OneK.of_bad rfl, sub_two hid2 hid3⟩
      | none =>
        rw [hf] at hlx
        rw [show oddV at' (Option.map (· + 1) none) = -1 from rfl]
        (first | refine ah ?_ | exact ah0 | fail)
        rw [hrest]
        refine callF_eq (ref_longest_spec _ (by omega) hne _) ?_
        rw [hlo]
        rw [hlo] at hL
        have hL' : n ≤ s.length - at' := by rw [← List.length_drop]; exact hL
        (first | refine ah ?_ | exact ah0 | fail)
        intro id10 hid10 ht10
        obtain ⟨m3, hid10'⟩ := hget_fresh hid10
        obtain ⟨m2, hid10''⟩ := hget_fresh hid10'
        (first | refine ah ?_ | exact ah0 | fail)
        rw [show List.drop (at' : Int).toNat (s.take ((at' : Int) + (n : Nat)).toNat) = (s.drop at').take n from by rw [show ((at' : Int) + (n : Nat)).toNat = at' + n from by omega, Int.toNat_natCast, slcn]]
        refine callF_eq (ref_Quoted_spec _ (by rw [List.length_take]; omega) _) ?_
        rw [hdr, take_cons1 _ _ (by omega), qd_39, show n - 1 = m from by omega, f4, ← hdr]
        (first | refine ah ?_ | exact ah0 | fail)
        rw [hlx]
        exact ⟨OneK.of_tok rfl, Sub.skip (sub_two hid2 hid3) ((hget_tail m3.symm).trans ((hget_tail m2.symm).trans hid10''))⟩
    | none =>
      have hlo : longest (s.drop at') = (0, 0) := by rw [hdr, longest_39, hq]
      have hfr : fo ((s.drop at').take (if 0 < (longest (s.drop at')).1 then (longest (s.drop at')).1 else (s.drop at').length)) = (fo (s.drop (at' + 1))).map (· + 1) := by
        rw [hlo, if_neg (by decide), List.take_length, hdr, hfo]
      have hlx : lex (s.drop at') = (match fo (s.drop (at' + 1)) with
        | some j => .bad 10 (j + 1)
        | none => .bad 2 0) := by
        rw [hdr, lex_text, qs_eq _ _ (Nat.le_refl _), hq]
        simp only []
        cases fo (s.drop (at' + 1)) with
        | none => rfl
        | some j => show LR.bad 10 (1 + j) = _; rw [Nat.add_comm]
      rw [hfr]
      cases hf : fo (s.drop (at' + 1)) with
      | some j =>
        rw [hlx, hf]
        rw [show oddV at' (Option.map (· + 1) (some j)) = ((at' + (j + 1) : Nat) : Int) from rfl]
        (first | refine ah ?_ | exact ah0 | fail)
        exact ⟨OneK.of_bad rfl, sub_two hid2 hid3⟩
      | none =>
        rw [hf] at hlx
        rw [show oddV at' (Option.map (· + 1) none) = -1 from rfl]
        (first | refine ah ?_ | exact ah0 | fail)
        rw [hrest]
        refine callF_eq (ref_longest_spec _ (by omega) hne _) ?_
        rw [hlo]
        (first | refine ah ?_ | exact ah0 | fail)
        refine callF_eq (ref_bad_spec s at' ha hs _) ?_
        rw [h39, hlx]
        (first | refine ah ?_ | exact ah0 | fail)
        exact ⟨OneK.of_bad rfl, sub_two hid2 hid3⟩
  · have hn39 : (s.getD at' 0).toNat ≠ 39 := fun e => h39 ((nat_eq _ 39 (by decide)).2 e)
    rw [hdl] at hL
    cases hl : ltr (s.getD at' 0) with
    | true =>
      have hlo : longest (s.drop at') = (nl (s.drop at'), 1) := by rw [hdr]; exact longest_ltr hl
      have hlx : lex (s.drop at') = .tok 1 ((s.drop at').take (nl (s.drop at'))) 0 (nl (s.drop at')) := by rw [hdr]; exact lex_word _ _ hl
      have hpos := (lex_bound hlx).1
      rw [hlx]
      generalize nl (s.drop at') = n at *
      (first | refine ah ?_ | exact ah0 | fail)
      rw [hrest]
      have hsp := ref_longest_spec (s.drop at') (by omega) hne
      rw [hlo] at hsp hL
      dsimp only at hsp hL
      refine callF_eq (hsp _) ?_
      (first | refine ah ?_ | exact ah0 | fail)
      intro id10 hid10 ht10
      obtain ⟨m3, hid10'⟩ := hget_fresh hid10
      obtain ⟨m2, hid10''⟩ := hget_fresh hid10'
      (first | refine ah ?_ | exact ah0 | fail)
      rw [show List.drop (at' : Int).toNat (s.take ((at' : Int) + (n : Nat)).toNat) = (s.drop at').take n from by rw [show ((at' : Int) + (n : Nat)).toNat = at' + n from by omega, Int.toNat_natCast, slcn]]
      exact ⟨OneK.of_tok rfl, Sub.skip (sub_two hid2 hid3) ((hget_tail m3.symm).trans ((hget_tail m2.symm).trans hid10''))⟩
    | false =>
      cases hd : dig (s.getD at' 0) with
      | true =>
        have hlo : longest (s.drop at') = (dl (s.drop at'), 2) := by rw [hdr]; exact longest_dig hd
        have hlx := lex_num (s.getD at' 0) (s.drop (at' + 1)) hl hd
        rw [← hdr, show (s.drop at').getD 0 0 = s.getD at' 0 from by rw [hdr]; rfl] at hlx
        have hpos : 1 ≤ dl (s.drop at') := (dl_step (s := s.drop at') (n := 0) (Nat.zero_le _) (by omega)).2 (by rw [hdr]; exact hd)
        have hall : ((s.drop at').take (dl (s.drop at'))).all dig = true := tw_all (Nat.le_refl _)
        rw [hlx]
        generalize dl (s.drop at') = n at *
        (first | refine ah ?_ | exact ah0 | fail)
        rw [hrest]
        have hsp := ref_longest_spec (s.drop at') (by omega) hne
        rw [hlo] at hsp hL
        dsimp only at hsp hL
        refine callF_eq (hsp _) ?_
        have hL' : n ≤ s.length - at' := hL
        (first | refine ah ?_ | exact ah0 | fail)
        intro id10 hid10 ht10
        obtain ⟨m3, hid10'⟩ := hget_fresh hid10
        obtain ⟨m2, hid10''⟩ := hget_fresh hid10'
        (first | refine ah ?_ | exact ah0 | fail)
        rw [show List.drop (at' : Int).toNat (s.take ((at' : Int) + (n : Nat)).toNat) = (s.drop at').take n from by rw [show ((at' : Int) + (n : Nat)).toNat = at' + n from by omega, Int.toNat_natCast, slcn]]
        by_cases hz : 1 < n ∧ s.getD at' 0 = 48
        · have hz1 := hz.1
          rw [if_pos hz]
          (first | refine ah ?_ | exact ah0 | fail)
          rw [Int.toNat_natCast, hz.2]
          (first | refine ah ?_ | exact ah0 | fail)
          exact ⟨OneK.of_bad rfl, Sub.skip (sub_two hid2 hid3) ((hget_tail m3.symm).trans ((hget_tail m2.symm).trans hid10''))⟩
        · rw [if_neg hz]
          have htl : ((s.drop at').take n).length = n := by rw [List.length_take]; omega
          have hnz : ((s.drop at').take n).length ≤ 1 ∨ ((s.drop at').take n).getD 0 0 ≠ 48 := by
            rw [show ((s.drop at').take n).getD 0 0 = s.getD at' 0 from by rw [hdr, take_cons1 _ _ hpos]; rfl, htl]
            rcases Nat.lt_or_ge 1 n with q | q
            · exact .inr (fun e => hz ⟨q, e⟩)
            · exact .inl q
          refine bsplit_dec (fun q1 => ?_) (fun q1 => ?_)
          · (first | refine ah ?_ | exact ah0 | fail)
            rw [Int.toNat_natCast]
            refine bsplit_dec (fun q2 => ?_) (fun q2 => ?_)
            · exact absurd ⟨by omega, (u8lit _ 48 (by decide)).1 q2⟩ hz
            · skip
              (first | refine ah ?_ | exact ah0 | fail)
              refine callF_eq (ref_num_spec _ (by omega) hall hnz _) ?_
              by_cases hv : numV ((s.drop at').take n) < 18446744073709551616
              · rw [if_pos hv, if_pos hv]
                (first | refine ah ?_ | exact ah0 | fail)
                exact ⟨OneK.of_tok rfl, Sub.skip (sub_two hid2 hid3) ((hget_tail m3.symm).trans ((hget_tail m2.symm).trans hid10''))⟩
              · rw [if_neg hv, if_neg hv]
                (first | refine ah ?_ | exact ah0 | fail)
                exact ⟨OneK.of_bad rfl, Sub.skip (sub_two hid2 hid3) ((hget_tail m3.symm).trans ((hget_tail m2.symm).trans hid10''))⟩
          · skip
            (first | refine ah ?_ | exact ah0 | fail)
            refine callF_eq (ref_num_spec _ (by omega) hall hnz _) ?_
            by_cases hv : numV ((s.drop at').take n) < 18446744073709551616
            · rw [if_pos hv, if_pos hv]
              (first | refine ah ?_ | exact ah0 | fail)
              exact ⟨OneK.of_tok rfl, Sub.skip (sub_two hid2 hid3) ((hget_tail m3.symm).trans ((hget_tail m2.symm).trans hid10''))⟩
            · rw [if_neg hv, if_neg hv]
              (first | refine ah ?_ | exact ah0 | fail)
              exact ⟨OneK.of_bad rfl, Sub.skip (sub_two hid2 hid3) ((hget_tail m3.symm).trans ((hget_tail m2.symm).trans hid10''))⟩
      | false =>
        by_cases h37 : s.getD at' 0 = 37
        · have hlo := longest_37 (s.drop (at' + 1))
          have hlx := lex_param (s.drop (at' + 1))
          rw [← h37, ← hdr] at hlo hlx
          have hg1 : (s.drop (at' + 1)).getD 0 0 = (s.drop at').getD 1 0 := by rw [hdr]; rfl
          have hdl2 : (s.drop (at' + 1)).length = s.length - (at' + 1) := List.length_drop
          rw [hg1, hdl2] at hlo
          rw [hdl] at hlx
          by_cases hp : 2 ≤ s.length - at' ∧ dig ((s.drop at').getD 1 0) = true
          · rw [if_pos hp] at hlx
            rw [if_pos ⟨by omega, hp.2⟩] at hlo
            have hp1 := hp.1
            have hdg := (dig_iff _).1 hp.2
            rw [hlx]
            (first | refine ah ?_ | exact ah0 | fail)
            rw [hrest]
            have hsp := ref_longest_spec (s.drop at') (by omega) hne
            rw [hlo] at hsp hL
            dsimp only at hsp hL
            refine callF_eq (hsp _) ?_
            (first | refine ah ?_ | exact ah0 | fail)
            intro id10 hid10 ht10
            obtain ⟨m3, hid10'⟩ := hget_fresh hid10
            obtain ⟨m2, hid10''⟩ := hget_fresh hid10'
            (first | refine ah ?_ | exact ah0 | fail)
            rw [show List.drop (at' : Int).toNat (s.take ((at' : Int) + (2 : Nat)).toNat) = (s.drop at').take 2 from by rw [show ((at' : Int) + (2 : Nat)).toNat = at' + 2 from by omega, Int.toNat_natCast, slcn]]
            have htk : ((s.drop at').take 2).length = 2 := by rw [List.length_take]; omega
            have hgd : ((s.drop at').take 2).getD (Int.toNat 1) 0 = (s.drop at').getD 1 0 := by simp [List.getElem?_take]
            (first | refine ah ?_ | exact ah0 | fail)
            rw [hgd]
            (first | refine ah ?_ | exact ah0 | fail)
            have hsub : (((((List.drop at' s).getD 1 0).toNat - 48 : Nat)) : Int) = (((List.drop at' s).getD 1 0).toNat : Int) - 48 := by omega
            exact ⟨OneK.of_tok (by unfold tokA; rw [hsub]; rfl), Sub.skip (sub_two hid2 hid3) ((hget_tail m3.symm).trans ((hget_tail m2.symm).trans hid10''))⟩
          · rw [if_neg hp] at hlx
            rw [if_neg (fun q => hp ⟨by omega, q.2⟩)] at hlo
            rw [hlx]
            (first | refine ah ?_ | exact ah0 | fail)
            rw [hrest]
            have hsp := ref_longest_spec (s.drop at') (by omega) hne
            rw [hlo] at hsp hL
            dsimp only at hsp hL
            refine callF_eq (hsp _) ?_
            (first | refine ah ?_ | exact ah0 | fail)
            refine callF_eq (ref_bad_spec s at' ha hs _) ?_
            rw [if_neg h39]
            (first | refine ah ?_ | exact ah0 | fail)
            exact ⟨OneK.of_bad rfl, sub_two hid2 hid3⟩
        · cases hsg : sgn (s.getD at' 0) with
          | true =>
            have hlo := longest_sgn (c := s.getD at' 0) (r := s.drop (at' + 1)) hsg
            have hlx := lex_sign (s.getD at' 0) (s.drop (at' + 1)) hl hd h39 h37 hsg
            rw [← hdr] at hlo hlx
            have hpos := (lex_bound hlx).1
            rw [hlx]
            generalize (if two (s.drop at') = true then 2 else 1) = n at *
            (first | refine ah ?_ | exact ah0 | fail)
            rw [hrest]
            have hsp := ref_longest_spec (s.drop at') (by omega) hne
            rw [hlo] at hsp hL
            dsimp only at hsp hL
            refine callF_eq (hsp _) ?_
            (first | refine ah ?_ | exact ah0 | fail)
            intro id10 hid10 ht10
            obtain ⟨m3, hid10'⟩ := hget_fresh hid10
            obtain ⟨m2, hid10''⟩ := hget_fresh hid10'
            (first | refine ah ?_ | exact ah0 | fail)
            rw [show List.drop (at' : Int).toNat (s.take ((at' : Int) + (n : Nat)).toNat) = (s.drop at').take n from by rw [show ((at' : Int) + (n : Nat)).toNat = at' + n from by omega, Int.toNat_natCast, slcn]]
            exact ⟨OneK.of_tok rfl, Sub.skip (sub_two hid2 hid3) ((hget_tail m3.symm).trans ((hget_tail m2.symm).trans hid10''))⟩
          | false =>
            have hlo := longest_no (c := s.getD at' 0) (r := s.drop (at' + 1)) hl hd h39 h37 hsg
            have hlx := lex_none (s.getD at' 0) (s.drop (at' + 1)) hl hd h39 h37 hsg
            rw [← hdr] at hlo hlx
            rw [hlx]
            (first | refine ah ?_ | exact ah0 | fail)
            rw [hrest]
            have hsp := ref_longest_spec (s.drop at') (by omega) hne
            rw [hlo] at hsp hL
            dsimp only at hsp hL
            refine callF_eq (hsp _) ?_
            (first | refine ah ?_ | exact ah0 | fail)
            refine callF_eq (ref_bad_spec s at' ha hs _) ?_
            rw [if_neg h39]
            (first | refine ah ?_ | exact ah0 | fail)
            exact ⟨OneK.of_bad rfl, sub_two hid2 hid3⟩
end Go.Proofs.Ytlmplofpclaokaa

/- All tokens, as the reference takes them. -/
namespace Go.Proofs.Ytlmplofpclaokaa
set_option autoImplicit false
set_option linter.unusedSimpArgs false
set_option linter.unusedVariables false
--HSET
attribute [local irreducible] callA callP ACalls

structure TS2 (id3 : Nat) (v : AV) (l : List (Int × List UInt8 × Nat × Nat)) (H : AH) : Prop where
  g3 : hget H id3 = some (.rows 2 [[.int .i64 0, .int .i64 0]])
  s : OwnS H ty_api_Token 4 v (l.map tkR)
  len : l.length ≤ 64
theorem TS2.own {id3 : Nat} {v : AV} {l : List (Int × List UInt8 × Nat × Nat)} {H : AH} (h : TS2 id3 v l H) : (v = .nilS ∧ l = []) ∨ ∃ id, v = .own id 4 0 l.length ∧ hget H id = some (.rows 4 (l.map tkR)) ∧ tag id = ty_api_Token ∧ 0 < l.length ∧ id ≠ id3 := by
  rcases h.s.or with ⟨q1, q2⟩ | ⟨id, q1, q2, q3, q4⟩
  · exact .inl ⟨q1, by simpa using q2⟩
  · refine .inr ⟨id, by rw [q1, List.length_map], q2, q3, by simpa using q4, fun e => ?_⟩
    rw [e, h.g3] at q2; cases q2

set_option maxHeartbeats 4000000 in
theorem ref_Tokens_spec0 {s : List UInt8} (hs : s.length ≤ 140737488351232) : ACalls PG broadsheetref14_Tokens.n [.str s] [] (TokO (tokens s)) := by
  refine broadsheetref14_Tokens.of rfl (wpF_start ?_)
  unfold tokens
  (first | refine ah ?_ | exact ah0 | fail)
  intro id3 hid3 ht3
  (first | refine ah ?_ | exact ah0 | fail)
  refine bsplit_dec (fun e1 => ?_) (fun e1 => ?_)
  · (first | refine ah ?_ | exact ah0 | fail)
    rw [if_pos (by omega)]
    exact TokO.of_bad rfl
  · rw [if_neg (by omega)]
    have hle : s.length ≤ 256 := by omega
    (first | refine ah ?_ | exact ah0 | fail)
    generalize hR : tks s 0 0 = R
    refine ⟨fun n L H' => ∃ (a : Nat) (v : AV) (l : List (Int × List UInt8 × Nat × Nat)), n = s.length - a ∧ a ≤ s.length ∧ TR.pre l (tks s a l.length) = R ∧ L = [(0, some (.str s)), (3, some (.ptr id3 2 0 0)), (4, some v), (5, some (.int .i64 a))] ∧ TS2 id3 v l H',
      ⟨_, _, ?_, Sub.refl _, _, 0, .nilS, [], rfl, Nat.zero_le _, (TR.pre_nil _).trans hR, rfl, ?_⟩, ?_⟩
    · exact (by repeat (first | exact trivial | refine And.intro (Or.inl rfl) ?_ | refine And.intro (Or.inr (Exists.intro _ (And.intro rfl (Fz.refl _)))) ?_))
    · exact ⟨hget_self, ⟨.inl ⟨rfl, rfl⟩⟩, by simp⟩
    · clear hid3 hR
      rintro n L H1 ⟨a, v, l, rfl, ha, hR, rfl, T1⟩
      have g3 := T1.g3
      have len := T1.len
      (first | refine ah ?_ | exact ah0 | fail)
      refine bsplit_dec (fun e2 => ?_) (fun e2 => ?_)
      · have hlt : a < s.length := by omega
        rw [tks_eq hlt] at hR
        have hbi := blnk_iff (s.getD a 0)
        have hge : s.getD (a : Int).toNat 0 = s.getD a 0 := by rw [Int.toNat_natCast]
        cases hb : blnk (s.getD a 0) with
        | true =>
          rw [hb, if_pos rfl] at hR
          have hb' := hbi.1 hb
          rw [← hge] at hb'
          rcases hb' with hb' | hb' | hb' | hb'
          all_goals
            (first | refine ah ?_ | exact ah0 | fail)
            exact ⟨[(0, some (.str s)), (3, some (.ptr id3 2 0 0)), (4, some v), (5, some (.int .i64 (a + 1 : Nat)))], H1, (by repeat (first | exact trivial | refine And.intro (Or.inl rfl) ?_ | refine And.intro (Or.inr (Exists.intro _ (And.intro rfl (Fz.refl _)))) ?_)), Sub.refl _, s.length - (a + 1), by omega, a + 1, v, l, rfl, by omega, hR, rfl, T1⟩
        | false =>
          rw [hb, if_neg (by decide)] at hR
          have hb' := mt hbi.2 (by rw [hb]; decide)
          rw [← hge] at hb'
          (first | refine ah ?_ | exact ah0 | fail)
          refine callF_of ((ref_one_spec s a hlt (by omega) _).mono fun rr H2 hh => ?_)
          obtain ⟨hh, rfl⟩ := hh
          cases hx : lex (s.drop a) with
          | bad e off =>
            obtain ⟨k, t, num, ap, m, rfl⟩ := hh.bad e off hx
            have := lex_err hx
            rw [hx] at hR
            subst hR
            (first | refine ah ?_ | exact ah0 | fail)
            intro id7 hid7 ht7
            (first | refine ah ?_ | exact ah0 | fail)
            intro id8 hid8 ht8
            have n73 := hget_ne_of hid7 g3
            have n83 := hget_ne_of hid8 ((hget_tail n73).trans g3)
            have n87 := (hget_fresh hid8).1
            (first | refine ah ?_ | exact ah0 | fail)
            exact TokO.of_bad rfl
          | tok k t num m =>
            obtain rfl := hh.tok k t num m hx
            have bd := lex_bound hx
            rw [List.length_drop] at bd
            rw [hx] at hR
            (first | refine ah ?_ | exact ah0 | fail)
            intro id7 hid7 ht7
            (first | refine ah ?_ | exact ah0 | fail)
            intro id8 hid8 ht8
            have n73 := hget_ne_of hid7 g3
            have n83 := hget_ne_of hid8 ((hget_tail n73).trans g3)
            have n87 := (hget_fresh hid8).1
            replace hR : TR.pre l (if l.length = 64 then TR.bad 3 a else TR.pre [(k, t, num, a)] (tks s (a + m) (l.length + 1))) = R := hR
            by_cases h64 : l.length = 64
            · rw [if_pos h64] at hR
              subst hR
              rcases T1.own with ⟨rfl, rfl⟩ | ⟨ids, rfl, gs, ts, pos, ns3⟩
              · cases h64
              · (first | refine ah ?_ | exact ah0 | fail)
                exact TokO.of_bad rfl
            · rw [if_neg h64, TR.pre_pre] at hR
              have hln : (l ++ [(k, t, num, a)]).length = l.length + 1 := by simp
              rw [← hln] at hR
              rcases T1.own with ⟨rfl, rfl⟩ | ⟨ids, rfl, gs, ts, pos, ns3⟩
              · (first | refine ah ?_ | exact ah0 | fail)
                refine ⟨_, rfl, by simp, (fun e => by cases e), fun _ => ?_⟩
                intro idn hidn htn
                (first | refine ah ?_ | exact ah0 | fail)
                have q8 := (hget_fresh hidn)
                have q7 := (hget_fresh q8.2)
                have m3 := hget_ne_of q7.2 g3
                refine ⟨[(0, some (.str s)), (3, some (.ptr id3 2 0 0)), (4, some (.own idn 4 0 1)), (5, some (.int .i64 (a + m : Nat)))], _, (by repeat (first | exact trivial | refine And.intro (Or.inl rfl) ?_ | refine And.intro (Or.inr (Exists.intro _ (And.intro rfl (Fz.refl _)))) ?_)), Sub.refl _, _, ?_, a + m, _, _, rfl, by omega, hR, rfl, ?_⟩
                · omega
                · exact ⟨by exact hg_of, ⟨.inr ⟨idn, rfl, hget_self, htn, by simp⟩⟩, by simp⟩
              · have exs : (((l.map tkR).take l.length).drop 0) = l.map tkR := by rw [List.drop_zero, show l.length = (l.map tkR).length from by simp, List.take_length]
                have n7s := hget_ne_of hid7 gs
                have n8s := hget_ne_of hid8 ((hget_tail n7s).trans gs)
                (first | refine ah ?_ | exact ah0 | fail)
                refine ⟨_, _, (readS_own (by exact hg_of) (by simp)).trans (congrArg some exs), rfl, rfl, rfl, ts, by simp; omega, ?_⟩
                intro idn hidn htn
                have m3 : idn ≠ id3 := hget_ne_of hidn (show hget _ id3 = some (.rows 2 [[.int .i64 0, .int .i64 0]]) by exact hg_of)
                (first | refine ah ?_ | exact ah0 | fail)
                refine ⟨[(0, some (.str s)), (3, some (.ptr id3 2 0 0)), (4, some (.own idn 4 0 ((l.map tkR).length + 1))), (5, some (.int .i64 (a + m : Nat)))], _, (by repeat (first | exact trivial | refine And.intro (Or.inl rfl) ?_ | refine And.intro (Or.inr (Exists.intro _ (And.intro rfl (Fz.refl _)))) ?_)), Sub.refl _, _, ?_, a + m, _, _, rfl, by omega, hR, rfl, ?_⟩
                · omega
                · exact ⟨by exact hg_of, ⟨.inr ⟨idn, by simp, by rw [List.map_append]; exact hget_self, htn, by simp⟩⟩, by simp; omega⟩
      · rw [tks_end (by omega)] at hR
        subst hR
        rcases T1.own with ⟨rfl, rfl⟩ | ⟨ids, rfl, gs, ts, pos, ns3⟩
        · obtain rfl : a = s.length := by omega
          (first | refine ah ?_ | exact ah0 | fail)
          refine ⟨_, rfl, by simp, (fun e => by cases e), fun _ => ?_⟩
          intro idn hidn htn
          have nn3 := hget_ne_of hidn g3
          (first | refine ah ?_ | exact ah0 | fail)
          exact TokO.of_ok (l := [(6, [], 0, s.length)]) rfl hget_self
        · obtain rfl : a = s.length := by omega
          have exs : (((l.map tkR).take l.length).drop 0) = l.map tkR := by rw [List.drop_zero, show l.length = (l.map tkR).length from by simp, List.take_length]
          (first | refine ah ?_ | exact ah0 | fail)
          refine ⟨_, _, (readS_own gs (by simp)).trans (congrArg some exs), rfl, rfl, rfl, ts, by simp; omega, ?_⟩
          intro idn hidn htn
          have nn3 := hget_ne_of hidn g3
          (first | refine ah ?_ | exact ah0 | fail)
          refine TokO.of_ok (l := l ++ [(6, [], 0, s.length)]) (id := idn) ?_ ?_
          · have hln : (l ++ [((6 : Int), ([] : List UInt8), 0, s.length)]).length = (l.map tkR).length + 1 := by simp
            rw [hln]
            rfl
          · rw [List.map_append]
            exact hget_self
end Go.Proofs.Ytlmplofpclaokaa

/- The law 'TokenReads', walked. -/
namespace Go.Proofs.Ytlmplofpclaokaa
set_option autoImplicit false
set_option linter.unusedSimpArgs false
set_option linter.unusedVariables false
--HSET
attribute [local irreducible] callA callP ACalls

def tokV : TR → AV
  | .ok l => .tup [.rows 4 (l.map tkR), fltA 0 0]
  | .bad e p => .tup [.nilS, fltA e (p : Nat)]
theorem TokO.fz {R : TR} {r : AV} {H : AH} (h : TokO R r H) : ∃ r' Hc, Sub Hc H ∧ Fz H Hc r r' ∧ r' = tokV R := by
  cases hR : R with
  | ok l =>
    obtain ⟨id, rfl, hg⟩ := h.ok l hR
    refine ⟨_, [], (fun _ _ q => by cases q), ?_, rfl⟩
    have hf := fz_own (Hc := []) hg rfl (Nat.zero_le l.length) (by rw [List.length_map]; exact Nat.le_refl _) (tkR_len l)
    rw [List.drop_zero, show (l.map tkR).take l.length = l.map tkR from by rw [show l.length = (l.map tkR).length from by simp, List.take_length]] at hf
    obtain ⟨q1, q2⟩ := FzL.cons hf (FzL.cons (Fz.refl (fltA 0 0)) (FzL.nil H []))
    exact .tup _ _ q1 q2
  | bad e p =>
    obtain rfl := h.bad e p hR
    exact ⟨_, [], (fun _ _ q => by cases q), .refl _, rfl⟩
theorem Tokens_spec {s : List UInt8} (hs : s.length ≤ 140737488351232) : ACalls PG token_Tokens.n [.str s] [] fun r _ => r = tokV (tokens s) :=
  (Tokens_spec0 hs).freeze fun _ _ h => h.fz
theorem ref_Tokens_spec {s : List UInt8} (hs : s.length ≤ 140737488351232) : ACalls PG broadsheetref14_Tokens.n [.str s] [] fun r _ => r = tokV (tokens s) :=
  (ref_Tokens_spec0 hs).freeze fun _ _ h => h.fz

theorem eqTk (x : Int × List UInt8 × Nat × Nat) : eqCells [.i .i64, .s, .i .u64, .i .i64] (tkR x) (tkR x) = some true := by
  simp [eqCells]
theorem ref_Same_nil (H : AH) : ACalls PG broadsheetref14_Same.n [.nilS, .nilS, .bool true] H fun r H' => r = .bool true ∧ H' = H := by
  refine broadsheetref14_Same.of rfl (wpF_start ?_)
  (first | refine ah ?_ | exact ah0 | fail)
  refine ⟨fun n L H' => L = [(0, some .nilS), (7, some (.int .i64 0))] ∧ H' = H, ⟨_, H, ?_, Sub.refl _, 0, rfl, rfl⟩, ?_⟩
  · exact (by repeat (first | exact trivial | refine And.intro (Or.inl rfl) ?_ | refine And.intro (Or.inr (Exists.intro _ (And.intro rfl (Fz.refl _)))) ?_))
  · rintro n L H' ⟨rfl, rfl⟩
    (first | refine ah ?_ | exact ah0 | fail)
theorem ref_Same_spec (l : List (Int × List UInt8 × Nat × Nat)) (hl : l.length ≤ 1000000) (H : AH) : ACalls PG broadsheetref14_Same.n [.rows 4 (l.map tkR), .rows 4 (l.map tkR), .bool true] H fun r H' => r = .bool true ∧ H' = H := by
  have hlen : (l.map tkR).length = l.length := by simp
  refine ACalls.keepSub (K := fun r => r = .bool true) (broadsheetref14_Same.of rfl (wpF_start ?_))
  (first | refine ah ?_ | exact ah0 | fail)
  refine ⟨fun n L H' => ∃ i : Nat, n = l.length - i ∧ i ≤ l.length ∧ L = [(0, some (.rows 4 (l.map tkR))), (1, some (.rows 4 (l.map tkR))), (2, some (.bool true)), (7, some (.int .i64 i))] ∧ H' = H, ⟨_, H, ?_, Sub.refl _, _, 0, rfl, Nat.zero_le _, rfl, rfl⟩, ?_⟩
  · exact (by repeat (first | exact trivial | refine And.intro (Or.inl rfl) ?_ | refine And.intro (Or.inr (Exists.intro _ (And.intro rfl (Fz.refl _)))) ?_))
  · rintro n L H' ⟨i, rfl, hi, rfl, rfl⟩
    (first | refine ah ?_ | exact ah0 | fail)
    refine bsplit_dec (fun h1 => ?_) (fun h1 => ?_)
    · have hil : i < l.length := by omega
      have hg : (l.map tkR).getD (i : Int).toNat [] = tkR (l[i]'hil) := by
        rw [Int.toNat_natCast]; simp [List.getD, hil]
      (first | refine ah ?_ | exact ah0 | fail)
      rw [hg]
      (first | refine ah ?_ | exact ah0 | fail)
      intro id hid ht
      (first | refine ah ?_ | exact ah0 | fail)
      rw [hg]
      (first | refine ah ?_ | exact ah0 | fail)
      refine ⟨true, eqTk _, ?_⟩
      (first | refine ah ?_ | exact ah0 | fail)
      refine ⟨[(0, some (.rows 4 (l.map tkR))), (1, some (.rows 4 (l.map tkR))), (2, some (.bool true)), (7, some (.int .i64 (i + 1 : Nat)))], H', (by repeat (first | exact trivial | refine And.intro (Or.inl rfl) ?_ | refine And.intro (Or.inr (Exists.intro _ (And.intro rfl (Fz.refl _)))) ?_)), Sub.skip (Sub.refl _) hid, _, ?_, i + 1, rfl, by omega, rfl, rfl⟩
      omega
    · (first | refine ah ?_ | exact ah0 | fail)
      exact Sub.refl _
theorem tks_len (s : List UInt8) : ∀ (k a n : Nat) (l : List (Int × List UInt8 × Nat × Nat)), s.length - a ≤ k → n ≤ 64 → tks s a n = .ok l → l.length + n ≤ 65
  | k, a, n, l, hk, hn, h => by
    rcases Nat.lt_or_ge a s.length with hl | hl
    · rw [tks_eq hl] at h
      obtain ⟨k, rfl⟩ : ∃ k', k = k' + 1 := ⟨k - 1, by omega⟩
      split at h
      · exact tks_len s k _ n l (by omega) hn h
      · split at h
        · cases h
        · rename_i kk t num m hx
          have := lex_bound hx
          split at h
          · cases h
          · cases hh : tks s (a + m) (n + 1) with
            | bad e p => rw [hh] at h; cases h
            | ok l' =>
              rw [hh] at h
              have := tks_len s k _ (n + 1) l' (by omega) (by omega) hh
              cases h
              simp; omega
    · rw [tks_end hl] at h
      cases h
      simp; omega
theorem tokens_len {s : List UInt8} {l : List (Int × List UInt8 × Nat × Nat)} (h : tokens s = .ok l) : l.length ≤ 65 := by
  unfold tokens at h
  split at h
  · cases h
  · have := tks_len s _ 0 0 l (Nat.le_refl _) (by omega) h
    omega
theorem tks_tok {s : List UInt8} {a n : Nat} {k : Int} {t : List UInt8} {num m : Nat} (h : a < s.length) (hb : blnk (s.getD a 0) = false) (hx : lex (s.drop a) = .tok k t num m) (hn : n ≠ 64) : tks s a n = TR.pre [(k, t, num, a)] (tks s (a + m) (n + 1)) := by
  rw [tks_eq h, hb, if_neg (by decide), hx]
  show (if n = 64 then _ else _) = _
  rw [if_neg hn]
theorem tok_awake_spec (H : AH) : ACalls PG broadsheetlaw14_awake.n [] H fun r H' => r = .bool true ∧ H' = H := by
  have ex : tokens [97, 60, 61, 45, 53] = .ok [(1, [97], 0, 0), (5, [60, 61], 0, 1), (5, [45], 0, 3), (2, [53], 5, 4), (6, [], 0, 5)] := by
    unfold tokens
    rw [if_neg (by decide), tks_tok (k := 1) (t := [97]) (num := 0) (m := 1) (by decide) rfl rfl (by decide), tks_tok (k := 5) (t := [60, 61]) (num := 0) (m := 2) (by decide) rfl rfl (by decide),
      tks_tok (k := 5) (t := [45]) (num := 0) (m := 1) (by decide) rfl rfl (by decide), tks_tok (k := 2) (t := [53]) (num := 5) (m := 1) (by decide) rfl rfl (by decide), tks_end (by decide)]
    rfl
  refine ACalls.keepSub (K := fun r => r = .bool true) (broadsheetlaw14_awake.of rfl (wpF_start ?_))
  (first | refine ah ?_ | exact ah0 | fail)
  refine callF_eq ((Tokens_spec (s := [97, 60, 61, 45, 53]) (by simp)).frame _) ?_
  rw [ex]
  (first | refine ah ?_ | exact ah0 | fail)
  intro id hid ht
  (first | refine ah ?_ | exact ah0 | fail)
  refine ⟨true, rfl, ?_⟩
  (first | refine ah ?_ | exact ah0 | fail)
  exact Sub.skip (Sub.refl _) hid
theorem TokenReads_spec {s : List UInt8} (hs : s.length ≤ 140737488351232) : ACalls PG broadsheetlaw14_TokenReads.n [.str s] [] fun r _ => r = .bool true := by
  refine broadsheetlaw14_TokenReads.of rfl (wpF_start ?_)
  (first | refine ah ?_ | exact ah0 | fail)
  refine callF_eq ((Tokens_spec hs).frame _) ?_
  cases hR : tokens s with
  | ok l =>
    (first | refine ah ?_ | exact ah0 | fail)
    intro id3 hid3 ht3
    (first | refine ah ?_ | exact ah0 | fail)
    refine callF_eq ((ref_Tokens_spec hs).frame _) ?_
    rw [hR]
    (first | refine ah ?_ | exact ah0 | fail)
    intro id4 hid4 ht4
    have n43 := (hget_fresh hid4).1
    (first | refine ah ?_ | exact ah0 | fail)
    refine callF_eq (ref_Same_spec l (by have := tokens_len hR; omega) _) ?_
    (first | refine ah ?_ | exact ah0 | fail)
    refine ⟨true, rfl, ?_⟩
    (first | refine ah ?_ | exact ah0 | fail)
    refine callF_eq (tok_awake_spec _) ?_
    (first | refine ah ?_ | exact ah0 | fail)
  | bad e p =>
    (first | refine ah ?_ | exact ah0 | fail)
    intro id3 hid3 ht3
    (first | refine ah ?_ | exact ah0 | fail)
    refine callF_eq ((ref_Tokens_spec hs).frame _) ?_
    rw [hR]
    (first | refine ah ?_ | exact ah0 | fail)
    intro id4 hid4 ht4
    have n43 := (hget_fresh hid4).1
    (first | refine ah ?_ | exact ah0 | fail)
    refine callF_eq (ref_Same_nil _) ?_
    (first | refine ah ?_ | exact ah0 | fail)
    refine ⟨true, by simp [eqCells, over, fltA, AV.cells], ?_⟩
    (first | refine ah ?_ | exact ah0 | fail)
    refine callF_eq (tok_awake_spec _) ?_
    (first | refine ah ?_ | exact ah0 | fail)
def Shapes.tokenReads0 : Sh := .str
theorem TokenReads_row (a0 : AV) (h0 : ArgOk false Shapes.tokenReads0 a0) : ACalls PG 3 [a0] [] fun r _ => r = .bool true := by
  obtain ⟨p, e0, h⟩ := h0
  simp only [List.cons.injEq, and_true] at e0
  subst e0
  exact TokenReads_spec h
end Go.Proofs.Ytlmplofpclaokaa

/- Both parsers, whole. -/
namespace Go.Proofs.Ytlmplofpclaokaa
set_option autoImplicit false
set_option linter.unusedSimpArgs false
set_option linter.unusedVariables false
attribute [local irreducible] callA callP ACalls
theorem tks_bad (s : List UInt8) : ∀ (k a n : Nat) (e : Int) (p : Nat), s.length - a ≤ k → tks s a n = .bad e p → 0 < e
  | k, a, n, e, p, hk, h => by
    rcases Nat.lt_or_ge a s.length with hl | hl
    · rw [tks_eq hl] at h
      obtain ⟨k, rfl⟩ : ∃ k', k = k' + 1 := ⟨k - 1, by omega⟩
      split at h
      · exact tks_bad s k _ n e p (by omega) h
      · split at h
        · rename_i hx; cases h; exact (lex_err hx).1
        · rename_i kk t num m hx
          have := lex_bound hx
          split at h
          · cases h; decide
          · cases hh : tks s (a + m) (n + 1) with
            | bad e' p' => rw [hh] at h; cases h; exact tks_bad s k _ _ _ _ (by omega) hh
            | ok l' => rw [hh] at h; cases h
    · rw [tks_end hl] at h; cases h
theorem tokens_bad {s : List UInt8} {e : Int} {p : Nat} (h : tokens s = .bad e p) : 0 < e := by
  unfold tokens at h
  split at h
  · cases h; decide
  · exact tks_bad s _ 0 0 e p (Nat.le_refl _) h
/-- The tree of a text, or what is wrong, and where. -/
def parseT (l : List Tok) : Ex × Int × Int := if (endE l (topE l).2).e = 0 then ((topE l).1, 0, 0) else (ex0, (endE l (topE l).2).e, (endE l (topE l).2).a)
def parseP (s : List UInt8) : Ex × Int × Int := match tokens s with
  | .bad e p => (ex0, e, (p : Nat))
  | .ok l => parseT l
theorem parseP_ok {s : List UInt8} {l : List Tok} (h : tokens s = .ok l) : parseP s = parseT l := by unfold parseP; rw [h]
theorem parseP_bad {s : List UInt8} {e : Int} {p : Nat} (h : tokens s = .bad e p) : parseP s = (ex0, e, ((p : Nat) : Int)) := by unfold parseP; rw [h]
abbrev parV (R : Ex × Int × Int) : AV := .tup [exA R.1, fltA R.2.1 R.2.2]
theorem ACalls.fzK {P : Program} {f : Nat} {args : List AV} {H : AH} {v : AV} (h : ACalls P f args H fun r H' => Fz H' [] r v) : ACalls P f args H fun r _ => r = v :=
  h.freeze fun r H' a => ⟨v, [], Sub.nil _, a, rfl⟩
theorem Parse_spec {s : List UInt8} (hs : s.length ≤ 140737488351232) : ACalls PG expr_Parse.n [.str s] [] fun r _ => r = parV (parseP s) := by
  refine ACalls.fzK (expr_Parse.of rfl (wpF_start ?_))
  (first | refine au ?_ | exact au0 | fail)
  intro id2 hid2 ht2; have n2 := neAll_of hid2; (try simp only [neAll, neAll_hset] at n2); have m2 := n2; (repeat (obtain ⟨_, m2⟩ := m2))
  (first | refine au ?_ | exact au0 | fail)
  intro id3 hid3 ht3; have n3 := neAll_of hid3; (try simp only [neAll, neAll_hset] at n3); have m3 := n3; (repeat (obtain ⟨_, m3⟩ := m3))
  (first | refine au ?_ | exact au0 | fail)
  refine callF_eq ((Tokens_spec hs).frame _) ?_
  cases hT : tokens s with
  | bad e p =>
    have he := tokens_bad hT
    rw [parseP_bad hT]
    (first | refine au ?_ | exact au0 | fail)
    intro id5 hid5 ht5; have n5 := neAll_of hid5; (try simp only [neAll, neAll_hset] at n5); have m5 := n5; (repeat (obtain ⟨_, m5⟩ := m5))
    (first | refine au ?_ | exact au0 | fail)
    exact fz_of
  | ok l =>
    have w := tokens_wt hT
    rw [parseP_ok hT]
    have hpos := w.pos
    have hw := w.len
    (first | refine au ?_ | exact au0 | fail)
    intro id5 hid5 ht5; have n5 := neAll_of hid5; (try simp only [neAll, neAll_hset] at n5); have m5 := n5; (repeat (obtain ⟨_, m5⟩ := m5))
    (first | refine au ?_ | exact au0 | fail)
    intro id20 hid20 ht20; have n20 := neAll_of hid20; (try simp only [neAll, neAll_hset] at n20); have m20 := n20; (repeat (obtain ⟨_, m20⟩ := m20))
    (first | refine au ?_ | exact au0 | fail)
    have G := (GdF.nt w l.length).or w ⟨0, 0, 0, 0⟩ hpos (by show l.length - 0 ≤ _; omega)
    refine SW.call (or_spec w (not_spec w id20 l.length) (GdF.nt w l.length) ⟨0, 0, 0, 0⟩ hpos (by show l.length - 0 ≤ _; omega) (by decide)) (by exact hg_of) (Sub.nil _) ?_
    generalize hX : topE l = X
    have hP : parseT l = if (endE l X.2).e = 0 then (X.1, 0, 0) else (ex0, (endE l X.2).e, (endE l X.2).a) := by unfold parseT; rw [hX]
    rw [hP]
    unfold topE at hX
    rw [hX] at G ⊢
    obtain ⟨x, τ⟩ := X
    obtain ⟨op, rel, args, kids⟩ := x
    have Glt : τ.p < l.length := G.lt
    show hsetK _ _ (psB l τ) _
    (first | refine au ?_ | exact au0 | fail)
    intro id7 hid7 ht7; have n7 := neAll_of hid7; (try simp only [neAll, neAll_hset] at n7); have m7 := n7; (repeat (obtain ⟨_, m7⟩ := m7))
    (first | refine au ?_ | exact au0 | fail)
    refine (bad_spec l τ id20).call (by exact hg_of) (Sub.nil _) ?_
    by_cases he : τ.e = 0
    · by_cases h6 : (tk l τ.p).1 = 6
      · rw [show endE l τ = τ from if_neg fun q => q.2 h6, if_pos he]
        (first | refine au ?_ | exact au0 | fail)
        refine (now_spec w Glt id20).call (by exact hg_of) (Sub.nil _) ?_
        (first | refine au ?_ | exact au0 | fail)
        refine (bad_spec l τ id20).call (by exact hg_of) (Sub.nil _) ?_
        (first | refine au ?_ | exact au0 | fail)
        exact fz_of
      · rw [show endE l τ = τ.fail l 11 from if_pos ⟨he, h6⟩]
        have hf : (τ.fail l 11).e = 11 := by unfold PSt.fail; rw [if_pos he]
        rw [if_neg (show ¬ (τ.fail l 11).e = 0 by rw [hf]; decide)]
        (first | refine au ?_ | exact au0 | fail)
        refine (now_spec w Glt id20).call (by exact hg_of) (Sub.nil _) ?_
        (first | refine au ?_ | exact au0 | fail)
        refine (fail_spec w Glt id20 11).call (by exact hg_of) (Sub.nil _) ?_
        (first | refine au ?_ | exact au0 | fail)
        refine (bad_spec l (τ.fail l 11) id20).call (by exact hg_of) (Sub.nil _) ?_
        (first | refine au ?_ | exact au0 | fail)
        exact fz_of
    · rw [show endE l τ = τ from if_neg fun q => he q.1, if_neg he]
      (first | refine au ?_ | exact au0 | fail)
      refine (bad_spec l τ id20).call (by exact hg_of) (Sub.nil _) ?_
      (first | refine au ?_ | exact au0 | fail)
      exact fz_of
theorem rParse_spec {s : List UInt8} (hs : s.length ≤ 140737488351232) : ACalls PG broadsheetref15_Parse.n [.str s] [] fun r _ => r = parV (parseP s) := by
  refine ACalls.fzK (broadsheetref15_Parse.of rfl (wpF_start ?_))
  (first | refine au ?_ | exact au0 | fail)
  intro id2 hid2 ht2; have n2 := neAll_of hid2; (try simp only [neAll, neAll_hset] at n2); have m2 := n2; (repeat (obtain ⟨_, m2⟩ := m2))
  (first | refine au ?_ | exact au0 | fail)
  intro id3 hid3 ht3; have n3 := neAll_of hid3; (try simp only [neAll, neAll_hset] at n3); have m3 := n3; (repeat (obtain ⟨_, m3⟩ := m3))
  (first | refine au ?_ | exact au0 | fail)
  refine callF_eq ((ref_Tokens_spec hs).frame _) ?_
  cases hT : tokens s with
  | bad e p =>
    have he := tokens_bad hT
    rw [parseP_bad hT]
    (first | refine au ?_ | exact au0 | fail)
    intro id5 hid5 ht5; have n5 := neAll_of hid5; (try simp only [neAll, neAll_hset] at n5); have m5 := n5; (repeat (obtain ⟨_, m5⟩ := m5))
    (first | refine au ?_ | exact au0 | fail)
    exact fz_of
  | ok l =>
    have w := tokens_wt hT
    rw [parseP_ok hT]
    have hpos := w.pos
    have hw := w.len
    (first | refine au ?_ | exact au0 | fail)
    intro id5 hid5 ht5; have n5 := neAll_of hid5; (try simp only [neAll, neAll_hset] at n5); have m5 := n5; (repeat (obtain ⟨_, m5⟩ := m5))
    (first | refine au ?_ | exact au0 | fail)
    refine callF_eq (rrow6_spec w (rnot_spec w l.length) (GdF.rnt w l.length) ⟨0, 0, 0, 0⟩ hpos (by show l.length - 0 ≤ _; omega) (by decide) _) ?_
    have G := (GdF.nt w l.length).or w ⟨0, 0, 0, 0⟩ hpos (by show l.length - 0 ≤ _; omega)
    have hrel := top_rel l l.length ⟨0, 0, 0, 0⟩
    have hP : parseT l = if (endE l (orE l (ntE l l.length) ⟨0, 0, 0, 0⟩).2).e = 0 then ((orE l (ntE l l.length) ⟨0, 0, 0, 0⟩).1, 0, 0) else (ex0, (endE l (orE l (ntE l l.length) ⟨0, 0, 0, 0⟩).2).e, (endE l (orE l (ntE l l.length) ⟨0, 0, 0, 0⟩).2).a) := rfl
    rw [hP]
    clear hP
    generalize orE l (rnt l l.length) ⟨0, 0, 0, 0⟩ = Y at *
    generalize orE l (ntE l l.length) ⟨0, 0, 0, 0⟩ = X at *
    obtain ⟨r1, r2⟩ := hrel
    obtain ⟨x, τ⟩ := X
    obtain ⟨y, τ'⟩ := Y
    have Glt : τ.p < l.length := G.lt
    have Gz : τ.e = 0 → τ.a = 0 := G.z fun _ => rfl
    have r1' : τ' = τ := r1
    have r2' : τ.e = 0 → y = x := r2
    clear r1 r2 G
    subst r1'
    show putK _ _ (AV.tup [exA y, stA τ']) _
    obtain ⟨op, rel, args, kids⟩ := y
    (first | refine au ?_ | exact au0 | fail)
    intro id6 hid6 ht6; have n6 := neAll_of hid6; (try simp only [neAll, neAll_hset] at n6); have m6 := n6; (repeat (obtain ⟨_, m6⟩ := m6))
    (first | refine au ?_ | exact au0 | fail)
    intro id7 hid7 ht7; have n7 := neAll_of hid7; (try simp only [neAll, neAll_hset] at n7); have m7 := n7; (repeat (obtain ⟨_, m7⟩ := m7))
    (first | refine au ?_ | exact au0 | fail)
    rw [show (Int.toNat (τ'.p : Nat)) = τ'.p from rfl, tk_get Glt]
    by_cases he : τ'.e = 0
    · obtain rfl := r2' he
      by_cases h6 : (tk l τ'.p).1 = 6
      · rw [show endE l τ' = τ' from if_neg fun q => q.2 h6, if_pos he]
        (first | refine au ?_ | exact au0 | fail)
        rw [he, Gz he]
        exact fz_of
      · rw [show endE l τ' = τ'.fail l 11 from if_pos ⟨he, h6⟩]
        have hf : (τ'.fail l 11).e = 11 := by unfold PSt.fail; rw [if_pos he]
        rw [if_neg (show ¬ (τ'.fail l 11).e = 0 by rw [hf]; decide)]
        (first | refine au ?_ | exact au0 | fail)
        refine callF_eq (rbad_spec w Glt 11 _) ?_
        (first | refine au ?_ | exact au0 | fail)
        exact fz_of
    · rw [show endE l τ' = τ' from if_neg fun q => he q.1, if_neg he]
      (first | refine au ?_ | exact au0 | fail)
      refine bsplit_dec (fun h6 => ?_) (fun h6 => ?_)
      · (first | refine au ?_ | exact au0 | fail)
        refine callF_eq (rbad_spec w Glt 11 _) ?_
        rw [show τ'.fail l 11 = τ' from if_neg he]
        (first | refine au ?_ | exact au0 | fail)
        exact fz_of
      · (first | refine au ?_ | exact au0 | fail)
        exact fz_of
end Go.Proofs.Ytlmplofpclaokaa

/- A tree is the same as itself. -/
namespace Go.Proofs.Ytlmplofpclaokaa
set_option autoImplicit false
set_option linter.unusedSimpArgs false
set_option linter.unusedVariables false
attribute [local irreducible] callA callP ACalls
mutual
/-- Lists within a tree are not longer than memory lets them be. -/
def exOk : Ex → Prop
  | .mk op rel args kids => args.length ≤ 1099511627776 ∧ kids.length ≤ 1099511627776 ∧ exsOk kids
def exsOk : List Ex → Prop
  | [] => True
  | k :: ks => exOk k ∧ exsOk ks
end
theorem exsOk_mem : ∀ {l : List Ex}, exsOk l → ∀ x ∈ l, exOk x
  | [], _, x, hx => by cases hx
  | k :: ks, h, x, hx => by
    simp only [exsOk] at h
    rcases List.mem_cons.1 hx with rfl | hx
    · exact h.1
    · exact exsOk_mem h.2 x hx
theorem exRs_get {l : List Ex} {i : Nat} (h : i < l.length) : (exRs l).getD i [] = exR l[i] := by
  rw [exRs_map]; simp [List.getD, h]
theorem opRs_get {l : List Opd} {i : Nat} (h : i < l.length) : (l.map opR).getD i [] = opR l[i] := by
  simp [List.getD, h]
theorem eqOp (o : Opd) : eqCells [.i .i64, .s, .b, .i .u64] (opR o) (opR o) = some true := by simp [eqCells]
theorem same_spec : ∀ (n : Nat) (x : Ex), SizeOf.sizeOf x < n → exOk x → ∀ H : AH, ACalls PG broadsheetref15_Same.n [exA x, exA x] H fun r H' => r = .bool true ∧ H' = H
  | 0, x, h, _, H => by omega
  | n + 1, .mk op rel args kids, hsz, hok, H => by
    simp only [exOk] at hok
    obtain ⟨ha, hk, hks⟩ := hok
    have hal : (List.map (fun o : Opd => [AV.int .i64 o.k, .str o.t, .bool o.neg, .int .u64 (o.num : Nat)]) args).length = args.length := by simp
    have hkl := exRs_len kids
    refine ACalls.fz (broadsheetref15_Same.of rfl (wpF_start ?_))
    (first | refine au ?_ | exact au0 | fail)
    intro id2 hid2 ht2; have n2 := neAll_of hid2; (try simp only [neAll, neAll_hset] at n2); have m2 := n2; (repeat (obtain ⟨_, m2⟩ := m2))
    (first | refine au ?_ | exact au0 | fail)
    intro id3 hid3 ht3; have n3 := neAll_of hid3; (try simp only [neAll, neAll_hset] at n3); have m3 := n3; (repeat (obtain ⟨_, m3⟩ := m3))
    (first | refine au ?_ | exact au0 | fail)
    refine ⟨fun n L H' => ∃ i : Nat, n = args.length - i ∧ i ≤ args.length ∧ L = [(2, some (.ptr id2 4 0 0)), (3, some (.ptr id3 4 0 0)), (5, some (.int .i64 i))] ∧ H' = (id3, .rows 4 [exR (.mk op rel args kids)]) :: (id2, .rows 4 [exR (.mk op rel args kids)]) :: H,
      ⟨_, _, (by repeat (first | exact trivial | refine And.intro (Or.inl rfl) ?_ | refine And.intro (Or.inr (Exists.intro _ (And.intro rfl (Fz.refl _)))) ?_)), Sub.refl _, _, 0, rfl, Nat.zero_le _, rfl, rfl⟩, ?_⟩
    rintro m L H' ⟨i, rfl, hi, rfl, rfl⟩
    (first | refine au ?_ | exact au0 | fail)
    refine bsplit_dec (fun h1 => ?_) (fun h1 => ?_)
    · have hil : i < args.length := by omega
      (first | refine au ?_ | exact au0 | fail)
      rw [show (Int.toNat (i : Nat)) = i from rfl, opRs_get hil]
      (first | refine au ?_ | exact au0 | fail)
      rw [show (Int.toNat (i : Nat)) = i from rfl, opRs_get hil]
      (first | refine au ?_ | exact au0 | fail)
      refine ⟨true, eqOp _, ?_⟩
      (first | refine au ?_ | exact au0 | fail)
      refine ⟨[(2, some (.ptr id2 4 0 0)), (3, some (.ptr id3 4 0 0)), (5, some (.int .i64 (i + 1 : Nat)))], _, (by repeat (first | exact trivial | refine And.intro (Or.inl rfl) ?_ | refine And.intro (Or.inr (Exists.intro _ (And.intro rfl (Fz.refl _)))) ?_)), Sub.refl _, _, ?_, i + 1, rfl, by omega, rfl, rfl⟩
      omega
    · (first | refine au ?_ | exact au0 | fail)
      refine ⟨fun n L H' => ∃ i : Nat, n = kids.length - i ∧ i ≤ kids.length ∧ L = [(2, some (.ptr id2 4 0 0)), (3, some (.ptr id3 4 0 0)), (6, some (.int .i64 i))] ∧ H' = (id3, .rows 4 [exR (.mk op rel args kids)]) :: (id2, .rows 4 [exR (.mk op rel args kids)]) :: H,
        ⟨_, _, (by repeat (first | exact trivial | refine And.intro (Or.inl rfl) ?_ | refine And.intro (Or.inr (Exists.intro _ (And.intro rfl (Fz.refl _)))) ?_)), Sub.refl _, _, 0, rfl, Nat.zero_le _, rfl, rfl⟩, ?_⟩
      rintro m L H' ⟨j, rfl, hj, rfl, rfl⟩
      (first | refine au ?_ | exact au0 | fail)
      refine bsplit_dec (fun h2 => ?_) (fun h2 => ?_)
      · have hjl : j < kids.length := by omega
        have hmem : kids[j] ∈ kids := List.getElem_mem hjl
        have hs : SizeOf.sizeOf kids[j] < n := by
          have q1 := List.sizeOf_lt_of_mem hmem
          simp only [Ex.mk.sizeOf_spec] at hsz
          omega
        have hget0 := exRs_get hjl
        have hoky := exsOk_mem hks _ hmem
        generalize kids[j] = y at *
        have ih := same_spec n y hs hoky
        obtain ⟨op2, rel2, args2, kids2⟩ := y
        (first | refine au ?_ | exact au0 | fail)
        rw [show (Int.toNat (j : Nat)) = j from rfl, hget0]
        (first | refine au ?_ | exact au0 | fail)
        rw [show (Int.toNat (j : Nat)) = j from rfl, hget0]
        (first | refine au ?_ | exact au0 | fail)
        refine callF_eq (ih _) ?_
        (first | refine au ?_ | exact au0 | fail)
        refine ⟨[(2, some (.ptr id2 4 0 0)), (3, some (.ptr id3 4 0 0)), (6, some (.int .i64 (j + 1 : Nat)))], _, (by repeat (first | exact trivial | refine And.intro (Or.inl rfl) ?_ | refine And.intro (Or.inr (Exists.intro _ (And.intro rfl (Fz.refl _)))) ?_)), Sub.refl _, _, ?_, j + 1, rfl, by omega, rfl, rfl⟩
        omega
      · (first | refine au ?_ | exact au0 | fail)
        exact ⟨fz_of, sub_of⟩
end Go.Proofs.Ytlmplofpclaokaa

/- Loops: the frame is the one in which they begin, with what changes laid over it. -/
namespace Go.Proofs.Ytlmplofpclaokaa
set_option autoImplicit false
set_option linter.unusedVariables false
noncomputable def app (E L : FL) : FL := @List.rec (Nat × Option AV) (fun _ => FL) L (fun p _ ih => p :: ih) E
/-- A loop's invariant: a state, what changes of the frame, what is owned, the measure, what holds. -/
structure LI {S : Type} (ent : S → FL) (hp : S → AH) (μ : S → Nat) (P : S → Prop) (L0 : FL) (n : Nat) (L : FL) (H : AH) : Prop where
  out : ∃ s, n = μ s ∧ P s ∧ L = app (ent s) L0 ∧ H = hp s
theorem loopS {B : (Nat → FL → AH → Prop) → Nat → FL → AH → Prop} {L0 : FL} {H0 : AH} {S : Type} (ent : S → FL) (hp : S → AH) (μ : S → Nat) (P : S → Prop) (s0 : S) (h0 : P s0)
    (step : ∀ s, P s → B (LI ent hp μ P L0) (μ s) (app (ent s) L0) (hp s))
    (hc : coversZ H0 (hp s0) (app (ent s0) L0) L0 := by repeat (first | exact trivial | refine And.intro (Or.inl rfl) ?_ | refine And.intro (Or.inr (Exists.intro _ (And.intro rfl (Fz.refl _)))) ?_ | refine And.intro (Or.inr (Exists.intro _ (And.intro rfl (fz_eq (congrArg (AV.int _) (by omega)))))) ?_)) (hs : Sub (hp s0) H0 := by exact sub_of) :
    ∃ I : Nat → FL → AH → Prop, WeakF (fun M Hk => ∃ n, I n M Hk) L0 H0 ∧ ∀ n L H, I n L H → B I n L H :=
  ⟨LI ent hp μ P L0, ⟨_, _, hc, hs, _, ⟨s0, rfl, h0, rfl, rfl⟩⟩, by rintro n L H ⟨s, rfl, h, rfl, rfl⟩; exact step s h⟩
theorem nextS {S : Type} {ent : S → FL} {hp : S → AH} {μ : S → Nat} {P : S → Prop} {L0 L : FL} {H : AH} {n : Nat} (s : S)
    (hc : coversZ H (hp s) (app (ent s) L0) L) (hs : Sub (hp s) H) (hm : μ s < n) (h : P s) :
    ∃ M Hk, coversZ H Hk M L ∧ Sub Hk H ∧ ∃ m, m < n ∧ LI ent hp μ P L0 m M Hk := ⟨_, _, hc, hs, _, hm, ⟨s, rfl, h, rfl, rfl⟩⟩
theorem fz_eq {H Hc : AH} {r v : AV} (h : r = v) : Fz H Hc r v := by rw [h]; exact .refl _
/-- .. that counts from a to N, and owns nothing new. -/
theorem loopN {B : (Nat → FL → AH → Prop) → Nat → FL → AH → Prop} {L0 : FL} {H0 : AH} (d a N : Nat) (P : Nat → Prop) (ha : a ≤ N) (h0 : P a)
    (step : ∀ i, i ≤ N → P i → B (LI (fun i : Nat => [(d, some (.int .i64 (i : Nat)))]) (fun _ => H0) (fun i => N - i) (fun i => i ≤ N ∧ P i) L0) (N - i) ((d, some (.int .i64 (i : Nat))) :: L0) H0)
    (hc : coversZ H0 H0 ((d, some (.int .i64 (a : Nat))) :: L0) L0 := by repeat (first | exact trivial | refine And.intro (Or.inl rfl) ?_ | refine And.intro (Or.inr (Exists.intro _ (And.intro rfl (Fz.refl _)))) ?_ | refine And.intro (Or.inr (Exists.intro _ (And.intro rfl (fz_eq (congrArg (AV.int _) (by omega)))))) ?_)) :
    ∃ I : Nat → FL → AH → Prop, WeakF (fun M Hk => ∃ n, I n M Hk) L0 H0 ∧ ∀ n L H, I n L H → B I n L H :=
  loopS (S := Nat) (fun i => [(d, some (.int .i64 (i : Nat)))]) (fun _ => H0) (fun i => N - i) (fun i => i ≤ N ∧ P i) a ⟨ha, h0⟩ (fun i h => step i h.1 h.2) hc (Sub.refl _)
theorem nextN {d N i : Nat} {P : Nat → Prop} {H0 H : AH} {L0 L : FL} (hc : coversZ H H0 ((d, some (.int .i64 ((i + 1 : Nat) : Int))) :: L0) L) (hs : Sub H0 H) (h1 : i < N) (h2 : P (i + 1)) :
    ∃ M Hk, coversZ H Hk M L ∧ Sub Hk H ∧ ∃ m, m < N - i ∧ LI (fun i : Nat => [(d, some (.int .i64 (i : Nat)))]) (fun _ => H0) (fun i => N - i) (fun i => i ≤ N ∧ P i) L0 m M Hk :=
  nextS (S := Nat) (ent := fun i => [(d, some (.int .i64 (i : Nat)))]) (hp := fun _ => H0) (i + 1) hc hs (by show N - (i + 1) < N - i; omega) ⟨h1, h2⟩
/-- A list's rows, by what they stand for. -/
theorem row_get {α : Type} {f : α → List AV} {l : List α} {i : Nat} (h : i < l.length) : (l.map f).getD (Int.toNat (i : Nat)) [] = f l[i] := by
  rw [Int.toNat_natCast]; simp [List.getD, h]
theorem cast_max (a b : Nat) : ((max a b : Nat) : Int) = max (a : Int) (b : Int) := by omega
theorem cast_min (a b : Nat) : ((min a b : Nat) : Int) = min (a : Int) (b : Int) := by omega
end Go.Proofs.Ytlmplofpclaokaa

/- How deep and how great a tree is, walked. -/
namespace Go.Proofs.Ytlmplofpclaokaa
set_option autoImplicit false
set_option linter.unusedSimpArgs false
set_option linter.unusedVariables false
attribute [local irreducible] callA callP ACalls
theorem exRs_geti {l : List Ex} {i : Nat} (h : i < l.length) : (exRs l).getD (Int.toNat (i : Nat)) [] = exR l[i] := exRs_get h
theorem exSz {l : List Ex} {i : Nat} (h : i < l.length) : SizeOf.sizeOf l[i] < SizeOf.sizeOf l := List.sizeOf_lt_of_mem (List.getElem_mem h)
theorem Deep_spec : ∀ (n : Nat) (x : Ex), SizeOf.sizeOf x < n → eSize x ≤ 1000000 → ACalls PG expr_Deep.n [exA x] [] fun r _ => r = .int .i64 (eDeep x : Nat)
  | 0, x, h, _ => by omega
  | n + 1, .mk op rel args kids, hsz, hle => by
    have hkl := exRs_len kids
    have hlen := eSizes_len kids
    have hds := eDeep_size (.mk op rel args kids)
    simp only [eDeep] at hds ⊢
    have hs0 : eSizes kids ≤ 1000000 := by simp only [eSize] at hle; omega
    refine ACalls.fzK (expr_Deep.of rfl (wpF_start ?_))
    (first | refine au ?_ | exact au0 | fail)
    intro id1 hid1 ht1; have n1 := neAll_of hid1; (try simp only [neAll, neAll_hset] at n1); have m1 := n1; (repeat (obtain ⟨_, m1⟩ := m1))
    (first | refine au ?_ | exact au0 | fail)
    refine loopS (S := Nat) (fun i => [(3, some (.int .i64 (eDeeps (kids.take i) : Nat))), (9, some (.int .i64 (i : Nat)))]) (fun _ => _) (fun i => kids.length - i) (fun i => i ≤ kids.length) 0 (Nat.zero_le _) (fun i hi => ?_)
    (first | refine au ?_ | exact au0 | fail)
    refine bsplit_dec (fun h1 => ?_) (fun h1 => ?_)
    · have hil : i < kids.length := by omega
      have ht := eDeeps_take kids i hil
      have htl := eDeeps_takeLe kids (i + 1)
      have hg := exRs_geti hil
      have hsz' := exSz hil
      have hm := eSizes_mem (List.getElem_mem hil)
      simp only [Ex.mk.sizeOf_spec] at hsz
      have ih := Deep_spec n kids[i] (by omega) (by omega)
      generalize kids[i] = y at *
      obtain ⟨op2, rel2, args2, kids2⟩ := y
      (first | refine au ?_ | exact au0 | fail)
      rw [hg]
      (first | refine au ?_ | exact au0 | fail)
      intro id5 hid5 ht5; have n5 := neAll_of hid5; (try simp only [neAll, neAll_hset] at n5); have m5 := n5; (repeat (obtain ⟨_, m5⟩ := m5))
      (first | refine au ?_ | exact au0 | fail)
      refine callF_eq (ih.frame _) ?_
      (first | refine au ?_ | exact au0 | fail)
      refine nextS ((i + 1 : Nat)) (by (try dsimp only); rw [ ht, cast_max]; repeat (first | exact trivial | refine And.intro (Or.inl rfl) ?_ | refine And.intro (Or.inr (Exists.intro _ (And.intro rfl (Fz.refl _)))) ?_ | refine And.intro (Or.inr (Exists.intro _ (And.intro rfl (fz_eq (congrArg (AV.int _) (by omega)))))) ?_)) (by exact sub_of) (by first | omega | (dsimp only; omega)) ?_; (try dsimp only)
      exact hil
    · have e1 := List.take_of_length_le (show kids.length ≤ i from by omega)
      rw [e1]
      (first | refine au ?_ | exact au0 | fail)
      exact fz_eq (congrArg (AV.int .i64) (by omega))
theorem rDeep_spec : ∀ (n : Nat) (x : Ex), SizeOf.sizeOf x < n → eSize x ≤ 1000000 → ACalls PG broadsheetref15_Deep.n [exA x] [] fun r _ => r = .int .i64 (eDeep x : Nat)
  | 0, x, h, _ => by omega
  | n + 1, .mk op rel args kids, hsz, hle => by
    have hkl := exRs_len kids
    have hlen := eSizes_len kids
    have hds := eDeep_size (.mk op rel args kids)
    simp only [eDeep] at hds ⊢
    have hs0 : eSizes kids ≤ 1000000 := by simp only [eSize] at hle; omega
    refine ACalls.fzK (broadsheetref15_Deep.of rfl (wpF_start ?_))
    (first | refine au ?_ | exact au0 | fail)
    intro id1 hid1 ht1; have n1 := neAll_of hid1; (try simp only [neAll, neAll_hset] at n1); have m1 := n1; (repeat (obtain ⟨_, m1⟩ := m1))
    (first | refine au ?_ | exact au0 | fail)
    refine loopS (S := Nat) (fun i => [(3, some (.int .i64 (1 + eDeeps (kids.take i) : Nat))), (4, some (.int .i64 (i : Nat)))]) (fun _ => _) (fun i => kids.length - i) (fun i => i ≤ kids.length) 0 (Nat.zero_le _) (fun i hi => ?_)
    (first | refine au ?_ | exact au0 | fail)
    refine bsplit_dec (fun h1 => ?_) (fun h1 => ?_)
    · have hil : i < kids.length := by omega
      have ht := eDeeps_take kids i hil
      have htl := eDeeps_takeLe kids (i + 1)
      have hg := exRs_geti hil
      have hsz' := exSz hil
      have hm := eSizes_mem (List.getElem_mem hil)
      simp only [Ex.mk.sizeOf_spec] at hsz
      have ih := rDeep_spec n kids[i] (by omega) (by omega)
      generalize kids[i] = y at *
      obtain ⟨op2, rel2, args2, kids2⟩ := y
      (first | refine au ?_ | exact au0 | fail)
      rw [hg]
      (first | refine au ?_ | exact au0 | fail)
      refine callF_eq (ih.frame _) ?_
      (first | refine au ?_ | exact au0 | fail)
      refine bsplit_dec (fun h2 => ?_) (fun h2 => ?_)
      · (first | refine au ?_ | exact au0 | fail)
        refine nextS ((i + 1 : Nat)) (by (try dsimp only); rw [ ht, show ((1 + max (eDeeps (kids.take i)) (eDeep (.mk op2 rel2 args2 kids2)) : Nat) : Int) = ((eDeep (.mk op2 rel2 args2 kids2) : Nat) : Int) + 1 from by omega]; repeat (first | exact trivial | refine And.intro (Or.inl rfl) ?_ | refine And.intro (Or.inr (Exists.intro _ (And.intro rfl (Fz.refl _)))) ?_ | refine And.intro (Or.inr (Exists.intro _ (And.intro rfl (fz_eq (congrArg (AV.int _) (by omega)))))) ?_)) (by exact sub_of) (by first | omega | (dsimp only; omega)) ?_; (try dsimp only)
        exact hil
      · (first | refine au ?_ | exact au0 | fail)
        refine nextS ((i + 1 : Nat)) (by (try dsimp only); rw [ ht, show 1 + max (eDeeps (kids.take i)) (eDeep (.mk op2 rel2 args2 kids2)) = 1 + eDeeps (kids.take i) from by omega]; repeat (first | exact trivial | refine And.intro (Or.inl rfl) ?_ | refine And.intro (Or.inr (Exists.intro _ (And.intro rfl (Fz.refl _)))) ?_ | refine And.intro (Or.inr (Exists.intro _ (And.intro rfl (fz_eq (congrArg (AV.int _) (by omega)))))) ?_)) (by exact sub_of) (by first | omega | (dsimp only; omega)) ?_; (try dsimp only)
        exact hil
    · have e1 := List.take_of_length_le (show kids.length ≤ i from by omega)
      rw [e1]
      (first | refine au ?_ | exact au0 | fail)
      exact fz_eq (congrArg (AV.int .i64) (by omega))
theorem Size_spec : ∀ (n : Nat) (x : Ex), SizeOf.sizeOf x < n → eSize x ≤ 1000000 → ACalls PG expr_Size.n [exA x] [] fun r _ => r = .int .i64 (eSize x : Nat)
  | 0, x, h, _ => by omega
  | n + 1, .mk op rel args kids, hsz, hle => by
    have hkl := exRs_len kids
    have hlen := eSizes_len kids
    have hal : (List.map (fun o : Opd => [AV.int .i64 o.k, .str o.t, .bool o.neg, .int .u64 (o.num : Nat)]) args).length = args.length := by simp
    simp only [eSize] at hle ⊢
    refine ACalls.fzK (expr_Size.of rfl (wpF_start ?_))
    (first | refine au ?_ | exact au0 | fail)
    intro id1 hid1 ht1; have n1 := neAll_of hid1; (try simp only [neAll, neAll_hset] at n1); have m1 := n1; (repeat (obtain ⟨_, m1⟩ := m1))
    (first | refine au ?_ | exact au0 | fail)
    refine loopS (S := Nat) (fun i => [(3, some (.int .i64 (1 + args.length + eSizes (kids.take i) : Nat))), (13, some (.int .i64 (i : Nat)))]) (fun _ => _) (fun i => kids.length - i) (fun i => i ≤ kids.length) 0 (Nat.zero_le _) (fun i hi => ?_)
      (by repeat (first | exact trivial | refine And.intro (Or.inr (Exists.intro _ (And.intro rfl (fz_eq (congrArg (AV.int .i64) (by simp only [List.take_zero, eSizes]; omega)))))) ?_ | refine And.intro (Or.inl rfl) ?_ | refine And.intro (Or.inr (Exists.intro _ (And.intro rfl (Fz.refl _)))) ?_))
    (first | refine au ?_ | exact au0 | fail)
    refine bsplit_dec (fun h1 => ?_) (fun h1 => ?_)
    · have hil : i < kids.length := by omega
      have ht := eSizes_take kids i hil
      have htl := eSizes_takeLe kids (i + 1)
      have hg := exRs_geti hil
      have hsz' := exSz hil
      have hm := eSizes_mem (List.getElem_mem hil)
      simp only [Ex.mk.sizeOf_spec] at hsz
      have ih := Size_spec n kids[i] (by omega) (by omega)
      generalize kids[i] = y at *
      obtain ⟨op2, rel2, args2, kids2⟩ := y
      (first | refine au ?_ | exact au0 | fail)
      rw [hg]
      (first | refine au ?_ | exact au0 | fail)
      intro id5 hid5 ht5; have n5 := neAll_of hid5; (try simp only [neAll, neAll_hset] at n5); have m5 := n5; (repeat (obtain ⟨_, m5⟩ := m5))
      (first | refine au ?_ | exact au0 | fail)
      refine callF_eq (ih.frame _) ?_
      (first | refine au ?_ | exact au0 | fail)
      refine nextS ((i + 1 : Nat)) (by (try dsimp only); rw [ ht, ← Nat.add_assoc, Int.natCast_add (1 + args.length + eSizes (kids.take i))]; repeat (first | exact trivial | refine And.intro (Or.inl rfl) ?_ | refine And.intro (Or.inr (Exists.intro _ (And.intro rfl (Fz.refl _)))) ?_ | refine And.intro (Or.inr (Exists.intro _ (And.intro rfl (fz_eq (congrArg (AV.int _) (by omega)))))) ?_)) (by exact sub_of) (by first | omega | (dsimp only; omega)) ?_; (try dsimp only)
      exact hil
    · have e1 := List.take_of_length_le (show kids.length ≤ i from by omega)
      rw [e1]
      (first | refine au ?_ | exact au0 | fail)
      exact fz_of
theorem rSize_spec : ∀ (n : Nat) (x : Ex), SizeOf.sizeOf x < n → eSize x ≤ 1000000 → ACalls PG broadsheetref15_Size.n [exA x] [] fun r _ => r = .int .i64 (eSize x : Nat)
  | 0, x, h, _ => by omega
  | n + 1, .mk op rel args kids, hsz, hle => by
    have hkl := exRs_len kids
    have hlen := eSizes_len kids
    have hal : (List.map (fun o : Opd => [AV.int .i64 o.k, .str o.t, .bool o.neg, .int .u64 (o.num : Nat)]) args).length = args.length := by simp
    simp only [eSize] at hle ⊢
    refine ACalls.fzK (broadsheetref15_Size.of rfl (wpF_start ?_))
    (first | refine au ?_ | exact au0 | fail)
    intro id1 hid1 ht1; have n1 := neAll_of hid1; (try simp only [neAll, neAll_hset] at n1); have m1 := n1; (repeat (obtain ⟨_, m1⟩ := m1))
    (first | refine au ?_ | exact au0 | fail)
    refine loopS (S := Nat) (fun i => [(3, some (.int .i64 (1 + args.length + eSizes (kids.take i) : Nat))), (4, some (.int .i64 (i : Nat)))]) (fun _ => _) (fun i => kids.length - i) (fun i => i ≤ kids.length) 0 (Nat.zero_le _) (fun i hi => ?_)
      (by repeat (first | exact trivial | refine And.intro (Or.inr (Exists.intro _ (And.intro rfl (fz_eq (congrArg (AV.int .i64) (by simp only [List.take_zero, eSizes]; omega)))))) ?_ | refine And.intro (Or.inl rfl) ?_ | refine And.intro (Or.inr (Exists.intro _ (And.intro rfl (Fz.refl _)))) ?_))
    (first | refine au ?_ | exact au0 | fail)
    refine bsplit_dec (fun h1 => ?_) (fun h1 => ?_)
    · have hil : i < kids.length := by omega
      have ht := eSizes_take kids i hil
      have htl := eSizes_takeLe kids (i + 1)
      have hg := exRs_geti hil
      have hsz' := exSz hil
      have hm := eSizes_mem (List.getElem_mem hil)
      simp only [Ex.mk.sizeOf_spec] at hsz
      have ih := rSize_spec n kids[i] (by omega) (by omega)
      generalize kids[i] = y at *
      obtain ⟨op2, rel2, args2, kids2⟩ := y
      (first | refine au ?_ | exact au0 | fail)
      rw [hg]
      (first | refine au ?_ | exact au0 | fail)
      refine callF_eq (ih.frame _) ?_
      (first | refine au ?_ | exact au0 | fail)
      refine nextS ((i + 1 : Nat)) (by (try dsimp only); rw [ ht, ← Nat.add_assoc, Int.natCast_add (1 + args.length + eSizes (kids.take i))]; repeat (first | exact trivial | refine And.intro (Or.inl rfl) ?_ | refine And.intro (Or.inr (Exists.intro _ (And.intro rfl (Fz.refl _)))) ?_ | refine And.intro (Or.inr (Exists.intro _ (And.intro rfl (fz_eq (congrArg (AV.int _) (by omega)))))) ?_)) (by exact sub_of) (by first | omega | (dsimp only; omega)) ?_; (try dsimp only)
      exact hil
    · have e1 := List.take_of_length_le (show kids.length ≤ i from by omega)
      rw [e1]
      (first | refine au ?_ | exact au0 | fail)
      exact fz_of
theorem opRs_geti {l : List Opd} {i : Nat} (h : i < l.length) : (l.map opR).getD (Int.toNat (i : Nat)) [] = opR l[i] := opRs_get h
/-- Texts of operands, bounded. -/
def txB (a : List Opd) (i : Nat) : Nat := min (eTx (a.take i)) 100000
theorem txB_step {a : List Opd} {i : Nat} (h : i < a.length) : txB a (i + 1) = min (txB a i + a[i].t.length) 100000 := by
  unfold txB; rw [eTx_take a i h]; omega
/-- What is counted: with operands' texts first. -/
def cnt (a : List Opd) (k : List Ex) (i : Nat) : Nat := min (txB a a.length + eSizes (k.take i)) 100000
theorem cnt_step {a : List Opd} {k : List Ex} {i : Nat} (h : i < k.length) : cnt a k (i + 1) = min (cnt a k i + eSize k[i]) 100000 := by
  unfold cnt; rw [eSizes_take k i h]; omega
theorem Great_spec : ∀ (n : Nat) (x : Ex) (d : Nat), SizeOf.sizeOf x < n → eOk x → d ≤ 100 → ACalls PG broadsheetref15_Great.n [exA x, .int .i64 (d : Nat)] [] fun r _ => r = .bool (eMuch x d)
  | 0, x, d, h, _, _ => by omega
  | n + 1, .mk op rel args kids, d, hsz, hok, hd => by
    have hkl := exRs_len kids
    have hal : (List.map (fun o : Opd => [AV.int .i64 o.k, .str o.t, .bool o.neg, .int .u64 (o.num : Nat)]) args).length = args.length := by simp
    simp only [eOk] at hok
    obtain ⟨ha, htx, hk, hks⟩ := hok
    simp only [eMuch]
    refine ACalls.fzK (broadsheetref15_Great.of rfl (wpF_start ?_))
    (first | refine au ?_ | exact au0 | fail)
    intro id2 hid2 ht2; have n2 := neAll_of hid2; (try simp only [neAll, neAll_hset] at n2); have m2 := n2; (repeat (obtain ⟨_, m2⟩ := m2))
    (first | refine au ?_ | exact au0 | fail)
    refine bsplit_dec (fun c1 => ?_) (fun c1 => ?_)
    · (first | refine au ?_ | exact au0 | fail)
      exact fz_eq (congrArg AV.bool (by simp [show 40 < d from by omega]))
    (first | refine au ?_ | exact au0 | fail)
    refine bsplit_dec (fun c2 => ?_) (fun c2 => ?_)
    · (first | refine au ?_ | exact au0 | fail)
      exact fz_eq (congrArg AV.bool (by simp [show 100 < kids.length from by omega]))
    (first | refine au ?_ | exact au0 | fail)
    refine bsplit_dec (fun c3 => ?_) (fun c3 => ?_)
    · (first | refine au ?_ | exact au0 | fail)
      exact fz_eq (congrArg AV.bool (by simp [show 100 < args.length from by omega]))
    rw [decide_eq_false (show ¬ 40 < d from by omega), decide_eq_false (show ¬ 100 < kids.length from by omega), decide_eq_false (show ¬ 100 < args.length from by omega), Bool.false_or, Bool.false_or, Bool.false_or]
    (first | refine au ?_ | exact au0 | fail)
    refine loopS (S := Nat) (fun i => [(5, some (.int .i64 (txB args i : Nat))), (6, some (.int .i64 (i : Nat)))]) (fun _ => _) (fun i => args.length - i) (fun i => i ≤ args.length) 0 (Nat.zero_le _) (fun i hi => ?_)
    have hb : txB args i ≤ 100000 := by unfold txB; omega
    (first | refine au ?_ | exact au0 | fail)
    refine bsplit_dec (fun h1 => ?_) (fun h1 => ?_)
    · have hil : i < args.length := by omega
      have hg := opRs_geti hil
      have ht := txB_step hil
      have hl := htx _ (List.getElem_mem hil)
      generalize args[i] = o at *
      (first | refine au ?_ | exact au0 | fail)
      rw [hg]
      (first | refine au ?_ | exact au0 | fail)
      refine nextS ((i + 1 : Nat)) (by (try dsimp only); rw [ ht, cast_min]; repeat (first | exact trivial | refine And.intro (Or.inl rfl) ?_ | refine And.intro (Or.inr (Exists.intro _ (And.intro rfl (Fz.refl _)))) ?_ | refine And.intro (Or.inr (Exists.intro _ (And.intro rfl (fz_eq (congrArg (AV.int _) (by omega)))))) ?_)) (by exact sub_of) (by first | omega | (dsimp only; omega)) ?_; (try dsimp only)
      exact hil
    have e1 : i = args.length := by omega
    subst e1
    have e0 : cnt args kids 0 = txB args args.length := by unfold cnt txB; simp only [List.take_zero, eSizes]; omega
    (first | refine au ?_ | exact au0 | fail)
    refine loopS (S := Nat) (fun i => [(5, some (.int .i64 (cnt args kids i : Nat))), (7, some (.int .i64 (i : Nat)))]) (fun _ => _) (fun i => kids.length - i) (fun i => i ≤ kids.length ∧ ∀ (j : Nat) (h : j < kids.length), j < i → eMuch kids[j] (d + 1) = false) 0 ⟨Nat.zero_le _, fun j _ h => by omega⟩ (fun j hj => ?_)
    have hb2 : cnt args kids j ≤ 100000 := by unfold cnt; omega
    obtain ⟨hj, hno⟩ := hj
    (first | refine au ?_ | exact au0 | fail)
    refine bsplit_dec (fun h2 => ?_) (fun h2 => ?_)
    · have hil : j < kids.length := by omega
      have ht := cnt_step (a := args) hil
      have hg := exRs_geti hil
      have hsz' := exSz hil
      simp only [Ex.mk.sizeOf_spec] at hsz
      have ih := Great_spec n kids[j] (d + 1) (by omega) (eOks_mem hks _ (List.getElem_mem hil)) (by omega)
      have ihs := rSize_spec n kids[j] (by omega)
      have hat := eMuchs_at (d := d + 1) hil
      have hgr := @eMuch_size kids[j] (d + 1)
      have hno1 : eMuch kids[j] (d + 1) = false → ∀ (k : Nat) (h : k < kids.length), k < j + 1 → eMuch kids[k] (d + 1) = false := fun q k hk h3 => by
        by_cases e : k = j
        · subst e; exact q
        · exact hno k hk (by omega)
      generalize kids[j] = y at *
      obtain ⟨op2, rel2, args2, kids2⟩ := y
      (first | refine au ?_ | exact au0 | fail)
      rw [hg]
      (first | refine au ?_ | exact au0 | fail)
      refine callF_eq (ih.frame _) ?_
      (first | refine au ?_ | exact au0 | fail)
      refine bsplit_intro (fun h3 => ?_) (fun h3 => ?_)
      · (first | refine au ?_ | exact au0 | fail)
        exact fz_eq (congrArg AV.bool (by rw [hat h3]; rfl))
      have hs3 := hgr h3
      (first | refine au ?_ | exact au0 | fail)
      rw [hg]
      (first | refine au ?_ | exact au0 | fail)
      refine callF_eq ((ihs (by omega)).frame _) ?_
      (first | refine au ?_ | exact au0 | fail)
      refine nextS ((j + 1 : Nat)) (by (try dsimp only); rw [ ht, cast_min]; repeat (first | exact trivial | refine And.intro (Or.inl rfl) ?_ | refine And.intro (Or.inr (Exists.intro _ (And.intro rfl (Fz.refl _)))) ?_ | refine And.intro (Or.inr (Exists.intro _ (And.intro rfl (fz_eq (congrArg (AV.int _) (by omega)))))) ?_)) (by exact sub_of) (by first | omega | (dsimp only; omega)) ?_; (try dsimp only)
      exact ⟨hil, hno1 h3⟩
    · have e2 : j = kids.length := by omega
      subst e2
      (first | refine au ?_ | exact au0 | fail)
      refine fz_eq (congrArg AV.bool ?_)
      rw [eMuchs_end fun i h => hno i h h, Bool.false_or]
      have : cnt args kids kids.length = min (min (eTx args) 100000 + eSizes kids) 100000 := by unfold cnt txB; rw [List.take_length, List.take_length]
      rw [this]
      exact decide_eq_decide.2 (by omega)
end Go.Proofs.Ytlmplofpclaokaa
