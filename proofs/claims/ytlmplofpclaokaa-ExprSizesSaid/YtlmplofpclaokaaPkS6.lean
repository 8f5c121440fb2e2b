/- Texts of this proof, one behind the other: ExprLaw, SimRec, ExprSizeLaw. -/
import Derived.Test.YtlmplofpclaokaaPkS5
/- The law 'ExprReads', walked. -/
namespace Go.Proofs.Ytlmplofpclaokaa
set_option autoImplicit false
set_option linter.unusedSimpArgs false
set_option linter.unusedVariables false
attribute [local irreducible] callA callP ACalls
theorem exsOk_of : ∀ {l : List Ex}, (∀ x ∈ l, exOk x) → exsOk l
  | [], _ => trivial
  | k :: ks, h => ⟨h k List.mem_cons_self, exsOk_of fun x hx => h x (List.mem_cons_of_mem _ hx)⟩
theorem ex0_ok : exOk ex0 := ⟨by simp, by simp, trivial⟩
theorem tst_ok (l : List Tok) (σ : PSt) : exOk (tst l σ).1 := by
  unfold tst
  dsimp only
  split
  · split
    · exact ⟨by simp, by simp, trivial⟩
    · split
      · exact ⟨by simp, by simp, trivial⟩
      · unfold btw
        dsimp only
        split
        · exact ⟨by simp, by simp, ⟨by simp, by simp, trivial⟩, trivial⟩
        · exact ⟨by simp, by simp, trivial⟩
  · exact ex0_ok
theorem rwL_ok {l : List Tok} {f : PSt → Ex × PSt} (hf : ∀ σ, exOk (f σ).1) (w : List UInt8) : ∀ (k : Nat) (acc : List Ex) (σ : PSt), (∀ x ∈ acc, exOk x) → (∀ x ∈ (rwL l f w k acc σ).1, exOk x) ∧ (rwL l f w k acc σ).1.length ≤ acc.length + k
  | 0, acc, σ, h => ⟨h, Nat.le_refl _⟩
  | k + 1, acc, σ, h => by
    unfold rwL
    split
    · have := rwL_ok (l := l) hf w k (acc ++ [(f σ.on).1]) (f σ.on).2 fun x hx => by
        rcases List.mem_append.1 hx with hx | hx
        · exact h x hx
        · simp at hx; rw [hx]; exact hf _
      refine ⟨this.1, ?_⟩
      have q := this.2
      simp at q ⊢
      omega
    · exact ⟨h, by simp⟩
theorem rw_ok {l : List Tok} (hl : l.length ≤ 65) {f : PSt → Ex × PSt} (hf : ∀ σ, exOk (f σ).1) (w : List UInt8) (op : Int) (σ : PSt) : exOk (rw' l f w op σ).1 := by
  have := rwL_ok (l := l) hf w (l.length + 1) [(f σ).1] (f σ).2 (fun x hx => by simp at hx; rw [hx]; exact hf _)
  unfold rw'
  dsimp only
  split
  · exact hf _
  · refine ⟨by simp, ?_, exsOk_of this.1⟩
    have q := this.2
    simp at q
    omega
theorem nt_ok {l : List Tok} (hl : l.length ≤ 65) : ∀ (n : Nat) (σ : PSt), exOk (ntE l n σ).1
  | 0, σ => ex0_ok
  | n + 1, σ => by
    have ih := nt_ok hl n
    unfold ntE
    split
    · split
      · unfold wth
        split
        · exact ex0_ok
        · exact ⟨by simp, by simp, ih _, trivial⟩
      · split
        · unfold wth
          split
          · exact ex0_ok
          · exact rw_ok hl (fun σ => rw_ok hl ih _ _ σ) _ _ _
        · exact tst_ok l σ
    · exact ex0_ok
theorem parseP_ok' (s : List UInt8) : exOk (parseP s).1 := by
  cases hT : tokens s with
  | bad e p => rw [parseP_bad hT]; exact ex0_ok
  | ok l =>
    rw [parseP_ok hT]
    have w := tokens_wt hT
    unfold parseT
    split
    · exact rw_ok w.len (fun σ => rw_ok w.len (nt_ok w.len _) _ _ σ) _ _ _
    · exact ex0_ok
def tksF (s : List UInt8) : Nat → Nat → Nat → TR
  | 0, a, n => .ok [(6, [], 0, s.length)]
  | k + 1, a, n => if a < s.length then
      if blnk (s.getD a 0) then tksF s k (a + 1) n
      else match lex (s.drop a) with
        | .bad e off => .bad e (a + off)
        | .tok kk t num m => if n = 64 then .bad 3 a else TR.pre [(kk, t, num, a)] (tksF s k (a + m) (n + 1))
    else .ok [(6, [], 0, s.length)]
theorem tks_fuel (s : List UInt8) : ∀ (k a n : Nat), s.length - a ≤ k → tks s a n = tksF s k a n
  | 0, a, n, h => by rw [tks_end (by omega)]; rfl
  | k + 1, a, n, h => by
    unfold tksF
    split
    · rename_i hl
      rw [tks_eq hl]
      split
      · exact tks_fuel s k _ n (by omega)
      · cases hx : lex (s.drop a) with
        | bad e off => rfl
        | tok kk t num m =>
          have := lex_bound hx
          dsimp only
          rw [tks_fuel s k _ _ (by omega)]
    · rw [tks_end (by omega)]
def exS : List UInt8 := [97, 32, 61, 32, 49, 32, 65, 78, 68, 32, 78, 79, 84, 32, 98, 32, 61, 32, 50, 32, 79, 82, 32, 99, 32, 76, 73, 75, 69, 32, 39, 120, 37, 39]
def exT : Ex := .mk 6 0 [] [.mk 5 0 [] [.mk 1 1 [⟨1, [97], false, 0⟩, ⟨2, [], false, 1⟩] [], .mk 4 0 [] [.mk 1 1 [⟨1, [98], false, 0⟩, ⟨2, [], false, 2⟩] []]], .mk 3 0 [⟨1, [99], false, 0⟩, ⟨3, [120, 37], false, 0⟩] []]
def exTk : List Tok := [(1, [97], 0, 0), (5, [61], 0, 2), (2, [49], 1, 4), (1, [65, 78, 68], 0, 6), (1, [78, 79, 84], 0, 10), (1, [98], 0, 14), (5, [61], 0, 16), (2, [50], 2, 18), (1, [79, 82], 0, 20), (1, [99], 0, 23), (1, [76, 73, 75, 69], 0, 25), (3, [120, 37], 0, 30), (6, [], 0, 34)]
theorem exTk_eq : tokens exS = .ok exTk := by
  unfold tokens
  rw [if_neg (by decide), tks_fuel exS 34 0 0 (by decide)]
  kernel_rfl
theorem exP_eq : parseT exTk = (exT, 0, 0) := by kernel_rfl
theorem exS_eq : parseP exS = (exT, 0, 0) := by rw [parseP_ok exTk_eq, exP_eq]
theorem ex_awake_spec (H : AH) : ACalls PG broadsheetlaw15_awake.n [] H fun r H' => r = .bool true ∧ H' = H := by
  refine ACalls.fz (broadsheetlaw15_awake.of rfl (wpF_start ?_))
  (first | refine au ?_ | exact au0 | fail)
  refine callF_eq ((Parse_spec (s := exS) (by decide)).frame _) ?_
  rw [exS_eq]
  unfold exT
  (first | refine au ?_ | exact au0 | fail)
  intro id1 hid1 ht1; have n1 := neAll_of hid1; (try simp only [neAll, neAll_hset] at n1); have m1 := n1; (repeat (obtain ⟨_, m1⟩ := m1))
  (first | refine au ?_ | exact au0 | fail)
  intro id2 hid2 ht2; have n2 := neAll_of hid2; (try simp only [neAll, neAll_hset] at n2); have m2 := n2; (repeat (obtain ⟨_, m2⟩ := m2))
  (first | refine au ?_ | exact au0 | fail)
  refine ⟨true, rfl, ?_⟩
  (first | refine au ?_ | exact au0 | fail)
  exact ⟨fz_of, sub_of⟩
theorem ExprReads_spec {s : List UInt8} (hs : s.length ≤ 140737488351232) : ACalls PG broadsheetlaw15_ExprReads.n [.str s] [] fun r _ => r = .bool true := by
  have hok := parseP_ok' s
  refine ACalls.fzK (broadsheetlaw15_ExprReads.of rfl (wpF_start ?_))
  (first | refine au ?_ | exact au0 | fail)
  refine callF_eq ((Parse_spec hs).frame _) ?_
  have hR := rParse_spec hs
  generalize parseP s = R at *
  obtain ⟨x, e, a⟩ := R
  have hsame := same_spec _ x (Nat.lt_succ_self _) hok
  obtain ⟨op, rel, args, kids⟩ := x
  (first | refine au ?_ | exact au0 | fail)
  intro id3 hid3 ht3; have n3 := neAll_of hid3; (try simp only [neAll, neAll_hset] at n3); have m3 := n3; (repeat (obtain ⟨_, m3⟩ := m3))
  (first | refine au ?_ | exact au0 | fail)
  intro id4 hid4 ht4; have n4 := neAll_of hid4; (try simp only [neAll, neAll_hset] at n4); have m4 := n4; (repeat (obtain ⟨_, m4⟩ := m4))
  (first | refine au ?_ | exact au0 | fail)
  refine callF_eq (hR.frame _) ?_
  (first | refine au ?_ | exact au0 | fail)
  intro id5 hid5 ht5; have n5 := neAll_of hid5; (try simp only [neAll, neAll_hset] at n5); have m5 := n5; (repeat (obtain ⟨_, m5⟩ := m5))
  (first | refine au ?_ | exact au0 | fail)
  intro id6 hid6 ht6; have n6 := neAll_of hid6; (try simp only [neAll, neAll_hset] at n6); have m6 := n6; (repeat (obtain ⟨_, m6⟩ := m6))
  (first | refine au ?_ | exact au0 | fail)
  refine callF_eq (hsame _) ?_
  (first | refine au ?_ | exact au0 | fail)
  refine ⟨true, by simp [eqCells], ?_⟩
  (first | refine au ?_ | exact au0 | fail)
  refine callF_eq (ex_awake_spec _) ?_
  (first | refine au ?_ | exact au0 | fail)
  exact fz_of
def Shapes.exprReads0 : Sh := .str
theorem ExprReads_row (a0 : AV) (h0 : ArgOk false Shapes.exprReads0 a0) : ACalls PG broadsheetlaw15_ExprReads.n [a0] [] fun r _ => r = .bool true := by
  obtain ⟨p, e0, h⟩ := h0
  simp only [List.cons.injEq, and_true] at e0
  subst e0
  exact ExprReads_spec h
end Go.Proofs.Ytlmplofpclaokaa

/- Shapes of types, a level at a time; for types that hold themselves. -/
namespace Go.Proofs.Ytlmplofpclaokaa
set_option autoImplicit false
set_option linter.unusedVariables false
section
variable {P : Program} {rc : Bool} {n : Nat} {t e : TypeId}
def flOf (P : Program) (t : TypeId) : Option (List (Nat × Nat)) := match P.underlying t with
  | some (.struct fs) => some (fs.toList.map fun f => (f.offset, f.type))
  | _ => none
def slOf (P : Program) (t : TypeId) : Option TypeId := match P.underlying t with
  | some (.slice e) => some e
  | _ => none
def inOf (P : Program) (t : TypeId) : Option IntKind := match P.underlying t with
  | some (.int k) => some k
  | _ => none
def boOf (P : Program) (t : TypeId) : Bool := match P.underlying t with
  | some .bool => true
  | _ => false
def stOf (P : Program) (t : TypeId) : Bool := match P.underlying t with
  | some .string => true
  | _ => false
/-- Fields, one behind the other: each with its offset, cells and type. -/
def fsh (sh : TypeId → Option Sh) : List (Nat × Nat × Nat) → Option Sh
  | [] => some .u
  | (_, _, t) :: r => (sh t).bind fun a => (fsh sh r).map (.p a)
def flC (P : Program) (t : TypeId) : Option (List (Nat × Nat × Nat)) := (flOf P t).map fun l => l.map fun x => (x.1, P.cellsOf x.2, x.2)
def offB : Nat → Nat → List (Nat × Nat × Nat) → Bool
  | tot, o, [] => Nat.beq o tot
  | tot, o, (a, c, _) :: r => Nat.beq a o && offB tot (o + c) r
theorem fsh_of (sh : TypeId → Option Sh) : ∀ (fs : List Field) (tot o : Nat), offB tot o (fs.map fun f => (f.offset, P.cellsOf f.type, f.type)) = true → fieldsSh P sh tot o fs = fsh sh (fs.map fun f => (f.offset, P.cellsOf f.type, f.type))
  | [], tot, o, h => by
    have : o = tot := Nat.eq_of_beq_eq_true h
    simp [fieldsSh, fsh, this]
  | f :: fs, tot, o, h => by
    simp only [List.map_cons, offB, Bool.and_eq_true] at h
    have h1 : f.offset = o := Nat.eq_of_beq_eq_true h.1
    have := fsh_of sh fs tot (o + P.cellsOf f.type) h.2
    simp only [fieldsSh, fsh, List.map_cons, if_pos h1, this]
theorem shO_struct {l : List (Nat × Nat × Nat)} (h : flC P t = some l) (ho : offB (P.cellsOf t) 0 l = true) : shO rc P (n + 1) t = fsh (shO rc P n) l := by
  unfold flC flOf at h
  split at h
  · rename_i fs hu
    simp only [Option.map_some, List.map_map, Option.some.injEq] at h
    subst h
    simp only [shO, hu]
    exact fsh_of _ _ _ _ ho
  · cases h
theorem shO_slice {c b : Nat} (h : slOf P t = some e) (hc : P.cellsOf e = c) (hb : P.bytesOf e = b) (h0 : 0 < c) : shO rc P (n + 1) t = (shO rc P n e).map (.slice c b) := by
  unfold slOf at h
  split at h
  · rename_i hu
    simp only [Option.some.injEq] at h
    subst h
    simp only [shO, hu, hc, hb, if_pos h0]
  · cases h
theorem shO_int {k : IntKind} (h : inOf P t = some k) : shO rc P (n + 1) t = some (.int k) := by
  unfold inOf at h
  split at h
  · rename_i hu
    simp only [Option.some.injEq] at h
    subst h
    simp only [shO, hu]
  · cases h
theorem shO_bool (h : boOf P t = true) : shO rc P (n + 1) t = some .bool := by
  unfold boOf at h
  split at h
  · rename_i hu
    simp only [shO, hu]
  · cases h
theorem shO_str (h : stOf P t = true) : shO rc P (n + 1) t = some .str := by
  unfold stOf at h
  split at h
  · rename_i hu
    simp only [shO, hu]
  · cases h
theorem fsh_some {sh : TypeId → Option Sh} : ∀ {l : List (Nat × Nat × Nat)}, (∀ x ∈ l, ∃ a, sh x.2.2 = some a) → ∃ a, fsh sh l = some a
  | [], _ => ⟨_, rfl⟩
  | x :: l, h => by
    obtain ⟨a, ha⟩ := h x List.mem_cons_self
    obtain ⟨b, hb⟩ := fsh_some (l := l) fun y hy => h y (List.mem_cons_of_mem _ hy)
    exact ⟨_, by simp only [fsh, ha, hb, Option.bind_some, Option.map_some]; rfl⟩
/-- A set of types that is closed has shapes at each depth. -/
def clB (P : Program) (S : List Nat) : Bool := S.all fun t => match P.underlying t with
  | some .bool => true
  | some (.int _) => true
  | some .string => true
  | some (.struct fs) => (match flC P t with
    | some l => offB (P.cellsOf t) 0 l && l.all (fun x => S.contains x.2.2)
    | none => false)
  | some (.slice e) => Nat.ble 1 (P.cellsOf e) && S.contains e
  | _ => false
theorem clB_some {S : List Nat} (h : clB P S = true) : ∀ (n : Nat) (t : Nat), t ∈ S → ∃ sh, shO true P n t = some sh
  | 0, t, _ => ⟨.no, rfl⟩
  | n + 1, t, ht => by
    have q := List.all_eq_true.1 h t ht
    have ih := clB_some h n
    split at q <;> rename_i hu
    · exact ⟨_, by simp only [shO, hu]; rfl⟩
    · exact ⟨_, by simp only [shO, hu]; rfl⟩
    · exact ⟨_, by simp only [shO, hu]; rfl⟩
    · split at q
      · rename_i l hl
        simp only [Bool.and_eq_true, List.all_eq_true, List.contains_iff_mem] at q
        rw [shO_struct hl q.1]
        exact fsh_some fun x hx => ih _ (q.2 x hx)
      · cases q
    · simp only [Bool.and_eq_true, List.contains_iff_mem] at q
      obtain ⟨a, ha⟩ := ih _ q.2
      exact ⟨_, by simp only [shO, hu, if_pos (show 0 < P.cellsOf _ from Nat.le_of_ble_eq_true q.1), ha, Option.map_some]; rfl⟩
    · cases q
end
section
variable {P : Program} {m : Nat} {t e : TypeId} {a sh : Sh} {x vs : List AV}
theorem okInt {k : IntKind} (h : inOf P t = some k) (hs : shO true P m t = some a) (ho : a.OkN x) : ∃ n, x = [.int k n] ∧ k.min ≤ n ∧ n ≤ k.max := by
  cases m with
  | zero => simp only [shO, if_true, Option.some.injEq] at hs; subst hs; exact ho.elim
  | succ m =>
    rw [shO_int h] at hs
    simp only [Option.some.injEq] at hs; subst hs
    obtain ⟨n, h1, h2⟩ := ho
    simp only [Lit.wf, Bool.and_eq_true, decide_eq_true_eq] at h2
    exact ⟨n, h1, h2⟩
theorem okU64 (h : inOf P t = some .u64) (hs : shO true P m t = some a) (ho : a.OkN x) : ∃ n : Nat, x = [.int .u64 (n : Nat)] ∧ n < 18446744073709551616 := by
  obtain ⟨n, h1, h2, h3⟩ := okInt h hs ho
  have e1 : IntKind.min .u64 = 0 := rfl
  have e2 : IntKind.max .u64 = 18446744073709551615 := rfl
  rw [e1] at h2; rw [e2] at h3
  exact ⟨n.toNat, by rw [h1, Int.toNat_of_nonneg h2], by omega⟩
theorem okI64 (h : inOf P t = some .i64) (hs : shO true P m t = some a) (ho : a.OkN x) : ∃ n : Int, x = [.int .i64 n] ∧ -9223372036854775808 ≤ n ∧ n ≤ 9223372036854775807 := okInt h hs ho
theorem okU8 (h : inOf P t = some .u8) (hs : shO true P m t = some a) (ho : a.OkN x) : ∃ n : UInt8, x = [.int .u8 (n.toNat : Nat)] := by
  obtain ⟨n, h1, h2, h3⟩ := okInt h hs ho
  have e1 : IntKind.min .u8 = 0 := rfl
  have e2 : IntKind.max .u8 = 255 := rfl
  rw [e1] at h2; rw [e2] at h3
  refine ⟨UInt8.ofNat n.toNat, ?_⟩
  rw [h1, UInt8.toNat_ofNat', show n.toNat % 2 ^ 8 = n.toNat from by omega, Int.toNat_of_nonneg h2]
theorem okBool (h : boOf P t = true) (hs : shO true P m t = some a) (ho : a.OkN x) : ∃ b, x = [.bool b] := by
  cases m with
  | zero => simp only [shO, if_true, Option.some.injEq] at hs; subst hs; exact ho.elim
  | succ m =>
    rw [shO_bool h] at hs
    simp only [Option.some.injEq] at hs; subst hs
    exact ho
theorem okStr (h : stOf P t = true) (hs : shO true P m t = some a) (ho : a.OkN x) : ∃ l : List UInt8, x = [.str l] ∧ l.length ≤ 140737488351232 := by
  cases m with
  | zero => simp only [shO, if_true, Option.some.injEq] at hs; subst hs; exact ho.elim
  | succ m =>
    rw [shO_str h] at hs
    simp only [Option.some.injEq] at hs; subst hs
    exact ho
theorem okSlice {c b : Nat} (h : slOf P t = some e) (hc : P.cellsOf e = c) (hb : P.bytesOf e = b) (h0 : 0 < c) (hs : shO true P m t = some a) (ho : a.OkN x) :
    ∃ l, x = [.rows c l] ∧ l.length * b ≤ 140737488351232 ∧ ∃ k a', m = k + 1 ∧ shO true P k e = some a' ∧ ∀ r ∈ l, a'.OkN r := by
  cases m with
  | zero => simp only [shO, if_true, Option.some.injEq] at hs; subst hs; exact ho.elim
  | succ m =>
    rw [shO_slice h hc hb h0] at hs
    simp only [Option.map_eq_some_iff] at hs
    obtain ⟨a', h1, rfl⟩ := hs
    obtain ⟨l, h2, h3, h4⟩ := ho
    exact ⟨l, h2, h3, m, a', rfl, h1, h4⟩
theorem okStruct {l : List (Nat × Nat × Nat)} (h : flC P t = some l) (ho : offB (P.cellsOf t) 0 l = true) (hs : shO true P m t = some a) (hk : a.OkN x) : ∃ k, m = k + 1 ∧ fsh (shO true P k) l = some a := by
  cases m with
  | zero => simp only [shO, if_true, Option.some.injEq] at hs; subst hs; exact hk.elim
  | succ m => exact ⟨m, rfl, by rw [← shO_struct h ho]; exact hs⟩
theorem okCons {s : TypeId → Option Sh} {o c : Nat} {r : List (Nat × Nat × Nat)} (h : fsh s ((o, c, t) :: r) = some sh) (hk : sh.OkN vs) :
    ∃ a x b y, s t = some a ∧ a.OkN x ∧ fsh s r = some b ∧ b.OkN y ∧ vs = x ++ y := by
  simp only [fsh, Option.bind_eq_some_iff, Option.map_eq_some_iff] at h
  obtain ⟨a, h1, b, h2, rfl⟩ := h
  obtain ⟨x, y, h3, h4, h5⟩ := hk
  exact ⟨a, x, b, y, h1, h4, h2, h5, h3⟩
theorem okNil {s : TypeId → Option Sh} (h : fsh s [] = some sh) (hk : sh.OkN vs) : vs = [] := by
  simp only [fsh, Option.some.injEq] at h
  subst h; exact hk
end
/-- Rows that each stand for something. -/
theorem rows_of {α : Type} {f : α → List AV} {Q : α → Prop} : ∀ {l : List (List AV)}, (∀ r ∈ l, ∃ x, r = f x ∧ Q x) → ∃ xs : List α, l = xs.map f ∧ ∀ x ∈ xs, Q x
  | [], _ => ⟨[], rfl, by simp⟩
  | r :: l, h => by
    obtain ⟨x, h1, h2⟩ := h r List.mem_cons_self
    obtain ⟨xs, h3, h4⟩ := rows_of (l := l) fun r hr => h r (List.mem_cons_of_mem _ hr)
    refine ⟨x :: xs, by rw [h1, h3]; rfl, fun y hy => ?_⟩
    rcases List.mem_cons.1 hy with rfl | hy
    · exact h2
    · exact h4 y hy
end Go.Proofs.Ytlmplofpclaokaa

/- The law 'ExprSizes', walked. -/
namespace Go.Proofs.Ytlmplofpclaokaa
set_option autoImplicit false
set_option linter.unusedSimpArgs false
set_option linter.unusedVariables false
attribute [local irreducible] callA callP ACalls
theorem eOks_of : ∀ {l : List Ex}, (∀ x ∈ l, eOk x) → eOks l
  | [], _ => trivial
  | k :: ks, h => ⟨h k List.mem_cons_self, eOks_of fun x hx => h x (List.mem_cons_of_mem _ hx)⟩
theorem opd_fl : flC PG ty_api_Operand = some [(0, 1, ty_int), (1, 1, ty_string), (2, 1, ty_bool), (3, 1, ty_uint64)] := by kernel_rfl
theorem expr_fl : flC PG ty_api_Expr = some [(0, 1, ty_int), (1, 1, ty_int), (2, 1, ty_S_api_Operand), (3, 1, ty_S_api_Expr)] := by kernel_rfl
theorem opd_of {m : Nat} {sh : Sh} {vs : List AV} (hs : shO true PG m ty_api_Operand = some sh) (hk : sh.OkN vs) : ∃ o : Opd, vs = opR o ∧ o.t.length ≤ 140737488351232 := by
  obtain ⟨k, rfl, h1⟩ := okStruct opd_fl (by kernel_rfl) hs hk
  obtain ⟨_, _, _, _, a1, a2, h2, k2', rfl⟩ := okCons h1 hk
  obtain ⟨_, _, _, _, b1, b2, h3', k3', rfl⟩ := okCons h2 k2'
  obtain ⟨_, _, _, _, c1, c2, h4', k4', rfl⟩ := okCons h3' k3'
  obtain ⟨_, _, _, _, d1, d2, h5', k5', rfl⟩ := okCons h4' k4'
  have := okNil h5' k5'; subst this
  obtain ⟨n, rfl, _⟩ := okI64 (by kernel_rfl) a1 a2
  obtain ⟨s, rfl, hs⟩ := okStr (by kernel_rfl) b1 b2
  obtain ⟨b, rfl⟩ := okBool (by kernel_rfl) c1 c2
  obtain ⟨u, rfl, _⟩ := okU64 (by kernel_rfl) d1 d2
  exact ⟨⟨n, s, b, u⟩, rfl, hs⟩
theorem expr_of : ∀ (m : Nat) {sh : Sh} {vs : List AV} (_ : shO true PG m ty_api_Expr = some sh) (_ : sh.OkN vs), ∃ x : Ex, vs = exR x ∧ eOk x := by
  intro m
  induction m using Nat.strongRecOn with
  | _ m ih =>
  intro sh vs hs hk
  obtain ⟨k, rfl, h1⟩ := okStruct expr_fl (by kernel_rfl) hs hk
  obtain ⟨_, _, _, _, a1, a2, h2, k2', rfl⟩ := okCons h1 hk
  obtain ⟨_, _, _, _, b1, b2, h3', k3', rfl⟩ := okCons h2 k2'
  obtain ⟨_, _, _, _, c1, c2, h4', k4', rfl⟩ := okCons h3' k3'
  obtain ⟨_, _, _, _, d1, d2, h5', k5', rfl⟩ := okCons h4' k4'
  have := okNil h5' k5'; subst this
  obtain ⟨op, rfl, _⟩ := okI64 (by kernel_rfl) a1 a2
  obtain ⟨rel, rfl, _⟩ := okI64 (by kernel_rfl) b1 b2
  obtain ⟨l, rfl, hl, k1, s1, rfl, h3, h4⟩ := okSlice (e := ty_api_Operand) (c := 4) (b := 40) (by kernel_rfl) (by kernel_rfl) (by kernel_rfl) (by decide) c1 c2
  obtain ⟨l2, rfl, hl2, k2, s2, e2, h5, h6⟩ := okSlice (e := ty_api_Expr) (c := 4) (b := 64) (by kernel_rfl) (by kernel_rfl) (by kernel_rfl) (by decide) d1 d2
  obtain ⟨args, rfl, ha⟩ := rows_of (f := opR) fun r hr => opd_of h3 (h4 r hr)
  obtain ⟨kids, rfl, hkk⟩ := rows_of (f := exR) fun r hr => ih k2 (by omega) h5 (h6 r hr)
  rw [List.length_map] at hl hl2
  exact ⟨.mk op rel args kids, by rw [exR, exRs_map]; rfl, by omega, ha, by omega, eOks_of hkk⟩
theorem ExprSizes_spec (x : Ex) (hok : eOk x) : ACalls PG broadsheetlaw15_ExprSizes.n [exA x] [] fun r _ => r = .bool true := by
  have hg := Great_spec _ x 0 (Nat.lt_succ_self _) hok (by omega)
  have hd := Deep_spec _ x (Nat.lt_succ_self _)
  have hrd := rDeep_spec _ x (Nat.lt_succ_self _)
  have hs := Size_spec _ x (Nat.lt_succ_self _)
  have hrs := rSize_spec _ x (Nat.lt_succ_self _)
  have hgr := @eMuch_size x 0
  refine ACalls.fzK (broadsheetlaw15_ExprSizes.of rfl (wpF_start ?_))
  obtain ⟨op, rel, args, kids⟩ := x
  (first | refine au ?_ | exact au0 | fail)
  intro id1 hid1 ht1; have n1 := neAll_of hid1; (try simp only [neAll, neAll_hset] at n1); have m1 := n1; (repeat (obtain ⟨_, m1⟩ := m1))
  (first | refine au ?_ | exact au0 | fail)
  first | refine callF_eq (hg.frame _) ?_ | refine callG_eq rfl (hg.frame _) ?_
  (first | refine au ?_ | exact au0 | fail)
  refine bsplit_intro (fun h1 => ?_) (fun h1 => ?_)
  · (first | refine au ?_ | exact au0 | fail)
    first | refine callF_eq (ex_awake_spec _) ?_ | refine callG_eq rfl (ex_awake_spec _) ?_
    (first | refine au ?_ | exact au0 | fail)
    exact fz_of
  · have hle := hgr h1
    (first | refine au ?_ | exact au0 | fail)
    first | refine callF_eq ((hd (by omega)).frame _) ?_ | refine callG_eq rfl ((hd (by omega)).frame _) ?_
    (first | refine au ?_ | exact au0 | fail)
    first | refine callF_eq ((hrd (by omega)).frame _) ?_ | refine callG_eq rfl ((hrd (by omega)).frame _) ?_
    (first | refine au ?_ | exact au0 | fail)
    first | refine callF_eq ((hs (by omega)).frame _) ?_ | refine callG_eq rfl ((hs (by omega)).frame _) ?_
    (first | refine au ?_ | exact au0 | fail)
    first | refine callF_eq ((hrs (by omega)).frame _) ?_ | refine callG_eq rfl ((hrs (by omega)).frame _) ?_
    (first | refine au ?_ | exact au0 | fail)
    first | refine callF_eq (ex_awake_spec _) ?_ | refine callG_eq rfl (ex_awake_spec _) ?_
    (first | refine au ?_ | exact au0 | fail)
    exact fz_of
def Shapes.ExprS : List Nat := [ty_api_Expr, ty_int, ty_string, ty_bool, ty_uint64, ty_S_api_Operand, ty_S_api_Expr, ty_api_Operand]
theorem expr_sh : ∀ n, ∃ sh, shO true PG n ty_api_Expr = some sh := fun n => clB_some (S := Shapes.ExprS) (by kernel_rfl) n _ (by simp [Shapes.ExprS])
/-- An argument that is a tree. -/
theorem expr_arg {av : AV} (h : ∃ n sh, shO true PG n ty_api_Expr = some sh ∧ ArgOk true sh av) : ∃ x : Ex, Nw av (exA x) ∧ eOk x := by
  obtain ⟨n, sh, h1, h2⟩ := h
  obtain ⟨av', h3, h4⟩ := h2.nonil
  obtain ⟨vs, rfl, h5⟩ := h3
  obtain ⟨x, rfl, h6⟩ := expr_of n h1 h5
  exact ⟨x, h4, h6⟩
theorem ExprSizes_row (a0 : AV) (h0 : ∃ n sh, shO true PG n ty_api_Expr = some sh ∧ ArgOk true sh a0) : ACalls PG broadsheetlaw15_ExprSizes.n [a0] [] fun r _ => r = .bool true := by
  obtain ⟨x, h1, h2⟩ := expr_arg h0
  exact (ExprSizes_spec x h2).nw (.cons h1 (.refl _))
end Go.Proofs.Ytlmplofpclaokaa
