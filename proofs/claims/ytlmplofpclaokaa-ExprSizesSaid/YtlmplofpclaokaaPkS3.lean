/- Texts of this proof, one behind the other: SimFast2, SimNil, SimAuto, SimSW, CodeA, TokSpec, TokBld, TokTake. -/
import Derived.Test.YtlmplofpclaokaaPkS2
import Derived.Test.YtlmplofpclaokaaProg
import Derived.KernelRfl
/- The predicate transformer over frames that are lists: code. -/
namespace Go.Proofs.Ytlmplofpclaokaa
set_option autoImplicit false
set_option linter.unusedSimpArgs false
set_option linter.unusedVariables false

/-- Both ways of a Bool, each with the Bool's own value. -/
structure bsplit (q : Bool) (k : Bool → Prop) : Prop where
  out : k q
theorem bsplit_intro {q : Bool} {k : Bool → Prop} (h1 : q = true → k true) (h2 : q = false → k false) : bsplit q k := ⟨by cases q with | true => exact h1 rfl | false => exact h2 rfl⟩
theorem bsplit_t {q : Bool} {k : Bool → Prop} (h : q = true) (h1 : k true) : bsplit q k := by rw [h]; exact ⟨h1⟩
theorem bsplit_f {q : Bool} {k : Bool → Prop} (h : q = false) (h1 : k false) : bsplit q k := by rw [h]; exact ⟨h1⟩
theorem bsplit_tt {k : Bool → Prop} (h : k true) : bsplit true k := ⟨h⟩
theorem bsplit_ff {k : Bool → Prop} (h : k false) : bsplit false k := ⟨h⟩
/-- .. of a test. -/
theorem bsplit_dec {p : Prop} [Decidable p] {k : Bool → Prop} (h1 : p → k true) (h2 : ¬ p → k false) : bsplit (decide p) k :=
  bsplit_intro (fun h => h1 (of_decide_eq_true h)) (fun h => h2 (of_decide_eq_false h))
theorem bsplit_pos {p : Prop} [Decidable p] {k : Bool → Prop} (h : p) (h1 : k true) : bsplit (decide p) k := bsplit_t (decide_eq_true h) h1
theorem bsplit_neg {p : Prop} [Decidable p] {k : Bool → Prop} (h : ¬ p) (h1 : k false) : bsplit (decide p) k := bsplit_f (decide_eq_false h) h1
theorem bsplit_not {q : Bool} {k : Bool → Prop} (h : bsplit q fun b => k (!b)) : bsplit (!q) k := ⟨h.out⟩

/-- A call: a place to stop. -/
structure callF (P : Program) (f : Nat) (args : List AV) (H : AH) (K : AV → AH → Prop) : Prop where
  out : callA P f args H K
structure callG (P : Program) (f : Nat) (args : List AV) (H0 D H : AH) (K : AV → AH → AH → Prop) : Prop where
  out : (∃ r, callP P f args H0 r ∧ K r D H) ∨ ∃ id b r b', hget D id = some b ∧ callW P f args H0 id b r b' ∧ K r (hdel D id) (hset H id b')
theorem callF_of {P : Program} {f : Nat} {args : List AV} {H : AH} {K : AV → AH → Prop} (h : ACalls P f args H K) : callF P f args H K := ⟨callA_of h⟩
theorem callF_eq {P : Program} {f : Nat} {args : List AV} {H : AH} {K : AV → AH → Prop} {r : AV} (h : ACalls P f args H fun r' H' => r' = r ∧ H' = H) (k : K r H) : callF P f args H K := ⟨callA_eq h k⟩
theorem callG_eq {P : Program} {f : Nat} {args : List AV} {H0 D H : AH} {K : AV → AH → AH → Prop} {r : AV} (hp : r.plain = true) (h : ACalls P f args H0 fun r' H' => r' = r ∧ H' = H0) (k : K r D H) : callG P f args H0 D H K := ⟨.inl ⟨r, callP_plain hp h, k⟩⟩
theorem callG_no {P : Program} {f : Nat} {args : List AV} {H0 D H : AH} {K : AV → AH → AH → Prop} {r : AV} (hp : NoId r) (h : ACalls P f args H0 fun r' H' => r' = r ∧ H' = H0) (k : K r D H) : callG P f args H0 D H K := ⟨.inl ⟨r, .inl ⟨hp, h⟩, k⟩⟩
theorem callG_w {P : Program} {f : Nat} {args : List AV} {H0 D H : AH} {K : AV → AH → AH → Prop} {id : Nat} {b b' : Blk} {r : AV} (hD : hget D id = some b) (hp : NoId r) (hb : BlkN b b') (h : ACalls P f args [(id, b)] fun r' H' => r' = r ∧ H' = [(id, b')])
    (k : K r (hdel D id) (hset H id b')) : callG P f args H0 D H K := ⟨.inr ⟨id, b, r, b', hD, ⟨hp, hb, [], (fun _ _ q => by cases q), h⟩, k⟩⟩

theorem callF_fz {P : Program} {f : Nat} {args args' : List AV} {H : AH} {K : AV → AH → Prop} {r : AV} (hf : FzL H [] args args') (hp : r.plain = true) (h : ACalls P f args' [] fun r' _ => r' = r) (k : K r H) : callF P f args H K :=
  ⟨⟨args', [], fun _ _ q => (by cases q), hf, .inr (h.mono fun r' _ e => by rw [e]; exact ⟨hp, k⟩)⟩⟩
/-- A call that is handed nothing of what is owned; what is owned is forgotten. -/
theorem callF_drop {P : Program} {f : Nat} {args : List AV} {H : AH} {K : AV → AH → Prop} (h : ACalls P f args [] K) : callF P f args H K :=
  ⟨⟨args, [], fun _ _ q => (by cases q), FzL.refl _ _ _, .inl h⟩⟩
theorem callF_plain {P : Program} {f : Nat} {args : List AV} {H : AH} {K : AV → AH → Prop} (h : ACalls P f args [] fun r' _ => r'.plain = true ∧ K r' H) : callF P f args H K :=
  ⟨⟨args, [], fun _ _ q => (by cases q), FzL.refl _ _ _, .inr h⟩⟩
theorem Rl.aggNil {h : Array Obj} {ρ : Loc} {Z : Nat → Prop} {sz : Nat} {pre post : List AV} {x : Value} (hr : Rl h ρ Z (.agg (pre ++ .nilS :: post)) x) : Rl h ρ Z (.agg (pre ++ .rows sz [] :: post)) x := by
  generalize hc : pre ++ AV.nilS :: post = cs at hr
  cases hr with
  | agg _ vs hl hcc hq =>
    subst hc
    refine .agg _ vs (by simpa using hl) (fun i v h1 => ?_) (fun i v y h1 h2 => ?_)
    · by_cases e : i = pre.length
      · subst e; simp at h1; rw [← h1]; rfl
      · refine hcc i v ?_
        rw [List.getElem?_append] at h1 ⊢
        split at h1
        · rename_i q; rw [if_pos q]; exact h1
        · rename_i q
          rw [if_neg q]
          obtain ⟨k, hk⟩ : ∃ k, i - pre.length = k + 1 := ⟨i - pre.length - 1, by omega⟩
          rw [hk] at h1 ⊢
          simpa using h1
    · by_cases e : i = pre.length
      · subst e
        have hy := hq pre.length .nilS y (by simp) h2
        simp at h1
        subst h1
        cases hy
        exact .rowsN sz
      · refine hq i v y ?_ h2
        rw [List.getElem?_append] at h1 ⊢
        split at h1
        · rename_i q; rw [if_pos q]; exact h1
        · rename_i q
          rw [if_neg q]
          obtain ⟨k, hk⟩ : ∃ k, i - pre.length = k + 1 := ⟨i - pre.length - 1, by omega⟩
          rw [hk] at h1 ⊢
          simpa using h1
theorem FzL.nil (H Hc : AH) : FzL H Hc [] [] := FzL.refl H Hc []
theorem FzL.cons {H Hc : AH} {v v' : AV} {vs vs' : List AV} (h : Fz H Hc v v') (hs : FzL H Hc vs vs') : FzL H Hc (v :: vs) (v' :: vs') := by
  refine ⟨by simp [hs.1], fun i a b h1 h2 => ?_⟩
  cases i with
  | zero => simp at h1 h2; rw [← h1, ← h2]; exact h
  | succ i => exact hs.2 i a b (by simpa using h1) (by simpa using h2)
/-- A slice that is owned, of cells that are not, as one that nobody writes. -/
theorem fz_own {H Hc : AH} {id sz lo hi : Nat} {l : List (List AV)} (hg : hget H id = some (.rows sz l)) (hd : hget Hc id = none) (h1 : lo ≤ hi) (h2 : hi ≤ l.length) (hw : ∀ (i : Nat) r, l[i]? = some r → r.length = sz) :
    Fz H Hc (.own id sz lo hi) (.rows sz ((l.take hi).drop lo)) := by
  have key : ∀ i r', ((l.take hi).drop lo)[i]? = some r' → l[lo + i]? = some r' := by
    intro i r' q
    rw [List.getElem?_drop, List.getElem?_take] at q
    split at q
    · exact q
    · cases q
  refine .own id sz lo hi l _ hg hd h2 h1 (by simp; omega) (fun i r' q => hw _ _ (key i r' q)) fun i r r' j v v' q1 q2 q3 q4 => ?_
  rw [key i r' q2] at q1
  simp only [Option.some.injEq] at q1
  subst q1
  rw [q3] at q4
  simp only [Option.some.injEq] at q4
  subst q4
  exact .refl _
/-- What is asked of fewer values is asked of these. -/
theorem ACalls.args {P : Program} {f : Nat} {args args' : List AV} {H : AH} {K : AV → AH → Prop} (h : ACalls P f args' H K) (hw : ∀ h ρ Z xs, RlL h ρ Z args xs → RlL h ρ Z args' xs) : ACalls P f args H K :=
  ⟨h.1, fun w ρ Z xs g hr => h.2 w ρ Z xs g (hw _ _ _ _ hr)⟩
theorem RlL.nilS {h : Array Obj} {ρ : Loc} {Z : Nat → Prop} {sz : Nat} {pre post : List AV} {xs : List Value} (hr : RlL h ρ Z (pre ++ .nilS :: post) xs) : RlL h ρ Z (pre ++ .rows sz [] :: post) xs := by
  refine ⟨by simpa using hr.1, fun i v x h1 h2 => ?_⟩
  by_cases e : i = pre.length
  · subst e
    have hq := hr.2 pre.length .nilS x (by simp) h2
    simp at h1
    subst h1
    cases hq
    exact .rowsN sz
  · refine hr.2 i v x ?_ h2
    rw [List.getElem?_append] at h1 ⊢
    split at h1
    · rename_i q; rw [if_pos q]; exact h1
    · rename_i q
      rw [if_neg q]
      obtain ⟨k, hk⟩ : ∃ k, i - pre.length = k + 1 := ⟨i - pre.length - 1, by omega⟩
      rw [hk] at h1 ⊢
      simpa using h1
theorem hget_ne_of {H : AH} {i j : Nat} {b : Blk} (h : hget H i = none) (h2 : hget H j = some b) : i ≠ j := fun e => by rw [e, h2] at h; cases h
theorem hget_set {H : AH} {i : Nat} {b c : Blk} (h : hget H i = some b) : hget (hset H i c) i = some c := by rw [hget_hset, if_pos rfl, h]; rfl
theorem hget_set_ne {H : AH} {i j : Nat} {c : Blk} (h : j ≠ i) : hget (hset H i c) j = hget H j := by rw [hget_hset, if_neg h]
theorem hget_del_ne {H : AH} {i j : Nat} (h : j ≠ i) : hget (hdel H i) j = hget H j := by rw [hget_hdel, if_neg h]
theorem hdel_none {H : AH} {i : Nat} (h : hget H i = none) : hdel H i = H := by
  induction H with
  | nil => rfl
  | cons p H ih =>
    obtain ⟨k, d⟩ := p
    simp only [hget] at h
    split at h
    · cases h
    · rename_i e
      simp only [hdel]
      rw [if_neg e, ih h]
theorem hdel_cons {H : AH} {i : Nat} {b : Blk} (h : hget H i = none) : hdel ((i, b) :: H) i = H := by
  simp only [hdel]; rw [if_pos trivial, hdel_none h]
theorem hget_tail {id j : Nat} {b : Blk} {H : AH} (h : j ≠ id) : hget ((j, b) :: H) id = hget H id := by simp only [hget]; rw [if_neg (fun e => h e.symm)]
theorem hset_self {id : Nat} {b c : Blk} {H : AH} : hset ((id, b) :: H) id c = (id, c) :: H := by simp [hset]
theorem hget_fresh {id j : Nat} {b : Blk} {H : AH} (h : hget ((j, b) :: H) id = none) : id ≠ j ∧ hget H id = none := by
  simp only [hget] at h
  split at h
  · cases h
  · rename_i e; exact ⟨e, h⟩
theorem hget_self {id : Nat} {b : Blk} {H : AH} : hget ((id, b) :: H) id = some b := by simp [hget]

def applyF (P : Program) (rs : Rs) (d : Option Nat) (L : FL) (H : AH) (K : FL → AH → Prop) : Prop :=
  match rs with
  | .val v => putK L d v fun L => K L H
  | .upd H' => delK L d fun L => K L H'
  | .valH v H' => putK L d v fun L => K L H'
  | .fresh T blk v H' => ∀ id, hget H id = none → tag id = T → putK L d (v id) fun L => K L ((id, blk) :: H')
  | .call f args => callF P f args H fun r H' => putK L d r fun L => K L H'

def opFp (L : FL) (H : AH) (co : CO) (k : Rs → Prop) : Prop :=
  match co with
  | .pick c a b => evX L c fun v => match v with
    | .bool q => bsplit q fun q => match q with
      | true => evX L a fun v => k (.val v)
      | false => evX L b fun v => k (.val v)
    | _ => False
  | co => opF L H co k

def opsCons (P : Program) (o : COp) (ih : (FL → AH → Prop) → FL → AH → Prop) (K : FL → AH → Prop) (L : FL) (H : AH) : Prop :=
    match o.guard with
    | none => opFp L H o.co fun rs => applyF P rs o.dst L H (ih K)
    | some (g, want) => match L.get g with
      | some (.bool q) => bsplit q fun b => match b with
        | true => match want with
          | true => opFp ((g, some (.bool true)) :: L) H o.co fun rs => applyF P rs o.dst ((g, some (.bool true)) :: L) H (ih K)
          | false => putK ((g, some (.bool true)) :: L) o.dst (.tup []) fun L => ih K L H
        | false => match want with
          | false => opFp ((g, some (.bool false)) :: L) H o.co fun rs => applyF P rs o.dst ((g, some (.bool false)) :: L) H (ih K)
          | true => putK ((g, some (.bool false)) :: L) o.dst (.tup []) fun L => ih K L H
      | some (.tup []) => putK L o.dst (.tup []) fun L => ih K L H
      | _ => False

/-- By the recursor itself, so that what is left of a reduction is what the kernel has, too. -/
noncomputable def wpOpsF (P : Program) (os : List COp) (K : FL → AH → Prop) (L : FL) (H : AH) : Prop :=
  @List.rec COp (fun _ => (FL → AH → Prop) → FL → AH → Prop) (fun K L H => K L H) (fun o _ ih => opsCons P o ih) os K L H
theorem wpOpsF_nil (P : Program) (K : FL → AH → Prop) (L : FL) (H : AH) : wpOpsF P [] K L H = K L H := rfl
theorem wpOpsF_cons (P : Program) (o : COp) (os : List COp) (K : FL → AH → Prop) (L : FL) (H : AH) : wpOpsF P (o :: os) K L H = opsCons P o (wpOpsF P os) K L H := rfl

def drawF (P : Program) (rs : Rs) (d : Option Nat) (L : FL) (H0 D H : AH) (K : FL → AH → AH → Prop) : Prop :=
  match rs with
  | .val v => putK L d v fun L => K L D H
  | .upd _ => False
  | .valH _ _ => False
  | .fresh T blk v H' => H' = H0 ∧ ∀ id, hget H id = none → tag id = T → putK L d (v id) fun L => K L D ((id, blk) :: H)
  | .call f args => callG P f args H0 D H fun r D' H' => putK L d r fun L => K L D' H'

/-- .. or it writes one block of D. -/
def drawStF (P : Program) (o : COp) (L : FL) (H0 D H : AH) (k : FL → AH → AH → Prop) : Prop :=
  match o.co with
  | .store n x y => evX L x fun v => evX L y fun z => match v with
    | .ptr id sz i j => ∃ l r, hget D id = some (.rows sz l) ∧ l[i]? = some r ∧ z.cells.length = n ∧ allCells z.cells = true ∧ j + n ≤ r.length ∧ hsetN H id (.rows sz (l.set i (over r j z.cells))) fun H' => delK L o.dst fun L => k L (hdel D id) H'
    | _ => False
  | co => opFp L H0 co fun rs => drawF P rs o.dst L H0 D H k

def drawCons (P : Program) (o : COp) (ih : (FL → AH → Prop) → FL → AH → AH → AH → Prop) (K : FL → AH → Prop) (L : FL) (H0 D H : AH) : Prop :=
    match o.guard with
    | none => drawStF P o L H0 D H fun L' D' H' => ih K L' H0 D' H'
    | some (g, want) => match L.get g with
      | some (.bool q) => bsplit q fun b => match b with
        | true => match want with
          | true => drawStF P o ((g, some (.bool true)) :: L) H0 D H fun L' D' H' => ih K L' H0 D' H'
          | false => putK ((g, some (.bool true)) :: L) o.dst (.tup []) fun L => ih K L H0 D H
        | false => match want with
          | false => drawStF P o ((g, some (.bool false)) :: L) H0 D H fun L' D' H' => ih K L' H0 D' H'
          | true => putK ((g, some (.bool false)) :: L) o.dst (.tup []) fun L => ih K L H0 D H
      | some (.tup []) => putK L o.dst (.tup []) fun L => ih K L H0 D H
      | _ => False

noncomputable def wpDrawF (P : Program) (os : List COp) (K : FL → AH → Prop) (L : FL) (H0 D H : AH) : Prop :=
  @List.rec COp (fun _ => (FL → AH → Prop) → FL → AH → AH → AH → Prop) (fun K L _ _ H => K L H) (fun o _ ih => drawCons P o ih) os K L H0 D H

/-- The block that an operation writes, if it is known ahead of the region. -/
noncomputable def stId (L : FL) (o : COp) : Option Nat :=
  match o.co with
  | .store _ x _ => match x with
    | .t k => match L.get k with
      | some (.ptr id _ _ _) => some id
      | _ => none
    | _ => none
  | _ => none
/-- A block is set apart. -/
structure hdelK (H : AH) (id : Nat) (k : AH → Prop) : Prop where
  out : k (hdel H id)
theorem hdelK_any {H : AH} {id : Nat} {k : AH → Prop} (h : k (hdel H id)) : hdelK H id k := ⟨h⟩
theorem hdelK_top {H : AH} {id : Nat} {b : Blk} {k : AH → Prop} (hn : hget H id = none) (h : k H) : hdelK ((id, b) :: H) id k := ⟨by rw [hdel_cons hn]; exact h⟩
theorem hdelK_down {T : AH} {i id : Nat} {c : Blk} {k : AH → Prop} (h : i ≠ id) (h2 : hdelK T id fun T' => k ((i, c) :: T')) : hdelK ((i, c) :: T) id k :=
  ⟨by rw [show hdel ((i, c) :: T) id = (i, c) :: hdel T id from by simp only [hdel]; rw [if_neg (fun e => h e.symm)]]; exact h2.out⟩
/-- These blocks are set apart. -/
noncomputable def withD (L : FL) (os : List COp) (k : AH → AH → Prop) (H0 D : AH) : Prop :=
  @List.rec COp (fun _ => AH → AH → Prop) k (fun o _ ih H0 D => match stId L o with
    | some id => ∃ b, hget H0 id = some b ∧ hdelK H0 id fun H0' => ih H0' ((id, b) :: D)
    | none => ih H0 D) os H0 D
theorem withD_of {L : FL} {k : AH → AH → Prop} {H : AH} : ∀ (os : List COp) (H0 D : AH), Sub H0 H → Sub D H → (∀ id b, hget D id = some b → hget H0 id = none) → withD L os k H0 D → ∃ H0 D, Sub H0 H ∧ Sub D H ∧ (∀ id b, hget D id = some b → hget H0 id = none) ∧ k H0 D
  | [], H0, D, h1, h2, h3, h => ⟨H0, D, h1, h2, h3, h⟩
  | o :: os, H0, D, h1, h2, h3, h => by
    have h' : (match stId L o with
      | some id => ∃ b, hget H0 id = some b ∧ hdelK H0 id fun H0' => withD L os k H0' ((id, b) :: D)
      | none => withD L os k H0 D) := h
    split at h'
    · rename_i id _
      obtain ⟨b, hb, h'⟩ := h'
      replace h' := h'.out
      refine withD_of os (hdel H0 id) ((id, b) :: D) (fun j c q => ?_) (fun j c q => ?_) (fun j c q => ?_) h'
      · rw [hget_hdel] at q
        split at q
        · cases q
        · exact h1 _ _ q
      · simp only [hget] at q
        split at q
        · rename_i e; subst e; rw [← q]; exact h1 _ _ hb
        · exact h2 _ _ q
      · simp only [hget] at q
        rw [hget_hdel]
        split at q
        · rename_i e; rw [if_pos e]
        · rename_i e; rw [if_neg e]; exact h3 _ _ q
    · exact withD_of os H0 D h1 h2 h3 h'
/-- The region's blocks are chosen: by its stores alone, or by hand. -/
structure drawD (L : FL) (os : List COp) (k : AH → AH → Prop) (H : AH) : Prop where
  out : ∃ H0 D, Sub H0 H ∧ Sub D H ∧ (∀ id b, hget D id = some b → hget H0 id = none) ∧ k H0 D
theorem dAuto {L : FL} {os : List COp} {k : AH → AH → Prop} {H : AH} (h : withD L os k H []) : drawD L os k H := ⟨withD_of os H [] (fun _ _ q => q) (fun _ _ q => by cases q) (fun _ _ q => by cases q) h⟩
theorem dPick {L : FL} {os : List COp} {k : AH → AH → Prop} {H : AH} {id : Nat} {b : Blk} (hb : hget H id = some b) (h : hdelK H id fun H0 => withD L os k H0 [(id, b)]) : drawD L os k H :=
  ⟨withD_of os (hdel H id) [(id, b)] (fun j c q => by
    rw [hget_hdel] at q
    split at q
    · cases q
    · exact q) (fun j c q => by
    simp only [hget] at q
    split at q
    · rename_i e; subst e; rw [← q]; exact hb
    · cases q) (fun j c q => by
    simp only [hget] at q
    split at q
    · rename_i e; rw [hget_hdel, if_pos e]
    · cases q) h.out⟩
theorem wpDrawF_nil (P : Program) (K : FL → AH → Prop) (L : FL) (H0 D H : AH) : wpDrawF P [] K L H0 D H = K L H := rfl
theorem wpDrawF_cons (P : Program) (o : COp) (os : List COp) (K : FL → AH → Prop) (L : FL) (H0 D H : AH) : wpDrawF P (o :: os) K L H0 D H = drawCons P o (wpDrawF P os) K L H0 D H := rfl

def thenF (next : FL → AH → Prop) (Q : Exit → FL → AH → Prop) : Exit → FL → AH → Prop
  | .normal, L, H => next L H
  | e, L, H => Q e L H

def blockF (id : Nat) (Q : Exit → FL → AH → Prop) : Exit → FL → AH → Prop
  | .exit id', L, H => match Nat.beq id' id with
    | true => Q .normal L H
    | false => Q (.exit id') L H
  | e, L, H => Q e L H

def jumpF (l : Nat) (J : FL → AH → Prop) (Q : Exit → FL → AH → Prop) : Exit → FL → AH → Prop
  | .goto l', L, H => l' = l ∧ J L H
  | e, L, H => Q e L H

/-- Do ways meet behind this code? -/
def isJoin : C → Bool
  | .cond _ _ _ => true
  | .block _ _ => true
  | .scope _ => true
  | .label _ => true
  | .seq _ b => isJoin b
  | _ => false

def WeakF (J : FL → AH → Prop) (L : FL) (H : AH) : Prop := ∃ M Hk, coversZ H Hk M L ∧ Sub Hk H ∧ J M Hk

abbrev WF := Option Nat → (Exit → FL → AH → Prop) → FL → AH → Prop

def fSeq (a : C) (jn : Bool) (iha ihb : WF) : WF
  | none, Q, L, H => match jn with
    | true => (iha none (thenF (ihb none Q) Q) L H ∨ ∃ J : FL → AH → Prop, iha none (thenF (WeakF J) Q) L H ∧ ∀ M Hk, J M Hk → ihb none Q M Hk) ∨
        ∃ M Hk, iha none (thenF (fun L' H' => coversZ H' Hk M L' ∧ Sub Hk H') Q) L H ∧ ihb none Q M Hk
    | false => iha none (thenF (ihb none Q) Q) L H
  | some l, Q, L, H => match hasL a l with
    | true => iha (some l) (thenF (ihb none Q) Q) L H
    | false => ihb (some l) Q L H
def fCond (x : X) (iha ihb : WF) : WF
  | none, Q, L, H => evX L x fun v => match v with
    | .bool q => bsplit q fun q => match q with
      | true => iha none Q L H
      | false => ihb none Q L H
    | _ => False
  | some _, _, _, _ => False
def fBlock (id : Nat) (ih : WF) : WF
  | none, Q, L, H => ih none (blockF id Q) L H
  | some _, _, _, _ => False
def fLoop (ih : WF) : WF
  | none, Q, L, H => ∃ I : Nat → FL → AH → Prop, WeakF (fun M Hk => ∃ n, I n M Hk) L H ∧
      ∀ n L H, I n L H → ih none (thenF (WeakF fun L' H' => ∃ m, m < n ∧ I m L' H') Q) L H
  | some _, _, _, _ => False
def fScope (ih : WF) : WF
  | none, Q, L, H => ∃ (l n0 : Nat) (I : Nat → FL → AH → Prop), ih none (jumpF l (WeakF fun L' H' => ∃ m, m < n0 ∧ I m L' H') Q) L H ∧
      ∀ n L H, I n L H → ih (some l) (jumpF l (WeakF fun L' H' => ∃ m, m < n ∧ I m L' H') Q) L H
  | some _, _, _, _ => False
def fEnd (e : Exit) : WF
  | none, Q, L, H => Q e L H
  | some _, _, _, _ => False
def fLabel (l' : Nat) : WF
  | none, Q, L, H => Q .normal L H
  | some l, Q, L, H => l' = l ∧ Q .normal L H
def fReg (k : (FL → AH → Prop) → FL → AH → Prop) : WF
  | none, Q, L, H => k (Q .normal) L H
  | some _, _, _, _ => False

noncomputable def wpF (P : Program) (c : C) : WF :=
  @C.rec (fun _ => WF)
    (fEnd .normal)
    (fun ops => fReg (wpOpsF P ops))
    (fun pre post => fReg fun K L H => drawD L pre (fun H0 D => wpDrawF P pre (fun L' H' => wpOpsF P post K L' H') L H0 D H) H)
    (fun a _ iha ihb => fSeq a (isJoin a) iha ihb)
    (fun x _ _ iha ihb => fCond x iha ihb)
    (fun id _ ih => fBlock id ih)
    (fun _ ih => fLoop ih)
    (fun id => fEnd (.exit id))
    (fun _ ih => fScope ih)
    (fun l => fLabel l)
    (fun l => fEnd (.goto l))
    (fEnd .ret)
    (fun _ _ _ _ => False) c

section
variable (P : Program) (Q : Exit → FL → AH → Prop) (L : FL) (H : AH)
theorem wpF_skip : wpF P .skip none Q L H = Q .normal L H := rfl
theorem wpF_reg (ops : List COp) : wpF P (.reg ops) none Q L H = wpOpsF P ops (Q .normal) L H := rfl
theorem wpF_dreg (pre post : List COp) : wpF P (.dreg pre post) none Q L H = drawD L pre (fun H0 D => wpDrawF P pre (fun L' H' => wpOpsF P post (Q .normal) L' H') L H0 D H) H := rfl
theorem wpF_seq (a b : C) (lb : Option Nat) : wpF P (.seq a b) lb Q L H = fSeq a (isJoin a) (wpF P a) (wpF P b) lb Q L H := rfl
theorem wpF_cond (x : X) (a b : C) (lb : Option Nat) : wpF P (.cond x a b) lb Q L H = fCond x (wpF P a) (wpF P b) lb Q L H := rfl
theorem wpF_block (id : Nat) (b : C) (lb : Option Nat) : wpF P (.block id b) lb Q L H = fBlock id (wpF P b) lb Q L H := rfl
theorem wpF_loop (b : C) (lb : Option Nat) : wpF P (.loop b) lb Q L H = fLoop (wpF P b) lb Q L H := rfl
theorem wpF_scope (b : C) (lb : Option Nat) : wpF P (.scope b) lb Q L H = fScope (wpF P b) lb Q L H := rfl
end

section
variable {P : Program}

theorem opFp_of {L : FL} {H : AH} {co : CO} {k : Rs → Prop} (h : opFp L H co k) : ∃ rs, evalOp (frm L) H co = some rs ∧ k rs := by
  cases co
  case pick c a b =>
    obtain ⟨v, h1, h2⟩ := evX_of h
    cases v <;> try exact h2.elim
    rename_i q
    replace h2 := h2.out
    cases q with
    | true => obtain ⟨u, h3, h4⟩ := evX_of h2; exact ⟨_, by simp only [evalOp, h1, h3, Option.bind_some, if_true], h4⟩
    | false => obtain ⟨u, h3, h4⟩ := evX_of h2; exact ⟨_, by simp only [evalOp, h1, h3, Option.bind_some, Bool.false_eq_true, if_false], h4⟩
  all_goals exact opF_of h

theorem frm_same {L : FL} {g : Nat} {v : AV} (h : L.get g = some v) : frm ((g, some v) :: L) = frm L := by
  funext t
  simp only [frm, FL.get_cons]
  split
  · rename_i e; rw [e, h]
  · rfl

theorem applyF_of {rs : Rs} {d : Option Nat} {L : FL} {H : AH} {K : FL → AH → Prop} {K' : Fr → AH → Prop} (hk : ∀ L H, K L H → K' (frm L) H) (h : applyF P rs d L H K) : applyRs P rs d (frm L) H K' := by
  cases rs with
  | val v => simp only [applyF, applyRs, putK_eq, delK_eq] at h ⊢; rw [← frm_put]; exact hk _ _ h
  | upd H' => simp only [applyF, applyRs, putK_eq, delK_eq] at h ⊢; rw [← frm_del]; exact hk _ _ h
  | valH v H' => simp only [applyF, applyRs, putK_eq, delK_eq] at h ⊢; rw [← frm_put]; exact hk _ _ h
  | fresh T blk vf H' => simp only [applyF, applyRs, putK_eq, delK_eq] at h ⊢; intro id hid ht; rw [← frm_put]; exact hk _ _ (h id hid ht)
  | call f args =>
    simp only [applyF, applyRs, putK_eq, delK_eq] at h ⊢
    obtain ⟨a', Hc, h1, h2, h3⟩ := h.out
    refine ⟨a', Hc, h1, h2, ?_⟩
    rcases h3 with h3 | h3
    · exact .inl (h3.mono fun r H' q => by rw [← frm_put]; exact hk _ _ q)
    · exact .inr (h3.mono fun r H' q => ⟨q.1, by show K' ((frm L).put d r) H; rw [← frm_put]; exact hk _ _ q.2⟩)

theorem wpOpsF_of {K : FL → AH → Prop} {K' : Fr → AH → Prop} (hk : ∀ L H, K L H → K' (frm L) H) : ∀ (os : List COp) (L : FL) (H : AH), wpOpsF P os K L H → wpOps P os K' (frm L) H
  | [], L, H, h => hk L H h
  | o :: os, L, H, h => by
    have run : ∀ L H, (opFp L H o.co fun rs => applyF P rs o.dst L H (wpOpsF P os K)) → OA (evalOp (frm L) H o.co) fun rs => applyRs P rs o.dst (frm L) H (wpOps P os K') := by
      intro L H h
      obtain ⟨rs, h1, h2⟩ := opFp_of h
      rw [h1]
      exact applyF_of (fun L H q => wpOpsF_of hk os L H q) h2
    simp only [wpOpsF_cons, opsCons, putK_eq] at h
    simp only [wpOps]
    split at h
    · rename_i hg
      rw [hg]
      exact run L H h
    · rename_i g want hg
      rw [hg]
      simp only
      split at h
      · rename_i q hq
        refine .inl ⟨q, hq, fun e => ?_, fun e => ?_⟩
        · subst e
          replace h := h.out
          rw [← frm_same hq]
          cases q <;> exact run _ H h
        · replace h := h.out
          rw [← frm_same hq, ← frm_put]
          cases q <;> cases want <;> simp at e <;> exact wpOpsF_of hk os _ H h
      · rename_i hq
        refine .inr ⟨hq, ?_⟩
        rw [← frm_put]
        exact wpOpsF_of hk os _ H h
      · exact h.elim

theorem drawStF_of {o : COp} {L : FL} {H0 D H : AH} {k : FL → AH → AH → Prop} {k' : Fr → AH → AH → Prop} (hk : ∀ L D H, k L D H → k' (frm L) D H) (h : drawStF P o L H0 D H k) : drawSt P o (frm L) H0 D H k' := by
  have other : (opFp L H0 o.co fun rs => drawF P rs o.dst L H0 D H k) → drawSt P o (frm L) H0 D H k' := by
    intro h
    obtain ⟨rs, h1, h2⟩ := opFp_of h
    cases rs with
    | val v =>
      refine .inl ?_
      rw [h1]
      simp only [drawF, OA, drawRs, putK_eq] at h2 ⊢; rw [← frm_put]; exact hk _ _ _ h2
    | upd H' => exact h2.elim
    | valH v H' => exact h2.elim
    | fresh T blk vf H' =>
      refine .inl ?_
      rw [h1]
      simp only [drawF, OA, drawRs, putK_eq] at h2 ⊢; exact ⟨h2.1, fun id hid ht => by rw [← frm_put]; exact hk _ _ _ (h2.2 id hid ht)⟩
    | call f args =>
      simp only [drawF, putK_eq] at h2
      rcases h2.out with ⟨r, q1, q2⟩ | ⟨id, b, r, b', q1, q2, q3⟩
      · refine .inl ?_
        rw [h1]
        simp only [OA, drawRs]
        exact ⟨r, q1, by rw [← frm_put]; exact hk _ _ _ q2⟩
      · exact .inr (.inr ⟨f, args, id, b, r, b', h1, q1, q2, by rw [← frm_put]; exact hk _ _ _ q3⟩)
  simp only [drawStF, delK_eq] at h
  split at h
  · rename_i n x y hco
    obtain ⟨v, h1, h2⟩ := evX_of h
    obtain ⟨z, h3, h4⟩ := evX_of h2
    cases v <;> try exact h4.elim
    rename_i id sz i j
    obtain ⟨l, r, q1, q2, q3, q4, q5, q6⟩ := h4
    replace q6 := q6.out
    refine .inr (.inl ⟨id, .rows sz l, hset [(id, .rows sz l)] id (.rows sz (l.set i (over r j z.cells))), .rows sz (l.set i (over r j z.cells)), q1, ?_, ?_, by rw [← frm_del]; exact hk _ _ _ q6⟩)
    · rw [hco]
      simp only [evalOp, h1, h3, Option.bind_some, hget, if_true, q2]
      simp [q3, q4, q5]
    · simp [hset, hget]
  · exact other h

theorem wpDrawF_of {K : FL → AH → Prop} {K' : Fr → AH → Prop} (hk : ∀ L H, K L H → K' (frm L) H) : ∀ (os : List COp) (L : FL) (H0 D H : AH), wpDrawF P os K L H0 D H → wpDraw P os K' (frm L) H0 D H
  | [], L, H0, D, H, h => hk L H h
  | o :: os, L, H0, D, H, h => by
    have run : ∀ L D H, (drawStF P o L H0 D H fun L' D' H' => wpDrawF P os K L' H0 D' H') → drawSt P o (frm L) H0 D H fun s' D' H' => wpDraw P os K' s' H0 D' H' :=
      fun L D H h => drawStF_of (fun L D H q => wpDrawF_of hk os L H0 D H q) h
    simp only [wpDrawF_cons, drawCons, putK_eq] at h
    simp only [wpDraw]
    split at h
    · rename_i hg
      rw [hg]
      exact run L D H h
    · rename_i g want hg
      rw [hg]
      simp only
      split at h
      · rename_i q hq
        refine .inl ⟨q, hq, fun e => ?_, fun e => ?_⟩
        · subst e
          replace h := h.out
          rw [← frm_same hq]
          cases q <;> exact run _ D H h
        · replace h := h.out
          rw [← frm_same hq, ← frm_put]
          cases q <;> cases want <;> simp at e <;> exact wpDrawF_of hk os _ H0 D H h
      · rename_i hq
        refine .inr ⟨hq, ?_⟩
        rw [← frm_put]
        exact wpDrawF_of hk os _ H0 D H h
      · exact h.elim

/-- What is left, over lists, is left over frames. -/
def QF (Q : Exit → FL → AH → Prop) : Exit → Fr → AH → Prop := fun e s H => ∃ L, SubFr (frm L) s ∧ Q e L H

theorem SubFr.refl (s : Fr) : SubFr s s := fun _ _ h => h

theorem WeakF.of {J : FL → AH → Prop} {L : FL} {H : AH} (h : WeakF J L H) : Weak (fun s H => ∃ L, s = frm L ∧ J L H) (frm L) H :=
  let ⟨M, Hk, h1, h2, h3⟩ := h
  ⟨frm M, Hk, coversZ_sub M L h1, h2, M, rfl, h3⟩

theorem wpA_mono : ∀ (c : C) (lb : Option Nat) (Q Q' : Exit → Fr → AH → Prop) (s : Fr) (H : AH), (∀ e s H, Q e s H → Q' e s H) → wpA P c lb Q s H → wpA P c lb Q' s H := by
  have callA_mono : ∀ f args H (K K' : AV → AH → Prop), (∀ r H, K r H → K' r H) → callA P f args H K → callA P f args H K' := by
    rintro f args H K K' hk ⟨a', Hc, h1, h2, h3⟩
    refine ⟨a', Hc, h1, h2, ?_⟩
    rcases h3 with h3 | h3
    · exact .inl (h3.mono hk)
    · exact .inr (h3.mono fun r H q => ⟨q.1, hk _ _ q.2⟩)
  have ops : ∀ (os : List COp) (K K' : Fr → AH → Prop), (∀ s H, K s H → K' s H) → ∀ s H, wpOps P os K s H → wpOps P os K' s H := by
    intro os K K' hk
    have app : ∀ rs d s H (K K' : Fr → AH → Prop), (∀ s H, K s H → K' s H) → applyRs P rs d s H K → applyRs P rs d s H K' := by
      intro rs d s H K K' hk h
      cases rs with
      | val v => exact hk _ _ h
      | upd H' => exact hk _ _ h
      | valH v H' => exact hk _ _ h
      | fresh T blk vf H' => exact fun id hid ht => hk _ _ (h id hid ht)
      | call f args => exact callA_mono f args H _ _ (fun r H q => hk _ _ q) h
    induction os with
    | nil => exact fun s H h => hk _ _ h
    | cons o os ih =>
      intro s H h
      simp only [wpOps, OA_iff] at h ⊢
      split at h
      · rename_i hg
        obtain ⟨rs, h1, h2⟩ := h
        exact ⟨rs, h1, app rs _ s H _ _ ih h2⟩
      · rename_i g want hg
        rcases h with ⟨q, h1, h2, h3⟩ | ⟨h1, h3⟩
        · exact .inl ⟨q, h1, fun e => let ⟨rs, h4, h5⟩ := h2 e; ⟨rs, h4, app rs _ s H _ _ ih h5⟩, fun e => ih _ _ (h3 e)⟩
        · exact .inr ⟨h1, ih _ _ h3⟩
  have draw : ∀ (os : List COp) (K K' : Fr → AH → Prop), (∀ s H, K s H → K' s H) → ∀ s H0 D H, wpDraw P os K s H0 D H → wpDraw P os K' s H0 D H := by
    intro os K K' hk
    have app : ∀ o s H0 D H (k k' : Fr → AH → AH → Prop), (∀ s D H, k s D H → k' s D H) → drawSt P o s H0 D H k → drawSt P o s H0 D H k' := by
      intro o s H0 D H k k' hk h
      rcases h with h | ⟨id, b, H', b', h1, h2, h3, h4⟩ | ⟨f, args, id, b, r, b', h1, h2, h3, h4⟩
      · refine .inl ?_
        simp only [OA_iff] at h ⊢
        obtain ⟨rs, h1, h2⟩ := h
        refine ⟨rs, h1, ?_⟩
        cases rs with
        | val v => exact hk _ _ _ h2
        | upd H' => exact h2
        | valH v H' => exact h2.elim
        | fresh T blk v H' => exact ⟨h2.1, fun id hid ht => hk _ _ _ (h2.2 id hid ht)⟩
        | call f args => obtain ⟨r, h1, h2⟩ := h2; exact ⟨r, h1, hk _ _ _ h2⟩
      · exact .inr (.inl ⟨id, b, H', b', h1, h2, h3, hk _ _ _ h4⟩)
      · exact .inr (.inr ⟨f, args, id, b, r, b', h1, h2, h3, hk _ _ _ h4⟩)
    induction os with
    | nil => exact fun s H0 D H h => hk _ _ h
    | cons o os ih =>
      intro s H0 D H h
      simp only [wpDraw] at h ⊢
      split at h
      · exact app _ s H0 D H _ _ (fun s D H q => ih s H0 D H q) h
      · rename_i g want hg
        rcases h with ⟨q, h1, h2, h3⟩ | ⟨h1, h3⟩
        · exact .inl ⟨q, h1, fun e => app _ s H0 D H _ _ (fun s D H q => ih s H0 D H q) (h2 e), fun e => ih _ _ _ _ (h3 e)⟩
        · exact .inr ⟨h1, ih _ _ _ _ h3⟩
  have then_ : ∀ (K K' : Fr → AH → Prop) (Q Q' : Exit → Fr → AH → Prop), (∀ s H, K s H → K' s H) → (∀ e s H, Q e s H → Q' e s H) → ∀ e s H, thenA K Q e s H → thenA K' Q' e s H := by
    intro K K' Q Q' hk hq e s H h
    cases e with
    | normal => obtain ⟨s', H', h1, h2, h3⟩ := h; exact ⟨s', H', h1, h2, hk _ _ h3⟩
    | _ => exact hq _ _ _ h
  have block_ : ∀ id (Q Q' : Exit → Fr → AH → Prop), (∀ e s H, Q e s H → Q' e s H) → ∀ e s H, blockA id Q e s H → blockA id Q' e s H := by
    intro id Q Q' hq e s H h
    cases e with
    | exit id' => simp only [blockA] at h ⊢; split <;> rename_i e1 <;> simp only [e1, if_true, if_false] at h <;> exact hq _ _ _ h
    | _ => exact hq _ _ _ h
  have jump_ : ∀ l J (Q Q' : Exit → Fr → AH → Prop), (∀ e s H, Q e s H → Q' e s H) → ∀ e s H, jumpA l J Q e s H → jumpA l J Q' e s H := by
    intro l J Q Q' hq e s H h
    cases e with
    | goto l' => exact h
    | _ => exact hq _ _ _ h
  intro c
  induction c with
  | seq a b iha ihb =>
    intro lb Q Q' s H hq h
    cases lb with
    | none =>
      simp only [wpA] at h ⊢
      exact iha none _ _ s H (then_ _ _ _ _ (fun s H q => ihb none _ _ s H hq q) hq) h
    | some l =>
      simp only [wpA] at h ⊢
      split
      · rename_i e1; rw [if_pos e1] at h; exact iha _ _ _ s H (then_ _ _ _ _ (fun s H q => ihb none _ _ s H hq q) hq) h
      · rename_i e1; rw [if_neg e1] at h; exact ihb _ _ _ s H hq h
  | cond x a b iha ihb =>
    intro lb Q Q' s H hq h
    cases lb with
    | none => simp only [wpA] at h ⊢; obtain ⟨q, h1, h2, h3⟩ := h; exact ⟨q, h1, fun e => iha _ _ _ s H hq (h2 e), fun e => ihb _ _ _ s H hq (h3 e)⟩
    | some l => simp [wpA] at h
  | block id b ih =>
    intro lb Q Q' s H hq h
    cases lb with
    | none => simp only [wpA] at h ⊢; exact ih _ _ _ s H (block_ id _ _ hq) h
    | some l => simp [wpA] at h
  | loop b ih =>
    intro lb Q Q' s H hq h
    cases lb with
    | none =>
      simp only [wpA] at h ⊢
      obtain ⟨I, h1, h2⟩ := h
      exact ⟨I, h1, fun n s H hi => ih _ _ _ s H (then_ _ _ _ _ (fun _ _ q => q) hq) (h2 n s H hi)⟩
    | some l => simp [wpA] at h
  | scope b ih =>
    intro lb Q Q' s H hq h
    cases lb with
    | none =>
      simp only [wpA] at h ⊢
      obtain ⟨l, I, h1, h2⟩ := h
      exact ⟨l, I, ih _ _ _ s H (jump_ _ _ _ _ hq) h1, fun n s H hi => ih _ _ _ s H (jump_ _ _ _ _ hq) (h2 n s H hi)⟩
    | some l => simp [wpA] at h
  | reg os =>
    intro lb Q Q' s H hq h
    cases lb with
    | none => simp only [wpA] at h ⊢; exact ops os _ _ (fun s H q => hq _ _ _ q) s H h
    | some l => simp [wpA] at h
  | dreg pre post =>
    intro lb Q Q' s H hq h
    cases lb with
    | none => simp only [wpA] at h ⊢; obtain ⟨H0, D, h1, h2, h3, h4⟩ := h; exact ⟨H0, D, h1, h2, h3, draw pre _ _ (fun s H q => ops post _ _ (fun s H q => hq _ _ _ q) s H q) s H0 D H h4⟩
    | some l => simp [wpA] at h
  | label l' =>
    intro lb Q Q' s H hq h
    cases lb with
    | none => exact hq _ _ _ h
    | some l => exact ⟨h.1, hq _ _ _ h.2⟩
  | _ =>
    intro lb Q Q' s H hq h
    cases lb with
    | none => first | exact hq _ _ _ h | exact h.elim
    | some l => simp [wpA] at h

/-- What holds over lists holds over frames. 'R': a post over frames that does not ask for more than a list knows. -/
theorem wpF_of : ∀ (c : C) (lb : Option Nat) (Q : Exit → FL → AH → Prop) (Q' : Exit → Fr → AH → Prop) (L : FL) (H : AH), (∀ e L H, Q e L H → Q' e (frm L) H) → wpF P c lb Q L H → wpA P c lb Q' (frm L) H := by
  have then_ : ∀ (K : FL → AH → Prop) (K' : Fr → AH → Prop) (Q : Exit → FL → AH → Prop) (Q' : Exit → Fr → AH → Prop), (∀ L H, K L H → Weak K' (frm L) H) → (∀ e L H, Q e L H → Q' e (frm L) H) → ∀ e L H, thenF K Q e L H → thenA K' Q' e (frm L) H := by
    intro K K' Q Q' hk hq e L H h
    cases e with
    | normal => exact hk _ _ h
    | _ => exact hq _ _ _ h
  have block_ : ∀ id (Q : Exit → FL → AH → Prop) (Q' : Exit → Fr → AH → Prop), (∀ e L H, Q e L H → Q' e (frm L) H) → ∀ e L H, blockF id Q e L H → blockA id Q' e (frm L) H := by
    intro id Q Q' hq e L H h
    cases e with
    | exit id' =>
      simp only [blockF] at h
      simp only [blockA]
      split at h
      · rename_i e1; rw [if_pos (Nat.eq_of_beq_eq_true e1)]; exact hq _ _ _ h
      · rename_i e1; rw [if_neg (fun q => by rw [q, Nat.beq_refl] at e1; cases e1)]; exact hq _ _ _ h
    | _ => exact hq _ _ _ h
  have jump_ : ∀ l J J' (Q : Exit → FL → AH → Prop) (Q' : Exit → Fr → AH → Prop), (∀ L H, J L H → J' (frm L) H) → (∀ e L H, Q e L H → Q' e (frm L) H) → ∀ e L H, jumpF l J Q e L H → jumpA l J' Q' e (frm L) H := by
    intro l J J' Q Q' hj hq e L H h
    cases e with
    | goto l' => exact ⟨h.1, hj _ _ h.2⟩
    | _ => exact hq _ _ _ h
  have self : ∀ (K : Fr → AH → Prop) s H, K s H → Weak K s H := fun K s H h => ⟨s, H, (SubFr.refl s).fz, Sub.refl H, h⟩
  intro c
  induction c with
  | seq a b iha ihb =>
    intro lb Q Q' L H hq h
    cases lb with
    | none =>
      simp only [wpF_seq, fSeq] at h
      simp only [wpA]
      have plain : wpF P a none (thenF (wpF P b none Q) Q) L H → wpA P a none (thenA (wpA P b none Q') Q') (frm L) H :=
        iha none _ _ L H (then_ _ _ _ _ (fun L H q => self _ _ _ (ihb none _ _ L H hq q)) hq)
      split at h
      · rcases h with (h | ⟨J, h1, h2⟩) | ⟨M, Hk, h1, h2⟩
        · exact plain h
        · refine iha none _ _ L H (then_ _ _ _ _ (fun L' H' q => ?_) hq) h1
          obtain ⟨M, Hk, q1, q2, q3⟩ := q
          exact ⟨frm M, Hk, coversZ_sub M L' q1, q2, ihb none _ _ M Hk hq (h2 M Hk q3)⟩
        · exact iha none _ _ L H (then_ _ _ _ _ (fun L' H' q => ⟨frm M, Hk, coversZ_sub M L' q.1, q.2, ihb none _ _ M Hk hq h2⟩) hq) h1
      · exact plain h
    | some l =>
      simp only [wpF_seq, fSeq] at h
      simp only [wpA]
      split at h
      · rename_i e1; rw [if_pos e1]; exact iha _ _ _ L H (then_ _ _ _ _ (fun L H q => self _ _ _ (ihb none _ _ L H hq q)) hq) h
      · rename_i e1; rw [if_neg (by rw [e1]; simp)]; exact ihb _ _ _ L H hq h
  | cond x a b iha ihb =>
    intro lb Q Q' L H hq h
    cases lb with
    | none =>
      simp only [wpF_cond, fCond] at h
      simp only [wpA]
      obtain ⟨v, h1, h2⟩ := evX_of h
      cases v <;> try exact h2.elim
      rename_i q
      replace h2 := h2.out
      refine ⟨q, h1, fun e => ?_, fun e => ?_⟩
      · subst e; exact iha _ _ _ L H hq h2
      · subst e; exact ihb _ _ _ L H hq h2
    | some l => exact h.elim
  | block id b ih =>
    intro lb Q Q' L H hq h
    cases lb with
    | none => simp only [wpF_block, fBlock] at h; simp only [wpA]; exact ih _ _ _ L H (block_ id _ _ hq) h
    | some l => exact h.elim
  | loop b ih =>
    intro lb Q Q' L H hq h
    cases lb with
    | none =>
      simp only [wpF_loop, fLoop] at h
      simp only [wpA]
      obtain ⟨I, h1, h2⟩ := h
      refine ⟨fun n s H => ∃ L, s = frm L ∧ I n L H, ?_, fun n s H ⟨L, e, hi⟩ => ?_⟩
      · obtain ⟨s', H', q1, q2, L', e, n, q3⟩ := h1.of
        exact ⟨s', H', q1, q2, n, L', e, q3⟩
      · subst e
        refine ih _ _ _ L H (then_ _ _ _ _ (fun L' H' q => ?_) hq) (h2 n L H hi)
        obtain ⟨s', H2, q1, q2, L2, e, m, q3, q4⟩ := q.of
        exact ⟨s', H2, q1, q2, m, q3, L2, e, q4⟩
    | some l => exact h.elim
  | scope b ih =>
    intro lb Q Q' L H hq h
    cases lb with
    | none =>
      simp only [wpF_scope, fScope] at h
      simp only [wpA]
      obtain ⟨l, n0, I, h1, h2⟩ := h
      refine ⟨l, fun n s H => ∃ L, s = frm L ∧ I n L H, ?_, fun n s H ⟨L, e, hi⟩ => ?_⟩
      · refine ih _ _ _ L H (jump_ _ _ _ _ _ (fun L' H' q => ?_) hq) h1
        obtain ⟨s', H2, q1, q2, L2, e, m, _, q3⟩ := q.of
        exact ⟨s', H2, q1, q2, m, L2, e, q3⟩
      · subst e
        refine ih _ _ _ L H (jump_ _ _ _ _ _ (fun L' H' q => ?_) hq) (h2 n L H hi)
        obtain ⟨s', H2, q1, q2, L2, e, m, q3, q4⟩ := q.of
        exact ⟨s', H2, q1, q2, m, q3, L2, e, q4⟩
    | some l => exact h.elim
  | reg os =>
    intro lb Q Q' L H hq h
    cases lb with
    | none => rw [wpF_reg] at h; simp only [wpA]; exact wpOpsF_of (fun L H q => hq _ _ _ q) os L H h
    | some l => exact h.elim
  | dreg pre post =>
    intro lb Q Q' L H hq h
    cases lb with
    | none =>
      rw [wpF_dreg] at h
      simp only [wpA]
      obtain ⟨H0, D, h1, h2, h3, h4⟩ := h.out
      exact ⟨H0, D, h1, h2, h3, wpDrawF_of (fun L H q => wpOpsF_of (fun L H q => hq _ _ _ q) post L H q) pre L H0 D H h4⟩
    | some l => exact h.elim
  | label l' =>
    intro lb Q Q' L H hq h
    cases lb with
    | none => exact hq _ _ _ h
    | some l => exact ⟨h.1, hq _ _ _ h.2⟩
  | _ =>
    intro lb Q Q' L H hq h
    cases lb with
    | none => first | exact hq _ _ _ h | exact h.elim
    | some l => exact h.elim

end

/-! ### Results, over lists -/
def resF1 (L : FL) (H : AH) (r : CRes) (k : AV → Prop) : Prop :=
  match r with
  | .t n => match L.get n with
    | some v => k v
    | none => False
  | .cell n sz => match L.get n with
    | some (.ptr id z i j) => ∃ l r, hget H id = some (.rows z l) ∧ l[i]? = some r ∧ oA (partA (r.drop j) 0 sz) k
    | _ => False
  | .bad => False

def resFs (L : FL) (H : AH) : List CRes → (List AV → Prop) → Prop
  | [], k => k []
  | r :: rs, k => resF1 L H r fun v => resFs L H rs fun vs => k (v :: vs)

def endF (rs : List CRes) (K : AV → AH → Prop) : Exit → FL → AH → Prop
  | .normal, L, H => resFs L H rs fun vs => match vs with | [v] => K v H | vs => K (.tup vs) H
  | .ret, L, H => resFs L H rs fun vs => match vs with | [v] => K v H | vs => K (.tup vs) H
  | _, _, _ => False

theorem resFs_of {L : FL} {H : AH} : ∀ {rs : List CRes} {k : List AV → Prop}, resFs L H rs k → ∃ vs, resL (frm L) H rs = some vs ∧ k vs
  | [], k, h => ⟨[], rfl, h⟩
  | r :: rs, k, h => by
    have one : ∃ v, resOne (frm L) H r = some v ∧ resFs L H rs fun vs => k (v :: vs) := by
      simp only [resFs] at h
      cases r with
      | t n =>
        simp only [resF1] at h
        split at h
        · rename_i v hv; exact ⟨v, hv, h⟩
        · exact h.elim
      | cell n sz =>
        simp only [resF1] at h
        split at h
        · rename_i id z i j hv
          obtain ⟨l, r, h1, h2, h3⟩ := h
          obtain ⟨v, h4, h5⟩ := oA_of h3
          refine ⟨v, ?_, h5⟩
          have : frm L n = some (.ptr id z i j) := hv
          simp only [resOne, this, Option.bind_some, readA, h1, if_true, h2, Option.map_some, h4]
        · exact h.elim
      | bad => exact h.elim
    obtain ⟨v, h1, h2⟩ := one
    obtain ⟨vs, h3, h4⟩ := resFs_of h2
    exact ⟨v :: vs, by simp only [resL, h1, h3, Option.bind_some], h4⟩

theorem endF_of {rs : List CRes} {K : AV → AH → Prop} : ∀ e L H, endF rs K e L H → endA rs K e (frm L) H := by
  have fin : ∀ L H, (resFs L H rs fun vs => match vs with | [v] => K v H | vs => K (.tup vs) H) → OA (resA (frm L) H rs) fun r => K r H := by
    intro L H h
    obtain ⟨vs, h1, h2⟩ := resFs_of h
    rw [OA_iff]
    simp only [resA, h1, Option.bind_some]
    split
    · exact ⟨_, rfl, h2⟩
    · rename_i hne
      refine ⟨_, rfl, ?_⟩
      split at h2
      · rename_i v; exact absurd rfl (hne v)
      · exact h2
  intro e L H h
  cases e with
  | normal => exact fin L H h
  | ret => exact fin L H h
  | _ => exact h.elim

/-- A function's arguments, as a list. -/
def argsL : Nat → List AV → FL
  | _, [] => []
  | n, v :: vs => (n, some v) :: argsL (n + 1) vs

theorem argsL_get : ∀ (vs : List AV) (n t : Nat), (argsL n vs).get t = if n ≤ t then vs[t - n]? else none
  | [], n, t => by simp only [argsL]; rw [show FL.get [] t = none from rfl]; simp
  | v :: vs, n, t => by
    rw [argsL, FL.get_cons, argsL_get vs (n + 1) t]
    by_cases h1 : t = n
    · subst h1; simp
    · rw [if_neg h1]
      by_cases h2 : n ≤ t
      · rw [if_pos (by omega), if_pos h2, show t - n = (t - (n + 1)) + 1 from by omega]
        simp
      · rw [if_neg (by omega), if_neg h2]

theorem initFr_frm (vs : List AV) : initFr vs = frm (argsL 0 vs) := by
  funext t
  simp [initFr, frm, argsL_get]

theorem wpF_start {P : Program} {c : C} {rs : List CRes} {K : AV → AH → Prop} {args : List AV} {H : AH} (h : wpF P c none (endF rs K) (argsL 0 args) H) : wpA P c none (endA rs K) (initFr args) H := by
  rw [initFr_frm]
  exact wpF_of c none _ _ _ H endF_of h

end Go.Proofs.Ytlmplofpclaokaa

/- A nil slice is, where nobody asks, an empty one. -/
namespace Go.Proofs.Ytlmplofpclaokaa
set_option autoImplicit false
set_option linter.unusedSimpArgs false
set_option linter.unusedVariables false

/-- The same, with empty slices in the place of nil ones. -/
inductive Nw : AV → AV → Prop
  | refl (v : AV) : Nw v v
  | nil (sz : Nat) : Nw .nilS (.rows sz [])
  | agg (cs cs' : List AV) (hl : cs.length = cs'.length) (h : ∀ (i : Nat) v v', cs[i]? = some v → cs'[i]? = some v' → Nw v v') : Nw (.agg cs) (.agg cs')
  | rows (sz : Nat) (l l' : List (List AV)) (hl : l.length = l'.length) (hw : ∀ (i : Nat) r r', l[i]? = some r → l'[i]? = some r' → r.length = r'.length)
      (h : ∀ (i : Nat) r r' (j : Nat) v v', l[i]? = some r → l'[i]? = some r' → r[j]? = some v → r'[j]? = some v' → Nw v v') : Nw (.rows sz l) (.rows sz l')
  | fp (cs cs' : List AV) (hl : cs.length = cs'.length) (h : ∀ (i : Nat) v v', cs[i]? = some v → cs'[i]? = some v' → Nw v v') : Nw (.fp cs) (.fp cs')

theorem Nw.cell {v v' : AV} (h : Nw v v') : v'.isCell = v.isCell := by cases h <;> rfl

theorem Nw.rl {v v' : AV} (hn : Nw v v') : ∀ {h : Array Obj} {ρ : Loc} {Z : Nat → Prop} {x : Value}, Rl h ρ Z v x → Rl h ρ Z v' x := by
  induction hn with
  | refl v => exact fun h => h
  | nil sz => intro h ρ Z x hr; cases hr; exact .rowsN sz
  | agg cs cs' hl hp ih =>
    intro h ρ Z x hr
    cases hr with
    | agg _ vs h1 h2 h3 =>
      refine .agg cs' vs (by omega) (fun i v q => ?_) (fun i v y q1 q2 => ?_)
      · obtain ⟨a, ha⟩ := get_same hl q
        rw [(hp i a v ha q).cell]; exact h2 i a ha
      · obtain ⟨a, ha⟩ := get_same hl q1
        exact ih i a v ha q1 (h3 i a y ha q2)
  | rows sz l l' hl hw hp ih =>
    intro h ρ Z x hr
    cases hr with
    | rows _ _ b o n c f hn hnc hz hw2 hcc hm hr =>
      refine .rows sz l' b o n c f (by omega) hnc hz (fun i r q => ?_) (fun i r j v q1 q2 => ?_) (fun i r j v q1 q2 => ?_) (fun i r j v q1 q2 => ?_)
      · obtain ⟨a, ha⟩ := get_same hl q
        rw [← hw i a r ha q]; exact hw2 i a ha
      · obtain ⟨a, ha⟩ := get_same hl q1
        obtain ⟨u, hu⟩ := get_same (hw i a r ha q1) q2
        rw [(hp i a r j u v ha q1 hu q2).cell]; exact hcc i a j u ha hu
      · obtain ⟨a, ha⟩ := get_same hl q1
        obtain ⟨u, hu⟩ := get_same (hw i a r ha q1) q2
        exact hm i a j u ha hu
      · obtain ⟨a, ha⟩ := get_same hl q1
        obtain ⟨u, hu⟩ := get_same (hw i a r ha q1) q2
        exact ih i a r j u v ha q1 hu q2 (hr i a j u ha hu)
    | rowsN _ =>
      have : l' = [] := List.eq_nil_of_length_eq_zero hl.symm
      subst this; exact .rowsN sz
    | rowsE _ a c =>
      have : l' = [] := List.eq_nil_of_length_eq_zero hl.symm
      subst this; exact .rowsE sz a c
  | fp cs cs' hl hp ih =>
    intro h ρ Z x hr
    cases hr with
    | fp _ b o f hz hcc hm hr =>
      refine .fp cs' b o f (fun q => hz (by omega)) (fun i v q => ?_) (fun i v q => ?_) (fun i v q => ?_)
      · obtain ⟨a, ha⟩ := get_same hl q
        rw [(hp i a v ha q).cell]; exact hcc i a ha
      · obtain ⟨a, ha⟩ := get_same hl q
        exact hm i a ha
      · obtain ⟨a, ha⟩ := get_same hl q
        exact ih i a v ha q (hr i a ha)

theorem hset_tail {id j : Nat} {b c : Blk} {H : AH} (h : j ≠ id) : hset ((j, b) :: H) id c = (j, b) :: hset H id c := by simp only [hset]; rw [if_neg (fun e => h e.symm)]
/-- .. of lists. -/
def NwL (l l' : List AV) : Prop := l.length = l'.length ∧ ∀ (i : Nat) v v', l[i]? = some v → l'[i]? = some v' → Nw v v'
theorem NwL.refl (l : List AV) : NwL l l := ⟨rfl, fun i v v' h1 h2 => by rw [h1] at h2; cases h2; exact .refl _⟩
theorem NwL.cons {v v' : AV} {l l' : List AV} (h : Nw v v') (hs : NwL l l') : NwL (v :: l) (v' :: l') := by
  refine ⟨by simp [hs.1], fun i a b h1 h2 => ?_⟩
  cases i with
  | zero => simp at h1 h2; rw [← h1, ← h2]; exact h
  | succ i => exact hs.2 i a b (by simpa using h1) (by simpa using h2)
theorem NwL.append {a a' b b' : List AV} (h1 : NwL a a') (h2 : NwL b b') : NwL (a ++ b) (a' ++ b') := by
  refine ⟨by simp [h1.1, h2.1], fun i v v' q1 q2 => ?_⟩
  rw [List.getElem?_append] at q1 q2
  rw [← h1.1] at q2
  split at q1 <;> rename_i hlt
  · rw [if_pos hlt] at q2; exact h1.2 i v v' q1 q2
  · rw [if_neg hlt] at q2; exact h2.2 _ v v' q1 q2

theorem ACalls.nw {P : Program} {f : Nat} {args args' : List AV} {H : AH} {K : AV → AH → Prop} (h : ACalls P f args' H K) (hn : NwL args args') : ACalls P f args H K :=
  h.args fun h ρ Z xs hr => ⟨by rw [← hn.1]; exact hr.1, fun i v x q1 q2 => by
    obtain ⟨a, ha⟩ := get_same hn.1 q1
    exact (hn.2 i a v ha q1).rl (hr.2 i a x ha q2)⟩

/-- What the cells are, with empty slices in the place of nil ones. -/
def Sh.OkN : Sh → List AV → Prop
  | .int k, vs => ∃ n, vs = [.int k n] ∧ (Lit.int k n).wf = true
  | .bool, vs => ∃ b, vs = [.bool b]
  | .str, vs => ∃ l : List UInt8, vs = [.str l] ∧ l.length ≤ 140737488351232
  | .u, vs => vs = []
  | .p a b, vs => ∃ x y, vs = x ++ y ∧ a.OkN x ∧ b.OkN y
  | .slice sz bytes e, vs => ∃ l, vs = [.rows sz l] ∧ l.length * bytes ≤ 140737488351232 ∧ ∀ r ∈ l, e.OkN r
  | .ptr e, vs => vs = [.nilP] ∨ ∃ r, vs = [.fp r] ∧ e.OkN r
  | .no, _ => False

theorem Sh.Ok.nonil : ∀ {sh : Sh} {vs : List AV}, sh.Ok vs → ∃ vs', NwL vs vs' ∧ sh.OkN vs'
  | .int k, vs, h => ⟨vs, .refl _, h⟩
  | .bool, vs, h => ⟨vs, .refl _, h⟩
  | .str, vs, h => ⟨vs, .refl _, h⟩
  | .u, vs, h => ⟨vs, .refl _, h⟩
  | .p a b, vs, h => by
    obtain ⟨x, y, rfl, h1, h2⟩ := h
    obtain ⟨x', q1, q2⟩ := Sh.Ok.nonil (sh := a) h1
    obtain ⟨y', q3, q4⟩ := Sh.Ok.nonil (sh := b) h2
    exact ⟨x' ++ y', q1.append q3, x', y', rfl, q2, q4⟩
  | .slice sz bytes e, vs, h => by
    rcases h with rfl | ⟨l, rfl, hb, he⟩
    · exact ⟨[.rows sz []], .cons (.nil sz) (.refl _), [], rfl, by simp, by simp⟩
    · obtain ⟨l', q1, q2⟩ := exists_list l.length (Q := fun i r' => ∃ r, l[i]? = some r ∧ NwL r r' ∧ e.OkN r') (fun i hi => by
        obtain ⟨r', a1, a2⟩ := Sh.Ok.nonil (sh := e) (he _ (List.getElem_mem hi))
        exact ⟨r', _, List.getElem?_eq_getElem hi, a1, a2⟩)
      refine ⟨[.rows sz l'], .cons (.rows sz l l' q1.symm (fun i r r' a1 a2 => ?_) (fun i r r' j v v' a1 a2 a3 a4 => ?_)) (.refl _), l', rfl, by rw [q1]; exact hb, fun r' hr => ?_⟩
      · obtain ⟨r0, b1, b2, _⟩ := q2 i r' a2
        rw [a1] at b1; cases b1; exact b2.1
      · obtain ⟨r0, b1, b2, _⟩ := q2 i r' a2
        rw [a1] at b1; cases b1; exact b2.2 j v v' a3 a4
      · obtain ⟨i, hi⟩ := List.getElem?_of_mem hr
        obtain ⟨_, _, _, b3⟩ := q2 i r' hi
        exact b3
  | .no, vs, h => h.elim
  | .ptr e, vs, h => by
    rcases h with rfl | ⟨r, rfl, he⟩
    · exact ⟨_, .refl _, .inl rfl⟩
    · obtain ⟨r', q1, q2⟩ := Sh.Ok.nonil (sh := e) he
      exact ⟨[.fp r'], .cons (.fp r r' q1.1 q1.2) (.refl _), .inr ⟨r', rfl, q2⟩⟩

def ArgOkN (agg : Bool) (sh : Sh) (av : AV) : Prop :=
  match agg with
  | true => ∃ vs, av = .agg vs ∧ sh.OkN vs
  | false => sh.OkN [av]
theorem ArgOk.nonil {agg : Bool} {sh : Sh} {av : AV} (h : ArgOk agg sh av) : ∃ av', ArgOkN agg sh av' ∧ Nw av av' := by
  cases agg with
  | true =>
    obtain ⟨vs, rfl, h⟩ := h
    obtain ⟨vs', q1, q2⟩ := h.nonil
    exact ⟨.agg vs', ⟨vs', rfl, q2⟩, .agg vs vs' q1.1 q1.2⟩
  | false =>
    obtain ⟨vs', q1, q2⟩ := Sh.Ok.nonil (sh := sh) h
    match vs', q1, q2 with
    | [v'], q1, q2 => exact ⟨v', q2, q1.2 0 av v' rfl rfl⟩
    | [], q1, _ => have := q1.1; simp at this
    | _ :: _ :: _, q1, _ => have := q1.1; simp at this

theorem tdiv_nn {a b : Int} (h1 : 0 ≤ a) (h2 : 0 < b) : a.tdiv b = a / b ∧ 0 ≤ a / b ∧ a / b ≤ a := by
  refine ⟨Int.tdiv_eq_ediv_of_nonneg h1, Int.ediv_nonneg h1 (by omega), Int.ediv_le_self _ h1⟩
theorem tmod_nn {a b : Int} (h1 : 0 ≤ a) (h2 : 0 < b) : a.tmod b = a % b ∧ 0 ≤ a % b ∧ a % b < b := 
  ⟨Int.tmod_eq_emod_of_nonneg h1, Int.emod_nonneg _ (by omega), Int.emod_lt_of_pos _ h2⟩
theorem rng_quo_u64 {a b : Int} {k : Int → Prop} (h1 : 0 ≤ a) (h2 : a ≤ 18446744073709551615) (h3 : 0 < b) (h : k (a / b)) : rng (IntKind.wrap .u64 (a.tdiv b)) k := by
  obtain ⟨e, e1, e2⟩ := tdiv_nn h1 h3
  rw [e]; exact rng_u64 e1 (by omega) h
theorem rng_quo_i64 {a b : Int} {k : Int → Prop} (h1 : 0 ≤ a) (h2 : a ≤ 9223372036854775807) (h3 : 0 < b) (h : k (a / b)) : rng (IntKind.wrap .i64 (a.tdiv b)) k := by
  obtain ⟨e, e1, e2⟩ := tdiv_nn h1 h3
  rw [e]; exact rng_i64 (by omega) (by omega) h
theorem rng_rem_u64 {a b : Int} {k : Int → Prop} (h1 : 0 ≤ a) (h2 : b ≤ 18446744073709551615) (h3 : 0 < b) (h : k (a % b)) : rng (IntKind.wrap .u64 (a.tmod b)) k := by
  obtain ⟨e, e1, e2⟩ := tmod_nn h1 h3
  rw [e]; exact rng_u64 e1 (by omega) h
theorem rng_rem_i64 {a b : Int} {k : Int → Prop} (h1 : 0 ≤ a) (h2 : b ≤ 9223372036854775807) (h3 : 0 < b) (h : k (a % b)) : rng (IntKind.wrap .i64 (a.tmod b)) k := by
  obtain ⟨e, e1, e2⟩ := tmod_nn h1 h3
  rw [e]; exact rng_i64 (by omega) (by omega) h

/-- What is owned by others stays as it is. -/
theorem ACalls.frame {P : Program} {f : Nat} {args : List AV} {K : AV → Prop} (h : ACalls P f args [] fun r _ => K r) (H : AH) : ACalls P f args H fun r H' => K r ∧ H' = H := by
  refine ⟨h.1, fun w ρ Z xs hg hr => (h.2 w ρ Z xs (hg.forget fun _ _ q => by cases q) hr).mono fun e w' ⟨x, r, H', ρ', Z', a, g, c, d, k⟩ => ?_⟩
  obtain ⟨q1, q2⟩ := hg.frame (fun _ _ q => by cases q) d g (HS' := H) fun id b q => .inr ⟨q, rfl⟩
  exact ⟨x, r, H, ρ', Z', a, q1, c, q2, k, rfl⟩
end Go.Proofs.Ytlmplofpclaokaa

/- Steps that are alike everywhere, as arguments that a proof fills in by itself. -/
namespace Go.Proofs.Ytlmplofpclaokaa
set_option autoImplicit false
set_option linter.unusedVariables false
/-- A fresh block is none of those that are there. -/
def neAll : AH → Nat → Prop
  | [], _ => True
  | (i, _) :: H, j => j ≠ i ∧ neAll H j
theorem neAll_of {H : AH} {j : Nat} (h : hget H j = none) : neAll H j := by
  induction H with
  | nil => trivial
  | cons p H ih =>
    obtain ⟨i, b⟩ := p
    obtain ⟨a, c⟩ := hget_fresh h
    exact ⟨a, ih c⟩
theorem hget_none {H : AH} {j : Nat} (h : neAll H j) : hget H j = none := by
  induction H with
  | nil => rfl
  | cons p H ih =>
    obtain ⟨i, b⟩ := p
    exact (hget_tail (fun e => h.1 e.symm)).trans (ih h.2)
theorem neAll_hset {H : AH} {i j : Nat} {b : Blk} : neAll (hset H i b) j ↔ neAll H j := by
  induction H with
  | nil => exact Iff.rfl
  | cons p H ih =>
    obtain ⟨k, c⟩ := p
    simp only [hset]
    split
    · simp only [neAll]
    · simp only [neAll, ih]
structure Hid (k : Prop) : Prop where
  o : k
theorem hg_of {H : AH} {id : Nat} {b : Option Blk} (h : hget H id = b := by repeat (first | (with_reducible refine Eq.trans hget_self ?_; exact rfl) | with_reducible assumption | (with_reducible refine Eq.trans (hget_tail ?_) ?_; next => first | with_reducible assumption | (apply Ne.symm; with_reducible assumption) | omega) | (with_reducible refine Eq.trans (hget_set ?_) ?_; rotate_left; exact rfl) | (with_reducible refine Eq.trans (hget_set_ne ?_) ?_; next => first | with_reducible assumption | (apply Ne.symm; with_reducible assumption) | omega) | (with_reducible refine Eq.trans (hget_del_ne ?_) ?_; next => first | with_reducible assumption | (apply Ne.symm; with_reducible assumption) | omega) | exact hget_self | assumption | apply hget_set)) : hget H id = b := h
/-- Step until something is to be decided; what is left is k. -/
theorem au {k g : Prop} (h : k) (t : Hid k → g := by intro hk; (repeat ((conv => whnf); first | refine Or.inl ?_ | refine dAuto ?_ | (apply Exists.intro; apply Exists.intro; refine And.intro ?_ ?_; (next => repeat (first | (with_reducible refine Eq.trans hget_self ?_; exact rfl) | with_reducible assumption | (with_reducible refine Eq.trans (hget_tail ?_) ?_; next => first | with_reducible assumption | (apply Ne.symm; with_reducible assumption) | omega) | (with_reducible refine Eq.trans (hget_set ?_) ?_; rotate_left; exact rfl) | (with_reducible refine Eq.trans (hget_set_ne ?_) ?_; next => first | with_reducible assumption | (apply Ne.symm; with_reducible assumption) | omega) | (with_reducible refine Eq.trans (hget_del_ne ?_) ?_; next => first | with_reducible assumption | (apply Ne.symm; with_reducible assumption) | omega) | exact hget_self | assumption | apply hget_set)); refine And.intro (Eq.refl (some _)) ?_) | refine Exists.intro _ (And.intro rfl (And.intro rfl ?_)) | (refine And.intro ?_ ?_; next => first | omega | (dsimp only; omega) | exact rfl | exact Nat.le_of_ble_eq_true rfl | (exact ⟨by omega, by omega⟩) | decide | (simp only [List.length_append, List.length_cons, List.length_nil, List.length_map]; omega)) | (refine rng_i64 ?_ ?_ ?_; (next => first | omega | (dsimp only; omega)); (next => first | omega | (dsimp only; omega))) | (refine rng_u8 ?_ ?_ ?_; (next => first | omega | (dsimp only; omega)); (next => first | omega | (dsimp only; omega))) | (refine rng_u64 ?_ ?_ ?_; (next => first | omega | (dsimp only; omega)); (next => first | omega | (dsimp only; omega))) | (refine rng_quo_u64 ?_ ?_ ?_ ?_; (next => first | omega | (dsimp only; omega)); (next => first | omega | (dsimp only; omega)); (next => first | omega | (dsimp only; omega))) | (refine rng_quo_i64 ?_ ?_ ?_ ?_; (next => first | omega | (dsimp only; omega)); (next => first | omega | (dsimp only; omega)); (next => first | omega | (dsimp only; omega))) | (refine rng_rem_u64 ?_ ?_ ?_ ?_; (next => first | omega | (dsimp only; omega)); (next => first | omega | (dsimp only; omega)); (next => first | omega | (dsimp only; omega))) | (refine rng_rem_i64 ?_ ?_ ?_ ?_; (next => first | omega | (dsimp only; omega)); (next => first | omega | (dsimp only; omega)); (next => first | omega | (dsimp only; omega))) | refine bsplit_tt ?_ | refine bsplit_ff ?_ | refine bsplit_not ?_ | (refine bsplit_pos ?_ ?_; (next => first | omega | (dsimp only; omega))) | (refine bsplit_neg ?_ ?_; (next => first | omega | (dsimp only; omega))) | (apply Exists.intro; refine And.intro ?_ ?_; next => repeat (first | (with_reducible refine Eq.trans hget_self ?_; exact rfl) | with_reducible assumption | (with_reducible refine Eq.trans (hget_tail ?_) ?_; next => first | with_reducible assumption | (apply Ne.symm; with_reducible assumption) | omega) | (with_reducible refine Eq.trans (hget_set ?_) ?_; rotate_left; exact rfl) | (with_reducible refine Eq.trans (hget_set_ne ?_) ?_; next => first | with_reducible assumption | (apply Ne.symm; with_reducible assumption) | omega) | (with_reducible refine Eq.trans (hget_del_ne ?_) ?_; next => first | with_reducible assumption | (apply Ne.symm; with_reducible assumption) | omega) | exact hget_self | assumption | apply hget_set)) | (apply hsetN_of; next => (try simp only [over, List.set_cons_zero, List.set_cons_succ, List.take_zero, List.take_succ_cons, List.take_nil, List.drop_zero, List.drop_succ_cons, List.drop_nil, List.nil_append, List.cons_append, List.append_nil, AV.cells, List.length_cons, List.length_nil, Nat.zero_add, Nat.add_zero, Nat.reduceAdd]); exact rfl) | (refine hdelK_top ?_ ?_; next => first | with_reducible assumption | (refine hget_none ?_; (repeat' apply And.intro) <;> first | omega | exact True.intro | assumption)) | (refine hdelK_down ?_ ?_; next => first | with_reducible assumption | (apply Ne.symm; with_reducible assumption) | omega) | refine hdelK_any ?_ | refine hsetK_top ?_ | (refine hsetK_down ?_ ?_; next => first | with_reducible assumption | (apply Ne.symm; with_reducible assumption) | omega) | refine hsetK_any ?_ )); (conv => whnf); exact hk.o) : g := t ⟨h⟩
theorem au0 {g : Prop} (t : g := by (repeat ((conv => whnf); first | refine Or.inl ?_ | refine dAuto ?_ | (apply Exists.intro; apply Exists.intro; refine And.intro ?_ ?_; (next => repeat (first | (with_reducible refine Eq.trans hget_self ?_; exact rfl) | with_reducible assumption | (with_reducible refine Eq.trans (hget_tail ?_) ?_; next => first | with_reducible assumption | (apply Ne.symm; with_reducible assumption) | omega) | (with_reducible refine Eq.trans (hget_set ?_) ?_; rotate_left; exact rfl) | (with_reducible refine Eq.trans (hget_set_ne ?_) ?_; next => first | with_reducible assumption | (apply Ne.symm; with_reducible assumption) | omega) | (with_reducible refine Eq.trans (hget_del_ne ?_) ?_; next => first | with_reducible assumption | (apply Ne.symm; with_reducible assumption) | omega) | exact hget_self | assumption | apply hget_set)); refine And.intro (Eq.refl (some _)) ?_) | refine Exists.intro _ (And.intro rfl (And.intro rfl ?_)) | (refine And.intro ?_ ?_; next => first | omega | (dsimp only; omega) | exact rfl | exact Nat.le_of_ble_eq_true rfl | (exact ⟨by omega, by omega⟩) | decide | (simp only [List.length_append, List.length_cons, List.length_nil, List.length_map]; omega)) | (refine rng_i64 ?_ ?_ ?_; (next => first | omega | (dsimp only; omega)); (next => first | omega | (dsimp only; omega))) | (refine rng_u8 ?_ ?_ ?_; (next => first | omega | (dsimp only; omega)); (next => first | omega | (dsimp only; omega))) | (refine rng_u64 ?_ ?_ ?_; (next => first | omega | (dsimp only; omega)); (next => first | omega | (dsimp only; omega))) | (refine rng_quo_u64 ?_ ?_ ?_ ?_; (next => first | omega | (dsimp only; omega)); (next => first | omega | (dsimp only; omega)); (next => first | omega | (dsimp only; omega))) | (refine rng_quo_i64 ?_ ?_ ?_ ?_; (next => first | omega | (dsimp only; omega)); (next => first | omega | (dsimp only; omega)); (next => first | omega | (dsimp only; omega))) | (refine rng_rem_u64 ?_ ?_ ?_ ?_; (next => first | omega | (dsimp only; omega)); (next => first | omega | (dsimp only; omega)); (next => first | omega | (dsimp only; omega))) | (refine rng_rem_i64 ?_ ?_ ?_ ?_; (next => first | omega | (dsimp only; omega)); (next => first | omega | (dsimp only; omega)); (next => first | omega | (dsimp only; omega))) | refine bsplit_tt ?_ | refine bsplit_ff ?_ | refine bsplit_not ?_ | (refine bsplit_pos ?_ ?_; (next => first | omega | (dsimp only; omega))) | (refine bsplit_neg ?_ ?_; (next => first | omega | (dsimp only; omega))) | (apply Exists.intro; refine And.intro ?_ ?_; next => repeat (first | (with_reducible refine Eq.trans hget_self ?_; exact rfl) | with_reducible assumption | (with_reducible refine Eq.trans (hget_tail ?_) ?_; next => first | with_reducible assumption | (apply Ne.symm; with_reducible assumption) | omega) | (with_reducible refine Eq.trans (hget_set ?_) ?_; rotate_left; exact rfl) | (with_reducible refine Eq.trans (hget_set_ne ?_) ?_; next => first | with_reducible assumption | (apply Ne.symm; with_reducible assumption) | omega) | (with_reducible refine Eq.trans (hget_del_ne ?_) ?_; next => first | with_reducible assumption | (apply Ne.symm; with_reducible assumption) | omega) | exact hget_self | assumption | apply hget_set)) | (apply hsetN_of; next => (try simp only [over, List.set_cons_zero, List.set_cons_succ, List.take_zero, List.take_succ_cons, List.take_nil, List.drop_zero, List.drop_succ_cons, List.drop_nil, List.nil_append, List.cons_append, List.append_nil, AV.cells, List.length_cons, List.length_nil, Nat.zero_add, Nat.add_zero, Nat.reduceAdd]); exact rfl) | (refine hdelK_top ?_ ?_; next => first | with_reducible assumption | (refine hget_none ?_; (repeat' apply And.intro) <;> first | omega | exact True.intro | assumption)) | (refine hdelK_down ?_ ?_; next => first | with_reducible assumption | (apply Ne.symm; with_reducible assumption) | omega) | refine hdelK_any ?_ | refine hsetK_top ?_ | (refine hsetK_down ?_ ?_; next => first | with_reducible assumption | (apply Ne.symm; with_reducible assumption) | omega) | refine hsetK_any ?_ )); (conv => whnf); (first | done | fail)) : g := t
theorem ah {k g : Prop} (h : k) (t : Hid k → g := by intro hk; (repeat ((conv => whnf); first | refine Or.inl ?_ | refine dAuto ?_ | (apply Exists.intro; apply Exists.intro; refine And.intro ?_ ?_; (next => repeat (first | (with_reducible refine Eq.trans hget_self ?_; exact rfl) | with_reducible assumption | (with_reducible refine Eq.trans (hget_tail ?_) ?_; next => first | with_reducible assumption | (apply Ne.symm; with_reducible assumption) | omega) | (with_reducible refine Eq.trans (hget_set ?_) ?_; rotate_left; exact rfl) | (with_reducible refine Eq.trans (hget_set_ne ?_) ?_; next => first | with_reducible assumption | (apply Ne.symm; with_reducible assumption) | omega) | (with_reducible refine Eq.trans (hget_del_ne ?_) ?_; next => first | with_reducible assumption | (apply Ne.symm; with_reducible assumption) | omega) | exact hget_self | assumption | apply hget_set)); refine And.intro (Eq.refl (some _)) ?_) | refine Exists.intro _ (And.intro rfl (And.intro rfl ?_)) | (refine And.intro ?_ ?_; next => first | omega | (dsimp only; omega) | exact rfl | exact Nat.le_of_ble_eq_true rfl | (exact ⟨by omega, by omega⟩) | decide | (simp only [List.length_append, List.length_cons, List.length_nil, List.length_map]; omega)) | (refine rng_i64 ?_ ?_ ?_; (next => first | omega | (dsimp only; omega)); (next => first | omega | (dsimp only; omega))) | (refine rng_u8 ?_ ?_ ?_; (next => first | omega | (dsimp only; omega)); (next => first | omega | (dsimp only; omega))) | (refine rng_u64 ?_ ?_ ?_; (next => first | omega | (dsimp only; omega)); (next => first | omega | (dsimp only; omega))) | (refine rng_quo_u64 ?_ ?_ ?_ ?_; (next => first | omega | (dsimp only; omega)); (next => first | omega | (dsimp only; omega)); (next => first | omega | (dsimp only; omega))) | (refine rng_quo_i64 ?_ ?_ ?_ ?_; (next => first | omega | (dsimp only; omega)); (next => first | omega | (dsimp only; omega)); (next => first | omega | (dsimp only; omega))) | (refine rng_rem_u64 ?_ ?_ ?_ ?_; (next => first | omega | (dsimp only; omega)); (next => first | omega | (dsimp only; omega)); (next => first | omega | (dsimp only; omega))) | (refine rng_rem_i64 ?_ ?_ ?_ ?_; (next => first | omega | (dsimp only; omega)); (next => first | omega | (dsimp only; omega)); (next => first | omega | (dsimp only; omega))) | refine bsplit_tt ?_ | refine bsplit_ff ?_ | refine bsplit_not ?_ | (refine bsplit_pos ?_ ?_; (next => first | omega | (dsimp only; omega))) | (refine bsplit_neg ?_ ?_; (next => first | omega | (dsimp only; omega))) | (apply Exists.intro; refine And.intro ?_ ?_; next => repeat (first | (with_reducible refine Eq.trans hget_self ?_; exact rfl) | with_reducible assumption | (with_reducible refine Eq.trans (hget_tail ?_) ?_; next => first | with_reducible assumption | (apply Ne.symm; with_reducible assumption) | omega) | (with_reducible refine Eq.trans (hget_set ?_) ?_; rotate_left; exact rfl) | (with_reducible refine Eq.trans (hget_set_ne ?_) ?_; next => first | with_reducible assumption | (apply Ne.symm; with_reducible assumption) | omega) | (with_reducible refine Eq.trans (hget_del_ne ?_) ?_; next => first | with_reducible assumption | (apply Ne.symm; with_reducible assumption) | omega) | exact hget_self | assumption | apply hget_set)) | (apply hsetN_of; next => (try simp only [over, List.set_cons_zero, List.set_cons_succ, List.take_zero, List.take_succ_cons, List.take_nil, List.drop_zero, List.drop_succ_cons, List.drop_nil, List.nil_append, List.cons_append, List.append_nil, AV.cells, List.length_cons, List.length_nil, Nat.zero_add, Nat.add_zero, Nat.reduceAdd]); exact rfl) | (refine hdelK_top ?_ ?_; next => first | with_reducible assumption | (refine hget_none ?_; (repeat' apply And.intro) <;> first | omega | exact True.intro | assumption)) | (refine hdelK_down ?_ ?_; next => first | with_reducible assumption | (apply Ne.symm; with_reducible assumption) | omega) | refine hdelK_any ?_ | refine hsetK_top ?_ | (refine hsetK_down ?_ ?_; next => first | with_reducible assumption | (apply Ne.symm; with_reducible assumption) | omega) | refine hsetK_any ?_  | rw [hset_self] | rw [hset_tail (by first | with_reducible assumption | (apply Ne.symm; with_reducible assumption) | omega)])); (conv => whnf); exact hk.o) : g := t ⟨h⟩
theorem ah0 {g : Prop} (t : g := by (repeat ((conv => whnf); first | refine Or.inl ?_ | refine dAuto ?_ | (apply Exists.intro; apply Exists.intro; refine And.intro ?_ ?_; (next => repeat (first | (with_reducible refine Eq.trans hget_self ?_; exact rfl) | with_reducible assumption | (with_reducible refine Eq.trans (hget_tail ?_) ?_; next => first | with_reducible assumption | (apply Ne.symm; with_reducible assumption) | omega) | (with_reducible refine Eq.trans (hget_set ?_) ?_; rotate_left; exact rfl) | (with_reducible refine Eq.trans (hget_set_ne ?_) ?_; next => first | with_reducible assumption | (apply Ne.symm; with_reducible assumption) | omega) | (with_reducible refine Eq.trans (hget_del_ne ?_) ?_; next => first | with_reducible assumption | (apply Ne.symm; with_reducible assumption) | omega) | exact hget_self | assumption | apply hget_set)); refine And.intro (Eq.refl (some _)) ?_) | refine Exists.intro _ (And.intro rfl (And.intro rfl ?_)) | (refine And.intro ?_ ?_; next => first | omega | (dsimp only; omega) | exact rfl | exact Nat.le_of_ble_eq_true rfl | (exact ⟨by omega, by omega⟩) | decide | (simp only [List.length_append, List.length_cons, List.length_nil, List.length_map]; omega)) | (refine rng_i64 ?_ ?_ ?_; (next => first | omega | (dsimp only; omega)); (next => first | omega | (dsimp only; omega))) | (refine rng_u8 ?_ ?_ ?_; (next => first | omega | (dsimp only; omega)); (next => first | omega | (dsimp only; omega))) | (refine rng_u64 ?_ ?_ ?_; (next => first | omega | (dsimp only; omega)); (next => first | omega | (dsimp only; omega))) | (refine rng_quo_u64 ?_ ?_ ?_ ?_; (next => first | omega | (dsimp only; omega)); (next => first | omega | (dsimp only; omega)); (next => first | omega | (dsimp only; omega))) | (refine rng_quo_i64 ?_ ?_ ?_ ?_; (next => first | omega | (dsimp only; omega)); (next => first | omega | (dsimp only; omega)); (next => first | omega | (dsimp only; omega))) | (refine rng_rem_u64 ?_ ?_ ?_ ?_; (next => first | omega | (dsimp only; omega)); (next => first | omega | (dsimp only; omega)); (next => first | omega | (dsimp only; omega))) | (refine rng_rem_i64 ?_ ?_ ?_ ?_; (next => first | omega | (dsimp only; omega)); (next => first | omega | (dsimp only; omega)); (next => first | omega | (dsimp only; omega))) | refine bsplit_tt ?_ | refine bsplit_ff ?_ | refine bsplit_not ?_ | (refine bsplit_pos ?_ ?_; (next => first | omega | (dsimp only; omega))) | (refine bsplit_neg ?_ ?_; (next => first | omega | (dsimp only; omega))) | (apply Exists.intro; refine And.intro ?_ ?_; next => repeat (first | (with_reducible refine Eq.trans hget_self ?_; exact rfl) | with_reducible assumption | (with_reducible refine Eq.trans (hget_tail ?_) ?_; next => first | with_reducible assumption | (apply Ne.symm; with_reducible assumption) | omega) | (with_reducible refine Eq.trans (hget_set ?_) ?_; rotate_left; exact rfl) | (with_reducible refine Eq.trans (hget_set_ne ?_) ?_; next => first | with_reducible assumption | (apply Ne.symm; with_reducible assumption) | omega) | (with_reducible refine Eq.trans (hget_del_ne ?_) ?_; next => first | with_reducible assumption | (apply Ne.symm; with_reducible assumption) | omega) | exact hget_self | assumption | apply hget_set)) | (apply hsetN_of; next => (try simp only [over, List.set_cons_zero, List.set_cons_succ, List.take_zero, List.take_succ_cons, List.take_nil, List.drop_zero, List.drop_succ_cons, List.drop_nil, List.nil_append, List.cons_append, List.append_nil, AV.cells, List.length_cons, List.length_nil, Nat.zero_add, Nat.add_zero, Nat.reduceAdd]); exact rfl) | (refine hdelK_top ?_ ?_; next => first | with_reducible assumption | (refine hget_none ?_; (repeat' apply And.intro) <;> first | omega | exact True.intro | assumption)) | (refine hdelK_down ?_ ?_; next => first | with_reducible assumption | (apply Ne.symm; with_reducible assumption) | omega) | refine hdelK_any ?_ | refine hsetK_top ?_ | (refine hsetK_down ?_ ?_; next => first | with_reducible assumption | (apply Ne.symm; with_reducible assumption) | omega) | refine hsetK_any ?_  | rw [hset_self] | rw [hset_tail (by first | with_reducible assumption | (apply Ne.symm; with_reducible assumption) | omega)])); (conv => whnf); (first | done | fail)) : g := t
theorem ac {k g : Prop} (h : k) (t : Hid k → g := by intro hk; (repeat ((conv => whnf); first | (apply Exists.intro; apply Exists.intro; refine And.intro ?_ ?_; (next => repeat (first | (with_reducible refine Eq.trans hget_self ?_; exact rfl) | with_reducible assumption | (with_reducible refine Eq.trans (hget_tail ?_) ?_; next => first | with_reducible assumption | (apply Ne.symm; with_reducible assumption) | omega) | (with_reducible refine Eq.trans (hget_set ?_) ?_; rotate_left; exact rfl) | (with_reducible refine Eq.trans (hget_set_ne ?_) ?_; next => first | with_reducible assumption | (apply Ne.symm; with_reducible assumption) | omega) | (with_reducible refine Eq.trans (hget_del_ne ?_) ?_; next => first | with_reducible assumption | (apply Ne.symm; with_reducible assumption) | omega) | exact hget_self | assumption | apply hget_set)); refine And.intro (Eq.refl (some _)) ?_) | refine Exists.intro _ (And.intro rfl (And.intro rfl ?_)) | (refine And.intro ?_ ?_; next => first | omega | (dsimp only; omega) | exact rfl | exact Nat.le_of_ble_eq_true rfl | (exact ⟨by omega, by omega⟩) | decide | (simp only [List.length_append, List.length_cons, List.length_nil, List.length_map]; omega)) | (refine rng_i64 ?_ ?_ ?_; (next => first | omega | (dsimp only; omega)); (next => first | omega | (dsimp only; omega))) | (refine rng_u8 ?_ ?_ ?_; (next => first | omega | (dsimp only; omega)); (next => first | omega | (dsimp only; omega))) | (refine rng_u64 ?_ ?_ ?_; (next => first | omega | (dsimp only; omega)); (next => first | omega | (dsimp only; omega))) | (refine rng_quo_u64 ?_ ?_ ?_ ?_; (next => first | omega | (dsimp only; omega)); (next => first | omega | (dsimp only; omega)); (next => first | omega | (dsimp only; omega))) | (refine rng_quo_i64 ?_ ?_ ?_ ?_; (next => first | omega | (dsimp only; omega)); (next => first | omega | (dsimp only; omega)); (next => first | omega | (dsimp only; omega))) | (refine rng_rem_u64 ?_ ?_ ?_ ?_; (next => first | omega | (dsimp only; omega)); (next => first | omega | (dsimp only; omega)); (next => first | omega | (dsimp only; omega))) | (refine rng_rem_i64 ?_ ?_ ?_ ?_; (next => first | omega | (dsimp only; omega)); (next => first | omega | (dsimp only; omega)); (next => first | omega | (dsimp only; omega))) | refine bsplit_tt ?_ | refine bsplit_ff ?_ | refine bsplit_not ?_ | (refine bsplit_pos ?_ ?_; (next => first | omega | (dsimp only; omega))) | (refine bsplit_neg ?_ ?_; (next => first | omega | (dsimp only; omega))) | (apply Exists.intro; refine And.intro ?_ ?_; next => repeat (first | (with_reducible refine Eq.trans hget_self ?_; exact rfl) | with_reducible assumption | (with_reducible refine Eq.trans (hget_tail ?_) ?_; next => first | with_reducible assumption | (apply Ne.symm; with_reducible assumption) | omega) | (with_reducible refine Eq.trans (hget_set ?_) ?_; rotate_left; exact rfl) | (with_reducible refine Eq.trans (hget_set_ne ?_) ?_; next => first | with_reducible assumption | (apply Ne.symm; with_reducible assumption) | omega) | (with_reducible refine Eq.trans (hget_del_ne ?_) ?_; next => first | with_reducible assumption | (apply Ne.symm; with_reducible assumption) | omega) | exact hget_self | assumption | apply hget_set)) | (apply hsetN_of; next => (try simp only [over, List.set_cons_zero, List.set_cons_succ, List.take_zero, List.take_succ_cons, List.take_nil, List.drop_zero, List.drop_succ_cons, List.drop_nil, List.nil_append, List.cons_append, List.append_nil, AV.cells, List.length_cons, List.length_nil, Nat.zero_add, Nat.add_zero, Nat.reduceAdd]); exact rfl) | (refine hdelK_top ?_ ?_; next => first | with_reducible assumption | (refine hget_none ?_; (repeat' apply And.intro) <;> first | omega | exact True.intro | assumption)) | (refine hdelK_down ?_ ?_; next => first | with_reducible assumption | (apply Ne.symm; with_reducible assumption) | omega) | refine hdelK_any ?_ | refine hsetK_top ?_ | (refine hsetK_down ?_ ?_; next => first | with_reducible assumption | (apply Ne.symm; with_reducible assumption) | omega) | refine hsetK_any ?_  | rw [hset_self] | rw [hset_tail (by first | with_reducible assumption | (apply Ne.symm; with_reducible assumption) | omega)])); (conv => whnf); exact hk.o) : g := t ⟨h⟩
theorem ac0 {g : Prop} (t : g := by (repeat ((conv => whnf); first | (apply Exists.intro; apply Exists.intro; refine And.intro ?_ ?_; (next => repeat (first | (with_reducible refine Eq.trans hget_self ?_; exact rfl) | with_reducible assumption | (with_reducible refine Eq.trans (hget_tail ?_) ?_; next => first | with_reducible assumption | (apply Ne.symm; with_reducible assumption) | omega) | (with_reducible refine Eq.trans (hget_set ?_) ?_; rotate_left; exact rfl) | (with_reducible refine Eq.trans (hget_set_ne ?_) ?_; next => first | with_reducible assumption | (apply Ne.symm; with_reducible assumption) | omega) | (with_reducible refine Eq.trans (hget_del_ne ?_) ?_; next => first | with_reducible assumption | (apply Ne.symm; with_reducible assumption) | omega) | exact hget_self | assumption | apply hget_set)); refine And.intro (Eq.refl (some _)) ?_) | refine Exists.intro _ (And.intro rfl (And.intro rfl ?_)) | (refine And.intro ?_ ?_; next => first | omega | (dsimp only; omega) | exact rfl | exact Nat.le_of_ble_eq_true rfl | (exact ⟨by omega, by omega⟩) | decide | (simp only [List.length_append, List.length_cons, List.length_nil, List.length_map]; omega)) | (refine rng_i64 ?_ ?_ ?_; (next => first | omega | (dsimp only; omega)); (next => first | omega | (dsimp only; omega))) | (refine rng_u8 ?_ ?_ ?_; (next => first | omega | (dsimp only; omega)); (next => first | omega | (dsimp only; omega))) | (refine rng_u64 ?_ ?_ ?_; (next => first | omega | (dsimp only; omega)); (next => first | omega | (dsimp only; omega))) | (refine rng_quo_u64 ?_ ?_ ?_ ?_; (next => first | omega | (dsimp only; omega)); (next => first | omega | (dsimp only; omega)); (next => first | omega | (dsimp only; omega))) | (refine rng_quo_i64 ?_ ?_ ?_ ?_; (next => first | omega | (dsimp only; omega)); (next => first | omega | (dsimp only; omega)); (next => first | omega | (dsimp only; omega))) | (refine rng_rem_u64 ?_ ?_ ?_ ?_; (next => first | omega | (dsimp only; omega)); (next => first | omega | (dsimp only; omega)); (next => first | omega | (dsimp only; omega))) | (refine rng_rem_i64 ?_ ?_ ?_ ?_; (next => first | omega | (dsimp only; omega)); (next => first | omega | (dsimp only; omega)); (next => first | omega | (dsimp only; omega))) | refine bsplit_tt ?_ | refine bsplit_ff ?_ | refine bsplit_not ?_ | (refine bsplit_pos ?_ ?_; (next => first | omega | (dsimp only; omega))) | (refine bsplit_neg ?_ ?_; (next => first | omega | (dsimp only; omega))) | (apply Exists.intro; refine And.intro ?_ ?_; next => repeat (first | (with_reducible refine Eq.trans hget_self ?_; exact rfl) | with_reducible assumption | (with_reducible refine Eq.trans (hget_tail ?_) ?_; next => first | with_reducible assumption | (apply Ne.symm; with_reducible assumption) | omega) | (with_reducible refine Eq.trans (hget_set ?_) ?_; rotate_left; exact rfl) | (with_reducible refine Eq.trans (hget_set_ne ?_) ?_; next => first | with_reducible assumption | (apply Ne.symm; with_reducible assumption) | omega) | (with_reducible refine Eq.trans (hget_del_ne ?_) ?_; next => first | with_reducible assumption | (apply Ne.symm; with_reducible assumption) | omega) | exact hget_self | assumption | apply hget_set)) | (apply hsetN_of; next => (try simp only [over, List.set_cons_zero, List.set_cons_succ, List.take_zero, List.take_succ_cons, List.take_nil, List.drop_zero, List.drop_succ_cons, List.drop_nil, List.nil_append, List.cons_append, List.append_nil, AV.cells, List.length_cons, List.length_nil, Nat.zero_add, Nat.add_zero, Nat.reduceAdd]); exact rfl) | (refine hdelK_top ?_ ?_; next => first | with_reducible assumption | (refine hget_none ?_; (repeat' apply And.intro) <;> first | omega | exact True.intro | assumption)) | (refine hdelK_down ?_ ?_; next => first | with_reducible assumption | (apply Ne.symm; with_reducible assumption) | omega) | refine hdelK_any ?_ | refine hsetK_top ?_ | (refine hsetK_down ?_ ?_; next => first | with_reducible assumption | (apply Ne.symm; with_reducible assumption) | omega) | refine hsetK_any ?_  | rw [hset_self] | rw [hset_tail (by first | with_reducible assumption | (apply Ne.symm; with_reducible assumption) | omega)])); (conv => whnf); (first | done | fail)) : g := t
theorem ab {k g : Prop} (h : k) (t : Hid k → g := by intro hk; (repeat ((conv => whnf); first | (apply Exists.intro; apply Exists.intro; refine And.intro ?_ ?_; (next => repeat (first | (with_reducible refine Eq.trans hget_self ?_; exact rfl) | with_reducible assumption | (with_reducible refine Eq.trans (hget_tail ?_) ?_; next => first | with_reducible assumption | (apply Ne.symm; with_reducible assumption) | omega) | (with_reducible refine Eq.trans (hget_set ?_) ?_; rotate_left; exact rfl) | (with_reducible refine Eq.trans (hget_set_ne ?_) ?_; next => first | with_reducible assumption | (apply Ne.symm; with_reducible assumption) | omega) | (with_reducible refine Eq.trans (hget_del_ne ?_) ?_; next => first | with_reducible assumption | (apply Ne.symm; with_reducible assumption) | omega) | exact hget_self | assumption | apply hget_set)); refine And.intro (Eq.refl (some _)) ?_) | refine Exists.intro _ (And.intro rfl (And.intro rfl ?_)) | (refine And.intro ?_ ?_; next => first | omega | (dsimp only; omega) | exact rfl | exact Nat.le_of_ble_eq_true rfl | (exact ⟨by omega, by omega⟩) | decide | (simp only [List.length_append, List.length_cons, List.length_nil, List.length_map]; omega)) | (refine rng_i64 ?_ ?_ ?_; (next => first | omega | (dsimp only; omega)); (next => first | omega | (dsimp only; omega))) | (refine rng_u8 ?_ ?_ ?_; (next => first | omega | (dsimp only; omega)); (next => first | omega | (dsimp only; omega))) | (refine rng_u64 ?_ ?_ ?_; (next => first | omega | (dsimp only; omega)); (next => first | omega | (dsimp only; omega))) | (refine rng_quo_u64 ?_ ?_ ?_ ?_; (next => first | omega | (dsimp only; omega)); (next => first | omega | (dsimp only; omega)); (next => first | omega | (dsimp only; omega))) | (refine rng_quo_i64 ?_ ?_ ?_ ?_; (next => first | omega | (dsimp only; omega)); (next => first | omega | (dsimp only; omega)); (next => first | omega | (dsimp only; omega))) | (refine rng_rem_u64 ?_ ?_ ?_ ?_; (next => first | omega | (dsimp only; omega)); (next => first | omega | (dsimp only; omega)); (next => first | omega | (dsimp only; omega))) | (refine rng_rem_i64 ?_ ?_ ?_ ?_; (next => first | omega | (dsimp only; omega)); (next => first | omega | (dsimp only; omega)); (next => first | omega | (dsimp only; omega))) | refine bsplit_tt ?_ | refine bsplit_ff ?_ | refine bsplit_not ?_ | (refine bsplit_pos ?_ ?_; (next => first | omega | (dsimp only; omega))) | (refine bsplit_neg ?_ ?_; (next => first | omega | (dsimp only; omega))) | (apply Exists.intro; refine And.intro ?_ ?_; next => repeat (first | (with_reducible refine Eq.trans hget_self ?_; exact rfl) | with_reducible assumption | (with_reducible refine Eq.trans (hget_tail ?_) ?_; next => first | with_reducible assumption | (apply Ne.symm; with_reducible assumption) | omega) | (with_reducible refine Eq.trans (hget_set ?_) ?_; rotate_left; exact rfl) | (with_reducible refine Eq.trans (hget_set_ne ?_) ?_; next => first | with_reducible assumption | (apply Ne.symm; with_reducible assumption) | omega) | (with_reducible refine Eq.trans (hget_del_ne ?_) ?_; next => first | with_reducible assumption | (apply Ne.symm; with_reducible assumption) | omega) | exact hget_self | assumption | apply hget_set)) | (apply hsetN_of; next => (try simp only [over, List.set_cons_zero, List.set_cons_succ, List.take_zero, List.take_succ_cons, List.take_nil, List.drop_zero, List.drop_succ_cons, List.drop_nil, List.nil_append, List.cons_append, List.append_nil, AV.cells, List.length_cons, List.length_nil, Nat.zero_add, Nat.add_zero, Nat.reduceAdd]); exact rfl) | (refine hdelK_top ?_ ?_; next => first | with_reducible assumption | (refine hget_none ?_; (repeat' apply And.intro) <;> first | omega | exact True.intro | assumption)) | (refine hdelK_down ?_ ?_; next => first | with_reducible assumption | (apply Ne.symm; with_reducible assumption) | omega) | refine hdelK_any ?_ | refine hsetK_top ?_ | (refine hsetK_down ?_ ?_; next => first | with_reducible assumption | (apply Ne.symm; with_reducible assumption) | omega) | refine hsetK_any ?_ )); (conv => whnf); exact hk.o) : g := t ⟨h⟩
theorem ab0 {g : Prop} (t : g := by (repeat ((conv => whnf); first | (apply Exists.intro; apply Exists.intro; refine And.intro ?_ ?_; (next => repeat (first | (with_reducible refine Eq.trans hget_self ?_; exact rfl) | with_reducible assumption | (with_reducible refine Eq.trans (hget_tail ?_) ?_; next => first | with_reducible assumption | (apply Ne.symm; with_reducible assumption) | omega) | (with_reducible refine Eq.trans (hget_set ?_) ?_; rotate_left; exact rfl) | (with_reducible refine Eq.trans (hget_set_ne ?_) ?_; next => first | with_reducible assumption | (apply Ne.symm; with_reducible assumption) | omega) | (with_reducible refine Eq.trans (hget_del_ne ?_) ?_; next => first | with_reducible assumption | (apply Ne.symm; with_reducible assumption) | omega) | exact hget_self | assumption | apply hget_set)); refine And.intro (Eq.refl (some _)) ?_) | refine Exists.intro _ (And.intro rfl (And.intro rfl ?_)) | (refine And.intro ?_ ?_; next => first | omega | (dsimp only; omega) | exact rfl | exact Nat.le_of_ble_eq_true rfl | (exact ⟨by omega, by omega⟩) | decide | (simp only [List.length_append, List.length_cons, List.length_nil, List.length_map]; omega)) | (refine rng_i64 ?_ ?_ ?_; (next => first | omega | (dsimp only; omega)); (next => first | omega | (dsimp only; omega))) | (refine rng_u8 ?_ ?_ ?_; (next => first | omega | (dsimp only; omega)); (next => first | omega | (dsimp only; omega))) | (refine rng_u64 ?_ ?_ ?_; (next => first | omega | (dsimp only; omega)); (next => first | omega | (dsimp only; omega))) | (refine rng_quo_u64 ?_ ?_ ?_ ?_; (next => first | omega | (dsimp only; omega)); (next => first | omega | (dsimp only; omega)); (next => first | omega | (dsimp only; omega))) | (refine rng_quo_i64 ?_ ?_ ?_ ?_; (next => first | omega | (dsimp only; omega)); (next => first | omega | (dsimp only; omega)); (next => first | omega | (dsimp only; omega))) | (refine rng_rem_u64 ?_ ?_ ?_ ?_; (next => first | omega | (dsimp only; omega)); (next => first | omega | (dsimp only; omega)); (next => first | omega | (dsimp only; omega))) | (refine rng_rem_i64 ?_ ?_ ?_ ?_; (next => first | omega | (dsimp only; omega)); (next => first | omega | (dsimp only; omega)); (next => first | omega | (dsimp only; omega))) | refine bsplit_tt ?_ | refine bsplit_ff ?_ | refine bsplit_not ?_ | (refine bsplit_pos ?_ ?_; (next => first | omega | (dsimp only; omega))) | (refine bsplit_neg ?_ ?_; (next => first | omega | (dsimp only; omega))) | (apply Exists.intro; refine And.intro ?_ ?_; next => repeat (first | (with_reducible refine Eq.trans hget_self ?_; exact rfl) | with_reducible assumption | (with_reducible refine Eq.trans (hget_tail ?_) ?_; next => first | with_reducible assumption | (apply Ne.symm; with_reducible assumption) | omega) | (with_reducible refine Eq.trans (hget_set ?_) ?_; rotate_left; exact rfl) | (with_reducible refine Eq.trans (hget_set_ne ?_) ?_; next => first | with_reducible assumption | (apply Ne.symm; with_reducible assumption) | omega) | (with_reducible refine Eq.trans (hget_del_ne ?_) ?_; next => first | with_reducible assumption | (apply Ne.symm; with_reducible assumption) | omega) | exact hget_self | assumption | apply hget_set)) | (apply hsetN_of; next => (try simp only [over, List.set_cons_zero, List.set_cons_succ, List.take_zero, List.take_succ_cons, List.take_nil, List.drop_zero, List.drop_succ_cons, List.drop_nil, List.nil_append, List.cons_append, List.append_nil, AV.cells, List.length_cons, List.length_nil, Nat.zero_add, Nat.add_zero, Nat.reduceAdd]); exact rfl) | (refine hdelK_top ?_ ?_; next => first | with_reducible assumption | (refine hget_none ?_; (repeat' apply And.intro) <;> first | omega | exact True.intro | assumption)) | (refine hdelK_down ?_ ?_; next => first | with_reducible assumption | (apply Ne.symm; with_reducible assumption) | omega) | refine hdelK_any ?_ | refine hsetK_top ?_ | (refine hsetK_down ?_ ?_; next => first | with_reducible assumption | (apply Ne.symm; with_reducible assumption) | omega) | refine hsetK_any ?_ )); (conv => whnf); (first | done | fail)) : g := t
end Go.Proofs.Ytlmplofpclaokaa

/- Functions that write one block; freezing what is handed back. -/
namespace Go.Proofs.Ytlmplofpclaokaa
set_option autoImplicit false
set_option linter.unusedVariables false
set_option linter.unusedSimpArgs false

theorem Sub.skip {H K : AH} {id : Nat} {b : Blk} (h : Sub K H) (hid : hget H id = none) : Sub K ((id, b) :: H) := fun j c q => by
  have := h j c q
  exact (hget_tail (hget_ne_of hid this)).trans this
theorem Sub.keep {H K : AH} {id : Nat} {b : Blk} (h : Sub K H) : Sub ((id, b) :: K) ((id, b) :: H) := fun j c q => by
  simp only [hget] at q ⊢
  split at q
  · rename_i e; rw [if_pos e]; exact q
  · rename_i e; rw [if_neg e]; exact h _ _ q
theorem Sub.del {K H : AH} {id : Nat} (h : Sub K H) (hid : hget K id = none) : Sub K (hdel H id) := fun j c q => by
  rw [hget_hdel]
  by_cases e : j = id
  · subst e; rw [hid] at q; cases q
  · rw [if_neg e]; exact h _ _ q
theorem Sub.nil (H : AH) : Sub [] H := fun _ _ q => by cases q
theorem Sub.trans {A B C : AH} (h : Sub A B) (k : Sub B C) : Sub A C := fun i b q => k _ _ (h _ _ q)
theorem ACalls.keepSub {P : Program} {f : Nat} {args : List AV} {H : AH} {K : AV → Prop} (h : ACalls P f args H fun r H' => K r ∧ Sub H H') : ACalls P f args H fun r H' => K r ∧ H' = H :=
  h.freeze fun r H' ⟨a, b⟩ => ⟨r, H, b, .refl _, a, rfl⟩
/-- The result, frozen, and what is kept. -/
theorem ACalls.fz {P : Program} {f : Nat} {args : List AV} {H H1 : AH} {v : AV} (h : ACalls P f args H fun r H' => Fz H' H1 r v ∧ Sub H1 H') : ACalls P f args H fun r H' => r = v ∧ H' = H1 :=
  h.freeze fun r H' ⟨a, b⟩ => ⟨v, H1, b, a, rfl, rfl⟩
/-- .. where the result is told by what it says. -/
theorem ACalls.fzE {P : Program} {f : Nat} {args : List AV} {H H1 : AH} {K : AV → Prop} (h : ACalls P f args H fun r H' => ∃ v, Fz H' H1 r v ∧ Sub H1 H' ∧ K v) : ACalls P f args H fun r H' => K r ∧ H' = H1 :=
  h.freeze fun r H' ⟨v, a, b, c⟩ => ⟨v, H1, b, a, c, rfl⟩

/-! ### Freezing, part by part -/
theorem Fz.aggL {H Hc : AH} {cs cs' : List AV} (h : FzL H Hc cs cs') : Fz H Hc (.agg cs) (.agg cs') := .agg cs cs' h.1 h.2
theorem Fz.tupL {H Hc : AH} {cs cs' : List AV} (h : FzL H Hc cs cs') : Fz H Hc (.tup cs) (.tup cs') := .tup cs cs' h.1 h.2
/-- Row by row. -/
def FzR (H Hc : AH) : List (List AV) → List (List AV) → Prop
  | [], [] => True
  | r :: l, r' :: l' => FzL H Hc r r' ∧ FzR H Hc l l'
  | _, _ => False
theorem FzR.spec {H Hc : AH} : ∀ {l l' : List (List AV)}, FzR H Hc l l' → l.length = l'.length ∧ ∀ (i : Nat) r r', l[i]? = some r → l'[i]? = some r' → FzL H Hc r r'
  | [], [], _ => ⟨rfl, fun i r r' q => by simp at q⟩
  | r :: l, [], h => h.elim
  | [], r :: l, h => h.elim
  | r :: l, r' :: l', h => by
    obtain ⟨a, b⟩ := FzR.spec h.2
    refine ⟨by simp [a], fun i x x' q1 q2 => ?_⟩
    cases i with
    | zero => simp at q1 q2; rw [← q1, ← q2]; exact h.1
    | succ i => exact b i x x' (by simpa using q1) (by simpa using q2)
theorem Fz.rowsL {H Hc : AH} {sz : Nat} {l l' : List (List AV)} (h : FzR H Hc l l') : Fz H Hc (.rows sz l) (.rows sz l') :=
  .rows sz l l' h.spec.1 (fun i r r' a b => (h.spec.2 i r r' a b).1) fun i r r' j v v' a b c d => (h.spec.2 i r r' a b).2 j v v' c d
theorem FzL.refl' (H Hc : AH) (l : List AV) : FzL H Hc l l := FzL.refl H Hc l
theorem FzR.refl (H Hc : AH) : ∀ l : List (List AV), FzR H Hc l l
  | [] => trivial
  | r :: l => ⟨FzL.refl H Hc r, FzR.refl H Hc l⟩
theorem FzR.append {H Hc : AH} : ∀ {l l' m m' : List (List AV)}, FzR H Hc l l' → FzR H Hc m m' → FzR H Hc (l ++ m) (l' ++ m')
  | [], [], m, m', _, h => h
  | r :: l, [], m, m', h, _ => h.elim
  | [], r :: l, m, m', h, _ => h.elim
  | r :: l, r' :: l', m, m', h, k => ⟨h.1, h.2.append k⟩
theorem Fz.ownL {H Hc : AH} {id sz : Nat} {l l' : List (List AV)} (hg : hget H id = some (.rows sz l)) (hd : hget Hc id = none) (h : FzR H Hc l l') (hw : ∀ r ∈ l', r.length = sz) : Fz H Hc (.own id sz 0 l.length) (.rows sz l') := by
  refine .own id sz 0 l.length l l' hg hd (Nat.le_refl _) (Nat.zero_le _) (by rw [← h.spec.1]; omega) (fun i r' q => hw r' (List.mem_of_getElem? q)) fun i r r' j v v' q1 q2 q3 q4 => ?_
  rw [Nat.zero_add] at q1
  exact (h.spec.2 i r r' q1 q2).2 j v v' q3 q4

/-- Values that lead to nothing that is owned. -/
inductive Cl : AV → Prop
  | int (k : IntKind) (n : Int) : Cl (.int k n)
  | bool (b : Bool) : Cl (.bool b)
  | str (l : List UInt8) : Cl (.str l)
  | nilS : Cl .nilS
  | nilP : Cl .nilP
  | nilF : Cl .nilF
  | nilI : Cl .nilI
  | agg (cs : List AV) (h : ∀ v ∈ cs, Cl v) : Cl (.agg cs)
  | tup (cs : List AV) (h : ∀ v ∈ cs, Cl v) : Cl (.tup cs)
  | rows (sz : Nat) (l : List (List AV)) (h : ∀ r ∈ l, ∀ v ∈ r, Cl v) : Cl (.rows sz l)
  | fp (cs : List AV) (h : ∀ v ∈ cs, Cl v) : Cl (.fp cs)
theorem Cl.noId {v : AV} (h : Cl v) : NoId v := by
  induction h with
  | int k n => intro h ρ ρ' Z x hr; cases hr; exact .int k n
  | bool b => intro h ρ ρ' Z x hr; cases hr; exact .bool b
  | str l => intro h ρ ρ' Z x hr; cases hr; exact .str l _ (by assumption)
  | nilS => intro h ρ ρ' Z x hr; cases hr; exact .nilS
  | nilP => intro h ρ ρ' Z x hr; cases hr; exact .nilP
  | nilF => intro h ρ ρ' Z x hr; cases hr; exact .nilF
  | nilI => intro h ρ ρ' Z x hr; cases hr; exact .nilI
  | agg cs hc ih =>
    intro h ρ ρ' Z x hr
    cases hr with
    | agg _ vs hl h2 h3 => exact .agg cs vs hl h2 fun i v y q1 q2 => ih v (List.mem_of_getElem? q1) _ _ _ _ _ (h3 i v y q1 q2)
  | tup cs hc ih =>
    intro h ρ ρ' Z x hr
    cases hr with
    | tup _ vs hl h3 => exact .tup cs vs hl fun i v y q1 q2 => ih v (List.mem_of_getElem? q1) _ _ _ _ _ (h3 i v y q1 q2)
  | rows sz l hc ih =>
    intro h ρ ρ' Z x hr
    cases hr with
    | rows _ _ b o n c f hn hnc hz hw hcc hm hr => exact .rows sz l b o n c f hn hnc hz hw hcc hm fun i r j v q1 q2 => ih r (List.mem_of_getElem? q1) v (List.mem_of_getElem? q2) _ _ _ _ _ (hr i r j v q1 q2)
    | rowsN _ => exact .rowsN sz
    | rowsE _ a c => exact .rowsE sz a c
  | fp cs hc ih =>
    intro h ρ ρ' Z x hr
    cases hr with
    | fp _ b o f hz hcc hm hr => exact .fp cs b o f hz hcc hm fun i v q => ih v (List.mem_of_getElem? q) _ _ _ _ _ (hr i v q)

/-- A function that writes one block: what it hands back, and what the block holds then; Hs: what it looks at. -/
def SW (P : Program) (f : Nat) (args : List AV) (id : Nat) (b : Blk) (Hs : AH) (r : AV) (b' : Blk) : Prop :=
  ACalls P f args ((id, b) :: Hs) fun r' H' => r' = r ∧ H' = (id, b') :: Hs
theorem SW.frame {P : Program} {f : Nat} {args : List AV} {id : Nat} {b : Blk} {Hs : AH} {r : AV} {b' : Blk} (h : SW P f args id b Hs r b') {H : AH} (hg : hget H id = some b) (hs : Sub Hs H) : ACalls P f args H fun r' H' => r' = r ∧ H' = hset H id b' := by
  have s1 : Sub ((id, b) :: Hs) H := fun j c q => by
    simp only [hget] at q
    split at q
    · rename_i e1; subst e1; rw [← q]; exact hg
    · exact hs _ _ q
  refine ⟨h.1, fun w ρ Z xs g hr => (h.2 w ρ Z xs (g.forget s1) hr).mono fun e w' ⟨x, r', H', ρ', Z', a, g1, c, d, k1, k2⟩ => ?_⟩
  subst k1
  subst k2
  obtain ⟨q1, q2⟩ := g.frame s1 d g1 (HS' := hset H id b') fun j c q => by
    rw [hget_hset] at q
    split at q
    · rename_i e1
      rw [hg] at q
      left
      simp only [hget]
      rw [if_pos e1, ← q]
      rfl
    · rename_i e1
      simp only [hget]
      rw [if_neg e1, if_neg e1]
      cases hh : hget Hs j with
      | none => exact .inr ⟨q, rfl⟩
      | some c' => have := hs _ _ hh; rw [q] at this; exact .inl this.symm
  exact ⟨x, _, _, ρ', Z', a, q1, c, q2, rfl, rfl⟩
theorem SW.call {P : Program} {f : Nat} {args : List AV} {id : Nat} {b : Blk} {Hs : AH} {r : AV} {b' : Blk} (h : SW P f args id b Hs r b') {H : AH} {K : AV → AH → Prop} (hg : hget H id = some b) (hs : Sub Hs H) (k : hsetK H id b' fun H1 => K r H1) : callF P f args H K :=
  callF_of ((h.frame hg hs).mono fun r' H' ⟨a, c⟩ => by rw [a, c]; exact k.out)
theorem SW.draw {P : Program} {f : Nat} {args : List AV} {id : Nat} {b : Blk} {Hs : AH} {r : AV} {b' : Blk} (h : SW P f args id b Hs r b') {H0 D H : AH} {K : AV → AH → AH → Prop} (hD : hget D id = some b) (hs : Sub Hs H0) (hp : NoId r) (hb : BlkN b b') (k : hsetK H id b' fun H1 => K r (hdel D id) H1) : callG P f args H0 D H K :=
  ⟨.inr ⟨id, b, r, b', hD, ⟨hp, hb, Hs, hs, h⟩, k.out⟩⟩

/-! ### Arguments that a proof fills in -/
theorem fz_of {H Hc : AH} {v v' : AV} (h : Fz H Hc v v' := by (repeat' (first | exact Fz.refl _ | exact Fz.nil _ | assumption | refine Fz.aggL ?_ | refine Fz.tupL ?_ | refine FzL.cons ?_ ?_ | exact FzL.nil _ _ | refine Fz.rowsL ?_ | exact trivial | refine And.intro ?_ ?_)); (first | done | fail)) : Fz H Hc v v' := h
theorem sub_of {H Hc : AH} (h : Sub Hc H := by (repeat' (first | exact Sub.refl _ | assumption | exact Sub.nil _ | refine Sub.keep ?_ | refine Sub.skip ?_ (by first | assumption | (refine hget_none ?_; (try simp only [neAll, neAll_hset]); (repeat' apply And.intro) <;> first | omega | trivial | assumption | simp_all)) | refine Sub.del ?_ (by first | assumption | (refine hget_none ?_; (try simp only [neAll, neAll_hset]); (repeat' apply And.intro) <;> first | omega | trivial | assumption | simp_all)))); (first | done | fail)) : Sub Hc H := h
theorem cl_of {v : AV} (h : Cl v := by (repeat' (first | constructor | (intro v hv; simp at hv; done))); (first | done | fail)) : Cl v := h
end Go.Proofs.Ytlmplofpclaokaa

/- Each function's translation is, by reckoning, the abstract code that is written out here; its contract follows from the predicate transformer over that code. -/
namespace Go.Proofs.Ytlmplofpclaokaa
set_option autoImplicit false
set_option maxRecDepth 100000
noncomputable abbrev PG : Program := Try.prog
theorem mixed : PG.follows .mixedOrders = true := by kernel_rfl
abbrev ty_int64 : Nat := 2
abbrev ty_int : Nat := 3
abbrev ty_bool : Nat := 4
abbrev ty_uint8 : Nat := 5
abbrev ty_abi_BoundsErrorCode : Nat := 6
abbrev ty_runtime_boundsError : Nat := 8
abbrev ty_string : Nat := 9
abbrev ty_runtime_errorString : Nat := 10
abbrev ty_runtime_plainError : Nat := 11
abbrev ty_uintptr : Nat := 12
abbrev ty_runtime_errorAddressString : Nat := 14
abbrev ty_P_runtime_TypeAssertionError : Nat := 15
abbrev ty_P_runtime_PanicNilError : Nat := 16
abbrev ty_P_abi_Type : Nat := 17
abbrev ty_maps_unhashableTypeError : Nat := 19
abbrev ty_int32 : Nat := 21
abbrev ty_S_api_Token : Nat := 22
abbrev ty_api_Errno : Nat := 23
abbrev ty_api_Fault : Nat := 25
abbrev ty_S_api_Operand : Nat := 31
abbrev ty_S_api_Expr : Nat := 32
abbrev ty_api_Expr : Nat := 34
abbrev ty_P_token_lexer : Nat := 42
abbrev ty_token_lexer : Nat := 44
abbrev ty_uint64 : Nat := 46
abbrev ty_api_Token : Nat := 48
abbrev ty_P_expr_parser : Nat := 53
abbrev ty_expr_parser : Nat := 55
abbrev ty_broadsheetref15_P : Nat := 60
abbrev ty_api_Operand : Nat := 65
abbrev ty_S_token_kind : Nat := 66
abbrev ty_token_kind : Nat := 70
abbrev ty_S_uint8 : Nat := 83
abbrev ty_P_strings_Builder : Nat := 90
abbrev ty_strings_Builder : Nat := 92
abbrev ty_error : Nat := 94
abbrev ty_S_string : Nat := 96
abbrev ty_P_uint8 : Nat := 102
abbrev ty_unsafe_Pointer : Nat := 107
abbrev ty_runtime_TypeAssertionError : Nat := 110
abbrev ty_runtime_PanicNilError : Nat := 113
abbrev ty_uint32 : Nat := 115
abbrev ty_abi_TFlag : Nat := 116
abbrev ty_abi_Kind : Nat := 117
abbrev ty_abi_NameOff : Nat := 119
abbrev ty_abi_TypeOff : Nat := 120
abbrev ty_abi_Type : Nat := 122
def broadsheetlaw14_TokenReads.n : Nat := 3
noncomputable def broadsheetlaw14_TokenReads.c : C := (.seq (.reg [⟨(some 2), none, (.mv (.c (.bool false)))⟩]) (.seq (.reg [⟨(some 8), none, (.mv (.t 0))⟩, ⟨(some 9), none, (.call 7 [(.t 8)])⟩, ⟨(some 7), none, (.mv (.t 9))⟩, ⟨(some 10), none, (.extr (.t 7) 0)⟩, ⟨(some 11), none, (.extr (.t 7) 1)⟩, ⟨(some 4), none, (.allc 25 [(.int .i64 0), (.int .i64 0)])⟩, ⟨(some 3), none, (.mv (.t 10))⟩, ⟨none, none, (.store 2 (.t 4) (.t 11))⟩]) (.seq (.reg [⟨(some 13), none, (.mv (.t 0))⟩, ⟨(some 14), none, (.call 8 [(.t 13)])⟩, ⟨(some 12), none, (.mv (.t 14))⟩, ⟨(some 15), none, (.extr (.t 12) 0)⟩, ⟨(some 16), none, (.extr (.t 12) 1)⟩, ⟨(some 6), none, (.allc 25 [(.int .i64 0), (.int .i64 0)])⟩, ⟨(some 5), none, (.mv (.t 15))⟩, ⟨none, none, (.store 2 (.t 6) (.t 16))⟩]) (.seq (.reg [⟨(some 17), none, (.mv (.t 3))⟩, ⟨(some 18), none, (.mv (.t 5))⟩, ⟨(some 19), none, (.call 9 [(.t 17), (.t 18), (.c (.bool true))])⟩, ⟨(some 20), none, (.mv (.t 19))⟩, ⟨(some 21), (some (20, true)), (.load (some 2) (.t 4))⟩, ⟨(some 22), (some (20, true)), (.load (some 2) (.t 6))⟩, ⟨(some 23), (some (20, true)), (.aeq false [(.i .i64), (.i .i64)] (.t 21) (.t 22))⟩, ⟨(some 24), none, (.pick (.t 20) (.t 23) (.c (.bool false)))⟩, ⟨(some 25), none, (.mv (.t 24))⟩, ⟨(some 26), (some (25, true)), (.call 10 [])⟩, ⟨(some 27), none, (.pick (.t 25) (.t 26) (.c (.bool false)))⟩, ⟨(some 2), none, (.mv (.t 27))⟩]) .ret))))
theorem broadsheetlaw14_TokenReads.code : comp PG [] (Try.f3.body.getD .skip) = broadsheetlaw14_TokenReads.c := by kernel_rfl
theorem broadsheetlaw14_TokenReads.of {args : List AV} {H : AH} {K : AV → AH → Prop} (hl : args.length = 1) (h : wpA PG broadsheetlaw14_TokenReads.c none (endA [(.t 2)] K) (initFr args) H) : ACalls PG 3 args H K :=
  ACalls.of_code (fl := []) mixed Try.func3 (c := Try.f3.body.getD .skip) (by kernel_rfl) (by kernel_rfl) (by rw [hl]; exact of_decide_eq_true (by kernel_rfl)) (by rw [broadsheetlaw14_TokenReads.code]; kernel_rfl)
    (by rw [broadsheetlaw14_TokenReads.code, show compRes PG Try.f3.results.toList = [(.t 2)] from by kernel_rfl]; exact h)
def token_Tokens.n : Nat := 7
noncomputable def token_Tokens.c : C := (.seq (.reg [⟨(some 2), none, (.mv (.c .nilS))⟩, ⟨(some 3), none, (.allc 25 [(.int .i64 0), (.int .i64 0)])⟩]) (.seq (.seq (.reg [⟨(some 9), none, (.mv (.t 0))⟩, ⟨(some 10), none, (.len true (.t 9))⟩, ⟨(some 11), none, (.bin .gtr (.t 10) (.c (.int .i64 256)))⟩]) (.cond (.t 11) (.seq (.reg [⟨(some 12), none, (.build [(.int .i64 0), (.int .i64 0)] [(0, (1, (.c (.int .i64 3))))])⟩, ⟨(some 2), none, (.mv (.c .nilS))⟩, ⟨none, none, (.store 2 (.t 3) (.t 12))⟩]) .ret) .skip)) (.seq (.reg [⟨(some 13), none, (.mv (.t 0))⟩, ⟨(some 14), none, (.build [(.str []), (.int .i64 0)] [(0, (1, (.t 13)))])⟩, ⟨(some 15), none, (.box 44 (.t 14))⟩, ⟨(some 4), none, (.mv (.t 15))⟩]) (.seq (.reg [⟨(some 5), none, (.mv (.c .nilS))⟩]) (.block 0 (.loop (.block 1 (.seq (.block 2 (.loop (.seq (.seq (.reg [⟨(some 16), none, (.mv (.t 4))⟩, ⟨(some 17), none, (.nilck (.t 16))⟩, ⟨(some 18), none, (.faddr 1 (.t 17))⟩, ⟨(some 19), none, (.load none (.t 18))⟩, ⟨(some 20), none, (.mv (.t 0))⟩, ⟨(some 21), none, (.len true (.t 20))⟩, ⟨(some 22), none, (.bin .lss (.t 19) (.t 21))⟩, ⟨(some 23), none, (.mv (.t 22))⟩, ⟨(some 24), (some (23, true)), (.mv (.t 0))⟩, ⟨(some 25), (some (23, true)), (.mv (.t 4))⟩, ⟨(some 26), (some (23, true)), (.nilck (.t 25))⟩, ⟨(some 27), (some (23, true)), (.faddr 1 (.t 26))⟩, ⟨(some 28), (some (23, true)), (.load none (.t 27))⟩, ⟨(some 29), (some (23, true)), (.idx (.t 24) (.t 28))⟩, ⟨(some 30), (some (23, true)), (.call 21 [(.t 29)])⟩, ⟨(some 31), none, (.pick (.t 23) (.t 30) (.c (.bool false)))⟩]) (.cond (.t 31) .skip (.exit 2))) (.block 3 (.reg [⟨(some 32), none, (.mv (.t 4))⟩, ⟨(some 33), none, (.nilck (.t 32))⟩, ⟨(some 34), none, (.faddr 1 (.t 33))⟩, ⟨(some 35), none, (.load none (.t 34))⟩, ⟨(some 36), none, (.bin .add (.t 35) (.c (.int .i64 1)))⟩, ⟨(some 37), none, (.nilck (.t 32))⟩, ⟨(some 38), none, (.faddr 1 (.t 37))⟩, ⟨none, none, (.store 1 (.t 38) (.t 36))⟩]))))) (.seq (.seq (.reg [⟨(some 39), none, (.mv (.t 4))⟩, ⟨(some 40), none, (.nilck (.t 39))⟩, ⟨(some 41), none, (.faddr 1 (.t 40))⟩, ⟨(some 42), none, (.load none (.t 41))⟩, ⟨(some 43), none, (.mv (.t 0))⟩, ⟨(some 44), none, (.len true (.t 43))⟩, ⟨(some 45), none, (.bin .eql (.t 42) (.t 44))⟩]) (.cond (.t 45) (.seq (.reg [⟨(some 46), none, (.mv (.t 5))⟩, ⟨(some 47), none, (.mv (.t 4))⟩, ⟨(some 48), none, (.nilck (.t 47))⟩, ⟨(some 49), none, (.faddr 1 (.t 48))⟩, ⟨(some 50), none, (.load none (.t 49))⟩, ⟨(some 51), none, (.build [(.int .i64 0), (.str []), (.int .u64 0), (.int .i64 0)] [(0, (1, (.c (.int .i64 6)))), (3, (1, (.t 50)))])⟩, ⟨(some 52), none, (.bslice 48 4 1 [(.int .i64 0), (.str []), (.int .u64 0), (.int .i64 0)] [(0, (.t 51))])⟩, ⟨(some 53), none, (.append 48 false 4 40 (.t 46) (.t 52))⟩, ⟨(some 54), none, (.build [(.int .i64 0), (.int .i64 0)] [])⟩, ⟨(some 2), none, (.mv (.t 53))⟩, ⟨none, none, (.store 2 (.t 3) (.t 54))⟩]) .ret) .skip)) (.seq (.reg [⟨(some 55), none, (.mv (.t 4))⟩, ⟨(some 56), none, (.nilck (.t 55))⟩, ⟨(some 57), none, (.faddr 1 (.t 56))⟩, ⟨(some 58), none, (.load none (.t 57))⟩, ⟨(some 6), none, (.mv (.t 58))⟩]) (.seq (.reg [⟨(some 60), none, (.mv (.t 4))⟩, ⟨(some 61), none, (.call 22 [(.t 60)])⟩, ⟨(some 59), none, (.mv (.t 61))⟩, ⟨(some 62), none, (.extr (.t 59) 0)⟩, ⟨(some 63), none, (.extr (.t 59) 1)⟩, ⟨(some 7), none, (.allc 48 [(.int .i64 0), (.str []), (.int .u64 0), (.int .i64 0)])⟩, ⟨(some 8), none, (.allc 25 [(.int .i64 0), (.int .i64 0)])⟩, ⟨none, none, (.store 4 (.t 7) (.t 62))⟩, ⟨none, none, (.store 2 (.t 8) (.t 63))⟩]) (.seq (.seq (.reg [⟨(some 64), none, (.faddr 0 (.t 8))⟩, ⟨(some 65), none, (.load none (.t 64))⟩, ⟨(some 66), none, (.bin .eql (.t 65) (.c (.int .i64 0)))⟩, ⟨(some 67), none, (.mv (.t 66))⟩, ⟨(some 68), (some (67, true)), (.mv (.t 5))⟩, ⟨(some 69), (some (67, true)), (.len false (.t 68))⟩, ⟨(some 70), (some (67, true)), (.bin .eql (.t 69) (.c (.int .i64 64)))⟩, ⟨(some 71), none, (.pick (.t 67) (.t 70) (.c (.bool false)))⟩]) (.cond (.t 71) (.reg [⟨(some 72), none, (.mv (.t 6))⟩, ⟨(some 73), none, (.build [(.int .i64 0), (.int .i64 0)] [(0, (1, (.c (.int .i64 3)))), (1, (1, (.t 72)))])⟩, ⟨none, none, (.store 2 (.t 8) (.t 73))⟩]) .skip)) (.seq (.seq (.reg [⟨(some 74), none, (.faddr 0 (.t 8))⟩, ⟨(some 75), none, (.load none (.t 74))⟩, ⟨(some 76), none, (.bin .neq (.t 75) (.c (.int .i64 0)))⟩]) (.cond (.t 76) (.seq (.dreg [⟨(some 77), none, (.load (some 2) (.t 8))⟩, ⟨(some 2), none, (.mv (.c .nilS))⟩] [⟨none, none, (.store 2 (.t 3) (.t 77))⟩]) .ret) .skip)) (.reg [⟨(some 78), none, (.mv (.t 5))⟩, ⟨(some 79), none, (.load (some 4) (.t 7))⟩, ⟨(some 80), none, (.bslice 48 4 1 [(.int .i64 0), (.str []), (.int .u64 0), (.int .i64 0)] [(0, (.t 79))])⟩, ⟨(some 81), none, (.append 48 false 4 40 (.t 78) (.t 80))⟩, ⟨(some 5), none, (.mv (.t 81))⟩]))))))))))))))
theorem token_Tokens.code : comp PG [] (Try.f7.body.getD .skip) = token_Tokens.c := by kernel_rfl
theorem token_Tokens.of {args : List AV} {H : AH} {K : AV → AH → Prop} (hl : args.length = 1) (h : wpA PG token_Tokens.c none (endA [(.t 2), (.cell 3 (some 2))] K) (initFr args) H) : ACalls PG 7 args H K :=
  ACalls.of_code (fl := []) mixed Try.func7 (c := Try.f7.body.getD .skip) (by kernel_rfl) (by kernel_rfl) (by rw [hl]; exact of_decide_eq_true (by kernel_rfl)) (by rw [token_Tokens.code]; kernel_rfl)
    (by rw [token_Tokens.code, show compRes PG Try.f7.results.toList = [(.t 2), (.cell 3 (some 2))] from by kernel_rfl]; exact h)
def broadsheetref14_Tokens.n : Nat := 8
noncomputable def broadsheetref14_Tokens.c : C := (.seq (.reg [⟨(some 2), none, (.mv (.c .nilS))⟩, ⟨(some 3), none, (.allc 25 [(.int .i64 0), (.int .i64 0)])⟩]) (.seq (.seq (.reg [⟨(some 9), none, (.mv (.t 0))⟩, ⟨(some 10), none, (.len true (.t 9))⟩, ⟨(some 11), none, (.bin .gtr (.t 10) (.c (.int .i64 256)))⟩]) (.cond (.t 11) (.seq (.reg [⟨(some 12), none, (.build [(.int .i64 0), (.int .i64 0)] [(0, (1, (.c (.int .i64 3))))])⟩, ⟨(some 2), none, (.mv (.c .nilS))⟩, ⟨none, none, (.store 2 (.t 3) (.t 12))⟩]) .ret) .skip)) (.seq (.reg [⟨(some 4), none, (.mv (.c .nilS))⟩]) (.seq (.reg [⟨(some 5), none, (.mv (.c (.int .i64 0)))⟩]) (.seq (.block 0 (.loop (.seq (.seq (.reg [⟨(some 13), none, (.mv (.t 5))⟩, ⟨(some 14), none, (.mv (.t 0))⟩, ⟨(some 15), none, (.len true (.t 14))⟩, ⟨(some 16), none, (.bin .lss (.t 13) (.t 15))⟩]) (.cond (.t 16) .skip (.exit 0))) (.block 1 (.seq (.seq (.reg [⟨(some 17), none, (.mv (.t 0))⟩, ⟨(some 18), none, (.mv (.t 5))⟩, ⟨(some 19), none, (.idx (.t 17) (.t 18))⟩, ⟨(some 20), none, (.bin .eql (.t 19) (.c (.int .u8 32)))⟩, ⟨(some 21), none, (.mv (.t 20))⟩, ⟨(some 22), (some (21, false)), (.mv (.t 0))⟩, ⟨(some 23), (some (21, false)), (.mv (.t 5))⟩, ⟨(some 24), (some (21, false)), (.idx (.t 22) (.t 23))⟩, ⟨(some 25), (some (21, false)), (.bin .eql (.t 24) (.c (.int .u8 9)))⟩, ⟨(some 26), none, (.pick (.t 21) (.c (.bool true)) (.t 25))⟩, ⟨(some 27), none, (.mv (.t 26))⟩, ⟨(some 28), (some (27, false)), (.mv (.t 0))⟩, ⟨(some 29), (some (27, false)), (.mv (.t 5))⟩, ⟨(some 30), (some (27, false)), (.idx (.t 28) (.t 29))⟩, ⟨(some 31), (some (27, false)), (.bin .eql (.t 30) (.c (.int .u8 10)))⟩, ⟨(some 32), none, (.pick (.t 27) (.c (.bool true)) (.t 31))⟩, ⟨(some 33), none, (.mv (.t 32))⟩, ⟨(some 34), (some (33, false)), (.mv (.t 0))⟩, ⟨(some 35), (some (33, false)), (.mv (.t 5))⟩, ⟨(some 36), (some (33, false)), (.idx (.t 34) (.t 35))⟩, ⟨(some 37), (some (33, false)), (.bin .eql (.t 36) (.c (.int .u8 13)))⟩, ⟨(some 38), none, (.pick (.t 33) (.c (.bool true)) (.t 37))⟩]) (.cond (.t 38) (.seq (.reg [⟨(some 39), none, (.mv (.t 5))⟩, ⟨(some 40), none, (.bin .add (.t 39) (.c (.int .i64 1)))⟩, ⟨(some 5), none, (.mv (.t 40))⟩]) (.exit 1)) .skip)) (.seq (.reg [⟨(some 42), none, (.mv (.t 0))⟩, ⟨(some 43), none, (.mv (.t 5))⟩, ⟨(some 44), none, (.call 23 [(.t 42), (.t 43)])⟩, ⟨(some 41), none, (.mv (.t 44))⟩, ⟨(some 45), none, (.extr (.t 41) 0)⟩, ⟨(some 46), none, (.extr (.t 41) 1)⟩, ⟨(some 47), none, (.extr (.t 41) 2)⟩, ⟨(some 6), none, (.allc 48 [(.int .i64 0), (.str []), (.int .u64 0), (.int .i64 0)])⟩, ⟨(some 8), none, (.allc 25 [(.int .i64 0), (.int .i64 0)])⟩, ⟨none, none, (.store 4 (.t 6) (.t 45))⟩, ⟨(some 7), none, (.mv (.t 46))⟩, ⟨none, none, (.store 2 (.t 8) (.t 47))⟩]) (.seq (.seq (.reg [⟨(some 48), none, (.faddr 0 (.t 8))⟩, ⟨(some 49), none, (.load none (.t 48))⟩, ⟨(some 50), none, (.bin .neq (.t 49) (.c (.int .i64 0)))⟩]) (.cond (.t 50) (.seq (.dreg [⟨(some 51), none, (.load (some 2) (.t 8))⟩, ⟨(some 2), none, (.mv (.c .nilS))⟩] [⟨none, none, (.store 2 (.t 3) (.t 51))⟩]) .ret) .skip)) (.seq (.seq (.reg [⟨(some 52), none, (.mv (.t 4))⟩, ⟨(some 53), none, (.len false (.t 52))⟩, ⟨(some 54), none, (.bin .eql (.t 53) (.c (.int .i64 64)))⟩]) (.cond (.t 54) (.seq (.reg [⟨(some 55), none, (.mv (.t 5))⟩, ⟨(some 56), none, (.build [(.int .i64 0), (.int .i64 0)] [(0, (1, (.c (.int .i64 3)))), (1, (1, (.t 55)))])⟩, ⟨(some 2), none, (.mv (.c .nilS))⟩, ⟨none, none, (.store 2 (.t 3) (.t 56))⟩]) .ret) .skip)) (.seq (.reg [⟨(some 57), none, (.mv (.t 4))⟩, ⟨(some 58), none, (.load (some 4) (.t 6))⟩, ⟨(some 59), none, (.bslice 48 4 1 [(.int .i64 0), (.str []), (.int .u64 0), (.int .i64 0)] [(0, (.t 58))])⟩, ⟨(some 60), none, (.append 48 false 4 40 (.t 57) (.t 59))⟩, ⟨(some 4), none, (.mv (.t 60))⟩]) (.reg [⟨(some 61), none, (.mv (.t 5))⟩, ⟨(some 62), none, (.mv (.t 7))⟩, ⟨(some 63), none, (.bin .add (.t 61) (.t 62))⟩, ⟨(some 5), none, (.mv (.t 63))⟩])))))))))) (.seq (.reg [⟨(some 64), none, (.mv (.t 4))⟩, ⟨(some 65), none, (.mv (.t 0))⟩, ⟨(some 66), none, (.len true (.t 65))⟩, ⟨(some 67), none, (.build [(.int .i64 0), (.str []), (.int .u64 0), (.int .i64 0)] [(0, (1, (.c (.int .i64 6)))), (3, (1, (.t 66)))])⟩, ⟨(some 68), none, (.bslice 48 4 1 [(.int .i64 0), (.str []), (.int .u64 0), (.int .i64 0)] [(0, (.t 67))])⟩, ⟨(some 69), none, (.append 48 false 4 40 (.t 64) (.t 68))⟩, ⟨(some 70), none, (.build [(.int .i64 0), (.int .i64 0)] [])⟩, ⟨(some 2), none, (.mv (.t 69))⟩, ⟨none, none, (.store 2 (.t 3) (.t 70))⟩]) .ret))))))
theorem broadsheetref14_Tokens.code : comp PG [] (Try.f8.body.getD .skip) = broadsheetref14_Tokens.c := by kernel_rfl
theorem broadsheetref14_Tokens.of {args : List AV} {H : AH} {K : AV → AH → Prop} (hl : args.length = 1) (h : wpA PG broadsheetref14_Tokens.c none (endA [(.t 2), (.cell 3 (some 2))] K) (initFr args) H) : ACalls PG 8 args H K :=
  ACalls.of_code (fl := []) mixed Try.func8 (c := Try.f8.body.getD .skip) (by kernel_rfl) (by kernel_rfl) (by rw [hl]; exact of_decide_eq_true (by kernel_rfl)) (by rw [broadsheetref14_Tokens.code]; kernel_rfl)
    (by rw [broadsheetref14_Tokens.code, show compRes PG Try.f8.results.toList = [(.t 2), (.cell 3 (some 2))] from by kernel_rfl]; exact h)
def broadsheetref14_Same.n : Nat := 9
noncomputable def broadsheetref14_Same.c : C := (.seq (.reg [⟨(some 6), none, (.mv (.c (.bool false)))⟩]) (.seq (.seq (.reg [⟨(some 9), none, (.mv (.t 0))⟩, ⟨(some 10), none, (.len false (.t 9))⟩, ⟨(some 11), none, (.mv (.t 1))⟩, ⟨(some 12), none, (.len false (.t 11))⟩, ⟨(some 13), none, (.bin .neq (.t 10) (.t 12))⟩]) (.cond (.t 13) (.seq (.reg [⟨(some 6), none, (.mv (.c (.bool false)))⟩]) .ret) .skip)) (.seq (.seq (.reg [⟨(some 7), none, (.mv (.c (.int .i64 0)))⟩]) (.block 0 (.loop (.seq (.seq (.reg [⟨(some 14), none, (.mv (.t 7))⟩, ⟨(some 15), none, (.mv (.t 0))⟩, ⟨(some 16), none, (.len false (.t 15))⟩, ⟨(some 17), none, (.bin .lss (.t 14) (.t 16))⟩]) (.cond (.t 17) .skip (.exit 0))) (.seq (.block 1 (.seq (.reg [⟨(some 20), none, (.mv (.t 0))⟩, ⟨(some 21), none, (.mv (.t 7))⟩, ⟨(some 22), none, (.iaddr 4 (.t 20) (.t 21))⟩, ⟨(some 23), none, (.load (some 4) (.t 22))⟩, ⟨(some 8), none, (.allc 48 [(.int .i64 0), (.str []), (.int .u64 0), (.int .i64 0)])⟩, ⟨none, none, (.store 4 (.t 8) (.t 23))⟩]) (.seq (.seq (.reg [⟨(some 24), none, (.mv (.t 2))⟩, ⟨(some 25), none, (.un .not (.t 24))⟩]) (.cond (.t 25) (.reg [⟨(some 26), none, (.mv (.t 1))⟩, ⟨(some 27), none, (.mv (.t 7))⟩, ⟨(some 28), none, (.iaddr 4 (.t 26) (.t 27))⟩, ⟨(some 29), none, (.faddr 3 (.t 28))⟩, ⟨(some 30), none, (.load none (.t 29))⟩, ⟨(some 31), none, (.faddr 3 (.t 8))⟩, ⟨none, none, (.store 1 (.t 31) (.t 30))⟩]) .skip)) (.seq (.dreg [⟨(some 32), none, (.load (some 4) (.t 8))⟩, ⟨(some 33), none, (.mv (.t 1))⟩, ⟨(some 34), none, (.mv (.t 7))⟩, ⟨(some 35), none, (.iaddr 4 (.t 33) (.t 34))⟩, ⟨(some 36), none, (.load (some 4) (.t 35))⟩] [⟨(some 37), none, (.aeq true [(.i .i64), .s, (.i .u64), (.i .i64)] (.t 32) (.t 36))⟩]) (.cond (.t 37) (.seq (.reg [⟨(some 6), none, (.mv (.c (.bool false)))⟩]) .ret) .skip))))) (.reg [⟨(some 18), none, (.mv (.t 7))⟩, ⟨(some 19), none, (.bin .add (.t 18) (.c (.int .i64 1)))⟩, ⟨(some 7), none, (.mv (.t 19))⟩])))))) (.seq (.reg [⟨(some 6), none, (.mv (.c (.bool true)))⟩]) .ret))))
theorem broadsheetref14_Same.code : comp PG [] (Try.f9.body.getD .skip) = broadsheetref14_Same.c := by kernel_rfl
theorem broadsheetref14_Same.of {args : List AV} {H : AH} {K : AV → AH → Prop} (hl : args.length = 3) (h : wpA PG broadsheetref14_Same.c none (endA [(.t 6)] K) (initFr args) H) : ACalls PG 9 args H K :=
  ACalls.of_code (fl := []) mixed Try.func9 (c := Try.f9.body.getD .skip) (by kernel_rfl) (by kernel_rfl) (by rw [hl]; exact of_decide_eq_true (by kernel_rfl)) (by rw [broadsheetref14_Same.code]; kernel_rfl)
    (by rw [broadsheetref14_Same.code, show compRes PG Try.f9.results.toList = [(.t 6)] from by kernel_rfl]; exact h)
def broadsheetlaw14_awake.n : Nat := 10
noncomputable def broadsheetlaw14_awake.c : C := (.seq (.reg [⟨(some 0), none, (.mv (.c (.bool false)))⟩]) (.seq (.reg [⟨(some 4), none, (.call 7 [(.c (.str [97, 60, 61, 45, 53]))])⟩, ⟨(some 3), none, (.mv (.t 4))⟩, ⟨(some 5), none, (.extr (.t 3) 0)⟩, ⟨(some 6), none, (.extr (.t 3) 1)⟩, ⟨(some 2), none, (.allc 25 [(.int .i64 0), (.int .i64 0)])⟩, ⟨(some 1), none, (.mv (.t 5))⟩, ⟨none, none, (.store 2 (.t 2) (.t 6))⟩]) (.seq (.reg [⟨(some 7), none, (.load (some 2) (.t 2))⟩, ⟨(some 8), none, (.build [(.int .i64 0), (.int .i64 0)] [])⟩, ⟨(some 9), none, (.aeq false [(.i .i64), (.i .i64)] (.t 7) (.t 8))⟩, ⟨(some 10), none, (.mv (.t 9))⟩, ⟨(some 11), (some (10, true)), (.mv (.t 1))⟩, ⟨(some 12), (some (10, true)), (.len false (.t 11))⟩, ⟨(some 13), (some (10, true)), (.bin .eql (.t 12) (.c (.int .i64 5)))⟩, ⟨(some 14), none, (.pick (.t 10) (.t 13) (.c (.bool false)))⟩, ⟨(some 15), none, (.mv (.t 14))⟩, ⟨(some 16), (some (15, true)), (.mv (.t 1))⟩, ⟨(some 17), (some (15, true)), (.iaddr 4 (.t 16) (.c (.int .i64 3)))⟩, ⟨(some 18), (some (15, true)), (.faddr 2 (.t 17))⟩, ⟨(some 19), (some (15, true)), (.load none (.t 18))⟩, ⟨(some 20), (some (15, true)), (.bin .eql (.t 19) (.c (.int .u64 5)))⟩, ⟨(some 21), none, (.pick (.t 15) (.t 20) (.c (.bool false)))⟩, ⟨(some 22), none, (.mv (.t 21))⟩, ⟨(some 23), (some (22, true)), (.mv (.t 1))⟩, ⟨(some 24), (some (22, true)), (.iaddr 4 (.t 23) (.c (.int .i64 3)))⟩, ⟨(some 25), (some (22, true)), (.faddr 3 (.t 24))⟩, ⟨(some 26), (some (22, true)), (.load none (.t 25))⟩, ⟨(some 27), (some (22, true)), (.bin .eql (.t 26) (.c (.int .i64 4)))⟩, ⟨(some 28), none, (.pick (.t 22) (.t 27) (.c (.bool false)))⟩, ⟨(some 29), none, (.mv (.t 28))⟩, ⟨(some 30), (some (29, true)), (.mv (.t 1))⟩, ⟨(some 31), (some (29, true)), (.iaddr 4 (.t 30) (.c (.int .i64 4)))⟩, ⟨(some 32), (some (29, true)), (.faddr 0 (.t 31))⟩, ⟨(some 33), (some (29, true)), (.load none (.t 32))⟩, ⟨(some 34), (some (29, true)), (.bin .eql (.t 33) (.c (.int .i64 6)))⟩, ⟨(some 35), none, (.pick (.t 29) (.t 34) (.c (.bool false)))⟩, ⟨(some 0), none, (.mv (.t 35))⟩]) .ret)))
theorem broadsheetlaw14_awake.code : comp PG [] (Try.f10.body.getD .skip) = broadsheetlaw14_awake.c := by kernel_rfl
theorem broadsheetlaw14_awake.of {args : List AV} {H : AH} {K : AV → AH → Prop} (hl : args.length = 0) (h : wpA PG broadsheetlaw14_awake.c none (endA [(.t 0)] K) (initFr args) H) : ACalls PG 10 args H K :=
  ACalls.of_code (fl := []) mixed Try.func10 (c := Try.f10.body.getD .skip) (by kernel_rfl) (by kernel_rfl) (by rw [hl]; exact of_decide_eq_true (by kernel_rfl)) (by rw [broadsheetlaw14_awake.code]; kernel_rfl)
    (by rw [broadsheetlaw14_awake.code, show compRes PG Try.f10.results.toList = [(.t 0)] from by kernel_rfl]; exact h)
def token_blank.n : Nat := 21
noncomputable def token_blank.c : C := (.seq (.reg [⟨(some 2), none, (.mv (.c (.bool false)))⟩]) (.seq (.reg [⟨(some 3), none, (.mv (.t 0))⟩, ⟨(some 4), none, (.bin .eql (.t 3) (.c (.int .u8 32)))⟩, ⟨(some 5), none, (.mv (.t 4))⟩, ⟨(some 6), (some (5, false)), (.mv (.t 0))⟩, ⟨(some 7), (some (5, false)), (.bin .eql (.t 6) (.c (.int .u8 9)))⟩, ⟨(some 8), none, (.pick (.t 5) (.c (.bool true)) (.t 7))⟩, ⟨(some 9), none, (.mv (.t 8))⟩, ⟨(some 10), (some (9, false)), (.mv (.t 0))⟩, ⟨(some 11), (some (9, false)), (.bin .eql (.t 10) (.c (.int .u8 10)))⟩, ⟨(some 12), none, (.pick (.t 9) (.c (.bool true)) (.t 11))⟩, ⟨(some 13), none, (.mv (.t 12))⟩, ⟨(some 14), (some (13, false)), (.mv (.t 0))⟩, ⟨(some 15), (some (13, false)), (.bin .eql (.t 14) (.c (.int .u8 13)))⟩, ⟨(some 16), none, (.pick (.t 13) (.c (.bool true)) (.t 15))⟩, ⟨(some 2), none, (.mv (.t 16))⟩]) .ret))
theorem token_blank.code : comp PG [] (Try.f21.body.getD .skip) = token_blank.c := by kernel_rfl
theorem token_blank.of {args : List AV} {H : AH} {K : AV → AH → Prop} (hl : args.length = 1) (h : wpA PG token_blank.c none (endA [(.t 2)] K) (initFr args) H) : ACalls PG 21 args H K :=
  ACalls.of_code (fl := []) mixed Try.func21 (c := Try.f21.body.getD .skip) (by kernel_rfl) (by kernel_rfl) (by rw [hl]; exact of_decide_eq_true (by kernel_rfl)) (by rw [token_blank.code]; kernel_rfl)
    (by rw [token_blank.code, show compRes PG Try.f21.results.toList = [(.t 2)] from by kernel_rfl]; exact h)
def token_lexer_next.n : Nat := 22
noncomputable def token_lexer_next.c : C := (.seq (.reg [⟨(some 2), none, (.allc 48 [(.int .i64 0), (.str []), (.int .u64 0), (.int .i64 0)])⟩, ⟨(some 3), none, (.allc 25 [(.int .i64 0), (.int .i64 0)])⟩]) (.seq (.seq (.reg [⟨(some 6), none, (.call 30 [])⟩, ⟨(some 7), none, (.len false (.t 6))⟩, ⟨(some 8), none, (.mv (.c (.int .i64 0)))⟩]) (.block 0 (.loop (.seq (.reg [⟨(some 9), none, (.bin .lss (.t 8) (.t 7))⟩]) (.seq (.cond (.t 9) .skip (.exit 0)) (.seq (.block 1 (.seq (.reg [⟨(some 10), none, (.iaddr 2 (.t 6) (.t 8))⟩, ⟨(some 11), none, (.load (some 2) (.t 10))⟩, ⟨(some 5), none, (.allc 70 [.nilF, .nilF])⟩, ⟨none, none, (.store 2 (.t 5) (.t 11))⟩]) (.seq (.dreg [⟨(some 12), none, (.faddr 0 (.t 5))⟩, ⟨(some 13), none, (.load none (.t 12))⟩, ⟨(some 14), none, (.mv (.t 0))⟩, ⟨(some 15), none, (.nilck (.t 14))⟩, ⟨(some 16), none, (.faddr 0 (.t 15))⟩, ⟨(some 17), none, (.load none (.t 16))⟩, ⟨(some 18), none, (.mv (.t 0))⟩, ⟨(some 19), none, (.nilck (.t 18))⟩, ⟨(some 20), none, (.faddr 1 (.t 19))⟩, ⟨(some 21), none, (.load none (.t 20))⟩, ⟨(some 22), none, (.idx (.t 17) (.t 21))⟩] [⟨(some 23), none, (.callv (.t 13) [(.t 22)])⟩]) (.cond (.t 23) (.seq (.reg [⟨(some 24), none, (.faddr 1 (.t 5))⟩, ⟨(some 25), none, (.load none (.t 24))⟩, ⟨(some 26), none, (.mv (.t 0))⟩, ⟨(some 27), none, (.callv (.t 25) [(.t 26)])⟩, ⟨(some 28), none, (.extr (.t 27) 0)⟩, ⟨(some 29), none, (.extr (.t 27) 1)⟩, ⟨none, none, (.store 4 (.t 2) (.t 28))⟩, ⟨none, none, (.store 2 (.t 3) (.t 29))⟩]) .ret) .skip)))) (.reg [⟨(some 30), none, (.bin .add (.t 8) (.c (.int .i64 1)))⟩, ⟨(some 8), none, (.mv (.t 30))⟩]))))))) (.seq (.dreg [⟨(some 31), none, (.build [(.int .i64 0), (.str []), (.int .u64 0), (.int .i64 0)] [])⟩, ⟨(some 32), none, (.mv (.t 0))⟩, ⟨(some 33), none, (.nilck (.t 32))⟩, ⟨(some 34), none, (.faddr 1 (.t 33))⟩, ⟨(some 35), none, (.load none (.t 34))⟩, ⟨(some 36), none, (.build [(.int .i64 0), (.int .i64 0)] [(0, (1, (.c (.int .i64 11)))), (1, (1, (.t 35)))])⟩, ⟨none, none, (.store 4 (.t 2) (.t 31))⟩] [⟨none, none, (.store 2 (.t 3) (.t 36))⟩]) .ret)))
theorem token_lexer_next.code : comp PG [] (Try.f22.body.getD .skip) = token_lexer_next.c := by kernel_rfl
theorem token_lexer_next.of {args : List AV} {H : AH} {K : AV → AH → Prop} (hl : args.length = 1) (h : wpA PG token_lexer_next.c none (endA [(.cell 2 (some 4)), (.cell 3 (some 2))] K) (initFr args) H) : ACalls PG 22 args H K :=
  ACalls.of_code (fl := []) mixed Try.func22 (c := Try.f22.body.getD .skip) (by kernel_rfl) (by kernel_rfl) (by rw [hl]; exact of_decide_eq_true (by kernel_rfl)) (by rw [token_lexer_next.code]; kernel_rfl)
    (by rw [token_lexer_next.code, show compRes PG Try.f22.results.toList = [(.cell 2 (some 4)), (.cell 3 (some 2))] from by kernel_rfl]; exact h)
def broadsheetref14_one.n : Nat := 23
noncomputable def broadsheetref14_one.c : C := (.seq (.reg [⟨(some 4), none, (.allc 48 [(.int .i64 0), (.str []), (.int .u64 0), (.int .i64 0)])⟩, ⟨(some 5), none, (.mv (.c (.int .i64 0)))⟩, ⟨(some 6), none, (.allc 25 [(.int .i64 0), (.int .i64 0)])⟩]) (.seq (.seq (.reg [⟨(some 13), none, (.mv (.t 0))⟩, ⟨(some 14), none, (.mv (.t 1))⟩, ⟨(some 15), none, (.idx (.t 13) (.t 14))⟩, ⟨(some 16), none, (.bin .eql (.t 15) (.c (.int .u8 39)))⟩]) (.cond (.t 16) (.seq (.reg [⟨(some 17), none, (.mv (.t 0))⟩, ⟨(some 18), none, (.mv (.t 1))⟩, ⟨(some 19), none, (.call 31 [(.t 17), (.t 18)])⟩, ⟨(some 7), none, (.mv (.t 19))⟩]) (.seq (.reg [⟨(some 20), none, (.mv (.t 7))⟩, ⟨(some 21), none, (.bin .geq (.t 20) (.c (.int .i64 0)))⟩]) (.cond (.t 21) (.seq (.reg [⟨(some 22), none, (.build [(.int .i64 0), (.str []), (.int .u64 0), (.int .i64 0)] [])⟩, ⟨(some 23), none, (.mv (.t 7))⟩, ⟨(some 24), none, (.build [(.int .i64 0), (.int .i64 0)] [(0, (1, (.c (.int .i64 10)))), (1, (1, (.t 23)))])⟩, ⟨none, none, (.store 4 (.t 4) (.t 22))⟩, ⟨(some 5), none, (.mv (.c (.int .i64 0)))⟩, ⟨none, none, (.store 2 (.t 6) (.t 24))⟩]) .ret) .skip))) .skip)) (.seq (.reg [⟨(some 26), none, (.mv (.t 0))⟩, ⟨(some 27), none, (.mv (.t 1))⟩, ⟨(some 28), none, (.slice none (.t 26) (some (.t 27)) none)⟩, ⟨(some 29), none, (.call 32 [(.t 28)])⟩, ⟨(some 25), none, (.mv (.t 29))⟩, ⟨(some 30), none, (.extr (.t 25) 0)⟩, ⟨(some 31), none, (.extr (.t 25) 1)⟩, ⟨(some 8), none, (.mv (.t 30))⟩, ⟨(some 9), none, (.mv (.t 31))⟩]) (.seq (.seq (.reg [⟨(some 32), none, (.mv (.t 8))⟩, ⟨(some 33), none, (.bin .eql (.t 32) (.c (.int .i64 0)))⟩]) (.cond (.t 33) (.seq (.reg [⟨(some 34), none, (.build [(.int .i64 0), (.str []), (.int .u64 0), (.int .i64 0)] [])⟩, ⟨(some 35), none, (.mv (.t 0))⟩, ⟨(some 36), none, (.mv (.t 1))⟩, ⟨(some 37), none, (.call 33 [(.t 35), (.t 36)])⟩, ⟨none, none, (.store 4 (.t 4) (.t 34))⟩, ⟨(some 5), none, (.mv (.c (.int .i64 0)))⟩, ⟨none, none, (.store 2 (.t 6) (.t 37))⟩]) .ret) .skip)) (.seq (.reg [⟨(some 38), none, (.mv (.t 9))⟩, ⟨(some 39), none, (.mv (.t 0))⟩, ⟨(some 40), none, (.mv (.t 1))⟩, ⟨(some 41), none, (.mv (.t 1))⟩, ⟨(some 42), none, (.mv (.t 8))⟩, ⟨(some 43), none, (.bin .add (.t 41) (.t 42))⟩, ⟨(some 44), none, (.slice none (.t 39) (some (.t 40)) (some (.t 43)))⟩, ⟨(some 45), none, (.mv (.t 1))⟩, ⟨(some 46), none, (.build [(.int .i64 0), (.str []), (.int .u64 0), (.int .i64 0)] [(0, (1, (.t 38))), (1, (1, (.t 44))), (3, (1, (.t 45)))])⟩, ⟨(some 10), none, (.allc 48 [(.int .i64 0), (.str []), (.int .u64 0), (.int .i64 0)])⟩, ⟨none, none, (.store 4 (.t 10) (.t 46))⟩]) (.seq (.seq (.reg [⟨(some 47), none, (.mv (.t 9))⟩]) (.block 0 (.seq (.reg [⟨(some 49), none, (.bin .eql (.t 47) (.c (.int .i64 2)))⟩, ⟨(some 48), none, (.mv (.t 49))⟩]) (.cond (.t 48) (.seq (.seq (.reg [⟨(some 50), none, (.mv (.t 8))⟩, ⟨(some 51), none, (.bin .gtr (.t 50) (.c (.int .i64 1)))⟩, ⟨(some 52), none, (.mv (.t 51))⟩, ⟨(some 53), (some (52, true)), (.mv (.t 0))⟩, ⟨(some 54), (some (52, true)), (.mv (.t 1))⟩, ⟨(some 55), (some (52, true)), (.idx (.t 53) (.t 54))⟩, ⟨(some 56), (some (52, true)), (.bin .eql (.t 55) (.c (.int .u8 48)))⟩, ⟨(some 57), none, (.pick (.t 52) (.t 56) (.c (.bool false)))⟩]) (.cond (.t 57) (.seq (.reg [⟨(some 58), none, (.load (some 4) (.t 10))⟩, ⟨(some 59), none, (.mv (.t 1))⟩, ⟨(some 60), none, (.build [(.int .i64 0), (.int .i64 0)] [(0, (1, (.c (.int .i64 1)))), (1, (1, (.t 59)))])⟩, ⟨none, none, (.store 4 (.t 4) (.t 58))⟩, ⟨(some 5), none, (.mv (.c (.int .i64 0)))⟩, ⟨none, none, (.store 2 (.t 6) (.t 60))⟩]) .ret) .skip)) (.seq (.reg [⟨(some 62), none, (.faddr 1 (.t 10))⟩, ⟨(some 63), none, (.load none (.t 62))⟩, ⟨(some 64), none, (.call 34 [(.t 63)])⟩, ⟨(some 61), none, (.mv (.t 64))⟩, ⟨(some 65), none, (.extr (.t 61) 0)⟩, ⟨(some 66), none, (.extr (.t 61) 1)⟩, ⟨(some 11), none, (.mv (.t 65))⟩, ⟨(some 12), none, (.mv (.t 66))⟩]) (.seq (.seq (.reg [⟨(some 67), none, (.mv (.t 12))⟩, ⟨(some 68), none, (.un .not (.t 67))⟩]) (.cond (.t 68) (.seq (.reg [⟨(some 69), none, (.load (some 4) (.t 10))⟩, ⟨(some 70), none, (.mv (.t 1))⟩, ⟨(some 71), none, (.build [(.int .i64 0), (.int .i64 0)] [(0, (1, (.c (.int .i64 7)))), (1, (1, (.t 70)))])⟩, ⟨none, none, (.store 4 (.t 4) (.t 69))⟩, ⟨(some 5), none, (.mv (.c (.int .i64 0)))⟩, ⟨none, none, (.store 2 (.t 6) (.t 71))⟩]) .ret) .skip)) (.reg [⟨(some 72), none, (.mv (.t 11))⟩, ⟨(some 73), none, (.faddr 2 (.t 10))⟩, ⟨none, none, (.store 1 (.t 73) (.t 72))⟩])))) (.seq (.reg [⟨(some 75), none, (.bin .eql (.t 47) (.c (.int .i64 3)))⟩, ⟨(some 74), none, (.mv (.t 75))⟩]) (.cond (.t 74) (.reg [⟨(some 77), none, (.faddr 1 (.t 10))⟩, ⟨(some 78), none, (.load none (.t 77))⟩, ⟨(some 79), none, (.call 35 [(.t 78)])⟩, ⟨(some 76), none, (.mv (.t 79))⟩, ⟨(some 80), none, (.extr (.t 76) 0)⟩, ⟨(some 81), none, (.extr (.t 76) 1)⟩, ⟨(some 82), none, (.faddr 1 (.t 10))⟩, ⟨none, none, (.store 1 (.t 82) (.t 80))⟩]) (.seq (.reg [⟨(some 84), none, (.bin .eql (.t 47) (.c (.int .i64 4)))⟩, ⟨(some 83), none, (.mv (.t 84))⟩]) (.cond (.t 83) (.reg [⟨(some 85), none, (.faddr 1 (.t 10))⟩, ⟨(some 86), none, (.load none (.t 85))⟩, ⟨(some 87), none, (.idx (.t 86) (.c (.int .i64 1)))⟩, ⟨(some 88), none, (.bin .sub (.t 87) (.c (.int .u8 48)))⟩, ⟨(some 89), none, (.conv .u64 (.t 88))⟩, ⟨(some 90), none, (.faddr 2 (.t 10))⟩, ⟨none, none, (.store 1 (.t 90) (.t 89))⟩]) .skip)))))))) (.seq (.reg [⟨(some 91), none, (.load (some 4) (.t 10))⟩, ⟨(some 92), none, (.mv (.t 8))⟩, ⟨(some 93), none, (.build [(.int .i64 0), (.int .i64 0)] [])⟩, ⟨none, none, (.store 4 (.t 4) (.t 91))⟩, ⟨(some 5), none, (.mv (.t 92))⟩, ⟨none, none, (.store 2 (.t 6) (.t 93))⟩]) .ret)))))))
theorem broadsheetref14_one.code : comp PG [] (Try.f23.body.getD .skip) = broadsheetref14_one.c := by kernel_rfl
theorem broadsheetref14_one.of {args : List AV} {H : AH} {K : AV → AH → Prop} (hl : args.length = 2) (h : wpA PG broadsheetref14_one.c none (endA [(.cell 4 (some 4)), (.t 5), (.cell 6 (some 2))] K) (initFr args) H) : ACalls PG 23 args H K :=
  ACalls.of_code (fl := []) mixed Try.func23 (c := Try.f23.body.getD .skip) (by kernel_rfl) (by kernel_rfl) (by rw [hl]; exact of_decide_eq_true (by kernel_rfl)) (by rw [broadsheetref14_one.code]; kernel_rfl)
    (by rw [broadsheetref14_one.code, show compRes PG Try.f23.results.toList = [(.cell 4 (some 4)), (.t 5), (.cell 6 (some 2))] from by kernel_rfl]; exact h)
def token_kinds.n : Nat := 30
noncomputable def token_kinds.c : C := (.seq (.reg [⟨(some 0), none, (.mv (.c .nilS))⟩]) (.seq (.reg [⟨(some 1), none, (.build [.nilF, .nilF] [(0, (1, (.c (.clo 40 [] [])))), (1, (1, (.c (.clo 42 [] []))))])⟩, ⟨(some 2), none, (.build [.nilF, .nilF] [(0, (1, (.c (.clo 43 [] [])))), (1, (1, (.c (.clo 44 [] []))))])⟩, ⟨(some 3), none, (.build [.nilF, .nilF] [(0, (1, (.c (.clo 45 [] [])))), (1, (1, (.c (.clo 46 [] []))))])⟩, ⟨(some 4), none, (.build [.nilF, .nilF] [(0, (1, (.c (.clo 47 [] [])))), (1, (1, (.c (.clo 48 [] []))))])⟩, ⟨(some 5), none, (.build [.nilF, .nilF] [(0, (1, (.c (.clo 49 [] [])))), (1, (1, (.c (.clo 51 [] []))))])⟩, ⟨(some 6), none, (.bslice 70 2 5 [.nilF, .nilF] [(0, (.t 1)), (1, (.t 2)), (2, (.t 3)), (3, (.t 4)), (4, (.t 5))])⟩, ⟨(some 0), none, (.mv (.t 6))⟩]) .ret))
theorem token_kinds.code : comp PG [] (Try.f30.body.getD .skip) = token_kinds.c := by kernel_rfl
theorem token_kinds.of {args : List AV} {H : AH} {K : AV → AH → Prop} (hl : args.length = 0) (h : wpA PG token_kinds.c none (endA [(.t 0)] K) (initFr args) H) : ACalls PG 30 args H K :=
  ACalls.of_code (fl := []) mixed Try.func30 (c := Try.f30.body.getD .skip) (by kernel_rfl) (by kernel_rfl) (by rw [hl]; exact of_decide_eq_true (by kernel_rfl)) (by rw [token_kinds.code]; kernel_rfl)
    (by rw [token_kinds.code, show compRes PG Try.f30.results.toList = [(.t 0)] from by kernel_rfl]; exact h)
def broadsheetref14_odd.n : Nat := 31
noncomputable def broadsheetref14_odd.c : C := (.seq (.reg [⟨(some 4), none, (.mv (.c (.int .i64 0)))⟩]) (.seq (.reg [⟨(some 10), none, (.mv (.t 0))⟩, ⟨(some 11), none, (.mv (.t 1))⟩, ⟨(some 12), none, (.slice none (.t 10) (some (.t 11)) none)⟩, ⟨(some 13), none, (.call 32 [(.t 12)])⟩, ⟨(some 9), none, (.mv (.t 13))⟩, ⟨(some 14), none, (.extr (.t 9) 0)⟩, ⟨(some 15), none, (.extr (.t 9) 1)⟩, ⟨(some 5), none, (.mv (.t 14))⟩, ⟨(some 6), none, (.mv (.t 15))⟩]) (.seq (.reg [⟨(some 16), none, (.mv (.t 0))⟩, ⟨(some 17), none, (.len true (.t 16))⟩, ⟨(some 7), none, (.mv (.t 17))⟩]) (.seq (.seq (.reg [⟨(some 18), none, (.mv (.t 5))⟩, ⟨(some 19), none, (.bin .gtr (.t 18) (.c (.int .i64 0)))⟩]) (.cond (.t 19) (.reg [⟨(some 20), none, (.mv (.t 1))⟩, ⟨(some 21), none, (.mv (.t 5))⟩, ⟨(some 22), none, (.bin .add (.t 20) (.t 21))⟩, ⟨(some 7), none, (.mv (.t 22))⟩]) .skip)) (.seq (.seq (.reg [⟨(some 23), none, (.mv (.t 1))⟩, ⟨(some 8), none, (.mv (.t 23))⟩]) (.block 0 (.loop (.seq (.seq (.reg [⟨(some 24), none, (.mv (.t 8))⟩, ⟨(some 25), none, (.mv (.t 7))⟩, ⟨(some 26), none, (.bin .lss (.t 24) (.t 25))⟩]) (.cond (.t 26) .skip (.exit 0))) (.seq (.block 1 (.seq (.reg [⟨(some 29), none, (.mv (.t 0))⟩, ⟨(some 30), none, (.mv (.t 8))⟩, ⟨(some 31), none, (.idx (.t 29) (.t 30))⟩, ⟨(some 32), none, (.bin .lss (.t 31) (.c (.int .u8 32)))⟩, ⟨(some 33), none, (.mv (.t 32))⟩, ⟨(some 34), (some (33, false)), (.mv (.t 0))⟩, ⟨(some 35), (some (33, false)), (.mv (.t 8))⟩, ⟨(some 36), (some (33, false)), (.idx (.t 34) (.t 35))⟩, ⟨(some 37), (some (33, false)), (.bin .gtr (.t 36) (.c (.int .u8 126)))⟩, ⟨(some 38), none, (.pick (.t 33) (.c (.bool true)) (.t 37))⟩]) (.cond (.t 38) (.seq (.reg [⟨(some 39), none, (.mv (.t 8))⟩, ⟨(some 4), none, (.mv (.t 39))⟩]) .ret) .skip))) (.reg [⟨(some 27), none, (.mv (.t 8))⟩, ⟨(some 28), none, (.bin .add (.t 27) (.c (.int .i64 1)))⟩, ⟨(some 8), none, (.mv (.t 28))⟩])))))) (.seq (.reg [⟨(some 4), none, (.mv (.c (.int .i64 (-1))))⟩]) .ret))))))
theorem broadsheetref14_odd.code : comp PG [] (Try.f31.body.getD .skip) = broadsheetref14_odd.c := by kernel_rfl
theorem broadsheetref14_odd.of {args : List AV} {H : AH} {K : AV → AH → Prop} (hl : args.length = 2) (h : wpA PG broadsheetref14_odd.c none (endA [(.t 4)] K) (initFr args) H) : ACalls PG 31 args H K :=
  ACalls.of_code (fl := []) mixed Try.func31 (c := Try.f31.body.getD .skip) (by kernel_rfl) (by kernel_rfl) (by rw [hl]; exact of_decide_eq_true (by kernel_rfl)) (by rw [broadsheetref14_odd.code]; kernel_rfl)
    (by rw [broadsheetref14_odd.code, show compRes PG Try.f31.results.toList = [(.t 4)] from by kernel_rfl]; exact h)
def broadsheetref14_longest.n : Nat := 32
noncomputable def broadsheetref14_longest.c : C := (.seq (.reg [⟨(some 2), none, (.mv (.c (.int .i64 0)))⟩, ⟨(some 3), none, (.mv (.c (.int .i64 0)))⟩]) (.seq (.reg [⟨(some 4), none, (.mv (.c (.int .i64 0)))⟩]) (.seq (.reg [⟨(some 5), none, (.mv (.c (.int .i64 0)))⟩]) (.seq (.seq (.reg [⟨(some 6), none, (.mv (.c (.int .i64 1)))⟩]) (.block 0 (.loop (.seq (.seq (.reg [⟨(some 8), none, (.mv (.t 6))⟩, ⟨(some 9), none, (.mv (.t 0))⟩, ⟨(some 10), none, (.len true (.t 9))⟩, ⟨(some 11), none, (.bin .leq (.t 8) (.t 10))⟩]) (.cond (.t 11) .skip (.exit 0))) (.seq (.block 1 (.seq (.reg [⟨(some 14), none, (.mv (.t 0))⟩, ⟨(some 15), none, (.mv (.t 6))⟩, ⟨(some 16), none, (.slice none (.t 14) none (some (.t 15)))⟩, ⟨(some 17), none, (.call 52 [(.t 16)])⟩, ⟨(some 7), none, (.mv (.t 17))⟩]) (.seq (.seq (.reg [⟨(some 18), none, (.mv (.t 7))⟩, ⟨(some 19), none, (.bin .gtr (.t 18) (.c (.int .i64 0)))⟩]) (.cond (.t 19) (.seq (.reg [⟨(some 20), none, (.mv (.t 6))⟩, ⟨(some 4), none, (.mv (.t 20))⟩]) (.reg [⟨(some 21), none, (.mv (.t 7))⟩, ⟨(some 5), none, (.mv (.t 21))⟩])) .skip)) (.seq (.seq (.reg [⟨(some 22), none, (.mv (.t 7))⟩, ⟨(some 23), none, (.bin .eql (.t 22) (.c (.int .i64 3)))⟩, ⟨(some 24), none, (.mv (.t 23))⟩, ⟨(some 25), (some (24, true)), (.mv (.t 6))⟩, ⟨(some 26), (some (24, true)), (.mv (.t 0))⟩, ⟨(some 27), (some (24, true)), (.len true (.t 26))⟩, ⟨(some 28), (some (24, true)), (.bin .eql (.t 25) (.t 27))⟩, ⟨(some 29), (some (24, true)), (.mv (.t 28))⟩, ⟨(some 30), (some (29, false)), (.mv (.t 0))⟩, ⟨(some 31), (some (29, false)), (.mv (.t 6))⟩, ⟨(some 32), (some (29, false)), (.idx (.t 30) (.t 31))⟩, ⟨(some 33), (some (29, false)), (.bin .neq (.t 32) (.c (.int .u8 39)))⟩, ⟨(some 34), (some (24, true)), (.pick (.t 29) (.c (.bool true)) (.t 33))⟩, ⟨(some 35), none, (.pick (.t 24) (.t 34) (.c (.bool false)))⟩]) (.cond (.t 35) (.seq (.reg [⟨(some 36), none, (.mv (.t 4))⟩, ⟨(some 37), none, (.mv (.t 5))⟩, ⟨(some 2), none, (.mv (.t 36))⟩, ⟨(some 3), none, (.mv (.t 37))⟩]) .ret) .skip)) (.seq (.reg [⟨(some 38), none, (.mv (.t 0))⟩, ⟨(some 39), none, (.idx (.t 38) (.c (.int .i64 0)))⟩, ⟨(some 40), none, (.bin .neq (.t 39) (.c (.int .u8 39)))⟩, ⟨(some 41), none, (.mv (.t 40))⟩, ⟨(some 42), (some (41, true)), (.mv (.t 7))⟩, ⟨(some 43), (some (41, true)), (.bin .eql (.t 42) (.c (.int .i64 0)))⟩, ⟨(some 44), none, (.pick (.t 41) (.t 43) (.c (.bool false)))⟩, ⟨(some 45), none, (.mv (.t 44))⟩, ⟨(some 46), (some (45, true)), (.mv (.t 6))⟩, ⟨(some 47), (some (45, true)), (.bin .gtr (.t 46) (.c (.int .i64 1)))⟩, ⟨(some 48), none, (.pick (.t 45) (.t 47) (.c (.bool false)))⟩]) (.cond (.t 48) (.seq (.reg [⟨(some 49), none, (.mv (.t 4))⟩, ⟨(some 50), none, (.mv (.t 5))⟩, ⟨(some 2), none, (.mv (.t 49))⟩, ⟨(some 3), none, (.mv (.t 50))⟩]) .ret) .skip)))))) (.reg [⟨(some 12), none, (.mv (.t 6))⟩, ⟨(some 13), none, (.bin .add (.t 12) (.c (.int .i64 1)))⟩, ⟨(some 6), none, (.mv (.t 13))⟩])))))) (.seq (.seq (.reg [⟨(some 51), none, (.mv (.t 5))⟩, ⟨(some 52), none, (.bin .eql (.t 51) (.c (.int .i64 3)))⟩]) (.cond (.t 52) (.seq (.reg [⟨(some 2), none, (.mv (.c (.int .i64 0)))⟩, ⟨(some 3), none, (.mv (.c (.int .i64 0)))⟩]) .ret) .skip)) (.seq (.reg [⟨(some 53), none, (.mv (.t 4))⟩, ⟨(some 54), none, (.mv (.t 5))⟩, ⟨(some 2), none, (.mv (.t 53))⟩, ⟨(some 3), none, (.mv (.t 54))⟩]) .ret))))))
theorem broadsheetref14_longest.code : comp PG [] (Try.f32.body.getD .skip) = broadsheetref14_longest.c := by kernel_rfl
theorem broadsheetref14_longest.of {args : List AV} {H : AH} {K : AV → AH → Prop} (hl : args.length = 1) (h : wpA PG broadsheetref14_longest.c none (endA [(.t 2), (.t 3)] K) (initFr args) H) : ACalls PG 32 args H K :=
  ACalls.of_code (fl := []) mixed Try.func32 (c := Try.f32.body.getD .skip) (by kernel_rfl) (by kernel_rfl) (by rw [hl]; exact of_decide_eq_true (by kernel_rfl)) (by rw [broadsheetref14_longest.code]; kernel_rfl)
    (by rw [broadsheetref14_longest.code, show compRes PG Try.f32.results.toList = [(.t 2), (.t 3)] from by kernel_rfl]; exact h)
def broadsheetref14_bad.n : Nat := 33
noncomputable def broadsheetref14_bad.c : C := (.seq (.reg [⟨(some 4), none, (.allc 25 [(.int .i64 0), (.int .i64 0)])⟩]) (.seq (.seq (.reg [⟨(some 5), none, (.mv (.t 0))⟩, ⟨(some 6), none, (.mv (.t 1))⟩, ⟨(some 7), none, (.idx (.t 5) (.t 6))⟩, ⟨(some 8), none, (.bin .neq (.t 7) (.c (.int .u8 39)))⟩]) (.cond (.t 8) (.seq (.reg [⟨(some 9), none, (.mv (.t 1))⟩, ⟨(some 10), none, (.build [(.int .i64 0), (.int .i64 0)] [(0, (1, (.c (.int .i64 11)))), (1, (1, (.t 9)))])⟩, ⟨none, none, (.store 2 (.t 4) (.t 10))⟩]) .ret) .skip)) (.seq (.reg [⟨(some 11), none, (.mv (.t 1))⟩, ⟨(some 12), none, (.build [(.int .i64 0), (.int .i64 0)] [(0, (1, (.c (.int .i64 2)))), (1, (1, (.t 11)))])⟩, ⟨none, none, (.store 2 (.t 4) (.t 12))⟩]) .ret)))
theorem broadsheetref14_bad.code : comp PG [] (Try.f33.body.getD .skip) = broadsheetref14_bad.c := by kernel_rfl
theorem broadsheetref14_bad.of {args : List AV} {H : AH} {K : AV → AH → Prop} (hl : args.length = 2) (h : wpA PG broadsheetref14_bad.c none (endA [(.cell 4 (some 2))] K) (initFr args) H) : ACalls PG 33 args H K :=
  ACalls.of_code (fl := []) mixed Try.func33 (c := Try.f33.body.getD .skip) (by kernel_rfl) (by kernel_rfl) (by rw [hl]; exact of_decide_eq_true (by kernel_rfl)) (by rw [broadsheetref14_bad.code]; kernel_rfl)
    (by rw [broadsheetref14_bad.code, show compRes PG Try.f33.results.toList = [(.cell 4 (some 2))] from by kernel_rfl]; exact h)
def broadsheetref14_num.n : Nat := 34
noncomputable def broadsheetref14_num.c : C := (.seq (.reg [⟨(some 2), none, (.mv (.c (.int .u64 0)))⟩, ⟨(some 3), none, (.mv (.c (.bool false)))⟩]) (.seq (.seq (.reg [⟨(some 6), none, (.mv (.t 0))⟩, ⟨(some 7), none, (.len true (.t 6))⟩, ⟨(some 8), none, (.bin .gtr (.t 7) (.c (.int .i64 20)))⟩, ⟨(some 9), none, (.mv (.t 8))⟩, ⟨(some 10), (some (9, false)), (.mv (.t 0))⟩, ⟨(some 11), (some (9, false)), (.len true (.t 10))⟩, ⟨(some 12), (some (9, false)), (.bin .eql (.t 11) (.c (.int .i64 20)))⟩, ⟨(some 13), (some (9, false)), (.mv (.t 12))⟩, ⟨(some 14), (some (13, true)), (.mv (.t 0))⟩, ⟨(some 15), (some (13, true)), (.bin .gtr (.t 14) (.c (.str [49, 56, 52, 52, 54, 55, 52, 52, 48, 55, 51, 55, 48, 57, 53, 53, 49, 54, 49, 53])))⟩, ⟨(some 16), (some (9, false)), (.pick (.t 13) (.t 15) (.c (.bool false)))⟩, ⟨(some 17), none, (.pick (.t 9) (.c (.bool true)) (.t 16))⟩]) (.cond (.t 17) (.seq (.reg [⟨(some 2), none, (.mv (.c (.int .u64 0)))⟩, ⟨(some 3), none, (.mv (.c (.bool false)))⟩]) .ret) .skip)) (.seq (.reg [⟨(some 4), none, (.mv (.c (.int .u64 0)))⟩]) (.seq (.seq (.reg [⟨(some 5), none, (.mv (.c (.int .i64 0)))⟩]) (.block 0 (.loop (.seq (.seq (.reg [⟨(some 18), none, (.mv (.t 5))⟩, ⟨(some 19), none, (.mv (.t 0))⟩, ⟨(some 20), none, (.len true (.t 19))⟩, ⟨(some 21), none, (.bin .lss (.t 18) (.t 20))⟩]) (.cond (.t 21) .skip (.exit 0))) (.seq (.block 1 (.reg [⟨(some 24), none, (.mv (.t 4))⟩, ⟨(some 25), none, (.bin .mul (.t 24) (.c (.int .u64 10)))⟩, ⟨(some 26), none, (.mv (.t 0))⟩, ⟨(some 27), none, (.mv (.t 5))⟩, ⟨(some 28), none, (.idx (.t 26) (.t 27))⟩, ⟨(some 29), none, (.bin .sub (.t 28) (.c (.int .u8 48)))⟩, ⟨(some 30), none, (.conv .u64 (.t 29))⟩, ⟨(some 31), none, (.bin .add (.t 25) (.t 30))⟩, ⟨(some 4), none, (.mv (.t 31))⟩])) (.reg [⟨(some 22), none, (.mv (.t 5))⟩, ⟨(some 23), none, (.bin .add (.t 22) (.c (.int .i64 1)))⟩, ⟨(some 5), none, (.mv (.t 23))⟩])))))) (.seq (.reg [⟨(some 32), none, (.mv (.t 4))⟩, ⟨(some 2), none, (.mv (.t 32))⟩, ⟨(some 3), none, (.mv (.c (.bool true)))⟩]) .ret)))))
theorem broadsheetref14_num.code : comp PG [] (Try.f34.body.getD .skip) = broadsheetref14_num.c := by kernel_rfl
theorem broadsheetref14_num.of {args : List AV} {H : AH} {K : AV → AH → Prop} (hl : args.length = 1) (h : wpA PG broadsheetref14_num.c none (endA [(.t 2), (.t 3)] K) (initFr args) H) : ACalls PG 34 args H K :=
  ACalls.of_code (fl := []) mixed Try.func34 (c := Try.f34.body.getD .skip) (by kernel_rfl) (by kernel_rfl) (by rw [hl]; exact of_decide_eq_true (by kernel_rfl)) (by rw [broadsheetref14_num.code]; kernel_rfl)
    (by rw [broadsheetref14_num.code, show compRes PG Try.f34.results.toList = [(.t 2), (.t 3)] from by kernel_rfl]; exact h)
def broadsheetref14_Quoted.n : Nat := 35
noncomputable def broadsheetref14_Quoted.c : C := (.seq (.reg [⟨(some 2), none, (.mv (.c (.str [])))⟩, ⟨(some 3), none, (.mv (.c (.bool false)))⟩]) (.seq (.seq (.reg [⟨(some 6), none, (.mv (.t 0))⟩, ⟨(some 7), none, (.len true (.t 6))⟩, ⟨(some 8), none, (.bin .lss (.t 7) (.c (.int .i64 2)))⟩, ⟨(some 9), none, (.mv (.t 8))⟩, ⟨(some 10), (some (9, false)), (.mv (.t 0))⟩, ⟨(some 11), (some (9, false)), (.idx (.t 10) (.c (.int .i64 0)))⟩, ⟨(some 12), (some (9, false)), (.bin .neq (.t 11) (.c (.int .u8 39)))⟩, ⟨(some 13), none, (.pick (.t 9) (.c (.bool true)) (.t 12))⟩]) (.cond (.t 13) (.seq (.reg [⟨(some 2), none, (.mv (.c (.str [])))⟩, ⟨(some 3), none, (.mv (.c (.bool false)))⟩]) .ret) .skip)) (.seq (.reg [⟨(some 4), none, (.mv (.c (.str [])))⟩]) (.seq (.reg [⟨(some 5), none, (.mv (.c (.int .i64 1)))⟩]) (.seq (.block 0 (.loop (.seq (.seq (.reg [⟨(some 14), none, (.mv (.t 5))⟩, ⟨(some 15), none, (.mv (.t 0))⟩, ⟨(some 16), none, (.len true (.t 15))⟩, ⟨(some 17), none, (.bin .lss (.t 14) (.t 16))⟩]) (.cond (.t 17) .skip (.exit 0))) (.block 1 (.seq (.seq (.reg [⟨(some 18), none, (.mv (.t 0))⟩, ⟨(some 19), none, (.mv (.t 5))⟩, ⟨(some 20), none, (.idx (.t 18) (.t 19))⟩, ⟨(some 21), none, (.bin .eql (.t 20) (.c (.int .u8 39)))⟩]) (.cond (.t 21) (.seq (.seq (.reg [⟨(some 22), none, (.mv (.t 5))⟩, ⟨(some 23), none, (.mv (.t 0))⟩, ⟨(some 24), none, (.len true (.t 23))⟩, ⟨(some 25), none, (.bin .sub (.t 24) (.c (.int .i64 1)))⟩, ⟨(some 26), none, (.bin .eql (.t 22) (.t 25))⟩]) (.cond (.t 26) (.seq (.reg [⟨(some 27), none, (.mv (.t 4))⟩, ⟨(some 2), none, (.mv (.t 27))⟩, ⟨(some 3), none, (.mv (.c (.bool true)))⟩]) .ret) .skip)) (.seq (.seq (.reg [⟨(some 28), none, (.mv (.t 0))⟩, ⟨(some 29), none, (.mv (.t 5))⟩, ⟨(some 30), none, (.bin .add (.t 29) (.c (.int .i64 1)))⟩, ⟨(some 31), none, (.idx (.t 28) (.t 30))⟩, ⟨(some 32), none, (.bin .neq (.t 31) (.c (.int .u8 39)))⟩]) (.cond (.t 32) (.seq (.reg [⟨(some 2), none, (.mv (.c (.str [])))⟩, ⟨(some 3), none, (.mv (.c (.bool false)))⟩]) .ret) .skip)) (.reg [⟨(some 33), none, (.mv (.t 5))⟩, ⟨(some 34), none, (.bin .add (.t 33) (.c (.int .i64 1)))⟩, ⟨(some 5), none, (.mv (.t 34))⟩]))) .skip)) (.seq (.reg [⟨(some 35), none, (.mv (.t 4))⟩, ⟨(some 36), none, (.mv (.t 0))⟩, ⟨(some 37), none, (.mv (.t 5))⟩, ⟨(some 38), none, (.mv (.t 5))⟩, ⟨(some 39), none, (.bin .add (.t 38) (.c (.int .i64 1)))⟩, ⟨(some 40), none, (.slice none (.t 36) (some (.t 37)) (some (.t 39)))⟩, ⟨(some 41), none, (.bin .add (.t 35) (.t 40))⟩, ⟨(some 4), none, (.mv (.t 41))⟩]) (.reg [⟨(some 42), none, (.mv (.t 5))⟩, ⟨(some 43), none, (.bin .add (.t 42) (.c (.int .i64 1)))⟩, ⟨(some 5), none, (.mv (.t 43))⟩]))))))) (.seq (.reg [⟨(some 2), none, (.mv (.c (.str [])))⟩, ⟨(some 3), none, (.mv (.c (.bool false)))⟩]) .ret))))))
theorem broadsheetref14_Quoted.code : comp PG [] (Try.f35.body.getD .skip) = broadsheetref14_Quoted.c := by kernel_rfl
theorem broadsheetref14_Quoted.of {args : List AV} {H : AH} {K : AV → AH → Prop} (hl : args.length = 1) (h : wpA PG broadsheetref14_Quoted.c none (endA [(.t 2), (.t 3)] K) (initFr args) H) : ACalls PG 35 args H K :=
  ACalls.of_code (fl := []) mixed Try.func35 (c := Try.f35.body.getD .skip) (by kernel_rfl) (by kernel_rfl) (by rw [hl]; exact of_decide_eq_true (by kernel_rfl)) (by rw [broadsheetref14_Quoted.code]; kernel_rfl)
    (by rw [broadsheetref14_Quoted.code, show compRes PG Try.f35.results.toList = [(.t 2), (.t 3)] from by kernel_rfl]; exact h)
def token_kinds_1.n : Nat := 40
noncomputable def token_kinds_1.c : C := (.seq (.reg [⟨(some 2), none, (.mv (.c (.bool false)))⟩]) (.seq (.reg [⟨(some 3), none, (.mv (.t 0))⟩, ⟨(some 4), none, (.bslice 5 1 1 [(.int .u8 0)] [(0, (.t 3))])⟩, ⟨(some 5), none, (.bytesS (.t 4))⟩, ⟨(some 6), none, (.call 41 [(.t 5)])⟩, ⟨(some 7), none, (.bin .eql (.t 6) (.c (.int .i64 1)))⟩, ⟨(some 2), none, (.mv (.t 7))⟩]) .ret))
theorem token_kinds_1.code : comp PG [] (Try.f40.body.getD .skip) = token_kinds_1.c := by kernel_rfl
theorem token_kinds_1.of {args : List AV} {H : AH} {K : AV → AH → Prop} (hl : args.length = 1) (h : wpA PG token_kinds_1.c none (endA [(.t 2)] K) (initFr args) H) : ACalls PG 40 args H K :=
  ACalls.of_code (fl := []) mixed Try.func40 (c := Try.f40.body.getD .skip) (by kernel_rfl) (by kernel_rfl) (by rw [hl]; exact of_decide_eq_true (by kernel_rfl)) (by rw [token_kinds_1.code]; kernel_rfl)
    (by rw [token_kinds_1.code, show compRes PG Try.f40.results.toList = [(.t 2)] from by kernel_rfl]; exact h)
theorem token_kinds_1.of' {args : List AV} {H : AH} {K : AV → AH → Prop} (hl : args.length ≤ 8) (h : wpA PG token_kinds_1.c none (endA [(.t 2)] K) (initFr args) H) : ACalls PG 40 args H K :=
  ACalls.of_code (fl := []) mixed Try.func40 (c := Try.f40.body.getD .skip) (by kernel_rfl) (by kernel_rfl) hl (by rw [token_kinds_1.code]; kernel_rfl) (by rw [token_kinds_1.code, show compRes PG Try.f40.results.toList = [(.t 2)] from by kernel_rfl]; exact h)
def name_Lead.n : Nat := 41
noncomputable def name_Lead.c : C := (.seq (.reg [⟨(some 2), none, (.mv (.c (.int .i64 0)))⟩]) (.seq (.reg [⟨(some 3), none, (.mv (.c (.int .i64 0)))⟩]) (.seq (.block 0 (.loop (.seq (.seq (.reg [⟨(some 4), none, (.mv (.t 3))⟩, ⟨(some 5), none, (.mv (.t 0))⟩, ⟨(some 6), none, (.len true (.t 5))⟩, ⟨(some 7), none, (.bin .lss (.t 4) (.t 6))⟩, ⟨(some 8), none, (.mv (.t 7))⟩, ⟨(some 9), (some (8, true)), (.mv (.t 0))⟩, ⟨(some 10), (some (8, true)), (.mv (.t 3))⟩, ⟨(some 11), (some (8, true)), (.idx (.t 9) (.t 10))⟩, ⟨(some 12), (some (8, true)), (.mv (.t 3))⟩, ⟨(some 13), (some (8, true)), (.bin .eql (.t 12) (.c (.int .i64 0)))⟩, ⟨(some 14), (some (8, true)), (.call 57 [(.t 11), (.t 13)])⟩, ⟨(some 15), none, (.pick (.t 8) (.t 14) (.c (.bool false)))⟩]) (.cond (.t 15) .skip (.exit 0))) (.block 1 (.reg [⟨(some 16), none, (.mv (.t 3))⟩, ⟨(some 17), none, (.bin .add (.t 16) (.c (.int .i64 1)))⟩, ⟨(some 3), none, (.mv (.t 17))⟩]))))) (.seq (.reg [⟨(some 18), none, (.mv (.t 3))⟩, ⟨(some 2), none, (.mv (.t 18))⟩]) .ret))))
theorem name_Lead.code : comp PG [] (Try.f41.body.getD .skip) = name_Lead.c := by kernel_rfl
theorem name_Lead.of {args : List AV} {H : AH} {K : AV → AH → Prop} (hl : args.length = 1) (h : wpA PG name_Lead.c none (endA [(.t 2)] K) (initFr args) H) : ACalls PG 41 args H K :=
  ACalls.of_code (fl := []) mixed Try.func41 (c := Try.f41.body.getD .skip) (by kernel_rfl) (by kernel_rfl) (by rw [hl]; exact of_decide_eq_true (by kernel_rfl)) (by rw [name_Lead.code]; kernel_rfl)
    (by rw [name_Lead.code, show compRes PG Try.f41.results.toList = [(.t 2)] from by kernel_rfl]; exact h)
def token_word.n : Nat := 42
noncomputable def token_word.c : C := (.seq (.reg [⟨(some 2), none, (.allc 48 [(.int .i64 0), (.str []), (.int .u64 0), (.int .i64 0)])⟩, ⟨(some 3), none, (.allc 25 [(.int .i64 0), (.int .i64 0)])⟩]) (.seq (.reg [⟨(some 4), none, (.mv (.t 0))⟩, ⟨(some 5), none, (.mv (.t 0))⟩, ⟨(some 6), none, (.call 59 [(.t 5)])⟩, ⟨(some 7), none, (.call 41 [(.t 6)])⟩, ⟨(some 8), none, (.call 58 [(.t 4), (.c (.int .i64 1)), (.t 7)])⟩, ⟨(some 9), none, (.build [(.int .i64 0), (.int .i64 0)] [])⟩, ⟨none, none, (.store 4 (.t 2) (.t 8))⟩, ⟨none, none, (.store 2 (.t 3) (.t 9))⟩]) .ret))
theorem token_word.code : comp PG [] (Try.f42.body.getD .skip) = token_word.c := by kernel_rfl
theorem token_word.of {args : List AV} {H : AH} {K : AV → AH → Prop} (hl : args.length = 1) (h : wpA PG token_word.c none (endA [(.cell 2 (some 4)), (.cell 3 (some 2))] K) (initFr args) H) : ACalls PG 42 args H K :=
  ACalls.of_code (fl := []) mixed Try.func42 (c := Try.f42.body.getD .skip) (by kernel_rfl) (by kernel_rfl) (by rw [hl]; exact of_decide_eq_true (by kernel_rfl)) (by rw [token_word.code]; kernel_rfl)
    (by rw [token_word.code, show compRes PG Try.f42.results.toList = [(.cell 2 (some 4)), (.cell 3 (some 2))] from by kernel_rfl]; exact h)
def token_digit.n : Nat := 43
noncomputable def token_digit.c : C := (.seq (.reg [⟨(some 2), none, (.mv (.c (.bool false)))⟩]) (.seq (.reg [⟨(some 3), none, (.mv (.t 0))⟩, ⟨(some 4), none, (.bin .geq (.t 3) (.c (.int .u8 48)))⟩, ⟨(some 5), none, (.mv (.t 4))⟩, ⟨(some 6), (some (5, true)), (.mv (.t 0))⟩, ⟨(some 7), (some (5, true)), (.bin .leq (.t 6) (.c (.int .u8 57)))⟩, ⟨(some 8), none, (.pick (.t 5) (.t 7) (.c (.bool false)))⟩, ⟨(some 2), none, (.mv (.t 8))⟩]) .ret))
theorem token_digit.code : comp PG [] (Try.f43.body.getD .skip) = token_digit.c := by kernel_rfl
theorem token_digit.of {args : List AV} {H : AH} {K : AV → AH → Prop} (hl : args.length = 1) (h : wpA PG token_digit.c none (endA [(.t 2)] K) (initFr args) H) : ACalls PG 43 args H K :=
  ACalls.of_code (fl := []) mixed Try.func43 (c := Try.f43.body.getD .skip) (by kernel_rfl) (by kernel_rfl) (by rw [hl]; exact of_decide_eq_true (by kernel_rfl)) (by rw [token_digit.code]; kernel_rfl)
    (by rw [token_digit.code, show compRes PG Try.f43.results.toList = [(.t 2)] from by kernel_rfl]; exact h)
def token_number.n : Nat := 44
noncomputable def token_number.c : C := (.seq (.reg [⟨(some 2), none, (.allc 48 [(.int .i64 0), (.str []), (.int .u64 0), (.int .i64 0)])⟩, ⟨(some 3), none, (.allc 25 [(.int .i64 0), (.int .i64 0)])⟩]) (.seq (.reg [⟨(some 4), none, (.mv (.c (.int .i64 0)))⟩]) (.seq (.block 0 (.loop (.seq (.seq (.reg [⟨(some 8), none, (.mv (.t 4))⟩, ⟨(some 9), none, (.mv (.t 0))⟩, ⟨(some 10), none, (.call 59 [(.t 9)])⟩, ⟨(some 11), none, (.len true (.t 10))⟩, ⟨(some 12), none, (.bin .lss (.t 8) (.t 11))⟩, ⟨(some 13), none, (.mv (.t 12))⟩, ⟨(some 14), (some (13, true)), (.mv (.t 0))⟩, ⟨(some 15), (some (13, true)), (.call 59 [(.t 14)])⟩, ⟨(some 16), (some (13, true)), (.mv (.t 4))⟩, ⟨(some 17), (some (13, true)), (.idx (.t 15) (.t 16))⟩, ⟨(some 18), (some (13, true)), (.call 43 [(.t 17)])⟩, ⟨(some 19), none, (.pick (.t 13) (.t 18) (.c (.bool false)))⟩]) (.cond (.t 19) .skip (.exit 0))) (.block 1 (.reg [⟨(some 20), none, (.mv (.t 4))⟩, ⟨(some 21), none, (.bin .add (.t 20) (.c (.int .i64 1)))⟩, ⟨(some 4), none, (.mv (.t 21))⟩]))))) (.seq (.reg [⟨(some 22), none, (.mv (.t 0))⟩, ⟨(some 23), none, (.mv (.t 4))⟩, ⟨(some 24), none, (.call 58 [(.t 22), (.c (.int .i64 2)), (.t 23)])⟩, ⟨(some 5), none, (.allc 48 [(.int .i64 0), (.str []), (.int .u64 0), (.int .i64 0)])⟩, ⟨none, none, (.store 4 (.t 5) (.t 24))⟩]) (.seq (.seq (.reg [⟨(some 25), none, (.mv (.t 4))⟩, ⟨(some 26), none, (.bin .gtr (.t 25) (.c (.int .i64 1)))⟩, ⟨(some 27), none, (.mv (.t 26))⟩, ⟨(some 28), (some (27, true)), (.faddr 1 (.t 5))⟩, ⟨(some 29), (some (27, true)), (.load none (.t 28))⟩, ⟨(some 30), (some (27, true)), (.idx (.t 29) (.c (.int .i64 0)))⟩, ⟨(some 31), (some (27, true)), (.bin .eql (.t 30) (.c (.int .u8 48)))⟩, ⟨(some 32), none, (.pick (.t 27) (.t 31) (.c (.bool false)))⟩]) (.cond (.t 32) (.seq (.dreg [⟨(some 33), none, (.load (some 4) (.t 5))⟩, ⟨(some 34), none, (.faddr 3 (.t 5))⟩, ⟨(some 35), none, (.load none (.t 34))⟩, ⟨(some 36), none, (.build [(.int .i64 0), (.int .i64 0)] [(0, (1, (.c (.int .i64 1)))), (1, (1, (.t 35)))])⟩, ⟨none, none, (.store 4 (.t 2) (.t 33))⟩] [⟨none, none, (.store 2 (.t 3) (.t 36))⟩]) .ret) .skip)) (.seq (.seq (.reg [⟨(some 37), none, (.mv (.t 4))⟩, ⟨(some 38), none, (.mv (.c (.int .i64 0)))⟩]) (.block 2 (.loop (.seq (.reg [⟨(some 39), none, (.bin .lss (.t 38) (.t 37))⟩]) (.seq (.cond (.t 39) .skip (.exit 2)) (.seq (.block 3 (.seq (.reg [⟨(some 40), none, (.mv (.t 38))⟩, ⟨(some 6), none, (.mv (.t 40))⟩]) (.seq (.reg [⟨(some 41), none, (.faddr 1 (.t 5))⟩, ⟨(some 42), none, (.load none (.t 41))⟩, ⟨(some 43), none, (.mv (.t 6))⟩, ⟨(some 44), none, (.idx (.t 42) (.t 43))⟩, ⟨(some 45), none, (.bin .sub (.t 44) (.c (.int .u8 48)))⟩, ⟨(some 46), none, (.conv .u64 (.t 45))⟩, ⟨(some 7), none, (.mv (.t 46))⟩]) (.seq (.seq (.reg [⟨(some 47), none, (.faddr 2 (.t 5))⟩, ⟨(some 48), none, (.load none (.t 47))⟩, ⟨(some 49), none, (.mv (.t 7))⟩, ⟨(some 50), none, (.bin .sub (.c (.int .u64 18446744073709551615)) (.t 49))⟩, ⟨(some 51), none, (.bin .quo (.t 50) (.c (.int .u64 10)))⟩, ⟨(some 52), none, (.bin .gtr (.t 48) (.t 51))⟩]) (.cond (.t 52) (.seq (.dreg [⟨(some 53), none, (.load (some 4) (.t 5))⟩, ⟨(some 54), none, (.faddr 3 (.t 5))⟩, ⟨(some 55), none, (.load none (.t 54))⟩, ⟨(some 56), none, (.build [(.int .i64 0), (.int .i64 0)] [(0, (1, (.c (.int .i64 7)))), (1, (1, (.t 55)))])⟩, ⟨none, none, (.store 4 (.t 2) (.t 53))⟩] [⟨none, none, (.store 2 (.t 3) (.t 56))⟩]) .ret) .skip)) (.reg [⟨(some 57), none, (.faddr 2 (.t 5))⟩, ⟨(some 58), none, (.load none (.t 57))⟩, ⟨(some 59), none, (.bin .mul (.c (.int .u64 10)) (.t 58))⟩, ⟨(some 60), none, (.mv (.t 7))⟩, ⟨(some 61), none, (.bin .add (.t 59) (.t 60))⟩, ⟨(some 62), none, (.faddr 2 (.t 5))⟩, ⟨none, none, (.store 1 (.t 62) (.t 61))⟩]))))) (.reg [⟨(some 63), none, (.bin .add (.t 38) (.c (.int .i64 1)))⟩, ⟨(some 38), none, (.mv (.t 63))⟩]))))))) (.seq (.reg [⟨(some 64), none, (.load (some 4) (.t 5))⟩, ⟨(some 65), none, (.build [(.int .i64 0), (.int .i64 0)] [])⟩, ⟨none, none, (.store 4 (.t 2) (.t 64))⟩, ⟨none, none, (.store 2 (.t 3) (.t 65))⟩]) .ret)))))))
theorem token_number.code : comp PG [] (Try.f44.body.getD .skip) = token_number.c := by kernel_rfl
theorem token_number.of {args : List AV} {H : AH} {K : AV → AH → Prop} (hl : args.length = 1) (h : wpA PG token_number.c none (endA [(.cell 2 (some 4)), (.cell 3 (some 2))] K) (initFr args) H) : ACalls PG 44 args H K :=
  ACalls.of_code (fl := []) mixed Try.func44 (c := Try.f44.body.getD .skip) (by kernel_rfl) (by kernel_rfl) (by rw [hl]; exact of_decide_eq_true (by kernel_rfl)) (by rw [token_number.code]; kernel_rfl)
    (by rw [token_number.code, show compRes PG Try.f44.results.toList = [(.cell 2 (some 4)), (.cell 3 (some 2))] from by kernel_rfl]; exact h)
def token_kinds_2.n : Nat := 45
noncomputable def token_kinds_2.c : C := (.seq (.reg [⟨(some 2), none, (.mv (.c (.bool false)))⟩]) (.seq (.reg [⟨(some 3), none, (.mv (.t 0))⟩, ⟨(some 4), none, (.bin .eql (.t 3) (.c (.int .u8 39)))⟩, ⟨(some 2), none, (.mv (.t 4))⟩]) .ret))
theorem token_kinds_2.code : comp PG [] (Try.f45.body.getD .skip) = token_kinds_2.c := by kernel_rfl
theorem token_kinds_2.of {args : List AV} {H : AH} {K : AV → AH → Prop} (hl : args.length = 1) (h : wpA PG token_kinds_2.c none (endA [(.t 2)] K) (initFr args) H) : ACalls PG 45 args H K :=
  ACalls.of_code (fl := []) mixed Try.func45 (c := Try.f45.body.getD .skip) (by kernel_rfl) (by kernel_rfl) (by rw [hl]; exact of_decide_eq_true (by kernel_rfl)) (by rw [token_kinds_2.code]; kernel_rfl)
    (by rw [token_kinds_2.code, show compRes PG Try.f45.results.toList = [(.t 2)] from by kernel_rfl]; exact h)
theorem token_kinds_2.of' {args : List AV} {H : AH} {K : AV → AH → Prop} (hl : args.length ≤ 5) (h : wpA PG token_kinds_2.c none (endA [(.t 2)] K) (initFr args) H) : ACalls PG 45 args H K :=
  ACalls.of_code (fl := []) mixed Try.func45 (c := Try.f45.body.getD .skip) (by kernel_rfl) (by kernel_rfl) hl (by rw [token_kinds_2.code]; kernel_rfl) (by rw [token_kinds_2.code, show compRes PG Try.f45.results.toList = [(.t 2)] from by kernel_rfl]; exact h)
def token_text.n : Nat := 46
noncomputable def token_text.c : C := (.seq (.reg [⟨(some 2), none, (.allc 48 [(.int .i64 0), (.str []), (.int .u64 0), (.int .i64 0)])⟩, ⟨(some 3), none, (.allc 25 [(.int .i64 0), (.int .i64 0)])⟩]) (.seq (.reg [⟨(some 7), none, (.mv (.t 0))⟩, ⟨(some 8), none, (.nilck (.t 7))⟩, ⟨(some 9), none, (.faddr 1 (.t 8))⟩, ⟨(some 10), none, (.load none (.t 9))⟩, ⟨(some 11), none, (.build [(.int .i64 0), (.str []), (.int .u64 0), (.int .i64 0)] [(0, (1, (.c (.int .i64 3)))), (3, (1, (.t 10)))])⟩, ⟨(some 4), none, (.allc 48 [(.int .i64 0), (.str []), (.int .u64 0), (.int .i64 0)])⟩, ⟨none, none, (.store 4 (.t 4) (.t 11))⟩]) (.seq (.reg [⟨(some 5), none, (.allc 92 [.nilP, .nilS])⟩]) (.seq (.seq (.reg [⟨(some 12), none, (.mv (.t 0))⟩, ⟨(some 13), none, (.nilck (.t 12))⟩, ⟨(some 14), none, (.faddr 1 (.t 13))⟩, ⟨(some 15), none, (.load none (.t 14))⟩, ⟨(some 16), none, (.bin .add (.t 15) (.c (.int .i64 1)))⟩, ⟨(some 17), none, (.nilck (.t 12))⟩, ⟨(some 18), none, (.faddr 1 (.t 17))⟩, ⟨none, none, (.store 1 (.t 18) (.t 16))⟩]) (.block 0 (.loop (.seq (.seq (.dreg [⟨(some 19), none, (.mv (.t 0))⟩, ⟨(some 20), none, (.nilck (.t 19))⟩, ⟨(some 21), none, (.faddr 1 (.t 20))⟩, ⟨(some 22), none, (.load none (.t 21))⟩, ⟨(some 23), none, (.mv (.t 0))⟩, ⟨(some 24), none, (.nilck (.t 23))⟩, ⟨(some 25), none, (.faddr 0 (.t 24))⟩, ⟨(some 26), none, (.load none (.t 25))⟩, ⟨(some 27), none, (.len true (.t 26))⟩] [⟨(some 28), none, (.bin .lss (.t 22) (.t 27))⟩]) (.cond (.t 28) .skip (.exit 0))) (.seq (.block 1 (.seq (.dreg [⟨(some 36), none, (.mv (.t 0))⟩, ⟨(some 37), none, (.nilck (.t 36))⟩, ⟨(some 38), none, (.faddr 0 (.t 37))⟩, ⟨(some 39), none, (.load none (.t 38))⟩, ⟨(some 40), none, (.mv (.t 0))⟩, ⟨(some 41), none, (.nilck (.t 40))⟩, ⟨(some 42), none, (.faddr 1 (.t 41))⟩, ⟨(some 43), none, (.load none (.t 42))⟩] [⟨(some 44), none, (.idx (.t 39) (.t 43))⟩, ⟨(some 6), none, (.mv (.t 44))⟩]) (.block 2 (.seq (.reg [⟨(some 57), none, (.mv (.t 6))⟩, ⟨(some 58), none, (.bin .lss (.t 57) (.c (.int .u8 32)))⟩, ⟨(some 59), none, (.mv (.t 58))⟩, ⟨(some 60), (some (59, false)), (.mv (.t 6))⟩, ⟨(some 61), (some (59, false)), (.bin .gtr (.t 60) (.c (.int .u8 126)))⟩, ⟨(some 62), none, (.pick (.t 59) (.c (.bool true)) (.t 61))⟩, ⟨(some 56), none, (.mv (.t 62))⟩]) (.cond (.t 56) (.seq (.dreg [⟨(some 63), none, (.load (some 4) (.t 4))⟩, ⟨(some 64), none, (.mv (.t 0))⟩, ⟨(some 65), none, (.nilck (.t 64))⟩, ⟨(some 66), none, (.faddr 1 (.t 65))⟩, ⟨(some 67), none, (.load none (.t 66))⟩, ⟨(some 68), none, (.build [(.int .i64 0), (.int .i64 0)] [(0, (1, (.c (.int .i64 10)))), (1, (1, (.t 67)))])⟩, ⟨none, none, (.store 4 (.t 2) (.t 63))⟩] [⟨none, none, (.store 2 (.t 3) (.t 68))⟩]) .ret) (.seq (.reg [⟨(some 70), none, (.mv (.t 6))⟩, ⟨(some 71), none, (.bin .neq (.t 70) (.c (.int .u8 39)))⟩, ⟨(some 69), none, (.mv (.t 71))⟩]) (.cond (.t 69) (.reg [⟨(some 72), none, (.mv (.t 6))⟩, ⟨(some 73), none, (.call 60 [(.t 5), (.t 72)])⟩]) (.seq (.reg [⟨(some 75), none, (.mv (.t 0))⟩, ⟨(some 76), none, (.call 59 [(.t 75)])⟩, ⟨(some 77), none, (.call 61 [(.t 76), (.c (.str [39, 39]))])⟩, ⟨(some 74), none, (.mv (.t 77))⟩]) (.cond (.t 74) (.seq (.reg [⟨(some 78), none, (.mv (.t 6))⟩, ⟨(some 79), none, (.call 60 [(.t 5), (.t 78)])⟩]) (.reg [⟨(some 80), none, (.mv (.t 0))⟩, ⟨(some 81), none, (.nilck (.t 80))⟩, ⟨(some 82), none, (.faddr 1 (.t 81))⟩, ⟨(some 83), none, (.load none (.t 82))⟩, ⟨(some 84), none, (.bin .add (.t 83) (.c (.int .i64 1)))⟩, ⟨(some 85), none, (.nilck (.t 80))⟩, ⟨(some 86), none, (.faddr 1 (.t 85))⟩, ⟨none, none, (.store 1 (.t 86) (.t 84))⟩])) (.seq (.reg [⟨(some 45), none, (.mv (.t 0))⟩, ⟨(some 46), none, (.nilck (.t 45))⟩, ⟨(some 47), none, (.faddr 1 (.t 46))⟩, ⟨(some 48), none, (.load none (.t 47))⟩, ⟨(some 49), none, (.bin .add (.t 48) (.c (.int .i64 1)))⟩, ⟨(some 50), none, (.nilck (.t 45))⟩, ⟨(some 51), none, (.faddr 1 (.t 50))⟩, ⟨none, none, (.store 1 (.t 51) (.t 49))⟩]) (.seq (.reg [⟨(some 52), none, (.call 62 [(.t 5)])⟩, ⟨(some 53), none, (.faddr 1 (.t 4))⟩, ⟨none, none, (.store 1 (.t 53) (.t 52))⟩]) (.seq (.reg [⟨(some 54), none, (.load (some 4) (.t 4))⟩, ⟨(some 55), none, (.build [(.int .i64 0), (.int .i64 0)] [])⟩, ⟨none, none, (.store 4 (.t 2) (.t 54))⟩, ⟨none, none, (.store 2 (.t 3) (.t 55))⟩]) .ret)))))))))))) (.reg [⟨(some 29), none, (.mv (.t 0))⟩, ⟨(some 30), none, (.nilck (.t 29))⟩, ⟨(some 31), none, (.faddr 1 (.t 30))⟩, ⟨(some 32), none, (.load none (.t 31))⟩, ⟨(some 33), none, (.bin .add (.t 32) (.c (.int .i64 1)))⟩, ⟨(some 34), none, (.nilck (.t 29))⟩, ⟨(some 35), none, (.faddr 1 (.t 34))⟩, ⟨none, none, (.store 1 (.t 35) (.t 33))⟩])))))) (.seq (.dreg [⟨(some 87), none, (.load (some 4) (.t 4))⟩, ⟨(some 88), none, (.faddr 3 (.t 4))⟩, ⟨(some 89), none, (.load none (.t 88))⟩, ⟨(some 90), none, (.build [(.int .i64 0), (.int .i64 0)] [(0, (1, (.c (.int .i64 2)))), (1, (1, (.t 89)))])⟩, ⟨none, none, (.store 4 (.t 2) (.t 87))⟩] [⟨none, none, (.store 2 (.t 3) (.t 90))⟩]) .ret)))))
theorem token_text.code : comp PG [] (Try.f46.body.getD .skip) = token_text.c := by kernel_rfl
theorem token_text.of {args : List AV} {H : AH} {K : AV → AH → Prop} (hl : args.length = 1) (h : wpA PG token_text.c none (endA [(.cell 2 (some 4)), (.cell 3 (some 2))] K) (initFr args) H) : ACalls PG 46 args H K :=
  ACalls.of_code (fl := []) mixed Try.func46 (c := Try.f46.body.getD .skip) (by kernel_rfl) (by kernel_rfl) (by rw [hl]; exact of_decide_eq_true (by kernel_rfl)) (by rw [token_text.code]; kernel_rfl)
    (by rw [token_text.code, show compRes PG Try.f46.results.toList = [(.cell 2 (some 4)), (.cell 3 (some 2))] from by kernel_rfl]; exact h)
def token_kinds_3.n : Nat := 47
noncomputable def token_kinds_3.c : C := (.seq (.reg [⟨(some 2), none, (.mv (.c (.bool false)))⟩]) (.seq (.reg [⟨(some 3), none, (.mv (.t 0))⟩, ⟨(some 4), none, (.bin .eql (.t 3) (.c (.int .u8 37)))⟩, ⟨(some 2), none, (.mv (.t 4))⟩]) .ret))
theorem token_kinds_3.code : comp PG [] (Try.f47.body.getD .skip) = token_kinds_3.c := by kernel_rfl
theorem token_kinds_3.of {args : List AV} {H : AH} {K : AV → AH → Prop} (hl : args.length = 1) (h : wpA PG token_kinds_3.c none (endA [(.t 2)] K) (initFr args) H) : ACalls PG 47 args H K :=
  ACalls.of_code (fl := []) mixed Try.func47 (c := Try.f47.body.getD .skip) (by kernel_rfl) (by kernel_rfl) (by rw [hl]; exact of_decide_eq_true (by kernel_rfl)) (by rw [token_kinds_3.code]; kernel_rfl)
    (by rw [token_kinds_3.code, show compRes PG Try.f47.results.toList = [(.t 2)] from by kernel_rfl]; exact h)
theorem token_kinds_3.of' {args : List AV} {H : AH} {K : AV → AH → Prop} (hl : args.length ≤ 5) (h : wpA PG token_kinds_3.c none (endA [(.t 2)] K) (initFr args) H) : ACalls PG 47 args H K :=
  ACalls.of_code (fl := []) mixed Try.func47 (c := Try.f47.body.getD .skip) (by kernel_rfl) (by kernel_rfl) hl (by rw [token_kinds_3.code]; kernel_rfl) (by rw [token_kinds_3.code, show compRes PG Try.f47.results.toList = [(.t 2)] from by kernel_rfl]; exact h)
def token_param.n : Nat := 48
noncomputable def token_param.c : C := (.seq (.reg [⟨(some 2), none, (.allc 48 [(.int .i64 0), (.str []), (.int .u64 0), (.int .i64 0)])⟩, ⟨(some 3), none, (.allc 25 [(.int .i64 0), (.int .i64 0)])⟩]) (.seq (.seq (.reg [⟨(some 5), none, (.mv (.t 0))⟩, ⟨(some 6), none, (.call 59 [(.t 5)])⟩, ⟨(some 7), none, (.len true (.t 6))⟩, ⟨(some 8), none, (.bin .lss (.t 7) (.c (.int .i64 2)))⟩, ⟨(some 9), none, (.mv (.t 8))⟩, ⟨(some 10), (some (9, false)), (.mv (.t 0))⟩, ⟨(some 11), (some (9, false)), (.call 59 [(.t 10)])⟩, ⟨(some 12), (some (9, false)), (.idx (.t 11) (.c (.int .i64 1)))⟩, ⟨(some 13), (some (9, false)), (.call 43 [(.t 12)])⟩, ⟨(some 14), (some (9, false)), (.un .not (.t 13))⟩, ⟨(some 15), none, (.pick (.t 9) (.c (.bool true)) (.t 14))⟩]) (.cond (.t 15) (.seq (.dreg [⟨(some 16), none, (.build [(.int .i64 0), (.str []), (.int .u64 0), (.int .i64 0)] [])⟩, ⟨(some 17), none, (.mv (.t 0))⟩, ⟨(some 18), none, (.nilck (.t 17))⟩, ⟨(some 19), none, (.faddr 1 (.t 18))⟩, ⟨(some 20), none, (.load none (.t 19))⟩, ⟨(some 21), none, (.build [(.int .i64 0), (.int .i64 0)] [(0, (1, (.c (.int .i64 11)))), (1, (1, (.t 20)))])⟩, ⟨none, none, (.store 4 (.t 2) (.t 16))⟩] [⟨none, none, (.store 2 (.t 3) (.t 21))⟩]) .ret) .skip)) (.seq (.reg [⟨(some 22), none, (.mv (.t 0))⟩, ⟨(some 23), none, (.call 58 [(.t 22), (.c (.int .i64 4)), (.c (.int .i64 2))])⟩, ⟨(some 4), none, (.allc 48 [(.int .i64 0), (.str []), (.int .u64 0), (.int .i64 0)])⟩, ⟨none, none, (.store 4 (.t 4) (.t 23))⟩]) (.seq (.reg [⟨(some 24), none, (.faddr 1 (.t 4))⟩, ⟨(some 25), none, (.load none (.t 24))⟩, ⟨(some 26), none, (.idx (.t 25) (.c (.int .i64 1)))⟩, ⟨(some 27), none, (.bin .sub (.t 26) (.c (.int .u8 48)))⟩, ⟨(some 28), none, (.conv .u64 (.t 27))⟩, ⟨(some 29), none, (.faddr 2 (.t 4))⟩, ⟨none, none, (.store 1 (.t 29) (.t 28))⟩]) (.seq (.reg [⟨(some 30), none, (.load (some 4) (.t 4))⟩, ⟨(some 31), none, (.build [(.int .i64 0), (.int .i64 0)] [])⟩, ⟨none, none, (.store 4 (.t 2) (.t 30))⟩, ⟨none, none, (.store 2 (.t 3) (.t 31))⟩]) .ret)))))
theorem token_param.code : comp PG [] (Try.f48.body.getD .skip) = token_param.c := by kernel_rfl
theorem token_param.of {args : List AV} {H : AH} {K : AV → AH → Prop} (hl : args.length = 1) (h : wpA PG token_param.c none (endA [(.cell 2 (some 4)), (.cell 3 (some 2))] K) (initFr args) H) : ACalls PG 48 args H K :=
  ACalls.of_code (fl := []) mixed Try.func48 (c := Try.f48.body.getD .skip) (by kernel_rfl) (by kernel_rfl) (by rw [hl]; exact of_decide_eq_true (by kernel_rfl)) (by rw [token_param.code]; kernel_rfl)
    (by rw [token_param.code, show compRes PG Try.f48.results.toList = [(.cell 2 (some 4)), (.cell 3 (some 2))] from by kernel_rfl]; exact h)
def token_kinds_4.n : Nat := 49
noncomputable def token_kinds_4.c : C := (.seq (.reg [⟨(some 2), none, (.mv (.c (.bool false)))⟩]) (.seq (.reg [⟨(some 3), none, (.mv (.t 0))⟩, ⟨(some 4), none, (.call 50 [(.c (.str [61, 60, 62, 40, 41, 46, 91, 93, 45])), (.t 3)])⟩, ⟨(some 5), none, (.bin .geq (.t 4) (.c (.int .i64 0)))⟩, ⟨(some 2), none, (.mv (.t 5))⟩]) .ret))
theorem token_kinds_4.code : comp PG [] (Try.f49.body.getD .skip) = token_kinds_4.c := by kernel_rfl
theorem token_kinds_4.of {args : List AV} {H : AH} {K : AV → AH → Prop} (hl : args.length = 1) (h : wpA PG token_kinds_4.c none (endA [(.t 2)] K) (initFr args) H) : ACalls PG 49 args H K :=
  ACalls.of_code (fl := []) mixed Try.func49 (c := Try.f49.body.getD .skip) (by kernel_rfl) (by kernel_rfl) (by rw [hl]; exact of_decide_eq_true (by kernel_rfl)) (by rw [token_kinds_4.code]; kernel_rfl)
    (by rw [token_kinds_4.code, show compRes PG Try.f49.results.toList = [(.t 2)] from by kernel_rfl]; exact h)
theorem token_kinds_4.of' {args : List AV} {H : AH} {K : AV → AH → Prop} (hl : args.length ≤ 6) (h : wpA PG token_kinds_4.c none (endA [(.t 2)] K) (initFr args) H) : ACalls PG 49 args H K :=
  ACalls.of_code (fl := []) mixed Try.func49 (c := Try.f49.body.getD .skip) (by kernel_rfl) (by kernel_rfl) hl (by rw [token_kinds_4.code]; kernel_rfl) (by rw [token_kinds_4.code, show compRes PG Try.f49.results.toList = [(.t 2)] from by kernel_rfl]; exact h)
def strings_IndexByte.n : Nat := 50
noncomputable def strings_IndexByte.c : C := (.seq (.reg [⟨(some 4), none, (.mv (.c (.int .i64 0)))⟩]) (.seq (.reg [⟨(some 5), none, (.mv (.t 0))⟩, ⟨(some 6), none, (.mv (.t 1))⟩, ⟨(some 7), none, (.call 63 [(.t 5), (.t 6)])⟩, ⟨(some 4), none, (.mv (.t 7))⟩]) .ret))
theorem strings_IndexByte.code : comp PG [] (Try.f50.body.getD .skip) = strings_IndexByte.c := by kernel_rfl
theorem strings_IndexByte.of {args : List AV} {H : AH} {K : AV → AH → Prop} (hl : args.length = 2) (h : wpA PG strings_IndexByte.c none (endA [(.t 4)] K) (initFr args) H) : ACalls PG 50 args H K :=
  ACalls.of_code (fl := []) mixed Try.func50 (c := Try.f50.body.getD .skip) (by kernel_rfl) (by kernel_rfl) (by rw [hl]; exact of_decide_eq_true (by kernel_rfl)) (by rw [strings_IndexByte.code]; kernel_rfl)
    (by rw [strings_IndexByte.code, show compRes PG Try.f50.results.toList = [(.t 4)] from by kernel_rfl]; exact h)
def token_sign.n : Nat := 51
noncomputable def token_sign.c : C := (.seq (.reg [⟨(some 2), none, (.allc 48 [(.int .i64 0), (.str []), (.int .u64 0), (.int .i64 0)])⟩, ⟨(some 3), none, (.allc 25 [(.int .i64 0), (.int .i64 0)])⟩]) (.seq (.seq (.reg [⟨(some 6), none, (.bslice 9 1 3 [(.str [])] [(0, (.c (.str [60, 62]))), (1, (.c (.str [60, 61]))), (2, (.c (.str [62, 61])))])⟩, ⟨(some 7), none, (.len false (.t 6))⟩, ⟨(some 8), none, (.mv (.c (.int .i64 0)))⟩]) (.block 0 (.loop (.seq (.reg [⟨(some 9), none, (.bin .lss (.t 8) (.t 7))⟩]) (.seq (.cond (.t 9) .skip (.exit 0)) (.seq (.block 1 (.seq (.reg [⟨(some 10), none, (.iaddr 1 (.t 6) (.t 8))⟩, ⟨(some 11), none, (.load none (.t 10))⟩, ⟨(some 5), none, (.mv (.t 11))⟩]) (.seq (.reg [⟨(some 12), none, (.mv (.t 0))⟩, ⟨(some 13), none, (.call 59 [(.t 12)])⟩, ⟨(some 14), none, (.mv (.t 5))⟩, ⟨(some 15), none, (.call 61 [(.t 13), (.t 14)])⟩]) (.cond (.t 15) (.seq (.reg [⟨(some 16), none, (.mv (.t 0))⟩, ⟨(some 17), none, (.call 58 [(.t 16), (.c (.int .i64 5)), (.c (.int .i64 2))])⟩, ⟨(some 18), none, (.build [(.int .i64 0), (.int .i64 0)] [])⟩, ⟨none, none, (.store 4 (.t 2) (.t 17))⟩, ⟨none, none, (.store 2 (.t 3) (.t 18))⟩]) .ret) .skip)))) (.reg [⟨(some 19), none, (.bin .add (.t 8) (.c (.int .i64 1)))⟩, ⟨(some 8), none, (.mv (.t 19))⟩]))))))) (.seq (.reg [⟨(some 20), none, (.mv (.t 0))⟩, ⟨(some 21), none, (.call 58 [(.t 20), (.c (.int .i64 5)), (.c (.int .i64 1))])⟩, ⟨(some 22), none, (.build [(.int .i64 0), (.int .i64 0)] [])⟩, ⟨none, none, (.store 4 (.t 2) (.t 21))⟩, ⟨none, none, (.store 2 (.t 3) (.t 22))⟩]) .ret)))
theorem token_sign.code : comp PG [] (Try.f51.body.getD .skip) = token_sign.c := by kernel_rfl
theorem token_sign.of {args : List AV} {H : AH} {K : AV → AH → Prop} (hl : args.length = 1) (h : wpA PG token_sign.c none (endA [(.cell 2 (some 4)), (.cell 3 (some 2))] K) (initFr args) H) : ACalls PG 51 args H K :=
  ACalls.of_code (fl := []) mixed Try.func51 (c := Try.f51.body.getD .skip) (by kernel_rfl) (by kernel_rfl) (by rw [hl]; exact of_decide_eq_true (by kernel_rfl)) (by rw [token_sign.code]; kernel_rfl)
    (by rw [token_sign.code, show compRes PG Try.f51.results.toList = [(.cell 2 (some 4)), (.cell 3 (some 2))] from by kernel_rfl]; exact h)
def broadsheetref14_kind.n : Nat := 52
noncomputable def broadsheetref14_kind.c : C := (.seq (.reg [⟨(some 2), none, (.mv (.c (.int .i64 0)))⟩]) (.seq (.seq (.reg [⟨(some 6), none, (.mv (.t 0))⟩, ⟨(some 7), none, (.call 64 [(.t 6)])⟩, ⟨(some 8), none, (.mv (.t 0))⟩, ⟨(some 9), none, (.len true (.t 8))⟩, ⟨(some 10), none, (.bin .eql (.t 7) (.t 9))⟩]) (.cond (.t 10) (.seq (.reg [⟨(some 2), none, (.mv (.c (.int .i64 1)))⟩]) .ret) .skip)) (.seq (.seq (.reg [⟨(some 11), none, (.mv (.t 0))⟩, ⟨(some 12), none, (.call 65 [(.t 11)])⟩]) (.cond (.t 12) (.seq (.reg [⟨(some 2), none, (.mv (.c (.int .i64 2)))⟩]) .ret) .skip)) (.seq (.reg [⟨(some 14), none, (.mv (.t 0))⟩, ⟨(some 15), none, (.call 35 [(.t 14)])⟩, ⟨(some 13), none, (.mv (.t 15))⟩, ⟨(some 16), none, (.extr (.t 13) 0)⟩, ⟨(some 17), none, (.extr (.t 13) 1)⟩, ⟨(some 3), none, (.mv (.t 16))⟩, ⟨(some 4), none, (.mv (.t 17))⟩]) (.seq (.seq (.reg [⟨(some 18), none, (.mv (.t 4))⟩]) (.cond (.t 18) (.seq (.reg [⟨(some 2), none, (.mv (.c (.int .i64 3)))⟩]) .ret) .skip)) (.seq (.seq (.reg [⟨(some 19), none, (.mv (.t 0))⟩, ⟨(some 20), none, (.len true (.t 19))⟩, ⟨(some 21), none, (.bin .eql (.t 20) (.c (.int .i64 2)))⟩, ⟨(some 22), none, (.mv (.t 21))⟩, ⟨(some 23), (some (22, true)), (.mv (.t 0))⟩, ⟨(some 24), (some (22, true)), (.idx (.t 23) (.c (.int .i64 0)))⟩, ⟨(some 25), (some (22, true)), (.bin .eql (.t 24) (.c (.int .u8 37)))⟩, ⟨(some 26), none, (.pick (.t 22) (.t 25) (.c (.bool false)))⟩, ⟨(some 27), none, (.mv (.t 26))⟩, ⟨(some 28), (some (27, true)), (.mv (.t 0))⟩, ⟨(some 29), (some (27, true)), (.idx (.t 28) (.c (.int .i64 1)))⟩, ⟨(some 30), (some (27, true)), (.call 66 [(.t 29)])⟩, ⟨(some 31), none, (.pick (.t 27) (.t 30) (.c (.bool false)))⟩]) (.cond (.t 31) (.seq (.reg [⟨(some 2), none, (.mv (.c (.int .i64 4)))⟩]) .ret) .skip)) (.seq (.reg [⟨(some 32), none, (.bslice 9 1 12 [(.str [])] [(0, (.c (.str [61]))), (1, (.c (.str [60, 62]))), (2, (.c (.str [60]))), (3, (.c (.str [60, 61]))), (4, (.c (.str [62]))), (5, (.c (.str [62, 61]))), (6, (.c (.str [40]))), (7, (.c (.str [41]))), (8, (.c (.str [46]))), (9, (.c (.str [91]))), (10, (.c (.str [93]))), (11, (.c (.str [45])))])⟩, ⟨(some 5), none, (.mv (.t 32))⟩]) (.seq (.seq (.reg [⟨(some 33), none, (.mv (.t 5))⟩, ⟨(some 34), none, (.mv (.t 0))⟩, ⟨(some 35), none, (.call 67 [(.t 33), (.t 34)])⟩, ⟨(some 36), none, (.bin .geq (.t 35) (.c (.int .i64 0)))⟩]) (.cond (.t 36) (.seq (.reg [⟨(some 2), none, (.mv (.c (.int .i64 5)))⟩]) .ret) .skip)) (.seq (.reg [⟨(some 2), none, (.mv (.c (.int .i64 0)))⟩]) .ret)))))))))
theorem broadsheetref14_kind.code : comp PG [] (Try.f52.body.getD .skip) = broadsheetref14_kind.c := by kernel_rfl
theorem broadsheetref14_kind.of {args : List AV} {H : AH} {K : AV → AH → Prop} (hl : args.length = 1) (h : wpA PG broadsheetref14_kind.c none (endA [(.t 2)] K) (initFr args) H) : ACalls PG 52 args H K :=
  ACalls.of_code (fl := []) mixed Try.func52 (c := Try.f52.body.getD .skip) (by kernel_rfl) (by kernel_rfl) (by rw [hl]; exact of_decide_eq_true (by kernel_rfl)) (by rw [broadsheetref14_kind.code]; kernel_rfl)
    (by rw [broadsheetref14_kind.code, show compRes PG Try.f52.results.toList = [(.t 2)] from by kernel_rfl]; exact h)
def name_may.n : Nat := 57
noncomputable def name_may.c : C := (.seq (.reg [⟨(some 4), none, (.mv (.c (.bool false)))⟩]) (.seq (.block 0 (.seq (.block 2 (.seq (.block 1 (.seq (.seq (.seq (.seq (.reg [⟨(some 6), none, (.mv (.t 0))⟩, ⟨(some 7), none, (.bin .geq (.t 6) (.c (.int .u8 48)))⟩, ⟨(some 8), none, (.mv (.t 7))⟩, ⟨(some 9), (some (8, true)), (.mv (.t 0))⟩, ⟨(some 10), (some (8, true)), (.bin .leq (.t 9) (.c (.int .u8 57)))⟩, ⟨(some 11), none, (.pick (.t 8) (.t 10) (.c (.bool false)))⟩, ⟨(some 5), none, (.mv (.t 11))⟩]) (.cond (.t 5) .skip (.reg [⟨(some 12), none, (.mv (.t 0))⟩, ⟨(some 13), none, (.bin .eql (.t 12) (.c (.int .u8 95)))⟩, ⟨(some 5), none, (.mv (.t 13))⟩]))) (.cond (.t 5) (.exit 1) .skip)) (.seq (.seq (.reg [⟨(some 15), none, (.mv (.t 0))⟩, ⟨(some 16), none, (.bin .geq (.t 15) (.c (.int .u8 97)))⟩, ⟨(some 17), none, (.mv (.t 16))⟩, ⟨(some 18), (some (17, true)), (.mv (.t 0))⟩, ⟨(some 19), (some (17, true)), (.bin .leq (.t 18) (.c (.int .u8 122)))⟩, ⟨(some 20), none, (.pick (.t 17) (.t 19) (.c (.bool false)))⟩, ⟨(some 14), none, (.mv (.t 20))⟩]) (.cond (.t 14) .skip (.reg [⟨(some 21), none, (.mv (.t 0))⟩, ⟨(some 22), none, (.bin .geq (.t 21) (.c (.int .u8 65)))⟩, ⟨(some 23), none, (.mv (.t 22))⟩, ⟨(some 24), (some (23, true)), (.mv (.t 0))⟩, ⟨(some 25), (some (23, true)), (.bin .leq (.t 24) (.c (.int .u8 90)))⟩, ⟨(some 26), none, (.pick (.t 23) (.t 25) (.c (.bool false)))⟩, ⟨(some 14), none, (.mv (.t 26))⟩]))) (.cond (.t 14) (.exit 2) .skip))) (.exit 0))) (.seq (.reg [⟨(some 27), none, (.mv (.t 1))⟩]) (.cond (.t 27) (.seq (.reg [⟨(some 4), none, (.mv (.c (.bool false)))⟩]) .ret) .skip)))) (.seq (.seq (.reg [⟨(some 4), none, (.mv (.c (.bool true)))⟩]) .ret) (.exit 0)))) (.seq (.reg [⟨(some 4), none, (.mv (.c (.bool false)))⟩]) .ret)))
theorem name_may.code : comp PG [] (Try.f57.body.getD .skip) = name_may.c := by kernel_rfl
theorem name_may.of {args : List AV} {H : AH} {K : AV → AH → Prop} (hl : args.length = 2) (h : wpA PG name_may.c none (endA [(.t 4)] K) (initFr args) H) : ACalls PG 57 args H K :=
  ACalls.of_code (fl := []) mixed Try.func57 (c := Try.f57.body.getD .skip) (by kernel_rfl) (by kernel_rfl) (by rw [hl]; exact of_decide_eq_true (by kernel_rfl)) (by rw [name_may.code]; kernel_rfl)
    (by rw [name_may.code, show compRes PG Try.f57.results.toList = [(.t 4)] from by kernel_rfl]; exact h)
def token_lexer_cut.n : Nat := 58
noncomputable def token_lexer_cut.c : C := (.seq (.reg [⟨(some 6), none, (.allc 48 [(.int .i64 0), (.str []), (.int .u64 0), (.int .i64 0)])⟩]) (.seq (.dreg [⟨(some 8), none, (.mv (.t 1))⟩, ⟨(some 9), none, (.mv (.t 0))⟩, ⟨(some 10), none, (.call 59 [(.t 9)])⟩, ⟨(some 11), none, (.mv (.t 2))⟩, ⟨(some 12), none, (.slice none (.t 10) none (some (.t 11)))⟩, ⟨(some 13), none, (.mv (.t 0))⟩, ⟨(some 14), none, (.nilck (.t 13))⟩, ⟨(some 15), none, (.faddr 1 (.t 14))⟩, ⟨(some 16), none, (.load none (.t 15))⟩, ⟨(some 17), none, (.build [(.int .i64 0), (.str []), (.int .u64 0), (.int .i64 0)] [(0, (1, (.t 8))), (1, (1, (.t 12))), (3, (1, (.t 16)))])⟩, ⟨(some 7), none, (.allc 48 [(.int .i64 0), (.str []), (.int .u64 0), (.int .i64 0)])⟩] [⟨none, none, (.store 4 (.t 7) (.t 17))⟩]) (.seq (.reg [⟨(some 18), none, (.mv (.t 0))⟩, ⟨(some 19), none, (.nilck (.t 18))⟩, ⟨(some 20), none, (.faddr 1 (.t 19))⟩, ⟨(some 21), none, (.load none (.t 20))⟩, ⟨(some 22), none, (.mv (.t 2))⟩, ⟨(some 23), none, (.bin .add (.t 21) (.t 22))⟩, ⟨(some 24), none, (.nilck (.t 18))⟩, ⟨(some 25), none, (.faddr 1 (.t 24))⟩, ⟨none, none, (.store 1 (.t 25) (.t 23))⟩]) (.seq (.reg [⟨(some 26), none, (.load (some 4) (.t 7))⟩, ⟨none, none, (.store 4 (.t 6) (.t 26))⟩]) .ret))))
theorem token_lexer_cut.code : comp PG [] (Try.f58.body.getD .skip) = token_lexer_cut.c := by kernel_rfl
theorem token_lexer_cut.of {args : List AV} {H : AH} {K : AV → AH → Prop} (hl : args.length = 3) (h : wpA PG token_lexer_cut.c none (endA [(.cell 6 (some 4))] K) (initFr args) H) : ACalls PG 58 args H K :=
  ACalls.of_code (fl := []) mixed Try.func58 (c := Try.f58.body.getD .skip) (by kernel_rfl) (by kernel_rfl) (by rw [hl]; exact of_decide_eq_true (by kernel_rfl)) (by rw [token_lexer_cut.code]; kernel_rfl)
    (by rw [token_lexer_cut.code, show compRes PG Try.f58.results.toList = [(.cell 6 (some 4))] from by kernel_rfl]; exact h)
def token_lexer_rest.n : Nat := 59
noncomputable def token_lexer_rest.c : C := (.seq (.reg [⟨(some 2), none, (.mv (.c (.str [])))⟩]) (.seq (.dreg [⟨(some 3), none, (.mv (.t 0))⟩, ⟨(some 4), none, (.nilck (.t 3))⟩, ⟨(some 5), none, (.faddr 0 (.t 4))⟩, ⟨(some 6), none, (.load none (.t 5))⟩, ⟨(some 7), none, (.mv (.t 0))⟩, ⟨(some 8), none, (.nilck (.t 7))⟩, ⟨(some 9), none, (.faddr 1 (.t 8))⟩, ⟨(some 10), none, (.load none (.t 9))⟩] [⟨(some 11), none, (.slice none (.t 6) (some (.t 10)) none)⟩, ⟨(some 2), none, (.mv (.t 11))⟩]) .ret))
theorem token_lexer_rest.code : comp PG [] (Try.f59.body.getD .skip) = token_lexer_rest.c := by kernel_rfl
theorem token_lexer_rest.of {args : List AV} {H : AH} {K : AV → AH → Prop} (hl : args.length = 1) (h : wpA PG token_lexer_rest.c none (endA [(.t 2)] K) (initFr args) H) : ACalls PG 59 args H K :=
  ACalls.of_code (fl := []) mixed Try.func59 (c := Try.f59.body.getD .skip) (by kernel_rfl) (by kernel_rfl) (by rw [hl]; exact of_decide_eq_true (by kernel_rfl)) (by rw [token_lexer_rest.code]; kernel_rfl)
    (by rw [token_lexer_rest.code, show compRes PG Try.f59.results.toList = [(.t 2)] from by kernel_rfl]; exact h)
def strings_Builder_WriteByte.n : Nat := 60
noncomputable def strings_Builder_WriteByte.c : C := (.seq (.reg [⟨(some 4), none, (.mv (.c .nilI))⟩]) (.seq (.reg [⟨(some 5), none, (.mv (.t 0))⟩, ⟨(some 6), none, (.call 75 [(.t 5)])⟩]) (.seq (.reg [⟨(some 7), none, (.mv (.t 0))⟩, ⟨(some 8), none, (.mv (.t 0))⟩, ⟨(some 9), none, (.nilck (.t 8))⟩, ⟨(some 10), none, (.faddr 1 (.t 9))⟩, ⟨(some 11), none, (.load none (.t 10))⟩, ⟨(some 12), none, (.mv (.t 1))⟩, ⟨(some 13), none, (.bslice 5 1 1 [(.int .u8 0)] [(0, (.t 12))])⟩, ⟨(some 14), none, (.append 5 false 1 1 (.t 11) (.t 13))⟩, ⟨(some 15), none, (.nilck (.t 7))⟩, ⟨(some 16), none, (.faddr 1 (.t 15))⟩, ⟨none, none, (.store 1 (.t 16) (.t 14))⟩]) (.seq (.reg [⟨(some 4), none, (.mv (.c .nilI))⟩]) .ret))))
theorem strings_Builder_WriteByte.code : comp PG [] (Try.f60.body.getD .skip) = strings_Builder_WriteByte.c := by kernel_rfl
theorem strings_Builder_WriteByte.of {args : List AV} {H : AH} {K : AV → AH → Prop} (hl : args.length = 2) (h : wpA PG strings_Builder_WriteByte.c none (endA [(.t 4)] K) (initFr args) H) : ACalls PG 60 args H K :=
  ACalls.of_code (fl := []) mixed Try.func60 (c := Try.f60.body.getD .skip) (by kernel_rfl) (by kernel_rfl) (by rw [hl]; exact of_decide_eq_true (by kernel_rfl)) (by rw [strings_Builder_WriteByte.code]; kernel_rfl)
    (by rw [strings_Builder_WriteByte.code, show compRes PG Try.f60.results.toList = [(.t 4)] from by kernel_rfl]; exact h)
def strings_HasPrefix.n : Nat := 61
noncomputable def strings_HasPrefix.c : C := (.seq (.reg [⟨(some 4), none, (.mv (.c (.bool false)))⟩]) (.seq (.reg [⟨(some 5), none, (.mv (.t 0))⟩, ⟨(some 6), none, (.mv (.t 1))⟩, ⟨(some 7), none, (.call 76 [(.t 5), (.t 6)])⟩, ⟨(some 4), none, (.mv (.t 7))⟩]) .ret))
theorem strings_HasPrefix.code : comp PG [] (Try.f61.body.getD .skip) = strings_HasPrefix.c := by kernel_rfl
theorem strings_HasPrefix.of {args : List AV} {H : AH} {K : AV → AH → Prop} (hl : args.length = 2) (h : wpA PG strings_HasPrefix.c none (endA [(.t 4)] K) (initFr args) H) : ACalls PG 61 args H K :=
  ACalls.of_code (fl := []) mixed Try.func61 (c := Try.f61.body.getD .skip) (by kernel_rfl) (by kernel_rfl) (by rw [hl]; exact of_decide_eq_true (by kernel_rfl)) (by rw [strings_HasPrefix.code]; kernel_rfl)
    (by rw [strings_HasPrefix.code, show compRes PG Try.f61.results.toList = [(.t 4)] from by kernel_rfl]; exact h)
def strings_Builder_String.n : Nat := 62
noncomputable def strings_Builder_String.c : C := (.seq (.reg [⟨(some 2), none, (.mv (.c (.str [])))⟩]) (.seq (.dreg [⟨(some 3), none, (.mv (.t 0))⟩, ⟨(some 4), none, (.nilck (.t 3))⟩, ⟨(some 5), none, (.faddr 1 (.t 4))⟩, ⟨(some 6), none, (.load none (.t 5))⟩, ⟨(some 7), none, (.sdata (.t 6))⟩, ⟨(some 8), none, (.mv (.t 0))⟩, ⟨(some 9), none, (.nilck (.t 8))⟩, ⟨(some 10), none, (.faddr 1 (.t 9))⟩, ⟨(some 11), none, (.load none (.t 10))⟩, ⟨(some 12), none, (.len false (.t 11))⟩] [⟨(some 13), none, (.ustr 5 (.t 7) (.t 12))⟩, ⟨(some 2), none, (.mv (.t 13))⟩]) .ret))
theorem strings_Builder_String.code : comp PG [] (Try.f62.body.getD .skip) = strings_Builder_String.c := by kernel_rfl
theorem strings_Builder_String.of {args : List AV} {H : AH} {K : AV → AH → Prop} (hl : args.length = 1) (h : wpA PG strings_Builder_String.c none (endA [(.t 2)] K) (initFr args) H) : ACalls PG 62 args H K :=
  ACalls.of_code (fl := []) mixed Try.func62 (c := Try.f62.body.getD .skip) (by kernel_rfl) (by kernel_rfl) (by rw [hl]; exact of_decide_eq_true (by kernel_rfl)) (by rw [strings_Builder_String.code]; kernel_rfl)
    (by rw [strings_Builder_String.code, show compRes PG Try.f62.results.toList = [(.t 2)] from by kernel_rfl]; exact h)
def stringslite_IndexByte.n : Nat := 63
noncomputable def stringslite_IndexByte.c : C := (.seq (.reg [⟨(some 4), none, (.mv (.c (.int .i64 0)))⟩]) (.seq (.reg [⟨(some 5), none, (.mv (.t 0))⟩, ⟨(some 6), none, (.mv (.t 1))⟩, ⟨(some 7), none, (.ext .ixb [(.t 5), (.t 6)])⟩, ⟨(some 4), none, (.mv (.t 7))⟩]) .ret))
theorem stringslite_IndexByte.code : comp PG [] (Try.f63.body.getD .skip) = stringslite_IndexByte.c := by kernel_rfl
theorem stringslite_IndexByte.of {args : List AV} {H : AH} {K : AV → AH → Prop} (hl : args.length = 2) (h : wpA PG stringslite_IndexByte.c none (endA [(.t 4)] K) (initFr args) H) : ACalls PG 63 args H K :=
  ACalls.of_code (fl := []) mixed Try.func63 (c := Try.f63.body.getD .skip) (by kernel_rfl) (by kernel_rfl) (by rw [hl]; exact of_decide_eq_true (by kernel_rfl)) (by rw [stringslite_IndexByte.code]; kernel_rfl)
    (by rw [stringslite_IndexByte.code, show compRes PG Try.f63.results.toList = [(.t 4)] from by kernel_rfl]; exact h)
def broadsheetref04_Lead.n : Nat := 64
noncomputable def broadsheetref04_Lead.c : C := (.seq (.reg [⟨(some 2), none, (.mv (.c (.int .i64 0)))⟩]) (.seq (.reg [⟨(some 3), none, (.mv (.c (.int .i64 0)))⟩]) (.seq (.block 0 (.loop (.seq (.seq (.reg [⟨(some 4), none, (.mv (.t 3))⟩, ⟨(some 5), none, (.mv (.t 0))⟩, ⟨(some 6), none, (.len true (.t 5))⟩, ⟨(some 7), none, (.bin .lss (.t 4) (.t 6))⟩, ⟨(some 8), none, (.mv (.t 7))⟩, ⟨(some 9), (some (8, true)), (.mv (.t 0))⟩, ⟨(some 10), (some (8, true)), (.mv (.t 3))⟩, ⟨(some 11), (some (8, true)), (.bin .add (.t 10) (.c (.int .i64 1)))⟩, ⟨(some 12), (some (8, true)), (.slice none (.t 9) none (some (.t 11)))⟩, ⟨(some 13), (some (8, true)), (.call 78 [(.t 12)])⟩, ⟨(some 14), none, (.pick (.t 8) (.t 13) (.c (.bool false)))⟩]) (.cond (.t 14) .skip (.exit 0))) (.block 1 (.reg [⟨(some 15), none, (.mv (.t 3))⟩, ⟨(some 16), none, (.bin .add (.t 15) (.c (.int .i64 1)))⟩, ⟨(some 3), none, (.mv (.t 16))⟩]))))) (.seq (.reg [⟨(some 17), none, (.mv (.t 3))⟩, ⟨(some 2), none, (.mv (.t 17))⟩]) .ret))))
theorem broadsheetref04_Lead.code : comp PG [] (Try.f64.body.getD .skip) = broadsheetref04_Lead.c := by kernel_rfl
theorem broadsheetref04_Lead.of {args : List AV} {H : AH} {K : AV → AH → Prop} (hl : args.length = 1) (h : wpA PG broadsheetref04_Lead.c none (endA [(.t 2)] K) (initFr args) H) : ACalls PG 64 args H K :=
  ACalls.of_code (fl := []) mixed Try.func64 (c := Try.f64.body.getD .skip) (by kernel_rfl) (by kernel_rfl) (by rw [hl]; exact of_decide_eq_true (by kernel_rfl)) (by rw [broadsheetref04_Lead.code]; kernel_rfl)
    (by rw [broadsheetref04_Lead.code, show compRes PG Try.f64.results.toList = [(.t 2)] from by kernel_rfl]; exact h)
def broadsheetref14_digits.n : Nat := 65
noncomputable def broadsheetref14_digits.c : C := (.seq (.reg [⟨(some 2), none, (.mv (.c (.bool false)))⟩]) (.seq (.seq (.reg [⟨(some 3), none, (.mv (.c (.int .i64 0)))⟩]) (.block 0 (.loop (.seq (.seq (.reg [⟨(some 4), none, (.mv (.t 3))⟩, ⟨(some 5), none, (.mv (.t 0))⟩, ⟨(some 6), none, (.len true (.t 5))⟩, ⟨(some 7), none, (.bin .lss (.t 4) (.t 6))⟩]) (.cond (.t 7) .skip (.exit 0))) (.seq (.block 1 (.seq (.reg [⟨(some 10), none, (.mv (.t 0))⟩, ⟨(some 11), none, (.mv (.t 3))⟩, ⟨(some 12), none, (.idx (.t 10) (.t 11))⟩, ⟨(some 13), none, (.call 66 [(.t 12)])⟩, ⟨(some 14), none, (.un .not (.t 13))⟩]) (.cond (.t 14) (.seq (.reg [⟨(some 2), none, (.mv (.c (.bool false)))⟩]) .ret) .skip))) (.reg [⟨(some 8), none, (.mv (.t 3))⟩, ⟨(some 9), none, (.bin .add (.t 8) (.c (.int .i64 1)))⟩, ⟨(some 3), none, (.mv (.t 9))⟩])))))) (.seq (.reg [⟨(some 15), none, (.mv (.t 0))⟩, ⟨(some 16), none, (.bin .neq (.t 15) (.c (.str [])))⟩, ⟨(some 2), none, (.mv (.t 16))⟩]) .ret)))
theorem broadsheetref14_digits.code : comp PG [] (Try.f65.body.getD .skip) = broadsheetref14_digits.c := by kernel_rfl
theorem broadsheetref14_digits.of {args : List AV} {H : AH} {K : AV → AH → Prop} (hl : args.length = 1) (h : wpA PG broadsheetref14_digits.c none (endA [(.t 2)] K) (initFr args) H) : ACalls PG 65 args H K :=
  ACalls.of_code (fl := []) mixed Try.func65 (c := Try.f65.body.getD .skip) (by kernel_rfl) (by kernel_rfl) (by rw [hl]; exact of_decide_eq_true (by kernel_rfl)) (by rw [broadsheetref14_digits.code]; kernel_rfl)
    (by rw [broadsheetref14_digits.code, show compRes PG Try.f65.results.toList = [(.t 2)] from by kernel_rfl]; exact h)
def broadsheetref04_Digit.n : Nat := 66
noncomputable def broadsheetref04_Digit.c : C := (.seq (.reg [⟨(some 2), none, (.mv (.c (.bool false)))⟩]) (.seq (.reg [⟨(some 3), none, (.mv (.t 0))⟩, ⟨(some 4), none, (.bin .geq (.t 3) (.c (.int .u8 48)))⟩, ⟨(some 5), none, (.mv (.t 4))⟩, ⟨(some 6), (some (5, true)), (.mv (.t 0))⟩, ⟨(some 7), (some (5, true)), (.bin .leq (.t 6) (.c (.int .u8 57)))⟩, ⟨(some 8), none, (.pick (.t 5) (.t 7) (.c (.bool false)))⟩, ⟨(some 2), none, (.mv (.t 8))⟩]) .ret))
theorem broadsheetref04_Digit.code : comp PG [] (Try.f66.body.getD .skip) = broadsheetref04_Digit.c := by kernel_rfl
theorem broadsheetref04_Digit.of {args : List AV} {H : AH} {K : AV → AH → Prop} (hl : args.length = 1) (h : wpA PG broadsheetref04_Digit.c none (endA [(.t 2)] K) (initFr args) H) : ACalls PG 66 args H K :=
  ACalls.of_code (fl := []) mixed Try.func66 (c := Try.f66.body.getD .skip) (by kernel_rfl) (by kernel_rfl) (by rw [hl]; exact of_decide_eq_true (by kernel_rfl)) (by rw [broadsheetref04_Digit.code]; kernel_rfl)
    (by rw [broadsheetref04_Digit.code, show compRes PG Try.f66.results.toList = [(.t 2)] from by kernel_rfl]; exact h)
def broadsheetref04_Find.n : Nat := 67
noncomputable def broadsheetref04_Find.c : C := (.seq (.reg [⟨(some 4), none, (.mv (.c (.int .i64 0)))⟩]) (.seq (.seq (.reg [⟨(some 5), none, (.mv (.c (.int .i64 0)))⟩]) (.block 0 (.loop (.seq (.seq (.reg [⟨(some 6), none, (.mv (.t 5))⟩, ⟨(some 7), none, (.mv (.t 0))⟩, ⟨(some 8), none, (.len false (.t 7))⟩, ⟨(some 9), none, (.bin .lss (.t 6) (.t 8))⟩]) (.cond (.t 9) .skip (.exit 0))) (.seq (.block 1 (.seq (.reg [⟨(some 12), none, (.mv (.t 0))⟩, ⟨(some 13), none, (.mv (.t 5))⟩, ⟨(some 14), none, (.iaddr 1 (.t 12) (.t 13))⟩, ⟨(some 15), none, (.load none (.t 14))⟩, ⟨(some 16), none, (.mv (.t 1))⟩, ⟨(some 17), none, (.bin .eql (.t 15) (.t 16))⟩]) (.cond (.t 17) (.seq (.reg [⟨(some 18), none, (.mv (.t 5))⟩, ⟨(some 4), none, (.mv (.t 18))⟩]) .ret) .skip))) (.reg [⟨(some 10), none, (.mv (.t 5))⟩, ⟨(some 11), none, (.bin .add (.t 10) (.c (.int .i64 1)))⟩, ⟨(some 5), none, (.mv (.t 11))⟩])))))) (.seq (.reg [⟨(some 4), none, (.mv (.c (.int .i64 (-1))))⟩]) .ret)))
theorem broadsheetref04_Find.code : comp PG [] (Try.f67.body.getD .skip) = broadsheetref04_Find.c := by kernel_rfl
theorem broadsheetref04_Find.of {args : List AV} {H : AH} {K : AV → AH → Prop} (hl : args.length = 2) (h : wpA PG broadsheetref04_Find.c none (endA [(.t 4)] K) (initFr args) H) : ACalls PG 67 args H K :=
  ACalls.of_code (fl := []) mixed Try.func67 (c := Try.f67.body.getD .skip) (by kernel_rfl) (by kernel_rfl) (by rw [hl]; exact of_decide_eq_true (by kernel_rfl)) (by rw [broadsheetref04_Find.code]; kernel_rfl)
    (by rw [broadsheetref04_Find.code, show compRes PG Try.f67.results.toList = [(.t 4)] from by kernel_rfl]; exact h)
def strings_Builder_copyCheck.n : Nat := 75
noncomputable def strings_Builder_copyCheck.c : C := (.seq (.reg [⟨(some 2), none, (.mv (.t 0))⟩, ⟨(some 3), none, (.nilck (.t 2))⟩, ⟨(some 4), none, (.faddr 0 (.t 3))⟩, ⟨(some 5), none, (.load none (.t 4))⟩, ⟨(some 6), none, (.ncmpP false (.t 5))⟩]) (.cond (.t 6) (.reg [⟨(some 7), none, (.mv (.t 0))⟩, ⟨(some 8), none, (.mv (.t 0))⟩, ⟨(some 9), none, (.idu (.t 8))⟩, ⟨(some 10), none, (.ext .same [(.t 9)])⟩, ⟨(some 11), none, (.idf 92 2 (.t 10))⟩, ⟨(some 12), none, (.nilck (.t 7))⟩, ⟨(some 13), none, (.faddr 0 (.t 12))⟩, ⟨none, none, (.store 1 (.t 13) (.t 11))⟩]) (.seq (.reg [⟨(some 14), none, (.mv (.t 0))⟩, ⟨(some 15), none, (.nilck (.t 14))⟩, ⟨(some 16), none, (.faddr 0 (.t 15))⟩, ⟨(some 17), none, (.load none (.t 16))⟩, ⟨(some 18), none, (.mv (.t 0))⟩, ⟨(some 19), none, (.peq true (.t 17) (.t 18))⟩]) (.cond (.t 19) .bad .skip))))
theorem strings_Builder_copyCheck.code : comp PG [] (Try.f75.body.getD .skip) = strings_Builder_copyCheck.c := by kernel_rfl
theorem strings_Builder_copyCheck.of {args : List AV} {H : AH} {K : AV → AH → Prop} (hl : args.length = 1) (h : wpA PG strings_Builder_copyCheck.c none (endA [] K) (initFr args) H) : ACalls PG 75 args H K :=
  ACalls.of_code (fl := []) mixed Try.func75 (c := Try.f75.body.getD .skip) (by kernel_rfl) (by kernel_rfl) (by rw [hl]; exact of_decide_eq_true (by kernel_rfl)) (by rw [strings_Builder_copyCheck.code]; kernel_rfl)
    (by rw [strings_Builder_copyCheck.code, show compRes PG Try.f75.results.toList = [] from by kernel_rfl]; exact h)
def stringslite_HasPrefix.n : Nat := 76
noncomputable def stringslite_HasPrefix.c : C := (.seq (.reg [⟨(some 4), none, (.mv (.c (.bool false)))⟩]) (.seq (.reg [⟨(some 5), none, (.mv (.t 0))⟩, ⟨(some 6), none, (.len true (.t 5))⟩, ⟨(some 7), none, (.mv (.t 1))⟩, ⟨(some 8), none, (.len true (.t 7))⟩, ⟨(some 9), none, (.bin .geq (.t 6) (.t 8))⟩, ⟨(some 10), none, (.mv (.t 9))⟩, ⟨(some 11), (some (10, true)), (.mv (.t 0))⟩, ⟨(some 12), (some (10, true)), (.mv (.t 1))⟩, ⟨(some 13), (some (10, true)), (.len true (.t 12))⟩, ⟨(some 14), (some (10, true)), (.slice none (.t 11) none (some (.t 13)))⟩, ⟨(some 15), (some (10, true)), (.mv (.t 1))⟩, ⟨(some 16), (some (10, true)), (.bin .eql (.t 14) (.t 15))⟩, ⟨(some 17), none, (.pick (.t 10) (.t 16) (.c (.bool false)))⟩, ⟨(some 4), none, (.mv (.t 17))⟩]) .ret))
theorem stringslite_HasPrefix.code : comp PG [] (Try.f76.body.getD .skip) = stringslite_HasPrefix.c := by kernel_rfl
theorem stringslite_HasPrefix.of {args : List AV} {H : AH} {K : AV → AH → Prop} (hl : args.length = 2) (h : wpA PG stringslite_HasPrefix.c none (endA [(.t 4)] K) (initFr args) H) : ACalls PG 76 args H K :=
  ACalls.of_code (fl := []) mixed Try.func76 (c := Try.f76.body.getD .skip) (by kernel_rfl) (by kernel_rfl) (by rw [hl]; exact of_decide_eq_true (by kernel_rfl)) (by rw [stringslite_HasPrefix.code]; kernel_rfl)
    (by rw [stringslite_HasPrefix.code, show compRes PG Try.f76.results.toList = [(.t 4)] from by kernel_rfl]; exact h)
def broadsheetref04_formed.n : Nat := 78
noncomputable def broadsheetref04_formed.c : C := (.seq (.reg [⟨(some 2), none, (.mv (.c (.bool false)))⟩]) (.seq (.seq (.reg [⟨(some 4), none, (.mv (.t 0))⟩, ⟨(some 5), none, (.bin .eql (.t 4) (.c (.str [])))⟩, ⟨(some 6), none, (.mv (.t 5))⟩, ⟨(some 7), (some (6, false)), (.mv (.t 0))⟩, ⟨(some 8), (some (6, false)), (.idx (.t 7) (.c (.int .i64 0)))⟩, ⟨(some 9), (some (6, false)), (.call 83 [(.t 8)])⟩, ⟨(some 10), (some (6, false)), (.un .not (.t 9))⟩, ⟨(some 11), none, (.pick (.t 6) (.c (.bool true)) (.t 10))⟩]) (.cond (.t 11) (.seq (.reg [⟨(some 2), none, (.mv (.c (.bool false)))⟩]) .ret) .skip)) (.seq (.seq (.reg [⟨(some 3), none, (.mv (.c (.int .i64 0)))⟩]) (.block 0 (.loop (.seq (.seq (.reg [⟨(some 12), none, (.mv (.t 3))⟩, ⟨(some 13), none, (.mv (.t 0))⟩, ⟨(some 14), none, (.len true (.t 13))⟩, ⟨(some 15), none, (.bin .lss (.t 12) (.t 14))⟩]) (.cond (.t 15) .skip (.exit 0))) (.seq (.block 1 (.seq (.reg [⟨(some 18), none, (.mv (.t 0))⟩, ⟨(some 19), none, (.mv (.t 3))⟩, ⟨(some 20), none, (.idx (.t 18) (.t 19))⟩, ⟨(some 21), none, (.call 83 [(.t 20)])⟩, ⟨(some 22), none, (.un .not (.t 21))⟩, ⟨(some 23), none, (.mv (.t 22))⟩, ⟨(some 24), (some (23, true)), (.mv (.t 0))⟩, ⟨(some 25), (some (23, true)), (.mv (.t 3))⟩, ⟨(some 26), (some (23, true)), (.idx (.t 24) (.t 25))⟩, ⟨(some 27), (some (23, true)), (.call 66 [(.t 26)])⟩, ⟨(some 28), (some (23, true)), (.un .not (.t 27))⟩, ⟨(some 29), none, (.pick (.t 23) (.t 28) (.c (.bool false)))⟩, ⟨(some 30), none, (.mv (.t 29))⟩, ⟨(some 31), (some (30, true)), (.mv (.t 0))⟩, ⟨(some 32), (some (30, true)), (.mv (.t 3))⟩, ⟨(some 33), (some (30, true)), (.idx (.t 31) (.t 32))⟩, ⟨(some 34), (some (30, true)), (.bin .neq (.t 33) (.c (.int .u8 95)))⟩, ⟨(some 35), none, (.pick (.t 30) (.t 34) (.c (.bool false)))⟩]) (.cond (.t 35) (.seq (.reg [⟨(some 2), none, (.mv (.c (.bool false)))⟩]) .ret) .skip))) (.reg [⟨(some 16), none, (.mv (.t 3))⟩, ⟨(some 17), none, (.bin .add (.t 16) (.c (.int .i64 1)))⟩, ⟨(some 3), none, (.mv (.t 17))⟩])))))) (.seq (.reg [⟨(some 2), none, (.mv (.c (.bool true)))⟩]) .ret))))
theorem broadsheetref04_formed.code : comp PG [] (Try.f78.body.getD .skip) = broadsheetref04_formed.c := by kernel_rfl
theorem broadsheetref04_formed.of {args : List AV} {H : AH} {K : AV → AH → Prop} (hl : args.length = 1) (h : wpA PG broadsheetref04_formed.c none (endA [(.t 2)] K) (initFr args) H) : ACalls PG 78 args H K :=
  ACalls.of_code (fl := []) mixed Try.func78 (c := Try.f78.body.getD .skip) (by kernel_rfl) (by kernel_rfl) (by rw [hl]; exact of_decide_eq_true (by kernel_rfl)) (by rw [broadsheetref04_formed.code]; kernel_rfl)
    (by rw [broadsheetref04_formed.code, show compRes PG Try.f78.results.toList = [(.t 2)] from by kernel_rfl]; exact h)
def broadsheetref04_Letter.n : Nat := 83
noncomputable def broadsheetref04_Letter.c : C := (.seq (.reg [⟨(some 2), none, (.mv (.c (.bool false)))⟩]) (.seq (.reg [⟨(some 3), none, (.mv (.t 0))⟩, ⟨(some 4), none, (.bin .geq (.t 3) (.c (.int .u8 97)))⟩, ⟨(some 5), none, (.mv (.t 4))⟩, ⟨(some 6), (some (5, true)), (.mv (.t 0))⟩, ⟨(some 7), (some (5, true)), (.bin .leq (.t 6) (.c (.int .u8 122)))⟩, ⟨(some 8), none, (.pick (.t 5) (.t 7) (.c (.bool false)))⟩, ⟨(some 9), none, (.mv (.t 8))⟩, ⟨(some 10), (some (9, false)), (.mv (.t 0))⟩, ⟨(some 11), (some (9, false)), (.bin .geq (.t 10) (.c (.int .u8 65)))⟩, ⟨(some 12), (some (9, false)), (.mv (.t 11))⟩, ⟨(some 13), (some (12, true)), (.mv (.t 0))⟩, ⟨(some 14), (some (12, true)), (.bin .leq (.t 13) (.c (.int .u8 90)))⟩, ⟨(some 15), (some (9, false)), (.pick (.t 12) (.t 14) (.c (.bool false)))⟩, ⟨(some 16), none, (.pick (.t 9) (.c (.bool true)) (.t 15))⟩, ⟨(some 2), none, (.mv (.t 16))⟩]) .ret))
theorem broadsheetref04_Letter.code : comp PG [] (Try.f83.body.getD .skip) = broadsheetref04_Letter.c := by kernel_rfl
theorem broadsheetref04_Letter.of {args : List AV} {H : AH} {K : AV → AH → Prop} (hl : args.length = 1) (h : wpA PG broadsheetref04_Letter.c none (endA [(.t 2)] K) (initFr args) H) : ACalls PG 83 args H K :=
  ACalls.of_code (fl := []) mixed Try.func83 (c := Try.f83.body.getD .skip) (by kernel_rfl) (by kernel_rfl) (by rw [hl]; exact of_decide_eq_true (by kernel_rfl)) (by rw [broadsheetref04_Letter.code]; kernel_rfl)
    (by rw [broadsheetref04_Letter.code, show compRes PG Try.f83.results.toList = [(.t 2)] from by kernel_rfl]; exact h)
end Go.Proofs.Ytlmplofpclaokaa

/- What the small functions of 'token' and 'name' compute. -/
namespace Go.Proofs.Ytlmplofpclaokaa
set_option autoImplicit false
set_option linter.unusedSimpArgs false
set_option linter.unusedVariables false
--HSET
attribute [local irreducible] callA callP ACalls

abbrev u8A (c : UInt8) : AV := .int .u8 (c.toNat : Nat)
theorem u8lit (c : UInt8) (n : Nat) (hn : n < 256) : ((c.toNat : Nat) : Int) = (n : Int) ↔ c = UInt8.ofNat n := by
  rw [Int.ofNat_inj]
  constructor
  · intro h; apply UInt8.toNat.inj; rw [h, UInt8.toNat_ofNat']; omega
  · intro h; rw [h, UInt8.toNat_ofNat']; omega
theorem dig_iff (c : UInt8) : dig c = true ↔ 48 ≤ c.toNat ∧ c.toNat ≤ 57 := by simp [dig]
theorem ltr_iff (c : UInt8) : ltr c = true ↔ (97 ≤ c.toNat ∧ c.toNat ≤ 122) ∨ (65 ≤ c.toNat ∧ c.toNat ≤ 90) := by simp [ltr]
theorem nat_eq (c : UInt8) (n : Nat) (hn : n < 256) : c = UInt8.ofNat n ↔ c.toNat = n := by
  constructor
  · intro h; rw [h, UInt8.toNat_ofNat']; omega
  · intro h; apply UInt8.toNat.inj; rw [h, UInt8.toNat_ofNat']; omega
theorem nam_iff (c : UInt8) : nam c = true ↔ (48 ≤ c.toNat ∧ c.toNat ≤ 57) ∨ c.toNat = 95 ∨ (97 ≤ c.toNat ∧ c.toNat ≤ 122) ∨ (65 ≤ c.toNat ∧ c.toNat ≤ 90) := by
  simp only [nam, Bool.or_eq_true, dig_iff, ltr_iff, beq_iff_eq]
  rw [show (95 : UInt8) = UInt8.ofNat 95 from rfl, nat_eq c 95 (by decide)]
  omega
theorem blnk_iff (c : UInt8) : blnk c = true ↔ c.toNat = 32 ∨ c.toNat = 9 ∨ c.toNat = 10 ∨ c.toNat = 13 := by
  simp only [blnk, Bool.or_eq_true, beq_iff_eq]
  rw [show (32 : UInt8) = UInt8.ofNat 32 from rfl, show (9 : UInt8) = UInt8.ofNat 9 from rfl, show (10 : UInt8) = UInt8.ofNat 10 from rfl, show (13 : UInt8) = UInt8.ofNat 13 from rfl, nat_eq c 32 (by decide), nat_eq c 9 (by decide), nat_eq c 10 (by decide), nat_eq c 13 (by decide)]
  omega
/-- A Bool by what it says. -/
theorem bool_iff {b : Bool} {p : Prop} [Decidable p] (h : b = true ↔ p) : b = decide p := by
  cases b with
  | true => rw [decide_eq_true (h.1 rfl)]
  | false => rw [decide_eq_false (fun q => by have := h.2 q; cases this)]

theorem token_digit_spec (c : UInt8) (H : AH) : ACalls PG token_digit.n [u8A c] H fun r H' => r = .bool (dig c) ∧ H' = H := by
  rw [bool_iff (dig_iff c)]
  refine token_digit.of rfl (wpF_start ?_)
  (repeat' (first | (refine au ?_; first | refine bsplit_dec (fun _ => ?_) (fun _ => ?_) | refine bsplit_intro (fun _ => ?_) (fun _ => ?_)) | exact au0 | fail)); (all_goals try (first | refine au ?_ | fail))
  all_goals (conv => whnf)
  all_goals exact ⟨congrArg AV.bool (by first | exact (decide_eq_true (by omega)).symm | exact (decide_eq_false (by omega)).symm | exact decide_eq_decide.2 (by omega)), rfl⟩

theorem token_blank_spec (c : UInt8) (H : AH) : ACalls PG token_blank.n [u8A c] H fun r H' => r = .bool (blnk c) ∧ H' = H := by
  rw [bool_iff (blnk_iff c)]
  refine token_blank.of rfl (wpF_start ?_)
  (repeat' (first | (refine au ?_; first | refine bsplit_dec (fun _ => ?_) (fun _ => ?_) | refine bsplit_intro (fun _ => ?_) (fun _ => ?_)) | exact au0 | fail)); (all_goals try (first | refine au ?_ | fail))
  all_goals (conv => whnf)
  all_goals exact ⟨congrArg AV.bool (by first | exact (decide_eq_true (by omega)).symm | exact (decide_eq_false (by omega)).symm | exact decide_eq_decide.2 (by omega)), rfl⟩

theorem name_may_spec (c : UInt8) (first : Bool) (H : AH) : ACalls PG name_may.n [u8A c, .bool first] H fun r H' => r = .bool (if first then ltr c else nam c) ∧ H' = H := by
  refine name_may.of rfl (wpF_start ?_)
  cases first with
  | true =>
    rw [show (if true then ltr c else nam c) = ltr c from rfl, bool_iff (ltr_iff c)]
    (repeat' (first | (refine au ?_; first | refine bsplit_dec (fun _ => ?_) (fun _ => ?_) | refine bsplit_intro (fun _ => ?_) (fun _ => ?_)) | exact au0 | fail)); (all_goals try (first | refine au ?_ | fail))
    all_goals (conv => whnf)
    all_goals exact ⟨congrArg AV.bool (by first | exact (decide_eq_true (by omega)).symm | exact (decide_eq_false (by omega)).symm | exact decide_eq_decide.2 (by omega)), rfl⟩
  | false =>
    rw [show (if false then ltr c else nam c) = nam c from rfl, bool_iff (nam_iff c)]
    (repeat' (first | (refine au ?_; first | refine bsplit_dec (fun _ => ?_) (fun _ => ?_) | refine bsplit_intro (fun _ => ?_) (fun _ => ?_)) | exact au0 | fail)); (all_goals try (first | refine au ?_ | fail))
    all_goals (conv => whnf)
    all_goals exact ⟨congrArg AV.bool (by first | exact (decide_eq_true (by omega)).symm | exact (decide_eq_false (by omega)).symm | exact decide_eq_decide.2 (by omega)), rfl⟩

theorem name_Lead_spec (s : List UInt8) (hs : s.length ≤ 140737488351232) (H : AH) : ACalls PG name_Lead.n [.str s] H fun r H' => r = .int .i64 (nl s : Nat) ∧ H' = H := by
  refine name_Lead.of rfl (wpF_start ?_)
  have hnl := nl_le s
  (first | refine ah ?_ | exact ah0 | fail)
  refine ⟨fun n L H' => ∃ i : Nat, n = s.length - i ∧ i ≤ nl s ∧ L = [(0, some (.str s)), (3, some (.int .i64 i))] ∧ H' = H, ⟨_, H, ?_, Sub.refl _, _, 0, rfl, Nat.zero_le _, rfl, rfl⟩, ?_⟩
  · exact (by repeat (first | exact trivial | refine And.intro (Or.inl rfl) ?_ | refine And.intro (Or.inr (Exists.intro _ (And.intro rfl (Fz.refl _)))) ?_))
  · rintro n L H' ⟨i, rfl, hi, rfl, rfl⟩
    (first | refine ah ?_ | exact ah0 | fail)
    refine bsplit_dec (fun h1 => ?_) (fun h1 => ?_)
    · have hst := nl_step hi (by omega)
      (first | refine ah ?_ | exact ah0 | fail)
      refine callF_eq (name_may_spec (s.getD i 0) _ _) ?_
      (first | refine ah ?_ | exact ah0 | fail)
      rw [show (if decide ((i : Int) = 0) = true then ltr (s.getD i 0) else nam (s.getD i 0)) = decide (i < nl s) from by
        rw [show decide (i < nl s) = (if i = 0 then ltr (s.getD 0 0) else nam (s.getD i 0)) from (bool_iff hst.symm).symm]
        by_cases e : i = 0
        · subst e; simp
        · rw [if_neg e, if_neg (by simpa using e)]]
      refine bsplit_dec (fun h2 => ?_) (fun h2 => ?_)
      · (first | refine ah ?_ | exact ah0 | fail)
        refine ⟨[(0, some (.str s)), (3, some (.int .i64 (i + 1 : Nat)))], H', (by repeat (first | exact trivial | refine And.intro (Or.inl rfl) ?_ | refine And.intro (Or.inr (Exists.intro _ (And.intro rfl (Fz.refl _)))) ?_)), Sub.refl _, _, ?_, i + 1, rfl, by omega, rfl, rfl⟩
        omega
      · (first | refine ah ?_ | exact ah0 | fail)
        exact ⟨by rw [show i = nl s from by omega], rfl⟩
    · (first | refine ah ?_ | exact ah0 | fail)
      exact ⟨by rw [show i = nl s from by omega], rfl⟩

/-- What is left of a text, and the text's place. -/
def lx (s : List UInt8) (at' : Nat) : Blk := .rows 2 [[.str s, .int .i64 (at' : Nat)]]
theorem lexer_rest_spec {s : List UInt8} {at' id : Nat} {H : AH} (hg : hget H id = some (lx s at')) (ha : at' ≤ s.length) (hs : s.length ≤ 140737488351232) :
    ACalls PG token_lexer_rest.n [.ptr id 2 0 0] H fun r H' => r = .str (s.drop at') ∧ H' = H := by
  unfold lx at hg
  refine token_lexer_rest.of rfl (wpF_start ?_)
  (first | refine ah ?_ | exact ah0 | fail)
  exact ⟨by simp, rfl⟩

theorem ACalls.sub {P : Program} {f : Nat} {args : List AV} {H H1 : AH} {v : AV} (h : ACalls P f args H fun r H' => r = v ∧ Sub H1 H') : ACalls P f args H fun r H' => r = v ∧ H' = H1 :=
  h.freeze fun r H' ⟨a, b⟩ => ⟨r, H1, b, .refl _, a, rfl⟩
theorem sub_hset {H H' : AH} {id : Nat} {b : Blk} (h1 : hget H' id = some b) (h2 : ∀ j c, j ≠ id → hget H j = some c → hget H' j = some c) : Sub (hset H id b) H' := fun j c q => by
  rw [hget_hset] at q
  split at q
  · rename_i e
    subst e
    cases hh : hget H j with
    | none => rw [hh] at q; cases q
    | some d => rw [hh] at q; simp only [Option.map_some, Option.some.injEq] at q; rw [← q]; exact h1
  · rename_i e; exact h2 j c e q

theorem lexer_cut_spec {s : List UInt8} {at' id n : Nat} {k : Int} {H : AH} (hg : hget H id = some (lx s at')) (ha : at' + n ≤ s.length) (hs : s.length ≤ 140737488351232) :
    ACalls PG token_lexer_cut.n [.ptr id 2 0 0, .int .i64 k, .int .i64 n] H fun r H' => r = .agg [.int .i64 k, .str ((s.drop at').take n), .int .u64 0, .int .i64 at'] ∧ H' = hset H id (lx s (at' + n)) := by
  have hg0 := hg
  unfold lx at hg0
  refine ACalls.sub (token_lexer_cut.of rfl (wpF_start ?_))
  (first | refine ah ?_ | exact ah0 | fail)
  intro id6 hid6 ht6
  have n6 : id6 ≠ id := hget_ne_of hid6 hg
  (first | refine ah ?_ | exact ah0 | fail)
  have hdl : (s.drop at').length = s.length - at' := List.length_drop
  refine callG_eq rfl (lexer_rest_spec ((hget_tail n6).trans hg) (by omega) hs) ?_
  (first | refine ah ?_ | exact ah0 | fail)
  intro id7 hid7 ht7
  have n7 : id7 ≠ id := hget_ne_of (hget_fresh hid7).2 hg
  have n76 : id7 ≠ id6 := (hget_fresh hid7).1
  (first | refine ah ?_ | exact ah0 | fail)
  exact Sub.cons (Sub.cons (Sub.refl _) ((hget_set_ne n6).trans hid6)) ((hget_tail n76.symm).trans ((hget_set_ne n7).trans (hget_fresh hid7).2))

/-- The tests of the kinds. -/
theorem kinds1_spec (c : UInt8) (H : AH) : ACalls PG token_kinds_1.n [u8A c] H fun r H' => r = .bool (ltr c) ∧ H' = H := by
  refine token_kinds_1.of rfl (wpF_start ?_)
  (first | refine ah ?_ | exact ah0 | fail)
  refine ⟨_, _, rfl, (show bytesA [[u8A c]] = some [c] from by simp [bytesA]; have := c.toNat_lt; omega), ?_⟩
  (first | refine ah ?_ | exact ah0 | fail)
  refine callF_eq (name_Lead_spec [c] (by simp) _) ?_
  (first | refine ah ?_ | exact ah0 | fail)
  refine ⟨congrArg AV.bool ?_, rfl⟩
  rw [nl_cons]
  cases ltr c <;> simp
theorem kinds2_spec (c : UInt8) (H : AH) : ACalls PG token_kinds_2.n [u8A c] H fun r H' => r = .bool (decide (c = 39)) ∧ H' = H := by
  refine token_kinds_2.of rfl (wpF_start ?_)
  (first | refine ah ?_ | exact ah0 | fail)
  exact ⟨congrArg AV.bool (decide_eq_decide.2 (u8lit c 39 (by decide))), rfl⟩
theorem kinds3_spec (c : UInt8) (H : AH) : ACalls PG token_kinds_3.n [u8A c] H fun r H' => r = .bool (decide (c = 37)) ∧ H' = H := by
  refine token_kinds_3.of rfl (wpF_start ?_)
  (first | refine ah ?_ | exact ah0 | fail)
  exact ⟨congrArg AV.bool (decide_eq_decide.2 (u8lit c 37 (by decide))), rfl⟩
theorem stringslite_IndexByte_spec (s : List UInt8) (c : UInt8) (H : AH) : ACalls PG stringslite_IndexByte.n [.str s, u8A c] H fun r H' => r = .int .i64 (Lib.indexByte s c) ∧ H' = H := by
  refine stringslite_IndexByte.of rfl (wpF_start ?_)
  (first | refine ah ?_ | exact ah0 | fail)
  exact ⟨by simp, rfl⟩
theorem strings_IndexByte_spec (s : List UInt8) (c : UInt8) (H : AH) : ACalls PG strings_IndexByte.n [.str s, u8A c] H fun r H' => r = .int .i64 (Lib.indexByte s c) ∧ H' = H := by
  refine strings_IndexByte.of rfl (wpF_start ?_)
  (first | refine ah ?_ | exact ah0 | fail)
  refine callF_eq (stringslite_IndexByte_spec s c _) ?_
  (first | refine ah ?_ | exact ah0 | fail)
theorem indexByte_in : ∀ (s : List UInt8) (c : UInt8), 0 ≤ Lib.indexByte s c ↔ s.contains c = true
  | [], c => by simp [Lib.indexByte]
  | b :: s, c => by
    have ih := indexByte_in s c
    have ge := Lib.indexByte_ge s c
    unfold Lib.indexByte
    simp only [List.contains_cons, Bool.or_eq_true, beq_iff_eq]
    split
    · rename_i h; simp [h]
    · rename_i h
      split
      · rename_i h2
        rw [h2] at ih
        constructor
        · intro q; omega
        · rintro (q | q)
          · exact (h q.symm).elim
          · have := ih.2 q; omega
      · rename_i h2
        constructor
        · intro q; exact .inr (ih.1 (by omega))
        · intro q; omega
theorem kinds4_spec (c : UInt8) (H : AH) : ACalls PG token_kinds_4.n [u8A c] H fun r H' => r = .bool (sgn c) ∧ H' = H := by
  refine token_kinds_4.of rfl (wpF_start ?_)
  (first | refine ah ?_ | exact ah0 | fail)
  refine callF_eq (strings_IndexByte_spec _ c _) ?_
  (first | refine ah ?_ | exact ah0 | fail)
  exact ⟨congrArg AV.bool (bool_iff (indexByte_in _ c).symm).symm, rfl⟩
theorem stringslite_HasPrefix_spec (s p : List UInt8) (H : AH) : ACalls PG stringslite_HasPrefix.n [.str s, .str p] H fun r H' => r = .bool (decide (p.length ≤ s.length) && decide (s.take p.length = p)) ∧ H' = H := by
  refine stringslite_HasPrefix.of rfl (wpF_start ?_)
  (first | refine ah ?_ | exact ah0 | fail)
  refine bsplit_dec (fun h => ?_) (fun h => ?_)
  · (first | refine ah ?_ | exact ah0 | fail)
    exact ⟨by rw [decide_eq_true (show p.length ≤ s.length from by omega)]; simp, rfl⟩
  · (first | refine ah ?_ | exact ah0 | fail)
    exact ⟨by rw [decide_eq_false (show ¬ p.length ≤ s.length from by omega)]; simp, rfl⟩
theorem strings_HasPrefix_spec (s p : List UInt8) (H : AH) : ACalls PG strings_HasPrefix.n [.str s, .str p] H fun r H' => r = .bool (decide (p.length ≤ s.length) && decide (s.take p.length = p)) ∧ H' = H := by
  refine strings_HasPrefix.of rfl (wpF_start ?_)
  (first | refine ah ?_ | exact ah0 | fail)
  refine callF_eq (stringslite_HasPrefix_spec s p _) ?_
  (first | refine ah ?_ | exact ah0 | fail)
end Go.Proofs.Ytlmplofpclaokaa

/- A builder of strings. -/
namespace Go.Proofs.Ytlmplofpclaokaa
set_option autoImplicit false
set_option linter.unusedSimpArgs false
set_option linter.unusedVariables false
--HSET
attribute [local irreducible] callA callP ACalls

theorem callF_to {P : Program} {f : Nat} {args : List AV} {H H1 : AH} {K : AV → AH → Prop} {r : AV} (h : ACalls P f args H fun r' H' => r' = r ∧ H' = H1) (k : K r H1) : callF P f args H K :=
  callF_of (h.mono fun r' H' ⟨a, b⟩ => by rw [a, b]; exact k)
/-- The numbers of the types. -/
abbrev tyBld : Nat := ty_strings_Builder
abbrev tyU8 : Nat := ty_uint8
def byteRow (l : List UInt8) : List (List AV) := l.map fun c => [u8A c]
theorem byteRow_len (l : List UInt8) : (byteRow l).length = l.length := by simp [byteRow]
theorem byteRow_bytes (l : List UInt8) : bytesA (byteRow l) = some l := by
  induction l with
  | nil => rfl
  | cons c l ih =>
    have hc := c.toNat_lt
    show bytesA ([u8A c] :: byteRow l) = _
    unfold bytesA
    rw [if_pos (by omega), ih]
    simp

/-- A builder: what it holds, and where its bytes lie. -/
structure Bld (H : AH) (id : Nat) (ob : Option Nat) (l : List UInt8) : Prop where
  tg : tag id = tyBld
  blk : ∃ p v, hget H id = some (.rows 2 [[p, v]]) ∧ (p = .nilP ∨ p = .ptr id 2 0 0) ∧
    ((ob = none ∧ v = .nilS ∧ l = []) ∨ ∃ idb, ob = some idb ∧ v = .own idb 1 0 l.length ∧ hget H idb = some (.rows 1 (byteRow l)) ∧ tag idb = tyU8 ∧ idb ≠ id ∧ 0 < l.length)

theorem copyCheck_spec {id : Nat} {H : AH} {p v : AV} (hg : hget H id = some (.rows 2 [[p, v]])) (hp : p = .nilP ∨ p = .ptr id 2 0 0) (ht : tag id = tyBld) :
    ACalls PG strings_Builder_copyCheck.n [.ptr id 2 0 0] H fun r H' => r = .tup [] ∧ H' = hset H id (.rows 2 [[.ptr id 2 0 0, v]]) := by
  refine ACalls.sub (strings_Builder_copyCheck.of rfl (wpF_start ?_))
  rcases hp with rfl | rfl
  · (first | refine ah ?_ | exact ah0 | fail)
    exact Sub.refl _
  · (first | refine ah ?_ | exact ah0 | fail)
    exact sub_hset hg (fun j c _ q => q)

theorem readS_own {H : AH} {id sz lo hi : Nat} {l : List (List AV)} (hg : hget H id = some (.rows sz l)) (h : hi ≤ l.length) : readS H false sz (.own id sz lo hi) = some ((l.take hi).drop lo) := by
  simp [readS, hg, h]
theorem WriteByte_spec {id : Nat} {ob : Option Nat} {l : List UInt8} {c : UInt8} {H : AH} (hb : Bld H id ob l) (hl : l.length ≤ 140737488351232) :
    ACalls PG strings_Builder_WriteByte.n [.ptr id 2 0 0, u8A c] H fun r H' => r = .nilI ∧ ∃ idb, Bld H' id (some idb) (l ++ [c]) ∧ (hget H idb = none ∨ ob = some idb) ∧ ∀ j b, j ≠ id → ob ≠ some j → hget H j = some b → hget H' j = some b := by
  obtain ⟨ht, p, v, hg, hp, hv⟩ := hb
  refine strings_Builder_WriteByte.of rfl (wpF_start ?_)
  (first | refine ah ?_ | exact ah0 | fail)
  refine callF_to (copyCheck_spec hg hp ht) ?_
  have hg1 : hget (hset H id (.rows 2 [[.ptr id 2 0 0, v]])) id = some (.rows 2 [[.ptr id 2 0 0, v]]) := hget_set hg
  have hk1 : ∀ j b, j ≠ id → hget H j = some b → hget (hset H id (.rows 2 [[.ptr id 2 0 0, v]])) j = some b := fun j b q r => (hget_set_ne q).trans r
  have hf1 : ∀ j, j ≠ id → hget (hset H id (.rows 2 [[.ptr id 2 0 0, v]])) j = none → hget H j = none := fun j q r => (hget_set_ne q).symm.trans r
  generalize hset H id (.rows 2 [[.ptr id 2 0 0, v]]) = H1 at *
  rcases hv with ⟨rfl, rfl, rfl⟩ | ⟨idb, rfl, rfl, hgb, htb, hne, hpos⟩
  · (first | refine ah ?_ | exact ah0 | fail)
    refine ⟨_, rfl, by simp, (fun e => by cases e), fun _ => ?_⟩
    intro idn hidn htn
    have nn : idn ≠ id := hget_ne_of hidn hg1
    (first | refine ah ?_ | exact ah0 | fail)
    refine ⟨idn, ⟨ht, .ptr id 2 0 0, .own idn 1 0 1, ?_, .inr rfl, .inr ⟨idn, rfl, rfl, ?_, htn, nn, by simp⟩⟩, .inl (hf1 idn nn hidn), fun j b q _ r => ?_⟩
    · exact (hget_tail nn).trans (hget_set hg1)
    · exact hget_self
    · exact (hget_tail (hget_ne_of hidn (hk1 j b q r))).trans ((hget_set_ne q).trans (hk1 j b q r))
  · have hgb1 := hk1 _ _ hne hgb
    have exs : ((byteRow l).take l.length).drop 0 = byteRow l := by rw [List.drop_zero, ← byteRow_len, List.take_length]
    (first | refine ah ?_ | exact ah0 | fail)
    refine ⟨_, _, (readS_own hgb1 (by rw [byteRow_len]; exact Nat.le_refl _)).trans (congrArg some exs), rfl, rfl, rfl, htb, by rw [byteRow_len]; simp; omega, ?_⟩
    intro idn hidn htn
    have nn : idn ≠ id := hget_ne_of hidn hg1
    have nb : idn ≠ idb := hget_ne_of hidn hgb1
    (first | refine ah ?_ | exact ah0 | fail)
    have hg2 : hget (hdel H1 idb) id = some (.rows 2 [[.ptr id 2 0 0, .own idb 1 0 l.length]]) := (hget_del_ne hne.symm).trans hg1
    refine ⟨idn, ⟨ht, .ptr id 2 0 0, .own idn 1 0 (l ++ [c]).length, ?_, .inr rfl, .inr ⟨idn, rfl, rfl, ?_, htn, nn, by simp⟩⟩, .inl (hf1 idn nn hidn), fun j b q q2 r => ?_⟩
    · refine (hget_tail nn).trans ((hget_set hg2).trans ?_)
      have : (byteRow l).length + ((List.replicate 1 [AV.int .u8 0]).set 0 (u8A c).cells).length = (l ++ [c]).length := by rw [byteRow_len, List.length_append]; rfl
      rw [← this]; rfl
    · refine hget_self.trans ?_
      simp [byteRow]
      rfl
    · have qb : j ≠ idb := fun e => q2 (by rw [e])
      exact (hget_tail (hget_ne_of hidn (hk1 j b q r))).trans ((hget_set_ne q).trans ((hget_del_ne qb).trans (hk1 j b q r)))

theorem String_spec {id : Nat} {ob : Option Nat} {l : List UInt8} {H : AH} (hb : Bld H id ob l) (hl : l.length ≤ 140737488351232) :
    ACalls PG strings_Builder_String.n [.ptr id 2 0 0] H fun r H' => r = .str l ∧ ∀ j b, ob ≠ some j → hget H j = some b → hget H' j = some b := by
  obtain ⟨ht, p, v, hg, hp, hv⟩ := hb
  refine strings_Builder_String.of rfl (wpF_start ?_)
  rcases hv with ⟨rfl, rfl, rfl⟩ | ⟨idb, rfl, rfl, hgb, htb, hne, hpos⟩
  · (first | refine ah ?_ | exact ah0 | fail)
    exact fun j b _ q => q
  · (first | refine ah ?_ | exact ah0 | fail)
    refine ⟨_, l, hgb, ?_, rfl, rfl, rfl, by omega, by rw [byteRow_len]; omega, by omega, htb, ?_⟩
    · rw [show (((l.length - 0 : Nat) : Int)).toNat = (byteRow l).length from by rw [byteRow_len]; omega, List.take_length, byteRow_bytes]
    (first | refine ah ?_ | exact ah0 | fail)
    exact fun j b q r => (hget_del_ne (fun e => q (by rw [e]))).trans r
end Go.Proofs.Ytlmplofpclaokaa

/- How tokens are taken. -/
namespace Go.Proofs.Ytlmplofpclaokaa
set_option autoImplicit false
set_option linter.unusedSimpArgs false
set_option linter.unusedVariables false
--HSET
attribute [local irreducible] callA callP ACalls

def tokA (k : Int) (t : List UInt8) (num : Int) (at' : Int) : AV := .agg [.int .i64 k, .str t, .int .u64 num, .int .i64 at']
abbrev fltA (e at' : Int) : AV := .agg [.int .i64 e, .int .i64 at']
abbrev tkB (k : Int) (t : List UInt8) (num : Int) (at' : Int) : Blk := .rows 4 [[.int .i64 k, .str t, .int .u64 num, .int .i64 at']]
abbrev flB (e at' : Int) : Blk := .rows 2 [[.int .i64 e, .int .i64 at']]
/-- What was there is there, but for one block. -/
def Keep (id : Nat) (H H' : AH) : Prop := ∀ j b, j ≠ id → hget H j = some b → hget H' j = some b
/-- What is handed back by what takes a token. -/
structure TkK (s : List UInt8) (at' id : Nat) (H : AH) (R : LR) (r : AV) (H' : AH) : Prop where
  tok : ∀ k t num n, R = .tok k t num n → r = .tup [tokA k t num at', fltA 0 0] ∧ hget H' id = some (lx s (at' + n))
  bad : ∀ e off, R = .bad e off → ∃ k t num a, r = .tup [tokA k t num a, fltA e (at' + off : Nat)]
  keep : Keep id H H'
theorem TkK.of_tok {s : List UInt8} {at' id : Nat} {H : AH} {k : Int} {t : List UInt8} {num n : Nat} {r : AV} {H' : AH} (h : r = .tup [tokA k t num at', fltA 0 0]) (h1 : hget H' id = some (lx s (at' + n))) (h2 : Keep id H H') : TkK s at' id H (.tok k t num n) r H' :=
  ⟨fun k t num n e => by cases e; exact ⟨h, h1⟩, (fun e off q => by cases q), h2⟩
theorem TkK.of_bad {s : List UInt8} {at' id : Nat} {H : AH} {e : Int} {off : Nat} {k num a : Int} {t : List UInt8} {r : AV} {H' : AH} (h : r = .tup [tokA k t num a, fltA e (at' + off : Nat)]) (h2 : Keep id H H') : TkK s at' id H (.bad e off) r H' :=
  ⟨fun k t num n e => (by cases e), (fun e' off' q => by cases q; exact ⟨k, t, num, a, h⟩), h2⟩

/-- Two new blocks, for what is handed back. -/
structure Two (H H1 : AH) (id id2 id3 : Nat) : Prop where
  n2 : id2 ≠ id
  n3 : id3 ≠ id
  n32 : id3 ≠ id2
  g2 : hget H1 id2 = some (tkB 0 [] 0 0)
  g3 : hget H1 id3 = some (flB 0 0)
  keep : ∀ j b, hget H j = some b → hget H1 j = some b
  new : ∀ j b, hget H j = some b → j ≠ id2 ∧ j ≠ id3
theorem Two.mk' {H : AH} {id id2 id3 : Nat} {b : Blk} (hg : hget H id = some b) (h2 : hget H id2 = none) (h3 : hget ((id2, tkB 0 [] 0 0) :: H) id3 = none) : Two H ((id3, flB 0 0) :: (id2, tkB 0 [] 0 0) :: H) id id2 id3 := by
  obtain ⟨n32, h3'⟩ := hget_fresh h3
  have n2 := hget_ne_of h2 hg
  have n3 := hget_ne_of h3' hg
  refine ⟨n2, n3, n32, (hget_tail n32).trans hget_self, hget_self, fun j b q => ?_, fun j b q => ⟨(hget_ne_of h2 q).symm, (hget_ne_of h3' q).symm⟩⟩
  exact (hget_tail (hget_ne_of h3' q)).trans ((hget_tail (hget_ne_of h2 q)).trans q)
theorem Two.three {H H1 : AH} {id id2 id3 id4 : Nat} (h : Two H H1 id id2 id3) {b : Blk} (h4 : hget H1 id4 = none) (hg : hget H id = some b) : id4 ≠ id ∧ id4 ≠ id2 ∧ id4 ≠ id3 :=
  ⟨hget_ne_of h4 (h.keep _ _ hg), hget_ne_of h4 h.g2, hget_ne_of h4 h.g3⟩

theorem token_word_spec {s : List UInt8} {at' id : Nat} {H : AH} (hg : hget H id = some (lx s at')) (ha : at' ≤ s.length) (hs : s.length ≤ 140737488351232) :
    ACalls PG token_word.n [.ptr id 2 0 0] H (TkK s at' id H (.tok 1 ((s.drop at').take (nl (s.drop at'))) 0 (nl (s.drop at')))) := by
  have hdl : (s.drop at').length = s.length - at' := List.length_drop
  have hnl := nl_le (s.drop at')
  refine token_word.of rfl (wpF_start ?_)
  (first | refine ah ?_ | exact ah0 | fail)
  intro id2 hid2 ht2
  (first | refine ah ?_ | exact ah0 | fail)
  intro id3 hid3 ht3
  have tw := Two.mk' hg hid2 hid3
  generalize ((id3, Blk.rows [AV.int .i64 0, AV.int .i64 0].length [[AV.int .i64 0, AV.int .i64 0]]) :: (id2, Blk.rows [AV.int .i64 0, AV.str [], AV.int .u64 0, AV.int .i64 0].length [[AV.int .i64 0, AV.str [], AV.int .u64 0, AV.int .i64 0]]) :: H) = H1 at *
  have hg1 := tw.keep _ _ hg
  have hg1' : hget H1 id = some (.rows 2 [[.str s, .int .i64 (at' : Nat)]]) := hg1
  have n2 := tw.n2
  have n3 := tw.n3
  have n32 := tw.n32
  have g2 : hget H1 id2 = some (.rows 4 [[.int .i64 0, .str [], .int .u64 0, .int .i64 0]]) := tw.g2
  have g3 : hget H1 id3 = some (.rows 2 [[.int .i64 0, .int .i64 0]]) := tw.g3
  (first | refine ah ?_ | exact ah0 | fail)
  refine callF_eq (lexer_rest_spec hg1 ha hs) ?_
  (first | refine ah ?_ | exact ah0 | fail)
  refine callF_eq (name_Lead_spec _ (by omega) _) ?_
  (first | refine ah ?_ | exact ah0 | fail)
  refine callF_to (lexer_cut_spec (n := nl (s.drop at')) hg1 (by omega) hs) ?_
  (first | refine ah ?_ | exact ah0 | fail)
  refine TkK.of_tok rfl ?_ (fun j b q r => ?_)
  · exact hg_of
  · obtain ⟨q2, q3⟩ := tw.new j b r
    have := tw.keep j b r
    exact hg_of

end Go.Proofs.Ytlmplofpclaokaa
