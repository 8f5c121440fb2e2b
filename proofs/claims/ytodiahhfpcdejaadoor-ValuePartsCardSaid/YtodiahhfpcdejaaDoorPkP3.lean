/- Texts of this proof, one behind the other: SimFast2, SimNil, SimAuto, SimSW, SimLoop, SimShelf, CodeA, BldSpec, ListMath, TokMath, TypMath, ValMath, TextMath. -/
import Derived.Test.YtodiahhfpcdejaaDoorPkP2
import Derived.Below
import Derived.Test.YtodiahhfpcdejaaDoorProg
import Derived.KernelRfl
import Derived.Lib.ItoaNum
import Derived.Lib.Join
/- The predicate transformer over frames that are lists: code. -/
namespace Go.Proofs.YtodiahhfpcdejaaDoor
set_option autoImplicit false
set_option linter.unusedSimpArgs false
set_option linter.unusedVariables false

/-- Both ways of a Bool, each with the Bool's own value. -/
structure bsplit (q : Bool) (k : Bool → Prop) : Prop where
  out : k q
theorem bsplit_intro {q : Bool} {k : Bool → Prop} (h1 : q = true → k true) (h2 : q = false → k false) : bsplit q k := ⟨by cases q with | true => exact h1 rfl | false => exact h2 rfl⟩
theorem bsplit_t {q : Bool} {k : Bool → Prop} (h : q = true) (h1 : k true) : bsplit q k := by rw [h]; exact ⟨h1⟩
theorem bsplit_f {q : Bool} {k : Bool → Prop} (h : q = false) (h1 : k false) : bsplit q k := by rw [h]; exact ⟨h1⟩
theorem bsplit_tt {k : Bool → Prop} (h : k true) : bsplit true k := ⟨h⟩
theorem bsplit_ff {k : Bool → Prop} (h : k false) : bsplit false k := ⟨h⟩
/-- .. of a test. -/
theorem bsplit_dec {p : Prop} [Decidable p] {k : Bool → Prop} (h1 : p → k true) (h2 : ¬ p → k false) : bsplit (decide p) k :=
  bsplit_intro (fun h => h1 (of_decide_eq_true h)) (fun h => h2 (of_decide_eq_false h))
theorem bsplit_pos {p : Prop} [Decidable p] {k : Bool → Prop} (h : p) (h1 : k true) : bsplit (decide p) k := bsplit_t (decide_eq_true h) h1
theorem bsplit_neg {p : Prop} [Decidable p] {k : Bool → Prop} (h : ¬ p) (h1 : k false) : bsplit (decide p) k := bsplit_f (decide_eq_false h) h1
theorem bsplit_not {q : Bool} {k : Bool → Prop} (h : bsplit q fun b => k (!b)) : bsplit (!q) k := ⟨h.out⟩

/-- A call: a place to stop. -/
structure callF (P : Program) (f : Nat) (args : List AV) (H : AH) (K : AV → AH → Prop) : Prop where
  out : callA P f args H K
structure callG (P : Program) (f : Nat) (args : List AV) (H0 D H : AH) (K : AV → AH → AH → Prop) : Prop where
  out : (∃ r, callP P f args H0 r ∧ K r D H) ∨ ∃ id b r b', hget D id = some b ∧ callW P f args H0 id b r b' ∧ K r (hdel D id) (hset H id b')
theorem callF_of {P : Program} {f : Nat} {args : List AV} {H : AH} {K : AV → AH → Prop} (h : ACalls P f args H K) : callF P f args H K := ⟨callA_of h⟩
theorem callF_eq {P : Program} {f : Nat} {args : List AV} {H : AH} {K : AV → AH → Prop} {r : AV} (h : ACalls P f args H fun r' H' => r' = r ∧ H' = H) (k : K r H) : callF P f args H K := ⟨callA_eq h k⟩
theorem callG_eq {P : Program} {f : Nat} {args : List AV} {H0 D H : AH} {K : AV → AH → AH → Prop} {r : AV} (hp : r.plain = true) (h : ACalls P f args H0 fun r' H' => r' = r ∧ H' = H0) (k : K r D H) : callG P f args H0 D H K := ⟨.inl ⟨r, callP_plain hp h, k⟩⟩
theorem callG_no {P : Program} {f : Nat} {args : List AV} {H0 D H : AH} {K : AV → AH → AH → Prop} {r : AV} (hp : NoId r) (h : ACalls P f args H0 fun r' H' => r' = r ∧ H' = H0) (k : K r D H) : callG P f args H0 D H K := ⟨.inl ⟨r, .inl ⟨hp, h⟩, k⟩⟩
theorem callG_w {P : Program} {f : Nat} {args : List AV} {H0 D H : AH} {K : AV → AH → AH → Prop} {id : Nat} {b b' : Blk} {r : AV} (hD : hget D id = some b) (hp : NoId r) (hb : BlkN b b') (h : ACalls P f args [(id, b)] fun r' H' => r' = r ∧ H' = [(id, b')])
    (k : K r (hdel D id) (hset H id b')) : callG P f args H0 D H K := ⟨.inr ⟨id, b, r, b', hD, ⟨hp, hb, [], (fun _ _ q => by cases q), h⟩, k⟩⟩

theorem callF_fz {P : Program} {f : Nat} {args args' : List AV} {H : AH} {K : AV → AH → Prop} {r : AV} (hf : FzL H [] args args') (hp : r.plain = true) (h : ACalls P f args' [] fun r' _ => r' = r) (k : K r H) : callF P f args H K :=
  ⟨⟨args', [], fun _ _ q => (by cases q), hf, .inr (h.mono fun r' _ e => by rw [e]; exact ⟨hp, k⟩)⟩⟩
/-- A call that is handed nothing of what is owned; what is owned is forgotten. -/
theorem callF_drop {P : Program} {f : Nat} {args : List AV} {H : AH} {K : AV → AH → Prop} (h : ACalls P f args [] K) : callF P f args H K :=
  ⟨⟨args, [], fun _ _ q => (by cases q), FzL.refl _ _ _, .inl h⟩⟩
theorem callF_plain {P : Program} {f : Nat} {args : List AV} {H : AH} {K : AV → AH → Prop} (h : ACalls P f args [] fun r' _ => r'.plain = true ∧ K r' H) : callF P f args H K :=
  ⟨⟨args, [], fun _ _ q => (by cases q), FzL.refl _ _ _, .inr h⟩⟩
theorem Rl.aggNil {h : Array Obj} {ρ : Loc} {Z : Nat → Prop} {sz : Nat} {pre post : List AV} {x : Value} (hr : Rl h ρ Z (.agg (pre ++ .nilS :: post)) x) : Rl h ρ Z (.agg (pre ++ .rows sz [] :: post)) x := by
  generalize hc : pre ++ AV.nilS :: post = cs at hr
  cases hr with
  | agg _ vs hl hcc hq =>
    subst hc
    refine .agg _ vs (by simpa using hl) (fun i v h1 => ?_) (fun i v y h1 h2 => ?_)
    · by_cases e : i = pre.length
      · subst e; simp at h1; rw [← h1]; rfl
      · refine hcc i v ?_
        rw [List.getElem?_append] at h1 ⊢
        split at h1
        · rename_i q; rw [if_pos q]; exact h1
        · rename_i q
          rw [if_neg q]
          obtain ⟨k, hk⟩ : ∃ k, i - pre.length = k + 1 := ⟨i - pre.length - 1, by omega⟩
          rw [hk] at h1 ⊢
          simpa using h1
    · by_cases e : i = pre.length
      · subst e
        have hy := hq pre.length .nilS y (by simp) h2
        simp at h1
        subst h1
        cases hy
        exact .rowsN sz
      · refine hq i v y ?_ h2
        rw [List.getElem?_append] at h1 ⊢
        split at h1
        · rename_i q; rw [if_pos q]; exact h1
        · rename_i q
          rw [if_neg q]
          obtain ⟨k, hk⟩ : ∃ k, i - pre.length = k + 1 := ⟨i - pre.length - 1, by omega⟩
          rw [hk] at h1 ⊢
          simpa using h1
theorem FzL.nil (H Hc : AH) : FzL H Hc [] [] := FzL.refl H Hc []
theorem FzL.cons {H Hc : AH} {v v' : AV} {vs vs' : List AV} (h : Fz H Hc v v') (hs : FzL H Hc vs vs') : FzL H Hc (v :: vs) (v' :: vs') := by
  refine ⟨by simp [hs.1], fun i a b h1 h2 => ?_⟩
  cases i with
  | zero => simp at h1 h2; rw [← h1, ← h2]; exact h
  | succ i => exact hs.2 i a b (by simpa using h1) (by simpa using h2)
/-- A slice that is owned, of cells that are not, as one that nobody writes. -/
theorem fz_own {H Hc : AH} {id sz lo hi : Nat} {l : List (List AV)} (hg : hget H id = some (.rows sz l)) (hd : hget Hc id = none) (h1 : lo ≤ hi) (h2 : hi ≤ l.length) (hw : ∀ (i : Nat) r, l[i]? = some r → r.length = sz) :
    Fz H Hc (.own id sz lo hi) (.rows sz ((l.take hi).drop lo)) := by
  have key : ∀ i r', ((l.take hi).drop lo)[i]? = some r' → l[lo + i]? = some r' := by
    intro i r' q
    rw [List.getElem?_drop, List.getElem?_take] at q
    split at q
    · exact q
    · cases q
  refine .own id sz lo hi l _ hg hd h2 h1 (by simp; omega) (fun i r' q => hw _ _ (key i r' q)) fun i r r' j v v' q1 q2 q3 q4 => ?_
  rw [key i r' q2] at q1
  simp only [Option.some.injEq] at q1
  subst q1
  rw [q3] at q4
  simp only [Option.some.injEq] at q4
  subst q4
  exact .refl _
/-- What is asked of fewer values is asked of these. -/
theorem ACalls.args {P : Program} {f : Nat} {args args' : List AV} {H : AH} {K : AV → AH → Prop} (h : ACalls P f args' H K) (hw : ∀ h ρ Z xs, RlL h ρ Z args xs → RlL h ρ Z args' xs) : ACalls P f args H K :=
  ⟨h.1, fun w ρ Z xs g hr => h.2 w ρ Z xs g (hw _ _ _ _ hr)⟩
theorem RlL.nilS {h : Array Obj} {ρ : Loc} {Z : Nat → Prop} {sz : Nat} {pre post : List AV} {xs : List Value} (hr : RlL h ρ Z (pre ++ .nilS :: post) xs) : RlL h ρ Z (pre ++ .rows sz [] :: post) xs := by
  refine ⟨by simpa using hr.1, fun i v x h1 h2 => ?_⟩
  by_cases e : i = pre.length
  · subst e
    have hq := hr.2 pre.length .nilS x (by simp) h2
    simp at h1
    subst h1
    cases hq
    exact .rowsN sz
  · refine hr.2 i v x ?_ h2
    rw [List.getElem?_append] at h1 ⊢
    split at h1
    · rename_i q; rw [if_pos q]; exact h1
    · rename_i q
      rw [if_neg q]
      obtain ⟨k, hk⟩ : ∃ k, i - pre.length = k + 1 := ⟨i - pre.length - 1, by omega⟩
      rw [hk] at h1 ⊢
      simpa using h1
theorem hget_ne_of {H : AH} {i j : Nat} {b : Blk} (h : hget H i = none) (h2 : hget H j = some b) : i ≠ j := fun e => by rw [e, h2] at h; cases h
theorem hget_set {H : AH} {i : Nat} {b c : Blk} (h : hget H i = some b) : hget (hset H i c) i = some c := by rw [hget_hset, if_pos rfl, h]; rfl
theorem hget_set_ne {H : AH} {i j : Nat} {c : Blk} (h : j ≠ i) : hget (hset H i c) j = hget H j := by rw [hget_hset, if_neg h]
theorem hget_del_ne {H : AH} {i j : Nat} (h : j ≠ i) : hget (hdel H i) j = hget H j := by rw [hget_hdel, if_neg h]
theorem hdel_none {H : AH} {i : Nat} (h : hget H i = none) : hdel H i = H := by
  induction H with
  | nil => rfl
  | cons p H ih =>
    obtain ⟨k, d⟩ := p
    simp only [hget] at h
    split at h
    · cases h
    · rename_i e
      simp only [hdel]
      rw [if_neg e, ih h]
theorem hdel_cons {H : AH} {i : Nat} {b : Blk} (h : hget H i = none) : hdel ((i, b) :: H) i = H := by
  simp only [hdel]; rw [if_pos trivial, hdel_none h]
theorem hget_tail {id j : Nat} {b : Blk} {H : AH} (h : j ≠ id) : hget ((j, b) :: H) id = hget H id := by simp only [hget]; rw [if_neg (fun e => h e.symm)]
theorem hset_self {id : Nat} {b c : Blk} {H : AH} : hset ((id, b) :: H) id c = (id, c) :: H := by simp [hset]
theorem hget_fresh {id j : Nat} {b : Blk} {H : AH} (h : hget ((j, b) :: H) id = none) : id ≠ j ∧ hget H id = none := by
  simp only [hget] at h
  split at h
  · cases h
  · rename_i e; exact ⟨e, h⟩
theorem hget_self {id : Nat} {b : Blk} {H : AH} : hget ((id, b) :: H) id = some b := by simp [hget]

def applyF (P : Program) (rs : Rs) (d : Option Nat) (L : FL) (H : AH) (K : FL → AH → Prop) : Prop :=
  match rs with
  | .val v => putK L d v fun L => K L H
  | .upd H' => delK L d fun L => K L H'
  | .valH v H' => putK L d v fun L => K L H'
  | .fresh T blk v H' => ∀ id, hget H id = none → tag id = T → putK L d (v id) fun L => K L ((id, blk) :: H')
  | .call f args => callF P f args H fun r H' => putK L d r fun L => K L H'

def opFp (L : FL) (H : AH) (co : CO) (k : Rs → Prop) : Prop :=
  match co with
  | .pick c a b => evX L c fun v => match v with
    | .bool q => bsplit q fun q => match q with
      | true => evX L a fun v => k (.val v)
      | false => evX L b fun v => k (.val v)
    | _ => False
  | co => opF L H co k

def opsCons (P : Program) (o : COp) (ih : (FL → AH → Prop) → FL → AH → Prop) (K : FL → AH → Prop) (L : FL) (H : AH) : Prop :=
    match o.guard with
    | none => opFp L H o.co fun rs => applyF P rs o.dst L H (ih K)
    | some (g, want) => match L.get g with
      | some (.bool q) => bsplit q fun b => match b with
        | true => match want with
          | true => opFp ((g, some (.bool true)) :: L) H o.co fun rs => applyF P rs o.dst ((g, some (.bool true)) :: L) H (ih K)
          | false => putK ((g, some (.bool true)) :: L) o.dst (.tup []) fun L => ih K L H
        | false => match want with
          | false => opFp ((g, some (.bool false)) :: L) H o.co fun rs => applyF P rs o.dst ((g, some (.bool false)) :: L) H (ih K)
          | true => putK ((g, some (.bool false)) :: L) o.dst (.tup []) fun L => ih K L H
      | some (.tup []) => putK L o.dst (.tup []) fun L => ih K L H
      | _ => False

/-- By the recursor itself, so that what is left of a reduction is what the kernel has, too. -/
noncomputable def wpOpsF (P : Program) (os : List COp) (K : FL → AH → Prop) (L : FL) (H : AH) : Prop :=
  @List.rec COp (fun _ => (FL → AH → Prop) → FL → AH → Prop) (fun K L H => K L H) (fun o _ ih => opsCons P o ih) os K L H
theorem wpOpsF_nil (P : Program) (K : FL → AH → Prop) (L : FL) (H : AH) : wpOpsF P [] K L H = K L H := rfl
theorem wpOpsF_cons (P : Program) (o : COp) (os : List COp) (K : FL → AH → Prop) (L : FL) (H : AH) : wpOpsF P (o :: os) K L H = opsCons P o (wpOpsF P os) K L H := rfl

/-- The blocks that the region made: by the slots that hold them. -/
noncomputable def slotF (F : List (Nat × Nat × Blk)) (t : Nat) : Option (Nat × Blk) := @List.rec (Nat × Nat × Blk) (fun _ => Option (Nat × Blk)) none (fun p _ ih => match Nat.beq t p.1 with
    | true => some p.2
    | false => ih) F
def addF (F : List (Nat × Nat × Blk)) (d : Option Nat) (id : Nat) (b : Blk) : List (Nat × Nat × Blk) :=
  match d with
  | some d => (d, id, b) :: F
  | none => F
abbrev FF := List (Nat × Nat × Blk)
def drawF (P : Program) (rs : Rs) (d : Option Nat) (L : FL) (H0 D : AH) (F : FF) (H : AH) (K : FL → AH → FF → AH → Prop) : Prop :=
  match rs with
  | .val v => putK L d v fun L => K L D F H
  | .upd _ => False
  | .valH _ _ => False
  | .fresh T blk v H' => H' = H0 ∧ ∀ id, hget H id = none → tag id = T → putK L d (v id) fun L => K L D (addF F d id blk) ((id, blk) :: H)
  | .call f args => callG P f args H0 D H fun r D' H' => putK L d r fun L => K L D' F H'

/-- .. or it writes one block of D, or one that the region made (the first such write ends them all). -/
noncomputable def drawStF (P : Program) (o : COp) (L : FL) (H0 D : AH) (F : FF) (H : AH) (k : FL → AH → FF → AH → Prop) : Prop :=
  match o.co with
  | .store n x y => evX L x fun v => evX L y fun z => match v with
    | .ptr id sz i j => match (match x with | .t t => slotF F t | _ => none) with
      | some p => ∃ l r, hget [p] id = some (.rows sz l) ∧ l[i]? = some r ∧ z.cells.length = n ∧ allCells z.cells = true ∧ j + n ≤ r.length ∧ hsetN H id (.rows sz (l.set i (over r j z.cells))) fun H' => delK L o.dst fun L => k L D [] H'
      | none => ∃ l r, hget D id = some (.rows sz l) ∧ l[i]? = some r ∧ z.cells.length = n ∧ allCells z.cells = true ∧ j + n ≤ r.length ∧ hsetN H id (.rows sz (l.set i (over r j z.cells))) fun H' => delK L o.dst fun L => k L (hdel D id) F H'
    | _ => False
  | co => opFp L H0 co fun rs => drawF P rs o.dst L H0 D F H k

noncomputable def drawCons (P : Program) (o : COp) (ih : (FL → AH → Prop) → FL → AH → AH → FF → AH → Prop) (K : FL → AH → Prop) (L : FL) (H0 D : AH) (F : FF) (H : AH) : Prop :=
    match o.guard with
    | none => drawStF P o L H0 D F H fun L' D' F' H' => ih K L' H0 D' F' H'
    | some (g, want) => match L.get g with
      | some (.bool q) => bsplit q fun b => match b with
        | true => match want with
          | true => drawStF P o ((g, some (.bool true)) :: L) H0 D F H fun L' D' F' H' => ih K L' H0 D' F' H'
          | false => putK ((g, some (.bool true)) :: L) o.dst (.tup []) fun L => ih K L H0 D F H
        | false => match want with
          | false => drawStF P o ((g, some (.bool false)) :: L) H0 D F H fun L' D' F' H' => ih K L' H0 D' F' H'
          | true => putK ((g, some (.bool false)) :: L) o.dst (.tup []) fun L => ih K L H0 D F H
      | some (.tup []) => putK L o.dst (.tup []) fun L => ih K L H0 D F H
      | _ => False

noncomputable def wpDrawF (P : Program) (os : List COp) (K : FL → AH → Prop) (L : FL) (H0 D : AH) (F : FF) (H : AH) : Prop :=
  @List.rec COp (fun _ => (FL → AH → Prop) → FL → AH → AH → FF → AH → Prop) (fun K L _ _ _ H => K L H) (fun o _ ih => drawCons P o ih) os K L H0 D F H

/-- The block that an operation writes, if it is known ahead of the region. -/
noncomputable def stId (L : FL) (o : COp) : Option Nat :=
  match o.co with
  | .store _ x _ => match x with
    | .t k => match L.get k with
      | some (.ptr id _ _ _) => some id
      | _ => none
    | _ => none
  | _ => none
/-- A block is set apart. -/
structure hdelK (H : AH) (id : Nat) (k : AH → Prop) : Prop where
  out : k (hdel H id)
theorem hdelK_any {H : AH} {id : Nat} {k : AH → Prop} (h : k (hdel H id)) : hdelK H id k := ⟨h⟩
theorem hdelK_top {H : AH} {id : Nat} {b : Blk} {k : AH → Prop} (hn : hget H id = none) (h : k H) : hdelK ((id, b) :: H) id k := ⟨by rw [hdel_cons hn]; exact h⟩
theorem hdelK_down {T : AH} {i id : Nat} {c : Blk} {k : AH → Prop} (h : i ≠ id) (h2 : hdelK T id fun T' => k ((i, c) :: T')) : hdelK ((i, c) :: T) id k :=
  ⟨by rw [show hdel ((i, c) :: T) id = (i, c) :: hdel T id from by simp only [hdel]; rw [if_neg (fun e => h e.symm)]]; exact h2.out⟩
/-- These blocks are set apart. -/
noncomputable def withD (L : FL) (os : List COp) (k : AH → AH → Prop) (H0 D : AH) : Prop :=
  @List.rec COp (fun _ => AH → AH → Prop) k (fun o _ ih H0 D => match stId L o with
    | some id => ∃ b, hget H0 id = some b ∧ hdelK H0 id fun H0' => ih H0' ((id, b) :: D)
    | none => ih H0 D) os H0 D
theorem withD_of {L : FL} {k : AH → AH → Prop} {H : AH} : ∀ (os : List COp) (H0 D : AH), Sub H0 H → Sub D H → (∀ id b, hget D id = some b → hget H0 id = none) → withD L os k H0 D → ∃ H0 D, Sub H0 H ∧ Sub D H ∧ (∀ id b, hget D id = some b → hget H0 id = none) ∧ k H0 D
  | [], H0, D, h1, h2, h3, h => ⟨H0, D, h1, h2, h3, h⟩
  | o :: os, H0, D, h1, h2, h3, h => by
    have h' : (match stId L o with
      | some id => ∃ b, hget H0 id = some b ∧ hdelK H0 id fun H0' => withD L os k H0' ((id, b) :: D)
      | none => withD L os k H0 D) := h
    split at h'
    · rename_i id _
      obtain ⟨b, hb, h'⟩ := h'
      replace h' := h'.out
      refine withD_of os (hdel H0 id) ((id, b) :: D) (fun j c q => ?_) (fun j c q => ?_) (fun j c q => ?_) h'
      · rw [hget_hdel] at q
        split at q
        · cases q
        · exact h1 _ _ q
      · simp only [hget] at q
        split at q
        · rename_i e; subst e; rw [← q]; exact h1 _ _ hb
        · exact h2 _ _ q
      · simp only [hget] at q
        rw [hget_hdel]
        split at q
        · rename_i e; rw [if_pos e]
        · rename_i e; rw [if_neg e]; exact h3 _ _ q
    · exact withD_of os H0 D h1 h2 h3 h'
/-- The region's blocks are chosen: by its stores alone, or by hand. -/
structure drawD (L : FL) (os : List COp) (k : AH → AH → Prop) (H : AH) : Prop where
  out : ∃ H0 D, Sub H0 H ∧ Sub D H ∧ (∀ id b, hget D id = some b → hget H0 id = none) ∧ k H0 D
theorem dAuto {L : FL} {os : List COp} {k : AH → AH → Prop} {H : AH} (h : withD L os k H []) : drawD L os k H := ⟨withD_of os H [] (fun _ _ q => q) (fun _ _ q => by cases q) (fun _ _ q => by cases q) h⟩
theorem dPick {L : FL} {os : List COp} {k : AH → AH → Prop} {H : AH} {id : Nat} {b : Blk} (hb : hget H id = some b) (h : hdelK H id fun H0 => withD L os k H0 [(id, b)]) : drawD L os k H :=
  ⟨withD_of os (hdel H id) [(id, b)] (fun j c q => by
    rw [hget_hdel] at q
    split at q
    · cases q
    · exact q) (fun j c q => by
    simp only [hget] at q
    split at q
    · rename_i e; subst e; rw [← q]; exact hb
    · cases q) (fun j c q => by
    simp only [hget] at q
    split at q
    · rename_i e; rw [hget_hdel, if_pos e]
    · cases q) h.out⟩
theorem wpDrawF_nil (P : Program) (K : FL → AH → Prop) (L : FL) (H0 D : AH) (F : FF) (H : AH) : wpDrawF P [] K L H0 D F H = K L H := rfl
theorem wpDrawF_cons (P : Program) (o : COp) (os : List COp) (K : FL → AH → Prop) (L : FL) (H0 D : AH) (F : FF) (H : AH) : wpDrawF P (o :: os) K L H0 D F H = drawCons P o (wpDrawF P os) K L H0 D F H := rfl

def thenF (next : FL → AH → Prop) (Q : Exit → FL → AH → Prop) : Exit → FL → AH → Prop
  | .normal, L, H => next L H
  | e, L, H => Q e L H

def blockF (id : Nat) (Q : Exit → FL → AH → Prop) : Exit → FL → AH → Prop
  | .exit id', L, H => match Nat.beq id' id with
    | true => Q .normal L H
    | false => Q (.exit id') L H
  | e, L, H => Q e L H

def jumpF (l : Nat) (J : FL → AH → Prop) (Q : Exit → FL → AH → Prop) : Exit → FL → AH → Prop
  | .goto l', L, H => l' = l ∧ J L H
  | e, L, H => Q e L H

/-- Do ways meet behind this code? -/
def isJoin : C → Bool
  | .cond _ _ _ => true
  | .block _ _ => true
  | .scope _ => true
  | .label _ => true
  | .seq _ b => isJoin b
  | _ => false

def WeakF (J : FL → AH → Prop) (L : FL) (H : AH) : Prop := ∃ M Hk, coversZ H Hk M L ∧ Sub Hk H ∧ J M Hk

abbrev WF := Option Nat → (Exit → FL → AH → Prop) → FL → AH → Prop

def fSeq (a : C) (jn : Bool) (iha ihb : WF) : WF
  | none, Q, L, H => match jn with
    | true => (iha none (thenF (ihb none Q) Q) L H ∨ ∃ J : FL → AH → Prop, iha none (thenF (WeakF J) Q) L H ∧ ∀ M Hk, J M Hk → ihb none Q M Hk) ∨
        ∃ M Hk, iha none (thenF (fun L' H' => coversZ H' Hk M L' ∧ Sub Hk H') Q) L H ∧ ihb none Q M Hk
    | false => iha none (thenF (ihb none Q) Q) L H
  | some l, Q, L, H => match hasL a l with
    | true => iha (some l) (thenF (ihb none Q) Q) L H
    | false => ihb (some l) Q L H
def fCond (x : X) (iha ihb : WF) : WF
  | none, Q, L, H => evX L x fun v => match v with
    | .bool q => bsplit q fun q => match q with
      | true => iha none Q L H
      | false => ihb none Q L H
    | _ => False
  | some _, _, _, _ => False
def fBlock (id : Nat) (ih : WF) : WF
  | none, Q, L, H => ih none (blockF id Q) L H
  | some _, _, _, _ => False
def fLoop (ih : WF) : WF
  | none, Q, L, H => ∃ I : Nat → FL → AH → Prop, WeakF (fun M Hk => ∃ n, I n M Hk) L H ∧
      ∀ n L H, I n L H → ih none (thenF (WeakF fun L' H' => ∃ m, m < n ∧ I m L' H') Q) L H
  | some _, _, _, _ => False
def fScope (ih : WF) : WF
  | none, Q, L, H => ∃ (l n0 : Nat) (I : Nat → FL → AH → Prop), ih none (jumpF l (WeakF fun L' H' => ∃ m, m < n0 ∧ I m L' H') Q) L H ∧
      ∀ n L H, I n L H → ih (some l) (jumpF l (WeakF fun L' H' => ∃ m, m < n ∧ I m L' H') Q) L H
  | some _, _, _, _ => False
def fEnd (e : Exit) : WF
  | none, Q, L, H => Q e L H
  | some _, _, _, _ => False
def fLabel (l' : Nat) : WF
  | none, Q, L, H => Q .normal L H
  | some l, Q, L, H => l' = l ∧ Q .normal L H
def fReg (k : (FL → AH → Prop) → FL → AH → Prop) : WF
  | none, Q, L, H => k (Q .normal) L H
  | some _, _, _, _ => False

noncomputable def wpF (P : Program) (c : C) : WF :=
  @C.rec (fun _ => WF)
    (fEnd .normal)
    (fun ops => fReg (wpOpsF P ops))
    (fun pre post => fReg fun K L H => drawD L pre (fun H0 D => wpDrawF P pre (fun L' H' => wpOpsF P post K L' H') L H0 D [] H) H)
    (fun a _ iha ihb => fSeq a (isJoin a) iha ihb)
    (fun x _ _ iha ihb => fCond x iha ihb)
    (fun id _ ih => fBlock id ih)
    (fun _ ih => fLoop ih)
    (fun id => fEnd (.exit id))
    (fun _ ih => fScope ih)
    (fun l => fLabel l)
    (fun l => fEnd (.goto l))
    (fEnd .ret)
    (fun _ _ _ _ => False) c

section
variable (P : Program) (Q : Exit → FL → AH → Prop) (L : FL) (H : AH)
theorem wpF_skip : wpF P .skip none Q L H = Q .normal L H := rfl
theorem wpF_reg (ops : List COp) : wpF P (.reg ops) none Q L H = wpOpsF P ops (Q .normal) L H := rfl
theorem wpF_dreg (pre post : List COp) : wpF P (.dreg pre post) none Q L H = drawD L pre (fun H0 D => wpDrawF P pre (fun L' H' => wpOpsF P post (Q .normal) L' H') L H0 D [] H) H := rfl
theorem wpF_seq (a b : C) (lb : Option Nat) : wpF P (.seq a b) lb Q L H = fSeq a (isJoin a) (wpF P a) (wpF P b) lb Q L H := rfl
theorem wpF_cond (x : X) (a b : C) (lb : Option Nat) : wpF P (.cond x a b) lb Q L H = fCond x (wpF P a) (wpF P b) lb Q L H := rfl
theorem wpF_block (id : Nat) (b : C) (lb : Option Nat) : wpF P (.block id b) lb Q L H = fBlock id (wpF P b) lb Q L H := rfl
theorem wpF_loop (b : C) (lb : Option Nat) : wpF P (.loop b) lb Q L H = fLoop (wpF P b) lb Q L H := rfl
theorem wpF_scope (b : C) (lb : Option Nat) : wpF P (.scope b) lb Q L H = fScope (wpF P b) lb Q L H := rfl
end

section
variable {P : Program}

theorem opFp_of {L : FL} {H : AH} {co : CO} {k : Rs → Prop} (h : opFp L H co k) : ∃ rs, evalOp (frm L) H co = some rs ∧ k rs := by
  cases co
  case pick c a b =>
    obtain ⟨v, h1, h2⟩ := evX_of h
    cases v <;> try exact h2.elim
    rename_i q
    replace h2 := h2.out
    cases q with
    | true => obtain ⟨u, h3, h4⟩ := evX_of h2; exact ⟨_, by simp only [evalOp, h1, h3, Option.bind_some, if_true], h4⟩
    | false => obtain ⟨u, h3, h4⟩ := evX_of h2; exact ⟨_, by simp only [evalOp, h1, h3, Option.bind_some, Bool.false_eq_true, if_false], h4⟩
  all_goals exact opF_of h

theorem frm_same {L : FL} {g : Nat} {v : AV} (h : L.get g = some v) : frm ((g, some v) :: L) = frm L := by
  funext t
  simp only [frm, FL.get_cons]
  split
  · rename_i e; rw [e, h]
  · rfl

theorem applyF_of {rs : Rs} {d : Option Nat} {L : FL} {H : AH} {K : FL → AH → Prop} {K' : Fr → AH → Prop} (hk : ∀ L H, K L H → K' (frm L) H) (h : applyF P rs d L H K) : applyRs P rs d (frm L) H K' := by
  cases rs with
  | val v => simp only [applyF, applyRs, putK_eq, delK_eq] at h ⊢; rw [← frm_put]; exact hk _ _ h
  | upd H' => simp only [applyF, applyRs, putK_eq, delK_eq] at h ⊢; rw [← frm_del]; exact hk _ _ h
  | valH v H' => simp only [applyF, applyRs, putK_eq, delK_eq] at h ⊢; rw [← frm_put]; exact hk _ _ h
  | fresh T blk vf H' => simp only [applyF, applyRs, putK_eq, delK_eq] at h ⊢; intro id hid ht; rw [← frm_put]; exact hk _ _ (h id hid ht)
  | call f args =>
    simp only [applyF, applyRs, putK_eq, delK_eq] at h ⊢
    obtain ⟨a', Hc, h1, h2, h3⟩ := h.out
    refine ⟨a', Hc, h1, h2, ?_⟩
    rcases h3 with h3 | h3
    · exact .inl (h3.mono fun r H' q => by rw [← frm_put]; exact hk _ _ q)
    · exact .inr (h3.mono fun r H' q => ⟨q.1, by show K' ((frm L).put d r) H; rw [← frm_put]; exact hk _ _ q.2⟩)

theorem wpOpsF_of {K : FL → AH → Prop} {K' : Fr → AH → Prop} (hk : ∀ L H, K L H → K' (frm L) H) : ∀ (os : List COp) (L : FL) (H : AH), wpOpsF P os K L H → wpOps P os K' (frm L) H
  | [], L, H, h => hk L H h
  | o :: os, L, H, h => by
    have run : ∀ L H, (opFp L H o.co fun rs => applyF P rs o.dst L H (wpOpsF P os K)) → OA (evalOp (frm L) H o.co) fun rs => applyRs P rs o.dst (frm L) H (wpOps P os K') := by
      intro L H h
      obtain ⟨rs, h1, h2⟩ := opFp_of h
      rw [h1]
      exact applyF_of (fun L H q => wpOpsF_of hk os L H q) h2
    simp only [wpOpsF_cons, opsCons, putK_eq] at h
    simp only [wpOps]
    split at h
    · rename_i hg
      rw [hg]
      exact run L H h
    · rename_i g want hg
      rw [hg]
      simp only
      split at h
      · rename_i q hq
        refine .inl ⟨q, hq, fun e => ?_, fun e => ?_⟩
        · subst e
          replace h := h.out
          rw [← frm_same hq]
          cases q <;> exact run _ H h
        · replace h := h.out
          rw [← frm_same hq, ← frm_put]
          cases q <;> cases want <;> simp at e <;> exact wpOpsF_of hk os _ H h
      · rename_i hq
        refine .inr ⟨hq, ?_⟩
        rw [← frm_put]
        exact wpOpsF_of hk os _ H h
      · exact h.elim

/-- What the slots hold is what may be written, and is owned. -/
structure OkF (Ff : FF) (F H : AH) : Prop where
  sub : ∀ t p, slotF Ff t = some p → hget F p.1 = some p.2
  own : ∀ id b, hget F id = some b → ∃ c, hget H id = some c
theorem OkF.add {Ff : FF} {F H : AH} (h : OkF Ff F H) {d : Option Nat} {id : Nat} {b : Blk} (hid : hget H id = none) : OkF (addF Ff d id b) ((id, b) :: F) ((id, b) :: H) := by
  have old : ∀ t p, slotF Ff t = some p → hget ((id, b) :: F) p.1 = some p.2 := fun t p q => by
    have := h.sub t p q
    simp only [hget]
    rw [if_neg (fun e => by obtain ⟨c, hc⟩ := h.own _ _ this; rw [e, hid] at hc; cases hc)]
    exact this
  refine ⟨fun t p q => ?_, fun id2 b2 q => ?_⟩
  · cases d with
    | none => exact old t p q
    | some d =>
      have q' : (match Nat.beq t d with | true => some (id, b) | false => slotF Ff t) = some p := q
      split at q'
      · simp only [Option.some.injEq] at q'
        subst q'
        simp [hget]
      · exact old t p q'
  · simp only [hget] at q ⊢
    split at q
    · rename_i e; rw [if_pos e]; exact ⟨_, rfl⟩
    · rename_i e; rw [if_neg e]; exact h.own _ _ q
theorem OkF.set {Ff : FF} {F H : AH} (h : OkF Ff F H) (id : Nat) (b : Blk) : OkF Ff F (hset H id b) := ⟨h.sub, fun id2 b2 q => by
  obtain ⟨c, hc⟩ := h.own _ _ q
  rw [hget_hset]
  split
  · rename_i e; rw [← e, hc]; exact ⟨_, rfl⟩
  · exact ⟨c, hc⟩⟩
theorem OkF.fin {Ff : FF} {F H : AH} (h : OkF Ff F H) (id i : Nat) (b : Blk) : OkF [] (hdel F i) (hset H id b) := ⟨fun t p q => (by cases q), fun id2 b2 q => by
  rw [hget_hdel] at q
  split at q
  · cases q
  · exact (h.set id b).own _ _ q⟩

theorem drawStF_of {o : COp} {L : FL} {H0 D : AH} {Ff : FF} {F H : AH} (hF : OkF Ff F H) {k : FL → AH → FF → AH → Prop} {k' : Fr → AH → AH → AH → Prop} (hk : ∀ L D Ff F H, OkF Ff F H → k L D Ff H → k' (frm L) D F H) (h : drawStF P o L H0 D Ff H k) : drawSt P o (frm L) H0 D F H k' := by
  have other : (opFp L H0 o.co fun rs => drawF P rs o.dst L H0 D Ff H k) → drawSt P o (frm L) H0 D F H k' := by
    intro h
    obtain ⟨rs, h1, h2⟩ := opFp_of h
    cases rs with
    | val v =>
      refine .inl ?_
      rw [h1]
      simp only [drawF, OA, drawRs, putK_eq] at h2 ⊢; rw [← frm_put]; exact hk _ _ _ _ _ hF h2
    | upd H' => exact h2.elim
    | valH v H' => exact h2.elim
    | fresh T blk vf H' =>
      refine .inl ?_
      rw [h1]
      simp only [drawF, OA, drawRs, putK_eq] at h2 ⊢; exact ⟨h2.1, fun id hid ht => by rw [← frm_put]; exact hk _ _ _ _ _ (hF.add hid) (h2.2 id hid ht)⟩
    | call f args =>
      simp only [drawF, putK_eq] at h2
      rcases h2.out with ⟨r, q1, q2⟩ | ⟨id, b, r, b', q1, q2, q3⟩
      · refine .inl ?_
        rw [h1]
        simp only [OA, drawRs]
        exact ⟨r, q1, by rw [← frm_put]; exact hk _ _ _ _ _ hF q2⟩
      · exact .inr (.inr (.inl ⟨f, args, id, b, r, b', h1, q1, q2, by rw [← frm_put]; exact hk _ _ _ _ _ (hF.set id b') q3⟩))
  simp only [drawStF, delK_eq] at h
  split at h
  · rename_i n x y hco
    obtain ⟨v, h1, h2⟩ := evX_of h
    obtain ⟨z, h3, h4⟩ := evX_of h2
    cases v <;> try exact h4.elim
    rename_i id sz i j
    simp only at h4
    split at h4
    · rename_i p hp
      cases x with
      | t t =>
        obtain ⟨l, r, q1, q2, q3, q4, q5, q6⟩ := h4
        replace q6 := q6.out
        have hp' : slotF Ff t = some p := hp
        have hg := hF.sub t p hp'
        have e : p.1 = id ∧ p.2 = .rows sz l := by
          simp only [hget] at q1
          split at q1
          · rename_i e; simp only [Option.some.injEq] at q1; exact ⟨by rw [e], q1⟩
          · cases q1
        rw [e.1, e.2] at hg
        refine .inr (.inr (.inr ⟨id, .rows sz l, hset [(id, .rows sz l)] id (.rows sz (l.set i (over r j z.cells))), .rows sz (l.set i (over r j z.cells)), t, sz, i, j, h1, ?_, hg, ?_, ?_, by rw [← frm_del]; exact hk _ _ _ _ _ (hF.fin id id _) q6⟩))
        · simp [COp.looks, hco, CO.looks, X.looks]
        · rw [hco]
          simp only [evalOp, h1, h3, Option.bind_some, hget, if_true, q2]
          simp [q3, q4, q5]
        · simp [hset, hget]
      | _ => cases hp
    · obtain ⟨l, r, q1, q2, q3, q4, q5, q6⟩ := h4
      replace q6 := q6.out
      refine .inr (.inl ⟨id, .rows sz l, hset [(id, .rows sz l)] id (.rows sz (l.set i (over r j z.cells))), .rows sz (l.set i (over r j z.cells)), q1, ?_, ?_, by rw [← frm_del]; exact hk _ _ _ _ _ (hF.set id _) q6⟩)
      · rw [hco]
        simp only [evalOp, h1, h3, Option.bind_some, hget, if_true, q2]
        simp [q3, q4, q5]
      · simp [hset, hget]
  · exact other h

theorem wpDrawF_of {K : FL → AH → Prop} {K' : Fr → AH → Prop} (hk : ∀ L H, K L H → K' (frm L) H) : ∀ (os : List COp) (L : FL) (H0 D : AH) (Ff : FF) (F H : AH), OkF Ff F H → wpDrawF P os K L H0 D Ff H → wpDraw P os K' (frm L) H0 D F H
  | [], L, H0, D, Ff, F, H, _, h => hk L H h
  | o :: os, L, H0, D, Ff, F, H, hF, h => by
    have run : ∀ L D Ff F H, OkF Ff F H → (drawStF P o L H0 D Ff H fun L' D' F' H' => wpDrawF P os K L' H0 D' F' H') → drawSt P o (frm L) H0 D F H fun s' D' F' H' => wpDraw P os K' s' H0 D' F' H' :=
      fun L D Ff F H hF h => drawStF_of hF (fun L D Ff F H hF q => wpDrawF_of hk os L H0 D Ff F H hF q) h
    simp only [wpDrawF_cons, drawCons, putK_eq] at h
    simp only [wpDraw]
    split at h
    · rename_i hg
      rw [hg]
      exact run L D Ff F H hF h
    · rename_i g want hg
      rw [hg]
      simp only
      split at h
      · rename_i q hq
        refine .inl ⟨q, hq, fun e => ?_, fun e => ?_⟩
        · subst e
          replace h := h.out
          rw [← frm_same hq]
          cases q <;> exact run _ D Ff F H hF h
        · replace h := h.out
          rw [← frm_same hq, ← frm_put]
          cases q <;> cases want <;> simp at e <;> exact wpDrawF_of hk os _ H0 D Ff F H hF h
      · rename_i hq
        refine .inr ⟨hq, ?_⟩
        rw [← frm_put]
        exact wpDrawF_of hk os _ H0 D Ff F H hF h
      · exact h.elim

/-- What is left, over lists, is left over frames. -/
def QF (Q : Exit → FL → AH → Prop) : Exit → Fr → AH → Prop := fun e s H => ∃ L, SubFr (frm L) s ∧ Q e L H

theorem SubFr.refl (s : Fr) : SubFr s s := fun _ _ h => h

theorem WeakF.of {J : FL → AH → Prop} {L : FL} {H : AH} (h : WeakF J L H) : Weak (fun s H => ∃ L, s = frm L ∧ J L H) (frm L) H :=
  let ⟨M, Hk, h1, h2, h3⟩ := h
  ⟨frm M, Hk, coversZ_sub M L h1, h2, M, rfl, h3⟩

theorem wpA_mono : ∀ (c : C) (lb : Option Nat) (Q Q' : Exit → Fr → AH → Prop) (s : Fr) (H : AH), (∀ e s H, Q e s H → Q' e s H) → wpA P c lb Q s H → wpA P c lb Q' s H := by
  have callA_mono : ∀ f args H (K K' : AV → AH → Prop), (∀ r H, K r H → K' r H) → callA P f args H K → callA P f args H K' := by
    rintro f args H K K' hk ⟨a', Hc, h1, h2, h3⟩
    refine ⟨a', Hc, h1, h2, ?_⟩
    rcases h3 with h3 | h3
    · exact .inl (h3.mono hk)
    · exact .inr (h3.mono fun r H q => ⟨q.1, hk _ _ q.2⟩)
  have ops : ∀ (os : List COp) (K K' : Fr → AH → Prop), (∀ s H, K s H → K' s H) → ∀ s H, wpOps P os K s H → wpOps P os K' s H := by
    intro os K K' hk
    have app : ∀ rs d s H (K K' : Fr → AH → Prop), (∀ s H, K s H → K' s H) → applyRs P rs d s H K → applyRs P rs d s H K' := by
      intro rs d s H K K' hk h
      cases rs with
      | val v => exact hk _ _ h
      | upd H' => exact hk _ _ h
      | valH v H' => exact hk _ _ h
      | fresh T blk vf H' => exact fun id hid ht => hk _ _ (h id hid ht)
      | call f args => exact callA_mono f args H _ _ (fun r H q => hk _ _ q) h
    induction os with
    | nil => exact fun s H h => hk _ _ h
    | cons o os ih =>
      intro s H h
      simp only [wpOps, OA_iff] at h ⊢
      split at h
      · rename_i hg
        obtain ⟨rs, h1, h2⟩ := h
        exact ⟨rs, h1, app rs _ s H _ _ ih h2⟩
      · rename_i g want hg
        rcases h with ⟨q, h1, h2, h3⟩ | ⟨h1, h3⟩
        · exact .inl ⟨q, h1, fun e => let ⟨rs, h4, h5⟩ := h2 e; ⟨rs, h4, app rs _ s H _ _ ih h5⟩, fun e => ih _ _ (h3 e)⟩
        · exact .inr ⟨h1, ih _ _ h3⟩
  have draw : ∀ (os : List COp) (K K' : Fr → AH → Prop), (∀ s H, K s H → K' s H) → ∀ s H0 D F H, wpDraw P os K s H0 D F H → wpDraw P os K' s H0 D F H := by
    intro os K K' hk
    have app : ∀ o s H0 D F H (k k' : Fr → AH → AH → AH → Prop), (∀ s D F H, k s D F H → k' s D F H) → drawSt P o s H0 D F H k → drawSt P o s H0 D F H k' := by
      intro o s H0 D F H k k' hk h
      rcases h with h | ⟨id, b, H', b', h1, h2, h3, h4⟩ | ⟨f, args, id, b, r, b', h1, h2, h3, h4⟩ | ⟨id, b, H', b', t, n, i, j, h1, h2, h3, h4, h5, h6⟩
      · refine .inl ?_
        simp only [OA_iff] at h ⊢
        obtain ⟨rs, h1, h2⟩ := h
        refine ⟨rs, h1, ?_⟩
        cases rs with
        | val v => exact hk _ _ _ _ h2
        | upd H' => exact h2
        | valH v H' => exact h2.elim
        | fresh T blk v H' => exact ⟨h2.1, fun id hid ht => hk _ _ _ _ (h2.2 id hid ht)⟩
        | call f args => obtain ⟨r, h1, h2⟩ := h2; exact ⟨r, h1, hk _ _ _ _ h2⟩
      · exact .inr (.inl ⟨id, b, H', b', h1, h2, h3, hk _ _ _ _ h4⟩)
      · exact .inr (.inr (.inl ⟨f, args, id, b, r, b', h1, h2, h3, hk _ _ _ _ h4⟩))
      · exact .inr (.inr (.inr ⟨id, b, H', b', t, n, i, j, h1, h2, h3, h4, h5, hk _ _ _ _ h6⟩))
    induction os with
    | nil => exact fun s H0 D F H h => hk _ _ h
    | cons o os ih =>
      intro s H0 D F H h
      simp only [wpDraw] at h ⊢
      split at h
      · exact app _ s H0 D F H _ _ (fun s D F H q => ih s H0 D F H q) h
      · rename_i g want hg
        rcases h with ⟨q, h1, h2, h3⟩ | ⟨h1, h3⟩
        · exact .inl ⟨q, h1, fun e => app _ s H0 D F H _ _ (fun s D F H q => ih s H0 D F H q) (h2 e), fun e => ih _ _ _ _ _ (h3 e)⟩
        · exact .inr ⟨h1, ih _ _ _ _ _ h3⟩
  have then_ : ∀ (K K' : Fr → AH → Prop) (Q Q' : Exit → Fr → AH → Prop), (∀ s H, K s H → K' s H) → (∀ e s H, Q e s H → Q' e s H) → ∀ e s H, thenA K Q e s H → thenA K' Q' e s H := by
    intro K K' Q Q' hk hq e s H h
    cases e with
    | normal => obtain ⟨s', H', h1, h2, h3⟩ := h; exact ⟨s', H', h1, h2, hk _ _ h3⟩
    | _ => exact hq _ _ _ h
  have block_ : ∀ id (Q Q' : Exit → Fr → AH → Prop), (∀ e s H, Q e s H → Q' e s H) → ∀ e s H, blockA id Q e s H → blockA id Q' e s H := by
    intro id Q Q' hq e s H h
    cases e with
    | exit id' => simp only [blockA] at h ⊢; split <;> rename_i e1 <;> simp only [e1, if_true, if_false] at h <;> exact hq _ _ _ h
    | _ => exact hq _ _ _ h
  have jump_ : ∀ l J (Q Q' : Exit → Fr → AH → Prop), (∀ e s H, Q e s H → Q' e s H) → ∀ e s H, jumpA l J Q e s H → jumpA l J Q' e s H := by
    intro l J Q Q' hq e s H h
    cases e with
    | goto l' => exact h
    | _ => exact hq _ _ _ h
  intro c
  induction c with
  | seq a b iha ihb =>
    intro lb Q Q' s H hq h
    cases lb with
    | none =>
      simp only [wpA] at h ⊢
      exact iha none _ _ s H (then_ _ _ _ _ (fun s H q => ihb none _ _ s H hq q) hq) h
    | some l =>
      simp only [wpA] at h ⊢
      split
      · rename_i e1; rw [if_pos e1] at h; exact iha _ _ _ s H (then_ _ _ _ _ (fun s H q => ihb none _ _ s H hq q) hq) h
      · rename_i e1; rw [if_neg e1] at h; exact ihb _ _ _ s H hq h
  | cond x a b iha ihb =>
    intro lb Q Q' s H hq h
    cases lb with
    | none => simp only [wpA] at h ⊢; obtain ⟨q, h1, h2, h3⟩ := h; exact ⟨q, h1, fun e => iha _ _ _ s H hq (h2 e), fun e => ihb _ _ _ s H hq (h3 e)⟩
    | some l => simp [wpA] at h
  | block id b ih =>
    intro lb Q Q' s H hq h
    cases lb with
    | none => simp only [wpA] at h ⊢; exact ih _ _ _ s H (block_ id _ _ hq) h
    | some l => simp [wpA] at h
  | loop b ih =>
    intro lb Q Q' s H hq h
    cases lb with
    | none =>
      simp only [wpA] at h ⊢
      obtain ⟨I, h1, h2⟩ := h
      exact ⟨I, h1, fun n s H hi => ih _ _ _ s H (then_ _ _ _ _ (fun _ _ q => q) hq) (h2 n s H hi)⟩
    | some l => simp [wpA] at h
  | scope b ih =>
    intro lb Q Q' s H hq h
    cases lb with
    | none =>
      simp only [wpA] at h ⊢
      obtain ⟨l, I, h1, h2⟩ := h
      exact ⟨l, I, ih _ _ _ s H (jump_ _ _ _ _ hq) h1, fun n s H hi => ih _ _ _ s H (jump_ _ _ _ _ hq) (h2 n s H hi)⟩
    | some l => simp [wpA] at h
  | reg os =>
    intro lb Q Q' s H hq h
    cases lb with
    | none => simp only [wpA] at h ⊢; exact ops os _ _ (fun s H q => hq _ _ _ q) s H h
    | some l => simp [wpA] at h
  | dreg pre post =>
    intro lb Q Q' s H hq h
    cases lb with
    | none => simp only [wpA] at h ⊢; obtain ⟨H0, D, h1, h2, h3, h4⟩ := h; exact ⟨H0, D, h1, h2, h3, draw pre _ _ (fun s H q => ops post _ _ (fun s H q => hq _ _ _ q) s H q) s H0 D [] H h4⟩
    | some l => simp [wpA] at h
  | label l' =>
    intro lb Q Q' s H hq h
    cases lb with
    | none => exact hq _ _ _ h
    | some l => exact ⟨h.1, hq _ _ _ h.2⟩
  | _ =>
    intro lb Q Q' s H hq h
    cases lb with
    | none => first | exact hq _ _ _ h | exact h.elim
    | some l => simp [wpA] at h

/-- What holds over lists holds over frames. 'R': a post over frames that does not ask for more than a list knows. -/
theorem wpF_of : ∀ (c : C) (lb : Option Nat) (Q : Exit → FL → AH → Prop) (Q' : Exit → Fr → AH → Prop) (L : FL) (H : AH), (∀ e L H, Q e L H → Q' e (frm L) H) → wpF P c lb Q L H → wpA P c lb Q' (frm L) H := by
  have then_ : ∀ (K : FL → AH → Prop) (K' : Fr → AH → Prop) (Q : Exit → FL → AH → Prop) (Q' : Exit → Fr → AH → Prop), (∀ L H, K L H → Weak K' (frm L) H) → (∀ e L H, Q e L H → Q' e (frm L) H) → ∀ e L H, thenF K Q e L H → thenA K' Q' e (frm L) H := by
    intro K K' Q Q' hk hq e L H h
    cases e with
    | normal => exact hk _ _ h
    | _ => exact hq _ _ _ h
  have block_ : ∀ id (Q : Exit → FL → AH → Prop) (Q' : Exit → Fr → AH → Prop), (∀ e L H, Q e L H → Q' e (frm L) H) → ∀ e L H, blockF id Q e L H → blockA id Q' e (frm L) H := by
    intro id Q Q' hq e L H h
    cases e with
    | exit id' =>
      simp only [blockF] at h
      simp only [blockA]
      split at h
      · rename_i e1; rw [if_pos (Nat.eq_of_beq_eq_true e1)]; exact hq _ _ _ h
      · rename_i e1; rw [if_neg (fun q => by rw [q, Nat.beq_refl] at e1; cases e1)]; exact hq _ _ _ h
    | _ => exact hq _ _ _ h
  have jump_ : ∀ l J J' (Q : Exit → FL → AH → Prop) (Q' : Exit → Fr → AH → Prop), (∀ L H, J L H → J' (frm L) H) → (∀ e L H, Q e L H → Q' e (frm L) H) → ∀ e L H, jumpF l J Q e L H → jumpA l J' Q' e (frm L) H := by
    intro l J J' Q Q' hj hq e L H h
    cases e with
    | goto l' => exact ⟨h.1, hj _ _ h.2⟩
    | _ => exact hq _ _ _ h
  have self : ∀ (K : Fr → AH → Prop) s H, K s H → Weak K s H := fun K s H h => ⟨s, H, (SubFr.refl s).fz, Sub.refl H, h⟩
  intro c
  induction c with
  | seq a b iha ihb =>
    intro lb Q Q' L H hq h
    cases lb with
    | none =>
      simp only [wpF_seq, fSeq] at h
      simp only [wpA]
      have plain : wpF P a none (thenF (wpF P b none Q) Q) L H → wpA P a none (thenA (wpA P b none Q') Q') (frm L) H :=
        iha none _ _ L H (then_ _ _ _ _ (fun L H q => self _ _ _ (ihb none _ _ L H hq q)) hq)
      split at h
      · rcases h with (h | ⟨J, h1, h2⟩) | ⟨M, Hk, h1, h2⟩
        · exact plain h
        · refine iha none _ _ L H (then_ _ _ _ _ (fun L' H' q => ?_) hq) h1
          obtain ⟨M, Hk, q1, q2, q3⟩ := q
          exact ⟨frm M, Hk, coversZ_sub M L' q1, q2, ihb none _ _ M Hk hq (h2 M Hk q3)⟩
        · exact iha none _ _ L H (then_ _ _ _ _ (fun L' H' q => ⟨frm M, Hk, coversZ_sub M L' q.1, q.2, ihb none _ _ M Hk hq h2⟩) hq) h1
      · exact plain h
    | some l =>
      simp only [wpF_seq, fSeq] at h
      simp only [wpA]
      split at h
      · rename_i e1; rw [if_pos e1]; exact iha _ _ _ L H (then_ _ _ _ _ (fun L H q => self _ _ _ (ihb none _ _ L H hq q)) hq) h
      · rename_i e1; rw [if_neg (by rw [e1]; simp)]; exact ihb _ _ _ L H hq h
  | cond x a b iha ihb =>
    intro lb Q Q' L H hq h
    cases lb with
    | none =>
      simp only [wpF_cond, fCond] at h
      simp only [wpA]
      obtain ⟨v, h1, h2⟩ := evX_of h
      cases v <;> try exact h2.elim
      rename_i q
      replace h2 := h2.out
      refine ⟨q, h1, fun e => ?_, fun e => ?_⟩
      · subst e; exact iha _ _ _ L H hq h2
      · subst e; exact ihb _ _ _ L H hq h2
    | some l => exact h.elim
  | block id b ih =>
    intro lb Q Q' L H hq h
    cases lb with
    | none => simp only [wpF_block, fBlock] at h; simp only [wpA]; exact ih _ _ _ L H (block_ id _ _ hq) h
    | some l => exact h.elim
  | loop b ih =>
    intro lb Q Q' L H hq h
    cases lb with
    | none =>
      simp only [wpF_loop, fLoop] at h
      simp only [wpA]
      obtain ⟨I, h1, h2⟩ := h
      refine ⟨fun n s H => ∃ L, s = frm L ∧ I n L H, ?_, fun n s H ⟨L, e, hi⟩ => ?_⟩
      · obtain ⟨s', H', q1, q2, L', e, n, q3⟩ := h1.of
        exact ⟨s', H', q1, q2, n, L', e, q3⟩
      · subst e
        refine ih _ _ _ L H (then_ _ _ _ _ (fun L' H' q => ?_) hq) (h2 n L H hi)
        obtain ⟨s', H2, q1, q2, L2, e, m, q3, q4⟩ := q.of
        exact ⟨s', H2, q1, q2, m, q3, L2, e, q4⟩
    | some l => exact h.elim
  | scope b ih =>
    intro lb Q Q' L H hq h
    cases lb with
    | none =>
      simp only [wpF_scope, fScope] at h
      simp only [wpA]
      obtain ⟨l, n0, I, h1, h2⟩ := h
      refine ⟨l, fun n s H => ∃ L, s = frm L ∧ I n L H, ?_, fun n s H ⟨L, e, hi⟩ => ?_⟩
      · refine ih _ _ _ L H (jump_ _ _ _ _ _ (fun L' H' q => ?_) hq) h1
        obtain ⟨s', H2, q1, q2, L2, e, m, _, q3⟩ := q.of
        exact ⟨s', H2, q1, q2, m, L2, e, q3⟩
      · subst e
        refine ih _ _ _ L H (jump_ _ _ _ _ _ (fun L' H' q => ?_) hq) (h2 n L H hi)
        obtain ⟨s', H2, q1, q2, L2, e, m, q3, q4⟩ := q.of
        exact ⟨s', H2, q1, q2, m, q3, L2, e, q4⟩
    | some l => exact h.elim
  | reg os =>
    intro lb Q Q' L H hq h
    cases lb with
    | none => rw [wpF_reg] at h; simp only [wpA]; exact wpOpsF_of (fun L H q => hq _ _ _ q) os L H h
    | some l => exact h.elim
  | dreg pre post =>
    intro lb Q Q' L H hq h
    cases lb with
    | none =>
      rw [wpF_dreg] at h
      simp only [wpA]
      obtain ⟨H0, D, h1, h2, h3, h4⟩ := h.out
      exact ⟨H0, D, h1, h2, h3, wpDrawF_of (fun L H q => wpOpsF_of (fun L H q => hq _ _ _ q) post L H q) pre L H0 D [] [] H ⟨fun t p q => by (cases q), fun id b q => by (cases q)⟩ h4⟩
    | some l => exact h.elim
  | label l' =>
    intro lb Q Q' L H hq h
    cases lb with
    | none => exact hq _ _ _ h
    | some l => exact ⟨h.1, hq _ _ _ h.2⟩
  | _ =>
    intro lb Q Q' L H hq h
    cases lb with
    | none => first | exact hq _ _ _ h | exact h.elim
    | some l => exact h.elim

end

/-! ### Results, over lists -/
def resF1 (L : FL) (H : AH) (r : CRes) (k : AV → Prop) : Prop :=
  match r with
  | .t n => match L.get n with
    | some v => k v
    | none => False
  | .cell n sz => match L.get n with
    | some (.ptr id z i j) => ∃ l r, hget H id = some (.rows z l) ∧ l[i]? = some r ∧ oA (partA (r.drop j) 0 sz) k
    | _ => False
  | .bad => False

def resFs (L : FL) (H : AH) : List CRes → (List AV → Prop) → Prop
  | [], k => k []
  | r :: rs, k => resF1 L H r fun v => resFs L H rs fun vs => k (v :: vs)

def endF (rs : List CRes) (K : AV → AH → Prop) : Exit → FL → AH → Prop
  | .normal, L, H => resFs L H rs fun vs => match vs with | [v] => K v H | vs => K (.tup vs) H
  | .ret, L, H => resFs L H rs fun vs => match vs with | [v] => K v H | vs => K (.tup vs) H
  | _, _, _ => False

theorem resFs_of {L : FL} {H : AH} : ∀ {rs : List CRes} {k : List AV → Prop}, resFs L H rs k → ∃ vs, resL (frm L) H rs = some vs ∧ k vs
  | [], k, h => ⟨[], rfl, h⟩
  | r :: rs, k, h => by
    have one : ∃ v, resOne (frm L) H r = some v ∧ resFs L H rs fun vs => k (v :: vs) := by
      simp only [resFs] at h
      cases r with
      | t n =>
        simp only [resF1] at h
        split at h
        · rename_i v hv; exact ⟨v, hv, h⟩
        · exact h.elim
      | cell n sz =>
        simp only [resF1] at h
        split at h
        · rename_i id z i j hv
          obtain ⟨l, r, h1, h2, h3⟩ := h
          obtain ⟨v, h4, h5⟩ := oA_of h3
          refine ⟨v, ?_, h5⟩
          have : frm L n = some (.ptr id z i j) := hv
          simp only [resOne, this, Option.bind_some, readA, h1, if_true, h2, Option.map_some, h4]
        · exact h.elim
      | bad => exact h.elim
    obtain ⟨v, h1, h2⟩ := one
    obtain ⟨vs, h3, h4⟩ := resFs_of h2
    exact ⟨v :: vs, by simp only [resL, h1, h3, Option.bind_some], h4⟩

theorem endF_of {rs : List CRes} {K : AV → AH → Prop} : ∀ e L H, endF rs K e L H → endA rs K e (frm L) H := by
  have fin : ∀ L H, (resFs L H rs fun vs => match vs with | [v] => K v H | vs => K (.tup vs) H) → OA (resA (frm L) H rs) fun r => K r H := by
    intro L H h
    obtain ⟨vs, h1, h2⟩ := resFs_of h
    rw [OA_iff]
    simp only [resA, h1, Option.bind_some]
    split
    · exact ⟨_, rfl, h2⟩
    · rename_i hne
      refine ⟨_, rfl, ?_⟩
      split at h2
      · rename_i v; exact absurd rfl (hne v)
      · exact h2
  intro e L H h
  cases e with
  | normal => exact fin L H h
  | ret => exact fin L H h
  | _ => exact h.elim

/-- A function's arguments, as a list. -/
def argsL : Nat → List AV → FL
  | _, [] => []
  | n, v :: vs => (n, some v) :: argsL (n + 1) vs

theorem argsL_get : ∀ (vs : List AV) (n t : Nat), (argsL n vs).get t = if n ≤ t then vs[t - n]? else none
  | [], n, t => by simp only [argsL]; rw [show FL.get [] t = none from rfl]; simp
  | v :: vs, n, t => by
    rw [argsL, FL.get_cons, argsL_get vs (n + 1) t]
    by_cases h1 : t = n
    · subst h1; simp
    · rw [if_neg h1]
      by_cases h2 : n ≤ t
      · rw [if_pos (by omega), if_pos h2, show t - n = (t - (n + 1)) + 1 from by omega]
        simp
      · rw [if_neg (by omega), if_neg h2]

theorem initFr_frm (vs : List AV) : initFr vs = frm (argsL 0 vs) := by
  funext t
  simp [initFr, frm, argsL_get]

theorem wpF_start {P : Program} {c : C} {rs : List CRes} {K : AV → AH → Prop} {args : List AV} {H : AH} (h : wpF P c none (endF rs K) (argsL 0 args) H) : wpA P c none (endA rs K) (initFr args) H := by
  rw [initFr_frm]
  exact wpF_of c none _ _ _ H endF_of h

end Go.Proofs.YtodiahhfpcdejaaDoor

/- A nil slice is, where nobody asks, an empty one. -/
namespace Go.Proofs.YtodiahhfpcdejaaDoor
set_option autoImplicit false
set_option linter.unusedSimpArgs false
set_option linter.unusedVariables false

/-- The same, with empty slices in the place of nil ones. -/
inductive Nw : AV → AV → Prop
  | refl (v : AV) : Nw v v
  | nil (sz : Nat) : Nw .nilS (.rows sz [])
  | agg (cs cs' : List AV) (hl : cs.length = cs'.length) (h : ∀ (i : Nat) v v', cs[i]? = some v → cs'[i]? = some v' → Nw v v') : Nw (.agg cs) (.agg cs')
  | rows (sz : Nat) (l l' : List (List AV)) (hl : l.length = l'.length) (hw : ∀ (i : Nat) r r', l[i]? = some r → l'[i]? = some r' → r.length = r'.length)
      (h : ∀ (i : Nat) r r' (j : Nat) v v', l[i]? = some r → l'[i]? = some r' → r[j]? = some v → r'[j]? = some v' → Nw v v') : Nw (.rows sz l) (.rows sz l')
  | fp (cs cs' : List AV) (hl : cs.length = cs'.length) (h : ∀ (i : Nat) v v', cs[i]? = some v → cs'[i]? = some v' → Nw v v') : Nw (.fp cs) (.fp cs')

theorem Nw.cell {v v' : AV} (h : Nw v v') : v'.isCell = v.isCell := by cases h <;> rfl

theorem Nw.rl {v v' : AV} (hn : Nw v v') : ∀ {h : Array Obj} {ρ : Loc} {Z : Nat → Prop} {x : Value}, Rl h ρ Z v x → Rl h ρ Z v' x := by
  induction hn with
  | refl v => exact fun h => h
  | nil sz => intro h ρ Z x hr; cases hr; exact .rowsN sz
  | agg cs cs' hl hp ih =>
    intro h ρ Z x hr
    cases hr with
    | agg _ vs h1 h2 h3 =>
      refine .agg cs' vs (by omega) (fun i v q => ?_) (fun i v y q1 q2 => ?_)
      · obtain ⟨a, ha⟩ := get_same hl q
        rw [(hp i a v ha q).cell]; exact h2 i a ha
      · obtain ⟨a, ha⟩ := get_same hl q1
        exact ih i a v ha q1 (h3 i a y ha q2)
  | rows sz l l' hl hw hp ih =>
    intro h ρ Z x hr
    cases hr with
    | rows _ _ b o n c f hn hnc hz hw2 hcc hm hr =>
      refine .rows sz l' b o n c f (by omega) hnc hz (fun i r q => ?_) (fun i r j v q1 q2 => ?_) (fun i r j v q1 q2 => ?_) (fun i r j v q1 q2 => ?_)
      · obtain ⟨a, ha⟩ := get_same hl q
        rw [← hw i a r ha q]; exact hw2 i a ha
      · obtain ⟨a, ha⟩ := get_same hl q1
        obtain ⟨u, hu⟩ := get_same (hw i a r ha q1) q2
        rw [(hp i a r j u v ha q1 hu q2).cell]; exact hcc i a j u ha hu
      · obtain ⟨a, ha⟩ := get_same hl q1
        obtain ⟨u, hu⟩ := get_same (hw i a r ha q1) q2
        exact hm i a j u ha hu
      · obtain ⟨a, ha⟩ := get_same hl q1
        obtain ⟨u, hu⟩ := get_same (hw i a r ha q1) q2
        exact ih i a r j u v ha q1 hu q2 (hr i a j u ha hu)
    | rowsN _ =>
      have : l' = [] := List.eq_nil_of_length_eq_zero hl.symm
      subst this; exact .rowsN sz
    | rowsE _ a c =>
      have : l' = [] := List.eq_nil_of_length_eq_zero hl.symm
      subst this; exact .rowsE sz a c
  | fp cs cs' hl hp ih =>
    intro h ρ Z x hr
    cases hr with
    | fp _ b o f hz hcc hm hr =>
      refine .fp cs' b o f (fun q => hz (by omega)) (fun i v q => ?_) (fun i v q => ?_) (fun i v q => ?_)
      · obtain ⟨a, ha⟩ := get_same hl q
        rw [(hp i a v ha q).cell]; exact hcc i a ha
      · obtain ⟨a, ha⟩ := get_same hl q
        exact hm i a ha
      · obtain ⟨a, ha⟩ := get_same hl q
        exact ih i a v ha q (hr i a ha)

theorem hset_tail {id j : Nat} {b c : Blk} {H : AH} (h : j ≠ id) : hset ((j, b) :: H) id c = (j, b) :: hset H id c := by simp only [hset]; rw [if_neg (fun e => h e.symm)]
/-- .. of lists. -/
def NwL (l l' : List AV) : Prop := l.length = l'.length ∧ ∀ (i : Nat) v v', l[i]? = some v → l'[i]? = some v' → Nw v v'
theorem NwL.refl (l : List AV) : NwL l l := ⟨rfl, fun i v v' h1 h2 => by rw [h1] at h2; cases h2; exact .refl _⟩
theorem NwL.cons {v v' : AV} {l l' : List AV} (h : Nw v v') (hs : NwL l l') : NwL (v :: l) (v' :: l') := by
  refine ⟨by simp [hs.1], fun i a b h1 h2 => ?_⟩
  cases i with
  | zero => simp at h1 h2; rw [← h1, ← h2]; exact h
  | succ i => exact hs.2 i a b (by simpa using h1) (by simpa using h2)
theorem NwL.append {a a' b b' : List AV} (h1 : NwL a a') (h2 : NwL b b') : NwL (a ++ b) (a' ++ b') := by
  refine ⟨by simp [h1.1, h2.1], fun i v v' q1 q2 => ?_⟩
  rw [List.getElem?_append] at q1 q2
  rw [← h1.1] at q2
  split at q1 <;> rename_i hlt
  · rw [if_pos hlt] at q2; exact h1.2 i v v' q1 q2
  · rw [if_neg hlt] at q2; exact h2.2 _ v v' q1 q2

theorem ACalls.nw {P : Program} {f : Nat} {args args' : List AV} {H : AH} {K : AV → AH → Prop} (h : ACalls P f args' H K) (hn : NwL args args') : ACalls P f args H K :=
  h.args fun h ρ Z xs hr => ⟨by rw [← hn.1]; exact hr.1, fun i v x q1 q2 => by
    obtain ⟨a, ha⟩ := get_same hn.1 q1
    exact (hn.2 i a v ha q1).rl (hr.2 i a x ha q2)⟩

/-- What the cells are, with empty slices in the place of nil ones. -/
def Sh.OkN : Sh → List AV → Prop
  | .int k, vs => ∃ n, vs = [.int k n] ∧ (Lit.int k n).wf = true
  | .bool, vs => ∃ b, vs = [.bool b]
  | .str, vs => ∃ l : List UInt8, vs = [.str l] ∧ l.length ≤ 140737488351232
  | .u, vs => vs = []
  | .p a b, vs => ∃ x y, vs = x ++ y ∧ a.OkN x ∧ b.OkN y
  | .slice sz bytes e, vs => ∃ l, vs = [.rows sz l] ∧ l.length * bytes ≤ 140737488351232 ∧ ∀ r ∈ l, e.OkN r
  | .ptr e, vs => vs = [.nilP] ∨ ∃ r, vs = [.fp r] ∧ e.OkN r
  | .no, _ => False

theorem Sh.Ok.nonil : ∀ {sh : Sh} {vs : List AV}, sh.Ok vs → ∃ vs', NwL vs vs' ∧ sh.OkN vs'
  | .int k, vs, h => ⟨vs, .refl _, h⟩
  | .bool, vs, h => ⟨vs, .refl _, h⟩
  | .str, vs, h => ⟨vs, .refl _, h⟩
  | .u, vs, h => ⟨vs, .refl _, h⟩
  | .p a b, vs, h => by
    obtain ⟨x, y, rfl, h1, h2⟩ := h
    obtain ⟨x', q1, q2⟩ := Sh.Ok.nonil (sh := a) h1
    obtain ⟨y', q3, q4⟩ := Sh.Ok.nonil (sh := b) h2
    exact ⟨x' ++ y', q1.append q3, x', y', rfl, q2, q4⟩
  | .slice sz bytes e, vs, h => by
    rcases h with rfl | ⟨l, rfl, hb, he⟩
    · exact ⟨[.rows sz []], .cons (.nil sz) (.refl _), [], rfl, by simp, by simp⟩
    · obtain ⟨l', q1, q2⟩ := exists_list l.length (Q := fun i r' => ∃ r, l[i]? = some r ∧ NwL r r' ∧ e.OkN r') (fun i hi => by
        obtain ⟨r', a1, a2⟩ := Sh.Ok.nonil (sh := e) (he _ (List.getElem_mem hi))
        exact ⟨r', _, List.getElem?_eq_getElem hi, a1, a2⟩)
      refine ⟨[.rows sz l'], .cons (.rows sz l l' q1.symm (fun i r r' a1 a2 => ?_) (fun i r r' j v v' a1 a2 a3 a4 => ?_)) (.refl _), l', rfl, by rw [q1]; exact hb, fun r' hr => ?_⟩
      · obtain ⟨r0, b1, b2, _⟩ := q2 i r' a2
        rw [a1] at b1; cases b1; exact b2.1
      · obtain ⟨r0, b1, b2, _⟩ := q2 i r' a2
        rw [a1] at b1; cases b1; exact b2.2 j v v' a3 a4
      · obtain ⟨i, hi⟩ := List.getElem?_of_mem hr
        obtain ⟨_, _, _, b3⟩ := q2 i r' hi
        exact b3
  | .no, vs, h => h.elim
  | .ptr e, vs, h => by
    rcases h with rfl | ⟨r, rfl, he⟩
    · exact ⟨_, .refl _, .inl rfl⟩
    · obtain ⟨r', q1, q2⟩ := Sh.Ok.nonil (sh := e) he
      exact ⟨[.fp r'], .cons (.fp r r' q1.1 q1.2) (.refl _), .inr ⟨r', rfl, q2⟩⟩

def ArgOkN (agg : Bool) (sh : Sh) (av : AV) : Prop :=
  match agg with
  | true => ∃ vs, av = .agg vs ∧ sh.OkN vs
  | false => sh.OkN [av]
theorem ArgOk.nonil {agg : Bool} {sh : Sh} {av : AV} (h : ArgOk agg sh av) : ∃ av', ArgOkN agg sh av' ∧ Nw av av' := by
  cases agg with
  | true =>
    obtain ⟨vs, rfl, h⟩ := h
    obtain ⟨vs', q1, q2⟩ := h.nonil
    exact ⟨.agg vs', ⟨vs', rfl, q2⟩, .agg vs vs' q1.1 q1.2⟩
  | false =>
    obtain ⟨vs', q1, q2⟩ := Sh.Ok.nonil (sh := sh) h
    match vs', q1, q2 with
    | [v'], q1, q2 => exact ⟨v', q2, q1.2 0 av v' rfl rfl⟩
    | [], q1, _ => have := q1.1; simp at this
    | _ :: _ :: _, q1, _ => have := q1.1; simp at this

theorem tdiv_nn {a b : Int} (h1 : 0 ≤ a) (h2 : 0 < b) : a.tdiv b = a / b ∧ 0 ≤ a / b ∧ a / b ≤ a := by
  refine ⟨Int.tdiv_eq_ediv_of_nonneg h1, Int.ediv_nonneg h1 (by omega), Int.ediv_le_self _ h1⟩
theorem tmod_nn {a b : Int} (h1 : 0 ≤ a) (h2 : 0 < b) : a.tmod b = a % b ∧ 0 ≤ a % b ∧ a % b < b := 
  ⟨Int.tmod_eq_emod_of_nonneg h1, Int.emod_nonneg _ (by omega), Int.emod_lt_of_pos _ h2⟩
theorem rng_quo_u64 {a b : Int} {k : Int → Prop} (h1 : 0 ≤ a) (h2 : a ≤ 18446744073709551615) (h3 : 0 < b) (h : k (a / b)) : rng (IntKind.wrap .u64 (a.tdiv b)) k := by
  obtain ⟨e, e1, e2⟩ := tdiv_nn h1 h3
  rw [e]; exact rng_u64 e1 (by omega) h
theorem rng_quo_i64 {a b : Int} {k : Int → Prop} (h1 : 0 ≤ a) (h2 : a ≤ 9223372036854775807) (h3 : 0 < b) (h : k (a / b)) : rng (IntKind.wrap .i64 (a.tdiv b)) k := by
  obtain ⟨e, e1, e2⟩ := tdiv_nn h1 h3
  rw [e]; exact rng_i64 (by omega) (by omega) h
theorem rng_rem_u64 {a b : Int} {k : Int → Prop} (h1 : 0 ≤ a) (h2 : b ≤ 18446744073709551615) (h3 : 0 < b) (h : k (a % b)) : rng (IntKind.wrap .u64 (a.tmod b)) k := by
  obtain ⟨e, e1, e2⟩ := tmod_nn h1 h3
  rw [e]; exact rng_u64 e1 (by omega) h
theorem rng_rem_i64 {a b : Int} {k : Int → Prop} (h1 : 0 ≤ a) (h2 : b ≤ 9223372036854775807) (h3 : 0 < b) (h : k (a % b)) : rng (IntKind.wrap .i64 (a.tmod b)) k := by
  obtain ⟨e, e1, e2⟩ := tmod_nn h1 h3
  rw [e]; exact rng_i64 (by omega) (by omega) h

/-- What is owned by others stays as it is. -/
theorem ACalls.frame {P : Program} {f : Nat} {args : List AV} {K : AV → Prop} (h : ACalls P f args [] fun r _ => K r) (H : AH) : ACalls P f args H fun r H' => K r ∧ H' = H := by
  refine ⟨h.1, fun w ρ Z xs hg hr => (h.2 w ρ Z xs (hg.forget fun _ _ q => by cases q) hr).mono fun e w' ⟨x, r, H', ρ', Z', a, g, c, d, k⟩ => ?_⟩
  obtain ⟨q1, q2⟩ := hg.frame (fun _ _ q => by cases q) d g (HS' := H) fun id b q => .inr ⟨q, rfl⟩
  exact ⟨x, r, H, ρ', Z', a, q1, c, q2, k, rfl⟩
end Go.Proofs.YtodiahhfpcdejaaDoor

/- Steps that are alike everywhere, as arguments that a proof fills in by itself. -/
namespace Go.Proofs.YtodiahhfpcdejaaDoor
set_option autoImplicit false
set_option linter.unusedVariables false
/-- A fresh block is none of those that are there. -/
def neAll : AH → Nat → Prop
  | [], _ => True
  | (i, _) :: H, j => j ≠ i ∧ neAll H j
theorem neAll_of {H : AH} {j : Nat} (h : hget H j = none) : neAll H j := by
  induction H with
  | nil => trivial
  | cons p H ih =>
    obtain ⟨i, b⟩ := p
    obtain ⟨a, c⟩ := hget_fresh h
    exact ⟨a, ih c⟩
theorem hget_none {H : AH} {j : Nat} (h : neAll H j) : hget H j = none := by
  induction H with
  | nil => rfl
  | cons p H ih =>
    obtain ⟨i, b⟩ := p
    exact (hget_tail (fun e => h.1 e.symm)).trans (ih h.2)
theorem neAll_hset {H : AH} {i j : Nat} {b : Blk} : neAll (hset H i b) j ↔ neAll H j := by
  induction H with
  | nil => exact Iff.rfl
  | cons p H ih =>
    obtain ⟨k, c⟩ := p
    simp only [hset]
    split
    · simp only [neAll]
    · simp only [neAll, ih]
structure Hid (k : Prop) : Prop where
  o : k
theorem hg_of {H : AH} {id : Nat} {b : Option Blk} (h : hget H id = b := by repeat (first | (with_reducible refine Eq.trans hget_self ?_; exact rfl) | with_reducible assumption | (with_reducible refine Eq.trans (hget_tail ?_) ?_; next => first | with_reducible assumption | (apply Ne.symm; with_reducible assumption) | omega) | (with_reducible refine Eq.trans (hget_set ?_) ?_; rotate_left; exact rfl) | (with_reducible refine Eq.trans (hget_set_ne ?_) ?_; next => first | with_reducible assumption | (apply Ne.symm; with_reducible assumption) | omega) | (with_reducible refine Eq.trans (hget_del_ne ?_) ?_; next => first | with_reducible assumption | (apply Ne.symm; with_reducible assumption) | omega) | exact hget_self | assumption | apply hget_set)) : hget H id = b := h
/-- Step until something is to be decided; what is left is k. -/
theorem au {k g : Prop} (h : k) (t : Hid k → g := by intro hk; (repeat ((conv => whnf); first | refine Or.inl ?_ | refine dAuto ?_ | (apply Exists.intro; apply Exists.intro; refine And.intro ?_ ?_; (next => repeat (first | (with_reducible refine Eq.trans hget_self ?_; exact rfl) | with_reducible assumption | (with_reducible refine Eq.trans (hget_tail ?_) ?_; next => first | with_reducible assumption | (apply Ne.symm; with_reducible assumption) | omega) | (with_reducible refine Eq.trans (hget_set ?_) ?_; rotate_left; exact rfl) | (with_reducible refine Eq.trans (hget_set_ne ?_) ?_; next => first | with_reducible assumption | (apply Ne.symm; with_reducible assumption) | omega) | (with_reducible refine Eq.trans (hget_del_ne ?_) ?_; next => first | with_reducible assumption | (apply Ne.symm; with_reducible assumption) | omega) | exact hget_self | assumption | apply hget_set)); refine And.intro (Eq.refl (some _)) ?_) | refine Exists.intro _ (And.intro rfl (And.intro rfl ?_)) | (refine And.intro ?_ ?_; next => first | omega | (dsimp only; omega) | exact rfl | exact Nat.le_of_ble_eq_true rfl | (exact ⟨by omega, by omega⟩) | decide | (simp only [List.length_append, List.length_cons, List.length_nil, List.length_map]; omega)) | (refine rng_i64 ?_ ?_ ?_; (next => first | omega | (dsimp only; omega)); (next => first | omega | (dsimp only; omega))) | (refine rng_u8 ?_ ?_ ?_; (next => first | omega | (dsimp only; omega)); (next => first | omega | (dsimp only; omega))) | (refine rng_u64 ?_ ?_ ?_; (next => first | omega | (dsimp only; omega)); (next => first | omega | (dsimp only; omega))) | (refine rng_quo_u64 ?_ ?_ ?_ ?_; (next => first | omega | (dsimp only; omega)); (next => first | omega | (dsimp only; omega)); (next => first | omega | (dsimp only; omega))) | (refine rng_quo_i64 ?_ ?_ ?_ ?_; (next => first | omega | (dsimp only; omega)); (next => first | omega | (dsimp only; omega)); (next => first | omega | (dsimp only; omega))) | (refine rng_rem_u64 ?_ ?_ ?_ ?_; (next => first | omega | (dsimp only; omega)); (next => first | omega | (dsimp only; omega)); (next => first | omega | (dsimp only; omega))) | (refine rng_rem_i64 ?_ ?_ ?_ ?_; (next => first | omega | (dsimp only; omega)); (next => first | omega | (dsimp only; omega)); (next => first | omega | (dsimp only; omega))) | refine bsplit_tt ?_ | refine bsplit_ff ?_ | refine bsplit_not ?_ | (refine bsplit_pos ?_ ?_; (next => first | omega | (dsimp only; omega))) | (refine bsplit_neg ?_ ?_; (next => first | omega | (dsimp only; omega))) | (apply Exists.intro; refine And.intro ?_ ?_; next => repeat (first | (with_reducible refine Eq.trans hget_self ?_; exact rfl) | with_reducible assumption | (with_reducible refine Eq.trans (hget_tail ?_) ?_; next => first | with_reducible assumption | (apply Ne.symm; with_reducible assumption) | omega) | (with_reducible refine Eq.trans (hget_set ?_) ?_; rotate_left; exact rfl) | (with_reducible refine Eq.trans (hget_set_ne ?_) ?_; next => first | with_reducible assumption | (apply Ne.symm; with_reducible assumption) | omega) | (with_reducible refine Eq.trans (hget_del_ne ?_) ?_; next => first | with_reducible assumption | (apply Ne.symm; with_reducible assumption) | omega) | exact hget_self | assumption | apply hget_set)) | (apply hsetN_of; next => (try simp only [over, List.set_cons_zero, List.set_cons_succ, List.take_zero, List.take_succ_cons, List.take_nil, List.drop_zero, List.drop_succ_cons, List.drop_nil, List.nil_append, List.cons_append, List.append_nil, AV.cells, List.length_cons, List.length_nil, Nat.zero_add, Nat.add_zero, Nat.reduceAdd]); exact rfl) | (refine hdelK_top ?_ ?_; next => first | with_reducible assumption | (refine hget_none ?_; (repeat' apply And.intro) <;> first | omega | exact True.intro | assumption)) | (refine hdelK_down ?_ ?_; next => first | with_reducible assumption | (apply Ne.symm; with_reducible assumption) | omega) | refine hdelK_any ?_ | refine hsetK_top ?_ | (refine hsetK_down ?_ ?_; next => first | with_reducible assumption | (apply Ne.symm; with_reducible assumption) | omega) | refine hsetK_any ?_ )); (conv => whnf); exact hk.o) : g := t ⟨h⟩
theorem au0 {g : Prop} (t : g := by (repeat ((conv => whnf); first | refine Or.inl ?_ | refine dAuto ?_ | (apply Exists.intro; apply Exists.intro; refine And.intro ?_ ?_; (next => repeat (first | (with_reducible refine Eq.trans hget_self ?_; exact rfl) | with_reducible assumption | (with_reducible refine Eq.trans (hget_tail ?_) ?_; next => first | with_reducible assumption | (apply Ne.symm; with_reducible assumption) | omega) | (with_reducible refine Eq.trans (hget_set ?_) ?_; rotate_left; exact rfl) | (with_reducible refine Eq.trans (hget_set_ne ?_) ?_; next => first | with_reducible assumption | (apply Ne.symm; with_reducible assumption) | omega) | (with_reducible refine Eq.trans (hget_del_ne ?_) ?_; next => first | with_reducible assumption | (apply Ne.symm; with_reducible assumption) | omega) | exact hget_self | assumption | apply hget_set)); refine And.intro (Eq.refl (some _)) ?_) | refine Exists.intro _ (And.intro rfl (And.intro rfl ?_)) | (refine And.intro ?_ ?_; next => first | omega | (dsimp only; omega) | exact rfl | exact Nat.le_of_ble_eq_true rfl | (exact ⟨by omega, by omega⟩) | decide | (simp only [List.length_append, List.length_cons, List.length_nil, List.length_map]; omega)) | (refine rng_i64 ?_ ?_ ?_; (next => first | omega | (dsimp only; omega)); (next => first | omega | (dsimp only; omega))) | (refine rng_u8 ?_ ?_ ?_; (next => first | omega | (dsimp only; omega)); (next => first | omega | (dsimp only; omega))) | (refine rng_u64 ?_ ?_ ?_; (next => first | omega | (dsimp only; omega)); (next => first | omega | (dsimp only; omega))) | (refine rng_quo_u64 ?_ ?_ ?_ ?_; (next => first | omega | (dsimp only; omega)); (next => first | omega | (dsimp only; omega)); (next => first | omega | (dsimp only; omega))) | (refine rng_quo_i64 ?_ ?_ ?_ ?_; (next => first | omega | (dsimp only; omega)); (next => first | omega | (dsimp only; omega)); (next => first | omega | (dsimp only; omega))) | (refine rng_rem_u64 ?_ ?_ ?_ ?_; (next => first | omega | (dsimp only; omega)); (next => first | omega | (dsimp only; omega)); (next => first | omega | (dsimp only; omega))) | (refine rng_rem_i64 ?_ ?_ ?_ ?_; (next => first | omega | (dsimp only; omega)); (next => first | omega | (dsimp only; omega)); (next => first | omega | (dsimp only; omega))) | refine bsplit_tt ?_ | refine bsplit_ff ?_ | refine bsplit_not ?_ | (refine bsplit_pos ?_ ?_; (next => first | omega | (dsimp only; omega))) | (refine bsplit_neg ?_ ?_; (next => first | omega | (dsimp only; omega))) | (apply Exists.intro; refine And.intro ?_ ?_; next => repeat (first | (with_reducible refine Eq.trans hget_self ?_; exact rfl) | with_reducible assumption | (with_reducible refine Eq.trans (hget_tail ?_) ?_; next => first | with_reducible assumption | (apply Ne.symm; with_reducible assumption) | omega) | (with_reducible refine Eq.trans (hget_set ?_) ?_; rotate_left; exact rfl) | (with_reducible refine Eq.trans (hget_set_ne ?_) ?_; next => first | with_reducible assumption | (apply Ne.symm; with_reducible assumption) | omega) | (with_reducible refine Eq.trans (hget_del_ne ?_) ?_; next => first | with_reducible assumption | (apply Ne.symm; with_reducible assumption) | omega) | exact hget_self | assumption | apply hget_set)) | (apply hsetN_of; next => (try simp only [over, List.set_cons_zero, List.set_cons_succ, List.take_zero, List.take_succ_cons, List.take_nil, List.drop_zero, List.drop_succ_cons, List.drop_nil, List.nil_append, List.cons_append, List.append_nil, AV.cells, List.length_cons, List.length_nil, Nat.zero_add, Nat.add_zero, Nat.reduceAdd]); exact rfl) | (refine hdelK_top ?_ ?_; next => first | with_reducible assumption | (refine hget_none ?_; (repeat' apply And.intro) <;> first | omega | exact True.intro | assumption)) | (refine hdelK_down ?_ ?_; next => first | with_reducible assumption | (apply Ne.symm; with_reducible assumption) | omega) | refine hdelK_any ?_ | refine hsetK_top ?_ | (refine hsetK_down ?_ ?_; next => first | with_reducible assumption | (apply Ne.symm; with_reducible assumption) | omega) | refine hsetK_any ?_ )); (conv => whnf); (first | done | fail)) : g := t
theorem ah {k g : Prop} (h : k) (t : Hid k → g := by intro hk; (repeat ((conv => whnf); first | refine Or.inl ?_ | refine dAuto ?_ | (apply Exists.intro; apply Exists.intro; refine And.intro ?_ ?_; (next => repeat (first | (with_reducible refine Eq.trans hget_self ?_; exact rfl) | with_reducible assumption | (with_reducible refine Eq.trans (hget_tail ?_) ?_; next => first | with_reducible assumption | (apply Ne.symm; with_reducible assumption) | omega) | (with_reducible refine Eq.trans (hget_set ?_) ?_; rotate_left; exact rfl) | (with_reducible refine Eq.trans (hget_set_ne ?_) ?_; next => first | with_reducible assumption | (apply Ne.symm; with_reducible assumption) | omega) | (with_reducible refine Eq.trans (hget_del_ne ?_) ?_; next => first | with_reducible assumption | (apply Ne.symm; with_reducible assumption) | omega) | exact hget_self | assumption | apply hget_set)); refine And.intro (Eq.refl (some _)) ?_) | refine Exists.intro _ (And.intro rfl (And.intro rfl ?_)) | (refine And.intro ?_ ?_; next => first | omega | (dsimp only; omega) | exact rfl | exact Nat.le_of_ble_eq_true rfl | (exact ⟨by omega, by omega⟩) | decide | (simp only [List.length_append, List.length_cons, List.length_nil, List.length_map]; omega)) | (refine rng_i64 ?_ ?_ ?_; (next => first | omega | (dsimp only; omega)); (next => first | omega | (dsimp only; omega))) | (refine rng_u8 ?_ ?_ ?_; (next => first | omega | (dsimp only; omega)); (next => first | omega | (dsimp only; omega))) | (refine rng_u64 ?_ ?_ ?_; (next => first | omega | (dsimp only; omega)); (next => first | omega | (dsimp only; omega))) | (refine rng_quo_u64 ?_ ?_ ?_ ?_; (next => first | omega | (dsimp only; omega)); (next => first | omega | (dsimp only; omega)); (next => first | omega | (dsimp only; omega))) | (refine rng_quo_i64 ?_ ?_ ?_ ?_; (next => first | omega | (dsimp only; omega)); (next => first | omega | (dsimp only; omega)); (next => first | omega | (dsimp only; omega))) | (refine rng_rem_u64 ?_ ?_ ?_ ?_; (next => first | omega | (dsimp only; omega)); (next => first | omega | (dsimp only; omega)); (next => first | omega | (dsimp only; omega))) | (refine rng_rem_i64 ?_ ?_ ?_ ?_; (next => first | omega | (dsimp only; omega)); (next => first | omega | (dsimp only; omega)); (next => first | omega | (dsimp only; omega))) | refine bsplit_tt ?_ | refine bsplit_ff ?_ | refine bsplit_not ?_ | (refine bsplit_pos ?_ ?_; (next => first | omega | (dsimp only; omega))) | (refine bsplit_neg ?_ ?_; (next => first | omega | (dsimp only; omega))) | (apply Exists.intro; refine And.intro ?_ ?_; next => repeat (first | (with_reducible refine Eq.trans hget_self ?_; exact rfl) | with_reducible assumption | (with_reducible refine Eq.trans (hget_tail ?_) ?_; next => first | with_reducible assumption | (apply Ne.symm; with_reducible assumption) | omega) | (with_reducible refine Eq.trans (hget_set ?_) ?_; rotate_left; exact rfl) | (with_reducible refine Eq.trans (hget_set_ne ?_) ?_; next => first | with_reducible assumption | (apply Ne.symm; with_reducible assumption) | omega) | (with_reducible refine Eq.trans (hget_del_ne ?_) ?_; next => first | with_reducible assumption | (apply Ne.symm; with_reducible assumption) | omega) | exact hget_self | assumption | apply hget_set)) | (apply hsetN_of; next => (try simp only [over, List.set_cons_zero, List.set_cons_succ, List.take_zero, List.take_succ_cons, List.take_nil, List.drop_zero, List.drop_succ_cons, List.drop_nil, List.nil_append, List.cons_append, List.append_nil, AV.cells, List.length_cons, List.length_nil, Nat.zero_add, Nat.add_zero, Nat.reduceAdd]); exact rfl) | (refine hdelK_top ?_ ?_; next => first | with_reducible assumption | (refine hget_none ?_; (repeat' apply And.intro) <;> first | omega | exact True.intro | assumption)) | (refine hdelK_down ?_ ?_; next => first | with_reducible assumption | (apply Ne.symm; with_reducible assumption) | omega) | refine hdelK_any ?_ | refine hsetK_top ?_ | (refine hsetK_down ?_ ?_; next => first | with_reducible assumption | (apply Ne.symm; with_reducible assumption) | omega) | refine hsetK_any ?_  | rw [hset_self] | rw [hset_tail (by first | with_reducible assumption | (apply Ne.symm; with_reducible assumption) | omega)])); (conv => whnf); exact hk.o) : g := t ⟨h⟩
theorem ah0 {g : Prop} (t : g := by (repeat ((conv => whnf); first | refine Or.inl ?_ | refine dAuto ?_ | (apply Exists.intro; apply Exists.intro; refine And.intro ?_ ?_; (next => repeat (first | (with_reducible refine Eq.trans hget_self ?_; exact rfl) | with_reducible assumption | (with_reducible refine Eq.trans (hget_tail ?_) ?_; next => first | with_reducible assumption | (apply Ne.symm; with_reducible assumption) | omega) | (with_reducible refine Eq.trans (hget_set ?_) ?_; rotate_left; exact rfl) | (with_reducible refine Eq.trans (hget_set_ne ?_) ?_; next => first | with_reducible assumption | (apply Ne.symm; with_reducible assumption) | omega) | (with_reducible refine Eq.trans (hget_del_ne ?_) ?_; next => first | with_reducible assumption | (apply Ne.symm; with_reducible assumption) | omega) | exact hget_self | assumption | apply hget_set)); refine And.intro (Eq.refl (some _)) ?_) | refine Exists.intro _ (And.intro rfl (And.intro rfl ?_)) | (refine And.intro ?_ ?_; next => first | omega | (dsimp only; omega) | exact rfl | exact Nat.le_of_ble_eq_true rfl | (exact ⟨by omega, by omega⟩) | decide | (simp only [List.length_append, List.length_cons, List.length_nil, List.length_map]; omega)) | (refine rng_i64 ?_ ?_ ?_; (next => first | omega | (dsimp only; omega)); (next => first | omega | (dsimp only; omega))) | (refine rng_u8 ?_ ?_ ?_; (next => first | omega | (dsimp only; omega)); (next => first | omega | (dsimp only; omega))) | (refine rng_u64 ?_ ?_ ?_; (next => first | omega | (dsimp only; omega)); (next => first | omega | (dsimp only; omega))) | (refine rng_quo_u64 ?_ ?_ ?_ ?_; (next => first | omega | (dsimp only; omega)); (next => first | omega | (dsimp only; omega)); (next => first | omega | (dsimp only; omega))) | (refine rng_quo_i64 ?_ ?_ ?_ ?_; (next => first | omega | (dsimp only; omega)); (next => first | omega | (dsimp only; omega)); (next => first | omega | (dsimp only; omega))) | (refine rng_rem_u64 ?_ ?_ ?_ ?_; (next => first | omega | (dsimp only; omega)); (next => first | omega | (dsimp only; omega)); (next => first | omega | (dsimp only; omega))) | (refine rng_rem_i64 ?_ ?_ ?_ ?_; (next => first | omega | (dsimp only; omega)); (next => first | omega | (dsimp only; omega)); (next => first | omega | (dsimp only; omega))) | refine bsplit_tt ?_ | refine bsplit_ff ?_ | refine bsplit_not ?_ | (refine bsplit_pos ?_ ?_; (next => first | omega | (dsimp only; omega))) | (refine bsplit_neg ?_ ?_; (next => first | omega | (dsimp only; omega))) | (apply Exists.intro; refine And.intro ?_ ?_; next => repeat (first | (with_reducible refine Eq.trans hget_self ?_; exact rfl) | with_reducible assumption | (with_reducible refine Eq.trans (hget_tail ?_) ?_; next => first | with_reducible assumption | (apply Ne.symm; with_reducible assumption) | omega) | (with_reducible refine Eq.trans (hget_set ?_) ?_; rotate_left; exact rfl) | (with_reducible refine Eq.trans (hget_set_ne ?_) ?_; next => first | with_reducible assumption | (apply Ne.symm; with_reducible assumption) | omega) | (with_reducible refine Eq.trans (hget_del_ne ?_) ?_; next => first | with_reducible assumption | (apply Ne.symm; with_reducible assumption) | omega) | exact hget_self | assumption | apply hget_set)) | (apply hsetN_of; next => (try simp only [over, List.set_cons_zero, List.set_cons_succ, List.take_zero, List.take_succ_cons, List.take_nil, List.drop_zero, List.drop_succ_cons, List.drop_nil, List.nil_append, List.cons_append, List.append_nil, AV.cells, List.length_cons, List.length_nil, Nat.zero_add, Nat.add_zero, Nat.reduceAdd]); exact rfl) | (refine hdelK_top ?_ ?_; next => first | with_reducible assumption | (refine hget_none ?_; (repeat' apply And.intro) <;> first | omega | exact True.intro | assumption)) | (refine hdelK_down ?_ ?_; next => first | with_reducible assumption | (apply Ne.symm; with_reducible assumption) | omega) | refine hdelK_any ?_ | refine hsetK_top ?_ | (refine hsetK_down ?_ ?_; next => first | with_reducible assumption | (apply Ne.symm; with_reducible assumption) | omega) | refine hsetK_any ?_  | rw [hset_self] | rw [hset_tail (by first | with_reducible assumption | (apply Ne.symm; with_reducible assumption) | omega)])); (conv => whnf); (first | done | fail)) : g := t
theorem ac {k g : Prop} (h : k) (t : Hid k → g := by intro hk; (repeat ((conv => whnf); first | (apply Exists.intro; apply Exists.intro; refine And.intro ?_ ?_; (next => repeat (first | (with_reducible refine Eq.trans hget_self ?_; exact rfl) | with_reducible assumption | (with_reducible refine Eq.trans (hget_tail ?_) ?_; next => first | with_reducible assumption | (apply Ne.symm; with_reducible assumption) | omega) | (with_reducible refine Eq.trans (hget_set ?_) ?_; rotate_left; exact rfl) | (with_reducible refine Eq.trans (hget_set_ne ?_) ?_; next => first | with_reducible assumption | (apply Ne.symm; with_reducible assumption) | omega) | (with_reducible refine Eq.trans (hget_del_ne ?_) ?_; next => first | with_reducible assumption | (apply Ne.symm; with_reducible assumption) | omega) | exact hget_self | assumption | apply hget_set)); refine And.intro (Eq.refl (some _)) ?_) | refine Exists.intro _ (And.intro rfl (And.intro rfl ?_)) | (refine And.intro ?_ ?_; next => first | omega | (dsimp only; omega) | exact rfl | exact Nat.le_of_ble_eq_true rfl | (exact ⟨by omega, by omega⟩) | decide | (simp only [List.length_append, List.length_cons, List.length_nil, List.length_map]; omega)) | (refine rng_i64 ?_ ?_ ?_; (next => first | omega | (dsimp only; omega)); (next => first | omega | (dsimp only; omega))) | (refine rng_u8 ?_ ?_ ?_; (next => first | omega | (dsimp only; omega)); (next => first | omega | (dsimp only; omega))) | (refine rng_u64 ?_ ?_ ?_; (next => first | omega | (dsimp only; omega)); (next => first | omega | (dsimp only; omega))) | (refine rng_quo_u64 ?_ ?_ ?_ ?_; (next => first | omega | (dsimp only; omega)); (next => first | omega | (dsimp only; omega)); (next => first | omega | (dsimp only; omega))) | (refine rng_quo_i64 ?_ ?_ ?_ ?_; (next => first | omega | (dsimp only; omega)); (next => first | omega | (dsimp only; omega)); (next => first | omega | (dsimp only; omega))) | (refine rng_rem_u64 ?_ ?_ ?_ ?_; (next => first | omega | (dsimp only; omega)); (next => first | omega | (dsimp only; omega)); (next => first | omega | (dsimp only; omega))) | (refine rng_rem_i64 ?_ ?_ ?_ ?_; (next => first | omega | (dsimp only; omega)); (next => first | omega | (dsimp only; omega)); (next => first | omega | (dsimp only; omega))) | refine bsplit_tt ?_ | refine bsplit_ff ?_ | refine bsplit_not ?_ | (refine bsplit_pos ?_ ?_; (next => first | omega | (dsimp only; omega))) | (refine bsplit_neg ?_ ?_; (next => first | omega | (dsimp only; omega))) | (apply Exists.intro; refine And.intro ?_ ?_; next => repeat (first | (with_reducible refine Eq.trans hget_self ?_; exact rfl) | with_reducible assumption | (with_reducible refine Eq.trans (hget_tail ?_) ?_; next => first | with_reducible assumption | (apply Ne.symm; with_reducible assumption) | omega) | (with_reducible refine Eq.trans (hget_set ?_) ?_; rotate_left; exact rfl) | (with_reducible refine Eq.trans (hget_set_ne ?_) ?_; next => first | with_reducible assumption | (apply Ne.symm; with_reducible assumption) | omega) | (with_reducible refine Eq.trans (hget_del_ne ?_) ?_; next => first | with_reducible assumption | (apply Ne.symm; with_reducible assumption) | omega) | exact hget_self | assumption | apply hget_set)) | (apply hsetN_of; next => (try simp only [over, List.set_cons_zero, List.set_cons_succ, List.take_zero, List.take_succ_cons, List.take_nil, List.drop_zero, List.drop_succ_cons, List.drop_nil, List.nil_append, List.cons_append, List.append_nil, AV.cells, List.length_cons, List.length_nil, Nat.zero_add, Nat.add_zero, Nat.reduceAdd]); exact rfl) | (refine hdelK_top ?_ ?_; next => first | with_reducible assumption | (refine hget_none ?_; (repeat' apply And.intro) <;> first | omega | exact True.intro | assumption)) | (refine hdelK_down ?_ ?_; next => first | with_reducible assumption | (apply Ne.symm; with_reducible assumption) | omega) | refine hdelK_any ?_ | refine hsetK_top ?_ | (refine hsetK_down ?_ ?_; next => first | with_reducible assumption | (apply Ne.symm; with_reducible assumption) | omega) | refine hsetK_any ?_  | rw [hset_self] | rw [hset_tail (by first | with_reducible assumption | (apply Ne.symm; with_reducible assumption) | omega)])); (conv => whnf); exact hk.o) : g := t ⟨h⟩
theorem ac0 {g : Prop} (t : g := by (repeat ((conv => whnf); first | (apply Exists.intro; apply Exists.intro; refine And.intro ?_ ?_; (next => repeat (first | (with_reducible refine Eq.trans hget_self ?_; exact rfl) | with_reducible assumption | (with_reducible refine Eq.trans (hget_tail ?_) ?_; next => first | with_reducible assumption | (apply Ne.symm; with_reducible assumption) | omega) | (with_reducible refine Eq.trans (hget_set ?_) ?_; rotate_left; exact rfl) | (with_reducible refine Eq.trans (hget_set_ne ?_) ?_; next => first | with_reducible assumption | (apply Ne.symm; with_reducible assumption) | omega) | (with_reducible refine Eq.trans (hget_del_ne ?_) ?_; next => first | with_reducible assumption | (apply Ne.symm; with_reducible assumption) | omega) | exact hget_self | assumption | apply hget_set)); refine And.intro (Eq.refl (some _)) ?_) | refine Exists.intro _ (And.intro rfl (And.intro rfl ?_)) | (refine And.intro ?_ ?_; next => first | omega | (dsimp only; omega) | exact rfl | exact Nat.le_of_ble_eq_true rfl | (exact ⟨by omega, by omega⟩) | decide | (simp only [List.length_append, List.length_cons, List.length_nil, List.length_map]; omega)) | (refine rng_i64 ?_ ?_ ?_; (next => first | omega | (dsimp only; omega)); (next => first | omega | (dsimp only; omega))) | (refine rng_u8 ?_ ?_ ?_; (next => first | omega | (dsimp only; omega)); (next => first | omega | (dsimp only; omega))) | (refine rng_u64 ?_ ?_ ?_; (next => first | omega | (dsimp only; omega)); (next => first | omega | (dsimp only; omega))) | (refine rng_quo_u64 ?_ ?_ ?_ ?_; (next => first | omega | (dsimp only; omega)); (next => first | omega | (dsimp only; omega)); (next => first | omega | (dsimp only; omega))) | (refine rng_quo_i64 ?_ ?_ ?_ ?_; (next => first | omega | (dsimp only; omega)); (next => first | omega | (dsimp only; omega)); (next => first | omega | (dsimp only; omega))) | (refine rng_rem_u64 ?_ ?_ ?_ ?_; (next => first | omega | (dsimp only; omega)); (next => first | omega | (dsimp only; omega)); (next => first | omega | (dsimp only; omega))) | (refine rng_rem_i64 ?_ ?_ ?_ ?_; (next => first | omega | (dsimp only; omega)); (next => first | omega | (dsimp only; omega)); (next => first | omega | (dsimp only; omega))) | refine bsplit_tt ?_ | refine bsplit_ff ?_ | refine bsplit_not ?_ | (refine bsplit_pos ?_ ?_; (next => first | omega | (dsimp only; omega))) | (refine bsplit_neg ?_ ?_; (next => first | omega | (dsimp only; omega))) | (apply Exists.intro; refine And.intro ?_ ?_; next => repeat (first | (with_reducible refine Eq.trans hget_self ?_; exact rfl) | with_reducible assumption | (with_reducible refine Eq.trans (hget_tail ?_) ?_; next => first | with_reducible assumption | (apply Ne.symm; with_reducible assumption) | omega) | (with_reducible refine Eq.trans (hget_set ?_) ?_; rotate_left; exact rfl) | (with_reducible refine Eq.trans (hget_set_ne ?_) ?_; next => first | with_reducible assumption | (apply Ne.symm; with_reducible assumption) | omega) | (with_reducible refine Eq.trans (hget_del_ne ?_) ?_; next => first | with_reducible assumption | (apply Ne.symm; with_reducible assumption) | omega) | exact hget_self | assumption | apply hget_set)) | (apply hsetN_of; next => (try simp only [over, List.set_cons_zero, List.set_cons_succ, List.take_zero, List.take_succ_cons, List.take_nil, List.drop_zero, List.drop_succ_cons, List.drop_nil, List.nil_append, List.cons_append, List.append_nil, AV.cells, List.length_cons, List.length_nil, Nat.zero_add, Nat.add_zero, Nat.reduceAdd]); exact rfl) | (refine hdelK_top ?_ ?_; next => first | with_reducible assumption | (refine hget_none ?_; (repeat' apply And.intro) <;> first | omega | exact True.intro | assumption)) | (refine hdelK_down ?_ ?_; next => first | with_reducible assumption | (apply Ne.symm; with_reducible assumption) | omega) | refine hdelK_any ?_ | refine hsetK_top ?_ | (refine hsetK_down ?_ ?_; next => first | with_reducible assumption | (apply Ne.symm; with_reducible assumption) | omega) | refine hsetK_any ?_  | rw [hset_self] | rw [hset_tail (by first | with_reducible assumption | (apply Ne.symm; with_reducible assumption) | omega)])); (conv => whnf); (first | done | fail)) : g := t
theorem ab {k g : Prop} (h : k) (t : Hid k → g := by intro hk; (repeat ((conv => whnf); first | (apply Exists.intro; apply Exists.intro; refine And.intro ?_ ?_; (next => repeat (first | (with_reducible refine Eq.trans hget_self ?_; exact rfl) | with_reducible assumption | (with_reducible refine Eq.trans (hget_tail ?_) ?_; next => first | with_reducible assumption | (apply Ne.symm; with_reducible assumption) | omega) | (with_reducible refine Eq.trans (hget_set ?_) ?_; rotate_left; exact rfl) | (with_reducible refine Eq.trans (hget_set_ne ?_) ?_; next => first | with_reducible assumption | (apply Ne.symm; with_reducible assumption) | omega) | (with_reducible refine Eq.trans (hget_del_ne ?_) ?_; next => first | with_reducible assumption | (apply Ne.symm; with_reducible assumption) | omega) | exact hget_self | assumption | apply hget_set)); refine And.intro (Eq.refl (some _)) ?_) | refine Exists.intro _ (And.intro rfl (And.intro rfl ?_)) | (refine And.intro ?_ ?_; next => first | omega | (dsimp only; omega) | exact rfl | exact Nat.le_of_ble_eq_true rfl | (exact ⟨by omega, by omega⟩) | decide | (simp only [List.length_append, List.length_cons, List.length_nil, List.length_map]; omega)) | (refine rng_i64 ?_ ?_ ?_; (next => first | omega | (dsimp only; omega)); (next => first | omega | (dsimp only; omega))) | (refine rng_u8 ?_ ?_ ?_; (next => first | omega | (dsimp only; omega)); (next => first | omega | (dsimp only; omega))) | (refine rng_u64 ?_ ?_ ?_; (next => first | omega | (dsimp only; omega)); (next => first | omega | (dsimp only; omega))) | (refine rng_quo_u64 ?_ ?_ ?_ ?_; (next => first | omega | (dsimp only; omega)); (next => first | omega | (dsimp only; omega)); (next => first | omega | (dsimp only; omega))) | (refine rng_quo_i64 ?_ ?_ ?_ ?_; (next => first | omega | (dsimp only; omega)); (next => first | omega | (dsimp only; omega)); (next => first | omega | (dsimp only; omega))) | (refine rng_rem_u64 ?_ ?_ ?_ ?_; (next => first | omega | (dsimp only; omega)); (next => first | omega | (dsimp only; omega)); (next => first | omega | (dsimp only; omega))) | (refine rng_rem_i64 ?_ ?_ ?_ ?_; (next => first | omega | (dsimp only; omega)); (next => first | omega | (dsimp only; omega)); (next => first | omega | (dsimp only; omega))) | refine bsplit_tt ?_ | refine bsplit_ff ?_ | refine bsplit_not ?_ | (refine bsplit_pos ?_ ?_; (next => first | omega | (dsimp only; omega))) | (refine bsplit_neg ?_ ?_; (next => first | omega | (dsimp only; omega))) | (apply Exists.intro; refine And.intro ?_ ?_; next => repeat (first | (with_reducible refine Eq.trans hget_self ?_; exact rfl) | with_reducible assumption | (with_reducible refine Eq.trans (hget_tail ?_) ?_; next => first | with_reducible assumption | (apply Ne.symm; with_reducible assumption) | omega) | (with_reducible refine Eq.trans (hget_set ?_) ?_; rotate_left; exact rfl) | (with_reducible refine Eq.trans (hget_set_ne ?_) ?_; next => first | with_reducible assumption | (apply Ne.symm; with_reducible assumption) | omega) | (with_reducible refine Eq.trans (hget_del_ne ?_) ?_; next => first | with_reducible assumption | (apply Ne.symm; with_reducible assumption) | omega) | exact hget_self | assumption | apply hget_set)) | (apply hsetN_of; next => (try simp only [over, List.set_cons_zero, List.set_cons_succ, List.take_zero, List.take_succ_cons, List.take_nil, List.drop_zero, List.drop_succ_cons, List.drop_nil, List.nil_append, List.cons_append, List.append_nil, AV.cells, List.length_cons, List.length_nil, Nat.zero_add, Nat.add_zero, Nat.reduceAdd]); exact rfl) | (refine hdelK_top ?_ ?_; next => first | with_reducible assumption | (refine hget_none ?_; (repeat' apply And.intro) <;> first | omega | exact True.intro | assumption)) | (refine hdelK_down ?_ ?_; next => first | with_reducible assumption | (apply Ne.symm; with_reducible assumption) | omega) | refine hdelK_any ?_ | refine hsetK_top ?_ | (refine hsetK_down ?_ ?_; next => first | with_reducible assumption | (apply Ne.symm; with_reducible assumption) | omega) | refine hsetK_any ?_ )); (conv => whnf); exact hk.o) : g := t ⟨h⟩
theorem ab0 {g : Prop} (t : g := by (repeat ((conv => whnf); first | (apply Exists.intro; apply Exists.intro; refine And.intro ?_ ?_; (next => repeat (first | (with_reducible refine Eq.trans hget_self ?_; exact rfl) | with_reducible assumption | (with_reducible refine Eq.trans (hget_tail ?_) ?_; next => first | with_reducible assumption | (apply Ne.symm; with_reducible assumption) | omega) | (with_reducible refine Eq.trans (hget_set ?_) ?_; rotate_left; exact rfl) | (with_reducible refine Eq.trans (hget_set_ne ?_) ?_; next => first | with_reducible assumption | (apply Ne.symm; with_reducible assumption) | omega) | (with_reducible refine Eq.trans (hget_del_ne ?_) ?_; next => first | with_reducible assumption | (apply Ne.symm; with_reducible assumption) | omega) | exact hget_self | assumption | apply hget_set)); refine And.intro (Eq.refl (some _)) ?_) | refine Exists.intro _ (And.intro rfl (And.intro rfl ?_)) | (refine And.intro ?_ ?_; next => first | omega | (dsimp only; omega) | exact rfl | exact Nat.le_of_ble_eq_true rfl | (exact ⟨by omega, by omega⟩) | decide | (simp only [List.length_append, List.length_cons, List.length_nil, List.length_map]; omega)) | (refine rng_i64 ?_ ?_ ?_; (next => first | omega | (dsimp only; omega)); (next => first | omega | (dsimp only; omega))) | (refine rng_u8 ?_ ?_ ?_; (next => first | omega | (dsimp only; omega)); (next => first | omega | (dsimp only; omega))) | (refine rng_u64 ?_ ?_ ?_; (next => first | omega | (dsimp only; omega)); (next => first | omega | (dsimp only; omega))) | (refine rng_quo_u64 ?_ ?_ ?_ ?_; (next => first | omega | (dsimp only; omega)); (next => first | omega | (dsimp only; omega)); (next => first | omega | (dsimp only; omega))) | (refine rng_quo_i64 ?_ ?_ ?_ ?_; (next => first | omega | (dsimp only; omega)); (next => first | omega | (dsimp only; omega)); (next => first | omega | (dsimp only; omega))) | (refine rng_rem_u64 ?_ ?_ ?_ ?_; (next => first | omega | (dsimp only; omega)); (next => first | omega | (dsimp only; omega)); (next => first | omega | (dsimp only; omega))) | (refine rng_rem_i64 ?_ ?_ ?_ ?_; (next => first | omega | (dsimp only; omega)); (next => first | omega | (dsimp only; omega)); (next => first | omega | (dsimp only; omega))) | refine bsplit_tt ?_ | refine bsplit_ff ?_ | refine bsplit_not ?_ | (refine bsplit_pos ?_ ?_; (next => first | omega | (dsimp only; omega))) | (refine bsplit_neg ?_ ?_; (next => first | omega | (dsimp only; omega))) | (apply Exists.intro; refine And.intro ?_ ?_; next => repeat (first | (with_reducible refine Eq.trans hget_self ?_; exact rfl) | with_reducible assumption | (with_reducible refine Eq.trans (hget_tail ?_) ?_; next => first | with_reducible assumption | (apply Ne.symm; with_reducible assumption) | omega) | (with_reducible refine Eq.trans (hget_set ?_) ?_; rotate_left; exact rfl) | (with_reducible refine Eq.trans (hget_set_ne ?_) ?_; next => first | with_reducible assumption | (apply Ne.symm; with_reducible assumption) | omega) | (with_reducible refine Eq.trans (hget_del_ne ?_) ?_; next => first | with_reducible assumption | (apply Ne.symm; with_reducible assumption) | omega) | exact hget_self | assumption | apply hget_set)) | (apply hsetN_of; next => (try simp only [over, List.set_cons_zero, List.set_cons_succ, List.take_zero, List.take_succ_cons, List.take_nil, List.drop_zero, List.drop_succ_cons, List.drop_nil, List.nil_append, List.cons_append, List.append_nil, AV.cells, List.length_cons, List.length_nil, Nat.zero_add, Nat.add_zero, Nat.reduceAdd]); exact rfl) | (refine hdelK_top ?_ ?_; next => first | with_reducible assumption | (refine hget_none ?_; (repeat' apply And.intro) <;> first | omega | exact True.intro | assumption)) | (refine hdelK_down ?_ ?_; next => first | with_reducible assumption | (apply Ne.symm; with_reducible assumption) | omega) | refine hdelK_any ?_ | refine hsetK_top ?_ | (refine hsetK_down ?_ ?_; next => first | with_reducible assumption | (apply Ne.symm; with_reducible assumption) | omega) | refine hsetK_any ?_ )); (conv => whnf); (first | done | fail)) : g := t
end Go.Proofs.YtodiahhfpcdejaaDoor

/- Functions that write one block; freezing what is handed back. -/
namespace Go.Proofs.YtodiahhfpcdejaaDoor
set_option autoImplicit false
set_option linter.unusedVariables false
set_option linter.unusedSimpArgs false

theorem Sub.skip {H K : AH} {id : Nat} {b : Blk} (h : Sub K H) (hid : hget H id = none) : Sub K ((id, b) :: H) := fun j c q => by
  have := h j c q
  exact (hget_tail (hget_ne_of hid this)).trans this
theorem Sub.keep {H K : AH} {id : Nat} {b : Blk} (h : Sub K H) : Sub ((id, b) :: K) ((id, b) :: H) := fun j c q => by
  simp only [hget] at q ⊢
  split at q
  · rename_i e; rw [if_pos e]; exact q
  · rename_i e; rw [if_neg e]; exact h _ _ q
theorem Sub.del {K H : AH} {id : Nat} (h : Sub K H) (hid : hget K id = none) : Sub K (hdel H id) := fun j c q => by
  rw [hget_hdel]
  by_cases e : j = id
  · subst e; rw [hid] at q; cases q
  · rw [if_neg e]; exact h _ _ q
theorem Sub.nil (H : AH) : Sub [] H := fun _ _ q => by cases q
theorem Sub.trans {A B C : AH} (h : Sub A B) (k : Sub B C) : Sub A C := fun i b q => k _ _ (h _ _ q)
theorem ACalls.keepSub {P : Program} {f : Nat} {args : List AV} {H : AH} {K : AV → Prop} (h : ACalls P f args H fun r H' => K r ∧ Sub H H') : ACalls P f args H fun r H' => K r ∧ H' = H :=
  h.freeze fun r H' ⟨a, b⟩ => ⟨r, H, b, .refl _, a, rfl⟩
/-- The result, frozen, and what is kept. -/
theorem ACalls.fz {P : Program} {f : Nat} {args : List AV} {H H1 : AH} {v : AV} (h : ACalls P f args H fun r H' => Fz H' H1 r v ∧ Sub H1 H') : ACalls P f args H fun r H' => r = v ∧ H' = H1 :=
  h.freeze fun r H' ⟨a, b⟩ => ⟨v, H1, b, a, rfl, rfl⟩
/-- .. where the result is told by what it says. -/
theorem ACalls.fzE {P : Program} {f : Nat} {args : List AV} {H H1 : AH} {K : AV → Prop} (h : ACalls P f args H fun r H' => ∃ v, Fz H' H1 r v ∧ Sub H1 H' ∧ K v) : ACalls P f args H fun r H' => K r ∧ H' = H1 :=
  h.freeze fun r H' ⟨v, a, b, c⟩ => ⟨v, H1, b, a, c, rfl⟩

/-! ### Freezing, part by part -/
theorem Fz.aggL {H Hc : AH} {cs cs' : List AV} (h : FzL H Hc cs cs') : Fz H Hc (.agg cs) (.agg cs') := .agg cs cs' h.1 h.2
theorem Fz.tupL {H Hc : AH} {cs cs' : List AV} (h : FzL H Hc cs cs') : Fz H Hc (.tup cs) (.tup cs') := .tup cs cs' h.1 h.2
/-- Row by row. -/
def FzR (H Hc : AH) : List (List AV) → List (List AV) → Prop
  | [], [] => True
  | r :: l, r' :: l' => FzL H Hc r r' ∧ FzR H Hc l l'
  | _, _ => False
theorem FzR.spec {H Hc : AH} : ∀ {l l' : List (List AV)}, FzR H Hc l l' → l.length = l'.length ∧ ∀ (i : Nat) r r', l[i]? = some r → l'[i]? = some r' → FzL H Hc r r'
  | [], [], _ => ⟨rfl, fun i r r' q => by simp at q⟩
  | r :: l, [], h => h.elim
  | [], r :: l, h => h.elim
  | r :: l, r' :: l', h => by
    obtain ⟨a, b⟩ := FzR.spec h.2
    refine ⟨by simp [a], fun i x x' q1 q2 => ?_⟩
    cases i with
    | zero => simp at q1 q2; rw [← q1, ← q2]; exact h.1
    | succ i => exact b i x x' (by simpa using q1) (by simpa using q2)
theorem Fz.rowsL {H Hc : AH} {sz : Nat} {l l' : List (List AV)} (h : FzR H Hc l l') : Fz H Hc (.rows sz l) (.rows sz l') :=
  .rows sz l l' h.spec.1 (fun i r r' a b => (h.spec.2 i r r' a b).1) fun i r r' j v v' a b c d => (h.spec.2 i r r' a b).2 j v v' c d
theorem FzL.refl' (H Hc : AH) (l : List AV) : FzL H Hc l l := FzL.refl H Hc l
theorem FzR.refl (H Hc : AH) : ∀ l : List (List AV), FzR H Hc l l
  | [] => trivial
  | r :: l => ⟨FzL.refl H Hc r, FzR.refl H Hc l⟩
theorem FzR.append {H Hc : AH} : ∀ {l l' m m' : List (List AV)}, FzR H Hc l l' → FzR H Hc m m' → FzR H Hc (l ++ m) (l' ++ m')
  | [], [], m, m', _, h => h
  | r :: l, [], m, m', h, _ => h.elim
  | [], r :: l, m, m', h, _ => h.elim
  | r :: l, r' :: l', m, m', h, k => ⟨h.1, h.2.append k⟩
theorem Fz.ownL {H Hc : AH} {id sz : Nat} {l l' : List (List AV)} (hg : hget H id = some (.rows sz l)) (hd : hget Hc id = none) (h : FzR H Hc l l') (hw : ∀ r ∈ l', r.length = sz) : Fz H Hc (.own id sz 0 l.length) (.rows sz l') := by
  refine .own id sz 0 l.length l l' hg hd (Nat.le_refl _) (Nat.zero_le _) (by rw [← h.spec.1]; omega) (fun i r' q => hw r' (List.mem_of_getElem? q)) fun i r r' j v v' q1 q2 q3 q4 => ?_
  rw [Nat.zero_add] at q1
  exact (h.spec.2 i r r' q1 q2).2 j v v' q3 q4

/-- Values that lead to nothing that is owned. -/
inductive Cl : AV → Prop
  | int (k : IntKind) (n : Int) : Cl (.int k n)
  | bool (b : Bool) : Cl (.bool b)
  | str (l : List UInt8) : Cl (.str l)
  | nilS : Cl .nilS
  | nilP : Cl .nilP
  | nilF : Cl .nilF
  | nilI : Cl .nilI
  | emp : Cl .emp
  | agg (cs : List AV) (h : ∀ v ∈ cs, Cl v) : Cl (.agg cs)
  | tup (cs : List AV) (h : ∀ v ∈ cs, Cl v) : Cl (.tup cs)
  | rows (sz : Nat) (l : List (List AV)) (h : ∀ r ∈ l, ∀ v ∈ r, Cl v) : Cl (.rows sz l)
  | fp (cs : List AV) (h : ∀ v ∈ cs, Cl v) : Cl (.fp cs)
theorem Cl.noId {v : AV} (h : Cl v) : NoId v := by
  induction h with
  | int k n => intro h ρ ρ' Z x hr; cases hr; exact .int k n
  | bool b => intro h ρ ρ' Z x hr; cases hr; exact .bool b
  | str l => intro h ρ ρ' Z x hr; cases hr; exact .str l _ (by assumption)
  | nilS => intro h ρ ρ' Z x hr; cases hr; exact .nilS
  | nilP => intro h ρ ρ' Z x hr; cases hr; exact .nilP
  | nilF => intro h ρ ρ' Z x hr; cases hr; exact .nilF
  | nilI => intro h ρ ρ' Z x hr; cases hr; exact .nilI
  | emp => intro h ρ ρ' Z x hr; cases hr; exact .emp _ _
  | agg cs hc ih =>
    intro h ρ ρ' Z x hr
    cases hr with
    | agg _ vs hl h2 h3 => exact .agg cs vs hl h2 fun i v y q1 q2 => ih v (List.mem_of_getElem? q1) _ _ _ _ _ (h3 i v y q1 q2)
  | tup cs hc ih =>
    intro h ρ ρ' Z x hr
    cases hr with
    | tup _ vs hl h3 => exact .tup cs vs hl fun i v y q1 q2 => ih v (List.mem_of_getElem? q1) _ _ _ _ _ (h3 i v y q1 q2)
  | rows sz l hc ih =>
    intro h ρ ρ' Z x hr
    cases hr with
    | rows _ _ b o n c f hn hnc hz hw hcc hm hr => exact .rows sz l b o n c f hn hnc hz hw hcc hm fun i r j v q1 q2 => ih r (List.mem_of_getElem? q1) v (List.mem_of_getElem? q2) _ _ _ _ _ (hr i r j v q1 q2)
    | rowsN _ => exact .rowsN sz
    | rowsE _ a c => exact .rowsE sz a c
  | fp cs hc ih =>
    intro h ρ ρ' Z x hr
    cases hr with
    | fp _ b o f hz hcc hm hr => exact .fp cs b o f hz hcc hm fun i v q => ih v (List.mem_of_getElem? q) _ _ _ _ _ (hr i v q)

/-- A function that writes one block: what it hands back, and what the block holds then; Hs: what it looks at. -/
def SW (P : Program) (f : Nat) (args : List AV) (id : Nat) (b : Blk) (Hs : AH) (r : AV) (b' : Blk) : Prop :=
  ACalls P f args ((id, b) :: Hs) fun r' H' => r' = r ∧ H' = (id, b') :: Hs
theorem SW.frame {P : Program} {f : Nat} {args : List AV} {id : Nat} {b : Blk} {Hs : AH} {r : AV} {b' : Blk} (h : SW P f args id b Hs r b') {H : AH} (hg : hget H id = some b) (hs : Sub Hs H) : ACalls P f args H fun r' H' => r' = r ∧ H' = hset H id b' := by
  have s1 : Sub ((id, b) :: Hs) H := fun j c q => by
    simp only [hget] at q
    split at q
    · rename_i e1; subst e1; rw [← q]; exact hg
    · exact hs _ _ q
  refine ⟨h.1, fun w ρ Z xs g hr => (h.2 w ρ Z xs (g.forget s1) hr).mono fun e w' ⟨x, r', H', ρ', Z', a, g1, c, d, k1, k2⟩ => ?_⟩
  subst k1
  subst k2
  obtain ⟨q1, q2⟩ := g.frame s1 d g1 (HS' := hset H id b') fun j c q => by
    rw [hget_hset] at q
    split at q
    · rename_i e1
      rw [hg] at q
      left
      simp only [hget]
      rw [if_pos e1, ← q]
      rfl
    · rename_i e1
      simp only [hget]
      rw [if_neg e1, if_neg e1]
      cases hh : hget Hs j with
      | none => exact .inr ⟨q, rfl⟩
      | some c' => have := hs _ _ hh; rw [q] at this; exact .inl this.symm
  exact ⟨x, _, _, ρ', Z', a, q1, c, q2, rfl, rfl⟩
theorem SW.call {P : Program} {f : Nat} {args : List AV} {id : Nat} {b : Blk} {Hs : AH} {r : AV} {b' : Blk} (h : SW P f args id b Hs r b') {H : AH} {K : AV → AH → Prop} (hg : hget H id = some b) (hs : Sub Hs H) (k : hsetK H id b' fun H1 => K r H1) : callF P f args H K :=
  callF_of ((h.frame hg hs).mono fun r' H' ⟨a, c⟩ => by rw [a, c]; exact k.out)
theorem SW.draw {P : Program} {f : Nat} {args : List AV} {id : Nat} {b : Blk} {Hs : AH} {r : AV} {b' : Blk} (h : SW P f args id b Hs r b') {H0 D H : AH} {K : AV → AH → AH → Prop} (hD : hget D id = some b) (hs : Sub Hs H0) (hp : NoId r) (hb : BlkN b b') (k : hsetK H id b' fun H1 => K r (hdel D id) H1) : callG P f args H0 D H K :=
  ⟨.inr ⟨id, b, r, b', hD, ⟨hp, hb, Hs, hs, h⟩, k.out⟩⟩

/-! ### Arguments that a proof fills in -/
theorem fz_of {H Hc : AH} {v v' : AV} (h : Fz H Hc v v' := by (repeat' (first | exact Fz.refl _ | exact Fz.nil _ | assumption | refine Fz.aggL ?_ | refine Fz.tupL ?_ | refine FzL.cons ?_ ?_ | exact FzL.nil _ _ | refine Fz.rowsL ?_ | exact trivial | refine And.intro ?_ ?_)); (first | done | fail)) : Fz H Hc v v' := h
theorem sub_of {H Hc : AH} (h : Sub Hc H := by (repeat' (first | exact Sub.refl _ | assumption | exact Sub.nil _ | refine Sub.keep ?_ | refine Sub.skip ?_ (by first | assumption | (refine hget_none ?_; (try simp only [neAll, neAll_hset]); (repeat' apply And.intro) <;> first | omega | trivial | assumption | simp_all)) | refine Sub.del ?_ (by first | assumption | (refine hget_none ?_; (try simp only [neAll, neAll_hset]); (repeat' apply And.intro) <;> first | omega | trivial | assumption | simp_all)))); (first | done | fail)) : Sub Hc H := h
theorem cl_of {v : AV} (h : Cl v := by (repeat' (first | constructor | (intro v hv; simp at hv; done))); (first | done | fail)) : Cl v := h
end Go.Proofs.YtodiahhfpcdejaaDoor

/- Loops: the frame is the one in which they begin, with what changes laid over it. -/
namespace Go.Proofs.YtodiahhfpcdejaaDoor
set_option autoImplicit false
set_option linter.unusedVariables false
noncomputable def app (E L : FL) : FL := @List.rec (Nat × Option AV) (fun _ => FL) L (fun p _ ih => p :: ih) E
/-- A loop's invariant: a state, what changes of the frame, what is owned, the measure, what holds. -/
structure LI {S : Type} (ent : S → FL) (hp : S → AH) (μ : S → Nat) (P : S → Prop) (L0 : FL) (n : Nat) (L : FL) (H : AH) : Prop where
  out : ∃ s, n = μ s ∧ P s ∧ L = app (ent s) L0 ∧ H = hp s
theorem loopS {B : (Nat → FL → AH → Prop) → Nat → FL → AH → Prop} {L0 : FL} {H0 : AH} {S : Type} (ent : S → FL) (hp : S → AH) (μ : S → Nat) (P : S → Prop) (s0 : S) (h0 : P s0)
    (step : ∀ s, P s → B (LI ent hp μ P L0) (μ s) (app (ent s) L0) (hp s))
    (hc : coversZ H0 (hp s0) (app (ent s0) L0) L0 := by repeat (first | exact trivial | refine And.intro (Or.inl rfl) ?_ | refine And.intro (Or.inr (Exists.intro _ (And.intro rfl (Fz.refl _)))) ?_ | refine And.intro (Or.inr (Exists.intro _ (And.intro rfl (fz_eq (congrArg (AV.int _) (by omega)))))) ?_ | refine And.intro (Or.inr (Exists.intro _ (And.intro rfl (fz_eq (congrArg (AV.own _ _ _) (by (try dsimp only); (try simp only [List.length_append, List.length_map, List.length_cons, List.length_nil, List.length_take, List.length_set, List.length_replicate]); (try dsimp only); first | done | omega)))))) ?_)) (hs : Sub (hp s0) H0 := by exact sub_of) :
    ∃ I : Nat → FL → AH → Prop, WeakF (fun M Hk => ∃ n, I n M Hk) L0 H0 ∧ ∀ n L H, I n L H → B I n L H :=
  ⟨LI ent hp μ P L0, ⟨_, _, hc, hs, _, ⟨s0, rfl, h0, rfl, rfl⟩⟩, by rintro n L H ⟨s, rfl, h, rfl, rfl⟩; exact step s h⟩
theorem nextS {S : Type} {ent : S → FL} {hp : S → AH} {μ : S → Nat} {P : S → Prop} {L0 L : FL} {H : AH} {n : Nat} (s : S)
    (hc : coversZ H (hp s) (app (ent s) L0) L) (hs : Sub (hp s) H) (hm : μ s < n) (h : P s) :
    ∃ M Hk, coversZ H Hk M L ∧ Sub Hk H ∧ ∃ m, m < n ∧ LI ent hp μ P L0 m M Hk := ⟨_, _, hc, hs, _, hm, ⟨s, rfl, h, rfl, rfl⟩⟩
/-- .. with a smaller frame: what is looked at from here on. -/
theorem loopM {B : (Nat → FL → AH → Prop) → Nat → FL → AH → Prop} {L0 : FL} {H0 : AH} {S : Type} (L1 : FL) (ent : S → FL) (hp : S → AH) (μ : S → Nat) (P : S → Prop) (s0 : S)
    (hc : coversZ H0 (hp s0) (app (ent s0) L1) L0) (hs : Sub (hp s0) H0) (h0 : P s0)
    (step : ∀ s, P s → B (LI ent hp μ P L1) (μ s) (app (ent s) L1) (hp s)) :
    ∃ I : Nat → FL → AH → Prop, WeakF (fun M Hk => ∃ n, I n M Hk) L0 H0 ∧ ∀ n L H, I n L H → B I n L H :=
  ⟨LI ent hp μ P L1, ⟨_, _, hc, hs, _, ⟨s0, rfl, h0, rfl, rfl⟩⟩, by rintro n L H ⟨s, rfl, h, rfl, rfl⟩; exact step s h⟩
theorem loopL {B : (Nat → FL → AH → Prop) → Nat → FL → AH → Prop} {L0 : FL} {H0 : AH} (L1 : FL) (d a N : Nat) (P : Nat → Prop)
    (hc : coversZ H0 H0 ((d, some (.int .i64 (a : Nat))) :: L1) L0) (ha : a ≤ N) (h0 : P a)
    (step : ∀ i, i ≤ N → P i → B (LI (fun i : Nat => [(d, some (.int .i64 (i : Nat)))]) (fun _ => H0) (fun i => N - i) (fun i => i ≤ N ∧ P i) L1) (N - i) ((d, some (.int .i64 (i : Nat))) :: L1) H0) :
    ∃ I : Nat → FL → AH → Prop, WeakF (fun M Hk => ∃ n, I n M Hk) L0 H0 ∧ ∀ n L H, I n L H → B I n L H :=
  loopM (S := Nat) L1 (fun i => [(d, some (.int .i64 (i : Nat)))]) (fun _ => H0) (fun i => N - i) (fun i => i ≤ N ∧ P i) a hc (Sub.refl _) ⟨ha, h0⟩ (fun i h => step i h.1 h.2)
theorem fz_eq {H Hc : AH} {r v : AV} (h : r = v) : Fz H Hc r v := by rw [h]; exact .refl _
/-- .. that counts from a to N, and owns nothing new. -/
theorem loopN {B : (Nat → FL → AH → Prop) → Nat → FL → AH → Prop} {L0 : FL} {H0 : AH} (d a N : Nat) (P : Nat → Prop) (ha : a ≤ N) (h0 : P a)
    (step : ∀ i, i ≤ N → P i → B (LI (fun i : Nat => [(d, some (.int .i64 (i : Nat)))]) (fun _ => H0) (fun i => N - i) (fun i => i ≤ N ∧ P i) L0) (N - i) ((d, some (.int .i64 (i : Nat))) :: L0) H0)
    (hc : coversZ H0 H0 ((d, some (.int .i64 (a : Nat))) :: L0) L0 := by repeat (first | exact trivial | refine And.intro (Or.inl rfl) ?_ | refine And.intro (Or.inr (Exists.intro _ (And.intro rfl (Fz.refl _)))) ?_ | refine And.intro (Or.inr (Exists.intro _ (And.intro rfl (fz_eq (congrArg (AV.int _) (by omega)))))) ?_ | refine And.intro (Or.inr (Exists.intro _ (And.intro rfl (fz_eq (congrArg (AV.own _ _ _) (by (try dsimp only); (try simp only [List.length_append, List.length_map, List.length_cons, List.length_nil, List.length_take, List.length_set, List.length_replicate]); (try dsimp only); first | done | omega)))))) ?_)) :
    ∃ I : Nat → FL → AH → Prop, WeakF (fun M Hk => ∃ n, I n M Hk) L0 H0 ∧ ∀ n L H, I n L H → B I n L H :=
  loopS (S := Nat) (fun i => [(d, some (.int .i64 (i : Nat)))]) (fun _ => H0) (fun i => N - i) (fun i => i ≤ N ∧ P i) a ⟨ha, h0⟩ (fun i h => step i h.1 h.2) hc (Sub.refl _)
theorem nextN {d N i : Nat} {P : Nat → Prop} {H0 H : AH} {L0 L : FL} (hc : coversZ H H0 ((d, some (.int .i64 ((i + 1 : Nat) : Int))) :: L0) L) (hs : Sub H0 H) (h1 : i < N) (h2 : P (i + 1)) :
    ∃ M Hk, coversZ H Hk M L ∧ Sub Hk H ∧ ∃ m, m < N - i ∧ LI (fun i : Nat => [(d, some (.int .i64 (i : Nat)))]) (fun _ => H0) (fun i => N - i) (fun i => i ≤ N ∧ P i) L0 m M Hk :=
  nextS (S := Nat) (ent := fun i => [(d, some (.int .i64 (i : Nat)))]) (hp := fun _ => H0) (i + 1) hc hs (by show N - (i + 1) < N - i; omega) ⟨h1, h2⟩
theorem ACalls.fzK {P : Program} {f : Nat} {args : List AV} {H : AH} {v : AV} (h : ACalls P f args H fun r H' => Fz H' [] r v) : ACalls P f args H fun r _ => r = v :=
  h.freeze fun r H' a => ⟨v, [], Sub.nil _, a, rfl⟩
/-- Where ways meet: one frame, and what is known there. -/
structure JP (M : FL) (Hk : AH) (P : Prop) (L : FL) (H : AH) : Prop where
  l : L = M
  h : H = Hk
  p : P
theorem joinP {X Y : Prop} {F : (FL → AH → Prop) → Prop} {G : FL → AH → Prop} (M : FL) (Hk : AH) (P : Prop) (h1 : F (JP M Hk P)) (h2 : P → G M Hk) : (X ∨ ∃ J : FL → AH → Prop, F J ∧ ∀ M Hk, J M Hk → G M Hk) ∨ Y :=
  .inl (.inr ⟨JP M Hk P, h1, fun M' Hk' ⟨a, b, c⟩ => by rw [a, b]; exact h2 c⟩)
theorem metP {M L : FL} {Hk H : AH} {P : Prop} (hc : coversZ H Hk M L) (hs : Sub Hk H) (hp : P) : ∃ M' Hk', coversZ H Hk' M' L ∧ Sub Hk' H ∧ JP M Hk P M' Hk' := ⟨M, Hk, hc, hs, rfl, rfl, hp⟩
/-- A function that writes nothing, where more is owned. -/
theorem ACalls.sup {P : Program} {f : Nat} {args : List AV} {Hs H : AH} {K : AV → Prop} (h : ACalls P f args Hs fun r H' => K r ∧ H' = Hs) (hs : Sub Hs H) : ACalls P f args H fun r H' => K r ∧ H' = H := by
  refine ⟨h.1, fun w ρ Z xs g hr => (h.2 w ρ Z xs (g.forget hs) hr).mono fun e w' ⟨x, r', H', ρ', Z', a, g1, c, d, k1, k2⟩ => ?_⟩
  subst k2
  obtain ⟨q1, q2⟩ := g.frame hs d g1 (HS' := H) fun j c q => by
    cases hh : hget H' j with
    | none => exact .inr ⟨q, rfl⟩
    | some c' => have := hs _ _ hh; rw [q] at this; exact .inl this.symm
  exact ⟨x, _, _, ρ', Z', a, q1, c, q2, k1, rfl⟩
/-- A list that is built: nil, or owned. -/
def accV (o : Option Nat) (sz n : Nat) : AV := match o with
  | none => .nilS
  | some id => .own id sz 0 n
def accH (o : Option Nat) (sz : Nat) (l : List (List AV)) (H : AH) : AH := match o with
  | none => H
  | some id => (id, .rows sz l) :: H
theorem accFz {o : Option Nat} {sz n : Nat} {l l' : List (List AV)} {H Hc : AH} (hn : n = l.length) (h0 : o = none → l = []) (hd : ∀ id, o = some id → hget Hc id = none) (h : FzR (accH o sz l H) Hc l l') (hw : ∀ r ∈ l', r.length = sz) : Fz (accH o sz l H) Hc (accV o sz n) (.rows sz l') := by
  subst hn
  cases o with
  | none =>
    have := h0 rfl; subst this
    have : l' = [] := List.eq_nil_of_length_eq_zero h.spec.1.symm
    subst this; exact .nil sz
  | some id => exact Fz.ownL hget_self (hd id rfl) h hw
theorem map_w {α : Type} {f : α → List AV} {sz : Nat} (h : ∀ x, (f x).length = sz) (l : List α) : ∀ r ∈ l.map f, r.length = sz := fun r hr => by
  obtain ⟨x, _, rfl⟩ := List.mem_map.1 hr; exact h x
theorem take_map_succ {α β : Type} (f : α → β) (l : List α) (i : Nat) (h : i < l.length) : (l.take (i + 1)).map f = (l.take i).map f ++ [f l[i]] := by
  simp only [List.take_add_one, List.map_append, List.getElem?_eq_getElem h, Option.toList_some, List.map_cons, List.map_nil]
/-- A list's rows, by what they stand for. -/
theorem row_get {α : Type} {f : α → List AV} {l : List α} {i : Nat} (h : i < l.length) : (l.map f).getD (Int.toNat (i : Nat)) [] = f l[i] := by
  rw [Int.toNat_natCast]; simp [List.getD, h]
theorem readS_all {H : AH} {id sz n : Nat} {l : List (List AV)} (hg : hget H id = some (.rows sz l)) (h : n = l.length) : readS H false sz (.own id sz 0 n) = some l := by
  simp [readS, hg, h]
theorem cast_max (a b : Nat) : ((max a b : Nat) : Int) = max (a : Int) (b : Int) := by omega
theorem cast_min (a b : Nat) : ((min a b : Nat) : Int) = min (a : Int) (b : Int) := by omega
end Go.Proofs.YtodiahhfpcdejaaDoor

/- The kit's contracts of the library's functions, as contracts of this layer. -/
namespace Go.Proofs.YtodiahhfpcdejaaDoor
set_option autoImplicit false
open Go.RowKit

theorem hty_lt {h : Array Obj} {b : Nat} {t : Nat × TypeId} (q : hty h b = some t) : b < h.size := by
  unfold hty at q
  split at q
  · rename_i hx
    exact (Array.getElem?_eq_some_iff.1 hx).1
  · cases q
theorem Below.hty {w w' : World} (q : Below w.heap.size w w') (b : Nat) (t : Nat × TypeId) (h : hty w.heap b = some t) : Go.Proofs.YtodiahhfpcdejaaDoor.hty w'.heap b = some t := by
  have := q.block b (hty_lt h)
  unfold Go.Proofs.YtodiahhfpcdejaaDoor.hty at h ⊢
  rw [this]
  exact h
/-- A function of the library that leaves all that was there as it was. -/
theorem ACalls.belowT {P : Program} {f : Nat} {args : List AV} {v : AV} (hc : callable P f = true)
    (h : ∀ (w : World) (ρ : Loc) (Z : Nat → Prop) (xs : List Value), TabG w.heap Z → (∀ b, Z b → b < w.heap.size) → RlL w.heap ρ Z args xs → Calls P f xs.toArray w fun e w' => ∃ x, e = .returned x ∧ Rl w'.heap ρ Z v x ∧ Below w.heap.size w w') :
    ACalls P f args [] fun r _ => r = v := by
  refine ⟨hc, fun w ρ Z xs g hr => (h w ρ Z xs g.tab g.zlt hr).mono fun e w' ⟨x, e1, e2, e3⟩ => ⟨x, v, [], ρ, Z, e1, ?_, e2, ?_, rfl⟩⟩
  · refine ⟨fun _ _ q => (by cases q), fun _ _ _ _ _ _ _ _ q => (by cases q), fun b ⟨_, _, _, q, _⟩ => (by cases q), fun b q => Nat.lt_of_lt_of_le (g.zlt b q) e3.size, g.ids, fun id b o q => ?_, g.tab.of (fun _ q => q) (fun b q => e3.block b (g.zlt b q))⟩
    obtain ⟨h1, m, h2⟩ := g.ty id b o q
    exact ⟨h1, m, Below.hty e3 b _ h2⟩
  · exact ⟨e3.size, fun b hb _ => e3.block b hb, fun b t q => Below.hty e3 b t q, fun _ q => q, fun _ q => .inl q, fun _ _ q => q, fun b ⟨_, _, _, q, _⟩ => (by cases q), e3.os, e3.output, e3.tape⟩
theorem ACalls.below {P : Program} {f : Nat} {args : List AV} {v : AV} (hc : callable P f = true)
    (h : ∀ (w : World) (ρ : Loc) (Z : Nat → Prop) (xs : List Value), RlL w.heap ρ Z args xs → Calls P f xs.toArray w fun e w' => ∃ x, e = .returned x ∧ Rl w'.heap ρ Z v x ∧ Below w.heap.size w w') :
    ACalls P f args [] fun r _ => r = v := ACalls.belowT hc fun w ρ Z xs _ _ => h w ρ Z xs
theorem RlL.two {h : Array Obj} {ρ : Loc} {Z : Nat → Prop} {a b : AV} {xs : List Value} (q : RlL h ρ Z [a, b] xs) : ∃ x y, xs = [x, y] ∧ Rl h ρ Z a x ∧ Rl h ρ Z b y := by
  obtain ⟨hl, hr⟩ := q
  match xs, hl with
  | [x, y], _ => exact ⟨x, y, rfl, hr 0 a x rfl rfl, hr 1 b y rfl rfl⟩
theorem RlL.one {h : Array Obj} {ρ : Loc} {Z : Nat → Prop} {a : AV} {xs : List Value} (q : RlL h ρ Z [a] xs) : ∃ x, xs = [x] ∧ Rl h ρ Z a x := by
  obtain ⟨hl, hr⟩ := q
  match xs, hl with
  | [x], _ => exact ⟨x, rfl, hr 0 a x rfl rfl⟩
theorem ACalls.sub {P : Program} {f : Nat} {args : List AV} {H H1 : AH} {v : AV} (h : ACalls P f args H fun r H' => r = v ∧ Sub H1 H') : ACalls P f args H fun r H' => r = v ∧ H' = H1 :=
  h.freeze fun r H' ⟨a, b⟩ => ⟨r, H1, b, .refl _, a, rfl⟩
theorem sub_hset {H H' : AH} {id : Nat} {b : Blk} (h1 : hget H' id = some b) (h2 : ∀ j c, j ≠ id → hget H j = some c → hget H' j = some c) : Sub (hset H id b) H' := fun j c q => by
  rw [hget_hset] at q
  split at q
  · rename_i e
    subst e
    cases hh : hget H j with
    | none => rw [hh] at q; cases q
    | some d => rw [hh] at q; simp only [Option.map_some, Option.some.injEq] at q; rw [← q]; exact h1
  · rename_i e; exact h2 j c e q

end Go.Proofs.YtodiahhfpcdejaaDoor

/- Each function's translation is, by reckoning, the abstract code that is written out here; its contract follows from the predicate transformer over that code. -/
namespace Go.Proofs.YtodiahhfpcdejaaDoor
set_option autoImplicit false
set_option maxRecDepth 100000
noncomputable abbrev PG : Program := Tryd.prog
theorem mixed : PG.follows .mixedOrders = true := by kernel_rfl
abbrev ty_int64 : Nat := 2
abbrev ty_int : Nat := 3
abbrev ty_bool : Nat := 4
abbrev ty_uint8 : Nat := 5
abbrev ty_abi_BoundsErrorCode : Nat := 6
abbrev ty_runtime_boundsError : Nat := 8
abbrev ty_string : Nat := 9
abbrev ty_runtime_errorString : Nat := 10
abbrev ty_runtime_plainError : Nat := 11
abbrev ty_uintptr : Nat := 12
abbrev ty_runtime_errorAddressString : Nat := 14
abbrev ty_P_runtime_TypeAssertionError : Nat := 15
abbrev ty_P_runtime_PanicNilError : Nat := 16
abbrev ty_P_abi_Type : Nat := 17
abbrev ty_maps_unhashableTypeError : Nat := 19
abbrev ty_int32 : Nat := 21
abbrev ty_uint64 : Nat := 22
abbrev ty_S_api_Value : Nat := 23
abbrev ty_api_Value : Nat := 25
abbrev ty_S_int : Nat := 29
abbrev ty_S_api_Type : Nat := 35
abbrev ty_S_api_Step : Nat := 36
abbrev ty_broadsheetlaw12_Where : Nat := 38
abbrev ty_api_Errno : Nat := 42
abbrev ty_api_Datum : Nat := 52
abbrev ty_S_string : Nat := 56
abbrev ty_S_api_Item : Nat := 60
abbrev ty_api_Type : Nat := 62
abbrev ty_api_Item : Nat := 64
abbrev ty_api_Step : Nat := 66
abbrev ty_P_strings_Builder : Nat := 68
abbrev ty_S_uint8 : Nat := 69
abbrev ty_strings_Builder : Nat := 71
abbrev ty_error : Nat := 74
abbrev ty_path_piece : Nat := 84
abbrev ty_fits_asker : Nat := 90
abbrev ty_uint : Nat := 94
abbrev ty_api_Fault : Nat := 100
abbrev ty_P_uint8 : Nat := 102
abbrev ty_prim_row : Nat := 118
abbrev ty_P_types_look : Nat := 127
abbrev ty_types_look : Nat := 129
abbrev ty_unsafe_Pointer : Nat := 132
abbrev ty_uint32 : Nat := 142
abbrev ty_runtime_TypeAssertionError : Nat := 156
abbrev ty_runtime_PanicNilError : Nat := 159
abbrev ty_abi_TFlag : Nat := 161
abbrev ty_abi_Kind : Nat := 162
abbrev ty_abi_NameOff : Nat := 164
abbrev ty_abi_TypeOff : Nat := 165
abbrev ty_abi_Type : Nat := 167
def strconv_FormatUint.n : Nat := 32
noncomputable def strconv_FormatUint.c : C := (.seq (.reg [⟨(some 4), none, (.mv (.c (.str [])))⟩]) (.seq (.reg [⟨(some 5), none, (.mv (.t 0))⟩, ⟨(some 6), none, (.mv (.t 1))⟩, ⟨(some 7), none, (.call 53 [(.t 5), (.t 6)])⟩, ⟨(some 4), none, (.mv (.t 7))⟩]) .ret))
theorem strconv_FormatUint.code : comp PG [] (Tryd.f32.body.getD .skip) = strconv_FormatUint.c := by kernel_rfl
theorem strconv_FormatUint.of {args : List AV} {H : AH} {K : AV → AH → Prop} (hl : args.length = 2) (h : wpA PG strconv_FormatUint.c none (endA [(.t 4)] K) (initFr args) H) : ACalls PG 32 args H K :=
  ACalls.of_code (fl := []) mixed Tryd.func32 (c := Tryd.f32.body.getD .skip) (by kernel_rfl) (by kernel_rfl) (by rw [hl]; exact of_decide_eq_true (by kernel_rfl)) (by rw [strconv_FormatUint.code]; kernel_rfl)
    (by rw [strconv_FormatUint.code, show compRes PG Tryd.f32.results.toList = [(.t 4)] from by kernel_rfl]; exact h)
def strings_Builder_WriteString.n : Nat := 40
noncomputable def strings_Builder_WriteString.c : C := (.seq (.reg [⟨(some 4), none, (.mv (.c (.int .i64 0)))⟩, ⟨(some 5), none, (.mv (.c .nilI))⟩]) (.seq (.reg [⟨(some 6), none, (.mv (.t 0))⟩, ⟨(some 7), none, (.call 61 [(.t 6)])⟩]) (.seq (.reg [⟨(some 8), none, (.mv (.t 0))⟩, ⟨(some 9), none, (.mv (.t 0))⟩, ⟨(some 10), none, (.nilck (.t 9))⟩, ⟨(some 11), none, (.faddr 1 (.t 10))⟩, ⟨(some 12), none, (.load none (.t 11))⟩, ⟨(some 13), none, (.mv (.t 1))⟩, ⟨(some 14), none, (.append 5 true 1 1 (.t 12) (.t 13))⟩, ⟨(some 15), none, (.nilck (.t 8))⟩, ⟨(some 16), none, (.faddr 1 (.t 15))⟩, ⟨none, none, (.store 1 (.t 16) (.t 14))⟩]) (.seq (.reg [⟨(some 17), none, (.mv (.t 1))⟩, ⟨(some 18), none, (.len true (.t 17))⟩, ⟨(some 4), none, (.mv (.t 18))⟩, ⟨(some 5), none, (.mv (.c .nilI))⟩]) .ret))))
theorem strings_Builder_WriteString.code : comp PG [] (Tryd.f40.body.getD .skip) = strings_Builder_WriteString.c := by kernel_rfl
theorem strings_Builder_WriteString.of {args : List AV} {H : AH} {K : AV → AH → Prop} (hl : args.length = 2) (h : wpA PG strings_Builder_WriteString.c none (endA [(.t 4), (.t 5)] K) (initFr args) H) : ACalls PG 40 args H K :=
  ACalls.of_code (fl := []) mixed Tryd.func40 (c := Tryd.f40.body.getD .skip) (by kernel_rfl) (by kernel_rfl) (by rw [hl]; exact of_decide_eq_true (by kernel_rfl)) (by rw [strings_Builder_WriteString.code]; kernel_rfl)
    (by rw [strings_Builder_WriteString.code, show compRes PG Tryd.f40.results.toList = [(.t 4), (.t 5)] from by kernel_rfl]; exact h)
def strings_Builder_WriteByte.n : Nat := 42
noncomputable def strings_Builder_WriteByte.c : C := (.seq (.reg [⟨(some 4), none, (.mv (.c .nilI))⟩]) (.seq (.reg [⟨(some 5), none, (.mv (.t 0))⟩, ⟨(some 6), none, (.call 61 [(.t 5)])⟩]) (.seq (.reg [⟨(some 7), none, (.mv (.t 0))⟩, ⟨(some 8), none, (.mv (.t 0))⟩, ⟨(some 9), none, (.nilck (.t 8))⟩, ⟨(some 10), none, (.faddr 1 (.t 9))⟩, ⟨(some 11), none, (.load none (.t 10))⟩, ⟨(some 12), none, (.mv (.t 1))⟩, ⟨(some 13), none, (.bslice 5 1 1 [(.int .u8 0)] [(0, (.t 12))])⟩, ⟨(some 14), none, (.append 5 false 1 1 (.t 11) (.t 13))⟩, ⟨(some 15), none, (.nilck (.t 7))⟩, ⟨(some 16), none, (.faddr 1 (.t 15))⟩, ⟨none, none, (.store 1 (.t 16) (.t 14))⟩]) (.seq (.reg [⟨(some 4), none, (.mv (.c .nilI))⟩]) .ret))))
theorem strings_Builder_WriteByte.code : comp PG [] (Tryd.f42.body.getD .skip) = strings_Builder_WriteByte.c := by kernel_rfl
theorem strings_Builder_WriteByte.of {args : List AV} {H : AH} {K : AV → AH → Prop} (hl : args.length = 2) (h : wpA PG strings_Builder_WriteByte.c none (endA [(.t 4)] K) (initFr args) H) : ACalls PG 42 args H K :=
  ACalls.of_code (fl := []) mixed Tryd.func42 (c := Tryd.f42.body.getD .skip) (by kernel_rfl) (by kernel_rfl) (by rw [hl]; exact of_decide_eq_true (by kernel_rfl)) (by rw [strings_Builder_WriteByte.code]; kernel_rfl)
    (by rw [strings_Builder_WriteByte.code, show compRes PG Tryd.f42.results.toList = [(.t 4)] from by kernel_rfl]; exact h)
def strings_Builder_String.n : Nat := 43
noncomputable def strings_Builder_String.c : C := (.seq (.reg [⟨(some 2), none, (.mv (.c (.str [])))⟩]) (.seq (.dreg [⟨(some 3), none, (.mv (.t 0))⟩, ⟨(some 4), none, (.nilck (.t 3))⟩, ⟨(some 5), none, (.faddr 1 (.t 4))⟩, ⟨(some 6), none, (.load none (.t 5))⟩, ⟨(some 7), none, (.sdata (.t 6))⟩, ⟨(some 8), none, (.mv (.t 0))⟩, ⟨(some 9), none, (.nilck (.t 8))⟩, ⟨(some 10), none, (.faddr 1 (.t 9))⟩, ⟨(some 11), none, (.load none (.t 10))⟩, ⟨(some 12), none, (.len false (.t 11))⟩] [⟨(some 13), none, (.ustr 5 (.t 7) (.t 12))⟩, ⟨(some 2), none, (.mv (.t 13))⟩]) .ret))
theorem strings_Builder_String.code : comp PG [] (Tryd.f43.body.getD .skip) = strings_Builder_String.c := by kernel_rfl
theorem strings_Builder_String.of {args : List AV} {H : AH} {K : AV → AH → Prop} (hl : args.length = 1) (h : wpA PG strings_Builder_String.c none (endA [(.t 2)] K) (initFr args) H) : ACalls PG 43 args H K :=
  ACalls.of_code (fl := []) mixed Tryd.func43 (c := Tryd.f43.body.getD .skip) (by kernel_rfl) (by kernel_rfl) (by rw [hl]; exact of_decide_eq_true (by kernel_rfl)) (by rw [strings_Builder_String.code]; kernel_rfl)
    (by rw [strings_Builder_String.code, show compRes PG Tryd.f43.results.toList = [(.t 2)] from by kernel_rfl]; exact h)
def strconv_FormatBool.n : Nat := 49
noncomputable def strconv_FormatBool.c : C := (.seq (.reg [⟨(some 2), none, (.mv (.c (.str [])))⟩]) (.seq (.reg [⟨(some 3), none, (.mv (.t 0))⟩, ⟨(some 4), none, (.call 81 [(.t 3)])⟩, ⟨(some 2), none, (.mv (.t 4))⟩]) .ret))
theorem strconv_FormatBool.code : comp PG [] (Tryd.f49.body.getD .skip) = strconv_FormatBool.c := by kernel_rfl
theorem strconv_FormatBool.of {args : List AV} {H : AH} {K : AV → AH → Prop} (hl : args.length = 1) (h : wpA PG strconv_FormatBool.c none (endA [(.t 2)] K) (initFr args) H) : ACalls PG 49 args H K :=
  ACalls.of_code (fl := []) mixed Tryd.func49 (c := Tryd.f49.body.getD .skip) (by kernel_rfl) (by kernel_rfl) (by rw [hl]; exact of_decide_eq_true (by kernel_rfl)) (by rw [strconv_FormatBool.code]; kernel_rfl)
    (by rw [strconv_FormatBool.code, show compRes PG Tryd.f49.results.toList = [(.t 2)] from by kernel_rfl]; exact h)
def strings_Join.n : Nat := 52
noncomputable def strings_Join.c : C := (.seq (.reg [⟨(some 4), none, (.mv (.c (.str [])))⟩]) (.seq (.seq (.reg [⟨(some 11), none, (.mv (.t 0))⟩, ⟨(some 12), none, (.len false (.t 11))⟩]) (.block 0 (.seq (.reg [⟨(some 14), none, (.bin .eql (.t 12) (.c (.int .i64 0)))⟩, ⟨(some 13), none, (.mv (.t 14))⟩]) (.cond (.t 13) (.seq (.reg [⟨(some 4), none, (.mv (.c (.str [])))⟩]) .ret) (.seq (.reg [⟨(some 16), none, (.bin .eql (.t 12) (.c (.int .i64 1)))⟩, ⟨(some 15), none, (.mv (.t 16))⟩]) (.cond (.t 15) (.seq (.reg [⟨(some 17), none, (.mv (.t 0))⟩, ⟨(some 18), none, (.iaddr 1 (.t 17) (.c (.int .i64 0)))⟩, ⟨(some 19), none, (.load none (.t 18))⟩, ⟨(some 4), none, (.mv (.t 19))⟩]) .ret) .skip)))))) (.seq (.reg [⟨(some 5), none, (.mv (.c (.int .i64 0)))⟩]) (.seq (.seq (.reg [⟨(some 20), none, (.mv (.t 1))⟩, ⟨(some 21), none, (.len true (.t 20))⟩, ⟨(some 22), none, (.bin .gtr (.t 21) (.c (.int .i64 0)))⟩]) (.cond (.t 22) (.seq (.seq (.reg [⟨(some 23), none, (.mv (.t 1))⟩, ⟨(some 24), none, (.len true (.t 23))⟩, ⟨(some 25), none, (.mv (.t 0))⟩, ⟨(some 26), none, (.len false (.t 25))⟩, ⟨(some 27), none, (.bin .sub (.t 26) (.c (.int .i64 1)))⟩, ⟨(some 28), none, (.bin .quo (.c (.int .i64 9223372036854775807)) (.t 27))⟩, ⟨(some 29), none, (.bin .geq (.t 24) (.t 28))⟩]) (.cond (.t 29) (.reg [⟨(some 30), none, .bad⟩, ⟨none, none, .bad⟩]) .skip)) (.reg [⟨(some 31), none, (.mv (.t 5))⟩, ⟨(some 32), none, (.mv (.t 1))⟩, ⟨(some 33), none, (.len true (.t 32))⟩, ⟨(some 34), none, (.mv (.t 0))⟩, ⟨(some 35), none, (.len false (.t 34))⟩, ⟨(some 36), none, (.bin .sub (.t 35) (.c (.int .i64 1)))⟩, ⟨(some 37), none, (.bin .mul (.t 33) (.t 36))⟩, ⟨(some 38), none, (.bin .add (.t 31) (.t 37))⟩, ⟨(some 5), none, (.mv (.t 38))⟩])) .skip)) (.seq (.seq (.reg [⟨(some 39), none, (.mv (.t 0))⟩, ⟨(some 40), none, (.len false (.t 39))⟩, ⟨(some 41), none, (.mv (.c (.int .i64 0)))⟩]) (.block 1 (.loop (.seq (.reg [⟨(some 42), none, (.bin .lss (.t 41) (.t 40))⟩]) (.seq (.cond (.t 42) .skip (.exit 1)) (.seq (.block 2 (.seq (.reg [⟨(some 43), none, (.iaddr 1 (.t 39) (.t 41))⟩, ⟨(some 44), none, (.load none (.t 43))⟩, ⟨(some 7), none, (.mv (.t 44))⟩]) (.seq (.seq (.reg [⟨(some 45), none, (.mv (.t 7))⟩, ⟨(some 46), none, (.len true (.t 45))⟩, ⟨(some 47), none, (.mv (.t 5))⟩, ⟨(some 48), none, (.bin .sub (.c (.int .i64 9223372036854775807)) (.t 47))⟩, ⟨(some 49), none, (.bin .gtr (.t 46) (.t 48))⟩]) (.cond (.t 49) (.reg [⟨(some 50), none, .bad⟩, ⟨none, none, .bad⟩]) .skip)) (.reg [⟨(some 51), none, (.mv (.t 5))⟩, ⟨(some 52), none, (.mv (.t 7))⟩, ⟨(some 53), none, (.len true (.t 52))⟩, ⟨(some 54), none, (.bin .add (.t 51) (.t 53))⟩, ⟨(some 5), none, (.mv (.t 54))⟩])))) (.reg [⟨(some 55), none, (.bin .add (.t 41) (.c (.int .i64 1)))⟩, ⟨(some 41), none, (.mv (.t 55))⟩]))))))) (.seq (.reg [⟨(some 8), none, (.allc 71 [.nilP, .nilS])⟩]) (.seq (.reg [⟨(some 56), none, (.mv (.t 5))⟩, ⟨(some 57), none, (.call 86 [(.t 8), (.t 56)])⟩]) (.seq (.reg [⟨(some 58), none, (.mv (.t 0))⟩, ⟨(some 59), none, (.iaddr 1 (.t 58) (.c (.int .i64 0)))⟩, ⟨(some 60), none, (.load none (.t 59))⟩, ⟨(some 61), none, (.call 40 [(.t 8), (.t 60)])⟩]) (.seq (.seq (.reg [⟨(some 62), none, (.mv (.t 0))⟩, ⟨(some 63), none, (.slice (some 1) (.t 62) (some (.c (.int .i64 1))) none)⟩, ⟨(some 64), none, (.len false (.t 63))⟩, ⟨(some 65), none, (.mv (.c (.int .i64 0)))⟩]) (.block 3 (.loop (.seq (.reg [⟨(some 66), none, (.bin .lss (.t 65) (.t 64))⟩]) (.seq (.cond (.t 66) .skip (.exit 3)) (.seq (.block 4 (.seq (.reg [⟨(some 67), none, (.iaddr 1 (.t 63) (.t 65))⟩, ⟨(some 68), none, (.load none (.t 67))⟩, ⟨(some 10), none, (.mv (.t 68))⟩]) (.seq (.reg [⟨(some 69), none, (.mv (.t 1))⟩, ⟨(some 70), none, (.call 40 [(.t 8), (.t 69)])⟩]) (.reg [⟨(some 71), none, (.mv (.t 10))⟩, ⟨(some 72), none, (.call 40 [(.t 8), (.t 71)])⟩])))) (.reg [⟨(some 73), none, (.bin .add (.t 65) (.c (.int .i64 1)))⟩, ⟨(some 65), none, (.mv (.t 73))⟩]))))))) (.seq (.reg [⟨(some 74), none, (.call 43 [(.t 8)])⟩, ⟨(some 4), none, (.mv (.t 74))⟩]) .ret))))))))))
theorem strings_Join.code : comp PG [] (Tryd.f52.body.getD .skip) = strings_Join.c := by kernel_rfl
theorem strings_Join.of {args : List AV} {H : AH} {K : AV → AH → Prop} (hl : args.length = 2) (h : wpA PG strings_Join.c none (endA [(.t 4)] K) (initFr args) H) : ACalls PG 52 args H K :=
  ACalls.of_code (fl := []) mixed Tryd.func52 (c := Tryd.f52.body.getD .skip) (by kernel_rfl) (by kernel_rfl) (by rw [hl]; exact of_decide_eq_true (by kernel_rfl)) (by rw [strings_Join.code]; kernel_rfl)
    (by rw [strings_Join.code, show compRes PG Tryd.f52.results.toList = [(.t 4)] from by kernel_rfl]; exact h)
def strings_Builder_copyCheck.n : Nat := 61
noncomputable def strings_Builder_copyCheck.c : C := (.seq (.reg [⟨(some 2), none, (.mv (.t 0))⟩, ⟨(some 3), none, (.nilck (.t 2))⟩, ⟨(some 4), none, (.faddr 0 (.t 3))⟩, ⟨(some 5), none, (.load none (.t 4))⟩, ⟨(some 6), none, (.ncmpP false (.t 5))⟩]) (.cond (.t 6) (.reg [⟨(some 7), none, (.mv (.t 0))⟩, ⟨(some 8), none, (.mv (.t 0))⟩, ⟨(some 9), none, (.idu (.t 8))⟩, ⟨(some 10), none, (.ext .same [(.t 9)])⟩, ⟨(some 11), none, (.idf [(71, (2, 0))] (.t 10))⟩, ⟨(some 12), none, (.nilck (.t 7))⟩, ⟨(some 13), none, (.faddr 0 (.t 12))⟩, ⟨none, none, (.store 1 (.t 13) (.t 11))⟩]) (.seq (.reg [⟨(some 14), none, (.mv (.t 0))⟩, ⟨(some 15), none, (.nilck (.t 14))⟩, ⟨(some 16), none, (.faddr 0 (.t 15))⟩, ⟨(some 17), none, (.load none (.t 16))⟩, ⟨(some 18), none, (.mv (.t 0))⟩, ⟨(some 19), none, (.peq true (.t 17) (.t 18))⟩]) (.cond (.t 19) .bad .skip))))
theorem strings_Builder_copyCheck.code : comp PG [] (Tryd.f61.body.getD .skip) = strings_Builder_copyCheck.c := by kernel_rfl
theorem strings_Builder_copyCheck.of {args : List AV} {H : AH} {K : AV → AH → Prop} (hl : args.length = 1) (h : wpA PG strings_Builder_copyCheck.c none (endA [] K) (initFr args) H) : ACalls PG 61 args H K :=
  ACalls.of_code (fl := []) mixed Tryd.func61 (c := Tryd.f61.body.getD .skip) (by kernel_rfl) (by kernel_rfl) (by rw [hl]; exact of_decide_eq_true (by kernel_rfl)) (by rw [strings_Builder_copyCheck.code]; kernel_rfl)
    (by rw [strings_Builder_copyCheck.code, show compRes PG Tryd.f61.results.toList = [] from by kernel_rfl]; exact h)
def strings_CutPrefix.n : Nat := 65
noncomputable def strings_CutPrefix.c : C := (.seq (.reg [⟨(some 4), none, (.mv (.c (.str [])))⟩, ⟨(some 5), none, (.mv (.c (.bool false)))⟩]) (.seq (.reg [⟨(some 6), none, (.mv (.t 0))⟩, ⟨(some 7), none, (.mv (.t 1))⟩, ⟨(some 8), none, (.call 104 [(.t 6), (.t 7)])⟩, ⟨(some 9), none, (.extr (.t 8) 0)⟩, ⟨(some 10), none, (.extr (.t 8) 1)⟩, ⟨(some 4), none, (.mv (.t 9))⟩, ⟨(some 5), none, (.mv (.t 10))⟩]) .ret))
theorem strings_CutPrefix.code : comp PG [] (Tryd.f65.body.getD .skip) = strings_CutPrefix.c := by kernel_rfl
theorem strings_CutPrefix.of {args : List AV} {H : AH} {K : AV → AH → Prop} (hl : args.length = 2) (h : wpA PG strings_CutPrefix.c none (endA [(.t 4), (.t 5)] K) (initFr args) H) : ACalls PG 65 args H K :=
  ACalls.of_code (fl := []) mixed Tryd.func65 (c := Tryd.f65.body.getD .skip) (by kernel_rfl) (by kernel_rfl) (by rw [hl]; exact of_decide_eq_true (by kernel_rfl)) (by rw [strings_CutPrefix.code]; kernel_rfl)
    (by rw [strings_CutPrefix.code, show compRes PG Tryd.f65.results.toList = [(.t 4), (.t 5)] from by kernel_rfl]; exact h)
def name_Lead.n : Nat := 66
noncomputable def name_Lead.c : C := (.seq (.reg [⟨(some 2), none, (.mv (.c (.int .i64 0)))⟩]) (.seq (.reg [⟨(some 3), none, (.mv (.c (.int .i64 0)))⟩]) (.seq (.block 0 (.loop (.seq (.seq (.reg [⟨(some 4), none, (.mv (.t 3))⟩, ⟨(some 5), none, (.mv (.t 0))⟩, ⟨(some 6), none, (.len true (.t 5))⟩, ⟨(some 7), none, (.bin .lss (.t 4) (.t 6))⟩, ⟨(some 8), none, (.mv (.t 7))⟩, ⟨(some 9), (some (8, true)), (.mv (.t 0))⟩, ⟨(some 10), (some (8, true)), (.mv (.t 3))⟩, ⟨(some 11), (some (8, true)), (.idx (.t 9) (.t 10))⟩, ⟨(some 12), (some (8, true)), (.mv (.t 3))⟩, ⟨(some 13), (some (8, true)), (.bin .eql (.t 12) (.c (.int .i64 0)))⟩, ⟨(some 14), (some (8, true)), (.call 105 [(.t 11), (.t 13)])⟩, ⟨(some 15), none, (.pick (.t 8) (.t 14) (.c (.bool false)))⟩]) (.cond (.t 15) .skip (.exit 0))) (.block 1 (.reg [⟨(some 16), none, (.mv (.t 3))⟩, ⟨(some 17), none, (.bin .add (.t 16) (.c (.int .i64 1)))⟩, ⟨(some 3), none, (.mv (.t 17))⟩]))))) (.seq (.reg [⟨(some 18), none, (.mv (.t 3))⟩, ⟨(some 2), none, (.mv (.t 18))⟩]) .ret))))
theorem name_Lead.code : comp PG [] (Tryd.f66.body.getD .skip) = name_Lead.c := by kernel_rfl
theorem name_Lead.of {args : List AV} {H : AH} {K : AV → AH → Prop} (hl : args.length = 1) (h : wpA PG name_Lead.c none (endA [(.t 2)] K) (initFr args) H) : ACalls PG 66 args H K :=
  ACalls.of_code (fl := []) mixed Tryd.func66 (c := Tryd.f66.body.getD .skip) (by kernel_rfl) (by kernel_rfl) (by rw [hl]; exact of_decide_eq_true (by kernel_rfl)) (by rw [name_Lead.code]; kernel_rfl)
    (by rw [name_Lead.code, show compRes PG Tryd.f66.results.toList = [(.t 2)] from by kernel_rfl]; exact h)
def strconv_FormatBool_81.n : Nat := 81
noncomputable def strconv_FormatBool_81.c : C := (.seq (.reg [⟨(some 2), none, (.mv (.c (.str [])))⟩]) (.seq (.seq (.reg [⟨(some 3), none, (.mv (.t 0))⟩]) (.cond (.t 3) (.seq (.reg [⟨(some 2), none, (.mv (.c (.str [116, 114, 117, 101])))⟩]) .ret) .skip)) (.seq (.reg [⟨(some 2), none, (.mv (.c (.str [102, 97, 108, 115, 101])))⟩]) .ret)))
theorem strconv_FormatBool_81.code : comp PG [] (Tryd.f81.body.getD .skip) = strconv_FormatBool_81.c := by kernel_rfl
theorem strconv_FormatBool_81.of {args : List AV} {H : AH} {K : AV → AH → Prop} (hl : args.length = 1) (h : wpA PG strconv_FormatBool_81.c none (endA [(.t 2)] K) (initFr args) H) : ACalls PG 81 args H K :=
  ACalls.of_code (fl := []) mixed Tryd.func81 (c := Tryd.f81.body.getD .skip) (by kernel_rfl) (by kernel_rfl) (by rw [hl]; exact of_decide_eq_true (by kernel_rfl)) (by rw [strconv_FormatBool_81.code]; kernel_rfl)
    (by rw [strconv_FormatBool_81.code, show compRes PG Tryd.f81.results.toList = [(.t 2)] from by kernel_rfl]; exact h)
def strings_Builder_Grow.n : Nat := 86
noncomputable def strings_Builder_Grow.c : C := (.seq (.reg [⟨(some 4), none, (.mv (.t 0))⟩, ⟨(some 5), none, (.call 61 [(.t 4)])⟩]) (.seq (.seq (.reg [⟨(some 6), none, (.mv (.t 1))⟩, ⟨(some 7), none, (.bin .lss (.t 6) (.c (.int .i64 0)))⟩]) (.cond (.t 7) (.reg [⟨(some 8), none, .bad⟩, ⟨none, none, .bad⟩]) .skip)) (.seq (.dreg [⟨(some 9), none, (.mv (.t 0))⟩, ⟨(some 10), none, (.nilck (.t 9))⟩, ⟨(some 11), none, (.faddr 1 (.t 10))⟩, ⟨(some 12), none, (.load none (.t 11))⟩, ⟨(some 13), none, .bad⟩, ⟨(some 14), none, (.mv (.t 0))⟩, ⟨(some 15), none, (.nilck (.t 14))⟩, ⟨(some 16), none, (.faddr 1 (.t 15))⟩, ⟨(some 17), none, (.load none (.t 16))⟩, ⟨(some 18), none, (.len false (.t 17))⟩, ⟨(some 19), none, (.bin .sub (.t 13) (.t 18))⟩, ⟨(some 20), none, (.mv (.t 1))⟩] [⟨(some 21), none, (.bin .lss (.t 19) (.t 20))⟩]) (.cond (.t 21) (.reg [⟨(some 22), none, (.mv (.t 0))⟩, ⟨(some 23), none, (.mv (.t 1))⟩, ⟨(some 24), none, (.call 114 [(.t 22), (.t 23)])⟩]) .skip))))
theorem strings_Builder_Grow.code : comp PG [] (Tryd.f86.body.getD .skip) = strings_Builder_Grow.c := by kernel_rfl
theorem strings_Builder_Grow.of {args : List AV} {H : AH} {K : AV → AH → Prop} (hl : args.length = 2) (h : wpA PG strings_Builder_Grow.c none (endA [] K) (initFr args) H) : ACalls PG 86 args H K :=
  ACalls.of_code (fl := []) mixed Tryd.func86 (c := Tryd.f86.body.getD .skip) (by kernel_rfl) (by kernel_rfl) (by rw [hl]; exact of_decide_eq_true (by kernel_rfl)) (by rw [strings_Builder_Grow.code]; kernel_rfl)
    (by rw [strings_Builder_Grow.code, show compRes PG Tryd.f86.results.toList = [] from by kernel_rfl]; exact h)
def strings_IndexByte.n : Nat := 103
noncomputable def strings_IndexByte.c : C := (.seq (.reg [⟨(some 4), none, (.mv (.c (.int .i64 0)))⟩]) (.seq (.reg [⟨(some 5), none, (.mv (.t 0))⟩, ⟨(some 6), none, (.mv (.t 1))⟩, ⟨(some 7), none, (.call 124 [(.t 5), (.t 6)])⟩, ⟨(some 4), none, (.mv (.t 7))⟩]) .ret))
theorem strings_IndexByte.code : comp PG [] (Tryd.f103.body.getD .skip) = strings_IndexByte.c := by kernel_rfl
theorem strings_IndexByte.of {args : List AV} {H : AH} {K : AV → AH → Prop} (hl : args.length = 2) (h : wpA PG strings_IndexByte.c none (endA [(.t 4)] K) (initFr args) H) : ACalls PG 103 args H K :=
  ACalls.of_code (fl := []) mixed Tryd.func103 (c := Tryd.f103.body.getD .skip) (by kernel_rfl) (by kernel_rfl) (by rw [hl]; exact of_decide_eq_true (by kernel_rfl)) (by rw [strings_IndexByte.code]; kernel_rfl)
    (by rw [strings_IndexByte.code, show compRes PG Tryd.f103.results.toList = [(.t 4)] from by kernel_rfl]; exact h)
def stringslite_CutPrefix.n : Nat := 104
noncomputable def stringslite_CutPrefix.c : C := (.seq (.reg [⟨(some 4), none, (.mv (.c (.str [])))⟩, ⟨(some 5), none, (.mv (.c (.bool false)))⟩]) (.seq (.seq (.reg [⟨(some 6), none, (.mv (.t 0))⟩, ⟨(some 7), none, (.mv (.t 1))⟩, ⟨(some 8), none, (.call 125 [(.t 6), (.t 7)])⟩, ⟨(some 9), none, (.un .not (.t 8))⟩]) (.cond (.t 9) (.seq (.reg [⟨(some 10), none, (.mv (.t 0))⟩, ⟨(some 4), none, (.mv (.t 10))⟩, ⟨(some 5), none, (.mv (.c (.bool false)))⟩]) .ret) .skip)) (.seq (.reg [⟨(some 11), none, (.mv (.t 0))⟩, ⟨(some 12), none, (.mv (.t 1))⟩, ⟨(some 13), none, (.len true (.t 12))⟩, ⟨(some 14), none, (.slice none (.t 11) (some (.t 13)) none)⟩, ⟨(some 4), none, (.mv (.t 14))⟩, ⟨(some 5), none, (.mv (.c (.bool true)))⟩]) .ret)))
theorem stringslite_CutPrefix.code : comp PG [] (Tryd.f104.body.getD .skip) = stringslite_CutPrefix.c := by kernel_rfl
theorem stringslite_CutPrefix.of {args : List AV} {H : AH} {K : AV → AH → Prop} (hl : args.length = 2) (h : wpA PG stringslite_CutPrefix.c none (endA [(.t 4), (.t 5)] K) (initFr args) H) : ACalls PG 104 args H K :=
  ACalls.of_code (fl := []) mixed Tryd.func104 (c := Tryd.f104.body.getD .skip) (by kernel_rfl) (by kernel_rfl) (by rw [hl]; exact of_decide_eq_true (by kernel_rfl)) (by rw [stringslite_CutPrefix.code]; kernel_rfl)
    (by rw [stringslite_CutPrefix.code, show compRes PG Tryd.f104.results.toList = [(.t 4), (.t 5)] from by kernel_rfl]; exact h)
def name_may.n : Nat := 105
noncomputable def name_may.c : C := (.seq (.reg [⟨(some 4), none, (.mv (.c (.bool false)))⟩]) (.seq (.block 0 (.seq (.block 2 (.seq (.block 1 (.seq (.seq (.seq (.seq (.reg [⟨(some 6), none, (.mv (.t 0))⟩, ⟨(some 7), none, (.bin .geq (.t 6) (.c (.int .u8 48)))⟩, ⟨(some 8), none, (.mv (.t 7))⟩, ⟨(some 9), (some (8, true)), (.mv (.t 0))⟩, ⟨(some 10), (some (8, true)), (.bin .leq (.t 9) (.c (.int .u8 57)))⟩, ⟨(some 11), none, (.pick (.t 8) (.t 10) (.c (.bool false)))⟩, ⟨(some 5), none, (.mv (.t 11))⟩]) (.cond (.t 5) .skip (.reg [⟨(some 12), none, (.mv (.t 0))⟩, ⟨(some 13), none, (.bin .eql (.t 12) (.c (.int .u8 95)))⟩, ⟨(some 5), none, (.mv (.t 13))⟩]))) (.cond (.t 5) (.exit 1) .skip)) (.seq (.seq (.reg [⟨(some 15), none, (.mv (.t 0))⟩, ⟨(some 16), none, (.bin .geq (.t 15) (.c (.int .u8 97)))⟩, ⟨(some 17), none, (.mv (.t 16))⟩, ⟨(some 18), (some (17, true)), (.mv (.t 0))⟩, ⟨(some 19), (some (17, true)), (.bin .leq (.t 18) (.c (.int .u8 122)))⟩, ⟨(some 20), none, (.pick (.t 17) (.t 19) (.c (.bool false)))⟩, ⟨(some 14), none, (.mv (.t 20))⟩]) (.cond (.t 14) .skip (.reg [⟨(some 21), none, (.mv (.t 0))⟩, ⟨(some 22), none, (.bin .geq (.t 21) (.c (.int .u8 65)))⟩, ⟨(some 23), none, (.mv (.t 22))⟩, ⟨(some 24), (some (23, true)), (.mv (.t 0))⟩, ⟨(some 25), (some (23, true)), (.bin .leq (.t 24) (.c (.int .u8 90)))⟩, ⟨(some 26), none, (.pick (.t 23) (.t 25) (.c (.bool false)))⟩, ⟨(some 14), none, (.mv (.t 26))⟩]))) (.cond (.t 14) (.exit 2) .skip))) (.exit 0))) (.seq (.reg [⟨(some 27), none, (.mv (.t 1))⟩]) (.cond (.t 27) (.seq (.reg [⟨(some 4), none, (.mv (.c (.bool false)))⟩]) .ret) .skip)))) (.seq (.seq (.reg [⟨(some 4), none, (.mv (.c (.bool true)))⟩]) .ret) (.exit 0)))) (.seq (.reg [⟨(some 4), none, (.mv (.c (.bool false)))⟩]) .ret)))
theorem name_may.code : comp PG [] (Tryd.f105.body.getD .skip) = name_may.c := by kernel_rfl
theorem name_may.of {args : List AV} {H : AH} {K : AV → AH → Prop} (hl : args.length = 2) (h : wpA PG name_may.c none (endA [(.t 4)] K) (initFr args) H) : ACalls PG 105 args H K :=
  ACalls.of_code (fl := []) mixed Tryd.func105 (c := Tryd.f105.body.getD .skip) (by kernel_rfl) (by kernel_rfl) (by rw [hl]; exact of_decide_eq_true (by kernel_rfl)) (by rw [name_may.code]; kernel_rfl)
    (by rw [name_may.code, show compRes PG Tryd.f105.results.toList = [(.t 4)] from by kernel_rfl]; exact h)
def strings_Builder_grow.n : Nat := 114
noncomputable def strings_Builder_grow.c : C := (.seq (.dreg [⟨(some 5), none, (.mv (.t 0))⟩, ⟨(some 6), none, (.nilck (.t 5))⟩, ⟨(some 7), none, (.faddr 1 (.t 6))⟩, ⟨(some 8), none, (.load none (.t 7))⟩, ⟨(some 9), none, .bad⟩, ⟨(some 10), none, (.bin .mul (.c (.int .i64 2)) (.t 9))⟩, ⟨(some 11), none, (.mv (.t 1))⟩, ⟨(some 12), none, (.bin .add (.t 10) (.t 11))⟩, ⟨(some 13), none, (.call 129 [(.t 12)])⟩, ⟨(some 14), none, (.mv (.t 0))⟩, ⟨(some 15), none, (.nilck (.t 14))⟩, ⟨(some 16), none, (.faddr 1 (.t 15))⟩, ⟨(some 17), none, (.load none (.t 16))⟩, ⟨(some 18), none, (.len false (.t 17))⟩] [⟨(some 19), none, (.slice (some 1) (.t 13) none (some (.t 18)))⟩, ⟨(some 4), none, (.mv (.t 19))⟩]) (.seq (.reg [⟨(some 20), none, (.mv (.t 4))⟩, ⟨(some 21), none, (.mv (.t 0))⟩, ⟨(some 22), none, (.nilck (.t 21))⟩, ⟨(some 23), none, (.faddr 1 (.t 22))⟩, ⟨(some 24), none, (.load none (.t 23))⟩, ⟨(some 25), none, .bad⟩]) (.reg [⟨(some 26), none, (.mv (.t 0))⟩, ⟨(some 27), none, (.mv (.t 4))⟩, ⟨(some 28), none, (.nilck (.t 26))⟩, ⟨(some 29), none, (.faddr 1 (.t 28))⟩, ⟨none, none, (.store 1 (.t 29) (.t 27))⟩])))
theorem strings_Builder_grow.code : comp PG [] (Tryd.f114.body.getD .skip) = strings_Builder_grow.c := by kernel_rfl
theorem strings_Builder_grow.of {args : List AV} {H : AH} {K : AV → AH → Prop} (hl : args.length = 2) (h : wpA PG strings_Builder_grow.c none (endA [] K) (initFr args) H) : ACalls PG 114 args H K :=
  ACalls.of_code (fl := []) mixed Tryd.func114 (c := Tryd.f114.body.getD .skip) (by kernel_rfl) (by kernel_rfl) (by rw [hl]; exact of_decide_eq_true (by kernel_rfl)) (by rw [strings_Builder_grow.code]; kernel_rfl)
    (by rw [strings_Builder_grow.code, show compRes PG Tryd.f114.results.toList = [] from by kernel_rfl]; exact h)
def stringslite_IndexByte.n : Nat := 124
noncomputable def stringslite_IndexByte.c : C := (.seq (.reg [⟨(some 4), none, (.mv (.c (.int .i64 0)))⟩]) (.seq (.reg [⟨(some 5), none, (.mv (.t 0))⟩, ⟨(some 6), none, (.mv (.t 1))⟩, ⟨(some 7), none, (.ext .ixb [(.t 5), (.t 6)])⟩, ⟨(some 4), none, (.mv (.t 7))⟩]) .ret))
theorem stringslite_IndexByte.code : comp PG [] (Tryd.f124.body.getD .skip) = stringslite_IndexByte.c := by kernel_rfl
theorem stringslite_IndexByte.of {args : List AV} {H : AH} {K : AV → AH → Prop} (hl : args.length = 2) (h : wpA PG stringslite_IndexByte.c none (endA [(.t 4)] K) (initFr args) H) : ACalls PG 124 args H K :=
  ACalls.of_code (fl := []) mixed Tryd.func124 (c := Tryd.f124.body.getD .skip) (by kernel_rfl) (by kernel_rfl) (by rw [hl]; exact of_decide_eq_true (by kernel_rfl)) (by rw [stringslite_IndexByte.code]; kernel_rfl)
    (by rw [stringslite_IndexByte.code, show compRes PG Tryd.f124.results.toList = [(.t 4)] from by kernel_rfl]; exact h)
def stringslite_HasPrefix.n : Nat := 125
noncomputable def stringslite_HasPrefix.c : C := (.seq (.reg [⟨(some 4), none, (.mv (.c (.bool false)))⟩]) (.seq (.reg [⟨(some 5), none, (.mv (.t 0))⟩, ⟨(some 6), none, (.len true (.t 5))⟩, ⟨(some 7), none, (.mv (.t 1))⟩, ⟨(some 8), none, (.len true (.t 7))⟩, ⟨(some 9), none, (.bin .geq (.t 6) (.t 8))⟩, ⟨(some 10), none, (.mv (.t 9))⟩, ⟨(some 11), (some (10, true)), (.mv (.t 0))⟩, ⟨(some 12), (some (10, true)), (.mv (.t 1))⟩, ⟨(some 13), (some (10, true)), (.len true (.t 12))⟩, ⟨(some 14), (some (10, true)), (.slice none (.t 11) none (some (.t 13)))⟩, ⟨(some 15), (some (10, true)), (.mv (.t 1))⟩, ⟨(some 16), (some (10, true)), (.bin .eql (.t 14) (.t 15))⟩, ⟨(some 17), none, (.pick (.t 10) (.t 16) (.c (.bool false)))⟩, ⟨(some 4), none, (.mv (.t 17))⟩]) .ret))
theorem stringslite_HasPrefix.code : comp PG [] (Tryd.f125.body.getD .skip) = stringslite_HasPrefix.c := by kernel_rfl
theorem stringslite_HasPrefix.of {args : List AV} {H : AH} {K : AV → AH → Prop} (hl : args.length = 2) (h : wpA PG stringslite_HasPrefix.c none (endA [(.t 4)] K) (initFr args) H) : ACalls PG 125 args H K :=
  ACalls.of_code (fl := []) mixed Tryd.func125 (c := Tryd.f125.body.getD .skip) (by kernel_rfl) (by kernel_rfl) (by rw [hl]; exact of_decide_eq_true (by kernel_rfl)) (by rw [stringslite_HasPrefix.code]; kernel_rfl)
    (by rw [stringslite_HasPrefix.code, show compRes PG Tryd.f125.results.toList = [(.t 4)] from by kernel_rfl]; exact h)
def name_Word.n : Nat := 132
noncomputable def name_Word.c : C := (.seq (.reg [⟨(some 2), none, (.mv (.c (.bool false)))⟩]) (.seq (.seq (.reg [⟨(some 3), none, (.mv (.t 0))⟩]) (.block 0 (.seq (.seq (.reg [⟨(some 5), none, (.bin .eql (.t 3) (.c (.str [65, 78, 68])))⟩, ⟨(some 4), none, (.mv (.t 5))⟩]) (.cond (.t 4) .skip (.seq (.reg [⟨(some 6), none, (.bin .eql (.t 3) (.c (.str [79, 82])))⟩, ⟨(some 4), none, (.mv (.t 6))⟩]) (.cond (.t 4) .skip (.seq (.reg [⟨(some 7), none, (.bin .eql (.t 3) (.c (.str [78, 79, 84])))⟩, ⟨(some 4), none, (.mv (.t 7))⟩]) (.cond (.t 4) .skip (.seq (.reg [⟨(some 8), none, (.bin .eql (.t 3) (.c (.str [66, 69, 84, 87, 69, 69, 78])))⟩, ⟨(some 4), none, (.mv (.t 8))⟩]) (.cond (.t 4) .skip (.seq (.reg [⟨(some 9), none, (.bin .eql (.t 3) (.c (.str [76, 73, 75, 69])))⟩, ⟨(some 4), none, (.mv (.t 9))⟩]) (.cond (.t 4) .skip (.seq (.reg [⟨(some 10), none, (.bin .eql (.t 3) (.c (.str [84, 82, 85, 69])))⟩, ⟨(some 4), none, (.mv (.t 10))⟩]) (.cond (.t 4) .skip (.reg [⟨(some 11), none, (.bin .eql (.t 3) (.c (.str [70, 65, 76, 83, 69])))⟩, ⟨(some 4), none, (.mv (.t 11))⟩]))))))))))))) (.cond (.t 4) (.seq (.reg [⟨(some 2), none, (.mv (.c (.bool true)))⟩]) .ret) .skip)))) (.seq (.reg [⟨(some 2), none, (.mv (.c (.bool false)))⟩]) .ret)))
theorem name_Word.code : comp PG [] (Tryd.f132.body.getD .skip) = name_Word.c := by kernel_rfl
theorem name_Word.of {args : List AV} {H : AH} {K : AV → AH → Prop} (hl : args.length = 1) (h : wpA PG name_Word.c none (endA [(.t 2)] K) (initFr args) H) : ACalls PG 132 args H K :=
  ACalls.of_code (fl := []) mixed Tryd.func132 (c := Tryd.f132.body.getD .skip) (by kernel_rfl) (by kernel_rfl) (by rw [hl]; exact of_decide_eq_true (by kernel_rfl)) (by rw [name_Word.code]; kernel_rfl)
    (by rw [name_Word.code, show compRes PG Tryd.f132.results.toList = [(.t 2)] from by kernel_rfl]; exact h)
end Go.Proofs.YtodiahhfpcdejaaDoor

/- A builder of strings. -/
namespace Go.Proofs.YtodiahhfpcdejaaDoor
set_option autoImplicit false
set_option linter.unusedSimpArgs false
set_option linter.unusedVariables false
--HSET
attribute [local irreducible] callA callP ACalls
theorem callF_bt {P : Program} {f : Nat} {args : List AV} {H H1 : AH} {K : AV → AH → Prop} {r : AV} (h : ACalls P f args H fun r' H' => r' = r ∧ H' = H1) (k : K r H1) : callF P f args H K :=
  callF_of (h.mono fun r' H' ⟨a, b⟩ => by rw [a, b]; exact k)
abbrev tyBl : Nat := ty_strings_Builder
def bRow (l : List UInt8) : List (List AV) := l.map fun c => [.int .u8 (c.toNat : Int)]
theorem bRow_len (l : List UInt8) : (bRow l).length = l.length := by simp [bRow]
theorem bRow_app (l m : List UInt8) : bRow (l ++ m) = bRow l ++ bRow m := by simp [bRow]
theorem bRow_bytes (l : List UInt8) : bytesA (bRow l) = some l := by
  induction l with
  | nil => rfl
  | cons c l ih =>
    have hc := c.toNat_lt
    show bytesA ([.int .u8 (c.toNat : Int)] :: bRow l) = _
    unfold bytesA
    rw [if_pos (by omega), ih]
    simp
theorem readS_str (H : AH) (s : List UInt8) : readS H true 1 (.str s) = some (bRow s) := rfl
theorem readS_part {H : AH} {id sz lo hi : Nat} {l : List (List AV)} (hg : hget H id = some (.rows sz l)) (h : hi ≤ l.length) : readS H false sz (.own id sz lo hi) = some ((l.take hi).drop lo) := by
  simp [readS, hg, h]

/-- What was put, and where it lies; a: the place that is told. -/
structure Bl (H : AH) (id : Nat) (ob : Option Nat) (l : List UInt8) : Prop where
  tg : tag id = tyBl
  blk : ∃ p v, hget H id = some (.rows 2 [[p, v]]) ∧ (p = .nilP ∨ p = .ptr id 2 0 0) ∧
    ((ob = none ∧ v = .nilS ∧ l = []) ∨ ∃ idb, ob = some idb ∧ v = .own idb 1 0 l.length ∧ hget H idb = some (.rows 1 (bRow l)) ∧ tag idb = ty_uint8 ∧ idb ≠ id ∧ 0 < l.length)
/-- What else was there is there still. -/
structure Kp (H : AH) (id : Nat) (ob : Option Nat) (H' : AH) (ob' : Option Nat) : Prop where
  nw : ∀ i, ob' = some i → hget H i = none ∨ ob = some i
  kp : ∀ j b, j ≠ id → ob ≠ some j → hget H j = some b → hget H' j = some b
theorem Kp.ne {H : AH} {id : Nat} {ob : Option Nat} {H' : AH} {ob' : Option Nat} (h : Kp H id ob H' ob') {j : Nat} {b : Blk} (h2 : ob ≠ some j) (hg : hget H j = some b) : ob' ≠ some j := fun e => by
  rcases h.nw j e with q | q
  · rw [hg] at q; cases q
  · exact h2 q
theorem Kp.trans {H : AH} {id : Nat} {ob : Option Nat} {H1 : AH} {ob1 : Option Nat} {H2 : AH} {ob2 : Option Nat} (h : Kp H id ob H1 ob1) (k : Kp H1 id ob1 H2 ob2) (hid : hget H id ≠ none) (hi : ∀ i, ob2 = some i → i ≠ id) : Kp H id ob H2 ob2 where
  nw := fun i e => by
    cases q : hget H i with
    | none => exact .inl rfl
    | some b =>
      by_cases q2 : ob = some i
      · exact .inr q2
      · have h1 := h.kp i b (hi i e) q2 q
        rcases k.nw i e with q3 | q3
        · rw [h1] at q3; cases q3
        · exact absurd q3 (h.ne q2 q)
  kp := fun j b h1 h2 hg => k.kp j b h1 (h.ne h2 hg) (h.kp j b h1 h2 hg)
theorem Bl.has {H : AH} {id : Nat} {ob : Option Nat} {l : List UInt8} (h : Bl H id ob l) : hget H id ≠ none := by
  obtain ⟨_, p, v, hg, _⟩ := h
  rw [hg]; simp
theorem Bl.ob {H : AH} {id : Nat} {ob : Option Nat} {l : List UInt8} (h : Bl H id ob l) : ∀ i, ob = some i → i ≠ id := fun i e => by
  obtain ⟨_, p, v, _, _, hv⟩ := h
  rcases hv with ⟨q, _⟩ | ⟨idb, q, _, _, _, q2, _⟩
  · rw [q] at e; cases e
  · rw [q] at e; cases e; exact q2

theorem bl_copyCheck {id : Nat} {H : AH} {p v : AV} (hg : hget H id = some (.rows 2 [[p, v]])) (hp : p = .nilP ∨ p = .ptr id 2 0 0) (ht : tag id = tyBl) :
    ACalls PG strings_Builder_copyCheck.n [.ptr id 2 0 0] H fun r H' => r = .tup [] ∧ H' = hset H id (.rows 2 [[.ptr id 2 0 0, v]]) := by
  refine ACalls.sub (strings_Builder_copyCheck.of rfl (wpF_start ?_))
  rcases hp with rfl | rfl
  · (first | refine ah ?_ | exact ah0 | fail)
    refine ⟨⟨rfl, by simp⟩, rfl, ?_⟩
    (first | refine ah ?_ | exact ah0 | fail)
    exact Sub.refl _
  · (first | refine ah ?_ | exact ah0 | fail)
    exact sub_hset hg (fun j c _ q => q)
theorem bl_WriteString {id : Nat} {ob : Option Nat} {l s : List UInt8} {H : AH} (hb : Bl H id ob l) (hl : l.length + s.length ≤ 140737488351232) :
    ACalls PG strings_Builder_WriteString.n [.ptr id 2 0 0, .str s] H fun r H' => r = .tup [.int .i64 (s.length : Nat), .nilI] ∧ ∃ ob', Bl H' id ob' (l ++ s) ∧ Kp H id ob H' ob' := by
  obtain ⟨ht, p, v, hg, hp, hv⟩ := hb
  refine strings_Builder_WriteString.of rfl (wpF_start ?_)
  (first | refine ah ?_ | exact ah0 | fail)
  refine callF_bt (bl_copyCheck hg hp ht) ?_
  have hg1 : hget (hset H id (.rows 2 [[.ptr id 2 0 0, v]])) id = some (.rows 2 [[.ptr id 2 0 0, v]]) := hget_set hg
  have hk1 : ∀ j b, j ≠ id → hget H j = some b → hget (hset H id (.rows 2 [[.ptr id 2 0 0, v]])) j = some b := fun j b q r => (hget_set_ne q).trans r
  have hf1 : ∀ j, j ≠ id → hget (hset H id (.rows 2 [[.ptr id 2 0 0, v]])) j = none → hget H j = none := fun j q r => (hget_set_ne q).symm.trans r
  generalize hset H id (.rows 2 [[.ptr id 2 0 0, v]]) = H1 at *
  rcases hv with ⟨rfl, rfl, rfl⟩ | ⟨idb, rfl, rfl, hgb, htb, hne, hpos⟩
  · (first | refine ah ?_ | exact ah0 | fail)
    refine ⟨bRow s, rfl, by rw [bRow_len]; omega, fun e => ?_, fun hne0 => ?_⟩
    · have hs : s = [] := by
        have := congrArg List.length e
        rw [bRow_len] at this
        exact List.eq_nil_of_length_eq_zero this
      subst hs
      (first | refine ah ?_ | exact ah0 | fail)
      refine ⟨none, ⟨ht, .ptr id 2 0 0, .nilS, hget_set hg1, .inr rfl, .inl ⟨rfl, rfl, rfl⟩⟩, ⟨fun i q => (by cases q), fun j b q _ r => (hget_set_ne q).trans (hk1 j b q r)⟩⟩
    · (first | refine ah ?_ | exact ah0 | fail)
      intro idn hidn htn
      have nn : idn ≠ id := hget_ne_of hidn hg1
      (first | refine ah ?_ | exact ah0 | fail)
      refine ⟨some idn, ⟨ht, .ptr id 2 0 0, .own idn 1 0 s.length, ?_, .inr rfl, .inr ⟨idn, rfl, rfl, ?_, htn, nn, (List.length_pos_iff.2 (by rintro rfl; exact hne0 rfl) : 0 < s.length)⟩⟩, ⟨fun i q => ?_, fun j b q _ r => ?_⟩⟩
      · rw [← bRow_len]; exact (hget_tail nn).trans (hget_set hg1)
      · exact hget_self
      · cases q; exact .inl (hf1 idn nn hidn)
      · exact (hget_tail (hget_ne_of hidn (hk1 j b q r))).trans ((hget_set_ne q).trans (hk1 j b q r))
  · have hgb1 := hk1 _ _ hne hgb
    have exs : ((bRow l).take l.length).drop 0 = bRow l := by rw [List.drop_zero, ← bRow_len, List.take_length]
    (first | refine ah ?_ | exact ah0 | fail)
    refine ⟨_, bRow s, (readS_part hgb1 (by rw [bRow_len]; exact Nat.le_refl _)).trans (congrArg some exs), rfl, rfl, rfl, htb, by rw [bRow_len, bRow_len]; omega, ?_⟩
    intro idn hidn htn
    have nn : idn ≠ id := hget_ne_of hidn hg1
    have nb : idn ≠ idb := hget_ne_of hidn hgb1
    (first | refine ah ?_ | exact ah0 | fail)
    have hg2 : hget (hdel H1 idb) id = some (.rows 2 [[.ptr id 2 0 0, .own idb 1 0 l.length]]) := (hget_del_ne hne.symm).trans hg1
    refine ⟨some idn, ⟨ht, .ptr id 2 0 0, .own idn 1 0 (l ++ s).length, ?_, .inr rfl, .inr ⟨idn, rfl, rfl, ?_, htn, nn, by simp; omega⟩⟩, ⟨fun i q => ?_, fun j b q q2 r => ?_⟩⟩
    · refine (hget_tail nn).trans ((hget_set hg2).trans ?_)
      rw [List.length_append, bRow_len, bRow_len]
    · rw [bRow_app]; exact hget_self
    · cases q; exact .inl (hf1 idn nn hidn)
    · have qb : j ≠ idb := fun e => q2 (by rw [e])
      exact (hget_tail (hget_ne_of hidn (hk1 j b q r))).trans ((hget_set_ne q).trans ((hget_del_ne qb).trans (hk1 j b q r)))
theorem bl_WriteByte {id : Nat} {ob : Option Nat} {l : List UInt8} {c : UInt8} {H : AH} (hb : Bl H id ob l) (hl : l.length ≤ 140737488351232) :
    ACalls PG strings_Builder_WriteByte.n [.ptr id 2 0 0, .int .u8 (c.toNat : Int)] H fun r H' => r = .nilI ∧ ∃ ob', Bl H' id ob' (l ++ [c]) ∧ Kp H id ob H' ob' := by
  obtain ⟨ht, p, v, hg, hp, hv⟩ := hb
  refine strings_Builder_WriteByte.of rfl (wpF_start ?_)
  (first | refine ah ?_ | exact ah0 | fail)
  refine callF_bt (bl_copyCheck hg hp ht) ?_
  have hg1 : hget (hset H id (.rows 2 [[.ptr id 2 0 0, v]])) id = some (.rows 2 [[.ptr id 2 0 0, v]]) := hget_set hg
  have hk1 : ∀ j b, j ≠ id → hget H j = some b → hget (hset H id (.rows 2 [[.ptr id 2 0 0, v]])) j = some b := fun j b q r => (hget_set_ne q).trans r
  have hf1 : ∀ j, j ≠ id → hget (hset H id (.rows 2 [[.ptr id 2 0 0, v]])) j = none → hget H j = none := fun j q r => (hget_set_ne q).symm.trans r
  generalize hset H id (.rows 2 [[.ptr id 2 0 0, v]]) = H1 at *
  rcases hv with ⟨rfl, rfl, rfl⟩ | ⟨idb, rfl, rfl, hgb, htb, hne, hpos⟩
  · (first | refine ah ?_ | exact ah0 | fail)
    refine ⟨_, rfl, by simp, (fun e => by cases e), fun _ => ?_⟩
    intro idn hidn htn
    have nn : idn ≠ id := hget_ne_of hidn hg1
    (first | refine ah ?_ | exact ah0 | fail)
    refine ⟨some idn, ⟨ht, .ptr id 2 0 0, .own idn 1 0 1, ?_, .inr rfl, .inr ⟨idn, rfl, rfl, ?_, htn, nn, by simp⟩⟩, ⟨fun i q => ?_, fun j b q _ r => ?_⟩⟩
    · exact (hget_tail nn).trans (hget_set hg1)
    · exact hget_self
    · cases q; exact .inl (hf1 idn nn hidn)
    · exact (hget_tail (hget_ne_of hidn (hk1 j b q r))).trans ((hget_set_ne q).trans (hk1 j b q r))
  · have hgb1 := hk1 _ _ hne hgb
    have exs : ((bRow l).take l.length).drop 0 = bRow l := by rw [List.drop_zero, ← bRow_len, List.take_length]
    (first | refine ah ?_ | exact ah0 | fail)
    refine ⟨_, _, (readS_part hgb1 (by rw [bRow_len]; exact Nat.le_refl _)).trans (congrArg some exs), rfl, rfl, rfl, htb, by rw [bRow_len]; simp; omega, ?_⟩
    intro idn hidn htn
    have nn : idn ≠ id := hget_ne_of hidn hg1
    have nb : idn ≠ idb := hget_ne_of hidn hgb1
    (first | refine ah ?_ | exact ah0 | fail)
    have hg2 : hget (hdel H1 idb) id = some (.rows 2 [[.ptr id 2 0 0, .own idb 1 0 l.length]]) := (hget_del_ne hne.symm).trans hg1
    refine ⟨some idn, ⟨ht, .ptr id 2 0 0, .own idn 1 0 (l ++ [c]).length, ?_, .inr rfl, .inr ⟨idn, rfl, rfl, ?_, htn, nn, by simp⟩⟩, ⟨fun i q => ?_, fun j b q q2 r => ?_⟩⟩
    · refine (hget_tail nn).trans ((hget_set hg2).trans ?_)
      have : (bRow l).length + ((List.replicate 1 [AV.int .u8 0]).set 0 (AV.int .u8 (c.toNat : Int)).cells).length = (l ++ [c]).length := by rw [bRow_len, List.length_append]; rfl
      rw [← this]; rfl
    · refine hget_self.trans ?_
      simp [bRow]
      rfl
    · cases q; exact .inl (hf1 idn nn hidn)
    · have qb : j ≠ idb := fun e => q2 (by rw [e])
      exact (hget_tail (hget_ne_of hidn (hk1 j b q r))).trans ((hget_set_ne q).trans ((hget_del_ne qb).trans (hk1 j b q r)))
theorem bl_StringE {id : Nat} {ob : Option Nat} {l : List UInt8} {H : AH} (hb : Bl H id ob l) (hl : l.length ≤ 140737488351232) :
    ACalls PG strings_Builder_String.n [.ptr id 2 0 0] H fun r H' => r = .str l ∧ ∀ j b, ob ≠ some j → hget H j = some b → hget H' j = some b := by
  obtain ⟨ht, p, v, hg, hp, hv⟩ := hb
  refine strings_Builder_String.of rfl (wpF_start ?_)
  rcases hv with ⟨rfl, rfl, rfl⟩ | ⟨idb, rfl, rfl, hgb, htb, hne, hpos⟩
  · (first | refine ah ?_ | exact ah0 | fail)
    exact fun j b _ q => q
  · (first | refine ah ?_ | exact ah0 | fail)
    refine ⟨_, l, hgb, ?_, rfl, rfl, rfl, by omega, by rw [bRow_len]; omega, by omega, htb, ?_⟩
    · rw [show (((l.length - 0 : Nat) : Int)).toNat = (bRow l).length from by rw [bRow_len]; omega, List.take_length, bRow_bytes]
    (first | refine ah ?_ | exact ah0 | fail)
    exact fun j b q r => (hget_del_ne (fun e => q (by rw [e]))).trans r
end Go.Proofs.YtodiahhfpcdejaaDoor

/- Lists that are looked through one by one; plain. -/
namespace Go.Proofs.YtodiahhfpcdejaaDoor
set_option autoImplicit false
section
variable {α : Type} {p : α → Bool} {l : List α} {i : Nat}
/-- Up to here there is none. -/
def none' (p : α → Bool) (l : List α) (i : Nat) : Prop := ∀ (k : Nat) (h : k < l.length), k < i → p l[k] = false
theorem none'_zero : none' p l 0 := fun k _ h => by omega
theorem none'_succ (h : none' p l i) (hi : i < l.length) (h2 : p l[i] = false) : none' p l (i + 1) := fun k hk h3 => by
  by_cases e : k = i
  · subst e; exact h2
  · exact h k hk (by omega)
theorem none'_any (h : none' p l l.length) : l.any p = false := by
  rw [List.any_eq_false]
  intro x hx
  obtain ⟨k, hk, rfl⟩ := List.getElem_of_mem hx
  simpa using h k hk hk
theorem none'_end (h : none' p l i) (hi : l.length ≤ i) : l.any p = false := none'_any fun k hk _ => h k hk (by omega)
theorem any_hit (hi : i < l.length) (h : p l[i] = true) : l.any p = true := List.any_eq_true.2 ⟨_, List.getElem_mem hi, h⟩
theorem any_none' (h : l.any p = false) (n : Nat) : none' p l n := fun k hk _ => by
  rw [List.any_eq_false] at h
  simpa using h _ (List.getElem_mem hk)
theorem find_hit : ∀ {l : List α} {i : Nat} (_ : none' p l i) (hi : i < l.length) (_ : p l[i] = true), l.findIdx? p = some i
  | a :: l, 0, _, _, h2 => by simp at h2; simp [List.findIdx?_cons, h2]
  | a :: l, i + 1, h, hi, h2 => by
    have h0 : p a = false := h 0 (by simp) (by omega)
    have h' : none' p l i := fun k hk h3 => h (k + 1) (by simpa using hk) (by omega)
    have := find_hit h' (by simpa using hi) (by simpa using h2)
    simp [List.findIdx?_cons, h0, this]
theorem find_none (h : none' p l i) (hi : l.length ≤ i) : l.findIdx? p = none := by
  rw [List.findIdx?_eq_none_iff]
  intro x hx
  obtain ⟨k, hk, rfl⟩ := List.getElem_of_mem hx
  exact h k hk (by omega)
theorem find_some {n : Nat} (h : l.findIdx? p = some n) : ∃ hn : n < l.length, p l[n] = true ∧ none' p l n := by
  rw [List.findIdx?_eq_some_iff_getElem] at h
  obtain ⟨hn, h1, h2⟩ := h
  exact ⟨hn, h1, fun k hk h3 => by have := h2 k h3; simpa using this⟩
end
/-- The first that is not 0. -/
def fst0 : List Int → Int
  | [] => 0
  | e :: l => if e ≠ 0 then e else fst0 l
theorem fst0_hit : ∀ {l : List Int} {i : Nat} (_ : ∀ (k : Nat) (h : k < l.length), k < i → l[k] = 0) (hi : i < l.length) (_ : l[i] ≠ 0), fst0 l = l[i]
  | e :: l, 0, _, _, h => by simp at h; simp [fst0, h]
  | e :: l, i + 1, h0, hi, h => by
    have h1 : e = 0 := h0 0 (by simp) (by omega)
    have := fst0_hit (l := l) (i := i) (fun k hk h3 => h0 (k + 1) (by simpa using hk) (by omega)) (by simpa using hi) (by simpa using h)
    simp [fst0, h1, this]
theorem fst0_end : ∀ {l : List Int} (_ : ∀ (k : Nat) (h : k < l.length), l[k] = 0), fst0 l = 0
  | [], _ => rfl
  | e :: l, h => by
    have h1 : e = 0 := h 0 (by simp)
    have := fst0_end (l := l) fun k hk => h (k + 1) (by simpa using hk)
    simp [fst0, h1, this]
end Go.Proofs.YtodiahhfpcdejaaDoor

/- Tokens of a text; plain. -/
namespace Go.Proofs.YtodiahhfpcdejaaDoor
set_option autoImplicit false

theorem drop_at {α : Type} (l : List α) (d : α) (i : Nat) (h : i < l.length) : l.drop i = l.getD i d :: l.drop (i + 1) := by
  rw [List.drop_eq_getElem_cons h]; congr 1; simp [List.getD, h]
theorem take_at {α : Type} (l : List α) (d : α) (i : Nat) (h : i < l.length) : l.take (i + 1) = l.take i ++ [l.getD i d] := by
  rw [List.take_add_one]; congr 1; simp [List.getD, h]
def dig (c : UInt8) : Bool := decide (48 ≤ c.toNat) && decide (c.toNat ≤ 57)
def ltr (c : UInt8) : Bool := (decide (97 ≤ c.toNat) && decide (c.toNat ≤ 122)) || (decide (65 ≤ c.toNat) && decide (c.toNat ≤ 90))
def nam (c : UInt8) : Bool := dig c || c == 95 || ltr c
def blnk (c : UInt8) : Bool := c == 32 || c == 9 || c == 10 || c == 13
def sgn (c : UInt8) : Bool := [61, 60, 62, 40, 41, 46, 91, 93, 45].contains c

/-- With how many bytes of a name a text begins. -/
def nl : List UInt8 → Nat
  | [] => 0
  | c :: r => if ltr c then 1 + (r.takeWhile nam).length else 0
def dl (s : List UInt8) : Nat := (s.takeWhile dig).length
def numV (s : List UInt8) : Nat := s.foldl (fun a c => 10 * a + (c.toNat - 48)) 0

inductive Q where
  | done (t : List UInt8) (n : Nat)
  | odd (i : Nat)
  | short
/-- Behind a quote: i bytes are read, acc is what they stand for. -/
def qs : List UInt8 → Nat → List UInt8 → Q
  | [], _, _ => .short
  | [c], i, acc => if c.toNat < 32 ∨ 126 < c.toNat then .odd i else if c = 39 then .done acc (i + 1) else .short
  | c :: d :: r, i, acc =>
    if c.toNat < 32 ∨ 126 < c.toNat then .odd i
    else if c = 39 then (if d = 39 then qs r (i + 2) (acc ++ [39]) else .done acc (i + 1))
    else qs (d :: r) (i + 1) (acc ++ [c])

inductive LR where
  | tok (k : Int) (t : List UInt8) (num n : Nat)
  | bad (e : Int) (off : Nat)
def two (s : List UInt8) : Bool := s.take 2 == [60, 62] || s.take 2 == [60, 61] || s.take 2 == [62, 61]
/-- The token with which a text begins. -/
def lex : List UInt8 → LR
  | [] => .bad 11 0
  | c :: r =>
    if ltr c then .tok 1 ((c :: r).take (nl (c :: r))) 0 (nl (c :: r))
    else if dig c then
      if 1 < dl (c :: r) ∧ c = 48 then .bad 1 0
      else if numV ((c :: r).take (dl (c :: r))) < 18446744073709551616 then .tok 2 ((c :: r).take (dl (c :: r))) (numV ((c :: r).take (dl (c :: r)))) (dl (c :: r))
      else .bad 7 0
    else if c = 39 then match qs r 1 [] with
      | .done t n => .tok 3 t 0 n
      | .odd i => .bad 10 i
      | .short => .bad 2 0
    else if c = 37 then match r with
      | d :: _ => if dig d then .tok 4 [37, d] (d.toNat - 48) 2 else .bad 11 0
      | [] => .bad 11 0
    else if sgn c then .tok 5 ((c :: r).take (if two (c :: r) then 2 else 1)) 0 (if two (c :: r) then 2 else 1)
    else .bad 11 0

/-- The words of the language. -/
def rsv : List (List UInt8) := [[65, 78, 68], [79, 82], [78, 79, 84], [66, 69, 84, 87, 69, 69, 78], [76, 73, 75, 69], [84, 82, 85, 69], [70, 65, 76, 83, 69]]
theorem nl_cons (c : UInt8) (r : List UInt8) : nl (c :: r) = if ltr c = true then 1 + (r.takeWhile nam).length else 0 := rfl
theorem nl_le (s : List UInt8) : nl s ≤ s.length := by
  cases s with
  | nil => exact Nat.le_refl _
  | cons c r =>
    have : (r.takeWhile nam).length ≤ r.length := (List.takeWhile_prefix _).length_le
    rw [nl_cons, List.length_cons]
    split <;> omega
theorem dl_le (s : List UInt8) : dl s ≤ s.length := (List.takeWhile_prefix _).length_le
theorem tw_step {f : UInt8 → Bool} : ∀ {r : List UInt8} {n : Nat}, n ≤ (r.takeWhile f).length → n < r.length → (n < (r.takeWhile f).length ↔ f (r.getD n 0) = true)
  | [], n, _, h => by simp at h
  | d :: r, n, h1, h2 => by
    rw [List.takeWhile_cons] at h1 ⊢
    split
    · rename_i hd
      rw [if_pos hd] at h1
      cases n with
      | zero => simp [hd]
      | succ n => simpa using tw_step (r := r) (n := n) (by simpa using h1) (by simpa using h2)
    · rename_i hd
      rw [if_neg hd] at h1
      have : n = 0 := by simpa using h1
      subst this
      simpa using hd
/-- Is byte n, behind n of a name, of a name, too? -/
theorem nl_step {s : List UInt8} {n : Nat} (hn : n ≤ nl s) (hl : n < s.length) : n < nl s ↔ (if n = 0 then ltr (s.getD 0 0) else nam (s.getD n 0)) = true := by
  cases s with
  | nil => simp at hl
  | cons c r =>
    rw [nl_cons] at *
    cases n with
    | zero =>
      rw [if_pos rfl, List.getD_cons_zero]
      split
      · rename_i h; simp only [h, iff_true]; omega
      · rename_i h; simp only [h, Nat.lt_irrefl]
        exact ⟨fun q => q.elim, fun q => by cases q⟩
    | succ n =>
      rw [if_neg (Nat.succ_ne_zero n), List.getD_cons_succ]
      split at hn
      · rename_i h
        rw [if_pos h]
        have hl' : n < r.length := by simpa using hl
        rw [← tw_step (f := nam) (r := r) (n := n) (by omega) hl']
        omega
      · omega
theorem dl_step {s : List UInt8} {n : Nat} (hn : n ≤ dl s) (hl : n < s.length) : n < dl s ↔ dig (s.getD n 0) = true := by
  unfold dl at *
  induction s generalizing n with
  | nil => simp at hl
  | cons d r ih =>
    rw [List.takeWhile_cons] at hn ⊢
    split
    · rename_i hd
      rw [if_pos hd] at hn
      cases n with
      | zero => simp [hd]
      | succ n => simpa using ih (by simpa using hn) (by simpa using hl)
    · rename_i hd
      rw [if_neg hd] at hn
      have : n = 0 := by simpa using hn
      subst this
      simpa using hd
end Go.Proofs.YtodiahhfpcdejaaDoor

/- Types, and which may be; plain. -/
namespace Go.Proofs.YtodiahhfpcdejaaDoor
set_option autoImplicit false
structure It where
  nm : List UInt8
  num : Nat
  ty : Int
  key : Bool
  rest : Bool
structure Ty where
  kd : Int
  nm : List UInt8
  bd : Int
  el : Int
  tg : Int
  its : List It
abbrev it0 : It := ⟨[], 0, 0, false, false⟩
abbrev ty0 : Ty := ⟨0, [], 0, 0, 0, []⟩
def isNum (k : Int) : Bool := decide (1 ≤ k ∧ k ≤ 9)
def kNm (k : Int) : Bool := decide (k = 9 ∨ k = 13 ∨ k = 14)
def kBd (k : Int) : Bool := decide (k = 10 ∨ k = 11 ∨ k = 12)
def kEl (k : Int) : Bool := decide (k = 11 ∨ k = 12)
def kTg (k : Int) : Bool := decide (k = 14)
def tAt (l : List Ty) (t : Int) : Ty := l.getD t.toNat ty0
/-- A kind's bytes. -/
def szK (k : Int) : Nat := if k = 1 ∨ k = 2 then 1 else if k = 3 ∨ k = 4 then 2 else if k = 5 ∨ k = 6 ∨ k = 9 then 4 else if k = 7 ∨ k = 8 then 8 else 0
def sgK (k : Int) : Bool := decide (k = 3 ∨ k = 5 ∨ k = 7 ∨ k = 9)
def lowN (b n : Nat) : Nat := n % 2 ^ (8 * b)
/-- The number with a sign of the lowest bytes. -/
def sgnI (b n : Nat) : Int := if lowN b n < 2 ^ (8 * b - 1) then (lowN b n : Int) else (lowN b n : Int) - 2 ^ (8 * b)
def wide (i : Int) : Nat := (i % 18446744073709551616).toNat
def lowK (k : Int) (n : Nat) : Nat := if szK k = 0 then 0 else lowN (szK k) n
def upK (k : Int) (n : Nat) : Nat := if sgK k = true then wide (sgnI (szK k) n) else lowK k n
def mayK (k : Int) (n : Nat) : Bool := isNum k && decide (upK k n = n) && (decide (k ≠ 1) || decide (n ≤ 1))
def nameOk (s : List UInt8) : Bool := decide (s ≠ []) && decide (s.length ≤ 16) && decide (nl s = s.length) && !rsv.contains s
def parts (t : Ty) : List Int := (if kEl t.kd = true then [t.el] else []) ++ (if kTg t.kd = true then [t.tg] else []) ++ (if t.kd = 13 ∨ t.kd = 14 then t.its.map (·.ty) else [])
def itMore (k : Int) (x : It) : Bool := decide ((k = 9 ∧ x.ty ≠ 0) ∨ (k ≠ 13 ∧ x.key = true) ∨ (k ≠ 14 ∧ x.rest = true) ∨ ((k = 13 ∨ x.rest = true) ∧ x.num ≠ 0))
def tyMore (t : Ty) : Bool := decide ((kNm t.kd = false ∧ (t.nm ≠ [] ∨ t.its ≠ [])) ∨ (kBd t.kd = false ∧ t.bd ≠ 0) ∨ (kEl t.kd = false ∧ t.el ≠ 0) ∨ (kTg t.kd = false ∧ t.tg ≠ 0))
def formE (t : Ty) : Int := if t.kd < 1 ∨ 14 < t.kd then 4 else if tyMore t = true ∨ t.its.any (itMore t.kd) = true then 1 else 0
def namedE (l : List Ty) (t : Ty) (n : Nat) : Int := if kNm t.kd = true then (if nameOk t.nm = true then (if (l.take n).any (fun x => x.nm == t.nm) = true then 6 else 0) else 5) else 0
def boundE (t : Ty) : Int := if kBd t.kd = true ∧ (64 < t.bd ∨ t.bd < 0 ∨ (kEl t.kd = true ∧ t.bd = 0)) then 7 else 0
def orderE (l : List Ty) (t : Ty) (n : Nat) : Int := if (parts t).any (fun p => decide (p < 0 ∨ (n : Int) ≤ p)) = true then 14 else if t.kd = 14 ∧ isNum (tAt l t.tg).kd = false then 8 else 0
def valIx (l : List Ty) (t : Int) (n : Nat) : Option Nat := if 0 ≤ t ∧ t < l.length ∧ (tAt l t).kd = 9 then (tAt l t).its.findIdx? (fun x => x.num == n) else none
def itemIx (l : List Ty) (t : Int) (s : List UInt8) : Option Nat := if 0 ≤ t ∧ t < l.length ∧ kNm (tAt l t).kd = true then (tAt l t).its.findIdx? (fun x => x.nm == s) else none
def brIx (l : List Ty) (t : Int) (n : Nat) : Option Nat := if 0 ≤ t ∧ t < l.length ∧ (tAt l t).kd = 14 then ((tAt l t).its.findIdx? (fun x => x.num == n && !x.rest)).or ((tAt l t).its.findIdx? (·.rest)) else none
def mayT (l : List Ty) (t : Ty) (n : Nat) : Bool := if t.kd = 9 then mayK 9 n else if (tAt l t.tg).kd = 9 then (valIx l t.tg n).isSome else mayK (tAt l t.tg).kd n
def itemE (l : List Ty) (t : Ty) (i : Nat) : Int :=
  let x := t.its.getD i it0
  if nameOk x.nm = true then
    if (t.its.take i).any (fun y => y.nm == x.nm) = true then 6
    else if t.kd = 13 then (if x.key = true ∧ isNum (tAt l x.ty).kd = false ∧ (tAt l x.ty).kd ≠ 10 then 17 else 0)
    else if x.rest = true then (if i + 1 = t.its.length then 0 else 14)
    else if mayT l t x.num = true then (if (t.its.take i).any (fun y => y.num == x.num) = true then 6 else 0)
    else 7
  else 5
def itemsE (l : List Ty) (t : Ty) : Int := if kNm t.kd = true then (if t.its.length = 0 then 18 else if 16 < t.its.length then 3 else fst0 ((List.range t.its.length).map (itemE l t))) else 0
/-- How deep the first types are. -/
def dpT (l : List Ty) : Nat → List Nat
  | 0 => []
  | n + 1 => dpT l n ++ [(parts (l.getD n ty0)).foldl (fun m p => if 0 ≤ p ∧ p < (n : Int) then max m ((dpT l n).getD p.toNat 0 + 1) else m) 1]
def deepT (l : List Ty) (t : Int) : Nat := if 0 ≤ t ∧ t < l.length then (dpT l (t.toNat + 1)).getD t.toNat 0 else 0
def deepE (l : List Ty) (n : Nat) : Int := if 6 < deepT l n then 9 else 0
def tyErr (l : List Ty) (n : Nat) : Int := let t := l.getD n ty0
  fst0 [formE t, namedE l t n, boundE t, orderE l t n, itemsE l t, deepE l n]
/-- What is wrong first, and where. -/
def tyChk (l : List Ty) : Int × Int := if 32 < l.length then (3, 32) else match (List.range l.length).findIdx? (fun i => decide (tyErr l i ≠ 0)) with
  | some i => (tyErr l i, (i : Nat))
  | none => (0, 0)
end Go.Proofs.YtodiahhfpcdejaaDoor

/- Values, trees; plain. -/
namespace Go.Proofs.YtodiahhfpcdejaaDoor
set_option autoImplicit false
set_option linter.unusedVariables false
inductive Vl where
  | mk (kd : Int) (num : Nat) (tx : List UInt8) (its : List Vl)
def Vl.kd : Vl → Int | .mk k _ _ _ => k
def Vl.num : Vl → Nat | .mk _ n _ _ => n
def Vl.tx : Vl → List UInt8 | .mk _ _ t _ => t
def Vl.its : Vl → List Vl | .mk _ _ _ l => l
abbrev vl0 : Vl := .mk 0 0 [] []
mutual
def vEq : Vl → Vl → Bool
  | .mk k n t l, .mk k' n' t' l' => decide (k = k') && decide (n = n') && decide (t = t') && vEqs l l'
def vEqs : List Vl → List Vl → Bool
  | [], [] => true
  | a :: l, b :: m => vEq a b && vEqs l m
  | _, _ => false
end
mutual
theorem vEq_iff : ∀ a b : Vl, vEq a b = true ↔ a = b
  | .mk k n t l, .mk k' n' t' l' => by
    simp only [vEq, Bool.and_eq_true, decide_eq_true_eq, Vl.mk.injEq, vEqs_iff l l']
    exact ⟨fun ⟨⟨⟨a, b⟩, c⟩, d⟩ => ⟨a, b, c, d⟩, fun ⟨a, b, c, d⟩ => ⟨⟨⟨a, b⟩, c⟩, d⟩⟩
theorem vEqs_iff : ∀ a b : List Vl, vEqs a b = true ↔ a = b
  | [], [] => by simp [vEqs]
  | a :: l, b :: m => by simp only [vEqs, Bool.and_eq_true, List.cons.injEq, vEq_iff a b, vEqs_iff l m]
  | [], b :: m => by simp [vEqs]
  | a :: l, [] => by simp [vEqs]
end
theorem vEq_refl (a : Vl) : vEq a a = true := (vEq_iff a a).2 rfl
mutual
def vDeep : Vl → Nat
  | .mk _ _ _ l => 1 + vDeeps l
def vDeeps : List Vl → Nat
  | [] => 0
  | a :: l => max (vDeep a) (vDeeps l)
end
mutual
def vGreat : Vl → Nat
  | .mk _ _ t l => 1 + t.length + vGreats l
def vGreats : List Vl → Nat
  | [] => 0
  | a :: l => vGreat a + vGreats l
end
mutual
/-- Too great, or too deep, to be asked. -/
def vMuch : Vl → Nat → Bool
  | .mk _ _ t l, d => decide (40 < d) || decide (300 < l.length) || decide (1000 < t.length) || (vMuchs l (d + 1 + l.length / 4) || decide (10000 < vGreats l))
def vMuchs : List Vl → Nat → Bool
  | [], _ => false
  | a :: l, d => vMuch a d || vMuchs l d
end
theorem vGreats_mem : ∀ {l : List Vl} {x : Vl}, x ∈ l → vGreat x ≤ vGreats l
  | a :: l, x, h => by
    simp only [vGreats]
    rcases List.mem_cons.1 h with rfl | h
    · omega
    · have := vGreats_mem h; omega
theorem vDeeps_mem : ∀ {l : List Vl} {x : Vl}, x ∈ l → vDeep x ≤ vDeeps l
  | a :: l, x, h => by
    simp only [vDeeps]
    rcases List.mem_cons.1 h with rfl | h
    · omega
    · have := vDeeps_mem h; omega
theorem vMuchs_mem : ∀ {l : List Vl} {d : Nat}, vMuchs l d = false → ∀ x ∈ l, vMuch x d = false
  | a :: l, d, h, x, hx => by
    simp only [vMuchs, Bool.or_eq_false_iff] at h
    rcases List.mem_cons.1 hx with rfl | hx
    · exact h.1
    · exact vMuchs_mem h.2 x hx
theorem vMuch_great {v : Vl} {d : Nat} (h : vMuch v d = false) : vGreat v ≤ 11001 := by
  obtain ⟨k, n, t, l⟩ := v
  simp only [vMuch, Bool.or_eq_false_iff, decide_eq_false_iff_not] at h
  simp only [vGreat]
  omega
mutual
theorem vDeep_great : ∀ v : Vl, vDeep v ≤ vGreat v
  | .mk k n t l => by have := vDeeps_greats l; simp only [vDeep, vGreat]; omega
theorem vDeeps_greats : ∀ l : List Vl, vDeeps l ≤ vGreats l
  | [] => Nat.le_refl _
  | a :: l => by have := vDeep_great a; have := vDeeps_greats l; simp only [vDeeps, vGreats]; omega
end
theorem vGreats_len : ∀ l : List Vl, l.length ≤ vGreats l
  | [] => Nat.le_refl _
  | a :: l => by
    have := vGreats_len l
    have : 1 ≤ vGreat a := by obtain ⟨k, n, t, m⟩ := a; simp only [vGreat]; omega
    simp only [vGreats, List.length_cons]; omega
theorem vGreats_take : ∀ (l : List Vl) (i : Nat) (h : i < l.length), vGreats (l.take (i + 1)) = vGreats (l.take i) + vGreat l[i]
  | a :: l, 0, h => by simp [vGreats]
  | a :: l, i + 1, h => by
    have := vGreats_take l i (by simpa using h)
    simp only [List.take_succ_cons, vGreats, List.getElem_cons_succ] at this ⊢
    omega
theorem vDeeps_take : ∀ (l : List Vl) (i : Nat) (h : i < l.length), vDeeps (l.take (i + 1)) = max (vDeeps (l.take i)) (vDeep l[i])
  | a :: l, 0, h => by simp [vDeeps]
  | a :: l, i + 1, h => by
    have := vDeeps_take l i (by simpa using h)
    simp only [List.take_succ_cons, vDeeps, List.getElem_cons_succ] at this ⊢
    omega
theorem vGreats_takeLe : ∀ (l : List Vl) (i : Nat), vGreats (l.take i) ≤ vGreats l
  | [], i => by simp
  | a :: l, 0 => by simp [vGreats]
  | a :: l, i + 1 => by have := vGreats_takeLe l i; simp only [List.take_succ_cons, vGreats]; omega
theorem vDeeps_takeLe : ∀ (l : List Vl) (i : Nat), vDeeps (l.take i) ≤ vDeeps l
  | [], i => by simp
  | a :: l, 0 => by simp [vDeeps]
  | a :: l, i + 1 => by have := vDeeps_takeLe l i; simp only [List.take_succ_cons, vDeeps]; omega
/-- What stands at a place, step by step. -/
def vAt : Vl → List Int → Option Vl
  | v, [] => some v
  | v, n :: l => if 0 ≤ n ∧ n < v.its.length then vAt (v.its.getD n.toNat vl0) l else none
/-- A number's digits. -/
def decD : Nat → Nat → List UInt8
  | 0, _ => []
  | k + 1, n => if n < 10 then [UInt8.ofNat (48 + n)] else decD k (n / 10) ++ [UInt8.ofNat (48 + n % 10)]
def dec (n : Nat) : List UInt8 := decD 20 n
def figH (n : Nat) : UInt8 := UInt8.ofNat (if n < 10 then 48 + n else 87 + n)
def quoC (c : UInt8) : List UInt8 := if c.toNat < 32 ∨ 126 < c.toNat ∨ c = 39 ∨ c = 92 then [92, figH (c.toNat / 16), figH (c.toNat % 16)] else [c]
def quo (s : List UInt8) : List UInt8 := [39] ++ s.flatMap quoC ++ [39]
def numText (k : Int) (n : Nat) : List UInt8 :=
  if k = 1 then (if n % 2 = 1 then [116, 114, 117, 101] else [102, 97, 108, 115, 101])
  else if sgK k = true ∧ sgnI (szK k) n < 0 then 45 :: dec (-(sgnI (szK k) n)).toNat else dec (upK k n)
mutual
def vText : Vl → List UInt8
  | .mk k n t l =>
    if isNum k = true then numText k n
    else if k = 10 then quo t
    else if k = 11 ∨ k = 12 then [91] ++ vTexts [44] l ++ [93]
    else if k = 13 then [40] ++ vTexts [44] l ++ [41]
    else if k = 14 then [60] ++ dec n ++ vTail [58] l ++ [62]
    else [63]
/-- .. one behind the other, a sign between. -/
def vTexts (s : List UInt8) : List Vl → List UInt8
  | [] => []
  | a :: l => vText a ++ vTail s l
def vTail (s : List UInt8) : List Vl → List UInt8
  | [] => []
  | a :: l => s ++ vText a ++ vTail s l
end
end Go.Proofs.YtodiahhfpcdejaaDoor

/- The texts of values; plain. -/
namespace Go.Proofs.YtodiahhfpcdejaaDoor
set_option autoImplicit false
theorem decD_dec : ∀ (k n : Nat), n < 10 ^ k → decD k n = if k = 0 then [] else Lib.decDigits n
  | 0, n, h => by simp [decD]
  | k + 1, n, h => by
    rw [if_neg (Nat.succ_ne_zero k), decD, Lib.decDigits]
    by_cases h1 : n < 10
    · rw [if_pos h1, dif_pos h1]
    · rw [if_neg h1, dif_neg h1]
      have hk : k ≠ 0 := by intro e; subst e; simp at h; omega
      rw [decD_dec k (n / 10) (by rw [Nat.pow_succ] at h; omega), if_neg hk]
theorem dec_eq {n : Nat} (h : n < 18446744073709551616) : dec n = Lib.decDigits n := by
  have := decD_dec 20 n (by omega)
  rw [if_neg (by omega)] at this
  exact this
theorem decD_len : ∀ (k n : Nat), (decD k n).length ≤ k
  | 0, n => by simp [decD]
  | k + 1, n => by
    have := decD_len k (n / 10)
    rw [decD]
    split
    · simp
    · simp; omega
theorem dec_len (n : Nat) : (dec n).length ≤ 20 := decD_len 20 n
theorem quoC_len (c : UInt8) : (quoC c).length ≤ 3 := by unfold quoC; split <;> simp
theorem quoF_len : ∀ t : List UInt8, (t.flatMap quoC).length ≤ 3 * t.length
  | [] => by simp
  | c :: t => by have := quoF_len t; have := quoC_len c; simp only [List.flatMap_cons, List.length_append, List.length_cons]; omega
theorem quo_len (t : List UInt8) : (quo t).length ≤ 2 + 3 * t.length := by
  have := quoF_len t
  simp only [quo, List.length_append, List.length_cons, List.length_nil]; omega
theorem numText_len (k : Int) (n : Nat) : (numText k n).length ≤ 21 := by
  unfold numText
  have a := dec_len (-(sgnI (szK k) n)).toNat
  have b := dec_len (upK k n)
  split
  · split <;> simp
  · split
    · simp only [List.length_cons]; omega
    · omega
mutual
theorem vText_len : ∀ v : Vl, (vText v).length + 1 ≤ 24 * vGreat v
  | .mk k n t l => by
    have h1 := numText_len k n
    have h2 := quo_len t
    have h3 := vTexts_len [44] l (by simp)
    have h4 := vTail_len [58] l (by simp)
    have h5 := dec_len n
    simp only [vText, vGreat]
    repeat' split
    all_goals (try simp only [List.length_append, List.length_cons, List.length_nil]); omega
theorem vTexts_len : ∀ (s : List UInt8) (l : List Vl), s.length ≤ 1 → (vTexts s l).length ≤ 24 * vGreats l
  | s, [], _ => by simp [vTexts]
  | s, a :: l, h => by
    have h1 := vText_len a
    have h2 := vTail_len s l h
    simp only [vTexts, vGreats, List.length_append]; omega
theorem vTail_len : ∀ (s : List UInt8) (l : List Vl), s.length ≤ 1 → (vTail s l).length ≤ 24 * vGreats l
  | s, [], _ => by simp [vTail]
  | s, a :: l, h => by
    have h1 := vText_len a
    have h2 := vTail_len s l h
    simp only [vTail, vGreats, List.length_append]; omega
end
theorem vTail_join (s : List UInt8) : ∀ l : List Vl, vTail s l = Lib.joinTail s (l.map vText)
  | [] => rfl
  | a :: l => by
    have := vTail_join s l
    simp only [vTail, this, Lib.joinTail, List.map_cons, List.flatten_cons]
theorem vTexts_join (s : List UInt8) : ∀ l : List Vl, vTexts s l = Lib.join (l.map vText) s
  | [] => rfl
  | a :: l => by rw [vTexts, vTail_join, List.map_cons, Lib.join_cons]
theorem vTail_snoc (s : List UInt8) (x : Vl) : ∀ l : List Vl, vTail s (l ++ [x]) = vTail s l ++ (s ++ vText x)
  | [] => by simp [vTail]
  | a :: l => by
    have := vTail_snoc s x l
    simp only [List.cons_append, vTail, this, List.append_assoc]
theorem vTexts_snoc (s : List UInt8) (x : Vl) (l : List Vl) (h : l ≠ []) : vTexts s (l ++ [x]) = vTexts s l ++ (s ++ vText x) := by
  cases l with
  | nil => exact absurd rfl h
  | cons a l => simp only [List.cons_append, vTexts, vTail_snoc, List.append_assoc]
/-- The texts so far. -/
def accT (k : Int) (l : List Vl) : List UInt8 := if k = 14 then vTail [58] l else vTexts [44] l
theorem accT_len (k : Int) (l : List Vl) : (accT k l).length ≤ 24 * vGreats l := by
  unfold accT
  split
  · exact vTail_len _ _ (by simp)
  · exact vTexts_len _ _ (by simp)
theorem accT_step (k : Int) (l : List Vl) (i : Nat) (h : i < l.length) : accT k (l.take (i + 1)) = accT k (l.take i) ++ ((if k = 14 then [58] else if 0 < i then [44] else []) ++ vText l[i]) := by
  rw [List.take_succ_eq_append_getElem h]
  unfold accT
  split
  · exact vTail_snoc _ _ _
  · by_cases hi : 0 < i
    · rw [if_pos hi]
      refine vTexts_snoc _ _ _ (fun e => ?_)
      have := congrArg List.length e
      simp only [List.length_take, List.length_nil] at this
      omega
    · obtain rfl : i = 0 := by omega
      simp [vTexts, vTail]
end Go.Proofs.YtodiahhfpcdejaaDoor
