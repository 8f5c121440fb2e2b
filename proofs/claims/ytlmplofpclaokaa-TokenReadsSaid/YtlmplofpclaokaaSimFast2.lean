/- The predicate transformer over frames that are lists: code. -/
import Derived.Test.YtlmplofpclaokaaSimFast
namespace Go.Proofs.Ytlmplofpclaokaa
set_option autoImplicit false
set_option linter.unusedSimpArgs false
set_option linter.unusedVariables false

/-- Both ways of a Bool, each with the Bool's own value. -/
structure bsplit (q : Bool) (k : Bool → Prop) : Prop where
  out : k q
theorem bsplit_intro {q : Bool} {k : Bool → Prop} (h1 : q = true → k true) (h2 : q = false → k false) : bsplit q k := ⟨by cases q with | true => exact h1 rfl | false => exact h2 rfl⟩
theorem bsplit_t {q : Bool} {k : Bool → Prop} (h : q = true) (h1 : k true) : bsplit q k := by rw [h]; exact ⟨h1⟩
theorem bsplit_f {q : Bool} {k : Bool → Prop} (h : q = false) (h1 : k false) : bsplit q k := by rw [h]; exact ⟨h1⟩
theorem bsplit_tt {k : Bool → Prop} (h : k true) : bsplit true k := ⟨h⟩
theorem bsplit_ff {k : Bool → Prop} (h : k false) : bsplit false k := ⟨h⟩
/-- .. of a test. -/
theorem bsplit_dec {p : Prop} [Decidable p] {k : Bool → Prop} (h1 : p → k true) (h2 : ¬ p → k false) : bsplit (decide p) k :=
  bsplit_intro (fun h => h1 (of_decide_eq_true h)) (fun h => h2 (of_decide_eq_false h))
theorem bsplit_pos {p : Prop} [Decidable p] {k : Bool → Prop} (h : p) (h1 : k true) : bsplit (decide p) k := bsplit_t (decide_eq_true h) h1
theorem bsplit_neg {p : Prop} [Decidable p] {k : Bool → Prop} (h : ¬ p) (h1 : k false) : bsplit (decide p) k := bsplit_f (decide_eq_false h) h1
theorem bsplit_not {q : Bool} {k : Bool → Prop} (h : bsplit q fun b => k (!b)) : bsplit (!q) k := ⟨h.out⟩

/-- A call: a place to stop. -/
structure callF (P : Program) (f : Nat) (args : List AV) (H : AH) (K : AV → AH → Prop) : Prop where
  out : callA P f args H K
structure callG (P : Program) (f : Nat) (args : List AV) (H : AH) (K : AV → Prop) : Prop where
  out : ∃ r, callP P f args H r ∧ K r

theorem callF_of {P : Program} {f : Nat} {args : List AV} {H : AH} {K : AV → AH → Prop} (h : ACalls P f args H K) : callF P f args H K := ⟨callA_of h⟩
theorem callF_eq {P : Program} {f : Nat} {args : List AV} {H : AH} {K : AV → AH → Prop} {r : AV} (h : ACalls P f args H fun r' H' => r' = r ∧ H' = H) (k : K r H) : callF P f args H K := ⟨callA_eq h k⟩
theorem callG_eq {P : Program} {f : Nat} {args : List AV} {H : AH} {K : AV → Prop} {r : AV} (hp : r.plain = true) (h : ACalls P f args H fun r' H' => r' = r ∧ H' = H) (k : K r) : callG P f args H K := ⟨r, callP_plain hp h, k⟩

theorem callF_fz {P : Program} {f : Nat} {args args' : List AV} {H : AH} {K : AV → AH → Prop} {r : AV} (hf : FzL H [] args args') (hp : r.plain = true) (h : ACalls P f args' [] fun r' _ => r' = r) (k : K r H) : callF P f args H K :=
  ⟨⟨args', [], fun _ _ q => (by cases q), hf, .inr (h.mono fun r' _ e => by rw [e]; exact ⟨hp, k⟩)⟩⟩
/-- A call that is handed nothing of what is owned; what is owned is forgotten. -/
theorem callF_drop {P : Program} {f : Nat} {args : List AV} {H : AH} {K : AV → AH → Prop} (h : ACalls P f args [] K) : callF P f args H K :=
  ⟨⟨args, [], fun _ _ q => (by cases q), FzL.refl _ _ _, .inl h⟩⟩
theorem callF_plain {P : Program} {f : Nat} {args : List AV} {H : AH} {K : AV → AH → Prop} (h : ACalls P f args [] fun r' _ => r'.plain = true ∧ K r' H) : callF P f args H K :=
  ⟨⟨args, [], fun _ _ q => (by cases q), FzL.refl _ _ _, .inr h⟩⟩
theorem Rl.aggNil {h : Array Obj} {ρ : Loc} {Z : Nat → Prop} {sz : Nat} {pre post : List AV} {x : Value} (hr : Rl h ρ Z (.agg (pre ++ .nilS :: post)) x) : Rl h ρ Z (.agg (pre ++ .rows sz [] :: post)) x := by
  generalize hc : pre ++ AV.nilS :: post = cs at hr
  cases hr with
  | agg _ vs hl hcc hq =>
    subst hc
    refine .agg _ vs (by simpa using hl) (fun i v h1 => ?_) (fun i v y h1 h2 => ?_)
    · by_cases e : i = pre.length
      · subst e; simp at h1; rw [← h1]; rfl
      · refine hcc i v ?_
        rw [List.getElem?_append] at h1 ⊢
        split at h1
        · rename_i q; rw [if_pos q]; exact h1
        · rename_i q
          rw [if_neg q]
          obtain ⟨k, hk⟩ : ∃ k, i - pre.length = k + 1 := ⟨i - pre.length - 1, by omega⟩
          rw [hk] at h1 ⊢
          simpa using h1
    · by_cases e : i = pre.length
      · subst e
        have hy := hq pre.length .nilS y (by simp) h2
        simp at h1
        subst h1
        cases hy
        exact .rowsN sz
      · refine hq i v y ?_ h2
        rw [List.getElem?_append] at h1 ⊢
        split at h1
        · rename_i q; rw [if_pos q]; exact h1
        · rename_i q
          rw [if_neg q]
          obtain ⟨k, hk⟩ : ∃ k, i - pre.length = k + 1 := ⟨i - pre.length - 1, by omega⟩
          rw [hk] at h1 ⊢
          simpa using h1
theorem FzL.nil (H Hc : AH) : FzL H Hc [] [] := FzL.refl H Hc []
theorem FzL.cons {H Hc : AH} {v v' : AV} {vs vs' : List AV} (h : Fz H Hc v v') (hs : FzL H Hc vs vs') : FzL H Hc (v :: vs) (v' :: vs') := by
  refine ⟨by simp [hs.1], fun i a b h1 h2 => ?_⟩
  cases i with
  | zero => simp at h1 h2; rw [← h1, ← h2]; exact h
  | succ i => exact hs.2 i a b (by simpa using h1) (by simpa using h2)
/-- A slice that is owned, of cells that are not, as one that nobody writes. -/
theorem fz_own {H Hc : AH} {id sz lo hi : Nat} {l : List (List AV)} (hg : hget H id = some (.rows sz l)) (hd : hget Hc id = none) (h1 : lo ≤ hi) (h2 : hi ≤ l.length) (hw : ∀ (i : Nat) r, l[i]? = some r → r.length = sz) :
    Fz H Hc (.own id sz lo hi) (.rows sz ((l.take hi).drop lo)) := by
  have key : ∀ i r', ((l.take hi).drop lo)[i]? = some r' → l[lo + i]? = some r' := by
    intro i r' q
    rw [List.getElem?_drop, List.getElem?_take] at q
    split at q
    · exact q
    · cases q
  refine .own id sz lo hi l _ hg hd h2 h1 (by simp; omega) (fun i r' q => hw _ _ (key i r' q)) fun i r r' j v v' q1 q2 q3 q4 => ?_
  rw [key i r' q2] at q1
  simp only [Option.some.injEq] at q1
  subst q1
  rw [q3] at q4
  simp only [Option.some.injEq] at q4
  subst q4
  exact .refl _
/-- What is asked of fewer values is asked of these. -/
theorem ACalls.args {P : Program} {f : Nat} {args args' : List AV} {H : AH} {K : AV → AH → Prop} (h : ACalls P f args' H K) (hw : ∀ h ρ Z xs, RlL h ρ Z args xs → RlL h ρ Z args' xs) : ACalls P f args H K :=
  ⟨h.1, fun w ρ Z xs g hr => h.2 w ρ Z xs g (hw _ _ _ _ hr)⟩
theorem RlL.nilS {h : Array Obj} {ρ : Loc} {Z : Nat → Prop} {sz : Nat} {pre post : List AV} {xs : List Value} (hr : RlL h ρ Z (pre ++ .nilS :: post) xs) : RlL h ρ Z (pre ++ .rows sz [] :: post) xs := by
  refine ⟨by simpa using hr.1, fun i v x h1 h2 => ?_⟩
  by_cases e : i = pre.length
  · subst e
    have hq := hr.2 pre.length .nilS x (by simp) h2
    simp at h1
    subst h1
    cases hq
    exact .rowsN sz
  · refine hr.2 i v x ?_ h2
    rw [List.getElem?_append] at h1 ⊢
    split at h1
    · rename_i q; rw [if_pos q]; exact h1
    · rename_i q
      rw [if_neg q]
      obtain ⟨k, hk⟩ : ∃ k, i - pre.length = k + 1 := ⟨i - pre.length - 1, by omega⟩
      rw [hk] at h1 ⊢
      simpa using h1
theorem hget_ne_of {H : AH} {i j : Nat} {b : Blk} (h : hget H i = none) (h2 : hget H j = some b) : i ≠ j := fun e => by rw [e, h2] at h; cases h
theorem hget_set {H : AH} {i : Nat} {b c : Blk} (h : hget H i = some b) : hget (hset H i c) i = some c := by rw [hget_hset, if_pos rfl, h]; rfl
theorem hget_set_ne {H : AH} {i j : Nat} {c : Blk} (h : j ≠ i) : hget (hset H i c) j = hget H j := by rw [hget_hset, if_neg h]
theorem hget_del_ne {H : AH} {i j : Nat} (h : j ≠ i) : hget (hdel H i) j = hget H j := by rw [hget_hdel, if_neg h]
theorem hdel_none {H : AH} {i : Nat} (h : hget H i = none) : hdel H i = H := by
  induction H with
  | nil => rfl
  | cons p H ih =>
    obtain ⟨k, d⟩ := p
    simp only [hget] at h
    split at h
    · cases h
    · rename_i e
      simp only [hdel]
      rw [if_neg e, ih h]
theorem hdel_cons {H : AH} {i : Nat} {b : Blk} (h : hget H i = none) : hdel ((i, b) :: H) i = H := by
  simp only [hdel]; rw [if_pos trivial, hdel_none h]
theorem hget_tail {id j : Nat} {b : Blk} {H : AH} (h : j ≠ id) : hget ((j, b) :: H) id = hget H id := by simp only [hget]; rw [if_neg (fun e => h e.symm)]
theorem hset_self {id : Nat} {b c : Blk} {H : AH} : hset ((id, b) :: H) id c = (id, c) :: H := by simp [hset]
theorem hget_fresh {id j : Nat} {b : Blk} {H : AH} (h : hget ((j, b) :: H) id = none) : id ≠ j ∧ hget H id = none := by
  simp only [hget] at h
  split at h
  · cases h
  · rename_i e; exact ⟨e, h⟩
theorem hget_self {id : Nat} {b : Blk} {H : AH} : hget ((id, b) :: H) id = some b := by simp [hget]

def applyF (P : Program) (rs : Rs) (d : Option Nat) (L : FL) (H : AH) (K : FL → AH → Prop) : Prop :=
  match rs with
  | .val v => K (putL L d v) H
  | .upd H' => K (delL L d) H'
  | .valH v H' => K (putL L d v) H'
  | .fresh T blk v H' => ∀ id, hget H id = none → tag id = T → K (putL L d (v id)) ((id, blk) :: H')
  | .call f args => callF P f args H fun r H' => K (putL L d r) H'

def opFp (L : FL) (H : AH) (co : CO) (k : Rs → Prop) : Prop :=
  match co with
  | .pick c a b => evX L c fun v => match v with
    | .bool q => bsplit q fun q => match q with
      | true => evX L a fun v => k (.val v)
      | false => evX L b fun v => k (.val v)
    | _ => False
  | co => opF L H co k

def opsCons (P : Program) (o : COp) (ih : (FL → AH → Prop) → FL → AH → Prop) (K : FL → AH → Prop) (L : FL) (H : AH) : Prop :=
    match o.guard with
    | none => opFp L H o.co fun rs => applyF P rs o.dst L H (ih K)
    | some (g, want) => match L.get g with
      | some (.bool q) => bsplit q fun b => match b with
        | true => match want with
          | true => opFp ((g, some (.bool true)) :: L) H o.co fun rs => applyF P rs o.dst ((g, some (.bool true)) :: L) H (ih K)
          | false => ih K (putL ((g, some (.bool true)) :: L) o.dst (.tup [])) H
        | false => match want with
          | false => opFp ((g, some (.bool false)) :: L) H o.co fun rs => applyF P rs o.dst ((g, some (.bool false)) :: L) H (ih K)
          | true => ih K (putL ((g, some (.bool false)) :: L) o.dst (.tup [])) H
      | some (.tup []) => ih K (putL L o.dst (.tup [])) H
      | _ => False

/-- By the recursor itself, so that what is left of a reduction is what the kernel has, too. -/
noncomputable def wpOpsF (P : Program) (os : List COp) (K : FL → AH → Prop) (L : FL) (H : AH) : Prop :=
  @List.rec COp (fun _ => (FL → AH → Prop) → FL → AH → Prop) (fun K L H => K L H) (fun o _ ih => opsCons P o ih) os K L H
theorem wpOpsF_nil (P : Program) (K : FL → AH → Prop) (L : FL) (H : AH) : wpOpsF P [] K L H = K L H := rfl
theorem wpOpsF_cons (P : Program) (o : COp) (os : List COp) (K : FL → AH → Prop) (L : FL) (H : AH) : wpOpsF P (o :: os) K L H = opsCons P o (wpOpsF P os) K L H := rfl

def drawF (P : Program) (rs : Rs) (d : Option Nat) (L : FL) (H0 H : AH) (K : FL → AH → Prop) : Prop :=
  match rs with
  | .val v => K (putL L d v) H
  | .upd _ => False
  | .valH _ _ => False
  | .fresh T blk v H' => H' = H0 ∧ ∀ id, hget H id = none → tag id = T → K (putL L d (v id)) ((id, blk) :: H)
  | .call f args => callG P f args H0 fun r => K (putL L d r) H

/-- .. or it writes one block of D. -/
def drawStF (P : Program) (o : COp) (L : FL) (H0 D H : AH) (k : FL → AH → AH → Prop) : Prop :=
  match o.co with
  | .store n x y => evX L x fun v => evX L y fun z => match v with
    | .ptr id sz i j => ∃ l r, hget D id = some (.rows sz l) ∧ l[i]? = some r ∧ z.cells.length = n ∧ allCells z.cells = true ∧ j + n ≤ r.length ∧ k (delL L o.dst) (hdel D id) (hset H id (.rows sz (l.set i (over r j z.cells))))
    | _ => False
  | co => opFp L H0 co fun rs => drawF P rs o.dst L H0 H fun L' H' => k L' D H'

def drawCons (P : Program) (o : COp) (ih : (FL → AH → Prop) → FL → AH → AH → AH → Prop) (K : FL → AH → Prop) (L : FL) (H0 D H : AH) : Prop :=
    match o.guard with
    | none => drawStF P o L H0 D H fun L' D' H' => ih K L' H0 D' H'
    | some (g, want) => match L.get g with
      | some (.bool q) => bsplit q fun b => match b with
        | true => match want with
          | true => drawStF P o ((g, some (.bool true)) :: L) H0 D H fun L' D' H' => ih K L' H0 D' H'
          | false => ih K (putL ((g, some (.bool true)) :: L) o.dst (.tup [])) H0 D H
        | false => match want with
          | false => drawStF P o ((g, some (.bool false)) :: L) H0 D H fun L' D' H' => ih K L' H0 D' H'
          | true => ih K (putL ((g, some (.bool false)) :: L) o.dst (.tup [])) H0 D H
      | some (.tup []) => ih K (putL L o.dst (.tup [])) H0 D H
      | _ => False

noncomputable def wpDrawF (P : Program) (os : List COp) (K : FL → AH → Prop) (L : FL) (H0 D H : AH) : Prop :=
  @List.rec COp (fun _ => (FL → AH → Prop) → FL → AH → AH → AH → Prop) (fun K L _ _ H => K L H) (fun o _ ih => drawCons P o ih) os K L H0 D H

/-- The block that an operation writes, if it is known ahead of the region. -/
def stId (L : FL) (o : COp) : Option Nat :=
  match o.co with
  | .store _ x _ => match x with
    | .t k => match L.get k with
      | some (.ptr id _ _ _) => some id
      | _ => none
    | _ => none
  | _ => none
/-- These blocks are set apart. -/
noncomputable def withD (L : FL) (os : List COp) (k : AH → AH → Prop) (H0 D : AH) : Prop :=
  @List.rec COp (fun _ => AH → AH → Prop) k (fun o _ ih H0 D => match stId L o with
    | some id => ∃ b, hget H0 id = some b ∧ ih (hdel H0 id) ((id, b) :: D)
    | none => ih H0 D) os H0 D
theorem withD_of {L : FL} {k : AH → AH → Prop} {H : AH} : ∀ (os : List COp) (H0 D : AH), Sub H0 H → Sub D H → (∀ id b, hget D id = some b → hget H0 id = none) → withD L os k H0 D → ∃ H0 D, Sub H0 H ∧ Sub D H ∧ (∀ id b, hget D id = some b → hget H0 id = none) ∧ k H0 D
  | [], H0, D, h1, h2, h3, h => ⟨H0, D, h1, h2, h3, h⟩
  | o :: os, H0, D, h1, h2, h3, h => by
    have h' : (match stId L o with
      | some id => ∃ b, hget H0 id = some b ∧ withD L os k (hdel H0 id) ((id, b) :: D)
      | none => withD L os k H0 D) := h
    split at h'
    · rename_i id _
      obtain ⟨b, hb, h'⟩ := h'
      refine withD_of os (hdel H0 id) ((id, b) :: D) (fun j c q => ?_) (fun j c q => ?_) (fun j c q => ?_) h'
      · rw [hget_hdel] at q
        split at q
        · cases q
        · exact h1 _ _ q
      · simp only [hget] at q
        split at q
        · rename_i e; subst e; rw [← q]; exact h1 _ _ hb
        · exact h2 _ _ q
      · simp only [hget] at q
        rw [hget_hdel]
        split at q
        · rename_i e; rw [if_pos e]
        · rename_i e; rw [if_neg e]; exact h3 _ _ q
    · exact withD_of os H0 D h1 h2 h3 h'
theorem wpDrawF_nil (P : Program) (K : FL → AH → Prop) (L : FL) (H0 D H : AH) : wpDrawF P [] K L H0 D H = K L H := rfl
theorem wpDrawF_cons (P : Program) (o : COp) (os : List COp) (K : FL → AH → Prop) (L : FL) (H0 D H : AH) : wpDrawF P (o :: os) K L H0 D H = drawCons P o (wpDrawF P os) K L H0 D H := rfl

def thenF (next : FL → AH → Prop) (Q : Exit → FL → AH → Prop) : Exit → FL → AH → Prop
  | .normal, L, H => next L H
  | e, L, H => Q e L H

def blockF (id : Nat) (Q : Exit → FL → AH → Prop) : Exit → FL → AH → Prop
  | .exit id', L, H => match Nat.beq id' id with
    | true => Q .normal L H
    | false => Q (.exit id') L H
  | e, L, H => Q e L H

def jumpF (l : Nat) (J : FL → AH → Prop) (Q : Exit → FL → AH → Prop) : Exit → FL → AH → Prop
  | .goto l', L, H => l' = l ∧ J L H
  | e, L, H => Q e L H

/-- Do ways meet behind this code? -/
def isJoin : C → Bool
  | .cond _ _ _ => true
  | .block _ _ => true
  | .scope _ => true
  | .label _ => true
  | .seq _ b => isJoin b
  | _ => false

def WeakF (J : FL → AH → Prop) (L : FL) (H : AH) : Prop := ∃ M Hk, coversZ H Hk M L ∧ Sub Hk H ∧ J M Hk

abbrev WF := Option Nat → (Exit → FL → AH → Prop) → FL → AH → Prop

def fSeq (a : C) (jn : Bool) (iha ihb : WF) : WF
  | none, Q, L, H => match jn with
    | true => (iha none (thenF (ihb none Q) Q) L H ∨ ∃ J : FL → AH → Prop, iha none (thenF (WeakF J) Q) L H ∧ ∀ M Hk, J M Hk → ihb none Q M Hk) ∨
        ∃ M Hk, iha none (thenF (fun L' H' => coversZ H' Hk M L' ∧ Sub Hk H') Q) L H ∧ ihb none Q M Hk
    | false => iha none (thenF (ihb none Q) Q) L H
  | some l, Q, L, H => match hasL a l with
    | true => iha (some l) (thenF (ihb none Q) Q) L H
    | false => ihb (some l) Q L H
def fCond (x : X) (iha ihb : WF) : WF
  | none, Q, L, H => evX L x fun v => match v with
    | .bool q => bsplit q fun q => match q with
      | true => iha none Q L H
      | false => ihb none Q L H
    | _ => False
  | some _, _, _, _ => False
def fBlock (id : Nat) (ih : WF) : WF
  | none, Q, L, H => ih none (blockF id Q) L H
  | some _, _, _, _ => False
def fLoop (ih : WF) : WF
  | none, Q, L, H => ∃ I : Nat → FL → AH → Prop, WeakF (fun M Hk => ∃ n, I n M Hk) L H ∧
      ∀ n L H, I n L H → ih none (thenF (WeakF fun L' H' => ∃ m, m < n ∧ I m L' H') Q) L H
  | some _, _, _, _ => False
def fScope (ih : WF) : WF
  | none, Q, L, H => ∃ (l n0 : Nat) (I : Nat → FL → AH → Prop), ih none (jumpF l (WeakF fun L' H' => ∃ m, m < n0 ∧ I m L' H') Q) L H ∧
      ∀ n L H, I n L H → ih (some l) (jumpF l (WeakF fun L' H' => ∃ m, m < n ∧ I m L' H') Q) L H
  | some _, _, _, _ => False
def fEnd (e : Exit) : WF
  | none, Q, L, H => Q e L H
  | some _, _, _, _ => False
def fLabel (l' : Nat) : WF
  | none, Q, L, H => Q .normal L H
  | some l, Q, L, H => l' = l ∧ Q .normal L H
def fReg (k : (FL → AH → Prop) → FL → AH → Prop) : WF
  | none, Q, L, H => k (Q .normal) L H
  | some _, _, _, _ => False

noncomputable def wpF (P : Program) (c : C) : WF :=
  @C.rec (fun _ => WF)
    (fEnd .normal)
    (fun ops => fReg (wpOpsF P ops))
    (fun pre post => fReg fun K L H => withD L pre (fun H0 D => wpDrawF P pre (fun L' H' => wpOpsF P post K L' H') L H0 D H) H [])
    (fun a _ iha ihb => fSeq a (isJoin a) iha ihb)
    (fun x _ _ iha ihb => fCond x iha ihb)
    (fun id _ ih => fBlock id ih)
    (fun _ ih => fLoop ih)
    (fun id => fEnd (.exit id))
    (fun _ ih => fScope ih)
    (fun l => fLabel l)
    (fun l => fEnd (.goto l))
    (fEnd .ret)
    (fun _ _ _ _ => False) c

section
variable (P : Program) (Q : Exit → FL → AH → Prop) (L : FL) (H : AH)
theorem wpF_skip : wpF P .skip none Q L H = Q .normal L H := rfl
theorem wpF_reg (ops : List COp) : wpF P (.reg ops) none Q L H = wpOpsF P ops (Q .normal) L H := rfl
theorem wpF_dreg (pre post : List COp) : wpF P (.dreg pre post) none Q L H = withD L pre (fun H0 D => wpDrawF P pre (fun L' H' => wpOpsF P post (Q .normal) L' H') L H0 D H) H [] := rfl
theorem wpF_seq (a b : C) (lb : Option Nat) : wpF P (.seq a b) lb Q L H = fSeq a (isJoin a) (wpF P a) (wpF P b) lb Q L H := rfl
theorem wpF_cond (x : X) (a b : C) (lb : Option Nat) : wpF P (.cond x a b) lb Q L H = fCond x (wpF P a) (wpF P b) lb Q L H := rfl
theorem wpF_block (id : Nat) (b : C) (lb : Option Nat) : wpF P (.block id b) lb Q L H = fBlock id (wpF P b) lb Q L H := rfl
theorem wpF_loop (b : C) (lb : Option Nat) : wpF P (.loop b) lb Q L H = fLoop (wpF P b) lb Q L H := rfl
theorem wpF_scope (b : C) (lb : Option Nat) : wpF P (.scope b) lb Q L H = fScope (wpF P b) lb Q L H := rfl
end

section
variable {P : Program}

theorem opFp_of {L : FL} {H : AH} {co : CO} {k : Rs → Prop} (h : opFp L H co k) : ∃ rs, evalOp (frm L) H co = some rs ∧ k rs := by
  cases co
  case pick c a b =>
    obtain ⟨v, h1, h2⟩ := evX_of h
    cases v <;> try exact h2.elim
    rename_i q
    replace h2 := h2.out
    cases q with
    | true => obtain ⟨u, h3, h4⟩ := evX_of h2; exact ⟨_, by simp only [evalOp, h1, h3, Option.bind_some, if_true], h4⟩
    | false => obtain ⟨u, h3, h4⟩ := evX_of h2; exact ⟨_, by simp only [evalOp, h1, h3, Option.bind_some, Bool.false_eq_true, if_false], h4⟩
  all_goals exact opF_of h

theorem frm_same {L : FL} {g : Nat} {v : AV} (h : L.get g = some v) : frm ((g, some v) :: L) = frm L := by
  funext t
  simp only [frm, FL.get_cons]
  split
  · rename_i e; rw [e, h]
  · rfl

theorem applyF_of {rs : Rs} {d : Option Nat} {L : FL} {H : AH} {K : FL → AH → Prop} {K' : Fr → AH → Prop} (hk : ∀ L H, K L H → K' (frm L) H) (h : applyF P rs d L H K) : applyRs P rs d (frm L) H K' := by
  cases rs with
  | val v => simp only [applyF, applyRs] at h ⊢; rw [← frm_put]; exact hk _ _ h
  | upd H' => simp only [applyF, applyRs] at h ⊢; rw [← frm_del]; exact hk _ _ h
  | valH v H' => simp only [applyF, applyRs] at h ⊢; rw [← frm_put]; exact hk _ _ h
  | fresh T blk vf H' => simp only [applyF, applyRs] at h ⊢; intro id hid ht; rw [← frm_put]; exact hk _ _ (h id hid ht)
  | call f args =>
    simp only [applyF, applyRs] at h ⊢
    obtain ⟨a', Hc, h1, h2, h3⟩ := h.out
    refine ⟨a', Hc, h1, h2, ?_⟩
    rcases h3 with h3 | h3
    · exact .inl (h3.mono fun r H' q => by rw [← frm_put]; exact hk _ _ q)
    · exact .inr (h3.mono fun r H' q => ⟨q.1, by show K' ((frm L).put d r) H; rw [← frm_put]; exact hk _ _ q.2⟩)

theorem wpOpsF_of {K : FL → AH → Prop} {K' : Fr → AH → Prop} (hk : ∀ L H, K L H → K' (frm L) H) : ∀ (os : List COp) (L : FL) (H : AH), wpOpsF P os K L H → wpOps P os K' (frm L) H
  | [], L, H, h => hk L H h
  | o :: os, L, H, h => by
    have run : ∀ L H, (opFp L H o.co fun rs => applyF P rs o.dst L H (wpOpsF P os K)) → OA (evalOp (frm L) H o.co) fun rs => applyRs P rs o.dst (frm L) H (wpOps P os K') := by
      intro L H h
      obtain ⟨rs, h1, h2⟩ := opFp_of h
      rw [h1]
      exact applyF_of (fun L H q => wpOpsF_of hk os L H q) h2
    simp only [wpOpsF_cons, opsCons] at h
    simp only [wpOps]
    split at h
    · rename_i hg
      rw [hg]
      exact run L H h
    · rename_i g want hg
      rw [hg]
      simp only
      split at h
      · rename_i q hq
        refine .inl ⟨q, hq, fun e => ?_, fun e => ?_⟩
        · subst e
          replace h := h.out
          rw [← frm_same hq]
          cases q <;> exact run _ H h
        · replace h := h.out
          rw [← frm_same hq, ← frm_put]
          cases q <;> cases want <;> simp at e <;> exact wpOpsF_of hk os _ H h
      · rename_i hq
        refine .inr ⟨hq, ?_⟩
        rw [← frm_put]
        exact wpOpsF_of hk os _ H h
      · exact h.elim

theorem drawF_of {rs : Rs} {d : Option Nat} {L : FL} {H0 H : AH} {K : FL → AH → Prop} {K' : Fr → AH → Prop} (hk : ∀ L H, K L H → K' (frm L) H) (h : drawF P rs d L H0 H K) : drawRs P rs d (frm L) H0 H K' := by
  cases rs with
  | val v => simp only [drawF, drawRs] at h ⊢; rw [← frm_put]; exact hk _ _ h
  | upd H' => exact h.elim
  | valH v H' => exact h.elim
  | fresh T blk vf H' => simp only [drawF, drawRs] at h ⊢; exact ⟨h.1, fun id hid ht => by rw [← frm_put]; exact hk _ _ (h.2 id hid ht)⟩
  | call f args =>
    simp only [drawF, drawRs] at h ⊢
    obtain ⟨r, h1, h2⟩ := h.out
    exact ⟨r, h1, by rw [← frm_put]; exact hk _ _ h2⟩

theorem drawStF_of {o : COp} {L : FL} {H0 D H : AH} {k : FL → AH → AH → Prop} {k' : Fr → AH → AH → Prop} (hk : ∀ L D H, k L D H → k' (frm L) D H) (h : drawStF P o L H0 D H k) : drawSt P o (frm L) H0 D H k' := by
  have other : (opFp L H0 o.co fun rs => drawF P rs o.dst L H0 H fun L' H' => k L' D H') → drawSt P o (frm L) H0 D H k' := by
    intro h
    obtain ⟨rs, h1, h2⟩ := opFp_of h
    refine .inl ?_
    rw [h1]
    exact drawF_of (K' := fun s' H' => k' s' D H') (fun L H q => hk _ _ _ q) h2
  unfold drawStF at h
  split at h
  · rename_i n x y hco
    obtain ⟨v, h1, h2⟩ := evX_of h
    obtain ⟨z, h3, h4⟩ := evX_of h2
    cases v <;> try exact h4.elim
    rename_i id sz i j
    obtain ⟨l, r, q1, q2, q3, q4, q5, q6⟩ := h4
    refine .inr ⟨id, .rows sz l, hset [(id, .rows sz l)] id (.rows sz (l.set i (over r j z.cells))), .rows sz (l.set i (over r j z.cells)), q1, ?_, ?_, by rw [← frm_del]; exact hk _ _ _ q6⟩
    · rw [hco]
      simp only [evalOp, h1, h3, Option.bind_some, hget, if_true, q2]
      simp [q3, q4, q5]
    · simp [hset, hget]
  · exact other h

theorem wpDrawF_of {K : FL → AH → Prop} {K' : Fr → AH → Prop} (hk : ∀ L H, K L H → K' (frm L) H) : ∀ (os : List COp) (L : FL) (H0 D H : AH), wpDrawF P os K L H0 D H → wpDraw P os K' (frm L) H0 D H
  | [], L, H0, D, H, h => hk L H h
  | o :: os, L, H0, D, H, h => by
    have run : ∀ L D H, (drawStF P o L H0 D H fun L' D' H' => wpDrawF P os K L' H0 D' H') → drawSt P o (frm L) H0 D H fun s' D' H' => wpDraw P os K' s' H0 D' H' :=
      fun L D H h => drawStF_of (fun L D H q => wpDrawF_of hk os L H0 D H q) h
    simp only [wpDrawF_cons, drawCons] at h
    simp only [wpDraw]
    split at h
    · rename_i hg
      rw [hg]
      exact run L D H h
    · rename_i g want hg
      rw [hg]
      simp only
      split at h
      · rename_i q hq
        refine .inl ⟨q, hq, fun e => ?_, fun e => ?_⟩
        · subst e
          replace h := h.out
          rw [← frm_same hq]
          cases q <;> exact run _ D H h
        · replace h := h.out
          rw [← frm_same hq, ← frm_put]
          cases q <;> cases want <;> simp at e <;> exact wpDrawF_of hk os _ H0 D H h
      · rename_i hq
        refine .inr ⟨hq, ?_⟩
        rw [← frm_put]
        exact wpDrawF_of hk os _ H0 D H h
      · exact h.elim

/-- What is left, over lists, is left over frames. -/
def QF (Q : Exit → FL → AH → Prop) : Exit → Fr → AH → Prop := fun e s H => ∃ L, SubFr (frm L) s ∧ Q e L H

theorem SubFr.refl (s : Fr) : SubFr s s := fun _ _ h => h

theorem WeakF.of {J : FL → AH → Prop} {L : FL} {H : AH} (h : WeakF J L H) : Weak (fun s H => ∃ L, s = frm L ∧ J L H) (frm L) H :=
  let ⟨M, Hk, h1, h2, h3⟩ := h
  ⟨frm M, Hk, coversZ_sub M L h1, h2, M, rfl, h3⟩

theorem wpA_mono : ∀ (c : C) (lb : Option Nat) (Q Q' : Exit → Fr → AH → Prop) (s : Fr) (H : AH), (∀ e s H, Q e s H → Q' e s H) → wpA P c lb Q s H → wpA P c lb Q' s H := by
  have callA_mono : ∀ f args H (K K' : AV → AH → Prop), (∀ r H, K r H → K' r H) → callA P f args H K → callA P f args H K' := by
    rintro f args H K K' hk ⟨a', Hc, h1, h2, h3⟩
    refine ⟨a', Hc, h1, h2, ?_⟩
    rcases h3 with h3 | h3
    · exact .inl (h3.mono hk)
    · exact .inr (h3.mono fun r H q => ⟨q.1, hk _ _ q.2⟩)
  have ops : ∀ (os : List COp) (K K' : Fr → AH → Prop), (∀ s H, K s H → K' s H) → ∀ s H, wpOps P os K s H → wpOps P os K' s H := by
    intro os K K' hk
    have app : ∀ rs d s H (K K' : Fr → AH → Prop), (∀ s H, K s H → K' s H) → applyRs P rs d s H K → applyRs P rs d s H K' := by
      intro rs d s H K K' hk h
      cases rs with
      | val v => exact hk _ _ h
      | upd H' => exact hk _ _ h
      | valH v H' => exact hk _ _ h
      | fresh T blk vf H' => exact fun id hid ht => hk _ _ (h id hid ht)
      | call f args => exact callA_mono f args H _ _ (fun r H q => hk _ _ q) h
    induction os with
    | nil => exact fun s H h => hk _ _ h
    | cons o os ih =>
      intro s H h
      simp only [wpOps, OA_iff] at h ⊢
      split at h
      · rename_i hg
        obtain ⟨rs, h1, h2⟩ := h
        exact ⟨rs, h1, app rs _ s H _ _ ih h2⟩
      · rename_i g want hg
        rcases h with ⟨q, h1, h2, h3⟩ | ⟨h1, h3⟩
        · exact .inl ⟨q, h1, fun e => let ⟨rs, h4, h5⟩ := h2 e; ⟨rs, h4, app rs _ s H _ _ ih h5⟩, fun e => ih _ _ (h3 e)⟩
        · exact .inr ⟨h1, ih _ _ h3⟩
  have draw : ∀ (os : List COp) (K K' : Fr → AH → Prop), (∀ s H, K s H → K' s H) → ∀ s H0 D H, wpDraw P os K s H0 D H → wpDraw P os K' s H0 D H := by
    intro os K K' hk
    have app : ∀ o s H0 D H (k k' : Fr → AH → AH → Prop), (∀ s D H, k s D H → k' s D H) → drawSt P o s H0 D H k → drawSt P o s H0 D H k' := by
      intro o s H0 D H k k' hk h
      rcases h with h | ⟨id, b, H', b', h1, h2, h3, h4⟩
      · refine .inl ?_
        simp only [OA_iff] at h ⊢
        obtain ⟨rs, h1, h2⟩ := h
        refine ⟨rs, h1, ?_⟩
        cases rs with
        | val v => exact hk _ _ _ h2
        | upd H' => exact h2
        | valH v H' => exact h2.elim
        | fresh T blk v H' => exact ⟨h2.1, fun id hid ht => hk _ _ _ (h2.2 id hid ht)⟩
        | call f args => obtain ⟨r, h1, h2⟩ := h2; exact ⟨r, h1, hk _ _ _ h2⟩
      · exact .inr ⟨id, b, H', b', h1, h2, h3, hk _ _ _ h4⟩
    induction os with
    | nil => exact fun s H0 D H h => hk _ _ h
    | cons o os ih =>
      intro s H0 D H h
      simp only [wpDraw] at h ⊢
      split at h
      · exact app _ s H0 D H _ _ (fun s D H q => ih s H0 D H q) h
      · rename_i g want hg
        rcases h with ⟨q, h1, h2, h3⟩ | ⟨h1, h3⟩
        · exact .inl ⟨q, h1, fun e => app _ s H0 D H _ _ (fun s D H q => ih s H0 D H q) (h2 e), fun e => ih _ _ _ _ (h3 e)⟩
        · exact .inr ⟨h1, ih _ _ _ _ h3⟩
  have then_ : ∀ (K K' : Fr → AH → Prop) (Q Q' : Exit → Fr → AH → Prop), (∀ s H, K s H → K' s H) → (∀ e s H, Q e s H → Q' e s H) → ∀ e s H, thenA K Q e s H → thenA K' Q' e s H := by
    intro K K' Q Q' hk hq e s H h
    cases e with
    | normal => obtain ⟨s', H', h1, h2, h3⟩ := h; exact ⟨s', H', h1, h2, hk _ _ h3⟩
    | _ => exact hq _ _ _ h
  have block_ : ∀ id (Q Q' : Exit → Fr → AH → Prop), (∀ e s H, Q e s H → Q' e s H) → ∀ e s H, blockA id Q e s H → blockA id Q' e s H := by
    intro id Q Q' hq e s H h
    cases e with
    | exit id' => simp only [blockA] at h ⊢; split <;> rename_i e1 <;> simp only [e1, if_true, if_false] at h <;> exact hq _ _ _ h
    | _ => exact hq _ _ _ h
  have jump_ : ∀ l J (Q Q' : Exit → Fr → AH → Prop), (∀ e s H, Q e s H → Q' e s H) → ∀ e s H, jumpA l J Q e s H → jumpA l J Q' e s H := by
    intro l J Q Q' hq e s H h
    cases e with
    | goto l' => exact h
    | _ => exact hq _ _ _ h
  intro c
  induction c with
  | seq a b iha ihb =>
    intro lb Q Q' s H hq h
    cases lb with
    | none =>
      simp only [wpA] at h ⊢
      exact iha none _ _ s H (then_ _ _ _ _ (fun s H q => ihb none _ _ s H hq q) hq) h
    | some l =>
      simp only [wpA] at h ⊢
      split
      · rename_i e1; rw [if_pos e1] at h; exact iha _ _ _ s H (then_ _ _ _ _ (fun s H q => ihb none _ _ s H hq q) hq) h
      · rename_i e1; rw [if_neg e1] at h; exact ihb _ _ _ s H hq h
  | cond x a b iha ihb =>
    intro lb Q Q' s H hq h
    cases lb with
    | none => simp only [wpA] at h ⊢; obtain ⟨q, h1, h2, h3⟩ := h; exact ⟨q, h1, fun e => iha _ _ _ s H hq (h2 e), fun e => ihb _ _ _ s H hq (h3 e)⟩
    | some l => simp [wpA] at h
  | block id b ih =>
    intro lb Q Q' s H hq h
    cases lb with
    | none => simp only [wpA] at h ⊢; exact ih _ _ _ s H (block_ id _ _ hq) h
    | some l => simp [wpA] at h
  | loop b ih =>
    intro lb Q Q' s H hq h
    cases lb with
    | none =>
      simp only [wpA] at h ⊢
      obtain ⟨I, h1, h2⟩ := h
      exact ⟨I, h1, fun n s H hi => ih _ _ _ s H (then_ _ _ _ _ (fun _ _ q => q) hq) (h2 n s H hi)⟩
    | some l => simp [wpA] at h
  | scope b ih =>
    intro lb Q Q' s H hq h
    cases lb with
    | none =>
      simp only [wpA] at h ⊢
      obtain ⟨l, I, h1, h2⟩ := h
      exact ⟨l, I, ih _ _ _ s H (jump_ _ _ _ _ hq) h1, fun n s H hi => ih _ _ _ s H (jump_ _ _ _ _ hq) (h2 n s H hi)⟩
    | some l => simp [wpA] at h
  | reg os =>
    intro lb Q Q' s H hq h
    cases lb with
    | none => simp only [wpA] at h ⊢; exact ops os _ _ (fun s H q => hq _ _ _ q) s H h
    | some l => simp [wpA] at h
  | dreg pre post =>
    intro lb Q Q' s H hq h
    cases lb with
    | none => simp only [wpA] at h ⊢; obtain ⟨H0, D, h1, h2, h3, h4⟩ := h; exact ⟨H0, D, h1, h2, h3, draw pre _ _ (fun s H q => ops post _ _ (fun s H q => hq _ _ _ q) s H q) s H0 D H h4⟩
    | some l => simp [wpA] at h
  | label l' =>
    intro lb Q Q' s H hq h
    cases lb with
    | none => exact hq _ _ _ h
    | some l => exact ⟨h.1, hq _ _ _ h.2⟩
  | _ =>
    intro lb Q Q' s H hq h
    cases lb with
    | none => first | exact hq _ _ _ h | exact h.elim
    | some l => simp [wpA] at h

/-- What holds over lists holds over frames. 'R': a post over frames that does not ask for more than a list knows. -/
theorem wpF_of : ∀ (c : C) (lb : Option Nat) (Q : Exit → FL → AH → Prop) (Q' : Exit → Fr → AH → Prop) (L : FL) (H : AH), (∀ e L H, Q e L H → Q' e (frm L) H) → wpF P c lb Q L H → wpA P c lb Q' (frm L) H := by
  have then_ : ∀ (K : FL → AH → Prop) (K' : Fr → AH → Prop) (Q : Exit → FL → AH → Prop) (Q' : Exit → Fr → AH → Prop), (∀ L H, K L H → Weak K' (frm L) H) → (∀ e L H, Q e L H → Q' e (frm L) H) → ∀ e L H, thenF K Q e L H → thenA K' Q' e (frm L) H := by
    intro K K' Q Q' hk hq e L H h
    cases e with
    | normal => exact hk _ _ h
    | _ => exact hq _ _ _ h
  have block_ : ∀ id (Q : Exit → FL → AH → Prop) (Q' : Exit → Fr → AH → Prop), (∀ e L H, Q e L H → Q' e (frm L) H) → ∀ e L H, blockF id Q e L H → blockA id Q' e (frm L) H := by
    intro id Q Q' hq e L H h
    cases e with
    | exit id' =>
      simp only [blockF] at h
      simp only [blockA]
      split at h
      · rename_i e1; rw [if_pos (Nat.eq_of_beq_eq_true e1)]; exact hq _ _ _ h
      · rename_i e1; rw [if_neg (fun q => by rw [q, Nat.beq_refl] at e1; cases e1)]; exact hq _ _ _ h
    | _ => exact hq _ _ _ h
  have jump_ : ∀ l J J' (Q : Exit → FL → AH → Prop) (Q' : Exit → Fr → AH → Prop), (∀ L H, J L H → J' (frm L) H) → (∀ e L H, Q e L H → Q' e (frm L) H) → ∀ e L H, jumpF l J Q e L H → jumpA l J' Q' e (frm L) H := by
    intro l J J' Q Q' hj hq e L H h
    cases e with
    | goto l' => exact ⟨h.1, hj _ _ h.2⟩
    | _ => exact hq _ _ _ h
  have self : ∀ (K : Fr → AH → Prop) s H, K s H → Weak K s H := fun K s H h => ⟨s, H, (SubFr.refl s).fz, Sub.refl H, h⟩
  intro c
  induction c with
  | seq a b iha ihb =>
    intro lb Q Q' L H hq h
    cases lb with
    | none =>
      simp only [wpF_seq, fSeq] at h
      simp only [wpA]
      have plain : wpF P a none (thenF (wpF P b none Q) Q) L H → wpA P a none (thenA (wpA P b none Q') Q') (frm L) H :=
        iha none _ _ L H (then_ _ _ _ _ (fun L H q => self _ _ _ (ihb none _ _ L H hq q)) hq)
      split at h
      · rcases h with (h | ⟨J, h1, h2⟩) | ⟨M, Hk, h1, h2⟩
        · exact plain h
        · refine iha none _ _ L H (then_ _ _ _ _ (fun L' H' q => ?_) hq) h1
          obtain ⟨M, Hk, q1, q2, q3⟩ := q
          exact ⟨frm M, Hk, coversZ_sub M L' q1, q2, ihb none _ _ M Hk hq (h2 M Hk q3)⟩
        · exact iha none _ _ L H (then_ _ _ _ _ (fun L' H' q => ⟨frm M, Hk, coversZ_sub M L' q.1, q.2, ihb none _ _ M Hk hq h2⟩) hq) h1
      · exact plain h
    | some l =>
      simp only [wpF_seq, fSeq] at h
      simp only [wpA]
      split at h
      · rename_i e1; rw [if_pos e1]; exact iha _ _ _ L H (then_ _ _ _ _ (fun L H q => self _ _ _ (ihb none _ _ L H hq q)) hq) h
      · rename_i e1; rw [if_neg (by rw [e1]; simp)]; exact ihb _ _ _ L H hq h
  | cond x a b iha ihb =>
    intro lb Q Q' L H hq h
    cases lb with
    | none =>
      simp only [wpF_cond, fCond] at h
      simp only [wpA]
      obtain ⟨v, h1, h2⟩ := evX_of h
      cases v <;> try exact h2.elim
      rename_i q
      replace h2 := h2.out
      refine ⟨q, h1, fun e => ?_, fun e => ?_⟩
      · subst e; exact iha _ _ _ L H hq h2
      · subst e; exact ihb _ _ _ L H hq h2
    | some l => exact h.elim
  | block id b ih =>
    intro lb Q Q' L H hq h
    cases lb with
    | none => simp only [wpF_block, fBlock] at h; simp only [wpA]; exact ih _ _ _ L H (block_ id _ _ hq) h
    | some l => exact h.elim
  | loop b ih =>
    intro lb Q Q' L H hq h
    cases lb with
    | none =>
      simp only [wpF_loop, fLoop] at h
      simp only [wpA]
      obtain ⟨I, h1, h2⟩ := h
      refine ⟨fun n s H => ∃ L, s = frm L ∧ I n L H, ?_, fun n s H ⟨L, e, hi⟩ => ?_⟩
      · obtain ⟨s', H', q1, q2, L', e, n, q3⟩ := h1.of
        exact ⟨s', H', q1, q2, n, L', e, q3⟩
      · subst e
        refine ih _ _ _ L H (then_ _ _ _ _ (fun L' H' q => ?_) hq) (h2 n L H hi)
        obtain ⟨s', H2, q1, q2, L2, e, m, q3, q4⟩ := q.of
        exact ⟨s', H2, q1, q2, m, q3, L2, e, q4⟩
    | some l => exact h.elim
  | scope b ih =>
    intro lb Q Q' L H hq h
    cases lb with
    | none =>
      simp only [wpF_scope, fScope] at h
      simp only [wpA]
      obtain ⟨l, n0, I, h1, h2⟩ := h
      refine ⟨l, fun n s H => ∃ L, s = frm L ∧ I n L H, ?_, fun n s H ⟨L, e, hi⟩ => ?_⟩
      · refine ih _ _ _ L H (jump_ _ _ _ _ _ (fun L' H' q => ?_) hq) h1
        obtain ⟨s', H2, q1, q2, L2, e, m, _, q3⟩ := q.of
        exact ⟨s', H2, q1, q2, m, L2, e, q3⟩
      · subst e
        refine ih _ _ _ L H (jump_ _ _ _ _ _ (fun L' H' q => ?_) hq) (h2 n L H hi)
        obtain ⟨s', H2, q1, q2, L2, e, m, q3, q4⟩ := q.of
        exact ⟨s', H2, q1, q2, m, q3, L2, e, q4⟩
    | some l => exact h.elim
  | reg os =>
    intro lb Q Q' L H hq h
    cases lb with
    | none => rw [wpF_reg] at h; simp only [wpA]; exact wpOpsF_of (fun L H q => hq _ _ _ q) os L H h
    | some l => exact h.elim
  | dreg pre post =>
    intro lb Q Q' L H hq h
    cases lb with
    | none =>
      rw [wpF_dreg] at h
      simp only [wpA]
      obtain ⟨H0, D, h1, h2, h3, h4⟩ := withD_of (H := H) pre H [] (fun _ _ q => q) (fun _ _ q => by cases q) (fun _ _ q => by cases q) h
      exact ⟨H0, D, h1, h2, h3, wpDrawF_of (fun L H q => wpOpsF_of (fun L H q => hq _ _ _ q) post L H q) pre L H0 D H h4⟩
    | some l => exact h.elim
  | label l' =>
    intro lb Q Q' L H hq h
    cases lb with
    | none => exact hq _ _ _ h
    | some l => exact ⟨h.1, hq _ _ _ h.2⟩
  | _ =>
    intro lb Q Q' L H hq h
    cases lb with
    | none => first | exact hq _ _ _ h | exact h.elim
    | some l => exact h.elim

end

/-! ### Results, over lists -/
def resF1 (L : FL) (H : AH) (r : CRes) (k : AV → Prop) : Prop :=
  match r with
  | .t n => match L.get n with
    | some v => k v
    | none => False
  | .cell n sz => match L.get n with
    | some (.ptr id z i j) => ∃ l r, hget H id = some (.rows z l) ∧ l[i]? = some r ∧ oA (partA (r.drop j) 0 sz) k
    | _ => False
  | .bad => False

def resFs (L : FL) (H : AH) : List CRes → (List AV → Prop) → Prop
  | [], k => k []
  | r :: rs, k => resF1 L H r fun v => resFs L H rs fun vs => k (v :: vs)

def endF (rs : List CRes) (K : AV → AH → Prop) : Exit → FL → AH → Prop
  | .normal, L, H => resFs L H rs fun vs => match vs with | [v] => K v H | vs => K (.tup vs) H
  | .ret, L, H => resFs L H rs fun vs => match vs with | [v] => K v H | vs => K (.tup vs) H
  | _, _, _ => False

theorem resFs_of {L : FL} {H : AH} : ∀ {rs : List CRes} {k : List AV → Prop}, resFs L H rs k → ∃ vs, resL (frm L) H rs = some vs ∧ k vs
  | [], k, h => ⟨[], rfl, h⟩
  | r :: rs, k, h => by
    have one : ∃ v, resOne (frm L) H r = some v ∧ resFs L H rs fun vs => k (v :: vs) := by
      simp only [resFs] at h
      cases r with
      | t n =>
        simp only [resF1] at h
        split at h
        · rename_i v hv; exact ⟨v, hv, h⟩
        · exact h.elim
      | cell n sz =>
        simp only [resF1] at h
        split at h
        · rename_i id z i j hv
          obtain ⟨l, r, h1, h2, h3⟩ := h
          obtain ⟨v, h4, h5⟩ := oA_of h3
          refine ⟨v, ?_, h5⟩
          have : frm L n = some (.ptr id z i j) := hv
          simp only [resOne, this, Option.bind_some, readA, h1, if_true, h2, Option.map_some, h4]
        · exact h.elim
      | bad => exact h.elim
    obtain ⟨v, h1, h2⟩ := one
    obtain ⟨vs, h3, h4⟩ := resFs_of h2
    exact ⟨v :: vs, by simp only [resL, h1, h3, Option.bind_some], h4⟩

theorem endF_of {rs : List CRes} {K : AV → AH → Prop} : ∀ e L H, endF rs K e L H → endA rs K e (frm L) H := by
  have fin : ∀ L H, (resFs L H rs fun vs => match vs with | [v] => K v H | vs => K (.tup vs) H) → OA (resA (frm L) H rs) fun r => K r H := by
    intro L H h
    obtain ⟨vs, h1, h2⟩ := resFs_of h
    rw [OA_iff]
    simp only [resA, h1, Option.bind_some]
    split
    · exact ⟨_, rfl, h2⟩
    · rename_i hne
      refine ⟨_, rfl, ?_⟩
      split at h2
      · rename_i v; exact absurd rfl (hne v)
      · exact h2
  intro e L H h
  cases e with
  | normal => exact fin L H h
  | ret => exact fin L H h
  | _ => exact h.elim

/-- A function's arguments, as a list. -/
def argsL : Nat → List AV → FL
  | _, [] => []
  | n, v :: vs => (n, some v) :: argsL (n + 1) vs

theorem argsL_get : ∀ (vs : List AV) (n t : Nat), (argsL n vs).get t = if n ≤ t then vs[t - n]? else none
  | [], n, t => by simp [argsL, FL.get]
  | v :: vs, n, t => by
    rw [argsL, FL.get_cons, argsL_get vs (n + 1) t]
    by_cases h1 : t = n
    · subst h1; simp
    · rw [if_neg h1]
      by_cases h2 : n ≤ t
      · rw [if_pos (by omega), if_pos h2, show t - n = (t - (n + 1)) + 1 from by omega]
        simp
      · rw [if_neg (by omega), if_neg h2]

theorem initFr_frm (vs : List AV) : initFr vs = frm (argsL 0 vs) := by
  funext t
  simp [initFr, frm, argsL_get]

theorem wpF_start {P : Program} {c : C} {rs : List CRes} {K : AV → AH → Prop} {args : List AV} {H : AH} (h : wpF P c none (endF rs K) (argsL 0 args) H) : wpA P c none (endA rs K) (initFr args) H := by
  rw [initFr_frm]
  exact wpF_of c none _ _ _ H endF_of h

end Go.Proofs.Ytlmplofpclaokaa
