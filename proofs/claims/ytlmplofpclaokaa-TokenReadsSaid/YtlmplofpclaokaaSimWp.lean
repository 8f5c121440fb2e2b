/- The predicate transformer over abstract code. -/
import Derived.Test.YtlmplofpclaokaaSimRel
namespace Go.Proofs.Ytlmplofpclaokaa
set_option autoImplicit false

def OA {α : Type} (o : Option α) (f : α → Prop) : Prop :=
  match o with
  | some x => f x
  | none => False

theorem OA_iff {α : Type} (o : Option α) (f : α → Prop) : OA o f ↔ ∃ x, o = some x ∧ f x := by
  cases o with
  | none => simp [OA]
  | some x => simp [OA]

def AV.plain0 : AV → Bool
  | .int _ _ => true
  | .bool _ => true
  | .str _ => true
  | _ => false
def AV.plain1 : AV → Bool
  | .agg cs => cs.all AV.plain0
  | v => v.plain0
def AV.plain : AV → Bool
  | .tup vs => vs.all AV.plain1
  | v => v.plain1

/-- A call: what is owned may become what nobody writes (for good; or, where the result is plain and the function owns nothing, for the call alone). -/
def callA (P : Program) (f : Nat) (args : List AV) (H : AH) (K : AV → AH → Prop) : Prop :=
  ∃ args' Hc, Sub Hc H ∧ FzL H Hc args args' ∧ (ACalls P f args' Hc K ∨ ACalls P f args' [] fun r _ => r.plain = true ∧ K r H)

/-- A value that leads to nothing that is owned. -/
def NoId (r : AV) : Prop := ∀ (h : Array Obj) (ρ ρ' : Loc) (Z : Nat → Prop) (x : Value), Rl h ρ Z r x → Rl h ρ' Z r x

/-- A call that leaves what is owned alone, with one result. -/
def callP (P : Program) (f : Nat) (args : List AV) (H : AH) (r : AV) : Prop :=
  (NoId r ∧ ACalls P f args H (fun r' H' => r' = r ∧ H' = H)) ∨
    ∃ args' Hc, Sub Hc H ∧ FzL H Hc args args' ∧ r.plain = true ∧ ACalls P f args' [] fun r' _ => r' = r

def applyRs (P : Program) (rs : Rs) (d : Option Nat) (s : Fr) (H : AH) (K : Fr → AH → Prop) : Prop :=
  match rs with
  | .val v => K (s.put d v) H
  | .upd H' => K (s.del d) H'
  | .valH v H' => K (s.put d v) H'
  | .fresh T blk v H' => ∀ id, hget H id = none → tag id = T → K (s.put d (v id)) ((id, blk) :: H')
  | .call f args => callA P f args H fun r H' => K (s.put d r) H'

def wpOps (P : Program) : List COp → (Fr → AH → Prop) → Fr → AH → Prop
  | [], K, s, H => K s H
  | o :: os, K, s, H =>
    match o.guard with
    | none => OA (evalOp s H o.co) fun rs => applyRs P rs o.dst s H (wpOps P os K)
    | some (g, want) => (∃ q, s g = some (.bool q) ∧ (q = want → OA (evalOp s H o.co) fun rs => applyRs P rs o.dst s H (wpOps P os K)) ∧
        (q = (!want) → wpOps P os K (s.put o.dst (.tup [])) H)) ∨ (s g = some (.tup []) ∧ wpOps P os K (s.put o.dst (.tup [])) H)

/-- One operation of a region that draws its order: it looks at H0 alone. -/
def drawRs (P : Program) (rs : Rs) (d : Option Nat) (s : Fr) (H0 H : AH) (K : Fr → AH → Prop) : Prop :=
  match rs with
  | .val v => K (s.put d v) H
  | .upd _ => False
  | .valH _ _ => False
  | .fresh T blk v H' => H' = H0 ∧ ∀ id, hget H id = none → tag id = T → K (s.put d (v id)) ((id, blk) :: H)
  | .call f args => ∃ r, callP P f args H0 r ∧ K (s.put d r) H

/-- .. or it writes one block that no other one looks at. -/
def drawSt (P : Program) (o : COp) (s : Fr) (H0 D H : AH) (k : Fr → AH → AH → Prop) : Prop :=
  (OA (evalOp s H0 o.co) fun rs => drawRs P rs o.dst s H0 H fun s' H' => k s' D H') ∨
  ∃ id b H' b', hget D id = some b ∧ evalOp s [(id, b)] o.co = some (.upd H') ∧ hget H' id = some b' ∧ k (s.del o.dst) (hdel D id) (hset H id b')

/-- H0: what is looked at; D: the blocks that may be written yet, each once; H: all. -/
def wpDraw (P : Program) : List COp → (Fr → AH → Prop) → Fr → AH → AH → AH → Prop
  | [], K, s, _, _, H => K s H
  | o :: os, K, s, H0, D, H =>
    match o.guard with
    | none => drawSt P o s H0 D H fun s' D' H' => wpDraw P os K s' H0 D' H'
    | some (g, want) => (∃ q, s g = some (.bool q) ∧ (q = want → drawSt P o s H0 D H fun s' D' H' => wpDraw P os K s' H0 D' H') ∧
        (q = (!want) → wpDraw P os K (s.put o.dst (.tup [])) H0 D H)) ∨ (s g = some (.tup []) ∧ wpDraw P os K (s.put o.dst (.tup [])) H0 D H)

/-- All that the first frame knows the second one knows. -/
def SubFr (s' s : Fr) : Prop := ∀ t v, s' t = some v → s t = some v
/-- .. and may be frozen. -/
def SubFz (H Hc : AH) (s' s : Fr) : Prop := ∀ t v', s' t = some v' → ∃ v, s t = some v ∧ Fz H Hc v v'
theorem SubFr.fz {H Hc : AH} {s' s : Fr} (h : SubFr s' s) : SubFz H Hc s' s := fun t v q => ⟨v, h t v q, .refl v⟩

/-- .. with something forgotten. -/
def Weak (J : Fr → AH → Prop) (s : Fr) (H : AH) : Prop := ∃ s' H', SubFz H H' s' s ∧ Sub H' H ∧ J s' H'

def thenA (next : Fr → AH → Prop) (Q : Exit → Fr → AH → Prop) : Exit → Fr → AH → Prop
  | .normal, s, H => Weak next s H
  | e, s, H => Q e s H

def blockA (id : Nat) (Q : Exit → Fr → AH → Prop) : Exit → Fr → AH → Prop
  | .exit id', s, H => if id' = id then Q .normal s H else Q (.exit id') s H
  | e, s, H => Q e s H

def jumpA (l : Nat) (J : Fr → AH → Prop) (Q : Exit → Fr → AH → Prop) : Exit → Fr → AH → Prop
  | .goto l', s, H => l' = l ∧ J s H
  | e, s, H => Q e s H

def hasL : C → Nat → Bool
  | .seq a b, l => hasL a l || hasL b l
  | .label l', l => l' == l
  | _, _ => false

def wpA (P : Program) : C → Option Nat → (Exit → Fr → AH → Prop) → Fr → AH → Prop
  | .skip, none, Q, s, H => Q .normal s H
  | .reg ops, none, Q, s, H => wpOps P ops (Q .normal) s H
  | .dreg pre post, none, Q, s, H => ∃ H0 D, Sub H0 H ∧ Sub D H ∧ (∀ id b, hget D id = some b → hget H0 id = none) ∧ wpDraw P pre (fun s' H' => wpOps P post (Q .normal) s' H') s H0 D H
  | .seq a b, none, Q, s, H => wpA P a none (thenA (wpA P b none Q) Q) s H
  | .seq a b, some l, Q, s, H => if hasL a l = true then wpA P a (some l) (thenA (wpA P b none Q) Q) s H else wpA P b (some l) Q s H
  | .cond x a b, none, Q, s, H => ∃ q, ev s x = some (.bool q) ∧ (q = true → wpA P a none Q s H) ∧ (q = false → wpA P b none Q s H)
  | .block id b, none, Q, s, H => wpA P b none (blockA id Q) s H
  | .loop b, none, Q, s, H => ∃ I : Nat → Fr → AH → Prop, Weak (fun s' H' => ∃ n, I n s' H') s H ∧
      ∀ n s H, I n s H → wpA P b none (thenA (fun s' H' => ∃ m, m < n ∧ I m s' H') Q) s H
  | .exit id, none, Q, s, H => Q (.exit id) s H
  | .scope b, none, Q, s, H => ∃ (l : Nat) (I : Nat → Fr → AH → Prop), wpA P b none (jumpA l (Weak fun s' H' => ∃ m, I m s' H') Q) s H ∧
      ∀ n s H, I n s H → wpA P b (some l) (jumpA l (Weak fun s' H' => ∃ m, m < n ∧ I m s' H') Q) s H
  | .label _, none, Q, s, H => Q .normal s H
  | .label l', some l, Q, s, H => l' = l ∧ Q .normal s H
  | .goto l, none, Q, s, H => Q (.goto l) s H
  | .ret, none, Q, s, H => Q .ret s H
  | _, _, _, _, _ => False

/-! ### Results -/
inductive CRes where
  | t (n : Nat)
  | cell (n : Nat) (sz : Option Nat)
  | bad

def compRes (P : Program) : List ResultVar → List CRes
  | [] => []
  | .tmp t :: r => .t t :: compRes P r
  | .cell a t :: r => (match aggSize P t with | some n => CRes.cell a n | none => .bad) :: compRes P r

def resOne (s : Fr) (H : AH) : CRes → Option AV
  | .t n => s n
  | .cell n sz => (s n).bind fun v => (readA H v).bind fun cs => partA cs 0 sz
  | .bad => none

def resL (s : Fr) (H : AH) : List CRes → Option (List AV)
  | [] => some []
  | r :: rs => (resOne s H r).bind fun v => (resL s H rs).bind fun vs => some (v :: vs)

def resA (s : Fr) (H : AH) (rs : List CRes) : Option AV :=
  (resL s H rs).bind fun vs => match vs with | [v] => some v | vs => some (.tup vs)

def endA (rs : List CRes) (K : AV → AH → Prop) : Exit → Fr → AH → Prop
  | .normal, s, H => OA (resA s H rs) fun r => K r H
  | .ret, s, H => OA (resA s H rs) fun r => K r H
  | _, _, _ => False

end Go.Proofs.Ytlmplofpclaokaa
