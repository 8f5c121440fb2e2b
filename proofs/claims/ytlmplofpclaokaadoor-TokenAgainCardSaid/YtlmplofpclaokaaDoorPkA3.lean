/- Texts of this proof, one behind the other: SimFast, SimFast2, SimNil, SimAuto, SimSW, SimLoop, SimShelf. -/
import Derived.Test.YtlmplofpclaokaaDoorPkA2
import Derived.Below
/- The predicate transformer over frames that are lists: made to be reduced head first. -/
namespace Go.Proofs.YtlmplofpclaokaaDoor
set_option autoImplicit false
set_option linter.unusedSimpArgs false
set_option linter.unusedVariables false

/-- A frame as a list, the newest entry first. -/
abbrev FL := List (Nat × Option AV)

noncomputable def FL.get (L : FL) (t : Nat) : Option AV := @List.rec (Nat × Option AV) (fun _ => Option AV) none (fun p _ ih => match Nat.beq t p.1 with
    | true => p.2
    | false => ih) L

noncomputable def frm (L : FL) : Fr := fun t => L.get t

theorem FL.get_cons (d t : Nat) (x : Option AV) (L : FL) : FL.get ((d, x) :: L) t = if t = d then x else L.get t := by
  show (match Nat.beq t d with | true => x | false => L.get t) = _
  cases h : Nat.beq t d with
  | true => rw [if_pos (Nat.eq_of_beq_eq_true h)]
  | false => rw [if_neg (fun e => by rw [e, Nat.beq_refl] at h; cases h)]

theorem frm_set (L : FL) (d : Nat) (x : AV) : frm ((d, some x) :: L) = (frm L).set d x := by
  funext t; simp only [frm, FL.get_cons, Fr.set]
theorem frm_clr (L : FL) (d : Nat) : frm ((d, none) :: L) = (frm L).clr d := by
  funext t; simp only [frm, FL.get_cons, Fr.clr]

def putL (L : FL) (d : Option Nat) (x : AV) : FL := match d with | some d => (d, some x) :: L | none => L
def delL (L : FL) (d : Option Nat) : FL := match d with | some d => (d, none) :: L | none => L
/-- .. and what follows, the new frame being there. -/
def putK (L : FL) (d : Option Nat) (x : AV) (k : FL → Prop) : Prop := match d with | some d => k ((d, some x) :: L) | none => k L
def delK (L : FL) (d : Option Nat) (k : FL → Prop) : Prop := match d with | some d => k ((d, none) :: L) | none => k L
theorem putK_eq (L : FL) (d : Option Nat) (x : AV) (k : FL → Prop) : putK L d x k = k (putL L d x) := by cases d <;> rfl
theorem delK_eq (L : FL) (d : Option Nat) (k : FL → Prop) : delK L d k = k (delL L d) := by cases d <;> rfl
theorem frm_put (L : FL) (d : Option Nat) (x : AV) : frm (putL L d x) = (frm L).put d x := by cases d with | none => rfl | some d => exact frm_set L d x
theorem frm_del (L : FL) (d : Option Nat) : frm (delL L d) = (frm L).del d := by cases d with | none => rfl | some d => exact frm_clr L d

/-- All that the first frame knows the second one knows. -/
def covers : FL → FL → Prop
  | [], _ => True
  | (t, some v) :: r, L => L.get t = some v ∧ covers r L
  | (_, none) :: r, L => covers r L

theorem covers_sub : ∀ (M L : FL), covers M L → SubFr (frm M) (frm L)
  | [], L, _, t, v, h => by cases h
  | (d, some x) :: M, L, hc, t, v, h => by
    simp only [frm, FL.get_cons] at h
    split at h
    · rename_i e; simp only [Option.some.injEq] at h; rw [← h, e]; exact hc.1
    · exact covers_sub M L hc.2 t v h
  | (d, none) :: M, L, hc, t, v, h => by
    simp only [frm, FL.get_cons] at h
    split at h
    · cases h
    · exact covers_sub M L hc t v h

noncomputable def memN (t : Nat) (l : List Nat) : Bool := @List.rec Nat (fun _ => Bool) false (fun a _ ih => match Nat.beq t a with
  | true => true
  | false => ih) l
theorem memN_mem {t : Nat} : ∀ {l : List Nat}, memN t l = true → t ∈ l
  | [], h => by cases h
  | a :: l, h => by
    have h' : (match Nat.beq t a with | true => true | false => memN t l) = true := h
    split at h'
    · rename_i e; rw [Nat.eq_of_beq_eq_true e]; exact List.mem_cons_self
    · exact List.mem_cons_of_mem _ (memN_mem h')
/-- .. and may be frozen; what is shadowed is left out of account. -/
def coversS (H Hc : AH) : List Nat → FL → FL → Prop
  | _, [], _ => True
  | seen, (t, some v') :: r, L => (memN t seen = true ∨ ∃ v, L.get t = some v ∧ Fz H Hc v v') ∧ coversS H Hc (t :: seen) r L
  | seen, (t, none) :: r, L => coversS H Hc (t :: seen) r L
abbrev coversZ (H Hc : AH) (M L : FL) : Prop := coversS H Hc [] M L
theorem coversS_sub {H Hc : AH} : ∀ (M L : FL) (seen : List Nat), coversS H Hc seen M L → ∀ t v', t ∉ seen → frm M t = some v' → ∃ v, frm L t = some v ∧ Fz H Hc v v'
  | [], L, _, _, t, v, _, h => by cases h
  | (d, some x) :: M, L, seen, hc, t, v, hn, h => by
    simp only [frm, FL.get_cons] at h
    split at h
    · rename_i e
      simp only [Option.some.injEq] at h
      rw [← h, e]
      rcases hc.1 with q | q
      · exact absurd (memN_mem q) (e ▸ hn)
      · exact q
    · rename_i e
      exact coversS_sub M L _ hc.2 t v (by simp [e, hn]) h
  | (d, none) :: M, L, seen, hc, t, v, hn, h => by
    simp only [frm, FL.get_cons] at h
    split at h
    · cases h
    · rename_i e
      exact coversS_sub M L _ hc t v (by simp [e, hn]) h

theorem coversZ_sub {H Hc : AH} (M L : FL) (h : coversZ H Hc M L) : SubFz H Hc (frm M) (frm L) := fun t v q => coversS_sub M L [] h t v (by simp) q

/-! ### Operations, by what follows -/
def evX (L : FL) (x : X) (k : AV → Prop) : Prop :=
  match x with
  | .t n => match L.get n with
    | some v => k v
    | none => False
  | .c v => k v
  | .bad => False

def evXs (L : FL) : List X → (List AV → Prop) → Prop
  | [], k => k []
  | x :: xs, k => evX L x fun v => evXs L xs fun vs => k (v :: vs)

def evX3 (L : FL) : List (Nat × Nat × X) → (List (Nat × Nat × AV) → Prop) → Prop
  | [], k => k []
  | (o, z, x) :: xs, k => evX L x fun v => evX3 L xs fun vs => k ((o, z, v) :: vs)

def evX2 (L : FL) : List (Nat × X) → (List (Nat × AV) → Prop) → Prop
  | [], k => k []
  | (i, x) :: xs, k => evX L x fun v => evX2 L xs fun vs => k ((i, v) :: vs)

def evXO (L : FL) (d : Int) (x : Option X) (k : Int → Prop) : Prop :=
  match x with
  | none => k d
  | some x => evX L x fun v => match v with
    | .int _ n => k n
    | _ => False

def oA {α : Type} (o : Option α) (k : α → Prop) : Prop :=
  match o with
  | some x => k x
  | none => False

def kEq : IntKind → IntKind → Bool
  | .i8, .i8 => true
  | .i16, .i16 => true
  | .i32, .i32 => true
  | .i64, .i64 => true
  | .u8, .u8 => true
  | .u16, .u16 => true
  | .u32, .u32 => true
  | .u64, .u64 => true
  | _, _ => false
theorem kEq_eq {a b : IntKind} (h : kEq a b = true) : a = b := by cases a <;> cases b <;> first | rfl | cases h

def kG (a b : IntKind) (k : Prop) : Prop := match kEq a b with
  | true => k
  | false => False
def nG (a b : Nat) (k : Prop) : Prop := match Nat.beq a b with
  | true => k
  | false => False
theorem kG_of {a b : IntKind} {k : Prop} (h : kG a b k) : a = b ∧ k := by
  unfold kG at h
  split at h
  · rename_i e; exact ⟨kEq_eq e, h⟩
  · exact h.elim
theorem nG_of {a b : Nat} {k : Prop} (h : nG a b k) : a = b ∧ k := by
  unfold nG at h
  split at h
  · rename_i e; exact ⟨Nat.eq_of_beq_eq_true e, h⟩
  · exact h.elim

/-- A number brought into its kind's range: a place to stop. (A structure: nothing unfolds it.) -/
structure rng (w : Int) (k : Int → Prop) : Prop where
  out : k w
theorem rng_any {w : Int} {k : Int → Prop} (h : k w) : rng w k := ⟨h⟩
theorem rng_id {w n : Int} {k : Int → Prop} (e : w = n) (h : k n) : rng w k := by rw [e]; exact ⟨h⟩
theorem rng_i64 {n : Int} {k : Int → Prop} (h1 : -9223372036854775808 ≤ n) (h2 : n ≤ 9223372036854775807) (h : k n) : rng (IntKind.wrap .i64 n) k := rng_id (wrap_id h1 h2) h
theorem rng_u8 {n : Int} {k : Int → Prop} (h1 : 0 ≤ n) (h2 : n ≤ 255) (h : k n) : rng (IntKind.wrap .u8 n) k := rng_id (by simp only [IntKind.wrap, IntKind.bits, IntKind.signed, Bool.false_and, Bool.false_eq_true, if_false]; omega) h
theorem rng_u16 {n : Int} {k : Int → Prop} (h1 : 0 ≤ n) (h2 : n ≤ 65535) (h : k n) : rng (IntKind.wrap .u16 n) k := rng_id (by simp only [IntKind.wrap, IntKind.bits, IntKind.signed, Bool.false_and, Bool.false_eq_true, if_false]; omega) h
theorem rng_u32 {n : Int} {k : Int → Prop} (h1 : 0 ≤ n) (h2 : n ≤ 4294967295) (h : k n) : rng (IntKind.wrap .u32 n) k := rng_id (by simp only [IntKind.wrap, IntKind.bits, IntKind.signed, Bool.false_and, Bool.false_eq_true, if_false]; omega) h
theorem rng_u64 {n : Int} {k : Int → Prop} (h1 : 0 ≤ n) (h2 : n ≤ 18446744073709551615) (h : k n) : rng (IntKind.wrap .u64 n) k := rng_id (by simp only [IntKind.wrap, IntKind.bits, IntKind.signed, Bool.false_and, Bool.false_eq_true, if_false]; omega) h

/-- A block is written. -/
structure hsetK (H : AH) (id : Nat) (b : Blk) (k : AH → Prop) : Prop where
  out : k (hset H id b)
/-- .. what it holds being reckoned first. -/
structure hsetN (H : AH) (id : Nat) (b : Blk) (k : AH → Prop) : Prop where
  out : k (hset H id b)
theorem hsetN_of {H : AH} {id : Nat} {b b' : Blk} {k : AH → Prop} (e : b = b') (h : hsetK H id b' k) : hsetN H id b k := ⟨by rw [e]; exact h.out⟩
theorem hsetK_any {H : AH} {id : Nat} {b : Blk} {k : AH → Prop} (h : k (hset H id b)) : hsetK H id b k := ⟨h⟩
theorem hsetK_top {H : AH} {id : Nat} {b c : Blk} {k : AH → Prop} (h : k ((id, c) :: H)) : hsetK ((id, b) :: H) id c k := ⟨by rw [show hset ((id, b) :: H) id c = (id, c) :: H from by simp [hset]]; exact h⟩
theorem hsetK_down {T : AH} {i id : Nat} {b c : Blk} {k : AH → Prop} (h : i ≠ id) (h2 : hsetK T id b fun T' => k ((i, c) :: T')) : hsetK ((i, c) :: T) id b k :=
  ⟨by rw [show hset ((i, c) :: T) id b = (i, c) :: hset T id b from by simp only [hset]; rw [if_neg (fun e => h e.symm)]]; exact h2.out⟩
def opF (L : FL) (H : AH) (co : CO) (k : Rs → Prop) : Prop :=
  match co with
  | .mv x => evX L x fun v => k (.val v)
  | .pick c a b => evX L c fun v => match v with
    | .bool q => match q with
      | true => evX L a fun v => k (.val v)
      | false => evX L b fun v => k (.val v)
    | _ => False
  | .box T x => evX L x fun v => allCells v.cells = true ∧ k (.fresh T (.rows v.cells.length [v.cells]) (fun id => .ptr id v.cells.length 0 0) H)
  | .allc T zs => k (.fresh T (.rows zs.length [zs]) (fun id => .ptr id zs.length 0 0) H)
  | .load n x => evX L x fun v => match v with
    | .fp cs => oA (partA cs 0 n) fun r => k (.val r)
    | .ptr id sz i j => ∃ l r, hget H id = some (.rows sz l) ∧ l[i]? = some r ∧ oA (partA (r.drop j) 0 n) fun v => k (.val v)
    | _ => False
  | .store n x y => evX L x fun v => evX L y fun z => match v with
    | .ptr id sz i j => ∃ l r, hget H id = some (.rows sz l) ∧ l[i]? = some r ∧ z.cells.length = n ∧ allCells z.cells = true ∧ j + n ≤ r.length ∧ hsetN H id (.rows sz (l.set i (over r j z.cells))) fun H' => k (.upd H')
    | _ => False
  | .faddr off x => evX L x fun v => match v with
    | .ptr id sz i j => k (.val (.ptr id sz i (j + off)))
    | .fp cs => k (.val (.fp (cs.drop off)))
    | _ => False
  | .iaddr sz x i => evX L x fun v => evX L i fun w => match w with
    | .int _ n => match v with
      | .rows sz' l => nG sz' sz ((0 ≤ n ∧ n < l.length) ∧ k (.val (.fp (l.getD n.toNat []))))
      | .own id sz' lo hi => nG sz' sz ((0 ≤ n ∧ n < ((hi - lo : Nat) : Int)) ∧ k (.val (.ptr id sz (lo + n.toNat) 0)))
      | _ => False
    | _ => False
  | .iarr len sz x i => evX L x fun v => evX L i fun w => match w with
    | .int _ n => (0 ≤ n ∧ n < len) ∧ match v with
      | .ptr id z a j => k (.val (.ptr id z a (j + n.toNat * sz)))
      | .fp cs => k (.val (.fp (cs.drop (n.toNat * sz))))
      | _ => False
    | _ => False
  | .field off n x => evX L x fun v => match v with
    | .agg cs => oA (partA cs off n) fun r => k (.val r)
    | _ => False
  | .idx x i => evX L x fun v => evX L i fun w => match v with
    | .str l => match w with
      | .int _ n => (0 ≤ n ∧ n < l.length) ∧ k (.val (.int .u8 ((l.getD n.toNat 0).toNat : Int)))
      | _ => False
    | _ => False
  | .idxA len sz n x i => evX L x fun v => evX L i fun w => match v with
    | .agg cs => match w with
      | .int _ a => (0 ≤ a ∧ a < len) ∧ oA (partA cs (a.toNat * sz) n) fun r => k (.val r)
      | _ => False
    | _ => False
  | .bin op x y => evX L x fun a => evX L y fun b => match a with
    | .int ka m => match b with
      | .int kb n => match op with
        | .quo => kG ka kb (n ≠ 0 ∧ rng (IntKind.wrap ka (m.tdiv n)) fun z => k (.val (.int ka z)))
        | .rem => kG ka kb (n ≠ 0 ∧ k (.val (.int ka (m.tmod n))))
        | .shl => 0 ≤ n ∧ rng (IntKind.wrap ka (m * 2 ^ (min n.toNat ka.bits))) fun z => k (.val (.int ka z))
        | .shr => 0 ≤ n ∧ k (.val (.int ka (m.fdiv (2 ^ (min n.toNat ka.bits)))))
        | .add => kG ka kb (rng (IntKind.wrap ka (m + n)) fun z => k (.val (.int ka z)))
        | .sub => kG ka kb (rng (IntKind.wrap ka (m - n)) fun z => k (.val (.int ka z)))
        | .mul => kG ka kb (rng (IntKind.wrap ka (m * n)) fun z => k (.val (.int ka z)))
        | op => kG ka kb (oA (binInt op ka m n) fun r => k (.val r))
      | _ => False
    | .str p => match b with
      | .str q => match op with
        | .add => ((p.length + q.length : Nat) : Int) ≤ 9223372036854775807 ∧ k (.val (.str (p ++ q)))
        | op => oA (binStr op p q) fun r => k (.val r)
      | _ => False
    | _ => False
  | .beq neg x y => evX L x fun a => evX L y fun b => match a with
    | .bool p => match b with
      | .bool q => k (.val (.bool (match neg with | true => !(p == q) | false => (p == q))))
      | _ => False
    | _ => False
  | .ncmpS neg x => evX L x fun a => match a with
    | .nilS => k (.val (.bool (match neg with | true => false | false => true)))
    | .own _ _ _ _ => k (.val (.bool (match neg with | true => true | false => false)))
    | .rows _ l => l ≠ [] ∧ k (.val (.bool (match neg with | true => true | false => false)))
    | _ => False
  | .ncmpP neg x => evX L x fun a => oA (isNilP a) fun b => k (.val (.bool (match neg with | true => !b | false => b)))
  | .aeq neg sh x y => evX L x fun a => evX L y fun b => match a with
    | .agg xs => match b with
      | .agg ys => ∃ r, eqCells sh xs ys = some r ∧ k (.val (.bool (match neg with | true => !r | false => r)))
      | _ => False
    | _ => False
  | .un op x => evX L x fun a => oA (unV op a) fun r => k (.val r)
  | .conv kd x => evX L x fun a => match a with
    | .int _ n => rng (IntKind.wrap kd n) fun z => k (.val (.int kd z))
    | _ => False
  | .convS x => evX L x fun a => match a with
    | .str l => k (.val (.str l))
    | _ => False
  | .bytesS x => evX L x fun v => ∃ ys l, readS H false 1 v = some ys ∧ bytesA ys = some l ∧ k (.val (.str l))
  | .ext e xs => evXs L xs fun vs => oA (extA e vs) fun v => k (.val v)
  | .build zs parts => evX3 L parts fun ps => ∃ cs, overs zs ps = some cs ∧ allCells cs = true ∧ k (.val (.agg cs))
  | .bslice T sz n zs parts => evX2 L parts fun ps => ∃ l, setRows sz (List.replicate n zs) ps = some l ∧ l.all allCells = true ∧
      match n with
      | 0 => k (.fresh T (.rows sz []) (fun id => .own id sz 0 0) H)
      | _ + 1 => k (.val (.rows sz l))
  | .bsliceO T sz n zs parts => evX2 L parts fun ps => ∃ l, setRows sz (List.replicate n zs) ps = some l ∧ l.all allCells = true ∧ k (.fresh T (.rows sz l) (fun id => .own id sz 0 n) H)
  | .slice kk x lo hi => evX L x fun v => oA (lenA kk.isNone v) fun n => evXO L 0 lo fun a => evXO L n hi fun b => (0 ≤ a ∧ a ≤ b ∧ b ≤ n) ∧
      match v with
      | .str l => k (.val (.str ((l.take b.toNat).drop a.toNat)))
      | .rows sz l => kk = some sz ∧ k (.val (.rows sz ((l.take b.toNat).drop a.toNat)))
      | .nilS => k (.val .nilS)
      | .own id sz l _ => kk = some sz ∧ k (.val (.own id sz (l + a.toNat) (l + b.toNat)))
      | _ => False
  | .mks T sz bytes zs n => evX L n fun v => match v with
    | .int _ a => (0 ≤ a ∧ a * bytes ≤ 140737488355328) ∧ k (.fresh T (.rows sz (List.replicate a.toNat zs)) (fun id => .own id sz 0 a.toNat) H)
    | _ => False
  | .len str x => evX L x fun v => oA (lenA str v) fun n => k (.val (.int .i64 n))
  | .append T str sz bytes x y => evX L x fun v => evX L y fun z => match v with
    | .nilS => ∃ ys, readS H str sz z = some ys ∧ ys.length * bytes ≤ 140737488355328 ∧ (ys = [] → k (.val .nilS)) ∧ (ys ≠ [] → k (.fresh T (.rows sz ys) (fun id => .own id sz 0 ys.length) H))
    | .own id sz' lo hi => ∃ xs ys, readS H false sz (.own id sz' lo hi) = some xs ∧ readS H str sz z = some ys ∧ sz' = sz ∧ lo = 0 ∧ tag id = T ∧ (xs.length + ys.length) * bytes ≤ 140737488355328 ∧
        k (.fresh T (.rows sz (xs ++ ys)) (fun id => .own id sz 0 (xs.length + ys.length)) (hdel H id))
    | .emp => ∃ ys, readS H str sz z = some ys ∧ ys.length * bytes ≤ 140737488355328 ∧ (ys = [] → k (.val .emp)) ∧ (ys ≠ [] → k (.fresh T (.rows sz ys) (fun id => .own id sz 0 ys.length) H))
    | _ => False
  | .mm mx xs => evXs L xs fun vs => oA (mm2 mx vs) fun v => k (.val v)
  | .extr x i => evX L x fun v => match v with
    | .tup vs => oA (vs[i]?) fun r => k (.val r)
    | _ => False
  | .call f xs => evXs L xs fun vs => k (.call f vs)
  | .callv g xs => evX L g fun c => evXs L xs fun vs => match c with
    | .clo f first caps => k (.call f (first ++ vs ++ caps))
    | _ => False
  | .mkfn f first caps => evXs L first fun us => evXs L caps fun vs => k (.val (.clo f us vs))
  | .idu x => evX L x fun v => match v with
    | .nilP => k (.val .nilP)
    | .ptr id sz i j => ∃ l, hget H id = some (.rows sz l) ∧ i < l.length ∧ j < sz ∧ k (.val (.ptr id sz i j))
    | _ => False
  | .idf als x => evX L x fun v => match v with
    | .nilP => k (.val .nilP)
    | .ptr id sz i j => ∃ l, hget H id = some (.rows sz l) ∧ ∃ u, tag id = u ∧ (i = 0 ∧ 0 < l.length) ∧ als.contains (u, sz, j) = true ∧ k (.val (.ptr id sz 0 j))
    | _ => False
  | .peq neg x y => evX L x fun a => evX L y fun b => match a with
    | .ptr id sz i j => match b with
      | .ptr id' sz' i' j' => (id = id' ∧ sz = sz' ∧ i = i' ∧ j = j') ∧ k (.val (.bool (!neg)))
      | _ => False
    | _ => False
  | .sdata x => evX L x fun v => match v with
    | .nilS => k (.val .nilP)
    | .own id sz lo hi => lo < hi ∧ k (.val (.ptr id sz lo 0))
    | _ => False
  | .ustr u x n => evX L x fun v => evX L n fun w => match v with
    | .nilP => match w with
      | .int .i64 q => q = 0 ∧ k (.val (.str []))
      | _ => False
    | .ptr id sz i j => match w with
      | .int .i64 q => ∃ l b, hget H id = some (.rows 1 l) ∧ bytesA (l.take q.toNat) = some b ∧ sz = 1 ∧ i = 0 ∧ j = 0 ∧ 0 < q ∧ q ≤ l.length ∧ q ≤ 9223372036854775807 ∧ tag id = u ∧ k (.valH (.str b) (hdel H id))
      | _ => False
    | _ => False
  | .nilck x => evX L x fun v => match v with
    | .ptr _ _ _ _ => k (.val v)
    | .fp _ => k (.val v)
    | _ => False
  | .bad => False

theorem evX_of {L : FL} {x : X} {k : AV → Prop} (h : evX L x k) : ∃ v, ev (frm L) x = some v ∧ k v := by
  cases x with
  | t n =>
    simp only [evX] at h
    simp only [ev, frm]
    cases hg : L.get n with
    | none => rw [hg] at h; exact h.elim
    | some v => rw [hg] at h; exact ⟨v, rfl, h⟩
  | c v => exact ⟨v, rfl, h⟩
  | bad => exact h.elim

theorem evXs_of {L : FL} : ∀ {xs : List X} {k : List AV → Prop}, evXs L xs k → ∃ vs, evL (frm L) xs = some vs ∧ k vs
  | [], k, h => ⟨[], rfl, h⟩
  | x :: xs, k, h => by
    obtain ⟨v, h1, h2⟩ := evX_of h
    obtain ⟨vs, h3, h4⟩ := evXs_of h2
    exact ⟨v :: vs, by simp [evL, h1, h3], h4⟩

theorem evX3_of {L : FL} : ∀ {xs : List (Nat × Nat × X)} {k : List (Nat × Nat × AV) → Prop}, evX3 L xs k → ∃ vs, evParts3 (frm L) xs = some vs ∧ k vs
  | [], k, h => ⟨[], rfl, h⟩
  | (o, z, x) :: xs, k, h => by
    obtain ⟨v, h1, h2⟩ := evX_of h
    obtain ⟨vs, h3, h4⟩ := evX3_of h2
    exact ⟨(o, z, v) :: vs, by simp [evParts3, h1, h3], h4⟩

theorem evX2_of {L : FL} : ∀ {xs : List (Nat × X)} {k : List (Nat × AV) → Prop}, evX2 L xs k → ∃ vs, evParts2 (frm L) xs = some vs ∧ k vs
  | [], k, h => ⟨[], rfl, h⟩
  | (i, x) :: xs, k, h => by
    obtain ⟨v, h1, h2⟩ := evX_of h
    obtain ⟨vs, h3, h4⟩ := evX2_of h2
    exact ⟨(i, v) :: vs, by simp [evParts2, h1, h3], h4⟩

theorem evXO_of {L : FL} {d : Int} {x : Option X} {k : Int → Prop} (h : evXO L d x k) : ∃ n, evO (frm L) d x = some n ∧ k n := by
  cases x with
  | none => exact ⟨d, rfl, h⟩
  | some x =>
    obtain ⟨v, h1, h2⟩ := evX_of h
    cases v <;> try exact h2.elim
    exact ⟨_, by simp only [evO, h1, Option.bind_some], h2⟩

theorem oA_of {α : Type} {o : Option α} {k : α → Prop} (h : oA o k) : ∃ x, o = some x ∧ k x := by
  cases o with
  | none => exact h.elim
  | some x => exact ⟨x, rfl, h⟩

theorem opF_of {L : FL} {H : AH} {co : CO} {k : Rs → Prop} (h : opF L H co k) : ∃ rs, evalOp (frm L) H co = some rs ∧ k rs := by
  cases co <;> simp only [opF] at h
  case mv x =>
    obtain ⟨v, h1, h2⟩ := evX_of h
    exact ⟨_, by simp only [evalOp, h1, Option.bind_some], h2⟩
  case pick c x y =>
    obtain ⟨v, h1, h2⟩ := evX_of h
    cases v <;> try exact h2.elim
    rename_i q
    cases q with
    | true => obtain ⟨u, h3, h4⟩ := evX_of h2; exact ⟨_, by simp only [evalOp, h1, h3, Option.bind_some, if_true], h4⟩
    | false => obtain ⟨u, h3, h4⟩ := evX_of h2; exact ⟨_, by simp only [evalOp, h1, h3, Option.bind_some, Bool.false_eq_true, if_false], h4⟩
  case box T x =>
    obtain ⟨v, h1, h2⟩ := evX_of h
    exact ⟨_, by simp only [evalOp, h1, Option.bind_some, h2.1, if_true], h2.2⟩
  case allc T zs => exact ⟨_, rfl, h⟩
  case load n x =>
    obtain ⟨v, h1, h2⟩ := evX_of h
    cases v <;> try exact h2.elim
    case fp cs =>
      obtain ⟨r, h3, h4⟩ := oA_of h2
      exact ⟨_, by simp only [evalOp, h1, readA, Option.bind_some, h3], h4⟩
    case ptr id sz i j =>
      obtain ⟨l, r, h3, h4, h5⟩ := h2
      obtain ⟨u, h6, h7⟩ := oA_of h5
      exact ⟨_, by simp only [evalOp, h1, readA, Option.bind_some, h3, if_true, h4, Option.map_some, h6], h7⟩
  case store n x y =>
    obtain ⟨v, h1, h2⟩ := evX_of h
    obtain ⟨z, h3, h4⟩ := evX_of h2
    cases v <;> try exact h4.elim
    obtain ⟨l, r, h5, h6, h7, h8, h9, h10⟩ := h4
    replace h10 := h10.out
    exact ⟨_, by simp only [evalOp, h1, h3, Option.bind_some, h5, h6, h7, h8, h9, and_self, if_true], h10⟩
  case faddr off x =>
    obtain ⟨v, h1, h2⟩ := evX_of h
    cases v <;> first | exact h2.elim | exact ⟨_, by simp only [evalOp, h1, Option.bind_some], h2⟩
  case iaddr sz x i =>
    obtain ⟨v, h1, h2⟩ := evX_of h
    obtain ⟨w, h3, h4⟩ := evX_of h2
    cases w <;> try exact h4.elim
    cases v <;> try exact h4.elim
    · obtain ⟨h5, ⟨h6, h7⟩, h8⟩ := nG_of h4; exact ⟨_, by simp only [evalOp, h1, h3, Option.bind_some, h5, h6, h7, and_self, if_true], h8⟩
    · obtain ⟨h5, ⟨h6, h7⟩, h8⟩ := nG_of h4; exact ⟨_, by simp only [evalOp, h1, h3, Option.bind_some, h5, h6, h7, and_self, if_true], h8⟩
  case iarr len sz x i =>
    obtain ⟨v, h1, h2⟩ := evX_of h
    obtain ⟨w, h3, h4⟩ := evX_of h2
    cases w <;> try exact h4.elim
    cases v <;> first | exact h4.2.elim | (exact ⟨_, by simp only [evalOp, h1, h3, Option.bind_some, h4.1, and_self, if_true], h4.2⟩)
  case field off n x =>
    obtain ⟨v, h1, h2⟩ := evX_of h
    cases v <;> try exact h2.elim
    obtain ⟨r, h3, h4⟩ := oA_of h2
    exact ⟨_, by simp only [evalOp, h1, Option.bind_some, h3], h4⟩
  case idx x i =>
    obtain ⟨v, h1, h2⟩ := evX_of h
    obtain ⟨w, h3, h4⟩ := evX_of h2
    cases v <;> try exact h4.elim
    cases w <;> try exact h4.elim
    exact ⟨_, by simp only [evalOp, h1, h3, Option.bind_some, h4.1, and_self, if_true], h4.2⟩
  case idxA len sz n x i =>
    obtain ⟨v, h1, h2⟩ := evX_of h
    obtain ⟨w, h3, h4⟩ := evX_of h2
    cases v <;> try exact h4.elim
    cases w <;> try exact h4.elim
    obtain ⟨r, h5, h6⟩ := oA_of h4.2
    exact ⟨_, by simp only [evalOp, h1, h3, Option.bind_some, h4.1, and_self, if_true, h5], h6⟩
  case bin op x y =>
    obtain ⟨v, h1, h2⟩ := evX_of h
    obtain ⟨w, h3, h4⟩ := evX_of h2
    cases v <;> try exact h4.elim
    · cases w <;> try exact h4.elim
      cases op
      case quo => obtain ⟨rfl, h6, h7⟩ := kG_of h4; exact ⟨_, by simp only [evalOp, h1, h3, Option.bind_some, binV, if_true, binInt, if_pos h6], h7.out⟩
      case rem => obtain ⟨rfl, h6, h7⟩ := kG_of h4; exact ⟨_, by simp only [evalOp, h1, h3, Option.bind_some, binV, if_true, binInt, if_pos h6], h7⟩
      case shl => exact ⟨_, by simp only [evalOp, h1, h3, Option.bind_some, binV, h4.1, if_true], h4.2.out⟩
      case shr => exact ⟨_, by simp only [evalOp, h1, h3, Option.bind_some, binV, h4.1, if_true], h4.2⟩
      case add => obtain ⟨rfl, h6⟩ := kG_of h4; exact ⟨_, by simp only [evalOp, h1, h3, Option.bind_some, binV, if_true, binInt], h6.out⟩
      case sub => obtain ⟨rfl, h6⟩ := kG_of h4; exact ⟨_, by simp only [evalOp, h1, h3, Option.bind_some, binV, if_true, binInt], h6.out⟩
      case mul => obtain ⟨rfl, h6⟩ := kG_of h4; exact ⟨_, by simp only [evalOp, h1, h3, Option.bind_some, binV, if_true, binInt], h6.out⟩
      all_goals (obtain ⟨h5, h6⟩ := kG_of h4; obtain ⟨r, h7, h8⟩ := oA_of h6; exact ⟨_, by simp only [evalOp, h1, h3, Option.bind_some, binV, if_pos h5, h7], h8⟩)
    · cases w <;> try exact h4.elim
      cases op
      case add => exact ⟨_, by simp only [evalOp, h1, h3, Option.bind_some, binV, binStr, if_pos h4.1], h4.2⟩
      all_goals (obtain ⟨r, h7, h8⟩ := oA_of h4; exact ⟨_, by simp only [evalOp, h1, h3, Option.bind_some, binV, h7], h8⟩)
  case beq neg x y =>
    obtain ⟨v, h1, h2⟩ := evX_of h
    obtain ⟨w, h3, h4⟩ := evX_of h2
    cases v <;> try exact h4.elim
    cases w <;> try exact h4.elim
    cases neg <;> exact ⟨_, by simp only [evalOp, h1, h3, Option.bind_some, if_true, Bool.false_eq_true, if_false], h4⟩
  case ncmpS neg x =>
    obtain ⟨v, h1, h2⟩ := evX_of h
    cases v <;> try exact h2.elim
    · cases neg <;> exact ⟨_, by simp only [evalOp, h1, Option.bind_some, isNilS, if_pos h2.1, if_true, Bool.false_eq_true, if_false, Bool.not_false], h2.2⟩
    · cases neg <;> exact ⟨_, by simp only [evalOp, h1, Option.bind_some, isNilS, if_true, Bool.false_eq_true, if_false, Bool.not_true], h2⟩
    · cases neg <;> exact ⟨_, by simp only [evalOp, h1, Option.bind_some, isNilS, if_true, Bool.false_eq_true, if_false, Bool.not_false], h2⟩
  case ncmpP neg x =>
    obtain ⟨v, h1, h2⟩ := evX_of h
    obtain ⟨b, h3, h4⟩ := oA_of h2
    cases neg <;> exact ⟨_, by simp only [evalOp, h1, Option.bind_some, h3, if_true, Bool.false_eq_true, if_false], h4⟩
  case aeq neg sh x y =>
    obtain ⟨v, h1, h2⟩ := evX_of h
    obtain ⟨w, h3, h4⟩ := evX_of h2
    cases v <;> try exact h4.elim
    cases w <;> try exact h4.elim
    obtain ⟨r, h5, h6⟩ := h4
    cases neg <;> exact ⟨_, by simp only [evalOp, h1, h3, Option.bind_some, h5, if_true, Bool.false_eq_true, if_false], h6⟩
  case un op x =>
    obtain ⟨v, h1, h2⟩ := evX_of h
    obtain ⟨r, h3, h4⟩ := oA_of h2
    exact ⟨_, by simp only [evalOp, h1, Option.bind_some, h3], h4⟩
  case conv kd x =>
    obtain ⟨v, h1, h2⟩ := evX_of h
    cases v <;> try exact h2.elim
    exact ⟨_, by simp only [evalOp, h1, Option.bind_some], rng.out h2⟩
  case convS x =>
    obtain ⟨v, h1, h2⟩ := evX_of h
    cases v <;> try exact h2.elim
    exact ⟨_, by simp only [evalOp, h1, Option.bind_some], h2⟩
  case bytesS x =>
    obtain ⟨v, h1, ys, l, h2, h3, h4⟩ := evX_of h
    exact ⟨_, by simp only [evalOp, h1, h2, h3, Option.bind_some], h4⟩
  case ext e xs =>
    obtain ⟨vs, h1, h2⟩ := evXs_of h
    obtain ⟨r, h3, h4⟩ := oA_of h2
    exact ⟨_, by simp only [evalOp, h1, Option.bind_some, h3], h4⟩
  case build zs ps =>
    obtain ⟨vs, h1, cs, h2, h3, h4⟩ := evX3_of h
    exact ⟨_, by simp only [evalOp, h1, Option.bind_some, h2, h3, if_true], h4⟩
  case bslice T sz n zs ps =>
    obtain ⟨vs, h1, l, h2, h3, h4⟩ := evX2_of h
    cases n with
    | zero => exact ⟨_, by simp only [evalOp, h1, Option.bind_some, h2, h3, if_true], h4⟩
    | succ n => exact ⟨_, by simp only [evalOp, h1, Option.bind_some, h2, h3, if_true, Nat.add_eq_zero_iff, Nat.one_ne_zero, and_false, if_false], h4⟩
  case bsliceO T sz n zs ps =>
    obtain ⟨vs, h1, l, h2, h3, h4⟩ := evX2_of h
    exact ⟨_, by simp only [evalOp, h1, Option.bind_some, h2, h3, if_true], h4⟩
  case slice kk x lo hi =>
    obtain ⟨v, h1, h2⟩ := evX_of h
    obtain ⟨n, h3, h4⟩ := oA_of h2
    obtain ⟨p, h5, h6⟩ := evXO_of h4
    obtain ⟨q, h7, h8, h9⟩ := evXO_of h6
    cases v <;> try exact h9.elim
    · exact ⟨_, by simp only [evalOp, h1, Option.bind_some, sliceA, h3, h5, h7, if_pos h8, cutA], h9⟩
    · exact ⟨_, by simp only [evalOp, h1, Option.bind_some, sliceA, h3, h5, h7, if_pos h8, cutA, if_pos h9.1], h9.2⟩
    · exact ⟨_, by simp only [evalOp, h1, Option.bind_some, sliceA, h3, h5, h7, if_pos h8, cutA], h9⟩
    · exact ⟨_, by simp only [evalOp, h1, Option.bind_some, sliceA, h3, h5, h7, if_pos h8, cutA, if_pos h9.1], h9.2⟩
  case mks T sz bytes zs n =>
    obtain ⟨v, h1, h2⟩ := evX_of h
    cases v <;> try exact h2.elim
    exact ⟨_, by simp only [evalOp, h1, Option.bind_some, if_pos h2.1], h2.2⟩
  case len str x =>
    obtain ⟨v, h1, h2⟩ := evX_of h
    obtain ⟨n, h3, h4⟩ := oA_of h2
    exact ⟨_, by simp only [evalOp, h1, Option.bind_some, h3], h4⟩
  case append T str sz bytes x y =>
    obtain ⟨v, h1, h2⟩ := evX_of h
    obtain ⟨z, h3, h4⟩ := evX_of h2
    cases v <;> try exact h4.elim
    · obtain ⟨ys, h5, h6, h7, h8⟩ := h4
      by_cases he : ys = []
      · exact ⟨_, by simp only [evalOp, h1, h3, Option.bind_some, h5, if_pos he], h7 he⟩
      · exact ⟨_, by simp only [evalOp, h1, h3, Option.bind_some, h5, if_neg he, if_pos h6], h8 he⟩
    · obtain ⟨xs, ys, h5, h6, h7, h8, h9, h10, h11⟩ := h4
      exact ⟨_, by simp only [evalOp, h1, h3, Option.bind_some, h5, h6, if_pos (And.intro h7 (And.intro h8 (And.intro h9 h10)))], h11⟩
    · obtain ⟨ys, h5, h6, h7, h8⟩ := h4
      by_cases he : ys = []
      · exact ⟨_, by simp only [evalOp, h1, h3, Option.bind_some, h5, if_pos he], h7 he⟩
      · exact ⟨_, by simp only [evalOp, h1, h3, Option.bind_some, h5, if_neg he, if_pos h6], h8 he⟩
  case mm mx xs =>
    obtain ⟨vs, h1, h2⟩ := evXs_of h
    obtain ⟨r, h3, h4⟩ := oA_of h2
    exact ⟨_, by simp only [evalOp, h1, Option.bind_some, h3], h4⟩
  case extr x i =>
    obtain ⟨v, h1, h2⟩ := evX_of h
    cases v <;> try exact h2.elim
    obtain ⟨r, h3, h4⟩ := oA_of h2
    exact ⟨_, by simp only [evalOp, h1, Option.bind_some, h3], h4⟩
  case call f xs =>
    obtain ⟨vs, h1, h2⟩ := evXs_of h
    exact ⟨_, by simp only [evalOp, h1, Option.bind_some], h2⟩
  case callv g xs =>
    obtain ⟨c, h1, h2⟩ := evX_of h
    obtain ⟨vs, h3, h4⟩ := evXs_of h2
    cases c <;> try exact h4.elim
    exact ⟨_, by simp only [evalOp, h1, h3, Option.bind_some], h4⟩
  case mkfn f us xs =>
    obtain ⟨vs, h1, h2⟩ := evXs_of h
    obtain ⟨vs2, h3, h4⟩ := evXs_of h2
    exact ⟨_, by simp only [evalOp, h1, h3, Option.bind_some], h4⟩
  case idu x =>
    obtain ⟨v, h1, h2⟩ := evX_of h
    cases v <;> try exact h2.elim
    · obtain ⟨l, h3, h4, h5, h6⟩ := h2
      exact ⟨_, by simp [evalOp, h1, h3, h4, h5], h6⟩
    · exact ⟨_, by simp only [evalOp, h1, Option.bind_some], h2⟩
  case idf als x =>
    obtain ⟨v, h1, h2⟩ := evX_of h
    cases v <;> try exact h2.elim
    · obtain ⟨l, h3, u, h4, h5, h6, h9⟩ := h2
      subst h4
      exact ⟨_, by simp only [evalOp, h1, Option.bind_some, h3]; exact if_pos ⟨by trivial, h5.1, h5.2, h6⟩, h9⟩
    · exact ⟨_, by simp only [evalOp, h1, Option.bind_some], h2⟩
  case peq neg x y =>
    obtain ⟨v, h1, h2⟩ := evX_of h
    obtain ⟨w, h3, h4⟩ := evX_of h2
    cases v <;> try exact h4.elim
    cases w <;> try exact h4.elim
    exact ⟨_, by simp only [evalOp, h1, h3, Option.bind_some, if_pos h4.1], h4.2⟩
  case sdata x =>
    obtain ⟨v, h1, h2⟩ := evX_of h
    cases v <;> try exact h2.elim
    · exact ⟨_, by simp only [evalOp, h1, Option.bind_some], h2⟩
    · exact ⟨_, by simp only [evalOp, h1, Option.bind_some, if_pos h2.1], h2.2⟩
  case ustr u x n =>
    obtain ⟨v, h1, h2⟩ := evX_of h
    obtain ⟨w, h3, h4⟩ := evX_of h2
    cases v <;> try exact h4.elim
    · cases w <;> try exact h4.elim
      rename_i kd q
      cases kd <;> try exact h4.elim
      obtain ⟨l, b, h5, h6, h7, h8, h9, h10, h11, h12, h13, h14⟩ := h4
      exact ⟨_, by subst h8; subst h9; simp [evalOp, h1, h3, h5, h6, h7, h10, h11, h12, h13], h14⟩
    · cases w <;> try exact h4.elim
      rename_i kd q
      cases kd <;> try exact h4.elim
      exact ⟨_, by simp only [evalOp, h1, h3, Option.bind_some, if_pos h4.1], h4.2⟩
  case nilck x =>
    obtain ⟨v, h1, h2⟩ := evX_of h
    cases v <;> first | exact h2.elim | exact ⟨_, by simp only [evalOp, h1, Option.bind_some], h2⟩

end Go.Proofs.YtlmplofpclaokaaDoor

/- The predicate transformer over frames that are lists: code. -/
namespace Go.Proofs.YtlmplofpclaokaaDoor
set_option autoImplicit false
set_option linter.unusedSimpArgs false
set_option linter.unusedVariables false

/-- Both ways of a Bool, each with the Bool's own value. -/
structure bsplit (q : Bool) (k : Bool → Prop) : Prop where
  out : k q
theorem bsplit_intro {q : Bool} {k : Bool → Prop} (h1 : q = true → k true) (h2 : q = false → k false) : bsplit q k := ⟨by cases q with | true => exact h1 rfl | false => exact h2 rfl⟩
theorem bsplit_t {q : Bool} {k : Bool → Prop} (h : q = true) (h1 : k true) : bsplit q k := by rw [h]; exact ⟨h1⟩
theorem bsplit_f {q : Bool} {k : Bool → Prop} (h : q = false) (h1 : k false) : bsplit q k := by rw [h]; exact ⟨h1⟩
theorem bsplit_tt {k : Bool → Prop} (h : k true) : bsplit true k := ⟨h⟩
theorem bsplit_ff {k : Bool → Prop} (h : k false) : bsplit false k := ⟨h⟩
/-- .. of a test. -/
theorem bsplit_dec {p : Prop} [Decidable p] {k : Bool → Prop} (h1 : p → k true) (h2 : ¬ p → k false) : bsplit (decide p) k :=
  bsplit_intro (fun h => h1 (of_decide_eq_true h)) (fun h => h2 (of_decide_eq_false h))
theorem bsplit_pos {p : Prop} [Decidable p] {k : Bool → Prop} (h : p) (h1 : k true) : bsplit (decide p) k := bsplit_t (decide_eq_true h) h1
theorem bsplit_neg {p : Prop} [Decidable p] {k : Bool → Prop} (h : ¬ p) (h1 : k false) : bsplit (decide p) k := bsplit_f (decide_eq_false h) h1
theorem bsplit_not {q : Bool} {k : Bool → Prop} (h : bsplit q fun b => k (!b)) : bsplit (!q) k := ⟨h.out⟩

/-- A call: a place to stop. -/
structure callF (P : Program) (f : Nat) (args : List AV) (H : AH) (K : AV → AH → Prop) : Prop where
  out : callA P f args H K
structure callG (P : Program) (f : Nat) (args : List AV) (H0 D H : AH) (K : AV → AH → AH → Prop) : Prop where
  out : (∃ r, callP P f args H0 r ∧ K r D H) ∨ ∃ id b r b', hget D id = some b ∧ callW P f args H0 id b r b' ∧ K r (hdel D id) (hset H id b')
theorem callF_of {P : Program} {f : Nat} {args : List AV} {H : AH} {K : AV → AH → Prop} (h : ACalls P f args H K) : callF P f args H K := ⟨callA_of h⟩
theorem callF_eq {P : Program} {f : Nat} {args : List AV} {H : AH} {K : AV → AH → Prop} {r : AV} (h : ACalls P f args H fun r' H' => r' = r ∧ H' = H) (k : K r H) : callF P f args H K := ⟨callA_eq h k⟩
theorem callG_eq {P : Program} {f : Nat} {args : List AV} {H0 D H : AH} {K : AV → AH → AH → Prop} {r : AV} (hp : r.plain = true) (h : ACalls P f args H0 fun r' H' => r' = r ∧ H' = H0) (k : K r D H) : callG P f args H0 D H K := ⟨.inl ⟨r, callP_plain hp h, k⟩⟩
theorem callG_no {P : Program} {f : Nat} {args : List AV} {H0 D H : AH} {K : AV → AH → AH → Prop} {r : AV} (hp : NoId r) (h : ACalls P f args H0 fun r' H' => r' = r ∧ H' = H0) (k : K r D H) : callG P f args H0 D H K := ⟨.inl ⟨r, .inl ⟨hp, h⟩, k⟩⟩
theorem callG_w {P : Program} {f : Nat} {args : List AV} {H0 D H : AH} {K : AV → AH → AH → Prop} {id : Nat} {b b' : Blk} {r : AV} (hD : hget D id = some b) (hp : NoId r) (hb : BlkN b b') (h : ACalls P f args [(id, b)] fun r' H' => r' = r ∧ H' = [(id, b')])
    (k : K r (hdel D id) (hset H id b')) : callG P f args H0 D H K := ⟨.inr ⟨id, b, r, b', hD, ⟨hp, hb, [], (fun _ _ q => by cases q), h⟩, k⟩⟩

theorem callF_fz {P : Program} {f : Nat} {args args' : List AV} {H : AH} {K : AV → AH → Prop} {r : AV} (hf : FzL H [] args args') (hp : r.plain = true) (h : ACalls P f args' [] fun r' _ => r' = r) (k : K r H) : callF P f args H K :=
  ⟨⟨args', [], fun _ _ q => (by cases q), hf, .inr (h.mono fun r' _ e => by rw [e]; exact ⟨hp, k⟩)⟩⟩
/-- A call that is handed nothing of what is owned; what is owned is forgotten. -/
theorem callF_drop {P : Program} {f : Nat} {args : List AV} {H : AH} {K : AV → AH → Prop} (h : ACalls P f args [] K) : callF P f args H K :=
  ⟨⟨args, [], fun _ _ q => (by cases q), FzL.refl _ _ _, .inl h⟩⟩
theorem callF_plain {P : Program} {f : Nat} {args : List AV} {H : AH} {K : AV → AH → Prop} (h : ACalls P f args [] fun r' _ => r'.plain = true ∧ K r' H) : callF P f args H K :=
  ⟨⟨args, [], fun _ _ q => (by cases q), FzL.refl _ _ _, .inr h⟩⟩
theorem Rl.aggNil {h : Array Obj} {ρ : Loc} {Z : Nat → Prop} {sz : Nat} {pre post : List AV} {x : Value} (hr : Rl h ρ Z (.agg (pre ++ .nilS :: post)) x) : Rl h ρ Z (.agg (pre ++ .rows sz [] :: post)) x := by
  generalize hc : pre ++ AV.nilS :: post = cs at hr
  cases hr with
  | agg _ vs hl hcc hq =>
    subst hc
    refine .agg _ vs (by simpa using hl) (fun i v h1 => ?_) (fun i v y h1 h2 => ?_)
    · by_cases e : i = pre.length
      · subst e; simp at h1; rw [← h1]; rfl
      · refine hcc i v ?_
        rw [List.getElem?_append] at h1 ⊢
        split at h1
        · rename_i q; rw [if_pos q]; exact h1
        · rename_i q
          rw [if_neg q]
          obtain ⟨k, hk⟩ : ∃ k, i - pre.length = k + 1 := ⟨i - pre.length - 1, by omega⟩
          rw [hk] at h1 ⊢
          simpa using h1
    · by_cases e : i = pre.length
      · subst e
        have hy := hq pre.length .nilS y (by simp) h2
        simp at h1
        subst h1
        cases hy
        exact .rowsN sz
      · refine hq i v y ?_ h2
        rw [List.getElem?_append] at h1 ⊢
        split at h1
        · rename_i q; rw [if_pos q]; exact h1
        · rename_i q
          rw [if_neg q]
          obtain ⟨k, hk⟩ : ∃ k, i - pre.length = k + 1 := ⟨i - pre.length - 1, by omega⟩
          rw [hk] at h1 ⊢
          simpa using h1
theorem FzL.nil (H Hc : AH) : FzL H Hc [] [] := FzL.refl H Hc []
theorem FzL.cons {H Hc : AH} {v v' : AV} {vs vs' : List AV} (h : Fz H Hc v v') (hs : FzL H Hc vs vs') : FzL H Hc (v :: vs) (v' :: vs') := by
  refine ⟨by simp [hs.1], fun i a b h1 h2 => ?_⟩
  cases i with
  | zero => simp at h1 h2; rw [← h1, ← h2]; exact h
  | succ i => exact hs.2 i a b (by simpa using h1) (by simpa using h2)
/-- A slice that is owned, of cells that are not, as one that nobody writes. -/
theorem fz_own {H Hc : AH} {id sz lo hi : Nat} {l : List (List AV)} (hg : hget H id = some (.rows sz l)) (hd : hget Hc id = none) (h1 : lo ≤ hi) (h2 : hi ≤ l.length) (hw : ∀ (i : Nat) r, l[i]? = some r → r.length = sz) :
    Fz H Hc (.own id sz lo hi) (.rows sz ((l.take hi).drop lo)) := by
  have key : ∀ i r', ((l.take hi).drop lo)[i]? = some r' → l[lo + i]? = some r' := by
    intro i r' q
    rw [List.getElem?_drop, List.getElem?_take] at q
    split at q
    · exact q
    · cases q
  refine .own id sz lo hi l _ hg hd h2 h1 (by simp; omega) (fun i r' q => hw _ _ (key i r' q)) fun i r r' j v v' q1 q2 q3 q4 => ?_
  rw [key i r' q2] at q1
  simp only [Option.some.injEq] at q1
  subst q1
  rw [q3] at q4
  simp only [Option.some.injEq] at q4
  subst q4
  exact .refl _
/-- What is asked of fewer values is asked of these. -/
theorem ACalls.args {P : Program} {f : Nat} {args args' : List AV} {H : AH} {K : AV → AH → Prop} (h : ACalls P f args' H K) (hw : ∀ h ρ Z xs, RlL h ρ Z args xs → RlL h ρ Z args' xs) : ACalls P f args H K :=
  ⟨h.1, fun w ρ Z xs g hr => h.2 w ρ Z xs g (hw _ _ _ _ hr)⟩
theorem RlL.nilS {h : Array Obj} {ρ : Loc} {Z : Nat → Prop} {sz : Nat} {pre post : List AV} {xs : List Value} (hr : RlL h ρ Z (pre ++ .nilS :: post) xs) : RlL h ρ Z (pre ++ .rows sz [] :: post) xs := by
  refine ⟨by simpa using hr.1, fun i v x h1 h2 => ?_⟩
  by_cases e : i = pre.length
  · subst e
    have hq := hr.2 pre.length .nilS x (by simp) h2
    simp at h1
    subst h1
    cases hq
    exact .rowsN sz
  · refine hr.2 i v x ?_ h2
    rw [List.getElem?_append] at h1 ⊢
    split at h1
    · rename_i q; rw [if_pos q]; exact h1
    · rename_i q
      rw [if_neg q]
      obtain ⟨k, hk⟩ : ∃ k, i - pre.length = k + 1 := ⟨i - pre.length - 1, by omega⟩
      rw [hk] at h1 ⊢
      simpa using h1
theorem hget_ne_of {H : AH} {i j : Nat} {b : Blk} (h : hget H i = none) (h2 : hget H j = some b) : i ≠ j := fun e => by rw [e, h2] at h; cases h
theorem hget_set {H : AH} {i : Nat} {b c : Blk} (h : hget H i = some b) : hget (hset H i c) i = some c := by rw [hget_hset, if_pos rfl, h]; rfl
theorem hget_set_ne {H : AH} {i j : Nat} {c : Blk} (h : j ≠ i) : hget (hset H i c) j = hget H j := by rw [hget_hset, if_neg h]
theorem hget_del_ne {H : AH} {i j : Nat} (h : j ≠ i) : hget (hdel H i) j = hget H j := by rw [hget_hdel, if_neg h]
theorem hdel_none {H : AH} {i : Nat} (h : hget H i = none) : hdel H i = H := by
  induction H with
  | nil => rfl
  | cons p H ih =>
    obtain ⟨k, d⟩ := p
    simp only [hget] at h
    split at h
    · cases h
    · rename_i e
      simp only [hdel]
      rw [if_neg e, ih h]
theorem hdel_cons {H : AH} {i : Nat} {b : Blk} (h : hget H i = none) : hdel ((i, b) :: H) i = H := by
  simp only [hdel]; rw [if_pos trivial, hdel_none h]
theorem hget_tail {id j : Nat} {b : Blk} {H : AH} (h : j ≠ id) : hget ((j, b) :: H) id = hget H id := by simp only [hget]; rw [if_neg (fun e => h e.symm)]
theorem hset_self {id : Nat} {b c : Blk} {H : AH} : hset ((id, b) :: H) id c = (id, c) :: H := by simp [hset]
theorem hget_fresh {id j : Nat} {b : Blk} {H : AH} (h : hget ((j, b) :: H) id = none) : id ≠ j ∧ hget H id = none := by
  simp only [hget] at h
  split at h
  · cases h
  · rename_i e; exact ⟨e, h⟩
theorem hget_self {id : Nat} {b : Blk} {H : AH} : hget ((id, b) :: H) id = some b := by simp [hget]

def applyF (P : Program) (rs : Rs) (d : Option Nat) (L : FL) (H : AH) (K : FL → AH → Prop) : Prop :=
  match rs with
  | .val v => putK L d v fun L => K L H
  | .upd H' => delK L d fun L => K L H'
  | .valH v H' => putK L d v fun L => K L H'
  | .fresh T blk v H' => ∀ id, hget H id = none → tag id = T → putK L d (v id) fun L => K L ((id, blk) :: H')
  | .call f args => callF P f args H fun r H' => putK L d r fun L => K L H'

def opFp (L : FL) (H : AH) (co : CO) (k : Rs → Prop) : Prop :=
  match co with
  | .pick c a b => evX L c fun v => match v with
    | .bool q => bsplit q fun q => match q with
      | true => evX L a fun v => k (.val v)
      | false => evX L b fun v => k (.val v)
    | _ => False
  | co => opF L H co k

def opsCons (P : Program) (o : COp) (ih : (FL → AH → Prop) → FL → AH → Prop) (K : FL → AH → Prop) (L : FL) (H : AH) : Prop :=
    match o.guard with
    | none => opFp L H o.co fun rs => applyF P rs o.dst L H (ih K)
    | some (g, want) => match L.get g with
      | some (.bool q) => bsplit q fun b => match b with
        | true => match want with
          | true => opFp ((g, some (.bool true)) :: L) H o.co fun rs => applyF P rs o.dst ((g, some (.bool true)) :: L) H (ih K)
          | false => putK ((g, some (.bool true)) :: L) o.dst (.tup []) fun L => ih K L H
        | false => match want with
          | false => opFp ((g, some (.bool false)) :: L) H o.co fun rs => applyF P rs o.dst ((g, some (.bool false)) :: L) H (ih K)
          | true => putK ((g, some (.bool false)) :: L) o.dst (.tup []) fun L => ih K L H
      | some (.tup []) => putK L o.dst (.tup []) fun L => ih K L H
      | _ => False

/-- By the recursor itself, so that what is left of a reduction is what the kernel has, too. -/
noncomputable def wpOpsF (P : Program) (os : List COp) (K : FL → AH → Prop) (L : FL) (H : AH) : Prop :=
  @List.rec COp (fun _ => (FL → AH → Prop) → FL → AH → Prop) (fun K L H => K L H) (fun o _ ih => opsCons P o ih) os K L H
theorem wpOpsF_nil (P : Program) (K : FL → AH → Prop) (L : FL) (H : AH) : wpOpsF P [] K L H = K L H := rfl
theorem wpOpsF_cons (P : Program) (o : COp) (os : List COp) (K : FL → AH → Prop) (L : FL) (H : AH) : wpOpsF P (o :: os) K L H = opsCons P o (wpOpsF P os) K L H := rfl

/-- The blocks that the region made: by the slots that hold them. -/
noncomputable def slotF (F : List (Nat × Nat × Blk)) (t : Nat) : Option (Nat × Blk) := @List.rec (Nat × Nat × Blk) (fun _ => Option (Nat × Blk)) none (fun p _ ih => match Nat.beq t p.1 with
    | true => some p.2
    | false => ih) F
def addF (F : List (Nat × Nat × Blk)) (d : Option Nat) (id : Nat) (b : Blk) : List (Nat × Nat × Blk) :=
  match d with
  | some d => (d, id, b) :: F
  | none => F
abbrev FF := List (Nat × Nat × Blk)
def drawF (P : Program) (rs : Rs) (d : Option Nat) (L : FL) (H0 D : AH) (F : FF) (H : AH) (K : FL → AH → FF → AH → Prop) : Prop :=
  match rs with
  | .val v => putK L d v fun L => K L D F H
  | .upd _ => False
  | .valH _ _ => False
  | .fresh T blk v H' => H' = H0 ∧ ∀ id, hget H id = none → tag id = T → putK L d (v id) fun L => K L D (addF F d id blk) ((id, blk) :: H)
  | .call f args => callG P f args H0 D H fun r D' H' => putK L d r fun L => K L D' F H'

/-- .. or it writes one block of D, or one that the region made (the first such write ends them all). -/
noncomputable def drawStF (P : Program) (o : COp) (L : FL) (H0 D : AH) (F : FF) (H : AH) (k : FL → AH → FF → AH → Prop) : Prop :=
  match o.co with
  | .store n x y => evX L x fun v => evX L y fun z => match v with
    | .ptr id sz i j => match (match x with | .t t => slotF F t | _ => none) with
      | some p => ∃ l r, hget [p] id = some (.rows sz l) ∧ l[i]? = some r ∧ z.cells.length = n ∧ allCells z.cells = true ∧ j + n ≤ r.length ∧ hsetN H id (.rows sz (l.set i (over r j z.cells))) fun H' => delK L o.dst fun L => k L D [] H'
      | none => ∃ l r, hget D id = some (.rows sz l) ∧ l[i]? = some r ∧ z.cells.length = n ∧ allCells z.cells = true ∧ j + n ≤ r.length ∧ hsetN H id (.rows sz (l.set i (over r j z.cells))) fun H' => delK L o.dst fun L => k L (hdel D id) F H'
    | _ => False
  | co => opFp L H0 co fun rs => drawF P rs o.dst L H0 D F H k

noncomputable def drawCons (P : Program) (o : COp) (ih : (FL → AH → Prop) → FL → AH → AH → FF → AH → Prop) (K : FL → AH → Prop) (L : FL) (H0 D : AH) (F : FF) (H : AH) : Prop :=
    match o.guard with
    | none => drawStF P o L H0 D F H fun L' D' F' H' => ih K L' H0 D' F' H'
    | some (g, want) => match L.get g with
      | some (.bool q) => bsplit q fun b => match b with
        | true => match want with
          | true => drawStF P o ((g, some (.bool true)) :: L) H0 D F H fun L' D' F' H' => ih K L' H0 D' F' H'
          | false => putK ((g, some (.bool true)) :: L) o.dst (.tup []) fun L => ih K L H0 D F H
        | false => match want with
          | false => drawStF P o ((g, some (.bool false)) :: L) H0 D F H fun L' D' F' H' => ih K L' H0 D' F' H'
          | true => putK ((g, some (.bool false)) :: L) o.dst (.tup []) fun L => ih K L H0 D F H
      | some (.tup []) => putK L o.dst (.tup []) fun L => ih K L H0 D F H
      | _ => False

noncomputable def wpDrawF (P : Program) (os : List COp) (K : FL → AH → Prop) (L : FL) (H0 D : AH) (F : FF) (H : AH) : Prop :=
  @List.rec COp (fun _ => (FL → AH → Prop) → FL → AH → AH → FF → AH → Prop) (fun K L _ _ _ H => K L H) (fun o _ ih => drawCons P o ih) os K L H0 D F H

/-- The block that an operation writes, if it is known ahead of the region. -/
noncomputable def stId (L : FL) (o : COp) : Option Nat :=
  match o.co with
  | .store _ x _ => match x with
    | .t k => match L.get k with
      | some (.ptr id _ _ _) => some id
      | _ => none
    | _ => none
  | _ => none
/-- A block is set apart. -/
structure hdelK (H : AH) (id : Nat) (k : AH → Prop) : Prop where
  out : k (hdel H id)
theorem hdelK_any {H : AH} {id : Nat} {k : AH → Prop} (h : k (hdel H id)) : hdelK H id k := ⟨h⟩
theorem hdelK_top {H : AH} {id : Nat} {b : Blk} {k : AH → Prop} (hn : hget H id = none) (h : k H) : hdelK ((id, b) :: H) id k := ⟨by rw [hdel_cons hn]; exact h⟩
theorem hdelK_down {T : AH} {i id : Nat} {c : Blk} {k : AH → Prop} (h : i ≠ id) (h2 : hdelK T id fun T' => k ((i, c) :: T')) : hdelK ((i, c) :: T) id k :=
  ⟨by rw [show hdel ((i, c) :: T) id = (i, c) :: hdel T id from by simp only [hdel]; rw [if_neg (fun e => h e.symm)]]; exact h2.out⟩
/-- These blocks are set apart. -/
noncomputable def withD (L : FL) (os : List COp) (k : AH → AH → Prop) (H0 D : AH) : Prop :=
  @List.rec COp (fun _ => AH → AH → Prop) k (fun o _ ih H0 D => match stId L o with
    | some id => ∃ b, hget H0 id = some b ∧ hdelK H0 id fun H0' => ih H0' ((id, b) :: D)
    | none => ih H0 D) os H0 D
theorem withD_of {L : FL} {k : AH → AH → Prop} {H : AH} : ∀ (os : List COp) (H0 D : AH), Sub H0 H → Sub D H → (∀ id b, hget D id = some b → hget H0 id = none) → withD L os k H0 D → ∃ H0 D, Sub H0 H ∧ Sub D H ∧ (∀ id b, hget D id = some b → hget H0 id = none) ∧ k H0 D
  | [], H0, D, h1, h2, h3, h => ⟨H0, D, h1, h2, h3, h⟩
  | o :: os, H0, D, h1, h2, h3, h => by
    have h' : (match stId L o with
      | some id => ∃ b, hget H0 id = some b ∧ hdelK H0 id fun H0' => withD L os k H0' ((id, b) :: D)
      | none => withD L os k H0 D) := h
    split at h'
    · rename_i id _
      obtain ⟨b, hb, h'⟩ := h'
      replace h' := h'.out
      refine withD_of os (hdel H0 id) ((id, b) :: D) (fun j c q => ?_) (fun j c q => ?_) (fun j c q => ?_) h'
      · rw [hget_hdel] at q
        split at q
        · cases q
        · exact h1 _ _ q
      · simp only [hget] at q
        split at q
        · rename_i e; subst e; rw [← q]; exact h1 _ _ hb
        · exact h2 _ _ q
      · simp only [hget] at q
        rw [hget_hdel]
        split at q
        · rename_i e; rw [if_pos e]
        · rename_i e; rw [if_neg e]; exact h3 _ _ q
    · exact withD_of os H0 D h1 h2 h3 h'
/-- The region's blocks are chosen: by its stores alone, or by hand. -/
structure drawD (L : FL) (os : List COp) (k : AH → AH → Prop) (H : AH) : Prop where
  out : ∃ H0 D, Sub H0 H ∧ Sub D H ∧ (∀ id b, hget D id = some b → hget H0 id = none) ∧ k H0 D
theorem dAuto {L : FL} {os : List COp} {k : AH → AH → Prop} {H : AH} (h : withD L os k H []) : drawD L os k H := ⟨withD_of os H [] (fun _ _ q => q) (fun _ _ q => by cases q) (fun _ _ q => by cases q) h⟩
theorem dPick {L : FL} {os : List COp} {k : AH → AH → Prop} {H : AH} {id : Nat} {b : Blk} (hb : hget H id = some b) (h : hdelK H id fun H0 => withD L os k H0 [(id, b)]) : drawD L os k H :=
  ⟨withD_of os (hdel H id) [(id, b)] (fun j c q => by
    rw [hget_hdel] at q
    split at q
    · cases q
    · exact q) (fun j c q => by
    simp only [hget] at q
    split at q
    · rename_i e; subst e; rw [← q]; exact hb
    · cases q) (fun j c q => by
    simp only [hget] at q
    split at q
    · rename_i e; rw [hget_hdel, if_pos e]
    · cases q) h.out⟩
theorem wpDrawF_nil (P : Program) (K : FL → AH → Prop) (L : FL) (H0 D : AH) (F : FF) (H : AH) : wpDrawF P [] K L H0 D F H = K L H := rfl
theorem wpDrawF_cons (P : Program) (o : COp) (os : List COp) (K : FL → AH → Prop) (L : FL) (H0 D : AH) (F : FF) (H : AH) : wpDrawF P (o :: os) K L H0 D F H = drawCons P o (wpDrawF P os) K L H0 D F H := rfl

def thenF (next : FL → AH → Prop) (Q : Exit → FL → AH → Prop) : Exit → FL → AH → Prop
  | .normal, L, H => next L H
  | e, L, H => Q e L H

def blockF (id : Nat) (Q : Exit → FL → AH → Prop) : Exit → FL → AH → Prop
  | .exit id', L, H => match Nat.beq id' id with
    | true => Q .normal L H
    | false => Q (.exit id') L H
  | e, L, H => Q e L H

def jumpF (l : Nat) (J : FL → AH → Prop) (Q : Exit → FL → AH → Prop) : Exit → FL → AH → Prop
  | .goto l', L, H => l' = l ∧ J L H
  | e, L, H => Q e L H

/-- Do ways meet behind this code? -/
def isJoin : C → Bool
  | .cond _ _ _ => true
  | .block _ _ => true
  | .scope _ => true
  | .label _ => true
  | .seq _ b => isJoin b
  | _ => false

def WeakF (J : FL → AH → Prop) (L : FL) (H : AH) : Prop := ∃ M Hk, coversZ H Hk M L ∧ Sub Hk H ∧ J M Hk

abbrev WF := Option Nat → (Exit → FL → AH → Prop) → FL → AH → Prop

def fSeq (a : C) (jn : Bool) (iha ihb : WF) : WF
  | none, Q, L, H => match jn with
    | true => (iha none (thenF (ihb none Q) Q) L H ∨ ∃ J : FL → AH → Prop, iha none (thenF (WeakF J) Q) L H ∧ ∀ M Hk, J M Hk → ihb none Q M Hk) ∨
        ∃ M Hk, iha none (thenF (fun L' H' => coversZ H' Hk M L' ∧ Sub Hk H') Q) L H ∧ ihb none Q M Hk
    | false => iha none (thenF (ihb none Q) Q) L H
  | some l, Q, L, H => match hasL a l with
    | true => iha (some l) (thenF (ihb none Q) Q) L H
    | false => ihb (some l) Q L H
def fCond (x : X) (iha ihb : WF) : WF
  | none, Q, L, H => evX L x fun v => match v with
    | .bool q => bsplit q fun q => match q with
      | true => iha none Q L H
      | false => ihb none Q L H
    | _ => False
  | some _, _, _, _ => False
def fBlock (id : Nat) (ih : WF) : WF
  | none, Q, L, H => ih none (blockF id Q) L H
  | some _, _, _, _ => False
def fLoop (ih : WF) : WF
  | none, Q, L, H => ∃ I : Nat → FL → AH → Prop, WeakF (fun M Hk => ∃ n, I n M Hk) L H ∧
      ∀ n L H, I n L H → ih none (thenF (WeakF fun L' H' => ∃ m, m < n ∧ I m L' H') Q) L H
  | some _, _, _, _ => False
def fScope (ih : WF) : WF
  | none, Q, L, H => ∃ (l n0 : Nat) (I : Nat → FL → AH → Prop), ih none (jumpF l (WeakF fun L' H' => ∃ m, m < n0 ∧ I m L' H') Q) L H ∧
      ∀ n L H, I n L H → ih (some l) (jumpF l (WeakF fun L' H' => ∃ m, m < n ∧ I m L' H') Q) L H
  | some _, _, _, _ => False
def fEnd (e : Exit) : WF
  | none, Q, L, H => Q e L H
  | some _, _, _, _ => False
def fLabel (l' : Nat) : WF
  | none, Q, L, H => Q .normal L H
  | some l, Q, L, H => l' = l ∧ Q .normal L H
def fReg (k : (FL → AH → Prop) → FL → AH → Prop) : WF
  | none, Q, L, H => k (Q .normal) L H
  | some _, _, _, _ => False

noncomputable def wpF (P : Program) (c : C) : WF :=
  @C.rec (fun _ => WF)
    (fEnd .normal)
    (fun ops => fReg (wpOpsF P ops))
    (fun pre post => fReg fun K L H => drawD L pre (fun H0 D => wpDrawF P pre (fun L' H' => wpOpsF P post K L' H') L H0 D [] H) H)
    (fun a _ iha ihb => fSeq a (isJoin a) iha ihb)
    (fun x _ _ iha ihb => fCond x iha ihb)
    (fun id _ ih => fBlock id ih)
    (fun _ ih => fLoop ih)
    (fun id => fEnd (.exit id))
    (fun _ ih => fScope ih)
    (fun l => fLabel l)
    (fun l => fEnd (.goto l))
    (fEnd .ret)
    (fun _ _ _ _ => False) c

section
variable (P : Program) (Q : Exit → FL → AH → Prop) (L : FL) (H : AH)
theorem wpF_skip : wpF P .skip none Q L H = Q .normal L H := rfl
theorem wpF_reg (ops : List COp) : wpF P (.reg ops) none Q L H = wpOpsF P ops (Q .normal) L H := rfl
theorem wpF_dreg (pre post : List COp) : wpF P (.dreg pre post) none Q L H = drawD L pre (fun H0 D => wpDrawF P pre (fun L' H' => wpOpsF P post (Q .normal) L' H') L H0 D [] H) H := rfl
theorem wpF_seq (a b : C) (lb : Option Nat) : wpF P (.seq a b) lb Q L H = fSeq a (isJoin a) (wpF P a) (wpF P b) lb Q L H := rfl
theorem wpF_cond (x : X) (a b : C) (lb : Option Nat) : wpF P (.cond x a b) lb Q L H = fCond x (wpF P a) (wpF P b) lb Q L H := rfl
theorem wpF_block (id : Nat) (b : C) (lb : Option Nat) : wpF P (.block id b) lb Q L H = fBlock id (wpF P b) lb Q L H := rfl
theorem wpF_loop (b : C) (lb : Option Nat) : wpF P (.loop b) lb Q L H = fLoop (wpF P b) lb Q L H := rfl
theorem wpF_scope (b : C) (lb : Option Nat) : wpF P (.scope b) lb Q L H = fScope (wpF P b) lb Q L H := rfl
end

section
variable {P : Program}

theorem opFp_of {L : FL} {H : AH} {co : CO} {k : Rs → Prop} (h : opFp L H co k) : ∃ rs, evalOp (frm L) H co = some rs ∧ k rs := by
  cases co
  case pick c a b =>
    obtain ⟨v, h1, h2⟩ := evX_of h
    cases v <;> try exact h2.elim
    rename_i q
    replace h2 := h2.out
    cases q with
    | true => obtain ⟨u, h3, h4⟩ := evX_of h2; exact ⟨_, by simp only [evalOp, h1, h3, Option.bind_some, if_true], h4⟩
    | false => obtain ⟨u, h3, h4⟩ := evX_of h2; exact ⟨_, by simp only [evalOp, h1, h3, Option.bind_some, Bool.false_eq_true, if_false], h4⟩
  all_goals exact opF_of h

theorem frm_same {L : FL} {g : Nat} {v : AV} (h : L.get g = some v) : frm ((g, some v) :: L) = frm L := by
  funext t
  simp only [frm, FL.get_cons]
  split
  · rename_i e; rw [e, h]
  · rfl

theorem applyF_of {rs : Rs} {d : Option Nat} {L : FL} {H : AH} {K : FL → AH → Prop} {K' : Fr → AH → Prop} (hk : ∀ L H, K L H → K' (frm L) H) (h : applyF P rs d L H K) : applyRs P rs d (frm L) H K' := by
  cases rs with
  | val v => simp only [applyF, applyRs, putK_eq, delK_eq] at h ⊢; rw [← frm_put]; exact hk _ _ h
  | upd H' => simp only [applyF, applyRs, putK_eq, delK_eq] at h ⊢; rw [← frm_del]; exact hk _ _ h
  | valH v H' => simp only [applyF, applyRs, putK_eq, delK_eq] at h ⊢; rw [← frm_put]; exact hk _ _ h
  | fresh T blk vf H' => simp only [applyF, applyRs, putK_eq, delK_eq] at h ⊢; intro id hid ht; rw [← frm_put]; exact hk _ _ (h id hid ht)
  | call f args =>
    simp only [applyF, applyRs, putK_eq, delK_eq] at h ⊢
    obtain ⟨a', Hc, h1, h2, h3⟩ := h.out
    refine ⟨a', Hc, h1, h2, ?_⟩
    rcases h3 with h3 | h3
    · exact .inl (h3.mono fun r H' q => by rw [← frm_put]; exact hk _ _ q)
    · exact .inr (h3.mono fun r H' q => ⟨q.1, by show K' ((frm L).put d r) H; rw [← frm_put]; exact hk _ _ q.2⟩)

theorem wpOpsF_of {K : FL → AH → Prop} {K' : Fr → AH → Prop} (hk : ∀ L H, K L H → K' (frm L) H) : ∀ (os : List COp) (L : FL) (H : AH), wpOpsF P os K L H → wpOps P os K' (frm L) H
  | [], L, H, h => hk L H h
  | o :: os, L, H, h => by
    have run : ∀ L H, (opFp L H o.co fun rs => applyF P rs o.dst L H (wpOpsF P os K)) → OA (evalOp (frm L) H o.co) fun rs => applyRs P rs o.dst (frm L) H (wpOps P os K') := by
      intro L H h
      obtain ⟨rs, h1, h2⟩ := opFp_of h
      rw [h1]
      exact applyF_of (fun L H q => wpOpsF_of hk os L H q) h2
    simp only [wpOpsF_cons, opsCons, putK_eq] at h
    simp only [wpOps]
    split at h
    · rename_i hg
      rw [hg]
      exact run L H h
    · rename_i g want hg
      rw [hg]
      simp only
      split at h
      · rename_i q hq
        refine .inl ⟨q, hq, fun e => ?_, fun e => ?_⟩
        · subst e
          replace h := h.out
          rw [← frm_same hq]
          cases q <;> exact run _ H h
        · replace h := h.out
          rw [← frm_same hq, ← frm_put]
          cases q <;> cases want <;> simp at e <;> exact wpOpsF_of hk os _ H h
      · rename_i hq
        refine .inr ⟨hq, ?_⟩
        rw [← frm_put]
        exact wpOpsF_of hk os _ H h
      · exact h.elim

/-- What the slots hold is what may be written, and is owned. -/
structure OkF (Ff : FF) (F H : AH) : Prop where
  sub : ∀ t p, slotF Ff t = some p → hget F p.1 = some p.2
  own : ∀ id b, hget F id = some b → ∃ c, hget H id = some c
theorem OkF.add {Ff : FF} {F H : AH} (h : OkF Ff F H) {d : Option Nat} {id : Nat} {b : Blk} (hid : hget H id = none) : OkF (addF Ff d id b) ((id, b) :: F) ((id, b) :: H) := by
  have old : ∀ t p, slotF Ff t = some p → hget ((id, b) :: F) p.1 = some p.2 := fun t p q => by
    have := h.sub t p q
    simp only [hget]
    rw [if_neg (fun e => by obtain ⟨c, hc⟩ := h.own _ _ this; rw [e, hid] at hc; cases hc)]
    exact this
  refine ⟨fun t p q => ?_, fun id2 b2 q => ?_⟩
  · cases d with
    | none => exact old t p q
    | some d =>
      have q' : (match Nat.beq t d with | true => some (id, b) | false => slotF Ff t) = some p := q
      split at q'
      · simp only [Option.some.injEq] at q'
        subst q'
        simp [hget]
      · exact old t p q'
  · simp only [hget] at q ⊢
    split at q
    · rename_i e; rw [if_pos e]; exact ⟨_, rfl⟩
    · rename_i e; rw [if_neg e]; exact h.own _ _ q
theorem OkF.set {Ff : FF} {F H : AH} (h : OkF Ff F H) (id : Nat) (b : Blk) : OkF Ff F (hset H id b) := ⟨h.sub, fun id2 b2 q => by
  obtain ⟨c, hc⟩ := h.own _ _ q
  rw [hget_hset]
  split
  · rename_i e; rw [← e, hc]; exact ⟨_, rfl⟩
  · exact ⟨c, hc⟩⟩
theorem OkF.fin {Ff : FF} {F H : AH} (h : OkF Ff F H) (id i : Nat) (b : Blk) : OkF [] (hdel F i) (hset H id b) := ⟨fun t p q => (by cases q), fun id2 b2 q => by
  rw [hget_hdel] at q
  split at q
  · cases q
  · exact (h.set id b).own _ _ q⟩

theorem drawStF_of {o : COp} {L : FL} {H0 D : AH} {Ff : FF} {F H : AH} (hF : OkF Ff F H) {k : FL → AH → FF → AH → Prop} {k' : Fr → AH → AH → AH → Prop} (hk : ∀ L D Ff F H, OkF Ff F H → k L D Ff H → k' (frm L) D F H) (h : drawStF P o L H0 D Ff H k) : drawSt P o (frm L) H0 D F H k' := by
  have other : (opFp L H0 o.co fun rs => drawF P rs o.dst L H0 D Ff H k) → drawSt P o (frm L) H0 D F H k' := by
    intro h
    obtain ⟨rs, h1, h2⟩ := opFp_of h
    cases rs with
    | val v =>
      refine .inl ?_
      rw [h1]
      simp only [drawF, OA, drawRs, putK_eq] at h2 ⊢; rw [← frm_put]; exact hk _ _ _ _ _ hF h2
    | upd H' => exact h2.elim
    | valH v H' => exact h2.elim
    | fresh T blk vf H' =>
      refine .inl ?_
      rw [h1]
      simp only [drawF, OA, drawRs, putK_eq] at h2 ⊢; exact ⟨h2.1, fun id hid ht => by rw [← frm_put]; exact hk _ _ _ _ _ (hF.add hid) (h2.2 id hid ht)⟩
    | call f args =>
      simp only [drawF, putK_eq] at h2
      rcases h2.out with ⟨r, q1, q2⟩ | ⟨id, b, r, b', q1, q2, q3⟩
      · refine .inl ?_
        rw [h1]
        simp only [OA, drawRs]
        exact ⟨r, q1, by rw [← frm_put]; exact hk _ _ _ _ _ hF q2⟩
      · exact .inr (.inr (.inl ⟨f, args, id, b, r, b', h1, q1, q2, by rw [← frm_put]; exact hk _ _ _ _ _ (hF.set id b') q3⟩))
  simp only [drawStF, delK_eq] at h
  split at h
  · rename_i n x y hco
    obtain ⟨v, h1, h2⟩ := evX_of h
    obtain ⟨z, h3, h4⟩ := evX_of h2
    cases v <;> try exact h4.elim
    rename_i id sz i j
    simp only at h4
    split at h4
    · rename_i p hp
      cases x with
      | t t =>
        obtain ⟨l, r, q1, q2, q3, q4, q5, q6⟩ := h4
        replace q6 := q6.out
        have hp' : slotF Ff t = some p := hp
        have hg := hF.sub t p hp'
        have e : p.1 = id ∧ p.2 = .rows sz l := by
          simp only [hget] at q1
          split at q1
          · rename_i e; simp only [Option.some.injEq] at q1; exact ⟨by rw [e], q1⟩
          · cases q1
        rw [e.1, e.2] at hg
        refine .inr (.inr (.inr ⟨id, .rows sz l, hset [(id, .rows sz l)] id (.rows sz (l.set i (over r j z.cells))), .rows sz (l.set i (over r j z.cells)), t, sz, i, j, h1, ?_, hg, ?_, ?_, by rw [← frm_del]; exact hk _ _ _ _ _ (hF.fin id id _) q6⟩))
        · simp [COp.looks, hco, CO.looks, X.looks]
        · rw [hco]
          simp only [evalOp, h1, h3, Option.bind_some, hget, if_true, q2]
          simp [q3, q4, q5]
        · simp [hset, hget]
      | _ => cases hp
    · obtain ⟨l, r, q1, q2, q3, q4, q5, q6⟩ := h4
      replace q6 := q6.out
      refine .inr (.inl ⟨id, .rows sz l, hset [(id, .rows sz l)] id (.rows sz (l.set i (over r j z.cells))), .rows sz (l.set i (over r j z.cells)), q1, ?_, ?_, by rw [← frm_del]; exact hk _ _ _ _ _ (hF.set id _) q6⟩)
      · rw [hco]
        simp only [evalOp, h1, h3, Option.bind_some, hget, if_true, q2]
        simp [q3, q4, q5]
      · simp [hset, hget]
  · exact other h

theorem wpDrawF_of {K : FL → AH → Prop} {K' : Fr → AH → Prop} (hk : ∀ L H, K L H → K' (frm L) H) : ∀ (os : List COp) (L : FL) (H0 D : AH) (Ff : FF) (F H : AH), OkF Ff F H → wpDrawF P os K L H0 D Ff H → wpDraw P os K' (frm L) H0 D F H
  | [], L, H0, D, Ff, F, H, _, h => hk L H h
  | o :: os, L, H0, D, Ff, F, H, hF, h => by
    have run : ∀ L D Ff F H, OkF Ff F H → (drawStF P o L H0 D Ff H fun L' D' F' H' => wpDrawF P os K L' H0 D' F' H') → drawSt P o (frm L) H0 D F H fun s' D' F' H' => wpDraw P os K' s' H0 D' F' H' :=
      fun L D Ff F H hF h => drawStF_of hF (fun L D Ff F H hF q => wpDrawF_of hk os L H0 D Ff F H hF q) h
    simp only [wpDrawF_cons, drawCons, putK_eq] at h
    simp only [wpDraw]
    split at h
    · rename_i hg
      rw [hg]
      exact run L D Ff F H hF h
    · rename_i g want hg
      rw [hg]
      simp only
      split at h
      · rename_i q hq
        refine .inl ⟨q, hq, fun e => ?_, fun e => ?_⟩
        · subst e
          replace h := h.out
          rw [← frm_same hq]
          cases q <;> exact run _ D Ff F H hF h
        · replace h := h.out
          rw [← frm_same hq, ← frm_put]
          cases q <;> cases want <;> simp at e <;> exact wpDrawF_of hk os _ H0 D Ff F H hF h
      · rename_i hq
        refine .inr ⟨hq, ?_⟩
        rw [← frm_put]
        exact wpDrawF_of hk os _ H0 D Ff F H hF h
      · exact h.elim

/-- What is left, over lists, is left over frames. -/
def QF (Q : Exit → FL → AH → Prop) : Exit → Fr → AH → Prop := fun e s H => ∃ L, SubFr (frm L) s ∧ Q e L H

theorem SubFr.refl (s : Fr) : SubFr s s := fun _ _ h => h

theorem WeakF.of {J : FL → AH → Prop} {L : FL} {H : AH} (h : WeakF J L H) : Weak (fun s H => ∃ L, s = frm L ∧ J L H) (frm L) H :=
  let ⟨M, Hk, h1, h2, h3⟩ := h
  ⟨frm M, Hk, coversZ_sub M L h1, h2, M, rfl, h3⟩

theorem wpA_mono : ∀ (c : C) (lb : Option Nat) (Q Q' : Exit → Fr → AH → Prop) (s : Fr) (H : AH), (∀ e s H, Q e s H → Q' e s H) → wpA P c lb Q s H → wpA P c lb Q' s H := by
  have callA_mono : ∀ f args H (K K' : AV → AH → Prop), (∀ r H, K r H → K' r H) → callA P f args H K → callA P f args H K' := by
    rintro f args H K K' hk ⟨a', Hc, h1, h2, h3⟩
    refine ⟨a', Hc, h1, h2, ?_⟩
    rcases h3 with h3 | h3
    · exact .inl (h3.mono hk)
    · exact .inr (h3.mono fun r H q => ⟨q.1, hk _ _ q.2⟩)
  have ops : ∀ (os : List COp) (K K' : Fr → AH → Prop), (∀ s H, K s H → K' s H) → ∀ s H, wpOps P os K s H → wpOps P os K' s H := by
    intro os K K' hk
    have app : ∀ rs d s H (K K' : Fr → AH → Prop), (∀ s H, K s H → K' s H) → applyRs P rs d s H K → applyRs P rs d s H K' := by
      intro rs d s H K K' hk h
      cases rs with
      | val v => exact hk _ _ h
      | upd H' => exact hk _ _ h
      | valH v H' => exact hk _ _ h
      | fresh T blk vf H' => exact fun id hid ht => hk _ _ (h id hid ht)
      | call f args => exact callA_mono f args H _ _ (fun r H q => hk _ _ q) h
    induction os with
    | nil => exact fun s H h => hk _ _ h
    | cons o os ih =>
      intro s H h
      simp only [wpOps, OA_iff] at h ⊢
      split at h
      · rename_i hg
        obtain ⟨rs, h1, h2⟩ := h
        exact ⟨rs, h1, app rs _ s H _ _ ih h2⟩
      · rename_i g want hg
        rcases h with ⟨q, h1, h2, h3⟩ | ⟨h1, h3⟩
        · exact .inl ⟨q, h1, fun e => let ⟨rs, h4, h5⟩ := h2 e; ⟨rs, h4, app rs _ s H _ _ ih h5⟩, fun e => ih _ _ (h3 e)⟩
        · exact .inr ⟨h1, ih _ _ h3⟩
  have draw : ∀ (os : List COp) (K K' : Fr → AH → Prop), (∀ s H, K s H → K' s H) → ∀ s H0 D F H, wpDraw P os K s H0 D F H → wpDraw P os K' s H0 D F H := by
    intro os K K' hk
    have app : ∀ o s H0 D F H (k k' : Fr → AH → AH → AH → Prop), (∀ s D F H, k s D F H → k' s D F H) → drawSt P o s H0 D F H k → drawSt P o s H0 D F H k' := by
      intro o s H0 D F H k k' hk h
      rcases h with h | ⟨id, b, H', b', h1, h2, h3, h4⟩ | ⟨f, args, id, b, r, b', h1, h2, h3, h4⟩ | ⟨id, b, H', b', t, n, i, j, h1, h2, h3, h4, h5, h6⟩
      · refine .inl ?_
        simp only [OA_iff] at h ⊢
        obtain ⟨rs, h1, h2⟩ := h
        refine ⟨rs, h1, ?_⟩
        cases rs with
        | val v => exact hk _ _ _ _ h2
        | upd H' => exact h2
        | valH v H' => exact h2.elim
        | fresh T blk v H' => exact ⟨h2.1, fun id hid ht => hk _ _ _ _ (h2.2 id hid ht)⟩
        | call f args => obtain ⟨r, h1, h2⟩ := h2; exact ⟨r, h1, hk _ _ _ _ h2⟩
      · exact .inr (.inl ⟨id, b, H', b', h1, h2, h3, hk _ _ _ _ h4⟩)
      · exact .inr (.inr (.inl ⟨f, args, id, b, r, b', h1, h2, h3, hk _ _ _ _ h4⟩))
      · exact .inr (.inr (.inr ⟨id, b, H', b', t, n, i, j, h1, h2, h3, h4, h5, hk _ _ _ _ h6⟩))
    induction os with
    | nil => exact fun s H0 D F H h => hk _ _ h
    | cons o os ih =>
      intro s H0 D F H h
      simp only [wpDraw] at h ⊢
      split at h
      · exact app _ s H0 D F H _ _ (fun s D F H q => ih s H0 D F H q) h
      · rename_i g want hg
        rcases h with ⟨q, h1, h2, h3⟩ | ⟨h1, h3⟩
        · exact .inl ⟨q, h1, fun e => app _ s H0 D F H _ _ (fun s D F H q => ih s H0 D F H q) (h2 e), fun e => ih _ _ _ _ _ (h3 e)⟩
        · exact .inr ⟨h1, ih _ _ _ _ _ h3⟩
  have then_ : ∀ (K K' : Fr → AH → Prop) (Q Q' : Exit → Fr → AH → Prop), (∀ s H, K s H → K' s H) → (∀ e s H, Q e s H → Q' e s H) → ∀ e s H, thenA K Q e s H → thenA K' Q' e s H := by
    intro K K' Q Q' hk hq e s H h
    cases e with
    | normal => obtain ⟨s', H', h1, h2, h3⟩ := h; exact ⟨s', H', h1, h2, hk _ _ h3⟩
    | _ => exact hq _ _ _ h
  have block_ : ∀ id (Q Q' : Exit → Fr → AH → Prop), (∀ e s H, Q e s H → Q' e s H) → ∀ e s H, blockA id Q e s H → blockA id Q' e s H := by
    intro id Q Q' hq e s H h
    cases e with
    | exit id' => simp only [blockA] at h ⊢; split <;> rename_i e1 <;> simp only [e1, if_true, if_false] at h <;> exact hq _ _ _ h
    | _ => exact hq _ _ _ h
  have jump_ : ∀ l J (Q Q' : Exit → Fr → AH → Prop), (∀ e s H, Q e s H → Q' e s H) → ∀ e s H, jumpA l J Q e s H → jumpA l J Q' e s H := by
    intro l J Q Q' hq e s H h
    cases e with
    | goto l' => exact h
    | _ => exact hq _ _ _ h
  intro c
  induction c with
  | seq a b iha ihb =>
    intro lb Q Q' s H hq h
    cases lb with
    | none =>
      simp only [wpA] at h ⊢
      exact iha none _ _ s H (then_ _ _ _ _ (fun s H q => ihb none _ _ s H hq q) hq) h
    | some l =>
      simp only [wpA] at h ⊢
      split
      · rename_i e1; rw [if_pos e1] at h; exact iha _ _ _ s H (then_ _ _ _ _ (fun s H q => ihb none _ _ s H hq q) hq) h
      · rename_i e1; rw [if_neg e1] at h; exact ihb _ _ _ s H hq h
  | cond x a b iha ihb =>
    intro lb Q Q' s H hq h
    cases lb with
    | none => simp only [wpA] at h ⊢; obtain ⟨q, h1, h2, h3⟩ := h; exact ⟨q, h1, fun e => iha _ _ _ s H hq (h2 e), fun e => ihb _ _ _ s H hq (h3 e)⟩
    | some l => simp [wpA] at h
  | block id b ih =>
    intro lb Q Q' s H hq h
    cases lb with
    | none => simp only [wpA] at h ⊢; exact ih _ _ _ s H (block_ id _ _ hq) h
    | some l => simp [wpA] at h
  | loop b ih =>
    intro lb Q Q' s H hq h
    cases lb with
    | none =>
      simp only [wpA] at h ⊢
      obtain ⟨I, h1, h2⟩ := h
      exact ⟨I, h1, fun n s H hi => ih _ _ _ s H (then_ _ _ _ _ (fun _ _ q => q) hq) (h2 n s H hi)⟩
    | some l => simp [wpA] at h
  | scope b ih =>
    intro lb Q Q' s H hq h
    cases lb with
    | none =>
      simp only [wpA] at h ⊢
      obtain ⟨l, I, h1, h2⟩ := h
      exact ⟨l, I, ih _ _ _ s H (jump_ _ _ _ _ hq) h1, fun n s H hi => ih _ _ _ s H (jump_ _ _ _ _ hq) (h2 n s H hi)⟩
    | some l => simp [wpA] at h
  | reg os =>
    intro lb Q Q' s H hq h
    cases lb with
    | none => simp only [wpA] at h ⊢; exact ops os _ _ (fun s H q => hq _ _ _ q) s H h
    | some l => simp [wpA] at h
  | dreg pre post =>
    intro lb Q Q' s H hq h
    cases lb with
    | none => simp only [wpA] at h ⊢; obtain ⟨H0, D, h1, h2, h3, h4⟩ := h; exact ⟨H0, D, h1, h2, h3, draw pre _ _ (fun s H q => ops post _ _ (fun s H q => hq _ _ _ q) s H q) s H0 D [] H h4⟩
    | some l => simp [wpA] at h
  | label l' =>
    intro lb Q Q' s H hq h
    cases lb with
    | none => exact hq _ _ _ h
    | some l => exact ⟨h.1, hq _ _ _ h.2⟩
  | _ =>
    intro lb Q Q' s H hq h
    cases lb with
    | none => first | exact hq _ _ _ h | exact h.elim
    | some l => simp [wpA] at h

/-- What holds over lists holds over frames. 'R': a post over frames that does not ask for more than a list knows. -/
theorem wpF_of : ∀ (c : C) (lb : Option Nat) (Q : Exit → FL → AH → Prop) (Q' : Exit → Fr → AH → Prop) (L : FL) (H : AH), (∀ e L H, Q e L H → Q' e (frm L) H) → wpF P c lb Q L H → wpA P c lb Q' (frm L) H := by
  have then_ : ∀ (K : FL → AH → Prop) (K' : Fr → AH → Prop) (Q : Exit → FL → AH → Prop) (Q' : Exit → Fr → AH → Prop), (∀ L H, K L H → Weak K' (frm L) H) → (∀ e L H, Q e L H → Q' e (frm L) H) → ∀ e L H, thenF K Q e L H → thenA K' Q' e (frm L) H := by
    intro K K' Q Q' hk hq e L H h
    cases e with
    | normal => exact hk _ _ h
    | _ => exact hq _ _ _ h
  have block_ : ∀ id (Q : Exit → FL → AH → Prop) (Q' : Exit → Fr → AH → Prop), (∀ e L H, Q e L H → Q' e (frm L) H) → ∀ e L H, blockF id Q e L H → blockA id Q' e (frm L) H := by
    intro id Q Q' hq e L H h
    cases e with
    | exit id' =>
      simp only [blockF] at h
      simp only [blockA]
      split at h
      · rename_i e1; rw [if_pos (Nat.eq_of_beq_eq_true e1)]; exact hq _ _ _ h
      · rename_i e1; rw [if_neg (fun q => by rw [q, Nat.beq_refl] at e1; cases e1)]; exact hq _ _ _ h
    | _ => exact hq _ _ _ h
  have jump_ : ∀ l J J' (Q : Exit → FL → AH → Prop) (Q' : Exit → Fr → AH → Prop), (∀ L H, J L H → J' (frm L) H) → (∀ e L H, Q e L H → Q' e (frm L) H) → ∀ e L H, jumpF l J Q e L H → jumpA l J' Q' e (frm L) H := by
    intro l J J' Q Q' hj hq e L H h
    cases e with
    | goto l' => exact ⟨h.1, hj _ _ h.2⟩
    | _ => exact hq _ _ _ h
  have self : ∀ (K : Fr → AH → Prop) s H, K s H → Weak K s H := fun K s H h => ⟨s, H, (SubFr.refl s).fz, Sub.refl H, h⟩
  intro c
  induction c with
  | seq a b iha ihb =>
    intro lb Q Q' L H hq h
    cases lb with
    | none =>
      simp only [wpF_seq, fSeq] at h
      simp only [wpA]
      have plain : wpF P a none (thenF (wpF P b none Q) Q) L H → wpA P a none (thenA (wpA P b none Q') Q') (frm L) H :=
        iha none _ _ L H (then_ _ _ _ _ (fun L H q => self _ _ _ (ihb none _ _ L H hq q)) hq)
      split at h
      · rcases h with (h | ⟨J, h1, h2⟩) | ⟨M, Hk, h1, h2⟩
        · exact plain h
        · refine iha none _ _ L H (then_ _ _ _ _ (fun L' H' q => ?_) hq) h1
          obtain ⟨M, Hk, q1, q2, q3⟩ := q
          exact ⟨frm M, Hk, coversZ_sub M L' q1, q2, ihb none _ _ M Hk hq (h2 M Hk q3)⟩
        · exact iha none _ _ L H (then_ _ _ _ _ (fun L' H' q => ⟨frm M, Hk, coversZ_sub M L' q.1, q.2, ihb none _ _ M Hk hq h2⟩) hq) h1
      · exact plain h
    | some l =>
      simp only [wpF_seq, fSeq] at h
      simp only [wpA]
      split at h
      · rename_i e1; rw [if_pos e1]; exact iha _ _ _ L H (then_ _ _ _ _ (fun L H q => self _ _ _ (ihb none _ _ L H hq q)) hq) h
      · rename_i e1; rw [if_neg (by rw [e1]; simp)]; exact ihb _ _ _ L H hq h
  | cond x a b iha ihb =>
    intro lb Q Q' L H hq h
    cases lb with
    | none =>
      simp only [wpF_cond, fCond] at h
      simp only [wpA]
      obtain ⟨v, h1, h2⟩ := evX_of h
      cases v <;> try exact h2.elim
      rename_i q
      replace h2 := h2.out
      refine ⟨q, h1, fun e => ?_, fun e => ?_⟩
      · subst e; exact iha _ _ _ L H hq h2
      · subst e; exact ihb _ _ _ L H hq h2
    | some l => exact h.elim
  | block id b ih =>
    intro lb Q Q' L H hq h
    cases lb with
    | none => simp only [wpF_block, fBlock] at h; simp only [wpA]; exact ih _ _ _ L H (block_ id _ _ hq) h
    | some l => exact h.elim
  | loop b ih =>
    intro lb Q Q' L H hq h
    cases lb with
    | none =>
      simp only [wpF_loop, fLoop] at h
      simp only [wpA]
      obtain ⟨I, h1, h2⟩ := h
      refine ⟨fun n s H => ∃ L, s = frm L ∧ I n L H, ?_, fun n s H ⟨L, e, hi⟩ => ?_⟩
      · obtain ⟨s', H', q1, q2, L', e, n, q3⟩ := h1.of
        exact ⟨s', H', q1, q2, n, L', e, q3⟩
      · subst e
        refine ih _ _ _ L H (then_ _ _ _ _ (fun L' H' q => ?_) hq) (h2 n L H hi)
        obtain ⟨s', H2, q1, q2, L2, e, m, q3, q4⟩ := q.of
        exact ⟨s', H2, q1, q2, m, q3, L2, e, q4⟩
    | some l => exact h.elim
  | scope b ih =>
    intro lb Q Q' L H hq h
    cases lb with
    | none =>
      simp only [wpF_scope, fScope] at h
      simp only [wpA]
      obtain ⟨l, n0, I, h1, h2⟩ := h
      refine ⟨l, fun n s H => ∃ L, s = frm L ∧ I n L H, ?_, fun n s H ⟨L, e, hi⟩ => ?_⟩
      · refine ih _ _ _ L H (jump_ _ _ _ _ _ (fun L' H' q => ?_) hq) h1
        obtain ⟨s', H2, q1, q2, L2, e, m, _, q3⟩ := q.of
        exact ⟨s', H2, q1, q2, m, L2, e, q3⟩
      · subst e
        refine ih _ _ _ L H (jump_ _ _ _ _ _ (fun L' H' q => ?_) hq) (h2 n L H hi)
        obtain ⟨s', H2, q1, q2, L2, e, m, q3, q4⟩ := q.of
        exact ⟨s', H2, q1, q2, m, q3, L2, e, q4⟩
    | some l => exact h.elim
  | reg os =>
    intro lb Q Q' L H hq h
    cases lb with
    | none => rw [wpF_reg] at h; simp only [wpA]; exact wpOpsF_of (fun L H q => hq _ _ _ q) os L H h
    | some l => exact h.elim
  | dreg pre post =>
    intro lb Q Q' L H hq h
    cases lb with
    | none =>
      rw [wpF_dreg] at h
      simp only [wpA]
      obtain ⟨H0, D, h1, h2, h3, h4⟩ := h.out
      exact ⟨H0, D, h1, h2, h3, wpDrawF_of (fun L H q => wpOpsF_of (fun L H q => hq _ _ _ q) post L H q) pre L H0 D [] [] H ⟨fun t p q => by (cases q), fun id b q => by (cases q)⟩ h4⟩
    | some l => exact h.elim
  | label l' =>
    intro lb Q Q' L H hq h
    cases lb with
    | none => exact hq _ _ _ h
    | some l => exact ⟨h.1, hq _ _ _ h.2⟩
  | _ =>
    intro lb Q Q' L H hq h
    cases lb with
    | none => first | exact hq _ _ _ h | exact h.elim
    | some l => exact h.elim

end

/-! ### Results, over lists -/
def resF1 (L : FL) (H : AH) (r : CRes) (k : AV → Prop) : Prop :=
  match r with
  | .t n => match L.get n with
    | some v => k v
    | none => False
  | .cell n sz => match L.get n with
    | some (.ptr id z i j) => ∃ l r, hget H id = some (.rows z l) ∧ l[i]? = some r ∧ oA (partA (r.drop j) 0 sz) k
    | _ => False
  | .bad => False

def resFs (L : FL) (H : AH) : List CRes → (List AV → Prop) → Prop
  | [], k => k []
  | r :: rs, k => resF1 L H r fun v => resFs L H rs fun vs => k (v :: vs)

def endF (rs : List CRes) (K : AV → AH → Prop) : Exit → FL → AH → Prop
  | .normal, L, H => resFs L H rs fun vs => match vs with | [v] => K v H | vs => K (.tup vs) H
  | .ret, L, H => resFs L H rs fun vs => match vs with | [v] => K v H | vs => K (.tup vs) H
  | _, _, _ => False

theorem resFs_of {L : FL} {H : AH} : ∀ {rs : List CRes} {k : List AV → Prop}, resFs L H rs k → ∃ vs, resL (frm L) H rs = some vs ∧ k vs
  | [], k, h => ⟨[], rfl, h⟩
  | r :: rs, k, h => by
    have one : ∃ v, resOne (frm L) H r = some v ∧ resFs L H rs fun vs => k (v :: vs) := by
      simp only [resFs] at h
      cases r with
      | t n =>
        simp only [resF1] at h
        split at h
        · rename_i v hv; exact ⟨v, hv, h⟩
        · exact h.elim
      | cell n sz =>
        simp only [resF1] at h
        split at h
        · rename_i id z i j hv
          obtain ⟨l, r, h1, h2, h3⟩ := h
          obtain ⟨v, h4, h5⟩ := oA_of h3
          refine ⟨v, ?_, h5⟩
          have : frm L n = some (.ptr id z i j) := hv
          simp only [resOne, this, Option.bind_some, readA, h1, if_true, h2, Option.map_some, h4]
        · exact h.elim
      | bad => exact h.elim
    obtain ⟨v, h1, h2⟩ := one
    obtain ⟨vs, h3, h4⟩ := resFs_of h2
    exact ⟨v :: vs, by simp only [resL, h1, h3, Option.bind_some], h4⟩

theorem endF_of {rs : List CRes} {K : AV → AH → Prop} : ∀ e L H, endF rs K e L H → endA rs K e (frm L) H := by
  have fin : ∀ L H, (resFs L H rs fun vs => match vs with | [v] => K v H | vs => K (.tup vs) H) → OA (resA (frm L) H rs) fun r => K r H := by
    intro L H h
    obtain ⟨vs, h1, h2⟩ := resFs_of h
    rw [OA_iff]
    simp only [resA, h1, Option.bind_some]
    split
    · exact ⟨_, rfl, h2⟩
    · rename_i hne
      refine ⟨_, rfl, ?_⟩
      split at h2
      · rename_i v; exact absurd rfl (hne v)
      · exact h2
  intro e L H h
  cases e with
  | normal => exact fin L H h
  | ret => exact fin L H h
  | _ => exact h.elim

/-- A function's arguments, as a list. -/
def argsL : Nat → List AV → FL
  | _, [] => []
  | n, v :: vs => (n, some v) :: argsL (n + 1) vs

theorem argsL_get : ∀ (vs : List AV) (n t : Nat), (argsL n vs).get t = if n ≤ t then vs[t - n]? else none
  | [], n, t => by simp only [argsL]; rw [show FL.get [] t = none from rfl]; simp
  | v :: vs, n, t => by
    rw [argsL, FL.get_cons, argsL_get vs (n + 1) t]
    by_cases h1 : t = n
    · subst h1; simp
    · rw [if_neg h1]
      by_cases h2 : n ≤ t
      · rw [if_pos (by omega), if_pos h2, show t - n = (t - (n + 1)) + 1 from by omega]
        simp
      · rw [if_neg (by omega), if_neg h2]

theorem initFr_frm (vs : List AV) : initFr vs = frm (argsL 0 vs) := by
  funext t
  simp [initFr, frm, argsL_get]

theorem wpF_start {P : Program} {c : C} {rs : List CRes} {K : AV → AH → Prop} {args : List AV} {H : AH} (h : wpF P c none (endF rs K) (argsL 0 args) H) : wpA P c none (endA rs K) (initFr args) H := by
  rw [initFr_frm]
  exact wpF_of c none _ _ _ H endF_of h

end Go.Proofs.YtlmplofpclaokaaDoor

/- A nil slice is, where nobody asks, an empty one. -/
namespace Go.Proofs.YtlmplofpclaokaaDoor
set_option autoImplicit false
set_option linter.unusedSimpArgs false
set_option linter.unusedVariables false

/-- The same, with empty slices in the place of nil ones. -/
inductive Nw : AV → AV → Prop
  | refl (v : AV) : Nw v v
  | nil (sz : Nat) : Nw .nilS (.rows sz [])
  | agg (cs cs' : List AV) (hl : cs.length = cs'.length) (h : ∀ (i : Nat) v v', cs[i]? = some v → cs'[i]? = some v' → Nw v v') : Nw (.agg cs) (.agg cs')
  | rows (sz : Nat) (l l' : List (List AV)) (hl : l.length = l'.length) (hw : ∀ (i : Nat) r r', l[i]? = some r → l'[i]? = some r' → r.length = r'.length)
      (h : ∀ (i : Nat) r r' (j : Nat) v v', l[i]? = some r → l'[i]? = some r' → r[j]? = some v → r'[j]? = some v' → Nw v v') : Nw (.rows sz l) (.rows sz l')
  | fp (cs cs' : List AV) (hl : cs.length = cs'.length) (h : ∀ (i : Nat) v v', cs[i]? = some v → cs'[i]? = some v' → Nw v v') : Nw (.fp cs) (.fp cs')

theorem Nw.cell {v v' : AV} (h : Nw v v') : v'.isCell = v.isCell := by cases h <;> rfl

theorem Nw.rl {v v' : AV} (hn : Nw v v') : ∀ {h : Array Obj} {ρ : Loc} {Z : Nat → Prop} {x : Value}, Rl h ρ Z v x → Rl h ρ Z v' x := by
  induction hn with
  | refl v => exact fun h => h
  | nil sz => intro h ρ Z x hr; cases hr; exact .rowsN sz
  | agg cs cs' hl hp ih =>
    intro h ρ Z x hr
    cases hr with
    | agg _ vs h1 h2 h3 =>
      refine .agg cs' vs (by omega) (fun i v q => ?_) (fun i v y q1 q2 => ?_)
      · obtain ⟨a, ha⟩ := get_same hl q
        rw [(hp i a v ha q).cell]; exact h2 i a ha
      · obtain ⟨a, ha⟩ := get_same hl q1
        exact ih i a v ha q1 (h3 i a y ha q2)
  | rows sz l l' hl hw hp ih =>
    intro h ρ Z x hr
    cases hr with
    | rows _ _ b o n c f hn hnc hz hw2 hcc hm hr =>
      refine .rows sz l' b o n c f (by omega) hnc hz (fun i r q => ?_) (fun i r j v q1 q2 => ?_) (fun i r j v q1 q2 => ?_) (fun i r j v q1 q2 => ?_)
      · obtain ⟨a, ha⟩ := get_same hl q
        rw [← hw i a r ha q]; exact hw2 i a ha
      · obtain ⟨a, ha⟩ := get_same hl q1
        obtain ⟨u, hu⟩ := get_same (hw i a r ha q1) q2
        rw [(hp i a r j u v ha q1 hu q2).cell]; exact hcc i a j u ha hu
      · obtain ⟨a, ha⟩ := get_same hl q1
        obtain ⟨u, hu⟩ := get_same (hw i a r ha q1) q2
        exact hm i a j u ha hu
      · obtain ⟨a, ha⟩ := get_same hl q1
        obtain ⟨u, hu⟩ := get_same (hw i a r ha q1) q2
        exact ih i a r j u v ha q1 hu q2 (hr i a j u ha hu)
    | rowsN _ =>
      have : l' = [] := List.eq_nil_of_length_eq_zero hl.symm
      subst this; exact .rowsN sz
    | rowsE _ a c =>
      have : l' = [] := List.eq_nil_of_length_eq_zero hl.symm
      subst this; exact .rowsE sz a c
  | fp cs cs' hl hp ih =>
    intro h ρ Z x hr
    cases hr with
    | fp _ b o f hz hcc hm hr =>
      refine .fp cs' b o f (fun q => hz (by omega)) (fun i v q => ?_) (fun i v q => ?_) (fun i v q => ?_)
      · obtain ⟨a, ha⟩ := get_same hl q
        rw [(hp i a v ha q).cell]; exact hcc i a ha
      · obtain ⟨a, ha⟩ := get_same hl q
        exact hm i a ha
      · obtain ⟨a, ha⟩ := get_same hl q
        exact ih i a v ha q (hr i a ha)

theorem hset_tail {id j : Nat} {b c : Blk} {H : AH} (h : j ≠ id) : hset ((j, b) :: H) id c = (j, b) :: hset H id c := by simp only [hset]; rw [if_neg (fun e => h e.symm)]
/-- .. of lists. -/
def NwL (l l' : List AV) : Prop := l.length = l'.length ∧ ∀ (i : Nat) v v', l[i]? = some v → l'[i]? = some v' → Nw v v'
theorem NwL.refl (l : List AV) : NwL l l := ⟨rfl, fun i v v' h1 h2 => by rw [h1] at h2; cases h2; exact .refl _⟩
theorem NwL.cons {v v' : AV} {l l' : List AV} (h : Nw v v') (hs : NwL l l') : NwL (v :: l) (v' :: l') := by
  refine ⟨by simp [hs.1], fun i a b h1 h2 => ?_⟩
  cases i with
  | zero => simp at h1 h2; rw [← h1, ← h2]; exact h
  | succ i => exact hs.2 i a b (by simpa using h1) (by simpa using h2)
theorem NwL.append {a a' b b' : List AV} (h1 : NwL a a') (h2 : NwL b b') : NwL (a ++ b) (a' ++ b') := by
  refine ⟨by simp [h1.1, h2.1], fun i v v' q1 q2 => ?_⟩
  rw [List.getElem?_append] at q1 q2
  rw [← h1.1] at q2
  split at q1 <;> rename_i hlt
  · rw [if_pos hlt] at q2; exact h1.2 i v v' q1 q2
  · rw [if_neg hlt] at q2; exact h2.2 _ v v' q1 q2

theorem ACalls.nw {P : Program} {f : Nat} {args args' : List AV} {H : AH} {K : AV → AH → Prop} (h : ACalls P f args' H K) (hn : NwL args args') : ACalls P f args H K :=
  h.args fun h ρ Z xs hr => ⟨by rw [← hn.1]; exact hr.1, fun i v x q1 q2 => by
    obtain ⟨a, ha⟩ := get_same hn.1 q1
    exact (hn.2 i a v ha q1).rl (hr.2 i a x ha q2)⟩

/-- What the cells are, with empty slices in the place of nil ones. -/
def Sh.OkN : Sh → List AV → Prop
  | .int k, vs => ∃ n, vs = [.int k n] ∧ (Lit.int k n).wf = true
  | .bool, vs => ∃ b, vs = [.bool b]
  | .str, vs => ∃ l : List UInt8, vs = [.str l] ∧ l.length ≤ 140737488351232
  | .u, vs => vs = []
  | .p a b, vs => ∃ x y, vs = x ++ y ∧ a.OkN x ∧ b.OkN y
  | .slice sz bytes e, vs => ∃ l, vs = [.rows sz l] ∧ l.length * bytes ≤ 140737488351232 ∧ ∀ r ∈ l, e.OkN r
  | .ptr e, vs => vs = [.nilP] ∨ ∃ r, vs = [.fp r] ∧ e.OkN r
  | .no, _ => False

theorem Sh.Ok.nonil : ∀ {sh : Sh} {vs : List AV}, sh.Ok vs → ∃ vs', NwL vs vs' ∧ sh.OkN vs'
  | .int k, vs, h => ⟨vs, .refl _, h⟩
  | .bool, vs, h => ⟨vs, .refl _, h⟩
  | .str, vs, h => ⟨vs, .refl _, h⟩
  | .u, vs, h => ⟨vs, .refl _, h⟩
  | .p a b, vs, h => by
    obtain ⟨x, y, rfl, h1, h2⟩ := h
    obtain ⟨x', q1, q2⟩ := Sh.Ok.nonil (sh := a) h1
    obtain ⟨y', q3, q4⟩ := Sh.Ok.nonil (sh := b) h2
    exact ⟨x' ++ y', q1.append q3, x', y', rfl, q2, q4⟩
  | .slice sz bytes e, vs, h => by
    rcases h with rfl | ⟨l, rfl, hb, he⟩
    · exact ⟨[.rows sz []], .cons (.nil sz) (.refl _), [], rfl, by simp, by simp⟩
    · obtain ⟨l', q1, q2⟩ := exists_list l.length (Q := fun i r' => ∃ r, l[i]? = some r ∧ NwL r r' ∧ e.OkN r') (fun i hi => by
        obtain ⟨r', a1, a2⟩ := Sh.Ok.nonil (sh := e) (he _ (List.getElem_mem hi))
        exact ⟨r', _, List.getElem?_eq_getElem hi, a1, a2⟩)
      refine ⟨[.rows sz l'], .cons (.rows sz l l' q1.symm (fun i r r' a1 a2 => ?_) (fun i r r' j v v' a1 a2 a3 a4 => ?_)) (.refl _), l', rfl, by rw [q1]; exact hb, fun r' hr => ?_⟩
      · obtain ⟨r0, b1, b2, _⟩ := q2 i r' a2
        rw [a1] at b1; cases b1; exact b2.1
      · obtain ⟨r0, b1, b2, _⟩ := q2 i r' a2
        rw [a1] at b1; cases b1; exact b2.2 j v v' a3 a4
      · obtain ⟨i, hi⟩ := List.getElem?_of_mem hr
        obtain ⟨_, _, _, b3⟩ := q2 i r' hi
        exact b3
  | .no, vs, h => h.elim
  | .ptr e, vs, h => by
    rcases h with rfl | ⟨r, rfl, he⟩
    · exact ⟨_, .refl _, .inl rfl⟩
    · obtain ⟨r', q1, q2⟩ := Sh.Ok.nonil (sh := e) he
      exact ⟨[.fp r'], .cons (.fp r r' q1.1 q1.2) (.refl _), .inr ⟨r', rfl, q2⟩⟩

def ArgOkN (agg : Bool) (sh : Sh) (av : AV) : Prop :=
  match agg with
  | true => ∃ vs, av = .agg vs ∧ sh.OkN vs
  | false => sh.OkN [av]
theorem ArgOk.nonil {agg : Bool} {sh : Sh} {av : AV} (h : ArgOk agg sh av) : ∃ av', ArgOkN agg sh av' ∧ Nw av av' := by
  cases agg with
  | true =>
    obtain ⟨vs, rfl, h⟩ := h
    obtain ⟨vs', q1, q2⟩ := h.nonil
    exact ⟨.agg vs', ⟨vs', rfl, q2⟩, .agg vs vs' q1.1 q1.2⟩
  | false =>
    obtain ⟨vs', q1, q2⟩ := Sh.Ok.nonil (sh := sh) h
    match vs', q1, q2 with
    | [v'], q1, q2 => exact ⟨v', q2, q1.2 0 av v' rfl rfl⟩
    | [], q1, _ => have := q1.1; simp at this
    | _ :: _ :: _, q1, _ => have := q1.1; simp at this

theorem tdiv_nn {a b : Int} (h1 : 0 ≤ a) (h2 : 0 < b) : a.tdiv b = a / b ∧ 0 ≤ a / b ∧ a / b ≤ a := by
  refine ⟨Int.tdiv_eq_ediv_of_nonneg h1, Int.ediv_nonneg h1 (by omega), Int.ediv_le_self _ h1⟩
theorem tmod_nn {a b : Int} (h1 : 0 ≤ a) (h2 : 0 < b) : a.tmod b = a % b ∧ 0 ≤ a % b ∧ a % b < b := 
  ⟨Int.tmod_eq_emod_of_nonneg h1, Int.emod_nonneg _ (by omega), Int.emod_lt_of_pos _ h2⟩
theorem rng_quo_u64 {a b : Int} {k : Int → Prop} (h1 : 0 ≤ a) (h2 : a ≤ 18446744073709551615) (h3 : 0 < b) (h : k (a / b)) : rng (IntKind.wrap .u64 (a.tdiv b)) k := by
  obtain ⟨e, e1, e2⟩ := tdiv_nn h1 h3
  rw [e]; exact rng_u64 e1 (by omega) h
theorem rng_quo_i64 {a b : Int} {k : Int → Prop} (h1 : 0 ≤ a) (h2 : a ≤ 9223372036854775807) (h3 : 0 < b) (h : k (a / b)) : rng (IntKind.wrap .i64 (a.tdiv b)) k := by
  obtain ⟨e, e1, e2⟩ := tdiv_nn h1 h3
  rw [e]; exact rng_i64 (by omega) (by omega) h
theorem rng_rem_u64 {a b : Int} {k : Int → Prop} (h1 : 0 ≤ a) (h2 : b ≤ 18446744073709551615) (h3 : 0 < b) (h : k (a % b)) : rng (IntKind.wrap .u64 (a.tmod b)) k := by
  obtain ⟨e, e1, e2⟩ := tmod_nn h1 h3
  rw [e]; exact rng_u64 e1 (by omega) h
theorem rng_rem_i64 {a b : Int} {k : Int → Prop} (h1 : 0 ≤ a) (h2 : b ≤ 9223372036854775807) (h3 : 0 < b) (h : k (a % b)) : rng (IntKind.wrap .i64 (a.tmod b)) k := by
  obtain ⟨e, e1, e2⟩ := tmod_nn h1 h3
  rw [e]; exact rng_i64 (by omega) (by omega) h

/-- What is owned by others stays as it is. -/
theorem ACalls.frame {P : Program} {f : Nat} {args : List AV} {K : AV → Prop} (h : ACalls P f args [] fun r _ => K r) (H : AH) : ACalls P f args H fun r H' => K r ∧ H' = H := by
  refine ⟨h.1, fun w ρ Z xs hg hr => (h.2 w ρ Z xs (hg.forget fun _ _ q => by cases q) hr).mono fun e w' ⟨x, r, H', ρ', Z', a, g, c, d, k⟩ => ?_⟩
  obtain ⟨q1, q2⟩ := hg.frame (fun _ _ q => by cases q) d g (HS' := H) fun id b q => .inr ⟨q, rfl⟩
  exact ⟨x, r, H, ρ', Z', a, q1, c, q2, k, rfl⟩
end Go.Proofs.YtlmplofpclaokaaDoor

/- Steps that are alike everywhere, as arguments that a proof fills in by itself. -/
namespace Go.Proofs.YtlmplofpclaokaaDoor
set_option autoImplicit false
set_option linter.unusedVariables false
/-- A fresh block is none of those that are there. -/
def neAll : AH → Nat → Prop
  | [], _ => True
  | (i, _) :: H, j => j ≠ i ∧ neAll H j
theorem neAll_of {H : AH} {j : Nat} (h : hget H j = none) : neAll H j := by
  induction H with
  | nil => trivial
  | cons p H ih =>
    obtain ⟨i, b⟩ := p
    obtain ⟨a, c⟩ := hget_fresh h
    exact ⟨a, ih c⟩
theorem hget_none {H : AH} {j : Nat} (h : neAll H j) : hget H j = none := by
  induction H with
  | nil => rfl
  | cons p H ih =>
    obtain ⟨i, b⟩ := p
    exact (hget_tail (fun e => h.1 e.symm)).trans (ih h.2)
theorem neAll_hset {H : AH} {i j : Nat} {b : Blk} : neAll (hset H i b) j ↔ neAll H j := by
  induction H with
  | nil => exact Iff.rfl
  | cons p H ih =>
    obtain ⟨k, c⟩ := p
    simp only [hset]
    split
    · simp only [neAll]
    · simp only [neAll, ih]
structure Hid (k : Prop) : Prop where
  o : k
theorem hg_of {H : AH} {id : Nat} {b : Option Blk} (h : hget H id = b := by repeat (first | (with_reducible refine Eq.trans hget_self ?_; exact rfl) | with_reducible assumption | (with_reducible refine Eq.trans (hget_tail ?_) ?_; next => first | with_reducible assumption | (apply Ne.symm; with_reducible assumption) | omega) | (with_reducible refine Eq.trans (hget_set ?_) ?_; rotate_left; exact rfl) | (with_reducible refine Eq.trans (hget_set_ne ?_) ?_; next => first | with_reducible assumption | (apply Ne.symm; with_reducible assumption) | omega) | (with_reducible refine Eq.trans (hget_del_ne ?_) ?_; next => first | with_reducible assumption | (apply Ne.symm; with_reducible assumption) | omega) | exact hget_self | assumption | apply hget_set)) : hget H id = b := h
/-- Step until something is to be decided; what is left is k. -/
theorem au {k g : Prop} (h : k) (t : Hid k → g := by intro hk; (repeat ((conv => whnf); first | refine Or.inl ?_ | refine dAuto ?_ | (apply Exists.intro; apply Exists.intro; refine And.intro ?_ ?_; (next => repeat (first | (with_reducible refine Eq.trans hget_self ?_; exact rfl) | with_reducible assumption | (with_reducible refine Eq.trans (hget_tail ?_) ?_; next => first | with_reducible assumption | (apply Ne.symm; with_reducible assumption) | omega) | (with_reducible refine Eq.trans (hget_set ?_) ?_; rotate_left; exact rfl) | (with_reducible refine Eq.trans (hget_set_ne ?_) ?_; next => first | with_reducible assumption | (apply Ne.symm; with_reducible assumption) | omega) | (with_reducible refine Eq.trans (hget_del_ne ?_) ?_; next => first | with_reducible assumption | (apply Ne.symm; with_reducible assumption) | omega) | exact hget_self | assumption | apply hget_set)); refine And.intro (Eq.refl (some _)) ?_) | refine Exists.intro _ (And.intro rfl (And.intro rfl ?_)) | (refine And.intro ?_ ?_; next => first | omega | (dsimp only; omega) | exact rfl | exact Nat.le_of_ble_eq_true rfl | (exact ⟨by omega, by omega⟩) | decide | (simp only [List.length_append, List.length_cons, List.length_nil, List.length_map]; omega)) | (refine rng_i64 ?_ ?_ ?_; (next => first | omega | (dsimp only; omega)); (next => first | omega | (dsimp only; omega))) | (refine rng_u8 ?_ ?_ ?_; (next => first | omega | (dsimp only; omega)); (next => first | omega | (dsimp only; omega))) | (refine rng_u64 ?_ ?_ ?_; (next => first | omega | (dsimp only; omega)); (next => first | omega | (dsimp only; omega))) | (refine rng_quo_u64 ?_ ?_ ?_ ?_; (next => first | omega | (dsimp only; omega)); (next => first | omega | (dsimp only; omega)); (next => first | omega | (dsimp only; omega))) | (refine rng_quo_i64 ?_ ?_ ?_ ?_; (next => first | omega | (dsimp only; omega)); (next => first | omega | (dsimp only; omega)); (next => first | omega | (dsimp only; omega))) | (refine rng_rem_u64 ?_ ?_ ?_ ?_; (next => first | omega | (dsimp only; omega)); (next => first | omega | (dsimp only; omega)); (next => first | omega | (dsimp only; omega))) | (refine rng_rem_i64 ?_ ?_ ?_ ?_; (next => first | omega | (dsimp only; omega)); (next => first | omega | (dsimp only; omega)); (next => first | omega | (dsimp only; omega))) | refine bsplit_tt ?_ | refine bsplit_ff ?_ | refine bsplit_not ?_ | (refine bsplit_pos ?_ ?_; (next => first | omega | (dsimp only; omega))) | (refine bsplit_neg ?_ ?_; (next => first | omega | (dsimp only; omega))) | (apply Exists.intro; refine And.intro ?_ ?_; next => repeat (first | (with_reducible refine Eq.trans hget_self ?_; exact rfl) | with_reducible assumption | (with_reducible refine Eq.trans (hget_tail ?_) ?_; next => first | with_reducible assumption | (apply Ne.symm; with_reducible assumption) | omega) | (with_reducible refine Eq.trans (hget_set ?_) ?_; rotate_left; exact rfl) | (with_reducible refine Eq.trans (hget_set_ne ?_) ?_; next => first | with_reducible assumption | (apply Ne.symm; with_reducible assumption) | omega) | (with_reducible refine Eq.trans (hget_del_ne ?_) ?_; next => first | with_reducible assumption | (apply Ne.symm; with_reducible assumption) | omega) | exact hget_self | assumption | apply hget_set)) | (apply hsetN_of; next => (try simp only [over, List.set_cons_zero, List.set_cons_succ, List.take_zero, List.take_succ_cons, List.take_nil, List.drop_zero, List.drop_succ_cons, List.drop_nil, List.nil_append, List.cons_append, List.append_nil, AV.cells, List.length_cons, List.length_nil, Nat.zero_add, Nat.add_zero, Nat.reduceAdd]); exact rfl) | (refine hdelK_top ?_ ?_; next => first | with_reducible assumption | (refine hget_none ?_; (repeat' apply And.intro) <;> first | omega | exact True.intro | assumption)) | (refine hdelK_down ?_ ?_; next => first | with_reducible assumption | (apply Ne.symm; with_reducible assumption) | omega) | refine hdelK_any ?_ | refine hsetK_top ?_ | (refine hsetK_down ?_ ?_; next => first | with_reducible assumption | (apply Ne.symm; with_reducible assumption) | omega) | refine hsetK_any ?_ )); (conv => whnf); exact hk.o) : g := t ⟨h⟩
theorem au0 {g : Prop} (t : g := by (repeat ((conv => whnf); first | refine Or.inl ?_ | refine dAuto ?_ | (apply Exists.intro; apply Exists.intro; refine And.intro ?_ ?_; (next => repeat (first | (with_reducible refine Eq.trans hget_self ?_; exact rfl) | with_reducible assumption | (with_reducible refine Eq.trans (hget_tail ?_) ?_; next => first | with_reducible assumption | (apply Ne.symm; with_reducible assumption) | omega) | (with_reducible refine Eq.trans (hget_set ?_) ?_; rotate_left; exact rfl) | (with_reducible refine Eq.trans (hget_set_ne ?_) ?_; next => first | with_reducible assumption | (apply Ne.symm; with_reducible assumption) | omega) | (with_reducible refine Eq.trans (hget_del_ne ?_) ?_; next => first | with_reducible assumption | (apply Ne.symm; with_reducible assumption) | omega) | exact hget_self | assumption | apply hget_set)); refine And.intro (Eq.refl (some _)) ?_) | refine Exists.intro _ (And.intro rfl (And.intro rfl ?_)) | (refine And.intro ?_ ?_; next => first | omega | (dsimp only; omega) | exact rfl | exact Nat.le_of_ble_eq_true rfl | (exact ⟨by omega, by omega⟩) | decide | (simp only [List.length_append, List.length_cons, List.length_nil, List.length_map]; omega)) | (refine rng_i64 ?_ ?_ ?_; (next => first | omega | (dsimp only; omega)); (next => first | omega | (dsimp only; omega))) | (refine rng_u8 ?_ ?_ ?_; (next => first | omega | (dsimp only; omega)); (next => first | omega | (dsimp only; omega))) | (refine rng_u64 ?_ ?_ ?_; (next => first | omega | (dsimp only; omega)); (next => first | omega | (dsimp only; omega))) | (refine rng_quo_u64 ?_ ?_ ?_ ?_; (next => first | omega | (dsimp only; omega)); (next => first | omega | (dsimp only; omega)); (next => first | omega | (dsimp only; omega))) | (refine rng_quo_i64 ?_ ?_ ?_ ?_; (next => first | omega | (dsimp only; omega)); (next => first | omega | (dsimp only; omega)); (next => first | omega | (dsimp only; omega))) | (refine rng_rem_u64 ?_ ?_ ?_ ?_; (next => first | omega | (dsimp only; omega)); (next => first | omega | (dsimp only; omega)); (next => first | omega | (dsimp only; omega))) | (refine rng_rem_i64 ?_ ?_ ?_ ?_; (next => first | omega | (dsimp only; omega)); (next => first | omega | (dsimp only; omega)); (next => first | omega | (dsimp only; omega))) | refine bsplit_tt ?_ | refine bsplit_ff ?_ | refine bsplit_not ?_ | (refine bsplit_pos ?_ ?_; (next => first | omega | (dsimp only; omega))) | (refine bsplit_neg ?_ ?_; (next => first | omega | (dsimp only; omega))) | (apply Exists.intro; refine And.intro ?_ ?_; next => repeat (first | (with_reducible refine Eq.trans hget_self ?_; exact rfl) | with_reducible assumption | (with_reducible refine Eq.trans (hget_tail ?_) ?_; next => first | with_reducible assumption | (apply Ne.symm; with_reducible assumption) | omega) | (with_reducible refine Eq.trans (hget_set ?_) ?_; rotate_left; exact rfl) | (with_reducible refine Eq.trans (hget_set_ne ?_) ?_; next => first | with_reducible assumption | (apply Ne.symm; with_reducible assumption) | omega) | (with_reducible refine Eq.trans (hget_del_ne ?_) ?_; next => first | with_reducible assumption | (apply Ne.symm; with_reducible assumption) | omega) | exact hget_self | assumption | apply hget_set)) | (apply hsetN_of; next => (try simp only [over, List.set_cons_zero, List.set_cons_succ, List.take_zero, List.take_succ_cons, List.take_nil, List.drop_zero, List.drop_succ_cons, List.drop_nil, List.nil_append, List.cons_append, List.append_nil, AV.cells, List.length_cons, List.length_nil, Nat.zero_add, Nat.add_zero, Nat.reduceAdd]); exact rfl) | (refine hdelK_top ?_ ?_; next => first | with_reducible assumption | (refine hget_none ?_; (repeat' apply And.intro) <;> first | omega | exact True.intro | assumption)) | (refine hdelK_down ?_ ?_; next => first | with_reducible assumption | (apply Ne.symm; with_reducible assumption) | omega) | refine hdelK_any ?_ | refine hsetK_top ?_ | (refine hsetK_down ?_ ?_; next => first | with_reducible assumption | (apply Ne.symm; with_reducible assumption) | omega) | refine hsetK_any ?_ )); (conv => whnf); (first | done | fail)) : g := t
theorem ah {k g : Prop} (h : k) (t : Hid k → g := by intro hk; (repeat ((conv => whnf); first | refine Or.inl ?_ | refine dAuto ?_ | (apply Exists.intro; apply Exists.intro; refine And.intro ?_ ?_; (next => repeat (first | (with_reducible refine Eq.trans hget_self ?_; exact rfl) | with_reducible assumption | (with_reducible refine Eq.trans (hget_tail ?_) ?_; next => first | with_reducible assumption | (apply Ne.symm; with_reducible assumption) | omega) | (with_reducible refine Eq.trans (hget_set ?_) ?_; rotate_left; exact rfl) | (with_reducible refine Eq.trans (hget_set_ne ?_) ?_; next => first | with_reducible assumption | (apply Ne.symm; with_reducible assumption) | omega) | (with_reducible refine Eq.trans (hget_del_ne ?_) ?_; next => first | with_reducible assumption | (apply Ne.symm; with_reducible assumption) | omega) | exact hget_self | assumption | apply hget_set)); refine And.intro (Eq.refl (some _)) ?_) | refine Exists.intro _ (And.intro rfl (And.intro rfl ?_)) | (refine And.intro ?_ ?_; next => first | omega | (dsimp only; omega) | exact rfl | exact Nat.le_of_ble_eq_true rfl | (exact ⟨by omega, by omega⟩) | decide | (simp only [List.length_append, List.length_cons, List.length_nil, List.length_map]; omega)) | (refine rng_i64 ?_ ?_ ?_; (next => first | omega | (dsimp only; omega)); (next => first | omega | (dsimp only; omega))) | (refine rng_u8 ?_ ?_ ?_; (next => first | omega | (dsimp only; omega)); (next => first | omega | (dsimp only; omega))) | (refine rng_u64 ?_ ?_ ?_; (next => first | omega | (dsimp only; omega)); (next => first | omega | (dsimp only; omega))) | (refine rng_quo_u64 ?_ ?_ ?_ ?_; (next => first | omega | (dsimp only; omega)); (next => first | omega | (dsimp only; omega)); (next => first | omega | (dsimp only; omega))) | (refine rng_quo_i64 ?_ ?_ ?_ ?_; (next => first | omega | (dsimp only; omega)); (next => first | omega | (dsimp only; omega)); (next => first | omega | (dsimp only; omega))) | (refine rng_rem_u64 ?_ ?_ ?_ ?_; (next => first | omega | (dsimp only; omega)); (next => first | omega | (dsimp only; omega)); (next => first | omega | (dsimp only; omega))) | (refine rng_rem_i64 ?_ ?_ ?_ ?_; (next => first | omega | (dsimp only; omega)); (next => first | omega | (dsimp only; omega)); (next => first | omega | (dsimp only; omega))) | refine bsplit_tt ?_ | refine bsplit_ff ?_ | refine bsplit_not ?_ | (refine bsplit_pos ?_ ?_; (next => first | omega | (dsimp only; omega))) | (refine bsplit_neg ?_ ?_; (next => first | omega | (dsimp only; omega))) | (apply Exists.intro; refine And.intro ?_ ?_; next => repeat (first | (with_reducible refine Eq.trans hget_self ?_; exact rfl) | with_reducible assumption | (with_reducible refine Eq.trans (hget_tail ?_) ?_; next => first | with_reducible assumption | (apply Ne.symm; with_reducible assumption) | omega) | (with_reducible refine Eq.trans (hget_set ?_) ?_; rotate_left; exact rfl) | (with_reducible refine Eq.trans (hget_set_ne ?_) ?_; next => first | with_reducible assumption | (apply Ne.symm; with_reducible assumption) | omega) | (with_reducible refine Eq.trans (hget_del_ne ?_) ?_; next => first | with_reducible assumption | (apply Ne.symm; with_reducible assumption) | omega) | exact hget_self | assumption | apply hget_set)) | (apply hsetN_of; next => (try simp only [over, List.set_cons_zero, List.set_cons_succ, List.take_zero, List.take_succ_cons, List.take_nil, List.drop_zero, List.drop_succ_cons, List.drop_nil, List.nil_append, List.cons_append, List.append_nil, AV.cells, List.length_cons, List.length_nil, Nat.zero_add, Nat.add_zero, Nat.reduceAdd]); exact rfl) | (refine hdelK_top ?_ ?_; next => first | with_reducible assumption | (refine hget_none ?_; (repeat' apply And.intro) <;> first | omega | exact True.intro | assumption)) | (refine hdelK_down ?_ ?_; next => first | with_reducible assumption | (apply Ne.symm; with_reducible assumption) | omega) | refine hdelK_any ?_ | refine hsetK_top ?_ | (refine hsetK_down ?_ ?_; next => first | with_reducible assumption | (apply Ne.symm; with_reducible assumption) | omega) | refine hsetK_any ?_  | rw [hset_self] | rw [hset_tail (by first | with_reducible assumption | (apply Ne.symm; with_reducible assumption) | omega)])); (conv => whnf); exact hk.o) : g := t ⟨h⟩
theorem ah0 {g : Prop} (t : g := by (repeat ((conv => whnf); first | refine Or.inl ?_ | refine dAuto ?_ | (apply Exists.intro; apply Exists.intro; refine And.intro ?_ ?_; (next => repeat (first | (with_reducible refine Eq.trans hget_self ?_; exact rfl) | with_reducible assumption | (with_reducible refine Eq.trans (hget_tail ?_) ?_; next => first | with_reducible assumption | (apply Ne.symm; with_reducible assumption) | omega) | (with_reducible refine Eq.trans (hget_set ?_) ?_; rotate_left; exact rfl) | (with_reducible refine Eq.trans (hget_set_ne ?_) ?_; next => first | with_reducible assumption | (apply Ne.symm; with_reducible assumption) | omega) | (with_reducible refine Eq.trans (hget_del_ne ?_) ?_; next => first | with_reducible assumption | (apply Ne.symm; with_reducible assumption) | omega) | exact hget_self | assumption | apply hget_set)); refine And.intro (Eq.refl (some _)) ?_) | refine Exists.intro _ (And.intro rfl (And.intro rfl ?_)) | (refine And.intro ?_ ?_; next => first | omega | (dsimp only; omega) | exact rfl | exact Nat.le_of_ble_eq_true rfl | (exact ⟨by omega, by omega⟩) | decide | (simp only [List.length_append, List.length_cons, List.length_nil, List.length_map]; omega)) | (refine rng_i64 ?_ ?_ ?_; (next => first | omega | (dsimp only; omega)); (next => first | omega | (dsimp only; omega))) | (refine rng_u8 ?_ ?_ ?_; (next => first | omega | (dsimp only; omega)); (next => first | omega | (dsimp only; omega))) | (refine rng_u64 ?_ ?_ ?_; (next => first | omega | (dsimp only; omega)); (next => first | omega | (dsimp only; omega))) | (refine rng_quo_u64 ?_ ?_ ?_ ?_; (next => first | omega | (dsimp only; omega)); (next => first | omega | (dsimp only; omega)); (next => first | omega | (dsimp only; omega))) | (refine rng_quo_i64 ?_ ?_ ?_ ?_; (next => first | omega | (dsimp only; omega)); (next => first | omega | (dsimp only; omega)); (next => first | omega | (dsimp only; omega))) | (refine rng_rem_u64 ?_ ?_ ?_ ?_; (next => first | omega | (dsimp only; omega)); (next => first | omega | (dsimp only; omega)); (next => first | omega | (dsimp only; omega))) | (refine rng_rem_i64 ?_ ?_ ?_ ?_; (next => first | omega | (dsimp only; omega)); (next => first | omega | (dsimp only; omega)); (next => first | omega | (dsimp only; omega))) | refine bsplit_tt ?_ | refine bsplit_ff ?_ | refine bsplit_not ?_ | (refine bsplit_pos ?_ ?_; (next => first | omega | (dsimp only; omega))) | (refine bsplit_neg ?_ ?_; (next => first | omega | (dsimp only; omega))) | (apply Exists.intro; refine And.intro ?_ ?_; next => repeat (first | (with_reducible refine Eq.trans hget_self ?_; exact rfl) | with_reducible assumption | (with_reducible refine Eq.trans (hget_tail ?_) ?_; next => first | with_reducible assumption | (apply Ne.symm; with_reducible assumption) | omega) | (with_reducible refine Eq.trans (hget_set ?_) ?_; rotate_left; exact rfl) | (with_reducible refine Eq.trans (hget_set_ne ?_) ?_; next => first | with_reducible assumption | (apply Ne.symm; with_reducible assumption) | omega) | (with_reducible refine Eq.trans (hget_del_ne ?_) ?_; next => first | with_reducible assumption | (apply Ne.symm; with_reducible assumption) | omega) | exact hget_self | assumption | apply hget_set)) | (apply hsetN_of; next => (try simp only [over, List.set_cons_zero, List.set_cons_succ, List.take_zero, List.take_succ_cons, List.take_nil, List.drop_zero, List.drop_succ_cons, List.drop_nil, List.nil_append, List.cons_append, List.append_nil, AV.cells, List.length_cons, List.length_nil, Nat.zero_add, Nat.add_zero, Nat.reduceAdd]); exact rfl) | (refine hdelK_top ?_ ?_; next => first | with_reducible assumption | (refine hget_none ?_; (repeat' apply And.intro) <;> first | omega | exact True.intro | assumption)) | (refine hdelK_down ?_ ?_; next => first | with_reducible assumption | (apply Ne.symm; with_reducible assumption) | omega) | refine hdelK_any ?_ | refine hsetK_top ?_ | (refine hsetK_down ?_ ?_; next => first | with_reducible assumption | (apply Ne.symm; with_reducible assumption) | omega) | refine hsetK_any ?_  | rw [hset_self] | rw [hset_tail (by first | with_reducible assumption | (apply Ne.symm; with_reducible assumption) | omega)])); (conv => whnf); (first | done | fail)) : g := t
theorem ac {k g : Prop} (h : k) (t : Hid k → g := by intro hk; (repeat ((conv => whnf); first | (apply Exists.intro; apply Exists.intro; refine And.intro ?_ ?_; (next => repeat (first | (with_reducible refine Eq.trans hget_self ?_; exact rfl) | with_reducible assumption | (with_reducible refine Eq.trans (hget_tail ?_) ?_; next => first | with_reducible assumption | (apply Ne.symm; with_reducible assumption) | omega) | (with_reducible refine Eq.trans (hget_set ?_) ?_; rotate_left; exact rfl) | (with_reducible refine Eq.trans (hget_set_ne ?_) ?_; next => first | with_reducible assumption | (apply Ne.symm; with_reducible assumption) | omega) | (with_reducible refine Eq.trans (hget_del_ne ?_) ?_; next => first | with_reducible assumption | (apply Ne.symm; with_reducible assumption) | omega) | exact hget_self | assumption | apply hget_set)); refine And.intro (Eq.refl (some _)) ?_) | refine Exists.intro _ (And.intro rfl (And.intro rfl ?_)) | (refine And.intro ?_ ?_; next => first | omega | (dsimp only; omega) | exact rfl | exact Nat.le_of_ble_eq_true rfl | (exact ⟨by omega, by omega⟩) | decide | (simp only [List.length_append, List.length_cons, List.length_nil, List.length_map]; omega)) | (refine rng_i64 ?_ ?_ ?_; (next => first | omega | (dsimp only; omega)); (next => first | omega | (dsimp only; omega))) | (refine rng_u8 ?_ ?_ ?_; (next => first | omega | (dsimp only; omega)); (next => first | omega | (dsimp only; omega))) | (refine rng_u64 ?_ ?_ ?_; (next => first | omega | (dsimp only; omega)); (next => first | omega | (dsimp only; omega))) | (refine rng_quo_u64 ?_ ?_ ?_ ?_; (next => first | omega | (dsimp only; omega)); (next => first | omega | (dsimp only; omega)); (next => first | omega | (dsimp only; omega))) | (refine rng_quo_i64 ?_ ?_ ?_ ?_; (next => first | omega | (dsimp only; omega)); (next => first | omega | (dsimp only; omega)); (next => first | omega | (dsimp only; omega))) | (refine rng_rem_u64 ?_ ?_ ?_ ?_; (next => first | omega | (dsimp only; omega)); (next => first | omega | (dsimp only; omega)); (next => first | omega | (dsimp only; omega))) | (refine rng_rem_i64 ?_ ?_ ?_ ?_; (next => first | omega | (dsimp only; omega)); (next => first | omega | (dsimp only; omega)); (next => first | omega | (dsimp only; omega))) | refine bsplit_tt ?_ | refine bsplit_ff ?_ | refine bsplit_not ?_ | (refine bsplit_pos ?_ ?_; (next => first | omega | (dsimp only; omega))) | (refine bsplit_neg ?_ ?_; (next => first | omega | (dsimp only; omega))) | (apply Exists.intro; refine And.intro ?_ ?_; next => repeat (first | (with_reducible refine Eq.trans hget_self ?_; exact rfl) | with_reducible assumption | (with_reducible refine Eq.trans (hget_tail ?_) ?_; next => first | with_reducible assumption | (apply Ne.symm; with_reducible assumption) | omega) | (with_reducible refine Eq.trans (hget_set ?_) ?_; rotate_left; exact rfl) | (with_reducible refine Eq.trans (hget_set_ne ?_) ?_; next => first | with_reducible assumption | (apply Ne.symm; with_reducible assumption) | omega) | (with_reducible refine Eq.trans (hget_del_ne ?_) ?_; next => first | with_reducible assumption | (apply Ne.symm; with_reducible assumption) | omega) | exact hget_self | assumption | apply hget_set)) | (apply hsetN_of; next => (try simp only [over, List.set_cons_zero, List.set_cons_succ, List.take_zero, List.take_succ_cons, List.take_nil, List.drop_zero, List.drop_succ_cons, List.drop_nil, List.nil_append, List.cons_append, List.append_nil, AV.cells, List.length_cons, List.length_nil, Nat.zero_add, Nat.add_zero, Nat.reduceAdd]); exact rfl) | (refine hdelK_top ?_ ?_; next => first | with_reducible assumption | (refine hget_none ?_; (repeat' apply And.intro) <;> first | omega | exact True.intro | assumption)) | (refine hdelK_down ?_ ?_; next => first | with_reducible assumption | (apply Ne.symm; with_reducible assumption) | omega) | refine hdelK_any ?_ | refine hsetK_top ?_ | (refine hsetK_down ?_ ?_; next => first | with_reducible assumption | (apply Ne.symm; with_reducible assumption) | omega) | refine hsetK_any ?_  | rw [hset_self] | rw [hset_tail (by first | with_reducible assumption | (apply Ne.symm; with_reducible assumption) | omega)])); (conv => whnf); exact hk.o) : g := t ⟨h⟩
theorem ac0 {g : Prop} (t : g := by (repeat ((conv => whnf); first | (apply Exists.intro; apply Exists.intro; refine And.intro ?_ ?_; (next => repeat (first | (with_reducible refine Eq.trans hget_self ?_; exact rfl) | with_reducible assumption | (with_reducible refine Eq.trans (hget_tail ?_) ?_; next => first | with_reducible assumption | (apply Ne.symm; with_reducible assumption) | omega) | (with_reducible refine Eq.trans (hget_set ?_) ?_; rotate_left; exact rfl) | (with_reducible refine Eq.trans (hget_set_ne ?_) ?_; next => first | with_reducible assumption | (apply Ne.symm; with_reducible assumption) | omega) | (with_reducible refine Eq.trans (hget_del_ne ?_) ?_; next => first | with_reducible assumption | (apply Ne.symm; with_reducible assumption) | omega) | exact hget_self | assumption | apply hget_set)); refine And.intro (Eq.refl (some _)) ?_) | refine Exists.intro _ (And.intro rfl (And.intro rfl ?_)) | (refine And.intro ?_ ?_; next => first | omega | (dsimp only; omega) | exact rfl | exact Nat.le_of_ble_eq_true rfl | (exact ⟨by omega, by omega⟩) | decide | (simp only [List.length_append, List.length_cons, List.length_nil, List.length_map]; omega)) | (refine rng_i64 ?_ ?_ ?_; (next => first | omega | (dsimp only; omega)); (next => first | omega | (dsimp only; omega))) | (refine rng_u8 ?_ ?_ ?_; (next => first | omega | (dsimp only; omega)); (next => first | omega | (dsimp only; omega))) | (refine rng_u64 ?_ ?_ ?_; (next => first | omega | (dsimp only; omega)); (next => first | omega | (dsimp only; omega))) | (refine rng_quo_u64 ?_ ?_ ?_ ?_; (next => first | omega | (dsimp only; omega)); (next => first | omega | (dsimp only; omega)); (next => first | omega | (dsimp only; omega))) | (refine rng_quo_i64 ?_ ?_ ?_ ?_; (next => first | omega | (dsimp only; omega)); (next => first | omega | (dsimp only; omega)); (next => first | omega | (dsimp only; omega))) | (refine rng_rem_u64 ?_ ?_ ?_ ?_; (next => first | omega | (dsimp only; omega)); (next => first | omega | (dsimp only; omega)); (next => first | omega | (dsimp only; omega))) | (refine rng_rem_i64 ?_ ?_ ?_ ?_; (next => first | omega | (dsimp only; omega)); (next => first | omega | (dsimp only; omega)); (next => first | omega | (dsimp only; omega))) | refine bsplit_tt ?_ | refine bsplit_ff ?_ | refine bsplit_not ?_ | (refine bsplit_pos ?_ ?_; (next => first | omega | (dsimp only; omega))) | (refine bsplit_neg ?_ ?_; (next => first | omega | (dsimp only; omega))) | (apply Exists.intro; refine And.intro ?_ ?_; next => repeat (first | (with_reducible refine Eq.trans hget_self ?_; exact rfl) | with_reducible assumption | (with_reducible refine Eq.trans (hget_tail ?_) ?_; next => first | with_reducible assumption | (apply Ne.symm; with_reducible assumption) | omega) | (with_reducible refine Eq.trans (hget_set ?_) ?_; rotate_left; exact rfl) | (with_reducible refine Eq.trans (hget_set_ne ?_) ?_; next => first | with_reducible assumption | (apply Ne.symm; with_reducible assumption) | omega) | (with_reducible refine Eq.trans (hget_del_ne ?_) ?_; next => first | with_reducible assumption | (apply Ne.symm; with_reducible assumption) | omega) | exact hget_self | assumption | apply hget_set)) | (apply hsetN_of; next => (try simp only [over, List.set_cons_zero, List.set_cons_succ, List.take_zero, List.take_succ_cons, List.take_nil, List.drop_zero, List.drop_succ_cons, List.drop_nil, List.nil_append, List.cons_append, List.append_nil, AV.cells, List.length_cons, List.length_nil, Nat.zero_add, Nat.add_zero, Nat.reduceAdd]); exact rfl) | (refine hdelK_top ?_ ?_; next => first | with_reducible assumption | (refine hget_none ?_; (repeat' apply And.intro) <;> first | omega | exact True.intro | assumption)) | (refine hdelK_down ?_ ?_; next => first | with_reducible assumption | (apply Ne.symm; with_reducible assumption) | omega) | refine hdelK_any ?_ | refine hsetK_top ?_ | (refine hsetK_down ?_ ?_; next => first | with_reducible assumption | (apply Ne.symm; with_reducible assumption) | omega) | refine hsetK_any ?_  | rw [hset_self] | rw [hset_tail (by first | with_reducible assumption | (apply Ne.symm; with_reducible assumption) | omega)])); (conv => whnf); (first | done | fail)) : g := t
theorem ab {k g : Prop} (h : k) (t : Hid k → g := by intro hk; (repeat ((conv => whnf); first | (apply Exists.intro; apply Exists.intro; refine And.intro ?_ ?_; (next => repeat (first | (with_reducible refine Eq.trans hget_self ?_; exact rfl) | with_reducible assumption | (with_reducible refine Eq.trans (hget_tail ?_) ?_; next => first | with_reducible assumption | (apply Ne.symm; with_reducible assumption) | omega) | (with_reducible refine Eq.trans (hget_set ?_) ?_; rotate_left; exact rfl) | (with_reducible refine Eq.trans (hget_set_ne ?_) ?_; next => first | with_reducible assumption | (apply Ne.symm; with_reducible assumption) | omega) | (with_reducible refine Eq.trans (hget_del_ne ?_) ?_; next => first | with_reducible assumption | (apply Ne.symm; with_reducible assumption) | omega) | exact hget_self | assumption | apply hget_set)); refine And.intro (Eq.refl (some _)) ?_) | refine Exists.intro _ (And.intro rfl (And.intro rfl ?_)) | (refine And.intro ?_ ?_; next => first | omega | (dsimp only; omega) | exact rfl | exact Nat.le_of_ble_eq_true rfl | (exact ⟨by omega, by omega⟩) | decide | (simp only [List.length_append, List.length_cons, List.length_nil, List.length_map]; omega)) | (refine rng_i64 ?_ ?_ ?_; (next => first | omega | (dsimp only; omega)); (next => first | omega | (dsimp only; omega))) | (refine rng_u8 ?_ ?_ ?_; (next => first | omega | (dsimp only; omega)); (next => first | omega | (dsimp only; omega))) | (refine rng_u64 ?_ ?_ ?_; (next => first | omega | (dsimp only; omega)); (next => first | omega | (dsimp only; omega))) | (refine rng_quo_u64 ?_ ?_ ?_ ?_; (next => first | omega | (dsimp only; omega)); (next => first | omega | (dsimp only; omega)); (next => first | omega | (dsimp only; omega))) | (refine rng_quo_i64 ?_ ?_ ?_ ?_; (next => first | omega | (dsimp only; omega)); (next => first | omega | (dsimp only; omega)); (next => first | omega | (dsimp only; omega))) | (refine rng_rem_u64 ?_ ?_ ?_ ?_; (next => first | omega | (dsimp only; omega)); (next => first | omega | (dsimp only; omega)); (next => first | omega | (dsimp only; omega))) | (refine rng_rem_i64 ?_ ?_ ?_ ?_; (next => first | omega | (dsimp only; omega)); (next => first | omega | (dsimp only; omega)); (next => first | omega | (dsimp only; omega))) | refine bsplit_tt ?_ | refine bsplit_ff ?_ | refine bsplit_not ?_ | (refine bsplit_pos ?_ ?_; (next => first | omega | (dsimp only; omega))) | (refine bsplit_neg ?_ ?_; (next => first | omega | (dsimp only; omega))) | (apply Exists.intro; refine And.intro ?_ ?_; next => repeat (first | (with_reducible refine Eq.trans hget_self ?_; exact rfl) | with_reducible assumption | (with_reducible refine Eq.trans (hget_tail ?_) ?_; next => first | with_reducible assumption | (apply Ne.symm; with_reducible assumption) | omega) | (with_reducible refine Eq.trans (hget_set ?_) ?_; rotate_left; exact rfl) | (with_reducible refine Eq.trans (hget_set_ne ?_) ?_; next => first | with_reducible assumption | (apply Ne.symm; with_reducible assumption) | omega) | (with_reducible refine Eq.trans (hget_del_ne ?_) ?_; next => first | with_reducible assumption | (apply Ne.symm; with_reducible assumption) | omega) | exact hget_self | assumption | apply hget_set)) | (apply hsetN_of; next => (try simp only [over, List.set_cons_zero, List.set_cons_succ, List.take_zero, List.take_succ_cons, List.take_nil, List.drop_zero, List.drop_succ_cons, List.drop_nil, List.nil_append, List.cons_append, List.append_nil, AV.cells, List.length_cons, List.length_nil, Nat.zero_add, Nat.add_zero, Nat.reduceAdd]); exact rfl) | (refine hdelK_top ?_ ?_; next => first | with_reducible assumption | (refine hget_none ?_; (repeat' apply And.intro) <;> first | omega | exact True.intro | assumption)) | (refine hdelK_down ?_ ?_; next => first | with_reducible assumption | (apply Ne.symm; with_reducible assumption) | omega) | refine hdelK_any ?_ | refine hsetK_top ?_ | (refine hsetK_down ?_ ?_; next => first | with_reducible assumption | (apply Ne.symm; with_reducible assumption) | omega) | refine hsetK_any ?_ )); (conv => whnf); exact hk.o) : g := t ⟨h⟩
theorem ab0 {g : Prop} (t : g := by (repeat ((conv => whnf); first | (apply Exists.intro; apply Exists.intro; refine And.intro ?_ ?_; (next => repeat (first | (with_reducible refine Eq.trans hget_self ?_; exact rfl) | with_reducible assumption | (with_reducible refine Eq.trans (hget_tail ?_) ?_; next => first | with_reducible assumption | (apply Ne.symm; with_reducible assumption) | omega) | (with_reducible refine Eq.trans (hget_set ?_) ?_; rotate_left; exact rfl) | (with_reducible refine Eq.trans (hget_set_ne ?_) ?_; next => first | with_reducible assumption | (apply Ne.symm; with_reducible assumption) | omega) | (with_reducible refine Eq.trans (hget_del_ne ?_) ?_; next => first | with_reducible assumption | (apply Ne.symm; with_reducible assumption) | omega) | exact hget_self | assumption | apply hget_set)); refine And.intro (Eq.refl (some _)) ?_) | refine Exists.intro _ (And.intro rfl (And.intro rfl ?_)) | (refine And.intro ?_ ?_; next => first | omega | (dsimp only; omega) | exact rfl | exact Nat.le_of_ble_eq_true rfl | (exact ⟨by omega, by omega⟩) | decide | (simp only [List.length_append, List.length_cons, List.length_nil, List.length_map]; omega)) | (refine rng_i64 ?_ ?_ ?_; (next => first | omega | (dsimp only; omega)); (next => first | omega | (dsimp only; omega))) | (refine rng_u8 ?_ ?_ ?_; (next => first | omega | (dsimp only; omega)); (next => first | omega | (dsimp only; omega))) | (refine rng_u64 ?_ ?_ ?_; (next => first | omega | (dsimp only; omega)); (next => first | omega | (dsimp only; omega))) | (refine rng_quo_u64 ?_ ?_ ?_ ?_; (next => first | omega | (dsimp only; omega)); (next => first | omega | (dsimp only; omega)); (next => first | omega | (dsimp only; omega))) | (refine rng_quo_i64 ?_ ?_ ?_ ?_; (next => first | omega | (dsimp only; omega)); (next => first | omega | (dsimp only; omega)); (next => first | omega | (dsimp only; omega))) | (refine rng_rem_u64 ?_ ?_ ?_ ?_; (next => first | omega | (dsimp only; omega)); (next => first | omega | (dsimp only; omega)); (next => first | omega | (dsimp only; omega))) | (refine rng_rem_i64 ?_ ?_ ?_ ?_; (next => first | omega | (dsimp only; omega)); (next => first | omega | (dsimp only; omega)); (next => first | omega | (dsimp only; omega))) | refine bsplit_tt ?_ | refine bsplit_ff ?_ | refine bsplit_not ?_ | (refine bsplit_pos ?_ ?_; (next => first | omega | (dsimp only; omega))) | (refine bsplit_neg ?_ ?_; (next => first | omega | (dsimp only; omega))) | (apply Exists.intro; refine And.intro ?_ ?_; next => repeat (first | (with_reducible refine Eq.trans hget_self ?_; exact rfl) | with_reducible assumption | (with_reducible refine Eq.trans (hget_tail ?_) ?_; next => first | with_reducible assumption | (apply Ne.symm; with_reducible assumption) | omega) | (with_reducible refine Eq.trans (hget_set ?_) ?_; rotate_left; exact rfl) | (with_reducible refine Eq.trans (hget_set_ne ?_) ?_; next => first | with_reducible assumption | (apply Ne.symm; with_reducible assumption) | omega) | (with_reducible refine Eq.trans (hget_del_ne ?_) ?_; next => first | with_reducible assumption | (apply Ne.symm; with_reducible assumption) | omega) | exact hget_self | assumption | apply hget_set)) | (apply hsetN_of; next => (try simp only [over, List.set_cons_zero, List.set_cons_succ, List.take_zero, List.take_succ_cons, List.take_nil, List.drop_zero, List.drop_succ_cons, List.drop_nil, List.nil_append, List.cons_append, List.append_nil, AV.cells, List.length_cons, List.length_nil, Nat.zero_add, Nat.add_zero, Nat.reduceAdd]); exact rfl) | (refine hdelK_top ?_ ?_; next => first | with_reducible assumption | (refine hget_none ?_; (repeat' apply And.intro) <;> first | omega | exact True.intro | assumption)) | (refine hdelK_down ?_ ?_; next => first | with_reducible assumption | (apply Ne.symm; with_reducible assumption) | omega) | refine hdelK_any ?_ | refine hsetK_top ?_ | (refine hsetK_down ?_ ?_; next => first | with_reducible assumption | (apply Ne.symm; with_reducible assumption) | omega) | refine hsetK_any ?_ )); (conv => whnf); (first | done | fail)) : g := t
end Go.Proofs.YtlmplofpclaokaaDoor

/- Functions that write one block; freezing what is handed back. -/
namespace Go.Proofs.YtlmplofpclaokaaDoor
set_option autoImplicit false
set_option linter.unusedVariables false
set_option linter.unusedSimpArgs false

theorem Sub.skip {H K : AH} {id : Nat} {b : Blk} (h : Sub K H) (hid : hget H id = none) : Sub K ((id, b) :: H) := fun j c q => by
  have := h j c q
  exact (hget_tail (hget_ne_of hid this)).trans this
theorem Sub.keep {H K : AH} {id : Nat} {b : Blk} (h : Sub K H) : Sub ((id, b) :: K) ((id, b) :: H) := fun j c q => by
  simp only [hget] at q ⊢
  split at q
  · rename_i e; rw [if_pos e]; exact q
  · rename_i e; rw [if_neg e]; exact h _ _ q
theorem Sub.del {K H : AH} {id : Nat} (h : Sub K H) (hid : hget K id = none) : Sub K (hdel H id) := fun j c q => by
  rw [hget_hdel]
  by_cases e : j = id
  · subst e; rw [hid] at q; cases q
  · rw [if_neg e]; exact h _ _ q
theorem Sub.nil (H : AH) : Sub [] H := fun _ _ q => by cases q
theorem Sub.trans {A B C : AH} (h : Sub A B) (k : Sub B C) : Sub A C := fun i b q => k _ _ (h _ _ q)
theorem ACalls.keepSub {P : Program} {f : Nat} {args : List AV} {H : AH} {K : AV → Prop} (h : ACalls P f args H fun r H' => K r ∧ Sub H H') : ACalls P f args H fun r H' => K r ∧ H' = H :=
  h.freeze fun r H' ⟨a, b⟩ => ⟨r, H, b, .refl _, a, rfl⟩
/-- The result, frozen, and what is kept. -/
theorem ACalls.fz {P : Program} {f : Nat} {args : List AV} {H H1 : AH} {v : AV} (h : ACalls P f args H fun r H' => Fz H' H1 r v ∧ Sub H1 H') : ACalls P f args H fun r H' => r = v ∧ H' = H1 :=
  h.freeze fun r H' ⟨a, b⟩ => ⟨v, H1, b, a, rfl, rfl⟩
/-- .. where the result is told by what it says. -/
theorem ACalls.fzE {P : Program} {f : Nat} {args : List AV} {H H1 : AH} {K : AV → Prop} (h : ACalls P f args H fun r H' => ∃ v, Fz H' H1 r v ∧ Sub H1 H' ∧ K v) : ACalls P f args H fun r H' => K r ∧ H' = H1 :=
  h.freeze fun r H' ⟨v, a, b, c⟩ => ⟨v, H1, b, a, c, rfl⟩

/-! ### Freezing, part by part -/
theorem Fz.aggL {H Hc : AH} {cs cs' : List AV} (h : FzL H Hc cs cs') : Fz H Hc (.agg cs) (.agg cs') := .agg cs cs' h.1 h.2
theorem Fz.tupL {H Hc : AH} {cs cs' : List AV} (h : FzL H Hc cs cs') : Fz H Hc (.tup cs) (.tup cs') := .tup cs cs' h.1 h.2
/-- Row by row. -/
def FzR (H Hc : AH) : List (List AV) → List (List AV) → Prop
  | [], [] => True
  | r :: l, r' :: l' => FzL H Hc r r' ∧ FzR H Hc l l'
  | _, _ => False
theorem FzR.spec {H Hc : AH} : ∀ {l l' : List (List AV)}, FzR H Hc l l' → l.length = l'.length ∧ ∀ (i : Nat) r r', l[i]? = some r → l'[i]? = some r' → FzL H Hc r r'
  | [], [], _ => ⟨rfl, fun i r r' q => by simp at q⟩
  | r :: l, [], h => h.elim
  | [], r :: l, h => h.elim
  | r :: l, r' :: l', h => by
    obtain ⟨a, b⟩ := FzR.spec h.2
    refine ⟨by simp [a], fun i x x' q1 q2 => ?_⟩
    cases i with
    | zero => simp at q1 q2; rw [← q1, ← q2]; exact h.1
    | succ i => exact b i x x' (by simpa using q1) (by simpa using q2)
theorem Fz.rowsL {H Hc : AH} {sz : Nat} {l l' : List (List AV)} (h : FzR H Hc l l') : Fz H Hc (.rows sz l) (.rows sz l') :=
  .rows sz l l' h.spec.1 (fun i r r' a b => (h.spec.2 i r r' a b).1) fun i r r' j v v' a b c d => (h.spec.2 i r r' a b).2 j v v' c d
theorem FzL.refl' (H Hc : AH) (l : List AV) : FzL H Hc l l := FzL.refl H Hc l
theorem FzR.refl (H Hc : AH) : ∀ l : List (List AV), FzR H Hc l l
  | [] => trivial
  | r :: l => ⟨FzL.refl H Hc r, FzR.refl H Hc l⟩
theorem FzR.append {H Hc : AH} : ∀ {l l' m m' : List (List AV)}, FzR H Hc l l' → FzR H Hc m m' → FzR H Hc (l ++ m) (l' ++ m')
  | [], [], m, m', _, h => h
  | r :: l, [], m, m', h, _ => h.elim
  | [], r :: l, m, m', h, _ => h.elim
  | r :: l, r' :: l', m, m', h, k => ⟨h.1, h.2.append k⟩
theorem Fz.ownL {H Hc : AH} {id sz : Nat} {l l' : List (List AV)} (hg : hget H id = some (.rows sz l)) (hd : hget Hc id = none) (h : FzR H Hc l l') (hw : ∀ r ∈ l', r.length = sz) : Fz H Hc (.own id sz 0 l.length) (.rows sz l') := by
  refine .own id sz 0 l.length l l' hg hd (Nat.le_refl _) (Nat.zero_le _) (by rw [← h.spec.1]; omega) (fun i r' q => hw r' (List.mem_of_getElem? q)) fun i r r' j v v' q1 q2 q3 q4 => ?_
  rw [Nat.zero_add] at q1
  exact (h.spec.2 i r r' q1 q2).2 j v v' q3 q4

/-- Values that lead to nothing that is owned. -/
inductive Cl : AV → Prop
  | int (k : IntKind) (n : Int) : Cl (.int k n)
  | bool (b : Bool) : Cl (.bool b)
  | str (l : List UInt8) : Cl (.str l)
  | nilS : Cl .nilS
  | nilP : Cl .nilP
  | nilF : Cl .nilF
  | nilI : Cl .nilI
  | emp : Cl .emp
  | agg (cs : List AV) (h : ∀ v ∈ cs, Cl v) : Cl (.agg cs)
  | tup (cs : List AV) (h : ∀ v ∈ cs, Cl v) : Cl (.tup cs)
  | rows (sz : Nat) (l : List (List AV)) (h : ∀ r ∈ l, ∀ v ∈ r, Cl v) : Cl (.rows sz l)
  | fp (cs : List AV) (h : ∀ v ∈ cs, Cl v) : Cl (.fp cs)
theorem Cl.noId {v : AV} (h : Cl v) : NoId v := by
  induction h with
  | int k n => intro h ρ ρ' Z x hr; cases hr; exact .int k n
  | bool b => intro h ρ ρ' Z x hr; cases hr; exact .bool b
  | str l => intro h ρ ρ' Z x hr; cases hr; exact .str l _ (by assumption)
  | nilS => intro h ρ ρ' Z x hr; cases hr; exact .nilS
  | nilP => intro h ρ ρ' Z x hr; cases hr; exact .nilP
  | nilF => intro h ρ ρ' Z x hr; cases hr; exact .nilF
  | nilI => intro h ρ ρ' Z x hr; cases hr; exact .nilI
  | emp => intro h ρ ρ' Z x hr; cases hr; exact .emp _ _
  | agg cs hc ih =>
    intro h ρ ρ' Z x hr
    cases hr with
    | agg _ vs hl h2 h3 => exact .agg cs vs hl h2 fun i v y q1 q2 => ih v (List.mem_of_getElem? q1) _ _ _ _ _ (h3 i v y q1 q2)
  | tup cs hc ih =>
    intro h ρ ρ' Z x hr
    cases hr with
    | tup _ vs hl h3 => exact .tup cs vs hl fun i v y q1 q2 => ih v (List.mem_of_getElem? q1) _ _ _ _ _ (h3 i v y q1 q2)
  | rows sz l hc ih =>
    intro h ρ ρ' Z x hr
    cases hr with
    | rows _ _ b o n c f hn hnc hz hw hcc hm hr => exact .rows sz l b o n c f hn hnc hz hw hcc hm fun i r j v q1 q2 => ih r (List.mem_of_getElem? q1) v (List.mem_of_getElem? q2) _ _ _ _ _ (hr i r j v q1 q2)
    | rowsN _ => exact .rowsN sz
    | rowsE _ a c => exact .rowsE sz a c
  | fp cs hc ih =>
    intro h ρ ρ' Z x hr
    cases hr with
    | fp _ b o f hz hcc hm hr => exact .fp cs b o f hz hcc hm fun i v q => ih v (List.mem_of_getElem? q) _ _ _ _ _ (hr i v q)

/-- A function that writes one block: what it hands back, and what the block holds then; Hs: what it looks at. -/
def SW (P : Program) (f : Nat) (args : List AV) (id : Nat) (b : Blk) (Hs : AH) (r : AV) (b' : Blk) : Prop :=
  ACalls P f args ((id, b) :: Hs) fun r' H' => r' = r ∧ H' = (id, b') :: Hs
theorem SW.frame {P : Program} {f : Nat} {args : List AV} {id : Nat} {b : Blk} {Hs : AH} {r : AV} {b' : Blk} (h : SW P f args id b Hs r b') {H : AH} (hg : hget H id = some b) (hs : Sub Hs H) : ACalls P f args H fun r' H' => r' = r ∧ H' = hset H id b' := by
  have s1 : Sub ((id, b) :: Hs) H := fun j c q => by
    simp only [hget] at q
    split at q
    · rename_i e1; subst e1; rw [← q]; exact hg
    · exact hs _ _ q
  refine ⟨h.1, fun w ρ Z xs g hr => (h.2 w ρ Z xs (g.forget s1) hr).mono fun e w' ⟨x, r', H', ρ', Z', a, g1, c, d, k1, k2⟩ => ?_⟩
  subst k1
  subst k2
  obtain ⟨q1, q2⟩ := g.frame s1 d g1 (HS' := hset H id b') fun j c q => by
    rw [hget_hset] at q
    split at q
    · rename_i e1
      rw [hg] at q
      left
      simp only [hget]
      rw [if_pos e1, ← q]
      rfl
    · rename_i e1
      simp only [hget]
      rw [if_neg e1, if_neg e1]
      cases hh : hget Hs j with
      | none => exact .inr ⟨q, rfl⟩
      | some c' => have := hs _ _ hh; rw [q] at this; exact .inl this.symm
  exact ⟨x, _, _, ρ', Z', a, q1, c, q2, rfl, rfl⟩
theorem SW.call {P : Program} {f : Nat} {args : List AV} {id : Nat} {b : Blk} {Hs : AH} {r : AV} {b' : Blk} (h : SW P f args id b Hs r b') {H : AH} {K : AV → AH → Prop} (hg : hget H id = some b) (hs : Sub Hs H) (k : hsetK H id b' fun H1 => K r H1) : callF P f args H K :=
  callF_of ((h.frame hg hs).mono fun r' H' ⟨a, c⟩ => by rw [a, c]; exact k.out)
theorem SW.draw {P : Program} {f : Nat} {args : List AV} {id : Nat} {b : Blk} {Hs : AH} {r : AV} {b' : Blk} (h : SW P f args id b Hs r b') {H0 D H : AH} {K : AV → AH → AH → Prop} (hD : hget D id = some b) (hs : Sub Hs H0) (hp : NoId r) (hb : BlkN b b') (k : hsetK H id b' fun H1 => K r (hdel D id) H1) : callG P f args H0 D H K :=
  ⟨.inr ⟨id, b, r, b', hD, ⟨hp, hb, Hs, hs, h⟩, k.out⟩⟩

/-! ### Arguments that a proof fills in -/
theorem fz_of {H Hc : AH} {v v' : AV} (h : Fz H Hc v v' := by (repeat' (first | exact Fz.refl _ | exact Fz.nil _ | assumption | refine Fz.aggL ?_ | refine Fz.tupL ?_ | refine FzL.cons ?_ ?_ | exact FzL.nil _ _ | refine Fz.rowsL ?_ | exact trivial | refine And.intro ?_ ?_)); (first | done | fail)) : Fz H Hc v v' := h
theorem sub_of {H Hc : AH} (h : Sub Hc H := by (repeat' (first | exact Sub.refl _ | assumption | exact Sub.nil _ | refine Sub.keep ?_ | refine Sub.skip ?_ (by first | assumption | (refine hget_none ?_; (try simp only [neAll, neAll_hset]); (repeat' apply And.intro) <;> first | omega | trivial | assumption | simp_all)) | refine Sub.del ?_ (by first | assumption | (refine hget_none ?_; (try simp only [neAll, neAll_hset]); (repeat' apply And.intro) <;> first | omega | trivial | assumption | simp_all)))); (first | done | fail)) : Sub Hc H := h
theorem cl_of {v : AV} (h : Cl v := by (repeat' (first | constructor | (intro v hv; simp at hv; done))); (first | done | fail)) : Cl v := h
end Go.Proofs.YtlmplofpclaokaaDoor

/- Loops: the frame is the one in which they begin, with what changes laid over it. -/
namespace Go.Proofs.YtlmplofpclaokaaDoor
set_option autoImplicit false
set_option linter.unusedVariables false
noncomputable def app (E L : FL) : FL := @List.rec (Nat × Option AV) (fun _ => FL) L (fun p _ ih => p :: ih) E
/-- A loop's invariant: a state, what changes of the frame, what is owned, the measure, what holds. -/
structure LI {S : Type} (ent : S → FL) (hp : S → AH) (μ : S → Nat) (P : S → Prop) (L0 : FL) (n : Nat) (L : FL) (H : AH) : Prop where
  out : ∃ s, n = μ s ∧ P s ∧ L = app (ent s) L0 ∧ H = hp s
theorem loopS {B : (Nat → FL → AH → Prop) → Nat → FL → AH → Prop} {L0 : FL} {H0 : AH} {S : Type} (ent : S → FL) (hp : S → AH) (μ : S → Nat) (P : S → Prop) (s0 : S) (h0 : P s0)
    (step : ∀ s, P s → B (LI ent hp μ P L0) (μ s) (app (ent s) L0) (hp s))
    (hc : coversZ H0 (hp s0) (app (ent s0) L0) L0 := by repeat (first | exact trivial | refine And.intro (Or.inl rfl) ?_ | refine And.intro (Or.inr (Exists.intro _ (And.intro rfl (Fz.refl _)))) ?_ | refine And.intro (Or.inr (Exists.intro _ (And.intro rfl (fz_eq (congrArg (AV.int _) (by omega)))))) ?_ | refine And.intro (Or.inr (Exists.intro _ (And.intro rfl (fz_eq (congrArg (AV.own _ _ _) (by (try dsimp only); (try simp only [List.length_append, List.length_map, List.length_cons, List.length_nil, List.length_take, List.length_set, List.length_replicate]); (try dsimp only); first | done | omega)))))) ?_)) (hs : Sub (hp s0) H0 := by exact sub_of) :
    ∃ I : Nat → FL → AH → Prop, WeakF (fun M Hk => ∃ n, I n M Hk) L0 H0 ∧ ∀ n L H, I n L H → B I n L H :=
  ⟨LI ent hp μ P L0, ⟨_, _, hc, hs, _, ⟨s0, rfl, h0, rfl, rfl⟩⟩, by rintro n L H ⟨s, rfl, h, rfl, rfl⟩; exact step s h⟩
theorem nextS {S : Type} {ent : S → FL} {hp : S → AH} {μ : S → Nat} {P : S → Prop} {L0 L : FL} {H : AH} {n : Nat} (s : S)
    (hc : coversZ H (hp s) (app (ent s) L0) L) (hs : Sub (hp s) H) (hm : μ s < n) (h : P s) :
    ∃ M Hk, coversZ H Hk M L ∧ Sub Hk H ∧ ∃ m, m < n ∧ LI ent hp μ P L0 m M Hk := ⟨_, _, hc, hs, _, hm, ⟨s, rfl, h, rfl, rfl⟩⟩
/-- .. with a smaller frame: what is looked at from here on. -/
theorem loopM {B : (Nat → FL → AH → Prop) → Nat → FL → AH → Prop} {L0 : FL} {H0 : AH} {S : Type} (L1 : FL) (ent : S → FL) (hp : S → AH) (μ : S → Nat) (P : S → Prop) (s0 : S)
    (hc : coversZ H0 (hp s0) (app (ent s0) L1) L0) (hs : Sub (hp s0) H0) (h0 : P s0)
    (step : ∀ s, P s → B (LI ent hp μ P L1) (μ s) (app (ent s) L1) (hp s)) :
    ∃ I : Nat → FL → AH → Prop, WeakF (fun M Hk => ∃ n, I n M Hk) L0 H0 ∧ ∀ n L H, I n L H → B I n L H :=
  ⟨LI ent hp μ P L1, ⟨_, _, hc, hs, _, ⟨s0, rfl, h0, rfl, rfl⟩⟩, by rintro n L H ⟨s, rfl, h, rfl, rfl⟩; exact step s h⟩
theorem loopL {B : (Nat → FL → AH → Prop) → Nat → FL → AH → Prop} {L0 : FL} {H0 : AH} (L1 : FL) (d a N : Nat) (P : Nat → Prop)
    (hc : coversZ H0 H0 ((d, some (.int .i64 (a : Nat))) :: L1) L0) (ha : a ≤ N) (h0 : P a)
    (step : ∀ i, i ≤ N → P i → B (LI (fun i : Nat => [(d, some (.int .i64 (i : Nat)))]) (fun _ => H0) (fun i => N - i) (fun i => i ≤ N ∧ P i) L1) (N - i) ((d, some (.int .i64 (i : Nat))) :: L1) H0) :
    ∃ I : Nat → FL → AH → Prop, WeakF (fun M Hk => ∃ n, I n M Hk) L0 H0 ∧ ∀ n L H, I n L H → B I n L H :=
  loopM (S := Nat) L1 (fun i => [(d, some (.int .i64 (i : Nat)))]) (fun _ => H0) (fun i => N - i) (fun i => i ≤ N ∧ P i) a hc (Sub.refl _) ⟨ha, h0⟩ (fun i h => step i h.1 h.2)
theorem fz_eq {H Hc : AH} {r v : AV} (h : r = v) : Fz H Hc r v := by rw [h]; exact .refl _
/-- .. that counts from a to N, and owns nothing new. -/
theorem loopN {B : (Nat → FL → AH → Prop) → Nat → FL → AH → Prop} {L0 : FL} {H0 : AH} (d a N : Nat) (P : Nat → Prop) (ha : a ≤ N) (h0 : P a)
    (step : ∀ i, i ≤ N → P i → B (LI (fun i : Nat => [(d, some (.int .i64 (i : Nat)))]) (fun _ => H0) (fun i => N - i) (fun i => i ≤ N ∧ P i) L0) (N - i) ((d, some (.int .i64 (i : Nat))) :: L0) H0)
    (hc : coversZ H0 H0 ((d, some (.int .i64 (a : Nat))) :: L0) L0 := by repeat (first | exact trivial | refine And.intro (Or.inl rfl) ?_ | refine And.intro (Or.inr (Exists.intro _ (And.intro rfl (Fz.refl _)))) ?_ | refine And.intro (Or.inr (Exists.intro _ (And.intro rfl (fz_eq (congrArg (AV.int _) (by omega)))))) ?_ | refine And.intro (Or.inr (Exists.intro _ (And.intro rfl (fz_eq (congrArg (AV.own _ _ _) (by (try dsimp only); (try simp only [List.length_append, List.length_map, List.length_cons, List.length_nil, List.length_take, List.length_set, List.length_replicate]); (try dsimp only); first | done | omega)))))) ?_)) :
    ∃ I : Nat → FL → AH → Prop, WeakF (fun M Hk => ∃ n, I n M Hk) L0 H0 ∧ ∀ n L H, I n L H → B I n L H :=
  loopS (S := Nat) (fun i => [(d, some (.int .i64 (i : Nat)))]) (fun _ => H0) (fun i => N - i) (fun i => i ≤ N ∧ P i) a ⟨ha, h0⟩ (fun i h => step i h.1 h.2) hc (Sub.refl _)
theorem nextN {d N i : Nat} {P : Nat → Prop} {H0 H : AH} {L0 L : FL} (hc : coversZ H H0 ((d, some (.int .i64 ((i + 1 : Nat) : Int))) :: L0) L) (hs : Sub H0 H) (h1 : i < N) (h2 : P (i + 1)) :
    ∃ M Hk, coversZ H Hk M L ∧ Sub Hk H ∧ ∃ m, m < N - i ∧ LI (fun i : Nat => [(d, some (.int .i64 (i : Nat)))]) (fun _ => H0) (fun i => N - i) (fun i => i ≤ N ∧ P i) L0 m M Hk :=
  nextS (S := Nat) (ent := fun i => [(d, some (.int .i64 (i : Nat)))]) (hp := fun _ => H0) (i + 1) hc hs (by show N - (i + 1) < N - i; omega) ⟨h1, h2⟩
theorem ACalls.fzK {P : Program} {f : Nat} {args : List AV} {H : AH} {v : AV} (h : ACalls P f args H fun r H' => Fz H' [] r v) : ACalls P f args H fun r _ => r = v :=
  h.freeze fun r H' a => ⟨v, [], Sub.nil _, a, rfl⟩
/-- Where ways meet: one frame, and what is known there. -/
structure JP (M : FL) (Hk : AH) (P : Prop) (L : FL) (H : AH) : Prop where
  l : L = M
  h : H = Hk
  p : P
theorem joinP {X Y : Prop} {F : (FL → AH → Prop) → Prop} {G : FL → AH → Prop} (M : FL) (Hk : AH) (P : Prop) (h1 : F (JP M Hk P)) (h2 : P → G M Hk) : (X ∨ ∃ J : FL → AH → Prop, F J ∧ ∀ M Hk, J M Hk → G M Hk) ∨ Y :=
  .inl (.inr ⟨JP M Hk P, h1, fun M' Hk' ⟨a, b, c⟩ => by rw [a, b]; exact h2 c⟩)
theorem metP {M L : FL} {Hk H : AH} {P : Prop} (hc : coversZ H Hk M L) (hs : Sub Hk H) (hp : P) : ∃ M' Hk', coversZ H Hk' M' L ∧ Sub Hk' H ∧ JP M Hk P M' Hk' := ⟨M, Hk, hc, hs, rfl, rfl, hp⟩
/-- A function that writes nothing, where more is owned. -/
theorem ACalls.sup {P : Program} {f : Nat} {args : List AV} {Hs H : AH} {K : AV → Prop} (h : ACalls P f args Hs fun r H' => K r ∧ H' = Hs) (hs : Sub Hs H) : ACalls P f args H fun r H' => K r ∧ H' = H := by
  refine ⟨h.1, fun w ρ Z xs g hr => (h.2 w ρ Z xs (g.forget hs) hr).mono fun e w' ⟨x, r', H', ρ', Z', a, g1, c, d, k1, k2⟩ => ?_⟩
  subst k2
  obtain ⟨q1, q2⟩ := g.frame hs d g1 (HS' := H) fun j c q => by
    cases hh : hget H' j with
    | none => exact .inr ⟨q, rfl⟩
    | some c' => have := hs _ _ hh; rw [q] at this; exact .inl this.symm
  exact ⟨x, _, _, ρ', Z', a, q1, c, q2, k1, rfl⟩
/-- A list that is built: nil, or owned. -/
def accV (o : Option Nat) (sz n : Nat) : AV := match o with
  | none => .nilS
  | some id => .own id sz 0 n
def accH (o : Option Nat) (sz : Nat) (l : List (List AV)) (H : AH) : AH := match o with
  | none => H
  | some id => (id, .rows sz l) :: H
theorem accFz {o : Option Nat} {sz n : Nat} {l l' : List (List AV)} {H Hc : AH} (hn : n = l.length) (h0 : o = none → l = []) (hd : ∀ id, o = some id → hget Hc id = none) (h : FzR (accH o sz l H) Hc l l') (hw : ∀ r ∈ l', r.length = sz) : Fz (accH o sz l H) Hc (accV o sz n) (.rows sz l') := by
  subst hn
  cases o with
  | none =>
    have := h0 rfl; subst this
    have : l' = [] := List.eq_nil_of_length_eq_zero h.spec.1.symm
    subst this; exact .nil sz
  | some id => exact Fz.ownL hget_self (hd id rfl) h hw
theorem map_w {α : Type} {f : α → List AV} {sz : Nat} (h : ∀ x, (f x).length = sz) (l : List α) : ∀ r ∈ l.map f, r.length = sz := fun r hr => by
  obtain ⟨x, _, rfl⟩ := List.mem_map.1 hr; exact h x
theorem take_map_succ {α β : Type} (f : α → β) (l : List α) (i : Nat) (h : i < l.length) : (l.take (i + 1)).map f = (l.take i).map f ++ [f l[i]] := by
  simp only [List.take_add_one, List.map_append, List.getElem?_eq_getElem h, Option.toList_some, List.map_cons, List.map_nil]
/-- A list's rows, by what they stand for. -/
theorem row_get {α : Type} {f : α → List AV} {l : List α} {i : Nat} (h : i < l.length) : (l.map f).getD (Int.toNat (i : Nat)) [] = f l[i] := by
  rw [Int.toNat_natCast]; simp [List.getD, h]
theorem readS_all {H : AH} {id sz n : Nat} {l : List (List AV)} (hg : hget H id = some (.rows sz l)) (h : n = l.length) : readS H false sz (.own id sz 0 n) = some l := by
  simp [readS, hg, h]
theorem cast_max (a b : Nat) : ((max a b : Nat) : Int) = max (a : Int) (b : Int) := by omega
theorem cast_min (a b : Nat) : ((min a b : Nat) : Int) = min (a : Int) (b : Int) := by omega
end Go.Proofs.YtlmplofpclaokaaDoor

/- The kit's contracts of the library's functions, as contracts of this layer. -/
namespace Go.Proofs.YtlmplofpclaokaaDoor
set_option autoImplicit false
open Go.RowKit

theorem hty_lt {h : Array Obj} {b : Nat} {t : Nat × TypeId} (q : hty h b = some t) : b < h.size := by
  unfold hty at q
  split at q
  · rename_i hx
    exact (Array.getElem?_eq_some_iff.1 hx).1
  · cases q
theorem Below.hty {w w' : World} (q : Below w.heap.size w w') (b : Nat) (t : Nat × TypeId) (h : hty w.heap b = some t) : Go.Proofs.YtlmplofpclaokaaDoor.hty w'.heap b = some t := by
  have := q.block b (hty_lt h)
  unfold Go.Proofs.YtlmplofpclaokaaDoor.hty at h ⊢
  rw [this]
  exact h
/-- A function of the library that leaves all that was there as it was. -/
theorem ACalls.belowT {P : Program} {f : Nat} {args : List AV} {v : AV} (hc : callable P f = true)
    (h : ∀ (w : World) (ρ : Loc) (Z : Nat → Prop) (xs : List Value), TabG w.heap Z → (∀ b, Z b → b < w.heap.size) → RlL w.heap ρ Z args xs → Calls P f xs.toArray w fun e w' => ∃ x, e = .returned x ∧ Rl w'.heap ρ Z v x ∧ Below w.heap.size w w') :
    ACalls P f args [] fun r _ => r = v := by
  refine ⟨hc, fun w ρ Z xs g hr => (h w ρ Z xs g.tab g.zlt hr).mono fun e w' ⟨x, e1, e2, e3⟩ => ⟨x, v, [], ρ, Z, e1, ?_, e2, ?_, rfl⟩⟩
  · refine ⟨fun _ _ q => (by cases q), fun _ _ _ _ _ _ _ _ q => (by cases q), fun b ⟨_, _, _, q, _⟩ => (by cases q), fun b q => Nat.lt_of_lt_of_le (g.zlt b q) e3.size, g.ids, fun id b o q => ?_, g.tab.of (fun _ q => q) (fun b q => e3.block b (g.zlt b q))⟩
    obtain ⟨h1, m, h2⟩ := g.ty id b o q
    exact ⟨h1, m, Below.hty e3 b _ h2⟩
  · exact ⟨e3.size, fun b hb _ => e3.block b hb, fun b t q => Below.hty e3 b t q, fun _ q => q, fun _ q => .inl q, fun _ _ q => q, fun b ⟨_, _, _, q, _⟩ => (by cases q), e3.os, e3.output, e3.tape⟩
theorem ACalls.below {P : Program} {f : Nat} {args : List AV} {v : AV} (hc : callable P f = true)
    (h : ∀ (w : World) (ρ : Loc) (Z : Nat → Prop) (xs : List Value), RlL w.heap ρ Z args xs → Calls P f xs.toArray w fun e w' => ∃ x, e = .returned x ∧ Rl w'.heap ρ Z v x ∧ Below w.heap.size w w') :
    ACalls P f args [] fun r _ => r = v := ACalls.belowT hc fun w ρ Z xs _ _ => h w ρ Z xs
theorem RlL.two {h : Array Obj} {ρ : Loc} {Z : Nat → Prop} {a b : AV} {xs : List Value} (q : RlL h ρ Z [a, b] xs) : ∃ x y, xs = [x, y] ∧ Rl h ρ Z a x ∧ Rl h ρ Z b y := by
  obtain ⟨hl, hr⟩ := q
  match xs, hl with
  | [x, y], _ => exact ⟨x, y, rfl, hr 0 a x rfl rfl, hr 1 b y rfl rfl⟩
theorem RlL.three {h : Array Obj} {ρ : Loc} {Z : Nat → Prop} {a b c : AV} {xs : List Value} (q : RlL h ρ Z [a, b, c] xs) : ∃ x y z, xs = [x, y, z] ∧ Rl h ρ Z a x ∧ Rl h ρ Z b y ∧ Rl h ρ Z c z := by
  obtain ⟨hl, hr⟩ := q
  match xs, hl with
  | [x, y, z], _ => exact ⟨x, y, z, rfl, hr 0 a x rfl rfl, hr 1 b y rfl rfl, hr 2 c z rfl rfl⟩
theorem RlL.one {h : Array Obj} {ρ : Loc} {Z : Nat → Prop} {a : AV} {xs : List Value} (q : RlL h ρ Z [a] xs) : ∃ x, xs = [x] ∧ Rl h ρ Z a x := by
  obtain ⟨hl, hr⟩ := q
  match xs, hl with
  | [x], _ => exact ⟨x, rfl, hr 0 a x rfl rfl⟩
theorem ACalls.sub {P : Program} {f : Nat} {args : List AV} {H H1 : AH} {v : AV} (h : ACalls P f args H fun r H' => r = v ∧ Sub H1 H') : ACalls P f args H fun r H' => r = v ∧ H' = H1 :=
  h.freeze fun r H' ⟨a, b⟩ => ⟨r, H1, b, .refl _, a, rfl⟩
theorem sub_hset {H H' : AH} {id : Nat} {b : Blk} (h1 : hget H' id = some b) (h2 : ∀ j c, j ≠ id → hget H j = some c → hget H' j = some c) : Sub (hset H id b) H' := fun j c q => by
  rw [hget_hset] at q
  split at q
  · rename_i e
    subst e
    cases hh : hget H j with
    | none => rw [hh] at q; cases q
    | some d => rw [hh] at q; simp only [Option.map_some, Option.some.injEq] at q; rw [← q]; exact h1
  · rename_i e; exact h2 j c e q

end Go.Proofs.YtlmplofpclaokaaDoor
