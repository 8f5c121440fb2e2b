/- Texts of this proof, one behind the other: SimFast, SimFast2, SimNil, SimAuto, SimSW, NameSpec, StrSpec, SimLoop, PathNum, PathIter, ValMath, FitMath, PathStepMath, PrimSpec, RPrimSpec, TypSpec, TypSpec2, TypSpec3, TypFind. -/
import Derived.Test.YtjaigpidmngaaaaGreatPkT3
set_option autoImplicit false
set_option linter.unusedSimpArgs false
set_option linter.unusedVariables false
namespace Go.Proofs.YtjaigpidmngaaaaGreat
abbrev FL := List (Nat × Option AV)
noncomputable def FL.get (L : FL) (t : Nat) : Option AV := @List.rec (Nat × Option AV) (fun _ => Option AV) none (fun p _ ih => match Nat.beq t p.1 with
    | true => p.2
    | false => ih) L
noncomputable def frm (L : FL) : Fr := fun t => L.get t
theorem FL.get_cons (d t : Nat) (x : Option AV) (L : FL) : FL.get ((d, x) :: L) t = if t = d then x else L.get t := by
  show (match Nat.beq t d with | true => x | false => L.get t) = _
  cases h : Nat.beq t d with
  | true => rw [if_pos (Nat.eq_of_beq_eq_true h)]
  | false => rw [if_neg (fun e => by rw [e, Nat.beq_refl] at h; cases h)]
theorem frm_set (L : FL) (d : Nat) (x : AV) : frm ((d, some x) :: L) = (frm L).set d x := by
  funext t; simp only [frm, FL.get_cons, Fr.set]
theorem frm_clr (L : FL) (d : Nat) : frm ((d, none) :: L) = (frm L).clr d := by
  funext t; simp only [frm, FL.get_cons, Fr.clr]
def putL (L : FL) (d : Option Nat) (x : AV) : FL := match d with | some d => (d, some x) :: L | none => L
def delL (L : FL) (d : Option Nat) : FL := match d with | some d => (d, none) :: L | none => L
def putK (L : FL) (d : Option Nat) (x : AV) (k : FL → Prop) : Prop := match d with | some d => k ((d, some x) :: L) | none => k L
def delK (L : FL) (d : Option Nat) (k : FL → Prop) : Prop := match d with | some d => k ((d, none) :: L) | none => k L
theorem putK_eq (L : FL) (d : Option Nat) (x : AV) (k : FL → Prop) : putK L d x k = k (putL L d x) := by cases d <;> rfl
theorem delK_eq (L : FL) (d : Option Nat) (k : FL → Prop) : delK L d k = k (delL L d) := by cases d <;> rfl
theorem frm_put (L : FL) (d : Option Nat) (x : AV) : frm (putL L d x) = (frm L).put d x := by cases d with | none => rfl | some d => exact frm_set L d x
theorem frm_del (L : FL) (d : Option Nat) : frm (delL L d) = (frm L).del d := by cases d with | none => rfl | some d => exact frm_clr L d
noncomputable def memN (t : Nat) (l : List Nat) : Bool := @List.rec Nat (fun _ => Bool) false (fun a _ ih => match Nat.beq t a with
  | true => true
  | false => ih) l
theorem memN_mem {t : Nat} : ∀ {l : List Nat}, memN t l = true → t ∈ l
  | [], h => by cases h
  | a :: l, h => by
    have h' : (match Nat.beq t a with | true => true | false => memN t l) = true := h
    split at h'
    · rename_i e; rw [Nat.eq_of_beq_eq_true e]; exact List.mem_cons_self
    · exact List.mem_cons_of_mem _ (memN_mem h')
def coversS (H Hc : AH) : List Nat → FL → FL → Prop
  | _, [], _ => True
  | seen, (t, some v') :: r, L => (memN t seen = true ∨ ∃ v, L.get t = some v ∧ Fz H Hc v v') ∧ coversS H Hc (t :: seen) r L
  | seen, (t, none) :: r, L => coversS H Hc (t :: seen) r L
abbrev coversZ (H Hc : AH) (M L : FL) : Prop := coversS H Hc [] M L
theorem coversS_sub {H Hc : AH} : ∀ (M L : FL) (seen : List Nat), coversS H Hc seen M L → ∀ t v', t ∉ seen → frm M t = some v' → ∃ v, frm L t = some v ∧ Fz H Hc v v'
  | [], L, _, _, t, v, _, h => by cases h
  | (d, some x) :: M, L, seen, hc, t, v, hn, h => by
    simp only [frm, FL.get_cons] at h
    split at h
    · rename_i e
      simp only [Option.some.injEq] at h
      rw [← h, e]
      rcases hc.1 with q | q
      · exact absurd (memN_mem q) (e ▸ hn)
      · exact q
    · rename_i e
      exact coversS_sub M L _ hc.2 t v (by simp [e, hn]) h
  | (d, none) :: M, L, seen, hc, t, v, hn, h => by
    simp only [frm, FL.get_cons] at h
    split at h
    · cases h
    · rename_i e
      exact coversS_sub M L _ hc t v (by simp [e, hn]) h
theorem coversZ_sub {H Hc : AH} (M L : FL) (h : coversZ H Hc M L) : SubFz H Hc (frm M) (frm L) := fun t v q => coversS_sub M L [] h t v (by simp) q
/-! ### Operations, by what follows -/
def evX (L : FL) (x : X) (k : AV → Prop) : Prop :=
  match x with
  | .t n => match L.get n with
    | some v => k v
    | none => False
  | .c v => k v
  | .bad => False
def evXs (L : FL) : List X → (List AV → Prop) → Prop
  | [], k => k []
  | x :: xs, k => evX L x fun v => evXs L xs fun vs => k (v :: vs)
def evX3 (L : FL) : List (Nat × Nat × X) → (List (Nat × Nat × AV) → Prop) → Prop
  | [], k => k []
  | (o, z, x) :: xs, k => evX L x fun v => evX3 L xs fun vs => k ((o, z, v) :: vs)
def evX2 (L : FL) : List (Nat × X) → (List (Nat × AV) → Prop) → Prop
  | [], k => k []
  | (i, x) :: xs, k => evX L x fun v => evX2 L xs fun vs => k ((i, v) :: vs)
def evXO (L : FL) (d : Int) (x : Option X) (k : Int → Prop) : Prop :=
  match x with
  | none => k d
  | some x => evX L x fun v => match v with
    | .int _ n => k n
    | _ => False
def oA {α : Type} (o : Option α) (k : α → Prop) : Prop :=
  match o with
  | some x => k x
  | none => False
def kEq : IntKind → IntKind → Bool
  | .i8, .i8 => true
  | .i16, .i16 => true
  | .i32, .i32 => true
  | .i64, .i64 => true
  | .u8, .u8 => true
  | .u16, .u16 => true
  | .u32, .u32 => true
  | .u64, .u64 => true
  | _, _ => false
theorem kEq_eq {a b : IntKind} (h : kEq a b = true) : a = b := by cases a <;> cases b <;> first | rfl | cases h
def kG (a b : IntKind) (k : Prop) : Prop := match kEq a b with
  | true => k
  | false => False
def nG (a b : Nat) (k : Prop) : Prop := match Nat.beq a b with
  | true => k
  | false => False
theorem kG_of {a b : IntKind} {k : Prop} (h : kG a b k) : a = b ∧ k := by
  unfold kG at h
  split at h
  · rename_i e; exact ⟨kEq_eq e, h⟩
  · exact h.elim
theorem nG_of {a b : Nat} {k : Prop} (h : nG a b k) : a = b ∧ k := by
  unfold nG at h
  split at h
  · rename_i e; exact ⟨Nat.eq_of_beq_eq_true e, h⟩
  · exact h.elim
structure rng (w : Int) (k : Int → Prop) : Prop where
  out : k w
theorem rng_any {w : Int} {k : Int → Prop} (h : k w) : rng w k := ⟨h⟩
theorem rng_id {w n : Int} {k : Int → Prop} (e : w = n) (h : k n) : rng w k := by rw [e]; exact ⟨h⟩
theorem rng_i64 {n : Int} {k : Int → Prop} (h1 : -9223372036854775808 ≤ n) (h2 : n ≤ 9223372036854775807) (h : k n) : rng (IntKind.wrap .i64 n) k := rng_id (wrap_id h1 h2) h
theorem rng_u8 {n : Int} {k : Int → Prop} (h1 : 0 ≤ n) (h2 : n ≤ 255) (h : k n) : rng (IntKind.wrap .u8 n) k := rng_id (by simp only [IntKind.wrap, IntKind.bits, IntKind.signed, Bool.false_and, Bool.false_eq_true, if_false]; omega) h
theorem rng_u64 {n : Int} {k : Int → Prop} (h1 : 0 ≤ n) (h2 : n ≤ 18446744073709551615) (h : k n) : rng (IntKind.wrap .u64 n) k := rng_id (by simp only [IntKind.wrap, IntKind.bits, IntKind.signed, Bool.false_and, Bool.false_eq_true, if_false]; omega) h
structure hsetK (H : AH) (id : Nat) (b : Blk) (k : AH → Prop) : Prop where
  out : k (hset H id b)
structure hsetN (H : AH) (id : Nat) (b : Blk) (k : AH → Prop) : Prop where
  out : k (hset H id b)
theorem hsetN_of {H : AH} {id : Nat} {b b' : Blk} {k : AH → Prop} (e : b = b') (h : hsetK H id b' k) : hsetN H id b k := ⟨by rw [e]; exact h.out⟩
theorem hsetK_any {H : AH} {id : Nat} {b : Blk} {k : AH → Prop} (h : k (hset H id b)) : hsetK H id b k := ⟨h⟩
theorem hsetK_top {H : AH} {id : Nat} {b c : Blk} {k : AH → Prop} (h : k ((id, c) :: H)) : hsetK ((id, b) :: H) id c k := ⟨by rw [show hset ((id, b) :: H) id c = (id, c) :: H from by simp [hset]]; exact h⟩
theorem hsetK_down {T : AH} {i id : Nat} {b c : Blk} {k : AH → Prop} (h : i ≠ id) (h2 : hsetK T id b fun T' => k ((i, c) :: T')) : hsetK ((i, c) :: T) id b k :=
  ⟨by rw [show hset ((i, c) :: T) id b = (i, c) :: hset T id b from by simp only [hset]; rw [if_neg (fun e => h e.symm)]]; exact h2.out⟩
def opF (L : FL) (H : AH) (co : CO) (k : Rs → Prop) : Prop :=
  match co with
  | .mv x => evX L x fun v => k (.val v)
  | .pick c a b => evX L c fun v => match v with
    | .bool q => match q with
      | true => evX L a fun v => k (.val v)
      | false => evX L b fun v => k (.val v)
    | _ => False
  | .box T x => evX L x fun v => allCells v.cells = true ∧ k (.fresh T (.rows v.cells.length [v.cells]) (fun id => .ptr id v.cells.length 0 0) H)
  | .allc T zs => k (.fresh T (.rows zs.length [zs]) (fun id => .ptr id zs.length 0 0) H)
  | .load n x => evX L x fun v => match v with
    | .fp cs => oA (partA cs 0 n) fun r => k (.val r)
    | .ptr id sz i j => ∃ l r, hget H id = some (.rows sz l) ∧ l[i]? = some r ∧ oA (partA (r.drop j) 0 n) fun v => k (.val v)
    | _ => False
  | .store n x y => evX L x fun v => evX L y fun z => match v with
    | .ptr id sz i j => ∃ l r, hget H id = some (.rows sz l) ∧ l[i]? = some r ∧ z.cells.length = n ∧ allCells z.cells = true ∧ j + n ≤ r.length ∧ hsetN H id (.rows sz (l.set i (over r j z.cells))) fun H' => k (.upd H')
    | _ => False
  | .faddr off x => evX L x fun v => match v with
    | .ptr id sz i j => k (.val (.ptr id sz i (j + off)))
    | .fp cs => k (.val (.fp (cs.drop off)))
    | _ => False
  | .iaddr sz x i => evX L x fun v => evX L i fun w => match w with
    | .int _ n => match v with
      | .rows sz' l => nG sz' sz ((0 ≤ n ∧ n < l.length) ∧ k (.val (.fp (l.getD n.toNat []))))
      | .own id sz' lo hi => nG sz' sz ((0 ≤ n ∧ n < ((hi - lo : Nat) : Int)) ∧ k (.val (.ptr id sz (lo + n.toNat) 0)))
      | _ => False
    | _ => False
  | .iarr len sz x i => evX L x fun v => evX L i fun w => match w with
    | .int _ n => (0 ≤ n ∧ n < len) ∧ match v with
      | .ptr id z a j => k (.val (.ptr id z a (j + n.toNat * sz)))
      | .fp cs => k (.val (.fp (cs.drop (n.toNat * sz))))
      | _ => False
    | _ => False
  | .field off n x => evX L x fun v => match v with
    | .agg cs => oA (partA cs off n) fun r => k (.val r)
    | _ => False
  | .idx x i => evX L x fun v => evX L i fun w => match v with
    | .str l => match w with
      | .int _ n => (0 ≤ n ∧ n < l.length) ∧ k (.val (.int .u8 ((l.getD n.toNat 0).toNat : Int)))
      | _ => False
    | _ => False
  | .idxA len sz n x i => evX L x fun v => evX L i fun w => match v with
    | .agg cs => match w with
      | .int _ a => (0 ≤ a ∧ a < len) ∧ oA (partA cs (a.toNat * sz) n) fun r => k (.val r)
      | _ => False
    | _ => False
  | .bin op x y => evX L x fun a => evX L y fun b => match a with
    | .int ka m => match b with
      | .int kb n => match op with
        | .quo => kG ka kb (n ≠ 0 ∧ rng (IntKind.wrap ka (m.tdiv n)) fun z => k (.val (.int ka z)))
        | .rem => kG ka kb (n ≠ 0 ∧ k (.val (.int ka (m.tmod n))))
        | .shl => 0 ≤ n ∧ rng (IntKind.wrap ka (m * 2 ^ (min n.toNat ka.bits))) fun z => k (.val (.int ka z))
        | .shr => 0 ≤ n ∧ k (.val (.int ka (m.fdiv (2 ^ (min n.toNat ka.bits)))))
        | .add => kG ka kb (rng (IntKind.wrap ka (m + n)) fun z => k (.val (.int ka z)))
        | .sub => kG ka kb (rng (IntKind.wrap ka (m - n)) fun z => k (.val (.int ka z)))
        | .mul => kG ka kb (rng (IntKind.wrap ka (m * n)) fun z => k (.val (.int ka z)))
        | op => kG ka kb (oA (binInt op ka m n) fun r => k (.val r))
      | _ => False
    | .str p => match b with
      | .str q => match op with
        | .add => ((p.length + q.length : Nat) : Int) ≤ 9223372036854775807 ∧ k (.val (.str (p ++ q)))
        | op => oA (binStr op p q) fun r => k (.val r)
      | _ => False
    | _ => False
  | .beq neg x y => evX L x fun a => evX L y fun b => match a with
    | .bool p => match b with
      | .bool q => k (.val (.bool (match neg with | true => !(p == q) | false => (p == q))))
      | _ => False
    | _ => False
  | .ncmpS neg x => evX L x fun a => match a with
    | .nilS => k (.val (.bool (match neg with | true => false | false => true)))
    | .own _ _ _ _ => k (.val (.bool (match neg with | true => true | false => false)))
    | .rows _ l => l ≠ [] ∧ k (.val (.bool (match neg with | true => true | false => false)))
    | _ => False
  | .ncmpP neg x => evX L x fun a => oA (isNilP a) fun b => k (.val (.bool (match neg with | true => !b | false => b)))
  | .aeq neg sh x y => evX L x fun a => evX L y fun b => match a with
    | .agg xs => match b with
      | .agg ys => ∃ r, eqCells sh xs ys = some r ∧ k (.val (.bool (match neg with | true => !r | false => r)))
      | _ => False
    | _ => False
  | .un op x => evX L x fun a => oA (unV op a) fun r => k (.val r)
  | .conv kd x => evX L x fun a => match a with
    | .int _ n => rng (IntKind.wrap kd n) fun z => k (.val (.int kd z))
    | _ => False
  | .convS x => evX L x fun a => match a with
    | .str l => k (.val (.str l))
    | _ => False
  | .bytesS x => evX L x fun v => ∃ ys l, readS H false 1 v = some ys ∧ bytesA ys = some l ∧ k (.val (.str l))
  | .strB x => evX L x fun v => match v with
    | .str l => k (.val (.rows 1 (l.map fun c => [.int .u8 (c.toNat : Int)])))
    | _ => False
  | .ext e xs => evXs L xs fun vs => oA (extA e vs) fun v => k (.val v)
  | .build zs parts => evX3 L parts fun ps => ∃ cs, overs zs ps = some cs ∧ allCells cs = true ∧ k (.val (.agg cs))
  | .bslice T sz n zs parts => evX2 L parts fun ps => ∃ l, setRows sz (List.replicate n zs) ps = some l ∧ l.all allCells = true ∧
      match n with
      | 0 => k (.fresh T (.rows sz []) (fun id => .own id sz 0 0) H)
      | _ + 1 => k (.val (.rows sz l))
  | .bsliceO T sz n zs parts => evX2 L parts fun ps => ∃ l, setRows sz (List.replicate n zs) ps = some l ∧ l.all allCells = true ∧ k (.fresh T (.rows sz l) (fun id => .own id sz 0 n) H)
  | .slice kk x lo hi => evX L x fun v => oA (lenA kk.isNone v) fun n => evXO L 0 lo fun a => evXO L n hi fun b => (0 ≤ a ∧ a ≤ b ∧ b ≤ n) ∧
      match v with
      | .str l => k (.val (.str ((l.take b.toNat).drop a.toNat)))
      | .rows sz l => kk = some sz ∧ k (.val (.rows sz ((l.take b.toNat).drop a.toNat)))
      | .nilS => k (.val .nilS)
      | .own id sz l _ => kk = some sz ∧ k (.val (.own id sz (l + a.toNat) (l + b.toNat)))
      | _ => False
  | .mks T sz bytes zs n => evX L n fun v => match v with
    | .int _ a => (0 ≤ a ∧ a * bytes ≤ 140737488355328) ∧ k (.fresh T (.rows sz (List.replicate a.toNat zs)) (fun id => .own id sz 0 a.toNat) H)
    | _ => False
  | .len str x => evX L x fun v => oA (lenA str v) fun n => k (.val (.int .i64 n))
  | .append T str sz bytes x y => evX L x fun v => evX L y fun z => match v with
    | .nilS => ∃ ys, readS H str sz z = some ys ∧ ys.length * bytes ≤ 140737488355328 ∧ (ys = [] → k (.val .nilS)) ∧ (ys ≠ [] → k (.fresh T (.rows sz ys) (fun id => .own id sz 0 ys.length) H))
    | .own id sz' lo hi => ∃ xs ys, readS H false sz (.own id sz' lo hi) = some xs ∧ readS H str sz z = some ys ∧ sz' = sz ∧ lo = 0 ∧ tag id = T ∧ (xs.length + ys.length) * bytes ≤ 140737488355328 ∧
        k (.fresh T (.rows sz (xs ++ ys)) (fun id => .own id sz 0 (xs.length + ys.length)) (hdel H id))
    | .emp => ∃ ys, readS H str sz z = some ys ∧ ys.length * bytes ≤ 140737488355328 ∧ (ys = [] → k (.val .emp)) ∧ (ys ≠ [] → k (.fresh T (.rows sz ys) (fun id => .own id sz 0 ys.length) H))
    | _ => False
  | .mm mx xs => evXs L xs fun vs => oA (mm2 mx vs) fun v => k (.val v)
  | .extr x i => evX L x fun v => match v with
    | .tup vs => oA (vs[i]?) fun r => k (.val r)
    | _ => False
  | .call f xs => evXs L xs fun vs => k (.call f vs)
  | .callv g xs => evX L g fun c => evXs L xs fun vs => match c with
    | .clo f first caps => k (.call f (first ++ vs ++ caps))
    | .yld id => k (.yield id vs)
    | _ => False
  | .mkfn f first caps => evXs L first fun us => evXs L caps fun vs => k (.val (.clo f us vs))
  | .idu x => evX L x fun v => match v with
    | .nilP => k (.val .nilP)
    | .ptr id sz i j => ∃ l, hget H id = some (.rows sz l) ∧ i < l.length ∧ j < sz ∧ k (.val (.ptr id sz i j))
    | _ => False
  | .idf als x => evX L x fun v => match v with
    | .nilP => k (.val .nilP)
    | .ptr id sz i j => ∃ l, hget H id = some (.rows sz l) ∧ ∃ u, tag id = u ∧ (i = 0 ∧ 0 < l.length) ∧ als.contains (u, sz, j) = true ∧ k (.val (.ptr id sz 0 j))
    | _ => False
  | .peq neg x y => evX L x fun a => evX L y fun b => match a with
    | .ptr id sz i j => match b with
      | .ptr id' sz' i' j' => (id = id' ∧ sz = sz' ∧ i = i' ∧ j = j') ∧ k (.val (.bool (!neg)))
      | _ => False
    | _ => False
  | .sdata x => evX L x fun v => match v with
    | .nilS => k (.val .nilP)
    | .own id sz lo hi => lo < hi ∧ k (.val (.ptr id sz lo 0))
    | _ => False
  | .ustr u x n => evX L x fun v => evX L n fun w => match v with
    | .nilP => match w with
      | .int .i64 q => q = 0 ∧ k (.val (.str []))
      | _ => False
    | .ptr id sz i j => match w with
      | .int .i64 q => ∃ l b, hget H id = some (.rows 1 l) ∧ bytesA (l.take q.toNat) = some b ∧ sz = 1 ∧ i = 0 ∧ j = 0 ∧ 0 < q ∧ q ≤ l.length ∧ q ≤ 9223372036854775807 ∧ tag id = u ∧ k (.valH (.str b) (hdel H id))
      | _ => False
    | _ => False
  | .nilck x => evX L x fun v => match v with
    | .ptr _ _ _ _ => k (.val v)
    | .fp _ => k (.val v)
    | _ => False
  | .bad => False
theorem evX_of {L : FL} {x : X} {k : AV → Prop} (h : evX L x k) : ∃ v, ev (frm L) x = some v ∧ k v := by
  cases x with
  | t n =>
    simp only [evX] at h
    simp only [ev, frm]
    cases hg : L.get n with
    | none => rw [hg] at h; exact h.elim
    | some v => rw [hg] at h; exact ⟨v, rfl, h⟩
  | c v => exact ⟨v, rfl, h⟩
  | bad => exact h.elim
theorem evXs_of {L : FL} : ∀ {xs : List X} {k : List AV → Prop}, evXs L xs k → ∃ vs, evL (frm L) xs = some vs ∧ k vs
  | [], k, h => ⟨[], rfl, h⟩
  | x :: xs, k, h => by
    obtain ⟨v, h1, h2⟩ := evX_of h
    obtain ⟨vs, h3, h4⟩ := evXs_of h2
    exact ⟨v :: vs, by simp [evL, h1, h3], h4⟩
theorem evX3_of {L : FL} : ∀ {xs : List (Nat × Nat × X)} {k : List (Nat × Nat × AV) → Prop}, evX3 L xs k → ∃ vs, evParts3 (frm L) xs = some vs ∧ k vs
  | [], k, h => ⟨[], rfl, h⟩
  | (o, z, x) :: xs, k, h => by
    obtain ⟨v, h1, h2⟩ := evX_of h
    obtain ⟨vs, h3, h4⟩ := evX3_of h2
    exact ⟨(o, z, v) :: vs, by simp [evParts3, h1, h3], h4⟩
theorem evX2_of {L : FL} : ∀ {xs : List (Nat × X)} {k : List (Nat × AV) → Prop}, evX2 L xs k → ∃ vs, evParts2 (frm L) xs = some vs ∧ k vs
  | [], k, h => ⟨[], rfl, h⟩
  | (i, x) :: xs, k, h => by
    obtain ⟨v, h1, h2⟩ := evX_of h
    obtain ⟨vs, h3, h4⟩ := evX2_of h2
    exact ⟨(i, v) :: vs, by simp [evParts2, h1, h3], h4⟩
theorem evXO_of {L : FL} {d : Int} {x : Option X} {k : Int → Prop} (h : evXO L d x k) : ∃ n, evO (frm L) d x = some n ∧ k n := by
  cases x with
  | none => exact ⟨d, rfl, h⟩
  | some x =>
    obtain ⟨v, h1, h2⟩ := evX_of h
    cases v <;> try exact h2.elim
    exact ⟨_, by simp only [evO, h1, Option.bind_some], h2⟩
theorem oA_of {α : Type} {o : Option α} {k : α → Prop} (h : oA o k) : ∃ x, o = some x ∧ k x := by
  cases o with
  | none => exact h.elim
  | some x => exact ⟨x, rfl, h⟩
theorem opF_of {L : FL} {H : AH} {co : CO} {k : Rs → Prop} (h : opF L H co k) : ∃ rs, evalOp (frm L) H co = some rs ∧ k rs := by
  cases co <;> simp only [opF] at h
  case mv x =>
    obtain ⟨v, h1, h2⟩ := evX_of h
    exact ⟨_, by simp only [evalOp, h1, Option.bind_some], h2⟩
  case pick c x y =>
    obtain ⟨v, h1, h2⟩ := evX_of h
    cases v <;> try exact h2.elim
    rename_i q
    cases q with
    | true => obtain ⟨u, h3, h4⟩ := evX_of h2; exact ⟨_, by simp only [evalOp, h1, h3, Option.bind_some, if_true], h4⟩
    | false => obtain ⟨u, h3, h4⟩ := evX_of h2; exact ⟨_, by simp only [evalOp, h1, h3, Option.bind_some, Bool.false_eq_true, if_false], h4⟩
  case box T x =>
    obtain ⟨v, h1, h2⟩ := evX_of h
    exact ⟨_, by simp only [evalOp, h1, Option.bind_some, h2.1, if_true], h2.2⟩
  case allc T zs => exact ⟨_, rfl, h⟩
  case load n x =>
    obtain ⟨v, h1, h2⟩ := evX_of h
    cases v <;> try exact h2.elim
    case fp cs =>
      obtain ⟨r, h3, h4⟩ := oA_of h2
      exact ⟨_, by simp only [evalOp, h1, readA, Option.bind_some, h3], h4⟩
    case ptr id sz i j =>
      obtain ⟨l, r, h3, h4, h5⟩ := h2
      obtain ⟨u, h6, h7⟩ := oA_of h5
      exact ⟨_, by simp only [evalOp, h1, readA, Option.bind_some, h3, if_true, h4, Option.map_some, h6], h7⟩
  case store n x y =>
    obtain ⟨v, h1, h2⟩ := evX_of h
    obtain ⟨z, h3, h4⟩ := evX_of h2
    cases v <;> try exact h4.elim
    obtain ⟨l, r, h5, h6, h7, h8, h9, h10⟩ := h4
    replace h10 := h10.out
    exact ⟨_, by simp only [evalOp, h1, h3, Option.bind_some, h5, h6, h7, h8, h9, and_self, if_true], h10⟩
  case faddr off x =>
    obtain ⟨v, h1, h2⟩ := evX_of h
    cases v <;> first | exact h2.elim | exact ⟨_, by simp only [evalOp, h1, Option.bind_some], h2⟩
  case iaddr sz x i =>
    obtain ⟨v, h1, h2⟩ := evX_of h
    obtain ⟨w, h3, h4⟩ := evX_of h2
    cases w <;> try exact h4.elim
    cases v <;> try exact h4.elim
    · obtain ⟨h5, ⟨h6, h7⟩, h8⟩ := nG_of h4; exact ⟨_, by simp only [evalOp, h1, h3, Option.bind_some, h5, h6, h7, and_self, if_true], h8⟩
    · obtain ⟨h5, ⟨h6, h7⟩, h8⟩ := nG_of h4; exact ⟨_, by simp only [evalOp, h1, h3, Option.bind_some, h5, h6, h7, and_self, if_true], h8⟩
  case iarr len sz x i =>
    obtain ⟨v, h1, h2⟩ := evX_of h
    obtain ⟨w, h3, h4⟩ := evX_of h2
    cases w <;> try exact h4.elim
    cases v <;> first | exact h4.2.elim | (exact ⟨_, by simp only [evalOp, h1, h3, Option.bind_some, h4.1, and_self, if_true], h4.2⟩)
  case field off n x =>
    obtain ⟨v, h1, h2⟩ := evX_of h
    cases v <;> try exact h2.elim
    obtain ⟨r, h3, h4⟩ := oA_of h2
    exact ⟨_, by simp only [evalOp, h1, Option.bind_some, h3], h4⟩
  case idx x i =>
    obtain ⟨v, h1, h2⟩ := evX_of h
    obtain ⟨w, h3, h4⟩ := evX_of h2
    cases v <;> try exact h4.elim
    cases w <;> try exact h4.elim
    exact ⟨_, by simp only [evalOp, h1, h3, Option.bind_some, h4.1, and_self, if_true], h4.2⟩
  case idxA len sz n x i =>
    obtain ⟨v, h1, h2⟩ := evX_of h
    obtain ⟨w, h3, h4⟩ := evX_of h2
    cases v <;> try exact h4.elim
    cases w <;> try exact h4.elim
    obtain ⟨r, h5, h6⟩ := oA_of h4.2
    exact ⟨_, by simp only [evalOp, h1, h3, Option.bind_some, h4.1, and_self, if_true, h5], h6⟩
  case bin op x y =>
    obtain ⟨v, h1, h2⟩ := evX_of h
    obtain ⟨w, h3, h4⟩ := evX_of h2
    cases v <;> try exact h4.elim
    · cases w <;> try exact h4.elim
      cases op
      case quo => obtain ⟨rfl, h6, h7⟩ := kG_of h4; exact ⟨_, by simp only [evalOp, h1, h3, Option.bind_some, binV, if_true, binInt, if_pos h6], h7.out⟩
      case rem => obtain ⟨rfl, h6, h7⟩ := kG_of h4; exact ⟨_, by simp only [evalOp, h1, h3, Option.bind_some, binV, if_true, binInt, if_pos h6], h7⟩
      case shl => exact ⟨_, by simp only [evalOp, h1, h3, Option.bind_some, binV, h4.1, if_true], h4.2.out⟩
      case shr => exact ⟨_, by simp only [evalOp, h1, h3, Option.bind_some, binV, h4.1, if_true], h4.2⟩
      case add => obtain ⟨rfl, h6⟩ := kG_of h4; exact ⟨_, by simp only [evalOp, h1, h3, Option.bind_some, binV, if_true, binInt], h6.out⟩
      case sub => obtain ⟨rfl, h6⟩ := kG_of h4; exact ⟨_, by simp only [evalOp, h1, h3, Option.bind_some, binV, if_true, binInt], h6.out⟩
      case mul => obtain ⟨rfl, h6⟩ := kG_of h4; exact ⟨_, by simp only [evalOp, h1, h3, Option.bind_some, binV, if_true, binInt], h6.out⟩
      all_goals (obtain ⟨h5, h6⟩ := kG_of h4; obtain ⟨r, h7, h8⟩ := oA_of h6; exact ⟨_, by simp only [evalOp, h1, h3, Option.bind_some, binV, if_pos h5, h7], h8⟩)
    · cases w <;> try exact h4.elim
      cases op
      case add => exact ⟨_, by simp only [evalOp, h1, h3, Option.bind_some, binV, binStr, if_pos h4.1], h4.2⟩
      all_goals (obtain ⟨r, h7, h8⟩ := oA_of h4; exact ⟨_, by simp only [evalOp, h1, h3, Option.bind_some, binV, h7], h8⟩)
  case beq neg x y =>
    obtain ⟨v, h1, h2⟩ := evX_of h
    obtain ⟨w, h3, h4⟩ := evX_of h2
    cases v <;> try exact h4.elim
    cases w <;> try exact h4.elim
    cases neg <;> exact ⟨_, by simp only [evalOp, h1, h3, Option.bind_some, if_true, Bool.false_eq_true, if_false], h4⟩
  case ncmpS neg x =>
    obtain ⟨v, h1, h2⟩ := evX_of h
    cases v <;> try exact h2.elim
    · cases neg <;> exact ⟨_, by simp only [evalOp, h1, Option.bind_some, isNilS, if_pos h2.1, if_true, Bool.false_eq_true, if_false, Bool.not_false], h2.2⟩
    · cases neg <;> exact ⟨_, by simp only [evalOp, h1, Option.bind_some, isNilS, if_true, Bool.false_eq_true, if_false, Bool.not_true], h2⟩
    · cases neg <;> exact ⟨_, by simp only [evalOp, h1, Option.bind_some, isNilS, if_true, Bool.false_eq_true, if_false, Bool.not_false], h2⟩
  case ncmpP neg x =>
    obtain ⟨v, h1, h2⟩ := evX_of h
    obtain ⟨b, h3, h4⟩ := oA_of h2
    cases neg <;> exact ⟨_, by simp only [evalOp, h1, Option.bind_some, h3, if_true, Bool.false_eq_true, if_false], h4⟩
  case aeq neg sh x y =>
    obtain ⟨v, h1, h2⟩ := evX_of h
    obtain ⟨w, h3, h4⟩ := evX_of h2
    cases v <;> try exact h4.elim
    cases w <;> try exact h4.elim
    obtain ⟨r, h5, h6⟩ := h4
    cases neg <;> exact ⟨_, by simp only [evalOp, h1, h3, Option.bind_some, h5, if_true, Bool.false_eq_true, if_false], h6⟩
  case un op x =>
    obtain ⟨v, h1, h2⟩ := evX_of h
    obtain ⟨r, h3, h4⟩ := oA_of h2
    exact ⟨_, by simp only [evalOp, h1, Option.bind_some, h3], h4⟩
  case conv kd x =>
    obtain ⟨v, h1, h2⟩ := evX_of h
    cases v <;> try exact h2.elim
    exact ⟨_, by simp only [evalOp, h1, Option.bind_some], rng.out h2⟩
  case convS x =>
    obtain ⟨v, h1, h2⟩ := evX_of h
    cases v <;> try exact h2.elim
    exact ⟨_, by simp only [evalOp, h1, Option.bind_some], h2⟩
  case strB x =>
    obtain ⟨v, h1, h2⟩ := evX_of h
    cases v <;> first | exact h2.elim | exact ⟨_, by simp only [evalOp, h1, Option.bind_some], h2⟩
  case bytesS x =>
    obtain ⟨v, h1, ys, l, h2, h3, h4⟩ := evX_of h
    exact ⟨_, by simp only [evalOp, h1, h2, h3, Option.bind_some], h4⟩
  case ext e xs =>
    obtain ⟨vs, h1, h2⟩ := evXs_of h
    obtain ⟨r, h3, h4⟩ := oA_of h2
    exact ⟨_, by simp only [evalOp, h1, Option.bind_some, h3], h4⟩
  case build zs ps =>
    obtain ⟨vs, h1, cs, h2, h3, h4⟩ := evX3_of h
    exact ⟨_, by simp only [evalOp, h1, Option.bind_some, h2, h3, if_true], h4⟩
  case bslice T sz n zs ps =>
    obtain ⟨vs, h1, l, h2, h3, h4⟩ := evX2_of h
    cases n with
    | zero => exact ⟨_, by simp only [evalOp, h1, Option.bind_some, h2, h3, if_true], h4⟩
    | succ n => exact ⟨_, by simp only [evalOp, h1, Option.bind_some, h2, h3, if_true, Nat.add_eq_zero_iff, Nat.one_ne_zero, and_false, if_false], h4⟩
  case bsliceO T sz n zs ps =>
    obtain ⟨vs, h1, l, h2, h3, h4⟩ := evX2_of h
    exact ⟨_, by simp only [evalOp, h1, Option.bind_some, h2, h3, if_true], h4⟩
  case slice kk x lo hi =>
    obtain ⟨v, h1, h2⟩ := evX_of h
    obtain ⟨n, h3, h4⟩ := oA_of h2
    obtain ⟨p, h5, h6⟩ := evXO_of h4
    obtain ⟨q, h7, h8, h9⟩ := evXO_of h6
    cases v <;> try exact h9.elim
    · exact ⟨_, by simp only [evalOp, h1, Option.bind_some, sliceA, h3, h5, h7, if_pos h8, cutA], h9⟩
    · exact ⟨_, by simp only [evalOp, h1, Option.bind_some, sliceA, h3, h5, h7, if_pos h8, cutA, if_pos h9.1], h9.2⟩
    · exact ⟨_, by simp only [evalOp, h1, Option.bind_some, sliceA, h3, h5, h7, if_pos h8, cutA], h9⟩
    · exact ⟨_, by simp only [evalOp, h1, Option.bind_some, sliceA, h3, h5, h7, if_pos h8, cutA, if_pos h9.1], h9.2⟩
  case mks T sz bytes zs n =>
    obtain ⟨v, h1, h2⟩ := evX_of h
    cases v <;> try exact h2.elim
    exact ⟨_, by simp only [evalOp, h1, Option.bind_some, if_pos h2.1], h2.2⟩
  case len str x =>
    obtain ⟨v, h1, h2⟩ := evX_of h
    obtain ⟨n, h3, h4⟩ := oA_of h2
    exact ⟨_, by simp only [evalOp, h1, Option.bind_some, h3], h4⟩
  case append T str sz bytes x y =>
    obtain ⟨v, h1, h2⟩ := evX_of h
    obtain ⟨z, h3, h4⟩ := evX_of h2
    cases v <;> try exact h4.elim
    · obtain ⟨ys, h5, h6, h7, h8⟩ := h4
      by_cases he : ys = []
      · exact ⟨_, by simp only [evalOp, h1, h3, Option.bind_some, h5, if_pos he], h7 he⟩
      · exact ⟨_, by simp only [evalOp, h1, h3, Option.bind_some, h5, if_neg he, if_pos h6], h8 he⟩
    · obtain ⟨xs, ys, h5, h6, h7, h8, h9, h10, h11⟩ := h4
      exact ⟨_, by simp only [evalOp, h1, h3, Option.bind_some, h5, h6, if_pos (And.intro h7 (And.intro h8 (And.intro h9 h10)))], h11⟩
    · obtain ⟨ys, h5, h6, h7, h8⟩ := h4
      by_cases he : ys = []
      · exact ⟨_, by simp only [evalOp, h1, h3, Option.bind_some, h5, if_pos he], h7 he⟩
      · exact ⟨_, by simp only [evalOp, h1, h3, Option.bind_some, h5, if_neg he, if_pos h6], h8 he⟩
  case mm mx xs =>
    obtain ⟨vs, h1, h2⟩ := evXs_of h
    obtain ⟨r, h3, h4⟩ := oA_of h2
    exact ⟨_, by simp only [evalOp, h1, Option.bind_some, h3], h4⟩
  case extr x i =>
    obtain ⟨v, h1, h2⟩ := evX_of h
    cases v <;> try exact h2.elim
    obtain ⟨r, h3, h4⟩ := oA_of h2
    exact ⟨_, by simp only [evalOp, h1, Option.bind_some, h3], h4⟩
  case call f xs =>
    obtain ⟨vs, h1, h2⟩ := evXs_of h
    exact ⟨_, by simp only [evalOp, h1, Option.bind_some], h2⟩
  case callv g xs =>
    obtain ⟨c, h1, h2⟩ := evX_of h
    obtain ⟨vs, h3, h4⟩ := evXs_of h2
    cases c <;> try exact h4.elim
    all_goals exact ⟨_, by simp only [evalOp, h1, h3, Option.bind_some], h4⟩
  case mkfn f us xs =>
    obtain ⟨vs, h1, h2⟩ := evXs_of h
    obtain ⟨vs2, h3, h4⟩ := evXs_of h2
    exact ⟨_, by simp only [evalOp, h1, h3, Option.bind_some], h4⟩
  case idu x =>
    obtain ⟨v, h1, h2⟩ := evX_of h
    cases v <;> try exact h2.elim
    · obtain ⟨l, h3, h4, h5, h6⟩ := h2
      exact ⟨_, by simp [evalOp, h1, h3, h4, h5], h6⟩
    · exact ⟨_, by simp only [evalOp, h1, Option.bind_some], h2⟩
  case idf als x =>
    obtain ⟨v, h1, h2⟩ := evX_of h
    cases v <;> try exact h2.elim
    · obtain ⟨l, h3, u, h4, h5, h6, h9⟩ := h2
      subst h4
      exact ⟨_, by simp only [evalOp, h1, Option.bind_some, h3]; exact if_pos ⟨by trivial, h5.1, h5.2, h6⟩, h9⟩
    · exact ⟨_, by simp only [evalOp, h1, Option.bind_some], h2⟩
  case peq neg x y =>
    obtain ⟨v, h1, h2⟩ := evX_of h
    obtain ⟨w, h3, h4⟩ := evX_of h2
    cases v <;> try exact h4.elim
    cases w <;> try exact h4.elim
    exact ⟨_, by simp only [evalOp, h1, h3, Option.bind_some, if_pos h4.1], h4.2⟩
  case sdata x =>
    obtain ⟨v, h1, h2⟩ := evX_of h
    cases v <;> try exact h2.elim
    · exact ⟨_, by simp only [evalOp, h1, Option.bind_some], h2⟩
    · exact ⟨_, by simp only [evalOp, h1, Option.bind_some, if_pos h2.1], h2.2⟩
  case ustr u x n =>
    obtain ⟨v, h1, h2⟩ := evX_of h
    obtain ⟨w, h3, h4⟩ := evX_of h2
    cases v <;> try exact h4.elim
    · cases w <;> try exact h4.elim
      rename_i kd q
      cases kd <;> try exact h4.elim
      obtain ⟨l, b, h5, h6, h7, h8, h9, h10, h11, h12, h13, h14⟩ := h4
      exact ⟨_, by subst h8; subst h9; simp [evalOp, h1, h3, h5, h6, h7, h10, h11, h12, h13], h14⟩
    · cases w <;> try exact h4.elim
      rename_i kd q
      cases kd <;> try exact h4.elim
      exact ⟨_, by simp only [evalOp, h1, h3, Option.bind_some, if_pos h4.1], h4.2⟩
  case nilck x =>
    obtain ⟨v, h1, h2⟩ := evX_of h
    cases v <;> first | exact h2.elim | exact ⟨_, by simp only [evalOp, h1, Option.bind_some], h2⟩
end Go.Proofs.YtjaigpidmngaaaaGreat

namespace Go.Proofs.YtjaigpidmngaaaaGreat
structure bsplit (q : Bool) (k : Bool → Prop) : Prop where
  out : k q
theorem bsplit_intro {q : Bool} {k : Bool → Prop} (h1 : q = true → k true) (h2 : q = false → k false) : bsplit q k := ⟨by cases q with | true => exact h1 rfl | false => exact h2 rfl⟩
theorem bsplit_t {q : Bool} {k : Bool → Prop} (h : q = true) (h1 : k true) : bsplit q k := by rw [h]; exact ⟨h1⟩
theorem bsplit_f {q : Bool} {k : Bool → Prop} (h : q = false) (h1 : k false) : bsplit q k := by rw [h]; exact ⟨h1⟩
theorem bsplit_tt {k : Bool → Prop} (h : k true) : bsplit true k := ⟨h⟩
theorem bsplit_ff {k : Bool → Prop} (h : k false) : bsplit false k := ⟨h⟩
theorem bsplit_dec {p : Prop} [Decidable p] {k : Bool → Prop} (h1 : p → k true) (h2 : ¬ p → k false) : bsplit (decide p) k :=
  bsplit_intro (fun h => h1 (of_decide_eq_true h)) (fun h => h2 (of_decide_eq_false h))
theorem bsplit_pos {p : Prop} [Decidable p] {k : Bool → Prop} (h : p) (h1 : k true) : bsplit (decide p) k := bsplit_t (decide_eq_true h) h1
theorem bsplit_neg {p : Prop} [Decidable p] {k : Bool → Prop} (h : ¬ p) (h1 : k false) : bsplit (decide p) k := bsplit_f (decide_eq_false h) h1
theorem bsplit_not {q : Bool} {k : Bool → Prop} (h : bsplit q fun b => k (!b)) : bsplit (!q) k := ⟨h.out⟩
structure callF (P : Program) (f : Nat) (args : List AV) (H : AH) (K : AV → AH → Prop) : Prop where
  out : callA P f args H K
structure callG (P : Program) (f : Nat) (args : List AV) (H0 D H : AH) (K : AV → AH → AH → Prop) : Prop where
  out : (∃ r, callP P f args H0 r ∧ K r D H) ∨ ∃ id b r b', hget D id = some b ∧ callW P f args H0 id b r b' ∧ K r (hdel D id) (hset H id b')
theorem callF_of {P : Program} {f : Nat} {args : List AV} {H : AH} {K : AV → AH → Prop} (h : ACalls P f args H K) : callF P f args H K := ⟨callA_of h⟩
theorem callF_eq {P : Program} {f : Nat} {args : List AV} {H : AH} {K : AV → AH → Prop} {r : AV} (h : ACalls P f args H fun r' H' => r' = r ∧ H' = H) (k : K r H) : callF P f args H K := ⟨callA_eq h k⟩
theorem callG_eq {P : Program} {f : Nat} {args : List AV} {H0 D H : AH} {K : AV → AH → AH → Prop} {r : AV} (hp : r.plain = true) (h : ACalls P f args H0 fun r' H' => r' = r ∧ H' = H0) (k : K r D H) : callG P f args H0 D H K := ⟨.inl ⟨r, callP_plain hp h, k⟩⟩
theorem FzL.nil (H Hc : AH) : FzL H Hc [] [] := FzL.refl H Hc []
theorem FzL.cons {H Hc : AH} {v v' : AV} {vs vs' : List AV} (h : Fz H Hc v v') (hs : FzL H Hc vs vs') : FzL H Hc (v :: vs) (v' :: vs') := by
  refine ⟨by simp [hs.1], fun i a b h1 h2 => ?_⟩
  cases i with
  | zero => simp at h1 h2; rw [← h1, ← h2]; exact h
  | succ i => exact hs.2 i a b (by simpa using h1) (by simpa using h2)
theorem fz_own {H Hc : AH} {id sz lo hi : Nat} {l : List (List AV)} (hg : hget H id = some (.rows sz l)) (hd : hget Hc id = none) (h1 : lo ≤ hi) (h2 : hi ≤ l.length) (hw : ∀ (i : Nat) r, l[i]? = some r → r.length = sz) :
    Fz H Hc (.own id sz lo hi) (.rows sz ((l.take hi).drop lo)) := by
  have key : ∀ i r', ((l.take hi).drop lo)[i]? = some r' → l[lo + i]? = some r' := by
    intro i r' q
    rw [List.getElem?_drop, List.getElem?_take] at q
    split at q
    · exact q
    · cases q
  refine .own id sz lo hi l _ hg hd h2 h1 (by simp; omega) (fun i r' q => hw _ _ (key i r' q)) fun i r r' j v v' q1 q2 q3 q4 => ?_
  rw [key i r' q2] at q1
  simp only [Option.some.injEq] at q1
  subst q1
  rw [q3] at q4
  simp only [Option.some.injEq] at q4
  subst q4
  exact .refl _
theorem ACalls.args {P : Program} {f : Nat} {args args' : List AV} {H : AH} {K : AV → AH → Prop} (h : ACalls P f args' H K) (hw : ∀ h ρ Z xs, RlL h ρ Z args xs → RlL h ρ Z args' xs) : ACalls P f args H K :=
  ⟨h.1, fun w ρ Z xs g hr => h.2 w ρ Z xs g (hw _ _ _ _ hr)⟩
theorem RlL.nilS {h : Array Obj} {ρ : Loc} {Z : Nat → Prop} {sz : Nat} {pre post : List AV} {xs : List Value} (hr : RlL h ρ Z (pre ++ .nilS :: post) xs) : RlL h ρ Z (pre ++ .rows sz [] :: post) xs := by
  refine ⟨by simpa using hr.1, fun i v x h1 h2 => ?_⟩
  by_cases e : i = pre.length
  · subst e
    have hq := hr.2 pre.length .nilS x (by simp) h2
    simp at h1
    subst h1
    cases hq
    exact .rowsN sz
  · refine hr.2 i v x ?_ h2
    rw [List.getElem?_append] at h1 ⊢
    split at h1
    · rename_i q; rw [if_pos q]; exact h1
    · rename_i q
      rw [if_neg q]
      obtain ⟨k, hk⟩ : ∃ k, i - pre.length = k + 1 := ⟨i - pre.length - 1, by omega⟩
      rw [hk] at h1 ⊢
      simpa using h1
theorem hget_ne_of {H : AH} {i j : Nat} {b : Blk} (h : hget H i = none) (h2 : hget H j = some b) : i ≠ j := fun e => by rw [e, h2] at h; cases h
theorem hget_set {H : AH} {i : Nat} {b c : Blk} (h : hget H i = some b) : hget (hset H i c) i = some c := by rw [hget_hset, if_pos rfl, h]; rfl
theorem hget_set_ne {H : AH} {i j : Nat} {c : Blk} (h : j ≠ i) : hget (hset H i c) j = hget H j := by rw [hget_hset, if_neg h]
theorem hget_del_ne {H : AH} {i j : Nat} (h : j ≠ i) : hget (hdel H i) j = hget H j := by rw [hget_hdel, if_neg h]
theorem hdel_none {H : AH} {i : Nat} (h : hget H i = none) : hdel H i = H := by
  induction H with
  | nil => rfl
  | cons p H ih =>
    obtain ⟨k, d⟩ := p
    simp only [hget] at h
    split at h
    · cases h
    · rename_i e
      simp only [hdel]
      rw [if_neg e, ih h]
theorem hdel_cons {H : AH} {i : Nat} {b : Blk} (h : hget H i = none) : hdel ((i, b) :: H) i = H := by
  simp only [hdel]; rw [if_pos trivial, hdel_none h]
theorem hget_tail {id j : Nat} {b : Blk} {H : AH} (h : j ≠ id) : hget ((j, b) :: H) id = hget H id := by simp only [hget]; rw [if_neg (fun e => h e.symm)]
theorem hset_self {id : Nat} {b c : Blk} {H : AH} : hset ((id, b) :: H) id c = (id, c) :: H := by simp [hset]
theorem hget_fresh {id j : Nat} {b : Blk} {H : AH} (h : hget ((j, b) :: H) id = none) : id ≠ j ∧ hget H id = none := by
  simp only [hget] at h
  split at h
  · cases h
  · rename_i e; exact ⟨e, h⟩
theorem hget_self {id : Nat} {b : Blk} {H : AH} : hget ((id, b) :: H) id = some b := by simp [hget]
structure yldF (P : Program) (id : Nat) (args : List AV) (H : AH) (K : AV → AH → Prop) : Prop where
  out : yldA P id args H K
def applyF (P : Program) (rs : Rs) (d : Option Nat) (L : FL) (H : AH) (K : FL → AH → Prop) : Prop :=
  match rs with
  | .val v => putK L d v fun L => K L H
  | .upd H' => delK L d fun L => K L H'
  | .valH v H' => putK L d v fun L => K L H'
  | .fresh T blk v H' => ∀ id, hget H id = none → tag id = T → putK L d (v id) fun L => K L ((id, blk) :: H')
  | .call f args => callF P f args H fun r H' => putK L d r fun L => K L H'
  | .yield id args => yldF P id args H fun r H' => putK L d r fun L => K L H'
def opFp (L : FL) (H : AH) (co : CO) (k : Rs → Prop) : Prop :=
  match co with
  | .pick c a b => evX L c fun v => match v with
    | .bool q => bsplit q fun q => match q with
      | true => evX L a fun v => k (.val v)
      | false => evX L b fun v => k (.val v)
    | _ => False
  | co => opF L H co k
def opsCons (P : Program) (o : COp) (ih : (FL → AH → Prop) → FL → AH → Prop) (K : FL → AH → Prop) (L : FL) (H : AH) : Prop :=
    match o.guard with
    | none => opFp L H o.co fun rs => applyF P rs o.dst L H (ih K)
    | some (g, want) => match L.get g with
      | some (.bool q) => bsplit q fun b => match b with
        | true => match want with
          | true => opFp ((g, some (.bool true)) :: L) H o.co fun rs => applyF P rs o.dst ((g, some (.bool true)) :: L) H (ih K)
          | false => putK ((g, some (.bool true)) :: L) o.dst (.tup []) fun L => ih K L H
        | false => match want with
          | false => opFp ((g, some (.bool false)) :: L) H o.co fun rs => applyF P rs o.dst ((g, some (.bool false)) :: L) H (ih K)
          | true => putK ((g, some (.bool false)) :: L) o.dst (.tup []) fun L => ih K L H
      | some (.tup []) => putK L o.dst (.tup []) fun L => ih K L H
      | _ => False
noncomputable def wpOpsF (P : Program) (os : List COp) (K : FL → AH → Prop) (L : FL) (H : AH) : Prop :=
  @List.rec COp (fun _ => (FL → AH → Prop) → FL → AH → Prop) (fun K L H => K L H) (fun o _ ih => opsCons P o ih) os K L H
theorem wpOpsF_cons (P : Program) (o : COp) (os : List COp) (K : FL → AH → Prop) (L : FL) (H : AH) : wpOpsF P (o :: os) K L H = opsCons P o (wpOpsF P os) K L H := rfl
noncomputable def slotF (F : List (Nat × Nat × Blk)) (t : Nat) : Option (Nat × Blk) := @List.rec (Nat × Nat × Blk) (fun _ => Option (Nat × Blk)) none (fun p _ ih => match Nat.beq t p.1 with
    | true => some p.2
    | false => ih) F
def addF (F : List (Nat × Nat × Blk)) (d : Option Nat) (id : Nat) (b : Blk) : List (Nat × Nat × Blk) :=
  match d with
  | some d => (d, id, b) :: F
  | none => F
abbrev FF := List (Nat × Nat × Blk)
def drawF (P : Program) (rs : Rs) (d : Option Nat) (L : FL) (H0 D : AH) (F : FF) (H : AH) (K : FL → AH → FF → AH → Prop) : Prop :=
  match rs with
  | .val v => putK L d v fun L => K L D F H
  | .upd _ => False
  | .valH _ _ => False
  | .fresh T blk v H' => H' = H0 ∧ ∀ id, hget H id = none → tag id = T → putK L d (v id) fun L => K L D (addF F d id blk) ((id, blk) :: H)
  | .call f args => callG P f args H0 D H fun r D' H' => putK L d r fun L => K L D' F H'
  | .yield _ _ => False
noncomputable def drawStF (P : Program) (o : COp) (L : FL) (H0 D : AH) (F : FF) (H : AH) (k : FL → AH → FF → AH → Prop) : Prop :=
  match o.co with
  | .store n x y => evX L x fun v => evX L y fun z => match v with
    | .ptr id sz i j => match (match x with | .t t => slotF F t | _ => none) with
      | some p => ∃ l r, hget [p] id = some (.rows sz l) ∧ l[i]? = some r ∧ z.cells.length = n ∧ allCells z.cells = true ∧ j + n ≤ r.length ∧ hsetN H id (.rows sz (l.set i (over r j z.cells))) fun H' => delK L o.dst fun L => k L D [] H'
      | none => ∃ l r, hget D id = some (.rows sz l) ∧ l[i]? = some r ∧ z.cells.length = n ∧ allCells z.cells = true ∧ j + n ≤ r.length ∧ hsetN H id (.rows sz (l.set i (over r j z.cells))) fun H' => delK L o.dst fun L => k L (hdel D id) F H'
    | _ => False
  | co => opFp L H0 co fun rs => drawF P rs o.dst L H0 D F H k
noncomputable def drawCons (P : Program) (o : COp) (ih : (FL → AH → Prop) → FL → AH → AH → FF → AH → Prop) (K : FL → AH → Prop) (L : FL) (H0 D : AH) (F : FF) (H : AH) : Prop :=
    match o.guard with
    | none => drawStF P o L H0 D F H fun L' D' F' H' => ih K L' H0 D' F' H'
    | some (g, want) => match L.get g with
      | some (.bool q) => bsplit q fun b => match b with
        | true => match want with
          | true => drawStF P o ((g, some (.bool true)) :: L) H0 D F H fun L' D' F' H' => ih K L' H0 D' F' H'
          | false => putK ((g, some (.bool true)) :: L) o.dst (.tup []) fun L => ih K L H0 D F H
        | false => match want with
          | false => drawStF P o ((g, some (.bool false)) :: L) H0 D F H fun L' D' F' H' => ih K L' H0 D' F' H'
          | true => putK ((g, some (.bool false)) :: L) o.dst (.tup []) fun L => ih K L H0 D F H
      | some (.tup []) => putK L o.dst (.tup []) fun L => ih K L H0 D F H
      | _ => False
noncomputable def wpDrawF (P : Program) (os : List COp) (K : FL → AH → Prop) (L : FL) (H0 D : AH) (F : FF) (H : AH) : Prop :=
  @List.rec COp (fun _ => (FL → AH → Prop) → FL → AH → AH → FF → AH → Prop) (fun K L _ _ _ H => K L H) (fun o _ ih => drawCons P o ih) os K L H0 D F H
noncomputable def stId (L : FL) (o : COp) : Option Nat :=
  match o.co with
  | .store _ x _ => match x with
    | .t k => match L.get k with
      | some (.ptr id _ _ _) => some id
      | _ => none
    | _ => none
  | _ => none
structure hdelK (H : AH) (id : Nat) (k : AH → Prop) : Prop where
  out : k (hdel H id)
theorem hdelK_any {H : AH} {id : Nat} {k : AH → Prop} (h : k (hdel H id)) : hdelK H id k := ⟨h⟩
theorem hdelK_top {H : AH} {id : Nat} {b : Blk} {k : AH → Prop} (hn : hget H id = none) (h : k H) : hdelK ((id, b) :: H) id k := ⟨by rw [hdel_cons hn]; exact h⟩
theorem hdelK_down {T : AH} {i id : Nat} {c : Blk} {k : AH → Prop} (h : i ≠ id) (h2 : hdelK T id fun T' => k ((i, c) :: T')) : hdelK ((i, c) :: T) id k :=
  ⟨by rw [show hdel ((i, c) :: T) id = (i, c) :: hdel T id from by simp only [hdel]; rw [if_neg (fun e => h e.symm)]]; exact h2.out⟩
noncomputable def withD (L : FL) (os : List COp) (k : AH → AH → Prop) (H0 D : AH) : Prop :=
  @List.rec COp (fun _ => AH → AH → Prop) k (fun o _ ih H0 D => match stId L o with
    | some id => ∃ b, hget H0 id = some b ∧ hdelK H0 id fun H0' => ih H0' ((id, b) :: D)
    | none => ih H0 D) os H0 D
theorem withD_of {L : FL} {k : AH → AH → Prop} {H : AH} : ∀ (os : List COp) (H0 D : AH), Sub H0 H → Sub D H → (∀ id b, hget D id = some b → hget H0 id = none) → withD L os k H0 D → ∃ H0 D, Sub H0 H ∧ Sub D H ∧ (∀ id b, hget D id = some b → hget H0 id = none) ∧ k H0 D
  | [], H0, D, h1, h2, h3, h => ⟨H0, D, h1, h2, h3, h⟩
  | o :: os, H0, D, h1, h2, h3, h => by
    have h' : (match stId L o with
      | some id => ∃ b, hget H0 id = some b ∧ hdelK H0 id fun H0' => withD L os k H0' ((id, b) :: D)
      | none => withD L os k H0 D) := h
    split at h'
    · rename_i id _
      obtain ⟨b, hb, h'⟩ := h'
      replace h' := h'.out
      refine withD_of os (hdel H0 id) ((id, b) :: D) (fun j c q => ?_) (fun j c q => ?_) (fun j c q => ?_) h'
      · rw [hget_hdel] at q
        split at q
        · cases q
        · exact h1 _ _ q
      · simp only [hget] at q
        split at q
        · rename_i e; subst e; rw [← q]; exact h1 _ _ hb
        · exact h2 _ _ q
      · simp only [hget] at q
        rw [hget_hdel]
        split at q
        · rename_i e; rw [if_pos e]
        · rename_i e; rw [if_neg e]; exact h3 _ _ q
    · exact withD_of os H0 D h1 h2 h3 h'
structure drawD (L : FL) (os : List COp) (k : AH → AH → Prop) (H : AH) : Prop where
  out : ∃ H0 D, Sub H0 H ∧ Sub D H ∧ (∀ id b, hget D id = some b → hget H0 id = none) ∧ k H0 D
theorem dAuto {L : FL} {os : List COp} {k : AH → AH → Prop} {H : AH} (h : withD L os k H []) : drawD L os k H := ⟨withD_of os H [] (fun _ _ q => q) (fun _ _ q => by cases q) (fun _ _ q => by cases q) h⟩
theorem dPick {L : FL} {os : List COp} {k : AH → AH → Prop} {H : AH} {id : Nat} {b : Blk} (hb : hget H id = some b) (h : hdelK H id fun H0 => withD L os k H0 [(id, b)]) : drawD L os k H :=
  ⟨withD_of os (hdel H id) [(id, b)] (fun j c q => by
    rw [hget_hdel] at q
    split at q
    · cases q
    · exact q) (fun j c q => by
    simp only [hget] at q
    split at q
    · rename_i e; subst e; rw [← q]; exact hb
    · cases q) (fun j c q => by
    simp only [hget] at q
    split at q
    · rename_i e; rw [hget_hdel, if_pos e]
    · cases q) h.out⟩
theorem wpDrawF_cons (P : Program) (o : COp) (os : List COp) (K : FL → AH → Prop) (L : FL) (H0 D : AH) (F : FF) (H : AH) : wpDrawF P (o :: os) K L H0 D F H = drawCons P o (wpDrawF P os) K L H0 D F H := rfl
def thenF (next : FL → AH → Prop) (Q : Exit → FL → AH → Prop) : Exit → FL → AH → Prop
  | .normal, L, H => next L H
  | e, L, H => Q e L H
def blockF (id : Nat) (Q : Exit → FL → AH → Prop) : Exit → FL → AH → Prop
  | .exit id', L, H => match Nat.beq id' id with
    | true => Q .normal L H
    | false => Q (.exit id') L H
  | e, L, H => Q e L H
def jumpF (l : Nat) (J : FL → AH → Prop) (Q : Exit → FL → AH → Prop) : Exit → FL → AH → Prop
  | .goto l', L, H => l' = l ∧ J L H
  | e, L, H => Q e L H
def isJoin : C → Bool
  | .cond _ _ _ => true
  | .block _ _ => true
  | .scope _ => true
  | .label _ => true
  | .seq _ b => isJoin b
  | _ => false
def WeakF (J : FL → AH → Prop) (L : FL) (H : AH) : Prop := ∃ M Hk, coversZ H Hk M L ∧ Sub Hk H ∧ J M Hk
abbrev WF := Option Nat → (Exit → FL → AH → Prop) → FL → AH → Prop
def fSeq (a : C) (jn : Bool) (iha ihb : WF) : WF
  | none, Q, L, H => match jn with
    | true => (iha none (thenF (ihb none Q) Q) L H ∨ ∃ J : FL → AH → Prop, iha none (thenF (WeakF J) Q) L H ∧ ∀ M Hk, J M Hk → ihb none Q M Hk) ∨
        ∃ M Hk, iha none (thenF (fun L' H' => coversZ H' Hk M L' ∧ Sub Hk H') Q) L H ∧ ihb none Q M Hk
    | false => iha none (thenF (ihb none Q) Q) L H
  | some l, Q, L, H => match hasL a l with
    | true => iha (some l) (thenF (ihb none Q) Q) L H
    | false => ihb (some l) Q L H
def fCond (x : X) (iha ihb : WF) : WF
  | none, Q, L, H => evX L x fun v => match v with
    | .bool q => bsplit q fun q => match q with
      | true => iha none Q L H
      | false => ihb none Q L H
    | _ => False
  | some _, _, _, _ => False
def fBlock (id : Nat) (ih : WF) : WF
  | none, Q, L, H => ih none (blockF id Q) L H
  | some _, _, _, _ => False
def fLoop (ih : WF) : WF
  | none, Q, L, H => ∃ I : Nat → FL → AH → Prop, WeakF (fun M Hk => ∃ n, I n M Hk) L H ∧
      ∀ n L H, I n L H → ih none (thenF (WeakF fun L' H' => ∃ m, m < n ∧ I m L' H') Q) L H
  | some _, _, _, _ => False
def fScope (ih : WF) : WF
  | none, Q, L, H => ∃ (l n0 : Nat) (I : Nat → FL → AH → Prop), ih none (jumpF l (WeakF fun L' H' => ∃ m, m < n0 ∧ I m L' H') Q) L H ∧
      ∀ n L H, I n L H → ih (some l) (jumpF l (WeakF fun L' H' => ∃ m, m < n ∧ I m L' H') Q) L H
  | some _, _, _, _ => False
structure rangeS (P : Program) (f : Nat) (first caps : List AV) (ps : List Nat) (ca cb : C) (L : FL) (H : AH) (Q : Exit → FL → AH → Prop) : Prop where
  out : ∀ (a b : Code) (fl : List Nat) (N lid : Nat), comp P fl a = ca → comp P fl b = cb → (dstsOk N ca && dstsOk N cb && ps.all fun p => decide (p < N)) = true → hget H lid = none →
      ACalls P f (first ++ [.yld lid] ++ caps) ((lid, .loop ⟨ps, a, b, N, frm L, .ready⟩) :: H) fun _ H' => ∃ st H1, Sub H1 (hdel H' lid) ∧ hget H' lid = some (.loop ⟨ps, a, b, N, frm L, st⟩) ∧ match st with
        | .ready => Q .normal L H1
        | .done .ret => Q .ret L H1
        | .done (.exit id) => Q (.exit id) L H1
        | _ => False
def fRange (P : Program) (g : X) (ps : List Nat) (ca cb : C) : WF
  | none, Q, L, H => evX L g fun v => match v with
    | .clo f first caps => rangeS P f first caps ps ca cb L H Q
    | _ => False
  | some _, _, _, _ => False
def fEnd (e : Exit) : WF
  | none, Q, L, H => Q e L H
  | some _, _, _, _ => False
def fLabel (l' : Nat) : WF
  | none, Q, L, H => Q .normal L H
  | some l, Q, L, H => l' = l ∧ Q .normal L H
def fReg (k : (FL → AH → Prop) → FL → AH → Prop) : WF
  | none, Q, L, H => k (Q .normal) L H
  | some _, _, _, _ => False
noncomputable def wpF (P : Program) (c : C) : WF :=
  @C.rec (fun _ => WF)
    (fEnd .normal)
    (fun ops => fReg (wpOpsF P ops))
    (fun pre post => fReg fun K L H => drawD L pre (fun H0 D => wpDrawF P pre (fun L' H' => wpOpsF P post K L' H') L H0 D [] H) H)
    (fun a _ iha ihb => fSeq a (isJoin a) iha ihb)
    (fun x _ _ iha ihb => fCond x iha ihb)
    (fun id _ ih => fBlock id ih)
    (fun _ ih => fLoop ih)
    (fun id => fEnd (.exit id))
    (fun _ ih => fScope ih)
    (fun l => fLabel l)
    (fun l => fEnd (.goto l))
    (fEnd .ret)
    (fun g ps a b _ _ => fRange P g ps a b)
    (fun _ _ _ _ => False) c
section
variable (P : Program) (Q : Exit → FL → AH → Prop) (L : FL) (H : AH)
theorem wpF_reg (ops : List COp) : wpF P (.reg ops) none Q L H = wpOpsF P ops (Q .normal) L H := rfl
theorem wpF_dreg (pre post : List COp) : wpF P (.dreg pre post) none Q L H = drawD L pre (fun H0 D => wpDrawF P pre (fun L' H' => wpOpsF P post (Q .normal) L' H') L H0 D [] H) H := rfl
theorem wpF_seq (a b : C) (lb : Option Nat) : wpF P (.seq a b) lb Q L H = fSeq a (isJoin a) (wpF P a) (wpF P b) lb Q L H := rfl
theorem wpF_cond (x : X) (a b : C) (lb : Option Nat) : wpF P (.cond x a b) lb Q L H = fCond x (wpF P a) (wpF P b) lb Q L H := rfl
theorem wpF_block (id : Nat) (b : C) (lb : Option Nat) : wpF P (.block id b) lb Q L H = fBlock id (wpF P b) lb Q L H := rfl
theorem wpF_loop (b : C) (lb : Option Nat) : wpF P (.loop b) lb Q L H = fLoop (wpF P b) lb Q L H := rfl
theorem wpF_rangeF (g : X) (ps : List Nat) (a b : C) (lb : Option Nat) : wpF P (.rangeF g ps a b) lb Q L H = fRange P g ps a b lb Q L H := rfl
theorem wpF_scope (b : C) (lb : Option Nat) : wpF P (.scope b) lb Q L H = fScope (wpF P b) lb Q L H := rfl
end
section
variable {P : Program}
theorem opFp_of {L : FL} {H : AH} {co : CO} {k : Rs → Prop} (h : opFp L H co k) : ∃ rs, evalOp (frm L) H co = some rs ∧ k rs := by
  cases co
  case pick c a b =>
    obtain ⟨v, h1, h2⟩ := evX_of h
    cases v <;> try exact h2.elim
    rename_i q
    replace h2 := h2.out
    cases q with
    | true => obtain ⟨u, h3, h4⟩ := evX_of h2; exact ⟨_, by simp only [evalOp, h1, h3, Option.bind_some, if_true], h4⟩
    | false => obtain ⟨u, h3, h4⟩ := evX_of h2; exact ⟨_, by simp only [evalOp, h1, h3, Option.bind_some, Bool.false_eq_true, if_false], h4⟩
  all_goals exact opF_of h
theorem frm_same {L : FL} {g : Nat} {v : AV} (h : L.get g = some v) : frm ((g, some v) :: L) = frm L := by
  funext t
  simp only [frm, FL.get_cons]
  split
  · rename_i e; rw [e, h]
  · rfl
theorem applyF_of {rs : Rs} {d : Option Nat} {L : FL} {H : AH} {K : FL → AH → Prop} {K' : Fr → AH → Prop} (hk : ∀ L H, K L H → K' (frm L) H) (h : applyF P rs d L H K) : applyRs P rs d (frm L) H K' := by
  cases rs with
  | val v => simp only [applyF, applyRs, putK_eq, delK_eq] at h ⊢; rw [← frm_put]; exact hk _ _ h
  | upd H' => simp only [applyF, applyRs, putK_eq, delK_eq] at h ⊢; rw [← frm_del]; exact hk _ _ h
  | valH v H' => simp only [applyF, applyRs, putK_eq, delK_eq] at h ⊢; rw [← frm_put]; exact hk _ _ h
  | fresh T blk vf H' => simp only [applyF, applyRs, putK_eq, delK_eq] at h ⊢; intro id hid ht; rw [← frm_put]; exact hk _ _ (h id hid ht)
  | call f args =>
    simp only [applyF, applyRs, putK_eq, delK_eq] at h ⊢
    obtain ⟨a', Hc, h1, h2, h3⟩ := h.out
    refine ⟨a', Hc, h1, h2, ?_⟩
    rcases h3 with h3 | h3
    · exact .inl (h3.mono fun r H' q => by rw [← frm_put]; exact hk _ _ q)
    · exact .inr (h3.mono fun r H' q => ⟨q.1, by show K' ((frm L).put d r) H; rw [← frm_put]; exact hk _ _ q.2⟩)
  | yield id args =>
    simp only [applyF, applyRs, putK_eq, delK_eq] at h ⊢
    obtain ⟨Hs, h1, h2⟩ := h.out
    exact ⟨Hs, h1, h2.mono fun r Hs' ⟨H', q1, q2⟩ => ⟨H', q1, by show K' ((frm L).put d r) H'; rw [← frm_put]; exact hk _ _ q2⟩⟩
theorem wpOpsF_of {K : FL → AH → Prop} {K' : Fr → AH → Prop} (hk : ∀ L H, K L H → K' (frm L) H) : ∀ (os : List COp) (L : FL) (H : AH), wpOpsF P os K L H → wpOps P os K' (frm L) H
  | [], L, H, h => hk L H h
  | o :: os, L, H, h => by
    have run : ∀ L H, (opFp L H o.co fun rs => applyF P rs o.dst L H (wpOpsF P os K)) → OA (evalOp (frm L) H o.co) fun rs => applyRs P rs o.dst (frm L) H (wpOps P os K') := by
      intro L H h
      obtain ⟨rs, h1, h2⟩ := opFp_of h
      rw [h1]
      exact applyF_of (fun L H q => wpOpsF_of hk os L H q) h2
    simp only [wpOpsF_cons, opsCons, putK_eq] at h
    simp only [wpOps]
    split at h
    · rename_i hg
      rw [hg]
      exact run L H h
    · rename_i g want hg
      rw [hg]
      simp only
      split at h
      · rename_i q hq
        refine .inl ⟨q, hq, fun e => ?_, fun e => ?_⟩
        · subst e
          replace h := h.out
          rw [← frm_same hq]
          cases q <;> exact run _ H h
        · replace h := h.out
          rw [← frm_same hq, ← frm_put]
          cases q <;> cases want <;> simp at e <;> exact wpOpsF_of hk os _ H h
      · rename_i hq
        refine .inr ⟨hq, ?_⟩
        rw [← frm_put]
        exact wpOpsF_of hk os _ H h
      · exact h.elim
structure OkF (Ff : FF) (F H : AH) : Prop where
  sub : ∀ t p, slotF Ff t = some p → hget F p.1 = some p.2
  own : ∀ id b, hget F id = some b → ∃ c, hget H id = some c
theorem OkF.add {Ff : FF} {F H : AH} (h : OkF Ff F H) {d : Option Nat} {id : Nat} {b : Blk} (hid : hget H id = none) : OkF (addF Ff d id b) ((id, b) :: F) ((id, b) :: H) := by
  have old : ∀ t p, slotF Ff t = some p → hget ((id, b) :: F) p.1 = some p.2 := fun t p q => by
    have := h.sub t p q
    simp only [hget]
    rw [if_neg (fun e => by obtain ⟨c, hc⟩ := h.own _ _ this; rw [e, hid] at hc; cases hc)]
    exact this
  refine ⟨fun t p q => ?_, fun id2 b2 q => ?_⟩
  · cases d with
    | none => exact old t p q
    | some d =>
      have q' : (match Nat.beq t d with | true => some (id, b) | false => slotF Ff t) = some p := q
      split at q'
      · simp only [Option.some.injEq] at q'
        subst q'
        simp [hget]
      · exact old t p q'
  · simp only [hget] at q ⊢
    split at q
    · rename_i e; rw [if_pos e]; exact ⟨_, rfl⟩
    · rename_i e; rw [if_neg e]; exact h.own _ _ q
theorem OkF.set {Ff : FF} {F H : AH} (h : OkF Ff F H) (id : Nat) (b : Blk) : OkF Ff F (hset H id b) := ⟨h.sub, fun id2 b2 q => by
  obtain ⟨c, hc⟩ := h.own _ _ q
  rw [hget_hset]
  split
  · rename_i e; rw [← e, hc]; exact ⟨_, rfl⟩
  · exact ⟨c, hc⟩⟩
theorem OkF.fin {Ff : FF} {F H : AH} (h : OkF Ff F H) (id i : Nat) (b : Blk) : OkF [] (hdel F i) (hset H id b) := ⟨fun t p q => (by cases q), fun id2 b2 q => by
  rw [hget_hdel] at q
  split at q
  · cases q
  · exact (h.set id b).own _ _ q⟩
theorem drawStF_of {o : COp} {L : FL} {H0 D : AH} {Ff : FF} {F H : AH} (hF : OkF Ff F H) {k : FL → AH → FF → AH → Prop} {k' : Fr → AH → AH → AH → Prop} (hk : ∀ L D Ff F H, OkF Ff F H → k L D Ff H → k' (frm L) D F H) (h : drawStF P o L H0 D Ff H k) : drawSt P o (frm L) H0 D F H k' := by
  have other : (opFp L H0 o.co fun rs => drawF P rs o.dst L H0 D Ff H k) → drawSt P o (frm L) H0 D F H k' := by
    intro h
    obtain ⟨rs, h1, h2⟩ := opFp_of h
    cases rs with
    | val v =>
      refine .inl ?_
      rw [h1]
      simp only [drawF, OA, drawRs, putK_eq] at h2 ⊢; rw [← frm_put]; exact hk _ _ _ _ _ hF h2
    | upd H' => exact h2.elim
    | valH v H' => exact h2.elim
    | yield _ _ => exact h2.elim
    | fresh T blk vf H' =>
      refine .inl ?_
      rw [h1]
      simp only [drawF, OA, drawRs, putK_eq] at h2 ⊢; exact ⟨h2.1, fun id hid ht => by rw [← frm_put]; exact hk _ _ _ _ _ (hF.add hid) (h2.2 id hid ht)⟩
    | call f args =>
      simp only [drawF, putK_eq] at h2
      rcases h2.out with ⟨r, q1, q2⟩ | ⟨id, b, r, b', q1, q2, q3⟩
      · refine .inl ?_
        rw [h1]
        simp only [OA, drawRs]
        exact ⟨r, q1, by rw [← frm_put]; exact hk _ _ _ _ _ hF q2⟩
      · exact .inr (.inr (.inl ⟨f, args, id, b, r, b', h1, q1, q2, by rw [← frm_put]; exact hk _ _ _ _ _ (hF.set id b') q3⟩))
  simp only [drawStF, delK_eq] at h
  split at h
  · rename_i n x y hco
    obtain ⟨v, h1, h2⟩ := evX_of h
    obtain ⟨z, h3, h4⟩ := evX_of h2
    cases v <;> try exact h4.elim
    rename_i id sz i j
    simp only at h4
    split at h4
    · rename_i p hp
      cases x with
      | t t =>
        obtain ⟨l, r, q1, q2, q3, q4, q5, q6⟩ := h4
        replace q6 := q6.out
        have hp' : slotF Ff t = some p := hp
        have hg := hF.sub t p hp'
        have e : p.1 = id ∧ p.2 = .rows sz l := by
          simp only [hget] at q1
          split at q1
          · rename_i e; simp only [Option.some.injEq] at q1; exact ⟨by rw [e], q1⟩
          · cases q1
        rw [e.1, e.2] at hg
        refine .inr (.inr (.inr ⟨id, .rows sz l, hset [(id, .rows sz l)] id (.rows sz (l.set i (over r j z.cells))), .rows sz (l.set i (over r j z.cells)), t, sz, i, j, h1, ?_, hg, ?_, ?_, by rw [← frm_del]; exact hk _ _ _ _ _ (hF.fin id id _) q6⟩))
        · simp [COp.looks, hco, CO.looks, X.looks]
        · rw [hco]
          simp only [evalOp, h1, h3, Option.bind_some, hget, if_true, q2]
          simp [q3, q4, q5]
        · simp [hset, hget]
      | _ => cases hp
    · obtain ⟨l, r, q1, q2, q3, q4, q5, q6⟩ := h4
      replace q6 := q6.out
      refine .inr (.inl ⟨id, .rows sz l, hset [(id, .rows sz l)] id (.rows sz (l.set i (over r j z.cells))), .rows sz (l.set i (over r j z.cells)), q1, ?_, ?_, by rw [← frm_del]; exact hk _ _ _ _ _ (hF.set id _) q6⟩)
      · rw [hco]
        simp only [evalOp, h1, h3, Option.bind_some, hget, if_true, q2]
        simp [q3, q4, q5]
      · simp [hset, hget]
  · exact other h
theorem wpDrawF_of {K : FL → AH → Prop} {K' : Fr → AH → Prop} (hk : ∀ L H, K L H → K' (frm L) H) : ∀ (os : List COp) (L : FL) (H0 D : AH) (Ff : FF) (F H : AH), OkF Ff F H → wpDrawF P os K L H0 D Ff H → wpDraw P os K' (frm L) H0 D F H
  | [], L, H0, D, Ff, F, H, _, h => hk L H h
  | o :: os, L, H0, D, Ff, F, H, hF, h => by
    have run : ∀ L D Ff F H, OkF Ff F H → (drawStF P o L H0 D Ff H fun L' D' F' H' => wpDrawF P os K L' H0 D' F' H') → drawSt P o (frm L) H0 D F H fun s' D' F' H' => wpDraw P os K' s' H0 D' F' H' :=
      fun L D Ff F H hF h => drawStF_of hF (fun L D Ff F H hF q => wpDrawF_of hk os L H0 D Ff F H hF q) h
    simp only [wpDrawF_cons, drawCons, putK_eq] at h
    simp only [wpDraw]
    split at h
    · rename_i hg
      rw [hg]
      exact run L D Ff F H hF h
    · rename_i g want hg
      rw [hg]
      simp only
      split at h
      · rename_i q hq
        refine .inl ⟨q, hq, fun e => ?_, fun e => ?_⟩
        · subst e
          replace h := h.out
          rw [← frm_same hq]
          cases q <;> exact run _ D Ff F H hF h
        · replace h := h.out
          rw [← frm_same hq, ← frm_put]
          cases q <;> cases want <;> simp at e <;> exact wpDrawF_of hk os _ H0 D Ff F H hF h
      · rename_i hq
        refine .inr ⟨hq, ?_⟩
        rw [← frm_put]
        exact wpDrawF_of hk os _ H0 D Ff F H hF h
      · exact h.elim
theorem SubFr.refl (s : Fr) : SubFr s s := fun _ _ h => h
theorem WeakF.of {J : FL → AH → Prop} {L : FL} {H : AH} (h : WeakF J L H) : Weak (fun s H => ∃ L, s = frm L ∧ J L H) (frm L) H :=
  let ⟨M, Hk, h1, h2, h3⟩ := h
  ⟨frm M, Hk, coversZ_sub M L h1, h2, M, rfl, h3⟩
theorem wpF_of : ∀ (c : C) (lb : Option Nat) (Q : Exit → FL → AH → Prop) (Q' : Exit → Fr → AH → Prop) (L : FL) (H : AH), (∀ e L H, Q e L H → Q' e (frm L) H) → wpF P c lb Q L H → wpA P c lb Q' (frm L) H := by
  have then_ : ∀ (K : FL → AH → Prop) (K' : Fr → AH → Prop) (Q : Exit → FL → AH → Prop) (Q' : Exit → Fr → AH → Prop), (∀ L H, K L H → Weak K' (frm L) H) → (∀ e L H, Q e L H → Q' e (frm L) H) → ∀ e L H, thenF K Q e L H → thenA K' Q' e (frm L) H := by
    intro K K' Q Q' hk hq e L H h
    cases e with
    | normal => exact hk _ _ h
    | _ => exact hq _ _ _ h
  have block_ : ∀ id (Q : Exit → FL → AH → Prop) (Q' : Exit → Fr → AH → Prop), (∀ e L H, Q e L H → Q' e (frm L) H) → ∀ e L H, blockF id Q e L H → blockA id Q' e (frm L) H := by
    intro id Q Q' hq e L H h
    cases e with
    | exit id' =>
      simp only [blockF] at h
      simp only [blockA]
      split at h
      · rename_i e1; rw [if_pos (Nat.eq_of_beq_eq_true e1)]; exact hq _ _ _ h
      · rename_i e1; rw [if_neg (fun q => by rw [q, Nat.beq_refl] at e1; cases e1)]; exact hq _ _ _ h
    | _ => exact hq _ _ _ h
  have jump_ : ∀ l J J' (Q : Exit → FL → AH → Prop) (Q' : Exit → Fr → AH → Prop), (∀ L H, J L H → J' (frm L) H) → (∀ e L H, Q e L H → Q' e (frm L) H) → ∀ e L H, jumpF l J Q e L H → jumpA l J' Q' e (frm L) H := by
    intro l J J' Q Q' hj hq e L H h
    cases e with
    | goto l' => exact ⟨h.1, hj _ _ h.2⟩
    | _ => exact hq _ _ _ h
  have self : ∀ (K : Fr → AH → Prop) s H, K s H → Weak K s H := fun K s H h => ⟨s, H, (SubFr.refl s).fz, Sub.refl H, h⟩
  intro c
  induction c with
  | seq a b iha ihb =>
    intro lb Q Q' L H hq h
    cases lb with
    | none =>
      simp only [wpF_seq, fSeq] at h
      simp only [wpA]
      have plain : wpF P a none (thenF (wpF P b none Q) Q) L H → wpA P a none (thenA (wpA P b none Q') Q') (frm L) H :=
        iha none _ _ L H (then_ _ _ _ _ (fun L H q => self _ _ _ (ihb none _ _ L H hq q)) hq)
      split at h
      · rcases h with (h | ⟨J, h1, h2⟩) | ⟨M, Hk, h1, h2⟩
        · exact plain h
        · refine iha none _ _ L H (then_ _ _ _ _ (fun L' H' q => ?_) hq) h1
          obtain ⟨M, Hk, q1, q2, q3⟩ := q
          exact ⟨frm M, Hk, coversZ_sub M L' q1, q2, ihb none _ _ M Hk hq (h2 M Hk q3)⟩
        · exact iha none _ _ L H (then_ _ _ _ _ (fun L' H' q => ⟨frm M, Hk, coversZ_sub M L' q.1, q.2, ihb none _ _ M Hk hq h2⟩) hq) h1
      · exact plain h
    | some l =>
      simp only [wpF_seq, fSeq] at h
      simp only [wpA]
      split at h
      · rename_i e1; rw [if_pos e1]; exact iha _ _ _ L H (then_ _ _ _ _ (fun L H q => self _ _ _ (ihb none _ _ L H hq q)) hq) h
      · rename_i e1; rw [if_neg (by rw [e1]; simp)]; exact ihb _ _ _ L H hq h
  | cond x a b iha ihb =>
    intro lb Q Q' L H hq h
    cases lb with
    | none =>
      simp only [wpF_cond, fCond] at h
      simp only [wpA]
      obtain ⟨v, h1, h2⟩ := evX_of h
      cases v <;> try exact h2.elim
      rename_i q
      replace h2 := h2.out
      refine ⟨q, h1, fun e => ?_, fun e => ?_⟩
      · subst e; exact iha _ _ _ L H hq h2
      · subst e; exact ihb _ _ _ L H hq h2
    | some l => exact h.elim
  | block id b ih =>
    intro lb Q Q' L H hq h
    cases lb with
    | none => simp only [wpF_block, fBlock] at h; simp only [wpA]; exact ih _ _ _ L H (block_ id _ _ hq) h
    | some l => exact h.elim
  | loop b ih =>
    intro lb Q Q' L H hq h
    cases lb with
    | none =>
      simp only [wpF_loop, fLoop] at h
      simp only [wpA]
      obtain ⟨I, h1, h2⟩ := h
      refine ⟨fun n s H => ∃ L, s = frm L ∧ I n L H, ?_, fun n s H ⟨L, e, hi⟩ => ?_⟩
      · obtain ⟨s', H', q1, q2, L', e, n, q3⟩ := h1.of
        exact ⟨s', H', q1, q2, n, L', e, q3⟩
      · subst e
        refine ih _ _ _ L H (then_ _ _ _ _ (fun L' H' q => ?_) hq) (h2 n L H hi)
        obtain ⟨s', H2, q1, q2, L2, e, m, q3, q4⟩ := q.of
        exact ⟨s', H2, q1, q2, m, q3, L2, e, q4⟩
    | some l => exact h.elim
  | scope b ih =>
    intro lb Q Q' L H hq h
    cases lb with
    | none =>
      simp only [wpF_scope, fScope] at h
      simp only [wpA]
      obtain ⟨l, n0, I, h1, h2⟩ := h
      refine ⟨l, fun n s H => ∃ L, s = frm L ∧ I n L H, ?_, fun n s H ⟨L, e, hi⟩ => ?_⟩
      · refine ih _ _ _ L H (jump_ _ _ _ _ _ (fun L' H' q => ?_) hq) h1
        obtain ⟨s', H2, q1, q2, L2, e, m, _, q3⟩ := q.of
        exact ⟨s', H2, q1, q2, m, L2, e, q3⟩
      · subst e
        refine ih _ _ _ L H (jump_ _ _ _ _ _ (fun L' H' q => ?_) hq) (h2 n L H hi)
        obtain ⟨s', H2, q1, q2, L2, e, m, q3, q4⟩ := q.of
        exact ⟨s', H2, q1, q2, m, q3, L2, e, q4⟩
    | some l => exact h.elim
  | reg os =>
    intro lb Q Q' L H hq h
    cases lb with
    | none => rw [wpF_reg] at h; simp only [wpA]; exact wpOpsF_of (fun L H q => hq _ _ _ q) os L H h
    | some l => exact h.elim
  | dreg pre post =>
    intro lb Q Q' L H hq h
    cases lb with
    | none =>
      rw [wpF_dreg] at h
      simp only [wpA]
      obtain ⟨H0, D, h1, h2, h3, h4⟩ := h.out
      exact ⟨H0, D, h1, h2, h3, wpDrawF_of (fun L H q => wpOpsF_of (fun L H q => hq _ _ _ q) post L H q) pre L H0 D [] [] H ⟨fun t p q => by (cases q), fun id b q => by (cases q)⟩ h4⟩
    | some l => exact h.elim
  | rangeF g ps a b _ _ =>
    intro lb Q Q' L H hq h
    cases lb with
    | none =>
      rw [wpF_rangeF] at h
      simp only [wpA]
      obtain ⟨v, h1, h2⟩ := evX_of h
      cases v <;> try exact h2.elim
      refine ⟨_, _, _, h1, fun a b fl N lid q1 q2 q3 q4 => (h2.out a b fl N lid q1 q2 q3 q4).mono fun r H' ⟨st, H1, k1, k2, k3⟩ => ⟨st, H1, k1, k2, ?_⟩⟩
      cases st with
      | ready => exact hq _ _ _ k3
      | busy => exact k3.elim
      | done c =>
        cases c with
        | ret => exact hq _ _ _ k3
        | exit id => exact hq _ _ _ k3
        | _ => exact k3.elim
    | some l => exact h.elim
  | label l' =>
    intro lb Q Q' L H hq h
    cases lb with
    | none => exact hq _ _ _ h
    | some l => exact ⟨h.1, hq _ _ _ h.2⟩
  | _ =>
    intro lb Q Q' L H hq h
    cases lb with
    | none => first | exact hq _ _ _ h | exact h.elim
    | some l => exact h.elim
end
/-! ### Results, over lists -/
def resF1 (L : FL) (H : AH) (r : CRes) (k : AV → Prop) : Prop :=
  match r with
  | .t n => match L.get n with
    | some v => k v
    | none => False
  | .cell n sz => match L.get n with
    | some (.ptr id z i j) => ∃ l r, hget H id = some (.rows z l) ∧ l[i]? = some r ∧ oA (partA (r.drop j) 0 sz) k
    | _ => False
  | .bad => False
def resFs (L : FL) (H : AH) : List CRes → (List AV → Prop) → Prop
  | [], k => k []
  | r :: rs, k => resF1 L H r fun v => resFs L H rs fun vs => k (v :: vs)
def endF (rs : List CRes) (K : AV → AH → Prop) : Exit → FL → AH → Prop
  | .normal, L, H => resFs L H rs fun vs => match vs with | [v] => K v H | vs => K (.tup vs) H
  | .ret, L, H => resFs L H rs fun vs => match vs with | [v] => K v H | vs => K (.tup vs) H
  | _, _, _ => False
theorem resFs_of {L : FL} {H : AH} : ∀ {rs : List CRes} {k : List AV → Prop}, resFs L H rs k → ∃ vs, resL (frm L) H rs = some vs ∧ k vs
  | [], k, h => ⟨[], rfl, h⟩
  | r :: rs, k, h => by
    have one : ∃ v, resOne (frm L) H r = some v ∧ resFs L H rs fun vs => k (v :: vs) := by
      simp only [resFs] at h
      cases r with
      | t n =>
        simp only [resF1] at h
        split at h
        · rename_i v hv; exact ⟨v, hv, h⟩
        · exact h.elim
      | cell n sz =>
        simp only [resF1] at h
        split at h
        · rename_i id z i j hv
          obtain ⟨l, r, h1, h2, h3⟩ := h
          obtain ⟨v, h4, h5⟩ := oA_of h3
          refine ⟨v, ?_, h5⟩
          have : frm L n = some (.ptr id z i j) := hv
          simp only [resOne, this, Option.bind_some, readA, h1, if_true, h2, Option.map_some, h4]
        · exact h.elim
      | bad => exact h.elim
    obtain ⟨v, h1, h2⟩ := one
    obtain ⟨vs, h3, h4⟩ := resFs_of h2
    exact ⟨v :: vs, by simp only [resL, h1, h3, Option.bind_some], h4⟩
theorem endF_of {rs : List CRes} {K : AV → AH → Prop} : ∀ e L H, endF rs K e L H → endA rs K e (frm L) H := by
  have fin : ∀ L H, (resFs L H rs fun vs => match vs with | [v] => K v H | vs => K (.tup vs) H) → OA (resA (frm L) H rs) fun r => K r H := by
    intro L H h
    obtain ⟨vs, h1, h2⟩ := resFs_of h
    rw [OA_iff]
    simp only [resA, h1, Option.bind_some]
    split
    · exact ⟨_, rfl, h2⟩
    · rename_i hne
      refine ⟨_, rfl, ?_⟩
      split at h2
      · rename_i v; exact absurd rfl (hne v)
      · exact h2
  intro e L H h
  cases e with
  | normal => exact fin L H h
  | ret => exact fin L H h
  | _ => exact h.elim
def argsL : Nat → List AV → FL
  | _, [] => []
  | n, v :: vs => (n, some v) :: argsL (n + 1) vs
theorem argsL_get : ∀ (vs : List AV) (n t : Nat), (argsL n vs).get t = if n ≤ t then vs[t - n]? else none
  | [], n, t => by simp only [argsL]; rw [show FL.get [] t = none from rfl]; simp
  | v :: vs, n, t => by
    rw [argsL, FL.get_cons, argsL_get vs (n + 1) t]
    by_cases h1 : t = n
    · subst h1; simp
    · rw [if_neg h1]
      by_cases h2 : n ≤ t
      · rw [if_pos (by omega), if_pos h2, show t - n = (t - (n + 1)) + 1 from by omega]
        simp
      · rw [if_neg (by omega), if_neg h2]
theorem initFr_frm (vs : List AV) : initFr vs = frm (argsL 0 vs) := by
  funext t
  simp [initFr, frm, argsL_get]
theorem wpF_start {P : Program} {c : C} {rs : List CRes} {K : AV → AH → Prop} {args : List AV} {H : AH} (h : wpF P c none (endF rs K) (argsL 0 args) H) : wpA P c none (endA rs K) (initFr args) H := by
  rw [initFr_frm]
  exact wpF_of c none _ _ _ H endF_of h
/-! ### Rounds, over lists -/
def putsL : List Nat → List AV → FL → FL
  | p :: ps, v :: vs, L => putsL ps vs ((p, some v) :: L)
  | _, _, L => L
theorem putsL_frm : ∀ (ps : List Nat) (vs : List AV) (L : FL), frm (putsL ps vs L) = setPs (frm L) ps vs
  | [], vs, L => by cases vs <;> rfl
  | p :: ps, [], L => rfl
  | p :: ps, v :: vs, L => by rw [putsL, putsL_frm ps vs, setPs, frm_set]
def roundF (lid : Nat) (L : LoopB) (K : AV → AH → Prop) : Exit → FL → AH → Prop
  | .normal, _, H => hget H lid = some (.loop { L with st := .busy }) ∧ hsetK H lid (.loop { L with st := .ready }) fun H => K (.bool true) H
  | .ret, _, H => hget H lid = some (.loop { L with st := .busy }) ∧ hsetK H lid (.loop { L with st := .done .ret }) fun H => K (.bool false) H
  | .exit id, _, H => hget H lid = some (.loop { L with st := .busy }) ∧ hsetK H lid (.loop { L with st := .done (.exit id) }) fun H => K (.bool false) H
  | _, _, _ => False
def assignF (P : Program) (lid : Nat) (L : LoopB) (cb : C) (K : AV → AH → Prop) : Exit → FL → AH → Prop
  | .normal, L', H => hget H lid = some (.loop L) ∧ hsetK H lid (.loop { L with st := .busy }) fun H => wpF P cb none (roundF lid L K) L' H
  | _, _, _ => False
theorem AYields.of_bodyF {P : Program} {ps : List Nat} {a b : Code} {fl : List Nat} {N lid : Nat} {L : FL} {ca cb : C} {args : List AV} {H : AH} {K : AV → AH → Prop} (hm : P.follows .mixedOrders = true) (ha : comp P fl a = ca) (hb : comp P fl b = cb)
    (hd : (dstsOk N ca && dstsOk N cb && ps.all fun p => decide (p < N)) = true) (hfa : flatC ca = true) (hfb : flatC cb = true) (hl : args.length = ps.length) (hid : hget H lid = some (.loop ⟨ps, a, b, N, frm L, .ready⟩))
    (h : wpF P ca none (assignF P lid ⟨ps, a, b, N, frm L, .ready⟩ cb K) (putsL ps args L) H) : AYields P lid args H K := by
  refine AYields.of_body hm ha hb hd hfa hfb hl hid ?_
  rw [← putsL_frm]
  refine wpF_of ca none _ _ _ H (fun e L' H' q => ?_) h
  cases e with
  | normal =>
    refine ⟨frm L', H', (SubFr.refl _).fz, Sub.refl _, q.1, wpF_of cb none _ _ _ _ (fun e L2 H2 q2 => ?_) q.2.out⟩
    cases e with
    | normal => exact ⟨q2.1, q2.2.out⟩
    | ret => exact ⟨q2.1, q2.2.out⟩
    | exit id => exact ⟨q2.1, q2.2.out⟩
    | _ => exact q2.elim
  | _ => exact q.elim
theorem yldF_of {P : Program} {id : Nat} {args : List AV} {H Hs : AH} {K K' : AV → AH → Prop} (h : AYields P id args Hs K') (hs : Sub Hs H)
    (k : ∀ r Hs', K' r Hs' → ∃ H', (∀ j b, hget H' j = some b → hget Hs' j = some b ∨ (hget H j = some b ∧ hget Hs j = none)) ∧ K r H') : yldF P id args H K := ⟨Hs, hs, h.mono k⟩
end Go.Proofs.YtjaigpidmngaaaaGreat

namespace Go.Proofs.YtjaigpidmngaaaaGreat
inductive Nw : AV → AV → Prop
  | refl (v : AV) : Nw v v
  | nil (sz : Nat) : Nw .nilS (.rows sz [])
  | agg (cs cs' : List AV) (hl : cs.length = cs'.length) (h : ∀ (i : Nat) v v', cs[i]? = some v → cs'[i]? = some v' → Nw v v') : Nw (.agg cs) (.agg cs')
  | rows (sz : Nat) (l l' : List (List AV)) (hl : l.length = l'.length) (hw : ∀ (i : Nat) r r', l[i]? = some r → l'[i]? = some r' → r.length = r'.length)
      (h : ∀ (i : Nat) r r' (j : Nat) v v', l[i]? = some r → l'[i]? = some r' → r[j]? = some v → r'[j]? = some v' → Nw v v') : Nw (.rows sz l) (.rows sz l')
  | fp (cs cs' : List AV) (hl : cs.length = cs'.length) (h : ∀ (i : Nat) v v', cs[i]? = some v → cs'[i]? = some v' → Nw v v') : Nw (.fp cs) (.fp cs')
theorem Nw.cell {v v' : AV} (h : Nw v v') : v'.isCell = v.isCell := by cases h <;> rfl
theorem Nw.rl {v v' : AV} (hn : Nw v v') : ∀ {h : Array Obj} {ρ : Loc} {Z : Nat → Prop} {x : Value}, Rl h ρ Z v x → Rl h ρ Z v' x := by
  induction hn with
  | refl v => exact fun h => h
  | nil sz => intro h ρ Z x hr; cases hr; exact .rowsN sz
  | agg cs cs' hl hp ih =>
    intro h ρ Z x hr
    cases hr with
    | agg _ vs h1 h2 h3 =>
      refine .agg cs' vs (by omega) (fun i v q => ?_) (fun i v y q1 q2 => ?_)
      · obtain ⟨a, ha⟩ := get_same hl q
        rw [(hp i a v ha q).cell]; exact h2 i a ha
      · obtain ⟨a, ha⟩ := get_same hl q1
        exact ih i a v ha q1 (h3 i a y ha q2)
  | rows sz l l' hl hw hp ih =>
    intro h ρ Z x hr
    cases hr with
    | rows _ _ b o n c f hn hnc hz hw2 hcc hm hr =>
      refine .rows sz l' b o n c f (by omega) hnc hz (fun i r q => ?_) (fun i r j v q1 q2 => ?_) (fun i r j v q1 q2 => ?_) (fun i r j v q1 q2 => ?_)
      · obtain ⟨a, ha⟩ := get_same hl q
        rw [← hw i a r ha q]; exact hw2 i a ha
      · obtain ⟨a, ha⟩ := get_same hl q1
        obtain ⟨u, hu⟩ := get_same (hw i a r ha q1) q2
        rw [(hp i a r j u v ha q1 hu q2).cell]; exact hcc i a j u ha hu
      · obtain ⟨a, ha⟩ := get_same hl q1
        obtain ⟨u, hu⟩ := get_same (hw i a r ha q1) q2
        exact hm i a j u ha hu
      · obtain ⟨a, ha⟩ := get_same hl q1
        obtain ⟨u, hu⟩ := get_same (hw i a r ha q1) q2
        exact ih i a r j u v ha q1 hu q2 (hr i a j u ha hu)
    | rowsN _ =>
      have : l' = [] := List.eq_nil_of_length_eq_zero hl.symm
      subst this; exact .rowsN sz
    | rowsE _ a c =>
      have : l' = [] := List.eq_nil_of_length_eq_zero hl.symm
      subst this; exact .rowsE sz a c
  | fp cs cs' hl hp ih =>
    intro h ρ Z x hr
    cases hr with
    | fp _ b o f hz hcc hm hr =>
      refine .fp cs' b o f (fun q => hz (by omega)) (fun i v q => ?_) (fun i v q => ?_) (fun i v q => ?_)
      · obtain ⟨a, ha⟩ := get_same hl q
        rw [(hp i a v ha q).cell]; exact hcc i a ha
      · obtain ⟨a, ha⟩ := get_same hl q
        exact hm i a ha
      · obtain ⟨a, ha⟩ := get_same hl q
        exact ih i a v ha q (hr i a ha)
theorem hset_tail {id j : Nat} {b c : Blk} {H : AH} (h : j ≠ id) : hset ((j, b) :: H) id c = (j, b) :: hset H id c := by simp only [hset]; rw [if_neg (fun e => h e.symm)]
def NwL (l l' : List AV) : Prop := l.length = l'.length ∧ ∀ (i : Nat) v v', l[i]? = some v → l'[i]? = some v' → Nw v v'
theorem NwL.refl (l : List AV) : NwL l l := ⟨rfl, fun i v v' h1 h2 => by rw [h1] at h2; cases h2; exact .refl _⟩
theorem NwL.cons {v v' : AV} {l l' : List AV} (h : Nw v v') (hs : NwL l l') : NwL (v :: l) (v' :: l') := by
  refine ⟨by simp [hs.1], fun i a b h1 h2 => ?_⟩
  cases i with
  | zero => simp at h1 h2; rw [← h1, ← h2]; exact h
  | succ i => exact hs.2 i a b (by simpa using h1) (by simpa using h2)
theorem NwL.append {a a' b b' : List AV} (h1 : NwL a a') (h2 : NwL b b') : NwL (a ++ b) (a' ++ b') := by
  refine ⟨by simp [h1.1, h2.1], fun i v v' q1 q2 => ?_⟩
  rw [List.getElem?_append] at q1 q2
  rw [← h1.1] at q2
  split at q1 <;> rename_i hlt
  · rw [if_pos hlt] at q2; exact h1.2 i v v' q1 q2
  · rw [if_neg hlt] at q2; exact h2.2 _ v v' q1 q2
theorem ACalls.nw {P : Program} {f : Nat} {args args' : List AV} {H : AH} {K : AV → AH → Prop} (h : ACalls P f args' H K) (hn : NwL args args') : ACalls P f args H K :=
  h.args fun h ρ Z xs hr => ⟨by rw [← hn.1]; exact hr.1, fun i v x q1 q2 => by
    obtain ⟨a, ha⟩ := get_same hn.1 q1
    exact (hn.2 i a v ha q1).rl (hr.2 i a x ha q2)⟩
def Sh.OkN : Sh → List AV → Prop
  | .int k, vs => ∃ n, vs = [.int k n] ∧ (Lit.int k n).wf = true
  | .bool, vs => ∃ b, vs = [.bool b]
  | .str, vs => ∃ l : List UInt8, vs = [.str l] ∧ l.length ≤ 140737488351232
  | .u, vs => vs = []
  | .p a b, vs => ∃ x y, vs = x ++ y ∧ a.OkN x ∧ b.OkN y
  | .slice sz bytes e, vs => ∃ l, vs = [.rows sz l] ∧ l.length * bytes ≤ 140737488351232 ∧ ∀ r ∈ l, e.OkN r
  | .ptr e, vs => vs = [.nilP] ∨ ∃ r, vs = [.fp r] ∧ e.OkN r
  | .no, _ => False
theorem Sh.Ok.nonil : ∀ {sh : Sh} {vs : List AV}, sh.Ok vs → ∃ vs', NwL vs vs' ∧ sh.OkN vs'
  | .int k, vs, h => ⟨vs, .refl _, h⟩
  | .bool, vs, h => ⟨vs, .refl _, h⟩
  | .str, vs, h => ⟨vs, .refl _, h⟩
  | .u, vs, h => ⟨vs, .refl _, h⟩
  | .p a b, vs, h => by
    obtain ⟨x, y, rfl, h1, h2⟩ := h
    obtain ⟨x', q1, q2⟩ := Sh.Ok.nonil (sh := a) h1
    obtain ⟨y', q3, q4⟩ := Sh.Ok.nonil (sh := b) h2
    exact ⟨x' ++ y', q1.append q3, x', y', rfl, q2, q4⟩
  | .slice sz bytes e, vs, h => by
    rcases h with rfl | ⟨l, rfl, hb, he⟩
    · exact ⟨[.rows sz []], .cons (.nil sz) (.refl _), [], rfl, by simp, by simp⟩
    · obtain ⟨l', q1, q2⟩ := exists_list l.length (Q := fun i r' => ∃ r, l[i]? = some r ∧ NwL r r' ∧ e.OkN r') (fun i hi => by
        obtain ⟨r', a1, a2⟩ := Sh.Ok.nonil (sh := e) (he _ (List.getElem_mem hi))
        exact ⟨r', _, List.getElem?_eq_getElem hi, a1, a2⟩)
      refine ⟨[.rows sz l'], .cons (.rows sz l l' q1.symm (fun i r r' a1 a2 => ?_) (fun i r r' j v v' a1 a2 a3 a4 => ?_)) (.refl _), l', rfl, by rw [q1]; exact hb, fun r' hr => ?_⟩
      · obtain ⟨r0, b1, b2, _⟩ := q2 i r' a2
        rw [a1] at b1; cases b1; exact b2.1
      · obtain ⟨r0, b1, b2, _⟩ := q2 i r' a2
        rw [a1] at b1; cases b1; exact b2.2 j v v' a3 a4
      · obtain ⟨i, hi⟩ := List.getElem?_of_mem hr
        obtain ⟨_, _, _, b3⟩ := q2 i r' hi
        exact b3
  | .no, vs, h => h.elim
  | .ptr e, vs, h => by
    rcases h with rfl | ⟨r, rfl, he⟩
    · exact ⟨_, .refl _, .inl rfl⟩
    · obtain ⟨r', q1, q2⟩ := Sh.Ok.nonil (sh := e) he
      exact ⟨[.fp r'], .cons (.fp r r' q1.1 q1.2) (.refl _), .inr ⟨r', rfl, q2⟩⟩
def ArgOkN (agg : Bool) (sh : Sh) (av : AV) : Prop :=
  match agg with
  | true => ∃ vs, av = .agg vs ∧ sh.OkN vs
  | false => sh.OkN [av]
theorem ArgOk.nonil {agg : Bool} {sh : Sh} {av : AV} (h : ArgOk agg sh av) : ∃ av', ArgOkN agg sh av' ∧ Nw av av' := by
  cases agg with
  | true =>
    obtain ⟨vs, rfl, h⟩ := h
    obtain ⟨vs', q1, q2⟩ := h.nonil
    exact ⟨.agg vs', ⟨vs', rfl, q2⟩, .agg vs vs' q1.1 q1.2⟩
  | false =>
    obtain ⟨vs', q1, q2⟩ := Sh.Ok.nonil (sh := sh) h
    match vs', q1, q2 with
    | [v'], q1, q2 => exact ⟨v', q2, q1.2 0 av v' rfl rfl⟩
    | [], q1, _ => have := q1.1; simp at this
    | _ :: _ :: _, q1, _ => have := q1.1; simp at this
theorem tdiv_nn {a b : Int} (h1 : 0 ≤ a) (h2 : 0 < b) : a.tdiv b = a / b ∧ 0 ≤ a / b ∧ a / b ≤ a := by
  refine ⟨Int.tdiv_eq_ediv_of_nonneg h1, Int.ediv_nonneg h1 (by omega), Int.ediv_le_self _ h1⟩
theorem tmod_nn {a b : Int} (h1 : 0 ≤ a) (h2 : 0 < b) : a.tmod b = a % b ∧ 0 ≤ a % b ∧ a % b < b := 
  ⟨Int.tmod_eq_emod_of_nonneg h1, Int.emod_nonneg _ (by omega), Int.emod_lt_of_pos _ h2⟩
theorem rng_quo_u64 {a b : Int} {k : Int → Prop} (h1 : 0 ≤ a) (h2 : a ≤ 18446744073709551615) (h3 : 0 < b) (h : k (a / b)) : rng (IntKind.wrap .u64 (a.tdiv b)) k := by
  obtain ⟨e, e1, e2⟩ := tdiv_nn h1 h3
  rw [e]; exact rng_u64 e1 (by omega) h
theorem rng_quo_i64 {a b : Int} {k : Int → Prop} (h1 : 0 ≤ a) (h2 : a ≤ 9223372036854775807) (h3 : 0 < b) (h : k (a / b)) : rng (IntKind.wrap .i64 (a.tdiv b)) k := by
  obtain ⟨e, e1, e2⟩ := tdiv_nn h1 h3
  rw [e]; exact rng_i64 (by omega) (by omega) h
theorem rng_rem_u64 {a b : Int} {k : Int → Prop} (h1 : 0 ≤ a) (h2 : b ≤ 18446744073709551615) (h3 : 0 < b) (h : k (a % b)) : rng (IntKind.wrap .u64 (a.tmod b)) k := by
  obtain ⟨e, e1, e2⟩ := tmod_nn h1 h3
  rw [e]; exact rng_u64 e1 (by omega) h
theorem rng_rem_i64 {a b : Int} {k : Int → Prop} (h1 : 0 ≤ a) (h2 : b ≤ 9223372036854775807) (h3 : 0 < b) (h : k (a % b)) : rng (IntKind.wrap .i64 (a.tmod b)) k := by
  obtain ⟨e, e1, e2⟩ := tmod_nn h1 h3
  rw [e]; exact rng_i64 (by omega) (by omega) h
theorem ACalls.frame {P : Program} {f : Nat} {args : List AV} {K : AV → Prop} (h : ACalls P f args [] fun r _ => K r) (H : AH) : ACalls P f args H fun r H' => K r ∧ H' = H := by
  refine ⟨h.1, fun w ρ Z xs hg hr => (h.2 w ρ Z xs (hg.forget fun _ _ q => by cases q) hr).mono fun e w' ⟨x, r, H', ρ', Z', a, g, c, d, k⟩ => ?_⟩
  obtain ⟨q1, q2⟩ := hg.frame (fun _ _ q => by cases q) d g (HS' := H) fun id b q => .inr ⟨q, rfl⟩
  exact ⟨x, r, H, ρ', Z', a, q1, c, q2, k, rfl⟩
end Go.Proofs.YtjaigpidmngaaaaGreat

namespace Go.Proofs.YtjaigpidmngaaaaGreat
def neAll : AH → Nat → Prop
  | [], _ => True
  | (i, _) :: H, j => j ≠ i ∧ neAll H j
theorem neAll_of {H : AH} {j : Nat} (h : hget H j = none) : neAll H j := by
  induction H with
  | nil => trivial
  | cons p H ih =>
    obtain ⟨i, b⟩ := p
    obtain ⟨a, c⟩ := hget_fresh h
    exact ⟨a, ih c⟩
theorem hget_none {H : AH} {j : Nat} (h : neAll H j) : hget H j = none := by
  induction H with
  | nil => rfl
  | cons p H ih =>
    obtain ⟨i, b⟩ := p
    exact (hget_tail (fun e => h.1 e.symm)).trans (ih h.2)
theorem neAll_hset {H : AH} {i j : Nat} {b : Blk} : neAll (hset H i b) j ↔ neAll H j := by
  induction H with
  | nil => exact Iff.rfl
  | cons p H ih =>
    obtain ⟨k, c⟩ := p
    simp only [hset]
    split
    · simp only [neAll]
    · simp only [neAll, ih]
structure Hid (k : Prop) : Prop where
  o : k
theorem hg_of {H : AH} {id : Nat} {b : Option Blk} (h : hget H id = b := by repeat (first | (with_reducible refine Eq.trans hget_self ?_; exact rfl) | with_reducible assumption | (with_reducible refine Eq.trans (hget_tail ?_) ?_; next => first | with_reducible assumption | (apply Ne.symm; with_reducible assumption) | omega) | (with_reducible refine Eq.trans (hget_set ?_) ?_; rotate_left; exact rfl) | (with_reducible refine Eq.trans (hget_set_ne ?_) ?_; next => first | with_reducible assumption | (apply Ne.symm; with_reducible assumption) | omega) | (with_reducible refine Eq.trans (hget_del_ne ?_) ?_; next => first | with_reducible assumption | (apply Ne.symm; with_reducible assumption) | omega) | exact hget_self | assumption | apply hget_set)) : hget H id = b := h
theorem cov_of {p : Prop} (h : p := by repeat (first | exact trivial | refine And.intro (Or.inl rfl) ?_ | refine And.intro (Or.inr (Exists.intro _ (And.intro rfl (Fz.refl _)))) ?_ | refine And.intro (Or.inr (Exists.intro _ (And.intro rfl (fz_eq (congrArg (AV.int _) (by omega)))))) ?_ | refine And.intro (Or.inr (Exists.intro _ (And.intro rfl (fz_eq (congrArg (AV.own _ _ _) (by (try dsimp only); (try simp only [List.length_append, List.length_map, List.length_cons, List.length_nil, List.length_take, List.length_set, List.length_replicate]); (try dsimp only); first | done | omega)))))) ?_)) : p := h
theorem au {k g : Prop} (h : k) (t : Hid k → g := by intro hk; (repeat ((conv => whnf); first | refine Or.inl ?_ | refine dAuto ?_ | (apply Exists.intro; apply Exists.intro; refine And.intro ?_ ?_; (next => repeat (first | (with_reducible refine Eq.trans hget_self ?_; exact rfl) | with_reducible assumption | (with_reducible refine Eq.trans (hget_tail ?_) ?_; next => first | with_reducible assumption | (apply Ne.symm; with_reducible assumption) | omega) | (with_reducible refine Eq.trans (hget_set ?_) ?_; rotate_left; exact rfl) | (with_reducible refine Eq.trans (hget_set_ne ?_) ?_; next => first | with_reducible assumption | (apply Ne.symm; with_reducible assumption) | omega) | (with_reducible refine Eq.trans (hget_del_ne ?_) ?_; next => first | with_reducible assumption | (apply Ne.symm; with_reducible assumption) | omega) | exact hget_self | assumption | apply hget_set)); refine And.intro (Eq.refl (some _)) ?_) | refine Exists.intro _ (And.intro rfl (And.intro rfl ?_)) | (refine And.intro ?_ ?_; next => first | omega | (dsimp only; omega) | exact rfl | exact Nat.le_of_ble_eq_true rfl | (exact ⟨by omega, by omega⟩) | decide | (simp only [List.length_append, List.length_cons, List.length_nil, List.length_map]; omega)) | (refine rng_i64 ?_ ?_ ?_; (next => first | omega | (dsimp only; omega)); (next => first | omega | (dsimp only; omega))) | (refine rng_u8 ?_ ?_ ?_; (next => first | omega | (dsimp only; omega)); (next => first | omega | (dsimp only; omega))) | (refine rng_u64 ?_ ?_ ?_; (next => first | omega | (dsimp only; omega)); (next => first | omega | (dsimp only; omega))) | (refine rng_quo_u64 ?_ ?_ ?_ ?_; (next => first | omega | (dsimp only; omega)); (next => first | omega | (dsimp only; omega)); (next => first | omega | (dsimp only; omega))) | (refine rng_quo_i64 ?_ ?_ ?_ ?_; (next => first | omega | (dsimp only; omega)); (next => first | omega | (dsimp only; omega)); (next => first | omega | (dsimp only; omega))) | (refine rng_rem_u64 ?_ ?_ ?_ ?_; (next => first | omega | (dsimp only; omega)); (next => first | omega | (dsimp only; omega)); (next => first | omega | (dsimp only; omega))) | (refine rng_rem_i64 ?_ ?_ ?_ ?_; (next => first | omega | (dsimp only; omega)); (next => first | omega | (dsimp only; omega)); (next => first | omega | (dsimp only; omega))) | refine bsplit_tt ?_ | refine bsplit_ff ?_ | refine bsplit_not ?_ | (refine bsplit_pos ?_ ?_; (next => first | omega | (dsimp only; omega))) | (refine bsplit_neg ?_ ?_; (next => first | omega | (dsimp only; omega))) | (apply Exists.intro; refine And.intro ?_ ?_; next => repeat (first | (with_reducible refine Eq.trans hget_self ?_; exact rfl) | with_reducible assumption | (with_reducible refine Eq.trans (hget_tail ?_) ?_; next => first | with_reducible assumption | (apply Ne.symm; with_reducible assumption) | omega) | (with_reducible refine Eq.trans (hget_set ?_) ?_; rotate_left; exact rfl) | (with_reducible refine Eq.trans (hget_set_ne ?_) ?_; next => first | with_reducible assumption | (apply Ne.symm; with_reducible assumption) | omega) | (with_reducible refine Eq.trans (hget_del_ne ?_) ?_; next => first | with_reducible assumption | (apply Ne.symm; with_reducible assumption) | omega) | exact hget_self | assumption | apply hget_set)) | (apply hsetN_of; next => (try simp only [over, List.set_cons_zero, List.set_cons_succ, List.take_zero, List.take_succ_cons, List.take_nil, List.drop_zero, List.drop_succ_cons, List.drop_nil, List.nil_append, List.cons_append, List.append_nil, AV.cells, List.length_cons, List.length_nil, Nat.zero_add, Nat.add_zero, Nat.reduceAdd]); exact rfl) | (refine hdelK_top ?_ ?_; next => first | with_reducible assumption | (refine hget_none ?_; (repeat' apply And.intro) <;> first | omega | exact True.intro | assumption)) | (refine hdelK_down ?_ ?_; next => first | with_reducible assumption | (apply Ne.symm; with_reducible assumption) | omega) | refine hdelK_any ?_ | refine hsetK_top ?_ | (refine hsetK_down ?_ ?_; next => first | with_reducible assumption | (apply Ne.symm; with_reducible assumption) | omega) | refine hsetK_any ?_ )); (conv => whnf); exact hk.o) : g := t ⟨h⟩
theorem au0 {g : Prop} (t : g := by (repeat ((conv => whnf); first | refine Or.inl ?_ | refine dAuto ?_ | (apply Exists.intro; apply Exists.intro; refine And.intro ?_ ?_; (next => repeat (first | (with_reducible refine Eq.trans hget_self ?_; exact rfl) | with_reducible assumption | (with_reducible refine Eq.trans (hget_tail ?_) ?_; next => first | with_reducible assumption | (apply Ne.symm; with_reducible assumption) | omega) | (with_reducible refine Eq.trans (hget_set ?_) ?_; rotate_left; exact rfl) | (with_reducible refine Eq.trans (hget_set_ne ?_) ?_; next => first | with_reducible assumption | (apply Ne.symm; with_reducible assumption) | omega) | (with_reducible refine Eq.trans (hget_del_ne ?_) ?_; next => first | with_reducible assumption | (apply Ne.symm; with_reducible assumption) | omega) | exact hget_self | assumption | apply hget_set)); refine And.intro (Eq.refl (some _)) ?_) | refine Exists.intro _ (And.intro rfl (And.intro rfl ?_)) | (refine And.intro ?_ ?_; next => first | omega | (dsimp only; omega) | exact rfl | exact Nat.le_of_ble_eq_true rfl | (exact ⟨by omega, by omega⟩) | decide | (simp only [List.length_append, List.length_cons, List.length_nil, List.length_map]; omega)) | (refine rng_i64 ?_ ?_ ?_; (next => first | omega | (dsimp only; omega)); (next => first | omega | (dsimp only; omega))) | (refine rng_u8 ?_ ?_ ?_; (next => first | omega | (dsimp only; omega)); (next => first | omega | (dsimp only; omega))) | (refine rng_u64 ?_ ?_ ?_; (next => first | omega | (dsimp only; omega)); (next => first | omega | (dsimp only; omega))) | (refine rng_quo_u64 ?_ ?_ ?_ ?_; (next => first | omega | (dsimp only; omega)); (next => first | omega | (dsimp only; omega)); (next => first | omega | (dsimp only; omega))) | (refine rng_quo_i64 ?_ ?_ ?_ ?_; (next => first | omega | (dsimp only; omega)); (next => first | omega | (dsimp only; omega)); (next => first | omega | (dsimp only; omega))) | (refine rng_rem_u64 ?_ ?_ ?_ ?_; (next => first | omega | (dsimp only; omega)); (next => first | omega | (dsimp only; omega)); (next => first | omega | (dsimp only; omega))) | (refine rng_rem_i64 ?_ ?_ ?_ ?_; (next => first | omega | (dsimp only; omega)); (next => first | omega | (dsimp only; omega)); (next => first | omega | (dsimp only; omega))) | refine bsplit_tt ?_ | refine bsplit_ff ?_ | refine bsplit_not ?_ | (refine bsplit_pos ?_ ?_; (next => first | omega | (dsimp only; omega))) | (refine bsplit_neg ?_ ?_; (next => first | omega | (dsimp only; omega))) | (apply Exists.intro; refine And.intro ?_ ?_; next => repeat (first | (with_reducible refine Eq.trans hget_self ?_; exact rfl) | with_reducible assumption | (with_reducible refine Eq.trans (hget_tail ?_) ?_; next => first | with_reducible assumption | (apply Ne.symm; with_reducible assumption) | omega) | (with_reducible refine Eq.trans (hget_set ?_) ?_; rotate_left; exact rfl) | (with_reducible refine Eq.trans (hget_set_ne ?_) ?_; next => first | with_reducible assumption | (apply Ne.symm; with_reducible assumption) | omega) | (with_reducible refine Eq.trans (hget_del_ne ?_) ?_; next => first | with_reducible assumption | (apply Ne.symm; with_reducible assumption) | omega) | exact hget_self | assumption | apply hget_set)) | (apply hsetN_of; next => (try simp only [over, List.set_cons_zero, List.set_cons_succ, List.take_zero, List.take_succ_cons, List.take_nil, List.drop_zero, List.drop_succ_cons, List.drop_nil, List.nil_append, List.cons_append, List.append_nil, AV.cells, List.length_cons, List.length_nil, Nat.zero_add, Nat.add_zero, Nat.reduceAdd]); exact rfl) | (refine hdelK_top ?_ ?_; next => first | with_reducible assumption | (refine hget_none ?_; (repeat' apply And.intro) <;> first | omega | exact True.intro | assumption)) | (refine hdelK_down ?_ ?_; next => first | with_reducible assumption | (apply Ne.symm; with_reducible assumption) | omega) | refine hdelK_any ?_ | refine hsetK_top ?_ | (refine hsetK_down ?_ ?_; next => first | with_reducible assumption | (apply Ne.symm; with_reducible assumption) | omega) | refine hsetK_any ?_ )); (conv => whnf); (first | done | fail)) : g := t
theorem ah {k g : Prop} (h : k) (t : Hid k → g := by intro hk; (repeat ((conv => whnf); first | refine Or.inl ?_ | refine dAuto ?_ | (apply Exists.intro; apply Exists.intro; refine And.intro ?_ ?_; (next => repeat (first | (with_reducible refine Eq.trans hget_self ?_; exact rfl) | with_reducible assumption | (with_reducible refine Eq.trans (hget_tail ?_) ?_; next => first | with_reducible assumption | (apply Ne.symm; with_reducible assumption) | omega) | (with_reducible refine Eq.trans (hget_set ?_) ?_; rotate_left; exact rfl) | (with_reducible refine Eq.trans (hget_set_ne ?_) ?_; next => first | with_reducible assumption | (apply Ne.symm; with_reducible assumption) | omega) | (with_reducible refine Eq.trans (hget_del_ne ?_) ?_; next => first | with_reducible assumption | (apply Ne.symm; with_reducible assumption) | omega) | exact hget_self | assumption | apply hget_set)); refine And.intro (Eq.refl (some _)) ?_) | refine Exists.intro _ (And.intro rfl (And.intro rfl ?_)) | (refine And.intro ?_ ?_; next => first | omega | (dsimp only; omega) | exact rfl | exact Nat.le_of_ble_eq_true rfl | (exact ⟨by omega, by omega⟩) | decide | (simp only [List.length_append, List.length_cons, List.length_nil, List.length_map]; omega)) | (refine rng_i64 ?_ ?_ ?_; (next => first | omega | (dsimp only; omega)); (next => first | omega | (dsimp only; omega))) | (refine rng_u8 ?_ ?_ ?_; (next => first | omega | (dsimp only; omega)); (next => first | omega | (dsimp only; omega))) | (refine rng_u64 ?_ ?_ ?_; (next => first | omega | (dsimp only; omega)); (next => first | omega | (dsimp only; omega))) | (refine rng_quo_u64 ?_ ?_ ?_ ?_; (next => first | omega | (dsimp only; omega)); (next => first | omega | (dsimp only; omega)); (next => first | omega | (dsimp only; omega))) | (refine rng_quo_i64 ?_ ?_ ?_ ?_; (next => first | omega | (dsimp only; omega)); (next => first | omega | (dsimp only; omega)); (next => first | omega | (dsimp only; omega))) | (refine rng_rem_u64 ?_ ?_ ?_ ?_; (next => first | omega | (dsimp only; omega)); (next => first | omega | (dsimp only; omega)); (next => first | omega | (dsimp only; omega))) | (refine rng_rem_i64 ?_ ?_ ?_ ?_; (next => first | omega | (dsimp only; omega)); (next => first | omega | (dsimp only; omega)); (next => first | omega | (dsimp only; omega))) | refine bsplit_tt ?_ | refine bsplit_ff ?_ | refine bsplit_not ?_ | (refine bsplit_pos ?_ ?_; (next => first | omega | (dsimp only; omega))) | (refine bsplit_neg ?_ ?_; (next => first | omega | (dsimp only; omega))) | (apply Exists.intro; refine And.intro ?_ ?_; next => repeat (first | (with_reducible refine Eq.trans hget_self ?_; exact rfl) | with_reducible assumption | (with_reducible refine Eq.trans (hget_tail ?_) ?_; next => first | with_reducible assumption | (apply Ne.symm; with_reducible assumption) | omega) | (with_reducible refine Eq.trans (hget_set ?_) ?_; rotate_left; exact rfl) | (with_reducible refine Eq.trans (hget_set_ne ?_) ?_; next => first | with_reducible assumption | (apply Ne.symm; with_reducible assumption) | omega) | (with_reducible refine Eq.trans (hget_del_ne ?_) ?_; next => first | with_reducible assumption | (apply Ne.symm; with_reducible assumption) | omega) | exact hget_self | assumption | apply hget_set)) | (apply hsetN_of; next => (try simp only [over, List.set_cons_zero, List.set_cons_succ, List.take_zero, List.take_succ_cons, List.take_nil, List.drop_zero, List.drop_succ_cons, List.drop_nil, List.nil_append, List.cons_append, List.append_nil, AV.cells, List.length_cons, List.length_nil, Nat.zero_add, Nat.add_zero, Nat.reduceAdd]); exact rfl) | (refine hdelK_top ?_ ?_; next => first | with_reducible assumption | (refine hget_none ?_; (repeat' apply And.intro) <;> first | omega | exact True.intro | assumption)) | (refine hdelK_down ?_ ?_; next => first | with_reducible assumption | (apply Ne.symm; with_reducible assumption) | omega) | refine hdelK_any ?_ | refine hsetK_top ?_ | (refine hsetK_down ?_ ?_; next => first | with_reducible assumption | (apply Ne.symm; with_reducible assumption) | omega) | refine hsetK_any ?_  | rw [hset_self] | rw [hset_tail (by first | with_reducible assumption | (apply Ne.symm; with_reducible assumption) | omega)])); (conv => whnf); exact hk.o) : g := t ⟨h⟩
theorem ah0 {g : Prop} (t : g := by (repeat ((conv => whnf); first | refine Or.inl ?_ | refine dAuto ?_ | (apply Exists.intro; apply Exists.intro; refine And.intro ?_ ?_; (next => repeat (first | (with_reducible refine Eq.trans hget_self ?_; exact rfl) | with_reducible assumption | (with_reducible refine Eq.trans (hget_tail ?_) ?_; next => first | with_reducible assumption | (apply Ne.symm; with_reducible assumption) | omega) | (with_reducible refine Eq.trans (hget_set ?_) ?_; rotate_left; exact rfl) | (with_reducible refine Eq.trans (hget_set_ne ?_) ?_; next => first | with_reducible assumption | (apply Ne.symm; with_reducible assumption) | omega) | (with_reducible refine Eq.trans (hget_del_ne ?_) ?_; next => first | with_reducible assumption | (apply Ne.symm; with_reducible assumption) | omega) | exact hget_self | assumption | apply hget_set)); refine And.intro (Eq.refl (some _)) ?_) | refine Exists.intro _ (And.intro rfl (And.intro rfl ?_)) | (refine And.intro ?_ ?_; next => first | omega | (dsimp only; omega) | exact rfl | exact Nat.le_of_ble_eq_true rfl | (exact ⟨by omega, by omega⟩) | decide | (simp only [List.length_append, List.length_cons, List.length_nil, List.length_map]; omega)) | (refine rng_i64 ?_ ?_ ?_; (next => first | omega | (dsimp only; omega)); (next => first | omega | (dsimp only; omega))) | (refine rng_u8 ?_ ?_ ?_; (next => first | omega | (dsimp only; omega)); (next => first | omega | (dsimp only; omega))) | (refine rng_u64 ?_ ?_ ?_; (next => first | omega | (dsimp only; omega)); (next => first | omega | (dsimp only; omega))) | (refine rng_quo_u64 ?_ ?_ ?_ ?_; (next => first | omega | (dsimp only; omega)); (next => first | omega | (dsimp only; omega)); (next => first | omega | (dsimp only; omega))) | (refine rng_quo_i64 ?_ ?_ ?_ ?_; (next => first | omega | (dsimp only; omega)); (next => first | omega | (dsimp only; omega)); (next => first | omega | (dsimp only; omega))) | (refine rng_rem_u64 ?_ ?_ ?_ ?_; (next => first | omega | (dsimp only; omega)); (next => first | omega | (dsimp only; omega)); (next => first | omega | (dsimp only; omega))) | (refine rng_rem_i64 ?_ ?_ ?_ ?_; (next => first | omega | (dsimp only; omega)); (next => first | omega | (dsimp only; omega)); (next => first | omega | (dsimp only; omega))) | refine bsplit_tt ?_ | refine bsplit_ff ?_ | refine bsplit_not ?_ | (refine bsplit_pos ?_ ?_; (next => first | omega | (dsimp only; omega))) | (refine bsplit_neg ?_ ?_; (next => first | omega | (dsimp only; omega))) | (apply Exists.intro; refine And.intro ?_ ?_; next => repeat (first | (with_reducible refine Eq.trans hget_self ?_; exact rfl) | with_reducible assumption | (with_reducible refine Eq.trans (hget_tail ?_) ?_; next => first | with_reducible assumption | (apply Ne.symm; with_reducible assumption) | omega) | (with_reducible refine Eq.trans (hget_set ?_) ?_; rotate_left; exact rfl) | (with_reducible refine Eq.trans (hget_set_ne ?_) ?_; next => first | with_reducible assumption | (apply Ne.symm; with_reducible assumption) | omega) | (with_reducible refine Eq.trans (hget_del_ne ?_) ?_; next => first | with_reducible assumption | (apply Ne.symm; with_reducible assumption) | omega) | exact hget_self | assumption | apply hget_set)) | (apply hsetN_of; next => (try simp only [over, List.set_cons_zero, List.set_cons_succ, List.take_zero, List.take_succ_cons, List.take_nil, List.drop_zero, List.drop_succ_cons, List.drop_nil, List.nil_append, List.cons_append, List.append_nil, AV.cells, List.length_cons, List.length_nil, Nat.zero_add, Nat.add_zero, Nat.reduceAdd]); exact rfl) | (refine hdelK_top ?_ ?_; next => first | with_reducible assumption | (refine hget_none ?_; (repeat' apply And.intro) <;> first | omega | exact True.intro | assumption)) | (refine hdelK_down ?_ ?_; next => first | with_reducible assumption | (apply Ne.symm; with_reducible assumption) | omega) | refine hdelK_any ?_ | refine hsetK_top ?_ | (refine hsetK_down ?_ ?_; next => first | with_reducible assumption | (apply Ne.symm; with_reducible assumption) | omega) | refine hsetK_any ?_  | rw [hset_self] | rw [hset_tail (by first | with_reducible assumption | (apply Ne.symm; with_reducible assumption) | omega)])); (conv => whnf); (first | done | fail)) : g := t
theorem ac {k g : Prop} (h : k) (t : Hid k → g := by intro hk; (repeat ((conv => whnf); first | (apply Exists.intro; apply Exists.intro; refine And.intro ?_ ?_; (next => repeat (first | (with_reducible refine Eq.trans hget_self ?_; exact rfl) | with_reducible assumption | (with_reducible refine Eq.trans (hget_tail ?_) ?_; next => first | with_reducible assumption | (apply Ne.symm; with_reducible assumption) | omega) | (with_reducible refine Eq.trans (hget_set ?_) ?_; rotate_left; exact rfl) | (with_reducible refine Eq.trans (hget_set_ne ?_) ?_; next => first | with_reducible assumption | (apply Ne.symm; with_reducible assumption) | omega) | (with_reducible refine Eq.trans (hget_del_ne ?_) ?_; next => first | with_reducible assumption | (apply Ne.symm; with_reducible assumption) | omega) | exact hget_self | assumption | apply hget_set)); refine And.intro (Eq.refl (some _)) ?_) | refine Exists.intro _ (And.intro rfl (And.intro rfl ?_)) | (refine And.intro ?_ ?_; next => first | omega | (dsimp only; omega) | exact rfl | exact Nat.le_of_ble_eq_true rfl | (exact ⟨by omega, by omega⟩) | decide | (simp only [List.length_append, List.length_cons, List.length_nil, List.length_map]; omega)) | (refine rng_i64 ?_ ?_ ?_; (next => first | omega | (dsimp only; omega)); (next => first | omega | (dsimp only; omega))) | (refine rng_u8 ?_ ?_ ?_; (next => first | omega | (dsimp only; omega)); (next => first | omega | (dsimp only; omega))) | (refine rng_u64 ?_ ?_ ?_; (next => first | omega | (dsimp only; omega)); (next => first | omega | (dsimp only; omega))) | (refine rng_quo_u64 ?_ ?_ ?_ ?_; (next => first | omega | (dsimp only; omega)); (next => first | omega | (dsimp only; omega)); (next => first | omega | (dsimp only; omega))) | (refine rng_quo_i64 ?_ ?_ ?_ ?_; (next => first | omega | (dsimp only; omega)); (next => first | omega | (dsimp only; omega)); (next => first | omega | (dsimp only; omega))) | (refine rng_rem_u64 ?_ ?_ ?_ ?_; (next => first | omega | (dsimp only; omega)); (next => first | omega | (dsimp only; omega)); (next => first | omega | (dsimp only; omega))) | (refine rng_rem_i64 ?_ ?_ ?_ ?_; (next => first | omega | (dsimp only; omega)); (next => first | omega | (dsimp only; omega)); (next => first | omega | (dsimp only; omega))) | refine bsplit_tt ?_ | refine bsplit_ff ?_ | refine bsplit_not ?_ | (refine bsplit_pos ?_ ?_; (next => first | omega | (dsimp only; omega))) | (refine bsplit_neg ?_ ?_; (next => first | omega | (dsimp only; omega))) | (apply Exists.intro; refine And.intro ?_ ?_; next => repeat (first | (with_reducible refine Eq.trans hget_self ?_; exact rfl) | with_reducible assumption | (with_reducible refine Eq.trans (hget_tail ?_) ?_; next => first | with_reducible assumption | (apply Ne.symm; with_reducible assumption) | omega) | (with_reducible refine Eq.trans (hget_set ?_) ?_; rotate_left; exact rfl) | (with_reducible refine Eq.trans (hget_set_ne ?_) ?_; next => first | with_reducible assumption | (apply Ne.symm; with_reducible assumption) | omega) | (with_reducible refine Eq.trans (hget_del_ne ?_) ?_; next => first | with_reducible assumption | (apply Ne.symm; with_reducible assumption) | omega) | exact hget_self | assumption | apply hget_set)) | (apply hsetN_of; next => (try simp only [over, List.set_cons_zero, List.set_cons_succ, List.take_zero, List.take_succ_cons, List.take_nil, List.drop_zero, List.drop_succ_cons, List.drop_nil, List.nil_append, List.cons_append, List.append_nil, AV.cells, List.length_cons, List.length_nil, Nat.zero_add, Nat.add_zero, Nat.reduceAdd]); exact rfl) | (refine hdelK_top ?_ ?_; next => first | with_reducible assumption | (refine hget_none ?_; (repeat' apply And.intro) <;> first | omega | exact True.intro | assumption)) | (refine hdelK_down ?_ ?_; next => first | with_reducible assumption | (apply Ne.symm; with_reducible assumption) | omega) | refine hdelK_any ?_ | refine hsetK_top ?_ | (refine hsetK_down ?_ ?_; next => first | with_reducible assumption | (apply Ne.symm; with_reducible assumption) | omega) | refine hsetK_any ?_  | rw [hset_self] | rw [hset_tail (by first | with_reducible assumption | (apply Ne.symm; with_reducible assumption) | omega)])); (conv => whnf); exact hk.o) : g := t ⟨h⟩
theorem ac0 {g : Prop} (t : g := by (repeat ((conv => whnf); first | (apply Exists.intro; apply Exists.intro; refine And.intro ?_ ?_; (next => repeat (first | (with_reducible refine Eq.trans hget_self ?_; exact rfl) | with_reducible assumption | (with_reducible refine Eq.trans (hget_tail ?_) ?_; next => first | with_reducible assumption | (apply Ne.symm; with_reducible assumption) | omega) | (with_reducible refine Eq.trans (hget_set ?_) ?_; rotate_left; exact rfl) | (with_reducible refine Eq.trans (hget_set_ne ?_) ?_; next => first | with_reducible assumption | (apply Ne.symm; with_reducible assumption) | omega) | (with_reducible refine Eq.trans (hget_del_ne ?_) ?_; next => first | with_reducible assumption | (apply Ne.symm; with_reducible assumption) | omega) | exact hget_self | assumption | apply hget_set)); refine And.intro (Eq.refl (some _)) ?_) | refine Exists.intro _ (And.intro rfl (And.intro rfl ?_)) | (refine And.intro ?_ ?_; next => first | omega | (dsimp only; omega) | exact rfl | exact Nat.le_of_ble_eq_true rfl | (exact ⟨by omega, by omega⟩) | decide | (simp only [List.length_append, List.length_cons, List.length_nil, List.length_map]; omega)) | (refine rng_i64 ?_ ?_ ?_; (next => first | omega | (dsimp only; omega)); (next => first | omega | (dsimp only; omega))) | (refine rng_u8 ?_ ?_ ?_; (next => first | omega | (dsimp only; omega)); (next => first | omega | (dsimp only; omega))) | (refine rng_u64 ?_ ?_ ?_; (next => first | omega | (dsimp only; omega)); (next => first | omega | (dsimp only; omega))) | (refine rng_quo_u64 ?_ ?_ ?_ ?_; (next => first | omega | (dsimp only; omega)); (next => first | omega | (dsimp only; omega)); (next => first | omega | (dsimp only; omega))) | (refine rng_quo_i64 ?_ ?_ ?_ ?_; (next => first | omega | (dsimp only; omega)); (next => first | omega | (dsimp only; omega)); (next => first | omega | (dsimp only; omega))) | (refine rng_rem_u64 ?_ ?_ ?_ ?_; (next => first | omega | (dsimp only; omega)); (next => first | omega | (dsimp only; omega)); (next => first | omega | (dsimp only; omega))) | (refine rng_rem_i64 ?_ ?_ ?_ ?_; (next => first | omega | (dsimp only; omega)); (next => first | omega | (dsimp only; omega)); (next => first | omega | (dsimp only; omega))) | refine bsplit_tt ?_ | refine bsplit_ff ?_ | refine bsplit_not ?_ | (refine bsplit_pos ?_ ?_; (next => first | omega | (dsimp only; omega))) | (refine bsplit_neg ?_ ?_; (next => first | omega | (dsimp only; omega))) | (apply Exists.intro; refine And.intro ?_ ?_; next => repeat (first | (with_reducible refine Eq.trans hget_self ?_; exact rfl) | with_reducible assumption | (with_reducible refine Eq.trans (hget_tail ?_) ?_; next => first | with_reducible assumption | (apply Ne.symm; with_reducible assumption) | omega) | (with_reducible refine Eq.trans (hget_set ?_) ?_; rotate_left; exact rfl) | (with_reducible refine Eq.trans (hget_set_ne ?_) ?_; next => first | with_reducible assumption | (apply Ne.symm; with_reducible assumption) | omega) | (with_reducible refine Eq.trans (hget_del_ne ?_) ?_; next => first | with_reducible assumption | (apply Ne.symm; with_reducible assumption) | omega) | exact hget_self | assumption | apply hget_set)) | (apply hsetN_of; next => (try simp only [over, List.set_cons_zero, List.set_cons_succ, List.take_zero, List.take_succ_cons, List.take_nil, List.drop_zero, List.drop_succ_cons, List.drop_nil, List.nil_append, List.cons_append, List.append_nil, AV.cells, List.length_cons, List.length_nil, Nat.zero_add, Nat.add_zero, Nat.reduceAdd]); exact rfl) | (refine hdelK_top ?_ ?_; next => first | with_reducible assumption | (refine hget_none ?_; (repeat' apply And.intro) <;> first | omega | exact True.intro | assumption)) | (refine hdelK_down ?_ ?_; next => first | with_reducible assumption | (apply Ne.symm; with_reducible assumption) | omega) | refine hdelK_any ?_ | refine hsetK_top ?_ | (refine hsetK_down ?_ ?_; next => first | with_reducible assumption | (apply Ne.symm; with_reducible assumption) | omega) | refine hsetK_any ?_  | rw [hset_self] | rw [hset_tail (by first | with_reducible assumption | (apply Ne.symm; with_reducible assumption) | omega)])); (conv => whnf); (first | done | fail)) : g := t
theorem ab {k g : Prop} (h : k) (t : Hid k → g := by intro hk; (repeat ((conv => whnf); first | (apply Exists.intro; apply Exists.intro; refine And.intro ?_ ?_; (next => repeat (first | (with_reducible refine Eq.trans hget_self ?_; exact rfl) | with_reducible assumption | (with_reducible refine Eq.trans (hget_tail ?_) ?_; next => first | with_reducible assumption | (apply Ne.symm; with_reducible assumption) | omega) | (with_reducible refine Eq.trans (hget_set ?_) ?_; rotate_left; exact rfl) | (with_reducible refine Eq.trans (hget_set_ne ?_) ?_; next => first | with_reducible assumption | (apply Ne.symm; with_reducible assumption) | omega) | (with_reducible refine Eq.trans (hget_del_ne ?_) ?_; next => first | with_reducible assumption | (apply Ne.symm; with_reducible assumption) | omega) | exact hget_self | assumption | apply hget_set)); refine And.intro (Eq.refl (some _)) ?_) | refine Exists.intro _ (And.intro rfl (And.intro rfl ?_)) | (refine And.intro ?_ ?_; next => first | omega | (dsimp only; omega) | exact rfl | exact Nat.le_of_ble_eq_true rfl | (exact ⟨by omega, by omega⟩) | decide | (simp only [List.length_append, List.length_cons, List.length_nil, List.length_map]; omega)) | (refine rng_i64 ?_ ?_ ?_; (next => first | omega | (dsimp only; omega)); (next => first | omega | (dsimp only; omega))) | (refine rng_u8 ?_ ?_ ?_; (next => first | omega | (dsimp only; omega)); (next => first | omega | (dsimp only; omega))) | (refine rng_u64 ?_ ?_ ?_; (next => first | omega | (dsimp only; omega)); (next => first | omega | (dsimp only; omega))) | (refine rng_quo_u64 ?_ ?_ ?_ ?_; (next => first | omega | (dsimp only; omega)); (next => first | omega | (dsimp only; omega)); (next => first | omega | (dsimp only; omega))) | (refine rng_quo_i64 ?_ ?_ ?_ ?_; (next => first | omega | (dsimp only; omega)); (next => first | omega | (dsimp only; omega)); (next => first | omega | (dsimp only; omega))) | (refine rng_rem_u64 ?_ ?_ ?_ ?_; (next => first | omega | (dsimp only; omega)); (next => first | omega | (dsimp only; omega)); (next => first | omega | (dsimp only; omega))) | (refine rng_rem_i64 ?_ ?_ ?_ ?_; (next => first | omega | (dsimp only; omega)); (next => first | omega | (dsimp only; omega)); (next => first | omega | (dsimp only; omega))) | refine bsplit_tt ?_ | refine bsplit_ff ?_ | refine bsplit_not ?_ | (refine bsplit_pos ?_ ?_; (next => first | omega | (dsimp only; omega))) | (refine bsplit_neg ?_ ?_; (next => first | omega | (dsimp only; omega))) | (apply Exists.intro; refine And.intro ?_ ?_; next => repeat (first | (with_reducible refine Eq.trans hget_self ?_; exact rfl) | with_reducible assumption | (with_reducible refine Eq.trans (hget_tail ?_) ?_; next => first | with_reducible assumption | (apply Ne.symm; with_reducible assumption) | omega) | (with_reducible refine Eq.trans (hget_set ?_) ?_; rotate_left; exact rfl) | (with_reducible refine Eq.trans (hget_set_ne ?_) ?_; next => first | with_reducible assumption | (apply Ne.symm; with_reducible assumption) | omega) | (with_reducible refine Eq.trans (hget_del_ne ?_) ?_; next => first | with_reducible assumption | (apply Ne.symm; with_reducible assumption) | omega) | exact hget_self | assumption | apply hget_set)) | (apply hsetN_of; next => (try simp only [over, List.set_cons_zero, List.set_cons_succ, List.take_zero, List.take_succ_cons, List.take_nil, List.drop_zero, List.drop_succ_cons, List.drop_nil, List.nil_append, List.cons_append, List.append_nil, AV.cells, List.length_cons, List.length_nil, Nat.zero_add, Nat.add_zero, Nat.reduceAdd]); exact rfl) | (refine hdelK_top ?_ ?_; next => first | with_reducible assumption | (refine hget_none ?_; (repeat' apply And.intro) <;> first | omega | exact True.intro | assumption)) | (refine hdelK_down ?_ ?_; next => first | with_reducible assumption | (apply Ne.symm; with_reducible assumption) | omega) | refine hdelK_any ?_ | refine hsetK_top ?_ | (refine hsetK_down ?_ ?_; next => first | with_reducible assumption | (apply Ne.symm; with_reducible assumption) | omega) | refine hsetK_any ?_ )); (conv => whnf); exact hk.o) : g := t ⟨h⟩
theorem ab0 {g : Prop} (t : g := by (repeat ((conv => whnf); first | (apply Exists.intro; apply Exists.intro; refine And.intro ?_ ?_; (next => repeat (first | (with_reducible refine Eq.trans hget_self ?_; exact rfl) | with_reducible assumption | (with_reducible refine Eq.trans (hget_tail ?_) ?_; next => first | with_reducible assumption | (apply Ne.symm; with_reducible assumption) | omega) | (with_reducible refine Eq.trans (hget_set ?_) ?_; rotate_left; exact rfl) | (with_reducible refine Eq.trans (hget_set_ne ?_) ?_; next => first | with_reducible assumption | (apply Ne.symm; with_reducible assumption) | omega) | (with_reducible refine Eq.trans (hget_del_ne ?_) ?_; next => first | with_reducible assumption | (apply Ne.symm; with_reducible assumption) | omega) | exact hget_self | assumption | apply hget_set)); refine And.intro (Eq.refl (some _)) ?_) | refine Exists.intro _ (And.intro rfl (And.intro rfl ?_)) | (refine And.intro ?_ ?_; next => first | omega | (dsimp only; omega) | exact rfl | exact Nat.le_of_ble_eq_true rfl | (exact ⟨by omega, by omega⟩) | decide | (simp only [List.length_append, List.length_cons, List.length_nil, List.length_map]; omega)) | (refine rng_i64 ?_ ?_ ?_; (next => first | omega | (dsimp only; omega)); (next => first | omega | (dsimp only; omega))) | (refine rng_u8 ?_ ?_ ?_; (next => first | omega | (dsimp only; omega)); (next => first | omega | (dsimp only; omega))) | (refine rng_u64 ?_ ?_ ?_; (next => first | omega | (dsimp only; omega)); (next => first | omega | (dsimp only; omega))) | (refine rng_quo_u64 ?_ ?_ ?_ ?_; (next => first | omega | (dsimp only; omega)); (next => first | omega | (dsimp only; omega)); (next => first | omega | (dsimp only; omega))) | (refine rng_quo_i64 ?_ ?_ ?_ ?_; (next => first | omega | (dsimp only; omega)); (next => first | omega | (dsimp only; omega)); (next => first | omega | (dsimp only; omega))) | (refine rng_rem_u64 ?_ ?_ ?_ ?_; (next => first | omega | (dsimp only; omega)); (next => first | omega | (dsimp only; omega)); (next => first | omega | (dsimp only; omega))) | (refine rng_rem_i64 ?_ ?_ ?_ ?_; (next => first | omega | (dsimp only; omega)); (next => first | omega | (dsimp only; omega)); (next => first | omega | (dsimp only; omega))) | refine bsplit_tt ?_ | refine bsplit_ff ?_ | refine bsplit_not ?_ | (refine bsplit_pos ?_ ?_; (next => first | omega | (dsimp only; omega))) | (refine bsplit_neg ?_ ?_; (next => first | omega | (dsimp only; omega))) | (apply Exists.intro; refine And.intro ?_ ?_; next => repeat (first | (with_reducible refine Eq.trans hget_self ?_; exact rfl) | with_reducible assumption | (with_reducible refine Eq.trans (hget_tail ?_) ?_; next => first | with_reducible assumption | (apply Ne.symm; with_reducible assumption) | omega) | (with_reducible refine Eq.trans (hget_set ?_) ?_; rotate_left; exact rfl) | (with_reducible refine Eq.trans (hget_set_ne ?_) ?_; next => first | with_reducible assumption | (apply Ne.symm; with_reducible assumption) | omega) | (with_reducible refine Eq.trans (hget_del_ne ?_) ?_; next => first | with_reducible assumption | (apply Ne.symm; with_reducible assumption) | omega) | exact hget_self | assumption | apply hget_set)) | (apply hsetN_of; next => (try simp only [over, List.set_cons_zero, List.set_cons_succ, List.take_zero, List.take_succ_cons, List.take_nil, List.drop_zero, List.drop_succ_cons, List.drop_nil, List.nil_append, List.cons_append, List.append_nil, AV.cells, List.length_cons, List.length_nil, Nat.zero_add, Nat.add_zero, Nat.reduceAdd]); exact rfl) | (refine hdelK_top ?_ ?_; next => first | with_reducible assumption | (refine hget_none ?_; (repeat' apply And.intro) <;> first | omega | exact True.intro | assumption)) | (refine hdelK_down ?_ ?_; next => first | with_reducible assumption | (apply Ne.symm; with_reducible assumption) | omega) | refine hdelK_any ?_ | refine hsetK_top ?_ | (refine hsetK_down ?_ ?_; next => first | with_reducible assumption | (apply Ne.symm; with_reducible assumption) | omega) | refine hsetK_any ?_ )); (conv => whnf); (first | done | fail)) : g := t
end Go.Proofs.YtjaigpidmngaaaaGreat

namespace Go.Proofs.YtjaigpidmngaaaaGreat
theorem Sub.skip {H K : AH} {id : Nat} {b : Blk} (h : Sub K H) (hid : hget H id = none) : Sub K ((id, b) :: H) := fun j c q => by
  have := h j c q
  exact (hget_tail (hget_ne_of hid this)).trans this
theorem Sub.keep {H K : AH} {id : Nat} {b : Blk} (h : Sub K H) : Sub ((id, b) :: K) ((id, b) :: H) := fun j c q => by
  simp only [hget] at q ⊢
  split at q
  · rename_i e; rw [if_pos e]; exact q
  · rename_i e; rw [if_neg e]; exact h _ _ q
theorem Sub.del {K H : AH} {id : Nat} (h : Sub K H) (hid : hget K id = none) : Sub K (hdel H id) := fun j c q => by
  rw [hget_hdel]
  by_cases e : j = id
  · subst e; rw [hid] at q; cases q
  · rw [if_neg e]; exact h _ _ q
theorem Sub.nil (H : AH) : Sub [] H := fun _ _ q => by cases q
theorem Sub.trans {A B C : AH} (h : Sub A B) (k : Sub B C) : Sub A C := fun i b q => k _ _ (h _ _ q)
theorem ACalls.fz {P : Program} {f : Nat} {args : List AV} {H H1 : AH} {v : AV} (h : ACalls P f args H fun r H' => Fz H' H1 r v ∧ Sub H1 H') : ACalls P f args H fun r H' => r = v ∧ H' = H1 :=
  h.freeze fun r H' ⟨a, b⟩ => ⟨v, H1, b, a, rfl, rfl⟩
/-! ### Freezing, part by part -/
theorem Fz.aggL {H Hc : AH} {cs cs' : List AV} (h : FzL H Hc cs cs') : Fz H Hc (.agg cs) (.agg cs') := .agg cs cs' h.1 h.2
theorem Fz.tupL {H Hc : AH} {cs cs' : List AV} (h : FzL H Hc cs cs') : Fz H Hc (.tup cs) (.tup cs') := .tup cs cs' h.1 h.2
def FzR (H Hc : AH) : List (List AV) → List (List AV) → Prop
  | [], [] => True
  | r :: l, r' :: l' => FzL H Hc r r' ∧ FzR H Hc l l'
  | _, _ => False
theorem FzR.spec {H Hc : AH} : ∀ {l l' : List (List AV)}, FzR H Hc l l' → l.length = l'.length ∧ ∀ (i : Nat) r r', l[i]? = some r → l'[i]? = some r' → FzL H Hc r r'
  | [], [], _ => ⟨rfl, fun i r r' q => by simp at q⟩
  | r :: l, [], h => h.elim
  | [], r :: l, h => h.elim
  | r :: l, r' :: l', h => by
    obtain ⟨a, b⟩ := FzR.spec h.2
    refine ⟨by simp [a], fun i x x' q1 q2 => ?_⟩
    cases i with
    | zero => simp at q1 q2; rw [← q1, ← q2]; exact h.1
    | succ i => exact b i x x' (by simpa using q1) (by simpa using q2)
theorem Fz.rowsL {H Hc : AH} {sz : Nat} {l l' : List (List AV)} (h : FzR H Hc l l') : Fz H Hc (.rows sz l) (.rows sz l') :=
  .rows sz l l' h.spec.1 (fun i r r' a b => (h.spec.2 i r r' a b).1) fun i r r' j v v' a b c d => (h.spec.2 i r r' a b).2 j v v' c d
theorem FzR.refl (H Hc : AH) : ∀ l : List (List AV), FzR H Hc l l
  | [] => trivial
  | r :: l => ⟨FzL.refl H Hc r, FzR.refl H Hc l⟩
theorem FzR.append {H Hc : AH} : ∀ {l l' m m' : List (List AV)}, FzR H Hc l l' → FzR H Hc m m' → FzR H Hc (l ++ m) (l' ++ m')
  | [], [], m, m', _, h => h
  | r :: l, [], m, m', h, _ => h.elim
  | [], r :: l, m, m', h, _ => h.elim
  | r :: l, r' :: l', m, m', h, k => ⟨h.1, h.2.append k⟩
theorem Fz.ownL {H Hc : AH} {id sz : Nat} {l l' : List (List AV)} (hg : hget H id = some (.rows sz l)) (hd : hget Hc id = none) (h : FzR H Hc l l') (hw : ∀ r ∈ l', r.length = sz) : Fz H Hc (.own id sz 0 l.length) (.rows sz l') := by
  refine .own id sz 0 l.length l l' hg hd (Nat.le_refl _) (Nat.zero_le _) (by rw [← h.spec.1]; omega) (fun i r' q => hw r' (List.mem_of_getElem? q)) fun i r r' j v v' q1 q2 q3 q4 => ?_
  rw [Nat.zero_add] at q1
  exact (h.spec.2 i r r' q1 q2).2 j v v' q3 q4
inductive Cl : AV → Prop
  | int (k : IntKind) (n : Int) : Cl (.int k n)
  | bool (b : Bool) : Cl (.bool b)
  | str (l : List UInt8) : Cl (.str l)
  | nilS : Cl .nilS
  | nilP : Cl .nilP
  | nilF : Cl .nilF
  | nilI : Cl .nilI
  | emp : Cl .emp
  | agg (cs : List AV) (h : ∀ v ∈ cs, Cl v) : Cl (.agg cs)
  | tup (cs : List AV) (h : ∀ v ∈ cs, Cl v) : Cl (.tup cs)
  | rows (sz : Nat) (l : List (List AV)) (h : ∀ r ∈ l, ∀ v ∈ r, Cl v) : Cl (.rows sz l)
  | fp (cs : List AV) (h : ∀ v ∈ cs, Cl v) : Cl (.fp cs)
theorem Cl.noId {v : AV} (h : Cl v) : NoId v := by
  induction h with
  | int k n => intro h ρ ρ' Z x hr; cases hr; exact .int k n
  | bool b => intro h ρ ρ' Z x hr; cases hr; exact .bool b
  | str l => intro h ρ ρ' Z x hr; cases hr; exact .str l _ (by assumption)
  | nilS => intro h ρ ρ' Z x hr; cases hr; exact .nilS
  | nilP => intro h ρ ρ' Z x hr; cases hr; exact .nilP
  | nilF => intro h ρ ρ' Z x hr; cases hr; exact .nilF
  | nilI => intro h ρ ρ' Z x hr; cases hr; exact .nilI
  | emp => intro h ρ ρ' Z x hr; cases hr; exact .emp _ _
  | agg cs hc ih =>
    intro h ρ ρ' Z x hr
    cases hr with
    | agg _ vs hl h2 h3 => exact .agg cs vs hl h2 fun i v y q1 q2 => ih v (List.mem_of_getElem? q1) _ _ _ _ _ (h3 i v y q1 q2)
  | tup cs hc ih =>
    intro h ρ ρ' Z x hr
    cases hr with
    | tup _ vs hl h3 => exact .tup cs vs hl fun i v y q1 q2 => ih v (List.mem_of_getElem? q1) _ _ _ _ _ (h3 i v y q1 q2)
  | rows sz l hc ih =>
    intro h ρ ρ' Z x hr
    cases hr with
    | rows _ _ b o n c f hn hnc hz hw hcc hm hr => exact .rows sz l b o n c f hn hnc hz hw hcc hm fun i r j v q1 q2 => ih r (List.mem_of_getElem? q1) v (List.mem_of_getElem? q2) _ _ _ _ _ (hr i r j v q1 q2)
    | rowsN _ => exact .rowsN sz
    | rowsE _ a c => exact .rowsE sz a c
  | fp cs hc ih =>
    intro h ρ ρ' Z x hr
    cases hr with
    | fp _ b o f hz hcc hm hr => exact .fp cs b o f hz hcc hm fun i v q => ih v (List.mem_of_getElem? q) _ _ _ _ _ (hr i v q)
def SW (P : Program) (f : Nat) (args : List AV) (id : Nat) (b : Blk) (Hs : AH) (r : AV) (b' : Blk) : Prop :=
  ACalls P f args ((id, b) :: Hs) fun r' H' => r' = r ∧ H' = (id, b') :: Hs
theorem SW.frame {P : Program} {f : Nat} {args : List AV} {id : Nat} {b : Blk} {Hs : AH} {r : AV} {b' : Blk} (h : SW P f args id b Hs r b') {H : AH} (hg : hget H id = some b) (hs : Sub Hs H) : ACalls P f args H fun r' H' => r' = r ∧ H' = hset H id b' := by
  have s1 : Sub ((id, b) :: Hs) H := fun j c q => by
    simp only [hget] at q
    split at q
    · rename_i e1; subst e1; rw [← q]; exact hg
    · exact hs _ _ q
  refine ⟨h.1, fun w ρ Z xs g hr => (h.2 w ρ Z xs (g.forget s1) hr).mono fun e w' ⟨x, r', H', ρ', Z', a, g1, c, d, k1, k2⟩ => ?_⟩
  subst k1
  subst k2
  obtain ⟨q1, q2⟩ := g.frame s1 d g1 (HS' := hset H id b') fun j c q => by
    rw [hget_hset] at q
    split at q
    · rename_i e1
      rw [hg] at q
      left
      simp only [hget]
      rw [if_pos e1, ← q]
      rfl
    · rename_i e1
      simp only [hget]
      rw [if_neg e1, if_neg e1]
      cases hh : hget Hs j with
      | none => exact .inr ⟨q, rfl⟩
      | some c' => have := hs _ _ hh; rw [q] at this; exact .inl this.symm
  exact ⟨x, _, _, ρ', Z', a, q1, c, q2, rfl, rfl⟩
theorem SW.call {P : Program} {f : Nat} {args : List AV} {id : Nat} {b : Blk} {Hs : AH} {r : AV} {b' : Blk} (h : SW P f args id b Hs r b') {H : AH} {K : AV → AH → Prop} (hg : hget H id = some b) (hs : Sub Hs H) (k : hsetK H id b' fun H1 => K r H1) : callF P f args H K :=
  callF_of ((h.frame hg hs).mono fun r' H' ⟨a, c⟩ => by rw [a, c]; exact k.out)
theorem SW.draw {P : Program} {f : Nat} {args : List AV} {id : Nat} {b : Blk} {Hs : AH} {r : AV} {b' : Blk} (h : SW P f args id b Hs r b') {H0 D H : AH} {K : AV → AH → AH → Prop} (hD : hget D id = some b) (hs : Sub Hs H0) (hp : NoId r) (hb : BlkN b b') (k : hsetK H id b' fun H1 => K r (hdel D id) H1) : callG P f args H0 D H K :=
  ⟨.inr ⟨id, b, r, b', hD, ⟨hp, hb, Hs, hs, h⟩, k.out⟩⟩
/-! ### Arguments that a proof fills in -/
theorem fz_of {H Hc : AH} {v v' : AV} (h : Fz H Hc v v' := by (repeat' (first | exact Fz.refl _ | exact Fz.nil _ | assumption | refine Fz.aggL ?_ | refine Fz.tupL ?_ | refine FzL.cons ?_ ?_ | exact FzL.nil _ _ | refine Fz.rowsL ?_ | exact trivial | refine And.intro ?_ ?_)); (first | done | fail)) : Fz H Hc v v' := h
theorem sub_of {H Hc : AH} (h : Sub Hc H := by (repeat' (first | exact Sub.refl _ | assumption | exact Sub.nil _ | refine Sub.keep ?_ | refine Sub.skip ?_ (by first | assumption | (refine hget_none ?_; (try simp only [neAll, neAll_hset]); (repeat' apply And.intro) <;> first | omega | trivial | assumption | simp_all)) | refine Sub.del ?_ (by first | assumption | (refine hget_none ?_; (try simp only [neAll, neAll_hset]); (repeat' apply And.intro) <;> first | omega | trivial | assumption | simp_all)))); (first | done | fail)) : Sub Hc H := h
end Go.Proofs.YtjaigpidmngaaaaGreat

namespace Go.Proofs.YtjaigpidmngaaaaGreat
attribute [local irreducible] callA callP ACalls
abbrev u8A (c : UInt8) : AV := .int .u8 (c.toNat : Nat)
theorem u8lit (c : UInt8) (n : Nat) (hn : n < 256) : ((c.toNat : Nat) : Int) = (n : Int) ↔ c = UInt8.ofNat n := by
  rw [Int.ofNat_inj]
  constructor
  · intro h; apply UInt8.toNat.inj; rw [h, UInt8.toNat_ofNat']; omega
  · intro h; rw [h, UInt8.toNat_ofNat']; omega
theorem dig_iff (c : UInt8) : dig c = true ↔ 48 ≤ c.toNat ∧ c.toNat ≤ 57 := by simp [dig]
theorem ltr_iff (c : UInt8) : ltr c = true ↔ (97 ≤ c.toNat ∧ c.toNat ≤ 122) ∨ (65 ≤ c.toNat ∧ c.toNat ≤ 90) := by simp [ltr]
theorem nat_eq (c : UInt8) (n : Nat) (hn : n < 256) : c = UInt8.ofNat n ↔ c.toNat = n := by
  constructor
  · intro h; rw [h, UInt8.toNat_ofNat']; omega
  · intro h; apply UInt8.toNat.inj; rw [h, UInt8.toNat_ofNat']; omega
theorem nam_iff (c : UInt8) : nam c = true ↔ (48 ≤ c.toNat ∧ c.toNat ≤ 57) ∨ c.toNat = 95 ∨ (97 ≤ c.toNat ∧ c.toNat ≤ 122) ∨ (65 ≤ c.toNat ∧ c.toNat ≤ 90) := by
  simp only [nam, Bool.or_eq_true, dig_iff, ltr_iff, beq_iff_eq]
  rw [show (95 : UInt8) = UInt8.ofNat 95 from rfl, nat_eq c 95 (by decide)]
  omega
theorem blnk_iff (c : UInt8) : blnk c = true ↔ c.toNat = 32 ∨ c.toNat = 9 ∨ c.toNat = 10 ∨ c.toNat = 13 := by
  simp only [blnk, Bool.or_eq_true, beq_iff_eq]
  rw [show (32 : UInt8) = UInt8.ofNat 32 from rfl, show (9 : UInt8) = UInt8.ofNat 9 from rfl, show (10 : UInt8) = UInt8.ofNat 10 from rfl, show (13 : UInt8) = UInt8.ofNat 13 from rfl, nat_eq c 32 (by decide), nat_eq c 9 (by decide), nat_eq c 10 (by decide), nat_eq c 13 (by decide)]
  omega
theorem bool_iff {b : Bool} {p : Prop} [Decidable p] (h : b = true ↔ p) : b = decide p := by
  cases b with
  | true => rw [decide_eq_true (h.1 rfl)]
  | false => rw [decide_eq_false (fun q => by have := h.2 q; cases this)]
theorem name_may_spec (c : UInt8) (first : Bool) (H : AH) : ACalls PG name_may.n [u8A c, .bool first] H fun r H' => r = .bool (if first then ltr c else nam c) ∧ H' = H := by
  refine name_may.of rfl (wpF_start ?_)
  cases first with
  | true =>
    rw [show (if true then ltr c else nam c) = ltr c from rfl, bool_iff (ltr_iff c)]
    (repeat' (first | (refine au ?_; first | refine bsplit_dec (fun _ => ?_) (fun _ => ?_) | refine bsplit_intro (fun _ => ?_) (fun _ => ?_)) | exact au0 | fail)); (all_goals try (first | refine au ?_ | fail))
    all_goals (conv => whnf)
    all_goals exact ⟨congrArg AV.bool (by first | exact (decide_eq_true (by omega)).symm | exact (decide_eq_false (by omega)).symm | exact decide_eq_decide.2 (by omega)), rfl⟩
  | false =>
    rw [show (if false then ltr c else nam c) = nam c from rfl, bool_iff (nam_iff c)]
    (repeat' (first | (refine au ?_; first | refine bsplit_dec (fun _ => ?_) (fun _ => ?_) | refine bsplit_intro (fun _ => ?_) (fun _ => ?_)) | exact au0 | fail)); (all_goals try (first | refine au ?_ | fail))
    all_goals (conv => whnf)
    all_goals exact ⟨congrArg AV.bool (by first | exact (decide_eq_true (by omega)).symm | exact (decide_eq_false (by omega)).symm | exact decide_eq_decide.2 (by omega)), rfl⟩
theorem name_Lead_spec (s : List UInt8) (hs : s.length ≤ 140737488351232) (H : AH) : ACalls PG name_Lead.n [.str s] H fun r H' => r = .int .i64 (nl s : Nat) ∧ H' = H := by
  refine name_Lead.of rfl (wpF_start ?_)
  have hnl := nl_le s
  (first | refine ah ?_ | exact ah0)
  refine ⟨fun n L H' => ∃ i : Nat, n = s.length - i ∧ i ≤ nl s ∧ L = [(0, some (.str s)), (3, some (.int .i64 i))] ∧ H' = H, ⟨_, H, ?_, Sub.refl _, _, 0, rfl, Nat.zero_le _, rfl, rfl⟩, ?_⟩
  · exact (by exact cov_of)
  · rintro n L H' ⟨i, rfl, hi, rfl, rfl⟩
    (first | refine ah ?_ | exact ah0)
    refine bsplit_dec (fun h1 => ?_) (fun h1 => ?_)
    · have hst := nl_step hi (by omega)
      (first | refine ah ?_ | exact ah0)
      refine callF_eq (name_may_spec (s.getD i 0) _ _) ?_
      (first | refine ah ?_ | exact ah0)
      rw [show (if decide ((i : Int) = 0) = true then ltr (s.getD i 0) else nam (s.getD i 0)) = decide (i < nl s) from by
        rw [show decide (i < nl s) = (if i = 0 then ltr (s.getD 0 0) else nam (s.getD i 0)) from (bool_iff hst.symm).symm]
        by_cases e : i = 0
        · subst e; simp
        · rw [if_neg e, if_neg (by simpa using e)]]
      refine bsplit_dec (fun h2 => ?_) (fun h2 => ?_)
      · (first | refine ah ?_ | exact ah0)
        refine ⟨[(0, some (.str s)), (3, some (.int .i64 (i + 1 : Nat)))], H', (by exact cov_of), Sub.refl _, _, ?_, i + 1, rfl, by omega, rfl, rfl⟩
        omega
      · (first | refine ah ?_ | exact ah0)
        exact ⟨by rw [show i = nl s from by omega], rfl⟩
    · (first | refine ah ?_ | exact ah0)
      exact ⟨by rw [show i = nl s from by omega], rfl⟩
theorem ref_Digit_spec (c : UInt8) (H : AH) : ACalls PG broadsheetref04_Digit.n [u8A c] H fun r H' => r = .bool (dig c) ∧ H' = H := by
  rw [bool_iff (dig_iff c)]
  refine broadsheetref04_Digit.of rfl (wpF_start ?_)
  (repeat' (first | (refine au ?_; first | refine bsplit_dec (fun _ => ?_) (fun _ => ?_) | refine bsplit_intro (fun _ => ?_) (fun _ => ?_)) | exact au0 | fail)); (all_goals try (first | refine au ?_ | fail))
  all_goals (conv => whnf)
  all_goals exact ⟨congrArg AV.bool (by first | exact (decide_eq_true (by omega)).symm | exact (decide_eq_false (by omega)).symm | exact decide_eq_decide.2 (by omega)), rfl⟩
theorem ref_Letter_spec (c : UInt8) (H : AH) : ACalls PG broadsheetref04_Letter.n [u8A c] H fun r H' => r = .bool (ltr c) ∧ H' = H := by
  rw [bool_iff (ltr_iff c)]
  refine broadsheetref04_Letter.of rfl (wpF_start ?_)
  (repeat' (first | (refine au ?_; first | refine bsplit_dec (fun _ => ?_) (fun _ => ?_) | refine bsplit_intro (fun _ => ?_) (fun _ => ?_)) | exact au0 | fail)); (all_goals try (first | refine au ?_ | fail))
  all_goals (conv => whnf)
  all_goals exact ⟨congrArg AV.bool (by first | exact (decide_eq_true (by omega)).symm | exact (decide_eq_false (by omega)).symm | exact decide_eq_decide.2 (by omega)), rfl⟩
def fmd (s : List UInt8) : Bool := decide (s ≠ []) && ltr (s.getD 0 0) && s.all nam
theorem all_take {f : UInt8 → Bool} (s : List UInt8) (i : Nat) (h : i < s.length) : (s.take (i + 1)).all f = ((s.take i).all f && f (s.getD i 0)) := by
  rw [take_at s 0 i h, List.all_append]; simp
theorem all_ge {f : UInt8 → Bool} {s : List UInt8} {i : Nat} (h : i < s.length) (hf : f (s.getD i 0) = false) : s.all f = false := by
  rw [List.all_eq_false]
  have e : s.getD i 0 = s[i] := by simp [List.getD, h]
  rw [e] at hf
  exact ⟨s[i], List.getElem_mem h, by rw [hf]; decide⟩
theorem ref_formed_spec (s : List UInt8) (hs : s.length ≤ 140737488351232) (H : AH) : ACalls PG broadsheetref04_formed.n [.str s] H fun r H' => r = .bool (fmd s) ∧ H' = H := by
  refine broadsheetref04_formed.of rfl (wpF_start ?_)
  (first | refine ah ?_ | exact ah0)
  by_cases h0 : s = []
  · subst h0
    (first | refine ah ?_ | exact ah0)
  · have hl : 0 < s.length := List.length_pos_iff.2 h0
    rw [decide_eq_false h0]
    (first | refine ah ?_ | exact ah0)
    refine callF_eq (ref_Letter_spec _ _) ?_
    (first | refine ah ?_ | exact ah0)
    refine bsplit_intro (fun e => ?_) (fun e => ?_)
    · (first | refine ah ?_ | exact ah0)
      refine ⟨fun n L H' => ∃ i : Nat, n = s.length - i ∧ i ≤ s.length ∧ (s.take i).all nam = true ∧ L = [(0, some (.str s)), (3, some (.int .i64 i))] ∧ H' = H, ⟨_, H, ?_, Sub.refl _, _, 0, rfl, Nat.zero_le _, rfl, rfl, rfl⟩, ?_⟩
      · exact (by exact cov_of)
      · rintro n L H' ⟨i, rfl, hi, ha, rfl, rfl⟩
        (first | refine ah ?_ | exact ah0)
        refine bsplit_dec (fun h1 => ?_) (fun h1 => ?_)
        · have at1 := all_take (f := nam) s i (by omega)
          (first | refine ah ?_ | exact ah0)
          refine callF_eq (ref_Letter_spec _ _) ?_
          rw [Int.toNat_natCast]
          have hn := nam_iff (s.getD i 0)
          rw [← dig_iff, ← nat_eq _ 95 (by decide), ← ltr_iff] at hn
          cases hL : ltr (s.getD i 0) with
          | true =>
            (first | refine ah ?_ | exact ah0)
            refine ⟨[(0, some (.str s)), (3, some (.int .i64 (i + 1 : Nat)))], H', (by exact cov_of), Sub.refl _, _, ?_, i + 1, rfl, by omega, by rw [at1, ha, hn.2 (.inr (.inr hL))]; rfl, rfl, rfl⟩
            omega
          | false =>
            (first | refine ah ?_ | exact ah0)
            refine callF_eq (ref_Digit_spec _ _) ?_
            rw [Int.toNat_natCast]
            cases hD : dig (s.getD i 0) with
            | true =>
              (first | refine ah ?_ | exact ah0)
              refine ⟨[(0, some (.str s)), (3, some (.int .i64 (i + 1 : Nat)))], H', (by exact cov_of), Sub.refl _, _, ?_, i + 1, rfl, by omega, by rw [at1, ha, hn.2 (.inl hD)]; rfl, rfl, rfl⟩
              omega
            | false =>
              (first | refine ah ?_ | exact ah0)
              rw [Int.toNat_natCast]
              refine bsplit_dec (fun h2 => ?_) (fun h2 => ?_)
              · (first | refine ah ?_ | exact ah0)
                refine ⟨congrArg AV.bool ?_, rfl⟩
                have h3 : ¬ s.getD i 0 = UInt8.ofNat 95 := fun e => h2 ((u8lit _ 95 (by decide)).2 e)
                have hf : nam (s.getD i 0) = false := by
                  cases hh : nam (s.getD i 0) with
                  | false => rfl
                  | true =>
                    rcases hn.1 hh with q | q | q
                    · rw [hD] at q; cases q
                    · exact (h3 q).elim
                    · rw [hL] at q; cases q
                unfold fmd
                rw [all_ge (by omega) hf]; simp
              · (first | refine ah ?_ | exact ah0)
                have h3 : s.getD i 0 = UInt8.ofNat 95 := Classical.byContradiction fun e => h2 (fun q => e ((u8lit _ 95 (by decide)).1 q))
                refine ⟨[(0, some (.str s)), (3, some (.int .i64 (i + 1 : Nat)))], H', (by exact cov_of), Sub.refl _, _, ?_, i + 1, rfl, by omega, by rw [at1, ha, hn.2 (.inr (.inl h3))]; rfl, rfl, rfl⟩
                omega
        · (first | refine ah ?_ | exact ah0)
          obtain rfl : i = s.length := by omega
          rw [List.take_length] at ha
          refine ⟨congrArg AV.bool ?_, rfl⟩
          have e : ltr (s.getD 0 0) = true := e
          unfold fmd
          rw [e, ha, decide_eq_true h0]; rfl
    · (first | refine ah ?_ | exact ah0)
      exact ⟨congrArg AV.bool (by have e : ltr (s.getD 0 0) = false := e; unfold fmd; rw [e]; simp), rfl⟩
def strRow (l : List (List UInt8)) : List (List AV) := l.map fun x => [.str x]
theorem strRow_len (l : List (List UInt8)) : (strRow l).length = l.length := by simp [strRow]
theorem ref_Find_spec (l : List (List UInt8)) (hl : l.length ≤ 1000000) (s : List UInt8) (H : AH) : ACalls PG broadsheetref04_Find.n [.rows 1 (strRow l), .str s] H fun r H' => (∃ v : Int, r = .int .i64 v ∧ (0 ≤ v ↔ l.contains s = true) ∧ -1 ≤ v ∧ v < l.length) ∧ H' = H := by
  refine broadsheetref04_Find.of rfl (wpF_start ?_)
  (first | refine ah ?_ | exact ah0)
  refine ⟨fun n L H' => ∃ i : Nat, n = l.length - i ∧ i ≤ l.length ∧ (l.take i).contains s = false ∧ L = [(0, some (.rows 1 (strRow l))), (1, some (.str s)), (5, some (.int .i64 i))] ∧ H' = H, ⟨_, H, ?_, Sub.refl _, _, 0, rfl, Nat.zero_le _, rfl, rfl, rfl⟩, ?_⟩
  · exact (by exact cov_of)
  · have hlen := strRow_len l
    rintro n L H' ⟨i, rfl, hi, hc, rfl, rfl⟩
    (first | refine ah ?_ | exact ah0)
    refine bsplit_dec (fun h1 => ?_) (fun h1 => ?_)
    · have hil : i < l.length := by omega
      have tk := take_at l [] i hil
      have hg : (strRow l).getD (i : Int).toNat [] = [.str (l.getD i [])] := by
        rw [Int.toNat_natCast]; simp [strRow, List.getD, hil]
      (first | refine ah ?_ | exact ah0)
      rw [hg]
      (first | refine ah ?_ | exact ah0)
      refine bsplit_dec (fun h2 => ?_) (fun h2 => ?_)
      · (first | refine ah ?_ | exact ah0)
        refine ⟨⟨_, rfl, ⟨fun _ => ?_, fun _ => by omega⟩, by omega, by omega⟩, rfl⟩
        rw [← List.take_append_drop (i + 1) l, tk, ← h2]
        simp
      · (first | refine ah ?_ | exact ah0)
        refine ⟨[(0, some (.rows 1 (strRow l))), (1, some (.str s)), (5, some (.int .i64 (i + 1 : Nat)))], H', (by exact cov_of), Sub.refl _, _, ?_, i + 1, rfl, by omega, ?_, rfl, rfl⟩
        · omega
        · rw [tk]
          simp only [List.contains_eq_mem, List.mem_append, List.mem_singleton] at hc ⊢
          rw [decide_eq_false_iff_not] at hc ⊢
          rintro (q | q)
          · exact hc q
          · exact h2 q.symm
    · (first | refine ah ?_ | exact ah0)
      obtain rfl : i = l.length := by omega
      rw [List.take_length] at hc
      exact ⟨⟨_, rfl, ⟨fun q => by omega, fun q => by rw [hc] at q; cases q⟩, by omega, by omega⟩, rfl⟩
theorem word_spec (s : List UInt8) (H : AH) : ACalls PG name_Word.n [.str s] H fun r H' => r = .bool (rsv.contains s) ∧ H' = H := by
  refine name_Word.of rfl (wpF_start ?_)
  unfold rsv
  (repeat' (first | (refine au ?_; first | refine bsplit_dec (fun _ => ?_) (fun _ => ?_) | refine bsplit_intro (fun _ => ?_) (fun _ => ?_)) | exact au0 | fail)); (all_goals try (first | refine au ?_ | fail))
  all_goals exact ⟨congrArg AV.bool (by simp_all), rfl⟩
theorem rword_spec (s : List UInt8) (H : AH) : ACalls PG broadsheetref04_Word.n [.str s] H fun r H' => r = .bool (rsv.contains s) ∧ H' = H := by
  refine ACalls.fz (broadsheetref04_Word.of rfl (wpF_start ?_))
  (first | refine ah ?_ | exact ah0)
  refine callF_of ((ref_Find_spec rsv (by decide) s _).mono fun rr H2 hh => ?_)
  obtain ⟨⟨v, rfl, h1, h2, h3⟩, rfl⟩ := hh
  (first | refine ah ?_ | exact ah0)
  refine ⟨?_, sub_of⟩
  cases hI : rsv.contains s with
  | true => rw [decide_eq_true (h1.2 hI)]; exact .refl _
  | false => rw [decide_eq_false (fun q => by have := h1.1 q; rw [hI] at this; cases this)]; exact .refl _
end Go.Proofs.YtjaigpidmngaaaaGreat

namespace Go.Proofs.YtjaigpidmngaaaaGreat
attribute [local irreducible] callA callP ACalls
theorem stringslite_IndexByte_spec (s : List UInt8) (c : UInt8) (H : AH) : ACalls PG stringslite_IndexByte.n [.str s, u8A c] H fun r H' => r = .int .i64 (Lib.indexByte s c) ∧ H' = H := by
  refine stringslite_IndexByte.of rfl (wpF_start ?_)
  (first | refine ah ?_ | exact ah0)
  exact ⟨by simp, rfl⟩
theorem strings_IndexByte_spec (s : List UInt8) (c : UInt8) (H : AH) : ACalls PG strings_IndexByte.n [.str s, u8A c] H fun r H' => r = .int .i64 (Lib.indexByte s c) ∧ H' = H := by
  refine strings_IndexByte.of rfl (wpF_start ?_)
  (first | refine ah ?_ | exact ah0)
  refine callF_eq (stringslite_IndexByte_spec s c _) ?_
  (first | refine ah ?_ | exact ah0)
theorem indexByte_in : ∀ (s : List UInt8) (c : UInt8), 0 ≤ Lib.indexByte s c ↔ s.contains c = true
  | [], c => by simp [Lib.indexByte]
  | b :: s, c => by
    have ih := indexByte_in s c
    have ge := Lib.indexByte_ge s c
    unfold Lib.indexByte
    simp only [List.contains_cons, Bool.or_eq_true, beq_iff_eq]
    split
    · rename_i h; simp [h]
    · rename_i h
      split
      · rename_i h2
        rw [h2] at ih
        constructor
        · intro q; omega
        · rintro (q | q)
          · exact (h q.symm).elim
          · have := ih.2 q; omega
      · rename_i h2
        constructor
        · intro q; exact .inr (ih.1 (by omega))
        · intro q; omega
end Go.Proofs.YtjaigpidmngaaaaGreat

namespace Go.Proofs.YtjaigpidmngaaaaGreat
noncomputable def app (E L : FL) : FL := @List.rec (Nat × Option AV) (fun _ => FL) L (fun p _ ih => p :: ih) E
structure LI {S : Type} (ent : S → FL) (hp : S → AH) (μ : S → Nat) (P : S → Prop) (L0 : FL) (n : Nat) (L : FL) (H : AH) : Prop where
  out : ∃ s, n = μ s ∧ P s ∧ L = app (ent s) L0 ∧ H = hp s
theorem loopS {B : (Nat → FL → AH → Prop) → Nat → FL → AH → Prop} {L0 : FL} {H0 : AH} {S : Type} (ent : S → FL) (hp : S → AH) (μ : S → Nat) (P : S → Prop) (s0 : S) (h0 : P s0)
    (step : ∀ s, P s → B (LI ent hp μ P L0) (μ s) (app (ent s) L0) (hp s))
    (hc : coversZ H0 (hp s0) (app (ent s0) L0) L0 := by exact cov_of) (hs : Sub (hp s0) H0 := by exact sub_of) :
    ∃ I : Nat → FL → AH → Prop, WeakF (fun M Hk => ∃ n, I n M Hk) L0 H0 ∧ ∀ n L H, I n L H → B I n L H :=
  ⟨LI ent hp μ P L0, ⟨_, _, hc, hs, _, ⟨s0, rfl, h0, rfl, rfl⟩⟩, by rintro n L H ⟨s, rfl, h, rfl, rfl⟩; exact step s h⟩
theorem nextS {S : Type} {ent : S → FL} {hp : S → AH} {μ : S → Nat} {P : S → Prop} {L0 L : FL} {H : AH} {n : Nat} (s : S)
    (hc : coversZ H (hp s) (app (ent s) L0) L) (hs : Sub (hp s) H) (hm : μ s < n) (h : P s) :
    ∃ M Hk, coversZ H Hk M L ∧ Sub Hk H ∧ ∃ m, m < n ∧ LI ent hp μ P L0 m M Hk := ⟨_, _, hc, hs, _, hm, ⟨s, rfl, h, rfl, rfl⟩⟩
theorem loopM {B : (Nat → FL → AH → Prop) → Nat → FL → AH → Prop} {L0 : FL} {H0 : AH} {S : Type} (L1 : FL) (ent : S → FL) (hp : S → AH) (μ : S → Nat) (P : S → Prop) (s0 : S)
    (hc : coversZ H0 (hp s0) (app (ent s0) L1) L0) (hs : Sub (hp s0) H0) (h0 : P s0)
    (step : ∀ s, P s → B (LI ent hp μ P L1) (μ s) (app (ent s) L1) (hp s)) :
    ∃ I : Nat → FL → AH → Prop, WeakF (fun M Hk => ∃ n, I n M Hk) L0 H0 ∧ ∀ n L H, I n L H → B I n L H :=
  ⟨LI ent hp μ P L1, ⟨_, _, hc, hs, _, ⟨s0, rfl, h0, rfl, rfl⟩⟩, by rintro n L H ⟨s, rfl, h, rfl, rfl⟩; exact step s h⟩
theorem loopL {B : (Nat → FL → AH → Prop) → Nat → FL → AH → Prop} {L0 : FL} {H0 : AH} (L1 : FL) (d a N : Nat) (P : Nat → Prop)
    (hc : coversZ H0 H0 ((d, some (.int .i64 (a : Nat))) :: L1) L0) (ha : a ≤ N) (h0 : P a)
    (step : ∀ i, i ≤ N → P i → B (LI (fun i : Nat => [(d, some (.int .i64 (i : Nat)))]) (fun _ => H0) (fun i => N - i) (fun i => i ≤ N ∧ P i) L1) (N - i) ((d, some (.int .i64 (i : Nat))) :: L1) H0) :
    ∃ I : Nat → FL → AH → Prop, WeakF (fun M Hk => ∃ n, I n M Hk) L0 H0 ∧ ∀ n L H, I n L H → B I n L H :=
  loopM (S := Nat) L1 (fun i => [(d, some (.int .i64 (i : Nat)))]) (fun _ => H0) (fun i => N - i) (fun i => i ≤ N ∧ P i) a hc (Sub.refl _) ⟨ha, h0⟩ (fun i h => step i h.1 h.2)
theorem fz_eq {H Hc : AH} {r v : AV} (h : r = v) : Fz H Hc r v := by rw [h]; exact .refl _
theorem nextN {d N i : Nat} {P : Nat → Prop} {H0 H : AH} {L0 L : FL} (hc : coversZ H H0 ((d, some (.int .i64 ((i + 1 : Nat) : Int))) :: L0) L) (hs : Sub H0 H) (h1 : i < N) (h2 : P (i + 1)) :
    ∃ M Hk, coversZ H Hk M L ∧ Sub Hk H ∧ ∃ m, m < N - i ∧ LI (fun i : Nat => [(d, some (.int .i64 (i : Nat)))]) (fun _ => H0) (fun i => N - i) (fun i => i ≤ N ∧ P i) L0 m M Hk :=
  nextS (S := Nat) (ent := fun i => [(d, some (.int .i64 (i : Nat)))]) (hp := fun _ => H0) (i + 1) hc hs (by show N - (i + 1) < N - i; omega) ⟨h1, h2⟩
theorem ACalls.fzK {P : Program} {f : Nat} {args : List AV} {H : AH} {v : AV} (h : ACalls P f args H fun r H' => Fz H' [] r v) : ACalls P f args H fun r _ => r = v :=
  h.freeze fun r H' a => ⟨v, [], Sub.nil _, a, rfl⟩
structure JP (M : FL) (Hk : AH) (P : Prop) (L : FL) (H : AH) : Prop where
  l : L = M
  h : H = Hk
  p : P
theorem joinP {X Y : Prop} {F : (FL → AH → Prop) → Prop} {G : FL → AH → Prop} (M : FL) (Hk : AH) (P : Prop) (h1 : F (JP M Hk P)) (h2 : P → G M Hk) : (X ∨ ∃ J : FL → AH → Prop, F J ∧ ∀ M Hk, J M Hk → G M Hk) ∨ Y :=
  .inl (.inr ⟨JP M Hk P, h1, fun M' Hk' ⟨a, b, c⟩ => by rw [a, b]; exact h2 c⟩)
theorem metP {M L : FL} {Hk H : AH} {P : Prop} (hc : coversZ H Hk M L) (hs : Sub Hk H) (hp : P) : ∃ M' Hk', coversZ H Hk' M' L ∧ Sub Hk' H ∧ JP M Hk P M' Hk' := ⟨M, Hk, hc, hs, rfl, rfl, hp⟩
theorem ACalls.sup {P : Program} {f : Nat} {args : List AV} {Hs H : AH} {K : AV → Prop} (h : ACalls P f args Hs fun r H' => K r ∧ H' = Hs) (hs : Sub Hs H) : ACalls P f args H fun r H' => K r ∧ H' = H := by
  refine ⟨h.1, fun w ρ Z xs g hr => (h.2 w ρ Z xs (g.forget hs) hr).mono fun e w' ⟨x, r', H', ρ', Z', a, g1, c, d, k1, k2⟩ => ?_⟩
  subst k2
  obtain ⟨q1, q2⟩ := g.frame hs d g1 (HS' := H) fun j c q => by
    cases hh : hget H' j with
    | none => exact .inr ⟨q, rfl⟩
    | some c' => have := hs _ _ hh; rw [q] at this; exact .inl this.symm
  exact ⟨x, _, _, ρ', Z', a, q1, c, q2, k1, rfl⟩
def accV (o : Option Nat) (sz n : Nat) : AV := match o with
  | none => .nilS
  | some id => .own id sz 0 n
def accH (o : Option Nat) (sz : Nat) (l : List (List AV)) (H : AH) : AH := match o with
  | none => H
  | some id => (id, .rows sz l) :: H
theorem accFz {o : Option Nat} {sz n : Nat} {l l' : List (List AV)} {H Hc : AH} (hn : n = l.length) (h0 : o = none → l = []) (hd : ∀ id, o = some id → hget Hc id = none) (h : FzR (accH o sz l H) Hc l l') (hw : ∀ r ∈ l', r.length = sz) : Fz (accH o sz l H) Hc (accV o sz n) (.rows sz l') := by
  subst hn
  cases o with
  | none =>
    have := h0 rfl; subst this
    have : l' = [] := List.eq_nil_of_length_eq_zero h.spec.1.symm
    subst this; exact .nil sz
  | some id => exact Fz.ownL hget_self (hd id rfl) h hw
theorem map_w {α : Type} {f : α → List AV} {sz : Nat} (h : ∀ x, (f x).length = sz) (l : List α) : ∀ r ∈ l.map f, r.length = sz := fun r hr => by
  obtain ⟨x, _, rfl⟩ := List.mem_map.1 hr; exact h x
theorem take_map_succ {α β : Type} (f : α → β) (l : List α) (i : Nat) (h : i < l.length) : (l.take (i + 1)).map f = (l.take i).map f ++ [f l[i]] := by
  simp only [List.take_add_one, List.map_append, List.getElem?_eq_getElem h, Option.toList_some, List.map_cons, List.map_nil]
theorem row_get {α : Type} {f : α → List AV} {l : List α} {i : Nat} (h : i < l.length) : (l.map f).getD (Int.toNat (i : Nat)) [] = f l[i] := by
  rw [Int.toNat_natCast]; simp [List.getD, h]
theorem readS_all {H : AH} {id sz n : Nat} {l : List (List AV)} (hg : hget H id = some (.rows sz l)) (h : n = l.length) : readS H false sz (.own id sz 0 n) = some l := by
  simp [readS, hg, h]
theorem cast_max (a b : Nat) : ((max a b : Nat) : Int) = max (a : Int) (b : Int) := by omega
theorem cast_min (a b : Nat) : ((min a b : Nat) : Int) = min (a : Int) (b : Int) := by omega
end Go.Proofs.YtjaigpidmngaaaaGreat

namespace Go.Proofs.YtjaigpidmngaaaaGreat
attribute [local irreducible] callA callP ACalls
abbrev byteR (c : UInt8) : List AV := [.int .u8 (c.toNat : Int)]
theorem path_number_spec (s : List UInt8) (hs : s.length ≤ 140737488351232) (H : AH) : ACalls PG path_number.n [.str s] H fun r H' => r = .tup [.int .i64 ((numP s).1 : Nat), .int .i64 ((numP s).2 : Nat)] ∧ H' = H := by
  have hix := indexByte_lt s 93
  refine ACalls.fz (path_number.of rfl (wpF_start ?_))
  (first | refine au ?_ | exact au0)
  first | refine callF_eq (strings_IndexByte_spec s 93 _) ?_ | refine callG_eq rfl (strings_IndexByte_spec s 93 _) ?_
  unfold numP
  generalize Lib.indexByte s 93 = e at *
  have h91 : s.getD 0 0 ≠ 91 ↔ (s.getD (Int.toNat 0) 0).toNat ≠ 91 := not_congr ⟨fun q => by show (s.getD 0 0).toNat = 91; rw [q]; rfl, fun q => UInt8.toNat_inj.1 q⟩
  have h48 : s.getD 1 0 = 48 ↔ (s.getD (Int.toNat 1) 0).toNat = 48 := ⟨fun q => by show (s.getD 1 0).toNat = 48; rw [q]; rfl, fun q => UInt8.toNat_inj.1 q⟩
  by_cases c : s.length < 3 ∨ s.getD 0 0 ≠ 91 ∨ e < 2 ∨ 3 < e ∨ (s.getD 1 0 = 48 ∧ 2 < e)
  · rw [if_pos c]
    by_cases c1 : s.length < 3
    · (first | refine au ?_ | exact au0)
      exact ⟨fz_of, sub_of⟩
    by_cases c2 : (s.getD (Int.toNat 0) 0).toNat ≠ 91
    · (first | refine au ?_ | exact au0)
      exact ⟨fz_of, sub_of⟩
    by_cases c3 : e < 2
    · (first | refine au ?_ | exact au0)
      exact ⟨fz_of, sub_of⟩
    by_cases c4 : 3 < e
    · (first | refine au ?_ | exact au0)
      exact ⟨fz_of, sub_of⟩
    have c5 : (s.getD (Int.toNat 1) 0).toNat = 48 ∧ 2 < e := by
      rcases c with q | q | q | q | q
      · exact absurd q c1
      · exact absurd (h91.1 q) c2
      · exact absurd q c3
      · exact absurd q c4
      · exact ⟨h48.1 q.1, q.2⟩
    obtain ⟨c5, c6⟩ := c5
    (first | refine au ?_ | exact au0)
    exact ⟨fz_of, sub_of⟩
  · rw [if_neg c]
    have c1 : ¬ s.length < 3 := fun q => c (.inl q)
    have c2 : (s.getD (Int.toNat 0) 0).toNat = 91 := Classical.byContradiction fun q => c (.inr (.inl (h91.2 q)))
    have c3 : ¬ e < 2 := fun q => c (.inr (.inr (.inl q)))
    have c4 : ¬ 3 < e := fun q => c (.inr (.inr (.inr (.inl q))))
    have c5 : (s.getD (Int.toNat 1) 0).toNat = 48 → ¬ 2 < e := fun q q2 => c (.inr (.inr (.inr (.inr ⟨h48.2 q, q2⟩))))
    clear c h91 h48
    generalize hd : (s.take e.toNat).drop 1 = d
    have hdl : d.length ≤ 2 := by rw [← hd, List.length_drop, List.length_take]; omega
    by_cases c6 : (s.getD (Int.toNat 1) 0).toNat = 48
    · have c7 := c5 c6
      (first | refine au ?_ | exact au0)
      rw [show (Int.toNat 1) = 1 from rfl, hd]
      have hdm : (d.map byteR).length = d.length := by simp
      refine loopM (S := Nat) [(4, some _), (38, some _), (39, some _)] (fun i => [(40, some (.int .i64 (i : Nat))), (5, some (.int .i64 (numV (d.take i) : Nat)))]) (fun _ => _) (fun i => d.length - i) (fun i => i ≤ d.length ∧ (d.take i).all dig = true) 0 (by exact cov_of) (Sub.refl _) ⟨Nat.zero_le _, by simp⟩ (fun i hi => ?_)
      obtain ⟨hi, hal⟩ := hi
      have hn2 : numV (d.take i) ≤ 99 := by
        have q1 := numVs_lt _ hal
        have q2 : 10 ^ (d.take i).length ≤ 10 ^ 2 := Nat.pow_le_pow_right (by decide) (by rw [List.length_take]; omega)
        omega
      (first | refine au ?_ | exact au0)
      refine bsplit_dec (fun h1 => ?_) (fun h1 => ?_)
      · have hil : i < d.length := by simpa [hdm] using h1
        have hge := row_get (f := byteR) hil
        have htk : d.take (i + 1) = d.take i ++ [d[i]] := List.take_succ_eq_append_getElem hil
        have hmem : d[i] ∈ d := List.getElem_mem hil
        have hcl := (d[i]).toNat_lt
        have hv := numVs_snoc (d.take i) d[i]
        have hn3 : (d.take (i + 1)).all dig = true → numV (d.take (i + 1)) ≤ 99 := by
          intro q
          have q1 := numVs_lt _ q
          have q2 : 10 ^ (d.take (i + 1)).length ≤ 10 ^ 2 := Nat.pow_le_pow_right (by decide) (by rw [List.length_take]; omega)
          omega
        rw [htk, hv, List.all_append, hal, Bool.true_and] at hn3
        generalize d[i] = c at *
        (first | refine au ?_ | exact au0)
        rw [hge]
        (first | refine au ?_ | exact au0)
        by_cases hdg : 48 ≤ c.toNat ∧ c.toNat ≤ 57
        · have hdg2 : dig c = true := by simpa [dig] using hdg
          have hn4 : 10 * numV (d.take i) + (c.toNat - 48) ≤ 99 := hn3 (by simp [hdg2])
          (first | refine au ?_ | exact au0)
          exact nextS (S := Nat) (i + 1) (by rw [htk, hv]; exact (by exact cov_of)) sub_of (by omega) ⟨hil, by rw [htk, List.all_append, hal]; simp [hdg2]⟩
        · have hdg2 : dig c = false := by
            cases q : dig c with
            | false => rfl
            | true => exact absurd (by simpa [dig] using q) hdg
          have hall : d.all dig = false := by
            cases h : d.all dig with
            | false => rfl
            | true => rw [List.all_eq_true.1 h c hmem] at hdg2; cases hdg2
          rw [hall, if_neg (by decide)]
          (first | refine au ?_ | exact au0)
          refine bsplit_dec (fun h2 => ?_) (fun h2 => ?_)
          all_goals
            (first | refine au ?_ | exact au0)
            exact ⟨fz_of, sub_of⟩
      · have : i = d.length := by simp [hdm] at h1; omega
        subst this
        rw [List.take_length] at hal ⊢
        rw [hal, if_pos rfl]
        (first | refine au ?_ | exact au0)
        have he1 : (e + 1 : Int) = ((numV d, e.toNat + 1).2 : Nat) := by dsimp only; omega
        rw [he1]
        exact ⟨fz_of, sub_of⟩
    · (first | refine au ?_ | exact au0)
      rw [show (Int.toNat 1) = 1 from rfl, hd]
      have hdm : (d.map byteR).length = d.length := by simp
      refine loopM (S := Nat) [(4, some _), (38, some _), (39, some _)] (fun i => [(40, some (.int .i64 (i : Nat))), (5, some (.int .i64 (numV (d.take i) : Nat)))]) (fun _ => _) (fun i => d.length - i) (fun i => i ≤ d.length ∧ (d.take i).all dig = true) 0 (by exact cov_of) (Sub.refl _) ⟨Nat.zero_le _, by simp⟩ (fun i hi => ?_)
      obtain ⟨hi, hal⟩ := hi
      have hn2 : numV (d.take i) ≤ 99 := by
        have q1 := numVs_lt _ hal
        have q2 : 10 ^ (d.take i).length ≤ 10 ^ 2 := Nat.pow_le_pow_right (by decide) (by rw [List.length_take]; omega)
        omega
      (first | refine au ?_ | exact au0)
      refine bsplit_dec (fun h1 => ?_) (fun h1 => ?_)
      · have hil : i < d.length := by simpa [hdm] using h1
        have hge := row_get (f := byteR) hil
        have htk : d.take (i + 1) = d.take i ++ [d[i]] := List.take_succ_eq_append_getElem hil
        have hmem : d[i] ∈ d := List.getElem_mem hil
        have hcl := (d[i]).toNat_lt
        have hv := numVs_snoc (d.take i) d[i]
        have hn3 : (d.take (i + 1)).all dig = true → numV (d.take (i + 1)) ≤ 99 := by
          intro q
          have q1 := numVs_lt _ q
          have q2 : 10 ^ (d.take (i + 1)).length ≤ 10 ^ 2 := Nat.pow_le_pow_right (by decide) (by rw [List.length_take]; omega)
          omega
        rw [htk, hv, List.all_append, hal, Bool.true_and] at hn3
        generalize d[i] = c at *
        (first | refine au ?_ | exact au0)
        rw [hge]
        (first | refine au ?_ | exact au0)
        by_cases hdg : 48 ≤ c.toNat ∧ c.toNat ≤ 57
        · have hdg2 : dig c = true := by simpa [dig] using hdg
          have hn4 : 10 * numV (d.take i) + (c.toNat - 48) ≤ 99 := hn3 (by simp [hdg2])
          (first | refine au ?_ | exact au0)
          exact nextS (S := Nat) (i + 1) (by rw [htk, hv]; exact (by exact cov_of)) sub_of (by omega) ⟨hil, by rw [htk, List.all_append, hal]; simp [hdg2]⟩
        · have hdg2 : dig c = false := by
            cases q : dig c with
            | false => rfl
            | true => exact absurd (by simpa [dig] using q) hdg
          have hall : d.all dig = false := by
            cases h : d.all dig with
            | false => rfl
            | true => rw [List.all_eq_true.1 h c hmem] at hdg2; cases hdg2
          rw [hall, if_neg (by decide)]
          (first | refine au ?_ | exact au0)
          refine bsplit_dec (fun h2 => ?_) (fun h2 => ?_)
          all_goals
            (first | refine au ?_ | exact au0)
            exact ⟨fz_of, sub_of⟩
      · have : i = d.length := by simp [hdm] at h1; omega
        subst this
        rw [List.take_length] at hal ⊢
        rw [hal, if_pos rfl]
        (first | refine au ?_ | exact au0)
        have he1 : (e + 1 : Int) = ((numV d, e.toNat + 1).2 : Nat) := by dsimp only; omega
        rw [he1]
        exact ⟨fz_of, sub_of⟩
end Go.Proofs.YtjaigpidmngaaaaGreat

namespace Go.Proofs.YtjaigpidmngaaaaGreat
theorem ACalls.perm {f : Nat} {args : List AV} {H1 H2 : AH} {K : AV → AH → Prop} (h : ACalls PG f args H1 K) (s1 : Sub H1 H2) (s2 : Sub H2 H1) : ACalls PG f args H2 K := by
  refine ⟨h.1, fun w ρ Z xs g hr => ?_⟩
  have e : Own ρ H1 = Own ρ H2 := funext fun b => propext ⟨fun q => q.of_sub s1, fun q => q.of_sub s2⟩
  rw [← e]
  exact h.2 w ρ Z xs (g.forget s1) hr
attribute [local irreducible] callA callP ACalls
abbrev dotA : Option (List UInt8) → List UInt8 → AV
  | some r, _ => .tup [.str r, .bool true]
  | none, s => .tup [.str s, .bool false]
theorem hasDot (s : List UInt8) : (decide (1 ≤ s.length) && decide (s.take 1 = [46])) = (dotP s).isSome := by
  cases s with
  | nil => rfl
  | cons c r => by_cases h : c = 46 <;> simp [dotP, h]
theorem dotP_drop (s : List UInt8) : (1 ≤ s.length ∧ s.take 1 = [46]) → dotP s = some (s.drop 1) := by
  cases s with
  | nil => simp
  | cons c r => simp +contextual [dotP]
theorem dotP_not (s : List UInt8) : ¬ (1 ≤ s.length ∧ s.take 1 = [46]) → dotP s = none := by
  cases s with
  | nil => simp [dotP]
  | cons c r => simp +contextual [dotP]
theorem pfx_spec (s p : List UInt8) (H : AH) : ACalls PG stringslite_HasPrefix.n [.str s, .str p] H fun r H' => r = .bool (decide (p.length ≤ s.length) && decide (s.take p.length = p)) ∧ H' = H := by
  refine stringslite_HasPrefix.of rfl (wpF_start ?_)
  (first | refine au ?_ | exact au0)
  refine bsplit_dec (fun h => ?_) (fun h => ?_)
  · (first | refine au ?_ | exact au0)
    exact ⟨by rw [decide_eq_true (show p.length ≤ s.length from by omega)]; simp, rfl⟩
  · (first | refine au ?_ | exact au0)
    exact ⟨by rw [decide_eq_false (show ¬ p.length ≤ s.length from by omega)]; simp, rfl⟩
theorem stringslite_CutPrefix_spec (s : List UInt8) (H : AH) : ACalls PG stringslite_CutPrefix.n [.str s, .str [46]] H fun r H' => r = dotA (dotP s) s ∧ H' = H := by
  refine ACalls.fz (stringslite_CutPrefix.of rfl (wpF_start ?_))
  (first | refine au ?_ | exact au0)
  first | refine callF_eq ((pfx_spec s [46] _).mono fun r H' q => (⟨q.1.trans (congrArg AV.bool (hasDot s)), q.2⟩ : r = .bool (dotP s).isSome ∧ H' = _)) ?_ | refine callG_eq rfl ((pfx_spec s [46] _).mono fun r H' q => (⟨q.1.trans (congrArg AV.bool (hasDot s)), q.2⟩ : r = .bool (dotP s).isSome ∧ H' = _)) ?_
  by_cases c : 1 ≤ s.length ∧ s.take 1 = [46]
  · rw [dotP_drop s c]
    have hl := c.1
    (first | refine au ?_ | exact au0)
    rw [show List.drop (((([46] : List UInt8).length : Nat) : Int)).toNat (s.take (s.length : Int).toNat) = s.drop 1 from by simp]
    exact ⟨fz_of, sub_of⟩
  · rw [dotP_not s c]
    (first | refine au ?_ | exact au0)
    exact ⟨fz_of, sub_of⟩
theorem strings_CutPrefix_spec (s : List UInt8) (H : AH) : ACalls PG strings_CutPrefix.n [.str s, .str [46]] H fun r H' => r = dotA (dotP s) s ∧ H' = H := by
  refine ACalls.fz (strings_CutPrefix.of rfl (wpF_start ?_))
  (first | refine au ?_ | exact au0)
  first | refine callF_eq (stringslite_CutPrefix_spec s _) ?_ | refine callG_eq rfl (stringslite_CutPrefix_spec s _) ?_
  cases dotP s
  · (first | refine au ?_ | exact au0)
    exact ⟨fz_of, sub_of⟩
  · (first | refine au ?_ | exact au0)
    exact ⟨fz_of, sub_of⟩
abbrev pcA (x : Pc) : AV := .agg [.str x.1, .int .i64 (x.2.1 : Nat)]
theorem yld_all {lid : Nat} {args : List AV} {H : AH} {K' K : AV → AH → Prop} (h : AYields PG lid args H K') (k : ∀ r H', K' r H' → K r H') : yldF PG lid args H K :=
  yldF_of h (Sub.refl _) (fun r Hs' q => ⟨Hs', fun j b' hb => .inl hb, k r Hs' q⟩)
theorem drop_cons {α : Type} {l rest : List α} {i : Nat} {x : α} (h : l.drop i = x :: rest) : ∃ q : i < l.length, l[i] = x ∧ l.drop (i + 1) = rest := by
  have q : i < l.length := by
    apply Classical.byContradiction; intro q
    rw [List.drop_of_length_le (by omega)] at h; cases h
  rw [List.drop_eq_getElem_cons q] at h
  exact ⟨q, (List.cons.inj h).1, (List.cons.inj h).2⟩
structure IterOut (ids : Nat) (Jn Jx : AH → Prop) (H' : AH) : Prop where
  mk :: out : ∃ b H2, H' = (ids, b) :: H2 ∧ (Jn H2 ∨ Jx H2)
def Round (lid ids : Nat) (l : List Pc) (J : Nat → AH → Prop) (Jx : AH → Prop) : Prop :=
  ∀ i (h : i < l.length) (H : AH) (b : Blk), hget H ids = none → J i H → AYields PG lid [pcA l[i], .bool l[i].2.2] ((ids, b) :: H) fun r H' => ∃ H2, H' = (ids, b) :: H2 ∧ ((r = .bool true ∧ hget H2 ids = none ∧ J (i + 1) H2) ∨ (r = .bool false ∧ Jx H2))
theorem pieces_iter (s : List UInt8) (hs : s.length ≤ 140737488351232) (lid ids : Nat) (ht : tag ids = ty_string) (J : Nat → AH → Prop) (Jx : AH → Prop) (hy : Round lid ids (pcs s true) J Jx) (H0 : AH) (h0 : hget H0 ids = none) (hj : J 0 H0) :
    ACalls PG path_pieces_1.n [.yld lid, .ptr ids 1 0 0] ((ids, .rows 1 [[.str s]]) :: H0) fun _ H' => IterOut ids (J (pcs s true).length) Jx H' := by
  refine path_pieces_1.of' (by simp only [List.length_cons, List.length_nil]; omega) (wpF_start ?_)
  have hn00 := neAll_of h0
  (first | refine au ?_ | exact au0)
  have hloc : ∀ {i : Nat} {sq : List UInt8} {f : Bool} {x : Pc} {rest : List Pc}, (pcs s true).drop i = pcs sq f → pcs sq f = x :: rest → ∃ q : i < (pcs s true).length, (pcs s true)[i] = x ∧ (pcs s true).drop (i + 1) = rest := fun h1 h2 => drop_cons (h1.trans h2)
  refine loopM (S := Nat × List UInt8 × Bool × AH) [(0, some _), (1, some _)] (fun z => [(3, some (.bool z.2.2.1))]) (fun z => (ids, .rows 1 [[.str z.2.1]]) :: z.2.2.2) (fun z => (pcs s true).length - z.1) (fun z => z.1 ≤ (pcs s true).length ∧ z.2.1.length ≤ s.length ∧ (pcs s true).drop z.1 = pcs z.2.1 z.2.2.1 ∧ hget z.2.2.2 ids = none ∧ J z.1 z.2.2.2) (0, s, true, H0) (by exact cov_of) (Sub.refl _) ⟨Nat.zero_le _, Nat.le_refl _, rfl, h0, hj⟩ (fun ⟨i, sq, first, Hq⟩ hz => ?_)
  obtain ⟨hi, hl', hp, hq0, hqJ⟩ := hz
  dsimp only at hi hl' hp hq0 hqJ ⊢
  have hnl := numP_le sq
  have hn0 := neAll_of hq0
  by_cases h0 : first = false ∧ sq = []
  · obtain ⟨rfl, rfl⟩ := h0
    (first | refine au ?_ | exact au0)
    rw [pcs_end] at hp
    have hl2 := congrArg List.length hp
    rw [List.length_drop, List.length_nil] at hl2
    have : i = (pcs s true).length := by omega
    exact ⟨_, _, rfl, .inl (by rw [← this]; exact hqJ)⟩
  cases first with
  | true =>
    (first | refine au ?_ | exact au0)
    first | refine callF_eq (path_number_spec sq (by omega) _) ?_ | refine callG_eq rfl (path_number_spec sq (by omega) _) ?_
    by_cases c : 0 < (numP sq).2
    · obtain ⟨q1, q2, q3⟩ := hloc hp (pcs_num h0 c)
      have hyi := hy i q1 Hq (.rows 1 [[.str sq]]) hq0 hqJ
      rw [q2] at hyi
      (first | refine au ?_ | exact au0)
      refine yld_all hyi (fun r H' q => ?_)
      obtain ⟨H2, rfl, ⟨rfl, hq1, hqJ2⟩ | ⟨rfl, hx⟩⟩ := q
      · have hn1 := neAll_of hq1
        (first | refine au ?_ | exact au0)
        rw [show List.drop ((numP sq).2 : Int).toNat (List.take (sq.length : Int).toNat sq) = sq.drop (numP sq).2 from by simp]
        exact nextS (S := Nat × List UInt8 × Bool × AH) (i + 1, sq.drop (numP sq).2, false, H2) (by exact cov_of) (by dsimp only; exact sub_of) (by dsimp only; omega) ⟨q1, by simp only [List.length_drop]; omega, q3, hq1, hqJ2⟩
      · (first | refine au ?_ | exact au0)
        exact ⟨_, _, rfl, .inr hx⟩
    (first | refine au ?_ | exact au0)
    first | refine callF_eq (name_Lead_spec sq (by omega) _) ?_ | refine callG_eq rfl (name_Lead_spec sq (by omega) _) ?_
    have hnll := nl_le sq
    have hpi := pcs_item h0 c (r := sq) (by first | rfl | exact hd)
    by_cases c2 : nl sq = 0
    · rw [if_pos c2] at hpi
      obtain ⟨q1, q2, q3⟩ := hloc hp hpi
      have hyi := hy i q1 Hq (.rows 1 [[.str sq]]) hq0 hqJ
      rw [q2] at hyi
      have hl3 : (pcs s true).length = i + 1 := by
        have := congrArg List.length q3
        rw [List.length_drop, List.length_nil] at this
        omega
      (first | refine au ?_ | exact au0)
      refine yld_all hyi (fun r H' q => ?_)
      obtain ⟨H2, rfl, ⟨rfl, hq1, hqJ2⟩ | ⟨rfl, hx⟩⟩ := q
      · have hn1 := neAll_of hq1
        (first | refine au ?_ | exact au0)
        exact ⟨_, _, rfl, .inl (by rw [hl3]; exact hqJ2)⟩
      · (first | refine au ?_ | exact au0)
        exact ⟨_, _, rfl, .inr hx⟩
    · rw [if_neg c2] at hpi
      obtain ⟨q1, q2, q3⟩ := hloc hp hpi
      have hyi := hy i q1 Hq (.rows 1 [[.str sq]]) hq0 hqJ
      rw [q2] at hyi
      (first | refine au ?_ | exact au0)
      refine yld_all hyi (fun r H' q => ?_)
      obtain ⟨H2, rfl, ⟨rfl, hq1, hqJ2⟩ | ⟨rfl, hx⟩⟩ := q
      · have hn1 := neAll_of hq1
        (first | refine au ?_ | exact au0)
        rw [show List.drop ((nl sq : Nat) : Int).toNat (List.take ((sq).length : Int).toNat sq) = (sq).drop (nl sq) from by simp]
        exact nextS (S := Nat × List UInt8 × Bool × AH) (i + 1, (sq).drop (nl sq), false, H2) (by exact cov_of) (by dsimp only; exact sub_of) (by dsimp only; omega) ⟨q1, by simp only [List.length_drop]; omega, q3, hq1, hqJ2⟩
      · (first | refine au ?_ | exact au0)
        exact ⟨_, _, rfl, .inr hx⟩
  | false =>
    have hs0 : sq ≠ [] := fun q => h0 ⟨rfl, q⟩
    (first | refine au ?_ | exact au0)
    first | refine callF_eq (path_number_spec sq (by omega) _) ?_ | refine callG_eq rfl (path_number_spec sq (by omega) _) ?_
    by_cases c : 0 < (numP sq).2
    · obtain ⟨q1, q2, q3⟩ := hloc hp (pcs_num h0 c)
      have hyi := hy i q1 Hq (.rows 1 [[.str sq]]) hq0 hqJ
      rw [q2] at hyi
      (first | refine au ?_ | exact au0)
      refine yld_all hyi (fun r H' q => ?_)
      obtain ⟨H2, rfl, ⟨rfl, hq1, hqJ2⟩ | ⟨rfl, hx⟩⟩ := q
      · have hn1 := neAll_of hq1
        (first | refine au ?_ | exact au0)
        rw [show List.drop ((numP sq).2 : Int).toNat (List.take (sq.length : Int).toNat sq) = sq.drop (numP sq).2 from by simp]
        exact nextS (S := Nat × List UInt8 × Bool × AH) (i + 1, sq.drop (numP sq).2, false, H2) (by exact cov_of) (by dsimp only; exact sub_of) (by dsimp only; omega) ⟨q1, by simp only [List.length_drop]; omega, q3, hq1, hqJ2⟩
      · (first | refine au ?_ | exact au0)
        exact ⟨_, _, rfl, .inr hx⟩
    (first | refine au ?_ | exact au0)
    first | refine callF_eq (strings_CutPrefix_spec sq _) ?_ | refine callG_eq rfl (strings_CutPrefix_spec sq _) ?_
    cases hd : dotP sq with
    | none =>
      obtain ⟨q1, q2, q3⟩ := hloc hp (pcs_nodot hs0 c hd)
      have hyi := hy i q1 Hq (.rows 1 [[.str sq]]) hq0 hqJ
      rw [q2] at hyi
      have hl3 : (pcs s true).length = i + 1 := by
        have := congrArg List.length q3
        rw [List.length_drop, List.length_nil] at this
        omega
      (first | refine au ?_ | exact au0)
      refine yld_all hyi (fun r H' q => ?_)
      obtain ⟨H2, rfl, ⟨rfl, hq1, hqJ2⟩ | ⟨rfl, hx⟩⟩ := q
      · (first | refine au ?_ | exact au0)
        exact ⟨_, _, rfl, .inl (by rw [hl3]; exact hqJ2)⟩
      · (first | refine au ?_ | exact au0)
        exact ⟨_, _, rfl, .inr hx⟩
    | some u =>
      have hu : u.length ≤ sq.length := by rw [dotP_some hd]; simp
      (first | refine au ?_ | exact au0)
      first | refine callF_eq (name_Lead_spec u (by omega) _) ?_ | refine callG_eq rfl (name_Lead_spec u (by omega) _) ?_
      have hnll := nl_le u
      have hpi := pcs_item h0 c (r := u) (by first | rfl | exact hd)
      by_cases c2 : nl u = 0
      · rw [if_pos c2] at hpi
        obtain ⟨q1, q2, q3⟩ := hloc hp hpi
        have hyi := hy i q1 Hq (.rows 1 [[.str u]]) hq0 hqJ
        rw [q2] at hyi
        have hl3 : (pcs s true).length = i + 1 := by
          have := congrArg List.length q3
          rw [List.length_drop, List.length_nil] at this
          omega
        (first | refine au ?_ | exact au0)
        refine yld_all hyi (fun r H' q => ?_)
        obtain ⟨H2, rfl, ⟨rfl, hq1, hqJ2⟩ | ⟨rfl, hx⟩⟩ := q
        · have hn1 := neAll_of hq1
          (first | refine au ?_ | exact au0)
          exact ⟨_, _, rfl, .inl (by rw [hl3]; exact hqJ2)⟩
        · (first | refine au ?_ | exact au0)
          exact ⟨_, _, rfl, .inr hx⟩
      · rw [if_neg c2] at hpi
        obtain ⟨q1, q2, q3⟩ := hloc hp hpi
        have hyi := hy i q1 Hq (.rows 1 [[.str u]]) hq0 hqJ
        rw [q2] at hyi
        (first | refine au ?_ | exact au0)
        refine yld_all hyi (fun r H' q => ?_)
        obtain ⟨H2, rfl, ⟨rfl, hq1, hqJ2⟩ | ⟨rfl, hx⟩⟩ := q
        · have hn1 := neAll_of hq1
          (first | refine au ?_ | exact au0)
          rw [show List.drop ((nl u : Nat) : Int).toNat (List.take ((u).length : Int).toNat u) = (u).drop (nl u) from by simp]
          exact nextS (S := Nat × List UInt8 × Bool × AH) (i + 1, (u).drop (nl u), false, H2) (by exact cov_of) (by dsimp only; exact sub_of) (by dsimp only; omega) ⟨q1, by simp only [List.length_drop]; omega, q3, hq1, hqJ2⟩
        · (first | refine au ?_ | exact au0)
          exact ⟨_, _, rfl, .inr hx⟩
end Go.Proofs.YtjaigpidmngaaaaGreat

namespace Go.Proofs.YtjaigpidmngaaaaGreat
inductive Vl where
  | mk (kd : Int) (num : Nat) (tx : List UInt8) (its : List Vl)
def Vl.kd : Vl → Int | .mk k _ _ _ => k
def Vl.num : Vl → Nat | .mk _ n _ _ => n
def Vl.tx : Vl → List UInt8 | .mk _ _ t _ => t
def Vl.its : Vl → List Vl | .mk _ _ _ l => l
def decD : Nat → Nat → List UInt8
  | 0, _ => []
  | k + 1, n => if n < 10 then [UInt8.ofNat (48 + n)] else decD k (n / 10) ++ [UInt8.ofNat (48 + n % 10)]
def dec (n : Nat) : List UInt8 := decD 20 n
def figH (n : Nat) : UInt8 := UInt8.ofNat (if n < 10 then 48 + n else 87 + n)
def quoC (c : UInt8) : List UInt8 := if c.toNat < 32 ∨ 126 < c.toNat ∨ c = 39 ∨ c = 92 then [92, figH (c.toNat / 16), figH (c.toNat % 16)] else [c]
def quo (s : List UInt8) : List UInt8 := [39] ++ s.flatMap quoC ++ [39]
end Go.Proofs.YtjaigpidmngaaaaGreat

namespace Go.Proofs.YtjaigpidmngaaaaGreat
structure TyV (l : List Ty) : Prop where
  len : l.length ≤ 32
  ok : ∀ i, i < l.length → tyErr l i = 0
theorem tyChk_v {l : List Ty} (h : (tyChk l).1 = 0) : TyV l := by
  unfold tyChk at h
  split at h
  · cases h
  · rename_i hl
    refine ⟨by omega, fun i hi => ?_⟩
    split at h
    · rename_i k hk
      obtain ⟨hn, h1, _⟩ := find_some hk
      simp only [List.getElem_range, ne_eq, decide_not, Bool.not_eq_true', decide_eq_false_iff_not] at h1
      exact absurd h h1
    · rename_i hk
      rw [List.findIdx?_eq_none_iff] at hk
      have := hk i (List.mem_range.2 hi)
      simpa using this
theorem fst0_all : ∀ {l : List Int}, fst0 l = 0 → ∀ x ∈ l, x = 0
  | [], _, x, h => by cases h
  | e :: l, h, x, hx => by
    simp only [fst0] at h
    split at h
    · rename_i q; exact absurd h q
    · rename_i q
      rcases List.mem_cons.1 hx with rfl | hx
      · exact Classical.not_not.1 q
      · exact fst0_all h x hx
structure TyG (l : List Ty) (n : Nat) (t : Ty) : Prop where
  form : formE t = 0
  named : namedE l t n = 0
  bound : boundE t = 0
  order : orderE l t n = 0
  items : itemsE l t = 0
  deep : deepE l n = 0
theorem TyV.at {l : List Ty} (h : TyV l) {i : Nat} (hi : i < l.length) : TyG l i l[i] := by
  have := h.ok i hi
  unfold tyErr at this
  rw [show l.getD i ty0 = l[i] from by simp [List.getD, hi]] at this
  have q := fst0_all this
  exact ⟨q _ (by simp), q _ (by simp), q _ (by simp), q _ (by simp), q _ (by simp), q _ (by simp)⟩
end Go.Proofs.YtjaigpidmngaaaaGreat

namespace Go.Proofs.YtjaigpidmngaaaaGreat
def kIt (k : Int) : Bool := decide (k = 13 ∨ k = 14)
def stepP (l : List Ty) (t : Int) (p : Pc) : (Bool × Nat) × Int × Int :=
  if p.1 = [] then (if kEl (tAt l t).kd = false then ((false, 0), 0, 4) else if (tAt l t).bd ≤ (p.2.1 : Int) then ((false, 0), 0, 7) else ((true, p.2.1), (tAt l t).el, 0))
  else if kIt (tAt l t).kd = false then ((false, 0), 0, 4)
  else match itemIx l t p.1 with
    | none => ((false, 0), 0, 5)
    | some n => ((false, n), ((tAt l t).its.getD n it0).ty, 0)
def wayP (l : List Ty) : Int → List Pc → List (Bool × Nat) → List (Bool × Nat) × Int × Int
  | t, [], acc => (acc, t, 0)
  | t, p :: ps, acc => if (stepP l t p).2.2 = 0 then wayP l (stepP l t p).2.1 ps (acc ++ [(stepP l t p).1]) else ([], 0, (stepP l t p).2.2)
def knownT (l : List Ty) (t : Int) : Prop := 0 ≤ t ∧ t < l.length ∧ (tyChk l).1 = 0
instance (l : List Ty) (t : Int) : Decidable (knownT l t) := inferInstanceAs (Decidable (_ ∧ _))
def findP (l : List Ty) (t : Int) (s : List UInt8) : List (Bool × Nat) × Int × Int :=
  if knownT l t then (if (pcs s true).all (·.2.2) = true then wayP l t (pcs s true) [] else ([], 0, 1)) else ([], 0, 8)
end Go.Proofs.YtjaigpidmngaaaaGreat

namespace Go.Proofs.YtjaigpidmngaaaaGreat
attribute [local irreducible] callA callP ACalls
theorem kinds9 {k : Int} (h : isNum k = true) : k = 1 ∨ k = 2 ∨ k = 3 ∨ k = 4 ∨ k = 5 ∨ k = 6 ∨ k = 7 ∨ k = 8 ∨ k = 9 := by
  simp only [isNum, decide_eq_true_eq] at h; omega
theorem szK_no {k : Int} (h : isNum k = false) : szK k = 0 ∧ sgK k = false := by
  simp only [isNum, decide_eq_false_iff_not] at h
  unfold szK sgK
  exact ⟨by repeat (rw [if_neg (by omega)]), decide_eq_false (by omega)⟩
theorem szK_num {k : Int} (h : isNum k = true) : szK k = 1 ∨ szK k = 2 ∨ szK k = 4 ∨ szK k = 8 := by
  rcases kinds9 h with rfl | rfl | rfl | rfl | rfl | rfl | rfl | rfl | rfl <;> simp [szK]
theorem prim_Number_spec (k : Int) (H : AH) : ACalls PG prim_Number.n [.int .i64 k] H fun r H' => r = .bool (isNum k) ∧ H' = H := by
  refine ACalls.fz (prim_Number.of rfl (wpF_start ?_))
  unfold isNum
  (repeat' (first | (refine au ?_; first | refine bsplit_dec (fun _ => ?_) (fun _ => ?_) | refine bsplit_intro (fun _ => ?_) (fun _ => ?_)) | exact au0 | fail)); (all_goals try (first | refine au ?_ | fail))
  all_goals exact ⟨fz_eq (congrArg AV.bool (by first | exact (decide_eq_false (by omega)).symm | exact decide_eq_decide.2 (by omega))), sub_of⟩
theorem prim_rows_spec0 (k : Int) : ACalls PG prim_rows.n [.int .i64 k] [] fun r _ => r = .agg [.int .i64 (szK k : Nat), .bool (sgK k)] := by
  refine prim_rows.of rfl (wpF_start ?_)
  (first | refine au ?_ | exact au0)
  intro id2 hid2 ht2; have n2 := neAll_of hid2; (try simp only [neAll, neAll_hset] at n2); have m2 := n2; (repeat (obtain ⟨_, m2⟩ := m2))
  (first | refine au ?_ | exact au0)
  intro id3 hid3 ht3; have n3 := neAll_of hid3; (try simp only [neAll, neAll_hset] at n3); have m3 := n3; (repeat (obtain ⟨_, m3⟩ := m3))
  (first | refine au ?_ | exact au0)
  first | refine callF_eq (prim_Number_spec _ _) ?_ | refine callG_eq rfl (prim_Number_spec _ _) ?_
  (first | refine au ?_ | exact au0)
  cases h : isNum k with
  | false =>
    rw [(szK_no h).1, (szK_no h).2]
    (first | refine au ?_ | exact au0)
    rfl
  | true =>
    rcases kinds9 h with rfl | rfl | rfl | rfl | rfl | rfl | rfl | rfl | rfl
    all_goals (first | refine au ?_ | exact au0)
    all_goals rfl
theorem prim_rows_spec (k : Int) (H : AH) : ACalls PG prim_rows.n [.int .i64 k] H fun r H' => r = .agg [.int .i64 (szK k : Nat), .bool (sgK k)] ∧ H' = H := (prim_rows_spec0 k).frame H
theorem szK_five (k : Int) : szK k = 0 ∨ szK k = 1 ∨ szK k = 2 ∨ szK k = 4 ∨ szK k = 8 := by
  cases h : isNum k with
  | false => exact .inl (szK_no h).1
  | true => exact .inr (szK_num h)
theorem prim_Size_spec (k : Int) (H : AH) : ACalls PG prim_Size.n [.int .i64 k] H fun r H' => r = .int .i64 (szK k : Nat) ∧ H' = H := by
  refine ACalls.fz (prim_Size.of rfl (wpF_start ?_))
  (first | refine au ?_ | exact au0)
  first | refine callF_eq (prim_rows_spec _ _) ?_ | refine callG_eq rfl (prim_rows_spec _ _) ?_
  (first | refine au ?_ | exact au0)
  exact ⟨fz_of, sub_of⟩
theorem prim_Signed_spec (k : Int) (H : AH) : ACalls PG prim_Signed.n [.int .i64 k] H fun r H' => r = .bool (sgK k) ∧ H' = H := by
  refine ACalls.fz (prim_Signed.of rfl (wpF_start ?_))
  (first | refine au ?_ | exact au0)
  first | refine callF_eq (prim_rows_spec _ _) ?_ | refine callG_eq rfl (prim_rows_spec _ _) ?_
  (first | refine au ?_ | exact au0)
  exact ⟨fz_of, sub_of⟩
theorem wrap_u64 (x : Int) : IntKind.wrap .u64 x = x % 18446744073709551616 := by
  simp only [IntKind.wrap, IntKind.bits, IntKind.signed, Bool.false_and, Bool.false_eq_true, if_false]; omega
theorem wrap_i64 (x : Int) : IntKind.wrap .i64 x = if x % 18446744073709551616 < 9223372036854775808 then x % 18446744073709551616 else x % 18446744073709551616 - 18446744073709551616 := by
  simp only [IntKind.wrap, IntKind.bits, IntKind.signed, Bool.true_and]
  split <;> rename_i h <;> split <;> simp_all <;> omega
theorem low_shift {b : Nat} (hb : b = 1 ∨ b = 2 ∨ b = 4 ∨ b = 8) (n : Nat) : Int.fdiv (IntKind.wrap .u64 ((n : Int) * 2 ^ min (Int.toNat (64 - 8 * (b : Nat))) (IntKind.bits .u64))) (2 ^ min (Int.toNat (64 - 8 * (b : Nat))) (IntKind.bits .u64)) = (lowN b n : Nat) := by
  rw [wrap_u64]
  unfold lowN
  rcases hb with rfl | rfl | rfl | rfl
  · rw [show (2 : Int) ^ min (Int.toNat (64 - 8 * ((1 : Nat) : Int))) (IntKind.bits .u64) = 72057594037927936 from by decide, Int.fdiv_eq_ediv_of_nonneg _ (by decide)]; omega
  · rw [show (2 : Int) ^ min (Int.toNat (64 - 8 * ((2 : Nat) : Int))) (IntKind.bits .u64) = 281474976710656 from by decide, Int.fdiv_eq_ediv_of_nonneg _ (by decide)]; omega
  · rw [show (2 : Int) ^ min (Int.toNat (64 - 8 * ((4 : Nat) : Int))) (IntKind.bits .u64) = 4294967296 from by decide, Int.fdiv_eq_ediv_of_nonneg _ (by decide)]; omega
  · rw [show (2 : Int) ^ min (Int.toNat (64 - 8 * ((8 : Nat) : Int))) (IntKind.bits .u64) = 1 from by decide, Int.fdiv_eq_ediv_of_nonneg _ (by decide)]; omega
theorem sgn_shift {b : Nat} (hb : b = 1 ∨ b = 2 ∨ b = 4 ∨ b = 8) (n : Nat) : Int.fdiv (IntKind.wrap .i64 (IntKind.wrap .u64 ((n : Int) * 2 ^ min (Int.toNat (64 - 8 * (b : Nat))) (IntKind.bits .u64)))) (2 ^ min (Int.toNat (64 - 8 * (b : Nat))) (IntKind.bits .i64)) = sgnI b n := by
  rw [wrap_u64, wrap_i64]
  unfold sgnI lowN
  rw [show IntKind.bits .i64 = IntKind.bits .u64 from rfl]
  rcases hb with rfl | rfl | rfl | rfl
  · rw [show (2 : Int) ^ min (Int.toNat (64 - 8 * ((1 : Nat) : Int))) (IntKind.bits .u64) = 72057594037927936 from by decide, Int.fdiv_eq_ediv_of_nonneg _ (by decide)]; repeat' split <;> omega
  · rw [show (2 : Int) ^ min (Int.toNat (64 - 8 * ((2 : Nat) : Int))) (IntKind.bits .u64) = 281474976710656 from by decide, Int.fdiv_eq_ediv_of_nonneg _ (by decide)]; repeat' split <;> omega
  · rw [show (2 : Int) ^ min (Int.toNat (64 - 8 * ((4 : Nat) : Int))) (IntKind.bits .u64) = 4294967296 from by decide, Int.fdiv_eq_ediv_of_nonneg _ (by decide)]; repeat' split <;> omega
  · rw [show (2 : Int) ^ min (Int.toNat (64 - 8 * ((8 : Nat) : Int))) (IntKind.bits .u64) = 1 from by decide, Int.fdiv_eq_ediv_of_nonneg _ (by decide)]; repeat' split <;> omega
theorem prim_Low_spec (k : Int) (n : Nat) (H : AH) : ACalls PG prim_Low.n [.int .i64 k, .int .u64 (n : Nat)] H fun r H' => r = .int .u64 (lowK k n : Nat) ∧ H' = H := by
  refine ACalls.fz (prim_Low.of rfl (wpF_start ?_))
  (first | refine au ?_ | exact au0)
  first | refine callF_eq (prim_Size_spec _ _) ?_ | refine callG_eq rfl (prim_Size_spec _ _) ?_
  have h5 := szK_five k
  unfold lowK
  by_cases e : szK k = 0
  · rw [if_pos e, e]
    (first | refine au ?_ | exact au0)
    exact ⟨fz_of, sub_of⟩
  · rw [if_neg e]
    have hb : szK k = 1 ∨ szK k = 2 ∨ szK k = 4 ∨ szK k = 8 := by omega
    generalize szK k = b at *
    (first | refine au ?_ | exact au0)
    refine rng_any ?_
    (first | refine au ?_ | exact au0)
    exact ⟨fz_eq (congrArg (AV.int .u64) (low_shift hb n)), sub_of⟩
theorem word_sized_spec (b : Int) (H : AH) : ACalls PG word_sized.n [.int .i64 b] H fun r H' => r = .bool (decide (b = 1 ∨ b = 2 ∨ b = 4 ∨ b = 8)) ∧ H' = H := by
  refine ACalls.fz (word_sized.of rfl (wpF_start ?_))
  (repeat' (first | (refine au ?_; first | refine bsplit_dec (fun _ => ?_) (fun _ => ?_) | refine bsplit_intro (fun _ => ?_) (fun _ => ?_)) | exact au0 | fail)); (all_goals try (first | refine au ?_ | fail))
  all_goals exact ⟨fz_eq (congrArg AV.bool (by first | exact (decide_eq_true (by omega)).symm | exact decide_eq_decide.2 (by omega))), sub_of⟩
theorem word_Sign_spec (b n : Nat) (hb : b = 1 ∨ b = 2 ∨ b = 4 ∨ b = 8) (H : AH) : ACalls PG word_Sign.n [.int .u64 (n : Nat), .int .i64 (b : Nat)] H fun r H' => r = .int .i64 (sgnI b n) ∧ H' = H := by
  refine ACalls.fz (word_Sign.of rfl (wpF_start ?_))
  (first | refine au ?_ | exact au0)
  first | refine callF_eq (word_sized_spec _ _) ?_ | refine callG_eq rfl (word_sized_spec _ _) ?_
  rw [decide_eq_true (by omega)]
  (first | refine au ?_ | exact au0)
  refine rng_any ?_
  (first | refine au ?_ | exact au0)
  refine rng_any ?_
  (first | refine au ?_ | exact au0)
  exact ⟨fz_eq (congrArg (AV.int .i64) (sgn_shift hb n)), sub_of⟩
theorem sgnI_range {b : Nat} (hb : b = 1 ∨ b = 2 ∨ b = 4 ∨ b = 8) (n : Nat) : -9223372036854775808 ≤ sgnI b n ∧ sgnI b n ≤ 9223372036854775807 := by
  unfold sgnI lowN
  rcases hb with rfl | rfl | rfl | rfl <;> (split <;> omega)
theorem word_Wide_spec (b n : Nat) (hb : b = 1 ∨ b = 2 ∨ b = 4 ∨ b = 8) (H : AH) : ACalls PG word_Wide.n [.int .u64 (n : Nat), .int .i64 (b : Nat)] H fun r H' => r = .int .u64 (wide (sgnI b n) : Nat) ∧ H' = H := by
  refine ACalls.fz (word_Wide.of rfl (wpF_start ?_))
  (first | refine au ?_ | exact au0)
  first | refine callF_eq (word_Sign_spec b n hb _) ?_ | refine callG_eq rfl (word_Sign_spec b n hb _) ?_
  (first | refine au ?_ | exact au0)
  refine rng_any ?_
  (first | refine au ?_ | exact au0)
  exact ⟨fz_eq (congrArg (AV.int .u64) (by rw [wrap_u64]; unfold wide; omega)), sub_of⟩
theorem sgK_num {k : Int} (h : sgK k = true) : isNum k = true := by
  simp only [sgK, decide_eq_true_eq] at h
  exact decide_eq_true (by omega)
theorem prim_Up_spec (k : Int) (n : Nat) (H : AH) : ACalls PG prim_Up.n [.int .i64 k, .int .u64 (n : Nat)] H fun r H' => r = .int .u64 (upK k n : Nat) ∧ H' = H := by
  refine ACalls.fz (prim_Up.of rfl (wpF_start ?_))
  (first | refine au ?_ | exact au0)
  first | refine callF_eq (prim_Signed_spec _ _) ?_ | refine callG_eq rfl (prim_Signed_spec _ _) ?_
  unfold upK
  cases h : sgK k with
  | true =>
    have hb := szK_num (sgK_num h)
    (first | refine au ?_ | exact au0)
    first | refine callF_eq (prim_Size_spec _ _) ?_ | refine callG_eq rfl (prim_Size_spec _ _) ?_
    (first | refine au ?_ | exact au0)
    first | refine callF_eq (word_Wide_spec _ n hb _) ?_ | refine callG_eq rfl (word_Wide_spec _ n hb _) ?_
    (first | refine au ?_ | exact au0)
    exact ⟨fz_of, sub_of⟩
  | false =>
    (first | refine au ?_ | exact au0)
    first | refine callF_eq (prim_Low_spec _ n _) ?_ | refine callG_eq rfl (prim_Low_spec _ n _) ?_
    (first | refine au ?_ | exact au0)
    exact ⟨fz_of, sub_of⟩
theorem prim_May_spec (k : Int) (n : Nat) (H : AH) : ACalls PG prim_May.n [.int .i64 k, .int .u64 (n : Nat)] H fun r H' => r = .bool (mayK k n) ∧ H' = H := by
  refine ACalls.fz (prim_May.of rfl (wpF_start ?_))
  rw [show mayK k n = decide ((1 ≤ k ∧ k ≤ 9) ∧ upK k n = n ∧ (k ≠ 1 ∨ n ≤ 1)) from by simp [mayK, isNum, Bool.decide_and, Bool.decide_or, Bool.and_assoc]]
  (repeat' (first | (refine au ?_; first | refine callF_eq (prim_Number_spec _ _) ?_ | refine callF_eq (prim_Up_spec _ n _) ?_ | refine bsplit_dec (fun _ => ?_) (fun _ => ?_) | refine bsplit_intro (fun _ => ?_) (fun _ => ?_)) | exact au0 | fail)); (all_goals try (first | refine au ?_ | fail))
  all_goals exact ⟨fz_eq (congrArg AV.bool (by first | exact (decide_eq_true (by omega)).symm | exact (decide_eq_false (by omega)).symm | exact decide_eq_decide.2 (by omega) | rfl)), sub_of⟩
end Go.Proofs.YtjaigpidmngaaaaGreat

namespace Go.Proofs.YtjaigpidmngaaaaGreat
attribute [local irreducible] callA callP ACalls
theorem r5_Number_spec (k : Int) (H : AH) : ACalls PG broadsheetref05_Number.n [.int .i64 k] H fun r H' => r = .bool (isNum k) ∧ H' = H := by
  refine ACalls.fz (broadsheetref05_Number.of rfl (wpF_start ?_))
  unfold isNum
  (repeat' (first | (refine au ?_; first | refine bsplit_dec (fun _ => ?_) (fun _ => ?_) | refine bsplit_intro (fun _ => ?_) (fun _ => ?_)) | exact au0 | fail)); (all_goals try (first | refine au ?_ | fail))
  all_goals exact ⟨fz_eq (congrArg AV.bool (by first | exact (decide_eq_true (by omega)).symm | exact (decide_eq_false (by omega)).symm | exact decide_eq_decide.2 (by omega) | rfl)), sub_of⟩
theorem r5_Signed_spec (k : Int) (H : AH) : ACalls PG broadsheetref05_Signed.n [.int .i64 k] H fun r H' => r = .bool (sgK k) ∧ H' = H := by
  refine ACalls.fz (broadsheetref05_Signed.of rfl (wpF_start ?_))
  unfold sgK
  (repeat' (first | (refine au ?_; first | refine bsplit_dec (fun _ => ?_) (fun _ => ?_) | refine bsplit_intro (fun _ => ?_) (fun _ => ?_)) | exact au0 | fail)); (all_goals try (first | refine au ?_ | fail))
  all_goals exact ⟨fz_eq (congrArg AV.bool (by first | exact (decide_eq_true (by omega)).symm | exact (decide_eq_false (by omega)).symm | exact decide_eq_decide.2 (by omega) | rfl)), sub_of⟩
theorem r5_Size_spec (k : Int) (H : AH) : ACalls PG broadsheetref05_Size.n [.int .i64 k] H fun r H' => r = .int .i64 (szK k : Nat) ∧ H' = H := by
  refine ACalls.fz (broadsheetref05_Size.of rfl (wpF_start ?_))
  unfold szK
  (repeat' (first | (refine au ?_; first | refine bsplit_dec (fun _ => ?_) (fun _ => ?_) | refine bsplit_intro (fun _ => ?_) (fun _ => ?_)) | exact au0 | fail)); (all_goals try (first | refine au ?_ | fail))
  all_goals exact ⟨fz_eq (congrArg (AV.int .i64) (by (repeat' split) <;> omega)), sub_of⟩
theorem r1_Sized_spec (b : Int) (H : AH) : ACalls PG broadsheetref01_Sized.n [.int .i64 b] H fun r H' => r = .bool (decide (b = 1 ∨ b = 2 ∨ b = 4 ∨ b = 8)) ∧ H' = H := by
  refine ACalls.fz (broadsheetref01_Sized.of rfl (wpF_start ?_))
  (repeat' (first | (refine au ?_; first | refine bsplit_dec (fun _ => ?_) (fun _ => ?_) | refine bsplit_intro (fun _ => ?_) (fun _ => ?_)) | exact au0 | fail)); (all_goals try (first | refine au ?_ | fail))
  all_goals exact ⟨fz_eq (congrArg AV.bool (by first | exact (decide_eq_true (by omega)).symm | exact (decide_eq_false (by omega)).symm | exact decide_eq_decide.2 (by omega) | rfl)), sub_of⟩
def hlf (b : Nat) : Nat := 128 * 256 ^ (b - 1)
theorem hlf_eq {b : Nat} (hb : b = 1 ∨ b = 2 ∨ b = 4 ∨ b = 8) : (b = 1 ∧ hlf b = 128) ∨ (b = 2 ∧ hlf b = 32768) ∨ (b = 4 ∧ hlf b = 2147483648) ∨ (b = 8 ∧ hlf b = 9223372036854775808) := by
  rcases hb with rfl | rfl | rfl | rfl <;> decide
theorem r1_half_spec (b : Nat) (h1 : 1 ≤ b) (h8 : b ≤ 8) (H : AH) : ACalls PG broadsheetref01_half.n [.int .i64 (b : Nat)] H fun r H' => r = .int .u64 (hlf b : Nat) ∧ H' = H := by
  refine ACalls.fz (broadsheetref01_half.of rfl (wpF_start ?_))
  (first | refine au ?_ | exact au0)
  refine loopS (S := Nat) (fun i => [(3, some (.int .u64 (128 * 256 ^ i : Nat))), (4, some (.int .i64 (i + 1 : Nat)))]) (fun _ => _) (fun i => b - i) (fun i => i + 1 ≤ b) 0 h1 (fun i hi => ?_)
  have hp : 256 ^ i ≤ 256 ^ 7 := Nat.pow_le_pow_right (by decide) (by omega)
  have hp7 : 256 ^ 7 = 72057594037927936 := by decide
  have hs : 256 ^ (i + 1) = 256 ^ i * 256 := Nat.pow_succ ..
  have hm : i + 1 < b → 256 ^ i ≤ 256 ^ 6 := fun q => Nat.pow_le_pow_right (by decide) (by omega)
  have hp6 : 256 ^ 6 = 281474976710656 := by decide
  have hh : hlf (i + 1) = 128 * 256 ^ i := rfl
  generalize 256 ^ i = p at *
  (first | refine au ?_ | exact au0)
  refine bsplit_dec (fun c => ?_) (fun c => ?_)
  · have hm' := hm (by omega)
    (first | refine au ?_ | exact au0)
    refine nextS ((i + 1 : Nat)) (by exact cov_of) (by exact sub_of) (by first | omega | (dsimp only; omega)) ?_; (try dsimp only)
    omega
  · (first | refine au ?_ | exact au0)
    obtain rfl : b = i + 1 := by omega
    rw [hh]
    exact ⟨fz_of, sub_of⟩
theorem r1_Low_spec (b n : Nat) (hb : b = 1 ∨ b = 2 ∨ b = 4 ∨ b = 8) (hn : n < 18446744073709551616) (H : AH) : ACalls PG broadsheetref01_Low.n [.int .u64 (n : Nat), .int .i64 (b : Nat)] H fun r H' => r = .int .u64 (lowN b n : Nat) ∧ H' = H := by
  refine ACalls.fz (broadsheetref01_Low.of rfl (wpF_start ?_))
  (first | refine au ?_ | exact au0)
  first | refine callF_eq (r1_half_spec b (by omega) (by omega) _) ?_ | refine callG_eq rfl (r1_half_spec b (by omega) (by omega) _) ?_
  unfold lowN
  rcases hlf_eq hb with ⟨rfl, e⟩ | ⟨rfl, e⟩ | ⟨rfl, e⟩ | ⟨rfl, e⟩
  all_goals rw [e]
  all_goals (first | refine au ?_ | exact au0)
  all_goals exact ⟨fz_eq (congrArg (AV.int .u64) (by rw [Int.tmod_eq_emod_of_nonneg (by omega), Int.tmod_eq_emod_of_nonneg (by omega), wrap_u64, wrap_u64]; omega)), sub_of⟩
def bitsR (b : Nat) (m : Int) : Int × Int := if -(hlf b : Int) ≤ m ∧ m < hlf b then (m % (2 * hlf b : Int), 0) else (0, 7)
theorem r1_Bits_spec (b : Nat) (m : Int) (hb : b = 1 ∨ b = 2 ∨ b = 4 ∨ b = 8) (hm : -9223372036854775808 ≤ m ∧ m ≤ 9223372036854775807) (H : AH) : ACalls PG broadsheetref01_Bits.n [.int .i64 m, .int .i64 (b : Nat)] H fun r H' => r = .tup [.int .u64 (bitsR b m).1, .int .i64 (bitsR b m).2] ∧ H' = H := by
  refine ACalls.fz (broadsheetref01_Bits.of rfl (wpF_start ?_))
  (first | refine au ?_ | exact au0)
  first | refine callF_eq (r1_Sized_spec _ _) ?_ | refine callG_eq rfl (r1_Sized_spec _ _) ?_
  rw [decide_eq_true (by omega)]
  (first | refine au ?_ | exact au0)
  first | refine callF_eq (r1_half_spec b (by omega) (by omega) _) ?_ | refine callG_eq rfl (r1_half_spec b (by omega) (by omega) _) ?_
  unfold bitsR
  rcases hlf_eq hb with ⟨rfl, e⟩ | ⟨rfl, e⟩ | ⟨rfl, e⟩ | ⟨rfl, e⟩
  all_goals rw [e]
  all_goals by_cases h0 : 0 ≤ m
  all_goals (first | refine au ?_ | exact au0)
  all_goals try (rw [show IntKind.wrap .i64 (0 - (m + 1)) = 0 - (m + 1) from wrap_id (by omega) (by omega)]; (first | refine au ?_ | exact au0))
  all_goals try refine bsplit_dec (fun h1 => ?_) (fun h1 => ?_)
  all_goals try (first | refine au ?_ | exact au0)
  all_goals try (rw [show IntKind.wrap .i64 (0 - (m + 1)) = 0 - (m + 1) from wrap_id (by omega) (by omega)]; (first | refine au ?_ | exact au0))
  all_goals (refine ⟨fz_eq ?_, sub_of⟩; first | (rw [if_pos (by omega)]; simp only [AV.tup.injEq, List.cons.injEq, AV.int.injEq, true_and, and_true]; omega) | (rw [if_neg (by omega)]))
theorem wide_may {b n : Nat} (hb : b = 1 ∨ b = 2 ∨ b = 4 ∨ b = 8) (hn : n < 18446744073709551616) : wide (sgnI b n) = n ↔ (bitsR b (IntKind.wrap .i64 (n : Nat))).2 = 0 := by
  rw [wrap_i64]
  unfold wide sgnI bitsR lowN
  rcases hlf_eq hb with ⟨rfl, e⟩ | ⟨rfl, e⟩ | ⟨rfl, e⟩ | ⟨rfl, e⟩
  all_goals rw [e]
  all_goals (repeat' split) <;> (first | (constructor <;> intro <;> omega) | (simp only [] at *; constructor <;> intro q <;> omega))
theorem wrapI_range (n : Nat) : -9223372036854775808 ≤ IntKind.wrap .i64 (n : Nat) ∧ IntKind.wrap .i64 (n : Nat) ≤ 9223372036854775807 := by
  rw [wrap_i64]; split <;> omega
theorem r5_Low_spec (k : Int) (n : Nat) (hn : n < 18446744073709551616) (H : AH) : ACalls PG broadsheetref05_Low.n [.int .i64 k, .int .u64 (n : Nat)] H fun r H' => r = .int .u64 (lowK k n : Nat) ∧ H' = H := by
  refine ACalls.fz (broadsheetref05_Low.of rfl (wpF_start ?_))
  (first | refine au ?_ | exact au0)
  first | refine callF_eq (r5_Number_spec _ _) ?_ | refine callG_eq rfl (r5_Number_spec _ _) ?_
  unfold lowK
  cases h : isNum k with
  | false =>
    rw [(szK_no h).1]
    (first | refine au ?_ | exact au0)
    exact ⟨fz_of, sub_of⟩
  | true =>
    have hb := szK_num h
    rw [if_neg (by omega)]
    (first | refine au ?_ | exact au0)
    first | refine callF_eq (r5_Size_spec _ _) ?_ | refine callG_eq rfl (r5_Size_spec _ _) ?_
    (first | refine au ?_ | exact au0)
    first | refine callF_eq (r1_Low_spec _ n hb hn _) ?_ | refine callG_eq rfl (r1_Low_spec _ n hb hn _) ?_
    (first | refine au ?_ | exact au0)
    exact ⟨fz_of, sub_of⟩
theorem r5_May_spec (k : Int) (n : Nat) (hn : n < 18446744073709551616) (H : AH) : ACalls PG broadsheetref05_May.n [.int .i64 k, .int .u64 (n : Nat)] H fun r H' => r = .bool (mayK k n) ∧ H' = H := by
  refine ACalls.fz (broadsheetref05_May.of rfl (wpF_start ?_))
  (first | refine au ?_ | exact au0)
  refine bsplit_dec (fun h1 => ?_) (fun h1 => ?_)
  · subst h1
    (first | refine au ?_ | exact au0)
    refine ⟨fz_eq (congrArg AV.bool ?_), sub_of⟩
    have e : upK 1 n = n % 256 := by unfold upK lowK lowN; simp [sgK, szK]
    simp only [mayK, e, isNum]
    simp only [show decide ((1 : Int) ≤ 1 ∧ (1 : Int) ≤ 9) = true from rfl, Bool.true_and, ne_eq, not_true_eq_false, decide_false, Bool.false_or]
    rw [← Bool.decide_and]
    exact decide_eq_decide.2 (by omega)
  · (first | refine au ?_ | exact au0)
    first | refine callF_eq (r5_Number_spec _ _) ?_ | refine callG_eq rfl (r5_Number_spec _ _) ?_
    cases h : isNum k with
    | false =>
      (first | refine au ?_ | exact au0)
      refine ⟨fz_eq (congrArg AV.bool ?_), sub_of⟩
      simp [mayK, h]
    | true =>
      have hb := szK_num h
      (first | refine au ?_ | exact au0)
      first | refine callF_eq (r5_Signed_spec _ _) ?_ | refine callG_eq rfl (r5_Signed_spec _ _) ?_
      cases hs : sgK k with
      | true =>
        (first | refine au ?_ | exact au0)
        refine rng_any ?_
        (first | refine au ?_ | exact au0)
        first | refine callF_eq (r5_Size_spec _ _) ?_ | refine callG_eq rfl (r5_Size_spec _ _) ?_
        (first | refine au ?_ | exact au0)
        first | refine callF_eq (r1_Bits_spec _ _ hb (wrapI_range n) _) ?_ | refine callG_eq rfl (r1_Bits_spec _ _ hb (wrapI_range n) _) ?_
        (first | refine au ?_ | exact au0)
        refine ⟨fz_eq (congrArg AV.bool ?_), sub_of⟩
        simp only [mayK, h, upK, hs, if_true, Bool.true_and, ne_eq, h1, not_false_eq_true, decide_true, Bool.true_or, Bool.and_true]
        exact decide_eq_decide.2 (wide_may hb hn).symm
      | false =>
        (first | refine au ?_ | exact au0)
        first | refine callF_eq (r5_Low_spec _ _ hn _) ?_ | refine callG_eq rfl (r5_Low_spec _ _ hn _) ?_
        (first | refine au ?_ | exact au0)
        refine ⟨fz_eq (congrArg AV.bool ?_), sub_of⟩
        simp only [mayK, h, upK, hs, Bool.false_eq_true, if_false, Bool.true_and, ne_eq, h1, not_false_eq_true, decide_true, Bool.true_or, Bool.and_true]
        exact decide_eq_decide.2 (by omega)
end Go.Proofs.YtjaigpidmngaaaaGreat

namespace Go.Proofs.YtjaigpidmngaaaaGreat
attribute [local irreducible] callA callP ACalls
abbrev itR (x : It) : List AV := [.str x.nm, .int .u64 (x.num : Nat), .int .i64 x.ty, .bool x.key, .bool x.rest]
abbrev tyR (t : Ty) : List AV := [.int .i64 t.kd, .str t.nm, .int .i64 t.bd, .int .i64 t.el, .int .i64 t.tg, .rows 5 (t.its.map itR)]
abbrev tysA (l : List Ty) : AV := .rows 6 (l.map tyR)
abbrev inR (n : Int) : List AV := [.int .i64 n]
theorem has_spec (k : Int) (H : AH) : ACalls PG types_has.n [.int .i64 k] H fun r H' => r = .tup [.bool (kNm k), .bool (kBd k), .bool (kEl k), .bool (kTg k)] ∧ H' = H := by
  refine ACalls.fz (types_has.of rfl (wpF_start ?_))
  unfold kNm kBd kEl kTg
  (repeat' (first | (refine au ?_; first | refine bsplit_dec (fun _ => ?_) (fun _ => ?_) | refine bsplit_intro (fun _ => ?_) (fun _ => ?_)) | exact au0 | fail)); (all_goals try (first | refine au ?_ | fail))
  all_goals (refine ⟨fz_eq ?_, sub_of⟩; simp only [AV.tup.injEq, List.cons.injEq, AV.bool.injEq, and_true]; refine ⟨?_, ?_, ?_, ?_⟩ <;> first | exact (decide_eq_true (by omega)).symm | exact (decide_eq_false (by omega)).symm)
theorem rng4 (k : Int) : (kEl k = true ∧ kTg k = false ∧ k ≠ 13 ∧ k ≠ 14) ∨ (kEl k = false ∧ kTg k = true ∧ k = 14) ∨ (kEl k = false ∧ kTg k = false ∧ k = 13) ∨ (kEl k = false ∧ kTg k = false ∧ k ≠ 13 ∧ k ≠ 14) := by
  unfold kEl kTg
  by_cases h1 : k = 11 ∨ k = 12
  · exact .inl ⟨decide_eq_true h1, decide_eq_false (by omega), by omega, by omega⟩
  · by_cases h2 : k = 14
    · exact .inr (.inl ⟨decide_eq_false h1, decide_eq_true h2, h2⟩)
    · by_cases h3 : k = 13
      · exact .inr (.inr (.inl ⟨decide_eq_false h1, decide_eq_false h2, h3⟩))
      · exact .inr (.inr (.inr ⟨decide_eq_false h1, decide_eq_false h2, h3, h2⟩))
theorem parts_el {t : Ty} (h : kEl t.kd = true) (h2 : kTg t.kd = false) (h3 : t.kd ≠ 13) (h4 : t.kd ≠ 14) : parts t = [t.el] := by
  unfold parts; rw [h, h2, if_neg (show ¬ (t.kd = 13 ∨ t.kd = 14) by omega)]; rfl
theorem parts_tg {t : Ty} (h : kEl t.kd = false) (h2 : kTg t.kd = true) (h3 : t.kd = 14) : parts t = t.tg :: t.its.map (·.ty) := by
  unfold parts; rw [h, h2, if_pos (show t.kd = 13 ∨ t.kd = 14 by omega)]; rfl
theorem parts_st {t : Ty} (h : kEl t.kd = false) (h2 : kTg t.kd = false) (h3 : t.kd = 13) : parts t = t.its.map (·.ty) := by
  unfold parts; rw [h, h2, if_pos (show t.kd = 13 ∨ t.kd = 14 by omega)]; rfl
theorem parts_no {t : Ty} (h : kEl t.kd = false) (h2 : kTg t.kd = false) (h3 : t.kd ≠ 13) (h4 : t.kd ≠ 14) : parts t = [] := by
  unfold parts; rw [h, h2, if_neg (show ¬ (t.kd = 13 ∨ t.kd = 14) by omega)]; rfl
theorem parts_spec0 (t : Ty) (ht : t.its.length ≤ 4000000000000) : ACalls PG types_parts.n [.agg (tyR t)] [] fun r _ => r = .rows 1 ((parts t).map inR) := by
  refine ACalls.fzK (types_parts.of rfl (wpF_start ?_))
  have hlen : (t.its.map itR).length = t.its.length := by simp
  (first | refine au ?_ | exact au0)
  intro id1 hid1 ht1; have n1 := neAll_of hid1; (try simp only [neAll, neAll_hset] at n1); have m1 := n1; (repeat (obtain ⟨_, m1⟩ := m1))
  (first | refine au ?_ | exact au0)
  first | refine callF_eq (has_spec _ _) ?_ | refine callG_eq rfl (has_spec _ _) ?_
  rcases rng4 t.kd with ⟨h1, h2, h3, h4⟩ | ⟨h1, h2, h3⟩ | ⟨h1, h2, h3⟩ | ⟨h1, h2, h3, h4⟩
  · rw [h1, h2, parts_el h1 h2 h3 h4]
    (first | refine au ?_ | exact au0)
    refine ⟨_, rfl, (Nat.le_of_ble_eq_true rfl), (fun q => by cases q), fun _ => ?_⟩
    intro id2 hid2 ht2; have n2 := neAll_of hid2; (try simp only [neAll, neAll_hset] at n2); have m2 := n2; (repeat (obtain ⟨_, m2⟩ := m2))
    (first | refine au ?_ | exact au0)
    exact Fz.ownL hget_self rfl (FzR.refl _ _ _) (map_w (f := inR) (fun _ => rfl) _)
  · rw [h1, h2, parts_tg h1 h2 h3]
    (first | refine au ?_ | exact au0)
    refine ⟨_, rfl, (Nat.le_of_ble_eq_true rfl), (fun q => by cases q), fun _ => ?_⟩
    intro id2 hid2 ht2; have n2 := neAll_of hid2; (try simp only [neAll, neAll_hset] at n2); have m2 := n2; (repeat (obtain ⟨_, m2⟩ := m2))
    (first | refine au ?_ | exact au0)
    obtain ⟨pre, hpre⟩ : ∃ pre : List Int, pre = [t.tg] := ⟨_, rfl⟩
    have hpl : pre.length = 1 := by rw [hpre]; rfl
    refine loopS (S := Nat × Option Nat) (fun s => [(3, some (accV s.2 1 (pre.length + s.1))), (41, some (.int .i64 (s.1 : Nat)))]) (fun s => accH s.2 1 (pre.map inR ++ ((t.its.take s.1).map fun x => inR x.ty)) [(id1, .rows 6 [tyR t])]) (fun s => t.its.length - s.1) (fun s => s.1 ≤ t.its.length ∧ (s.2 = none → pre.length + s.1 = 0) ∧ ∀ id, s.2 = some id → tag id = ty_int ∧ id ≠ id1) (0, some id2) ⟨Nat.zero_le _, by simp, fun id q => by cases q; exact ⟨ht2, by omega⟩⟩ (fun ⟨i, o⟩ hs => ?_) (by exact cov_of) (by subst hpre; exact sub_of)
    dsimp only at hs
    rcases hs with ⟨hi, ho1, ho2⟩
    have hge : ∀ h : i < t.its.length, (t.its.map itR).getD (Int.toNat (i : Nat)) [] = itR t.its[i] := fun h => row_get h
    have htk : ∀ h : i < t.its.length, ((t.its.take (i + 1)).map fun x => inR x.ty) = ((t.its.take i).map fun x => inR x.ty) ++ [inR t.its[i].ty] := fun h => take_map_succ _ _ _ h
    have htl : (t.its.take i).length = i := by rw [List.length_take]; omega
    (first | refine au ?_ | exact au0)
    refine bsplit_dec (fun c => ?_) (fun c => ?_)
    · have hil : i < t.its.length := by omega
      replace hge := hge hil
      replace htk := htk hil
      generalize t.its[i] = x at *
      rcases o with _ | ida
      · (first | refine au ?_ | exact au0)
        rw [hge]
        (first | refine au ?_ | exact au0)
        intro id9 hid9 ht9; have n9 := neAll_of hid9; (try simp only [neAll, neAll_hset] at n9); have m9 := n9; (repeat (obtain ⟨_, m9⟩ := m9))
        (first | refine au ?_ | exact au0)
        refine ⟨_, rfl, (Nat.le_of_ble_eq_true rfl), (fun q => by cases q), fun _ => ?_⟩
        intro id47 hid47 ht47; have n47 := neAll_of hid47; (try simp only [neAll, neAll_hset] at n47); have m47 := n47; (repeat (obtain ⟨_, m47⟩ := m47))
        (first | refine au ?_ | exact au0)
        have hp := ho1 rfl
        refine nextS (S := Nat × Option Nat) (i + 1, some id47) (by exact cov_of) ?_ (by dsimp only; omega) ⟨hil, by simp, fun j q => ?_⟩
        · dsimp only [accH]
          rw [htk, show pre = [] from List.eq_nil_of_length_eq_zero (by omega), show i = 0 from by omega]
          exact sub_of
        · simp only [Option.some.injEq] at q
          subst q
          exact ⟨ht47, by omega⟩
      · obtain ⟨hti, hdi⟩ := ho2 ida rfl
        (first | refine au ?_ | exact au0)
        rw [hge]
        (first | refine au ?_ | exact au0)
        intro id9 hid9 ht9; have n9 := neAll_of hid9; (try simp only [neAll, neAll_hset] at n9); have m9 := n9; (repeat (obtain ⟨_, m9⟩ := m9))
        (first | refine au ?_ | exact au0)
        refine ⟨_, _, readS_all (by exact hg_of) (by ((try dsimp only); (try simp only [List.length_append, List.length_map, List.length_cons, List.length_nil, List.length_take, List.length_set, List.length_replicate]); (try dsimp only); first | done | omega)), rfl, rfl, rfl, (hti), (by ((try dsimp only); (try simp only [List.length_append, List.length_map, List.length_cons, List.length_nil, List.length_take, List.length_set, List.length_replicate]); (try dsimp only); first | done | omega)), ?_⟩
        intro id47 hid47 ht47; have n47 := neAll_of hid47; (try simp only [neAll, neAll_hset] at n47); have m47 := n47; (repeat (obtain ⟨_, m47⟩ := m47))
        (first | refine au ?_ | exact au0)
        refine nextS (S := Nat × Option Nat) (i + 1, some id47) (by exact cov_of) ?_ (by dsimp only; omega) ⟨hil, by simp, fun j q => ?_⟩
        · dsimp only [accH]
          rw [htk, ← List.append_assoc]
          exact sub_of
        · simp only [Option.some.injEq] at q
          subst q
          exact ⟨ht47, by omega⟩
    · (first | refine au ?_ | exact au0)
      obtain rfl : i = t.its.length := by omega
      rw [List.take_length]
      refine accFz (by ((try dsimp only); (try simp only [List.length_append, List.length_map, List.length_cons, List.length_nil, List.length_take, List.length_set, List.length_replicate]); (try dsimp only); first | done | omega)) (fun q => ?_) (fun _ _ => rfl) ?_ (map_w (f := inR) (fun _ => rfl) _)
      · have := ho1 q
        rw [List.eq_nil_of_length_eq_zero (show pre.length = 0 by omega), List.eq_nil_of_length_eq_zero (show t.its.length = 0 by omega)]
        rfl
      · rw [hpre]
        simp only [List.map_cons, List.map_nil, List.map_map, List.cons_append, List.nil_append]
        exact FzR.refl _ _ _
  · rw [h1, h2, parts_st h1 h2 h3]
    (first | refine au ?_ | exact au0)
    obtain ⟨pre, hpre⟩ : ∃ pre : List Int, pre = [] := ⟨_, rfl⟩
    have hpl : pre.length = 0 := by rw [hpre]; rfl
    refine loopS (S := Nat × Option Nat) (fun s => [(3, some (accV s.2 1 (pre.length + s.1))), (41, some (.int .i64 (s.1 : Nat)))]) (fun s => accH s.2 1 (pre.map inR ++ ((t.its.take s.1).map fun x => inR x.ty)) [(id1, .rows 6 [tyR t])]) (fun s => t.its.length - s.1) (fun s => s.1 ≤ t.its.length ∧ (s.2 = none → pre.length + s.1 = 0) ∧ ∀ id, s.2 = some id → tag id = ty_int ∧ id ≠ id1) (0, none) ⟨Nat.zero_le _, by simp [hpl], fun id q => by cases q⟩ (fun ⟨i, o⟩ hs => ?_) (by exact cov_of) (by subst hpre; exact sub_of)
    dsimp only at hs
    rcases hs with ⟨hi, ho1, ho2⟩
    have hge : ∀ h : i < t.its.length, (t.its.map itR).getD (Int.toNat (i : Nat)) [] = itR t.its[i] := fun h => row_get h
    have htk : ∀ h : i < t.its.length, ((t.its.take (i + 1)).map fun x => inR x.ty) = ((t.its.take i).map fun x => inR x.ty) ++ [inR t.its[i].ty] := fun h => take_map_succ _ _ _ h
    have htl : (t.its.take i).length = i := by rw [List.length_take]; omega
    (first | refine au ?_ | exact au0)
    refine bsplit_dec (fun c => ?_) (fun c => ?_)
    · have hil : i < t.its.length := by omega
      replace hge := hge hil
      replace htk := htk hil
      generalize t.its[i] = x at *
      rcases o with _ | ida
      · (first | refine au ?_ | exact au0)
        rw [hge]
        (first | refine au ?_ | exact au0)
        intro id9 hid9 ht9; have n9 := neAll_of hid9; (try simp only [neAll, neAll_hset] at n9); have m9 := n9; (repeat (obtain ⟨_, m9⟩ := m9))
        (first | refine au ?_ | exact au0)
        refine ⟨_, rfl, (Nat.le_of_ble_eq_true rfl), (fun q => by cases q), fun _ => ?_⟩
        intro id47 hid47 ht47; have n47 := neAll_of hid47; (try simp only [neAll, neAll_hset] at n47); have m47 := n47; (repeat (obtain ⟨_, m47⟩ := m47))
        (first | refine au ?_ | exact au0)
        have hp := ho1 rfl
        refine nextS (S := Nat × Option Nat) (i + 1, some id47) (by exact cov_of) ?_ (by dsimp only; omega) ⟨hil, by simp, fun j q => ?_⟩
        · dsimp only [accH]
          rw [htk, show pre = [] from List.eq_nil_of_length_eq_zero (by omega), show i = 0 from by omega]
          exact sub_of
        · simp only [Option.some.injEq] at q
          subst q
          exact ⟨ht47, by omega⟩
      · obtain ⟨hti, hdi⟩ := ho2 ida rfl
        (first | refine au ?_ | exact au0)
        rw [hge]
        (first | refine au ?_ | exact au0)
        intro id9 hid9 ht9; have n9 := neAll_of hid9; (try simp only [neAll, neAll_hset] at n9); have m9 := n9; (repeat (obtain ⟨_, m9⟩ := m9))
        (first | refine au ?_ | exact au0)
        refine ⟨_, _, readS_all (by exact hg_of) (by ((try dsimp only); (try simp only [List.length_append, List.length_map, List.length_cons, List.length_nil, List.length_take, List.length_set, List.length_replicate]); (try dsimp only); first | done | omega)), rfl, rfl, rfl, (hti), (by ((try dsimp only); (try simp only [List.length_append, List.length_map, List.length_cons, List.length_nil, List.length_take, List.length_set, List.length_replicate]); (try dsimp only); first | done | omega)), ?_⟩
        intro id47 hid47 ht47; have n47 := neAll_of hid47; (try simp only [neAll, neAll_hset] at n47); have m47 := n47; (repeat (obtain ⟨_, m47⟩ := m47))
        (first | refine au ?_ | exact au0)
        refine nextS (S := Nat × Option Nat) (i + 1, some id47) (by exact cov_of) ?_ (by dsimp only; omega) ⟨hil, by simp, fun j q => ?_⟩
        · dsimp only [accH]
          rw [htk, ← List.append_assoc]
          exact sub_of
        · simp only [Option.some.injEq] at q
          subst q
          exact ⟨ht47, by omega⟩
    · (first | refine au ?_ | exact au0)
      obtain rfl : i = t.its.length := by omega
      rw [List.take_length]
      refine accFz (by ((try dsimp only); (try simp only [List.length_append, List.length_map, List.length_cons, List.length_nil, List.length_take, List.length_set, List.length_replicate]); (try dsimp only); first | done | omega)) (fun q => ?_) (fun _ _ => rfl) ?_ (map_w (f := inR) (fun _ => rfl) _)
      · have := ho1 q
        rw [List.eq_nil_of_length_eq_zero (show pre.length = 0 by omega), List.eq_nil_of_length_eq_zero (show t.its.length = 0 by omega)]
        rfl
      · rw [hpre]
        simp only [List.map_cons, List.map_nil, List.map_map, List.cons_append, List.nil_append]
        exact FzR.refl _ _ _
  · rw [h1, h2, parts_no h1 h2 h3 h4]
    (first | refine au ?_ | exact au0)
    exact Fz.nil _
end Go.Proofs.YtjaigpidmngaaaaGreat

namespace Go.Proofs.YtjaigpidmngaaaaGreat
attribute [local irreducible] callA callP ACalls
abbrev kB (l : List Ty) (n : Nat) (t : Ty) : Blk := .rows 8 [[tysA l, .int .i64 (n : Nat), .int .i64 t.kd, .str t.nm, .int .i64 t.bd, .int .i64 t.el, .int .i64 t.tg, .rows 5 (t.its.map itR)]]
structure TyOk (t : Ty) : Prop where
  nm : t.nm.length ≤ 140737488351232
  its : t.its.length ≤ 4000000000000
  nms : ∀ x ∈ t.its, x.nm.length ≤ 140737488351232
  nums : ∀ x ∈ t.its, x.num < 18446744073709551616
structure TysOk (l : List Ty) : Prop where
  len : l.length ≤ 4000000000000
  all : ∀ t ∈ l, TyOk t
theorem kd4 {k : Int} (h : kNm k = true) : k = 9 ∨ k = 13 ∨ k = 14 := by simpa [kNm] using h
theorem kinds5 {k : Int} (h : ¬ (k < 1 ∨ 14 < k)) : (kNm k = false ∧ kBd k = false ∧ kEl k = false ∧ kTg k = false ∧ k ≤ 8) ∨ (kNm k = true ∧ kBd k = false ∧ kEl k = false ∧ kTg k = false ∧ (k = 9 ∨ k = 13)) ∨
    (kNm k = false ∧ kBd k = true ∧ kEl k = false ∧ kTg k = false ∧ k = 10) ∨ (kNm k = false ∧ kBd k = true ∧ kEl k = true ∧ kTg k = false ∧ (k = 11 ∨ k = 12)) ∨ (kNm k = true ∧ kBd k = false ∧ kEl k = false ∧ kTg k = true ∧ k = 14) := by
  have hk : k = 1 ∨ k = 2 ∨ k = 3 ∨ k = 4 ∨ k = 5 ∨ k = 6 ∨ k = 7 ∨ k = 8 ∨ k = 9 ∨ k = 10 ∨ k = 11 ∨ k = 12 ∨ k = 13 ∨ k = 14 := by omega
  rcases hk with rfl | rfl | rfl | rfl | rfl | rfl | rfl | rfl | rfl | rfl | rfl | rfl | rfl | rfl <;> decide
set_option maxHeartbeats 4000000 in
theorem form_spec (l : List Ty) (n : Nat) (t : Ty) (hok : TyOk t) (id : Nat) : SW PG types_look_form.n [.ptr id 8 0 0] id (kB l n t) [] (.int .i64 (formE t)) (kB l n t) := by
  have hlen : (t.its.map itR).length = t.its.length := by simp
  have hli := hok.its
  refine ACalls.fz (types_look_form.of rfl (wpF_start ?_))
  (first | refine au ?_ | exact au0)
  intro id3 hid3 ht3; have n3 := neAll_of hid3; (try simp only [neAll, neAll_hset] at n3); have m3 := n3; (repeat (obtain ⟨_, m3⟩ := m3))
  (first | refine au ?_ | exact au0)
  unfold formE
  by_cases hk : t.kd < 1 ∨ 14 < t.kd
  · rw [if_pos hk]
    (repeat' (first | (refine au ?_; first | refine bsplit_dec (fun _ => ?_) (fun _ => ?_) | refine bsplit_intro (fun _ => ?_) (fun _ => ?_)) | exact au0 | fail)); (all_goals try (first | refine au ?_ | fail))
    all_goals first | omega | exact ⟨fz_of, sub_of⟩
  rw [if_neg hk]
  refine bsplit_f (decide_eq_false (by omega)) ?_
  (first | refine au ?_ | exact au0)
  first | refine callF_eq (has_spec _ _) ?_ | refine callG_eq rfl (has_spec _ _) ?_
  have h0 : (0 : Int) < (t.its.map itR).length ↔ t.its ≠ [] := by rw [hlen]; cases t.its <;> simp
  rcases kinds5 hk with ⟨hN, hB, hE, hT, hh⟩ | ⟨hN, hB, hE, hT, hh⟩ | ⟨hN, hB, hE, hT, hh⟩ | ⟨hN, hB, hE, hT, hh⟩ | ⟨hN, hB, hE, hT, hh⟩
  all_goals by_cases hm : tyMore t = true
  all_goals simp only [hm, true_or, false_or, if_true]
  all_goals simp only [tyMore, decide_eq_true_eq] at hm
  all_goals rw [hN, hB, hE, hT] at hm ⊢
  all_goals (first | refine au ?_ | exact au0)
  all_goals (repeat' (first | (refine au ?_; first | refine bsplit_dec (fun _ => ?_) (fun _ => ?_) | refine bsplit_intro (fun _ => ?_) (fun _ => ?_)) | exact au0 | fail)); (all_goals try (first | refine au ?_ | fail))
  all_goals try (first | (exfalso; simp_all; done) | exact ⟨fz_of, sub_of⟩)
  all_goals refine loopL [(3, some _), (71, some _), (72, some _)] 73 0 t.its.length (none' (itMore t.kd) t.its) (by exact cov_of) (Nat.zero_le _) none'_zero (fun i hi hn => ?_)
  all_goals (first | refine au ?_ | exact au0)
  all_goals try refine bsplit_dec (fun c => ?_) (fun c => ?_)
  all_goals try (first | refine au ?_ | exact au0)
  all_goals first
    | (rw [none'_end hn (by omega)]; exact ⟨fz_of, sub_of⟩)
    | (exfalso; simp_all; done)
    | skip
  all_goals have hil : i < t.its.length := by omega
  all_goals have hge := row_get (f := itR) hil
  all_goals have hany : itMore t.kd t.its[i] = true → t.its.any (itMore t.kd) = true := any_hit hil
  all_goals have hnx := none'_succ hn hil
  all_goals generalize t.its[i] = x at *
  all_goals (first | refine au ?_ | exact au0)
  all_goals rw [hge]
  all_goals (first | refine au ?_ | exact au0)
  all_goals intro id9 hid9 ht9; have n9 := neAll_of hid9; (try simp only [neAll, neAll_hset] at n9); have m9 := n9; (repeat (obtain ⟨_, m9⟩ := m9))
  all_goals (repeat' (first | (refine au ?_; first | refine bsplit_dec (fun _ => ?_) (fun _ => ?_) | refine bsplit_intro (fun _ => ?_) (fun _ => ?_)) | exact au0 | fail)); (all_goals try (first | refine au ?_ | fail))
  all_goals first
    | (rw [hany (by unfold itMore; apply decide_eq_true; simp_all)]; exact ⟨fz_of, sub_of⟩)
    | (refine nextN (by exact cov_of) (by exact sub_of) (by omega) (hnx (by unfold itMore; apply decide_eq_false; simp_all)))
    | skip
end Go.Proofs.YtjaigpidmngaaaaGreat

namespace Go.Proofs.YtjaigpidmngaaaaGreat
attribute [local irreducible] callA callP ACalls
theorem name_Name_spec (s : List UInt8) (hs : s.length ≤ 140737488351232) (H : AH) : ACalls PG name_Name.n [.str s] H fun r H' => r = .bool (nameOk s) ∧ H' = H := by
  refine ACalls.fz (name_Name.of rfl (wpF_start ?_))
  have e : nameOk s = decide (s ≠ [] ∧ s.length ≤ 16 ∧ nl s = s.length ∧ rsv.contains s = false) := by
    unfold nameOk
    cases h : rsv.contains s <;> simp [Bool.decide_and, Bool.and_assoc]
  rw [e]
  have hnl := nl_le s
  (repeat' (first | (refine au ?_; first | refine callF_eq (name_Lead_spec s hs _) ?_ | refine callF_eq (word_spec s _) ?_ | refine bsplit_dec (fun _ => ?_) (fun _ => ?_) | refine bsplit_intro (fun _ => ?_) (fun _ => ?_)) | exact au0 | fail)); (all_goals try (first | refine au ?_ | fail))
  all_goals (refine ⟨fz_eq (congrArg AV.bool ?_), sub_of⟩; first | (symm; apply decide_eq_false; simp_all; done) | (symm; apply decide_eq_true; simp_all; done) | (simp_all; done) | (symm; apply decide_eq_false; rintro ⟨_, h1, h2, _⟩; omega) | (cases hr : rsv.contains s; exact (decide_eq_true ⟨by assumption, by omega, by omega, rfl⟩).symm; exact (decide_eq_false (by simp)).symm))
theorem bound_spec (l : List Ty) (n : Nat) (t : Ty) (id : Nat) : SW PG types_look_bound.n [.ptr id 8 0 0] id (kB l n t) [] (.int .i64 (boundE t)) (kB l n t) := by
  refine ACalls.fz (types_look_bound.of rfl (wpF_start ?_))
  (first | refine au ?_ | exact au0)
  first | refine callF_eq (has_spec _ _) ?_ | refine callG_eq rfl (has_spec _ _) ?_
  unfold boundE
  cases hB : kBd t.kd <;> cases hE : kEl t.kd
  all_goals (first | refine au ?_ | exact au0)
  all_goals (repeat' (first | (refine au ?_; first | refine bsplit_dec (fun _ => ?_) (fun _ => ?_) | refine bsplit_intro (fun _ => ?_) (fun _ => ?_)) | exact au0 | fail)); (all_goals try (first | refine au ?_ | fail))
  all_goals (refine ⟨fz_eq (congrArg (AV.int .i64) ?_), sub_of⟩; first | (rw [if_pos (by simp_all)]; done) | (rw [if_neg (by simp_all)]; done) | skip)
theorem any_take {α : Type} {p : α → Bool} {l : List α} {n : Nat} : (l.take n).any p = true ↔ ∃ (i : Nat) (h : i < l.length), i < n ∧ p l[i] = true := by
  rw [List.any_eq_true]
  constructor
  · rintro ⟨x, hx, hp⟩
    obtain ⟨i, hi, rfl⟩ := List.getElem_of_mem hx
    rw [List.length_take] at hi
    exact ⟨i, by omega, by omega, by simpa using hp⟩
  · rintro ⟨i, hi, hn, hp⟩
    exact ⟨l[i], by rw [List.mem_iff_getElem]; exact ⟨i, by rw [List.length_take]; omega, by simp⟩, hp⟩
theorem take_any_no {α : Type} {p : α → Bool} {l : List α} {n i : Nat} (h : none' p l i) (hn : n ≤ i) : (l.take n).any p = false := by
  rw [Bool.eq_false_iff, ne_eq, any_take]
  rintro ⟨j, hj, hjn, hp⟩
  rw [h j hj (by omega)] at hp; cases hp
theorem named_spec (l : List Ty) (n : Nat) (t : Ty) (hok : TyOk t) (hl : TysOk l) (hn : n ≤ l.length) (id : Nat) : SW PG types_look_named.n [.ptr id 8 0 0] id (kB l n t) [] (.int .i64 (namedE l t n)) (kB l n t) := by
  have hlen : (l.map tyR).length = l.length := by simp
  have hll := hl.len
  refine ACalls.fz (types_look_named.of rfl (wpF_start ?_))
  unfold namedE
  (first | refine au ?_ | exact au0)
  first | refine callF_eq (has_spec _ _) ?_ | refine callG_eq rfl (has_spec _ _) ?_
  cases hN : kNm t.kd
  · (first | refine au ?_ | exact au0)
    exact ⟨fz_of, sub_of⟩
  (first | refine au ?_ | exact au0)
  first | refine callF_eq (name_Name_spec _ hok.nm _) ?_ | refine callG_eq rfl (name_Name_spec _ hok.nm _) ?_
  cases hO : nameOk t.nm
  · (first | refine au ?_ | exact au0)
    exact ⟨fz_of, sub_of⟩
  (first | refine au ?_ | exact au0)
  have e1 : List.drop (Int.toNat 0) (List.take (Int.toNat (n : Nat)) (l.map tyR)) = (l.take n).map tyR := by simp
  have hl2 : (l.take n).length = n := by rw [List.length_take]; omega
  rw [e1]
  have hlen2 : ((l.take n).map tyR).length = n := by simp; omega
  refine loopL [(0, some _), (37, some _), (38, some _)] 39 0 n (none' (fun x => x.nm == t.nm) (l.take n)) (by exact cov_of) (Nat.zero_le _) none'_zero (fun i hi hno => ?_)
  (first | refine au ?_ | exact au0)
  refine bsplit_dec (fun c => ?_) (fun c => ?_)
  · have hil : i < (l.take n).length := by omega
    have hge := row_get (f := tyR) hil
    have hany : ((l.take n)[i].nm == t.nm) = true → (l.take n).any (fun x => x.nm == t.nm) = true := any_hit (p := fun x : Ty => x.nm == t.nm) hil
    have hnx := none'_succ hno hil
    generalize (l.take n)[i] = x at *
    (first | refine au ?_ | exact au0)
    rw [hge]
    (first | refine au ?_ | exact au0)
    intro id8 hid8 ht8; have n8 := neAll_of hid8; (try simp only [neAll, neAll_hset] at n8); have m8 := n8; (repeat (obtain ⟨_, m8⟩ := m8))
    (first | refine au ?_ | exact au0)
    refine bsplit_dec (fun h => ?_) (fun h => ?_)
    · (first | refine au ?_ | exact au0)
      rw [hany (by simpa using h)]
      exact ⟨fz_of, sub_of⟩
    · (first | refine au ?_ | exact au0)
      refine nextN (by exact cov_of) (by exact sub_of) (by omega) (hnx (by simpa using h))
  · (first | refine au ?_ | exact au0)
    rw [none'_end hno (by omega)]
    exact ⟨fz_of, sub_of⟩
theorem parts_spec (t : Ty) (ht : t.its.length ≤ 4000000000000) (H : AH) : ACalls PG types_parts.n [.agg (tyR t)] H fun r H' => r = .rows 1 ((parts t).map inR) ∧ H' = H := (parts_spec0 t ht).frame H
theorem parts_len (t : Ty) : (parts t).length ≤ t.its.length + 2 := by
  unfold parts
  simp only [List.length_append]
  have : (if kEl t.kd = true then [t.el] else []).length ≤ 1 := by split <;> simp
  have : (if kTg t.kd = true then [t.tg] else []).length ≤ 1 := by split <;> simp
  have : (if t.kd = 13 ∨ t.kd = 14 then t.its.map (·.ty) else []).length ≤ t.its.length := by split <;> simp
  omega
theorem parts_tag {t : Ty} (h : t.kd = 14) : t.tg ∈ parts t := by
  unfold parts; rw [show kTg t.kd = true from by simp [kTg, h], if_pos rfl]; simp
theorem order_spec (l : List Ty) (n : Nat) (t : Ty) (hok : TyOk t) (hl : TysOk l) (hn : n < l.length) (id : Nat) : SW PG types_look_order.n [.ptr id 8 0 0] id (kB l n t) [] (.int .i64 (orderE l t n)) (kB l n t) := by
  have hlen : (l.map tyR).length = l.length := by simp
  have hll := hl.len
  have hil := hok.its
  have hpl := parts_len t
  have hplm : ((parts t).map inR).length = (parts t).length := by simp
  refine ACalls.fz (types_look_order.of rfl (wpF_start ?_))
  unfold orderE
  (first | refine au ?_ | exact au0)
  first | refine callF_eq (parts_spec t hok.its _) ?_ | refine callG_eq rfl (parts_spec t hok.its _) ?_
  (first | refine au ?_ | exact au0)
  refine loopL [(0, some _), (9, some _), (10, some _)] 11 0 (parts t).length (none' (fun p => decide (p < 0 ∨ (n : Int) ≤ p)) (parts t)) (by exact cov_of) (Nat.zero_le _) none'_zero (fun i hi hno => ?_)
  (first | refine au ?_ | exact au0)
  refine bsplit_dec (fun c => ?_) (fun c => ?_)
  · have hpi : i < (parts t).length := by omega
    have hge := row_get (f := inR) hpi
    have hany : decide ((parts t)[i] < 0 ∨ (n : Int) ≤ (parts t)[i]) = true → (parts t).any (fun p => decide (p < 0 ∨ (n : Int) ≤ p)) = true := any_hit (p := fun p => decide (p < 0 ∨ (n : Int) ≤ p)) hpi
    have hnx := none'_succ hno hpi
    generalize (parts t)[i] = x at *
    (first | refine au ?_ | exact au0)
    rw [hge]
    (first | refine au ?_ | exact au0)
    (repeat' (first | (refine au ?_; first | refine bsplit_dec (fun _ => ?_) (fun _ => ?_) | refine bsplit_intro (fun _ => ?_) (fun _ => ?_)) | exact au0 | fail)); (all_goals try (first | refine au ?_ | fail))
    · rw [hany (decide_eq_true (by omega))]
      exact ⟨fz_of, sub_of⟩
    · rw [hany (decide_eq_true (by omega))]
      exact ⟨fz_of, sub_of⟩
    · refine nextN (by exact cov_of) (by exact sub_of) (by omega) (hnx (decide_eq_false (by omega)))
  · have hany := none'_end hno (show (parts t).length ≤ i by omega)
    rw [hany]
    (first | refine au ?_ | exact au0)
    refine bsplit_dec (fun h => ?_) (fun h => ?_)
    · have hm := parts_tag h
      rw [List.any_eq_false] at hany
      have hq := hany _ hm
      simp only [decide_eq_true_eq] at hq
      have hge := row_get (f := tyR) (l := l) (i := t.tg.toNat) (by omega)
      rw [Int.toNat_natCast] at hge
      have htt : tAt l t.tg = l[t.tg.toNat]'(by omega) := by unfold tAt; simp [List.getD, show t.tg.toNat < l.length from by omega]
      generalize l[t.tg.toNat]'(by omega) = g at *
      (first | refine au ?_ | exact au0)
      rw [hge]
      (first | refine au ?_ | exact au0)
      first | refine callF_eq (prim_Number_spec _ _) ?_ | refine callG_eq rfl (prim_Number_spec _ _) ?_
      rw [htt]
      cases hI : isNum g.kd
      · (first | refine au ?_ | exact au0)
        exact ⟨fz_eq (by simp [h]), sub_of⟩
      · (first | refine au ?_ | exact au0)
        exact ⟨fz_eq (by simp), sub_of⟩
    · (first | refine au ?_ | exact au0)
      exact ⟨fz_eq (by simp [h]), sub_of⟩
end Go.Proofs.YtjaigpidmngaaaaGreat

namespace Go.Proofs.YtjaigpidmngaaaaGreat
attribute [local irreducible] callA callP ACalls
def fIx (l : List Ty) (t : Int) (kp : Int → Bool) (hp : It → Bool) : Option Nat := if 0 ≤ t ∧ t < l.length ∧ kp (tAt l t).kd = true then (tAt l t).its.findIdx? hp else none
abbrev ixA : Option Nat → AV
  | some n => .tup [.int .i64 (n : Nat), .bool true]
  | none => .tup [.int .i64 0, .bool false]
theorem tAt_get {l : List Ty} {t : Int} (h0 : 0 ≤ t) (h : t < l.length) : (l.map tyR).getD t.toNat [] = tyR (tAt l t) := by
  unfold tAt; simp [List.getD, show t.toNat < l.length from by omega]
theorem tAt_mem {l : List Ty} {t : Int} (h0 : 0 ≤ t) (h : t < l.length) : tAt l t ∈ l := by
  have : t.toNat < l.length := by omega
  unfold tAt; simp [List.getD, this]
theorem find_spec (l : List Ty) (hl : TysOk l) (t : Int) (f1 f2 : Nat) (c1 c2 : List AV) (kp : Int → Bool) (hp : It → Bool) (Hs : AH) (h1 : ∀ k, ACalls PG f1 (.int .i64 k :: c1) Hs fun r H' => r = .bool (kp k) ∧ H' = Hs)
    (h2 : ∀ x, ACalls PG f2 (.agg (itR x) :: c2) Hs fun r H' => r = .bool (hp x) ∧ H' = Hs) : ACalls PG types_find.n [tysA l, .int .i64 t, .clo f1 [] c1, .clo f2 [] c2] Hs fun r H' => r = ixA (fIx l t kp hp) ∧ H' = Hs := by
  have hlen : (l.map tyR).length = l.length := by simp
  have hll := hl.len
  refine ACalls.fz (types_find.of rfl (wpF_start ?_))
  unfold fIx
  (first | refine au ?_ | exact au0)
  by_cases hb : 0 ≤ t ∧ t < l.length
  · have hge := tAt_get hb.1 hb.2
    have hti := (hl.all _ (tAt_mem hb.1 hb.2)).its
    generalize tAt l t = g at *
    have hlen2 : (g.its.map itR).length = g.its.length := by simp
    (first | refine au ?_ | exact au0)
    rw [hge]
    (first | refine au ?_ | exact au0)
    first | refine callF_eq (h1 _) ?_ | refine callG_eq rfl (h1 _) ?_
    cases hk : kp g.kd
    · (first | refine au ?_ | exact au0)
      rw [if_neg (by simp)]
      exact ⟨fz_of, sub_of⟩
    · rw [if_pos ⟨hb.1, hb.2, rfl⟩]
      (first | refine au ?_ | exact au0)
      rw [hge]
      (first | refine au ?_ | exact au0)
      refine loopL [(3, some _), (34, some _), (35, some _)] 36 0 g.its.length (none' hp g.its) (by exact cov_of) (Nat.zero_le _) none'_zero (fun i hi hno => ?_)
      (first | refine au ?_ | exact au0)
      refine bsplit_dec (fun c => ?_) (fun c => ?_)
      · have hil : i < g.its.length := by omega
        have hge2 := row_get (f := itR) hil
        have hhit : hp g.its[i] = true → g.its.findIdx? hp = some i := find_hit hno hil
        have hnx := none'_succ hno hil
        generalize g.its[i] = x at *
        (first | refine au ?_ | exact au0)
        rw [hge2]
        (first | refine au ?_ | exact au0)
        intro id9 hid9 ht9; have n9 := neAll_of hid9; (try simp only [neAll, neAll_hset] at n9); have m9 := n9; (repeat (obtain ⟨_, m9⟩ := m9))
        (first | refine au ?_ | exact au0)
        first | refine callF_eq ((h2 x).sup (by exact sub_of)) ?_ | refine callG_eq rfl ((h2 x).sup (by exact sub_of)) ?_
        cases hx : hp x
        · (first | refine au ?_ | exact au0)
          refine nextN (by exact cov_of) (by exact sub_of) (by omega) (hnx hx)
        · (first | refine au ?_ | exact au0)
          rw [hhit hx]
          exact ⟨fz_of, sub_of⟩
      · (first | refine au ?_ | exact au0)
        rw [find_none hno (by omega)]
        exact ⟨fz_of, sub_of⟩
  · rw [if_neg (fun q => hb ⟨q.1, q.2.1⟩)]
    (repeat' (first | (refine au ?_; first | refine bsplit_dec (fun _ => ?_) (fun _ => ?_) | refine bsplit_intro (fun _ => ?_) (fun _ => ?_)) | exact au0 | fail)); (all_goals try (first | refine au ?_ | fail))
    all_goals first | omega | exact ⟨fz_of, sub_of⟩
theorem Value1_spec (k : Int) (H : AH) : ACalls PG types_Value_1.n [.int .i64 k] H fun r H' => r = .bool (decide (k = 9)) ∧ H' = H := by
  refine ACalls.fz (types_Value_1.of rfl (wpF_start ?_))
  (first | refine au ?_ | exact au0)
  exact ⟨fz_of, sub_of⟩
theorem Value2_spec (x : It) (n id : Nat) : ACalls PG types_Value_2.n [.agg (itR x), .ptr id 1 0 0] [(id, .rows 1 [[.int .u64 (n : Nat)]])] fun r H' => r = .bool (x.num == n) ∧ H' = [(id, .rows 1 [[.int .u64 (n : Nat)]])] := by
  refine ACalls.fz (types_Value_2.of' (Nat.le_of_ble_eq_true rfl) (wpF_start ?_))
  (first | refine au ?_ | exact au0)
  intro id2 hid2 ht2; have n2 := neAll_of hid2; (try simp only [neAll, neAll_hset] at n2); have m2 := n2; (repeat (obtain ⟨_, m2⟩ := m2))
  (first | refine au ?_ | exact au0)
  refine ⟨fz_eq (congrArg AV.bool ?_), sub_of⟩
  rw [Bool.eq_iff_iff]; simp; omega
theorem fIx_val (l : List Ty) (t : Int) (n : Nat) : fIx l t (fun k => decide (k = 9)) (fun x => x.num == n) = valIx l t n := by
  unfold fIx valIx; simp only [decide_eq_true_eq]
theorem Value_spec (l : List Ty) (hl : TysOk l) (t : Int) (n : Nat) (H : AH) : ACalls PG types_Value.n [tysA l, .int .i64 t, .int .u64 (n : Nat)] H fun r H' => r = ixA (valIx l t n) ∧ H' = H := by
  refine ACalls.fz (types_Value.of rfl (wpF_start ?_))
  rw [← fIx_val]
  (first | refine au ?_ | exact au0)
  intro id5 hid5 ht5; have n5 := neAll_of hid5; (try simp only [neAll, neAll_hset] at n5); have m5 := n5; (repeat (obtain ⟨_, m5⟩ := m5))
  (first | refine au ?_ | exact au0)
  first | refine callF_eq ((find_spec l hl t types_Value_1.n types_Value_2.n [] [.ptr id5 1 0 0] (fun k => decide (k = 9)) (fun x => x.num == n) _ (fun k => Value1_spec k _) (fun x => Value2_spec x n id5)).sup (by exact sub_of)) ?_ | refine callG_eq rfl ((find_spec l hl t types_Value_1.n types_Value_2.n [] [.ptr id5 1 0 0] (fun k => decide (k = 9)) (fun x => x.num == n) _ (fun k => Value1_spec k _) (fun x => Value2_spec x n id5)).sup (by exact sub_of)) ?_
  cases fIx l t (fun k => decide (k = 9)) (fun x => x.num == n) with
  | some m =>
    (first | refine au ?_ | exact au0)
    exact ⟨fz_of, sub_of⟩
  | none =>
    (first | refine au ?_ | exact au0)
    exact ⟨fz_of, sub_of⟩
theorem orderE_in {l : List Ty} {t : Ty} {n : Nat} (h : orderE l t n = 0) : ∀ p ∈ parts t, 0 ≤ p ∧ p < n := by
  intro p hp
  unfold orderE at h
  split at h
  · cases h
  · rename_i hn
    have := List.any_eq_false.1 (by simpa using hn : (parts t).any (fun p => decide (p < 0 ∨ (n : Int) ≤ p)) = false) p hp
    simp only [decide_eq_true_eq] at this
    omega
theorem may_spec (l : List Ty) (hl : TysOk l) (n : Nat) (t : Ty) (hn : n ≤ l.length) (hN : kNm t.kd = true) (h13 : t.kd ≠ 13) (ho : orderE l t n = 0) (m : Nat) (id : Nat) : SW PG types_look_may.n [.ptr id 8 0 0, .int .u64 (m : Nat)] id (kB l n t) [] (.bool (mayT l t m)) (kB l n t) := by
  have hlen : (l.map tyR).length = l.length := by simp
  have hll := hl.len
  refine ACalls.fz (types_look_may.of rfl (wpF_start ?_))
  unfold mayT
  (first | refine au ?_ | exact au0)
  refine bsplit_dec (fun c => ?_) (fun c => ?_)
  · rw [if_pos c]
    (first | refine au ?_ | exact au0)
    first | refine callF_eq (prim_May_spec _ m _) ?_ | refine callG_eq rfl (prim_May_spec _ m _) ?_
    (first | refine au ?_ | exact au0)
    exact ⟨fz_of, sub_of⟩
  · rw [if_neg c]
    have h14 : t.kd = 14 := by rcases kd4 hN with h | h | h <;> omega
    have hin := orderE_in ho _ (parts_tag h14)
    have hge := tAt_get (l := l) hin.1 (by omega)
    generalize hg : tAt l t.tg = g at *
    (first | refine au ?_ | exact au0)
    rw [hge]
    (first | refine au ?_ | exact au0)
    intro id4 hid4 ht4; have n4 := neAll_of hid4; (try simp only [neAll, neAll_hset] at n4); have m4 := n4; (repeat (obtain ⟨_, m4⟩ := m4))
    (first | refine au ?_ | exact au0)
    refine bsplit_dec (fun c2 => ?_) (fun c2 => ?_)
    · rw [if_pos c2]
      have hV := fun H => Value_spec l hl t.tg m H
      generalize valIx l t.tg m = o at *
      cases o with
      | some k =>
        (first | refine au ?_ | exact au0)
        first | refine callF_eq (hV _) ?_ | refine callG_eq rfl (hV _) ?_
        (first | refine au ?_ | exact au0)
        exact ⟨fz_of, sub_of⟩
      | none =>
        (first | refine au ?_ | exact au0)
        first | refine callF_eq (hV _) ?_ | refine callG_eq rfl (hV _) ?_
        (first | refine au ?_ | exact au0)
        exact ⟨fz_of, sub_of⟩
    · rw [if_neg c2]
      (first | refine au ?_ | exact au0)
      first | refine callF_eq (prim_May_spec _ m _) ?_ | refine callG_eq rfl (prim_May_spec _ m _) ?_
      (first | refine au ?_ | exact au0)
      exact ⟨fz_of, sub_of⟩
end Go.Proofs.YtjaigpidmngaaaaGreat
