/- What abstract values say of a world; what a run may change; contracts of functions. -/
import Derived.Test.YtlmplofpclaokaaSimCode
namespace Go.Proofs.Ytlmplofpclaokaa
set_option autoImplicit false

/-! ### Numbers of blocks -/
theorem tag_mk {k T : Nat} (h : T < 2 ^ k) : tag (2 ^ k + T) = T := by
  have h0 : 2 ^ k + T ≠ 0 := by have := Nat.two_pow_pos k; omega
  have h1 : k ≤ (2 ^ k + T).log2 := (Nat.le_log2 h0).2 (by omega)
  have h2 : (2 ^ k + T).log2 < k + 1 := (Nat.log2_lt h0).2 (by rw [Nat.pow_succ]; omega)
  unfold tag
  rw [show (2 ^ k + T).log2 = k from by omega]
  omega
theorem lt_pow (n : Nat) : n < 2 ^ n := Nat.lt_two_pow_self
theorem exists_tag (N T : Nat) : ∃ id, N ≤ id ∧ tag id = T := by
  have h1 := lt_pow (N + T)
  exact ⟨2 ^ (N + T) + T, by omega, tag_mk (by omega)⟩

/-! ### The heap alone -/
def hcell (h : Array Obj) (b o : Nat) : Option Value :=
  match h[b]? with
  | some (.cells c _ _) => c[o]?
  | _ => none

def hty (h : Array Obj) (b : Nat) : Option (Nat × TypeId) :=
  match h[b]? with
  | some (.cells c e _) => some (c.size, e)
  | _ => none

def hsize (h : Array Obj) (b : Nat) : Option Nat :=
  match h[b]? with
  | some (.cells c _ _) => some c.size
  | _ => none

theorem hsize_hty {h h' : Array Obj} (q : ∀ b t, hty h b = some t → hty h' b = some t) (b m : Nat) (hb : hsize h b = some m) : hsize h' b = some m := by
  unfold hsize at hb
  split at hb
  · rename_i c e _ hx
    simp only [Option.some.injEq] at hb
    have h1 := q b (c.size, e) (by unfold hty; rw [hx])
    unfold hty at h1
    split at h1
    · rename_i c' e' _ hx'
      simp only [Option.some.injEq, Prod.mk.injEq] at h1
      unfold hsize
      rw [hx']
      simp only [Option.some.injEq]
      omega
    · cases h1
  · cases hb

theorem cell?_heap (w : World) (b o : Nat) : w.cell? ⟨b, o, none⟩ = hcell w.heap b o := by
  unfold World.cell? hcell
  cases w.heap[b]? with
  | none => rfl
  | some x => cases x <;> simp

/-- Which block, from which cell on, an owned row lies in. -/
abbrev Loc := Nat → Option (Nat × Nat)

/-- The value 'x' is, in the heap 'h', what 'v' says. 'Z': blocks that nobody writes any more. -/
inductive Rl (h : Array Obj) (ρ : Loc) (Z : Nat → Prop) : AV → Value → Prop
  | int (k : IntKind) (n : Int) : Rl h ρ Z (.int k n) (.int k n)
  | bool (b : Bool) : Rl h ρ Z (.bool b) (.bool b)
  | str (l : List UInt8) (s : ByteArray) (hs : s.data.toList = l) : Rl h ρ Z (.str l) (.string s)
  | agg (cs : List AV) (vs : List Value) (hl : cs.length = vs.length) (hc : ∀ (i : Nat) v, cs[i]? = some v → v.isCell = true)
      (hr : ∀ (i : Nat) v x, cs[i]? = some v → vs[i]? = some x → Rl h ρ Z v x) : Rl h ρ Z (.agg cs) (.agg vs.toArray)
  | tup (cs : List AV) (vs : List Value) (hl : cs.length = vs.length)
      (hr : ∀ (i : Nat) v x, cs[i]? = some v → vs[i]? = some x → Rl h ρ Z v x) : Rl h ρ Z (.tup cs) (.tuple vs.toArray)
  | rows (sz : Nat) (l : List (List AV)) (b o n c : Nat) (f : Nat → Value) (hn : n = l.length) (hnc : n ≤ c) (hz : 0 < n → Z b)
      (hw : ∀ (i : Nat) r, l[i]? = some r → r.length = sz)
      (hc : ∀ (i : Nat) r (j : Nat) v, l[i]? = some r → r[j]? = some v → v.isCell = true)
      (hm : ∀ (i : Nat) r (j : Nat) v, l[i]? = some r → r[j]? = some v → hcell h b (o + (i * sz + j)) = some (f (i * sz + j)))
      (hr : ∀ (i : Nat) r (j : Nat) v, l[i]? = some r → r[j]? = some v → Rl h ρ Z v (f (i * sz + j))) : Rl h ρ Z (.rows sz l) (.slice (some ⟨b, o, none⟩) n c)
  | rowsN (sz : Nat) : Rl h ρ Z (.rows sz []) (.slice none 0 0)
  | rowsE (sz : Nat) (a : Addr) (c : Nat) : Rl h ρ Z (.rows sz []) (.slice (some a) 0 c)
  | nilS : Rl h ρ Z .nilS (.slice none 0 0)
  | own (id sz lo hi b o0 o n c m : Nat) (hρ : ρ id = some (b, o0)) (hlo : lo ≤ hi) (hn : n = hi - lo) (hnc : n ≤ c) (ho : c = 0 ∨ o = o0 + lo * sz)
      (hm : hsize h b = some m) (hcap : o0 + (lo + c) * sz ≤ m) : Rl h ρ Z (.own id sz lo hi) (.slice (some ⟨b, o, none⟩) n c)
  | ptr (id sz i j b o0 : Nat) (hρ : ρ id = some (b, o0)) : Rl h ρ Z (.ptr id sz i j) (.pointer (some ⟨b, o0 + (i * sz + j), none⟩))
  | fp (cs : List AV) (b o : Nat) (f : Nat → Value) (hz : 0 < cs.length → Z b)
      (hc : ∀ (i : Nat) v, cs[i]? = some v → v.isCell = true)
      (hm : ∀ (i : Nat) v, cs[i]? = some v → hcell h b (o + i) = some (f i))
      (hr : ∀ (i : Nat) v, cs[i]? = some v → Rl h ρ Z v (f i)) : Rl h ρ Z (.fp cs) (.pointer (some ⟨b, o, none⟩))
  | nilP : Rl h ρ Z .nilP (.pointer none)
  | clo (f : Nat) (fs : List AV) (us : List Value) (cs : List AV) (vs : List Value) (hf : fs.length = us.length) (hl : cs.length = vs.length)
      (hq : ∀ (i : Nat) v x, fs[i]? = some v → us[i]? = some x → Rl h ρ Z v x)
      (hr : ∀ (i : Nat) v x, cs[i]? = some v → vs[i]? = some x → Rl h ρ Z v x) : Rl h ρ Z (.clo f fs cs) (.func (.func f) us.toArray vs.toArray)
  | nilI : Rl h ρ Z .nilI .nilIface
  | nilF : Rl h ρ Z .nilF .nilFunc

theorem Rl.mono {h h' : Array Obj} {ρ ρ' : Loc} {Z Z' : Nat → Prop} {v : AV} {x : Value} (H : Rl h ρ Z v x)
    (hρ : ∀ id p, ρ id = some p → ρ' id = some p) (hZ : ∀ b, Z b → Z' b)
    (hc : ∀ b o u, Z b → hcell h b o = some u → hcell h' b o = some u) (ht : ∀ b t, hty h b = some t → hty h' b = some t) : Rl h' ρ' Z' v x := by
  have hs := hsize_hty ht
  induction H with
  | int k n => exact .int k n
  | bool b => exact .bool b
  | str l s e => exact .str l s e
  | agg cs vs hl hcc hr ih => exact .agg cs vs hl hcc ih
  | tup cs vs hl hr ih => exact .tup cs vs hl ih
  | rows sz l b o n c f hn hnc hz hw hcc hm hr ih =>
    refine .rows sz l b o n c f hn hnc (fun q => hZ _ (hz q)) hw hcc (fun i r j v h1 h2 => hc _ _ _ (hz ?_) (hm i r j v h1 h2)) ih
    have := (List.getElem?_eq_some_iff.1 h1).1
    omega
  | rowsN sz => exact .rowsN sz
  | rowsE sz a c => exact .rowsE sz a c
  | nilS => exact .nilS
  | own id sz lo hi b o0 o n c m hq hlo hn hnc ho hm hcap => exact .own id sz lo hi b o0 o n c m (hρ _ _ hq) hlo hn hnc ho (hs _ _ hm) hcap
  | ptr id sz i j b o0 hq => exact .ptr id sz i j b o0 (hρ _ _ hq)
  | fp cs b o f hz hcc hm hr ih =>
    refine .fp cs b o f (fun q => hZ _ (hz q)) hcc (fun i v h1 => hc _ _ _ (hz ?_) (hm i v h1)) ih
    have := (List.getElem?_eq_some_iff.1 h1).1
    omega
  | nilP => exact .nilP
  | clo f fs us cs vs hf hl hq hr ihq ih => exact .clo f fs us cs vs hf hl ihq ih
  | nilI => exact .nilI
  | nilF => exact .nilF

/-- A block that is owned: what its cells hold. -/
def BlkR (h : Array Obj) (ρ : Loc) (Z : Nat → Prop) (b o0 : Nat) : Blk → Prop
  | .rows sz l => ∃ cs e, h[b]? = some (.cells cs e (0, 0)) ∧ o0 + l.length * sz ≤ cs.size ∧
      (∀ (i : Nat) r, l[i]? = some r → r.length = sz) ∧
      ∀ (i : Nat) r (j : Nat) v, l[i]? = some r → r[j]? = some v → v.isCell = true ∧ ∃ x, cs[o0 + (i * sz + j)]? = some x ∧ Rl h ρ Z v x

def Own (ρ : Loc) (H : AH) (b : Nat) : Prop := ∃ id blk o0, hget H id = some blk ∧ ρ id = some (b, o0)

structure Good (h : Array Obj) (ρ : Loc) (Z : Nat → Prop) (H : AH) : Prop where
  blk : ∀ id blk, hget H id = some blk → ∃ b o0, ρ id = some (b, o0) ∧ BlkR h ρ Z b o0 blk
  inj : ∀ i j a b p q o o', hget H i = some a → hget H j = some b → ρ i = some (p, o) → ρ j = some (q, o') → i ≠ j → p ≠ q
  notZ : ∀ b, Own ρ H b → ¬ Z b
  zlt : ∀ b, Z b → b < h.size
  ids : ∃ N, ∀ id, N ≤ id → ρ id = none
  ty : ∀ id b o, ρ id = some (b, o) → o = 0 ∧ ∃ m, hty h b = some (m, tag id)

/-- What a run from (w, ρ, Z), that owns what H tells, may do. -/
structure Ext (w : World) (ρ : Loc) (Z : Nat → Prop) (O : Nat → Prop) (w' : World) (ρ' : Loc) (Z' : Nat → Prop) (O' : Nat → Prop) : Prop where
  size : w.heap.size ≤ w'.heap.size
  keep : ∀ b, b < w.heap.size → ¬ O b → w'.heap[b]? = w.heap[b]?
  shape : ∀ b t, hty w.heap b = some t → hty w'.heap b = some t
  zmono : ∀ b, Z b → Z' b
  znew : ∀ b, Z' b → Z b ∨ O b ∨ w.heap.size ≤ b
  loc : ∀ id p, ρ id = some p → ρ' id = some p
  own : ∀ b, O' b → O b ∨ w.heap.size ≤ b
  os : w'.os = w.os
  out : w'.output = w.output
  tape : w'.tape = w.tape

theorem Ext.refl (w : World) (ρ : Loc) (Z O : Nat → Prop) : Ext w ρ Z O w ρ Z O :=
  ⟨Nat.le_refl _, fun _ _ _ => rfl, fun _ _ h => h, fun _ h => h, fun _ h => .inl h, fun _ _ h => h, fun _ h => .inl h, rfl, rfl, rfl⟩

theorem Ext.trans {w w1 w2 : World} {ρ ρ1 ρ2 : Loc} {Z Z1 Z2 O O1 O2 : Nat → Prop} (a : Ext w ρ Z O w1 ρ1 Z1 O1) (b : Ext w1 ρ1 Z1 O1 w2 ρ2 Z2 O2) :
    Ext w ρ Z O w2 ρ2 Z2 O2 where
  size := Nat.le_trans a.size b.size
  keep := fun k hk hO => by
    rw [b.keep k (Nat.lt_of_lt_of_le hk a.size) (fun h => (a.own k h).elim hO (fun h' => absurd hk (Nat.not_lt.2 h'))), a.keep k hk hO]
  shape := fun k m h => b.shape k m (a.shape k m h)
  zmono := fun k h => b.zmono k (a.zmono k h)
  znew := fun k h => by
    rcases b.znew k h with h | h | h
    · exact a.znew k h
    · rcases a.own k h with h | h
      · exact .inr (.inl h)
      · exact .inr (.inr h)
    · exact .inr (.inr (Nat.le_trans a.size h))
  loc := fun i p h => b.loc i p (a.loc i p h)
  own := fun k h => by
    rcases b.own k h with h | h
    · exact a.own k h
    · exact .inr (Nat.le_trans a.size h)
  os := b.os.trans a.os
  out := b.out.trans a.out
  tape := b.tape.trans a.tape

/-- What was said of a value still holds. -/
theorem Rl.ext {w w' : World} {ρ ρ' : Loc} {Z Z' O O' : Nat → Prop} {v : AV} {x : Value} (H : Rl w.heap ρ Z v x) (e : Ext w ρ Z O w' ρ' Z' O')
    (hO : ∀ b, O b → ¬ Z b) (hZ : ∀ b, Z b → b < w.heap.size) : Rl w'.heap ρ' Z' v x := by
  refine H.mono e.loc e.zmono (fun b o u hb h => ?_) e.shape
  unfold hcell at *
  rw [e.keep b (hZ b hb) (fun h' => hO b h' hb)]
  exact h

def RlL (h : Array Obj) (ρ : Loc) (Z : Nat → Prop) (vs : List AV) (xs : List Value) : Prop :=
  vs.length = xs.length ∧ ∀ (i : Nat) v x, vs[i]? = some v → xs[i]? = some x → Rl h ρ Z v x

def callable (P : Program) (f : Nat) : Bool :=
  match P.funcs[f]? with
  | some fn => fn.body.isSome && !(fn.name == "runtime.NumGoroutine")
  | none => false

/-- The contract of a function: called with these abstract values in any world in which they say something, it returns what K lets. -/
def ACalls (P : Program) (f : Nat) (args : List AV) (H : AH) (K : AV → AH → Prop) : Prop :=
  callable P f = true ∧ ∀ (w : World) (ρ : Loc) (Z : Nat → Prop) (xs : List Value), Good w.heap ρ Z H → RlL w.heap ρ Z args xs →
    Calls P f xs.toArray w fun e w' => ∃ x r H' ρ' Z', e = .returned x ∧ Good w'.heap ρ' Z' H' ∧ Rl w'.heap ρ' Z' r x ∧
      Ext w ρ Z (Own ρ H) w' ρ' Z' (Own ρ' H') ∧ K r H'

theorem ACalls.mono {P : Program} {f : Nat} {args : List AV} {H : AH} {K K' : AV → AH → Prop} (h : ACalls P f args H K) (hk : ∀ r H', K r H' → K' r H') : ACalls P f args H K' :=
  ⟨h.1, fun w ρ Z xs hg hr => (h.2 w ρ Z xs hg hr).mono fun e w' ⟨x, r, H', ρ', Z', a, b, c, d, k⟩ => ⟨x, r, H', ρ', Z', a, b, c, d, hk _ _ k⟩⟩

/-! ### What was owned becomes what nobody writes -/
inductive Fz (H Hc : AH) : AV → AV → Prop
  | refl (v : AV) : Fz H Hc v v
  | own (id sz lo hi : Nat) (l l' : List (List AV)) (hg : hget H id = some (.rows sz l)) (hd : hget Hc id = none) (hi' : hi ≤ l.length) (hlo : lo ≤ hi)
      (hl : l'.length = hi - lo) (hw : ∀ (i : Nat) r', l'[i]? = some r' → r'.length = sz)
      (hr : ∀ (i : Nat) r r' (j : Nat) v v', l[lo + i]? = some r → l'[i]? = some r' → r[j]? = some v → r'[j]? = some v' → Fz H Hc v v') : Fz H Hc (.own id sz lo hi) (.rows sz l')
  | agg (cs cs' : List AV) (hl : cs.length = cs'.length) (hr : ∀ (i : Nat) v v', cs[i]? = some v → cs'[i]? = some v' → Fz H Hc v v') : Fz H Hc (.agg cs) (.agg cs')
  | tup (cs cs' : List AV) (hl : cs.length = cs'.length) (hr : ∀ (i : Nat) v v', cs[i]? = some v → cs'[i]? = some v' → Fz H Hc v v') : Fz H Hc (.tup cs) (.tup cs')
  | ptr (id sz i j : Nat) (l : List (List AV)) (r cs : List AV) (hg : hget H id = some (.rows sz l)) (hd : hget Hc id = none) (hi : l[i]? = some r) (hl : cs.length = (r.drop j).length)
      (hr : ∀ (k : Nat) v v', (r.drop j)[k]? = some v → cs[k]? = some v' → Fz H Hc v v') : Fz H Hc (.ptr id sz i j) (.fp cs)
  | nil (sz : Nat) : Fz H Hc .nilS (.rows sz [])
  | rows (sz : Nat) (l l' : List (List AV)) (hl : l.length = l'.length) (hw : ∀ (i : Nat) r r', l[i]? = some r → l'[i]? = some r' → r.length = r'.length)
      (hr : ∀ (i : Nat) r r' (j : Nat) v v', l[i]? = some r → l'[i]? = some r' → r[j]? = some v → r'[j]? = some v' → Fz H Hc v v') : Fz H Hc (.rows sz l) (.rows sz l')
  | fp (cs cs' : List AV) (hl : cs.length = cs'.length) (hr : ∀ (i : Nat) v v', cs[i]? = some v → cs'[i]? = some v' → Fz H Hc v v') : Fz H Hc (.fp cs) (.fp cs')
theorem get_same {α β : Type} {l : List α} {l' : List β} (hl : l.length = l'.length) {i : Nat} {b : β} (h : l'[i]? = some b) : ∃ a, l[i]? = some a :=
  ⟨_, List.getElem?_eq_getElem (by rw [hl]; exact (List.getElem?_eq_some_iff.1 h).1)⟩

theorem Fz.isCell {H Hc : AH} {v v' : AV} (h : Fz H Hc v v') : v'.isCell = v.isCell := by
  cases h <;> rfl

def Sub (Hc H : AH) : Prop := ∀ id blk, hget Hc id = some blk → hget H id = some blk

def FzL (H Hc : AH) (vs vs' : List AV) : Prop := vs.length = vs'.length ∧ ∀ (i : Nat) v v', vs[i]? = some v → vs'[i]? = some v' → Fz H Hc v v'

/-- Blocks that H owns and Hc does not own. -/
def Drop (ρ : Loc) (H Hc : AH) (b : Nat) : Prop := ∃ id blk o0, hget H id = some blk ∧ hget Hc id = none ∧ ρ id = some (b, o0)

theorem Fz.sound {h : Array Obj} {ρ : Loc} {Z : Nat → Prop} {H Hc : AH} (hg : Good h ρ Z H) {v v' : AV} (hf : Fz H Hc v v') :
    ∀ x, Rl h ρ Z v x → Rl h ρ (fun b => Z b ∨ Drop ρ H Hc b) v' x := by
  have up : ∀ v x, Rl h ρ Z v x → Rl h ρ (fun b => Z b ∨ Drop ρ H Hc b) v x := fun v x q =>
    q.mono (fun _ _ e => e) (fun _ e => .inl e) (fun _ _ _ _ e => e) (fun _ _ e => e)
  induction hf with
  | refl v => exact fun x q => up v x q
  | own id sz lo hi l l' hgt hd hi' hlo hl hw hr ih =>
    intro x q
    cases q with
    | own _ _ _ _ b o0 o n c m hρ hlo hn hnc ho hm hcap =>
      obtain ⟨b', o0', hρ', hb⟩ := hg.blk id _ hgt
      rw [hρ] at hρ'
      obtain ⟨rfl, rfl⟩ : b = b' ∧ o0 = o0' := by simpa using hρ'
      obtain ⟨cs, e, hcs, hsz, hws, hv⟩ := hb
      have key : ∀ (i : Nat) r' (j : Nat) v', l'[i]? = some r' → r'[j]? = some v' → v'.isCell = true ∧ ∃ y, cs[o0 + ((lo + i) * sz + j)]? = some y ∧ Rl h ρ (fun b => Z b ∨ Drop ρ H Hc b) v' y := by
        intro i r' j v' h1 h2
        have hi1 : i < l'.length := (List.getElem?_eq_some_iff.1 h1).1
        have hj1 : j < r'.length := (List.getElem?_eq_some_iff.1 h2).1
        have hli : lo + i < l.length := by omega
        have hl1 : l[lo + i]? = some l[lo + i] := List.getElem?_eq_getElem hli
        have hwj : l[lo + i].length = sz := hws _ _ hl1
        have hjj : j < l[lo + i].length := by rw [hwj, ← hw i r' h1]; exact hj1
        have hv1 : (l[lo + i])[j]? = some (l[lo + i])[j] := List.getElem?_eq_getElem hjj
        obtain ⟨hcell, y, hy, hry⟩ := hv _ _ _ _ hl1 hv1
        have hfz := hr i _ r' j _ v' hl1 h1 hv1 h2
        exact ⟨by rw [hfz.isCell]; exact hcell, y, hy, ih i _ r' j _ v' hl1 h1 hv1 h2 y hry⟩
      have hpos : 0 < n → o = o0 + lo * sz := fun hp => by
        rcases ho with h0 | h0
        · omega
        · exact h0
      refine .rows sz l' b o n c (fun k => (cs[o0 + (lo * sz + k)]?).getD undef) (by omega) hnc (fun _ => .inr ⟨id, _, o0, hgt, hd, hρ⟩) hw (fun i r j v h1 h2 => (key i r j v h1 h2).1) ?_ ?_
      · intro i r' j v' h1 h2
        obtain ⟨_, y, hy, _⟩ := key i r' j v' h1 h2
        have hi1 : i < l'.length := (List.getElem?_eq_some_iff.1 h1).1
        have e1 : o0 + ((lo + i) * sz + j) = o0 + (lo * sz + (i * sz + j)) := by rw [Nat.add_mul]; omega
        rw [e1] at hy
        rw [hpos (by omega)]
        unfold hcell
        rw [hcs]
        simp only [show o0 + lo * sz + (i * sz + j) = o0 + (lo * sz + (i * sz + j)) from by omega, hy, Option.getD_some]
      · intro i r' j v' h1 h2
        obtain ⟨_, y, hy, hry⟩ := key i r' j v' h1 h2
        have e1 : o0 + ((lo + i) * sz + j) = o0 + (lo * sz + (i * sz + j)) := by rw [Nat.add_mul]; omega
        rw [e1] at hy
        simp only [hy, Option.getD_some]
        exact hry
  | agg cs cs' hl hr ih =>
    intro x q
    cases q with
    | agg _ vs hl' hc hr' =>
      refine .agg cs' vs (by omega) (fun i v' h1 => ?_) (fun i v' y h1 h2 => ?_)
      · have hi1 : i < cs.length := by have := (List.getElem?_eq_some_iff.1 h1).1; omega
        have h0 : cs[i]? = some cs[i] := List.getElem?_eq_getElem hi1
        rw [(hr i _ _ h0 h1).isCell]; exact hc i _ h0
      · have hi1 : i < cs.length := by have := (List.getElem?_eq_some_iff.1 h1).1; omega
        have h0 : cs[i]? = some cs[i] := List.getElem?_eq_getElem hi1
        exact ih i _ _ h0 h1 y (hr' i _ _ h0 h2)
  | tup cs cs' hl hr ih =>
    intro x q
    cases q with
    | tup _ vs hl' hr' =>
      refine .tup cs' vs (by omega) (fun i v' y h1 h2 => ?_)
      have hi1 : i < cs.length := by have := (List.getElem?_eq_some_iff.1 h1).1; omega
      have h0 : cs[i]? = some cs[i] := List.getElem?_eq_getElem hi1
      exact ih i _ _ h0 h1 y (hr' i _ _ h0 h2)
  | ptr id sz i j l r cs hgt hd hi hl hr ih =>
    intro x q
    cases q with
    | ptr _ _ _ _ b o0 hρ =>
      obtain ⟨b', o0', hρ', hb⟩ := hg.blk id _ hgt
      rw [hρ] at hρ'
      obtain ⟨rfl, rfl⟩ : b = b' ∧ o0 = o0' := by simpa using hρ'
      obtain ⟨ds, e, hcs, hsz, hws, hv⟩ := hb
      have key : ∀ (k : Nat) v', cs[k]? = some v' → v'.isCell = true ∧ ∃ y, ds[o0 + (i * sz + (j + k))]? = some y ∧ Rl h ρ (fun b => Z b ∨ Drop ρ H Hc b) v' y := by
        intro k v' h1
        have hk : k < (r.drop j).length := by have := (List.getElem?_eq_some_iff.1 h1).1; omega
        have h0 : (r.drop j)[k]? = some (r.drop j)[k] := List.getElem?_eq_getElem hk
        have h00 : r[j + k]? = some (r.drop j)[k] := by rw [← h0, List.getElem?_drop]
        obtain ⟨hcell, y, hy, hry⟩ := hv _ _ _ _ hi h00
        exact ⟨by rw [(hr k _ v' h0 h1).isCell]; exact hcell, y, hy, ih k _ v' h0 h1 y hry⟩
      refine .fp cs b _ (fun k => (ds[o0 + (i * sz + (j + k))]?).getD undef) (fun _ => .inr ⟨id, _, o0, hgt, hd, hρ⟩) (fun k v h1 => (key k v h1).1) ?_ ?_
      · intro k v' h1
        obtain ⟨_, y, hy, _⟩ := key k v' h1
        unfold hcell
        rw [hcs]
        simp only [show o0 + (i * sz + j) + k = o0 + (i * sz + (j + k)) from by omega, hy, Option.getD_some]
      · intro k v' h1
        obtain ⟨_, y, hy, hry⟩ := key k v' h1
        simp only [hy, Option.getD_some]
        exact hry
  | nil sz => intro x q; cases q; exact .rowsN sz
  | rows sz l l' hl hw hp ih =>
    intro x hr
    cases hr with
    | rows _ _ b o n c f hn hnc hz hw2 hcc hm hr' =>
      refine .rows sz l' b o n c f (by omega) hnc (fun q => .inl (hz q)) (fun i r q => ?_) (fun i r j v q1 q2 => ?_) (fun i r j v q1 q2 => ?_) (fun i r j v q1 q2 => ?_)
      · obtain ⟨a, ha⟩ := get_same hl q
        rw [← hw i a r ha q]; exact hw2 i a ha
      · obtain ⟨a, ha⟩ := get_same hl q1
        obtain ⟨u, hu⟩ := get_same (hw i a r ha q1) q2
        rw [(hp i a r j u v ha q1 hu q2).isCell]; exact hcc i a j u ha hu
      · obtain ⟨a, ha⟩ := get_same hl q1
        obtain ⟨u, hu⟩ := get_same (hw i a r ha q1) q2
        exact hm i a j u ha hu
      · obtain ⟨a, ha⟩ := get_same hl q1
        obtain ⟨u, hu⟩ := get_same (hw i a r ha q1) q2
        exact ih i a r j u v ha q1 hu q2 _ (hr' i a j u ha hu)
    | rowsN _ =>
      have : l' = [] := List.eq_nil_of_length_eq_zero hl.symm
      subst this; exact .rowsN sz
    | rowsE _ a c =>
      have : l' = [] := List.eq_nil_of_length_eq_zero hl.symm
      subst this; exact .rowsE sz a c
  | fp cs cs' hl hp ih =>
    intro x hr
    cases hr with
    | fp _ b o f hz hcc hm hr =>
      refine .fp cs' b o f (fun q => .inl (hz (by omega))) (fun i v q => ?_) (fun i v q => ?_) (fun i v q => ?_)
      · obtain ⟨a, ha⟩ := get_same hl q
        rw [(hp i a v ha q).isCell]; exact hcc i a ha
      · obtain ⟨a, ha⟩ := get_same hl q
        exact hm i a ha
      · obtain ⟨a, ha⟩ := get_same hl q
        exact ih i a v ha q _ (hr i a ha)

theorem Own.of_sub {ρ : Loc} {H Hc : AH} (hs : Sub Hc H) {b : Nat} (h : Own ρ Hc b) : Own ρ H b :=
  let ⟨id, blk, o, h1, h2⟩ := h; ⟨id, blk, o, hs _ _ h1, h2⟩

theorem Drop.own {ρ : Loc} {H Hc : AH} {b : Nat} (h : Drop ρ H Hc b) : Own ρ H b :=
  let ⟨id, blk, o, h1, _, h2⟩ := h; ⟨id, blk, o, h1, h2⟩

theorem BlkR.mono {h h' : Array Obj} {ρ ρ' : Loc} {Z Z' : Nat → Prop} {b o0 : Nat} {blk : Blk} (q : BlkR h ρ Z b o0 blk) (hb : h'[b]? = h[b]?)
    (hr : ∀ v x, Rl h ρ Z v x → Rl h' ρ' Z' v x) : BlkR h' ρ' Z' b o0 blk := by
  cases blk with
  | rows sz l =>
    obtain ⟨cs, e, h1, h2, h3, h4⟩ := q
    exact ⟨cs, e, by rw [hb]; exact h1, h2, h3, fun i r j v a b => let ⟨c, x, d, f⟩ := h4 i r j v a b; ⟨c, x, d, hr _ _ f⟩⟩

theorem BlkR.lt {h : Array Obj} {ρ : Loc} {Z : Nat → Prop} {b o0 : Nat} {blk : Blk} (q : BlkR h ρ Z b o0 blk) : b < h.size := by
  cases blk with
  | rows sz l =>
    obtain ⟨cs, e, h1, _⟩ := q
    exact (Array.getElem?_eq_some_iff.1 h1).1

theorem Good.own_lt {h : Array Obj} {ρ : Loc} {Z : Nat → Prop} {H : AH} (g : Good h ρ Z H) {b : Nat} (ho : Own ρ H b) : b < h.size := by
  obtain ⟨id, blk, o0, h1, h2⟩ := ho
  obtain ⟨b', o', h3, h4⟩ := g.blk id blk h1
  rw [h2] at h3
  obtain ⟨rfl, rfl⟩ : b = b' ∧ o0 = o' := by simpa using h3
  exact h4.lt

/-- Some of what is owned is owned no more, and nobody writes it any more. -/
theorem Good.freeze {h : Array Obj} {ρ : Loc} {Z : Nat → Prop} {H Hc : AH} (g : Good h ρ Z H) (hs : Sub Hc H) : Good h ρ (fun b => Z b ∨ Drop ρ H Hc b) Hc where
  blk := fun id blk h1 => by
    obtain ⟨b, o, h2, h3⟩ := g.blk id blk (hs _ _ h1)
    exact ⟨b, o, h2, h3.mono rfl fun v x q => q.mono (fun _ _ e => e) (fun _ e => .inl e) (fun _ _ _ _ e => e) (fun _ _ e => e)⟩
  inj := fun i j a b p q o o' h1 h2 => g.inj i j a b p q o o' (hs _ _ h1) (hs _ _ h2)
  notZ := fun b h1 h2 => by
    rcases h2 with h2 | ⟨id, blk, o, h3, h4, h5⟩
    · exact g.notZ b (h1.of_sub hs) h2
    · obtain ⟨id', blk', o', h6, h7⟩ := h1
      by_cases e : id = id'
      · subst e; rw [h4] at h6; cases h6
      · exact g.inj id id' _ _ _ _ _ _ h3 (hs _ _ h6) h5 h7 e rfl
  zlt := fun b h1 => by
    rcases h1 with h1 | h1
    · exact g.zlt b h1
    · exact g.own_lt h1.own
  ids := g.ids
  ty := g.ty

/-- .. and is simply forgotten. -/
theorem Good.forget {h : Array Obj} {ρ : Loc} {Z : Nat → Prop} {H Hc : AH} (g : Good h ρ Z H) (hs : Sub Hc H) : Good h ρ Z Hc where
  blk := fun id blk h1 => g.blk id blk (hs _ _ h1)
  inj := fun i j a b p q o o' h1 h2 => g.inj i j a b p q o o' (hs _ _ h1) (hs _ _ h2)
  notZ := fun b h1 => g.notZ b (h1.of_sub hs)
  zlt := g.zlt
  ids := g.ids
  ty := g.ty

theorem RlL.freeze {h : Array Obj} {ρ : Loc} {Z : Nat → Prop} {H Hc : AH} (g : Good h ρ Z H) {vs vs' : List AV} {xs : List Value} (hf : FzL H Hc vs vs') (hr : RlL h ρ Z vs xs) :
    RlL h ρ (fun b => Z b ∨ Drop ρ H Hc b) vs' xs := by
  refine ⟨by rw [← hf.1]; exact hr.1, fun i v' x h1 h2 => ?_⟩
  have hi : i < vs.length := by have := (List.getElem?_eq_some_iff.1 h1).1; rw [hf.1]; exact this
  have h0 : vs[i]? = some vs[i] := List.getElem?_eq_getElem hi
  exact (hf.2 i _ _ h0 h1).sound g x (hr.2 i _ _ h0 h2)

/-- A function's contract, its result and what it owns weakened. -/
theorem ACalls.freeze {P : Program} {f : Nat} {args : List AV} {H : AH} {K K' : AV → AH → Prop} (h : ACalls P f args H K)
    (hk : ∀ r H', K r H' → ∃ r' Hc, Sub Hc H' ∧ Fz H' Hc r r' ∧ K' r' Hc) : ACalls P f args H K' := by
  refine ⟨h.1, fun w ρ Z xs hg hr => (h.2 w ρ Z xs hg hr).mono fun e w' ⟨x, r, H', ρ', Z', a, g, c, d, k⟩ => ?_⟩
  obtain ⟨r', Hc, hs, hf, hk'⟩ := hk r H' k
  refine ⟨x, r', Hc, ρ', _, a, g.freeze hs, hf.sound g x c, ?_, hk'⟩
  refine { d with zmono := fun b q => .inl (d.zmono b q), znew := fun b q => ?_, own := fun b q => d.own b (q.of_sub hs) }
  rcases q with q | q
  · exact d.znew b q
  · rcases d.own b q.own with q | q
    · exact .inr (.inl q)
    · exact .inr (.inr q)

end Go.Proofs.Ytlmplofpclaokaa
