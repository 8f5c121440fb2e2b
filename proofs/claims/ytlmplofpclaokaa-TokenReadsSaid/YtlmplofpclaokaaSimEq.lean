/- '==' of structs and arrays, cell by cell. -/
import Derived.Test.YtlmplofpclaokaaSimOps6
import Derived.ChangeKeysEq
namespace Go.Proofs.Ytlmplofpclaokaa
set_option autoImplicit false
set_option linter.unusedSimpArgs false
set_option linter.unusedVariables false

section
variable {P : Program} {w : World} {h : Array Obj} {ρ : Loc} {Z : Nat → Prop} {H : AH} {s : Fr} {a : Act} {rs : Rs}

theorem eqCells_len : ∀ (l : List SK) (cs ds : List AV) (b : Bool), eqCells l cs ds = some b → cs.length = l.length ∧ ds.length = l.length
  | [], [], [], _, _ => ⟨rfl, rfl⟩
  | .i k :: l, .int k1 x :: cs, .int k2 y :: ds, b, hh => by
    simp only [eqCells] at hh
    split at hh
    · simp only [Option.map_eq_some_iff] at hh
      obtain ⟨r, h1, _⟩ := hh
      have := eqCells_len l cs ds r h1
      simp [this.1, this.2]
    · cases hh
  | .b :: l, .bool x :: cs, .bool y :: ds, b, hh => by
    simp only [eqCells, Option.map_eq_some_iff] at hh
    obtain ⟨r, h1, _⟩ := hh
    have := eqCells_len l cs ds r h1
    simp [this.1, this.2]
  | .s :: l, .str x :: cs, .str y :: ds, b, hh => by
    simp only [eqCells, Option.map_eq_some_iff] at hh
    obtain ⟨r, h1, _⟩ := hh
    have := eqCells_len l cs ds r h1
    simp [this.1, this.2]

/-- One cell. -/
theorem eqCells_cons {k : SK} {l : List SK} {cs ds : List AV} {b : Bool} (hh : eqCells (k :: l) cs ds = some b) :
    ∃ x y cs' ds' b1 b2, cs = x :: cs' ∧ ds = y :: ds' ∧ eqCells [k] [x] [y] = some b1 ∧ eqCells l cs' ds' = some b2 ∧ b = (b1 && b2) := by
  unfold eqCells at hh
  split at hh
  · exact absurd (by assumption : k :: l = []) (by simp)
  · rename_i k' sh k1 x xs k2 y ys heq
    simp only [List.cons.injEq] at heq
    obtain ⟨rfl, rfl⟩ := heq
    split at hh
    · rename_i hk
      simp only [Option.map_eq_some_iff] at hh
      obtain ⟨r, h1, h2⟩ := hh
      exact ⟨_, _, _, _, decide (x = y), r, rfl, rfl, by simp [eqCells, hk], h1, h2.symm⟩
    · cases hh
  · rename_i sh x xs y ys heq
    simp only [List.cons.injEq] at heq
    obtain ⟨rfl, rfl⟩ := heq
    simp only [Option.map_eq_some_iff] at hh
    obtain ⟨r, h1, h2⟩ := hh
    exact ⟨_, _, _, _, decide (x = y), r, rfl, rfl, by simp [eqCells], h1, h2.symm⟩
  · rename_i sh x xs y ys heq
    simp only [List.cons.injEq] at heq
    obtain ⟨rfl, rfl⟩ := heq
    simp only [Option.map_eq_some_iff] at hh
    obtain ⟨r, h1, h2⟩ := hh
    exact ⟨_, _, _, _, decide (x = y), r, rfl, rfl, by simp [eqCells], h1, h2.symm⟩
  · cases hh

theorem eqCells_put {k : SK} {l : List SK} {x y : AV} {cs ds : List AV} {b1 b2 : Bool} (h1 : eqCells [k] [x] [y] = some b1) (h2 : eqCells l cs ds = some b2) : eqCells (k :: l) (x :: cs) (y :: ds) = some (b1 && b2) := by
  unfold eqCells at h1
  split at h1
  · exact absurd (by assumption : [k] = []) (by simp)
  · rename_i k' sh k1 x xs k2 y ys heq hx hy
    simp only [List.cons.injEq] at heq hx hy
    obtain ⟨rfl, rfl⟩ := heq
    obtain ⟨rfl, rfl⟩ := hx
    obtain ⟨rfl, rfl⟩ := hy
    split at h1
    · rename_i hk
      simp only [eqCells, Option.map_some, Option.some.injEq, Bool.and_true] at h1
      simp [eqCells, hk, h2, h1]
    · cases h1
  · rename_i sh x xs y ys heq hx hy
    simp only [List.cons.injEq] at heq hx hy
    obtain ⟨rfl, rfl⟩ := heq
    obtain ⟨rfl, rfl⟩ := hx
    obtain ⟨rfl, rfl⟩ := hy
    simp only [eqCells, Option.map_some, Option.some.injEq, Bool.and_true] at h1
    simp [eqCells, h2, h1]
  · rename_i sh x xs y ys heq hx hy
    simp only [List.cons.injEq] at heq hx hy
    obtain ⟨rfl, rfl⟩ := heq
    obtain ⟨rfl, rfl⟩ := hx
    obtain ⟨rfl, rfl⟩ := hy
    simp only [eqCells, Option.map_some, Option.some.injEq, Bool.and_true] at h1
    simp [eqCells, h2, h1]
  · cases h1

theorem eqCells_append : ∀ (l r : List SK) (cs ds : List AV) (b : Bool), eqCells (l ++ r) cs ds = some b →
    ∃ b1 b2, eqCells l (cs.take l.length) (ds.take l.length) = some b1 ∧ eqCells r (cs.drop l.length) (ds.drop l.length) = some b2 ∧ b = (b1 && b2)
  | [], r, cs, ds, b, hh => ⟨true, b, by simp [eqCells], by simpa using hh, by simp⟩
  | k :: l, r, cs, ds, b, hh => by
    obtain ⟨x, y, cs', ds', b1, b2, rfl, rfl, h1, h2, h3⟩ := eqCells_cons hh
    obtain ⟨c1, c2, h4, h5, h6⟩ := eqCells_append l r cs' ds' b2 h2
    exact ⟨b1 && c1, c2, by simpa using eqCells_put h1 h4, by simpa using h5, by rw [h3, h6, Bool.and_assoc]⟩

/-- A value of a type, by its cells. -/
def VT (P : Program) (t : TypeId) (X : List Value) (x : Value) : Prop :=
  ∃ d i, P.underlying t = some d ∧ P.info? t = some i ∧ if isAggD d = true then X.length = i.size ∧ x = .agg X.toArray else X = [x]

theorem run_part_vt {t : TypeId} {n : Option Nat} {X : List Value} {off : Nat} (hn : aggSize P t = some n) (hf : off + n.getD 1 ≤ X.length) :
    ∃ x, (part t X.toArray off).run P w = .ok x w ∧ VT P t ((X.drop off).take (n.getD 1)) x := by
  obtain ⟨d, i, hd, hi, rfl⟩ := aggSize_spec hn
  unfold part
  simp only [Sem.run_bind, run_isAgg hd, Result.andThen_ok]
  by_cases hag : isAggD d = true
  · simp only [hag, if_true, Option.getD_some] at hf ⊢
    refine ⟨.agg (X.toArray.extract off (off + i.size)), ?_, d, i, hd, hi, ?_⟩
    · simp only [Sem.run_bind, run_sizeOf hi, Result.andThen_ok, Sem.run_pure]
    · rw [if_pos hag]
      exact ⟨by simp; omega, by simp [List.extract_eq_take_drop]⟩
  · have hag' : isAggD d = false := by simpa using hag
    simp only [hag', Bool.false_eq_true, if_false, Option.getD_none] at hf ⊢
    have hx : X[off]? = some X[off] := List.getElem?_eq_getElem (by omega)
    refine ⟨X[off], by simp [hx], d, i, hd, hi, ?_⟩
    rw [if_neg hag]
    rw [List.drop_eq_getElem_cons (by omega)]
    rfl

theorem CellsR.drop {cs : List AV} {X : List Value} (q : CellsR h ρ Z cs X) (k : Nat) : CellsR h ρ Z (cs.drop k) (X.drop k) :=
  ⟨by simp [q.1], fun i c x h1 h2 => by rw [List.getElem?_drop] at h1 h2; exact q.2 _ _ _ h1 h2⟩
theorem CellsR.take {cs : List AV} {X : List Value} (q : CellsR h ρ Z cs X) (k : Nat) : CellsR h ρ Z (cs.take k) (X.take k) :=
  ⟨by simp [q.1], fun i c x h1 h2 => by
    rw [List.getElem?_take] at h1 h2
    split at h1
    · rename_i e; rw [if_pos e] at h2; exact q.2 _ _ _ h1 h2
    · cases h1⟩

/-- What is to be shown of a type. -/
def EqOk (P : Program) (h : Array Obj) (ρ : Loc) (Z : Nat → Prop) (dd : Nat) (t : TypeId) (sh : List SK) : Prop :=
  ∀ (w : World) (X Y : List Value) (x y : Value) (cs ds : List AV) (r : Bool), CellsR h ρ Z cs X → CellsR h ρ Z ds Y → eqCells sh cs ds = some r → VT P t X x → VT P t Y y →
    (Op.equalIn dd t x y).run P w = .ok r w

theorem eqFields_run {dd : Nat} {F : TypeId → Option (List SK)} (IH : ∀ t sh, F t = some sh → EqOk P h ρ Z dd t sh) :
    ∀ (fs : List Field) (pos : Nat) (sh : List SK), shapeFields P F fs pos = some sh → ∀ (w : World) (X Y : List Value) (cs ds : List AV) (r : Bool), CellsR h ρ Z cs X → CellsR h ρ Z ds Y →
      eqCells sh (cs.drop pos) (ds.drop pos) = some r → (Op.eqFields dd X.toArray Y.toArray fs).run P w = .ok r w
  | [], pos, sh, hs, w, X, Y, cs, ds, r, hX, hY, he => by
    simp only [shapeFields, Option.some.injEq] at hs
    subst hs
    have hl := eqCells_len _ _ _ _ he
    have h1 : cs.drop pos = [] := List.eq_nil_of_length_eq_zero hl.1
    have h2 : ds.drop pos = [] := List.eq_nil_of_length_eq_zero hl.2
    rw [h1, h2] at he
    simp only [eqCells, Option.some.injEq] at he
    subst he
    simp [Op.eqFields]
  | f :: fs, pos, sh, hs, w, X, Y, cs, ds, r, hX, hY, he => by
    simp only [shapeFields, Option.bind_eq_some_iff] at hs
    obtain ⟨l, hl, n, hn, hs⟩ := hs
    split at hs
    · rename_i hc
      obtain ⟨hname, hoff, hlen⟩ := hc
      simp only [Option.bind_eq_some_iff, Option.some.injEq] at hs
      obtain ⟨l2, hs2, rfl⟩ := hs
      have hlen2 := eqCells_len _ _ _ _ he
      simp only [List.length_drop, List.length_append] at hlen2
      obtain ⟨b1, b2, e1, e2, rfl⟩ := eqCells_append l l2 _ _ _ he
      have hXl := hX.1
      have hYl := hY.1
      by_cases hz : l.length = 0
      · -- a field without cells
        have hnn : n.getD 1 = 0 := by omega
        have part0 : ∀ Q : List Value, ∃ x, (part f.type Q.toArray f.offset).run P w = .ok x w ∧ VT P f.type ((Q.drop pos).take (n.getD 1)) x := by
          intro Q
          obtain ⟨d, i, hd, hi, hne⟩ := aggSize_spec hn
          by_cases hag : isAggD d = true
          · rw [if_pos hag] at hne
            subst hne
            simp only [Option.getD_some] at hnn
            refine ⟨.agg (Q.toArray.extract f.offset (f.offset + i.size)), ?_, d, i, hd, hi, ?_⟩
            · unfold part
              simp only [Sem.run_bind, run_isAgg hd, Result.andThen_ok, hag, if_true, run_sizeOf hi, Sem.run_pure]
            · rw [if_pos hag, hnn]
              simp [hnn]
          · rw [if_neg hag] at hne
            subst hne
            simp at hnn
        obtain ⟨x, p1, v1⟩ := part0 X
        obtain ⟨y, p2, v2⟩ := part0 Y
        have hr := IH f.type l hl w _ _ x y _ _ b1 ((hX.drop pos).take l.length) ((hY.drop pos).take l.length) e1 (by rw [hlen]; exact v1) (by rw [hlen]; exact v2)
        have ih := eqFields_run IH fs (pos + l.length) l2 hs2 w X Y cs ds b2 hX hY (by rw [← List.drop_drop, ← List.drop_drop]; exact e2)
        simp only [Op.eqFields, if_pos hname, Sem.run_bind, p1, p2, hr, Result.andThen_ok]
        cases b1 <;> simp [ih]
      · obtain ⟨x, p1, v1⟩ := run_part_vt (P := P) (w := w) (X := X) (off := pos) hn (by omega)
        obtain ⟨y, p2, v2⟩ := run_part_vt (P := P) (w := w) (X := Y) (off := pos) hn (by omega)
        have hr := IH f.type l hl w _ _ x y _ _ b1 ((hX.drop pos).take l.length) ((hY.drop pos).take l.length) e1 (by rw [hlen]; exact v1) (by rw [hlen]; exact v2)
        have ih := eqFields_run IH fs (pos + l.length) l2 hs2 w X Y cs ds b2 hX hY (by rw [← List.drop_drop, ← List.drop_drop]; exact e2)
        rw [← hoff] at p1 p2
        simp only [Op.eqFields, if_pos hname, Sem.run_bind, p1, p2, hr, Result.andThen_ok]
        cases b1 <;> simp [ih]
    · cases hs

theorem eqItems_run {dd : Nat} {e : TypeId} {l : List SK} {m : Option Nat} {i : TypeInfo} (IH : EqOk P h ρ Z dd e l) (hm : aggSize P e = some m) (hi : P.info? e = some i) (hl : l.length = m.getD 1) (hsz : i.size = l.length) :
    ∀ (n k : Nat) (w : World) (X Y : List Value) (cs ds : List AV) (r : Bool), CellsR h ρ Z cs X → CellsR h ρ Z ds Y → eqCells ((List.replicate n l).flatten) (cs.drop (k * l.length)) (ds.drop (k * l.length)) = some r →
      (Op.eqItems dd e (P.cellsOf e) X.toArray Y.toArray (List.range' k n)).run P w = .ok r w
  | 0, k, w, X, Y, cs, ds, r, hX, hY, he => by
    have hll := eqCells_len _ _ _ _ he
    simp only [List.replicate_zero, List.flatten_nil, List.length_nil] at hll
    have h1 := List.eq_nil_of_length_eq_zero hll.1
    have h2 := List.eq_nil_of_length_eq_zero hll.2
    rw [h1, h2] at he
    simp only [List.replicate_zero, List.flatten_nil, eqCells, Option.some.injEq] at he
    subst he
    simp [Op.eqItems]
  | n + 1, k, w, X, Y, cs, ds, r, hX, hY, he => by
    rw [List.replicate_succ, List.flatten_cons] at he
    have hll := eqCells_len _ _ _ _ he
    simp only [List.length_drop, List.length_append] at hll
    obtain ⟨b1, b2, e1, e2, rfl⟩ := eqCells_append l _ _ _ _ he
    have hXl := hX.1
    have hYl := hY.1
    have hcell : P.cellsOf e = l.length := by unfold Program.cellsOf; rw [hi]; simpa using hsz
    have part0 : ∀ Q : List Value, (Q.length = cs.length ∨ Q.length = ds.length) → ∃ x, (part e Q.toArray (k * l.length)).run P w = .ok x w ∧ VT P e ((Q.drop (k * l.length)).take (m.getD 1)) x := by
      intro Q hQ
      by_cases hz : l.length = 0
      · obtain ⟨d, i', hd, hi', hne⟩ := aggSize_spec hm
        have hnn : m.getD 1 = 0 := by omega
        by_cases hag : isAggD d = true
        · rw [if_pos hag] at hne
          subst hne
          simp only [Option.getD_some] at hnn
          refine ⟨.agg (Q.toArray.extract (k * l.length) (k * l.length + i'.size)), ?_, d, i', hd, hi', ?_⟩
          · unfold part
            simp only [Sem.run_bind, run_isAgg hd, Result.andThen_ok, hag, if_true, run_sizeOf hi', Sem.run_pure]
          · rw [if_pos hag, Option.getD_some, hnn]
            simp [hnn]
        · rw [if_neg hag] at hne
          subst hne
          simp at hnn
      · exact run_part_vt (P := P) (w := w) (X := Q) (off := k * l.length) hm (by omega)
    obtain ⟨x, p1, v1⟩ := part0 X (.inl hXl.symm)
    obtain ⟨y, p2, v2⟩ := part0 Y (.inr hYl.symm)
    have hr := IH w _ _ x y _ _ b1 ((hX.drop (k * l.length)).take l.length) ((hY.drop (k * l.length)).take l.length) e1 (by rw [hl] at *; exact v1) (by rw [hl] at *; exact v2)
    have ih := eqItems_run IH hm hi hl hsz n (k + 1) w X Y cs ds b2 hX hY (by
      rw [Nat.add_mul, Nat.one_mul, ← List.drop_drop, ← List.drop_drop]; exact e2)
    rw [List.range'_succ]
    simp only [Op.eqItems, hcell, Sem.run_bind, p1, p2, hr, Result.andThen_ok]
    rw [hcell] at ih
    cases b1 <;> simp [ih]

theorem run_eq_shape (c : Nat) : ∀ (m : Nat) (t : TypeId) (sh : List SK), shapeOf P m t = some sh → EqOk P h ρ Z (c + m) t sh
  | 0, t, sh, hs => by simp [shapeOf] at hs
  | m + 1, t, sh, hs => by
    intro w X Y x y cs ds r hX hY he hx hy
    obtain ⟨d, i, hd, hi, hx⟩ := hx
    obtain ⟨d', i', hd', hi', hy⟩ := hy
    rw [hd] at hd'
    simp only [Option.some.injEq] at hd'
    subst hd'
    have one : ∀ k : SK, sh = [k] → ∃ u v b, cs = [u] ∧ ds = [v] ∧ eqCells [k] [u] [v] = some b ∧ r = b := by
      intro k hk
      subst hk
      obtain ⟨u, v, cs', ds', b1, b2, rfl, rfl, h1, h2, h3⟩ := eqCells_cons he
      have hl := eqCells_len _ _ _ _ h2
      have := List.eq_nil_of_length_eq_zero hl.1
      have := List.eq_nil_of_length_eq_zero hl.2
      subst_vars
      simp only [eqCells, Option.some.injEq] at h2
      exact ⟨u, v, b1, rfl, rfl, h1, by rw [← h2]; simp⟩
    unfold shapeOf at hs
    rw [hd] at hs
    cases d with
    | int k =>
      simp only [Option.some.injEq] at hs
      obtain ⟨u, v, b, rfl, rfl, h1, rfl⟩ := one _ hs.symm
      rw [if_neg (by simp [isAggD])] at hx hy
      subst hx
      subst hy
      have r1 := hX.2 0 u x rfl rfl
      have r2 := hY.2 0 v y rfl rfl
      cases r1 <;> cases r2 <;> simp only [eqCells, reduceCtorEq] at h1
      split at h1
      · rename_i hk
        obtain ⟨rfl, rfl⟩ := hk
        simp only [Option.map_some, Option.some.injEq, Bool.and_true] at h1
        subst h1
        exact run_equalIn_int w _ _ _ _ _ _ hd
      · cases h1
    | bool =>
      simp only [Option.some.injEq] at hs
      obtain ⟨u, v, b, rfl, rfl, h1, rfl⟩ := one _ hs.symm
      rw [if_neg (by simp [isAggD])] at hx hy
      subst hx
      subst hy
      have r1 := hX.2 0 u x rfl rfl
      have r2 := hY.2 0 v y rfl rfl
      cases r1 <;> cases r2 <;> simp only [eqCells, reduceCtorEq] at h1
      simp only [Option.map_some, Option.some.injEq, Bool.and_true] at h1
      subst h1
      exact run_equalIn_bool w _ _ _ _ hd
    | string =>
      simp only [Option.some.injEq] at hs
      obtain ⟨u, v, b, rfl, rfl, h1, rfl⟩ := one _ hs.symm
      rw [if_neg (by simp [isAggD])] at hx hy
      subst hx
      subst hy
      have r1 := hX.2 0 u x rfl rfl
      have r2 := hY.2 0 v y rfl rfl
      cases r1 <;> cases r2 <;> simp only [eqCells, reduceCtorEq] at h1
      rename_i l s hs1 l' s' hs2
      simp only [Option.map_some, Option.some.injEq, Bool.and_true] at h1
      subst h1
      have := run_equalIn_string (P := P) w (c + m) t s s' hd
      rw [show c + (m + 1) = c + m + 1 from rfl, this, toList_eq, toList_eq, hs1, hs2]
      congr 1
      by_cases e1 : l = l' <;> simp [e1]
    | array n e =>
      simp only [Option.bind_eq_some_iff] at hs
      obtain ⟨l, hl, k, hk, hs⟩ := hs
      split at hs
      · rename_i ie hie
        split at hs
        · rename_i hc
          simp only [Option.some.injEq] at hs
          subst hs
          rw [if_pos (by simp [isAggD])] at hx hy
          rw [hx.2, hy.2, show c + (m + 1) = c + m + 1 from rfl, run_equalIn_array w (c + m) X.toArray Y.toArray hd hie, List.range_eq_range']
          exact eqItems_run (run_eq_shape c m e l hl) hk hie hc.1 hc.2 n 0 w X Y cs ds r hX hY (by simpa using he)
        · cases hs
      · cases hs
    | struct fs =>
      simp only at hs
      split at hs
      · cases hs
      · rename_i hst
        rw [if_pos (by simp [isAggD])] at hx hy
        have hf : P.fieldsOf t = fs := by simp [Program.fieldsOf, hd]
        rw [hx.2, hy.2, show c + (m + 1) = c + m + 1 from rfl, run_equalIn_struct (P := P) w (c + m) t X.toArray Y.toArray (by rw [hf]; exact hd) (by simpa using hst), hf]
        exact eqFields_run (fun t' sh' hs' => run_eq_shape c m t' sh' hs') fs.toList 0 sh hs w X Y cs ds r hX hY (by simpa using he)
    | _ => simp at hs

theorem aeq_out {o : Oper} {op : BinOp} {n : Bool} {t t' : TypeId} {x y : Operand} {d : TypeDesc} {i : TypeInfo} {sh : List SK} (hu : P.underlying t = some d) (hn : eqNeg op = some n) (hsh : shapeOf P 8 t = some sh) (hag : isAggD d = true)
    (hgd : P.eqGuardType P.depth t = false) (hi : P.info? t = some i) (hsz : i.size = sh.length) (ho : o.op = .binOp op t x y t') (g : Good w.heap ρ Z H) (hF : FR w.heap ρ Z s a) (h : evalOp s H (.aeq n sh (cx x) (cx y)) = some rs) :
    OpOut P w ρ Z H rs ((execOp a.eval o).run P w) := by
  simp only [evalOp, Option.bind_eq_some_iff] at h
  obtain ⟨u, h1, v, h2, h3⟩ := h
  have hx := ev_rl hF h1
  have hy := ev_rl hF h2
  generalize ex : a.eval x = xv at hx
  generalize ey : a.eval y = yv at hy
  cases u <;> try (simp at h3; done)
  cases v <;> try (simp at h3; done)
  simp only [Option.bind_eq_some_iff, Option.some.injEq] at h3
  obtain ⟨r, h3, h4⟩ := h3
  subst h4
  cases hx with
  | agg cs vs hl hc hr =>
    cases hy with
    | agg cs' vs' hl' hc' hr' =>
      have hlen := eqCells_len _ _ _ _ h3
      have vt : ∀ (cs : List AV) (vs : List Value), cs.length = vs.length → cs.length = sh.length → VT P t vs (.agg vs.toArray) := by
        intro cs vs h5 h6
        refine ⟨d, i, hu, hi, ?_⟩
        rw [if_pos hag]
        exact ⟨by omega, rfl⟩
      have hrun := run_eq_shape (P := P) (h := w.heap) (ρ := ρ) (Z := Z) (9992) 8 t sh hsh w vs vs' _ _ _ _ r ⟨hl, hr⟩ ⟨hl', hr'⟩ h3 (vt _ _ hl hlen.1) (vt _ _ hl' hlen.2)
      have hgrd : ∀ w : World, (eqGuard op t x y (.agg vs.toArray) (.agg vs'.toArray)).run P w = .ok () w := by
        intro w
        rcases eqNeg_spec hn with ⟨rfl, rfl⟩ | ⟨rfl, rfl⟩ <;> simp [eqGuard, hgd]
      have heq : (Op.equal t (.agg vs.toArray) (.agg vs'.toArray)).run P w = .ok r w := hrun
      refine OpOut.pure g (x := .bool (if n then !r else r)) ?_ (.bool _)
      rcases eqNeg_spec hn with ⟨rfl, rfl⟩ | ⟨rfl, rfl⟩
      · simp [execOp, ho, ex, ey, hgrd, binOp, heq]
      · simp [execOp, ho, ex, ey, hgrd, binOp, heq]

end
end Go.Proofs.Ytlmplofpclaokaa
