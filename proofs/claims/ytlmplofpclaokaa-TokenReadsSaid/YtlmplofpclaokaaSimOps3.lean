/- Each operation of the model does what the abstract operation says: arithmetic, boxes, stores, slices, calls. -/
import Derived.Test.YtlmplofpclaokaaSimOps2
namespace Go.Proofs.Ytlmplofpclaokaa
set_option autoImplicit false
set_option linter.unusedSimpArgs false
set_option linter.unusedVariables false

section
variable {P : Program} {w : World} {ρ : Loc} {Z : Nat → Prop} {H : AH} {s : Fr} {a : Act} {rs : Rs}

theorem move_out {o : Oper} {x : Operand} (ho : o.op = .move x ∨ o.op = .assign x) (g : Good w.heap ρ Z H) (hF : FR w.heap ρ Z s a) (h : evalOp s H (.mv (cx x)) = some rs) :
    OpOut P w ρ Z H rs ((execOp a.eval o).run P w) := by
  simp only [evalOp, Option.bind_eq_some_iff] at h
  obtain ⟨v, h1, h2⟩ := h
  simp only [Option.some.injEq] at h2
  subst h2
  refine OpOut.pure g ?_ (ev_rl hF h1)
  rcases ho with ho | ho <;> simp only [execOp, ho, Sem.run_pure]

theorem pick_out {o : Oper} {c x y : Operand} (ho : o.op = .pick c x y) (g : Good w.heap ρ Z H) (hF : FR w.heap ρ Z s a) (h : evalOp s H (.pick (cx c) (cx x) (cx y)) = some rs) :
    OpOut P w ρ Z H rs ((execOp a.eval o).run P w) := by
  simp only [evalOp, Option.bind_eq_some_iff] at h
  obtain ⟨v, h1, h2⟩ := h
  have hr := ev_rl hF h1
  generalize hc : a.eval c = cv at hr
  cases hr with
  | bool q =>
    cases q with
    | true =>
      simp only [if_true, Option.bind_eq_some_iff] at h2
      obtain ⟨u, h3, h4⟩ := h2
      simp only [Option.some.injEq] at h4
      subst h4
      refine OpOut.pure g ?_ (ev_rl hF h3)
      simp only [execOp, ho, hc, asBool, Sem.run_bind, Sem.run_pure, Result.andThen_ok, if_true, Sem.run_map]
    | false =>
      simp only [Bool.false_eq_true, if_false, Option.bind_eq_some_iff] at h2
      obtain ⟨u, h3, h4⟩ := h2
      simp only [Option.some.injEq] at h4
      subst h4
      refine OpOut.pure g ?_ (ev_rl hF h3)
      simp only [execOp, ho, hc, asBool, Sem.run_bind, Sem.run_pure, Result.andThen_ok, Bool.false_eq_true, if_false, Sem.run_map]
  | _ => simp at h2

theorem bits_eq {op : BinOp} {k : IntKind} {x y : Int} (h : op = .and ∨ op = .or ∨ op = .xor ∨ op = .andNot) : (Op.intBits op k x y).run P w = .ok (.int k (bitsV op k x y)) w := by
  rcases h with h | h | h | h <;> subst h <;> rfl

theorem binInt_run {op : BinOp} {k : IntKind} {x y : Int} {v : AV} {t : TypeId} (h : binV op (.int k x) (.int k y) = some v) :
    ∃ u, (binOp op t (.int k x) (.int k y)).run P w = .ok u w ∧ Rl w.heap ρ Z v u := by
  cases op <;> simp only [binV, binInt, ite_true, Option.some.injEq, reduceCtorEq] at h
  case add => subst h; exact ⟨_, by simp [binOp, Op.intArith], .int _ _⟩
  case sub => subst h; exact ⟨_, by simp [binOp, Op.intArith], .int _ _⟩
  case mul => subst h; exact ⟨_, by simp [binOp, Op.intArith], .int _ _⟩
  case quo => split at h <;> simp at h; subst h; rename_i hb; exact ⟨_, by simp [binOp, Op.intDiv, hb], .int _ _⟩
  case rem => split at h <;> simp at h; subst h; rename_i hb; exact ⟨_, by simp [binOp, Op.intDiv, hb], .int _ _⟩
  case and => subst h; exact ⟨_, by rw [show binOp .and t (.int k x) (.int k y) = Op.intBits .and k x y from by simp [binOp]]; exact bits_eq (by simp), .int _ _⟩
  case or => subst h; exact ⟨_, by rw [show binOp .or t (.int k x) (.int k y) = Op.intBits .or k x y from by simp [binOp]]; exact bits_eq (by simp), .int _ _⟩
  case xor => subst h; exact ⟨_, by rw [show binOp .xor t (.int k x) (.int k y) = Op.intBits .xor k x y from by simp [binOp]]; exact bits_eq (by simp), .int _ _⟩
  case andNot => subst h; exact ⟨_, by rw [show binOp .andNot t (.int k x) (.int k y) = Op.intBits .andNot k x y from by simp [binOp]]; exact bits_eq (by simp), .int _ _⟩
  case shl => split at h <;> simp at h; subst h; rename_i hb; exact ⟨_, by simp [binOp, Op.shift, show ¬ y < 0 by omega], .int _ _⟩
  case shr => split at h <;> simp at h; subst h; rename_i hb; exact ⟨_, by simp [binOp, Op.shift, show ¬ y < 0 by omega], .int _ _⟩
  case eql => subst h; exact ⟨_, by simp [binOp, Op.intCmp]; rfl, .bool _⟩
  case neq => subst h; exact ⟨.bool (decide (x ≠ y)), by simp [binOp, Op.intCmp, bne]; by_cases e : x = y <;> simp [e], .bool _⟩
  case lss => subst h; exact ⟨_, by simp [binOp, Op.intCmp], .bool _⟩
  case leq => subst h; exact ⟨_, by simp [binOp, Op.intCmp], .bool _⟩
  case gtr => subst h; exact ⟨_, by simp [binOp, Op.intCmp], .bool _⟩
  case geq => subst h; exact ⟨_, by simp [binOp, Op.intCmp], .bool _⟩

theorem toList_eq (b : ByteArray) : b.toList = b.data.toList := ByteArray.toList_eq b

theorem binStr_run {op : BinOp} {x y : ByteArray} {v : AV} {t : TypeId} (h : binStr op x.data.toList y.data.toList = some v) :
    ∃ u, (binOp op t (.string x) (.string y)).run P w = .ok u w ∧ Rl w.heap ρ Z v u := by
  have hs : ∀ b : ByteArray, b.data.toList.length = b.size := fun b => by simp
  cases op <;> simp only [binStr, Option.some.injEq, reduceCtorEq] at h
  case add =>
    split at h <;> simp only [Option.some.injEq, reduceCtorEq] at h
    subst h
    rename_i hb
    refine ⟨.string (x ++ y), ?_, .str _ _ (by simp)⟩
    have hb' : ¬ (((x.size + y.size : Nat) : Int) > IntKind.i64.max) := by
      rw [hs, hs] at hb
      have : IntKind.i64.max = 9223372036854775807 := rfl
      omega
    simp only [binOp, Op.stringOp]
    rw [if_neg hb']
    rfl
  all_goals subst h
  case eql => exact ⟨.bool (decide (x.data.toList = y.data.toList)), by simp [binOp, Op.stringOp, toList_eq]; by_cases e : x.data = y.data <;> simp [e], .bool _⟩
  case neq => exact ⟨.bool (decide (x.data.toList ≠ y.data.toList)), by simp [binOp, Op.stringOp, toList_eq]; by_cases e : x.data = y.data <;> simp [e], .bool _⟩
  case lss => exact ⟨_, by simp [binOp, Op.stringOp, toList_eq], .bool _⟩
  case leq => exact ⟨.bool (Op.bytesLess x.data.toList y.data.toList || decide (x.data.toList = y.data.toList)), by simp [binOp, Op.stringOp, toList_eq]; by_cases e : x.data = y.data <;> simp [e], .bool _⟩
  case gtr => exact ⟨.bool (!(Op.bytesLess x.data.toList y.data.toList || decide (x.data.toList = y.data.toList))), by simp [binOp, Op.stringOp, toList_eq]; by_cases e : x.data = y.data <;> simp [e], .bool _⟩
  case geq => exact ⟨_, by simp [binOp, Op.stringOp, toList_eq], .bool _⟩

theorem binShift_run {op : BinOp} {k k' : IntKind} {x y : Int} {v : AV} {t : TypeId} (hk : k ≠ k') (h : binV op (.int k x) (.int k' y) = some v) :
    ∃ u, (binOp op t (.int k x) (.int k' y)).run P w = .ok u w ∧ Rl w.heap ρ Z v u := by
  cases op <;> simp only [binV, if_neg hk, reduceCtorEq] at h
  case shl => split at h <;> simp at h; subst h; rename_i hb; exact ⟨_, by simp [binOp, Op.shift, show ¬ y < 0 by omega], .int _ _⟩
  case shr => split at h <;> simp at h; subst h; rename_i hb; exact ⟨_, by simp [binOp, Op.shift, show ¬ y < 0 by omega], .int _ _⟩

theorem bin_out {o : Oper} {op : BinOp} {t t' : TypeId} {x y : Operand} (ho : o.op = .binOp op t x y t') (g : Good w.heap ρ Z H) (hF : FR w.heap ρ Z s a) (h : evalOp s H (.bin op (cx x) (cx y)) = some rs) :
    OpOut P w ρ Z H rs ((execOp a.eval o).run P w) := by
  simp only [evalOp, Option.bind_eq_some_iff] at h
  obtain ⟨u, h1, v, h2, r, h3, h4⟩ := h
  simp only [Option.some.injEq] at h4
  subst h4
  have hx := ev_rl hF h1
  have hy := ev_rl hF h2
  generalize ex : a.eval x = xv at hx
  generalize ey : a.eval y = yv at hy
  have fin : (∃ u, (binOp op t xv yv).run P w = .ok u w ∧ Rl w.heap ρ Z r u) → eqGuard op t x y xv yv = pure () → OpOut P w ρ Z H (.val r) ((execOp a.eval o).run P w) := by
    intro ⟨u, hu, hru⟩ he
    refine OpOut.pure g ?_ hru
    simp only [execOp, ho, ex, ey, he, Sem.run_bind, Sem.run_pure, Result.andThen_ok, hu]
  cases hx with
  | int k n =>
    cases hy with
    | int k' m =>
      by_cases hk : k = k'
      · subst hk
        exact fin (binInt_run h3) (by simp only [eqGuard_at_int])
      · exact fin (binShift_run hk h3) (by simp only [eqGuard_at_int])
    | _ => simp [binV] at h3
  | str l b hb =>
    cases hy with
    | str l' b' hb' =>
      subst hb
      subst hb'
      exact fin (binStr_run (by simpa [binV] using h3)) (by simp only [eqGuard_at_string])
    | _ => simp [binV] at h3
  | _ => simp [binV] at h3

theorem equal_succ (t : TypeId) (x y : Value) : Op.equal t x y = Op.equalIn (9999 + 1) t x y := rfl

theorem run_equal_bool {t : TypeId} {p q : Bool} (hu : P.underlying t = some .bool) : (Op.equal t (.bool p) (.bool q)).run P w = .ok (p == q) w := by
  rw [equal_succ]
  exact run_equalIn_bool' w _ _ _ _ hu

theorem run_equal_slice_nil {t e : TypeId} {b : Option Addr} {n c : Nat} (hu : P.underlying t = some (.slice e)) : (Op.equal t (.slice b n c) (.slice none 0 0)).run P w = .ok b.isNone w := by
  rw [equal_succ, Op.equalIn]
  cases b with
  | none => simp [run_underlying hu]
  | some x => simp [run_underlying hu]

theorem run_equal_ptr_nil {t e : TypeId} {b : Option Addr} (hu : P.underlying t = some (.pointer e)) : (Op.equal t (.pointer b) (.pointer none)).run P w = .ok b.isNone w := by
  rw [equal_succ, Op.equalIn]
  cases b with
  | none => simp [run_underlying hu]
  | some x => simp [run_underlying hu]

theorem eqNeg_spec {op : BinOp} {n : Bool} (h : eqNeg op = some n) : (op = .eql ∧ n = false) ∨ (op = .neq ∧ n = true) := by
  cases op <;> simp [eqNeg] at h
  · exact .inl ⟨rfl, h⟩
  · exact .inr ⟨rfl, h⟩

theorem beq_out {o : Oper} {op : BinOp} {n : Bool} {t t' : TypeId} {x y : Operand} (hu : P.underlying t = some .bool) (hn : eqNeg op = some n) (ho : o.op = .binOp op t x y t') (g : Good w.heap ρ Z H)
    (hF : FR w.heap ρ Z s a) (h : evalOp s H (.beq n (cx x) (cx y)) = some rs) : OpOut P w ρ Z H rs ((execOp a.eval o).run P w) := by
  simp only [evalOp, Option.bind_eq_some_iff] at h
  obtain ⟨u, h1, v, h2, h3⟩ := h
  have hx := ev_rl hF h1
  have hy := ev_rl hF h2
  generalize ex : a.eval x = xv at hx
  generalize ey : a.eval y = yv at hy
  cases hx with
  | bool p =>
    cases hy with
    | bool q =>
      simp only [Option.some.injEq] at h3
      subst h3
      refine OpOut.pure g (x := .bool (if n then !(p == q) else (p == q))) ?_ (.bool _)
      rcases eqNeg_spec hn with ⟨rfl, rfl⟩ | ⟨rfl, rfl⟩
      · simp [execOp, ho, ex, ey, eqGuard_at_bool, binOp, run_equal_bool hu]
      · simp [execOp, ho, ex, ey, eqGuard_at_bool, binOp, run_equal_bool hu, bne]
    | _ => simp at h3
  | _ => simp at h3

theorem ncmpS_out {o : Oper} {op : BinOp} {n : Bool} {t t' e : TypeId} {x y : Operand} (hu : P.underlying t = some (.slice e)) (hn : eqNeg op = some n) (hy : isNilSl y = true) (ho : o.op = .binOp op t x y t')
    (g : Good w.heap ρ Z H) (hF : FR w.heap ρ Z s a) (h : evalOp s H (.ncmpS n (cx x)) = some rs) : OpOut P w ρ Z H rs ((execOp a.eval o).run P w) := by
  simp only [evalOp, Option.bind_eq_some_iff] at h
  obtain ⟨u, h1, b, h2, h3⟩ := h
  simp only [Option.some.injEq] at h3
  subst h3
  have ey : a.eval y = .slice none 0 0 := by
    unfold isNilSl at hy
    split at hy
    · rfl
    · cases hy
  have hx := ev_rl hF h1
  generalize ex : a.eval x = xv at hx
  have fin : ∀ (p : Option Addr) (k c : Nat), xv = .slice p k c → p.isNone = b → OpOut P w ρ Z H (.val (.bool (if n then !b else b))) ((execOp a.eval o).run P w) := by
    intro p k c e1 e2
    subst e1
    subst e2
    refine OpOut.pure g (x := .bool (if n then !p.isNone else p.isNone)) ?_ (.bool _)
    rcases eqNeg_spec hn with ⟨rfl, rfl⟩ | ⟨rfl, rfl⟩
    · simp [execOp, ho, ex, ey, eqGuard_at_slice, binOp, run_equal_slice_nil hu]
    · simp [execOp, ho, ex, ey, eqGuard_at_slice, binOp, run_equal_slice_nil hu]
  cases hx with
  | nilS => simp [isNilS] at h2; exact fin none 0 0 rfl (by simp [h2])
  | rows sz l b' o' k c f hn' hnc hz hw hc hm hr =>
    simp only [isNilS] at h2
    split at h2 <;> simp at h2
    exact fin _ _ _ rfl (by simp [← h2])
  | rowsN sz => simp [isNilS] at h2
  | rowsE sz a c => simp [isNilS] at h2
  | own id sz lo hi b' o0 o' k c m hρ hlo hn' hnc ho' hm hcap => simp [isNilS] at h2; exact fin _ _ _ rfl (by simp [← h2])
  | _ => simp [isNilS] at h2

theorem ncmpP_out {o : Oper} {op : BinOp} {n : Bool} {t t' e : TypeId} {x y : Operand} (hu : P.underlying t = some (.pointer e)) (hn : eqNeg op = some n) (hy : isNilPt y = true) (ho : o.op = .binOp op t x y t')
    (g : Good w.heap ρ Z H) (hF : FR w.heap ρ Z s a) (h : evalOp s H (.ncmpP n (cx x)) = some rs) : OpOut P w ρ Z H rs ((execOp a.eval o).run P w) := by
  simp only [evalOp, Option.bind_eq_some_iff] at h
  obtain ⟨u, h1, b, h2, h3⟩ := h
  simp only [Option.some.injEq] at h3
  subst h3
  have ey : a.eval y = .pointer none := by
    unfold isNilPt at hy
    split at hy
    · rfl
    · cases hy
  have hx := ev_rl hF h1
  generalize ex : a.eval x = xv at hx
  have fin : ∀ (p : Option Addr), xv = .pointer p → p.isNone = b → OpOut P w ρ Z H (.val (.bool (if n then !b else b))) ((execOp a.eval o).run P w) := by
    intro p e1 e2
    subst e1
    subst e2
    refine OpOut.pure g (x := .bool (if n then !p.isNone else p.isNone)) ?_ (.bool _)
    rcases eqNeg_spec hn with ⟨rfl, rfl⟩ | ⟨rfl, rfl⟩
    · simp [execOp, ho, ex, ey, eqGuard_at_pointer, binOp, run_equal_ptr_nil hu]
    · simp [execOp, ho, ex, ey, eqGuard_at_pointer, binOp, run_equal_ptr_nil hu]
  cases hx with
  | nilP => simp [isNilP] at h2; exact fin none rfl (by simp [h2])
  | ptr id sz i j b' o0 hρ => simp [isNilP] at h2; exact fin _ rfl (by simp [← h2])
  | fp cs b' o' f hz hc hm hr => simp [isNilP] at h2; exact fin _ rfl (by simp [← h2])
  | _ => simp [isNilP] at h2

theorem un_out {o : Oper} {op : UnOp} {t : TypeId} {x : Operand} (ho : o.op = .unOp op t x) (g : Good w.heap ρ Z H) (hF : FR w.heap ρ Z s a) (h : evalOp s H (.un op (cx x)) = some rs) :
    OpOut P w ρ Z H rs ((execOp a.eval o).run P w) := by
  simp only [evalOp, Option.bind_eq_some_iff] at h
  obtain ⟨u, h1, r, h2, h3⟩ := h
  simp only [Option.some.injEq] at h3
  subst h3
  have hx := ev_rl hF h1
  generalize ex : a.eval x = xv at hx
  cases hx with
  | int k n =>
    cases op <;> simp only [unV, Option.some.injEq, reduceCtorEq] at h2
    · subst h2; exact OpOut.pure g (by simp [execOp, ho, ex, Op.unary, Op.intArith]) (.int _ _)
    · subst h2
      refine OpOut.pure g (x := .int k (bitsV .xor k (if k.signed then -1 else k.max) n)) ?_ (.int _ _)
      simp only [execOp, ho, ex, Op.unary, Sem.run_bind, bits_eq (P := P) (w := w) (op := .xor) (by simp), Result.andThen_ok, Sem.run_pure]
  | bool b =>
    cases op <;> simp only [unV, Option.some.injEq, reduceCtorEq] at h2
    subst h2
    exact OpOut.pure g (by simp [execOp, ho, ex, Op.unary]) (.bool _)
  | _ => cases op <;> simp [unV] at h2

theorem conv_out {o : Oper} {src dst : TypeId} {k k' : IntKind} {x : Operand} (hs : P.underlying src = some (.int k')) (hd : P.underlying dst = some (.int k)) (ho : o.op = .convert src dst x)
    (g : Good w.heap ρ Z H) (hF : FR w.heap ρ Z s a) (h : evalOp s H (.conv k (cx x)) = some rs) : OpOut P w ρ Z H rs ((execOp a.eval o).run P w) := by
  simp only [evalOp, Option.bind_eq_some_iff] at h
  obtain ⟨u, h1, h2⟩ := h
  have hx := ev_rl hF h1
  generalize ex : a.eval x = xv at hx
  cases hx with
  | int q n =>
    simp only [Option.some.injEq] at h2
    subst h2
    refine OpOut.pure g (x := .int k (k.wrap n)) ?_ (.int _ _)
    simp [execOp, ho, ex, convert, run_underlying hs, run_underlying hd, Conv.intToInt]
  | _ => simp at h2

theorem convS_out {o : Oper} {src dst : TypeId} {x : Operand} (hs : P.underlying src = some .string) (hd : P.underlying dst = some .string) (ho : o.op = .convert src dst x)
    (g : Good w.heap ρ Z H) (hF : FR w.heap ρ Z s a) (h : evalOp s H (.convS (cx x)) = some rs) : OpOut P w ρ Z H rs ((execOp a.eval o).run P w) := by
  simp only [evalOp, Option.bind_eq_some_iff] at h
  obtain ⟨u, h1, h2⟩ := h
  have hx := ev_rl hF h1
  generalize ex : a.eval x = xv at hx
  cases hx with
  | str l b hb =>
    simp only [Option.some.injEq] at h2
    subst h2
    refine OpOut.pure g (x := .string b) ?_ (.str _ _ hb)
    simp [execOp, ho, ex, convert, run_underlying hs, run_underlying hd]
  | _ => simp at h2

theorem len_out {o : Oper} {c : Call} {t : TypeId} {x : Operand} {str : Bool} (hu : if str = true then P.underlying t = some .string else ∃ e, P.underlying t = some (.slice e)) (ho : o.op = .call c) (hc : c.callee = .builtin .len)
    (hx : c.args = #[x]) (ht : c.argTypes = #[t]) (g : Good w.heap ρ Z H) (hF : FR w.heap ρ Z s a) (h : evalOp s H (.len str (cx x)) = some rs) : OpOut P w ρ Z H rs ((execOp a.eval o).run P w) := by
  simp only [evalOp, Option.bind_eq_some_iff] at h
  obtain ⟨u, h1, n, h2, h3⟩ := h
  simp only [Option.some.injEq] at h3
  subst h3
  have hr := ev_rl hF h1
  generalize ex : a.eval x = xv at hr
  refine OpOut.pure g (x := .int .i64 n) ?_ (.int _ _)
  cases str with
  | true =>
    rw [if_pos rfl] at hu
    cases hr with
    | str l b hb =>
      simp only [lenA, Option.some.injEq] at h2
      subst h2
      subst hb
      simp [execOp, ho, resolve, hc, hx, ht, ex, invoke, builtin, Builtin.len_, run_underlying hu, goInt]
    | _ => simp [lenA] at h2
  | false =>
    rw [if_neg (by simp)] at hu
    obtain ⟨e, hu⟩ := hu
    cases hr with
    | rows sz l b o' k cc f hn hnc hz hw hcc hm hr =>
      simp only [lenA, Option.some.injEq] at h2
      subst h2; subst hn
      simp [execOp, ho, resolve, hc, hx, ht, ex, invoke, builtin, Builtin.len_, run_underlying hu, goInt]
    | rowsE sz a c =>
      simp only [lenA, Option.some.injEq] at h2
      subst h2
      simp [execOp, ho, resolve, hc, hx, ht, ex, invoke, builtin, Builtin.len_, run_underlying hu, goInt]
    | rowsN sz =>
      simp only [lenA, Option.some.injEq] at h2
      subst h2
      simp [execOp, ho, resolve, hc, hx, ht, ex, invoke, builtin, Builtin.len_, run_underlying hu, goInt]
    | nilS =>
      simp only [lenA, Option.some.injEq] at h2
      subst h2
      simp [execOp, ho, resolve, hc, hx, ht, ex, invoke, builtin, Builtin.len_, run_underlying hu, goInt]
    | own id sz lo hi b o0 o' k cc m hρ hlo hn hnc ho' hm hcap =>
      simp only [lenA, Option.some.injEq] at h2
      subst h2; subst hn
      simp [execOp, ho, resolve, hc, hx, ht, ex, invoke, builtin, Builtin.len_, run_underlying hu, goInt]
    | _ => simp [lenA] at h2

theorem mm_out {o : Oper} {c : Call} {mx : Bool} (ho : o.op = .call c) (hc : c.callee = .builtin (if mx then .max else .min)) (g : Good w.heap ρ Z H) (hF : FR w.heap ρ Z s a)
    (h : evalOp s H (.mm mx (cxL c.args.toList)) = some rs) : OpOut P w ρ Z H rs ((execOp a.eval o).run P w) := by
  simp only [evalOp, Option.bind_eq_some_iff] at h
  obtain ⟨vs, h1, r, h2, h3⟩ := h
  simp only [Option.some.injEq] at h3
  subst h3
  have hl := evL_rl hF h1
  obtain ⟨as, has⟩ : ∃ as, c.args.map a.eval = as := ⟨_, rfl⟩
  have hasl : c.args.toList.map a.eval = as.toList := by rw [← has]; simp
  rw [hasl] at hl
  have get : ∀ (i : Nat) k n, vs[i]? = some (.int k n) → as.toList[i]? = some (.int k n) := by
    intro i k n hi
    have hlt : i < as.toList.length := by rw [← hl.1]; exact (List.getElem?_eq_some_iff.1 hi).1
    have := hl.2 i _ _ hi (List.getElem?_eq_getElem hlt)
    rw [List.getElem?_eq_getElem hlt]
    generalize as.toList[i] = q at this
    cases this
    rfl
  have hsz : as.toList.length = vs.length := hl.1.symm
  unfold mm2 at h2
  split at h2
  · rename_i k n
    simp only [Option.some.injEq] at h2
    subst h2
    have e0 := get 0 k n rfl
    refine OpOut.pure g (x := .int k n) ?_ (.int _ _)
    have : as.toList = [.int k n] := by
      match has' : as.toList, hsz with
      | [q], _ => rw [has'] at e0; simpa using e0
    cases mx <;> simp [execOp, ho, resolve, hc, has, invoke, builtin, Builtin.max_, Builtin.min_, this]
  · rename_i k n k' m
    split at h2 <;> simp only [Option.some.injEq, reduceCtorEq] at h2
    rename_i hk
    subst hk
    subst h2
    have e0 := get 0 _ _ rfl
    have e1 := get 1 _ _ rfl
    have : as.toList = [.int k n, .int k m] := by
      match has' : as.toList, hsz with
      | [q, p], _ => rw [has'] at e0 e1; simp at e0 e1; rw [e0, e1]
    cases mx
    · refine OpOut.pure g (x := .int k (if m < n then m else n)) ?_ ?_
      · simp [execOp, ho, resolve, hc, has, invoke, builtin, Builtin.min_, Builtin.min2, this]
      · have : (if m < n then m else n) = min n m := by split <;> omega
        rw [this]; exact .int _ _
    · refine OpOut.pure g (x := .int k (if m > n then m else n)) ?_ ?_
      · simp [execOp, ho, resolve, hc, has, invoke, builtin, Builtin.max_, Builtin.max2, this]
      · have : (if m > n then m else n) = max n m := by split <;> omega
        rw [this]; exact .int _ _
  · rename_i k n k' m k'' p
    split at h2 <;> simp only [Option.some.injEq, reduceCtorEq] at h2
    rename_i hk
    obtain ⟨rfl, rfl⟩ := hk
    subst h2
    have e0 := get 0 _ _ rfl
    have e1 := get 1 _ _ rfl
    have e2 := get 2 _ _ rfl
    have : as.toList = [.int k n, .int k m, .int k p] := by
      match has' : as.toList, hsz with
      | [q, p, r], _ => rw [has'] at e0 e1 e2; simp at e0 e1 e2; rw [e0, e1, e2]
    cases mx
    · refine OpOut.pure g (x := .int k (if p < (if m < n then m else n) then p else (if m < n then m else n))) ?_ ?_
      · simp [execOp, ho, resolve, hc, has, invoke, builtin, Builtin.min_, Builtin.min2, this]
      · have : (if p < (if m < n then m else n) then p else (if m < n then m else n)) = min (min n m) p := by (repeat' split) <;> omega
        rw [this]; exact .int _ _
    · refine OpOut.pure g (x := .int k (if p > (if m > n then m else n) then p else (if m > n then m else n))) ?_ ?_
      · simp [execOp, ho, resolve, hc, has, invoke, builtin, Builtin.max_, Builtin.max2, this]
      · have : (if p > (if m > n then m else n) then p else (if m > n then m else n)) = max (max n m) p := by (repeat' split) <;> omega
        rw [this]; exact .int _ _
  · cases h2

theorem extr_out {o : Oper} {x : Operand} {i : Nat} (ho : o.op = .extract x i) (g : Good w.heap ρ Z H) (hF : FR w.heap ρ Z s a) (h : evalOp s H (.extr (cx x) i) = some rs) :
    OpOut P w ρ Z H rs ((execOp a.eval o).run P w) := by
  simp only [evalOp, Option.bind_eq_some_iff] at h
  obtain ⟨u, h1, h2⟩ := h
  have hx := ev_rl hF h1
  generalize ex : a.eval x = xv at hx
  cases hx with
  | tup cs vs hl hr =>
    simp only [Option.bind_eq_some_iff, Option.some.injEq] at h2
    obtain ⟨r, h3, h4⟩ := h2
    subst h4
    have hlt : i < vs.length := by rw [← hl]; exact (List.getElem?_eq_some_iff.1 h3).1
    refine OpOut.pure g (x := vs[i]) ?_ (hr i _ _ h3 (List.getElem?_eq_getElem hlt))
    simp [execOp, ho, ex, Instr.extract, hlt]
  | _ => simp at h2

theorem nilck_out {o : Oper} {x : Operand} (ho : o.op = .nilCheck x) (g : Good w.heap ρ Z H) (hF : FR w.heap ρ Z s a) (h : evalOp s H (.nilck (cx x)) = some rs) :
    OpOut P w ρ Z H rs ((execOp a.eval o).run P w) := by
  simp only [evalOp, Option.bind_eq_some_iff] at h
  obtain ⟨u, h1, h2⟩ := h
  have hx := ev_rl hF h1
  generalize ex : a.eval x = xv at hx
  have hx' := hx
  cases hx with
  | ptr id sz i j b o0 hρ =>
    simp only [Option.some.injEq] at h2
    subst h2
    exact OpOut.pure g (by simp [execOp, ho, ex]) hx'
  | fp cs b o' f hz hcc hm hr =>
    simp only [Option.some.injEq] at h2
    subst h2
    exact OpOut.pure g (by simp [execOp, ho, ex]) hx'
  | _ => simp at h2

theorem mkfn_out {o : Oper} {f : Nat} {first caps : Array Operand} (ho : o.op = .makeFunc (.func f) first caps) (g : Good w.heap ρ Z H) (hF : FR w.heap ρ Z s a)
    (h : evalOp s H (.mkfn f (cxL first.toList) (cxL caps.toList)) = some rs) : OpOut P w ρ Z H rs ((execOp a.eval o).run P w) := by
  simp only [evalOp, Option.bind_eq_some_iff] at h
  obtain ⟨us, h0, vs, h1, h2⟩ := h
  simp only [Option.some.injEq] at h2
  subst h2
  have hu := evL_rl hF h0
  have hl := evL_rl hF h1
  refine OpOut.pure g (x := .func (.func f) (first.toList.map a.eval).toArray (caps.toList.map a.eval).toArray) ?_ (.clo f us _ vs _ (by rw [hu.1]) (by rw [hl.1]) hu.2 hl.2)
  have hmap : Array.map a.eval caps = (List.map a.eval caps.toList).toArray := by apply Array.ext'; simp
  have hmap2 : Array.map a.eval first = (List.map a.eval first.toList).toArray := by apply Array.ext'; simp
  simp [execOp, ho, Instr.makeFunc, hmap, hmap2]

theorem callFunc_run {f : Nat} {xs : Array Value} (hc : callable P f = true) : (callFunc f xs).run P w = .ok (.enter f xs) w := by
  unfold callable at hc
  split at hc
  · rename_i fn hfn
    simp only [Bool.and_eq_true, Bool.not_eq_true'] at hc
    have hb : fn.body.isNone = false := by
      cases hh : fn.body with
      | none => simp [hh] at hc
      | some b => rfl
    unfold callFunc
    simp only [Sem.run_bind, run_program, Result.andThen_ok, hfn, hc.2, hb, Bool.false_eq_true, if_false, Sem.run_pure]
  · cases hc

theorem call_out {o : Oper} {c : Call} {f : Nat} (ho : o.op = .call c) (hc : c.callee = .value (.func f)) (g : Good w.heap ρ Z H) (hF : FR w.heap ρ Z s a)
    (h : evalOp s H (.call f (cxL c.args.toList)) = some rs) : OpOut P w ρ Z H rs ((execOp a.eval o).run P w) := by
  simp only [evalOp, Option.bind_eq_some_iff] at h
  obtain ⟨vs, h1, h2⟩ := h
  simp only [Option.some.injEq] at h2
  subst h2
  intro hcl
  refine ⟨c.args.toList.map a.eval, ?_, evL_rl hF h1⟩
  simp only [execOp, ho, resolve, hc, Act.eval, Deferred.ofValue, Sem.run_bind, Sem.run_pure, Result.andThen_ok, invoke]
  rw [callFunc_run hcl]
  congr 2
  apply Array.ext'
  simp

theorem callv_out {o : Oper} {c : Call} {t : Nat} (ho : o.op = .call c) (hc : c.callee = .value (.tmp t)) (g : Good w.heap ρ Z H) (hF : FR w.heap ρ Z s a)
    (h : evalOp s H (.callv (.t t) (cxL c.args.toList)) = some rs) : OpOut P w ρ Z H rs ((execOp a.eval o).run P w) := by
  simp only [evalOp, Option.bind_eq_some_iff] at h
  obtain ⟨cv, h0, vs, h1, h2⟩ := h
  have hx := ev_rl (x := .tmp t) hF h0
  generalize ex : a.eval (.tmp t) = xv at hx
  cases hx with
  | clo f fs us cs ws hf hl hq hr =>
    simp only [Option.some.injEq] at h2
    subst h2
    intro hcl
    refine ⟨us ++ c.args.toList.map a.eval ++ ws, ?_, (RlL.append ⟨hf, hq⟩ (evL_rl hF h1)).append ⟨hl, hr⟩⟩
    simp only [execOp, ho, resolve, hc, ex, Deferred.ofValue, Sem.run_bind, Sem.run_pure, Result.andThen_ok, invoke]
    rw [callFunc_run hcl]
    congr 2
    apply Array.ext'
    simp
  | _ => simp at h2

end
end Go.Proofs.Ytlmplofpclaokaa
