/- Each operation of the model does what the abstract operation says: cutting, building, making, appending. -/
import Derived.Test.YtlmplofpclaokaaSimOps4
import Derived.Lib.Strings
namespace Go.Proofs.Ytlmplofpclaokaa
set_option autoImplicit false
set_option linter.unusedSimpArgs false
set_option linter.unusedVariables false

section
variable {P : Program} {w : World} {ρ : Loc} {Z : Nat → Prop} {H : AH} {s : Fr} {a : Act} {rs : Rs}

/-! ### Rows, one behind the other -/
theorem flat_len {α : Type} (sz : Nat) : ∀ (l : List (List α)), (∀ (i : Nat) r, l[i]? = some r → r.length = sz) → l.flatten.length = l.length * sz
  | [], _ => by simp
  | r :: l, h => by
    have h0 := h 0 r rfl
    have ih := flat_len sz l fun i r hr => h (i + 1) r (by simpa using hr)
    simp only [List.flatten_cons, List.length_append, List.length_cons, ih, h0, Nat.add_mul, Nat.one_mul]
    omega

theorem flat_get {α : Type} (sz : Nat) : ∀ (l : List (List α)) (i j : Nat) (r : List α), (∀ (i : Nat) r, l[i]? = some r → r.length = sz) → l[i]? = some r → j < sz → l.flatten[i * sz + j]? = r[j]?
  | [], i, j, r, _, h, _ => by simp at h
  | q :: l, i, j, r, hw, h, hj => by
    have h0 := hw 0 q rfl
    rw [List.flatten_cons]
    cases i with
    | zero =>
      simp at h
      subst h
      rw [List.getElem?_append_left (by omega)]
      congr 1
      omega
    | succ i =>
      simp at h
      rw [Nat.add_mul, Nat.one_mul, List.getElem?_append_right (by omega), h0, show i * sz + sz + j - sz = i * sz + j from by omega]
      exact flat_get sz l i j r (fun i r hr => hw (i + 1) r (by simpa using hr)) h hj

theorem flat_set {α : Type} (sz : Nat) : ∀ (l : List (List α)) (i : Nat) (r : List α), (∀ (i : Nat) r, l[i]? = some r → r.length = sz) → i < l.length → r.length = sz →
    (l.set i r).flatten = l.flatten.take (i * sz) ++ r ++ l.flatten.drop (i * sz + r.length)
  | [], i, r, _, h, _ => by simp at h
  | q :: l, i, r, hw, h, hr => by
    have h0 := hw 0 q rfl
    cases i with
    | zero => simp [h0, hr, List.drop_append, List.drop_eq_nil_of_le (show q.length ≤ sz by omega)]
    | succ i =>
      have ih := flat_set sz l i r (fun i r hr => hw (i + 1) r (by simpa using hr)) (by simpa using h) hr
      simp only [List.set_cons_succ, List.flatten_cons, ih, Nat.add_mul, Nat.one_mul]
      rw [List.take_append, List.take_of_length_le (show q.length ≤ i * sz + sz by omega), h0, show i * sz + sz - sz = i * sz from by omega,
        List.drop_append, List.drop_eq_nil_of_le (show q.length ≤ i * sz + sz + r.length by omega), h0, show i * sz + sz + r.length - sz = i * sz + r.length from by omega]
      simp

/-- Values, one by one. -/
def CellsR (h : Array Obj) (ρ : Loc) (Z : Nat → Prop) (cs : List AV) (xs : List Value) : Prop :=
  cs.length = xs.length ∧ ∀ (i : Nat) c x, cs[i]? = some c → xs[i]? = some x → Rl h ρ Z c x

theorem CellsRl.r {h : Array Obj} {cs : List AV} {xs : List Value} (q : CellsRl h ρ Z cs xs) : CellsR h ρ Z cs xs := ⟨q.1, fun i c x a b => (q.2 i c x a b).2⟩

theorem CellsR.rl {h : Array Obj} {cs : List AV} {xs : List Value} (q : CellsR h ρ Z cs xs) (hc : allCells cs = true) : CellsRl h ρ Z cs xs :=
  ⟨q.1, fun i c x a b => ⟨(List.all_eq_true.1 hc) c (List.mem_of_getElem? a), q.2 i c x a b⟩⟩

theorem Rl.cellsR {h : Array Obj} {v : AV} {x : Value} (hr : Rl h ρ Z v x) : CellsR h ρ Z v.cells x.cells.toList := by
  have one : ∀ (v : AV) (x : Value), Rl h ρ Z v x → CellsR h ρ Z [v] [x] := fun v x q => ⟨rfl, fun i c y h1 h2 => by
    cases i with
    | zero => simp at h1 h2; subst h1; subst h2; exact q
    | succ i => simp at h1⟩
  have hr' := hr
  cases hr with
  | agg cs vs hl hc hr => exact ⟨by simpa [AV.cells, Value.cells] using hl, fun i c x h1 h2 => hr i c x h1 (by simpa [Value.cells] using h2)⟩
  | _ => exact one _ _ hr'

theorem over_ov {h : Array Obj} {cs vs : List AV} {xs ys : List Value} {o : Nat} (h1 : CellsR h ρ Z cs xs) (h2 : CellsR h ρ Z vs ys) (hf : o + vs.length ≤ cs.length) :
    CellsR h ρ Z (over cs o vs) (ovArr xs.toArray o ys).toList := by
  have hl1 := h1.1
  have hl2 := h2.1
  refine ⟨by simp [over, size_ovArr]; omega, fun i c x hc hx => ?_⟩
  have hx' : (ovArr xs.toArray o ys)[i]? = some x := by rw [← hx]; simp
  rw [get_ovArr _ _ _ _ (by simp; omega)] at hx'
  unfold over at hc
  by_cases hin : o ≤ i ∧ i < o + ys.length
  · rw [if_pos hin] at hx'
    rw [List.append_assoc, List.getElem?_append_right (by simp; omega)] at hc
    simp only [List.length_take, Nat.min_eq_left (show o ≤ cs.length by omega)] at hc
    rw [List.getElem?_append_left (by omega)] at hc
    exact h2.2 _ _ _ hc hx'
  · rw [if_neg hin] at hx'
    have hx2 : xs[i]? = some x := by simpa using hx'
    by_cases hi : i < o
    · rw [List.append_assoc, List.getElem?_append_left (by simp; omega), List.getElem?_take, if_pos hi] at hc
      exact h1.2 _ _ _ hc hx2
    · rw [List.getElem?_append_right (by simp; omega), List.getElem?_drop] at hc
      simp only [List.length_append, List.length_take, Nat.min_eq_left (show o ≤ cs.length by omega)] at hc
      rw [show o + vs.length + (i - (o + vs.length)) = i from by omega] at hc
      exact h1.2 _ _ _ hc hx2

theorem fold_ov (off : Nat) : ∀ (xs : List Value) (k : Nat) (cs : Array Value), (xs.zipIdx k).foldl (fun cs (p : Value × Nat) => cs.setIfInBounds (off + p.2) p.1) cs = ovArr cs (off + k) xs
  | [], k, cs => rfl
  | x :: xs, k, cs => by
    simp only [List.zipIdx_cons, List.foldl_cons, ovArr]
    rw [fold_ov off xs (k + 1), Nat.add_assoc]

theorem fill_cons (place : Nat → Option (Nat × Nat)) (cells : Array Value) (i : Nat) (v : Value) (rest : List (Nat × Value)) (off size : Nat) (hp : place i = some (off, size)) (hs : v.cells.toList.length = size) (hf : off + size ≤ cells.size) :
    Instr.fill place cells ((i, v) :: rest) = Instr.fill place (ovArr cells off v.cells.toList) rest := by
  rw [Instr.fill]
  simp only [hp]
  have h1 : (decide (v.cells.size ≠ size) || decide (off + v.cells.size > cells.size)) = false := by
    have : v.cells.size = size := by simpa using hs
    simp; omega
  simp only [h1, Bool.false_eq_true, if_false]
  congr 1
  have h2 := fold_ov off v.cells.toList 0 cells
  rw [Nat.add_zero] at h2
  rw [← h2, ← Array.foldl_toList, Array.toList_zipIdx]

theorem fill_overs (hF : FR w.heap ρ Z s a) {pl : Nat → Option (Nat × Nat)} {place : Nat → Option (Nat × Nat)} (hpl : ∀ i p, pl i = some p → place i = some p) :
    ∀ (ps : List (Nat × Operand)) (l : List (Nat × Nat × X)) (qs : List (Nat × Nat × AV)) (zs cs : List AV) (cells : Array Value), partsOf pl ps = some l → evParts3 s l = some qs → overs zs qs = some cs →
      CellsR w.heap ρ Z zs cells.toList → ∃ cells', Instr.fill place cells (ps.map fun p => (p.1, a.eval p.2)) = some cells' ∧ CellsR w.heap ρ Z cs cells'.toList
  | [], l, qs, zs, cs, cells, h1, h2, h3, h4 => by
    simp only [partsOf, Option.some.injEq] at h1
    subst h1
    simp only [evParts3, Option.some.injEq] at h2
    subst h2
    simp only [overs, Option.some.injEq] at h3
    subst h3
    exact ⟨cells, rfl, h4⟩
  | (i, x) :: ps, l, qs, zs, cs, cells, h1, h2, h3, h4 => by
    simp only [partsOf, Option.bind_eq_some_iff, Option.some.injEq] at h1
    obtain ⟨p, hp, l', hl', rfl⟩ := h1
    simp only [evParts3, Option.bind_eq_some_iff, Option.some.injEq] at h2
    obtain ⟨v, hv, vs, hvs, rfl⟩ := h2
    simp only [overs] at h3
    split at h3
    · rename_i hc
      have hr := (ev_rl hF hv).cellsR
      have hsz : cells.size = zs.length := by rw [h4.1]; simp
      have hov := over_ov (o := p.1) h4 hr (by omega)
      simp only [List.map_cons]
      rw [fill_cons place cells i (a.eval x) _ p.1 p.2 (hpl i p hp) (by rw [← hr.1]; exact hc.1) (by omega)]
      refine fill_overs hF hpl ps l' vs _ cs _ hl' hvs h3 ?_
      simpa using hov
    · cases h3

theorem mapM_places (fs : List Field) (hall : fs.all (fun f => (P.info? f.type).isSome) = true) :
    ∃ l, (fs.mapM fun f => (do pure (f.offset, ← sizeOf f.type) : Sem (Nat × Nat))).run P w = .ok l w ∧
      ∀ (i : Nat) f k, fs[i]? = some f → P.info? f.type = some k → l[i]? = some (f.offset, k.size) := by
  induction fs with
  | nil => exact ⟨[], rfl, by simp⟩
  | cons f fs ih =>
    simp only [List.all_cons, Bool.and_eq_true] at hall
    obtain ⟨l, h1, h2⟩ := ih hall.2
    cases hi : P.info? f.type with
    | none => simp [hi] at hall
    | some k =>
      refine ⟨(f.offset, k.size) :: l, ?_, ?_⟩
      · simp only [List.mapM_cons, Sem.run_bind, run_sizeOf hi, Result.andThen_ok, Sem.run_pure, h1]
      · intro i f' k' hf hk
        cases i with
        | zero => simp at hf; subst hf; rw [hi] at hk; simp at hk; subst hk; simp
        | succ i => simp at hf ⊢; exact h2 i f' k' hf hk

theorem places_spec {fs : Array Field} {i : Nat} {p : Nat × Nat} (h : places P fs i = some p) : ∃ f k, fs.toList[i]? = some f ∧ P.info? f.type = some k ∧ p = (f.offset, k.size) := by
  unfold places at h
  split at h
  · rename_i f hf
    split at h
    · rename_i k hk
      simp only [Option.some.injEq] at h
      exact ⟨f, k, by simpa using hf, hk, h.symm⟩
    · cases h
  · cases h

theorem build_out {o : Oper} {t : TypeId} {i : TypeInfo} {z : Value} {zs : List AV} {ps : Array (Nat × Operand)} (hi : P.info? t = some i) (hz : i.zero = some z) (hzs : constCells z = some zs) (ho : o.op = .build t ps)
    {l : List (Nat × Nat × X)} (g : Good w.heap ρ Z H) (hF : FR w.heap ρ Z s a)
    (hl : (∃ fs, P.underlying t = some (.struct fs) ∧ fs.toList.all (fun f => (P.info? f.type).isSome) = true ∧ partsOf (places P fs) ps.toList = some l) ∨
      (∃ n e k, P.underlying t = some (.array n e) ∧ P.info? e = some k ∧ partsOf (fun i => some (i * k.size, k.size)) ps.toList = some l))
    (h : evalOp s H (.build zs l) = some rs) : OpOut P w ρ Z H rs ((execOp a.eval o).run P w) := by
  simp only [evalOp, Option.bind_eq_some_iff] at h
  obtain ⟨qs, h1, cs, h2, h3⟩ := h
  split at h3 <;> simp only [Option.some.injEq, reduceCtorEq] at h3
  rename_i hc
  subst h3
  have hz0 := (constCells_rl (h := w.heap) (ρ := ρ) (Z := Z) hzs).r
  have fin : ∀ cells' : Array Value, CellsR w.heap ρ Z cs cells'.toList → Rl w.heap ρ Z (.agg cs) (.agg cells') := by
    intro cells' hr
    have q := hr.rl hc
    have := Rl.agg (h := w.heap) (ρ := ρ) (Z := Z) cs cells'.toList q.1 (fun i v hv => (List.all_eq_true.1 hc) v (List.mem_of_getElem? hv)) (fun i v x a b => (q.2 i v x a b).2)
    simpa using this
  have hmap : (ps.map fun (i, x) => (i, a.eval x)).toList = ps.toList.map fun p => (p.1, a.eval p.2) := by simp
  rcases hl with ⟨fs, hu, hall, hp⟩ | ⟨n, e, k, hu, hk, hp⟩
  · obtain ⟨pls, hpls, hpl⟩ := mapM_places (P := P) (w := w) fs.toList hall
    obtain ⟨cells', hf, hr⟩ := fill_overs hF (pl := places P fs) (place := (pls.toArray[·]?)) (fun i p hpi => by
      obtain ⟨f, k, q1, q2, rfl⟩ := places_spec hpi
      have := hpl i f k q1 q2
      simpa using this) ps.toList l qs zs cs z.cells hp h1 h2 hz0
    refine OpOut.pure g (x := .agg cells') ?_ (fin cells' hr)
    have hm : (fs.mapM fun f => (do pure (f.offset, ← sizeOf f.type) : Sem (Nat × Nat))).run P w = .ok pls.toArray w := by
      rw [Array.mapM_eq_mapM_toList, Sem.run_map, hpls]
      rfl
    simp only [execOp, ho, Instr.build, Sem.run_bind, run_zeroValue hi hz, run_underlying hu, Result.andThen_ok, hm, hmap, hf, Sem.run_pure]
  · obtain ⟨cells', hf, hr⟩ := fill_overs hF (pl := fun i => some (i * k.size, k.size)) (place := fun i => some (i * k.size, k.size)) (fun i p hpi => hpi) ps.toList l qs zs cs z.cells hp h1 h2 hz0
    refine OpOut.pure g (x := .agg cells') ?_ (fin cells' hr)
    simp only [execOp, ho, Instr.build, Sem.run_bind, run_zeroValue hi hz, run_underlying hu, run_sizeOf hk, Result.andThen_ok, hmap, hf, Sem.run_pure]

/-! ### Slices that are written out -/
theorem fill_rows (hF : FR w.heap ρ Z s a) (sz : Nat) :
    ∀ (ps : List (Nat × Operand)) (qs : List (Nat × AV)) (l l' : List (List AV)) (cells : Array Value), evParts2 s (parts2 ps) = some qs → setRows sz l qs = some l' →
      (∀ (i : Nat) r, l[i]? = some r → r.length = sz) → CellsR w.heap ρ Z l.flatten cells.toList →
      ∃ cells', Instr.fill (fun i => some (i * sz, sz)) cells (ps.map fun p => (p.1, a.eval p.2)) = some cells' ∧ CellsR w.heap ρ Z l'.flatten cells'.toList ∧ l'.length = l.length ∧ ∀ (i : Nat) r, l'[i]? = some r → r.length = sz
  | [], qs, l, l', cells, h1, h2, h3, h4 => by
    simp only [parts2, evParts2, Option.some.injEq] at h1
    subst h1
    simp only [setRows, Option.some.injEq] at h2
    subst h2
    exact ⟨cells, rfl, h4, rfl, h3⟩
  | (i, x) :: ps, qs, l, l', cells, h1, h2, h3, h4 => by
    simp only [parts2, evParts2, Option.bind_eq_some_iff, Option.some.injEq] at h1
    obtain ⟨v, hv, vs, hvs, rfl⟩ := h1
    simp only [setRows] at h2
    split at h2
    · rename_i hc
      have hr := (ev_rl hF hv).cellsR
      have hfl := flat_len sz l h3
      have hmul : (i + 1) * sz ≤ l.length * sz := Nat.mul_le_mul_right _ hc.2
      rw [Nat.add_mul, Nat.one_mul] at hmul
      have hov := over_ov (o := i * sz) h4 hr (by omega)
      have hsz : cells.size = l.flatten.length := by rw [h4.1]; simp
      simp only [List.map_cons]
      rw [fill_cons _ cells i (a.eval x) _ (i * sz) sz rfl (by rw [← hr.1]; exact hc.1) (by omega)]
      have hset : (l.set i v.cells).flatten = over l.flatten (i * sz) v.cells := flat_set sz l i v.cells h3 hc.2 hc.1
      have hw : ∀ (j : Nat) r, (l.set i v.cells)[j]? = some r → r.length = sz := by
        intro j r hj
        rw [List.getElem?_set] at hj
        split at hj
        · simp only [hc.2, if_true, Option.some.injEq] at hj
          rw [← hj]; exact hc.1
        · exact h3 j r hj
      obtain ⟨cells', e1, e2, e3, e4⟩ := fill_rows hF sz ps vs _ l' (ovArr cells (i * sz) (a.eval x).cells.toList) hvs h2 hw (by rw [hset]; simpa using hov)
      exact ⟨cells', e1, e2, by rw [e3]; simp, e4⟩
    · cases h2

theorem zero_rows {zs : List AV} {z : Value} (hzs : CellsR w.heap ρ Z zs z.cells.toList) (n : Nat) (hp : 0 < zs.length) :
    CellsR w.heap ρ Z (List.replicate n zs).flatten ((Array.range (n * zs.length)).map (z.cells[· % z.cells.size]!)).toList := by
  have hsz : z.cells.size = zs.length := by rw [hzs.1]; simp
  refine ⟨by simp, fun i c x h1 h2 => ?_⟩
  have hi := (List.getElem?_eq_some_iff.1 h1).1
  simp at hi
  have hq : i / zs.length < n := by
    rw [Nat.div_lt_iff_lt_mul hp]; exact hi
  have hm : i % zs.length < zs.length := Nat.mod_lt _ hp
  have hrow : (List.replicate n zs)[i / zs.length]? = some zs := by rw [List.getElem?_replicate, if_pos hq]
  have hf := flat_get zs.length (List.replicate n zs) (i / zs.length) (i % zs.length) zs (fun j r hr => by
    rw [List.getElem?_replicate] at hr
    split at hr <;> simp at hr
    rw [← hr]) hrow hm
  rw [show i / zs.length * zs.length + i % zs.length = i from by rw [Nat.mul_comm]; exact Nat.div_add_mod _ _] at hf
  rw [hf] at h1
  have hx : x = z.cells[i % z.cells.size]! := by
    simp [hi] at h2
    exact h2.symm
  rw [hx, hsz]
  refine hzs.2 _ _ _ h1 ?_
  have hlt : i % zs.length < z.cells.size := by omega
  simp [hlt]

theorem rows_of_flat {h : Array Obj} {sz : Nat} {l : List (List AV)} {xs : List Value} (hw : ∀ (i : Nat) r, l[i]? = some r → r.length = sz) (hr : CellsR h ρ Z l.flatten xs) (hc : l.all allCells = true) :
    ∀ (i : Nat) r (j : Nat) v, l[i]? = some r → r[j]? = some v → v.isCell = true ∧ ∃ y, xs[i * sz + j]? = some y ∧ Rl h ρ Z v y := by
  intro i r j v h1 h2
  have hj : j < sz := by rw [← hw i r h1]; exact (List.getElem?_eq_some_iff.1 h2).1
  have hf := flat_get sz l i j r hw h1 hj
  rw [h2] at hf
  have hlt : i * sz + j < xs.length := by rw [← hr.1]; exact (List.getElem?_eq_some_iff.1 hf).1
  refine ⟨?_, xs[i * sz + j], List.getElem?_eq_getElem hlt, hr.2 _ _ _ hf (List.getElem?_eq_getElem hlt)⟩
  have := (List.all_eq_true.1 hc) r (List.mem_of_getElem? h1)
  exact (List.all_eq_true.1 this) v (List.mem_of_getElem? h2)

theorem bslice_out {o : Oper} {t e : TypeId} {i : TypeInfo} {z : Value} {zs : List AV} {n : Nat} {ps : Array (Nat × Operand)} (hu : P.underlying t = some (.slice e)) (hi : P.info? e = some i) (hz : i.zero = some z) (hzs : constCells z = some zs)
    (hsz : zs.length = i.size) (h0 : i.size ≠ 0) (hmax : n * i.size ≤ 16777216) (ho : o.op = .buildSlice t n ps) (g : Good w.heap ρ Z H) (hF : FR w.heap ρ Z s a)
    (h : evalOp s H (.bslice e i.size n zs (parts2 ps.toList)) = some rs) : OpOut P w ρ Z H rs ((execOp a.eval o).run P w) := by
  simp only [evalOp, Option.bind_eq_some_iff] at h
  obtain ⟨qs, h1, l, h2, h3⟩ := h
  split at h3
  · rename_i hc
    have hz0 := (constCells_rl (h := w.heap) (ρ := ρ) (Z := Z) hzs).r
    have hzr := zero_rows hz0 n (by omega)
    rw [hsz] at hzr
    have hmap : (ps.map fun (i, x) => (i, a.eval x)).toList = ps.toList.map fun p => (p.1, a.eval p.2) := by simp
    obtain ⟨cells', hf, hr, hlen, hw⟩ := fill_rows hF i.size ps.toList qs _ l _ h1 h2 (fun j r hj => by
      rw [List.getElem?_replicate] at hj
      split at hj <;> simp at hj
      rw [← hj]; exact hsz) hzr
    have hlen' : l.length = n := by simpa using hlen
    have hrows := rows_of_flat hw hr hc
    have hcs : cells'.size = n * i.size := by
      have := hr.1
      rw [flat_len i.size l hw, hlen'] at this
      simpa using this.symm
    have hrun : (execOp a.eval o).run P w = .ok (.value (.slice (some ⟨w.heap.size, 0, none⟩) n n)) (w.alloc (.cells cells' e)) := by
      have hbig : ¬ (n * i.size > 2 ^ 24) := by omega
      simp only [execOp, ho, Instr.buildSlice, Sem.run_bind, run_underlying hu, run_sizeOf hi, Result.andThen_ok, hmap]
      rw [if_neg hbig]
      by_cases hn0 : n * i.size = 0
      · have hcells : ((Array.range (n * i.size)).map (z.cells[· % z.cells.size]!)) = ((Array.range (n * i.size)).map ((#[] : Array Value)[· % (#[] : Array Value).size]!)) := by rw [hn0]; simp [Array.range_zero']
        rw [hcells] at hf
        rw [if_pos hn0]
        simp only [Sem.run_bind, Sem.run_pure, Result.andThen_ok, hf, newRow, run_newObj]
        rfl
      · rw [if_neg hn0]
        simp only [Sem.run_bind, Sem.run_pure, run_zeroValue hi hz, Sem.run_map, Result.andThen_ok, hf, newRow, run_newObj]
        rfl
    split at h3
    · rename_i hn
      simp only [Option.some.injEq] at h3
      subst h3
      refine fresh_out (w1 := w) (x := .slice (some ⟨w.heap.size, 0, none⟩) n n) (cs := cells') (e := e) g rfl rfl rfl rfl hrun (fun _ _ q => q) (by simp) (by simp) (by simp) ?_
      intro id h' ρ' hρ hm
      subst hn
      exact .own id i.size 0 0 w.heap.size 0 0 0 0 cells'.size hρ (Nat.le_refl _) rfl (Nat.le_refl _) (.inl rfl) hm (by omega)
    · rename_i hn
      simp only [Option.some.injEq] at h3
      subst h3
      refine lit_out g hrun ?_
      have hpush : (w.heap.push (.cells cells' e))[w.heap.size]? = some (.cells cells' e) := by simp
      refine .rows _ _ _ _ _ _ (fun k => (cells'[k]?).getD undef) hlen'.symm (Nat.le_refl _) (fun _ => .inr rfl) hw (fun p r j v q1 q2 => (hrows p r j v q1 q2).1) ?_ ?_
      · intro p r j v q1 q2
        obtain ⟨_, y, hy, _⟩ := hrows p r j v q1 q2
        have hy' : cells'[p * i.size + j]? = some y := by simpa using hy
        unfold hcell
        rw [hpush]
        simp only [Nat.zero_add, hy', Option.getD_some]
      · intro p r j v q1 q2
        obtain ⟨_, y, hy, hry⟩ := hrows p r j v q1 q2
        have hy' : cells'[p * i.size + j]? = some y := by simpa using hy
        simp only [hy', Option.getD_some]
        exact hry.push _ (fun _ _ e => e) (fun _ e => .inl e)
  · cases h3

theorem bsliceO_out {o : Oper} {t e : TypeId} {i : TypeInfo} {z : Value} {zs : List AV} {n : Nat} {ps : Array (Nat × Operand)} (hu : P.underlying t = some (.slice e)) (hi : P.info? e = some i) (hz : i.zero = some z) (hzs : constCells z = some zs)
    (hsz : zs.length = i.size) (h0 : i.size ≠ 0) (hmax : n * i.size ≤ 16777216) (ho : o.op = .buildSlice t n ps) (g : Good w.heap ρ Z H) (hF : FR w.heap ρ Z s a)
    (h : evalOp s H (.bsliceO e i.size n zs (parts2 ps.toList)) = some rs) : OpOut P w ρ Z H rs ((execOp a.eval o).run P w) := by
  simp only [evalOp, Option.bind_eq_some_iff] at h
  obtain ⟨qs, h1, l, h2, h3⟩ := h
  split at h3
  · rename_i hc
    have hz0 := (constCells_rl (h := w.heap) (ρ := ρ) (Z := Z) hzs).r
    have hzr := zero_rows hz0 n (by omega)
    rw [hsz] at hzr
    have hmap : (ps.map fun (i, x) => (i, a.eval x)).toList = ps.toList.map fun p => (p.1, a.eval p.2) := by simp
    obtain ⟨cells', hf, hr, hlen, hw⟩ := fill_rows hF i.size ps.toList qs _ l _ h1 h2 (fun j r hj => by
      rw [List.getElem?_replicate] at hj
      split at hj <;> simp at hj
      rw [← hj]; exact hsz) hzr
    have hlen' : l.length = n := by simpa using hlen
    have hrows := rows_of_flat hw hr hc
    have hcs : cells'.size = n * i.size := by
      have := hr.1
      rw [flat_len i.size l hw, hlen'] at this
      simpa using this.symm
    have hrun : (execOp a.eval o).run P w = .ok (.value (.slice (some ⟨w.heap.size, 0, none⟩) n n)) (w.alloc (.cells cells' e)) := by
      have hbig : ¬ (n * i.size > 2 ^ 24) := by omega
      simp only [execOp, ho, Instr.buildSlice, Sem.run_bind, run_underlying hu, run_sizeOf hi, Result.andThen_ok, hmap]
      rw [if_neg hbig]
      by_cases hn0 : n * i.size = 0
      · have hcells : ((Array.range (n * i.size)).map (z.cells[· % z.cells.size]!)) = ((Array.range (n * i.size)).map ((#[] : Array Value)[· % (#[] : Array Value).size]!)) := by rw [hn0]; simp [Array.range_zero']
        rw [hcells] at hf
        rw [if_pos hn0]
        simp only [Sem.run_bind, Sem.run_pure, Result.andThen_ok, hf, newRow, run_newObj]
        rfl
      · rw [if_neg hn0]
        simp only [Sem.run_bind, Sem.run_pure, run_zeroValue hi hz, Sem.run_map, Result.andThen_ok, hf, newRow, run_newObj]
        rfl
    simp only [Option.some.injEq] at h3
    subst h3
    refine fresh_out (w1 := w) (x := .slice (some ⟨w.heap.size, 0, none⟩) n n) (cs := cells') (e := e) g rfl rfl rfl rfl hrun (fun _ _ q => q) (by rw [hlen', hcs]; omega) hw ?_ ?_
    · intro p r j u q1 q2
      obtain ⟨c1, y, c2, c3⟩ := hrows p r j u q1 q2
      exact ⟨c1, y, by rw [← Array.getElem?_toList]; exact c2, c3⟩
    · intro id h' ρ' hρ hm
      rw [hcs] at hm
      exact .own id i.size 0 n w.heap.size 0 0 n n _ hρ (Nat.zero_le _) (by omega) (Nat.le_refl _) (.inr (by omega)) hm (by simp)
  · cases h3

/-! ### make -/
theorem sameX_eval {l c : Operand} (h : sameX l c = true) : a.eval c = a.eval l := by
  unfold sameX at h
  split at h
  · simp at h; rw [h]
  · simp at h; rw [h]
  · cases h

theorem mks_out {o : Oper} {t e : TypeId} {i : TypeInfo} {z : Value} {zs : List AV} {l c : Operand} (hs : sameX l c = true) (hu : P.underlying t = some (.slice e)) (hi : P.info? e = some i) (hz : i.zero = some z) (hzs : constCells z = some zs)
    (hsz : zs.length = i.size) (h0 : i.size ≠ 0) (hb0 : i.bytes ≠ 0) (hc : allCells zs = true) (ho : o.op = .makeSlice t l c) (g : Good w.heap ρ Z H) (hF : FR w.heap ρ Z s a)
    (h : evalOp s H (.mks e i.size i.bytes zs (cx l)) = some rs) : OpOut P w ρ Z H rs ((execOp a.eval o).run P w) := by
  simp only [evalOp, Option.bind_eq_some_iff] at h
  obtain ⟨v, h1, h2⟩ := h
  have hr := ev_rl hF h1
  have hsame := sameX_eval (a := a) hs
  generalize el : a.eval l = lv at hr
  cases hr with
  | int k n =>
    simp only at h2
    split at h2 <;> simp only [Option.some.injEq, reduceCtorEq] at h2
    rename_i hcond
    obtain ⟨hn0, hbytes⟩ := hcond
    subst h2
    have hz0 := (constCells_rl (h := w.heap) (ρ := ρ) (Z := Z) hzs).r
    have hzr := zero_rows hz0 n.toNat (by omega)
    rw [hsz] at hzr
    have hw : ∀ (j : Nat) r, (List.replicate n.toNat zs)[j]? = some r → r.length = i.size := by
      intro j r hj
      rw [List.getElem?_replicate] at hj
      split at hj <;> simp at hj
      rw [← hj]; exact hsz
    have hrows := rows_of_flat hw hzr (by simp [List.all_replicate, hc])
    have hb1 : (1 : Int) ≤ i.bytes := by omega
    have hle : n * 1 ≤ n * (i.bytes : Int) := Int.mul_le_mul_of_nonneg_left hb1 hn0
    have hrun := run_make (P := P) w t e i z hu hi hz k k n n hn0 (Int.le_refl _) (by rw [Int.mul_comm]; omega) (by omega)
    refine fresh_out (w1 := w) (x := .slice (some ⟨w.heap.size, 0, none⟩) n.toNat n.toNat) (cs := madeCells z.cells (n.toNat * i.size)) (e := e) g rfl rfl rfl rfl ?_ (fun _ _ q => q) ?_ hw ?_ ?_
    · simp only [execOp, ho, el, hsame, Sem.run_bind, hrun, Result.andThen_ok, Sem.run_pure]
    · simp [size_madeCells]
    · intro p r j u q1 q2
      obtain ⟨c1, y, c2, c3⟩ := hrows p r j u q1 q2
      exact ⟨c1, y, by rw [← Array.getElem?_toList]; exact c2, c3⟩
    · intro id h' ρ' hρ hm
      rw [size_madeCells] at hm
      exact .own id i.size 0 n.toNat w.heap.size 0 0 n.toNat n.toNat _ hρ (Nat.zero_le _) (by omega) (Nat.le_refl _) (.inr (by omega)) hm (by simp)
  | _ => simp at h2

/-! ### Cutting -/
theorem evO_run (hF : FR w.heap ρ Z s a) {d n : Int} {lo : Option Operand} (h : evO s d (optX lo) = some n) : (lo = none ∧ n = d) ∨ ∃ x k, lo = some x ∧ a.eval x = .int k n := by
  cases lo with
  | none => simp [optX, evO] at h; exact .inl ⟨rfl, h.symm⟩
  | some x =>
    right
    simp only [optX, evO, Option.bind_eq_some_iff] at h
    obtain ⟨v, h1, h2⟩ := h
    have hr := ev_rl hF h1
    generalize ex : a.eval x = xv at hr
    cases hr with
    | int k m => simp at h2; subst h2; exact ⟨x, k, rfl, ex⟩
    | _ => simp at h2

theorem run_sliceBound' {k : IntKind} {i : Int} {y : Nat} {code : BoundsCode} (h : 0 ≤ i ∧ i ≤ y) : (Instr.sliceBound (.int k i) y code).run P w = .ok i.toNat w := by
  simp [Instr.sliceBound, asIntOf, h]

theorem run_bounds (hF : FR w.heap ρ Z s a) {isS : Bool} {len cap : Nat} {lo hi : Option Operand} {x y : Int} (hlo : evO s 0 (optX lo) = some x) (hhi : evO s len (optX hi) = some y) (h0 : 0 ≤ x) (h1 : x ≤ y) (h2 : y ≤ len) (hc : len ≤ cap) :
    (Instr.sliceBounds isS len cap (lo.map a.eval) (hi.map a.eval) none).run P w = .ok (x.toNat, y.toNat, cap) w := by
  rcases evO_run hF hlo with ⟨rfl, rfl⟩ | ⟨lx, kl, rfl, el⟩ <;> rcases evO_run hF hhi with ⟨rfl, rfl⟩ | ⟨hx, kh, rfl, eh⟩
  · simp [Instr.sliceBounds]
  · simp [Instr.sliceBounds, eh, run_sliceBound' (P := P) (w := w) (k := kh) (i := y) (y := cap) ⟨by omega, by omega⟩]
  · simp [Instr.sliceBounds, el, run_sliceBound' (P := P) (w := w) (k := kl) (i := x) (y := len) ⟨by omega, by omega⟩]
  · simp [Instr.sliceBounds, el, eh, run_sliceBound' (P := P) (w := w) (k := kh) (i := y) (y := cap) ⟨by omega, by omega⟩, run_sliceBound' (P := P) (w := w) (k := kl) (i := x) (y := y.toNat) ⟨by omega, by omega⟩]

theorem sliceStr_out {o : Oper} {t : TypeId} {x : Operand} {lo hi : Option Operand} (hu : P.underlying t = some .string) (ho : o.op = .slice t x lo hi none) (g : Good w.heap ρ Z H) (hF : FR w.heap ρ Z s a)
    (h : evalOp s H (.slice none (cx x) (optX lo) (optX hi)) = some rs) : OpOut P w ρ Z H rs ((execOp a.eval o).run P w) := by
  simp only [evalOp, Option.bind_eq_some_iff] at h
  obtain ⟨v, h1, r, h2, h3⟩ := h
  simp only [Option.some.injEq] at h3
  subst h3
  have hr := ev_rl hF h1
  generalize ex : a.eval x = xv at hr
  simp only [sliceA, Option.bind_eq_some_iff] at h2
  obtain ⟨n, hn, p, hp, q, hq, h4⟩ := h2
  cases hr with
  | str l b hb =>
    simp only [Option.isNone_some, Option.isNone_none, lenA, Option.some.injEq] at hn
    subst hn
    by_cases hc : 0 ≤ p ∧ p ≤ q ∧ q ≤ (l.length : Int)
    case neg => rw [if_neg hc] at h4; cases h4
    rw [if_pos hc] at h4
    simp only [cutA, Option.some.injEq] at h4
    subst h4
    have hbs : b.size = l.length := by rw [← hb]; simp
    have hbd := run_bounds (P := P) (isS := false) (cap := b.size) hF hp (by rw [hbs]; exact hq) hc.1 hc.2.1 (by omega) (Nat.le_refl _)
    refine OpOut.pure g (x := .string (b.extract p.toNat q.toNat)) ?_ (.str _ _ ?_)
    · simp [execOp, ho, ex, Instr.sliceAt, Instr.slice, run_underlying hu, hbd]
    · rw [show (b.extract p.toNat q.toNat).data.toList = (b.data.toList.drop p.toNat).take (q.toNat - p.toNat) from Lib.extract_data b _ _, hb, List.drop_take]
  | _ => simp [lenA] at hn

theorem sliceSl_out {o : Oper} {t e : TypeId} {i : TypeInfo} {x : Operand} {lo hi : Option Operand} (hu : P.underlying t = some (.slice e)) (hi' : P.info? e = some i) (ho : o.op = .slice t x lo hi none) (g : Good w.heap ρ Z H) (hF : FR w.heap ρ Z s a)
    (h : evalOp s H (.slice (some i.size) (cx x) (optX lo) (optX hi)) = some rs) : OpOut P w ρ Z H rs ((execOp a.eval o).run P w) := by
  simp only [evalOp, Option.bind_eq_some_iff] at h
  obtain ⟨v, h1, r, h2, h3⟩ := h
  simp only [Option.some.injEq] at h3
  subst h3
  have hr := ev_rl hF h1
  generalize ex : a.eval x = xv at hr
  simp only [sliceA, Option.bind_eq_some_iff] at h2
  obtain ⟨n, hn, p, hp, q, hq, h4⟩ := h2
  by_cases hc : 0 ≤ p ∧ p ≤ q ∧ q ≤ n
  case neg => rw [if_neg hc] at h4; cases h4
  rw [if_pos hc] at h4
  have run : ∀ (base : Option Addr) (len cap : Nat), xv = .slice base len cap → n = len → len ≤ cap →
      (execOp a.eval o).run P w = .ok (.value (.slice (if cap = p.toNat then base else base.map (·.add (p.toNat * i.size))) (q.toNat - p.toNat) (cap - p.toNat))) w := by
    intro base len cap e1 e2 e3
    subst e1
    subst e2
    have hbd := run_bounds (P := P) (isS := true) (cap := cap) hF hp hq hc.1 hc.2.1 hc.2.2 e3
    simp only [execOp, ho, ex, Instr.sliceAt, Instr.slice, run_underlying hu, Sem.run_bind, Result.andThen_ok, Option.map_none, hbd, run_sizeOf hi', Sem.run_pure]
  cases hr with
  | rows sz l b o' k c f hk hnc hz hww hcc hm hr =>
    simp only [Option.isNone_some, lenA, Option.some.injEq] at hn
    simp only [cutA] at h4
    split at h4 <;> simp only [Option.some.injEq, reduceCtorEq] at h4
    rename_i hsz
    simp only [Option.some.injEq] at hsz
    subst hsz
    subst h4
    have hrun := run _ _ _ rfl (by omega) hnc
    refine OpOut.pure g hrun ?_
    have hll : ((l.take q.toNat).drop p.toNat).length = q.toNat - p.toNat := by simp; omega
    by_cases e1 : c = p.toNat
    · rw [if_pos e1]
      have hnil : (l.take q.toNat).drop p.toNat = [] := List.eq_nil_of_length_eq_zero (by omega)
      rw [hnil]
      exact .rows _ _ _ _ _ _ (fun _ => undef) (by simp; omega) (by omega) (fun hp' => absurd hp' (by omega)) (by simp) (by simp) (by simp) (by simp)
    · rw [if_neg e1]
      have get : ∀ (j : Nat) r, ((l.take q.toNat).drop p.toNat)[j]? = some r → l[p.toNat + j]? = some r := by
        intro j r hj
        rw [List.getElem?_drop, List.getElem?_take] at hj
        split at hj
        · exact hj
        · cases hj
      simp only [Option.map_some, addr_add]
      refine .rows i.size _ b _ (q.toNat - p.toNat) (c - p.toNat) (fun k => f (p.toNat * i.size + k)) hll.symm (by omega) (fun hp' => hz (by omega)) (fun j r hj => hww _ _ (get j r hj)) (fun j r m u hj hu => hcc _ _ _ _ (get j r hj) hu) ?_ ?_
      · intro j r m u hj hu
        have := hm _ _ _ _ (get j r hj) hu
        have e2 : (p.toNat + j) * i.size + m = p.toNat * i.size + (j * i.size + m) := by rw [Nat.add_mul]; omega
        rw [e2] at this
        rw [← this, Nat.add_assoc]
      · intro j r m u hj hu
        have := hr _ _ _ _ (get j r hj) hu
        have e2 : (p.toNat + j) * i.size + m = p.toNat * i.size + (j * i.size + m) := by rw [Nat.add_mul]; omega
        rw [e2] at this
        exact this
  | rowsE sz ad c =>
    simp only [Option.isNone_some, lenA, Option.some.injEq] at hn
    simp only [cutA] at h4
    split at h4 <;> simp only [Option.some.injEq, reduceCtorEq] at h4
    subst h4
    have hn' : n = 0 := by simpa using hn.symm
    have hrun := run (some ad) 0 c rfl (by omega) (Nat.zero_le _)
    have hp0 : p.toNat = 0 := by omega
    have hq0 : q.toNat = 0 := by omega
    rw [hp0, hq0] at hrun ⊢
    refine OpOut.pure g hrun ?_
    simp only [Nat.zero_mul, Option.map_some, Nat.sub_zero]
    have e : (if c = 0 then some ad else some (ad.add 0)) = some ad := by split <;> simp [Addr.add]
    rw [e]
    simp
    exact .rowsE _ _ _
  | rowsN sz =>
    simp only [Option.isNone_some, lenA, Option.some.injEq] at hn
    simp only [cutA] at h4
    split at h4 <;> simp only [Option.some.injEq, reduceCtorEq] at h4
    subst h4
    have hn' : n = 0 := by simpa using hn.symm
    have hrun := run none 0 0 rfl (by omega) (Nat.le_refl _)
    have hp0 : p.toNat = 0 := by omega
    have hq0 : q.toNat = 0 := by omega
    rw [hp0, hq0] at hrun ⊢
    refine OpOut.pure g hrun ?_
    simp
    exact .rowsN _
  | nilS =>
    simp only [Option.isNone_some, Option.isNone_none, lenA, Option.some.injEq] at hn
    simp only [cutA, Option.some.injEq] at h4
    subst h4
    have hrun := run none 0 0 rfl (by omega) (Nat.le_refl _)
    have hp0 : p.toNat = 0 := by omega
    have hq0 : q.toNat = 0 := by omega
    rw [hp0, hq0] at hrun
    refine OpOut.pure g hrun ?_
    simp
    exact .nilS
  | own id sz l0 h0 b o0 o' k c m hρ hlo hk hnc ho' hm hcap =>
    simp only [Option.isNone_some, lenA, Option.some.injEq] at hn
    simp only [cutA] at h4
    split at h4 <;> simp only [Option.some.injEq, reduceCtorEq] at h4
    rename_i hsz
    simp only [Option.some.injEq] at hsz
    subst hsz
    subst h4
    have hrun := run _ _ _ rfl (by omega) hnc
    refine OpOut.pure g hrun ?_
    have hcm : (l0 + p.toNat + (c - p.toNat)) * i.size = (l0 + c) * i.size := by
      congr 1; omega
    by_cases e1 : c = p.toNat
    · rw [if_pos e1]
      exact .own _ _ _ _ b o0 o' _ _ m hρ (by omega) (by omega) (by omega) (.inl (by omega)) hm (by rw [hcm]; exact hcap)
    · rw [if_neg e1]
      simp only [Option.map_some, addr_add]
      refine .own _ _ _ _ b o0 _ _ _ m hρ (by omega) (by omega) (by omega) (.inr ?_) hm (by rw [hcm]; exact hcap)
      rcases ho' with e2 | e2
      · omega
      · rw [e2, Nat.add_mul]; omega
  | _ => simp [lenA] at hn

end
end Go.Proofs.Ytlmplofpclaokaa
