/- Each operation of the model does what the abstract operation says: append, and '==' of structs. -/
import Derived.Test.YtlmplofpclaokaaSimOps5
namespace Go.Proofs.Ytlmplofpclaokaa
set_option autoImplicit false
set_option linter.unusedSimpArgs false
set_option linter.unusedVariables false

section
variable {P : Program} {w : World} {ρ : Loc} {Z : Nat → Prop} {H : AH} {s : Fr} {a : Act} {rs : Rs}

theorem divmod (k sz : Nat) : k / sz * sz + k % sz = k := by rw [Nat.mul_comm]; exact Nat.div_add_mod k sz

/-- Rows that lie in memory, loaded. -/
theorem load_rows {b o sz : Nat} {ys : List (List AV)} (hw : ∀ (i : Nat) r, ys[i]? = some r → r.length = sz)
    (hv : ∀ (i : Nat) r (j : Nat) v, ys[i]? = some r → r[j]? = some v → v.isCell = true ∧ ∃ x, hcell w.heap b (o + (i * sz + j)) = some x ∧ Rl w.heap ρ Z v x) :
    ∃ news : List Value, CellsRl w.heap ρ Z ys.flatten news ∧ ∀ w1 : World, w1.heap = w.heap → (loadCells ⟨b, o, none⟩ (ys.length * sz)).run P w1 = .ok news.toArray w1 := by
  have hfl := flat_len sz ys hw
  have key : ∀ k, k < ys.length * sz → ∃ c x, ys.flatten[k]? = some c ∧ c.isCell = true ∧ hcell w.heap b (o + k) = some x ∧ Rl w.heap ρ Z c x := by
    intro k hk
    have hsz : 0 < sz := by
      rcases Nat.eq_zero_or_pos sz with e | e
      · subst e; simp at hk
      · exact e
    have hq : k / sz < ys.length := by rw [Nat.div_lt_iff_lt_mul hsz]; exact hk
    have hm : k % sz < sz := Nat.mod_lt _ hsz
    have h1 : ys[k / sz]? = some ys[k / sz] := List.getElem?_eq_getElem hq
    have h2 := flat_get sz ys (k / sz) (k % sz) _ hw h1 hm
    have hlen := hw _ _ h1
    have h3 : (ys[k / sz])[k % sz]? = some ((ys[k / sz])[k % sz]'(by omega)) := List.getElem?_eq_getElem (by omega)
    obtain ⟨c1, x, c2, c3⟩ := hv _ _ _ _ h1 h3
    rw [divmod] at h2 c2
    exact ⟨_, x, by rw [h2, h3], c1, c2, c3⟩
  refine ⟨(List.range (ys.length * sz)).map fun k => (hcell w.heap b (o + k)).getD undef, ⟨by rw [hfl]; simp, fun i c x h1 h2 => ?_⟩, fun w1 hw1 => ?_⟩
  · have hi : i < ys.length * sz := by rw [← hfl]; exact (List.getElem?_eq_some_iff.1 h1).1
    obtain ⟨c', x', e1, e2, e3, e4⟩ := key i hi
    rw [h1] at e1
    simp only [Option.some.injEq] at e1
    subst e1
    rw [List.getElem?_map, List.getElem?_range hi] at h2
    simp only [Option.map_some, Option.some.injEq] at h2
    rw [e3] at h2
    simp only [Option.getD_some] at h2
    subst h2
    exact ⟨e2, e4⟩
  · refine run_loadCells (P := P) w1 ⟨b, o, none⟩ _ (fun k => (hcell w.heap b (o + k)).getD undef) fun k hk => ?_
    obtain ⟨c', x', e1, e2, e3, e4⟩ := key k hk
    rw [addr_add, cell?_heap, hw1, e3]
    rfl

/-- What is appended. -/
theorem readS_rl (g : Good w.heap ρ Z H) {str : Bool} {sz : Nat} {z : AV} {y : Value} {ys : List (List AV)} (hr : Rl w.heap ρ Z z y) (h : readS H str sz z = some ys) :
    (∀ (i : Nat) r, ys[i]? = some r → r.length = sz) ∧ (str = true → sz = 1) ∧ ∃ news : List Value, CellsRl w.heap ρ Z ys.flatten news ∧
      (∀ w1 : World, w1.heap = w.heap → (Builtin.firstCells sz ys.length y).run P w1 = .ok news.toArray w1) ∧ Builtin.lenOf y = pure ys.length := by
  cases str with
  | true =>
    cases hr with
    | str l b hb =>
      simp only [readS] at h
      split at h <;> simp only [Option.some.injEq, reduceCtorEq] at h
      rename_i hsz
      subst hsz
      subst h
      have hw : ∀ (i : Nat) r, (l.map fun c : UInt8 => [AV.int .u8 (c.toNat : Int)])[i]? = some r → r.length = 1 := by
        intro i r hi
        rw [List.getElem?_map] at hi
        cases hl : l[i]? with
        | none => simp [hl] at hi
        | some c => simp [hl] at hi; subst hi; rfl
      have hfl : (l.map fun c : UInt8 => [AV.int .u8 (c.toNat : Int)]).flatten = l.map fun c : UInt8 => AV.int .u8 (c.toNat : Int) := by
        induction l generalizing b with
        | nil => rfl
        | cons c l ih =>
          simp only [List.map_cons, List.flatten_cons, List.singleton_append]
          rw [ih ⟨l.toArray⟩ rfl (fun i r hi => hw (i + 1) r (by simpa using hi))]
      have hsize : b.size = l.length := by rw [← hb]; simp
      refine ⟨hw, fun _ => rfl, l.map (fun c => .int .u8 (c.toNat : Int)), ?_, ?_, ?_⟩
      · rw [hfl]
        refine ⟨by simp, fun i c x h1 h2 => ?_⟩
        rw [List.getElem?_map] at h1 h2
        cases hl : l[i]? with
        | none => simp [hl] at h1
        | some q => simp [hl] at h1 h2; subst h1; subst h2; exact ⟨rfl, .int _ _⟩
      · intro w1 _
        simp only [Builtin.firstCells, Sem.run_pure]
        congr 1
        have e1 : b.extract 0 (l.map fun c : UInt8 => [AV.int .u8 (c.toNat : Int)]).length = b := by
          apply ByteArray.ext
          apply Array.ext'
          rw [show (b.extract 0 (l.map fun c : UInt8 => [AV.int .u8 (c.toNat : Int)]).length).data.toList = (b.data.toList.drop 0).take ((l.map fun c : UInt8 => [AV.int .u8 (c.toNat : Int)]).length - 0) from Lib.extract_data b _ _]
          simp [hb]
        rw [e1]
        apply Array.ext'
        simp [hb]
      · simp [Builtin.lenOf, hsize]
    | _ => simp [readS] at h
  | false =>
    cases hr with
    | rows sz' l b o n c f hn hnc hz hw hcc hm hr =>
      simp only [readS] at h
      split at h <;> simp only [Option.some.injEq, reduceCtorEq] at h
      rename_i hsz
      subst hsz
      subst h
      obtain ⟨news, h1, h2⟩ := load_rows (P := P) (w := w) (ρ := ρ) (Z := Z) (b := b) (o := o) hw (fun i r j v q1 q2 => ⟨hcc _ _ _ _ q1 q2, _, hm _ _ _ _ q1 q2, hr _ _ _ _ q1 q2⟩)
      exact ⟨hw, by simp, news, h1, fun w1 e => by simp only [Builtin.firstCells]; exact h2 w1 e, by simp [Builtin.lenOf, hn]⟩
    | rowsE sz' a c =>
      simp only [readS] at h
      split at h <;> simp only [Option.some.injEq, reduceCtorEq] at h
      subst h
      exact ⟨by simp, by simp, [], ⟨rfl, by simp⟩, fun w1 _ => by simp [Builtin.firstCells, loadCells, loadCellsFrom, Sem.run_pure], by simp [Builtin.lenOf]⟩
    | rowsN sz' =>
      simp only [readS] at h
      split at h <;> simp only [Option.some.injEq, reduceCtorEq] at h
      subst h
      exact ⟨by simp, by simp, [], ⟨rfl, by simp⟩, fun w1 _ => by simp [Builtin.firstCells], by simp [Builtin.lenOf]⟩
    | nilS =>
      simp only [readS, Option.some.injEq] at h
      subst h
      exact ⟨by simp, by simp, [], ⟨rfl, by simp⟩, fun w1 _ => by simp [Builtin.firstCells], by simp [Builtin.lenOf]⟩
    | own id sz' lo hi b o0 o n c m hρ hlo hn hnc ho hm hcap =>
      simp only [readS] at h
      cases hg : hget H id with
      | none => simp [hg] at h
      | some blk =>
        cases blk with
        | rows sz'' l =>
          simp only [hg] at h
          split at h <;> simp only [Option.some.injEq, reduceCtorEq] at h
          rename_i hc
          obtain ⟨e1, e2, hhi⟩ := hc
          subst e1
          subst e2
          subst h
          obtain ⟨b', o', hρ', cs, e, hb, hbsz, hws, hvs⟩ := g.blk id _ hg
          rw [hρ] at hρ'
          obtain ⟨rfl, rfl⟩ : b = b' ∧ o0 = o' := by simpa using hρ'
          have get : ∀ (j : Nat) r, ((l.take hi).drop lo)[j]? = some r → l[lo + j]? = some r := by
            intro j r hj
            rw [List.getElem?_drop, List.getElem?_take] at hj
            split at hj
            · exact hj
            · cases hj
          have hlen : ((l.take hi).drop lo).length = hi - lo := by simp; omega
          obtain ⟨news, h1, h2⟩ := load_rows (P := P) (w := w) (ρ := ρ) (Z := Z) (b := b) (o := o) (sz := sz') (ys := (l.take hi).drop lo) (fun i r q => hws _ _ (get i r q)) (fun i r j v q1 q2 => by
            obtain ⟨c1, x, c2, c3⟩ := hvs _ _ _ _ (get i r q1) q2
            refine ⟨c1, x, ?_, c3⟩
            have hi1 : i < ((l.take hi).drop lo).length := (List.getElem?_eq_some_iff.1 q1).1
            have ho' : o = o0 + lo * sz' := by
              rcases ho with e3 | e3
              · omega
              · exact e3
            unfold hcell
            rw [hb, ho']
            simp only
            rw [← c2]
            congr 1
            rw [Nat.add_mul]
            omega)
          exact ⟨fun i r q => hws _ _ (get i r q), by simp, news, h1, fun w1 e => by simp only [Builtin.firstCells]; exact h2 w1 e, by simp only [Builtin.lenOf]; rw [hlen, ← hn]⟩
    | _ => simp [readS] at h

theorem cells_append {h : Array Obj} {cs ds : List AV} {xs ys : List Value} (h1 : CellsRl h ρ Z cs xs) (h2 : CellsRl h ρ Z ds ys) : CellsRl h ρ Z (cs ++ ds) (xs ++ ys) := by
  refine ⟨by simp [h1.1, h2.1], fun i c x a b => ?_⟩
  have hl := h1.1
  by_cases hi : i < cs.length
  · rw [List.getElem?_append_left hi] at a
    rw [List.getElem?_append_left (by omega)] at b
    exact h1.2 i c x a b
  · rw [List.getElem?_append_right (by omega)] at a
    rw [List.getElem?_append_right (by omega), ← hl] at b
    exact h2.2 _ c x a b

theorem allCells_of {h : Array Obj} {sz : Nat} {l : List (List AV)} {xs : List Value} (hw : ∀ (i : Nat) r, l[i]? = some r → r.length = sz) (hr : CellsRl h ρ Z l.flatten xs) : l.all allCells = true := by
  rw [List.all_eq_true]
  intro r hr'
  rw [allCells, List.all_eq_true]
  intro v hv
  have hm : v ∈ l.flatten := List.mem_flatten.2 ⟨r, hr', hv⟩
  obtain ⟨i, hi, rfl⟩ := List.mem_iff_getElem.1 hm
  have hx : i < xs.length := by rw [← hr.1]; exact hi
  exact (hr.2 i _ _ (List.getElem?_eq_getElem hi) (List.getElem?_eq_getElem hx)).1

/-- What must hold of the types. -/
structure AppTy (P : Program) (str : Bool) (t u e : TypeId) (i : TypeInfo) (z : Value) (zs : List AV) : Prop where
  ht : P.underlying t = some (.slice e)
  hu : if str = true then P.underlying u = some .string else ∃ e', P.underlying u = some (.slice e')
  hi : P.info? e = some i
  hz : i.zero = some z
  hzs : constCells z = some zs
  hsz : zs.length = i.size
  hb : i.bytes ≠ 0

theorem AppTy.notInt {str : Bool} {t u e : TypeId} {i : TypeInfo} {z : Value} {zs : List AV} (q : AppTy P str t u e i z zs) : P.underlying u = some .string ∨ ∃ e', P.underlying u = some (.slice e') := by
  cases str with
  | true => exact .inl (by simpa using q.hu)
  | false =>
    have h := q.hu
    rw [if_neg (by simp)] at h
    exact .inr h

/-- Room enough: in place. -/
theorem run_append_in {str : Bool} {t u e ty : TypeId} {i : TypeInfo} {z : Value} {zs : List AV} (q : AppTy P str t u e i z zs) {base : Option Addr} {n c m : Nat} {y : Value} {news : List Value}
    (hl : Builtin.lenOf y = pure m) (hf : (Builtin.firstCells i.size m y).run P w = .ok news.toArray w) (hroom : n + m ≤ c) :
    (Builtin.append_ #[t, u] ty #[.slice base n c, y]).run P w = match base with
      | some b => ((storeCells (b.add (n * i.size)) news).run P w).andThen fun _ w' => .ok (.slice base (n + m) c) w'
      | none => .ok (.slice base (n + m) c) w := by
  rcases q.notInt with hd | ⟨e', hd⟩ <;> cases base <;> simp [Builtin.append_, run_underlying q.ht, run_underlying hd, run_sizeOf q.hi, hl, hroom, hf]

/-- No room: a new block. -/
theorem run_append_new {str : Bool} {t u e ty : TypeId} {i : TypeInfo} {z : Value} {zs : List AV} (q : AppTy P str t u e i z zs) {base : Option Addr} {n c m : Nat} {y : Value} {olds news : List Value}
    (hl : Builtin.lenOf y = pure m) (hf : (Builtin.firstCells i.size m y).run P w.drew = .ok news.toArray w.drew) (ho : (Builtin.firstCells i.size n (.slice base n c)).run P w.drew = .ok olds.toArray w.drew)
    (hroom : c < n + m) (hbytes : (n + m) * i.bytes ≤ 140737488355328) :
    ∃ cap, n + m ≤ cap ∧ (Builtin.append_ #[t, u] ty #[.slice base n c, y]).run P w = .ok (.slice (some ⟨w.heap.size, 0, none⟩) (n + m) cap)
      (w.drew.alloc (.cells (olds.toArray ++ news.toArray ++ Builtin.zeroCells z.cells (cap - (n + m))) e)) := by
  have h1 : ¬ (n + m ≤ c) := by omega
  have hb := q.hb
  have h2 : (n + m) * 1 ≤ (n + m) * i.bytes := Nat.mul_le_mul_left _ (by omega)
  have h3 : ¬ (((n + m : Nat) : Int) > IntKind.i64.max ∧ (false = true ∨ i.bytes = 0)) := by
    rintro ⟨_, h | h⟩
    · cases h
    · exact hb h
  have h4 : ¬ (Builtin.nextslicecap (n + m) c * i.bytes > 2 ^ 48) := by
    have := growslice_fits (need := n + m) (old := c) (bytes := i.bytes) hroom hbytes
    omega
  have h3' : ¬ (IntKind.i64.max < ((n : Int) + (m : Int)) ∧ i.bytes = 0) := fun h => hb h.2
  have h4' : ¬ (281474976710656 < Builtin.nextslicecap (n + m) c * i.bytes) := by omega
  refine ⟨grownCap w (n + m) c e, grownCap_ge _ _ _ _, ?_⟩
  rcases q.notInt with hd | ⟨e', hd⟩ <;>
    simp [Builtin.append_, run_underlying q.ht, run_underlying hd, run_sizeOf q.hi, hl, h1, typeInfo, q.hi, h3', h4', hb, Question.forced, hf, ho, run_zeroValue q.hi q.hz, newRow, grownCap] <;>
    (congr 2; apply Array.ext'; simp)

theorem append_out {o : Oper} {c : Call} {x y : Operand} {str : Bool} {t u e : TypeId} {i : TypeInfo} {z : Value} {zs : List AV} (q : AppTy P str t u e i z zs) (ho : o.op = .call c) (hc : c.callee = .builtin .append)
    (hx : c.args = #[x, y]) (ht : c.argTypes = #[t, u]) (g : Good w.heap ρ Z H) (hF : FR w.heap ρ Z s a) (h : evalOp s H (.append e str i.size i.bytes (cx x) (cx y)) = some rs) : OpOut P w ρ Z H rs ((execOp a.eval o).run P w) := by
  simp only [evalOp, Option.bind_eq_some_iff] at h
  obtain ⟨v, h1, zv, h2, ys, h3, h4⟩ := h
  have hrx := ev_rl hF h1
  have hry := ev_rl hF h2
  generalize ex : a.eval x = xv at hrx
  generalize ey : a.eval y = yv at hry
  obtain ⟨hwy, hstr, news, hcy, hfy, hly⟩ := readS_rl (P := P) g hry h3
  have hzl : z.cells.size = i.size := by
    have := (constCells_rl (h := w.heap) (ρ := ρ) (Z := Z) q.hzs).1
    rw [q.hsz] at this
    simpa using this.symm
  have hnl : news.length = ys.length * i.size := by rw [← hcy.1, flat_len i.size ys hwy]
  have run0 : ∀ r, (Builtin.append_ #[t, u] o.type #[xv, yv]).run P w = r → (execOp a.eval o).run P w = r.andThen fun v w' => .ok (.value v) w' := by
    intro r hr
    simp [execOp, ho, resolve, hc, hx, ht, ex, ey, invoke, builtin, hr]
  cases hrx with
  | nilS =>
    simp only at h4
    split at h4
    · rename_i he
      simp only [Option.some.injEq] at h4
      subst h4
      subst he
      have := run_append_in (ty := o.type) q (base := none) (n := 0) (c := 0) hly (hfy w rfl) (by simp)
      exact OpOut.pure g (by rw [run0 _ this]; rfl) .nilS
    · rename_i he
      split at h4 <;> simp only [Option.some.injEq, reduceCtorEq] at h4
      rename_i hb
      subst h4
      have hpos : 0 < ys.length := by
        cases ys with
        | nil => exact absurd rfl he
        | cons => simp
      obtain ⟨cap, hcap, hrun⟩ := run_append_new (ty := o.type) q (base := none) (n := 0) (c := 0) (olds := []) hly (hfy w.drew rfl) (by simp [Builtin.firstCells]) (by omega) (by simpa using hb)
      simp only [Nat.zero_add] at hcap hrun
      have hrows := rows_of_flat hwy hcy.r (allCells_of hwy hcy)
      refine fresh_out (w1 := w.drew) (x := .slice (some ⟨w.heap.size, 0, none⟩) ys.length cap) (e := e) g rfl rfl rfl rfl (by rw [run0 _ hrun]; rfl) (fun _ _ q => q) ?_ hwy ?_ ?_
      · simp [hnl]
      · intro p r j v q1 q2
        obtain ⟨c1, y', c2, c3⟩ := hrows p r j v q1 q2
        refine ⟨c1, y', ?_, c3⟩
        have hlt := (List.getElem?_eq_some_iff.1 c2).1
        rw [Array.getElem?_append_left (by simp; omega)]
        simpa using c2
      · intro id h' ρ' hρ hm
        refine .own id i.size 0 ys.length w.heap.size 0 0 ys.length cap _ hρ (Nat.zero_le _) rfl hcap (.inr (by omega)) hm ?_
        simp only [Array.size_append, size_zeroCells, hzl, List.size_toArray, List.length_nil, hnl, Nat.zero_add]
        rw [← Nat.add_mul]
        exact Nat.mul_le_mul_right _ (by omega)
  | own id sz' lo hi b o0 o' n cp m hρ hlo hn hnc ho' hm hcap =>
    simp only [Option.bind_eq_some_iff] at h4
    obtain ⟨xs, h5, h6⟩ := h4
    split at h6 <;> simp only [Option.some.injEq, reduceCtorEq] at h6
    rename_i hcd
    obtain ⟨hsz, hlohi0, htagid, hbytes⟩ := hcd
    have hlohi : lo ≤ hi := hlo
    subst hsz
    subst h6
    obtain ⟨hwx, _, olds, hcxs, hfx, hlx⟩ := readS_rl (P := P) g (Rl.own id _ lo hi b o0 o' n cp m hρ hlo hn hnc ho' hm hcap) h5
    have hxn : xs.length = n := by
      have : (Builtin.lenOf (.slice (some ⟨b, o', none⟩) n cp)).run P w = .ok n w := rfl
      rw [hlx] at this
      simp at this
      exact this
    have hol : olds.length = n * i.size := by rw [← hcxs.1, flat_len i.size xs hwx, hxn]
    have hwxy : ∀ (k : Nat) r, (xs ++ ys)[k]? = some r → r.length = i.size := by
      intro k r hk
      by_cases hkx : k < xs.length
      · rw [List.getElem?_append_left hkx] at hk; exact hwx k r hk
      · rw [List.getElem?_append_right (by omega)] at hk; exact hwy _ r hk
    have hfl : (xs ++ ys).flatten = xs.flatten ++ ys.flatten := by simp
    have hcxy : CellsRl w.heap ρ Z (xs ++ ys).flatten (olds ++ news) := by rw [hfl]; exact cells_append hcxs hcy
    have hrows := rows_of_flat hwxy hcxy.r (allCells_of hwxy hcxy)
    by_cases hroom : n + ys.length ≤ cp
    · -- in place
      simp only [readS] at h5
      cases hg : hget H id with
      | none => simp [hg] at h5
      | some blk =>
        cases blk with
        | rows sz'' l =>
          simp only [hg] at h5
          split at h5 <;> simp only [Option.some.injEq, reduceCtorEq] at h5
          rename_i hcd
          obtain ⟨e1, _, hhi⟩ := hcd
          subst e1
          obtain ⟨b', o2, hρ', cs, et, hb, hbsz, hws, hvs⟩ := g.blk id _ hg
          rw [hρ] at hρ'
          obtain ⟨rfl, rfl⟩ : b = b' ∧ o0 = o2 := by simpa using hρ'
          have hlt := (Array.getElem?_eq_some_iff.1 hb).1
          have hown : Own ρ H b := ⟨id, _, o0, hg, hρ⟩
          have hZ : ¬ Z b := g.notZ b hown
          have hmcs : m = cs.size := by unfold hsize at hm; rw [hb] at hm; simpa using hm.symm
          have hone : ∀ u ∈ news, u.oneCell' = true := by
            intro u hu
            obtain ⟨k, hk, rfl⟩ := List.mem_iff_getElem.1 hu
            have hk' : k < ys.flatten.length := by rw [hcy.1]; exact hk
            obtain ⟨c1, c2⟩ := hcy.2 k _ _ (List.getElem?_eq_getElem hk') (List.getElem?_eq_getElem hk)
            exact c2.one c1
          have hin := run_append_in (ty := o.type) q (base := some ⟨b, o', none⟩) (n := n) (c := cp) hly (hfy w rfl) hroom
          simp only [addr_add] at hin
          -- where the row begins
          obtain ⟨o1, ho1, ho1d, ho1c⟩ : ∃ o1, (cp = 0 ∨ o' = o1) ∧ (o1 = o0 ∨ o1 = o0 + lo * i.size) ∧ o1 + cp * i.size ≤ cs.size := by
            rcases ho' with e3 | e3
            · exact ⟨o0, .inl e3, .inl rfl, by rw [e3]; simp; omega⟩
            · refine ⟨o', .inr rfl, .inr e3, ?_⟩
              rw [e3, ← hmcs, Nat.add_assoc, ← Nat.add_mul]
              exact hcap
          have hnm : (n + ys.length) * i.size ≤ cp * i.size := Nat.mul_le_mul_right _ hroom
          rw [Nat.add_mul] at hnm
          have hfit : ys.length * i.size = 0 ∨ (o' = o1 ∧ o' + n * i.size + news.length ≤ cs.size) := by
            rcases ho1 with e3 | e3
            · left
              have : ys.length = 0 := by omega
              rw [this]; simp
            · right
              exact ⟨e3, by rw [hnl]; omega⟩
          -- the store
          have hst : ∃ cs', (storeCells ⟨b, o' + n * i.size, none⟩ news).run P w = .ok () { w with heap := w.heap.setIfInBounds b (.cells cs' et (0, 0)) } ∧ cs'.size = cs.size ∧
              ∀ k, cs'[o1 + k]? = if n * i.size ≤ k ∧ k < n * i.size + news.length then news[k - n * i.size]? else cs[o1 + k]? := by
            rcases hfit with e3 | ⟨e3, e4⟩
            · have hnil : news = [] := List.eq_nil_of_length_eq_zero (by rw [hnl]; exact e3)
              subst hnil
              refine ⟨cs, ?_, rfl, fun k => by rw [if_neg (by simp)]⟩
              have : w.heap.setIfInBounds b (.cells cs et (0, 0)) = w.heap := by
                apply Array.ext_getElem?
                intro k
                rw [getset _ _ _ _ hlt]
                split
                · rename_i e5; rw [e5]; exact hb.symm
                · rfl
              simp only [storeCells, Sem.run_pure]
              rw [this]
            · refine ⟨_, run_storeCells' (P := P) b (o' + n * i.size) et news 0 cs w hb (by omega) hone, size_ovArr _ _ _, fun k => ?_⟩
              rw [get_ovArr _ _ _ _ (by omega)]
              subst e3
              by_cases hk : n * i.size ≤ k ∧ k < n * i.size + news.length
              · rw [if_pos hk, if_pos (by omega)]
                congr 1
                omega
              · rw [if_neg hk, if_neg (by omega)]
          obtain ⟨cs', hst, hsz', hget'⟩ := hst
          rw [hst] at hin
          simp only [Result.andThen_ok] at hin
          intro nid hnid hnt
          have het : et = e := by
            obtain ⟨_, m', h7⟩ := g.ty id b o0 hρ
            unfold hty at h7
            rw [hb] at h7
            simp only [Option.some.injEq, Prod.mk.injEq] at h7
            rw [h7.2, htagid]
          have ho00 : o0 = 0 := (g.ty id b o0 hρ).1
          have ho10 : o1 = 0 := by
            rcases ho1d with e3 | e3
            · rw [e3, ho00]
            · rw [e3, ho00, hlohi0]; simp
          have hup := upd_mono (ρ := ρ) (p := (b, o1)) hnid
          have hne : nid ≠ id := fun e3 => by rw [e3, hρ] at hnid; cases hnid
          have up : ∀ v x, Rl w.heap ρ Z v x → Rl (w.heap.setIfInBounds b (.cells cs' et (0, 0))) (upd ρ nid (b, o1)) Z v x := fun v x r => r.write hb hsz' hZ hup
          have hdel : ∀ j bl, hget (hdel H id) j = some bl → j ≠ id ∧ hget H j = some bl := by
            intro j bl hj
            rw [hget_hdel] at hj
            split at hj
            · cases hj
            · rename_i e3; exact ⟨e3, hj⟩
          refine ⟨.slice (some ⟨b, o', none⟩) (n + ys.length) cp, _, upd ρ nid (b, o1), by rw [run0 _ hin]; rfl, fun j hj => by simp [upd, hj], ?_, ?_, ?_⟩
          · refine ⟨fun j bl hj => ?_, fun p r a1 a2 u v o3 o4 e1 e2 e3 e4 hpr => ?_, fun k hk hz => ?_, fun k hk => by simpa using g.zlt k hk, ?_, fun j k o hj => ?_⟩
            · simp only [hget] at hj
              split at hj
              · rename_i e1
                subst e1
                simp only [Option.some.injEq] at hj
                subst hj
                refine ⟨b, o1, by simp [upd], cs', et, by simp only [getset _ _ _ _ hlt, if_true], ?_, hwxy, fun p r k u q1 q2 => ?_⟩
                · rw [hsz', List.length_append, hxn, Nat.add_mul]; omega
                · obtain ⟨c1, y', c2, c3⟩ := hrows p r k u q1 q2
                  refine ⟨c1, y', ?_, up _ _ c3⟩
                  rw [hget']
                  have hpk : p * i.size + k < olds.length + news.length := by
                    have := (List.getElem?_eq_some_iff.1 c2).1
                    simpa using this
                  by_cases hk : n * i.size ≤ p * i.size + k ∧ p * i.size + k < n * i.size + news.length
                  · rw [if_pos hk]
                    rw [List.getElem?_append_right (by omega), hol] at c2
                    exact c2
                  · rw [if_neg hk]
                    have hlo2 : p * i.size + k < n * i.size := by omega
                    rw [List.getElem?_append_left (by omega)] at c2
                    -- an old cell
                    have hpn : p < xs.length := by
                      rw [hxn]
                      rcases Nat.lt_or_ge p n with e3 | e3
                      · exact e3
                      · have := Nat.mul_le_mul_right i.size e3
                        omega
                    have hcp : cp ≠ 0 := by omega
                    have ho1' : o' = o1 := by
                      rcases ho1 with e3 | e3
                      · exact absurd e3 hcp
                      · exact e3
                    have hoo : o' = o0 + lo * i.size := by
                      rcases ho' with e3 | e3
                      · exact absurd e3 hcp
                      · exact e3
                    have hload := hfx w rfl
                    simp only [Builtin.firstCells] at hload
                    rw [hxn, run_loadCells (P := P) w ⟨b, o', none⟩ (n * i.size) (fun k => (cs[o' + k]?).getD undef) (fun k hk => by
                      rw [addr_add, cell?_heap]
                      unfold hcell
                      rw [hb]
                      have : o' + k < cs.size := by omega
                      simp [this])] at hload
                    simp only [Result.ok.injEq, and_true] at hload
                    have hol2 : olds = (List.range (n * i.size)).map fun k => (cs[o' + k]?).getD undef := by
                      have := congrArg Array.toList hload
                      simpa using this.symm
                    rw [hol2, List.getElem?_map, List.getElem?_range hlo2] at c2
                    simp only [Option.map_some, Option.some.injEq] at c2
                    rw [← ho1']
                    have hlt2 : o' + (p * i.size + k) < cs.size := by omega
                    rw [← c2, Array.getElem?_eq_getElem hlt2]
                    rfl
              · rename_i e1
                obtain ⟨e2, e3⟩ := hdel _ _ hj
                obtain ⟨b2, o3, h7, h8⟩ := g.blk j bl e3
                exact ⟨b2, o3, hup _ _ h7, h8.write hb hsz' hZ hup fun e4 => g.inj j id _ _ _ _ _ _ e3 hg h7 hρ e2 e4⟩
            · simp only [hget] at e1 e2
              unfold upd at e3 e4
              split at e1 <;> split at e2
              · rename_i f1 f2; exact absurd (f1.trans f2.symm) hpr
              · rename_i f1 f2
                rw [if_pos f1] at e3
                rw [if_neg f2] at e4
                simp only [Option.some.injEq, Prod.mk.injEq] at e3
                obtain ⟨f3, f4⟩ := hdel _ _ e2
                rw [← e3.1]
                exact fun f5 => g.inj r id _ _ _ _ _ _ f4 hg e4 hρ f3 f5.symm
              · rename_i f1 f2
                rw [if_neg f1] at e3
                rw [if_pos f2] at e4
                simp only [Option.some.injEq, Prod.mk.injEq] at e4
                obtain ⟨f3, f4⟩ := hdel _ _ e1
                rw [← e4.1]
                exact fun f5 => g.inj p id _ _ _ _ _ _ f4 hg e3 hρ f3 f5
              · rename_i f1 f2
                rw [if_neg f1] at e3
                rw [if_neg f2] at e4
                exact g.inj p r a1 a2 u v o3 o4 (hdel _ _ e1).2 (hdel _ _ e2).2 e3 e4 hpr
            · rcases hk.upd (w := w) (hsub_del H id) hnid g with hk | hk
              · exact g.notZ k hk hz
              · simp only at hk; exact hZ (by rw [← hk]; exact hz)
            · obtain ⟨N, hN⟩ := g.ids
              refine ⟨max N (nid + 1), fun j hj => ?_⟩
              unfold upd
              rw [if_neg (by omega)]
              exact hN j (by omega)
            · unfold upd at hj
              split at hj
              · rename_i e1
                subst e1
                simp only [Option.some.injEq, Prod.mk.injEq] at hj
                obtain ⟨rfl, rfl⟩ := hj
                refine ⟨ho10, cs'.size, ?_⟩
                unfold hty
                simp only [getset _ _ _ _ hlt, if_true]
                rw [hnt, het]
              · obtain ⟨h1, m', h2⟩ := g.ty j k o hj
                refine ⟨h1, m', ?_⟩
                unfold hty at *
                simp only [getset _ _ _ _ hlt]
                by_cases e1 : k = b
                · subst e1
                  rw [if_pos rfl]
                  rw [hb] at h2
                  simpa [hsz'] using h2
                · rw [if_neg e1]
                  exact h2
          · rw [hxn]
            refine .own nid i.size 0 (n + ys.length) b o1 o' (n + ys.length) cp cs.size (by simp [upd]) (Nat.zero_le _) rfl hroom ?_ ?_ (by rw [Nat.zero_add]; exact ho1c)
            · rcases ho1 with e3 | e3
              · exact .inl e3
              · exact .inr (by omega)
            · unfold Go.Proofs.Ytlmplofpclaokaa.hsize
              simp only [getset _ _ _ _ hlt, if_true]
              rw [hsz']
          · refine ⟨by simp, fun k hk hO => ?_, fun k m' hm' => ?_, fun _ r => r, fun _ r => .inl r, hup, fun k hk => ?_, rfl, rfl, rfl⟩
            · simp only [getset _ _ _ _ hlt]
              rw [if_neg (fun e1 => hO (by rw [e1]; exact hown))]
            · unfold Go.Proofs.Ytlmplofpclaokaa.hty at *
              simp only [getset _ _ _ _ hlt]
              by_cases e1 : k = b
              · subst e1
                rw [if_pos rfl]
                rw [hb] at hm'
                simpa [hsz'] using hm'
              · rw [if_neg e1]
                exact hm'
            · rcases hk.upd (w := w) (hsub_del H id) hnid g with hk | hk
              · exact .inl hk
              · simp at hk; exact .inl (by rw [hk]; exact hown)
    · obtain ⟨cap, hcap', hrun⟩ := run_append_new (ty := o.type) q (base := some ⟨b, o', none⟩) (n := n) (c := cp) (olds := olds) hly (hfy w.drew rfl) (by rw [← hxn]; exact hfx w.drew rfl) (by omega) (by rw [← hxn]; exact hbytes)
      rw [hxn]
      refine fresh_out (w1 := w.drew) (x := .slice (some ⟨w.heap.size, 0, none⟩) (n + ys.length) cap) (e := e) g rfl rfl rfl rfl (by rw [run0 _ hrun]; rfl) (hsub_del H id) ?_ hwxy ?_ ?_
      · simp only [Array.size_append, List.size_toArray, hnl, hol, List.length_append, hxn, Nat.add_mul]; omega
      · intro p r j v q1 q2
        obtain ⟨c1, y', c2, c3⟩ := hrows p r j v q1 q2
        refine ⟨c1, y', ?_, c3⟩
        have hlt := (List.getElem?_eq_some_iff.1 c2).1
        rw [Array.getElem?_append_left (by simpa using hlt)]
        simpa using c2
      · intro id' h' ρ' hρ' hm'
        refine .own id' i.size 0 (n + ys.length) w.heap.size 0 0 (n + ys.length) cap _ hρ' (Nat.zero_le _) rfl hcap' (.inr (by omega)) hm' ?_
        simp only [Array.size_append, size_zeroCells, hzl, List.size_toArray, hnl, hol, Nat.zero_add]
        rw [← Nat.add_mul, ← Nat.add_mul]
        exact Nat.mul_le_mul_right _ (by omega)
  | _ => simp at h4

end
end Go.Proofs.Ytlmplofpclaokaa
