/- Texts of this proof, one behind the other: SimOps6, SimEq, SimOps7, SimOp, SimCall, SimReg, SimDraw, SimAny, SimAny2, SimAny3, SimRng. -/
import Derived.Test.YtjaigpidmngaaaaGreatPkT1
import Derived.ChangeKeysEq
import Derived.Laws.BytesString
import Derived.Laws.IdiomStrings
import Derived.Lib.Builder
import Derived.Lib.UnsafeStr
set_option autoImplicit false
set_option linter.unusedSimpArgs false
set_option linter.unusedVariables false
namespace Go.Proofs.YtjaigpidmngaaaaGreat
section
variable {P : Program} {w : World} {ρ : Loc} {Z : Nat → Prop} {H : AH} {s : Fr} {a : Act} {rs : Rs}
theorem divmod (k sz : Nat) : k / sz * sz + k % sz = k := by rw [Nat.mul_comm]; exact Nat.div_add_mod k sz
theorem load_rows {b o sz : Nat} {ys : List (List AV)} (hw : ∀ (i : Nat) r, ys[i]? = some r → r.length = sz)
    (hv : ∀ (i : Nat) r (j : Nat) v, ys[i]? = some r → r[j]? = some v → v.isCell = true ∧ ∃ x, hcell w.heap b (o + (i * sz + j)) = some x ∧ Rl w.heap ρ Z v x) :
    ∃ news : List Value, CellsRl w.heap ρ Z ys.flatten news ∧ ∀ w1 : World, w1.heap = w.heap → (loadCells ⟨b, o, none⟩ (ys.length * sz)).run P w1 = .ok news.toArray w1 := by
  have hfl := flat_len sz ys hw
  have key : ∀ k, k < ys.length * sz → ∃ c x, ys.flatten[k]? = some c ∧ c.isCell = true ∧ hcell w.heap b (o + k) = some x ∧ Rl w.heap ρ Z c x := by
    intro k hk
    have hsz : 0 < sz := by
      rcases Nat.eq_zero_or_pos sz with e | e
      · subst e; simp at hk
      · exact e
    have hq : k / sz < ys.length := by rw [Nat.div_lt_iff_lt_mul hsz]; exact hk
    have hm : k % sz < sz := Nat.mod_lt _ hsz
    have h1 : ys[k / sz]? = some ys[k / sz] := List.getElem?_eq_getElem hq
    have h2 := flat_get sz ys (k / sz) (k % sz) _ hw h1 hm
    have hlen := hw _ _ h1
    have h3 : (ys[k / sz])[k % sz]? = some ((ys[k / sz])[k % sz]'(by omega)) := List.getElem?_eq_getElem (by omega)
    obtain ⟨c1, x, c2, c3⟩ := hv _ _ _ _ h1 h3
    rw [divmod] at h2 c2
    exact ⟨_, x, by rw [h2, h3], c1, c2, c3⟩
  refine ⟨(List.range (ys.length * sz)).map fun k => (hcell w.heap b (o + k)).getD undef, ⟨by rw [hfl]; simp, fun i c x h1 h2 => ?_⟩, fun w1 hw1 => ?_⟩
  · have hi : i < ys.length * sz := by rw [← hfl]; exact (List.getElem?_eq_some_iff.1 h1).1
    obtain ⟨c', x', e1, e2, e3, e4⟩ := key i hi
    rw [h1] at e1
    simp only [Option.some.injEq] at e1
    subst e1
    rw [List.getElem?_map, List.getElem?_range hi] at h2
    simp only [Option.map_some, Option.some.injEq] at h2
    rw [e3] at h2
    simp only [Option.getD_some] at h2
    subst h2
    exact ⟨e2, e4⟩
  · refine run_loadCells (P := P) w1 ⟨b, o, none⟩ _ (fun k => (hcell w.heap b (o + k)).getD undef) fun k hk => ?_
    obtain ⟨c', x', e1, e2, e3, e4⟩ := key k hk
    rw [addr_add, cell?_heap, hw1, e3]
    rfl
theorem readS_rl (g : Good w.heap ρ Z H) {str : Bool} {sz : Nat} {z : AV} {y : Value} {ys : List (List AV)} (hr : Rl w.heap ρ Z z y) (h : readS H str sz z = some ys) :
    (∀ (i : Nat) r, ys[i]? = some r → r.length = sz) ∧ (str = true → sz = 1) ∧ ∃ news : List Value, CellsRl w.heap ρ Z ys.flatten news ∧
      (∀ w1 : World, w1.heap = w.heap → (Builtin.firstCells sz ys.length y).run P w1 = .ok news.toArray w1) ∧ Builtin.lenOf y = pure ys.length := by
  cases str with
  | true =>
    cases hr with
    | str l b hb =>
      simp only [readS] at h
      split at h <;> simp only [Option.some.injEq, reduceCtorEq] at h
      rename_i hsz
      subst hsz
      subst h
      have hw : ∀ (i : Nat) r, (l.map fun c : UInt8 => [AV.int .u8 (c.toNat : Int)])[i]? = some r → r.length = 1 := by
        intro i r hi
        rw [List.getElem?_map] at hi
        cases hl : l[i]? with
        | none => simp [hl] at hi
        | some c => simp [hl] at hi; subst hi; rfl
      have hfl : (l.map fun c : UInt8 => [AV.int .u8 (c.toNat : Int)]).flatten = l.map fun c : UInt8 => AV.int .u8 (c.toNat : Int) := by
        induction l generalizing b with
        | nil => rfl
        | cons c l ih =>
          simp only [List.map_cons, List.flatten_cons, List.singleton_append]
          rw [ih ⟨l.toArray⟩ rfl (fun i r hi => hw (i + 1) r (by simpa using hi))]
      have hsize : b.size = l.length := by rw [← hb]; simp
      refine ⟨hw, fun _ => rfl, l.map (fun c => .int .u8 (c.toNat : Int)), ?_, ?_, ?_⟩
      · rw [hfl]
        refine ⟨by simp, fun i c x h1 h2 => ?_⟩
        rw [List.getElem?_map] at h1 h2
        cases hl : l[i]? with
        | none => simp [hl] at h1
        | some q => simp [hl] at h1 h2; subst h1; subst h2; exact ⟨rfl, .int _ _⟩
      · intro w1 _
        simp only [Builtin.firstCells, Sem.run_pure]
        congr 1
        have e1 : b.extract 0 (l.map fun c : UInt8 => [AV.int .u8 (c.toNat : Int)]).length = b := by
          apply ByteArray.ext
          apply Array.ext'
          rw [show (b.extract 0 (l.map fun c : UInt8 => [AV.int .u8 (c.toNat : Int)]).length).data.toList = (b.data.toList.drop 0).take ((l.map fun c : UInt8 => [AV.int .u8 (c.toNat : Int)]).length - 0) from Lib.extract_data b _ _]
          simp [hb]
        rw [e1]
        apply Array.ext'
        simp [hb]
      · simp [Builtin.lenOf, hsize]
    | _ => simp [readS] at h
  | false =>
    cases hr with
    | rows sz' l b o n c f hn hnc hz hw hcc hm hr =>
      simp only [readS] at h
      split at h <;> simp only [Option.some.injEq, reduceCtorEq] at h
      rename_i hsz
      subst hsz
      subst h
      obtain ⟨news, h1, h2⟩ := load_rows (P := P) (w := w) (ρ := ρ) (Z := Z) (b := b) (o := o) hw (fun i r j v q1 q2 => ⟨hcc _ _ _ _ q1 q2, _, hm _ _ _ _ q1 q2, hr _ _ _ _ q1 q2⟩)
      exact ⟨hw, by simp, news, h1, fun w1 e => by simp only [Builtin.firstCells]; exact h2 w1 e, by simp [Builtin.lenOf, hn]⟩
    | rowsE sz' a c =>
      simp only [readS] at h
      split at h <;> simp only [Option.some.injEq, reduceCtorEq] at h
      subst h
      exact ⟨by simp, by simp, [], ⟨rfl, by simp⟩, fun w1 _ => by simp [Builtin.firstCells, loadCells, loadCellsFrom, Sem.run_pure], by simp [Builtin.lenOf]⟩
    | rowsN sz' =>
      simp only [readS] at h
      split at h <;> simp only [Option.some.injEq, reduceCtorEq] at h
      subst h
      exact ⟨by simp, by simp, [], ⟨rfl, by simp⟩, fun w1 _ => by simp [Builtin.firstCells], by simp [Builtin.lenOf]⟩
    | nilS =>
      simp only [readS, Option.some.injEq] at h
      subst h
      exact ⟨by simp, by simp, [], ⟨rfl, by simp⟩, fun w1 _ => by simp [Builtin.firstCells], by simp [Builtin.lenOf]⟩
    | own id sz' lo hi b o0 o n c m hρ hlo hn hnc ho hm hcap =>
      simp only [readS] at h
      cases hg : hget H id with
      | none => simp [hg] at h
      | some blk =>
        cases blk with
        | loop L => simp [hg] at h
        | rows sz'' l =>
          simp only [hg] at h
          split at h <;> simp only [Option.some.injEq, reduceCtorEq] at h
          rename_i hc
          obtain ⟨e1, e2, hhi⟩ := hc
          subst e1
          subst e2
          subst h
          obtain ⟨b', o', hρ', cs, e, hb, hbsz, hws, hvs⟩ := g.blk id _ hg
          rw [hρ] at hρ'
          obtain ⟨rfl, rfl⟩ : b = b' ∧ o0 = o' := by simpa using hρ'
          have get : ∀ (j : Nat) r, ((l.take hi).drop lo)[j]? = some r → l[lo + j]? = some r := by
            intro j r hj
            rw [List.getElem?_drop, List.getElem?_take] at hj
            split at hj
            · exact hj
            · cases hj
          have hlen : ((l.take hi).drop lo).length = hi - lo := by simp; omega
          obtain ⟨news, h1, h2⟩ := load_rows (P := P) (w := w) (ρ := ρ) (Z := Z) (b := b) (o := o) (sz := sz') (ys := (l.take hi).drop lo) (fun i r q => hws _ _ (get i r q)) (fun i r j v q1 q2 => by
            obtain ⟨c1, x, c2, c3⟩ := hvs _ _ _ _ (get i r q1) q2
            refine ⟨c1, x, ?_, c3⟩
            have hi1 : i < ((l.take hi).drop lo).length := (List.getElem?_eq_some_iff.1 q1).1
            have ho' : o = o0 + lo * sz' := by
              rcases ho with e3 | e3
              · omega
              · exact e3
            unfold hcell
            rw [hb, ho']
            simp only
            rw [← c2]
            congr 1
            rw [Nat.add_mul]
            omega)
          exact ⟨fun i r q => hws _ _ (get i r q), by simp, news, h1, fun w1 e => by simp only [Builtin.firstCells]; exact h2 w1 e, by simp only [Builtin.lenOf]; rw [hlen, ← hn]⟩
    | _ => simp [readS] at h
theorem cells_append {h : Array Obj} {cs ds : List AV} {xs ys : List Value} (h1 : CellsRl h ρ Z cs xs) (h2 : CellsRl h ρ Z ds ys) : CellsRl h ρ Z (cs ++ ds) (xs ++ ys) := by
  refine ⟨by simp [h1.1, h2.1], fun i c x a b => ?_⟩
  have hl := h1.1
  by_cases hi : i < cs.length
  · rw [List.getElem?_append_left hi] at a
    rw [List.getElem?_append_left (by omega)] at b
    exact h1.2 i c x a b
  · rw [List.getElem?_append_right (by omega)] at a
    rw [List.getElem?_append_right (by omega), ← hl] at b
    exact h2.2 _ c x a b
theorem allCells_of {h : Array Obj} {sz : Nat} {l : List (List AV)} {xs : List Value} (hw : ∀ (i : Nat) r, l[i]? = some r → r.length = sz) (hr : CellsRl h ρ Z l.flatten xs) : l.all allCells = true := by
  rw [List.all_eq_true]
  intro r hr'
  rw [allCells, List.all_eq_true]
  intro v hv
  have hm : v ∈ l.flatten := List.mem_flatten.2 ⟨r, hr', hv⟩
  obtain ⟨i, hi, rfl⟩ := List.mem_iff_getElem.1 hm
  have hx : i < xs.length := by rw [← hr.1]; exact hi
  exact (hr.2 i _ _ (List.getElem?_eq_getElem hi) (List.getElem?_eq_getElem hx)).1
structure AppTy (P : Program) (str : Bool) (t u e : TypeId) (i : TypeInfo) (z : Value) (zs : List AV) : Prop where
  ht : P.underlying t = some (.slice e)
  hu : if str = true then P.underlying u = some .string else ∃ e', P.underlying u = some (.slice e')
  hi : P.info? e = some i
  hz : i.zero = some z
  hzs : constCells z = some zs
  hsz : zs.length = i.size
  hb : i.bytes ≠ 0
theorem AppTy.notInt {str : Bool} {t u e : TypeId} {i : TypeInfo} {z : Value} {zs : List AV} (q : AppTy P str t u e i z zs) : P.underlying u = some .string ∨ ∃ e', P.underlying u = some (.slice e') := by
  cases str with
  | true => exact .inl (by simpa using q.hu)
  | false =>
    have h := q.hu
    rw [if_neg (by simp)] at h
    exact .inr h
theorem run_append_in {str : Bool} {t u e ty : TypeId} {i : TypeInfo} {z : Value} {zs : List AV} (q : AppTy P str t u e i z zs) {base : Option Addr} {n c m : Nat} {y : Value} {news : List Value}
    (hl : Builtin.lenOf y = pure m) (hf : (Builtin.firstCells i.size m y).run P w = .ok news.toArray w) (hroom : n + m ≤ c) :
    (Builtin.append_ #[t, u] ty #[.slice base n c, y]).run P w = match base with
      | some b => ((storeCells (b.add (n * i.size)) news).run P w).andThen fun _ w' => .ok (.slice base (n + m) c) w'
      | none => .ok (.slice base (n + m) c) w := by
  rcases q.notInt with hd | ⟨e', hd⟩ <;> cases base <;> simp [Builtin.append_, run_underlying q.ht, run_underlying hd, run_sizeOf q.hi, hl, hroom, hf]
theorem run_append_new {str : Bool} {t u e ty : TypeId} {i : TypeInfo} {z : Value} {zs : List AV} (q : AppTy P str t u e i z zs) {base : Option Addr} {n c m : Nat} {y : Value} {olds news : List Value}
    (hl : Builtin.lenOf y = pure m) (hf : (Builtin.firstCells i.size m y).run P w.drew = .ok news.toArray w.drew) (ho : (Builtin.firstCells i.size n (.slice base n c)).run P w.drew = .ok olds.toArray w.drew)
    (hroom : c < n + m) (hbytes : (n + m) * i.bytes ≤ 140737488355328) :
    ∃ cap, n + m ≤ cap ∧ (Builtin.append_ #[t, u] ty #[.slice base n c, y]).run P w = .ok (.slice (some ⟨w.heap.size, 0, none⟩) (n + m) cap)
      (w.drew.alloc (.cells (olds.toArray ++ news.toArray ++ Builtin.zeroCells z.cells (cap - (n + m))) e)) := by
  have h1 : ¬ (n + m ≤ c) := by omega
  have hb := q.hb
  have h2 : (n + m) * 1 ≤ (n + m) * i.bytes := Nat.mul_le_mul_left _ (by omega)
  have h3 : ¬ (((n + m : Nat) : Int) > IntKind.i64.max ∧ (false = true ∨ i.bytes = 0)) := by
    rintro ⟨_, h | h⟩
    · cases h
    · exact hb h
  have h4 : ¬ (Builtin.nextslicecap (n + m) c * i.bytes > 2 ^ 48) := by
    have := growslice_fits (need := n + m) (old := c) (bytes := i.bytes) hroom hbytes
    omega
  have h3' : ¬ (IntKind.i64.max < ((n : Int) + (m : Int)) ∧ i.bytes = 0) := fun h => hb h.2
  have h4' : ¬ (281474976710656 < Builtin.nextslicecap (n + m) c * i.bytes) := by omega
  refine ⟨grownCap w (n + m) c e, grownCap_ge _ _ _ _, ?_⟩
  rcases q.notInt with hd | ⟨e', hd⟩ <;>
    simp [Builtin.append_, run_underlying q.ht, run_underlying hd, run_sizeOf q.hi, hl, h1, typeInfo, q.hi, h3', h4', hb, Question.forced, hf, ho, run_zeroValue q.hi q.hz, newRow, grownCap] <;>
    (congr 2; apply Array.ext'; simp)
theorem append_out {o : Oper} {c : Call} {x y : Operand} {str : Bool} {t u e : TypeId} {i : TypeInfo} {z : Value} {zs : List AV} (q : AppTy P str t u e i z zs) (ho : o.op = .call c) (hc : c.callee = .builtin .append)
    (hx : c.args = #[x, y]) (ht : c.argTypes = #[t, u]) (g : Good w.heap ρ Z H) (hF : FR w.heap ρ Z s a) (h : evalOp s H (.append e str i.size i.bytes (cx x) (cx y)) = some rs) : OpOut P w ρ Z H rs ((execOp a.eval o).run P w) := by
  simp only [evalOp, Option.bind_eq_some_iff] at h
  obtain ⟨v, h1, zv, h2, ys, h3, h4⟩ := h
  have hrx := ev_rl hF h1
  have hry := ev_rl hF h2
  generalize ex : a.eval x = xv at hrx
  generalize ey : a.eval y = yv at hry
  obtain ⟨hwy, hstr, news, hcy, hfy, hly⟩ := readS_rl (P := P) g hry h3
  have hzl : z.cells.size = i.size := by
    have := (constCells_rl (h := w.heap) (ρ := ρ) (Z := Z) q.hzs).1
    rw [q.hsz] at this
    simpa using this.symm
  have hnl : news.length = ys.length * i.size := by rw [← hcy.1, flat_len i.size ys hwy]
  have run0 : ∀ r, (Builtin.append_ #[t, u] o.type #[xv, yv]).run P w = r → (execOp a.eval o).run P w = r.andThen fun v w' => .ok (.value v) w' := by
    intro r hr
    simp [execOp, ho, resolve, hc, hx, ht, ex, ey, invoke, builtin, hr]
  cases hrx with
  | nilS =>
    simp only at h4
    split at h4
    · rename_i he
      simp only [Option.some.injEq] at h4
      subst h4
      subst he
      have := run_append_in (ty := o.type) q (base := none) (n := 0) (c := 0) hly (hfy w rfl) (by simp)
      exact OpOut.pure g (by rw [run0 _ this]; rfl) .nilS
    · rename_i he
      split at h4 <;> simp only [Option.some.injEq, reduceCtorEq] at h4
      rename_i hb
      subst h4
      have hpos : 0 < ys.length := by
        cases ys with
        | nil => exact absurd rfl he
        | cons => simp
      obtain ⟨cap, hcap, hrun⟩ := run_append_new (ty := o.type) q (base := none) (n := 0) (c := 0) (olds := []) hly (hfy w.drew rfl) (by simp [Builtin.firstCells]) (by omega) (by simpa using hb)
      simp only [Nat.zero_add] at hcap hrun
      have hrows := rows_of_flat hwy hcy.r (allCells_of hwy hcy)
      refine fresh_out (w1 := w.drew) (x := .slice (some ⟨w.heap.size, 0, none⟩) ys.length cap) (e := e) g rfl rfl rfl rfl (by rw [run0 _ hrun]; rfl) (fun _ _ q => q) ?_ hwy ?_ ?_
      · simp [hnl]
      · intro p r j v q1 q2
        obtain ⟨c1, y', c2, c3⟩ := hrows p r j v q1 q2
        refine ⟨c1, y', ?_, c3⟩
        have hlt := (List.getElem?_eq_some_iff.1 c2).1
        rw [Array.getElem?_append_left (by simp; omega)]
        simpa using c2
      · intro id h' ρ' hρ hm
        refine .own id i.size 0 ys.length w.heap.size 0 0 ys.length cap _ hρ (Nat.zero_le _) rfl hcap (.inr (by omega)) hm ?_
        simp only [Array.size_append, size_zeroCells, hzl, List.size_toArray, List.length_nil, hnl, Nat.zero_add]
        rw [← Nat.add_mul]
        exact Nat.mul_le_mul_right _ (by omega)
  | emp b0 o0 =>
    simp only at h4
    split at h4
    · rename_i he
      simp only [Option.some.injEq] at h4
      subst h4
      subst he
      have := run_append_in (ty := o.type) q (base := some ⟨b0, o0, none⟩) (n := 0) (c := 0) hly (hfy w rfl) (by simp)
      have hnl0 : news = [] := List.eq_nil_of_length_eq_zero (by rw [hnl]; simp)
      subst hnl0
      exact OpOut.pure g (by rw [run0 _ this]; simp [storeCells]) (.emp b0 o0)
    · rename_i he
      split at h4 <;> simp only [Option.some.injEq, reduceCtorEq] at h4
      rename_i hb
      subst h4
      have hpos : 0 < ys.length := by
        cases ys with
        | nil => exact absurd rfl he
        | cons => simp
      obtain ⟨cap, hcap, hrun⟩ := run_append_new (ty := o.type) q (base := some ⟨b0, o0, none⟩) (n := 0) (c := 0) (olds := []) hly (hfy w.drew rfl) (by simp [Builtin.firstCells, loadCells, loadCellsFrom, Sem.run_pure]) (by omega) (by simpa using hb)
      simp only [Nat.zero_add] at hcap hrun
      have hrows := rows_of_flat hwy hcy.r (allCells_of hwy hcy)
      refine fresh_out (w1 := w.drew) (x := .slice (some ⟨w.heap.size, 0, none⟩) ys.length cap) (e := e) g rfl rfl rfl rfl (by rw [run0 _ hrun]; rfl) (fun _ _ q => q) ?_ hwy ?_ ?_
      · simp [hnl]
      · intro p r j v q1 q2
        obtain ⟨c1, y', c2, c3⟩ := hrows p r j v q1 q2
        refine ⟨c1, y', ?_, c3⟩
        have hlt := (List.getElem?_eq_some_iff.1 c2).1
        rw [Array.getElem?_append_left (by simp; omega)]
        simpa using c2
      · intro id h' ρ' hρ hm
        refine .own id i.size 0 ys.length w.heap.size 0 0 ys.length cap _ hρ (Nat.zero_le _) rfl hcap (.inr (by omega)) hm ?_
        simp only [Array.size_append, size_zeroCells, hzl, List.size_toArray, List.length_nil, hnl, Nat.zero_add]
        rw [← Nat.add_mul]
        exact Nat.mul_le_mul_right _ (by omega)
  | own id sz' lo hi b o0 o' n cp m hρ hlo hn hnc ho' hm hcap =>
    simp only [Option.bind_eq_some_iff] at h4
    obtain ⟨xs, h5, h6⟩ := h4
    split at h6 <;> simp only [Option.some.injEq, reduceCtorEq] at h6
    rename_i hcd
    obtain ⟨hsz, hlohi0, htagid, hbytes⟩ := hcd
    have hlohi : lo ≤ hi := hlo
    subst hsz
    subst h6
    obtain ⟨hwx, _, olds, hcxs, hfx, hlx⟩ := readS_rl (P := P) g (Rl.own id _ lo hi b o0 o' n cp m hρ hlo hn hnc ho' hm hcap) h5
    have hxn : xs.length = n := by
      have : (Builtin.lenOf (.slice (some ⟨b, o', none⟩) n cp)).run P w = .ok n w := rfl
      rw [hlx] at this
      simp at this
      exact this
    have hol : olds.length = n * i.size := by rw [← hcxs.1, flat_len i.size xs hwx, hxn]
    have hwxy : ∀ (k : Nat) r, (xs ++ ys)[k]? = some r → r.length = i.size := by
      intro k r hk
      by_cases hkx : k < xs.length
      · rw [List.getElem?_append_left hkx] at hk; exact hwx k r hk
      · rw [List.getElem?_append_right (by omega)] at hk; exact hwy _ r hk
    have hfl : (xs ++ ys).flatten = xs.flatten ++ ys.flatten := by simp
    have hcxy : CellsRl w.heap ρ Z (xs ++ ys).flatten (olds ++ news) := by rw [hfl]; exact cells_append hcxs hcy
    have hrows := rows_of_flat hwxy hcxy.r (allCells_of hwxy hcxy)
    by_cases hroom : n + ys.length ≤ cp
    · -- in place
      simp only [readS] at h5
      cases hg : hget H id with
      | none => simp [hg] at h5
      | some blk =>
        cases blk with
        | loop L => simp [hg] at h5
        | rows sz'' l =>
          simp only [hg] at h5
          split at h5 <;> simp only [Option.some.injEq, reduceCtorEq] at h5
          rename_i hcd
          obtain ⟨e1, _, hhi⟩ := hcd
          subst e1
          obtain ⟨b', o2, hρ', cs, et, hb, hbsz, hws, hvs⟩ := g.blk id _ hg
          rw [hρ] at hρ'
          obtain ⟨rfl, rfl⟩ : b = b' ∧ o0 = o2 := by simpa using hρ'
          have hlt := (Array.getElem?_eq_some_iff.1 hb).1
          have hown : Own ρ H b := ⟨id, _, o0, hg, hρ⟩
          have hZ : ¬ Z b := g.notZ b hown
          have hmcs : m = cs.size := by unfold hsize at hm; rw [hb] at hm; simpa using hm.symm
          have hone : ∀ u ∈ news, u.oneCell' = true := by
            intro u hu
            obtain ⟨k, hk, rfl⟩ := List.mem_iff_getElem.1 hu
            have hk' : k < ys.flatten.length := by rw [hcy.1]; exact hk
            obtain ⟨c1, c2⟩ := hcy.2 k _ _ (List.getElem?_eq_getElem hk') (List.getElem?_eq_getElem hk)
            exact c2.one c1
          have hin := run_append_in (ty := o.type) q (base := some ⟨b, o', none⟩) (n := n) (c := cp) hly (hfy w rfl) hroom
          simp only [addr_add] at hin
          obtain ⟨o1, ho1, ho1d, ho1c⟩ : ∃ o1, (cp = 0 ∨ o' = o1) ∧ (o1 = o0 ∨ o1 = o0 + lo * i.size) ∧ o1 + cp * i.size ≤ cs.size := by
            rcases ho' with e3 | e3
            · exact ⟨o0, .inl e3, .inl rfl, by rw [e3]; simp; omega⟩
            · refine ⟨o', .inr rfl, .inr e3, ?_⟩
              rw [e3, ← hmcs, Nat.add_assoc, ← Nat.add_mul]
              exact hcap
          have hnm : (n + ys.length) * i.size ≤ cp * i.size := Nat.mul_le_mul_right _ hroom
          rw [Nat.add_mul] at hnm
          have hfit : ys.length * i.size = 0 ∨ (o' = o1 ∧ o' + n * i.size + news.length ≤ cs.size) := by
            rcases ho1 with e3 | e3
            · left
              have : ys.length = 0 := by omega
              rw [this]; simp
            · right
              exact ⟨e3, by rw [hnl]; omega⟩
          have hst : ∃ cs', (storeCells ⟨b, o' + n * i.size, none⟩ news).run P w = .ok () { w with heap := w.heap.setIfInBounds b (.cells cs' et (0, 0)) } ∧ cs'.size = cs.size ∧
              ∀ k, cs'[o1 + k]? = if n * i.size ≤ k ∧ k < n * i.size + news.length then news[k - n * i.size]? else cs[o1 + k]? := by
            rcases hfit with e3 | ⟨e3, e4⟩
            · have hnil : news = [] := List.eq_nil_of_length_eq_zero (by rw [hnl]; exact e3)
              subst hnil
              refine ⟨cs, ?_, rfl, fun k => by rw [if_neg (by simp)]⟩
              have : w.heap.setIfInBounds b (.cells cs et (0, 0)) = w.heap := by
                apply Array.ext_getElem?
                intro k
                rw [getset _ _ _ _ hlt]
                split
                · rename_i e5; rw [e5]; exact hb.symm
                · rfl
              simp only [storeCells, Sem.run_pure]
              rw [this]
            · refine ⟨_, run_storeCells' (P := P) b (o' + n * i.size) et news 0 cs w hb (by omega) hone, size_ovArr _ _ _, fun k => ?_⟩
              rw [get_ovArr _ _ _ _ (by omega)]
              subst e3
              by_cases hk : n * i.size ≤ k ∧ k < n * i.size + news.length
              · rw [if_pos hk, if_pos (by omega)]
                congr 1
                omega
              · rw [if_neg hk, if_neg (by omega)]
          obtain ⟨cs', hst, hsz', hget'⟩ := hst
          rw [hst] at hin
          simp only [Result.andThen_ok] at hin
          intro nid hnid hnt
          have het : et = e := by
            obtain ⟨_, m', h7⟩ := g.ty id b o0 hρ
            unfold hty at h7
            rw [hb] at h7
            simp only [Option.some.injEq, Prod.mk.injEq] at h7
            rw [h7.2, htagid]
          have ho00 : o0 = 0 := (g.ty id b o0 hρ).1
          have ho10 : o1 = 0 := by
            rcases ho1d with e3 | e3
            · rw [e3, ho00]
            · rw [e3, ho00, hlohi0]; simp
          have hup := upd_mono (ρ := ρ) (p := (b, o1)) hnid
          have hne : nid ≠ id := fun e3 => by rw [e3, hρ] at hnid; cases hnid
          have up : ∀ v x, Rl w.heap ρ Z v x → Rl (w.heap.setIfInBounds b (.cells cs' et (0, 0))) (upd ρ nid (b, o1)) Z v x := fun v x r => r.write hb hsz' hZ hup
          have hdel : ∀ j bl, hget (hdel H id) j = some bl → j ≠ id ∧ hget H j = some bl := by
            intro j bl hj
            rw [hget_hdel] at hj
            split at hj
            · cases hj
            · rename_i e3; exact ⟨e3, hj⟩
          refine ⟨.slice (some ⟨b, o', none⟩) (n + ys.length) cp, _, upd ρ nid (b, o1), by rw [run0 _ hin]; rfl, fun j hj => by simp [upd, hj], ?_, ?_, ?_⟩
          · refine ⟨fun j bl hj => ?_, fun p r a1 a2 u v o3 o4 e1 e2 e3 e4 hpr => ?_, fun k hk hz => ?_, fun k hk => by simpa using g.zlt k hk, ?_, fun j k o hj => ?_, g.tab.of (fun _ q => q) (fun b' q => by simp only [getset _ _ _ _ hlt]; rw [if_neg (fun e1 => hZ (by rw [← e1]; exact q))])⟩
            · simp only [hget] at hj
              split at hj
              · rename_i e1
                subst e1
                simp only [Option.some.injEq] at hj
                subst hj
                refine ⟨b, o1, by simp [upd], cs', et, by simp only [getset _ _ _ _ hlt, if_true], ?_, hwxy, fun p r k u q1 q2 => ?_⟩
                · rw [hsz', List.length_append, hxn, Nat.add_mul]; omega
                · obtain ⟨c1, y', c2, c3⟩ := hrows p r k u q1 q2
                  refine ⟨c1, y', ?_, up _ _ c3⟩
                  rw [hget']
                  have hpk : p * i.size + k < olds.length + news.length := by
                    have := (List.getElem?_eq_some_iff.1 c2).1
                    simpa using this
                  by_cases hk : n * i.size ≤ p * i.size + k ∧ p * i.size + k < n * i.size + news.length
                  · rw [if_pos hk]
                    rw [List.getElem?_append_right (by omega), hol] at c2
                    exact c2
                  · rw [if_neg hk]
                    have hlo2 : p * i.size + k < n * i.size := by omega
                    rw [List.getElem?_append_left (by omega)] at c2
                    have hpn : p < xs.length := by
                      rw [hxn]
                      rcases Nat.lt_or_ge p n with e3 | e3
                      · exact e3
                      · have := Nat.mul_le_mul_right i.size e3
                        omega
                    have hcp : cp ≠ 0 := by omega
                    have ho1' : o' = o1 := by
                      rcases ho1 with e3 | e3
                      · exact absurd e3 hcp
                      · exact e3
                    have hoo : o' = o0 + lo * i.size := by
                      rcases ho' with e3 | e3
                      · exact absurd e3 hcp
                      · exact e3
                    have hload := hfx w rfl
                    simp only [Builtin.firstCells] at hload
                    rw [hxn, run_loadCells (P := P) w ⟨b, o', none⟩ (n * i.size) (fun k => (cs[o' + k]?).getD undef) (fun k hk => by
                      rw [addr_add, cell?_heap]
                      unfold hcell
                      rw [hb]
                      have : o' + k < cs.size := by omega
                      simp [this])] at hload
                    simp only [Result.ok.injEq, and_true] at hload
                    have hol2 : olds = (List.range (n * i.size)).map fun k => (cs[o' + k]?).getD undef := by
                      have := congrArg Array.toList hload
                      simpa using this.symm
                    rw [hol2, List.getElem?_map, List.getElem?_range hlo2] at c2
                    simp only [Option.map_some, Option.some.injEq] at c2
                    rw [← ho1']
                    have hlt2 : o' + (p * i.size + k) < cs.size := by omega
                    rw [← c2, Array.getElem?_eq_getElem hlt2]
                    rfl
              · rename_i e1
                obtain ⟨e2, e3⟩ := hdel _ _ hj
                obtain ⟨b2, o3, h7, h8⟩ := g.blk j bl e3
                exact ⟨b2, o3, hup _ _ h7, h8.write hb hsz' hZ hup fun e4 => g.inj j id _ _ _ _ _ _ e3 hg h7 hρ e2 e4⟩
            · simp only [hget] at e1 e2
              unfold upd at e3 e4
              split at e1 <;> split at e2
              · rename_i f1 f2; exact absurd (f1.trans f2.symm) hpr
              · rename_i f1 f2
                rw [if_pos f1] at e3
                rw [if_neg f2] at e4
                simp only [Option.some.injEq, Prod.mk.injEq] at e3
                obtain ⟨f3, f4⟩ := hdel _ _ e2
                rw [← e3.1]
                exact fun f5 => g.inj r id _ _ _ _ _ _ f4 hg e4 hρ f3 f5.symm
              · rename_i f1 f2
                rw [if_neg f1] at e3
                rw [if_pos f2] at e4
                simp only [Option.some.injEq, Prod.mk.injEq] at e4
                obtain ⟨f3, f4⟩ := hdel _ _ e1
                rw [← e4.1]
                exact fun f5 => g.inj p id _ _ _ _ _ _ f4 hg e3 hρ f3 f5
              · rename_i f1 f2
                rw [if_neg f1] at e3
                rw [if_neg f2] at e4
                exact g.inj p r a1 a2 u v o3 o4 (hdel _ _ e1).2 (hdel _ _ e2).2 e3 e4 hpr
            · rcases hk.upd (w := w) (hsub_del H id) hnid g with hk | hk
              · exact g.notZ k hk hz
              · simp only at hk; exact hZ (by rw [← hk]; exact hz)
            · obtain ⟨N, hN⟩ := g.ids
              refine ⟨max N (nid + 1), fun j hj => ?_⟩
              unfold upd
              rw [if_neg (by omega)]
              exact hN j (by omega)
            · unfold upd at hj
              split at hj
              · rename_i e1
                subst e1
                simp only [Option.some.injEq, Prod.mk.injEq] at hj
                obtain ⟨rfl, rfl⟩ := hj
                refine ⟨ho10, cs'.size + 1, ?_⟩
                unfold hty
                simp only [getset _ _ _ _ hlt, if_true]
                rw [hnt, het]
              · obtain ⟨h1, m', h2⟩ := g.ty j k o hj
                refine ⟨h1, m', ?_⟩
                unfold hty at *
                simp only [getset _ _ _ _ hlt]
                by_cases e1 : k = b
                · subst e1
                  rw [if_pos rfl]
                  rw [hb] at h2
                  simpa [hsz'] using h2
                · rw [if_neg e1]
                  exact h2
          · rw [hxn]
            refine .own nid i.size 0 (n + ys.length) b o1 o' (n + ys.length) cp cs.size (by simp [upd]) (Nat.zero_le _) rfl hroom ?_ ?_ (by rw [Nat.zero_add]; exact ho1c)
            · rcases ho1 with e3 | e3
              · exact .inl e3
              · exact .inr (by omega)
            · unfold Go.Proofs.YtjaigpidmngaaaaGreat.hsize
              simp only [getset _ _ _ _ hlt, if_true]
              rw [hsz']
          · refine ⟨by simp, fun k hk hO => ?_, fun k m' hm' => ?_, fun _ r => r, fun _ r => .inl r, hup, fun k hk => ?_, rfl, rfl, rfl⟩
            · simp only [getset _ _ _ _ hlt]
              rw [if_neg (fun e1 => hO (by rw [e1]; exact hown))]
            · unfold Go.Proofs.YtjaigpidmngaaaaGreat.hty at *
              simp only [getset _ _ _ _ hlt]
              by_cases e1 : k = b
              · subst e1
                rw [if_pos rfl]
                rw [hb] at hm'
                simpa [hsz'] using hm'
              · rw [if_neg e1]
                exact hm'
            · rcases hk.upd (w := w) (hsub_del H id) hnid g with hk | hk
              · exact .inl hk
              · simp at hk; exact .inl (by rw [hk]; exact hown)
    · obtain ⟨cap, hcap', hrun⟩ := run_append_new (ty := o.type) q (base := some ⟨b, o', none⟩) (n := n) (c := cp) (olds := olds) hly (hfy w.drew rfl) (by rw [← hxn]; exact hfx w.drew rfl) (by omega) (by rw [← hxn]; exact hbytes)
      rw [hxn]
      refine fresh_out (w1 := w.drew) (x := .slice (some ⟨w.heap.size, 0, none⟩) (n + ys.length) cap) (e := e) g rfl rfl rfl rfl (by rw [run0 _ hrun]; rfl) (hsub_del H id) ?_ hwxy ?_ ?_
      · simp only [Array.size_append, List.size_toArray, hnl, hol, List.length_append, hxn, Nat.add_mul]; omega
      · intro p r j v q1 q2
        obtain ⟨c1, y', c2, c3⟩ := hrows p r j v q1 q2
        refine ⟨c1, y', ?_, c3⟩
        have hlt := (List.getElem?_eq_some_iff.1 c2).1
        rw [Array.getElem?_append_left (by simpa using hlt)]
        simpa using c2
      · intro id' h' ρ' hρ' hm'
        refine .own id' i.size 0 (n + ys.length) w.heap.size 0 0 (n + ys.length) cap _ hρ' (Nat.zero_le _) rfl hcap' (.inr (by omega)) hm' ?_
        simp only [Array.size_append, size_zeroCells, hzl, List.size_toArray, hnl, hol, Nat.zero_add]
        rw [← Nat.add_mul, ← Nat.add_mul]
        exact Nat.mul_le_mul_right _ (by omega)
  | _ => simp at h4
end
end Go.Proofs.YtjaigpidmngaaaaGreat

namespace Go.Proofs.YtjaigpidmngaaaaGreat
section
variable {P : Program} {w : World} {h : Array Obj} {ρ : Loc} {Z : Nat → Prop} {H : AH} {s : Fr} {a : Act} {rs : Rs}
theorem eqCells_len : ∀ (l : List SK) (cs ds : List AV) (b : Bool), eqCells l cs ds = some b → cs.length = l.length ∧ ds.length = l.length
  | [], [], [], _, _ => ⟨rfl, rfl⟩
  | .i k :: l, .int k1 x :: cs, .int k2 y :: ds, b, hh => by
    simp only [eqCells] at hh
    split at hh
    · simp only [Option.map_eq_some_iff] at hh
      obtain ⟨r, h1, _⟩ := hh
      have := eqCells_len l cs ds r h1
      simp [this.1, this.2]
    · cases hh
  | .b :: l, .bool x :: cs, .bool y :: ds, b, hh => by
    simp only [eqCells, Option.map_eq_some_iff] at hh
    obtain ⟨r, h1, _⟩ := hh
    have := eqCells_len l cs ds r h1
    simp [this.1, this.2]
  | .s :: l, .str x :: cs, .str y :: ds, b, hh => by
    simp only [eqCells, Option.map_eq_some_iff] at hh
    obtain ⟨r, h1, _⟩ := hh
    have := eqCells_len l cs ds r h1
    simp [this.1, this.2]
theorem eqCells_cons {k : SK} {l : List SK} {cs ds : List AV} {b : Bool} (hh : eqCells (k :: l) cs ds = some b) :
    ∃ x y cs' ds' b1 b2, cs = x :: cs' ∧ ds = y :: ds' ∧ eqCells [k] [x] [y] = some b1 ∧ eqCells l cs' ds' = some b2 ∧ b = (b1 && b2) := by
  unfold eqCells at hh
  split at hh
  · exact absurd (by assumption : k :: l = []) (by simp)
  · rename_i k' sh k1 x xs k2 y ys heq
    simp only [List.cons.injEq] at heq
    obtain ⟨rfl, rfl⟩ := heq
    split at hh
    · rename_i hk
      simp only [Option.map_eq_some_iff] at hh
      obtain ⟨r, h1, h2⟩ := hh
      exact ⟨_, _, _, _, decide (x = y), r, rfl, rfl, by simp [eqCells, hk], h1, h2.symm⟩
    · cases hh
  · rename_i sh x xs y ys heq
    simp only [List.cons.injEq] at heq
    obtain ⟨rfl, rfl⟩ := heq
    simp only [Option.map_eq_some_iff] at hh
    obtain ⟨r, h1, h2⟩ := hh
    exact ⟨_, _, _, _, decide (x = y), r, rfl, rfl, by simp [eqCells], h1, h2.symm⟩
  · rename_i sh x xs y ys heq
    simp only [List.cons.injEq] at heq
    obtain ⟨rfl, rfl⟩ := heq
    simp only [Option.map_eq_some_iff] at hh
    obtain ⟨r, h1, h2⟩ := hh
    exact ⟨_, _, _, _, decide (x = y), r, rfl, rfl, by simp [eqCells], h1, h2.symm⟩
  · cases hh
theorem eqCells_put {k : SK} {l : List SK} {x y : AV} {cs ds : List AV} {b1 b2 : Bool} (h1 : eqCells [k] [x] [y] = some b1) (h2 : eqCells l cs ds = some b2) : eqCells (k :: l) (x :: cs) (y :: ds) = some (b1 && b2) := by
  unfold eqCells at h1
  split at h1
  · exact absurd (by assumption : [k] = []) (by simp)
  · rename_i k' sh k1 x xs k2 y ys heq hx hy
    simp only [List.cons.injEq] at heq hx hy
    obtain ⟨rfl, rfl⟩ := heq
    obtain ⟨rfl, rfl⟩ := hx
    obtain ⟨rfl, rfl⟩ := hy
    split at h1
    · rename_i hk
      simp only [eqCells, Option.map_some, Option.some.injEq, Bool.and_true] at h1
      simp [eqCells, hk, h2, h1]
    · cases h1
  · rename_i sh x xs y ys heq hx hy
    simp only [List.cons.injEq] at heq hx hy
    obtain ⟨rfl, rfl⟩ := heq
    obtain ⟨rfl, rfl⟩ := hx
    obtain ⟨rfl, rfl⟩ := hy
    simp only [eqCells, Option.map_some, Option.some.injEq, Bool.and_true] at h1
    simp [eqCells, h2, h1]
  · rename_i sh x xs y ys heq hx hy
    simp only [List.cons.injEq] at heq hx hy
    obtain ⟨rfl, rfl⟩ := heq
    obtain ⟨rfl, rfl⟩ := hx
    obtain ⟨rfl, rfl⟩ := hy
    simp only [eqCells, Option.map_some, Option.some.injEq, Bool.and_true] at h1
    simp [eqCells, h2, h1]
  · cases h1
theorem eqCells_append : ∀ (l r : List SK) (cs ds : List AV) (b : Bool), eqCells (l ++ r) cs ds = some b →
    ∃ b1 b2, eqCells l (cs.take l.length) (ds.take l.length) = some b1 ∧ eqCells r (cs.drop l.length) (ds.drop l.length) = some b2 ∧ b = (b1 && b2)
  | [], r, cs, ds, b, hh => ⟨true, b, by simp [eqCells], by simpa using hh, by simp⟩
  | k :: l, r, cs, ds, b, hh => by
    obtain ⟨x, y, cs', ds', b1, b2, rfl, rfl, h1, h2, h3⟩ := eqCells_cons hh
    obtain ⟨c1, c2, h4, h5, h6⟩ := eqCells_append l r cs' ds' b2 h2
    exact ⟨b1 && c1, c2, by simpa using eqCells_put h1 h4, by simpa using h5, by rw [h3, h6, Bool.and_assoc]⟩
def VT (P : Program) (t : TypeId) (X : List Value) (x : Value) : Prop :=
  ∃ d i, P.underlying t = some d ∧ P.info? t = some i ∧ if isAggD d = true then X.length = i.size ∧ x = .agg X.toArray else X = [x]
theorem run_part_vt {t : TypeId} {n : Option Nat} {X : List Value} {off : Nat} (hn : aggSize P t = some n) (hf : off + n.getD 1 ≤ X.length) :
    ∃ x, (part t X.toArray off).run P w = .ok x w ∧ VT P t ((X.drop off).take (n.getD 1)) x := by
  obtain ⟨d, i, hd, hi, rfl⟩ := aggSize_spec hn
  unfold part
  simp only [Sem.run_bind, run_isAgg hd, Result.andThen_ok]
  by_cases hag : isAggD d = true
  · simp only [hag, if_true, Option.getD_some] at hf ⊢
    refine ⟨.agg (X.toArray.extract off (off + i.size)), ?_, d, i, hd, hi, ?_⟩
    · simp only [Sem.run_bind, run_sizeOf hi, Result.andThen_ok, Sem.run_pure]
    · rw [if_pos hag]
      exact ⟨by simp; omega, by simp [List.extract_eq_take_drop]⟩
  · have hag' : isAggD d = false := by simpa using hag
    simp only [hag', Bool.false_eq_true, if_false, Option.getD_none] at hf ⊢
    have hx : X[off]? = some X[off] := List.getElem?_eq_getElem (by omega)
    refine ⟨X[off], by simp [hx], d, i, hd, hi, ?_⟩
    rw [if_neg hag]
    rw [List.drop_eq_getElem_cons (by omega)]
    rfl
theorem CellsR.drop {cs : List AV} {X : List Value} (q : CellsR h ρ Z cs X) (k : Nat) : CellsR h ρ Z (cs.drop k) (X.drop k) :=
  ⟨by simp [q.1], fun i c x h1 h2 => by rw [List.getElem?_drop] at h1 h2; exact q.2 _ _ _ h1 h2⟩
theorem CellsR.take {cs : List AV} {X : List Value} (q : CellsR h ρ Z cs X) (k : Nat) : CellsR h ρ Z (cs.take k) (X.take k) :=
  ⟨by simp [q.1], fun i c x h1 h2 => by
    rw [List.getElem?_take] at h1 h2
    split at h1
    · rename_i e; rw [if_pos e] at h2; exact q.2 _ _ _ h1 h2
    · cases h1⟩
def EqOk (P : Program) (h : Array Obj) (ρ : Loc) (Z : Nat → Prop) (dd : Nat) (t : TypeId) (sh : List SK) : Prop :=
  ∀ (w : World) (X Y : List Value) (x y : Value) (cs ds : List AV) (r : Bool), CellsR h ρ Z cs X → CellsR h ρ Z ds Y → eqCells sh cs ds = some r → VT P t X x → VT P t Y y →
    (Op.equalIn dd t x y).run P w = .ok r w
theorem eqFields_run {dd : Nat} {F : TypeId → Option (List SK)} (IH : ∀ t sh, F t = some sh → EqOk P h ρ Z dd t sh) :
    ∀ (fs : List Field) (pos : Nat) (sh : List SK), shapeFields P F fs pos = some sh → ∀ (w : World) (X Y : List Value) (cs ds : List AV) (r : Bool), CellsR h ρ Z cs X → CellsR h ρ Z ds Y →
      eqCells sh (cs.drop pos) (ds.drop pos) = some r → (Op.eqFields dd X.toArray Y.toArray fs).run P w = .ok r w
  | [], pos, sh, hs, w, X, Y, cs, ds, r, hX, hY, he => by
    simp only [shapeFields, Option.some.injEq] at hs
    subst hs
    have hl := eqCells_len _ _ _ _ he
    have h1 : cs.drop pos = [] := List.eq_nil_of_length_eq_zero hl.1
    have h2 : ds.drop pos = [] := List.eq_nil_of_length_eq_zero hl.2
    rw [h1, h2] at he
    simp only [eqCells, Option.some.injEq] at he
    subst he
    simp [Op.eqFields]
  | f :: fs, pos, sh, hs, w, X, Y, cs, ds, r, hX, hY, he => by
    simp only [shapeFields, Option.bind_eq_some_iff] at hs
    obtain ⟨l, hl, n, hn, hs⟩ := hs
    split at hs
    · rename_i hc
      obtain ⟨hname, hoff, hlen⟩ := hc
      simp only [Option.bind_eq_some_iff, Option.some.injEq] at hs
      obtain ⟨l2, hs2, rfl⟩ := hs
      have hlen2 := eqCells_len _ _ _ _ he
      simp only [List.length_drop, List.length_append] at hlen2
      obtain ⟨b1, b2, e1, e2, rfl⟩ := eqCells_append l l2 _ _ _ he
      have hXl := hX.1
      have hYl := hY.1
      by_cases hz : l.length = 0
      · -- a field without cells
        have hnn : n.getD 1 = 0 := by omega
        have part0 : ∀ Q : List Value, ∃ x, (part f.type Q.toArray f.offset).run P w = .ok x w ∧ VT P f.type ((Q.drop pos).take (n.getD 1)) x := by
          intro Q
          obtain ⟨d, i, hd, hi, hne⟩ := aggSize_spec hn
          by_cases hag : isAggD d = true
          · rw [if_pos hag] at hne
            subst hne
            simp only [Option.getD_some] at hnn
            refine ⟨.agg (Q.toArray.extract f.offset (f.offset + i.size)), ?_, d, i, hd, hi, ?_⟩
            · unfold part
              simp only [Sem.run_bind, run_isAgg hd, Result.andThen_ok, hag, if_true, run_sizeOf hi, Sem.run_pure]
            · rw [if_pos hag, hnn]
              simp [hnn]
          · rw [if_neg hag] at hne
            subst hne
            simp at hnn
        obtain ⟨x, p1, v1⟩ := part0 X
        obtain ⟨y, p2, v2⟩ := part0 Y
        have hr := IH f.type l hl w _ _ x y _ _ b1 ((hX.drop pos).take l.length) ((hY.drop pos).take l.length) e1 (by rw [hlen]; exact v1) (by rw [hlen]; exact v2)
        have ih := eqFields_run IH fs (pos + l.length) l2 hs2 w X Y cs ds b2 hX hY (by rw [← List.drop_drop, ← List.drop_drop]; exact e2)
        simp only [Op.eqFields, if_pos hname, Sem.run_bind, p1, p2, hr, Result.andThen_ok]
        cases b1 <;> simp [ih]
      · obtain ⟨x, p1, v1⟩ := run_part_vt (P := P) (w := w) (X := X) (off := pos) hn (by omega)
        obtain ⟨y, p2, v2⟩ := run_part_vt (P := P) (w := w) (X := Y) (off := pos) hn (by omega)
        have hr := IH f.type l hl w _ _ x y _ _ b1 ((hX.drop pos).take l.length) ((hY.drop pos).take l.length) e1 (by rw [hlen]; exact v1) (by rw [hlen]; exact v2)
        have ih := eqFields_run IH fs (pos + l.length) l2 hs2 w X Y cs ds b2 hX hY (by rw [← List.drop_drop, ← List.drop_drop]; exact e2)
        rw [← hoff] at p1 p2
        simp only [Op.eqFields, if_pos hname, Sem.run_bind, p1, p2, hr, Result.andThen_ok]
        cases b1 <;> simp [ih]
    · cases hs
theorem eqItems_run {dd : Nat} {e : TypeId} {l : List SK} {m : Option Nat} {i : TypeInfo} (IH : EqOk P h ρ Z dd e l) (hm : aggSize P e = some m) (hi : P.info? e = some i) (hl : l.length = m.getD 1) (hsz : i.size = l.length) :
    ∀ (n k : Nat) (w : World) (X Y : List Value) (cs ds : List AV) (r : Bool), CellsR h ρ Z cs X → CellsR h ρ Z ds Y → eqCells ((List.replicate n l).flatten) (cs.drop (k * l.length)) (ds.drop (k * l.length)) = some r →
      (Op.eqItems dd e (P.cellsOf e) X.toArray Y.toArray (List.range' k n)).run P w = .ok r w
  | 0, k, w, X, Y, cs, ds, r, hX, hY, he => by
    have hll := eqCells_len _ _ _ _ he
    simp only [List.replicate_zero, List.flatten_nil, List.length_nil] at hll
    have h1 := List.eq_nil_of_length_eq_zero hll.1
    have h2 := List.eq_nil_of_length_eq_zero hll.2
    rw [h1, h2] at he
    simp only [List.replicate_zero, List.flatten_nil, eqCells, Option.some.injEq] at he
    subst he
    simp [Op.eqItems]
  | n + 1, k, w, X, Y, cs, ds, r, hX, hY, he => by
    rw [List.replicate_succ, List.flatten_cons] at he
    have hll := eqCells_len _ _ _ _ he
    simp only [List.length_drop, List.length_append] at hll
    obtain ⟨b1, b2, e1, e2, rfl⟩ := eqCells_append l _ _ _ _ he
    have hXl := hX.1
    have hYl := hY.1
    have hcell : P.cellsOf e = l.length := by unfold Program.cellsOf; rw [hi]; simpa using hsz
    have part0 : ∀ Q : List Value, (Q.length = cs.length ∨ Q.length = ds.length) → ∃ x, (part e Q.toArray (k * l.length)).run P w = .ok x w ∧ VT P e ((Q.drop (k * l.length)).take (m.getD 1)) x := by
      intro Q hQ
      by_cases hz : l.length = 0
      · obtain ⟨d, i', hd, hi', hne⟩ := aggSize_spec hm
        have hnn : m.getD 1 = 0 := by omega
        by_cases hag : isAggD d = true
        · rw [if_pos hag] at hne
          subst hne
          simp only [Option.getD_some] at hnn
          refine ⟨.agg (Q.toArray.extract (k * l.length) (k * l.length + i'.size)), ?_, d, i', hd, hi', ?_⟩
          · unfold part
            simp only [Sem.run_bind, run_isAgg hd, Result.andThen_ok, hag, if_true, run_sizeOf hi', Sem.run_pure]
          · rw [if_pos hag, Option.getD_some, hnn]
            simp [hnn]
        · rw [if_neg hag] at hne
          subst hne
          simp at hnn
      · exact run_part_vt (P := P) (w := w) (X := Q) (off := k * l.length) hm (by omega)
    obtain ⟨x, p1, v1⟩ := part0 X (.inl hXl.symm)
    obtain ⟨y, p2, v2⟩ := part0 Y (.inr hYl.symm)
    have hr := IH w _ _ x y _ _ b1 ((hX.drop (k * l.length)).take l.length) ((hY.drop (k * l.length)).take l.length) e1 (by rw [hl] at *; exact v1) (by rw [hl] at *; exact v2)
    have ih := eqItems_run IH hm hi hl hsz n (k + 1) w X Y cs ds b2 hX hY (by
      rw [Nat.add_mul, Nat.one_mul, ← List.drop_drop, ← List.drop_drop]; exact e2)
    rw [List.range'_succ]
    simp only [Op.eqItems, hcell, Sem.run_bind, p1, p2, hr, Result.andThen_ok]
    rw [hcell] at ih
    cases b1 <;> simp [ih]
theorem run_eq_shape (c : Nat) : ∀ (m : Nat) (t : TypeId) (sh : List SK), shapeOf P m t = some sh → EqOk P h ρ Z (c + m) t sh
  | 0, t, sh, hs => by simp [shapeOf] at hs
  | m + 1, t, sh, hs => by
    intro w X Y x y cs ds r hX hY he hx hy
    obtain ⟨d, i, hd, hi, hx⟩ := hx
    obtain ⟨d', i', hd', hi', hy⟩ := hy
    rw [hd] at hd'
    simp only [Option.some.injEq] at hd'
    subst hd'
    have one : ∀ k : SK, sh = [k] → ∃ u v b, cs = [u] ∧ ds = [v] ∧ eqCells [k] [u] [v] = some b ∧ r = b := by
      intro k hk
      subst hk
      obtain ⟨u, v, cs', ds', b1, b2, rfl, rfl, h1, h2, h3⟩ := eqCells_cons he
      have hl := eqCells_len _ _ _ _ h2
      have := List.eq_nil_of_length_eq_zero hl.1
      have := List.eq_nil_of_length_eq_zero hl.2
      subst_vars
      simp only [eqCells, Option.some.injEq] at h2
      exact ⟨u, v, b1, rfl, rfl, h1, by rw [← h2]; simp⟩
    unfold shapeOf at hs
    rw [hd] at hs
    cases d with
    | int k =>
      simp only [Option.some.injEq] at hs
      obtain ⟨u, v, b, rfl, rfl, h1, rfl⟩ := one _ hs.symm
      rw [if_neg (by simp [isAggD])] at hx hy
      subst hx
      subst hy
      have r1 := hX.2 0 u x rfl rfl
      have r2 := hY.2 0 v y rfl rfl
      cases r1 <;> cases r2 <;> simp only [eqCells, reduceCtorEq] at h1
      split at h1
      · rename_i hk
        obtain ⟨rfl, rfl⟩ := hk
        simp only [Option.map_some, Option.some.injEq, Bool.and_true] at h1
        subst h1
        exact run_equalIn_int w _ _ _ _ _ _ hd
      · cases h1
    | bool =>
      simp only [Option.some.injEq] at hs
      obtain ⟨u, v, b, rfl, rfl, h1, rfl⟩ := one _ hs.symm
      rw [if_neg (by simp [isAggD])] at hx hy
      subst hx
      subst hy
      have r1 := hX.2 0 u x rfl rfl
      have r2 := hY.2 0 v y rfl rfl
      cases r1 <;> cases r2 <;> simp only [eqCells, reduceCtorEq] at h1
      simp only [Option.map_some, Option.some.injEq, Bool.and_true] at h1
      subst h1
      exact run_equalIn_bool w _ _ _ _ hd
    | string =>
      simp only [Option.some.injEq] at hs
      obtain ⟨u, v, b, rfl, rfl, h1, rfl⟩ := one _ hs.symm
      rw [if_neg (by simp [isAggD])] at hx hy
      subst hx
      subst hy
      have r1 := hX.2 0 u x rfl rfl
      have r2 := hY.2 0 v y rfl rfl
      cases r1 <;> cases r2 <;> simp only [eqCells, reduceCtorEq] at h1
      rename_i l s hs1 l' s' hs2
      simp only [Option.map_some, Option.some.injEq, Bool.and_true] at h1
      subst h1
      have := run_equalIn_string (P := P) w (c + m) t s s' hd
      rw [show c + (m + 1) = c + m + 1 from rfl, this, toList_eq, toList_eq, hs1, hs2]
      congr 1
      by_cases e1 : l = l' <;> simp [e1]
    | array n e =>
      simp only [Option.bind_eq_some_iff] at hs
      obtain ⟨l, hl, k, hk, hs⟩ := hs
      split at hs
      · rename_i ie hie
        split at hs
        · rename_i hc
          simp only [Option.some.injEq] at hs
          subst hs
          rw [if_pos (by simp [isAggD])] at hx hy
          rw [hx.2, hy.2, show c + (m + 1) = c + m + 1 from rfl, run_equalIn_array w (c + m) X.toArray Y.toArray hd hie, List.range_eq_range']
          exact eqItems_run (run_eq_shape c m e l hl) hk hie hc.1 hc.2 n 0 w X Y cs ds r hX hY (by simpa using he)
        · cases hs
      · cases hs
    | struct fs =>
      simp only at hs
      split at hs
      · cases hs
      · rename_i hst
        rw [if_pos (by simp [isAggD])] at hx hy
        have hf : P.fieldsOf t = fs := by simp [Program.fieldsOf, hd]
        rw [hx.2, hy.2, show c + (m + 1) = c + m + 1 from rfl, run_equalIn_struct (P := P) w (c + m) t X.toArray Y.toArray (by rw [hf]; exact hd) (by simpa using hst), hf]
        exact eqFields_run (fun t' sh' hs' => run_eq_shape c m t' sh' hs') fs.toList 0 sh hs w X Y cs ds r hX hY (by simpa using he)
    | _ => simp at hs
theorem aeq_out {o : Oper} {op : BinOp} {n : Bool} {t t' : TypeId} {x y : Operand} {d : TypeDesc} {i : TypeInfo} {sh : List SK} (hu : P.underlying t = some d) (hn : eqNeg op = some n) (hsh : shapeOf P 8 t = some sh) (hag : isAggD d = true)
    (hgd : P.eqGuardType P.depth t = false) (hi : P.info? t = some i) (hsz : i.size = sh.length) (ho : o.op = .binOp op t x y t') (g : Good w.heap ρ Z H) (hF : FR w.heap ρ Z s a) (h : evalOp s H (.aeq n sh (cx x) (cx y)) = some rs) :
    OpOut P w ρ Z H rs ((execOp a.eval o).run P w) := by
  simp only [evalOp, Option.bind_eq_some_iff] at h
  obtain ⟨u, h1, v, h2, h3⟩ := h
  have hx := ev_rl hF h1
  have hy := ev_rl hF h2
  generalize ex : a.eval x = xv at hx
  generalize ey : a.eval y = yv at hy
  cases u <;> try (simp at h3; done)
  cases v <;> try (simp at h3; done)
  simp only [Option.bind_eq_some_iff, Option.some.injEq] at h3
  obtain ⟨r, h3, h4⟩ := h3
  subst h4
  cases hx with
  | agg cs vs hl hc hr =>
    cases hy with
    | agg cs' vs' hl' hc' hr' =>
      have hlen := eqCells_len _ _ _ _ h3
      have vt : ∀ (cs : List AV) (vs : List Value), cs.length = vs.length → cs.length = sh.length → VT P t vs (.agg vs.toArray) := by
        intro cs vs h5 h6
        refine ⟨d, i, hu, hi, ?_⟩
        rw [if_pos hag]
        exact ⟨by omega, rfl⟩
      have hrun := run_eq_shape (P := P) (h := w.heap) (ρ := ρ) (Z := Z) (9992) 8 t sh hsh w vs vs' _ _ _ _ r ⟨hl, hr⟩ ⟨hl', hr'⟩ h3 (vt _ _ hl hlen.1) (vt _ _ hl' hlen.2)
      have hgrd : ∀ w : World, (eqGuard op t x y (.agg vs.toArray) (.agg vs'.toArray)).run P w = .ok () w := by
        intro w
        rcases eqNeg_spec hn with ⟨rfl, rfl⟩ | ⟨rfl, rfl⟩ <;> simp [eqGuard, hgd]
      have heq : (Op.equal t (.agg vs.toArray) (.agg vs'.toArray)).run P w = .ok r w := hrun
      refine OpOut.pure g (x := .bool (if n then !r else r)) ?_ (.bool _)
      rcases eqNeg_spec hn with ⟨rfl, rfl⟩ | ⟨rfl, rfl⟩
      · simp [execOp, ho, ex, ey, hgrd, binOp, heq]
      · simp [execOp, ho, ex, ey, hgrd, binOp, heq]
end
end Go.Proofs.YtjaigpidmngaaaaGreat

namespace Go.Proofs.YtjaigpidmngaaaaGreat
section
variable {P : Program} {w : World} {ρ : Loc} {Z : Nat → Prop} {H : AH} {s : Fr} {a : Act} {rs : Rs}
theorem bytes_news : ∀ {ys : List (List AV)} {l : List UInt8} {news : List Value}, bytesA ys = some l → CellsRl w.heap ρ Z ys.flatten news →
    ys.length = l.length ∧ ∃ ns : List Int, news = ns.map (Value.int .u8) ∧ ns.map (fun n => UInt8.ofNat n.toNat) = l
  | [], l, news, h, hc => by
    simp only [bytesA, Option.some.injEq] at h
    subst h
    refine ⟨rfl, [], ?_, rfl⟩
    cases news with
    | nil => rfl
    | cons x r => have := hc.1; simp at this
  | y :: ys, l, news, h, hc => by
    unfold bytesA at h
    split at h
    · rename_i he; cases he
    · rename_i n r he
      simp only [List.cons.injEq] at he
      obtain ⟨rfl, rfl⟩ := he
      split at h <;> simp only [Option.bind_eq_some_iff, Option.some.injEq, reduceCtorEq] at h
      obtain ⟨l', h1, rfl⟩ := h
      cases news with
      | nil => have := hc.1; simp at this
      | cons x r =>
        have h0 := (hc.2 0 _ _ rfl rfl).2
        cases h0
        obtain ⟨e0, ns, e1, e2⟩ := bytes_news (news := r) h1 ⟨by have := hc.1; simp at this ⊢; omega, fun i c x p q => hc.2 (i + 1) c x (by simpa using p) (by simpa using q)⟩
        exact ⟨by simp [e0], n :: ns, by simp [e1], by simp [e2]⟩
    · cases h
theorem foldl_push_num : ∀ (ns : List Int) (r : ByteArray), (ns.foldl (fun r n => r.push (UInt8.ofNat n.toNat)) r).data.toList = r.data.toList ++ ns.map (fun n => UInt8.ofNat n.toNat)
  | [], r => by simp
  | n :: ns, r => by
    rw [List.foldl_cons, foldl_push_num ns]
    simp [ByteArray.push]
theorem lit_outG {w' : World} {x : Value} {r : Result Next} {v : AV} (g : Good w.heap ρ Z H) (hr : r = .ok (.value x) w') (hn : w'.heap.size = w.heap.size + 1) (hold : ∀ j, j < w.heap.size → w'.heap[j]? = w.heap[j]?)
    (ho : w'.os = w.os) (hu : w'.output = w.output) (ht : w'.tape = w.tape) (hx : Rl w'.heap ρ (fun b => Z b ∨ b = w.heap.size) v x) : OpOut P w ρ Z H (.val v) r := by
  have hty2 : ∀ k t, hty w.heap k = some t → hty w'.heap k = some t := fun k t q => by
    have hk : k < w.heap.size := by
      unfold hty at q
      cases hh : w.heap[k]? with
      | none => simp [hh] at q
      | some y => exact (Array.getElem?_eq_some_iff.1 hh).1
    unfold hty at q ⊢
    rw [hold k hk]; exact q
  have hrl : ∀ v y, Rl w.heap ρ Z v y → Rl w'.heap ρ (fun b => Z b ∨ b = w.heap.size) v y := fun v y q =>
    q.mono (fun _ _ h => h) (fun _ h => .inl h) (fun b o u hz hu => by
      unfold hcell at hu ⊢
      rw [hold b (g.zlt b hz)]; exact hu) hty2
  refine ⟨x, w', fun b => Z b ∨ b = w.heap.size, hr, ?_, hx, ?_⟩
  · refine ⟨fun j blk hj => ?_, g.inj, fun b hb hz => ?_, fun b hz => ?_, g.ids, fun j b o hj => let ⟨h1, m, h2⟩ := g.ty j b o hj; ⟨h1, m, hty2 _ _ h2⟩, g.tab.of (fun _ q => .inl q) (fun b q => hold b (g.zlt b q))⟩
    · obtain ⟨b, o, h1, h2⟩ := g.blk j blk hj
      exact ⟨b, o, h1, h2.mono (hold b h2.lt) hrl⟩
    · rcases hz with hz | hz
      · exact g.notZ b hb hz
      · have := g.own_lt hb; omega
    · rcases hz with hz | hz
      · have := g.zlt b hz; omega
      · omega
  · refine ⟨by omega, fun b hb _ => hold b hb, hty2, fun _ h => .inl h, fun b h => ?_, fun _ _ h => h, fun _ h => .inl h, ho, hu, ht⟩
    rcases h with h | h
    · exact .inl h
    · exact .inr (.inr (by omega))
theorem strB_out {o : Oper} {src dst e : TypeId} {x : Operand} (hs : P.underlying src = some .string) (hd : P.underlying dst = some (.slice e)) (he : P.underlying e = some (.int .u8)) (ho : o.op = .convert src dst x)
    (g : Good w.heap ρ Z H) (hF : FR w.heap ρ Z s a) (h : evalOp s H (.strB (cx x)) = some rs) : OpOut P w ρ Z H rs ((execOp a.eval o).run P w) := by
  simp only [evalOp, Option.bind_eq_some_iff] at h
  obtain ⟨v, h1, h2⟩ := h
  have hx := ev_rl hF h1
  generalize ex : a.eval x = xv at hx
  cases hx with
  | str l sb hsb =>
    simp only [Option.some.injEq] at h2
    subst h2
    have hsz : sb.size = l.length := by rw [← hsb]; simp
    have hnew := Lib.bytesWorld_at_new w e sb
    have hcell : ∀ (i : Nat) (c : UInt8), l[i]? = some c → hcell (Lib.bytesWorld w e sb).heap w.heap.size i = some (.int .u8 (c.toNat : Int)) := fun i c q => by
      unfold Go.Proofs.YtjaigpidmngaaaaGreat.hcell
      rw [hnew]
      have hi : i < sb.data.size := by
        have := (List.getElem?_eq_some_iff.1 q).1
        rw [← hsb] at this
        simpa using this
      show (Lib.bytesCells w e sb)[i]? = _
      unfold Lib.bytesCells
      rw [Array.getElem?_append_left (by simpa using hi), Array.getElem?_map]
      have q2 : sb.data[i]? = some c := by rw [← hsb] at q; simpa using q
      rw [q2]; rfl
    refine lit_outG (x := .slice (some ⟨w.heap.size, 0, none⟩) sb.size (grownCap w sb.size 0 e)) (w' := Lib.bytesWorld w e sb) g ?_ ?_ (Lib.bytesWorld_at_old w e sb) rfl rfl rfl ?_
    · simp only [execOp, ho, ex, Sem.run_bind, Lib.run_convert_string_bytes w src dst e sb hs hd he, Result.andThen_ok, Sem.run_pure]
    · simp [Lib.bytesWorld, World.freeze, World.alloc, World.drew, -World.alloc_eq, -World.drew_eq]
    · have at' : ∀ (i : Nat) r (j : Nat) v, (l.map fun c => [AV.int .u8 (c.toNat : Int)])[i]? = some r → r[j]? = some v → ∃ c, l[i]? = some c ∧ j = 0 ∧ v = .int .u8 (c.toNat : Int) := fun i r j v q1 q2 => by
        rw [List.getElem?_map] at q1
        cases hc : l[i]? with
        | none => rw [hc] at q1; cases q1
        | some c =>
          rw [hc] at q1
          simp only [Option.map_some, Option.some.injEq] at q1
          subst q1
          cases j with
          | zero => simp at q2; exact ⟨c, rfl, rfl, q2.symm⟩
          | succ j => simp at q2
      refine .rows 1 _ w.heap.size 0 _ _ (fun k => .int .u8 (((l.getD k 0).toNat : Nat) : Int)) (by rw [hsz]; simp) (grownCap_ge _ _ _ _) (fun _ => .inr rfl) (fun i r q => ?_) (fun i r j v q1 q2 => ?_) (fun i r j v q1 q2 => ?_) (fun i r j v q1 q2 => ?_)
      · rw [List.getElem?_map] at q
        cases hc : l[i]? with
        | none => rw [hc] at q; cases q
        | some c => rw [hc] at q; simp only [Option.map_some, Option.some.injEq] at q; subst q; rfl
      · obtain ⟨c, _, _, rfl⟩ := at' i r j v q1 q2; rfl
      · obtain ⟨c, hc, rfl, rfl⟩ := at' i r j v q1 q2
        rw [Nat.zero_add, Nat.mul_one, Nat.add_zero, hcell i c hc]
        simp [List.getD, hc]
      · obtain ⟨c, hc, rfl, rfl⟩ := at' i r j v q1 q2
        rw [Nat.mul_one, Nat.add_zero]
        simp only [List.getD, hc, Option.getD_some]
        exact .int _ _
  | _ => simp at h2
theorem bytesS_out {o : Oper} {src dst e : TypeId} {x : Operand} (hs : P.underlying src = some (.slice e)) (hd : P.underlying dst = some .string) (he : P.underlying e = some (.int .u8)) (ho : o.op = .convert src dst x)
    (g : Good w.heap ρ Z H) (hF : FR w.heap ρ Z s a) (h : evalOp s H (.bytesS (cx x)) = some rs) : OpOut P w ρ Z H rs ((execOp a.eval o).run P w) := by
  simp only [evalOp, Option.bind_eq_some_iff] at h
  obtain ⟨v, h1, ys, h2, l, h3, h4⟩ := h
  simp only [Option.some.injEq] at h4
  subst h4
  have hx := ev_rl hF h1
  obtain ⟨_, _, news, hc, hf, hl⟩ := readS_rl (P := P) g hx h2
  obtain ⟨e0, ns, rfl, e2⟩ := bytes_news h3 hc
  have hf := hf w rfl
  generalize ex : a.eval x = xv at hx hf hl
  have done : ∀ (r : ByteArray) l0 c0 a0, xv = .slice a0 l0 c0 → (Conv.bytesToString (.slice a0 l0 c0)).run P w = .ok (.string r) w → r.data.toList = l →
      OpOut P w ρ Z H (.val (.str l)) ((execOp a.eval o).run P w) := by
    intro r l0 c0 a0 e hr hd'
    refine OpOut.pure g (x := .string r) ?_ (.str _ _ hd')
    subst e
    simp only [execOp, ho, ex, Sem.run_bind, run_convert_bytes_string w src dst e _ _ _ hs he hd, hr, Result.andThen_ok, Sem.run_pure]
  have hslice : (∃ l0 c0, xv = .slice none l0 c0) ∨ ∃ a0 l0 c0, xv = .slice (some a0) l0 c0 := by
    cases hx <;> first
      | exact .inl ⟨_, _, rfl⟩
      | exact .inr ⟨_, _, _, rfl⟩
      | (simp [readS] at h2; done)
  rcases hslice with ⟨l0, c0, rfl⟩ | ⟨a0, l0, c0, rfl⟩
  · refine done ByteArray.empty l0 c0 none rfl (by simp [Conv.bytesToString]) ?_
    have hns : ns = [] := by
      simp only [Builtin.firstCells, Sem.run_pure] at hf
      simp at hf
      exact hf
    subst hns
    rw [← e2]; rfl
  · have hl0 : l0 = ys.length := by
      have := congrArg (fun m => Sem.run P m w) hl
      simp [Builtin.lenOf] at this
      exact this
    subst hl0
    refine done _ _ c0 _ rfl (run_bytesToString w a0 _ c0 ns (by simpa [Builtin.firstCells] using hf)) ?_
    rw [foldl_push_num, e2]
    rfl
def extSem : EK → Array Value → Sem Value
  | .cnt => Extern.BytealgCount.count
  | .ixb => Extern.BytealgIndexByte.indexByte
  | .cmp => Extern.BytealgCompare.compare
  | .same => Extern.AbiNoEscape.same
theorem extern_find {fn : Func} {k : EK} (h : extName fn.name = some k) : Extern.find fn = some (extSem k) ∧ (fn.name == "runtime.NumGoroutine") = false := by
  unfold extName at h
  split at h
  · rename_i e
    simp only [Option.some.injEq] at h
    subst h
    cases fn
    simp only at e
    subst e
    exact ⟨rfl, rfl⟩
  · split at h
    · rename_i e
      simp only [Option.some.injEq] at h
      subst h
      cases fn
      simp only at e
      subst e
      exact ⟨rfl, rfl⟩
    · split at h
      · rename_i e
        simp only [Option.some.injEq] at h
        subst h
        cases fn
        simp only at e
        subst e
        exact ⟨rfl, rfl⟩
      · split at h
        · rename_i e
          simp only [Option.some.injEq] at h
          subst h
          cases fn
          simp only at e
          subst e
          exact ⟨rfl, rfl⟩
        · cases h
theorem ext_out {o : Oper} {c : Call} {f : Nat} {k : EK} (hk : extOf P f = some k) (ho : o.op = .call c) (hc : c.callee = .value (.func f)) (g : Good w.heap ρ Z H) (hF : FR w.heap ρ Z s a)
    (h : evalOp s H (.ext k (cxL c.args.toList)) = some rs) : OpOut P w ρ Z H rs ((execOp a.eval o).run P w) := by
  simp only [evalOp, Option.bind_eq_some_iff] at h
  obtain ⟨vs, h1, v, h2, h3⟩ := h
  simp only [Option.some.injEq] at h3
  subst h3
  have hl := evL_rl hF h1
  unfold extOf at hk
  split at hk
  · rename_i fn hfn
    split at hk
    · rename_i hb
      simp only [Bool.and_eq_true] at hb
      obtain ⟨he, hn⟩ := extern_find hk
      have key : ∃ x, (extSem k (c.args.toList.map a.eval).toArray).run P w = .ok x w ∧ Rl w.heap ρ Z v x := by
        unfold extA at h2
        split at h2
        · rename_i l n
          simp only [Option.some.injEq] at h2
          subst h2
          match hm : c.args.toList.map a.eval, hl with
          | [x, y], hl =>
            have q1 := hl.2 0 _ x rfl rfl
            have q2 := hl.2 1 _ y rfl rfl
            cases q1 with
            | str _ b hb =>
              cases q2
              subst hb
              exact ⟨_, Lib.run_countString (P := P) b n w, .int _ _⟩
          | [], hl => have := hl.1; simp at this
          | [x], hl => have := hl.1; simp at this
          | _ :: _ :: _ :: _, hl => have := hl.1; simp at this
        · rename_i l n
          simp only [Option.some.injEq] at h2
          subst h2
          match hm : c.args.toList.map a.eval, hl with
          | [x, y], hl =>
            have q1 := hl.2 0 _ x rfl rfl
            have q2 := hl.2 1 _ y rfl rfl
            cases q1 with
            | str _ b hb =>
              cases q2
              subst hb
              exact ⟨_, Lib.run_indexByteString (P := P) b n w, .int _ _⟩
          | [], hl => have := hl.1; simp at this
          | [x], hl => have := hl.1; simp at this
          | _ :: _ :: _ :: _, hl => have := hl.1; simp at this
        · rename_i l n
          simp only [Option.some.injEq] at h2
          subst h2
          match hm : c.args.toList.map a.eval, hl with
          | [x, y], hl =>
            have q1 := hl.2 0 _ x rfl rfl
            have q2 := hl.2 1 _ y rfl rfl
            cases q1 with
            | str _ b hb =>
              cases q2 with
              | str _ b2 hb2 => subst hb; subst hb2; exact ⟨_, Lib.run_compareString (P := P) b b2 w, .int _ _⟩
          | [], hl => have := hl.1; simp at this
          | [x], hl => have := hl.1; simp at this
          | _ :: _ :: _ :: _, hl => have := hl.1; simp at this
        · simp only [Option.some.injEq] at h2
          subst h2
          match hm : c.args.toList.map a.eval, hl with
          | [x], hl => exact ⟨x, rfl, hl.2 0 _ x rfl rfl⟩
          | [], hl => have := hl.1; simp at this
          | _ :: _ :: _, hl => have := hl.1; simp at this
        · cases h2
      obtain ⟨x, hr, hv⟩ := key
      refine OpOut.pure g (x := x) ?_ hv
      have harr : c.args.map a.eval = (c.args.toList.map a.eval).toArray := by apply Array.ext'; simp
      simp only [execOp, ho, resolve, hc, Act.eval, Deferred.ofValue, Sem.run_bind, Sem.run_pure, Result.andThen_ok, invoke, harr]
      have hfr := run_callFunc_extern (P := P) hfn hn hb.1 (by simpa using hb.2) he (c.args.toList.map a.eval).toArray w
      rw [hr] at hfr
      simp only [Result.andThen_ok] at hfr
      simpa using hfr
    · cases hk
  · cases hk
/-! ### Pointers without a type -/
theorem lies_self {e : TypeId} (hc : P.cellsOf e ≠ 0) (count n : Nat) (hn : n ≤ count) : liesAt P P.depth e count 0 e n = true := by
  have hd : P.depth = (2 * (P.types.size + Made.depth) + 1) + 1 := rfl
  rw [hd]
  simp only [liesAt, Bool.or_eq_true]
  left
  rw [hd]
  simp [rowAt, hc, hn, sameLayout]
theorem shape_of {w : World} {b : Nat} {cs : Array Value} {e : TypeId} {fz : Nat × Nat} (hb : w.heap[b]? = some (.cells cs e fz)) : w.shape? b = some (e, cs.size) := by
  simp [World.shape?, hb]
theorem idu_out {o : Oper} {src dst t : TypeId} {j : TypeInfo} {x : Operand} (hs : P.underlying src = some (.pointer t)) (hd : P.underlying dst = some .unsafePointer) (ht : P.info? t = some j) (hj : j.size ≠ 0) (ho : o.op = .convert src dst x)
    (g : Good w.heap ρ Z H) (hF : FR w.heap ρ Z s a) (h : evalOp s H (.idu (cx x)) = some rs) : OpOut P w ρ Z H rs ((execOp a.eval o).run P w) := by
  simp only [evalOp, Option.bind_eq_some_iff] at h
  obtain ⟨v, h1, h2⟩ := h
  have hx := ev_rl hF h1
  generalize ex : a.eval x = xv at hx
  cases hx with
  | nilP =>
    simp only [Option.some.injEq] at h2
    subst h2
    refine OpOut.pure g (x := .pointer none) ?_ .nilP
    simp [execOp, ho, ex, convert, run_underlying hs, run_underlying hd, Conv.unsafePointer]
  | ptr id sz i j' b o0 hρ =>
    simp only at h2
    cases hg : hget H id with
    | none => simp [hg] at h2
    | some blk =>
      cases blk with
      | loop L => simp [hg] at h2
      | rows sz' l =>
        simp only [hg] at h2
        split at h2 <;> simp only [Option.some.injEq, reduceCtorEq] at h2
        rename_i hc
        obtain ⟨rfl, hi, hj'⟩ := hc
        subst h2
        obtain ⟨b', o', hρ', cs, e, hb, hbsz, _, _⟩ := g.blk id _ hg
        rw [hρ] at hρ'
        obtain ⟨rfl, rfl⟩ : b = b' ∧ o0 = o' := by simpa using hρ'
        have hk : (i + 1) * sz' ≤ l.length * sz' := Nat.mul_le_mul_right _ hi
        rw [Nat.add_mul, Nat.one_mul] at hk
        refine OpOut.pure g (x := .pointer (some ⟨b, o0 + (i * sz' + j'), none⟩)) ?_ (.ptr _ _ _ _ _ _ hρ)
        have hr := Lib.run_to_unsafe (P := P) (w := w) (src := src) (dst := dst) ⟨b, o0 + (i * sz' + j'), none⟩ hs hd ht hj (shape_of hb) (by simp; omega)
        simp only [execOp, ho, ex, Sem.run_bind, hr, Result.andThen_ok, Sem.run_pure]
  | _ => simp at h2
theorem rowAt_more {fits : TypeId → Bool} {d : Nat} {e : TypeId} {c off : Nat} (h : rowAt P fits d e 1 off 1 = true) (hc : 1 ≤ c) : rowAt P fits d e c off 1 = true := by
  cases d with
  | zero => simp [rowAt] at h
  | succ d =>
    simp only [rowAt] at h ⊢
    split at h
    · cases h
    · rename_i h0
      rw [if_neg h0]
      rw [Bool.or_eq_true] at h ⊢
      rcases h with h | h
      · left
        simp only [Bool.and_eq_true, decide_eq_true_eq, beq_iff_eq] at h ⊢
        exact ⟨⟨h.1.1, by omega⟩, h.2⟩
      · right
        rw [Bool.and_eq_true] at h ⊢
        exact ⟨by have := h.1; simp only [decide_eq_true_eq] at this ⊢; omega, h.2⟩
theorem liesAt_row' {d : Nat} {e : TypeId} {c off : Nat} {u : TypeId} (h : rowAt P (sameLayout P P.depth · u) P.depth e 1 off 1 = true) (hc : 1 ≤ c) : liesAt P (d + 1) e c off u 1 = true := by
  unfold liesAt
  rw [Bool.or_eq_true]
  exact .inl (rowAt_more h hc)
theorem liesAt_row {e : TypeId} {c off : Nat} {u : TypeId} (h : rowAt P (sameLayout P P.depth · u) P.depth e 1 off 1 = true) (hc : 1 ≤ c) : liesAt P P.depth e c off u 1 = true :=
  liesAt_row' (d := 2 * (P.types.size + Made.depth) + 1) h hc
theorem liesIn_mem {u : TypeId} {t sz j : Nat} (hc0 : P.cellsOf u ≠ 0) (h : (liesIn P u).contains (t, sz, j) = true) : sz = P.cellsOf t ∧ P.cellsOf t ≠ 0 ∧ ∀ c, 1 ≤ c → liesAt P P.depth t c j u 1 = true := by
  rw [List.contains_iff_mem] at h
  unfold liesIn at h
  rcases List.mem_cons.1 h with h | h
  · simp only [Prod.mk.injEq] at h
    obtain ⟨rfl, rfl, rfl⟩ := h
    exact ⟨rfl, hc0, fun c hc => lies_self hc0 c 1 hc⟩
  · obtain ⟨t', _, h⟩ := List.mem_flatMap.1 h
    split at h
    · obtain ⟨f, _, h⟩ := List.mem_filterMap.1 h
      split at h
      · rename_i hf
        simp only [Option.some.injEq, Prod.mk.injEq] at h
        obtain ⟨rfl, rfl, rfl⟩ := h
        simp only [Bool.and_eq_true, Bool.not_eq_true', decide_eq_true_eq, beq_eq_false_iff_ne] at hf
        refine ⟨rfl, by omega, fun c hc => ?_⟩
        exact liesAt_row hf.2 hc
      · cases h
    · cases h
theorem idf_out {o : Oper} {src dst u : TypeId} {j : TypeInfo} {x : Operand} (hs : P.underlying src = some .unsafePointer) (hd : P.underlying dst = some (.pointer u)) (hu : P.info? u = some j) (hc0 : P.cellsOf u ≠ 0) (hj : j.size ≠ 0) (ho : o.op = .convert src dst x)
    (g : Good w.heap ρ Z H) (hF : FR w.heap ρ Z s a) (h : evalOp s H (.idf (liesIn P u) (cx x)) = some rs) : OpOut P w ρ Z H rs ((execOp a.eval o).run P w) := by
  simp only [evalOp, Option.bind_eq_some_iff] at h
  obtain ⟨v, h1, h2⟩ := h
  have hx := ev_rl hF h1
  generalize ex : a.eval x = xv at hx
  cases hx with
  | nilP =>
    simp only [Option.some.injEq] at h2
    subst h2
    refine OpOut.pure g (x := .pointer none) ?_ .nilP
    simp [execOp, ho, ex, convert, run_underlying hs, run_underlying hd, Conv.unsafePointer]
  | ptr id sz i j' b o0 hρ =>
    simp only at h2
    cases hg : hget H id with
    | none => simp [hg] at h2
    | some blk =>
      cases blk with
      | loop L => simp [hg] at h2
      | rows sz' l =>
        simp only [hg] at h2
        split at h2 <;> simp only [Option.some.injEq, reduceCtorEq] at h2
        rename_i hc
        obtain ⟨rfl, rfl, hl, hmem⟩ := hc
        subst h2
        obtain ⟨b', o', hρ', cs, e, hb, hbsz, _, _⟩ := g.blk id _ hg
        rw [hρ] at hρ'
        obtain ⟨rfl, rfl⟩ : b = b' ∧ o0 = o' := by simpa using hρ'
        obtain ⟨rfl, m, hty'⟩ := g.ty id b o0 hρ
        have he : e = tag id := by
          unfold hty at hty'
          rw [hb] at hty'
          simp only [Option.some.injEq, Prod.mk.injEq] at hty'
          rw [hty'.2]
        rw [← he] at hmem
        obtain ⟨hsz, hce, hlies⟩ := liesIn_mem hc0 hmem
        have hk : 1 * sz' ≤ l.length * sz' := Nat.mul_le_mul_right _ hl
        have hpos : 0 < P.cellsOf e := Nat.pos_of_ne_zero hce
        have hcnt : 1 ≤ cs.size / P.cellsOf e := (Nat.le_div_iff_mul_le hpos).2 (by omega)
        refine OpOut.pure g (x := .pointer (some ⟨b, 0 + (0 * sz' + j'), none⟩)) ?_ (.ptr _ _ _ _ _ _ hρ)
        have hr := Lib.run_from_unsafe (P := P) (w := w) (src := src) (dst := dst) ⟨b, 0 + (0 * sz' + j'), none⟩ hs hd hu (shape_of hb) (by simpa using hlies _ hcnt)
        simp only [execOp, ho, ex, Sem.run_bind, hr, Result.andThen_ok, Sem.run_pure]
  | _ => simp at h2
theorem run_eql_ptr_same {tp te : TypeId} {j : TypeInfo} (a : Addr) (hp : P.underlying tp = some (.pointer te)) (hte : P.info? te = some j) :
    (binOp .eql tp (.pointer (some a)) (.pointer (some a))).run P w = .ok (.bool true) w := by
  have h : ∀ d : Nat, (Op.equalIn (d + 1) tp (.pointer (some a)) (.pointer (some a))).run P w = .ok true w := fun d => by
    simp [Op.equalIn, run_underlying hp, sizeOf, typeInfo, hte, run_sameAddr_same]
  simp only [binOp]
  simp [Op.equal, Op.maxDepth, h 9999]
theorem peq_out {o : Oper} {op : BinOp} {n : Bool} {t t' e : TypeId} {j : TypeInfo} {x y : Operand} (hu : P.underlying t = some (.pointer e)) (he : P.info? e = some j) (hn : eqNeg op = some n) (ho : o.op = .binOp op t x y t')
    (g : Good w.heap ρ Z H) (hF : FR w.heap ρ Z s a) (h : evalOp s H (.peq n (cx x) (cx y)) = some rs) : OpOut P w ρ Z H rs ((execOp a.eval o).run P w) := by
  simp only [evalOp, Option.bind_eq_some_iff] at h
  obtain ⟨u, h1, v, h2, h3⟩ := h
  have hx := ev_rl hF h1
  have hy := ev_rl hF h2
  generalize ex : a.eval x = xv at hx
  generalize ey : a.eval y = yv at hy
  cases hx with
  | ptr id sz i j' b o0 hρ =>
    cases hy with
    | ptr id' sz2 i' j2 b2 o2 hρ2 =>
      simp only at h3
      split at h3 <;> simp only [Option.some.injEq, reduceCtorEq] at h3
      rename_i hc
      obtain ⟨rfl, rfl, rfl, rfl⟩ := hc
      subst h3
      rw [hρ] at hρ2
      obtain ⟨rfl, rfl⟩ : b = b2 ∧ o0 = o2 := by simpa using hρ2
      refine OpOut.pure g (x := .bool (!n)) ?_ (.bool _)
      rcases eqNeg_spec hn with ⟨rfl, rfl⟩ | ⟨rfl, rfl⟩
      · simp [execOp, ho, ex, ey, eqGuard_at_pointer, run_eql_ptr_same _ hu he]
      · simp [execOp, ho, ex, ey, eqGuard_at_pointer, Lib.run_neq_ptr_same _ _ hu he]
    | _ => simp at h3
  | _ => simp at h3
theorem sdata_out {o : Oper} {c : Call} {x : Operand} (ho : o.op = .call c) (hc : c.callee = .builtin .unsafeSliceData) (hx : c.args = #[x]) (g : Good w.heap ρ Z H) (hF : FR w.heap ρ Z s a)
    (h : evalOp s H (.sdata (cx x)) = some rs) : OpOut P w ρ Z H rs ((execOp a.eval o).run P w) := by
  simp only [evalOp, Option.bind_eq_some_iff] at h
  obtain ⟨v, h1, h2⟩ := h
  have hr := ev_rl hF h1
  generalize ex : a.eval x = xv at hr
  have run0 : ∀ r, (Builtin.unsafeSliceData_ c.argTypes o.type #[xv]).run P w = .ok r w → (execOp a.eval o).run P w = .ok (.value r) w := by
    intro r q
    simp [execOp, ho, resolve, hc, hx, ex, invoke, builtin, q]
  cases hr with
  | nilS =>
    simp only [Option.some.injEq] at h2
    subst h2
    exact OpOut.pure g (run0 _ (Lib.run_unsafeSliceData_nil w _ _ _ _)) .nilP
  | own id sz lo hi b o0 o' n cp m hρ hlo hn hnc ho' hm hcap =>
    simp only at h2
    split at h2 <;> simp only [Option.some.injEq, reduceCtorEq] at h2
    rename_i hlt
    subst h2
    have hcp : cp ≠ 0 := by omega
    have hoo : o' = o0 + (lo * sz + 0) := by
      rcases ho' with q | q
      · exact absurd q hcp
      · rw [q]; rfl
    subst hoo
    exact OpOut.pure g (run0 _ (Lib.run_unsafeSliceData_row w _ _ _ _ _ hcp)) (.ptr _ _ _ _ _ _ hρ)
  | _ => simp at h2
theorem hty_freeze {h : Array Obj} {b : Nat} {cs : Array Value} {e : TypeId} {f f' : Nat × Nat} (hb : h[b]? = some (.cells cs e f)) {h' : Array Obj} (hh : ∀ k, h'[k]? = if k = b then some (.cells cs e f') else h[k]?) :
    (∀ k t, hty h k = some t → hty h' k = some t) ∧ ∀ k q u, hcell h k q = some u → hcell h' k q = some u := by
  refine ⟨fun k t q => ?_, fun k q u r => ?_⟩
  · unfold hty at *
    rw [hh]
    by_cases e1 : k = b
    · subst e1; rw [if_pos rfl]; rw [hb] at q; exact q
    · rw [if_neg e1]; exact q
  · unfold hcell at *
    rw [hh]
    by_cases e1 : k = b
    · subst e1; rw [if_pos rfl]; rw [hb] at r; exact r
    · rw [if_neg e1]; exact r
theorem bytes_cells : ∀ {ys : List (List AV)} {l : List UInt8}, bytesA ys = some l → ys.length = l.length ∧ ∀ (i : Nat) x, l[i]? = some x → ys[i]? = some [.int .u8 (x.toNat : Int)]
  | [], l, h => by simp only [bytesA, Option.some.injEq] at h; subst h; exact ⟨rfl, by simp⟩
  | y :: ys, l, h => by
    unfold bytesA at h
    split at h
    · rename_i he; cases he
    · rename_i n r he
      simp only [List.cons.injEq] at he
      obtain ⟨rfl, rfl⟩ := he
      split at h <;> simp only [Option.bind_eq_some_iff, Option.some.injEq, reduceCtorEq] at h
      rename_i hn
      obtain ⟨l', h1, rfl⟩ := h
      obtain ⟨e1, e2⟩ := bytes_cells h1
      refine ⟨by simp [e1], fun i x q => ?_⟩
      cases i with
      | zero =>
        simp at q
        subst q
        simp
        omega
      | succ i => simpa using e2 i x (by simpa using q)
    · cases h
theorem ustr_out {o : Oper} {c : Call} {t t2 e : TypeId} {x y : Operand} (hu : P.underlying t = some (.pointer e)) (hc1 : P.cellsOf e = 1) (ho : o.op = .call c) (hc : c.callee = .builtin .unsafeString) (hx : c.args = #[x, y]) (ht : c.argTypes = #[t, t2])
    (g : Good w.heap ρ Z H) (hF : FR w.heap ρ Z s a) (h : evalOp s H (.ustr e (cx x) (cx y)) = some rs) : OpOut P w ρ Z H rs ((execOp a.eval o).run P w) := by
  simp only [evalOp, Option.bind_eq_some_iff] at h
  obtain ⟨v, h1, u, h2, h3⟩ := h
  have hrx := ev_rl hF h1
  have hry := ev_rl hF h2
  generalize ex : a.eval x = xv at hrx
  generalize ey : a.eval y = yv at hry
  have run0 : ∀ r w', (Builtin.unsafeString_ #[t, t2] o.type #[xv, yv]).run P w = .ok r w' → (execOp a.eval o).run P w = .ok (.value r) w' := by
    intro r w' q
    simp [execOp, ho, resolve, hc, hx, ht, ex, ey, invoke, builtin, q]
  cases hrx with
  | nilP =>
    cases hry with
    | int k n =>
      cases k <;> simp only at h3 <;> try (cases h3; done)
      split at h3 <;> simp only [Option.some.injEq, reduceCtorEq] at h3
      rename_i hn
      subst hn; subst h3
      exact OpOut.pure g (run0 _ _ (Lib.run_unsafeString_none w _ _ _ _)) (.str [] _ rfl)
    | _ => simp at h3
  | ptr id sz i j b o0 hρ =>
    cases hry with
    | int k n =>
      cases k <;> simp only at h3 <;> try (cases h3; done)
      cases hg : hget H id with
      | none => simp [hg] at h3
      | some blk =>
        cases blk with
        | loop L => simp [hg] at h3
        | rows sz' l =>
          simp only [hg, Option.bind_eq_some_iff] at h3
          obtain ⟨bs, h4, h5⟩ := h3
          split at h5 <;> simp only [Option.some.injEq, reduceCtorEq] at h5
          rename_i hcd
          obtain ⟨rfl, rfl, rfl, rfl, hn0, hnl, hn63, htag⟩ := hcd
          subst h5
          obtain ⟨b', o', hρ', cs, et, hb, hbsz, hws, hvs⟩ := g.blk id _ hg
          have hρ'' := hρ'
          rw [hρ] at hρ'
          obtain ⟨rfl, rfl⟩ : b = b' ∧ o0 = o' := by simpa using hρ'
          obtain ⟨rfl, m, hty'⟩ := g.ty id b o0 hρ
          have he : et = e := by
            unfold hty at hty'
            rw [hb] at hty'
            simp only [Option.some.injEq, Prod.mk.injEq] at hty'
            rw [hty'.2, htag]
          subst he
          obtain ⟨e1, e2⟩ := bytes_cells h4
          have hbl : (bs.length : Int) = n := by rw [← e1, List.length_take]; omega
          have hcell : ∀ (q : Nat) z, bs[q]? = some z → w.cell? ((⟨b, 0, none⟩ : Addr).add q) = some (.int .u8 z.toNat) := by
            intro q z hq
            have hr := e2 q z hq
            have hlt := (List.getElem?_eq_some_iff.1 hq).1
            rw [List.getElem?_take, if_pos (by omega)] at hr
            obtain ⟨_, y', hy, hyr⟩ := hvs q _ 0 _ hr rfl
            cases hyr
            rw [addr_add, cell?_heap]
            unfold hcell
            rw [hb]
            simpa using hy
          have hrun := Lib.run_unsafeString_row (P := P) w t t2 o.type et hu hc1 b cs.size (shape_of hb) bs (fun q => by rw [q] at hbl; simp at hbl; omega) (by omega) (by omega) hcell
          rw [hbl] at hrun
          have hlt := (Array.getElem?_eq_some_iff.1 hb).1
          have hown : Own ρ H b := ⟨id, _, 0, hg, hρ⟩
          have hZ : ¬ Z b := g.notZ b hown
          have hfr : ∃ f', ∀ k, (w.freeze ⟨b, 0, none⟩ bs.length).heap[k]? = if k = b then some (.cells cs et f') else w.heap[k]? := by
            unfold World.freeze
            rw [if_neg (by omega)]
            refine ⟨(0, 0 + bs.length), fun k => ?_⟩
            simp only [Array.getElem?_modify]
            by_cases e3 : b = k
            · subst e3; rw [if_pos rfl, if_pos rfl, hb]; rfl
            · rw [if_neg e3, if_neg (fun q => e3 q.symm)]
          obtain ⟨f', hheap⟩ := hfr
          obtain ⟨ht1, ht2⟩ := hty_freeze hb hheap
          have hsz : (w.freeze ⟨b, 0, none⟩ bs.length).heap.size = w.heap.size := by
            unfold World.freeze
            rw [if_neg (by omega)]
            simp
          have up : ∀ v x, Rl w.heap ρ Z v x → Rl (w.freeze ⟨b, 0, none⟩ bs.length).heap ρ Z v x := fun v x q => q.mono (fun _ _ r => r) (fun _ r => r) (fun k o u _ r => ht2 k o u r) ht1
          have hdl : ∀ j bl, hget (hdel H id) j = some bl → j ≠ id ∧ hget H j = some bl := by
            intro j bl hj
            rw [hget_hdel] at hj
            split at hj
            · cases hj
            · rename_i e3; exact ⟨e3, hj⟩
          have hox : ∀ k, Own ρ (hdel H id) k → Own ρ H k := fun k ⟨j, bl, o, q1, q2⟩ => ⟨j, bl, o, (hdl j bl q1).2, q2⟩
          have hos : (w.freeze ⟨b, 0, none⟩ bs.length).os = w.os ∧ (w.freeze ⟨b, 0, none⟩ bs.length).output = w.output ∧ (w.freeze ⟨b, 0, none⟩ bs.length).tape = w.tape := by
            unfold World.freeze
            rw [if_neg (by omega)]
            exact ⟨rfl, rfl, rfl⟩
          have hrun2 := run0 (.string ⟨bs.toArray⟩) (w.freeze ⟨b, 0, none⟩ bs.length) hrun
          refine ⟨_, _, Z, hrun2, ⟨fun j bl hj => ?_, fun p q a' b' u v o1 o2 f1 f2 f3 f4 hne => ?_, fun k q => g.notZ k (hox k q), fun k q => by rw [hsz]; exact g.zlt k q, g.ids, fun j k o q => ?_, g.tab.of (fun _ q => q) (fun b' q => by rw [hheap, if_neg (fun e => g.notZ b hown (by rw [← e]; exact q))])⟩, .str bs _ (by simp), ?_⟩
          · obtain ⟨q1, q2⟩ := hdl j bl hj
            obtain ⟨b2, o2, q3, q4⟩ := g.blk j bl q2
            refine ⟨b2, o2, q3, q4.mono ?_ up⟩
            rw [hheap, if_neg (g.inj j id _ _ _ _ _ _ q2 hg q3 hρ q1)]
          · exact g.inj p q _ _ _ _ _ _ (hdl p a' f1).2 (hdl q b' f2).2 f3 f4 hne
          · obtain ⟨q1, m', q2⟩ := g.ty j k o q
            exact ⟨q1, m', ht1 _ _ q2⟩
          · refine ⟨by rw [hsz]; exact Nat.le_refl _, fun k hk hO => ?_, ht1, fun _ q => q, fun _ q => .inl q, fun _ _ q => q, fun k q => .inl (hox k q), hos.1, hos.2.1, hos.2.2⟩
            rw [hheap, if_neg (fun q => hO (by rw [q]; exact hown))]
    | _ => simp at h3
  | _ => simp at h3
end
end Go.Proofs.YtjaigpidmngaaaaGreat

namespace Go.Proofs.YtjaigpidmngaaaaGreat
section
variable {P : Program} {w : World} {ρ : Loc} {Z : Nat → Prop} {H : AH} {s : Fr} {a : Act} {rs : Rs} {lit : Bool}
theorem bad_out {o : Oper} (h : evalOp s H .bad = some rs) : OpOut P w ρ Z H rs ((execOp a.eval o).run P w) := by simp [evalOp] at h
theorem compBin_out {o : Oper} {op : BinOp} {t t' : TypeId} {x y : Operand} (ho : o.op = .binOp op t x y t') (g : Good w.heap ρ Z H) (hF : FR w.heap ρ Z s a) (h : evalOp s H (compBin P op t x y) = some rs) :
    OpOut P w ρ Z H rs ((execOp a.eval o).run P w) := by
  unfold compBin at h
  cases hu : P.underlying t with
  | none => rw [hu] at h; exact bad_out h
  | some d =>
    rw [hu] at h
    have gen : ∀ (h : evalOp s H (match eqNeg op, shapeOf P 8 t with
      | some n, some sh => if isAggD d && !(P.eqGuardType P.depth t) && ((P.info? t).any fun i => i.size == sh.length) then .aeq n sh (cx x) (cx y) else .bad
      | _, _ => .bad) = some rs), OpOut P w ρ Z H rs ((execOp a.eval o).run P w) := by
      intro h
      split at h
      · rename_i n sh hn hsh
        split at h
        · rename_i hc
          simp only [Bool.and_eq_true, Bool.not_eq_true'] at hc
          obtain ⟨⟨h1, h2⟩, h3⟩ := hc
          cases hi : P.info? t with
          | none => simp [hi] at h3
          | some i =>
            rw [hi] at h3
            exact aeq_out hu hn hsh h1 h2 hi (by simpa using h3) ho g hF h
        · exact bad_out h
      · exact bad_out h
    cases d with
    | int k => exact bin_out ho g hF h
    | string => exact bin_out ho g hF h
    | bool =>
      simp only at h
      cases hn : eqNeg op with
      | none => rw [hn] at h; exact bad_out h
      | some n => rw [hn] at h; exact beq_out hu hn ho g hF h
    | slice e =>
      simp only at h
      cases hn : eqNeg op with
      | none => rw [hn] at h; exact bad_out h
      | some n =>
        rw [hn] at h
        simp only at h
        split at h
        · rename_i hy; exact ncmpS_out hu hn hy ho g hF h
        · exact bad_out h
    | pointer e =>
      simp only at h
      cases hn : eqNeg op with
      | none => rw [hn] at h; exact bad_out h
      | some n =>
        rw [hn] at h
        simp only at h
        split at h
        · rename_i hy; exact ncmpP_out hu hn hy ho g hF h
        · split at h
          · rename_i j he; exact peq_out hu he hn ho g hF h
          · exact bad_out h
    | _ => exact gen h
theorem compCall_out {o : Oper} {c : Call} (ho : o.op = .call c) (g : Good w.heap ρ Z H) (hF : FR w.heap ρ Z s a) (h : evalOp s H (compCall P c) = some rs) :
    OpOut P w ρ Z H rs ((execOp a.eval o).run P w) := by
  unfold compCall at h
  split at h
  · rename_i f hc
    split at h
    · rename_i k hk; exact ext_out hk ho hc g hF h
    · exact call_out ho hc g hF h
  · rename_i t hc; exact callv_out ho hc g hF h
  · rename_i hc
    split at h
    · rename_i x t hx ht
      have hx' : c.args = #[x] := by rw [← Array.toArray_toList (xs := c.args), hx]
      have ht' : c.argTypes = #[t] := by rw [← Array.toArray_toList (xs := c.argTypes), ht]
      split at h
      · rename_i hu; exact len_out (str := true) (by simpa using hu) ho hc hx' ht' g hF h
      · rename_i e hu; exact len_out (str := false) (by simpa using ⟨e, hu⟩) ho hc hx' ht' g hF h
      · exact bad_out h
    · exact bad_out h
  · rename_i hc
    split at h
    · rename_i x y t u hx ht
      have hx' : c.args = #[x, y] := by rw [← Array.toArray_toList (xs := c.args), hx]
      have ht' : c.argTypes = #[t, u] := by rw [← Array.toArray_toList (xs := c.argTypes), ht]
      split at h
      · rename_i e e' hu hu'
        split at h
        · rename_i i hi
          split at h
          · rename_i z hz
            split at h
            · rename_i zs hzs
              split at h
              · rename_i hcd
                exact append_out (str := false) ⟨hu, by simpa using ⟨e', hu'⟩, hi, hz, hzs, hcd.1, hcd.2⟩ ho hc hx' ht' g hF h
              · exact bad_out h
            · exact bad_out h
          · exact bad_out h
        · exact bad_out h
      · rename_i e hu hu'
        split at h
        · rename_i i hi
          split at h
          · rename_i z hz
            split at h
            · rename_i zs hzs
              split at h
              · rename_i hcd
                exact append_out (str := true) ⟨hu, by simpa using hu', hi, hz, hzs, hcd.1, hcd.2.2⟩ ho hc hx' ht' g hF h
              · exact bad_out h
            · exact bad_out h
          · exact bad_out h
        · exact bad_out h
      · exact bad_out h
    · exact bad_out h
  · rename_i hc
    split at h
    · rename_i x hx
      have hx' : c.args = #[x] := by rw [← Array.toArray_toList (xs := c.args), hx]
      exact sdata_out ho hc hx' g hF h
    · exact bad_out h
  · rename_i hc
    split at h
    · rename_i x y t t2 hx ht
      have hx' : c.args = #[x, y] := by rw [← Array.toArray_toList (xs := c.args), hx]
      have ht' : c.argTypes = #[t, t2] := by rw [← Array.toArray_toList (xs := c.argTypes), ht]
      split at h
      · rename_i e hu
        split at h
        · rename_i h1; exact ustr_out hu h1 ho hc hx' ht' g hF h
        · exact bad_out h
      · exact bad_out h
    · exact bad_out h
  · rename_i hc; exact mm_out (mx := true) ho (by simpa using hc) g hF h
  · rename_i hc; exact mm_out (mx := false) ho (by simpa using hc) g hF h
  · exact bad_out h
theorem op_out {o : Oper} (g : Good w.heap ρ Z H) (hF : FR w.heap ρ Z s a) (h : evalOp s H (compOp P lit o.op) = some rs) : OpOut P w ρ Z H rs ((execOp a.eval o).run P w) := by
  obtain ⟨op, hop⟩ : ∃ op, o.op = op := ⟨_, rfl⟩
  have h0 := h
  rw [hop] at h
  cases op with
  | move x => exact move_out (.inl hop) g hF h
  | assign x => exact move_out (.inr hop) g hF h
  | pick c x y => exact pick_out hop g hF h
  | alloc t =>
    simp only [compOp] at h
    split at h
    · rename_i i hi
      split at h
      · rename_i z hz
        split at h
        · rename_i zs hzs
          split at h
          · exact allc_out hi hz hzs hop g h
          · exact bad_out h
        · exact bad_out h
      · exact bad_out h
    · exact bad_out h
  | box t x => exact box_out hop g hF h
  | build t ps =>
    simp only [compOp] at h
    split at h
    · rename_i i hi
      split at h
      · rename_i z hz
        split at h
        · rename_i zs hzs
          split at h
          · rename_i fs hu
            split at h
            · rename_i hall
              split at h
              · rename_i l hl; exact build_out hi hz hzs hop g hF (.inl ⟨fs, hu, hall, hl⟩) h
              · exact bad_out h
            · exact bad_out h
          · rename_i n e hu
            split at h
            · rename_i k hk
              split at h
              · rename_i l hl; exact build_out hi hz hzs hop g hF (.inr ⟨n, e, k, hu, hk, hl⟩) h
              · exact bad_out h
            · exact bad_out h
          · exact bad_out h
        · exact bad_out h
      · exact bad_out h
    · exact bad_out h
  | buildSlice t n ps =>
    simp only [compOp] at h
    split at h
    · rename_i e hu
      split at h
      · rename_i i hi
        split at h
        · rename_i z hz
          split at h
          · rename_i zs hzs
            split at h
            · rename_i hc
              split at h
              · split at h
                · rename_i hn
                  exact emp_out hu hi hn hop g h
                · exact bsliceO_out hu hi hz hzs hc.1 hc.2.1 hc.2.2 hop g hF h
              · exact bslice_out hu hi hz hzs hc.1 hc.2.1 hc.2.2 hop g hF h
            · exact bad_out h
          · exact bad_out h
        · exact bad_out h
      · exact bad_out h
    · exact bad_out h
  | load t x => exact load_out hop g hF h0
  | store t x y =>
    simp only [compOp] at h
    split at h
    · rename_i i hi; exact store_out hi hop g hF h
    · exact bad_out h
  | nilCheck x => exact nilck_out hop g hF h
  | binOp op t x y t' => exact compBin_out hop g hF h
  | unOp op t x => exact un_out hop g hF h
  | convert src dst x =>
    simp only [compOp] at h
    split at h
    · rename_i k k' hs hd; exact conv_out hs hd hop g hF h
    · rename_i hs hd; exact convS_out hs hd hop g hF h
    · rename_i e hs hd
      split at h
      · rename_i he; exact strB_out hs hd he hop g hF h
      · exact bad_out h
    · rename_i e hs hd
      split at h
      · rename_i he; exact bytesS_out hs hd he hop g hF h
      · exact bad_out h
    · rename_i t hs hd
      split at h
      · rename_i j hj
        split at h
        · rename_i h0; exact idu_out hs hd hj h0 hop g hF h
        · exact bad_out h
      · exact bad_out h
    · rename_i u hs hd
      split at h
      · rename_i j hj
        split at h
        · rename_i h0; exact idf_out hs hd hj h0.1 h0.2 hop g hF h
        · exact bad_out h
      · exact bad_out h
    · exact bad_out h
  | makeFunc fn first caps =>
    cases fn with
    | func f =>
      exact mkfn_out hop g hF h
    | _ => exact bad_out h
  | makeSlice t l c =>
    simp only [compOp] at h
    split at h
    · rename_i hs
      split at h
      · rename_i e hu
        split at h
        · rename_i i hi
          split at h
          · rename_i z hz
            split at h
            · rename_i zs hzs
              split at h
              · rename_i hc; exact mks_out hs hu hi hz hzs hc.1 hc.2.1 hc.2.2.1 hc.2.2.2 hop g hF h
              · exact bad_out h
            · exact bad_out h
          · exact bad_out h
        · exact bad_out h
      · exact bad_out h
    · exact bad_out h
  | slice t x lo hi mx =>
    cases mx with
    | some m => exact bad_out h
    | none =>
      simp only [compOp] at h
      split at h
      · rename_i hu; exact sliceStr_out hu hop g hF h
      · rename_i e hu
        split at h
        · rename_i i hi; exact sliceSl_out hu hi hop g hF h
        · exact bad_out h
      · exact bad_out h
  | fieldAddr t x f => exact faddr_out hop g hF h0
  | field t x f => exact field_out hop g hF h0
  | indexAddr t x i => exact iaddr_out hop g hF h0
  | index t x i => exact index_out hop g hF h0
  | extract x i => exact extr_out hop g hF h
  | call c => exact compCall_out hop g hF h
  | _ => exact bad_out h
end
end Go.Proofs.YtjaigpidmngaaaaGreat

namespace Go.Proofs.YtjaigpidmngaaaaGreat
section
variable {P : Program} {w : World} {ρ : Loc} {Z : Nat → Prop} {H : AH}
theorem Rl.plain0 {h h' : Array Obj} {ρ' : Loc} {Z' : Nat → Prop} {v : AV} {x : Value} (hr : Rl h ρ Z v x) (hp : v.plain0 = true) : Rl h' ρ' Z' v x := by
  cases hr <;> first | (simp [AV.plain0] at hp; done) | constructor
  assumption
theorem Rl.plain1 {h h' : Array Obj} {ρ' : Loc} {Z' : Nat → Prop} {v : AV} {x : Value} (hr : Rl h ρ Z v x) (hp : v.plain1 = true) : Rl h' ρ' Z' v x := by
  have hr' := hr
  cases hr with
  | agg cs vs hl hc hr =>
    refine .agg cs vs hl hc fun i v x h1 h2 => (hr i v x h1 h2).plain0 ?_
    exact (List.all_eq_true.1 (by simpa [AV.plain1] using hp)) v (List.mem_of_getElem? h1)
  | _ => exact hr'.plain0 hp
theorem Rl.plain {h h' : Array Obj} {ρ' : Loc} {Z' : Nat → Prop} {v : AV} {x : Value} (hr : Rl h ρ Z v x) (hp : v.plain = true) : Rl h' ρ' Z' v x := by
  have hr' := hr
  cases hr with
  | tup cs vs hl hr =>
    refine .tup cs vs hl fun i v x h1 h2 => (hr i v x h1 h2).plain1 ?_
    exact (List.all_eq_true.1 (by simpa [AV.plain] using hp)) v (List.mem_of_getElem? h1)
  | _ => exact hr'.plain1 hp
theorem Good.frame {w' : World} {ρ' : Loc} {Z' : Nat → Prop} {H0 H0' HS HS' : AH} (g : Good w.heap ρ Z HS) (hs : Sub H0 HS) (e : Ext w ρ Z (Own ρ H0) w' ρ' Z' (Own ρ' H0')) (g' : Good w'.heap ρ' Z' H0')
    (h1 : ∀ id b, hget HS' id = some b → hget H0' id = some b ∨ (hget HS id = some b ∧ hget H0 id = none)) :
    Good w'.heap ρ' Z' HS' ∧ Ext w ρ Z (Own ρ HS) w' ρ' Z' (Own ρ' HS') := by
  have notO : ∀ id b k o, hget HS id = some b → hget H0 id = none → ρ id = some (k, o) → ¬ Own ρ H0 k := by
    rintro id b k o q1 q2 q3 ⟨j, bl, o', q4, q5⟩
    have hne : id ≠ j := fun e1 => by rw [e1, q4] at q2; cases q2
    exact g.inj id j _ _ _ _ _ _ q1 (hs _ _ q4) q3 q5 hne rfl
  have old : ∀ id b, hget HS id = some b → hget H0 id = none → ∃ k o, ρ' id = some (k, o) ∧ ρ id = some (k, o) ∧ k < w.heap.size ∧ ¬ Own ρ H0 k ∧ ¬ Z k ∧ BlkR w'.heap ρ' Z' k o b := by
    intro id b q1 q2
    obtain ⟨k, o, q3, q4⟩ := g.blk id b q1
    have q5 := notO id b k o q1 q2 q3
    have q6 := q4.lt
    refine ⟨k, o, e.loc _ _ q3, q3, q6, q5, g.notZ k ⟨id, b, o, q1, q3⟩, q4.mono (e.keep k q6 q5) fun v x r => r.ext e (fun b q => g.notZ b (q.of_sub hs)) g.zlt⟩
  refine ⟨⟨fun id b q => ?_, fun i j a b p q o o' q1 q2 q3 q4 hne => ?_, fun k q hz => ?_, g'.zlt, g'.ids, g'.ty, g'.tab⟩, ?_⟩
  · rcases h1 id b q with q | ⟨q1, q2⟩
    · exact g'.blk id b q
    · obtain ⟨k, o, q3, _, _, _, _, q4⟩ := old id b q1 q2
      exact ⟨k, o, q3, q4⟩
  · rcases h1 i a q1 with r1 | ⟨r1, r2⟩ <;> rcases h1 j b q2 with s1 | ⟨s1, s2⟩
    · exact g'.inj i j a b p q o o' r1 s1 q3 q4 hne
    · obtain ⟨k, o2, t1, t2, t3, t4, _, _⟩ := old j b s1 s2
      rw [q4] at t1
      simp only [Option.some.injEq, Prod.mk.injEq] at t1
      obtain ⟨rfl, rfl⟩ := t1
      rintro rfl
      rcases e.own p ⟨i, a, o, r1, q3⟩ with u | u
      · exact t4 u
      · omega
    · obtain ⟨k, o2, t1, t2, t3, t4, _, _⟩ := old i a r1 r2
      rw [q3] at t1
      simp only [Option.some.injEq, Prod.mk.injEq] at t1
      obtain ⟨rfl, rfl⟩ := t1
      rintro rfl
      rcases e.own p ⟨j, b, o', s1, q4⟩ with u | u
      · exact t4 u
      · omega
    · obtain ⟨k, o2, t1, t2, _⟩ := old i a r1 r2
      obtain ⟨k', o2', t1', t2', _⟩ := old j b s1 s2
      rw [q3] at t1
      rw [q4] at t1'
      simp only [Option.some.injEq, Prod.mk.injEq] at t1 t1'
      obtain ⟨rfl, rfl⟩ := t1
      obtain ⟨rfl, rfl⟩ := t1'
      exact g.inj i j a b _ _ _ _ r1 s1 t2 t2' hne
  · obtain ⟨id, b, o, q1, q2⟩ := q
    rcases h1 id b q1 with q1 | ⟨q1, q3⟩
    · exact g'.notZ k ⟨id, b, o, q1, q2⟩ hz
    · obtain ⟨k', o2, t1, t2, t3, t4, t5, _⟩ := old id b q1 q3
      rw [q2] at t1
      simp only [Option.some.injEq, Prod.mk.injEq] at t1
      obtain ⟨rfl, rfl⟩ := t1
      rcases e.znew k hz with u | u | u
      · exact t5 u
      · exact t4 u
      · omega
  · refine { e with keep := fun k hk hO => e.keep k hk fun q => hO (q.of_sub hs), znew := fun k q => ?_, own := fun k q => ?_ }
    · rcases e.znew k q with u | u | u
      · exact .inl u
      · exact .inr (.inl (u.of_sub hs))
      · exact .inr (.inr u)
    · obtain ⟨id, b, o, q1, q2⟩ := q
      rcases h1 id b q1 with q1 | ⟨q1, q3⟩
      · rcases e.own k ⟨id, b, o, q1, q2⟩ with u | u
        · exact .inl (u.of_sub hs)
        · exact .inr u
      · obtain ⟨k', o2, t1, t2, _⟩ := old id b q1 q3
        rw [q2] at t1
        simp only [Option.some.injEq, Prod.mk.injEq] at t1
        obtain ⟨rfl, rfl⟩ := t1
        exact .inl ⟨id, b, o, q1, t2⟩
theorem ext_back {w' : World} {ρ' : Loc} {Zc Z' : Nat → Prop} {H' : AH} (g : Good w.heap ρ Z H) (hz : ∀ b, Z b → Zc b) (e : Ext w ρ Zc (Own ρ []) w' ρ' Z' (Own ρ' H')) (g' : Good w'.heap ρ' Z' H') :
    Good w'.heap ρ' Z H ∧ Ext w ρ Z (Own ρ H) w' ρ' Z (Own ρ' H) := by
  have no : ∀ b, ¬ Own ρ [] b := by rintro b ⟨id, bl, o, q, _⟩; cases q
  have e1 : Ext w ρ Z (Own ρ []) w' ρ' Z (Own ρ' []) :=
    { e with zmono := fun _ q => q, znew := fun _ q => .inl q, own := by rintro b ⟨id, bl, o, q, _⟩; cases q }
  have g1 : Good w'.heap ρ' Z [] :=
    { blk := by intro id b q; cases q
      inj := by intro i j a b p q o o' q1; cases q1
      notZ := by rintro b ⟨id, bl, o, q, _⟩; cases q
      zlt := fun b q => Nat.lt_of_lt_of_le (g.zlt b q) e.size
      ids := g'.ids
      ty := g'.ty
      tab := g.tab.of (fun _ q => q) (fun b q => e.keep b (g.zlt b q) (no b)) }
  exact g.frame (H0 := []) (H0' := []) (by intro id b q; cases q) e1 g1 (fun id b q => .inr ⟨q, rfl⟩)
theorem callA_calls {f : Nat} {args : List AV} {xs : List Value} {K : AV → AH → Prop} (h : callA P f args H K) (g : Good w.heap ρ Z H) (hr : RlL w.heap ρ Z args xs) :
    Calls P f xs.toArray w fun e w' => ∃ x r H' ρ' Z', e = .returned x ∧ Good w'.heap ρ' Z' H' ∧ Rl w'.heap ρ' Z' r x ∧ Ext w ρ Z (Own ρ H) w' ρ' Z' (Own ρ' H') ∧ K r H' := by
  obtain ⟨args', Hc, hs, hf, h | h⟩ := h
  · have gc := g.freeze hs
    refine (h.2 w ρ _ xs gc (hr.freeze g hf)).mono fun e w' ⟨x, r, H', ρ', Z', a, b, c, d, k⟩ => ⟨x, r, H', ρ', Z', a, b, c, ?_, k⟩
    refine { d with keep := fun k hk hO => d.keep k hk fun q => hO (q.of_sub hs), zmono := fun k q => d.zmono k (.inl q), znew := fun k q => ?_, own := fun k q => ?_ }
    · rcases d.znew k q with u | u | u
      · rcases u with u | u
        · exact .inl u
        · exact .inr (.inl u.own)
      · exact .inr (.inl (u.of_sub hs))
      · exact .inr (.inr u)
    · rcases d.own k q with u | u
      · exact .inl (u.of_sub hs)
      · exact .inr u
  · have gc : Good w.heap ρ (fun b => Z b ∨ Drop ρ H Hc b) [] := (g.freeze hs).forget (by intro id b q; cases q)
    refine (h.2 w ρ _ xs gc (hr.freeze g hf)).mono fun e w' ⟨x, r, H', ρ', Z', a, b, c, d, k⟩ => ?_
    obtain ⟨q1, q2⟩ := ext_back g (fun _ q => .inl q) d b
    exact ⟨x, r, H, ρ', Z, a, q1, c.plain k.1, q2, k.2⟩
theorem Rl.back {h h0 : Array Obj} {ρ' : Loc} {Z' Z0 : Nat → Prop} {v : AV} {x : Value} (hr : Rl h ρ' Z' v x) (hρ : ∀ id p, ρ id = some p → ρ' id = some p) : ∀ x0, Rl h0 ρ Z0 v x0 → Rl h ρ Z' v x := by
  have same : ∀ id p q, ρ' id = some p → ρ id = some q → ρ id = some p := fun id p q h1 h2 => by
    rw [hρ id q h2] at h1
    simp only [Option.some.injEq] at h1
    rw [← h1]; exact h2
  have part : ∀ {cs : List AV} {vs : List Value} {i : Nat} {v : AV}, cs.length = vs.length → cs[i]? = some v → ∃ x, vs[i]? = some x := fun hl h1 => by
    have := (List.getElem?_eq_some_iff.1 h1).1
    exact ⟨_, List.getElem?_eq_getElem (by omega)⟩
  induction hr with
  | int k n => exact fun _ _ => .int k n
  | bool b => exact fun _ _ => .bool b
  | str l s e => exact fun _ _ => .str l s e
  | agg cs vs hl hc hr ih =>
    intro x0 h0
    cases h0 with
    | agg _ vs0 hl0 hc0 hr0 =>
      refine .agg cs vs hl hc fun i v x h1 h2 => ?_
      obtain ⟨y, hy⟩ := part hl0 h1
      exact ih i v x h1 h2 y (hr0 i v y h1 hy)
  | tup cs vs hl hr ih =>
    intro x0 h0
    cases h0 with
    | tup _ vs0 hl0 hr0 =>
      refine .tup cs vs hl fun i v x h1 h2 => ?_
      obtain ⟨y, hy⟩ := part hl0 h1
      exact ih i v x h1 h2 y (hr0 i v y h1 hy)
  | rows sz l b o n c f hn hnc hz hw hcc hm hr ih =>
    intro x0 h0
    cases h0 with
    | rows _ _ b0 o0 n0 c0 f0 hn0 hnc0 hz0 hw0 hcc0 hm0 hr0 => exact .rows sz l b o n c f hn hnc hz hw hcc hm fun i r j v h1 h2 => ih i r j v h1 h2 _ (hr0 i r j v h1 h2)
    | rowsN _ => exact .rows sz [] b o n c f hn hnc hz hw hcc hm fun i r j v h1 h2 => by simp at h1
    | rowsE _ _ _ => exact .rows sz [] b o n c f hn hnc hz hw hcc hm fun i r j v h1 h2 => by simp at h1
  | rowsN sz => exact fun _ _ => .rowsN sz
  | rowsE sz a c => exact fun _ _ => .rowsE sz a c
  | nilS => exact fun _ _ => .nilS
  | own id sz lo hi b o0 o n c m hq hlo hn hnc ho hm hcap =>
    intro x0 h0
    cases h0 with
    | own _ _ _ _ b' o0' _ _ _ _ hq' => exact .own id sz lo hi b o0 o n c m (same _ _ _ hq hq') hlo hn hnc ho hm hcap
  | ptr id sz i j b o0 hq =>
    intro x0 h0
    cases h0 with
    | ptr _ _ _ _ b' o0' hq' => exact .ptr id sz i j b o0 (same _ _ _ hq hq')
  | fp cs b o f hz hcc hm hr ih =>
    intro x0 h0
    cases h0 with
    | fp _ b0 o0 f0 hz0 hcc0 hm0 hr0 => exact .fp cs b o f hz hcc hm fun i v h1 => ih i v h1 _ (hr0 i v h1)
  | nilP => exact fun _ _ => .nilP
  | clo f fs us cs vs hf hl hq hr ihq ih =>
    intro x0 h0
    cases h0 with
    | clo _ _ us0 _ vs0 hf0 hl0 hq0 hr0 =>
      refine .clo f fs us cs vs hf hl (fun i v x h1 h2 => ?_) fun i v x h1 h2 => ?_
      · obtain ⟨y, hy⟩ := part hf0 h1
        exact ihq i v x h1 h2 y (hq0 i v y h1 hy)
      · obtain ⟨y, hy⟩ := part hl0 h1
        exact ih i v x h1 h2 y (hr0 i v y h1 hy)
  | nilI => exact fun _ _ => .nilI
  | nilF => exact fun _ _ => .nilF
  | emp b o => exact fun _ _ => .emp b o
  | yld id b o0 hq =>
    intro x0 h0
    cases h0 with
    | yld _ b' o0' hq' => exact .yld id b o0 (same _ _ _ hq hq')
theorem Good.back {w' : World} {ρ' : Loc} {Z' : Nat → Prop} (g : Good w.heap ρ Z H) (g' : Good w'.heap ρ' Z' H) (e : Ext w ρ Z (Own ρ H) w' ρ' Z' (Own ρ' H)) :
    Good w'.heap ρ Z' H ∧ Ext w ρ Z (Own ρ H) w' ρ Z' (Own ρ H) := by
  have at_ : ∀ id blk, hget H id = some blk → ∃ p, ρ id = some p ∧ ρ' id = some p := fun id blk q => by
    obtain ⟨b, o, q1, _⟩ := g.blk id blk q
    exact ⟨_, q1, e.loc _ _ q1⟩
  have own : Own ρ' H = Own ρ H := by
    funext b
    apply propext
    constructor
    · rintro ⟨id, bl, o, q, r⟩
      obtain ⟨p, q1, q2⟩ := at_ id bl q
      rw [r] at q2
      exact ⟨id, bl, o, q, by rw [q1, q2]⟩
    · rintro ⟨id, bl, o, q, r⟩
      exact ⟨id, bl, o, q, e.loc _ _ r⟩
  refine ⟨⟨fun id blk q => ?_, fun i j a b p q o o' q1 q2 q3 q4 => g'.inj i j a b p q o o' q1 q2 (e.loc _ _ q3) (e.loc _ _ q4), fun b q => g'.notZ b (by rw [own]; exact q), g'.zlt, g.ids, fun id b o q => g'.ty id b o (e.loc _ _ q), g'.tab⟩, ?_⟩
  · obtain ⟨b, o, q1, q2⟩ := g.blk id blk q
    obtain ⟨b', o', q1', q2'⟩ := g'.blk id blk q
    rw [e.loc _ _ q1] at q1'
    simp only [Option.some.injEq, Prod.mk.injEq] at q1'
    obtain ⟨rfl, rfl⟩ := q1'
    refine ⟨b, o, q1, ?_⟩
    cases blk with
    | loop L =>
      obtain ⟨r, r1, r2, r3, r4, r5, r6, r7⟩ := q2
      obtain ⟨r', r1', r2', r3', r4', r5', r6', r7'⟩ := q2'
      exact ⟨r', r1', r2', r3', r4', r5', r6', fun t v e1 => (r7' t v e1).back e.loc _ (r7 t v e1)⟩
    | rows sz l =>
      obtain ⟨cs, et, r1, r2, r3, r4⟩ := q2
      obtain ⟨cs', et', r1', r2', r3', r4'⟩ := q2'
      refine ⟨cs', et', r1', r2', r3', fun i r j v h1 h2 => ?_⟩
      obtain ⟨c, y, c1, c2⟩ := r4' i r j v h1 h2
      obtain ⟨_, y0, _, c20⟩ := r4 i r j v h1 h2
      exact ⟨c, y, c1, c2.back e.loc y0 c20⟩
  · rw [own] at e
    exact { e with loc := fun _ _ q => q }
theorem callP_calls {f : Nat} {args : List AV} {xs : List Value} {r : AV} {HS : AH} (h : callP P f args H r) (g : Good w.heap ρ Z HS) (hsub : Sub H HS) (hr : RlL w.heap ρ Z args xs) :
    Calls P f xs.toArray w fun e w' => ∃ x Z', e = .returned x ∧ Good w'.heap ρ Z' HS ∧ Rl w'.heap ρ Z' r x ∧ Ext w ρ Z (Own ρ HS) w' ρ Z' (Own ρ HS) := by
  rcases h with ⟨hno, h⟩ | ⟨args', Hc, hs, hf, hp, h⟩
  · refine (h.2 w ρ Z xs (g.forget hsub) hr).mono fun e w' ⟨x, r', H', ρ', Z', a, b, c, d, k1, k2⟩ => ?_
    subst k1
    subst k2
    obtain ⟨q1, q2⟩ := g.frame hsub d b (HS' := HS) fun id bl q => by
      cases hh : hget H' id with
      | none => exact .inr ⟨q, rfl⟩
      | some b' => have := hsub _ _ hh; rw [q] at this; exact .inl this.symm
    obtain ⟨q3, q4⟩ := g.back q1 q2
    exact ⟨x, Z', a, q3, hno _ _ _ _ _ c, q4⟩
  · have g0 := g.forget hsub
    have gc : Good w.heap ρ (fun b => Z b ∨ Drop ρ H Hc b) [] := (g0.freeze hs).forget (by intro id b q; cases q)
    refine (h.2 w ρ _ xs gc (hr.freeze g0 hf)).mono fun e w' ⟨x, r', H', ρ', Z', a, b, c, d, k⟩ => ?_
    subst k
    obtain ⟨q1, q2⟩ := ext_back g (fun _ q => .inl q) d b
    obtain ⟨q3, q4⟩ := g.back q1 q2
    exact ⟨x, Z, a, q3, c.plain hp, q4⟩
theorem Good.backW {w' : World} {ρ' : Loc} {Z' : Nat → Prop} {id : Nat} {b b' : Blk} (g : Good w.heap ρ Z H) (hid : hget H id = some b) (hb : BlkN b b') (g' : Good w'.heap ρ' Z' (hset H id b')) (e : Ext w ρ Z (Own ρ H) w' ρ' Z' (Own ρ' (hset H id b'))) :
    Good w'.heap ρ Z' (hset H id b') ∧ Ext w ρ Z (Own ρ H) w' ρ Z' (Own ρ (hset H id b')) := by
  have at_ : ∀ j blk, hget (hset H id b') j = some blk → ∃ blk0 p, hget H j = some blk0 ∧ ρ j = some p ∧ ρ' j = some p := fun j blk q => by
    rw [hget_hset] at q
    split at q
    · rename_i e1
      subst e1
      obtain ⟨k, o, q1, _⟩ := g.blk _ _ hid
      exact ⟨_, _, hid, q1, e.loc _ _ q1⟩
    · obtain ⟨k, o, q1, _⟩ := g.blk j blk q
      exact ⟨_, _, q, q1, e.loc _ _ q1⟩
  have own : Own ρ' (hset H id b') = Own ρ (hset H id b') := by
    funext k
    apply propext
    constructor
    · rintro ⟨j, bl, o, q, r⟩
      obtain ⟨_, p, _, q1, q2⟩ := at_ j bl q
      rw [r] at q2
      exact ⟨j, bl, o, q, by rw [q1, q2]⟩
    · rintro ⟨j, bl, o, q, r⟩
      exact ⟨j, bl, o, q, e.loc _ _ r⟩
  refine ⟨⟨fun j blk q => ?_, fun i j a b p q o o' q1 q2 q3 q4 => g'.inj i j a b p q o o' q1 q2 (e.loc _ _ q3) (e.loc _ _ q4), fun b q => g'.notZ b (by rw [own]; exact q), g'.zlt, g.ids, fun id b o q => g'.ty id b o (e.loc _ _ q), g'.tab⟩, ?_⟩
  · obtain ⟨blk0, ⟨k, o⟩, h0, q1, q1'⟩ := at_ j blk q
    obtain ⟨k', o', q2', q3⟩ := g'.blk j blk q
    rw [q1'] at q2'
    simp only [Option.some.injEq, Prod.mk.injEq] at q2'
    obtain ⟨rfl, rfl⟩ := q2'
    obtain ⟨k', o', q2', q4⟩ := g.blk j blk0 h0
    rw [q1] at q2'
    simp only [Option.some.injEq, Prod.mk.injEq] at q2'
    obtain ⟨rfl, rfl⟩ := q2'
    refine ⟨k, o, q1, ?_⟩
    rw [hget_hset] at q
    split at q
    · rename_i e1
      subst e1
      rw [hid] at q h0
      simp only [Option.map_some, Option.some.injEq] at q h0
      subst q
      subst h0
      cases b with
      | loop L => cases b' <;> exact hb.elim
      | rows sz l =>
        cases b' with
        | loop L => exact hb.elim
        | rows sz' l' =>
          obtain ⟨cs, et, r1, r2, r3, r4⟩ := q4
          obtain ⟨cs', et', r1', r2', r3', r4'⟩ := q3
          refine ⟨cs', et', r1', r2', r3', fun i r j v h1 h2 => ?_⟩
          obtain ⟨c, y, c1, c2⟩ := r4' i r j v h1 h2
          rcases hb r (List.mem_of_getElem? h1) v (List.mem_of_getElem? h2) with hn | ⟨r0, hr0, hv0⟩
          · exact ⟨c, y, c1, hn _ _ _ _ _ c2⟩
          · obtain ⟨i0, hi0⟩ := List.getElem?_of_mem hr0
            obtain ⟨j0, hj0⟩ := List.getElem?_of_mem hv0
            obtain ⟨_, y0, _, c20⟩ := r4 i0 r0 j0 v hi0 hj0
            exact ⟨c, y, c1, c2.back e.loc y0 c20⟩
    · rw [q] at h0
      cases h0
      cases blk with
      | loop L =>
        obtain ⟨r, r1, r2, r3, r4, r5, r6, r7⟩ := q4
        obtain ⟨r', r1', r2', r3', r4', r5', r6', r7'⟩ := q3
        exact ⟨r', r1', r2', r3', r4', r5', r6', fun t v e1 => (r7' t v e1).back e.loc _ (r7 t v e1)⟩
      | rows sz l =>
        obtain ⟨cs, et, r1, r2, r3, r4⟩ := q4
        obtain ⟨cs', et', r1', r2', r3', r4'⟩ := q3
        refine ⟨cs', et', r1', r2', r3', fun i r j v h1 h2 => ?_⟩
        obtain ⟨c, y, c1, c2⟩ := r4' i r j v h1 h2
        obtain ⟨_, y0, _, c20⟩ := r4 i r j v h1 h2
        exact ⟨c, y, c1, c2.back e.loc y0 c20⟩
  · rw [own] at e
    exact { e with loc := fun _ _ q => q }
theorem callW_calls {f : Nat} {args : List AV} {xs : List Value} {r : AV} {HS : AH} {id : Nat} {b b' : Blk} (h : callW P f args H id b r b') (g : Good w.heap ρ Z HS) (hsub : Sub H HS) (hid : hget HS id = some b) (hno : hget H id = none)
    (hr : RlL w.heap ρ Z args xs) :
    Calls P f xs.toArray w fun e w' => ∃ x Z', e = .returned x ∧ Good w'.heap ρ Z' (hset HS id b') ∧ Rl w'.heap ρ Z' r x ∧ Ext w ρ Z (Own ρ HS) w' ρ Z' (Own ρ (hset HS id b')) := by
  obtain ⟨hn, hb, Hs, hs, h⟩ := h
  have s1 : Sub ((id, b) :: Hs) HS := fun j c q => by
    simp only [hget] at q
    split at q
    · rename_i e1; subst e1; rw [← q]; exact hid
    · exact hsub _ _ (hs _ _ q)
  refine (h.2 w ρ Z xs (g.forget s1) hr).mono fun e w' ⟨x, r', H', ρ', Z', a, g1, c, d, k1, k2⟩ => ?_
  subst k1
  subst k2
  obtain ⟨q1, q2⟩ := g.frame s1 d g1 (HS' := hset HS id b') fun j c q => by
    rw [hget_hset] at q
    split at q
    · rename_i e1
      rw [hid] at q
      left
      simp only [hget]
      rw [if_pos e1, ← q]
      rfl
    · rename_i e1
      simp only [hget]
      rw [if_neg e1, if_neg e1]
      cases hh : hget Hs j with
      | none => exact .inr ⟨q, rfl⟩
      | some c' => have := hsub _ _ (hs _ _ hh); rw [q] at this; exact .inl this.symm
  obtain ⟨q3, q4⟩ := g.backW hid hb q1 q2
  exact ⟨x, Z', a, q3, hn _ _ _ _ _ c, q4⟩
end
end Go.Proofs.YtjaigpidmngaaaaGreat

namespace Go.Proofs.YtjaigpidmngaaaaGreat
structure Beg where
  w : World
  ρ : Loc
  Z : Nat → Prop
  O : Nat → Prop
  N : Nat
structure Marks (B : Beg) (w : World) (ds : List Deferred) : Prop where
  one : ∀ d ∈ ds, ∃ D, d = { target := .collected D, args := #[] } ∧ w.heap[D]? = some (.deferred (some [])) ∧ B.w.heap.size ≤ D
  nd : ds.Pairwise fun d e => ∀ D, d = { target := .collected D, args := #[] } → e ≠ { target := .collected D, args := #[] }
theorem Marks.nil (B : Beg) (w : World) : Marks B w [] := ⟨(by simp), .nil⟩
theorem Marks.ext {B : Beg} {w w' : World} {ρ ρ' : Loc} {Z Z' O' : Nat → Prop} {H : AH} {ds : List Deferred} (m : Marks B w ds) (g : Good w.heap ρ Z H) (e : Ext w ρ Z (Own ρ H) w' ρ' Z' O') : Marks B w' ds := by
  refine ⟨fun d hd => ?_, m.nd⟩
  obtain ⟨D, h1, h2, h3⟩ := m.one d hd
  refine ⟨D, h1, ?_, h3⟩
  rw [e.keep D (Array.getElem?_eq_some_iff.1 h2).1 ?_]
  · exact h2
  · rintro ⟨id, blk, o0, q1, q2⟩
    obtain ⟨b, o, q3, q4⟩ := g.blk id blk q1
    rw [q2] at q3
    obtain ⟨rfl, rfl⟩ : D = b ∧ o0 = o := by simpa using q3
    exact q4.noDefer h2
structure Inv (B : Beg) (w : World) (ρ : Loc) (Z : Nat → Prop) (H : AH) (s : Fr) (a : Act) : Prop where
  good : Good w.heap ρ Z H
  fr : FR w.heap ρ Z s a
  ext : Ext B.w B.ρ B.Z B.O w ρ Z (Own ρ H)
  size : a.tmps.size = B.N
  defers : Marks B w a.defers
def LQ (B : Beg) (Q : Exit → Fr → AH → Prop) : Exit → Act → World → Prop := fun e a w => ∃ s H ρ Z, Inv B w ρ Z H s a ∧ Q e s H
abbrev FnR (rd : Option Nat) : Fence := { Fence.wide with round := rd }
theorem callsIn_ff {rd : Option Nat} {n : Nat} {P : Program} {f : FuncId} {args : Array Value} {w : World} {R : Ending → World → Prop} (h : Calls P f args w R) : CallsIn (FnR rd) n P f args w R := (callsIn_wide (n := n)).2 h
theorem not_defer {P : Program} {s : Fr} {H : AH} {lit : Bool} {op : Op} {rs : Rs} (h : evalOp s H (compOp P lit op) = some rs) : ∀ c, op ≠ .defer c := by
  intro c e
  rw [e] at h
  simp [compOp, evalOp] at h
section
variable {rd : Option Nat} {nn : Nat} {P : Program} {w : World} {ρ : Loc} {Z : Nat → Prop} {H : AH} {s : Fr} {a : Act} {B : Beg} {fl : List Nat}
theorem FR.ext {w' : World} {ρ' : Loc} {Z' O' : Nat → Prop} (g : Good w.heap ρ Z H) (h : FR w.heap ρ Z s a) (e : Ext w ρ Z (Own ρ H) w' ρ' Z' O') : FR w'.heap ρ' Z' s a :=
  fun t v q => (h t v q).ext e g.notZ g.zlt
theorem getD_put {d t : Nat} {x : Value} (hd : d < a.tmps.size) : (a.put (some d) x).tmps.getD t undef = if t = d then x else a.tmps.getD t undef := by
  simp only [Act.put, Array.getD_eq_getD_getElem?, Array.getElem?_setIfInBounds]
  by_cases e : d = t
  · subst e; simp [hd]
  · rw [if_neg e, if_neg (fun q => e q.symm)]
theorem FR.put {dst : Option Nat} {v : AV} {x : Value} (h : FR w.heap ρ Z s a) (hd : ∀ d, dst = some d → d < a.tmps.size) (hr : Rl w.heap ρ Z v x) : FR w.heap ρ Z (s.put dst v) (a.put dst x) := by
  cases dst with
  | none => exact h
  | some d =>
    intro t u q
    rw [getD_put (hd d rfl)]
    simp only [Fr.put, Fr.set] at q
    split at q
    · rename_i e; rw [if_pos e]; simp only [Option.some.injEq] at q; rw [← q]; exact hr
    · rename_i e; rw [if_neg e]; exact h t u q
theorem FR.del {dst : Option Nat} {x : Value} (h : FR w.heap ρ Z s a) (hd : ∀ d, dst = some d → d < a.tmps.size) : FR w.heap ρ Z (s.del dst) (a.put dst x) := by
  cases dst with
  | none => exact h
  | some d =>
    intro t u q
    rw [getD_put (hd d rfl)]
    simp only [Fr.del, Fr.clr] at q
    split at q
    · cases q
    · rename_i e; rw [if_neg e]; exact h t u q
theorem size_put (dst : Option Nat) (x : Value) : (a.put dst x).tmps.size = a.tmps.size := by cases dst <;> simp [Act.put]
theorem defers_put (dst : Option Nat) (x : Value) : (a.put dst x).defers = a.defers := by cases dst <;> rfl
theorem step_out {o : Oper} {rs : Rs} {K : Fr → AH → Prop} {next : Act → World → Prop} {Q : Exit → Act → World → Prop} (hi : Inv B w ρ Z H s a) (hd : ∀ d, o.dst = some d → d < B.N) (he : evalOp s H (compOp P (litOf fl o.dst) o.op) = some rs)
    (hk : applyRs P rs o.dst s H K) (hn : ∀ a' w' ρ' Z' H' s', Inv B w' ρ' Z' H' s' a' → K s' H' → next a' w') : o.wpIn (FnR rd) nn P a w next Q := by
  have ho := op_out hi.good hi.fr he
  have hd' : ∀ d, o.dst = some d → d < a.tmps.size := fun d q => by rw [hi.size]; exact hd d q
  refine ⟨fun _ _ => trivial, ?_⟩
  rw [Oper.semAt_eq _ _ _ (not_defer he)]
  cases rs with
  | val v =>
    obtain ⟨x, w', Z', hr, g, hv, e⟩ := ho
    rw [hr, Oper.uponIn_value]
    exact hn _ _ ρ Z' H _ ⟨g, (hi.fr.ext hi.good e).put hd' hv, hi.ext.trans e, by rw [size_put]; exact hi.size, by rw [defers_put]; exact hi.defers.ext hi.good e⟩ hk
  | upd H' =>
    obtain ⟨w', hr, g, e⟩ := ho
    rw [hr, Oper.uponIn_skip]
    exact hn _ _ ρ Z H' _ ⟨g, (hi.fr.ext hi.good e).del hd', hi.ext.trans e, by rw [size_put]; exact hi.size, by rw [defers_put]; exact hi.defers.ext hi.good e⟩ hk
  | valH v H' =>
    obtain ⟨x, w', Z', hr, g, hv, e⟩ := ho
    rw [hr, Oper.uponIn_value]
    exact hn _ _ ρ Z' H' _ ⟨g, (hi.fr.ext hi.good e).put hd' hv, hi.ext.trans e, by rw [size_put]; exact hi.size, by rw [defers_put]; exact hi.defers.ext hi.good e⟩ hk
  | fresh T blk vf H' =>
    obtain ⟨N0, hN0⟩ := hi.good.ids
    obtain ⟨N, hle, htg⟩ := exists_tag N0 T
    have hN : ρ N = none := hN0 N hle
    obtain ⟨x, w', ρ', hr, _, g, hv, e⟩ := ho N hN htg
    have hfresh : hget H N = none := by
      cases hh : hget H N with
      | none => rfl
      | some b =>
        obtain ⟨k, o, q, _⟩ := hi.good.blk N b hh
        rw [hN] at q
        cases q
    rw [hr, Oper.uponIn_value]
    exact hn _ _ ρ' Z _ _ ⟨g, (hi.fr.ext hi.good e).put hd' hv, hi.ext.trans e, by rw [size_put]; exact hi.size, by rw [defers_put]; exact hi.defers.ext hi.good e⟩ (hk N hfresh htg)
  | call f args =>
    have hcl : callable P f = true := by
      obtain ⟨_, _, _, _, h | h⟩ := hk
      · exact h.1
      · exact h.1
    obtain ⟨xs, hr, hl⟩ := ho hcl
    rw [hr, Oper.uponIn_enter]
    refine ⟨fun q => (by cases q), callsIn_ff ((callA_calls hk hi.good hl).mono fun e w' ⟨x, r, H', ρ', Z', q1, g, hv, ex, k⟩ => ?_)⟩
    subst q1
    exact hn _ _ ρ' Z' H' _ ⟨g, (hi.fr.ext hi.good ex).put hd' hv, hi.ext.trans ex, by rw [size_put]; exact hi.size, by rw [defers_put]; exact hi.defers.ext hi.good ex⟩ k
  | yield id args =>
    obtain ⟨b, o, xs, hρ, hr, hl⟩ := ho
    obtain ⟨Hs, hs, hy⟩ := hk
    obtain ⟨fn, tmps, asg, bd, hrun, hround⟩ := hy (nn - 1) w ρ Z xs b o (hi.good.forget hs) hl hρ
    rw [hr, hrun, Oper.uponIn_round]
    refine ⟨fun q => (by cases q), RoundIn.mono (show RoundIn (FnR rd) (nn - 1) P b fn tmps asg bd w _ from hround) fun e w' ⟨x, r, H', ρ', Z', q1, g, hv, ex, Hf, hf1, hf2⟩ => ?_⟩
    subst q1
    obtain ⟨g2, e2⟩ := hi.good.frame hs ex g hf1
    exact hn _ _ ρ' Z' Hf _ ⟨g2, (hi.fr.ext hi.good e2).put hd' hv, hi.ext.trans e2, by rw [size_put]; exact hi.size, by rw [defers_put]; exact hi.defers.ext hi.good e2⟩ hf2
theorem yielded_of {ops : Array Oper} {o oj : Oper} {j d : Nat} {want q : Bool} (hF : FR w.heap ρ Z s a) (hg : o.guard = some (j, want)) (hj : ops[j]? = some oj) (hdst : oj.dst = some d) (hs : s d = some (.bool q)) :
    Region.wanted o (yielded ops a.tmps) = (q == want) := by
  have hr := hF d _ hs
  have hb : a.tmps[d]? = some (.bool q) := by
    generalize hx : a.tmps.getD d undef = x at hr
    cases hr
    rw [Array.getD_eq_getD_getElem?] at hx
    cases hh : a.tmps[d]? with
    | none => rw [hh] at hx; simp [undef] at hx
    | some y => rw [hh] at hx; simpa using hx
  simp only [Region.wanted, hg, yielded, hj, Option.bind_some, hdst, hb]
  cases q <;> cases want <;> rfl
theorem yielded_un {ops : Array Oper} {o oj : Oper} {j d : Nat} {want : Bool} (hF : FR w.heap ρ Z s a) (hg : o.guard = some (j, want)) (hj : ops[j]? = some oj) (hdst : oj.dst = some d) (hs : s d = some (.tup [])) :
    Region.wanted o (yielded ops a.tmps) = false := by
  have hr := hF d _ hs
  generalize hx : a.tmps.getD d undef = x at hr
  cases hr with
  | tup cs vs hl hq =>
    rw [Array.getD_eq_getD_getElem?] at hx
    simp only [Region.wanted, hg, yielded, hj, Option.bind_some, hdst]
    cases hh : a.tmps[d]? with
    | none => cases want <;> rfl
    | some y => rw [hh] at hx; simp only [Option.getD_some] at hx; rw [hx]; cases want <;> rfl
theorem Rl_un (h : Array Obj) (ρ : Loc) (Z : Nat → Prop) : Rl h ρ Z (.tup []) undef := .tup [] [] rfl (by simp)
theorem compOper_guard {ops : Array Oper} {o : Oper} {g : Option (Nat × Bool)} (h : guardOf ops o.guard = some g) : compOper P fl ops o = { dst := o.dst, guard := g, co := compOp P (litOf fl o.dst) o.op } := by
  unfold compOper; rw [h]
theorem guardOf_some {ops : Array Oper} {gd : Option (Nat × Bool)} {d : Nat} {q : Bool} (h : guardOf ops gd = some (some (d, q))) : ∃ j oj, gd = some (j, q) ∧ ops[j]? = some oj ∧ oj.dst = some d := by
  cases gd with
  | none => simp [guardOf] at h
  | some p =>
    obtain ⟨j, q'⟩ := p
    simp only [guardOf] at h
    cases hj : ops[j]? with
    | none => simp [hj] at h
    | some oj =>
      simp only [hj] at h
      cases hd : oj.dst with
      | none => simp [hd] at h
      | some d' =>
        simp only [hd, Option.some.injEq, Prod.mk.injEq] at h
        obtain ⟨rfl, rfl⟩ := h
        exact ⟨j, oj, rfl, hj, hd⟩
theorem guardOf_none {ops : Array Oper} {gd : Option (Nat × Bool)} (h : guardOf ops gd = some none) : gd = none := by
  cases gd with
  | none => rfl
  | some p =>
    obtain ⟨j, q'⟩ := p
    simp only [guardOf] at h
    cases hj : ops[j]? with
    | none => simp [hj] at h
    | some oj =>
      simp only [hj] at h
      cases hd : oj.dst <;> simp [hd] at h
theorem oper_out {ops : Array Oper} {o : Oper} {os : List COp} {K : Fr → AH → Prop} {next : Act → World → Prop} {Q : Exit → Act → World → Prop} (hi : Inv B w ρ Z H s a) (hd : ∀ d, o.dst = some d → d < B.N)
    (h : wpOps P (compOper P fl ops o :: os) K s H) (hn : ∀ a' w' ρ' Z' H' s', Inv B w' ρ' Z' H' s' a' → wpOps P os K s' H' → next a' w') :
    if Region.wanted o (yielded ops a.tmps) then o.wpIn (FnR rd) nn P a w next Q else next (a.put o.dst undef) w := by
  have hd' : ∀ d, o.dst = some d → d < a.tmps.size := fun d q => by rw [hi.size]; exact hd d q
  cases hg : guardOf ops o.guard with
  | none =>
    unfold compOper at h
    rw [hg] at h
    simp [wpOps, evalOp, OA] at h
  | some gd =>
    rw [compOper_guard hg] at h
    cases gd with
    | none =>
      have hgn := guardOf_none hg
      simp only [wpOps, OA_iff] at h
      obtain ⟨rs, he, hk⟩ := h
      rw [if_pos (by simp [Region.wanted, hgn])]
      exact step_out hi hd he hk hn
    | some p =>
      obtain ⟨d, want⟩ := p
      obtain ⟨j, oj, hgj, hj, hdst⟩ := guardOf_some hg
      simp only [wpOps, OA_iff] at h
      rcases h with ⟨q, hs, h1, h2⟩ | ⟨hs, h2⟩
      rotate_left
      · rw [if_neg (by rw [yielded_un hi.fr hgj hj hdst hs]; simp)]
        exact hn _ _ ρ Z H _ ⟨hi.good, hi.fr.put hd' (Rl_un _ _ _), hi.ext, by rw [size_put]; exact hi.size, by rw [defers_put]; exact hi.defers⟩ h2
      have hw := yielded_of hi.fr hgj hj hdst hs
      by_cases hq : q = want
      · rw [if_pos (by rw [hw]; simp [hq])]
        obtain ⟨rs, he, hk⟩ := h1 hq
        exact step_out hi hd he hk hn
      · rw [if_neg (by rw [hw]; simpa using hq)]
        have hq' : q = !want := by cases q <;> cases want <;> simp_all
        exact hn _ _ ρ Z H _ ⟨hi.good, hi.fr.put hd' (Rl_un _ _ _), hi.ext, by rw [size_put]; exact hi.size, by rw [defers_put]; exact hi.defers⟩ (h2 hq')
theorem compOper_dst {fl : List Nat} (ops : Array Oper) (o : Oper) : (compOper P fl ops o).dst = o.dst := by unfold compOper; split <;> rfl
theorem dstOk_spec {ops : Array Oper} {o : Oper} {N : Nat} (h : dstOk N (compOper P fl ops o) = true) : ∀ d, o.dst = some d → d < N := by
  intro d hd
  unfold dstOk at h
  rw [compOper_dst, hd] at h
  simpa using h
theorem wpOps_list {ops : Array Oper} {K : Fr → AH → Prop} {Q : Exit → Act → World → Prop} (hQ : ∀ a' w' ρ' Z' H' s', Inv B w' ρ' Z' H' s' a' → K s' H' → Q .normal a' w') :
    ∀ (l : List Oper) (w : World) (ρ : Loc) (Z : Nat → Prop) (H : AH) (s : Fr) (a : Act), (compOps P fl ops l).all (dstOk B.N) = true → Inv B w ρ Z H s a → wpOps P (compOps P fl ops l) K s H → wpListIn (FnR rd) nn P ops Q l a w
  | [], w, ρ, Z, H, s, a, _, hi, h => by
    simp only [compOps, wpOps] at h
    exact hQ _ _ _ _ _ _ hi h
  | o :: l, w, ρ, Z, H, s, a, hd, hi, h => by
    simp only [compOps, List.all_cons, Bool.and_eq_true] at hd h
    have := oper_out (Q := Q) (rd := rd) (nn := nn) (next := wpListIn (FnR rd) nn P ops Q l) hi (dstOk_spec hd.1) h fun a' w' ρ' Z' H' s' hi' hk' => wpOps_list hQ l w' ρ' Z' H' s' a' hd.2 hi' hk'
    unfold wpListIn
    split
    · rename_i hw; rw [if_pos hw] at this; exact this
    · rename_i hw; rw [if_neg hw] at this; exact ⟨fun _ _ => trivial, this⟩
/-! ### What an operation looks at -/
theorem ev_congr {s s' : Fr} {x : X} (h : ∀ t ∈ x.looks, s t = s' t) : ev s x = ev s' x := by
  cases x with
  | t n => exact h n (by simp [X.looks])
  | _ => rfl
theorem evL_congr {s s' : Fr} : ∀ {xs : List X}, (∀ t ∈ looksL xs, s t = s' t) → evL s xs = evL s' xs
  | [], _ => rfl
  | x :: xs, h => by
    simp only [evL, ev_congr (x := x) (fun t ht => h t (by simp [looksL, ht])), evL_congr (xs := xs) (fun t ht => h t (by simp [looksL, ht]))]
theorem ev3_congr {s s' : Fr} : ∀ {xs : List (Nat × Nat × X)}, (∀ t ∈ looks3 xs, s t = s' t) → evParts3 s xs = evParts3 s' xs
  | [], _ => rfl
  | (o, z, x) :: xs, h => by
    simp only [evParts3, ev_congr (x := x) (fun t ht => h t (by simp [looks3, ht])), ev3_congr (xs := xs) (fun t ht => h t (by simp [looks3, ht]))]
theorem ev2_congr {s s' : Fr} : ∀ {xs : List (Nat × X)}, (∀ t ∈ looks2 xs, s t = s' t) → evParts2 s xs = evParts2 s' xs
  | [], _ => rfl
  | (i, x) :: xs, h => by
    simp only [evParts2, ev_congr (x := x) (fun t ht => h t (by simp [looks2, ht])), ev2_congr (xs := xs) (fun t ht => h t (by simp [looks2, ht]))]
theorem evO_congr {s s' : Fr} {d : Int} {x : Option X} (h : ∀ t ∈ looksO x, s t = s' t) : evO s d x = evO s' d x := by
  cases x with
  | none => rfl
  | some x => simp only [evO, ev_congr (x := x) (fun t ht => h t (by simp [looksO, ht]))]
theorem evalOp_congr {s s' : Fr} {co : CO} (h : ∀ t ∈ co.looks, s t = s' t) : evalOp s H co = evalOp s' H co := by
  cases co <;> simp only [CO.looks] at h <;> simp only [evalOp]
  case pick c x y => rw [ev_congr (x := c) (fun t ht => h t (by simp [ht])), ev_congr (x := x) (fun t ht => h t (by simp [ht])), ev_congr (x := y) (fun t ht => h t (by simp [ht]))]
  case build zs ps => rw [ev3_congr h]
  case bslice T sz n zs ps => rw [ev2_congr h]
  case bsliceO T sz n zs ps => rw [ev2_congr h]
  case slice k x lo hi =>
    rw [ev_congr (x := x) (fun t ht => h t (by simp [ht]))]
    simp only [sliceA, evO_congr (x := lo) (fun t ht => h t (by simp [ht])), evO_congr (x := hi) (fun t ht => h t (by simp [ht]))]
  case mm mx xs => rw [evL_congr h]
  case ext k xs => rw [evL_congr h]
  case call f xs => rw [evL_congr h]
  case mkfn f us xs => rw [evL_congr (xs := us) (fun t ht => h t (by simp [ht])), evL_congr (xs := xs) (fun t ht => h t (by simp [ht]))]
  case callv f xs => rw [ev_congr (x := f) (fun t ht => h t (by simp [ht])), evL_congr (xs := xs) (fun t ht => h t (by simp [ht]))]
  all_goals first
    | rfl
    | (rw [ev_congr h]; done)
    | (rename_i x y; rw [ev_congr (x := x) (fun t ht => h t (by simp [ht])), ev_congr (x := y) (fun t ht => h t (by simp [ht]))]; done)
    | (rename_i n x y; rw [ev_congr (x := x) (fun t ht => h t (by simp [ht])), ev_congr (x := y) (fun t ht => h t (by simp [ht]))]; done)
end
end Go.Proofs.YtjaigpidmngaaaaGreat

namespace Go.Proofs.YtjaigpidmngaaaaGreat
inductive Ef where
  | no
  | v (x : AV)
  | nb (x : AV) (id : Nat) (b : Blk)
  | st (id : Nat) (b : Blk × Option AV) (b' : Blk)
def Ef.fr (e : Ef) (d : Option Nat) (s : Fr) : Fr :=
  match e with
  | .no => s.put d (.tup [])
  | .v x => s.put d x
  | .nb x _ _ => s.put d x
  | .st _ b _ => match b.2 with | some x => s.put d x | none => s.del d
def Ef.hp (e : Ef) (H : AH) : AH :=
  match e with
  | .nb _ id b => (id, b) :: H
  | .st id _ b' => hset H id b'
  | _ => H
def CO.ty : CO → Nat
  | .box T _ => T
  | .allc T _ => T
  | .bslice T _ _ _ _ => T
  | .bsliceO T _ _ _ _ => T
  | .mks T _ _ _ _ => T
  | .append T _ _ _ _ _ => T
  | _ => 0
theorem evalOp_ty {s : Fr} {H : AH} {co : CO} {T : Nat} {blk : Blk} {vf : Nat → AV} {H' : AH} (h : evalOp s H co = some (.fresh T blk vf H')) : T = co.ty := by
  cases co <;> simp only [evalOp, Option.bind_eq_some_iff, Option.some.injEq, reduceCtorEq, and_false, exists_false] at h
  case box =>
    obtain ⟨v, _, h⟩ := h
    split at h <;> simp only [Option.some.injEq, Rs.fresh.injEq, reduceCtorEq] at h
    exact h.1.symm
  case allc => simp only [Rs.fresh.injEq] at h; exact h.1.symm
  case bslice =>
    obtain ⟨_, _, _, _, h⟩ := h
    split at h
    · split at h <;> simp only [Option.some.injEq, Rs.fresh.injEq, reduceCtorEq] at h
      exact h.1.symm
    · cases h
  case bsliceO =>
    obtain ⟨_, _, _, _, h⟩ := h
    split at h <;> simp only [Option.some.injEq, Rs.fresh.injEq, reduceCtorEq] at h
    exact h.1.symm
  case mks =>
    obtain ⟨_, _, h⟩ := h
    split at h
    · split at h <;> simp only [Option.some.injEq, Rs.fresh.injEq, reduceCtorEq] at h
      exact h.1.symm
    · cases h
  case append =>
    obtain ⟨_, _, _, _, _, _, h⟩ := h
    split at h
    · split at h
      · simp at h
      · split at h <;> simp only [Option.some.injEq, Rs.fresh.injEq, reduceCtorEq] at h
        exact h.1.symm
    · simp only [Option.bind_eq_some_iff] at h
      obtain ⟨_, _, h⟩ := h
      split at h <;> simp only [Option.some.injEq, Rs.fresh.injEq, reduceCtorEq] at h
      exact h.1.symm
    · split at h
      · simp at h
      · split at h <;> simp only [Option.some.injEq, Rs.fresh.injEq, reduceCtorEq] at h
        exact h.1.symm
    · cases h
  all_goals (exfalso; repeat' (first | (cases h; done) | (obtain ⟨_, h⟩ := h) | split at h | (simp [Option.bind_eq_some_iff] at h; done) | (simp only [Option.bind_eq_some_iff] at h)))
def EfOk (P : Program) (H0 D : AH) (idf : Nat → Nat) (i : Nat) (o : COp) (s : Fr) (e : Ef) : Prop :=
  (∃ g want, o.guard = some (g, want) ∧ (s g = some (.bool (!want)) ∨ s g = some (.tup [])) ∧ e = .no) ∨
  ((o.guard = none ∨ ∃ g want, o.guard = some (g, want) ∧ s g = some (.bool want)) ∧
    ((∃ v, evalOp s H0 o.co = some (.val v) ∧ e = .v v) ∨ (∃ T blk vf, evalOp s H0 o.co = some (.fresh T blk vf H0) ∧ tag (idf i) = T ∧ e = .nb (vf (idf i)) (idf i) blk) ∨
      (∃ f args r, evalOp s H0 o.co = some (.call f args) ∧ callP P f args H0 r ∧ e = .v r) ∨
      (∃ id b H' b', hget D id = some b ∧ evalOp s [(id, b)] o.co = some (.upd H') ∧ hget H' id = some b' ∧ e = .st id (b, none) b') ∨
      (∃ f args id b r b', evalOp s H0 o.co = some (.call f args) ∧ hget D id = some b ∧ callW P f args H0 id b r b' ∧ e = .st id (b, some r) b') ∨
      ∃ id b H' b' t n i j, s t = some (.ptr id n i j) ∧ t ∈ o.looks ∧ evalOp s [(id, b)] o.co = some (.upd H') ∧ hget H' id = some b' ∧ e = .st id (b, none) b'))
theorem EfOk.mono {P : Program} {H0 D D' : AH} {idf : Nat → Nat} {i : Nat} {o : COp} {s : Fr} {e : Ef} (hs : Sub D D') : EfOk P H0 D idf i o s e → EfOk P H0 D' idf i o s e
  | .inl h => .inl h
  | .inr ⟨g, h⟩ => .inr ⟨g, match h with
    | .inl h => .inl h
    | .inr (.inl h) => .inr (.inl h)
    | .inr (.inr (.inl h)) => .inr (.inr (.inl h))
    | .inr (.inr (.inr (.inl ⟨id, b, H', b', h1, h2⟩))) => .inr (.inr (.inr (.inl ⟨id, b, H', b', hs _ _ h1, h2⟩)))
    | .inr (.inr (.inr (.inr (.inl ⟨f, args, id, b, r, b', h1, h2, h3⟩)))) => .inr (.inr (.inr (.inr (.inl ⟨f, args, id, b, r, b', h1, hs _ _ h2, h3⟩))))
    | .inr (.inr (.inr (.inr (.inr h)))) => .inr (.inr (.inr (.inr (.inr h))))⟩
def frAt (s : Fr) : List COp → List Ef → Fr
  | o :: os, e :: es => frAt (e.fr o.dst s) os es
  | _, _ => s
def hpAt (H : AH) : List Ef → AH
  | [] => H
  | e :: es => hpAt (e.hp H) es
section
variable {P : Program} {w : World} {ρ : Loc} {Z : Nat → Prop} {H : AH} {s : Fr} {a : Act} {B : Beg}
theorem hdel_sub (D : AH) (id : Nat) : Sub (hdel D id) D := by
  intro j b q
  rw [hget_hdel] at q
  split at q
  · cases q
  · exact q
theorem EfOk.nb {H0 D : AH} {idf : Nat → Nat} {i : Nat} {o : COp} {s : Fr} {x : AV} {id : Nat} {b : Blk} (h : EfOk P H0 D idf i o s (.nb x id b)) : id = idf i := by
  rcases h with ⟨g, want, _, _, h⟩ | ⟨_, ⟨v, _, h⟩ | ⟨T, blk, vf, _, _, h⟩ | ⟨f, args, r, _, _, h⟩ | ⟨id', b0, H', b', _, _, _, h⟩ | ⟨f, args, id', b0, r, b', _, _, _, h⟩ | ⟨id', b0, H', b', t, n, i', j', _, _, _, _, h⟩⟩
  all_goals first
    | (cases h; done)
    | (simp only [Ef.nb.injEq] at h; exact h.2.1)
structure Efs (P : Program) (H0 D F : AH) (idf : Nat → Nat) (k : Nat) (s : Fr) (os : List COp) (es : List Ef) : Prop where
  ok : ∀ (i : Nat) o e, os[i]? = some o → es[i]? = some e → EfOk P H0 D idf (k + i) o (frAt s (os.take i) (es.take i)) e
  st : ∀ (i : Nat) id b b', es[i]? = some (.st id b b') → hget D id = some b.1 ∨ hget F id = some b.1 ∨ ∃ (j : Nat) (x : AV), j < i ∧ es[j]? = some (.nb x id b.1)
  un : ∀ (i j : Nat) id b b' c c', es[i]? = some (.st id b b') → es[j]? = some (.st id c c') → i = j
set_option maxHeartbeats 1000000 in
theorem wpDraw_effects {H0 : AH} {idf : Nat → Nat} {K : Fr → AH → Prop} (hinj : ∀ i j, idf i = idf j → i = j) (os : List COp) : ∀ (k : Nat) (s : Fr) (D F H : AH), (∀ (i : Nat) o, os[i]? = some o → tag (idf (k + i)) = o.co.ty) → wpDraw P os K s H0 D F H → (∀ j, k ≤ j → hget H (idf j) = none) →
    (∀ j, k ≤ j → hget D (idf j) = none) → (∀ j, k ≤ j → hget F (idf j) = none) → (∀ id b, hget D id = some b → hget F id = none) →
    ∃ es : List Ef, es.length = os.length ∧ K (frAt s os es) (hpAt H es) ∧ Efs P H0 D F idf k s os es := by
  induction os with
  | nil => exact fun k s D F H _ h _ _ _ _ => ⟨[], rfl, h, by simp, by simp, by simp⟩
  | cons o os ih =>
    intro k s D F H htg h hid hD0 hF0 hDF
    have htg1 : ∀ (i : Nat) o, os[i]? = some o → tag (idf (k + 1 + i)) = o.co.ty := fun i o' q => by
      rw [show k + 1 + i = k + (i + 1) from by omega]; exact htg (i + 1) o' (by simpa using q)
    have next : ∀ (e : Ef) (D' F' : AH), EfOk P H0 D idf k o s e → Sub D' D → (∀ id b b', e = .st id b b' → (hget D id = some b.1 ∨ hget F id = some b.1) ∧ hget D' id = none ∧ hget F' id = none) →
        (∀ id b, hget F' id = some b → hget F id = some b ∨ ∃ x, e = .nb x id b) → wpDraw P os K (e.fr o.dst s) H0 D' F' (e.hp H) → (∀ j, k + 1 ≤ j → hget (e.hp H) (idf j) = none) →
        ∃ es : List Ef, es.length = (o :: os).length ∧ K (frAt s (o :: os) es) (hpAt H es) ∧ Efs P H0 D F idf k s (o :: os) es := by
      intro e D' F' he hD hst hF hw hid'
      have hD1 : ∀ j, k + 1 ≤ j → hget D' (idf j) = none := fun j hj => by
        cases q : hget D' (idf j) with
        | none => rfl
        | some b => have := hD _ _ q; rw [hD0 j (by omega)] at this; cases this
      have hF1 : ∀ j, k + 1 ≤ j → hget F' (idf j) = none := fun j hj => by
        cases q : hget F' (idf j) with
        | none => rfl
        | some b =>
          rcases hF _ _ q with q2 | ⟨x, q2⟩
          · rw [hF0 j (by omega)] at q2; cases q2
          · subst q2
            have := hinj _ _ he.nb; omega
      have hDF1 : ∀ id b, hget D' id = some b → hget F' id = none := fun id b q => by
        cases q1 : hget F' id with
        | none => rfl
        | some b1 =>
          rcases hF _ _ q1 with q2 | ⟨x, q2⟩
          · rw [hDF id b (hD _ _ q)] at q2; cases q2
          · subst q2
            have q3 := hD _ _ q
            rw [he.nb, hD0 k (Nat.le_refl _)] at q3; cases q3
      obtain ⟨es, h1, h2, h3⟩ := ih (k + 1) _ D' F' _ htg1 hw hid' hD1 hF1 hDF1
      have hnb : ∀ (i : Nat) x id b, es[i]? = some (.nb x id b) → id = idf (k + 1 + i) := fun i x id b q => by
        have hi := (List.getElem?_eq_some_iff.1 q).1
        exact (h3.ok i _ _ (List.getElem?_eq_getElem (by omega)) q).nb
      have cross : ∀ (i : Nat) id b b' c c', e = .st id b b' → es[i]? = some (.st id c c') → False := fun i id b b' c c' q1 q2 => by
        obtain ⟨q3, q4, q5⟩ := hst id b b' q1
        rcases h3.st i id c c' q2 with q | q | ⟨j, x, _, q⟩
        · rw [q4] at q; cases q
        · rw [q5] at q; cases q
        · have := hnb j x id _ q
          rw [this, hD0 _ (by omega), hF0 _ (by omega)] at q3
          rcases q3 with q3 | q3 <;> cases q3
      refine ⟨e :: es, by simp [h1], h2, fun i o' e' q1 q2 => ?_, fun i id b b' q => ?_, fun i j id b b' c c' q1 q2 => ?_⟩
      · cases i with
        | zero => simp at q1 q2; subst q1; subst q2; simp only [Nat.add_zero, List.take_zero, frAt]; exact he
        | succ i =>
          simp at q1 q2
          have := (h3.ok i o' e' q1 q2).mono hD
          rw [show k + (i + 1) = k + 1 + i from by omega]
          simpa [frAt] using this
      · cases i with
        | zero =>
          simp at q
          rcases (hst id b b' q).1 with q | q
          · exact .inl q
          · exact .inr (.inl q)
        | succ i =>
          simp at q
          rcases h3.st i id b b' q with q | q | ⟨j, x, q1, q2⟩
          · exact .inl (hD _ _ q)
          · rcases hF _ _ q with q | ⟨x, q⟩
            · exact .inr (.inl q)
            · exact .inr (.inr ⟨0, x, by omega, by rw [q]; rfl⟩)
          · exact .inr (.inr ⟨j + 1, x, by omega, by simpa using q2⟩)
      · cases i with
        | zero =>
          cases j with
          | zero => rfl
          | succ j => simp at q1 q2; exact (cross j id b b' c c' q1 q2).elim
        | succ i =>
          cases j with
          | zero => simp at q1 q2; exact (cross i id c c' b b' q2 q1).elim
          | succ j => simp at q1 q2; rw [h3.un i j id b b' c c' q1 q2]
    have sameF : ∀ (e : Ef) id b, hget F id = some b → hget F id = some b ∨ ∃ x, e = .nb x id b := fun e id b q => .inl q
    have setH : ∀ (id : Nat) (b' : Blk) j, k + 1 ≤ j → hget (hset H id b') (idf j) = none := fun id b' j hj => by
      rw [hget_hset]
      split
      · rename_i e1; rw [← e1, hid j (by omega)]; rfl
      · exact hid j (by omega)
    have run : (o.guard = none ∨ ∃ g want, o.guard = some (g, want) ∧ s g = some (.bool want)) → (drawSt P o s H0 D F H fun s' D' F' H' => wpDraw P os K s' H0 D' F' H') →
        ∃ es : List Ef, es.length = (o :: os).length ∧ K (frAt s (o :: os) es) (hpAt H es) ∧ Efs P H0 D F idf k s (o :: os) es := by
      rintro hgd (hh | ⟨id, b, H', b', hb, he, hb', hd⟩ | ⟨f, args, id, b, r, b', he, hb, hc, hd⟩ | ⟨id, b, H', b', t, n, i, j, ht, hl, hb, he, hb', hd⟩)
      · simp only [OA_iff] at hh
        obtain ⟨rs, he, hd⟩ := hh
        cases rs with
        | val v => exact next (.v v) D F (.inr ⟨hgd, .inl ⟨v, he, rfl⟩⟩) (fun _ _ q => q) (fun _ _ _ q => by cases q) (sameF _) hd (fun j hj => hid j (by omega))
        | upd H' => exact hd.elim
        | valH v H' => exact hd.elim
        | yield _ _ => exact hd.elim
        | fresh T blk vf H' =>
          obtain ⟨rfl, hd⟩ := hd
          have htT : tag (idf k) = T := by rw [evalOp_ty he]; exact htg 0 o rfl
          refine next (.nb (vf (idf k)) (idf k) blk) D ((idf k, blk) :: F) (.inr ⟨hgd, .inr (.inl ⟨T, blk, vf, he, htT, rfl⟩)⟩) (fun _ _ q => q) (fun _ _ _ q => by cases q) (fun id b q => ?_) (hd (idf k) (hid k (Nat.le_refl _)) htT) fun j hj => ?_
          · simp only [hget] at q
            split at q
            · rename_i e1
              simp only [Option.some.injEq] at q
              subst q; subst e1
              exact .inr ⟨_, rfl⟩
            · exact .inl q
          · simp only [Ef.hp, hget]
            rw [if_neg (fun q => by have := hinj _ _ q; omega)]
            exact hid j (by omega)
        | call f args =>
          obtain ⟨r, hr, hd⟩ := hd
          exact next (.v r) D F (.inr ⟨hgd, .inr (.inr (.inl ⟨f, args, r, he, hr, rfl⟩))⟩) (fun _ _ q => q) (fun _ _ _ q => by cases q) (sameF _) hd (fun j hj => hid j (by omega))
      · refine next (.st id (b, none) b') (hdel D id) F (.inr ⟨hgd, .inr (.inr (.inr (.inl ⟨id, b, H', b', hb, he, hb', rfl⟩)))⟩) (hdel_sub D id) (fun id2 b2 b2' q => ?_) (sameF _) hd (setH id b')
        cases q
        exact ⟨.inl hb, by rw [hget_hdel, if_pos rfl], hDF _ _ hb⟩
      · refine next (.st id (b, some r) b') (hdel D id) F (.inr ⟨hgd, .inr (.inr (.inr (.inr (.inl ⟨f, args, id, b, r, b', he, hb, hc, rfl⟩))))⟩) (hdel_sub D id) (fun id2 b2 b2' q => ?_) (sameF _) hd (setH id b')
        cases q
        exact ⟨.inl hb, by rw [hget_hdel, if_pos rfl], hDF _ _ hb⟩
      · refine next (.st id (b, none) b') D (hdel F id) (.inr ⟨hgd, .inr (.inr (.inr (.inr (.inr ⟨id, b, H', b', t, n, i, j, ht, hl, he, hb', rfl⟩))))⟩) (fun _ _ q => q) (fun id2 b2 b2' q => ?_) (fun id2 b2 q => .inl (hdel_sub F id _ _ q)) hd (setH id b')
        cases q
        refine ⟨.inr hb, ?_, by rw [hget_hdel, if_pos rfl]⟩
        cases q2 : hget D id with
        | none => rfl
        | some b2 => rw [hDF _ _ q2] at hb; cases hb
    simp only [wpDraw] at h
    split at h
    · rename_i hg; exact run (.inl hg) h
    · rename_i g want hg
      rcases h with ⟨q, hs, h1, h2⟩ | ⟨hs, h2⟩
      rotate_left
      · exact next .no D F (.inl ⟨g, want, hg, .inr hs, rfl⟩) (fun _ _ q => q) (fun _ _ _ q => by cases q) (sameF _) h2 (fun j hj => hid j (by omega))
      by_cases hq : q = want
      · exact run (.inr ⟨g, want, hg, by rw [hs, hq]⟩) (h1 hq)
      · have hq' : q = !want := by cases q <;> cases want <;> simp_all
        exact next .no D F (.inl ⟨g, want, hg, .inl (by rw [hs, hq']), rfl⟩) (fun _ _ q => q) (fun _ _ _ q => by cases q) (sameF _) (h2 hq') (fun j hj => hid j (by omega))
/-! ### The Bools over a region -/
theorem before_spec {ops : Array Oper} (hb : edgesBack ops = true) (S : Nat → Prop) (hS : ∀ j o, S j → ops[j]? = some o → ∀ e ∈ o.after, Region.binds .any e = true → S e.on) :
    ∀ j o, ops[j]? = some o → (∀ e ∈ o.after, Region.binds .any e = true → S e.on) → ∀ i, bitOf (Region.before ops) j i = true → S i := by
  have back : ∀ j o, ops[j]? = some o → ∀ e ∈ o.after, Region.binds .any e = true → e.on < j := by
    intro j o hj e he hbd
    unfold edgesBack at hb
    rw [List.all_eq_true] at hb
    have hm : (o, j) ∈ ops.toList.zipIdx := by
      rw [List.mem_zipIdx_iff_getElem?]
      simpa using hj
    have h1 := hb _ hm
    rw [List.all_eq_true] at h1
    have h2 := h1 e (by simpa using he)
    simpa [hbd] using h2
  have key : ∀ (l : List Oper) (acc : Array Nat), (∀ j, l[j]? = ops[acc.size + j]?) →
      (∀ j i, j < acc.size → (acc.getD j 0).testBit i = true → ∀ o, ops[j]? = some o → (∀ e ∈ o.after, Region.binds .any e = true → S e.on) → S i) →
      ∀ j i, ((l.foldl (fun (acc : Array Nat) (o : Oper) => acc.push (o.after.foldl (fun s e => if Region.binds .any e then s ||| 2 ^ e.on ||| acc.getD e.on 0 else s) 0)) acc).getD j 0).testBit i = true →
        ∀ o, ops[j]? = some o → (∀ e ∈ o.after, Region.binds .any e = true → S e.on) → S i := by
    intro l
    induction l with
    | nil =>
      intro acc _ hacc j i hbit o ho hpre
      by_cases hj : j < acc.size
      · exact hacc j i hj hbit o ho hpre
      · simp only [List.foldl_nil] at hbit
        rw [Array.getD_eq_getD_getElem?, Array.getElem?_eq_none (by omega)] at hbit
        simp at hbit
    | cons q l ih =>
      intro acc hl hacc
      simp only [List.foldl_cons]
      refine ih _ (fun j => ?_) fun j i hj hbit o ho hpre => ?_
      · have := hl (j + 1)
        simp only [List.getElem?_cons_succ] at this
        rw [this]
        simp only [Array.size_push]
        congr 1
        omega
      · simp only [Array.size_push] at hj
        by_cases hjs : j < acc.size
        · refine hacc j i hjs ?_ o ho hpre
          rw [Array.getD_eq_getD_getElem?, Array.getElem?_push, if_neg (by omega)] at hbit
          rw [Array.getD_eq_getD_getElem?]
          exact hbit
        · have hje : j = acc.size := by omega
          subst hje
          have hqo : q = o := by
            have := hl 0
            simp only [List.getElem?_cons_zero, Nat.add_zero] at this
            rw [ho] at this
            simpa using this
          subst hqo
          rw [Array.getD_eq_getD_getElem?, Array.getElem?_push, if_pos rfl, Option.getD_some, ← Array.foldl_toList] at hbit
          have edge : ∀ (es : List Edge) (m : Nat), (∀ e ∈ es, e ∈ q.after.toList) →
              (es.foldl (fun s e => if Region.binds .any e then s ||| 2 ^ e.on ||| acc.getD e.on 0 else s) m).testBit i = true → m.testBit i = true ∨ S i := by
            intro es
            induction es with
            | nil => intro m _ h; exact .inl h
            | cons e es ihe =>
              intro m hes h
              simp only [List.foldl_cons] at h
              rcases ihe _ (fun e' he' => hes e' (List.mem_cons_of_mem _ he')) h with h | h
              · split at h
                · rename_i hbd
                  simp only [Nat.testBit_or, Bool.or_eq_true] at h
                  have hein : e ∈ q.after := by simpa using hes e List.mem_cons_self
                  rcases h with (h | h) | h
                  · exact .inl h
                  · rw [Nat.testBit_two_pow] at h
                    right
                    have : e.on = i := by simpa using h
                    rw [← this]
                    exact hpre e hein hbd
                  · right
                    have hlt := back _ _ ho e hein hbd
                    obtain ⟨oe, hoe⟩ : ∃ oe, ops[e.on]? = some oe := ⟨_, Array.getElem?_eq_getElem (by have := (Array.getElem?_eq_some_iff.1 ho).1; omega)⟩
                    exact hacc e.on i hlt h oe hoe (fun e' he' hb' => hS e.on oe (hpre e hein hbd) hoe e' he' hb')
                · exact .inl h
              · exact .inr h
          rcases edge q.after.toList 0 (fun _ h => h) hbit with h | h
          · simp at h
          · exact h
  intro j o ho hpre i hbit
  refine key ops.toList #[] (fun j => by simp) (fun j i hj => by simp at hj) j i ?_ o ho hpre
  unfold bitOf Region.before at hbit
  rw [← Array.foldl_toList] at hbit
  exact hbit
end
end Go.Proofs.YtjaigpidmngaaaaGreat

namespace Go.Proofs.YtjaigpidmngaaaaGreat
def Ef.val : Ef → Option AV
  | .no => some (.tup [])
  | .v x => some x
  | .nb x _ _ => some x
  | .st _ b _ => b.2
section
variable {P : Program} {w : World} {ρ : Loc} {Z : Nat → Prop} {H : AH} {s : Fr} {a : Act} {B : Beg} {fl : List Nat}
theorem Ef.fr_get (e : Ef) (d : Option Nat) (s : Fr) (t : Nat) : e.fr d s t = if d = some t then e.val else s t := by
  rcases e with _ | x | ⟨x, id, b⟩ | ⟨id, ⟨b, _ | x⟩, b'⟩ <;> cases d <;> simp only [Ef.fr, Ef.val, Fr.put, Fr.del, Fr.set, Fr.clr]
  all_goals first
    | (simp; done)
    | (rename_i d; by_cases q : t = d
       · subst q; simp
       · rw [if_neg q, if_neg (by simpa using fun e1 => q e1.symm)])
theorem frAt_none (t : Nat) : ∀ (os : List COp) (es : List Ef) (s : Fr), (∀ (j : Nat) o, os[j]? = some o → o.dst ≠ some t) → frAt s os es t = s t
  | [], es, s, _ => by simp [frAt]
  | o :: os, [], s, _ => by simp [frAt]
  | o :: os, e :: es, s, h => by
    simp only [frAt]
    rw [frAt_none t os es _ (fun j o' q => h (j + 1) o' (by simpa using q)), Ef.fr_get, if_neg (h 0 o rfl)]
theorem frAt_some (t : Nat) : ∀ (os : List COp) (es : List Ef) (s : Fr) (j : Nat) (o : COp) (e : Ef), os[j]? = some o → es[j]? = some e → o.dst = some t →
    (∀ (j' : Nat) o', os[j']? = some o' → j' ≠ j → o'.dst ≠ some t) → frAt s os es t = e.val
  | [], es, s, j, o, e, h, _, _, _ => by simp at h
  | o' :: os, [], s, j, o, e, _, h, _, _ => by simp at h
  | o' :: os, e' :: es, s, j, o, e, h1, h2, h3, h4 => by
    simp only [frAt]
    cases j with
    | zero =>
      simp at h1 h2
      subst h1
      subst h2
      rw [frAt_none t os es _ (fun j o2 q => h4 (j + 1) o2 (by simpa using q) (by omega)), Ef.fr_get, if_pos h3]
    | succ j =>
      simp at h1 h2
      exact frAt_some t os es _ j o e h1 h2 h3 fun j' o2 q hne => h4 (j' + 1) o2 (by simpa using q) (by omega)
def Once (es : List Ef) : Prop := es.Pairwise fun e e' => ∀ id b b' c c', e = .st id b b' → e' ≠ .st id c c'
theorem hpAt_get {idf : Nat → Nat} (hinj : ∀ i j, idf i = idf j → i = j) : ∀ (es : List Ef) (k : Nat) (H : AH), (∀ (i : Nat) x id b, es[i]? = some (.nb x id b) → id = idf (k + i)) → (∀ j, k ≤ j → hget H (idf j) = none) →
    (∀ (i : Nat) id b b', es[i]? = some (Ef.st id b b') → (∃ c, hget H id = some c) ∨ ∃ (j : Nat) (x : AV) (c : Blk), j < i ∧ es[j]? = some (.nb x id c)) → Once es →
    ∀ id b, hget (hpAt H es) id = some b ↔ (∃ b0, Ef.st id b0 b ∈ es) ∨ ((hget H id = some b ∨ ∃ x, Ef.nb x id b ∈ es) ∧ ∀ b0 b1, Ef.st id b0 b1 ∉ es)
  | [], k, H, _, _, _, _, id, b => by simp [hpAt]
  | e :: es, k, H, h1, h2, h3, h4, id, b => by
    have h4' := List.pairwise_cons.1 h4
    have h1t : ∀ (i : Nat) x id b, es[i]? = some (.nb x id b) → id = idf (k + 1 + i) := fun i x id b q => by rw [show k + 1 + i = k + (i + 1) from by omega]; exact h1 (i + 1) x id b (by simpa using q)
    have rest : ∀ H', (∀ j, k + 1 ≤ j → hget H' (idf j) = none) → (∀ id c, hget H id = some c → ∃ c, hget H' id = some c) → (∀ x id c, e = .nb x id c → ∃ c, hget H' id = some c) →
        (hget (hpAt H' es) id = some b ↔ (∃ b0, Ef.st id b0 b ∈ es) ∨ ((hget H' id = some b ∨ ∃ x, Ef.nb x id b ∈ es) ∧ ∀ b0 b1, Ef.st id b0 b1 ∉ es)) := fun H' hH' q1 q2 =>
      hpAt_get hinj es (k + 1) H' h1t hH' (fun i id b b' q => by
        rcases h3 (i + 1) id b b' (by simpa using q) with ⟨c, hc⟩ | ⟨j, x, c, hj, hc⟩
        · exact .inl (q1 id c hc)
        · cases j with
          | zero => simp at hc; exact .inl (q2 x id c hc)
          | succ j => exact .inr ⟨j, x, c, by omega, by simpa using hc⟩) h4'.2 id b
    simp only [hpAt]
    cases e with
    | no =>
      rw [show (Ef.no).hp H = H from rfl, rest H (fun j hj => h2 j (by omega)) (fun _ c q => ⟨c, q⟩) (fun _ _ _ q => by cases q)]
      simp
    | v y =>
      rw [show (Ef.v y).hp H = H from rfl, rest H (fun j hj => h2 j (by omega)) (fun _ c q => ⟨c, q⟩) (fun _ _ _ q => by cases q)]
      simp
    | nb y id' b' =>
      have hid := h1 0 y id' b' rfl
      simp only [Nat.add_zero] at hid
      have hno : hget H id' = none := by rw [hid]; exact h2 k (Nat.le_refl _)
      rw [show (Ef.nb y id' b').hp H = (id', b') :: H from rfl, rest ((id', b') :: H) (fun j hj => by
        simp only [hget]
        rw [if_neg (fun q => by rw [hid] at q; have := hinj _ _ q; omega)]
        exact h2 j (by omega)) (fun id c hc => by
        simp only [hget]
        split
        · exact ⟨_, rfl⟩
        · exact ⟨c, hc⟩) (fun x id c q => by cases q; exact ⟨b', by simp [hget]⟩)]
      simp only [List.mem_cons, Ef.nb.injEq, reduceCtorEq, false_or, hget]
      constructor
      · rintro (q | ⟨q, q2⟩)
        · exact .inl q
        · refine .inr ⟨?_, q2⟩
          rcases q with q | ⟨x, q⟩
          · split at q
            · rename_i e1
              simp only [Option.some.injEq] at q
              exact .inr ⟨y, .inl ⟨rfl, e1, q.symm⟩⟩
            · exact .inl q
          · exact .inr ⟨x, .inr q⟩
      · rintro (q | ⟨q, q2⟩)
        · exact .inl q
        · refine .inr ⟨?_, q2⟩
          rcases q with q | ⟨x, ⟨_, rfl, rfl⟩ | q⟩
          · left
            rw [if_neg (fun e1 => by rw [e1, hno] at q; cases q)]
            exact q
          · left; rw [if_pos rfl]
          · exact .inr ⟨x, q⟩
    | st id' b0' b' =>
      obtain ⟨c', hc'⟩ : ∃ c, hget H id' = some c := by
        rcases h3 0 id' b0' b' rfl with q | ⟨j, x, c, hj, _⟩
        · exact q
        · omega
      have nost : ∀ b0 b1, Ef.st id' b0 b1 ∉ es := fun b0 b1 q => h4'.1 _ q id' b0' b' b0 b1 rfl rfl
      have nonb : ∀ x c, Ef.nb x id' c ∉ es := fun x c q => by
        obtain ⟨i, hi⟩ := List.mem_iff_getElem?.1 q
        rw [h1t i x id' c hi, h2 _ (by omega)] at hc'
        cases hc'
      rw [show (Ef.st id' b0' b').hp H = hset H id' b' from rfl, rest (hset H id' b') (fun j hj => by
        rw [hget_hset]
        split
        · rename_i e1; rw [← e1, h2 j (by omega)]; rfl
        · exact h2 j (by omega)) (fun id c hc => by
        rw [hget_hset]
        split
        · rename_i e1; rw [← e1, hc]; exact ⟨_, rfl⟩
        · exact ⟨c, hc⟩) (fun _ _ _ q => by cases q)]
      simp only [List.mem_cons, Ef.st.injEq, reduceCtorEq, false_or, hget_hset]
      constructor
      · rintro (⟨b0, q⟩ | ⟨q, q2⟩)
        · exact .inl ⟨b0, .inr q⟩
        · by_cases e1 : id = id'
          · subst e1
            rcases q with q | ⟨x, q⟩
            · rw [if_pos rfl, hc'] at q
              simp only [Option.map_some, Option.some.injEq] at q
              exact .inl ⟨b0', .inl ⟨rfl, rfl, q.symm⟩⟩
            · exact (nonb x b q).elim
          · rw [if_neg e1] at q
            refine .inr ⟨q, fun b0 b1 q3 => ?_⟩
            rcases q3 with ⟨q3, _⟩ | q3
            · exact e1 q3
            · exact q2 b0 b1 q3
      · rintro (⟨b0, ⟨rfl, rfl, rfl⟩ | q⟩ | ⟨q, q2⟩)
        · refine .inr ⟨.inl ?_, nost⟩
          rw [if_pos rfl, hc']
          rfl
        · exact .inl ⟨b0, q⟩
        · refine .inr ⟨?_, fun b0 b1 q3 => q2 b0 b1 (.inr q3)⟩
          rw [if_neg (fun e1 => q2 b0' b' (.inl ⟨e1, rfl, rfl⟩))]
          exact q
theorem Own.congr {H H' : AH} (h : ∀ id b, hget H id = some b ↔ hget H' id = some b) : Own ρ H' = Own ρ H := by
  funext b
  apply propext
  constructor
  · rintro ⟨id, bl, o, q, r⟩; exact ⟨id, bl, o, (h id bl).2 q, r⟩
  · rintro ⟨id, bl, o, q, r⟩; exact ⟨id, bl, o, (h id bl).1 q, r⟩
theorem Good.congr {H H' : AH} (g : Good w.heap ρ Z H) (h : ∀ id b, hget H id = some b ↔ hget H' id = some b) : Good w.heap ρ Z H' := g.forget fun id b q => (h id b).2 q
theorem nodup_len : ∀ (k : Nat) (S : List Nat), S.Nodup → (∀ x ∈ S, x < k) → S.length ≤ k
  | 0, S, _, h => by
    cases S with
    | nil => simp
    | cons x S => exact absurd (h x List.mem_cons_self) (by omega)
  | k + 1, S, hn, h => by
    have := nodup_len k (S.erase k) (hn.erase k) fun x hx => by
      have h1 := h x (List.mem_of_mem_erase hx)
      have h2 : x ≠ k := fun e => by rw [e] at hx; exact hn.not_mem_erase hx
      omega
    rw [List.length_erase] at this
    split at this <;> omega
theorem drawOk_spec {ops : Array Oper} {cs : List COp} {k : Nat} (h : drawOk ops cs k = true) : edgesBack ops = true ∧
    ∀ (i j : Nat) p o, cs[i]? = some p → cs[j]? = some o → i ≠ j →
      (∀ d, p.dst = some d → o.dst ≠ some d) ∧ (∀ d, p.dst = some d → d ∈ o.looks → if i < j then bitOf (Region.before ops) j i = true else bitOf (Region.before ops) i j = true) ∧
      (k ≤ j → i < j → bitOf (Region.before ops) j i = true) := by
  simp only [drawOk, Bool.and_eq_true] at h
  refine ⟨h.1, fun i j p o hi hj hne => ?_⟩
  have h2 := h.2
  rw [List.all_eq_true] at h2
  have h3 := h2 (o, j) (by rw [List.mem_zipIdx_iff_getElem?]; simpa using hj)
  rw [List.all_eq_true] at h3
  have h4 := h3 (p, i) (by rw [List.mem_zipIdx_iff_getElem?]; simpa using hi)
  simp only [Bool.or_eq_true, decide_eq_true_eq, hne, false_or, Bool.and_eq_true] at h4
  obtain ⟨h5, h6⟩ := h4
  refine ⟨fun d hd => ?_, fun d hd hl => ?_, fun h7 h8 => ?_⟩
  · rw [hd] at h5
    simp only [Bool.and_eq_true, Bool.not_eq_true'] at h5
    have := h5.1
    simpa using this
  · rw [hd] at h5
    simp only [Bool.and_eq_true, Bool.not_eq_true', Bool.or_eq_true] at h5
    rcases h5.2 with h7 | h7
    · rw [List.contains_iff_mem.2 hl] at h7; cases h7
    · split at h7 <;> rename_i h8
      · rw [if_pos (by simpa using h8)]; exact h7
      · rw [if_neg (by simpa using h8)]; exact h7
  · rcases h6 with (h6 | h6) | h6
    · omega
    · omega
    · exact h6
theorem compOps_get {fl : List Nat} (ops : Array Oper) : ∀ (l : List Oper) (i : Nat), (compOps P fl ops l)[i]? = (l[i]?).map (compOper P fl ops)
  | [], i => by simp [compOps]
  | o :: l, i => by
    cases i with
    | zero => simp [compOps]
    | succ i => simp only [compOps, List.getElem?_cons_succ]; exact compOps_get ops l i
end
end Go.Proofs.YtjaigpidmngaaaaGreat

namespace Go.Proofs.YtjaigpidmngaaaaGreat
section
variable {rd : Option Nat} {nn : Nat} {P : Program} {w : World} {ρ : Loc} {Z : Nat → Prop} {H : AH} {s : Fr} {a : Act} {B : Beg} {fl : List Nat}
theorem setIf_getD (listed : Array Bool) (i j : Nat) (hi : i < listed.size) : (listed.setIfInBounds i true).getD j false = (decide (j = i) || listed.getD j false) := by
  by_cases e : i = j
  · subst e; simp [hi]
  · have e' : j ≠ i := fun q => e q.symm
    rw [getD_set_ne false e]; simp [e']
theorem compOps_len {fl : List Nat} (ops : Array Oper) : ∀ l : List Oper, (compOps P fl ops l).length = l.length
  | [] => rfl
  | o :: l => by simp only [compOps, List.length_cons, compOps_len ops l]
theorem getD_tf {listed : Array Bool} {i : Nat} (hi : i < listed.size) : listed.getD i true = listed.getD i false := by simp [hi]
theorem late_any {ops : Array Oper} {k : Nat} {K : Fr → AH → Prop} {Q : Exit → Act → World → Prop} (hok : drawOk ops (compOps P fl ops ops.toList) k = true) (hd : (compOps P fl ops ops.toList).all (dstOk B.N) = true)
    (hQ : ∀ a' w' ρ' Z' H' s', Inv B w' ρ' Z' H' s' a' → K s' H' → Q .normal a' w') :
    ∀ (fuel m : Nat) (listed : Array Bool) (w : World) (ρ : Loc) (Z : Nat → Prop) (H : AH) (s : Fr) (a : Act), k ≤ m → m ≤ ops.size → ops.size - m ≤ fuel → listed.size = ops.size → (∀ i, listed.getD i false = true ↔ i < m) →
      Inv B w ρ Z H s a → wpOps P ((compOps P fl ops ops.toList).drop m) K s H → wpAnyIn (FnR rd) nn P .any ops Q fuel listed a w := by
  obtain ⟨hback, hspec⟩ := drawOk_spec hok
  have hlen : (compOps P fl ops ops.toList).length = ops.size := by rw [compOps_len]; simp
  intro fuel
  induction fuel with
  | zero =>
    intro m listed w ρ Z H s a hk hm hf hls hl hi h
    have hm' : m = ops.size := by omega
    subst hm'
    refine ⟨?_, ?_⟩
    · cases hr : Region.ready .any ops listed with
      | nil => rfl
      | cons x xs =>
        have hx : x ∈ Region.ready .any ops listed := by rw [hr]; simp
        obtain ⟨h1, o, ho, _⟩ := mem_ready.1 hx
        have hlt := (Array.getElem?_eq_some_iff.1 ho).1
        rw [getD_tf (by omega), (hl x).2 hlt] at h1
        cases h1
    · rw [List.drop_of_length_le (by omega)] at h
      exact hQ _ _ _ _ _ _ hi h
  | succ fuel ih =>
    intro m listed w ρ Z H s a hk hm hf hls hl hi h
    refine ⟨fun hr => ?_, fun i hir => ?_⟩
    · rcases Nat.lt_or_ge m ops.size with hlt | hge
      · have : m ∈ Region.ready .any ops listed := by
          rw [mem_ready]
          refine ⟨by rw [getD_tf (by omega)]; cases hh : listed.getD m false with | false => rfl | true => exact absurd ((hl m).1 hh) (by omega), ops[m], Array.getElem?_eq_getElem hlt, fun e he hb => (hl _).2 ?_⟩
          unfold edgesBack at hback
          rw [List.all_eq_true] at hback
          have h1 := hback (ops[m], m) (by rw [List.mem_zipIdx_iff_getElem?]; simp [hlt])
          rw [List.all_eq_true] at h1
          have h2 := h1 e (by simpa using he)
          simpa [hb] using h2
        rw [hr] at this
        cases this
      · rw [List.drop_of_length_le (by omega)] at h
        exact hQ _ _ _ _ _ _ hi h
    · obtain ⟨h1, o, ho, hpre⟩ := mem_ready.1 hir
      have hlt := (Array.getElem?_eq_some_iff.1 ho).1
      rw [getD_tf (by omega)] at h1
      have him : ¬ i < m := fun q => by rw [(hl i).2 q] at h1; cases h1
      have hie : i = m := by
        rcases Nat.lt_or_ge m i with hmi | hmi
        · have hm2 : m < ops.size := by omega
          have hcm : (compOps P fl ops ops.toList)[m]? = some (compOper P fl ops ops[m]) := by rw [compOps_get]; simp [hm2]
          have hci : (compOps P fl ops ops.toList)[i]? = some (compOper P fl ops o) := by
            rw [compOps_get]
            have : ops.toList[i]? = some o := by simpa using ho
            rw [this]; rfl
          have hbit := (hspec m i _ _ hcm hci (by omega)).2.2 (by omega) hmi
          have := before_spec hback (fun j => listed.getD j false = true) (fun j oj hj hoj e he hb => by
            refine (hl _).2 ?_
            have hjm := (hl j).1 hj
            unfold edgesBack at hback
            rw [List.all_eq_true] at hback
            have h1 := hback (oj, j) (by rw [List.mem_zipIdx_iff_getElem?]; simpa using hoj)
            rw [List.all_eq_true] at h1
            have h2 := h1 e (by simpa using he)
            have h3 : e.on < j := by simpa [hb] using h2
            omega) i o ho hpre m hbit
          exact absurd ((hl m).1 this) (by omega)
        · omega
      subst hie
      have hci : (compOps P fl ops ops.toList)[i]? = some (compOper P fl ops o) := by
        rw [compOps_get]
        have : ops.toList[i]? = some o := by simpa using ho
        rw [this]; rfl
      have hdrop : (compOps P fl ops ops.toList).drop i = compOper P fl ops o :: (compOps P fl ops ops.toList).drop (i + 1) := by
        rw [List.drop_eq_getElem_cons (by omega)]
        congr 1
        have : (compOps P fl ops ops.toList)[i]? = some ((compOps P fl ops ops.toList)[i]'(by omega)) := List.getElem?_eq_getElem (by omega)
        rw [hci] at this
        simpa using this.symm
      rw [hdrop] at h
      have hdo : dstOk B.N (compOper P fl ops o) = true := (List.all_eq_true.1 hd) _ (List.mem_of_getElem? hci)
      have := oper_out (Q := Q) (rd := rd) (nn := nn) (next := wpAnyIn (FnR rd) nn P .any ops Q fuel (listed.setIfInBounds i true)) hi (dstOk_spec hdo) h fun a' w' ρ' Z' H' s' hi' hk' =>
        ih (i + 1) _ w' ρ' Z' H' s' a' (by omega) (by omega) (by omega) (by simpa using hls) (fun j => by
          rw [setIf_getD _ _ _ (by omega)]
          simp only [Bool.or_eq_true, decide_eq_true_eq, hl]
          omega) hi' hk'
      unfold wpOpIn
      rw [ho]
      simp only
      split
      · rename_i hw; rw [if_pos hw] at this; exact this
      · rename_i hw; rw [if_neg hw] at this; exact ⟨fun _ _ => trivial, this⟩
structure Mid (B : Beg) (ops : Array Oper) (cs : List COp) (k : Nat) (s : Fr) (H0 H : AH) (idf : Nat → Nat) (es : List Ef) (S : List Nat) (listed : Array Bool) (w : World) (ρ : Loc) (Z : Nat → Prop) (HS : AH) (a : Act) : Prop where
  good : Good w.heap ρ Z HS
  ext : Ext B.w B.ρ B.Z B.O w ρ Z (Own ρ HS)
  size : a.tmps.size = B.N
  defers : Marks B w a.defers
  hsub : Sub H0 HS
  hs : ∀ id b, hget HS id = some b → (∃ i b0, i ∈ S ∧ es[i]? = some (Ef.st id b0 b)) ∨ ((hget H id = some b ∨ ∃ i x, i ∈ S ∧ es[i]? = some (Ef.nb x id b)) ∧ ∀ i b0 b1, i ∈ S → es[i]? ≠ some (Ef.st id b0 b1))
  hs2 : ∀ i x id b, i ∈ S → es[i]? = some (Ef.nb x id b) → (∀ i b0 b1, i ∈ S → es[i]? ≠ some (Ef.st id b0 b1)) → hget HS id = some b
  stf : ∀ i id b b', i ∈ S → es[i]? = some (Ef.st id b b') → hget H id = some b.1 ∨ ∃ j x, j ∈ S ∧ es[j]? = some (Ef.nb x id b.1)
  hs3 : ∀ i b0 id b, i ∈ S → es[i]? = some (Ef.st id b0 b) → hget HS id = some b
  hs4 : ∀ id b, hget H id = some b → (∀ i b0 b1, i ∈ S → es[i]? ≠ some (Ef.st id b0 b1)) → hget HS id = some b
  free : ∀ i, i ∉ S → ρ (idf i) = none
  slots : ∀ i o e t v, i ∈ S → cs[i]? = some o → es[i]? = some e → o.dst = some t → e.val = some v → Rl w.heap ρ Z v (a.tmps.getD t undef)
  base : ∀ t v, s t = some v → (∀ i o, i ∈ S → cs[i]? = some o → o.dst ≠ some t) → Rl w.heap ρ Z v (a.tmps.getD t undef)
  closed : ∀ j o, j ∈ S → ops[j]? = some o → ∀ e ∈ o.after, Region.binds .any e = true → e.on ∈ S
  below : ∀ i ∈ S, i < k
  nodup : S.Nodup
  lst : ∀ i, listed.getD i false = true ↔ i ∈ S
  lsz : listed.size = ops.size
def Chg (e : Ef) (HS HS' : AH) : Prop := ∀ id b, hget HS' id = some b ↔ (∃ x, e = .nb x id b) ∨ (∃ b0, e = .st id b0 b) ∨ (hget HS id = some b ∧ ∀ b0 b1, e ≠ .st id b0 b1)
theorem Mid.ext_step {ops : Array Oper} {cs : List COp} {k : Nat} {H0 H : AH} {idf : Nat → Nat} {es : List Ef} {S : List Nat} {listed : Array Bool} {HS HS' : AH} {w' : World} {ρ' : Loc} {Z' : Nat → Prop} {i : Nat} {o : Oper} {e : Ef} {x : Value}
    (m : Mid B ops cs k s H0 H idf es S listed w ρ Z HS a) (hcs : cs = compOps P fl ops ops.toList) (hd : cs.all (dstOk B.N) = true) (hspec : ∀ (i j : Nat) p o, cs[i]? = some p → cs[j]? = some o → i ≠ j → ∀ d, p.dst = some d → o.dst ≠ some d)
    (ho : ops[i]? = some o) (hik : i < k) (hiS : i ∉ S) (hes : es[i]? = some e) (hpre : ∀ ed ∈ o.after, Region.binds .any ed = true → listed.getD ed.on false = true)
    (g : Good w'.heap ρ' Z' HS') (ex : Ext w ρ Z (Own ρ HS) w' ρ' Z' (Own ρ' HS')) (hchg : Chg e HS HS')
    (hst : ∀ (i : Nat) id b b', es[i]? = some (.st id b b') → hget H0 id = none) (hstS : ∀ id b b', e = .st id b b' → hget H id = some b.1 ∨ ∃ j x, j ∈ S ∧ es[j]? = some (Ef.nb x id b.1)) (huni : ∀ (i j : Nat) id b b' c c', es[i]? = some (.st id b b') → es[j]? = some (.st id c c') → i = j)
    (hnb : ∀ (i : Nat) x id b, es[i]? = some (Ef.nb x id b) → id = idf i) (hid0 : ∀ j, hget H (idf j) = none) (hfree : ∀ j, j ≠ idf i → ρ' j = ρ j) (hinj : ∀ i j, idf i = idf j → i = j)
    (hv : ∀ v, e.val = some v → Rl w'.heap ρ' Z' v x) : Mid B ops cs k s H0 H idf es (i :: S) (listed.setIfInBounds i true) w' ρ' Z' HS' (a.put o.dst x) := by
  have hco : cs[i]? = some (compOper P fl ops o) := by
    rw [hcs, compOps_get]
    have : ops.toList[i]? = some o := by simpa using ho
    rw [this]; rfl
  have hdst : (compOper P fl ops o).dst = o.dst := compOper_dst ops o
  have hd' : ∀ d, o.dst = some d → d < a.tmps.size := by
    rw [m.size]
    exact dstOk_spec ((List.all_eq_true.1 hd) _ (List.mem_of_getElem? hco))
  have hlt := (Array.getElem?_eq_some_iff.1 ho).1
  have put_ne : ∀ t, o.dst ≠ some t → (a.put o.dst x).tmps.getD t undef = a.tmps.getD t undef := by
    intro t ht
    cases hdd : o.dst with
    | none => rfl
    | some d =>
      rw [getD_put (hd' d hdd), if_neg (fun q => ht (by rw [hdd, q]))]
  have put_eq : ∀ t, o.dst = some t → (a.put o.dst x).tmps.getD t undef = x := by
    intro t ht
    rw [ht, getD_put (hd' t ht), if_pos rfl]
  refine ⟨g, m.ext.trans ex, by rw [size_put]; exact m.size, by rw [defers_put]; exact m.defers.ext m.good ex, fun id b q => (hchg id b).2 (.inr (.inr ⟨m.hsub _ _ q, fun b0 b1 q2 => ?_⟩)), fun id b q => ?_, fun j y id b hj hy hno => ?_, fun j id b b' hj hy => ?_, fun j b0 id b hj hy => ?_, fun id b hb hno => ?_, fun j hj => ?_,
    fun j oj ej t v hj hoj hej hdt hval => ?_, fun t v hst hno => ?_, fun j oj hj hoj ed hed hb => ?_, fun j hj => ?_, ?_, fun j => ?_, by simpa using m.lsz⟩
  · rw [q2] at hes
    rw [hst i id b0 b1 hes] at q
    cases q
  · rcases (hchg id b).1 q with ⟨y, q⟩ | ⟨b0, q⟩ | ⟨q, q3⟩
    · refine .inr ⟨.inr ⟨i, y, List.mem_cons_self, by rw [hes, q]⟩, fun j b0 b1 hj q4 => ?_⟩
      rcases List.mem_cons.1 hj with rfl | hj
      · rw [hes, q] at q4; cases q4
      · have hi := hnb i y id b (by rw [hes, q])
        rcases m.stf j id b0 b1 hj q4 with q5 | ⟨l, z, hl, q5⟩
        · rw [hi, hid0] at q5; cases q5
        · have h2 := hnb l z id _ q5
          have := hinj _ _ (hi.symm.trans h2)
          exact hiS (by rw [this]; exact hl)
    · exact .inl ⟨i, b0, List.mem_cons_self, by rw [hes, q]⟩
    · rcases m.hs id b q with ⟨j, b0, q1, q2⟩ | ⟨q1, q2⟩
      · exact .inl ⟨j, b0, List.mem_cons_of_mem _ q1, q2⟩
      · refine .inr ⟨?_, fun j b0 b1 hj q4 => ?_⟩
        · rcases q1 with q1 | ⟨j, y, q1, q5⟩
          · exact .inl q1
          · exact .inr ⟨j, y, List.mem_cons_of_mem _ q1, q5⟩
        · rcases List.mem_cons.1 hj with rfl | hj
          · rw [hes] at q4
            simp only [Option.some.injEq] at q4
            exact q3 b0 b1 q4
          · exact q2 j b0 b1 hj q4
  · rcases List.mem_cons.1 hj with rfl | hj
    · rw [hes] at hy
      simp only [Option.some.injEq] at hy
      exact (hchg id b).2 (.inl ⟨y, hy⟩)
    · refine (hchg id b).2 (.inr (.inr ⟨m.hs2 j y id b hj hy (fun l b0 b1 hl => hno l b0 b1 (List.mem_cons_of_mem _ hl)), fun b0 b1 q => ?_⟩))
      exact hno i b0 b1 List.mem_cons_self (by rw [hes, q])
  · have up : (hget H id = some b.1 ∨ ∃ l x, l ∈ S ∧ es[l]? = some (Ef.nb x id b.1)) → hget H id = some b.1 ∨ ∃ l x, l ∈ i :: S ∧ es[l]? = some (Ef.nb x id b.1) := by
      rintro (q | ⟨l, z, q1, q2⟩)
      · exact .inl q
      · exact .inr ⟨l, z, List.mem_cons_of_mem _ q1, q2⟩
    rcases List.mem_cons.1 hj with rfl | hj
    · rw [hes] at hy
      simp only [Option.some.injEq] at hy
      exact up (hstS id b b' hy)
    · exact up (m.stf j id b b' hj hy)
  · rcases List.mem_cons.1 hj with rfl | hj
    · rw [hes] at hy
      simp only [Option.some.injEq] at hy
      exact (hchg id b).2 (.inr (.inl ⟨b0, hy⟩))
    · refine (hchg id b).2 (.inr (.inr ⟨m.hs3 j b0 id b hj hy, fun c0 c1 q => ?_⟩))
      rw [q] at hes
      have := huni i j id _ _ _ _ hes hy
      exact hiS (by rw [this]; exact hj)
  · refine (hchg id b).2 (.inr (.inr ⟨m.hs4 id b hb fun j b0 b1 hj => hno j b0 b1 (List.mem_cons_of_mem _ hj), fun b0 b1 q => ?_⟩))
    exact hno i b0 b1 List.mem_cons_self (by rw [hes, q])
  · rw [hfree _ (fun q => by have := hinj _ _ q; exact hj (by rw [this]; exact List.mem_cons_self))]
    exact m.free j fun q => hj (List.mem_cons_of_mem _ q)
  · rcases List.mem_cons.1 hj with rfl | hj
    · rw [hes] at hej
      simp only [Option.some.injEq] at hej
      subst hej
      rw [hco] at hoj
      simp only [Option.some.injEq] at hoj
      subst hoj
      rw [hdst] at hdt
      rw [put_eq t hdt]
      exact hv v hval
    · have hne : j ≠ i := fun q => hiS (by rw [← q]; exact hj)
      have hnt : o.dst ≠ some t := by
        rw [← hdst]
        exact hspec j i _ _ hoj hco hne t hdt
      rw [put_ne t hnt]
      exact (m.slots j oj ej t v hj hoj hej hdt hval).ext ex m.good.notZ m.good.zlt
  · have hnt : o.dst ≠ some t := by
      have := hno i _ List.mem_cons_self hco
      rwa [hdst] at this
    rw [put_ne t hnt]
    exact (m.base t v hst fun j oj hj hoj => hno j oj (List.mem_cons_of_mem _ hj) hoj).ext ex m.good.notZ m.good.zlt
  · rcases List.mem_cons.1 hj with rfl | hj
    · rw [ho] at hoj
      simp only [Option.some.injEq] at hoj
      subst hoj
      exact List.mem_cons_of_mem _ ((m.lst _).1 (hpre ed hed hb))
    · exact List.mem_cons_of_mem _ (m.closed j oj hj hoj ed hed hb)
  · rcases List.mem_cons.1 hj with rfl | hj
    · exact hik
    · exact m.below j hj
  · exact List.nodup_cons.2 ⟨hiS, m.nodup⟩
  · rw [setIf_getD _ _ _ (by rw [m.lsz]; exact hlt)]
    simp only [Bool.or_eq_true, decide_eq_true_eq, m.lst, List.mem_cons]
end
end Go.Proofs.YtjaigpidmngaaaaGreat

namespace Go.Proofs.YtjaigpidmngaaaaGreat
theorem least_out (S : List Nat) : ∀ i, i ∉ S → ∃ j, j ≤ i ∧ j ∉ S ∧ ∀ l, l < j → l ∈ S := by
  intro i
  induction i using Nat.strongRecOn with
  | _ i ih =>
    intro hi
    by_cases h : ∀ l, l < i → l ∈ S
    · exact ⟨i, Nat.le_refl _, hi, h⟩
    · have : ∃ l, l < i ∧ l ∉ S := Classical.byContradiction fun q => h fun l hl => Classical.byContradiction fun q2 => q ⟨l, hl, q2⟩
      obtain ⟨l, hl, hs⟩ := this
      obtain ⟨j, h1, h2, h3⟩ := ih l hl hs
      exact ⟨j, by omega, h2, h3⟩
section
variable {rd : Option Nat} {nn : Nat} {P : Program} {w : World} {ρ : Loc} {Z : Nat → Prop} {H : AH} {s : Fr} {a : Act} {B : Beg} {fl : List Nat}
theorem take_get {α : Type} {l : List α} {k i : Nat} (h : i < k) : (l.take k)[i]? = l[i]? := by rw [List.getElem?_take, if_pos h]
theorem early_any {ops : Array Oper} {k : Nat} {K : Fr → AH → Prop} {Q : Exit → Act → World → Prop} {H0 D H : AH} {idf : Nat → Nat} {es : List Ef} (hinj : ∀ i j, idf i = idf j → i = j) (hkn : k ≤ ops.size)
    (hok : drawOk ops (compOps P fl ops ops.toList) k = true) (hd : (compOps P fl ops ops.toList).all (dstOk B.N) = true) (hQ : ∀ a' w' ρ' Z' H' s', Inv B w' ρ' Z' H' s' a' → K s' H' → Q .normal a' w')
    (hel : es.length = k) (hid0 : ∀ j, hget H (idf j) = none) (hH0 : Sub H0 H) (hDH : Sub D H) (hdis : ∀ id b, hget D id = some b → hget H0 id = none)
    (hst0 : ∀ (i : Nat) id b b', es[i]? = some (.st id b b') → hget D id = some b.1 ∨ ∃ (j : Nat) (x : AV), j < i ∧ es[j]? = some (.nb x id b.1)) (huni : ∀ (i j : Nat) id b b' c c', es[i]? = some (.st id b b') → es[j]? = some (.st id c c') → i = j)
    (hef : ∀ (i : Nat) o e, ((compOps P fl ops ops.toList).take k)[i]? = some o → es[i]? = some e → EfOk P H0 D idf (0 + i) o (frAt s (((compOps P fl ops ops.toList).take k).take i) (es.take i)) e)
    (hfin : wpOps P ((compOps P fl ops ops.toList).drop k) K (frAt s ((compOps P fl ops ops.toList).take k) es) (hpAt H es)) :
    ∀ (fuel : Nat) (S : List Nat) (listed : Array Bool) (w : World) (ρ : Loc) (Z : Nat → Prop) (HS : AH) (a : Act), fuel + S.length = ops.size →
      Mid B ops (compOps P fl ops ops.toList) k s H0 H idf es S listed w ρ Z HS a → wpAnyIn (FnR rd) nn P .any ops Q fuel listed a w := by
  obtain ⟨hback, hspec⟩ := drawOk_spec hok
  have hlen : (compOps P fl ops ops.toList).length = ops.size := by rw [compOps_len]; simp
  have getc : ∀ i o, ops[i]? = some o → (compOps P fl ops ops.toList)[i]? = some (compOper P fl ops o) := fun i o ho => by
    rw [compOps_get]
    have : ops.toList[i]? = some o := by simpa using ho
    rw [this]; rfl
  have hnb0 : ∀ (i : Nat) x id b, es[i]? = some (Ef.nb x id b) → id = idf (0 + i) := by
    intro i x id b hi
    have hlt : i < k := by rw [← hel]; exact (List.getElem?_eq_some_iff.1 hi).1
    have hc : ((compOps P fl ops ops.toList).take k)[i]? = some ((compOps P fl ops ops.toList)[i]'(by omega)) := by rw [take_get hlt]; exact List.getElem?_eq_getElem (by omega)
    exact (hef i _ _ hc hi).nb
  have hnb : ∀ (i : Nat) x id b, es[i]? = some (Ef.nb x id b) → id = idf i := fun i x id b q => by have := hnb0 i x id b q; rwa [Nat.zero_add] at this
  have hst : ∀ (i : Nat) id b b', es[i]? = some (.st id b b') → hget H0 id = none := fun i id b b' q => by
    rcases hst0 i id b b' q with q | ⟨j, x, _, q⟩
    · exact hdis _ _ q
    · rw [hnb j x id _ q]
      cases q2 : hget H0 (idf j) with
      | none => rfl
      | some b2 => have := hH0 _ _ q2; rw [hid0] at this; cases this
  have hone : Once es := by
    refine List.pairwise_iff_getElem.2 fun i j hi hj hij id b b' c c' q1 q2 => ?_
    have := huni i j id b b' c c' (by rw [← q1]; exact List.getElem?_eq_getElem hi) (by rw [← q2]; exact List.getElem?_eq_getElem hj)
    omega
  have edge_lt : ∀ j o, ops[j]? = some o → ∀ e ∈ o.after, Region.binds .any e = true → e.on < j := by
    intro j o hj e he hb
    unfold edgesBack at hback
    rw [List.all_eq_true] at hback
    have h1 := hback (o, j) (by rw [List.mem_zipIdx_iff_getElem?]; simpa using hj)
    rw [List.all_eq_true] at h1
    have h2 := h1 e (by simpa using he)
    simpa [hb] using h2
  have switch : ∀ (fuel : Nat) (S : List Nat) (listed : Array Bool) (w : World) (ρ : Loc) (Z : Nat → Prop) (HS : AH) (a : Act), fuel + S.length = ops.size → (∀ i, i < k → i ∈ S) →
      Mid B ops (compOps P fl ops ops.toList) k s H0 H idf es S listed w ρ Z HS a → wpAnyIn (FnR rd) nn P .any ops Q fuel listed a w := by
    intro fuel S listed w ρ Z HS a hf hall m
    have hS := nodup_len k S m.nodup m.below
    have hiff : ∀ id b, hget HS id = some b ↔ hget (hpAt H es) id = some b := by
      intro id b
      have inS : ∀ (i : Nat) e, es[i]? = some e → i ∈ S := fun i e q => hall i (by rw [← hel]; exact (List.getElem?_eq_some_iff.1 q).1)
      rw [hpAt_get hinj es 0 H hnb0 (fun j _ => hid0 j) (fun i id b b' q => by
        rcases hst0 i id b b' q with q | ⟨j, x, q1, q⟩
        · exact .inl ⟨b.1, hDH _ _ q⟩
        · exact .inr ⟨j, x, b.1, q1, q⟩) hone]
      constructor
      · intro q
        rcases m.hs id b q with ⟨i, b0, _, q⟩ | ⟨q, q2⟩
        · exact .inl ⟨b0, List.mem_of_getElem? q⟩
        · refine .inr ⟨?_, fun b0 b1 q3 => ?_⟩
          · rcases q with q | ⟨i, x, _, q⟩
            · exact .inl q
            · exact .inr ⟨x, List.mem_of_getElem? q⟩
          · obtain ⟨i, hi⟩ := List.mem_iff_getElem?.1 q3
            exact q2 i b0 b1 (inS i _ hi) hi
      · rintro (⟨b0, q⟩ | ⟨q, q2⟩)
        · obtain ⟨i, hi⟩ := List.mem_iff_getElem?.1 q
          exact m.hs3 i b0 id b (inS i _ hi) hi
        · rcases q with q | ⟨x, q⟩
          · exact m.hs4 id b q fun i b0 b1 _ q3 => q2 b0 b1 (List.mem_of_getElem? q3)
          · obtain ⟨i, hi⟩ := List.mem_iff_getElem?.1 q
            exact m.hs2 i x id b (inS i _ hi) hi fun i b0 b1 _ q3 => q2 b0 b1 (List.mem_of_getElem? q3)
    refine late_any hok hd hQ fuel k listed w ρ Z (hpAt H es) (frAt s ((compOps P fl ops ops.toList).take k) es) a (Nat.le_refl _) hkn (by omega) m.lsz (fun i => ⟨fun h => m.below i ((m.lst i).1 h), fun h => (m.lst i).2 (hall i h)⟩) ?_ hfin
    refine ⟨m.good.congr hiff, fun t v hv => ?_, by rw [Own.congr hiff]; exact m.ext, m.size, m.defers⟩
    by_cases hw : ∃ (j : Nat) (oj : COp), ((compOps P fl ops ops.toList).take k)[j]? = some oj ∧ oj.dst = some t
    · obtain ⟨j, oj, hj, hdt⟩ := hw
      have hjk : j < k := by
        have := (List.getElem?_eq_some_iff.1 hj).1
        simp at this
        omega
      rw [take_get hjk] at hj
      have hej : es[j]? = some (es[j]'(by omega)) := List.getElem?_eq_getElem (by omega)
      rw [frAt_some t _ es s j oj _ (by rw [take_get hjk]; exact hj) hej hdt (fun j' o' q hne q2 => by
        have hj'k : j' < k := by
          have := (List.getElem?_eq_some_iff.1 q).1
          simp at this
          omega
        rw [take_get hj'k] at q
        exact (hspec j' j o' oj q hj hne).1 t q2 hdt)] at hv
      exact m.slots j oj _ t v (hall j hjk) hj hej hdt hv
    · rw [frAt_none t _ es s (fun j oj hj hdt => hw ⟨j, oj, hj, hdt⟩)] at hv
      refine m.base t v hv fun i oi hi hoi hdt => hw ⟨i, oi, ?_, hdt⟩
      rw [take_get (m.below i hi)]
      exact hoi
  intro fuel
  induction fuel with
  | zero =>
    intro S listed w ρ Z HS a hf m
    by_cases hall : ∀ i, i < k → i ∈ S
    · exact switch 0 S listed w ρ Z HS a hf hall m
    · exfalso
      have : ∃ i, i < k ∧ i ∉ S := Classical.byContradiction fun q => hall fun i hi => Classical.byContradiction fun q2 => q ⟨i, hi, q2⟩
      obtain ⟨i, hi, his⟩ := this
      have := nodup_len k (i :: S) (List.nodup_cons.2 ⟨his, m.nodup⟩) (fun x hx => by
        rcases List.mem_cons.1 hx with rfl | hx
        · exact hi
        · exact m.below x hx)
      simp at this
      omega
  | succ fuel ih =>
    intro S listed w ρ Z HS a hf m
    by_cases hall : ∀ i, i < k → i ∈ S
    · exact switch (fuel + 1) S listed w ρ Z HS a hf hall m
    have hex : ∃ i, i < k ∧ i ∉ S := Classical.byContradiction fun q => hall fun i hi => Classical.byContradiction fun q2 => q ⟨i, hi, q2⟩
    obtain ⟨i0, hi0, hi0S⟩ := hex
    have inS : ∀ j o, ops[j]? = some o → (∀ e ∈ o.after, Region.binds .any e = true → e.on ∈ S) → ∀ i, bitOf (Region.before ops) j i = true → i ∈ S :=
      before_spec hback (fun i => i ∈ S) (fun j o hj ho e he hb => m.closed j o hj ho e he hb)
    refine ⟨fun hr => ?_, fun i hir => ?_⟩
    · exfalso
      obtain ⟨j, hj, hjS, hmin⟩ := least_out S i0 hi0S
      have hjn : j < ops.size := by omega
      have : j ∈ Region.ready .any ops listed := by
        rw [mem_ready]
        refine ⟨by rw [getD_tf (by rw [m.lsz]; exact hjn)]; cases hh : listed.getD j false with | false => rfl | true => exact absurd ((m.lst j).1 hh) hjS, ops[j], Array.getElem?_eq_getElem hjn, fun e he hb => (m.lst _).2 (hmin _ ?_)⟩
        exact edge_lt j _ (Array.getElem?_eq_getElem hjn) e he hb
      rw [hr] at this
      cases this
    · obtain ⟨h1, o, ho, hpre⟩ := mem_ready.1 hir
      have hlt := (Array.getElem?_eq_some_iff.1 ho).1
      rw [getD_tf (by rw [m.lsz]; exact hlt)] at h1
      have hiS : i ∉ S := fun q => by rw [(m.lst i).2 q] at h1; cases h1
      have hpreS : ∀ e ∈ o.after, Region.binds .any e = true → e.on ∈ S := fun e he hb => (m.lst _).1 (hpre e he hb)
      have hci := getc i o ho
      have hik : i < k := by
        rcases Nat.lt_or_ge i k with h | h
        · exact h
        · exfalso
          have hc0 := getc i0 _ (Array.getElem?_eq_getElem (show i0 < ops.size by omega))
          exact hi0S (inS i o ho hpreS i0 ((hspec i0 i _ _ hc0 hci (by omega)).2.2 h (by omega)))
      have hei : es[i]? = some (es[i]'(by omega)) := List.getElem?_eq_getElem (by omega)
      generalize es[i]'(by omega) = e at hei
      have hfact := hef i _ e (by rw [take_get hik]; exact hci) hei
      rw [Nat.zero_add] at hfact
      generalize hsi : frAt s (((compOps P fl ops ops.toList).take k).take i) (es.take i) = si at hfact
      have look : ∀ t, t ∈ (compOper P fl ops o).looks → ∀ v, si t = some v → Rl w.heap ρ Z v (a.tmps.getD t undef) := by
        intro t ht v hv
        rw [← hsi] at hv
        have take2 : ∀ (j : Nat) (oj : COp), (((compOps P fl ops ops.toList).take k).take i)[j]? = some oj → j < i ∧ (compOps P fl ops ops.toList)[j]? = some oj := by
          intro j oj hj
          have hji : j < i := by
            have := (List.getElem?_eq_some_iff.1 hj).1
            simp at this
            omega
          rw [take_get hji, take_get (by omega)] at hj
          exact ⟨hji, hj⟩
        by_cases hw : ∃ (j : Nat) (oj : COp), (compOps P fl ops ops.toList)[j]? = some oj ∧ oj.dst = some t
        · obtain ⟨j, oj, hj, hdt⟩ := hw
          have uniq : ∀ (j' : Nat) o', (compOps P fl ops ops.toList)[j']? = some o' → j' ≠ j → o'.dst ≠ some t := fun j' o' q hne q2 => (hspec j' j o' oj q hj hne).1 t q2 hdt
          have hjn : j < ops.size := by rw [← hlen]; exact (List.getElem?_eq_some_iff.1 hj).1
          rcases Nat.lt_trichotomy j i with hlt2 | heq | hgt
          · have hbit := (hspec j i oj _ hj hci (by omega)).2.1 t hdt ht
            rw [if_pos hlt2] at hbit
            have hjS := inS i o ho hpreS j hbit
            have hej : es[j]? = some (es[j]'(by omega)) := List.getElem?_eq_getElem (by omega)
            rw [frAt_some t _ (es.take i) s j oj _ (by rw [take_get hlt2, take_get (by omega)]; exact hj) (by rw [take_get hlt2]; exact hej) hdt (fun j' o' q hne => uniq j' o' (take2 j' o' q).2 hne)] at hv
            exact m.slots j oj _ t v hjS hj hej hdt hv
          · subst heq
            rw [frAt_none t _ _ s (fun j' o' q q2 => by
              obtain ⟨q3, q4⟩ := take2 j' o' q
              exact uniq j' o' q4 (by omega) q2)] at hv
            refine m.base t v hv fun j' o' hj' q => uniq j' o' q (fun q2 => hiS (by rw [← q2]; exact hj'))
          · have hbit := (hspec j i oj _ hj hci (by omega)).2.1 t hdt ht
            rw [if_neg (by omega)] at hbit
            have hjS : j ∉ S := by
              intro q
              have hoj : ops[j]? = some ops[j] := Array.getElem?_eq_getElem hjn
              exact hiS (inS j _ hoj (fun e he hb => m.closed j _ q hoj e he hb) i hbit)
            rw [frAt_none t _ _ s (fun j' o' q q2 => by
              obtain ⟨q3, q4⟩ := take2 j' o' q
              exact uniq j' o' q4 (by omega) q2)] at hv
            refine m.base t v hv fun j' o' hj' q => uniq j' o' q (fun q2 => hjS (by rw [← q2]; exact hj'))
        · rw [frAt_none t _ _ s (fun j' o' q q2 => hw ⟨j', o', (take2 j' o' q).2, q2⟩)] at hv
          exact m.base t v hv fun j' o' _ q q2 => hw ⟨j', o', q, q2⟩
      obtain ⟨sr, hsr⟩ : ∃ sr : Fr, sr = fun t => if t ∈ (compOper P fl ops o).looks then si t else none := ⟨_, rfl⟩
      have hFR : FR w.heap ρ Z sr a := by
        intro t v hv
        rw [hsr] at hv
        simp only at hv
        split at hv
        · rename_i hin; exact look t hin v hv
        · cases hv
      have srl : ∀ t, t ∈ (compOper P fl ops o).looks → sr t = si t := by
        intro t ht
        rw [hsr]
        simp only [if_pos ht]
      have hev : evalOp sr H0 (compOper P fl ops o).co = evalOp si H0 (compOper P fl ops o).co := evalOp_congr fun t ht => srl t (by simp [COp.looks, ht])
      have hspec' : ∀ (i j : Nat) p o', (compOps P fl ops ops.toList)[i]? = some p → (compOps P fl ops ops.toList)[j]? = some o' → i ≠ j → ∀ d, p.dst = some d → o'.dst ≠ some d := fun i j p o' q1 q2 q3 => (hspec i j p o' q1 q2 q3).1
      have goS : ∀ (x : Value) (w' : World) (ρ' : Loc) (Z' : Nat → Prop) (HS' : AH), Good w'.heap ρ' Z' HS' → Ext w ρ Z (Own ρ HS) w' ρ' Z' (Own ρ' HS') → Chg e HS HS' → (∀ id b b', e = .st id b b' → hget H id = some b.1 ∨ ∃ j x, j ∈ S ∧ es[j]? = some (Ef.nb x id b.1)) → (∀ j, j ≠ idf i → ρ' j = ρ j) → (∀ v, e.val = some v → Rl w'.heap ρ' Z' v x) →
          wpAnyIn (FnR rd) nn P .any ops Q fuel (listed.setIfInBounds i true) (a.put o.dst x) w' :=
        fun x w' ρ' Z' HS' q1 q2 q3 qs q6 q7 => ih (i :: S) _ w' ρ' Z' HS' _ (by simp; omega) (m.ext_step rfl hd hspec' ho hik hiS hei hpre q1 q2 q3 hst qs huni hnb hid0 q6 hinj q7)
      have chg0 : (∀ x id b, e ≠ .nb x id b) → (∀ id b b', e ≠ .st id b b') → Chg e HS HS := fun n1 n2 id b => ⟨fun q => .inr (.inr ⟨q, n2 id⟩), fun q => by
        rcases q with ⟨x, q⟩ | ⟨b0, q⟩ | ⟨q, _⟩
        · exact (n1 x id b q).elim
        · exact (n2 id b0 b q).elim
        · exact q⟩
      unfold wpOpIn
      rw [ho]
      simp only
      cases hgd : guardOf ops o.guard with
      | none =>
        exfalso
        have hco : compOper P fl ops o = { dst := o.dst, guard := none, co := .bad } := by unfold compOper; rw [hgd]
        rw [hco] at hfact
        rcases hfact with ⟨g, want, h, _⟩ | ⟨_, ⟨v, h, _⟩ | ⟨T, blk, vf, h, _⟩ | ⟨f, args, r, h, _⟩ | ⟨id, b, H', b', _, h, _⟩ | ⟨f, args, id, b, r, b', h, _⟩ | ⟨id, b, H', b', t, n, i', j', _, _, h, _⟩⟩
        · cases h
        all_goals simp [evalOp] at h
      | some gd =>
        have hco := compOper_guard (P := P) (fl := fl) hgd
        rw [hco] at hfact hev
        have hlk : ∀ g want, gd = some (g, want) → sr g = si g := by
          intro g want hg
          exact srl g (by rw [hco, hg]; simp [COp.looks])
        have run : Region.wanted o (yielded ops a.tmps) = true → ((∃ v, evalOp si H0 (compOp P (litOf fl o.dst) o.op) = some (.val v) ∧ e = .v v) ∨ (∃ T blk vf, evalOp si H0 (compOp P (litOf fl o.dst) o.op) = some (.fresh T blk vf H0) ∧ tag (idf i) = T ∧ e = .nb (vf (idf i)) (idf i) blk) ∨
            (∃ f args r, evalOp si H0 (compOp P (litOf fl o.dst) o.op) = some (.call f args) ∧ callP P f args H0 r ∧ e = .v r) ∨
            (∃ id b H' b', hget D id = some b ∧ evalOp si [(id, b)] (compOp P (litOf fl o.dst) o.op) = some (.upd H') ∧ hget H' id = some b' ∧ e = .st id (b, none) b') ∨
            (∃ f args id b r b', evalOp si H0 (compOp P (litOf fl o.dst) o.op) = some (.call f args) ∧ hget D id = some b ∧ callW P f args H0 id b r b' ∧ e = .st id (b, some r) b') ∨
            ∃ id b H' b' t n i' j', si t = some (.ptr id n i' j') ∧ t ∈ ({ dst := o.dst, guard := gd, co := compOp P (litOf fl o.dst) o.op } : COp).looks ∧ evalOp si [(id, b)] (compOp P (litOf fl o.dst) o.op) = some (.upd H') ∧ hget H' id = some b' ∧ e = .st id (b, none) b') → o.wpIn (FnR rd) nn P a w (wpAnyIn (FnR rd) nn P .any ops Q fuel (listed.setIfInBounds i true)) Q := by
          intro _ hk
          have g0 := m.good.forget m.hsub
          have stored : ∀ (id : Nat) (b : Blk) (H' : AH) (b' : Blk), hget HS id = some b → (∀ id b b', e = .st id b b' → hget H id = some b.1 ∨ ∃ j x, j ∈ S ∧ es[j]? = some (Ef.nb x id b.1)) → evalOp si [(id, b)] (compOp P (litOf fl o.dst) o.op) = some (.upd H') → hget H' id = some b' → e = .st id (b, none) b' → o.wpIn (FnR rd) nn P a w (wpAnyIn (FnR rd) nn P .any ops Q fuel (listed.setIfInBounds i true)) Q := by
            intro id b H' b' hHS qst h hb' he
            refine ⟨fun _ _ => trivial, ?_⟩
            rw [Oper.semAt_eq _ _ _ (not_defer h)]
            have s1 : Sub [(id, b)] HS := fun j c q => by
              simp only [hget] at q
              split at q
              · rename_i e1; subst e1; rw [← q]; exact hHS
              · cases q
            have g1 := m.good.forget s1
            have hev1 : evalOp sr [(id, b)] (compOp P (litOf fl o.dst) o.op) = evalOp si [(id, b)] (compOp P (litOf fl o.dst) o.op) := evalOp_congr fun t ht => srl t (by rw [hco]; simp [COp.looks, ht])
            rw [← hev1] at h
            obtain ⟨w', hr, g', ex⟩ := op_out g1 hFR h
            obtain ⟨q1, q2⟩ := m.good.frame s1 ex g' (HS' := hset HS id b') fun j c q => by
              rw [hget_hset] at q
              split at q
              · rename_i e1
                rw [hHS] at q
                left
                rw [e1, ← q]
                exact hb'
              · rename_i e1
                right
                refine ⟨q, ?_⟩
                simp only [hget]
                rw [if_neg e1]
            rw [hr, Oper.uponIn_skip]
            refine goS undef w' ρ Z (hset HS id b') q1 q2 (fun j c => ?_) qst (fun _ _ => rfl) (fun u q => by rw [he] at q; cases q)
            rw [he]
            constructor
            · intro q
              rw [hget_hset] at q
              split at q
              · rename_i e1
                subst e1
                rw [hHS] at q
                simp only [Option.map_some, Option.some.injEq] at q
                subst q
                exact .inr (.inl ⟨(b, none), rfl⟩)
              · rename_i e1
                exact .inr (.inr ⟨q, fun b0 b1 q3 => by cases q3; exact e1 rfl⟩)
            · rintro (⟨x, q⟩ | ⟨b0, q⟩ | ⟨q, q3⟩)
              · cases q
              · cases q; rw [hget_hset, if_pos rfl, hHS]; rfl
              · rw [hget_hset, if_neg (fun e1 => q3 (b, none) b' (by rw [e1]))]; exact q
          rcases hk with ⟨v, h, he⟩ | ⟨T, blk, vf, h, htg, he⟩ | ⟨f, args, r, h, hc, he⟩ | ⟨id, b, H', b', hb, h, hb', he⟩ | ⟨f, args, id, b, r, b', h, hb, hc, he⟩ | ⟨id, b, H', b', t, n, i', j', ht, hlo, h, hb', he⟩
          · rw [← hev] at h
            obtain ⟨x, w', Z', hr, g', hv, ex⟩ := op_out g0 hFR h
            obtain ⟨q1, q2⟩ := m.good.frame m.hsub ex g' (HS' := HS) fun id b q => by
              cases hh : hget H0 id with
              | none => exact .inr ⟨q, rfl⟩
              | some b' => have := m.hsub _ _ hh; rw [q] at this; exact .inl this.symm
            refine ⟨fun _ _ => trivial, ?_⟩
            rw [Oper.semAt_eq _ _ _ (not_defer h), hr, Oper.uponIn_value]
            exact goS x w' ρ Z' HS q1 q2 (chg0 (fun x id b q => by rw [he] at q; cases q) (fun id b b' q => by rw [he] at q; cases q)) (fun id b b' q => by rw [he] at q; cases q) (fun _ _ => rfl) (fun u q => by rw [he] at q; simp only [Ef.val, Option.some.injEq] at q; rw [← q]; exact hv)
          · rw [← hev] at h
            obtain ⟨x, w', ρ', hr, hrho, g', hv, ex⟩ := op_out g0 hFR h (idf i) (m.free i hiS) htg
            have hfr : hget HS (idf i) = none := by
              cases hh : hget HS (idf i) with
              | none => rfl
              | some b => obtain ⟨p, q, r, _⟩ := m.good.blk _ b hh; rw [m.free i hiS] at r; cases r
            obtain ⟨q1, q2⟩ := m.good.frame m.hsub ex g' (HS' := (idf i, blk) :: HS) fun id b q => by
              simp only [hget] at q ⊢
              split at q
              · rename_i e1; left; rw [if_pos e1]; exact q
              · rename_i e1
                rw [if_neg e1]
                cases hh : hget H0 id with
                | none => exact .inr ⟨q, rfl⟩
                | some b' => have := m.hsub _ _ hh; rw [q] at this; exact .inl this.symm
            refine ⟨fun _ _ => trivial, ?_⟩
            rw [Oper.semAt_eq _ _ _ (not_defer h), hr, Oper.uponIn_value]
            refine goS x w' ρ' Z ((idf i, blk) :: HS) q1 q2 (fun id b => ?_) (fun id b b' q => by rw [he] at q; cases q) hrho (fun u q => ?_)
            · rw [he]
              simp only [Ef.nb.injEq, reduceCtorEq, hget, exists_false, false_or]
              constructor
              · intro q
                split at q
                · rename_i e1
                  simp only [Option.some.injEq] at q
                  exact .inl ⟨_, rfl, e1.symm, q⟩
                · exact .inr ⟨q, fun _ _ q => by cases q⟩
              · rintro (⟨_, _, rfl, rfl⟩ | ⟨q, _⟩)
                · rw [if_pos rfl]
                · rw [if_neg (fun e1 => by rw [e1, hfr] at q; cases q)]
                  exact q
            · rw [he] at q
              simp only [Ef.val, Option.some.injEq] at q
              rw [← q]
              exact hv
          · rw [← hev] at h
            have hcl : callable P f = true := by
              rcases hc with ⟨_, hc⟩ | ⟨_, _, _, _, _, hc⟩
              · exact hc.1
              · exact hc.1
            obtain ⟨xs, hr, hl⟩ := op_out g0 hFR h hcl
            refine ⟨fun _ _ => trivial, ?_⟩
            rw [Oper.semAt_eq _ _ _ (not_defer h), hr, Oper.uponIn_enter]
            refine ⟨fun q => (by cases q), callsIn_ff ((callP_calls hc m.good m.hsub hl).mono fun en w' ⟨x, Z', q1, g', hv, ex⟩ => ?_)⟩
            subst q1
            exact goS x w' ρ Z' HS g' ex (chg0 (fun x id b q => by rw [he] at q; cases q) (fun id b b' q => by rw [he] at q; cases q)) (fun id b b' q => by rw [he] at q; cases q) (fun _ _ => rfl) (fun u q => by rw [he] at q; simp only [Ef.val, Option.some.injEq] at q; rw [← q]; exact hv)
          · have hHS : hget HS id = some b := m.hs4 id b (hDH _ _ hb) fun j b0 b1 hj q => by
              have := huni i j id _ _ _ _ (by rw [hei, he]) q
              exact hiS (by rw [this]; exact hj)
            exact stored id b H' b' hHS (fun id2 b2 b2' q => by rw [he] at q; cases q; exact .inl (hDH _ _ hb)) h hb' he
          · have hHS : hget HS id = some b := m.hs4 id b (hDH _ _ hb) fun j b0 b1 hj q => by
              have := huni i j id _ _ _ _ (by rw [hei, he]) q
              exact hiS (by rw [this]; exact hj)
            rw [← hev] at h
            have hcl : callable P f = true := by
              obtain ⟨_, _, _, _, hc⟩ := hc
              exact hc.1
            obtain ⟨xs, hr, hl⟩ := op_out g0 hFR h hcl
            refine ⟨fun _ _ => trivial, ?_⟩
            rw [Oper.semAt_eq _ _ _ (not_defer h), hr, Oper.uponIn_enter]
            refine ⟨fun q => (by cases q), callsIn_ff ((callW_calls hc m.good m.hsub hHS (hdis _ _ hb) hl).mono fun en w' ⟨x, Z', q1, g', hv, ex⟩ => ?_)⟩
            subst q1
            refine goS x w' ρ Z' (hset HS id b') g' ex (fun j c => ?_) (fun id2 b2 b2' q => by rw [he] at q; cases q; exact .inl (hDH _ _ hb)) (fun _ _ => rfl) (fun u q => by rw [he] at q; simp only [Ef.val, Option.some.injEq] at q; rw [← q]; exact hv)
            rw [he]
            constructor
            · intro q
              rw [hget_hset] at q
              split at q
              · rename_i e1
                subst e1
                rw [hHS] at q
                simp only [Option.map_some, Option.some.injEq] at q
                subst q
                exact .inr (.inl ⟨(b, some r), rfl⟩)
              · rename_i e1
                exact .inr (.inr ⟨q, fun b0 b1 q3 => by cases q3; exact e1 rfl⟩)
            · rintro (⟨x, q⟩ | ⟨b0, q⟩ | ⟨q, q3⟩)
              · cases q
              · cases q; rw [hget_hset, if_pos rfl, hHS]; rfl
              · rw [hget_hset, if_neg (fun e1 => q3 (b, some r) b' (by rw [e1]))]; exact q
          · have hsr0 : si t = some (.ptr id n i' j') := ht
            have hrho := look t (by rw [hco]; exact hlo) _ hsr0
            have hjS : ∀ j, id = idf j → j ∈ S := fun j q => Classical.byContradiction fun q2 => by
              have := m.free j q2
              rw [← q] at this
              generalize a.tmps.getD t undef = y at hrho
              cases hrho with
              | ptr _ _ _ _ b0 o0 q3 => rw [this] at q3; cases q3
            rcases hst0 i id (b, none) b' (by rw [hei, he]) with hb | ⟨j, x, hji, hj⟩
            · have hHS : hget HS id = some b := m.hs4 id b (hDH _ _ hb) fun j b0 b1 hj q => by
                have := huni i j id _ _ _ _ (by rw [hei, he]) q
                exact hiS (by rw [this]; exact hj)
              exact stored id b H' b' hHS (fun id2 b2 b2' q => by rw [he] at q; cases q; exact .inl (hDH _ _ hb)) h hb' he
            · have hjS := hjS j (hnb j x id _ hj)
              have hHS : hget HS id = some b := m.hs2 j x id b hjS hj fun l b0 b1 hl q => by
                have := huni i l id _ _ _ _ (by rw [hei, he]) q
                exact hiS (by rw [this]; exact hl)
              exact stored id b H' b' hHS (fun id2 b2 b2' q => by rw [he] at q; cases q; exact .inr ⟨j, x, hjS, hj⟩) h hb' he
        cases gd with
        | none =>
          have hgn := guardOf_none hgd
          have hw : Region.wanted o (yielded ops a.tmps) = true := by simp [Region.wanted, hgn]
          rw [if_pos hw]
          rcases hfact with ⟨g, want, h, _⟩ | ⟨_, h⟩
          · cases h
          · exact run hw h
        | some p =>
          obtain ⟨d, want⟩ := p
          obtain ⟨j, oj, hgj, hj, hdst⟩ := guardOf_some hgd
          rcases hfact with ⟨g, want', h, hs, he⟩ | ⟨h, hk⟩
          · simp only [Option.some.injEq, Prod.mk.injEq] at h
            obtain ⟨rfl, rfl⟩ := h
            have hw : Region.wanted o (yielded ops a.tmps) = false := by
              rcases hs with hs | hs
              · rw [yielded_of (q := !want) hFR hgj hj hdst (by rw [hlk d want rfl]; exact hs)]; cases want <;> rfl
              · exact yielded_un hFR hgj hj hdst (by rw [hlk d want rfl]; exact hs)
            rw [if_neg (by rw [hw]; simp)]
            exact ⟨fun _ _ => trivial, goS undef w ρ Z HS m.good (Ext.refl _ _ _ _) (chg0 (fun x id b q => by rw [he] at q; cases q) (fun id b b' q => by rw [he] at q; cases q)) (fun id b b' q => by rw [he] at q; cases q) (fun _ _ => rfl) (fun u q => by rw [he] at q; simp only [Ef.val, Option.some.injEq] at q; rw [← q]; exact Rl_un _ _ _)⟩
          · rcases h with h | ⟨g, want', h, hs⟩
            · cases h
            · simp only [Option.some.injEq, Prod.mk.injEq] at h
              obtain ⟨rfl, rfl⟩ := h
              have hw : Region.wanted o (yielded ops a.tmps) = true := by
                rw [yielded_of (q := want) hFR hgj hj hdst (by rw [hlk d want rfl]; exact hs)]
                simp
              rw [if_pos hw]
              exact run hw hk
end
end Go.Proofs.YtjaigpidmngaaaaGreat

namespace Go.Proofs.YtjaigpidmngaaaaGreat
section
variable {P : Program} {w : World} {ρ : Loc} {Z : Nat → Prop} {H : AH} {s : Fr} {a : Act} {B : Beg}
theorem Rl.dead {h h' : Array Obj} {v : AV} {x : Value} (hr : Rl h ρ Z v x) {b : Nat} (h0 : ∀ c t f, h[b]? ≠ some (.cells c t f)) (hk : ∀ k, k ≠ b → h'[k]? = h[k]?) (ht : ∀ t, hty h b = some t → hty h' b = some t) : Rl h' ρ Z v x := by
  refine hr.mono (fun _ _ q => q) (fun _ q => q) (fun k o u _ q => ?_) (fun k t q => ?_)
  · by_cases e : k = b
    · subst e
      unfold hcell at q
      cases hx : h[k]? with
      | none => rw [hx] at q; cases q
      | some ob =>
        rw [hx] at q
        cases ob with
        | cells c t f => exact absurd hx (h0 c t f)
        | _ => cases q
    · unfold hcell at q ⊢
      rw [hk k e]; exact q
  · by_cases e : k = b
    · subst e; exact ht t q
    · unfold hty at q ⊢
      rw [hk k e]; exact q
theorem TabG.dead {h h' : Array Obj} (q : TabG h Z) {b : Nat} (h0 : ∀ c t f, h[b]? ≠ some (.cells c t f)) (hk : ∀ k, k ≠ b → h'[k]? = h[k]?) : TabG h' Z := fun x hx => by
  obtain ⟨p1, c, p2, p3⟩ := q x hx
  refine ⟨p1, c, ?_, p3⟩
  have hne : x.1 ≠ b := by
    intro e
    unfold hrow at p2
    rw [e] at p2
    cases hx : h[b]? with
    | none => rw [hx] at p2; cases p2
    | some ob =>
      rw [hx] at p2
      cases ob with
      | cells c t f => exact h0 c t f hx
      | _ => cases p2
  unfold hrow at p2 ⊢
  rw [hk _ hne]; exact p2
theorem loop_put {L L' : LoopB} {lid b o : Nat} {r r' : Loop} (g : Good w.heap ρ Z H) (hid : hget H lid = some (.loop L)) (hρ : ρ lid = some (b, o)) (hb : w.heap[b]? = some (.loop r))
    (hr : ∀ h', (∀ v x, Rl w.heap ρ Z v x → Rl h' ρ Z v x) → h'[b]? = some (.loop r') → BlkR h' ρ Z b o (.loop L')) :
    Good (w.putObj b (.loop r')).heap ρ Z (hset H lid (.loop L')) ∧ Ext w ρ Z (Own ρ H) (w.putObj b (.loop r')) ρ Z (Own ρ (hset H lid (.loop L'))) ∧ ∀ v x, Rl w.heap ρ Z v x → Rl (w.putObj b (.loop r')).heap ρ Z v x := by
  have hlt := (Array.getElem?_eq_some_iff.1 hb).1
  have hsame : (w.putObj b (.loop r')).heap[b]? = some (.loop r') := World.putObj_heap_same hlt
  have hoth : ∀ k, k ≠ b → (w.putObj b (.loop r')).heap[k]? = w.heap[k]? := fun k hk => World.putObj_heap_other hk
  have hty1 : ∀ t, hty w.heap b = some t → hty (w.putObj b (.loop r')).heap b = some t := fun t q => by
    unfold hty at q ⊢
    rw [hb] at q
    rw [hsame]; exact q
  have hty2 : ∀ k t, hty w.heap k = some t → hty (w.putObj b (.loop r')).heap k = some t := fun k t q => by
    by_cases e : k = b
    · subst e; exact hty1 t q
    · unfold hty at q ⊢
      rw [hoth k e]; exact q
  have hnc : ∀ c t f, w.heap[b]? ≠ some (.cells c t f) := fun c t f q => by rw [hb] at q; cases q
  have hrl : ∀ v x, Rl w.heap ρ Z v x → Rl (w.putObj b (.loop r')).heap ρ Z v x := fun v x q => q.dead hnc hoth hty1
  have hown : ∀ k, Own ρ (hset H lid (.loop L')) k ↔ Own ρ H k := by
    intro k
    constructor
    · exact Own.set
    · rintro ⟨j, bl, q, h1, h2⟩
      by_cases e : j = lid
      · subst e
        exact ⟨j, .loop L', q, by rw [hget_hset, if_pos rfl, hid]; rfl, h2⟩
      · exact ⟨j, bl, q, by rw [hget_hset, if_neg e]; exact h1, h2⟩
  have hob : Own ρ H b := ⟨lid, _, o, hid, hρ⟩
  refine ⟨⟨fun j blk q => ?_, fun i j p q p1 p2 o1 o2 h1 h2 h3 h4 hne => ?_, fun k q hz => g.notZ k ((hown k).1 q) hz, fun k q => by rw [World.putObj_size]; exact g.zlt k q, g.ids, fun j k o q => ?_, g.tab.dead hnc hoth⟩, ?_, hrl⟩
  · rw [hget_hset] at q
    split at q
    · rename_i e
      subst e
      rw [hid] at q
      simp only [Option.map_some, Option.some.injEq] at q
      subst q
      exact ⟨b, o, hρ, hr _ hrl hsame⟩
    · rename_i e
      obtain ⟨k, o2, q1, q2⟩ := g.blk j blk q
      exact ⟨k, o2, q1, q2.mono (hoth k (g.inj j lid _ _ _ _ _ _ q hid q1 hρ e)) hrl⟩
  · have back : ∀ i p, hget (hset H lid (.loop L')) i = some p → ∃ p', hget H i = some p' := fun i p q => by
      rw [hget_hset] at q
      split at q
      · rename_i e; rw [e]; exact ⟨_, hid⟩
      · exact ⟨_, q⟩
    obtain ⟨p', h1'⟩ := back i p h1
    obtain ⟨q', h2'⟩ := back j q h2
    exact g.inj i j _ _ _ _ _ _ h1' h2' h3 h4 hne
  · obtain ⟨e1, m, e2⟩ := g.ty j k o q
    exact ⟨e1, m, hty2 _ _ e2⟩
  · exact ⟨by rw [World.putObj_size]; exact Nat.le_refl _, fun k hk hO => hoth k (fun e => hO (by rw [e]; exact hob)), hty2, fun _ q => q, fun _ q => .inl q, fun _ _ q => q, fun k q => .inl ((hown k).1 q), rfl, rfl, rfl⟩
theorem loop_new {L : LoopB} {lid : Nat} {r : Loop} {D : Obj} (g : Good w.heap ρ Z H) (hl : ρ lid = none) (htag : tag lid = loopT)
    (hr : ∀ h' ρ', (∀ v x, Rl w.heap ρ Z v x → Rl h' ρ' Z v x) → h'[w.heap.size + 1]? = some (.loop r) → BlkR h' ρ' Z (w.heap.size + 1) 0 (.loop L)) :
    Good ((w.alloc D).alloc (.loop r)).heap (upd ρ lid (w.heap.size + 1, 0)) Z ((lid, .loop L) :: H) ∧
    Ext w ρ Z (Own ρ H) ((w.alloc D).alloc (.loop r)) (upd ρ lid (w.heap.size + 1, 0)) Z (Own (upd ρ lid (w.heap.size + 1, 0)) ((lid, .loop L) :: H)) ∧
    ∀ v x, Rl w.heap ρ Z v x → Rl ((w.alloc D).alloc (.loop r)).heap (upd ρ lid (w.heap.size + 1, 0)) Z v x := by
  have hheap : ((w.alloc D).alloc (.loop r)).heap = (w.heap.push D).push (.loop r) := rfl
  have hup := upd_mono (ρ := ρ) (p := (w.heap.size + 1, 0)) hl
  have hnew : ((w.heap.push D).push (.loop r))[w.heap.size + 1]? = some (.loop r) := by
    have := Array.getElem?_push_size (xs := w.heap.push D) (x := Obj.loop r)
    rw [Array.size_push] at this
    exact this
  have hold : ∀ k, k < w.heap.size → ((w.heap.push D).push (.loop r))[k]? = w.heap[k]? := fun k hk => by
    rw [Array.getElem?_push, if_neg (by rw [Array.size_push]; omega), Array.getElem?_push, if_neg (by omega)]
  have hty2 : ∀ k t, hty w.heap k = some t → hty ((w.heap.push D).push (.loop r)) k = some t := fun k t q => hty_push _ _ _ _ (hty_push _ _ _ _ q)
  have hrl : ∀ v x, Rl w.heap ρ Z v x → Rl ((w.heap.push D).push (.loop r)) (upd ρ lid (w.heap.size + 1, 0)) Z v x := fun v x q => by
    have q1 := q.push D (ρ' := ρ) (Z' := Z) (fun _ _ h => h) (fun _ h => h)
    exact q1.push _ hup (fun _ h => h)
  have hownO : ∀ k, Own (upd ρ lid (w.heap.size + 1, 0)) ((lid, .loop L) :: H) k → Own ρ H k ∨ k = w.heap.size + 1 := fun k q => q.upd (fun _ _ q => q) hl g
  rw [hheap]
  refine ⟨⟨fun j blk q => ?_, fun i j p q p1 p2 o1 o2 h1 h2 h3 h4 hne => ?_, fun k q hz => ?_, fun k q => ?_, ?_, fun j k o q => ?_, g.tab.of (fun _ q => q) (fun k q => hold k (g.zlt k q))⟩, ?_, hrl⟩
  · simp only [hget] at q
    split at q
    · rename_i e
      subst e
      simp only [Option.some.injEq] at q
      subst q
      exact ⟨_, 0, by simp [upd], hr _ _ hrl hnew⟩
    · obtain ⟨k, o, q1, q2⟩ := g.blk j blk q
      exact ⟨k, o, hup _ _ q1, q2.mono (hold k q2.lt) hrl⟩
  · simp only [hget] at h1 h2
    unfold upd at h3 h4
    split at h1 <;> split at h2
    · rename_i e1 e2; exact absurd (e1.trans e2.symm) hne
    · rename_i e1 e2
      rw [if_pos e1] at h3
      rw [if_neg e2] at h4
      simp only [Option.some.injEq, Prod.mk.injEq] at h3
      have := g.own_lt (b := p2) ⟨j, q, o2, h2, h4⟩
      omega
    · rename_i e1 e2
      rw [if_neg e1] at h3
      rw [if_pos e2] at h4
      simp only [Option.some.injEq, Prod.mk.injEq] at h4
      have := g.own_lt (b := p1) ⟨i, p, o1, h1, h3⟩
      omega
    · rename_i e1 e2
      rw [if_neg e1] at h3
      rw [if_neg e2] at h4
      exact g.inj i j p q p1 p2 o1 o2 h1 h2 h3 h4 hne
  · rcases hownO k q with q | q
    · exact g.notZ k q hz
    · have := g.zlt k hz; omega
  · have := g.zlt k q
    rw [Array.size_push, Array.size_push]; omega
  · obtain ⟨N, hN⟩ := g.ids
    refine ⟨max N (lid + 1), fun j hj => ?_⟩
    unfold upd
    rw [if_neg (by omega)]
    exact hN j (by omega)
  · unfold upd at q
    split at q
    · rename_i e
      subst e
      simp only [Option.some.injEq, Prod.mk.injEq] at q
      obtain ⟨rfl, rfl⟩ := q
      exact ⟨rfl, 0, by unfold hty; rw [hnew, htag]⟩
    · obtain ⟨e1, m, e2⟩ := g.ty j k o q
      exact ⟨e1, m, hty2 _ _ e2⟩
  · refine ⟨by rw [hheap, Array.size_push, Array.size_push]; omega, fun k hk _ => by rw [hheap]; exact hold k hk, fun k t q => by rw [hheap]; exact hty2 k t q, fun _ q => q, fun _ q => .inl q, hup, fun k q => ?_, rfl, rfl, rfl⟩
    rcases hownO k q with q | q
    · exact .inl q
    · exact .inr (by omega)
theorem dead_put {b : Nat} {ob ob' : Obj} (g : Good w.heap ρ Z H) (hb : w.heap[b]? = some ob) (hc : ∀ c t f, ob ≠ .cells c t f) (hno : ¬ Own ρ H b) (hty1 : ∀ t, hty w.heap b = some t → hty (w.putObj b ob').heap b = some t) (hB : B.w.heap.size ≤ b) (e : Ext B.w B.ρ B.Z B.O w ρ Z (Own ρ H)) :
    Good (w.putObj b ob').heap ρ Z H ∧ Ext B.w B.ρ B.Z B.O (w.putObj b ob') ρ Z (Own ρ H) ∧ (∀ v x, Rl w.heap ρ Z v x → Rl (w.putObj b ob').heap ρ Z v x) ∧
      ∀ k, k ≠ b → (w.putObj b ob').heap[k]? = w.heap[k]? := by
  have hlt := (Array.getElem?_eq_some_iff.1 hb).1
  have hoth : ∀ k, k ≠ b → (w.putObj b ob').heap[k]? = w.heap[k]? := fun k hk => World.putObj_heap_other hk
  have hnc : ∀ c t f, w.heap[b]? ≠ some (.cells c t f) := fun c t f q => by rw [hb] at q; exact hc c t f (Option.some.inj q)
  have hty2 : ∀ k t, hty w.heap k = some t → hty (w.putObj b ob').heap k = some t := fun k t q => by
    by_cases e : k = b
    · subst e; exact hty1 t q
    · unfold hty at q ⊢
      rw [hoth k e]; exact q
  have hrl : ∀ v x, Rl w.heap ρ Z v x → Rl (w.putObj b ob').heap ρ Z v x := fun v x q => q.dead hnc hoth hty1
  refine ⟨⟨fun j blk q => ?_, g.inj, g.notZ, fun k q => by rw [World.putObj_size]; exact g.zlt k q, g.ids, fun j k o q => ?_, g.tab.dead hnc hoth⟩, ?_, hrl, hoth⟩
  · obtain ⟨k, o, q1, q2⟩ := g.blk j blk q
    refine ⟨k, o, q1, q2.mono (hoth k ?_) hrl⟩
    rintro rfl
    exact hno ⟨j, blk, o, q, q1⟩
  · obtain ⟨e1, m, e2⟩ := g.ty j k o q
    exact ⟨e1, m, hty2 _ _ e2⟩
  · exact { e with
      size := by rw [World.putObj_size]; exact e.size
      keep := fun k hk hO => by rw [hoth k (by omega)]; exact e.keep k hk hO
      shape := fun k t q => hty2 k t (e.shape k t q) }
theorem mark_put {D : Nat} {ds : List Deferred} (g : Good w.heap ρ Z H) (hD : w.heap[D]? = some (.deferred (some ds))) (hB : B.w.heap.size ≤ D) (e : Ext B.w B.ρ B.Z B.O w ρ Z (Own ρ H)) :
    Good (w.putObj D (.deferred none)).heap ρ Z H ∧ Ext B.w B.ρ B.Z B.O (w.putObj D (.deferred none)) ρ Z (Own ρ H) ∧ (∀ v x, Rl w.heap ρ Z v x → Rl (w.putObj D (.deferred none)).heap ρ Z v x) ∧
      ∀ k, k ≠ D → (w.putObj D (.deferred none)).heap[k]? = w.heap[k]? := by
  refine dead_put g hD (fun c t f q => by cases q) ?_ (fun t q => ?_) hB e
  · rintro ⟨id, blk, o0, q1, q2⟩
    obtain ⟨b, o, q3, q4⟩ := g.blk id blk q1
    rw [q2] at q3
    obtain ⟨rfl, rfl⟩ : D = b ∧ o0 = o := by simpa using q3
    exact q4.noDefer hD
  · unfold hty at q
    rw [hD] at q; cases q
theorem marks_out {F : Fence} {n : Nat} {fn : Func} {tmps : Array Value} {R : Ending → World → Prop} : ∀ (ds : List Deferred) (w : World), Good w.heap ρ Z H → Ext B.w B.ρ B.Z B.O w ρ Z (Own ρ H) → Marks B w ds →
    (∀ w', Good w'.heap ρ Z H → Ext B.w B.ρ B.Z B.O w' ρ Z (Own ρ H) → (∀ v x, Rl w.heap ρ Z v x → Rl w'.heap ρ Z v x) → ∃ v, (results fn tmps).run P w' = .ok v w' ∧ R (.returned v) w') → LeavesInM F n P fn tmps R ds .returning w
  | [], w, g, e, _, k => by
    obtain ⟨v, h1, h2⟩ := k w g e (fun _ _ q => q)
    exact ⟨v, h1, h2⟩
  | d :: ds, w, g, e, m, k => by
    obtain ⟨D, rfl, hD, hB⟩ := m.one d List.mem_cons_self
    obtain ⟨g1, e1, r1, o1⟩ := mark_put g hD hB e
    refine ⟨by simp, .inl ⟨D, _, rfl, run_takeDeferred hD, ?_⟩⟩
    have hnd := List.pairwise_cons.1 m.nd
    refine marks_out ds _ g1 e1 ⟨fun d' hd' => ?_, hnd.2⟩ fun w' g' e' r' => k w' g' e' fun v x q => r' v x (r1 v x q)
    obtain ⟨D', h1, h2, h3⟩ := m.one d' (List.mem_cons_of_mem _ hd')
    refine ⟨D', h1, ?_, h3⟩
    rw [o1 D' (fun e => hnd.1 d' hd' D rfl (by rw [h1, e]))]
    exact h2
end
end Go.Proofs.YtjaigpidmngaaaaGreat
