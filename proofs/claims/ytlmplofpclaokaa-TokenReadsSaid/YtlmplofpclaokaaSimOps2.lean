/- Each operation of the model does what the abstract operation says: reading, addresses, arithmetic, structs by value. -/
import Derived.Test.YtlmplofpclaokaaSimOps
namespace Go.Proofs.Ytlmplofpclaokaa
set_option autoImplicit false
set_option linter.unusedSimpArgs false
set_option linter.unusedVariables false

section
variable {P : Program} {w : World} {ρ : Loc} {Z : Nat → Prop} {H : AH} {s : Fr} {a : Act} {rs : Rs} {lit : Bool}

theorem aggSize_spec {t : TypeId} {n : Option Nat} (h : aggSize P t = some n) : ∃ d i, P.underlying t = some d ∧ P.info? t = some i ∧
    n = if isAggD d = true then some i.size else none := by
  unfold aggSize at h
  split at h
  · rename_i d i hd hi
    refine ⟨d, i, hd, hi, ?_⟩
    split at h <;> simp_all
  · cases h

theorem run_isAgg {t : TypeId} {d : TypeDesc} (h : P.underlying t = some d) : (isAgg t).run P w = .ok (isAggD d) w := by
  unfold isAgg
  simp only [Sem.run_bind, run_underlying h, Result.andThen_ok]
  cases d <;> rfl

theorem run_sizeOf {t : TypeId} {i : TypeInfo} (h : P.info? t = some i) : (sizeOf t).run P w = .ok i.size w := by
  simp [sizeOf, typeInfo, h]

theorem run_zeroValue {t : TypeId} {i : TypeInfo} {z : Value} (h : P.info? t = some i) (hz : i.zero = some z) : (zeroValue t).run P w = .ok z w := by
  simp [zeroValue, typeInfo, h, hz]

/-- A part of cells. -/
theorem run_part {t : TypeId} {n : Option Nat} {cs : List AV} {off : Nat} {r : AV} {xs : List Value} (h : aggSize P t = some n) (hp : partA cs off n = some r) (hr : CellsRl w.heap ρ Z cs xs) :
    ∃ y, (part t xs.toArray off).run P w = .ok y w ∧ Rl w.heap ρ Z r y := by
  obtain ⟨d, i, hd, hi, rfl⟩ := aggSize_spec h
  unfold part
  simp only [Sem.run_bind, run_isAgg hd, Result.andThen_ok]
  by_cases hag : isAggD d = true
  · rw [if_pos hag] at hp
    simp only [partA] at hp
    split at hp
    · rename_i hle
      simp only [Option.some.injEq] at hp
      subst hp
      simp only [hag, if_true, Sem.run_bind, run_sizeOf hi, Result.andThen_ok, Sem.run_pure]
      refine ⟨_, rfl, ?_⟩
      have he : xs.toArray.extract off (off + i.size) = ((xs.drop off).take i.size).toArray := by
        simp [List.extract_eq_take_drop]
      rw [he]
      refine .agg _ _ (by simp [hr.1]) (fun k v hk => ?_) (fun k v x hk hx => ?_)
      · have hk' := List.getElem?_eq_some_iff.1 hk
        simp only [List.length_take, List.length_drop] at hk'
        have hlt := hk'.1
        rw [List.getElem?_take, if_pos (by omega), List.getElem?_drop] at hk
        exact (hr.2 _ _ _ hk (List.getElem?_eq_getElem (by have := hr.1; omega))).1
      · have hk' := (List.getElem?_eq_some_iff.1 hk).1
        simp only [List.length_take, List.length_drop] at hk'
        rw [List.getElem?_take, if_pos (by omega), List.getElem?_drop] at hk hx
        exact (hr.2 _ _ _ hk hx).2
    · cases hp
  · rw [if_neg hag] at hp
    have hag' : isAggD d = false := by simpa using hag
    simp only [partA, Option.bind_eq_some_iff] at hp
    obtain ⟨v, h1, h2⟩ := hp
    split at h2
    · simp only [Option.some.injEq] at h2
      subst h2
      have hlt : off < xs.length := by have := (List.getElem?_eq_some_iff.1 h1).1; rw [← hr.1]; exact this
      have hx : xs[off]? = some xs[off] := List.getElem?_eq_getElem hlt
      refine ⟨xs[off], ?_, (hr.2 _ _ _ h1 hx).2⟩
      simp only [hag', Bool.false_eq_true, if_false]
      simp [hx]
    · cases h2

/-- Loading at an address. -/
theorem run_loadVar {t : TypeId} {n : Option Nat} {cs : List AV} {r : AV} {b o : Nat} (h : aggSize P t = some n) (hp : partA cs 0 n = some r)
    (hr : ∀ (k : Nat) c, cs[k]? = some c → c.isCell = true ∧ ∃ y, hcell w.heap b (o + k) = some y ∧ Rl w.heap ρ Z c y) :
    ∃ y, (loadVar t ⟨b, o, none⟩).run P w = .ok y w ∧ Rl w.heap ρ Z r y := by
  obtain ⟨d, i, hd, hi, rfl⟩ := aggSize_spec h
  unfold loadVar
  simp only [Sem.run_bind, run_isAgg hd, Result.andThen_ok]
  by_cases hag : isAggD d = true
  · rw [if_pos hag] at hp
    simp only [partA] at hp
    split at hp
    · rename_i hle
      simp only [Option.some.injEq] at hp
      subst hp
      have hl := run_loadCells (P := P) w ⟨b, o, none⟩ i.size (fun k => (hcell w.heap b (o + k)).getD undef) (fun k hk => by
        rw [addr_add, cell?_heap]
        obtain ⟨_, y, hy, _⟩ := hr k _ (List.getElem?_eq_getElem (show k < cs.length by omega))
        rw [hy]
        rfl)
      simp only [hag, if_true, Sem.run_bind, run_sizeOf hi, Result.andThen_ok, hl, Sem.run_map]
      refine ⟨_, rfl, ?_⟩
      refine .agg _ _ (by simp; omega) (fun k v hk => ?_) (fun k v x hk hx => ?_)
      · have hlt := (List.getElem?_eq_some_iff.1 hk).1
        simp only [List.length_take, List.length_drop] at hlt
        rw [List.drop_zero, List.getElem?_take, if_pos (by omega)] at hk
        exact (hr _ _ hk).1
      · have hlt := (List.getElem?_eq_some_iff.1 hk).1
        simp only [List.length_take, List.length_drop] at hlt
        rw [List.drop_zero, List.getElem?_take, if_pos (by omega)] at hk
        obtain ⟨_, y, hy, hry⟩ := hr _ _ hk
        rw [List.getElem?_map, List.getElem?_range (by omega)] at hx
        simp only [Option.map_some, Option.some.injEq] at hx
        rw [← hx, hy]
        exact hry
    · cases hp
  · rw [if_neg hag] at hp
    have hag' : isAggD d = false := by simpa using hag
    simp only [partA, Option.bind_eq_some_iff] at hp
    obtain ⟨v, h1, h2⟩ := hp
    split at h2
    · simp only [Option.some.injEq] at h2
      subst h2
      obtain ⟨_, y, hy, hry⟩ := hr 0 _ h1
      refine ⟨y, ?_, hry⟩
      simp only [hag', Bool.false_eq_true, if_false, run_load, cell?_heap]
      rw [Nat.add_zero] at hy
      rw [hy]
    · cases h2

theorem load_out {o : Oper} {t : TypeId} {x : Operand} (ho : o.op = .load t x) (g : Good w.heap ρ Z H) (hF : FR w.heap ρ Z s a) (h : evalOp s H (compOp P lit o.op) = some rs) :
    OpOut P w ρ Z H rs ((execOp a.eval o).run P w) := by
  rw [ho] at h
  simp only [compOp] at h
  split at h
  · rename_i n hn
    simp only [evalOp, Option.bind_eq_some_iff] at h
    obtain ⟨v, h1, cs, h2, r, h3, h4⟩ := h
    simp only [Option.some.injEq] at h4
    subst h4
    obtain ⟨b, k, hx, hr⟩ := readA_rl g (ev_rl hF h1) h2
    obtain ⟨y, hy, hry⟩ := run_loadVar hn h3 hr
    refine OpOut.pure g ?_ hry
    simp only [execOp, ho, Instr.loadAt, Instr.sureAddr, hx, Sem.run_bind, Sem.run_pure, Result.andThen_ok, hy]
  · simp [evalOp] at h

theorem field_out {o : Oper} {t : TypeId} {x : Operand} {f : Nat} (ho : o.op = .field t x f) (g : Good w.heap ρ Z H) (hF : FR w.heap ρ Z s a) (h : evalOp s H (compOp P lit o.op) = some rs) :
    OpOut P w ρ Z H rs ((execOp a.eval o).run P w) := by
  rw [ho] at h
  simp only [compOp] at h
  split at h
  · rename_i fs hu
    split at h
    · rename_i fd hfd
      split at h
      · rename_i n hn
        simp only [evalOp, Option.bind_eq_some_iff] at h
        obtain ⟨v, h1, h2⟩ := h
        cases v with
        | agg cs =>
          simp only [Option.bind_eq_some_iff] at h2
          obtain ⟨r, h3, h4⟩ := h2
          simp only [Option.some.injEq] at h4
          subst h4
          have hr := ev_rl hF h1
          generalize hy : a.eval x = y at hr
          cases hr with
          | agg _ vs hl hc hr =>
            have hcr : CellsRl w.heap ρ Z cs vs := ⟨hl, fun i c x h1 h2 => ⟨hc i c h1, hr i c x h1 h2⟩⟩
            obtain ⟨y, hy2, hry⟩ := run_part hn h3 hcr
            refine OpOut.pure g ?_ hry
            simp only [execOp, ho, hy, Instr.field, Sem.run_bind, run_underlying hu, Result.andThen_ok, hfd, asAgg, Sem.run_pure, hy2]
        | _ => simp at h2
      · simp [evalOp] at h
    · simp [evalOp] at h
  · simp [evalOp] at h

theorem faddr_out {o : Oper} {t : TypeId} {x : Operand} {f : Nat} (ho : o.op = .fieldAddr t x f) (g : Good w.heap ρ Z H) (hF : FR w.heap ρ Z s a) (h : evalOp s H (compOp P lit o.op) = some rs) :
    OpOut P w ρ Z H rs ((execOp a.eval o).run P w) := by
  rw [ho] at h
  simp only [compOp] at h
  split at h
  · rename_i fs hu
    split at h
    · rename_i fd hfd
      split at h
      · rename_i k hk
        split at h
        · simp [evalOp] at h
        · rename_i hk0
          simp only [evalOp, Option.bind_eq_some_iff] at h
          obtain ⟨v, h1, h2⟩ := h
          have hr := ev_rl hF h1
          generalize hy : a.eval x = y at hr
          cases hr with
          | ptr id sz i j b o0 hρ =>
            simp only [Option.some.injEq] at h2
            subst h2
            refine OpOut.pure g (x := .pointer (some ⟨b, o0 + (i * sz + (j + fd.offset)), none⟩)) ?_ (.ptr _ _ _ _ _ _ hρ)
            simp only [execOp, ho, hy, Instr.fieldAt, Sem.run_bind, run_underlying hu, Result.andThen_ok, hfd, Instr.sureAddr, Sem.run_pure, fieldPlace, run_sizeOf hk, if_neg hk0, addr_add]
            rw [show o0 + (i * sz + j) + fd.offset = o0 + (i * sz + (j + fd.offset)) from by omega]
          | fp cs b o' f' hz hcc hm hr =>
            simp only [Option.some.injEq] at h2
            subst h2
            refine OpOut.pure g (x := .pointer (some ⟨b, o' + fd.offset, none⟩)) ?_ (.fp _ _ _ (fun k => f' (fd.offset + k)) (fun hp => hz ?_) ?_ ?_ ?_)
            · simp only [execOp, ho, hy, Instr.fieldAt, Sem.run_bind, run_underlying hu, Result.andThen_ok, hfd, Instr.sureAddr, Sem.run_pure, fieldPlace, run_sizeOf hk, if_neg hk0, addr_add]
            · simp only [List.length_drop] at hp; omega
            · intro i v hv; rw [List.getElem?_drop] at hv; exact hcc _ _ hv
            · intro i v hv; rw [List.getElem?_drop] at hv; rw [← hm _ _ hv]; congr 1; omega
            · intro i v hv; rw [List.getElem?_drop] at hv; exact hr _ _ hv
          | _ => simp at h2
      · simp [evalOp] at h
    · simp [evalOp] at h
  · simp [evalOp] at h

theorem iaddr_out {o : Oper} {t : TypeId} {x ix : Operand} (ho : o.op = .indexAddr t x ix) (g : Good w.heap ρ Z H) (hF : FR w.heap ρ Z s a) (h : evalOp s H (compOp P lit o.op) = some rs) :
    OpOut P w ρ Z H rs ((execOp a.eval o).run P w) := by
  rw [ho] at h
  simp only [compOp] at h
  split at h
  · rename_i e hu
    split at h
    · rename_i k hk
      simp only [evalOp, Option.bind_eq_some_iff] at h
      obtain ⟨v, h1, iv, h2, h3⟩ := h
      have hr := ev_rl hF h1
      have hi := ev_rl hF h2
      generalize hy : a.eval x = y at hr
      generalize hj : a.eval ix = j at hi
      cases hi with
      | int kk n =>
        cases hr with
        | rows sz l b o' nn c f hn hnc hz hw hcc hm hr =>
          simp only at h3
          split at h3
          · rename_i hc
            obtain ⟨rfl, hc1, hc2⟩ := hc
            simp only [Option.some.injEq] at h3
            subst h3
            have hlt : n.toNat < l.length := by omega
            have hli : l[n.toNat]? = some (l.getD n.toNat []) := by simp [List.getD, hlt]
            refine OpOut.pure g (x := .pointer (some ⟨b, o' + n.toNat * k.size, none⟩)) ?_ (.fp _ _ _ (fun q => f (n.toNat * k.size + q)) (fun _ => hz (by omega)) ?_ ?_ ?_)
            · simp only [execOp, ho, hy, hj, Instr.indexAt, asIntOf, Sem.run_bind, run_underlying hu, Result.andThen_ok, Sem.run_pure]
              rw [if_pos ⟨hc1, by omega⟩]
              simp only [Sem.run_bind, run_sizeOf hk, Result.andThen_ok, Sem.run_pure, addr_add]
            · intro q v hv; exact hcc _ _ _ _ hli hv
            · intro q v hv; rw [← hm _ _ _ _ hli hv]; congr 1; omega
            · intro q v hv; exact hr _ _ _ _ hli hv
          · cases h3
        | own id sz lo hi b o0 o' nn c m hρ hlo hn hnc ho' hm hcap =>
          simp only at h3
          split at h3
          · rename_i hc
            obtain ⟨rfl, hc1, hc2⟩ := hc
            simp only [Option.some.injEq] at h3
            subst h3
            have hoo : o' = o0 + lo * k.size := by
              rcases ho' with h0 | h0
              · omega
              · exact h0
            refine OpOut.pure g (x := .pointer (some ⟨b, o0 + ((lo + n.toNat) * k.size + 0), none⟩)) ?_ (.ptr _ _ _ _ _ _ hρ)
            simp only [execOp, ho, hy, hj, Instr.indexAt, asIntOf, Sem.run_bind, run_underlying hu, Result.andThen_ok, Sem.run_pure]
            rw [if_pos ⟨hc1, by omega⟩]
            simp only [Sem.run_bind, run_sizeOf hk, Result.andThen_ok, Sem.run_pure, addr_add, hoo]
            congr 5
            rw [Nat.add_mul]
            omega
          · cases h3
        | rowsN sz =>
          simp at h3
          omega
        | rowsE sz ad c =>
          simp at h3
          omega
        | _ => simp at h3
      | _ => simp at h3
    · simp [evalOp] at h
  · rename_i nn e hu
    split at h
    · rename_i k hk
      simp only [evalOp, Option.bind_eq_some_iff] at h
      obtain ⟨v, h1, iv, h2, h3⟩ := h
      have hr := ev_rl hF h1
      have hi := ev_rl hF h2
      generalize hy : a.eval x = y at hr
      generalize hj : a.eval ix = j at hi
      cases hi with
      | int kk n =>
        simp only at h3
        split at h3
        · rename_i hc
          obtain ⟨hc1, hc2⟩ := hc
          cases hr with
          | ptr id sz i j' b o0 hρ =>
            simp only [Option.some.injEq] at h3
            subst h3
            refine OpOut.pure g (x := .pointer (some ⟨b, o0 + (i * sz + (j' + n.toNat * k.size)), none⟩)) ?_ (.ptr _ _ _ _ _ _ hρ)
            simp only [execOp, ho, hy, hj, Instr.indexAt, asIntOf, Sem.run_bind, run_underlying hu, Result.andThen_ok, Sem.run_pure, Instr.sureAddr]
            rw [if_pos ⟨hc1, hc2⟩]
            simp only [Sem.run_bind, run_sizeOf hk, Result.andThen_ok, Sem.run_pure, addr_add]
            congr 5
            omega
          | fp cs b o' f' hz hcc hm hr =>
            simp only [Option.some.injEq] at h3
            subst h3
            refine OpOut.pure g (x := .pointer (some ⟨b, o' + n.toNat * k.size, none⟩)) ?_ (.fp _ _ _ (fun q => f' (n.toNat * k.size + q)) (fun hp => hz ?_) ?_ ?_ ?_)
            · simp only [execOp, ho, hy, hj, Instr.indexAt, asIntOf, Sem.run_bind, run_underlying hu, Result.andThen_ok, Sem.run_pure, Instr.sureAddr]
              rw [if_pos ⟨hc1, hc2⟩]
              simp only [Sem.run_bind, run_sizeOf hk, Result.andThen_ok, Sem.run_pure, addr_add]
            · simp only [List.length_drop] at hp; omega
            · intro i v hv; rw [List.getElem?_drop] at hv; exact hcc _ _ hv
            · intro i v hv; rw [List.getElem?_drop] at hv; rw [← hm _ _ hv]; congr 1; omega
            · intro i v hv; rw [List.getElem?_drop] at hv; exact hr _ _ hv
          | _ => simp at h3
        · cases h3
      | _ => simp at h3
    · simp [evalOp] at h
  · simp [evalOp] at h

theorem getElem?_toList (b : ByteArray) (i : Nat) : b[i]? = b.data.toList[i]? := by
  show (if h : i < b.size then some b[i] else none) = _
  by_cases h : i < b.size
  · rw [dif_pos h, List.getElem?_eq_getElem (by simpa using h)]
    rfl
  · rw [dif_neg h, List.getElem?_eq_none (by simpa using h)]

theorem index_out {o : Oper} {t : TypeId} {x ix : Operand} (ho : o.op = .index t x ix) (g : Good w.heap ρ Z H) (hF : FR w.heap ρ Z s a) (h : evalOp s H (compOp P lit o.op) = some rs) :
    OpOut P w ρ Z H rs ((execOp a.eval o).run P w) := by
  rw [ho] at h
  simp only [compOp] at h
  split at h
  · rename_i hu
    simp only [evalOp, Option.bind_eq_some_iff] at h
    obtain ⟨v, h1, iv, h2, h3⟩ := h
    have hr := ev_rl hF h1
    have hi := ev_rl hF h2
    generalize hy : a.eval x = y at hr
    generalize hj : a.eval ix = j at hi
    cases hi with
    | int kk n =>
      cases hr with
      | str l b hs =>
        simp only at h3
        split at h3
        · rename_i hc
          obtain ⟨hc1, hc2⟩ := hc
          simp only [Option.some.injEq] at h3
          subst h3
          have hb : b[n.toNat]? = some (l.getD n.toNat 0) := by
            rw [getElem?_toList, hs]
            simp [List.getD, show n.toNat < l.length by omega]
          refine OpOut.pure g ?_ (.int _ _)
          simp only [execOp, ho, hy, hj, Instr.index, asIntOf, Sem.run_bind, run_underlying hu, Result.andThen_ok, Sem.run_pure]
          rw [if_pos hc1, hb]
          rfl
        · cases h3
      | _ => simp at h3
    | _ => simp at h3
  · rename_i nn e hu
    split at h
    · rename_i k m hk hm
      simp only [evalOp, Option.bind_eq_some_iff] at h
      obtain ⟨v, h1, iv, h2, h3⟩ := h
      have hr := ev_rl hF h1
      have hi := ev_rl hF h2
      generalize hy : a.eval x = y at hr
      generalize hj : a.eval ix = j at hi
      cases hi with
      | int kk n =>
        cases hr with
        | agg cs vs hl hc hr =>
          simp only at h3
          split at h3
          · rename_i hcd
            simp only [Option.bind_eq_some_iff] at h3
            obtain ⟨r, h4, h5⟩ := h3
            simp only [Option.some.injEq] at h5
            subst h5
            have hcr : CellsRl w.heap ρ Z cs vs := ⟨hl, fun i c x h1 h2 => ⟨hc i c h1, hr i c x h1 h2⟩⟩
            obtain ⟨y, hy2, hry⟩ := run_part hm h4 hcr
            refine OpOut.pure g ?_ hry
            simp only [execOp, ho, hy, hj, Instr.index, asIntOf, Sem.run_bind, run_underlying hu, Result.andThen_ok, Sem.run_pure]
            rw [if_pos hcd]
            simp only [Sem.run_bind, run_sizeOf hk, Result.andThen_ok, hy2]
          · cases h3
        | _ => simp at h3
      | _ => simp at h3
    · simp [evalOp] at h
  · simp [evalOp] at h

end
end Go.Proofs.Ytlmplofpclaokaa
