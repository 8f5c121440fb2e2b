/- Each operation of the model does what the abstract operation says: what makes or writes memory. -/
import Derived.Test.YtlmplofpclaokaaSimOps3
namespace Go.Proofs.Ytlmplofpclaokaa
set_option autoImplicit false
set_option linter.unusedSimpArgs false
set_option linter.unusedVariables false

section
variable {P : Program} {w : World} {ρ : Loc} {Z : Nat → Prop} {H : AH} {s : Fr} {a : Act} {rs : Rs}

theorem one_row {cs : List AV} {xs : List Value} (hr : CellsRl w.heap ρ Z cs xs) : ∀ (i : Nat) r (j : Nat) v, [cs][i]? = some r → r[j]? = some v →
    v.isCell = true ∧ ∃ y, xs.toArray[i * cs.length + j]? = some y ∧ Rl w.heap ρ Z v y := by
  intro i r j v h1 h2
  cases i with
  | zero =>
    simp at h1
    subst h1
    have hlt : j < xs.length := by rw [← hr.1]; exact (List.getElem?_eq_some_iff.1 h2).1
    have hx : xs[j]? = some xs[j] := List.getElem?_eq_getElem hlt
    obtain ⟨hc, hq⟩ := hr.2 j _ _ h2 hx
    exact ⟨hc, xs[j], by simp [hlt], hq⟩
  | succ i => simp at h1

theorem ptr0 {h' : Array Obj} {ρ' : Loc} {id sz b : Nat} (hρ : ρ' id = some (b, 0)) : Rl h' ρ' Z (.ptr id sz 0 0) (.pointer (some ⟨b, 0, none⟩)) := by
  have := Rl.ptr (h := h') (Z := Z) id sz 0 0 b 0 hρ
  simpa using this

theorem box_out {o : Oper} {t : TypeId} {x : Operand} (ho : o.op = .box t x) (g : Good w.heap ρ Z H) (hF : FR w.heap ρ Z s a) (h : evalOp s H (.box t (cx x)) = some rs) :
    OpOut P w ρ Z H rs ((execOp a.eval o).run P w) := by
  simp only [evalOp, Option.bind_eq_some_iff] at h
  obtain ⟨v, h1, h2⟩ := h
  split at h2 <;> simp only [Option.some.injEq, reduceCtorEq] at h2
  rename_i hc
  subst h2
  have hr := (ev_rl hF h1).cells hc
  refine fresh_out (w1 := w) (x := .pointer (some ⟨w.heap.size, 0, none⟩)) (cs := (a.eval x).cells) (e := t) g rfl rfl rfl rfl ?_ (fun _ _ q => q) ?_ ?_ ?_ ?_
  · simp only [execOp, ho, Instr.box, newVar, newRow, Sem.run_bind, run_newObj, Sem.run_pure, Result.andThen_ok, Sem.run_map]
    rfl
  · have := hr.1; simp at this; simp; omega
  · intro i r hi
    cases i with
    | zero => simp at hi; rw [hi]
    | succ i => simp at hi
  · have := one_row hr
    simpa using this
  · intro id h' ρ' hρ _
    exact ptr0 hρ

theorem allc_out {o : Oper} {t : TypeId} {i : TypeInfo} {z : Value} {zs : List AV} (hi : P.info? t = some i) (hz : i.zero = some z) (hzs : constCells z = some zs) (ho : o.op = .alloc t) (g : Good w.heap ρ Z H)
    (h : evalOp s H (.allc t zs) = some rs) : OpOut P w ρ Z H rs ((execOp a.eval o).run P w) := by
  simp only [evalOp, Option.some.injEq] at h
  subst h
  have hr := constCells_rl (h := w.heap) (ρ := ρ) (Z := Z) hzs
  refine fresh_out (w1 := w) (x := .pointer (some ⟨w.heap.size, 0, none⟩)) (cs := z.cells) (e := t) g rfl rfl rfl rfl ?_ (fun _ _ q => q) ?_ ?_ ?_ ?_
  · simp only [execOp, ho, Instr.alloc, run_zeroValue hi hz, newVar, newRow, Sem.run_bind, run_newObj, Sem.run_pure, Result.andThen_ok, Sem.run_map]
    rfl
  · have := hr.1; simp at this; simp; omega
  · intro i r hi
    cases i with
    | zero => simp at hi; rw [hi]
    | succ i => simp at hi
  · have := one_row hr
    simpa using this
  · intro id h' ρ' hρ _
    exact ptr0 hρ

/-! ### Writing into an owned block -/
theorem hget_hset (H : AH) (id j : Nat) (c : Blk) : hget (hset H id c) j = if j = id then (hget H id).map (fun _ => c) else hget H j := by
  induction H with
  | nil => simp [hset, hget]
  | cons p H ih =>
    obtain ⟨i, b⟩ := p
    simp only [hset]
    split
    · rename_i e
      subst e
      simp only [hget]
      split
      · simp
      · rfl
    · rename_i e
      simp only [hget]
      split
      · rename_i e1
        subst e1
        rw [if_neg (fun q => e q.symm)]
      · rename_i e1
        rw [ih]

theorem hget_hdel (H : AH) (id j : Nat) : hget (hdel H id) j = if j = id then none else hget H j := by
  induction H with
  | nil => simp [hdel, hget]
  | cons p H ih =>
    obtain ⟨i, b⟩ := p
    simp only [hdel]
    split
    · rename_i e
      subst e
      rw [ih]
      split
      · rfl
      · rename_i e1
        simp only [hget, if_neg e1]
    · rename_i e
      simp only [hget]
      rw [ih]
      split
      · rename_i e1
        subst e1
        rw [if_neg (fun q => e q.symm)]
      · rfl

theorem hsub_del (H : AH) (id : Nat) : Sub (hdel H id) H := fun j b hj => by
  rw [hget_hdel] at hj
  split at hj
  · cases hj
  · exact hj

theorem getset (h : Array Obj) (b k : Nat) (o : Obj) (hb : b < h.size) : (h.setIfInBounds b o)[k]? = if k = b then some o else h[k]? := by
  rw [Array.getElem?_setIfInBounds]
  by_cases e : b = k
  · subst e; rw [if_pos rfl, if_pos rfl, if_pos hb]
  · rw [if_neg e, if_neg (fun q => e q.symm)]

theorem Rl.write {h : Array Obj} {b : Nat} {cs cs' : Array Value} {e : TypeId} (hb : h[b]? = some (.cells cs e (0, 0))) (hsz : cs'.size = cs.size) (hZ : ¬ Z b) {v : AV} {x : Value} (hr : Rl h ρ Z v x)
    {ρ' : Loc} (hρ : ∀ id p, ρ id = some p → ρ' id = some p) : Rl (h.setIfInBounds b (.cells cs' e (0, 0))) ρ' Z v x := by
  have hlt := (Array.getElem?_eq_some_iff.1 hb).1
  refine hr.mono hρ (fun _ q => q) (fun k o u hk hu => ?_) (fun k m hm => ?_)
  · unfold hcell at *
    rw [getset _ _ _ _ hlt, if_neg (fun q => hZ (by rw [← q]; exact hk))]
    exact hu
  · unfold hty at *
    rw [getset _ _ _ _ hlt]
    by_cases e1 : k = b
    · subst e1
      rw [if_pos rfl]
      rw [hb] at hm
      simpa [hsz] using hm
    · rw [if_neg e1]
      exact hm

theorem BlkR.write {h : Array Obj} {b : Nat} {cs cs' : Array Value} {e : TypeId} (hb : h[b]? = some (.cells cs e (0, 0))) (hsz : cs'.size = cs.size) (hZ : ¬ Z b) {ρ' : Loc} (hρ : ∀ id p, ρ id = some p → ρ' id = some p)
    {k o : Nat} {blk : Blk} (hk : k ≠ b) (hr : BlkR h ρ Z k o blk) : BlkR (h.setIfInBounds b (.cells cs' e (0, 0))) ρ' Z k o blk :=
  hr.mono (by rw [getset _ _ _ _ (Array.getElem?_eq_some_iff.1 hb).1, if_neg hk]) fun v x q => q.write hb hsz hZ hρ

theorem Own.set {id : Nat} {c : Blk} {b : Nat} : Own ρ (hset H id c) b → Own ρ H b := by
  rintro ⟨j, bl, o, h1, h2⟩
  rw [hget_hset] at h1
  split at h1
  · rename_i e
    subst e
    cases hg : hget H j with
    | none => simp [hg] at h1
    | some q => exact ⟨j, q, o, hg, h2⟩
  · exact ⟨j, bl, o, h1, h2⟩

theorem store_out {o : Oper} {t : TypeId} {i : TypeInfo} {x y : Operand} (hi : P.info? t = some i) (ho : o.op = .store t x y) (g : Good w.heap ρ Z H) (hF : FR w.heap ρ Z s a)
    (h : evalOp s H (.store i.size (cx x) (cx y)) = some rs) : OpOut P w ρ Z H rs ((execOp a.eval o).run P w) := by
  simp only [evalOp, Option.bind_eq_some_iff] at h
  obtain ⟨v, h1, z, h2, h3⟩ := h
  have hx := ev_rl hF h1
  have hy := ev_rl hF h2
  generalize ex : a.eval x = xv at hx
  generalize ey : a.eval y = yv at hy
  cases hx with
  | ptr id sz k j b o0 hρ =>
    simp only at h3
    cases hg : hget H id with
    | none => simp [hg] at h3
    | some blk =>
      cases blk with
      | rows sz' l =>
        simp only [hg, Option.bind_eq_some_iff] at h3
        obtain ⟨r, hlr, h4⟩ := h3
        split at h4 <;> simp only [Option.some.injEq, reduceCtorEq] at h4
        rename_i hc
        obtain ⟨hlen, hcells, hsz', hfit⟩ := hc
        subst hsz'
        subst h4
        have hcr := hy.cells hcells
        obtain ⟨b', o', hρ', cs, e, hb, hbsz, hws, hvs⟩ := g.blk id _ hg
        rw [hρ] at hρ'
        obtain ⟨rfl, rfl⟩ : b = b' ∧ o0 = o' := by simpa using hρ'
        have hlt := (Array.getElem?_eq_some_iff.1 hb).1
        have hown : Own ρ H b := ⟨id, _, o0, hg, hρ⟩
        have hZ : ¬ Z b := g.notZ b hown
        have hklt : k < l.length := (List.getElem?_eq_some_iff.1 hlr).1
        have hrl : r.length = sz' := hws k r hlr
        have hks : (k + 1) * sz' ≤ l.length * sz' := Nat.mul_le_mul_right _ hklt
        rw [Nat.add_mul, Nat.one_mul] at hks
        have hxl : yv.cells.toList.length = i.size := by rw [← hcr.1]; exact hlen
        have hone : ∀ u ∈ yv.cells.toList, u.oneCell' = true := by
          intro u hu
          obtain ⟨q, hq, rfl⟩ := List.mem_iff_getElem.1 hu
          have hq' : q < z.cells.length := by rw [hcr.1]; exact hq
          obtain ⟨c1, c2⟩ := hcr.2 q _ _ (List.getElem?_eq_getElem hq') (List.getElem?_eq_getElem hq)
          exact c2.one c1
        have hrun := run_storeCells' (P := P) b (o0 + (k * sz' + j)) e yv.cells.toList 0 cs w hb (by omega) hone
        have hsize : (ovArr cs (o0 + (k * sz' + j) + 0) yv.cells.toList).size = cs.size := size_ovArr _ _ _
        generalize hcs' : ovArr cs (o0 + (k * sz' + j) + 0) yv.cells.toList = cs' at *
        have up : ∀ v x, Rl w.heap ρ Z v x → Rl (w.heap.setIfInBounds b (.cells cs' e (0, 0))) ρ Z v x := fun v x q => q.write hb hsize hZ (fun _ _ e => e)
        refine ⟨{ w with heap := w.heap.setIfInBounds b (.cells cs' e (0, 0)) }, ?_, ?_, ?_⟩
        · simp only [execOp, ho, ex, ey, Instr.storeAt, Instr.sureAddr, Sem.run_bind, Sem.run_pure, Result.andThen_ok, storeVar, run_sizeOf hi]
          rw [if_neg (by simp at hxl; simp [hxl])]
          simp only [hrun, Result.andThen_ok]
        · refine ⟨fun jd bl hj => ?_, fun p q a' b' u v o1 o2 e1 e2 e3 e4 hne => ?_, fun q hq => g.notZ q hq.set, fun q hq => by simpa using g.zlt q hq, g.ids, fun j q o hj => ?_⟩
          · rw [hget_hset] at hj
            split at hj
            · rename_i e1
              subst e1
              rw [hg] at hj
              simp only [Option.map_some, Option.some.injEq] at hj
              subst hj
              refine ⟨b, o0, hρ, cs', e, by simp only [getset _ _ _ _ hlt, if_true], by rw [hsize]; simpa using hbsz, fun p q hq => ?_, fun p q m u hp hu => ?_⟩
              · rw [List.getElem?_set] at hq
                split at hq
                · rename_i e2
                  simp only [Option.some.injEq] at hq
                  subst hq
                  simp only [over, List.length_append, List.length_take, List.length_drop]
                  omega
                · exact hws p q hq
              · rw [List.getElem?_set] at hp
                have hplt : p < l.length := by
                  split at hp
                  · rename_i e2; omega
                  · exact (List.getElem?_eq_some_iff.1 hp).1
                have hget := get_ovArr yv.cells.toList cs (o0 + (k * sz' + j) + 0) (o0 + (p * sz' + m)) (by omega)
                rw [hcs'] at hget
                split at hp
                · rename_i e2
                  subst e2
                  simp only [Option.some.injEq] at hp
                  subst hp
                  by_cases hin : j ≤ m ∧ m < j + i.size
                  · rw [if_pos (by omega)] at hget
                    have hov : (over r j z.cells)[m]? = z.cells[m - j]? := by
                      simp only [over]
                      rw [List.append_assoc, List.getElem?_append_right (by simp; omega)]
                      simp only [List.length_take, Nat.min_eq_left (show j ≤ r.length by omega)]
                      rw [List.getElem?_append_left (by omega)]
                    rw [hov] at hu
                    have hml : m - j < yv.cells.toList.length := by omega
                    have hxe : yv.cells.toList[m - j]? = some yv.cells.toList[m - j] := List.getElem?_eq_getElem hml
                    obtain ⟨c1, c2⟩ := hcr.2 _ _ _ hu hxe
                    refine ⟨c1, _, ?_, up _ _ c2⟩
                    rw [hget, show o0 + (k * sz' + m) - (o0 + (k * sz' + j) + 0) = m - j from by omega, hxe]
                  · have hmlt : m < r.length := by
                      have := (List.getElem?_eq_some_iff.1 hu).1
                      simp only [over, List.length_append, List.length_take, List.length_drop] at this
                      omega
                    rw [if_neg (by omega)] at hget
                    have hov : (over r j z.cells)[m]? = r[m]? := by
                      simp only [over]
                      by_cases hmj : m < j
                      · rw [List.append_assoc, List.getElem?_append_left (by simp; omega), List.getElem?_take, if_pos hmj]
                      · rw [List.getElem?_append_right (by simp; omega), List.getElem?_drop]
                        congr 1
                        simp only [List.length_append, List.length_take]
                        omega
                    rw [hov] at hu
                    obtain ⟨c1, y, c2, c3⟩ := hvs _ _ _ _ hlr hu
                    exact ⟨c1, y, by rw [hget]; exact c2, up _ _ c3⟩
                · rename_i e2
                  have hml : m < sz' := by rw [← hws p q hp]; exact (List.getElem?_eq_some_iff.1 hu).1
                  rw [if_neg (by
                    rcases Nat.lt_or_gt_of_ne e2 with h' | h'
                    · have : (k + 1) * sz' ≤ p * sz' := Nat.mul_le_mul_right _ h'
                      rw [Nat.add_mul] at this
                      omega
                    · have : (p + 1) * sz' ≤ k * sz' := Nat.mul_le_mul_right _ h'
                      rw [Nat.add_mul] at this
                      omega)] at hget
                  obtain ⟨c1, y, c2, c3⟩ := hvs _ _ _ _ hp hu
                  exact ⟨c1, y, by rw [hget]; exact c2, up _ _ c3⟩
            · rename_i e1
              obtain ⟨b2, o2, h5, h6⟩ := g.blk jd bl hj
              refine ⟨b2, o2, h5, h6.write hb hsize hZ (fun _ _ e => e) ?_⟩
              exact fun q => g.inj jd id _ _ _ _ _ _ hj hg h5 hρ e1 q
          · have f : ∀ p a', hget (hset H id (.rows sz' (l.set k (over r j z.cells)))) p = some a' → ∃ a'', hget H p = some a'' := by
              intro p a' hp
              rw [hget_hset] at hp
              split at hp
              · rename_i e1; exact ⟨_, by rw [e1]; exact hg⟩
              · exact ⟨_, hp⟩
            obtain ⟨a1, ha1⟩ := f p a' e1
            obtain ⟨a2, ha2⟩ := f q b' e2
            exact g.inj p q _ _ _ _ _ _ ha1 ha2 e3 e4 hne
          · obtain ⟨h1, m, h2⟩ := g.ty j q o hj
            refine ⟨h1, m, ?_⟩
            unfold Go.Proofs.Ytlmplofpclaokaa.hty at *
            simp only [getset _ _ _ _ hlt]
            by_cases e1 : q = b
            · subst e1
              rw [if_pos rfl]
              rw [hb] at h2
              simpa [hsize] using h2
            · rw [if_neg e1]
              exact h2
        · refine ⟨by simp, fun q hq hO => ?_, fun q m hm => ?_, fun _ q => q, fun _ q => .inl q, fun _ _ q => q, fun q hq => .inl hq.set, rfl, rfl, rfl⟩
          · simp only [getset _ _ _ _ hlt]
            rw [if_neg (fun e1 => hO (by rw [e1]; exact hown))]
          · unfold Go.Proofs.Ytlmplofpclaokaa.hty at *
            simp only [getset _ _ _ _ hlt]
            by_cases e1 : q = b
            · subst e1
              rw [if_pos rfl]
              rw [hb] at hm
              simpa [hsize] using hm
            · rw [if_neg e1]
              exact hm
  | _ => simp at h3

end
end Go.Proofs.Ytlmplofpclaokaa
