/- Each operation of the model does what the abstract operation says. -/
import Derived.Test.YtlmplofpclaokaaSimBase
namespace Go.Proofs.Ytlmplofpclaokaa
set_option autoImplicit false
set_option linter.unusedSimpArgs false
set_option linter.unusedVariables false

def upd (ρ : Loc) (id : Nat) (p : Nat × Nat) : Loc := fun j => if j = id then some p else ρ j

/-- What an operation must come to, if the abstract one comes to 'rs'. -/
def OpOut (P : Program) (w : World) (ρ : Loc) (Z : Nat → Prop) (H : AH) (rs : Rs) (r : Result Next) : Prop :=
  match rs with
  | .val v => ∃ x w' Z', r = .ok (.value x) w' ∧ Good w'.heap ρ Z' H ∧ Rl w'.heap ρ Z' v x ∧ Ext w ρ Z (Own ρ H) w' ρ Z' (Own ρ H)
  | .valH v H' => ∃ x w' Z', r = .ok (.value x) w' ∧ Good w'.heap ρ Z' H' ∧ Rl w'.heap ρ Z' v x ∧ Ext w ρ Z (Own ρ H) w' ρ Z' (Own ρ H')
  | .upd H' => ∃ w', r = .ok .skip w' ∧ Good w'.heap ρ Z H' ∧ Ext w ρ Z (Own ρ H) w' ρ Z (Own ρ H')
  | .fresh T blk vf H' => ∀ id, ρ id = none → tag id = T → ∃ x w' ρ', r = .ok (.value x) w' ∧ (∀ j, j ≠ id → ρ' j = ρ j) ∧ Good w'.heap ρ' Z ((id, blk) :: H') ∧
      Rl w'.heap ρ' Z (vf id) x ∧ Ext w ρ Z (Own ρ H) w' ρ' Z (Own ρ' ((id, blk) :: H'))
  | .call f args => callable P f = true → ∃ xs, r = .ok (.enter f xs.toArray) w ∧ RlL w.heap ρ Z args xs

section
variable {P : Program} {w : World} {ρ : Loc} {Z : Nat → Prop} {H : AH} {s : Fr} {a : Act}

theorem OpOut.pure {v : AV} {x : Value} {r : Result Next} (g : Good w.heap ρ Z H) (hr : r = .ok (.value x) w) (hv : Rl w.heap ρ Z v x) : OpOut P w ρ Z H (.val v) r :=
  ⟨x, w, Z, hr, g, hv, Ext.refl _ _ _ _⟩

/-! ### A new block -/
theorem hcell_push (h : Array Obj) (o : Obj) (b k : Nat) (hb : b < h.size) : hcell (h.push o) b k = hcell h b k := by
  unfold hcell
  rw [Array.getElem?_push, if_neg (by omega)]
theorem hty_push (h : Array Obj) (o : Obj) (b : Nat) (t : Nat × TypeId) (hb : hty h b = some t) : hty (h.push o) b = some t := by
  unfold hty at *
  have : b < h.size := by
    cases hx : h[b]? with
    | none => simp [hx] at hb
    | some x => exact (Array.getElem?_eq_some_iff.1 hx).1
  rw [Array.getElem?_push, if_neg (by omega)]
  exact hb

theorem hcell_lt {h : Array Obj} {b k : Nat} {u : Value} (hb : hcell h b k = some u) : b < h.size := by
  unfold hcell at hb
  cases hx : h[b]? with
  | none => simp [hx] at hb
  | some x => exact (Array.getElem?_eq_some_iff.1 hx).1

theorem Rl.push {h : Array Obj} {v : AV} {x : Value} (hr : Rl h ρ Z v x) (o : Obj) {ρ' : Loc} {Z' : Nat → Prop} (hρ : ∀ id p, ρ id = some p → ρ' id = some p) (hZ : ∀ b, Z b → Z' b) : Rl (h.push o) ρ' Z' v x :=
  hr.mono hρ hZ (fun b k u _ hu => by rw [hcell_push h o b k (hcell_lt hu)]; exact hu) (fun b m hm => hty_push h o b m hm)

theorem upd_mono {id : Nat} {p : Nat × Nat} (hid : ρ id = none) : ∀ j q, ρ j = some q → upd ρ id p j = some q := by
  intro j q hj
  unfold upd
  split
  · rename_i e; subst e; rw [hid] at hj; cases hj
  · exact hj

theorem Own.upd {id : Nat} {blk : Blk} {p : Nat × Nat} {H' : AH} (hs : Sub H' H) (hid : ρ id = none) (g : Good w.heap ρ Z H) {b : Nat} (ho : Own (upd ρ id p) ((id, blk) :: H') b) :
    Own ρ H b ∨ b = p.1 := by
  obtain ⟨j, bl, o, h1, h2⟩ := ho
  simp only [hget] at h1
  unfold Go.Proofs.Ytlmplofpclaokaa.upd at h2
  split at h1
  · rename_i e
    subst e
    rw [if_pos rfl] at h2
    simp only [Option.some.injEq] at h2
    right
    rw [h2]
  · rename_i e
    rw [if_neg e] at h2
    exact .inl ⟨j, bl, o, hs _ _ h1, h2⟩

/-- A new owned block. 'w1': the world in which it is made. -/
theorem fresh_out {w1 : World} {x : Value} {r : Result Next} {sz : Nat} {l : List (List AV)} {cs : Array Value} {e : TypeId} {vf : Nat → AV} {H' : AH} (g : Good w.heap ρ Z H) (hw1 : w1.heap = w.heap) (ho : w1.os = w.os) (hu : w1.output = w.output) (ht : w1.tape = w.tape)
    (hr : r = .ok (.value x) (w1.alloc (.cells cs e))) (hs : Sub H' H) (hsz : l.length * sz ≤ cs.size) (hl : ∀ (i : Nat) r, l[i]? = some r → r.length = sz)
    (hv : ∀ (i : Nat) r (j : Nat) v, l[i]? = some r → r[j]? = some v → v.isCell = true ∧ ∃ y, cs[i * sz + j]? = some y ∧ Rl w.heap ρ Z v y)
    (hx : ∀ id h' ρ', ρ' id = some (w.heap.size, 0) → hsize h' w.heap.size = some cs.size → Rl h' ρ' Z (vf id) x) : OpOut P w ρ Z H (.fresh e (.rows sz l) vf H') r := by
  intro id hid htag
  have hheap : (w1.alloc (.cells cs e)).heap = w.heap.push (.cells cs e) := by
    show w1.heap.push _ = _
    rw [hw1]
  have hup := upd_mono (ρ := ρ) (p := (w.heap.size, 0)) hid
  have hrl : ∀ v y, Rl w.heap ρ Z v y → Rl (w.heap.push (.cells cs e)) (upd ρ id (w.heap.size, 0)) Z v y := fun v y q => q.push _ hup (fun _ h => h)
  refine ⟨x, _, upd ρ id (w.heap.size, 0), hr, fun j hj => by simp [upd, hj], ?_, ?_, ?_⟩
  · rw [hheap]
    refine ⟨fun j blk hj => ?_, fun i j a b p q o o' h1 h2 h3 h4 hne => ?_, fun b hb hz => ?_, fun b hz => ?_, ?_, fun j b o hj => ?_⟩
    · simp only [hget] at hj
      split at hj
      · rename_i e1
        subst e1
        simp only [Option.some.injEq] at hj
        subst hj
        refine ⟨w.heap.size, 0, by simp [upd], cs, e, by simp, by omega, hl, fun i r j v a b => ?_⟩
        obtain ⟨c, y, d, f⟩ := hv i r j v a b
        exact ⟨c, y, by simpa using d, hrl _ _ f⟩
      · rename_i e1
        obtain ⟨b, o, h1, h2⟩ := g.blk j blk (hs _ _ hj)
        refine ⟨b, o, hup _ _ h1, h2.mono ?_ hrl⟩
        rw [Array.getElem?_push, if_neg (by have := h2.lt; omega)]
    · simp only [hget] at h1 h2
      unfold upd at h3 h4
      split at h1 <;> split at h2
      · rename_i e1 e2; exact absurd (e1.trans e2.symm) hne
      · rename_i e1 e2
        rw [if_pos e1] at h3
        rw [if_neg e2] at h4
        simp only [Option.some.injEq, Prod.mk.injEq] at h3
        have := g.own_lt (b := q) ⟨j, b, o', hs _ _ h2, h4⟩
        omega
      · rename_i e1 e2
        rw [if_neg e1] at h3
        rw [if_pos e2] at h4
        simp only [Option.some.injEq, Prod.mk.injEq] at h4
        have := g.own_lt (b := p) ⟨i, a, o, hs _ _ h1, h3⟩
        omega
      · rename_i e1 e2
        rw [if_neg e1] at h3
        rw [if_neg e2] at h4
        exact g.inj i j a b p q o o' (hs _ _ h1) (hs _ _ h2) h3 h4 hne
    · rcases hb.upd hs hid g with hb | hb
      · exact g.notZ b hb hz
      · have := g.zlt b hz
        simp at hb
        omega
    · have := g.zlt b hz
      simp
      omega
    · obtain ⟨N, hN⟩ := g.ids
      refine ⟨max N (id + 1), fun j hj => ?_⟩
      unfold upd
      rw [if_neg (by omega)]
      exact hN j (by omega)
    · unfold upd at hj
      split at hj
      · rename_i e1
        subst e1
        simp only [Option.some.injEq, Prod.mk.injEq] at hj
        obtain ⟨rfl, rfl⟩ := hj
        exact ⟨rfl, cs.size, by unfold hty; simp [htag]⟩
      · obtain ⟨h1, m, h2⟩ := g.ty j b o hj
        exact ⟨h1, m, hty_push _ _ _ _ h2⟩
  · refine hx id _ _ (by simp [upd]) ?_
    rw [hheap]
    simp [hsize]
  · refine ⟨by rw [hheap]; simp, fun b hb _ => ?_, fun b m hm => by rw [hheap]; exact hty_push _ _ _ _ hm, fun _ h => h, fun _ h => .inl h, hup, fun b hb => ?_, ho, hu, ht⟩
    · rw [hheap, Array.getElem?_push, if_neg (by omega)]
    · rcases hb.upd hs hid g with hb | hb
      · exact .inl hb
      · exact .inr (by simp at hb; omega)

/-- A new block that nobody will write. -/
theorem lit_out {x : Value} {r : Result Next} {v : AV} {cs : Array Value} {e : TypeId} (g : Good w.heap ρ Z H)
    (hr : r = .ok (.value x) (w.alloc (.cells cs e)))
    (hx : Rl (w.heap.push (.cells cs e)) ρ (fun b => Z b ∨ b = w.heap.size) v x) : OpOut P w ρ Z H (.val v) r := by
  have hheap : (w.alloc (.cells cs e)).heap = w.heap.push (.cells cs e) := rfl
  have hrl : ∀ v y, Rl w.heap ρ Z v y → Rl (w.heap.push (.cells cs e)) ρ (fun b => Z b ∨ b = w.heap.size) v y := fun v y q => q.push _ (fun _ _ h => h) (fun _ h => .inl h)
  refine ⟨x, _, fun b => Z b ∨ b = w.heap.size, hr, ?_, by rw [hheap]; exact hx, ?_⟩
  · rw [hheap]
    refine ⟨fun j blk hj => ?_, g.inj, fun b hb hz => ?_, fun b hz => ?_, g.ids, fun j b o hj => let ⟨h1, m, h2⟩ := g.ty j b o hj; ⟨h1, m, hty_push _ _ _ _ h2⟩⟩
    · obtain ⟨b, o, h1, h2⟩ := g.blk j blk hj
      refine ⟨b, o, h1, h2.mono ?_ hrl⟩
      rw [Array.getElem?_push, if_neg (by have := h2.lt; omega)]
    · rcases hz with hz | hz
      · exact g.notZ b hb hz
      · have := g.own_lt hb; omega
    · rcases hz with hz | hz
      · have := g.zlt b hz; simp; omega
      · simp; omega
  · refine ⟨by rw [hheap]; simp, fun b hb _ => ?_, fun b m hm => by rw [hheap]; exact hty_push _ _ _ _ hm, fun _ h => .inl h, fun b h => ?_, fun _ _ h => h, fun _ h => .inl h, rfl, rfl, rfl⟩
    · rw [hheap, Array.getElem?_push, if_neg (by omega)]
    · rcases h with h | h
      · exact .inl h
      · exact .inr (.inr (by omega))

/-! ### Stores -/
def ovArr (cs : Array Value) (o : Nat) : List Value → Array Value
  | [] => cs
  | x :: xs => ovArr (cs.setIfInBounds o x) (o + 1) xs

theorem size_ovArr : ∀ (xs : List Value) (cs : Array Value) (o : Nat), (ovArr cs o xs).size = cs.size
  | [], cs, o => rfl
  | x :: xs, cs, o => by simp [ovArr, size_ovArr xs]

theorem get_ovArr : ∀ (xs : List Value) (cs : Array Value) (o k : Nat), o + xs.length ≤ cs.size →
    (ovArr cs o xs)[k]? = if o ≤ k ∧ k < o + xs.length then xs[k - o]? else cs[k]?
  | [], cs, o, k, _ => by simp only [ovArr, List.length_nil]; rw [if_neg (by omega)]
  | x :: xs, cs, o, k, hl => by
    simp only [List.length_cons] at hl ⊢
    rw [ovArr, get_ovArr xs _ _ _ (by simp; omega), Array.getElem?_setIfInBounds]
    by_cases h1 : o + 1 ≤ k ∧ k < o + 1 + xs.length
    · rw [if_pos h1, if_pos (by omega)]
      rw [show k - o = (k - (o + 1)) + 1 from by omega]
      simp
    · rw [if_neg h1]
      by_cases h2 : o = k
      · subst h2
        rw [if_pos (by omega), if_pos (by omega)]
        simp
      · rw [if_neg h2, if_neg (by omega)]

theorem addr_add (b o n : Nat) : (⟨b, o, none⟩ : Addr).add n = ⟨b, o + n, none⟩ := Addr.add_lit b o n

theorem run_storeCells' (b o : Nat) (e : TypeId) : ∀ (xs : List Value) (i : Nat) (cs : Array Value) (w : World), w.heap[b]? = some (.cells cs e (0, 0)) →
    o + i + xs.length ≤ cs.size → (∀ x ∈ xs, x.oneCell' = true) →
    (storeCells ⟨b, o, none⟩ xs i).run P w = .ok () { w with heap := w.heap.setIfInBounds b (.cells (ovArr cs (o + i) xs) e (0, 0)) }
  | [], i, cs, w, hb, hl, hx => by
    simp only [storeCells, ovArr, Sem.run_pure]
    congr 1
    have : w.heap.setIfInBounds b (.cells cs e (0, 0)) = w.heap := by
      apply Array.ext_getElem?
      intro k
      rw [Array.getElem?_setIfInBounds]
      split
      · rename_i e1; subst e1; split
        · exact hb.symm
        · rename_i h2; rw [Array.getElem?_eq_none (by omega)]
      · rfl
    rw [this]
  | x :: xs, i, cs, w, hb, hl, hx => by
    simp only [List.length_cons] at hl
    have hc : w.cell? ⟨b, o + i, none⟩ = some cs[o + i] := by
      rw [cell?_heap]; unfold hcell; rw [hb]; simp only [Array.getElem?_eq_getElem (show o + i < cs.size by omega)]
    have hf : w.frozen? ⟨b, o + i, none⟩ = false := by
      unfold World.frozen?; simp only [hb]; simp
    have hset : w.setCell ⟨b, o + i, none⟩ x = { w with heap := w.heap.setIfInBounds b (.cells (cs.setIfInBounds (o + i) x) e (0, 0)) } := by
      unfold World.setCell
      congr 1
      apply Array.ext_getElem?
      intro k
      rw [Array.getElem?_modify, Array.getElem?_setIfInBounds]
      by_cases hk : b = k
      · subst hk
        rw [if_pos rfl, if_pos rfl, hb, if_pos (Array.getElem?_eq_some_iff.1 hb).1]
        rfl
      · rw [if_neg hk, if_neg hk]
    have hb' : ({ w with heap := w.heap.setIfInBounds b (.cells (cs.setIfInBounds (o + i) x) e (0, 0)) } : World).heap[b]? = some (.cells (cs.setIfInBounds (o + i) x) e (0, 0)) := by
      simp only [Array.getElem?_setIfInBounds]
      rw [if_pos trivial, if_pos (Array.getElem?_eq_some_iff.1 hb).1]
    have ih := run_storeCells' b o e xs (i + 1) _ _ hb' (by simp; omega) (fun y hy => hx y (List.mem_cons_of_mem _ hy))
    simp only [storeCells, Sem.run_bind, addr_add]
    rw [run_store P w _ x _ (hx x List.mem_cons_self), hc]
    simp only [hf, Bool.false_eq_true, if_false, Result.andThen_ok]
    rw [hset, ih]
    simp only [ovArr, ← Nat.add_assoc, Array.setIfInBounds_setIfInBounds]

end
end Go.Proofs.Ytlmplofpclaokaa
