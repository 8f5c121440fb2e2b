/- What a law's arguments are: from the reading of the form to abstract values. -/
import Derived.Test.YtlmplofpclaokaaSimSound
import Derived.ChangeArms
import Derived.OpenShut
import Derived.SizedLaws
import Derived.DataReads
namespace Go.Proofs.Ytlmplofpclaokaa
set_option autoImplicit false
set_option linter.unusedSimpArgs false
set_option linter.unusedVariables false

/-- The shape of a type: what its cells are. 'u' and 'p': the parts of a struct or an array, one behind the other. -/
inductive Sh where
  | int (k : IntKind)
  | bool
  | str
  | u
  | p (a b : Sh)
  | slice (sz bytes : Nat) (e : Sh)
  | ptr (e : Sh)

def Sh.rep : Nat → Sh → Sh
  | 0, _ => .u
  | n + 1, a => .p a (Sh.rep n a)

def Sh.Ok : Sh → List AV → Prop
  | .int k, vs => ∃ n, vs = [.int k n] ∧ (Lit.int k n).wf = true
  | .bool, vs => ∃ b, vs = [.bool b]
  | .str, vs => ∃ l : List UInt8, vs = [.str l] ∧ l.length ≤ 140737488351232
  | .u, vs => vs = []
  | .p a b, vs => ∃ x y, vs = x ++ y ∧ a.Ok x ∧ b.Ok y
  | .slice sz bytes e, vs => vs = [.nilS] ∨ ∃ l, vs = [.rows sz l] ∧ l.length * bytes ≤ 140737488351232 ∧ ∀ r ∈ l, e.Ok r
  | .ptr e, vs => vs = [.nilP] ∨ ∃ r, vs = [.fp r] ∧ e.Ok r

def fieldsSh (P : Program) (sh : TypeId → Option Sh) (tot : Nat) : Nat → List Field → Option Sh
  | o, [] => if o = tot then some .u else none
  | o, f :: r => if f.offset = o then (sh f.type).bind fun a => (fieldsSh P sh tot (o + P.cellsOf f.type) r).map (.p a) else none

def shOf (P : Program) : Nat → TypeId → Option Sh
  | 0, _ => none
  | n + 1, t => match P.underlying t with
    | some .bool => some .bool
    | some (.int k) => some (.int k)
    | some .string => some .str
    | some (.struct fs) => fieldsSh P (shOf P n) (P.cellsOf t) 0 fs.toList
    | some (.array m e) => if P.cellsOf t = m * P.cellsOf e then (shOf P n e).map (Sh.rep m) else none
    | some (.slice e) => if 0 < P.cellsOf e then (shOf P n e).map (.slice (P.cellsOf e) (P.bytesOf e)) else none
    | some (.pointer e) => if 0 < P.cellsOf e then (shOf P n e).map .ptr else none
    | _ => none

section
variable {h : Array Obj}

/-- Cells and their values. -/
def PartR (h : Array Obj) (vs : List AV) (cs : List Value) : Prop :=
  vs.length = cs.length ∧ ∀ (i : Nat) v c, vs[i]? = some v → cs[i]? = some c → v.isCell = true ∧ Rl h (fun _ => none) (fun b => b < h.size) v c

theorem PartR.nil : PartR h [] [] := ⟨rfl, by simp⟩
theorem PartR.one {v : AV} {c : Value} (hv : v.isCell = true) (hr : Rl h (fun _ => none) (fun b => b < h.size) v c) : PartR h [v] [c] :=
  ⟨rfl, fun i v' c' h1 h2 => by cases i <;> simp at h1 h2; subst h1; subst h2; exact ⟨hv, hr⟩⟩
theorem PartR.append {a b : List AV} {x y : List Value} (h1 : PartR h a x) (h2 : PartR h b y) : PartR h (a ++ b) (x ++ y) := by
  refine ⟨by simp [h1.1, h2.1], fun i v c q1 q2 => ?_⟩
  rw [List.getElem?_append] at q1 q2
  rw [h1.1] at q1
  split at q1 <;> rename_i hlt
  · rw [if_pos hlt] at q2; exact h1.2 i v c q1 q2
  · rw [if_neg hlt] at q2; exact h2.2 _ v c q1 q2
end

theorem exists_list {α : Type} {Q : Nat → α → Prop} : ∀ (n : Nat), (∀ i, i < n → ∃ r, Q i r) → ∃ l : List α, l.length = n ∧ ∀ (i : Nat) r, l[i]? = some r → Q i r
  | 0, _ => ⟨[], rfl, by simp⟩
  | n + 1, hq => by
    obtain ⟨l, h1, h2⟩ := exists_list n (fun i hi => hq i (by omega))
    obtain ⟨r, hr⟩ := hq n (by omega)
    refine ⟨l ++ [r], by simp [h1], fun i q hi => ?_⟩
    rw [List.getElem?_append] at hi
    split at hi
    · exact h2 i q hi
    · rename_i hlt
      have hl := (List.getElem?_eq_some_iff.1 hi).1
      simp at hl
      have : i = n := by omega
      subst this
      rw [h1] at hi
      simp at hi
      rw [← hi]; exact hr

section
variable {H : Type} {enc : TypeId × Value → H} {P : Program} {w : World} {sp : Nat → Bool}

abbrev Rd (P : Program) (w : World) (enc : TypeId × Value → H) (sp : Nat → Bool) (m : Nat) (s : TypeId → Option Sh) : Prop :=
  ∀ t cs x sh, s t = some sh → DataW.trod enc P w 0 sp true m t cs = some x → (∀ n ∈ x.1.weights P t, n ≤ reachBytes) → ∃ vs, sh.Ok vs ∧ PartR w.heap vs cs

theorem fields_read {m : Nat} {s : TypeId → Option Sh} (ih : Rd P w enc sp m s) {cs : List Value} {tot : Nat} (hcs : cs.length = tot) : ∀ (fs : List Field) (o : Nat) (xs : List (DataW H × List MemPlace)) (sh : Sh), fieldsSh P s tot o fs = some sh → xs.length = fs.length →
    (∀ (i : Nat) f, fs[i]? = some f → DataW.trod enc P w 0 sp true m f.type ((cs.drop f.offset).take (P.cellsOf f.type)) = xs[i]?) →
    (∀ n ∈ DataW.weightsEach P (fs.map (·.type)) (xs.map (·.1)), n ≤ reachBytes) → ∃ vs, sh.Ok vs ∧ PartR w.heap vs (cs.drop o)
  | [], o, xs, sh, hs, hl, _, _ => by
    simp only [fieldsSh] at hs
    split at hs <;> simp only [Option.some.injEq, reduceCtorEq] at hs
    rename_i e
    subst hs
    refine ⟨[], rfl, ?_⟩
    rw [List.drop_eq_nil_of_le (by omega)]
    exact .nil
  | f :: fs, o, xs, sh, hs, hl, hf, hw => by
    simp only [fieldsSh] at hs
    split at hs
    rotate_left
    · cases hs
    rename_i e
    simp only [Option.bind_eq_some_iff, Option.map_eq_some_iff] at hs
    obtain ⟨a, ha, b, hb, rfl⟩ := hs
    cases xs with
    | nil => simp at hl
    | cons x xs =>
      simp only [List.map_cons, DataW.weightsEach, List.mem_append] at hw
      have h0 := hf 0 f rfl
      rw [e] at h0
      simp only [List.getElem?_cons_zero] at h0
      obtain ⟨va, ok1, r1⟩ := ih _ _ _ _ ha h0 (fun n hn => hw n (.inl hn))
      obtain ⟨vb, ok2, r2⟩ := fields_read ih hcs fs _ xs b hb (by simpa using hl) (fun i g hg => by have := hf (i + 1) g (by simpa using hg); simpa using this) (fun n hn => hw n (.inr hn))
      refine ⟨va ++ vb, ⟨va, vb, rfl, ok1, ok2⟩, ?_⟩
      have := r1.append r2
      rw [show o + P.cellsOf f.type = o + P.cellsOf f.type from rfl, ← List.drop_drop, List.take_append_drop] at this
      exact this

theorem arr_read {m : Nat} {s : TypeId → Option Sh} (ih : Rd P w enc sp m s) {cs : List Value} {e : TypeId} {a : Sh} (ha : s e = some a) : ∀ (n j : Nat) (xs : List (DataW H × List MemPlace)), cs.length = (j + n) * P.cellsOf e → xs.length = n →
    (∀ i, i < n → DataW.trod enc P w 0 sp true m e ((cs.drop ((j + i) * P.cellsOf e)).take (P.cellsOf e)) = xs[i]?) →
    (∀ q ∈ DataW.weightsAll P e (xs.map (·.1)), q ≤ reachBytes) → ∃ vs, (Sh.rep n a).Ok vs ∧ PartR w.heap vs (cs.drop (j * P.cellsOf e))
  | 0, j, xs, hcs, hl, _, _ => by
    refine ⟨[], rfl, ?_⟩
    rw [List.drop_eq_nil_of_le (by rw [hcs]; simp)]
    exact .nil
  | n + 1, j, xs, hcs, hl, hf, hw => by
    cases xs with
    | nil => simp at hl
    | cons x xs =>
      simp only [List.map_cons, DataW.weightsAll, List.mem_append] at hw
      have h0 := hf 0 (by omega)
      simp only [Nat.add_zero, List.getElem?_cons_zero] at h0
      obtain ⟨va, ok1, r1⟩ := ih _ _ _ _ ha h0 (fun n hn => hw n (.inl hn))
      obtain ⟨vb, ok2, r2⟩ := arr_read ih ha n (j + 1) xs (by rw [hcs]; congr 1; omega) (by simpa using hl)
        (fun i hi => by have := hf (i + 1) (by omega); rw [show j + 1 + i = j + (i + 1) from by omega]; simpa using this) (fun n hn => hw n (.inr hn))
      refine ⟨va ++ vb, ⟨va, vb, rfl, ok1, ok2⟩, ?_⟩
      have := r1.append r2
      rw [Nat.add_mul, Nat.one_mul, ← List.drop_drop, List.take_append_drop] at this
      exact this

theorem weights_all_mem {e : TypeId} : ∀ {l : List (DataW H)} {d : DataW H}, d ∈ l → ∀ n ∈ d.weights P e, n ∈ DataW.weightsAll P e l
  | [], _, h, _, _ => by cases h
  | x :: l, d, h, n, hn => by
    simp only [DataW.weightsAll, List.mem_append]
    rcases List.mem_cons.1 h with h | h
    · subst h; exact .inl hn
    · exact .inr (weights_all_mem h n hn)

theorem read : ∀ (m n : Nat), Rd P w enc sp m (shOf P n)
  | 0, _, t, cs, x, sh, _, h, _ => by simp [DataW.trod] at h
  | _ + 1, 0, t, cs, x, sh, hs, _, _ => by simp [shOf] at hs
  | m + 1, n + 1, t, cs, x, sh, hs, h, hw => by
    have ih := read m n
    simp only [shOf] at hs
    split at hs <;> rename_i hu
    · simp only [Option.some.injEq] at hs; subst hs
      obtain ⟨b, rfl⟩ : ∃ b, cs = [.bool b] := by
        unfold DataW.trod at h; rw [hu] at h
        split at h <;> simp_all
      exact ⟨_, ⟨_, rfl⟩, .one rfl (.bool _)⟩
    · rename_i k
      simp only [Option.some.injEq] at hs; subst hs
      obtain ⟨n, rfl, hwf⟩ : ∃ n, cs = [.int k n] ∧ (Lit.int k n).wf = true := by
        unfold DataW.trod at h; rw [hu] at h
        split at h <;> simp_all
      exact ⟨_, ⟨_, rfl, hwf⟩, .one rfl (.int _ _)⟩
    · simp only [Option.some.injEq] at hs; subst hs
      obtain ⟨b, rfl, rfl⟩ : ∃ b, cs = [.string b] ∧ x = (.lit (.string b.data.toList), []) := by
        unfold DataW.trod at h; rw [hu] at h
        split at h <;> simp_all
      have := hw b.data.toList.length (by simp [DataW.weights])
      exact ⟨_, ⟨b.data.toList, rfl, this⟩, .one rfl (.str _ _ rfl)⟩
    · rename_i fs
      obtain ⟨xs, m', e, rfl, hl, hlen, hf⟩ := DataW.trod_struct hu h
      simp only [Nat.add_right_cancel_iff] at e
      subst e
      have := fields_read ih hl fs.toList 0 xs sh hs (by simpa using hlen) (fun i f hi => hf i f (by simpa using hi)) (fun q hq => hw q (by simpa [DataW.weights, hu] using hq))
      simpa using this
    · rename_i k e
      split at hs
      rotate_left
      · cases hs
      rename_i hc
      simp only [Option.map_eq_some_iff] at hs
      obtain ⟨a, ha, rfl⟩ := hs
      obtain ⟨xs, m', e1, rfl, hl, hlen, hf⟩ := DataW.trod_array hu h
      simp only [Nat.add_right_cancel_iff] at e1
      subst e1
      have := arr_read ih ha k 0 xs (by rw [hl, hc]; simp) hlen (fun i hi => by simpa using hf i hi) (fun q hq => hw q (by simpa [DataW.weights, hu] using hq))
      simpa using this
    · rename_i e
      split at hs
      rotate_left
      · cases hs
      rename_i hpos
      simp only [Option.map_eq_some_iff] at hs
      obtain ⟨a, ha, rfl⟩ := hs
      rcases DataW.trod_slice hu h with ⟨rfl, rfl⟩ | ⟨ad, len, cap, elems, rest, m', e1, rfl, rfl, _, hl, _, hlen, hel, _⟩
      · exact ⟨_, .inl rfl, .one rfl .nilS⟩
      · simp only [Nat.add_right_cancel_iff] at e1
        subst e1
        simp only [DataW.weights, hu, List.mem_cons, List.mem_append] at hw
        have hbytes := hw _ (.inl rfl)
        obtain ⟨l, hll, hq⟩ := exists_list (Q := fun i r => a.Ok r ∧ ∃ ci, w.cells? 0 (ad.add (i * P.cellsOf e)) (P.cellsOf e) = some ci ∧ PartR w.heap r ci) len fun i hi => by
          have := hel i hi
          rw [List.getElem?_eq_getElem (by omega)] at this
          simp only [Option.bind_eq_some_iff] at this
          obtain ⟨ci, hc, hd⟩ := this
          obtain ⟨vs, ok, r⟩ := ih _ _ _ _ ha hd (fun q hqq => hw q (.inr (.inl (weights_all_mem (List.mem_map_of_mem (List.getElem_mem (by omega))) q hqq))))
          exact ⟨vs, ok, ci, hc, r⟩
        refine ⟨[.rows (P.cellsOf e) l], .inr ⟨l, rfl, ?_, ?_⟩, .one rfl ?_⟩
        · simp only [List.length_map] at hbytes
          rw [hll, ← hlen]
          exact Nat.le_trans (Nat.mul_le_mul_right _ (Nat.le_add_right _ _)) hbytes
        · intro r hr
          obtain ⟨i, hi⟩ := List.getElem?_of_mem hr
          exact (hq i r hi).1
        · by_cases h0 : len = 0
          · subst h0
            rw [List.eq_nil_of_length_eq_zero hll]
            exact .rowsE _ _ _
          · obtain ⟨r0, hr0⟩ : ∃ r0, l[0]? = some r0 := ⟨_, List.getElem?_eq_getElem (by omega)⟩
            obtain ⟨_, c0, hc0, _⟩ := hq 0 r0 hr0
            have hz := World.cells?_some hc0
            have hz0 := hz.2.2 0 hpos
            rw [List.getElem?_eq_getElem (by omega)] at hz0
            have ea : (ad.add (0 * P.cellsOf e)).add 0 = ad := by simp [Addr.add]
            rw [ea] at hz0
            obtain ⟨b, o, spt⟩ := ad
            have hsp : spt = none ∧ b < w.heap.size := by
              unfold World.cell? at hz0
              simp only at hz0
              cases hb : w.heap[b]? with
              | none => simp [hb] at hz0
              | some ob =>
                refine ⟨?_, (Array.getElem?_eq_some_iff.1 hb).1⟩
                cases ob with
                | cells c t f => rw [hb] at hz0; simp only at hz0; cases spt with | none => rfl | some z => simp at hz0
                | _ => simp [hb] at hz0
            obtain ⟨rfl, hbl⟩ := hsp
            have key : ∀ (i : Nat) r (j : Nat) v, l[i]? = some r → r[j]? = some v → v.isCell = true ∧ ∃ c, hcell w.heap b (o + (i * P.cellsOf e + j)) = some c ∧ Rl w.heap (fun _ => none) (fun b => b < w.heap.size) v c := by
              intro i r j v h1 h2
              obtain ⟨_, ci, hci, hpr⟩ := hq i r h1
              have hz := World.cells?_some hci
              have hj : j < ci.length := by rw [← hpr.1]; exact (List.getElem?_eq_some_iff.1 h2).1
              have h3 := hz.2.2 j (by omega)
              rw [List.getElem?_eq_getElem hj, addr_add, addr_add, cell?_heap] at h3
              obtain ⟨h4, h5⟩ := hpr.2 j v _ h2 (List.getElem?_eq_getElem hj)
              exact ⟨h4, _, by rw [← h3, Nat.add_assoc], h5⟩
            refine .rows _ l b o len cap (fun q => (hcell w.heap b (o + q)).getD undef) hll.symm hl (fun _ => hbl) (fun i r h1 => ?_) (fun i r j v h1 h2 => (key i r j v h1 h2).1) (fun i r j v h1 h2 => ?_) fun i r j v h1 h2 => ?_
            · obtain ⟨_, ci, hci, hpr⟩ := hq i r h1
              rw [hpr.1, (World.cells?_some hci).2.1]
            · obtain ⟨_, c, hc, _⟩ := key i r j v h1 h2
              rw [hc]; rfl
            · obtain ⟨_, c, hc, hr⟩ := key i r j v h1 h2
              rw [hc]; exact hr
    · rename_i e
      split at hs
      rotate_left
      · cases hs
      rename_i hpos
      simp only [Option.map_eq_some_iff] at hs
      obtain ⟨a, ha, rfl⟩ := hs
      have alt : cs = [.pointer none] ∨ ∃ ad ci y, cs = [.pointer (some ad)] ∧ w.cells? 0 ad (P.cellsOf e) = some ci ∧ DataW.trod enc P w 0 sp true m e ci = some y ∧ x.1 = .ptr y.1 := by
        unfold DataW.trod at h; rw [hu] at h
        split at h <;> simp_all
        simp only [Option.bind_eq_some_iff, Function.comp, Option.map_eq_some_iff] at h
        obtain ⟨ci, hc, ⟨y1, y2⟩, hy, hx⟩ := h
        exact ⟨ci, hc, y1, ⟨y2, hy⟩, by rw [← hx]⟩
      rcases alt with rfl | ⟨ad, ci, y, rfl, hc, hy, hx⟩
      · exact ⟨_, .inl rfl, .one rfl .nilP⟩
      · obtain ⟨vs, ok, hpr⟩ := ih _ _ _ _ ha hy (fun q hq => hw q (by rw [hx]; simpa [DataW.weights, hu] using hq))
        refine ⟨[.fp vs], .inr ⟨vs, rfl, ok⟩, .one rfl ?_⟩
        have hz := World.cells?_some hc
        have hz0 := hz.2.2 0 hpos
        rw [List.getElem?_eq_getElem (by omega)] at hz0
        have ea : ad.add 0 = ad := by simp [Addr.add]
        rw [ea] at hz0
        obtain ⟨b, o, spt⟩ := ad
        have hsp : spt = none ∧ b < w.heap.size := by
          unfold World.cell? at hz0
          simp only at hz0
          cases hb : w.heap[b]? with
          | none => simp [hb] at hz0
          | some ob =>
            refine ⟨?_, (Array.getElem?_eq_some_iff.1 hb).1⟩
            cases ob with
            | cells c t f => rw [hb] at hz0; simp only at hz0; cases spt with | none => rfl | some z => simp at hz0
            | _ => simp [hb] at hz0
        obtain ⟨rfl, hbl⟩ := hsp
        have key : ∀ (j : Nat) v, vs[j]? = some v → v.isCell = true ∧ ∃ c, hcell w.heap b (o + j) = some c ∧ Rl w.heap (fun _ => none) (fun b => b < w.heap.size) v c := by
          intro j v h2
          have hj : j < ci.length := by rw [← hpr.1]; exact (List.getElem?_eq_some_iff.1 h2).1
          have h3 := hz.2.2 j (by omega)
          rw [List.getElem?_eq_getElem hj, addr_add, cell?_heap] at h3
          obtain ⟨h4, h5⟩ := hpr.2 j v _ h2 (List.getElem?_eq_getElem hj)
          exact ⟨h4, _, h3, h5⟩
        refine .fp vs b o (fun q => (hcell w.heap b (o + q)).getD undef) (fun _ => hbl) (fun j v h2 => (key j v h2).1) (fun j v h2 => ?_) fun j v h2 => ?_
        · obtain ⟨_, c, hc, _⟩ := key j v h2
          rw [hc]; rfl
        · obtain ⟨_, c, hc, hr⟩ := key j v h2
          rw [hc]; exact hr
    · cases hs
end
end Go.Proofs.Ytlmplofpclaokaa
