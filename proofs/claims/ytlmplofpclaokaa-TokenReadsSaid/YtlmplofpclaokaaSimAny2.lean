/- One walk in the order of the text serves every order: the two phases. -/
import Derived.Test.YtlmplofpclaokaaSimAny
namespace Go.Proofs.Ytlmplofpclaokaa
set_option autoImplicit false
set_option linter.unusedSimpArgs false
set_option linter.unusedVariables false

section
variable {P : Program} {w : World} {ρ : Loc} {Z : Nat → Prop} {H : AH} {s : Fr} {a : Act} {B : Beg} {fl : List Nat}

theorem setIf_getD (listed : Array Bool) (i j : Nat) (hi : i < listed.size) : (listed.setIfInBounds i true).getD j false = (decide (j = i) || listed.getD j false) := by
  by_cases e : i = j
  · subst e; simp [hi]
  · have e' : j ≠ i := fun q => e q.symm
    rw [getD_set_ne false e]; simp [e']

theorem compOps_len {fl : List Nat} (ops : Array Oper) : ∀ l : List Oper, (compOps P fl ops l).length = l.length
  | [] => rfl
  | o :: l => by simp only [compOps, List.length_cons, compOps_len ops l]

theorem getD_tf {listed : Array Bool} {i : Nat} (hi : i < listed.size) : listed.getD i true = listed.getD i false := by simp [hi]

/-- Behind the first part there is one order alone. -/
theorem late_any {ops : Array Oper} {k : Nat} {K : Fr → AH → Prop} {Q : Exit → Act → World → Prop} (hok : drawOk ops (compOps P fl ops ops.toList) k = true) (hd : (compOps P fl ops ops.toList).all (dstOk B.N) = true)
    (hQ : ∀ a' w' ρ' Z' H' s', Inv B w' ρ' Z' H' s' a' → K s' H' → Q .normal a' w') :
    ∀ (fuel m : Nat) (listed : Array Bool) (w : World) (ρ : Loc) (Z : Nat → Prop) (H : AH) (s : Fr) (a : Act), k ≤ m → m ≤ ops.size → ops.size - m ≤ fuel → listed.size = ops.size → (∀ i, listed.getD i false = true ↔ i < m) →
      Inv B w ρ Z H s a → wpOps P ((compOps P fl ops ops.toList).drop m) K s H → wpAny P .any ops Q fuel listed a w := by
  obtain ⟨hback, hspec⟩ := drawOk_spec hok
  have hlen : (compOps P fl ops ops.toList).length = ops.size := by rw [compOps_len]; simp
  intro fuel
  induction fuel with
  | zero =>
    intro m listed w ρ Z H s a hk hm hf hls hl hi h
    have hm' : m = ops.size := by omega
    subst hm'
    refine ⟨?_, ?_⟩
    · cases hr : Region.ready .any ops listed with
      | nil => rfl
      | cons x xs =>
        have hx : x ∈ Region.ready .any ops listed := by rw [hr]; simp
        obtain ⟨h1, o, ho, _⟩ := mem_ready.1 hx
        have hlt := (Array.getElem?_eq_some_iff.1 ho).1
        rw [getD_tf (by omega), (hl x).2 hlt] at h1
        cases h1
    · rw [List.drop_of_length_le (by omega)] at h
      exact hQ _ _ _ _ _ _ hi h
  | succ fuel ih =>
    intro m listed w ρ Z H s a hk hm hf hls hl hi h
    refine ⟨fun hr => ?_, fun i hir => ?_⟩
    · rcases Nat.lt_or_ge m ops.size with hlt | hge
      · have : m ∈ Region.ready .any ops listed := by
          rw [mem_ready]
          refine ⟨by rw [getD_tf (by omega)]; cases hh : listed.getD m false with | false => rfl | true => exact absurd ((hl m).1 hh) (by omega), ops[m], Array.getElem?_eq_getElem hlt, fun e he hb => (hl _).2 ?_⟩
          unfold edgesBack at hback
          rw [List.all_eq_true] at hback
          have h1 := hback (ops[m], m) (by rw [List.mem_zipIdx_iff_getElem?]; simp [hlt])
          rw [List.all_eq_true] at h1
          have h2 := h1 e (by simpa using he)
          simpa [hb] using h2
        rw [hr] at this
        cases this
      · rw [List.drop_of_length_le (by omega)] at h
        exact hQ _ _ _ _ _ _ hi h
    · obtain ⟨h1, o, ho, hpre⟩ := mem_ready.1 hir
      have hlt := (Array.getElem?_eq_some_iff.1 ho).1
      rw [getD_tf (by omega)] at h1
      have him : ¬ i < m := fun q => by rw [(hl i).2 q] at h1; cases h1
      have hie : i = m := by
        rcases Nat.lt_or_ge m i with hmi | hmi
        · have hm2 : m < ops.size := by omega
          have hcm : (compOps P fl ops ops.toList)[m]? = some (compOper P fl ops ops[m]) := by rw [compOps_get]; simp [hm2]
          have hci : (compOps P fl ops ops.toList)[i]? = some (compOper P fl ops o) := by
            rw [compOps_get]
            have : ops.toList[i]? = some o := by simpa using ho
            rw [this]; rfl
          have hbit := (hspec m i _ _ hcm hci (by omega)).2.2 (by omega) hmi
          have := before_spec hback (fun j => listed.getD j false = true) (fun j oj hj hoj e he hb => by
            refine (hl _).2 ?_
            have hjm := (hl j).1 hj
            unfold edgesBack at hback
            rw [List.all_eq_true] at hback
            have h1 := hback (oj, j) (by rw [List.mem_zipIdx_iff_getElem?]; simpa using hoj)
            rw [List.all_eq_true] at h1
            have h2 := h1 e (by simpa using he)
            have h3 : e.on < j := by simpa [hb] using h2
            omega) i o ho hpre m hbit
          exact absurd ((hl m).1 this) (by omega)
        · omega
      subst hie
      have hci : (compOps P fl ops ops.toList)[i]? = some (compOper P fl ops o) := by
        rw [compOps_get]
        have : ops.toList[i]? = some o := by simpa using ho
        rw [this]; rfl
      have hdrop : (compOps P fl ops ops.toList).drop i = compOper P fl ops o :: (compOps P fl ops ops.toList).drop (i + 1) := by
        rw [List.drop_eq_getElem_cons (by omega)]
        congr 1
        have : (compOps P fl ops ops.toList)[i]? = some ((compOps P fl ops ops.toList)[i]'(by omega)) := List.getElem?_eq_getElem (by omega)
        rw [hci] at this
        simpa using this.symm
      rw [hdrop] at h
      have hdo : dstOk B.N (compOper P fl ops o) = true := (List.all_eq_true.1 hd) _ (List.mem_of_getElem? hci)
      have := oper_out (Q := Q) (next := wpAny P .any ops Q fuel (listed.setIfInBounds i true)) hi (dstOk_spec hdo) h fun a' w' ρ' Z' H' s' hi' hk' =>
        ih (i + 1) _ w' ρ' Z' H' s' a' (by omega) (by omega) (by omega) (by simpa using hls) (fun j => by
          rw [setIf_getD _ _ _ (by omega)]
          simp only [Bool.or_eq_true, decide_eq_true_eq, hl]
          omega) hi' hk'
      unfold wpOp
      rw [ho]
      simp only
      split
      · rename_i hw; rw [if_pos hw] at this; exact .inl this
      · rename_i hw; rw [if_neg hw] at this; exact this

/-- What holds while the first part is carried out. -/
structure Mid (B : Beg) (ops : Array Oper) (cs : List COp) (k : Nat) (s : Fr) (H0 H : AH) (idf : Nat → Nat) (es : List Ef) (S : List Nat) (listed : Array Bool) (w : World) (ρ : Loc) (Z : Nat → Prop) (HS : AH) (a : Act) : Prop where
  good : Good w.heap ρ Z HS
  ext : Ext B.w B.ρ B.Z B.O w ρ Z (Own ρ HS)
  size : a.tmps.size = B.N
  defers : a.defers = []
  hsub : Sub H0 HS
  hs : ∀ id b, hget HS id = some b → (∃ i x, i ∈ S ∧ es[i]? = some (Ef.nb x id b)) ∨ (∃ i b0, i ∈ S ∧ es[i]? = some (Ef.st id b0 b)) ∨ (hget H id = some b ∧ ∀ i b0 b1, i ∈ S → es[i]? ≠ some (Ef.st id b0 b1))
  hs2 : ∀ i x id b, i ∈ S → es[i]? = some (Ef.nb x id b) → hget HS id = some b
  hs3 : ∀ i b0 id b, i ∈ S → es[i]? = some (Ef.st id b0 b) → hget HS id = some b
  hs4 : ∀ id b, hget H id = some b → (∀ i b0 b1, i ∈ S → es[i]? ≠ some (Ef.st id b0 b1)) → hget HS id = some b
  free : ∀ i, i ∉ S → ρ (idf i) = none
  slots : ∀ i o e t v, i ∈ S → cs[i]? = some o → es[i]? = some e → o.dst = some t → e.val = some v → Rl w.heap ρ Z v (a.tmps.getD t undef)
  base : ∀ t v, s t = some v → (∀ i o, i ∈ S → cs[i]? = some o → o.dst ≠ some t) → Rl w.heap ρ Z v (a.tmps.getD t undef)
  closed : ∀ j o, j ∈ S → ops[j]? = some o → ∀ e ∈ o.after, Region.binds .any e = true → e.on ∈ S
  below : ∀ i ∈ S, i < k
  nodup : S.Nodup
  lst : ∀ i, listed.getD i false = true ↔ i ∈ S
  lsz : listed.size = ops.size

/-- What an effect does to what is owned. -/
def Chg (e : Ef) (HS HS' : AH) : Prop := ∀ id b, hget HS' id = some b ↔ (∃ x, e = .nb x id b) ∨ (∃ b0, e = .st id b0 b) ∨ (hget HS id = some b ∧ ∀ b0 b1, e ≠ .st id b0 b1)
theorem Mid.ext_step {ops : Array Oper} {cs : List COp} {k : Nat} {H0 H : AH} {idf : Nat → Nat} {es : List Ef} {S : List Nat} {listed : Array Bool} {HS HS' : AH} {w' : World} {ρ' : Loc} {Z' : Nat → Prop} {i : Nat} {o : Oper} {e : Ef} {x : Value}
    (m : Mid B ops cs k s H0 H idf es S listed w ρ Z HS a) (hcs : cs = compOps P fl ops ops.toList) (hd : cs.all (dstOk B.N) = true) (hspec : ∀ (i j : Nat) p o, cs[i]? = some p → cs[j]? = some o → i ≠ j → ∀ d, p.dst = some d → o.dst ≠ some d)
    (ho : ops[i]? = some o) (hik : i < k) (hiS : i ∉ S) (hes : es[i]? = some e) (hpre : ∀ ed ∈ o.after, Region.binds .any ed = true → listed.getD ed.on false = true)
    (g : Good w'.heap ρ' Z' HS') (ex : Ext w ρ Z (Own ρ HS) w' ρ' Z' (Own ρ' HS')) (hchg : Chg e HS HS')
    (hst : ∀ (i : Nat) id b b', es[i]? = some (.st id b b') → hget H id = some b ∧ hget H0 id = none) (huni : ∀ (i j : Nat) id b b' c c', es[i]? = some (.st id b b') → es[j]? = some (.st id c c') → i = j)
    (hnb : ∀ (i : Nat) x id b, es[i]? = some (Ef.nb x id b) → hget H id = none) (hfree : ∀ j, j ≠ idf i → ρ' j = ρ j) (hinj : ∀ i j, idf i = idf j → i = j)
    (hv : ∀ v, e.val = some v → Rl w'.heap ρ' Z' v x) : Mid B ops cs k s H0 H idf es (i :: S) (listed.setIfInBounds i true) w' ρ' Z' HS' (a.put o.dst x) := by
  have hco : cs[i]? = some (compOper P fl ops o) := by
    rw [hcs, compOps_get]
    have : ops.toList[i]? = some o := by simpa using ho
    rw [this]; rfl
  have hdst : (compOper P fl ops o).dst = o.dst := compOper_dst ops o
  have hd' : ∀ d, o.dst = some d → d < a.tmps.size := by
    rw [m.size]
    exact dstOk_spec ((List.all_eq_true.1 hd) _ (List.mem_of_getElem? hco))
  have hlt := (Array.getElem?_eq_some_iff.1 ho).1
  have put_ne : ∀ t, o.dst ≠ some t → (a.put o.dst x).tmps.getD t undef = a.tmps.getD t undef := by
    intro t ht
    cases hdd : o.dst with
    | none => rfl
    | some d =>
      rw [getD_put (hd' d hdd), if_neg (fun q => ht (by rw [hdd, q]))]
  have put_eq : ∀ t, o.dst = some t → (a.put o.dst x).tmps.getD t undef = x := by
    intro t ht
    rw [ht, getD_put (hd' t ht), if_pos rfl]
  refine ⟨g, m.ext.trans ex, by rw [size_put]; exact m.size, by rw [defers_put]; exact m.defers, fun id b q => (hchg id b).2 (.inr (.inr ⟨m.hsub _ _ q, fun b0 b1 q2 => ?_⟩)), fun id b q => ?_, fun j y id b hj hy => ?_, fun j b0 id b hj hy => ?_, fun id b hb hno => ?_, fun j hj => ?_,
    fun j oj ej t v hj hoj hej hdt hval => ?_, fun t v hst hno => ?_, fun j oj hj hoj ed hed hb => ?_, fun j hj => ?_, ?_, fun j => ?_, by simpa using m.lsz⟩
  · rw [q2] at hes
    rw [(hst i id b0 b1 hes).2] at q
    cases q
  · rcases (hchg id b).1 q with ⟨y, q⟩ | ⟨b0, q⟩ | ⟨q, q3⟩
    · exact .inl ⟨i, y, List.mem_cons_self, by rw [hes, q]⟩
    · exact .inr (.inl ⟨i, b0, List.mem_cons_self, by rw [hes, q]⟩)
    · rcases m.hs id b q with ⟨j, y, q1, q2⟩ | ⟨j, b0, q1, q2⟩ | ⟨q1, q2⟩
      · exact .inl ⟨j, y, List.mem_cons_of_mem _ q1, q2⟩
      · exact .inr (.inl ⟨j, b0, List.mem_cons_of_mem _ q1, q2⟩)
      · refine .inr (.inr ⟨q1, fun j b0 b1 hj q4 => ?_⟩)
        rcases List.mem_cons.1 hj with rfl | hj
        · rw [hes] at q4
          simp only [Option.some.injEq] at q4
          exact q3 b0 b1 q4
        · exact q2 j b0 b1 hj q4
  · rcases List.mem_cons.1 hj with rfl | hj
    · rw [hes] at hy
      simp only [Option.some.injEq] at hy
      exact (hchg id b).2 (.inl ⟨y, hy⟩)
    · refine (hchg id b).2 (.inr (.inr ⟨m.hs2 j y id b hj hy, fun b0 b1 q => ?_⟩))
      rw [q] at hes
      have := (hst i id b0 b1 hes).1
      rw [hnb j y id b hy] at this
      cases this
  · rcases List.mem_cons.1 hj with rfl | hj
    · rw [hes] at hy
      simp only [Option.some.injEq] at hy
      exact (hchg id b).2 (.inr (.inl ⟨b0, hy⟩))
    · refine (hchg id b).2 (.inr (.inr ⟨m.hs3 j b0 id b hj hy, fun c0 c1 q => ?_⟩))
      rw [q] at hes
      have := huni i j id _ _ _ _ hes hy
      exact hiS (by rw [this]; exact hj)
  · refine (hchg id b).2 (.inr (.inr ⟨m.hs4 id b hb fun j b0 b1 hj => hno j b0 b1 (List.mem_cons_of_mem _ hj), fun b0 b1 q => ?_⟩))
    exact hno i b0 b1 List.mem_cons_self (by rw [hes, q])
  · rw [hfree _ (fun q => by have := hinj _ _ q; exact hj (by rw [this]; exact List.mem_cons_self))]
    exact m.free j fun q => hj (List.mem_cons_of_mem _ q)
  · rcases List.mem_cons.1 hj with rfl | hj
    · rw [hes] at hej
      simp only [Option.some.injEq] at hej
      subst hej
      rw [hco] at hoj
      simp only [Option.some.injEq] at hoj
      subst hoj
      rw [hdst] at hdt
      rw [put_eq t hdt]
      exact hv v hval
    · have hne : j ≠ i := fun q => hiS (by rw [← q]; exact hj)
      have hnt : o.dst ≠ some t := by
        rw [← hdst]
        exact hspec j i _ _ hoj hco hne t hdt
      rw [put_ne t hnt]
      exact (m.slots j oj ej t v hj hoj hej hdt hval).ext ex m.good.notZ m.good.zlt
  · have hnt : o.dst ≠ some t := by
      have := hno i _ List.mem_cons_self hco
      rwa [hdst] at this
    rw [put_ne t hnt]
    exact (m.base t v hst fun j oj hj hoj => hno j oj (List.mem_cons_of_mem _ hj) hoj).ext ex m.good.notZ m.good.zlt
  · rcases List.mem_cons.1 hj with rfl | hj
    · rw [ho] at hoj
      simp only [Option.some.injEq] at hoj
      subst hoj
      exact List.mem_cons_of_mem _ ((m.lst _).1 (hpre ed hed hb))
    · exact List.mem_cons_of_mem _ (m.closed j oj hj hoj ed hed hb)
  · rcases List.mem_cons.1 hj with rfl | hj
    · exact hik
    · exact m.below j hj
  · exact List.nodup_cons.2 ⟨hiS, m.nodup⟩
  · rw [setIf_getD _ _ _ (by rw [m.lsz]; exact hlt)]
    simp only [Bool.or_eq_true, decide_eq_true_eq, m.lst, List.mem_cons]

end
end Go.Proofs.Ytlmplofpclaokaa
