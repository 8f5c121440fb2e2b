/- One walk in the order of the text serves every order: the theorem. -/
import Derived.Test.YtlmplofpclaokaaSimAny2
namespace Go.Proofs.Ytlmplofpclaokaa
set_option autoImplicit false
set_option linter.unusedSimpArgs false
set_option linter.unusedVariables false

theorem least_out (S : List Nat) : ∀ i, i ∉ S → ∃ j, j ≤ i ∧ j ∉ S ∧ ∀ l, l < j → l ∈ S := by
  intro i
  induction i using Nat.strongRecOn with
  | _ i ih =>
    intro hi
    by_cases h : ∀ l, l < i → l ∈ S
    · exact ⟨i, Nat.le_refl _, hi, h⟩
    · have : ∃ l, l < i ∧ l ∉ S := Classical.byContradiction fun q => h fun l hl => Classical.byContradiction fun q2 => q ⟨l, hl, q2⟩
      obtain ⟨l, hl, hs⟩ := this
      obtain ⟨j, h1, h2, h3⟩ := ih l hl hs
      exact ⟨j, by omega, h2, h3⟩

section
variable {P : Program} {w : World} {ρ : Loc} {Z : Nat → Prop} {H : AH} {s : Fr} {a : Act} {B : Beg} {fl : List Nat}

theorem take_get {α : Type} {l : List α} {k i : Nat} (h : i < k) : (l.take k)[i]? = l[i]? := by rw [List.getElem?_take, if_pos h]

theorem early_any {ops : Array Oper} {k : Nat} {K : Fr → AH → Prop} {Q : Exit → Act → World → Prop} {H0 D H : AH} {idf : Nat → Nat} {es : List Ef} (hinj : ∀ i j, idf i = idf j → i = j) (hkn : k ≤ ops.size)
    (hok : drawOk ops (compOps P fl ops ops.toList) k = true) (hd : (compOps P fl ops ops.toList).all (dstOk B.N) = true) (hQ : ∀ a' w' ρ' Z' H' s', Inv B w' ρ' Z' H' s' a' → K s' H' → Q .normal a' w')
    (hel : es.length = k) (hid0 : ∀ j, hget H (idf j) = none) (hDH : Sub D H) (hdis : ∀ id b, hget D id = some b → hget H0 id = none)
    (hst0 : ∀ (i : Nat) id b b', es[i]? = some (.st id b b') → hget D id = some b) (huni : ∀ (i j : Nat) id b b' c c', es[i]? = some (.st id b b') → es[j]? = some (.st id c c') → i = j)
    (hef : ∀ (i : Nat) o e, ((compOps P fl ops ops.toList).take k)[i]? = some o → es[i]? = some e → EfOk P H0 D idf (0 + i) o (frAt s (((compOps P fl ops ops.toList).take k).take i) (es.take i)) e)
    (hfin : wpOps P ((compOps P fl ops ops.toList).drop k) K (frAt s ((compOps P fl ops ops.toList).take k) es) (hpAt H es)) :
    ∀ (fuel : Nat) (S : List Nat) (listed : Array Bool) (w : World) (ρ : Loc) (Z : Nat → Prop) (HS : AH) (a : Act), fuel + S.length = ops.size →
      Mid B ops (compOps P fl ops ops.toList) k s H0 H idf es S listed w ρ Z HS a → wpAny P .any ops Q fuel listed a w := by
  obtain ⟨hback, hspec⟩ := drawOk_spec hok
  have hlen : (compOps P fl ops ops.toList).length = ops.size := by rw [compOps_len]; simp
  have getc : ∀ i o, ops[i]? = some o → (compOps P fl ops ops.toList)[i]? = some (compOper P fl ops o) := fun i o ho => by
    rw [compOps_get]
    have : ops.toList[i]? = some o := by simpa using ho
    rw [this]; rfl
  have hnb : ∀ (i : Nat) x id b, es[i]? = some (Ef.nb x id b) → id = idf (0 + i) := by
    intro i x id b hi
    have hlt : i < k := by rw [← hel]; exact (List.getElem?_eq_some_iff.1 hi).1
    have hc : ((compOps P fl ops ops.toList).take k)[i]? = some ((compOps P fl ops ops.toList)[i]'(by omega)) := by rw [take_get hlt]; exact List.getElem?_eq_getElem (by omega)
    rcases hef i _ _ hc hi with ⟨g, want, _, _, h⟩ | ⟨_, ⟨v, _, h⟩ | ⟨T, blk, vf, _, _, h⟩ | ⟨f, args, r, _, _, h⟩ | ⟨id', b0, H', b', _, _, _, h⟩⟩
    · cases h
    · cases h
    · simp only [Ef.nb.injEq] at h; exact h.2.1
    · cases h
    · cases h
  have hst : ∀ (i : Nat) id b b', es[i]? = some (.st id b b') → hget H id = some b ∧ hget H0 id = none := fun i id b b' q => ⟨hDH _ _ (hst0 i id b b' q), hdis _ _ (hst0 i id b b' q)⟩
  have hnbH : ∀ (i : Nat) x id b, es[i]? = some (Ef.nb x id b) → hget H id = none := fun i x id b q => by rw [hnb i x id b q]; exact hid0 _
  have hone : Once es := by
    refine List.pairwise_iff_getElem.2 fun i j hi hj hij id b b' c c' q1 q2 => ?_
    have := huni i j id b b' c c' (by rw [← q1]; exact List.getElem?_eq_getElem hi) (by rw [← q2]; exact List.getElem?_eq_getElem hj)
    omega
  have edge_lt : ∀ j o, ops[j]? = some o → ∀ e ∈ o.after, Region.binds .any e = true → e.on < j := by
    intro j o hj e he hb
    unfold edgesBack at hback
    rw [List.all_eq_true] at hback
    have h1 := hback (o, j) (by rw [List.mem_zipIdx_iff_getElem?]; simpa using hj)
    rw [List.all_eq_true] at h1
    have h2 := h1 e (by simpa using he)
    simpa [hb] using h2
  have switch : ∀ (fuel : Nat) (S : List Nat) (listed : Array Bool) (w : World) (ρ : Loc) (Z : Nat → Prop) (HS : AH) (a : Act), fuel + S.length = ops.size → (∀ i, i < k → i ∈ S) →
      Mid B ops (compOps P fl ops ops.toList) k s H0 H idf es S listed w ρ Z HS a → wpAny P .any ops Q fuel listed a w := by
    intro fuel S listed w ρ Z HS a hf hall m
    have hS := nodup_len k S m.nodup m.below
    have hiff : ∀ id b, hget HS id = some b ↔ hget (hpAt H es) id = some b := by
      intro id b
      have inS : ∀ (i : Nat) e, es[i]? = some e → i ∈ S := fun i e q => hall i (by rw [← hel]; exact (List.getElem?_eq_some_iff.1 q).1)
      rw [hpAt_get hinj es 0 H hnb (fun j _ => hid0 j) (fun id b b' q => by
        obtain ⟨i, hi⟩ := List.mem_iff_getElem?.1 q
        exact ⟨b, (hst i id b b' hi).1⟩) hone]
      constructor
      · intro q
        rcases m.hs id b q with ⟨i, x, _, q⟩ | ⟨i, b0, _, q⟩ | ⟨q, q2⟩
        · exact .inl ⟨x, List.mem_of_getElem? q⟩
        · exact .inr (.inl ⟨b0, List.mem_of_getElem? q⟩)
        · refine .inr (.inr ⟨q, fun b0 b1 q3 => ?_⟩)
          obtain ⟨i, hi⟩ := List.mem_iff_getElem?.1 q3
          exact q2 i b0 b1 (inS i _ hi) hi
      · rintro (⟨x, q⟩ | ⟨b0, q⟩ | ⟨q, q2⟩)
        · obtain ⟨i, hi⟩ := List.mem_iff_getElem?.1 q
          exact m.hs2 i x id b (inS i _ hi) hi
        · obtain ⟨i, hi⟩ := List.mem_iff_getElem?.1 q
          exact m.hs3 i b0 id b (inS i _ hi) hi
        · exact m.hs4 id b q fun i b0 b1 _ q3 => q2 b0 b1 (List.mem_of_getElem? q3)
    refine late_any hok hd hQ fuel k listed w ρ Z (hpAt H es) (frAt s ((compOps P fl ops ops.toList).take k) es) a (Nat.le_refl _) hkn (by omega) m.lsz (fun i => ⟨fun h => m.below i ((m.lst i).1 h), fun h => (m.lst i).2 (hall i h)⟩) ?_ hfin
    refine ⟨m.good.congr hiff, fun t v hv => ?_, by rw [Own.congr hiff]; exact m.ext, m.size, m.defers⟩
    by_cases hw : ∃ (j : Nat) (oj : COp), ((compOps P fl ops ops.toList).take k)[j]? = some oj ∧ oj.dst = some t
    · obtain ⟨j, oj, hj, hdt⟩ := hw
      have hjk : j < k := by
        have := (List.getElem?_eq_some_iff.1 hj).1
        simp at this
        omega
      rw [take_get hjk] at hj
      have hej : es[j]? = some (es[j]'(by omega)) := List.getElem?_eq_getElem (by omega)
      rw [frAt_some t _ es s j oj _ (by rw [take_get hjk]; exact hj) hej hdt (fun j' o' q hne q2 => by
        have hj'k : j' < k := by
          have := (List.getElem?_eq_some_iff.1 q).1
          simp at this
          omega
        rw [take_get hj'k] at q
        exact (hspec j' j o' oj q hj hne).1 t q2 hdt)] at hv
      exact m.slots j oj _ t v (hall j hjk) hj hej hdt hv
    · rw [frAt_none t _ es s (fun j oj hj hdt => hw ⟨j, oj, hj, hdt⟩)] at hv
      refine m.base t v hv fun i oi hi hoi hdt => hw ⟨i, oi, ?_, hdt⟩
      rw [take_get (m.below i hi)]
      exact hoi
  intro fuel
  induction fuel with
  | zero =>
    intro S listed w ρ Z HS a hf m
    by_cases hall : ∀ i, i < k → i ∈ S
    · exact switch 0 S listed w ρ Z HS a hf hall m
    · exfalso
      have : ∃ i, i < k ∧ i ∉ S := Classical.byContradiction fun q => hall fun i hi => Classical.byContradiction fun q2 => q ⟨i, hi, q2⟩
      obtain ⟨i, hi, his⟩ := this
      have := nodup_len k (i :: S) (List.nodup_cons.2 ⟨his, m.nodup⟩) (fun x hx => by
        rcases List.mem_cons.1 hx with rfl | hx
        · exact hi
        · exact m.below x hx)
      simp at this
      omega
  | succ fuel ih =>
    intro S listed w ρ Z HS a hf m
    by_cases hall : ∀ i, i < k → i ∈ S
    · exact switch (fuel + 1) S listed w ρ Z HS a hf hall m
    have hex : ∃ i, i < k ∧ i ∉ S := Classical.byContradiction fun q => hall fun i hi => Classical.byContradiction fun q2 => q ⟨i, hi, q2⟩
    obtain ⟨i0, hi0, hi0S⟩ := hex
    have inS : ∀ j o, ops[j]? = some o → (∀ e ∈ o.after, Region.binds .any e = true → e.on ∈ S) → ∀ i, bitOf (Region.before ops) j i = true → i ∈ S :=
      before_spec hback (fun i => i ∈ S) (fun j o hj ho e he hb => m.closed j o hj ho e he hb)
    refine ⟨fun hr => ?_, fun i hir => ?_⟩
    · exfalso
      obtain ⟨j, hj, hjS, hmin⟩ := least_out S i0 hi0S
      have hjn : j < ops.size := by omega
      have : j ∈ Region.ready .any ops listed := by
        rw [mem_ready]
        refine ⟨by rw [getD_tf (by rw [m.lsz]; exact hjn)]; cases hh : listed.getD j false with | false => rfl | true => exact absurd ((m.lst j).1 hh) hjS, ops[j], Array.getElem?_eq_getElem hjn, fun e he hb => (m.lst _).2 (hmin _ ?_)⟩
        exact edge_lt j _ (Array.getElem?_eq_getElem hjn) e he hb
      rw [hr] at this
      cases this
    · obtain ⟨h1, o, ho, hpre⟩ := mem_ready.1 hir
      have hlt := (Array.getElem?_eq_some_iff.1 ho).1
      rw [getD_tf (by rw [m.lsz]; exact hlt)] at h1
      have hiS : i ∉ S := fun q => by rw [(m.lst i).2 q] at h1; cases h1
      have hpreS : ∀ e ∈ o.after, Region.binds .any e = true → e.on ∈ S := fun e he hb => (m.lst _).1 (hpre e he hb)
      have hci := getc i o ho
      have hik : i < k := by
        rcases Nat.lt_or_ge i k with h | h
        · exact h
        · exfalso
          have hc0 := getc i0 _ (Array.getElem?_eq_getElem (show i0 < ops.size by omega))
          exact hi0S (inS i o ho hpreS i0 ((hspec i0 i _ _ hc0 hci (by omega)).2.2 h (by omega)))
      have hei : es[i]? = some (es[i]'(by omega)) := List.getElem?_eq_getElem (by omega)
      generalize es[i]'(by omega) = e at hei
      have hfact := hef i _ e (by rw [take_get hik]; exact hci) hei
      rw [Nat.zero_add] at hfact
      generalize hsi : frAt s (((compOps P fl ops ops.toList).take k).take i) (es.take i) = si at hfact
      -- what it looks at
      have look : ∀ t, t ∈ (compOper P fl ops o).looks → ∀ v, si t = some v → Rl w.heap ρ Z v (a.tmps.getD t undef) := by
        intro t ht v hv
        rw [← hsi] at hv
        have take2 : ∀ (j : Nat) (oj : COp), (((compOps P fl ops ops.toList).take k).take i)[j]? = some oj → j < i ∧ (compOps P fl ops ops.toList)[j]? = some oj := by
          intro j oj hj
          have hji : j < i := by
            have := (List.getElem?_eq_some_iff.1 hj).1
            simp at this
            omega
          rw [take_get hji, take_get (by omega)] at hj
          exact ⟨hji, hj⟩
        by_cases hw : ∃ (j : Nat) (oj : COp), (compOps P fl ops ops.toList)[j]? = some oj ∧ oj.dst = some t
        · obtain ⟨j, oj, hj, hdt⟩ := hw
          have uniq : ∀ (j' : Nat) o', (compOps P fl ops ops.toList)[j']? = some o' → j' ≠ j → o'.dst ≠ some t := fun j' o' q hne q2 => (hspec j' j o' oj q hj hne).1 t q2 hdt
          have hjn : j < ops.size := by rw [← hlen]; exact (List.getElem?_eq_some_iff.1 hj).1
          rcases Nat.lt_trichotomy j i with hlt2 | heq | hgt
          · have hbit := (hspec j i oj _ hj hci (by omega)).2.1 t hdt ht
            rw [if_pos hlt2] at hbit
            have hjS := inS i o ho hpreS j hbit
            have hej : es[j]? = some (es[j]'(by omega)) := List.getElem?_eq_getElem (by omega)
            rw [frAt_some t _ (es.take i) s j oj _ (by rw [take_get hlt2, take_get (by omega)]; exact hj) (by rw [take_get hlt2]; exact hej) hdt (fun j' o' q hne => uniq j' o' (take2 j' o' q).2 hne)] at hv
            exact m.slots j oj _ t v hjS hj hej hdt hv
          · subst heq
            rw [frAt_none t _ _ s (fun j' o' q q2 => by
              obtain ⟨q3, q4⟩ := take2 j' o' q
              exact uniq j' o' q4 (by omega) q2)] at hv
            refine m.base t v hv fun j' o' hj' q => uniq j' o' q (fun q2 => hiS (by rw [← q2]; exact hj'))
          · have hbit := (hspec j i oj _ hj hci (by omega)).2.1 t hdt ht
            rw [if_neg (by omega)] at hbit
            have hjS : j ∉ S := by
              intro q
              have hoj : ops[j]? = some ops[j] := Array.getElem?_eq_getElem hjn
              exact hiS (inS j _ hoj (fun e he hb => m.closed j _ q hoj e he hb) i hbit)
            rw [frAt_none t _ _ s (fun j' o' q q2 => by
              obtain ⟨q3, q4⟩ := take2 j' o' q
              exact uniq j' o' q4 (by omega) q2)] at hv
            refine m.base t v hv fun j' o' hj' q => uniq j' o' q (fun q2 => hjS (by rw [← q2]; exact hj'))
        · rw [frAt_none t _ _ s (fun j' o' q q2 => hw ⟨j', o', (take2 j' o' q).2, q2⟩)] at hv
          exact m.base t v hv fun j' o' _ q q2 => hw ⟨j', o', q, q2⟩
      -- the frame of what it looks at
      obtain ⟨sr, hsr⟩ : ∃ sr : Fr, sr = fun t => if t ∈ (compOper P fl ops o).looks then si t else none := ⟨_, rfl⟩
      have hFR : FR w.heap ρ Z sr a := by
        intro t v hv
        rw [hsr] at hv
        simp only at hv
        split at hv
        · rename_i hin; exact look t hin v hv
        · cases hv
      have srl : ∀ t, t ∈ (compOper P fl ops o).looks → sr t = si t := by
        intro t ht
        rw [hsr]
        simp only [if_pos ht]
      have hev : evalOp sr H0 (compOper P fl ops o).co = evalOp si H0 (compOper P fl ops o).co := evalOp_congr fun t ht => srl t (by simp [COp.looks, ht])
      have hspec' : ∀ (i j : Nat) p o', (compOps P fl ops ops.toList)[i]? = some p → (compOps P fl ops ops.toList)[j]? = some o' → i ≠ j → ∀ d, p.dst = some d → o'.dst ≠ some d := fun i j p o' q1 q2 q3 => (hspec i j p o' q1 q2 q3).1
      have goS : ∀ (x : Value) (w' : World) (ρ' : Loc) (Z' : Nat → Prop) (HS' : AH), Good w'.heap ρ' Z' HS' → Ext w ρ Z (Own ρ HS) w' ρ' Z' (Own ρ' HS') → Chg e HS HS' → (∀ j, j ≠ idf i → ρ' j = ρ j) → (∀ v, e.val = some v → Rl w'.heap ρ' Z' v x) →
          wpAny P .any ops Q fuel (listed.setIfInBounds i true) (a.put o.dst x) w' :=
        fun x w' ρ' Z' HS' q1 q2 q3 q6 q7 => ih (i :: S) _ w' ρ' Z' HS' _ (by simp; omega) (m.ext_step rfl hd hspec' ho hik hiS hei hpre q1 q2 q3 hst huni hnbH q6 hinj q7)
      have chg0 : (∀ x id b, e ≠ .nb x id b) → (∀ id b b', e ≠ .st id b b') → Chg e HS HS := fun n1 n2 id b => ⟨fun q => .inr (.inr ⟨q, n2 id⟩), fun q => by
        rcases q with ⟨x, q⟩ | ⟨b0, q⟩ | ⟨q, _⟩
        · exact (n1 x id b q).elim
        · exact (n2 id b0 b q).elim
        · exact q⟩
      unfold wpOp
      rw [ho]
      simp only
      cases hgd : guardOf ops o.guard with
      | none =>
        exfalso
        have hco : compOper P fl ops o = { dst := o.dst, guard := none, co := .bad } := by unfold compOper; rw [hgd]
        rw [hco] at hfact
        rcases hfact with ⟨g, want, h, _⟩ | ⟨_, ⟨v, h, _⟩ | ⟨T, blk, vf, h, _⟩ | ⟨f, args, r, h, _⟩ | ⟨id, b, H', b', _, h, _⟩⟩
        · cases h
        all_goals simp [evalOp] at h
      | some gd =>
        have hco := compOper_guard (P := P) (fl := fl) hgd
        rw [hco] at hfact hev
        have hlk : ∀ g want, gd = some (g, want) → sr g = si g := by
          intro g want hg
          exact srl g (by rw [hco, hg]; simp [COp.looks])
        -- carried out
        have run : Region.wanted o (yielded ops a.tmps) = true → ((∃ v, evalOp si H0 (compOp P (litOf fl o.dst) o.op) = some (.val v) ∧ e = .v v) ∨ (∃ T blk vf, evalOp si H0 (compOp P (litOf fl o.dst) o.op) = some (.fresh T blk vf H0) ∧ tag (idf i) = T ∧ e = .nb (vf (idf i)) (idf i) blk) ∨
            (∃ f args r, evalOp si H0 (compOp P (litOf fl o.dst) o.op) = some (.call f args) ∧ callP P f args H0 r ∧ e = .v r) ∨
            ∃ id b H' b', hget D id = some b ∧ evalOp si [(id, b)] (compOp P (litOf fl o.dst) o.op) = some (.upd H') ∧ hget H' id = some b' ∧ e = .st id b b') → o.wp P a w (wpAny P .any ops Q fuel (listed.setIfInBounds i true)) Q := by
          intro _ hk
          have g0 := m.good.forget m.hsub
          unfold Oper.wp
          rcases hk with ⟨v, h, he⟩ | ⟨T, blk, vf, h, htg, he⟩ | ⟨f, args, r, h, hc, he⟩ | ⟨id, b, H', b', hb, h, hb', he⟩
          · rw [← hev] at h
            obtain ⟨x, w', Z', hr, g', hv, ex⟩ := op_out g0 hFR h
            obtain ⟨q1, q2⟩ := m.good.frame m.hsub ex g' (HS' := HS) fun id b q => by
              cases hh : hget H0 id with
              | none => exact .inr ⟨q, rfl⟩
              | some b' => have := m.hsub _ _ hh; rw [q] at this; exact .inl this.symm
            rw [hr, Oper.upon_value]
            exact goS x w' ρ Z' HS q1 q2 (chg0 (fun x id b q => by rw [he] at q; cases q) (fun id b b' q => by rw [he] at q; cases q)) (fun _ _ => rfl) (fun u q => by rw [he] at q; simp only [Ef.val, Option.some.injEq] at q; rw [← q]; exact hv)
          · rw [← hev] at h
            obtain ⟨x, w', ρ', hr, hrho, g', hv, ex⟩ := op_out g0 hFR h (idf i) (m.free i hiS) htg
            have hfr : hget HS (idf i) = none := by
              cases hh : hget HS (idf i) with
              | none => rfl
              | some b => obtain ⟨p, q, r, _⟩ := m.good.blk _ b hh; rw [m.free i hiS] at r; cases r
            obtain ⟨q1, q2⟩ := m.good.frame m.hsub ex g' (HS' := (idf i, blk) :: HS) fun id b q => by
              simp only [hget] at q ⊢
              split at q
              · rename_i e1; left; rw [if_pos e1]; exact q
              · rename_i e1
                rw [if_neg e1]
                cases hh : hget H0 id with
                | none => exact .inr ⟨q, rfl⟩
                | some b' => have := m.hsub _ _ hh; rw [q] at this; exact .inl this.symm
            rw [hr, Oper.upon_value]
            refine goS x w' ρ' Z ((idf i, blk) :: HS) q1 q2 (fun id b => ?_) hrho (fun u q => ?_)
            · rw [he]
              simp only [Ef.nb.injEq, reduceCtorEq, hget, exists_false, false_or]
              constructor
              · intro q
                split at q
                · rename_i e1
                  simp only [Option.some.injEq] at q
                  exact .inl ⟨_, rfl, e1.symm, q⟩
                · exact .inr ⟨q, fun _ _ q => by cases q⟩
              · rintro (⟨_, _, rfl, rfl⟩ | ⟨q, _⟩)
                · rw [if_pos rfl]
                · rw [if_neg (fun e1 => by rw [e1, hfr] at q; cases q)]
                  exact q
            · rw [he] at q
              simp only [Ef.val, Option.some.injEq] at q
              rw [← q]
              exact hv
          · rw [← hev] at h
            have hcl : callable P f = true := by
              rcases hc with ⟨_, hc⟩ | ⟨_, _, _, _, _, hc⟩
              · exact hc.1
              · exact hc.1
            obtain ⟨xs, hr, hl⟩ := op_out g0 hFR h hcl
            rw [hr, Oper.upon_enter]
            refine (callP_calls hc m.good m.hsub hl).mono fun en w' ⟨x, Z', q1, g', hv, ex⟩ => ?_
            subst q1
            exact goS x w' ρ Z' HS g' ex (chg0 (fun x id b q => by rw [he] at q; cases q) (fun id b b' q => by rw [he] at q; cases q)) (fun _ _ => rfl) (fun u q => by rw [he] at q; simp only [Ef.val, Option.some.injEq] at q; rw [← q]; exact hv)
          · have hHS : hget HS id = some b := m.hs4 id b (hDH _ _ hb) fun j b0 b1 hj q => by
              have := huni i j id _ _ _ _ (by rw [hei, he]) q
              exact hiS (by rw [this]; exact hj)
            have s1 : Sub [(id, b)] HS := fun j c q => by
              simp only [hget] at q
              split at q
              · rename_i e1; subst e1; rw [← q]; exact hHS
              · cases q
            have g1 := m.good.forget s1
            have hev1 : evalOp sr [(id, b)] (compOp P (litOf fl o.dst) o.op) = evalOp si [(id, b)] (compOp P (litOf fl o.dst) o.op) := evalOp_congr fun t ht => srl t (by rw [hco]; simp [COp.looks, ht])
            rw [← hev1] at h
            obtain ⟨w', hr, g', ex⟩ := op_out g1 hFR h
            obtain ⟨q1, q2⟩ := m.good.frame s1 ex g' (HS' := hset HS id b') fun j c q => by
              rw [hget_hset] at q
              split at q
              · rename_i e1
                rw [hHS] at q
                left
                rw [e1, ← q]
                exact hb'
              · rename_i e1
                right
                refine ⟨q, ?_⟩
                simp only [hget]
                rw [if_neg e1]
            rw [hr, Oper.upon_skip]
            refine goS undef w' ρ Z (hset HS id b') q1 q2 (fun j c => ?_) (fun _ _ => rfl) (fun u q => by rw [he] at q; cases q)
            rw [he]
            constructor
            · intro q
              rw [hget_hset] at q
              split at q
              · rename_i e1
                subst e1
                rw [hHS] at q
                simp only [Option.map_some, Option.some.injEq] at q
                subst q
                exact .inr (.inl ⟨b, rfl⟩)
              · rename_i e1
                exact .inr (.inr ⟨q, fun b0 b1 q3 => by cases q3; exact e1 rfl⟩)
            · rintro (⟨x, q⟩ | ⟨b0, q⟩ | ⟨q, q3⟩)
              · cases q
              · cases q; rw [hget_hset, if_pos rfl, hHS]; rfl
              · rw [hget_hset, if_neg (fun e1 => q3 b b' (by rw [e1]))]; exact q
        cases gd with
        | none =>
          have hgn := guardOf_none hgd
          have hw : Region.wanted o (yielded ops a.tmps) = true := by simp [Region.wanted, hgn]
          rw [if_pos hw]
          rcases hfact with ⟨g, want, h, _⟩ | ⟨_, h⟩
          · cases h
          · exact .inl (run hw h)
        | some p =>
          obtain ⟨d, want⟩ := p
          obtain ⟨j, oj, hgj, hj, hdst⟩ := guardOf_some hgd
          rcases hfact with ⟨g, want', h, hs, he⟩ | ⟨h, hk⟩
          · simp only [Option.some.injEq, Prod.mk.injEq] at h
            obtain ⟨rfl, rfl⟩ := h
            have hw : Region.wanted o (yielded ops a.tmps) = false := by
              rcases hs with hs | hs
              · rw [yielded_of (q := !want) hFR hgj hj hdst (by rw [hlk d want rfl]; exact hs)]; cases want <;> rfl
              · exact yielded_un hFR hgj hj hdst (by rw [hlk d want rfl]; exact hs)
            rw [if_neg (by rw [hw]; simp)]
            exact goS undef w ρ Z HS m.good (Ext.refl _ _ _ _) (chg0 (fun x id b q => by rw [he] at q; cases q) (fun id b b' q => by rw [he] at q; cases q)) (fun _ _ => rfl) (fun u q => by rw [he] at q; simp only [Ef.val, Option.some.injEq] at q; rw [← q]; exact Rl_un _ _ _)
          · rcases h with h | ⟨g, want', h, hs⟩
            · cases h
            · simp only [Option.some.injEq, Prod.mk.injEq] at h
              obtain ⟨rfl, rfl⟩ := h
              have hw : Region.wanted o (yielded ops a.tmps) = true := by
                rw [yielded_of (q := want) hFR hgj hj hdst (by rw [hlk d want rfl]; exact hs)]
                simp
              rw [if_pos hw]
              exact .inl (run hw hk)

end
end Go.Proofs.Ytlmplofpclaokaa
