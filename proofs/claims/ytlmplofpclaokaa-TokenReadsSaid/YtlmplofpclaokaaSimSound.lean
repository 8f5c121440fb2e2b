/- The predicate transformer is sound; contracts of functions out of their code. -/
import Derived.Test.YtlmplofpclaokaaSimAny3
namespace Go.Proofs.Ytlmplofpclaokaa
set_option autoImplicit false
set_option linter.unusedSimpArgs false
set_option linter.unusedVariables false

def dstsOk (N : Nat) : C → Bool
  | .reg ops => ops.all (dstOk N)
  | .dreg pre post => pre.all (dstOk N) && post.all (dstOk N)
  | .seq a b => dstsOk N a && dstsOk N b
  | .cond _ a b => dstsOk N a && dstsOk N b
  | .block _ b => dstsOk N b
  | .loop b => dstsOk N b
  | .scope b => dstsOk N b
  | _ => true

theorem least_of {p : Nat → Prop} (h : ∃ n, p n) : ∃ n, p n ∧ ∀ m, p m → n ≤ m := by
  obtain ⟨n, hn⟩ := h
  induction n using Nat.strongRecOn with
  | _ n ih =>
    by_cases q : ∃ m, m < n ∧ p m
    · obtain ⟨m, hm, hp⟩ := q; exact ih m hm hp
    · exact ⟨n, hn, fun m hm => Classical.byContradiction fun r => q ⟨m, by omega, hm⟩⟩

noncomputable def leastN (p : Nat → Prop) : Nat := open Classical in if h : ∃ n, p n then Classical.choose (least_of h) else 0

theorem leastN_spec {p : Nat → Prop} (h : ∃ n, p n) : p (leastN p) ∧ ∀ m, p m → leastN p ≤ m := by
  unfold leastN
  rw [dif_pos h]
  exact Classical.choose_spec (least_of h)

section
variable {P : Program} {w : World} {ρ : Loc} {Z : Nat → Prop} {H : AH} {s : Fr} {a : Act} {B : Beg} {fl : List Nat}

theorem wp_loop_n {c : Code} {Q : Exit → Act → World → Prop} (I : Nat → Act → World → Prop) (h0 : ∃ n, I n a w) (round : ∀ n a w, I n a w → c.wp P (Exit.then (fun a' w' => ∃ m, m < n ∧ I m a' w') Q) a w) : (Code.loop c).wp P Q a w := by
  refine wp_loop (fun a w => ∃ n, I n a w) (fun a w => leastN fun n => I n a w) h0 fun a w hi => ?_
  obtain ⟨h1, _⟩ := leastN_spec hi
  refine wp_mono (round _ a w h1) fun e a' w' q => ?_
  cases e with
  | normal =>
    obtain ⟨m, hm, hI⟩ := q
    exact ⟨⟨m, hI⟩, Nat.lt_of_le_of_lt ((leastN_spec ⟨m, hI⟩).2 m hI) hm⟩
  | _ => exact q

theorem wp_scope_n {c rest : Code} {Q : Exit → Act → World → Prop} (l : Nat) (I : Nat → Act → World → Prop) (hf : findLabel c l = some rest) (first : c.wp P (Exit.jump l (fun a w => ∃ n, I n a w) Q) a w)
    (pass : ∀ n a w, I n a w → rest.wp P (Exit.jump l (fun a' w' => ∃ m, m < n ∧ I m a' w') Q) a w) : (Code.scope c).wp P Q a w := by
  refine wp_scope_jumps l (fun a w => ∃ n, I n a w) (fun a w => leastN fun n => I n a w) hf first fun a w hi => ?_
  obtain ⟨h1, _⟩ := leastN_spec hi
  refine wp_mono (pass _ a w h1) fun e a' w' q => ?_
  cases e with
  | goto l' =>
    obtain ⟨hl, m, hm, hI⟩ := q
    exact ⟨hl, ⟨m, hI⟩, Nat.lt_of_le_of_lt ((leastN_spec ⟨m, hI⟩).2 m hI) hm⟩
  | _ => exact q

theorem Inv.drew (hi : Inv B w ρ Z H s a) : Inv B { w with drawn := w.drawn + 1 } ρ Z H s a :=
  ⟨hi.good, hi.fr, hi.ext.trans ⟨Nat.le_refl _, fun _ _ _ => rfl, fun _ _ q => q, fun _ q => q, fun _ q => .inl q, fun _ _ q => q, fun _ q => .inl q, rfl, rfl, rfl⟩, hi.size, hi.defers⟩

theorem Inv.sub {Hc : AH} (hi : Inv B w ρ Z H s a) (hs : Sub Hc H) : Inv B w ρ Z Hc s a :=
  ⟨hi.good.forget hs, hi.fr, { hi.ext with own := fun b q => hi.ext.own b (q.of_sub hs) }, hi.size, hi.defers⟩

theorem Inv.weak {s' : Fr} (hi : Inv B w ρ Z H s a) (hs : SubFr s' s) : Inv B w ρ Z H s' a :=
  ⟨hi.good, fun t v h => hi.fr t v (hs t v h), hi.ext, hi.size, hi.defers⟩

theorem Inv.forget {J : Fr → AH → Prop} (hi : Inv B w ρ Z H s a) (h : Weak J s H) : ∃ s' H' Z', Inv B w ρ Z' H' s' a ∧ J s' H' := by
  obtain ⟨s', H', h1, h2, h3⟩ := h
  refine ⟨s', H', fun b => Z b ∨ Drop ρ H H' b, ⟨hi.good.freeze h2, fun t v' h => ?_, ?_, hi.size, hi.defers⟩, h3⟩
  · obtain ⟨v, q1, q2⟩ := h1 t v' h
    exact q2.sound hi.good _ (hi.fr t v q1)
  · refine { hi.ext with zmono := fun b q => .inl (hi.ext.zmono b q), znew := fun b q => ?_, own := fun b q => hi.ext.own b (q.of_sub h2) }
    rcases q with q | q
    · exact hi.ext.znew b q
    · rcases hi.ext.own b q.own with q | q
      · exact .inr (.inl q)
      · exact .inr (.inr q)

def tyAt (os : List COp) (i : Nat) : Nat := match os[i]? with
  | some o => o.co.ty
  | none => 0
theorem tys_bound : ∀ os : List COp, ∃ K, ∀ i, tyAt os i ≤ K
  | [] => ⟨0, fun i => by simp [tyAt]⟩
  | o :: os => by
    obtain ⟨K, h⟩ := tys_bound os
    refine ⟨K + o.co.ty, fun i => ?_⟩
    cases i with
    | zero => simp [tyAt]
    | succ i => have := h i; simp [tyAt] at this ⊢; omega

theorem wp_dreg {id : Nat} {ops : Array Oper} {k : Nat} {K : Fr → AH → Prop} {Q : Exit → Act → World → Prop} (hm : P.follows .mixedOrders = true) (hkn : k ≤ ops.size) (hok : drawOk ops (compOps P fl ops ops.toList) k = true)
    (hd : (compOps P fl ops ops.toList).all (dstOk B.N) = true) (hQ : ∀ a' w' ρ' Z' H' s', Inv B w' ρ' Z' H' s' a' → K s' H' → Q .normal a' w') (hi : Inv B w ρ Z H s a)
    {H0 D : AH} (hsub : Sub H0 H) (hDH : Sub D H) (hdis : ∀ id b, hget D id = some b → hget H0 id = none)
    (h : wpDraw P ((compOps P fl ops ops.toList).take k) (fun s' H' => wpOps P ((compOps P fl ops ops.toList).drop k) K s' H') s H0 D H) : (Code.region id ops true).wp P Q a w := by
  refine wp_region_any hm ?_
  obtain ⟨N, hN⟩ := hi.good.ids
  obtain ⟨K0, hK0⟩ := tys_bound ((compOps P fl ops ops.toList).take k)
  obtain ⟨idf, hidf⟩ : ∃ idf : Nat → Nat, ∀ i, idf i = 2 ^ (N + K0 + i) + tyAt ((compOps P fl ops ops.toList).take k) i := ⟨_, fun _ => rfl⟩
  have hlt : ∀ i, tyAt ((compOps P fl ops ops.toList).take k) i < 2 ^ (N + K0 + i) := fun i =>
    Nat.lt_of_lt_of_le (Nat.lt_of_le_of_lt (hK0 i) (lt_pow K0)) (Nat.pow_le_pow_right (by omega) (by omega))
  have htag : ∀ i, tag (idf i) = tyAt ((compOps P fl ops ops.toList).take k) i := fun i => by rw [hidf]; exact tag_mk (hlt i)
  have hge : ∀ i, N ≤ idf i := fun i => by
    rw [hidf]
    have := lt_pow (N + K0 + i)
    omega
  have hinj : ∀ i j, idf i = idf j → i = j := by
    have key : ∀ i j, i < j → idf i < idf j := fun i j hij => by
      have h1 := hlt i
      have h2 : 2 ^ (N + K0 + i + 1) ≤ 2 ^ (N + K0 + j) := Nat.pow_le_pow_right (by omega) (by omega)
      rw [Nat.pow_succ] at h2
      rw [hidf, hidf]
      omega
    intro i j q
    rcases Nat.lt_trichotomy i j with r | r | r
    · have := key i j r; omega
    · exact r
    · have := key j i r; omega
  have hid0 : ∀ j, hget H (idf j) = none := by
    intro j
    cases hh : hget H (idf j) with
    | none => rfl
    | some b => obtain ⟨p, q, r, _⟩ := hi.good.blk _ b hh; rw [hN _ (hge j)] at r; cases r
  obtain ⟨es, h1, h2, h3, h4, h5⟩ := wpDraw_effects (idf := idf) hinj _ 0 s D H (fun i o q => by rw [Nat.zero_add, htag]; unfold tyAt; rw [q]) h (fun j _ => hid0 j)
  have hlen : (compOps P fl ops ops.toList).length = ops.size := by rw [compOps_len]; simp
  have hel : es.length = k := by rw [h1, List.length_take, hlen]; omega
  have hi' := hi.drew
  refine early_any (s := s) (H0 := H0) (D := D) (H := H) (idf := idf) (es := es) hinj hkn hok hd hQ hel hid0 hDH hdis h4 h5 h3 h2 ops.size [] _ _ ρ Z H a (by simp) ?_
  exact ⟨hi'.good, hi'.ext, hi'.size, hi'.defers, hsub, fun _ _ q => .inr (.inr ⟨q, fun _ _ _ q2 => by cases q2⟩), fun _ _ _ _ q => (by cases q), fun _ _ _ _ q => (by cases q), fun _ _ q _ => q, fun i _ => hN _ (hge i), fun _ _ _ _ _ q => (by cases q), fun t v hv _ => hi'.fr t v hv, fun _ _ q => (by cases q), fun _ q => (by cases q),
    List.nodup_nil, fun i => by
      have : (Array.replicate ops.size false).getD i false = false := by rw [Array.getD_eq_getD_getElem?, Array.getElem?_replicate]; split <;> rfl
      rw [this]; simp, by simp⟩

theorem hasL_spec : ∀ (c : Code) (l : Nat), hasL (comp P fl c) l = true ↔ ∃ rest, findLabel c l = some rest
  | .seq a b, l => by
    simp only [comp, hasL, Bool.or_eq_true, findLabel]
    rw [hasL_spec a l, hasL_spec b l]
    cases findLabel a l <;> simp
  | .label l', l => by
    simp only [comp, hasL, findLabel]
    by_cases h : l' = l <;> simp [h]
  | .region id ops d, l => by
    cases d with
    | false => simp [comp, hasL, findLabel]
    | true => simp only [comp, findLabel]; split <;> simp [hasL]
  | .skip, l | .cond _ _ _, l | .block _ _, l | .loop _, l | .rangeFunc _ _ _ _, l | .exit _, l | .scope _, l | .goto _, l | .ret, l | .refuse _, l => by simp [comp, hasL, findLabel]

theorem wpA_noL : ∀ (c : C) (l : Nat) (Q : Exit → Fr → AH → Prop) (s : Fr) (H : AH), hasL c l = false → ¬ wpA P c (some l) Q s H
  | .seq a b, l, Q, s, H, h => by
    simp only [hasL, Bool.or_eq_false_iff] at h
    simp only [wpA, h.1, Bool.false_eq_true, if_false]
    exact wpA_noL b l Q s H h.2
  | .label l', l, Q, s, H, h => by
    simp only [hasL, beq_eq_false_iff_ne] at h
    simp [wpA, h]
  | .skip, l, Q, s, H, _ | .reg _, l, Q, s, H, _ | .dreg _ _, l, Q, s, H, _ | .cond _ _ _, l, Q, s, H, _ | .block _ _, l, Q, s, H, _ | .loop _, l, Q, s, H, _ | .exit _, l, Q, s, H, _ | .scope _, l, Q, s, H, _ | .goto _, l, Q, s, H, _
  | .ret, l, Q, s, H, _ | .bad, l, Q, s, H, _ => by simp [wpA]

theorem LQ.then {Q : Exit → Fr → AH → Prop} {K : Fr → AH → Prop} {e : Exit} {K' : Act → World → Prop} (h : LQ B (thenA K Q) e a w) (hk : ∀ s H ρ Z, Inv B w ρ Z H s a → K s H → K' a w) : Exit.then K' (LQ B Q) e a w := by
  obtain ⟨s, H, ρ, Z, hi, q⟩ := h
  cases e with
  | normal =>
    obtain ⟨s', H', Z', hi', q'⟩ := hi.forget q
    exact hk s' H' ρ Z' hi' q'
  | _ => exact ⟨s, H, ρ, Z, hi, q⟩

theorem wpA_sound (hm : P.follows .mixedOrders = true) (c : Code) : dstsOk B.N (comp P fl c) = true → ∀ (Q : Exit → Fr → AH → Prop) (s : Fr) (H : AH) (w : World) (ρ : Loc) (Z : Nat → Prop) (a : Act), Inv B w ρ Z H s a →
    (wpA P (comp P fl c) none Q s H → c.wp P (LQ B Q) a w) ∧ ∀ l rest, findLabel c l = some rest → wpA P (comp P fl c) (some l) Q s H → rest.wp P (LQ B Q) a w := by
  induction c with
  | skip => exact fun _ Q s H w ρ Z a hi => ⟨fun h => wp_skip ⟨s, H, ρ, Z, hi, h⟩, fun l rest h => by simp [findLabel] at h⟩
  | region id ops d =>
    intro hd Q s H w ρ Z a hi
    refine ⟨fun h => ?_, fun l rest h => by simp [findLabel] at h⟩
    cases d with
    | false =>
      simp only [comp, dstsOk] at hd
      simp only [comp, wpA] at h
      exact wp_region_list (wpOps_list (K := Q .normal) (Q := LQ B Q) (fun a' w' ρ' Z' H' s' hi' k => ⟨s', H', ρ', Z', hi', k⟩) _ w ρ Z H s a hd hi h)
    | true =>
      simp only [comp] at hd h
      by_cases hok : drawOk ops (compOps P fl ops ops.toList) (min (lateFrom ops ops.size) ops.size) = true
      · rw [if_pos hok] at hd h
        simp only [dstsOk, Bool.and_eq_true] at hd
        simp only [wpA] at h
        obtain ⟨H0, D, hs1, hs2, hs3, h⟩ := h
        refine wp_dreg (K := Q .normal) hm (Nat.min_le_right _ _) hok ?_ (fun a' w' ρ' Z' H' s' hi' k => ⟨s', H', ρ', Z', hi', k⟩) hi hs1 hs2 hs3 h
        rw [← List.take_append_drop (min (lateFrom ops ops.size) ops.size) (compOps P fl ops ops.toList), List.all_append, hd.1, hd.2]
        rfl
      · rw [if_neg hok] at h
        simp [wpA] at h
  | seq x y ihx ihy =>
    intro hd Q s H w ρ Z a hi
    simp only [comp, dstsOk, Bool.and_eq_true] at hd
    refine ⟨fun h => ?_, fun l rest hl h => ?_⟩
    · simp only [comp, wpA] at h
      refine wp_seq (wp_mono ((ihx hd.1 _ s H w ρ Z a hi).1 h) fun e a' w' q => q.then fun s' H' ρ' Z' hi' k => (ihy hd.2 Q s' H' w' ρ' Z' a' hi').1 k)
    · simp only [comp, wpA] at h
      simp only [findLabel] at hl
      cases hx : findLabel x l with
      | some r =>
        rw [hx] at hl
        simp only [Option.some.injEq] at hl
        subst hl
        rw [if_pos ((hasL_spec x l).2 ⟨r, hx⟩)] at h
        exact wp_seq (wp_mono ((ihx hd.1 _ s H w ρ Z a hi).2 l r hx h) fun e a' w' q => q.then fun s' H' ρ' Z' hi' k => (ihy hd.2 Q s' H' w' ρ' Z' a' hi').1 k)
      | none =>
        rw [hx] at hl
        rw [if_neg (fun q => by obtain ⟨r, hr⟩ := (hasL_spec x l).1 q; rw [hx] at hr; cases hr)] at h
        exact (ihy hd.2 Q s H w ρ Z a hi).2 l rest hl h
  | cond x p q ihp ihq =>
    intro hd Q s H w ρ Z a hi
    simp only [comp, dstsOk, Bool.and_eq_true] at hd
    refine ⟨fun h => ?_, fun l rest hl => by simp [findLabel] at hl⟩
    simp only [comp, wpA] at h
    obtain ⟨b, h1, h2, h3⟩ := h
    have hr := ev_rl hi.fr h1
    have hb : a.eval x = .bool b := by
      generalize a.eval x = y at hr
      cases hr
      rfl
    exact wp_cond_split hb (fun e => (ihp hd.1 Q s H w ρ Z a hi).1 (h2 e)) (fun e => (ihq hd.2 Q s H w ρ Z a hi).1 (h3 e))
  | block id c ih =>
    intro hd Q s H w ρ Z a hi
    simp only [comp, dstsOk] at hd
    refine ⟨fun h => ?_, fun l rest hl => by simp [findLabel] at hl⟩
    simp only [comp, wpA] at h
    refine wp_block (wp_mono ((ih hd _ s H w ρ Z a hi).1 h) fun e a' w' q => ?_)
    obtain ⟨s', H', ρ', Z', hi', k⟩ := q
    cases e with
    | exit id' =>
      simp only [blockA] at k
      simp only [Exit.inBlock]
      split
      · rename_i e1; rw [if_pos e1] at k; exact ⟨s', H', ρ', Z', hi', k⟩
      · rename_i e1; rw [if_neg e1] at k; exact ⟨s', H', ρ', Z', hi', k⟩
    | _ => exact ⟨s', H', ρ', Z', hi', k⟩
  | loop c ih =>
    intro hd Q s H w ρ Z a hi
    simp only [comp, dstsOk] at hd
    refine ⟨fun h => ?_, fun l rest hl => by simp [findLabel] at hl⟩
    simp only [comp, wpA] at h
    obtain ⟨I, h0, hround⟩ := h
    obtain ⟨s0, H0, Z0, hi0, n0, h0⟩ := hi.forget h0
    refine wp_loop_n (fun n a w => ∃ s H ρ Z, Inv B w ρ Z H s a ∧ I n s H) ⟨n0, s0, H0, ρ, Z0, hi0, h0⟩ fun n a' w' ⟨s', H', ρ', Z', hi', k⟩ => ?_
    refine wp_mono ((ih hd _ s' H' w' ρ' Z' a' hi').1 (hround n s' H' k)) fun e a2 w2 q => q.then fun s2 H2 ρ2 Z2 hi2 ⟨m, hmn, hI⟩ => ⟨m, hmn, s2, H2, ρ2, Z2, hi2, hI⟩
  | rangeFunc f ps x y _ _ => exact fun _ Q s H w ρ Z a hi => ⟨fun h => by simp [comp, wpA] at h, fun l rest hl => by simp [findLabel] at hl⟩
  | exit id => exact fun _ Q s H w ρ Z a hi => ⟨fun h => wp_exit ⟨s, H, ρ, Z, hi, h⟩, fun l rest hl => by simp [findLabel] at hl⟩
  | scope c ih =>
    intro hd Q s H w ρ Z a hi
    simp only [comp, dstsOk] at hd
    refine ⟨fun h => ?_, fun l rest hl => by simp [findLabel] at hl⟩
    simp only [comp, wpA] at h
    obtain ⟨l, I, h0, hround⟩ := h
    have jump : ∀ {n : Nat} {J : Fr → AH → Prop} {J' : Act → World → Prop} {e : Exit} {a : Act} {w : World}, LQ B (jumpA l (Weak J) Q) e a w → (∀ s H ρ Z, Inv B w ρ Z H s a → J s H → J' a w) → Exit.jump l J' (LQ B Q) e a w := by
      intro n J J' e a w q hk
      obtain ⟨s, H, ρ, Z, hi, q⟩ := q
      cases e with
      | goto l' =>
        obtain ⟨s', H', Z', hi', q'⟩ := hi.forget q.2
        exact ⟨q.1, hk s' H' ρ Z' hi' q'⟩
      | _ => exact ⟨s, H, ρ, Z, hi, q⟩
    by_cases hL : hasL (comp P fl c) l = true
    · obtain ⟨rest, hrest⟩ := (hasL_spec c l).1 hL
      refine wp_scope_n l (fun n a w => ∃ s H ρ Z, Inv B w ρ Z H s a ∧ I n s H) hrest ?_ fun n a' w' ⟨s', H', ρ', Z', hi', k⟩ => ?_
      · exact wp_mono ((ih hd _ s H w ρ Z a hi).1 h0) fun e a2 w2 q => jump (n := 0) q fun s2 H2 ρ2 Z2 hi2 ⟨m, hI⟩ => ⟨m, s2, H2, ρ2, Z2, hi2, hI⟩
      · exact wp_mono ((ih hd _ s' H' w' ρ' Z' a' hi').2 l rest hrest (hround n s' H' k)) fun e a2 w2 q => jump (n := 0) q fun s2 H2 ρ2 Z2 hi2 ⟨m, hmn, hI⟩ => ⟨m, hmn, s2, H2, ρ2, Z2, hi2, hI⟩
    · have hno : ∀ n s H, ¬ I n s H := fun n s H q => wpA_noL (comp P fl c) l _ s H (by simpa using hL) (hround n s H q)
      refine wp_scope_straight (wp_mono ((ih hd _ s H w ρ Z a hi).1 h0) fun e a2 w2 q => ?_)
      obtain ⟨s2, H2, ρ2, Z2, hi2, q⟩ := q
      cases e with
      | goto l' => obtain ⟨_, _, _, _, _, m, hI⟩ := q; exact hno _ _ _ hI
      | _ => exact ⟨s2, H2, ρ2, Z2, hi2, q⟩
  | label l' =>
    refine fun _ Q s H w ρ Z a hi => ⟨fun h => wp_label ⟨s, H, ρ, Z, hi, h⟩, fun l rest hl h => ?_⟩
    simp only [findLabel] at hl
    split at hl
    · simp only [Option.some.injEq] at hl
      subst hl
      exact wp_skip ⟨s, H, ρ, Z, hi, h.2⟩
    · cases hl
  | goto l' => exact fun _ Q s H w ρ Z a hi => ⟨fun h => wp_goto ⟨s, H, ρ, Z, hi, h⟩, fun l rest hl => by simp [findLabel] at hl⟩
  | ret => exact fun _ Q s H w ρ Z a hi => ⟨fun h => wp_ret ⟨s, H, ρ, Z, hi, h⟩, fun l rest hl => by simp [findLabel] at hl⟩
  | refuse why => exact fun _ Q s H w ρ Z a hi => ⟨fun h => by simp [comp, wpA] at h, fun l rest hl => by simp [findLabel] at hl⟩

/-! ### Results -/
theorem results_run (hi : Inv B w ρ Z H s a) : ∀ (rs : List ResultVar) (vs : List AV), resL s H (compRes P rs) = some vs →
    ∃ xs : List Value, (rs.mapM fun r => (match r with
      | .tmp t => pure (a.tmps.getD t undef)
      | .cell b t => do loadVar t (← asAddr (a.tmps.getD b undef)) : Sem Value)).run P w = .ok xs w ∧ RlL w.heap ρ Z vs xs
  | [], vs, h => by
    simp only [compRes, resL, Option.some.injEq] at h
    subst h
    exact ⟨[], rfl, .nil⟩
  | .tmp t :: rs, vs, h => by
    simp only [compRes, resL, Option.bind_eq_some_iff, Option.some.injEq] at h
    obtain ⟨v, h1, us, h2, rfl⟩ := h
    obtain ⟨xs, h3, h4⟩ := results_run hi rs us h2
    refine ⟨a.tmps.getD t undef :: xs, ?_, .cons (hi.fr t v h1) h4⟩
    rw [List.mapM_cons]
    simp only [Sem.run_bind, Sem.run_pure, Result.andThen_ok]
    rw [h3]
    rfl
  | .cell b t :: rs, vs, h => by
    simp only [compRes, resL, Option.bind_eq_some_iff, Option.some.injEq] at h
    obtain ⟨v, h1, us, h2, rfl⟩ := h
    obtain ⟨xs, h3, h4⟩ := results_run hi rs us h2
    cases hn : aggSize P t with
    | none => simp [hn, resOne] at h1
    | some n =>
      simp only [hn, resOne, Option.bind_eq_some_iff] at h1
      obtain ⟨p, h5, cs, h6, h7⟩ := h1
      have hr := hi.fr b p h5
      obtain ⟨k, o, hx, hc⟩ := readA_rl hi.good hr h6
      obtain ⟨y, hy, hry⟩ := run_loadVar hn h7 hc
      refine ⟨y :: xs, ?_, .cons hry h4⟩
      have hadr : asAddr (a.tmps.getD b undef) = pure ⟨k, o, none⟩ := by rw [hx]; rfl
      rw [List.mapM_cons]
      simp only [hadr, Sem.run_bind, Sem.run_pure, Result.andThen_ok, hy, h3]

theorem resA_run {fn : Func} (hi : Inv B w ρ Z H s a) {r : AV} (h : resA s H (compRes P fn.results.toList) = some r) : ∃ x, (results fn a.tmps).run P w = .ok x w ∧ Rl w.heap ρ Z r x := by
  simp only [resA, Option.bind_eq_some_iff] at h
  obtain ⟨vs, h1, h2⟩ := h
  obtain ⟨xs, h3, h4⟩ := results_run hi _ _ h1
  have hm : (fn.results.mapM fun r => (match r with
      | .tmp t => pure (a.tmps.getD t undef)
      | .cell b t => do loadVar t (← asAddr (a.tmps.getD b undef)) : Sem Value)).run P w = .ok xs.toArray w := by
    rw [Array.mapM_eq_mapM_toList, Sem.run_map, h3]
    rfl
  have he : (results fn a.tmps).run P w = (Result.ok xs.toArray w).andThen (fun vs w' => .ok (if h : vs.size = 1 then vs[0] else .tuple vs) w') := by
    unfold results
    rw [Sem.run_bind]
    exact congrArg (fun r => Result.andThen r fun (vs : Array Value) w' => Result.ok (if h : vs.size = 1 then vs[0] else Value.tuple vs) w') hm
  refine ⟨_, he, ?_⟩
  split at h2
  · rename_i v
    simp only [Option.some.injEq] at h2
    subst h2
    have hl := h4.1
    obtain ⟨x, rfl⟩ : ∃ x, xs = [x] := by
      match xs, hl with
      | [x], _ => exact ⟨x, rfl⟩
    simpa using h4.2 0 v x rfl rfl
  · rename_i hne
    simp only [Option.some.injEq] at h2
    subst h2
    have hl := h4.1
    have hs : ¬ (xs.toArray.size = 1) := by
      intro q
      have : vs.length = 1 := by simpa [← hl] using q
      match vs, this with
      | [v], _ => exact hne v rfl
    rw [dif_neg hs]
    exact .tup vs xs hl h4.2

/-- A function's contract, out of its code. -/
theorem ACalls.of_code {f : Nat} {fn : Func} {c : Code} {args : List AV} {K : AV → AH → Prop} (hm : P.follows .mixedOrders = true) (hf : P.funcs[f]? = some fn) (hb : fn.body = some c) (hn : (fn.name == "runtime.NumGoroutine") = false)
    (hl : args.length ≤ fn.ntmps) (hd : dstsOk fn.ntmps (comp P fl c) = true) (h : wpA P (comp P fl c) none (endA (compRes P fn.results.toList) K) (initFr args) H) : ACalls P f args H K := by
  refine ⟨by unfold callable; rw [hf]; simp [hb, hn], fun w ρ Z xs g hr => ?_⟩
  refine calls_of_wp hf hb ?_
  let B : Beg := ⟨w, ρ, Z, Own ρ H, fn.ntmps⟩
  have hxl := hr.1
  have hi : Inv B w ρ Z H (initFr args) { tmps := xs.toArray ++ Array.replicate (fn.ntmps - xs.toArray.size) undef, defers := [] } := by
    refine ⟨g, fun t v hv => ?_, Ext.refl _ _ _ _, by simp [B]; omega, rfl⟩
    have hv' : args[t]? = some v := hv
    have hlt := (List.getElem?_eq_some_iff.1 hv').1
    have hx : xs[t]? = some (xs[t]'(by omega)) := List.getElem?_eq_getElem (by omega)
    have := hr.2 t v _ hv' hx
    have e : (xs.toArray ++ Array.replicate (fn.ntmps - xs.toArray.size) undef).getD t undef = xs[t]'(by omega) := by
      rw [Array.getD_eq_getD_getElem?, Array.getElem?_append_left (by simp; omega)]
      simp [show t < xs.length by omega]
    simp only
    rw [e]
    exact this
  refine wp_mono ((wpA_sound hm c hd _ _ H w ρ Z _ hi).1 h) fun e a' w' ⟨s', H', ρ', Z', hi', q⟩ => ?_
  have fin : OA (resA s' H' (compRes P fn.results.toList)) (fun r => K r H') → a'.defers = [] ∧ ∃ v, (results fn a'.tmps).run P w' = .ok v w' ∧ ∃ x r H' ρ' Z', Ending.returned v = .returned x ∧ Good w'.heap ρ' Z' H' ∧ Rl w'.heap ρ' Z' r x ∧ Ext w ρ Z (Own ρ H) w' ρ' Z' (Own ρ' H') ∧ K r H' := by
    intro q
    rw [OA_iff] at q
    obtain ⟨r, h1, h2⟩ := q
    obtain ⟨x, h3, h4⟩ := resA_run hi' h1
    exact ⟨hi'.defers, x, h3, x, r, H', ρ', Z', rfl, hi'.good, h4, hi'.ext, h2⟩
  cases e with
  | normal => exact fin q
  | ret => exact fin q
  | _ => exact q.elim

end
end Go.Proofs.Ytlmplofpclaokaa
