/- Texts of this proof, one behind the other: SimSound, CodeA, CodeT. -/
import Derived.Test.YtodiahhfpcdejaaPkT2
import Derived.Test.YtodiahhfpcdejaaProg
import Derived.KernelRfl
/- The predicate transformer is sound; contracts of functions out of their code. -/
namespace Go.Proofs.Ytodiahhfpcdejaa
set_option autoImplicit false
set_option linter.unusedSimpArgs false
set_option linter.unusedVariables false

theorem least_of {p : Nat → Prop} (h : ∃ n, p n) : ∃ n, p n ∧ ∀ m, p m → n ≤ m := by
  obtain ⟨n, hn⟩ := h
  induction n using Nat.strongRecOn with
  | _ n ih =>
    by_cases q : ∃ m, m < n ∧ p m
    · obtain ⟨m, hm, hp⟩ := q; exact ih m hm hp
    · exact ⟨n, hn, fun m hm => Classical.byContradiction fun r => q ⟨m, by omega, hm⟩⟩

noncomputable def leastN (p : Nat → Prop) : Nat := open Classical in if h : ∃ n, p n then Classical.choose (least_of h) else 0

theorem leastN_spec {p : Nat → Prop} (h : ∃ n, p n) : p (leastN p) ∧ ∀ m, p m → leastN p ≤ m := by
  unfold leastN
  rw [dif_pos h]
  exact Classical.choose_spec (least_of h)

section
variable {rd : Option Nat} {nn : Nat} {P : Program} {w : World} {ρ : Loc} {Z : Nat → Prop} {H : AH} {s : Fr} {a : Act} {B : Beg} {fl : List Nat}

theorem wp_loop_n {c : Code} {Q : Exit → Act → World → Prop} (I : Nat → Act → World → Prop) (h0 : ∃ n, I n a w) (round : ∀ n a w, I n a w → c.wpIn (FnR rd) nn P (Exit.then (fun a' w' => ∃ m, m < n ∧ I m a' w') Q) a w) : (Code.loop c).wpIn (FnR rd) nn P Q a w := by
  refine wpIn_loop (fun a w => ∃ n, I n a w) (fun a w => leastN fun n => I n a w) h0 fun a w hi => ?_
  obtain ⟨h1, _⟩ := leastN_spec hi
  refine wpIn_mono (round _ a w h1) fun e a' w' q => ?_
  cases e with
  | normal =>
    obtain ⟨m, hm, hI⟩ := q
    exact ⟨⟨m, hI⟩, Nat.lt_of_le_of_lt ((leastN_spec ⟨m, hI⟩).2 m hI) hm⟩
  | _ => exact q

theorem wp_scope_n {c rest : Code} {Q : Exit → Act → World → Prop} (l : Nat) (I : Nat → Act → World → Prop) (hf : findLabel c l = some rest) (first : c.wp P (Exit.jump l (fun a w => ∃ n, I n a w) Q) a w)
    (pass : ∀ n a w, I n a w → rest.wp P (Exit.jump l (fun a' w' => ∃ m, m < n ∧ I m a' w') Q) a w) : (Code.scope c).wp P Q a w := by
  refine wp_scope_jumps l (fun a w => ∃ n, I n a w) (fun a w => leastN fun n => I n a w) hf first fun a w hi => ?_
  obtain ⟨h1, _⟩ := leastN_spec hi
  refine wp_mono (pass _ a w h1) fun e a' w' q => ?_
  cases e with
  | goto l' =>
    obtain ⟨hl, m, hm, hI⟩ := q
    exact ⟨hl, ⟨m, hI⟩, Nat.lt_of_le_of_lt ((leastN_spec ⟨m, hI⟩).2 m hI) hm⟩
  | _ => exact q

theorem Inv.drew (hi : Inv B w ρ Z H s a) : Inv B { w with drawn := w.drawn + 1 } ρ Z H s a :=
  ⟨hi.good, hi.fr, hi.ext.trans ⟨Nat.le_refl _, fun _ _ _ => rfl, fun _ _ q => q, fun _ q => q, fun _ q => .inl q, fun _ _ q => q, fun _ q => .inl q, rfl, rfl, rfl⟩, hi.size, ⟨fun d hd => hi.defers.one d hd, hi.defers.nd⟩⟩

theorem Inv.sub {Hc : AH} (hi : Inv B w ρ Z H s a) (hs : Sub Hc H) : Inv B w ρ Z Hc s a :=
  ⟨hi.good.forget hs, hi.fr, { hi.ext with own := fun b q => hi.ext.own b (q.of_sub hs) }, hi.size, hi.defers⟩

theorem Inv.weak {s' : Fr} (hi : Inv B w ρ Z H s a) (hs : SubFr s' s) : Inv B w ρ Z H s' a :=
  ⟨hi.good, fun t v h => hi.fr t v (hs t v h), hi.ext, hi.size, hi.defers⟩

theorem Inv.forget {J : Fr → AH → Prop} (hi : Inv B w ρ Z H s a) (h : Weak J s H) : ∃ s' H' Z', Inv B w ρ Z' H' s' a ∧ J s' H' := by
  obtain ⟨s', H', h1, h2, h3⟩ := h
  refine ⟨s', H', fun b => Z b ∨ Drop ρ H H' b, ⟨hi.good.freeze h2, fun t v' h => ?_, ?_, hi.size, hi.defers⟩, h3⟩
  · obtain ⟨v, q1, q2⟩ := h1 t v' h
    exact q2.sound hi.good _ (hi.fr t v q1)
  · refine { hi.ext with zmono := fun b q => .inl (hi.ext.zmono b q), znew := fun b q => ?_, own := fun b q => hi.ext.own b (q.of_sub h2) }
    rcases q with q | q
    · exact hi.ext.znew b q
    · rcases hi.ext.own b q.own with q | q
      · exact .inr (.inl q)
      · exact .inr (.inr q)

def tyAt (os : List COp) (i : Nat) : Nat := match os[i]? with
  | some o => o.co.ty
  | none => 0
theorem tys_bound : ∀ os : List COp, ∃ K, ∀ i, tyAt os i ≤ K
  | [] => ⟨0, fun i => by simp [tyAt]⟩
  | o :: os => by
    obtain ⟨K, h⟩ := tys_bound os
    refine ⟨K + o.co.ty, fun i => ?_⟩
    cases i with
    | zero => simp [tyAt]
    | succ i => have := h i; simp [tyAt] at this ⊢; omega

theorem wp_dreg {id : Nat} {ops : Array Oper} {k : Nat} {K : Fr → AH → Prop} {Q : Exit → Act → World → Prop} (hm : P.follows .mixedOrders = true) (hkn : k ≤ ops.size) (hok : drawOk ops (compOps P fl ops ops.toList) k = true)
    (hd : (compOps P fl ops ops.toList).all (dstOk B.N) = true) (hQ : ∀ a' w' ρ' Z' H' s', Inv B w' ρ' Z' H' s' a' → K s' H' → Q .normal a' w') (hi : Inv B w ρ Z H s a)
    {H0 D : AH} (hsub : Sub H0 H) (hDH : Sub D H) (hdis : ∀ id b, hget D id = some b → hget H0 id = none)
    (h : wpDraw P ((compOps P fl ops ops.toList).take k) (fun s' H' => wpOps P ((compOps P fl ops ops.toList).drop k) K s' H') s H0 D [] H) : (Code.region id ops true).wpIn (FnR rd) nn P Q a w := by
  refine wpIn_region_any hm ?_
  obtain ⟨N, hN⟩ := hi.good.ids
  obtain ⟨K0, hK0⟩ := tys_bound ((compOps P fl ops ops.toList).take k)
  obtain ⟨idf, hidf⟩ : ∃ idf : Nat → Nat, ∀ i, idf i = 2 ^ (N + K0 + i) + tyAt ((compOps P fl ops ops.toList).take k) i := ⟨_, fun _ => rfl⟩
  have hlt : ∀ i, tyAt ((compOps P fl ops ops.toList).take k) i < 2 ^ (N + K0 + i) := fun i =>
    Nat.lt_of_lt_of_le (Nat.lt_of_le_of_lt (hK0 i) (lt_pow K0)) (Nat.pow_le_pow_right (by omega) (by omega))
  have htag : ∀ i, tag (idf i) = tyAt ((compOps P fl ops ops.toList).take k) i := fun i => by rw [hidf]; exact tag_mk (hlt i)
  have hge : ∀ i, N ≤ idf i := fun i => by
    rw [hidf]
    have := lt_pow (N + K0 + i)
    omega
  have hinj : ∀ i j, idf i = idf j → i = j := by
    have key : ∀ i j, i < j → idf i < idf j := fun i j hij => by
      have h1 := hlt i
      have h2 : 2 ^ (N + K0 + i + 1) ≤ 2 ^ (N + K0 + j) := Nat.pow_le_pow_right (by omega) (by omega)
      rw [Nat.pow_succ] at h2
      rw [hidf, hidf]
      omega
    intro i j q
    rcases Nat.lt_trichotomy i j with r | r | r
    · have := key i j r; omega
    · exact r
    · have := key j i r; omega
  have hid0 : ∀ j, hget H (idf j) = none := by
    intro j
    cases hh : hget H (idf j) with
    | none => rfl
    | some b => obtain ⟨p, q, r, _⟩ := hi.good.blk _ b hh; rw [hN _ (hge j)] at r; cases r
  obtain ⟨es, h1, h2, h3⟩ := wpDraw_effects (idf := idf) hinj _ 0 s D [] H (fun i o q => by rw [Nat.zero_add, htag]; unfold tyAt; rw [q]) h (fun j _ => hid0 j) (fun j _ => by
    cases q : hget D (idf j) with
    | none => rfl
    | some b => have := hDH _ _ q; rw [hid0] at this; cases this) (fun _ _ => rfl) (fun _ _ _ => rfl)
  have h4 : ∀ (i : Nat) id b b', es[i]? = some (.st id b b') → hget D id = some b.1 ∨ ∃ (j : Nat) (x : AV), j < i ∧ es[j]? = some (.nb x id b.1) := fun i id b b' q => by
    rcases h3.st i id b b' q with q | q | q
    · exact .inl q
    · cases q
    · exact .inr q
  have hlen : (compOps P fl ops ops.toList).length = ops.size := by rw [compOps_len]; simp
  have hel : es.length = k := by rw [h1, List.length_take, hlen]; omega
  have hi' := hi.drew
  refine early_any (s := s) (H0 := H0) (D := D) (H := H) (idf := idf) (es := es) hinj hkn hok hd hQ hel hid0 hsub hDH hdis h4 h3.un h3.ok h2 ops.size [] _ _ ρ Z H a (by simp) ?_
  exact ⟨hi'.good, hi'.ext, hi'.size, hi'.defers, hsub, fun _ _ q => .inr ⟨.inl q, fun _ _ _ q2 => by cases q2⟩, fun _ _ _ _ q => (by cases q), fun _ _ _ _ q => (by cases q), fun _ _ _ _ q => (by cases q), fun _ _ q _ => q, fun i _ => hN _ (hge i), fun _ _ _ _ _ q => (by cases q), fun t v hv _ => hi'.fr t v hv, fun _ _ q => (by cases q), fun _ q => (by cases q),
    List.nodup_nil, fun i => by
      have : (Array.replicate ops.size false).getD i false = false := by rw [Array.getD_eq_getD_getElem?, Array.getElem?_replicate]; split <;> rfl
      rw [this]; simp, by simp⟩

theorem hasL_spec : ∀ (c : Code) (l : Nat), hasL (comp P fl c) l = true ↔ ∃ rest, findLabel c l = some rest
  | .seq a b, l => by
    simp only [comp, hasL, Bool.or_eq_true, findLabel]
    rw [hasL_spec a l, hasL_spec b l]
    cases findLabel a l <;> simp
  | .label l', l => by
    simp only [comp, hasL, findLabel]
    by_cases h : l' = l <;> simp [h]
  | .region id ops d, l => by
    cases d with
    | false => simp [comp, hasL, findLabel]
    | true => simp only [comp, findLabel]; split <;> simp [hasL]
  | .skip, l | .cond _ _ _, l | .block _ _, l | .loop _, l | .rangeFunc _ _ _ _, l | .exit _, l | .scope _, l | .goto _, l | .ret, l | .refuse _, l => by simp [comp, hasL, findLabel]

theorem wpA_noL : ∀ (c : C) (l : Nat) (Q : Exit → Fr → AH → Prop) (s : Fr) (H : AH), hasL c l = false → ¬ wpA P c (some l) Q s H
  | .seq a b, l, Q, s, H, h => by
    simp only [hasL, Bool.or_eq_false_iff] at h
    simp only [wpA, h.1, Bool.false_eq_true, if_false]
    exact wpA_noL b l Q s H h.2
  | .label l', l, Q, s, H, h => by
    simp only [hasL, beq_eq_false_iff_ne] at h
    simp [wpA, h]
  | .skip, l, Q, s, H, _ | .reg _, l, Q, s, H, _ | .dreg _ _, l, Q, s, H, _ | .cond _ _ _, l, Q, s, H, _ | .block _ _, l, Q, s, H, _ | .loop _, l, Q, s, H, _ | .exit _, l, Q, s, H, _ | .scope _, l, Q, s, H, _ | .goto _, l, Q, s, H, _ | .rangeF _ _ _ _, l, Q, s, H, _
  | .ret, l, Q, s, H, _ | .bad, l, Q, s, H, _ => by simp [wpA]

theorem LQ.then {Q : Exit → Fr → AH → Prop} {K : Fr → AH → Prop} {e : Exit} {K' : Act → World → Prop} (h : LQ B (thenA K Q) e a w) (hk : ∀ s H ρ Z, Inv B w ρ Z H s a → K s H → K' a w) : Exit.then K' (LQ B Q) e a w := by
  obtain ⟨s, H, ρ, Z, hi, q⟩ := h
  cases e with
  | normal =>
    obtain ⟨s', H', Z', hi', q'⟩ := hi.forget q
    exact hk s' H' ρ Z' hi' q'
  | _ => exact ⟨s, H, ρ, Z, hi, q⟩

theorem wpA_sound (hm : P.follows .mixedOrders = true) (c : Code) (hrd : rd = none ∨ flatC (comp P fl c) = true) : dstsOk B.N (comp P fl c) = true → ∀ (Q : Exit → Fr → AH → Prop) (s : Fr) (H : AH) (w : World) (ρ : Loc) (Z : Nat → Prop) (a : Act), Inv B w ρ Z H s a →
    (wpA P (comp P fl c) none Q s H → c.wpIn (FnR rd) nn P (LQ B Q) a w) ∧ ∀ l rest, findLabel c l = some rest → wpA P (comp P fl c) (some l) Q s H → rest.wpIn (FnR rd) nn P (LQ B Q) a w := by
  induction c with
  | skip => exact fun _ Q s H w ρ Z a hi => ⟨fun h => wpIn_skip ⟨s, H, ρ, Z, hi, h⟩, fun l rest h => by simp [findLabel] at h⟩
  | region id ops d =>
    intro hd Q s H w ρ Z a hi
    refine ⟨fun h => ?_, fun l rest h => by simp [findLabel] at h⟩
    cases d with
    | false =>
      simp only [comp, dstsOk] at hd
      simp only [comp, wpA] at h
      exact wpIn_region_list (wpOps_list (K := Q .normal) (Q := LQ B Q) (fun a' w' ρ' Z' H' s' hi' k => ⟨s', H', ρ', Z', hi', k⟩) _ w ρ Z H s a hd hi h)
    | true =>
      simp only [comp] at hd h
      by_cases hok : drawOk ops (compOps P fl ops ops.toList) (min (lateFrom ops ops.size) ops.size) = true
      · rw [if_pos hok] at hd h
        simp only [dstsOk, Bool.and_eq_true] at hd
        simp only [wpA] at h
        obtain ⟨H0, D, hs1, hs2, hs3, h⟩ := h
        refine wp_dreg (K := Q .normal) hm (Nat.min_le_right _ _) hok ?_ (fun a' w' ρ' Z' H' s' hi' k => ⟨s', H', ρ', Z', hi', k⟩) hi hs1 hs2 hs3 h
        rw [← List.take_append_drop (min (lateFrom ops ops.size) ops.size) (compOps P fl ops ops.toList), List.all_append, hd.1, hd.2]
        rfl
      · rw [if_neg hok] at h
        simp [wpA] at h
  | seq x y ihx ihy =>
    intro hd Q s H w ρ Z a hi
    have ihx := ihx (hrd.imp (fun q => q) fun q => by simp only [comp, flatC, Bool.and_eq_true] at q; exact q.1)
    have ihy := ihy (hrd.imp (fun q => q) fun q => by simp only [comp, flatC, Bool.and_eq_true] at q; exact q.2)
    simp only [comp, dstsOk, Bool.and_eq_true] at hd
    refine ⟨fun h => ?_, fun l rest hl h => ?_⟩
    · simp only [comp, wpA] at h
      refine wpIn_seq (wpIn_mono ((ihx hd.1 _ s H w ρ Z a hi).1 h) fun e a' w' q => q.then fun s' H' ρ' Z' hi' k => (ihy hd.2 Q s' H' w' ρ' Z' a' hi').1 k)
    · simp only [comp, wpA] at h
      simp only [findLabel] at hl
      cases hx : findLabel x l with
      | some r =>
        rw [hx] at hl
        simp only [Option.some.injEq] at hl
        subst hl
        rw [if_pos ((hasL_spec x l).2 ⟨r, hx⟩)] at h
        exact wpIn_seq (wpIn_mono ((ihx hd.1 _ s H w ρ Z a hi).2 l r hx h) fun e a' w' q => q.then fun s' H' ρ' Z' hi' k => (ihy hd.2 Q s' H' w' ρ' Z' a' hi').1 k)
      | none =>
        rw [hx] at hl
        rw [if_neg (fun q => by obtain ⟨r, hr⟩ := (hasL_spec x l).1 q; rw [hx] at hr; cases hr)] at h
        exact (ihy hd.2 Q s H w ρ Z a hi).2 l rest hl h
  | cond x p q ihp ihq =>
    intro hd Q s H w ρ Z a hi
    have ihp := ihp (hrd.imp (fun q => q) fun q => by simp only [comp, flatC, Bool.and_eq_true] at q; exact q.1)
    have ihq := ihq (hrd.imp (fun q => q) fun q => by simp only [comp, flatC, Bool.and_eq_true] at q; exact q.2)
    simp only [comp, dstsOk, Bool.and_eq_true] at hd
    refine ⟨fun h => ?_, fun l rest hl => by simp [findLabel] at hl⟩
    simp only [comp, wpA] at h
    obtain ⟨b, h1, h2, h3⟩ := h
    have hr := ev_rl hi.fr h1
    have hb : a.eval x = .bool b := by
      generalize a.eval x = y at hr
      cases hr
      rfl
    exact wpIn_cond_split hb (fun e => (ihp hd.1 Q s H w ρ Z a hi).1 (h2 e)) (fun e => (ihq hd.2 Q s H w ρ Z a hi).1 (h3 e))
  | block id c ih =>
    intro hd Q s H w ρ Z a hi
    have ih := ih (hrd.imp (fun q => q) fun q => by simpa only [comp, flatC] using q)
    simp only [comp, dstsOk] at hd
    refine ⟨fun h => ?_, fun l rest hl => by simp [findLabel] at hl⟩
    simp only [comp, wpA] at h
    refine wpIn_block (wpIn_mono ((ih hd _ s H w ρ Z a hi).1 h) fun e a' w' q => ?_)
    obtain ⟨s', H', ρ', Z', hi', k⟩ := q
    cases e with
    | exit id' =>
      simp only [blockA] at k
      simp only [Exit.inBlock]
      split
      · rename_i e1; rw [if_pos e1] at k; exact ⟨s', H', ρ', Z', hi', k⟩
      · rename_i e1; rw [if_neg e1] at k; exact ⟨s', H', ρ', Z', hi', k⟩
    | _ => exact ⟨s', H', ρ', Z', hi', k⟩
  | loop c ih =>
    intro hd Q s H w ρ Z a hi
    have ih := ih (hrd.imp (fun q => q) fun q => by simpa only [comp, flatC] using q)
    simp only [comp, dstsOk] at hd
    refine ⟨fun h => ?_, fun l rest hl => by simp [findLabel] at hl⟩
    simp only [comp, wpA] at h
    obtain ⟨I, h0, hround⟩ := h
    obtain ⟨s0, H0, Z0, hi0, n0, h0⟩ := hi.forget h0
    refine wp_loop_n (fun n a w => ∃ s H ρ Z, Inv B w ρ Z H s a ∧ I n s H) ⟨n0, s0, H0, ρ, Z0, hi0, h0⟩ fun n a' w' ⟨s', H', ρ', Z', hi', k⟩ => ?_
    refine wpIn_mono ((ih hd _ s' H' w' ρ' Z' a' hi').1 (hround n s' H' k)) fun e a2 w2 q => q.then fun s2 H2 ρ2 Z2 hi2 ⟨m, hmn, hI⟩ => ⟨m, hmn, s2, H2, ρ2, Z2, hi2, hI⟩
  | rangeFunc g ps x y _ _ =>
    intro hd Q s H w ρ Z a hi
    refine ⟨fun h => ?_, fun l rest hl => by simp [findLabel] at hl⟩
    rcases hrd with hrd | hrd
    rotate_left
    · simp [comp, flatC] at hrd
    subst hrd
    simp only [comp, dstsOk] at hd
    simp only [comp, wpA] at h
    obtain ⟨f, first, caps, h1, h2⟩ := h
    have hx := ev_rl hi.fr h1
    generalize ex : a.eval g = xv at hx
    cases hx with
    | clo _ _ us _ vs hf hl hq hr =>
    obtain ⟨N0, hN0⟩ := hi.good.ids
    obtain ⟨lid, hle, htg⟩ := exists_tag N0 loopT
    have hlid : ρ lid = none := hN0 lid hle
    have hfresh : hget H lid = none := by
      cases hh : hget H lid with
      | none => rfl
      | some b =>
        obtain ⟨k, o, q, _⟩ := hi.good.blk lid b hh
        rw [hlid] at q
        cases q
    have hK := h2 x y fl B.N lid rfl rfl hd hfresh
    refine wpIn_rangeFunc (F := FnR none) fun fn _ => ?_
    obtain ⟨r0, hr0⟩ : ∃ r0 : Loop, r0 = { state := .ready, pending := none, fn, tmps := a.tmps, params := ps, assign := x, body := y, defers := w.heap.size } := ⟨_, rfl⟩
    obtain ⟨g1, e1, rl1⟩ := loop_new (L := ⟨ps.toList, x, y, B.N, s, .ready⟩) (r := r0) (D := .deferred (some [])) hi.good hlid htg (fun h' ρ' q1 q2 =>
      ⟨r0, q2, by rw [hr0]; exact ⟨rfl, rfl⟩, by rw [hr0], by rw [hr0], by rw [hr0], by rw [hr0]; exact hi.size, fun t v e => by rw [hr0]; exact q1 _ _ (hi.fr t v e)⟩)
    refine ⟨w.heap.size + 1, [{ target := .collected w.heap.size, args := #[] }], (w.alloc (.deferred (some []))).alloc (.loop r0), { target := .fn (.func f) vs.toArray, args := us.toArray ++ #[Value.func (.yield (w.heap.size + 1)) #[] #[]] }, (w.alloc (.deferred (some []))).alloc (.loop r0), f,
      (us ++ [Value.func (.yield (w.heap.size + 1)) #[] #[]] ++ vs).toArray, (w.alloc (.deferred (some []))).alloc (.loop r0), by rw [hr0]; exact run_enterLoop_outer _ _ _ _ _, ?_, fun _ _ => trivial, ?_, (fun q => by cases q), ?_⟩
    · simp only [resolve, rangeCall, Deferred.ofValue, ex]
      first | rfl | simp [Act.eval, Sem.run_pure]
    · simp only [invoke]
      rw [callFunc_run hK.1]
      congr 2
      simp
    have hargs : RlL ((w.alloc (.deferred (some []))).alloc (.loop r0)).heap (upd ρ lid (w.heap.size + 1, 0)) Z (first ++ [.yld lid] ++ caps) (us ++ [Value.func (.yield (w.heap.size + 1)) #[] #[]] ++ vs) :=
      (RlL.append ⟨hf, fun i v y q1 q2 => rl1 _ _ (hq i v y q1 q2)⟩ (RlL.cons (.yld lid _ 0 (by simp [upd])) .nil)).append ⟨hl, fun i v y q1 q2 => rl1 _ _ (hr i v y q1 q2)⟩
    refine callsIn_ff ((hK.2 _ _ _ _ g1 hargs).mono fun e w' ⟨xv, r, H', ρ', Z', q1, g', hv, ex', st, H1, hs1, hst, k⟩ => ?_)
    subst q1
    obtain ⟨b, o, hb1, r', hr1, hr2, _⟩ := g'.blk lid _ hst
    have hb0 : b = w.heap.size + 1 := by
      have := ex'.loc lid (w.heap.size + 1, 0) (by simp [upd])
      rw [hb1] at this
      simpa using congrArg (fun q => q.1) (Option.some.inj this)
    have sub1 : Sub H1 H' := fun j c q => by
      have := hs1 j c q
      rw [hget_hdel] at this
      split at this
      · cases this
      · exact this
    have nol : hget H1 lid = none := by
      cases hh : hget H1 lid with
      | none => rfl
      | some c =>
        have := hs1 _ _ hh
        rw [hget_hdel, if_pos rfl] at this
        cases this
    have hno : ¬ Own ρ' H1 b := by
      rintro ⟨j, bl, o2, q1, q2⟩
      have hne : j ≠ lid := fun e => by rw [e, nol] at q1; cases q1
      exact g'.inj j lid _ _ _ _ _ _ (sub1 _ _ q1) hst q2 hb1 hne rfl
    have hE : Ext B.w B.ρ B.Z B.O w' ρ' Z' (Own ρ' H1) := by
      have q := (hi.ext.trans e1).trans ex'
      exact { q with own := fun k h => q.own k (h.of_sub sub1) }
    have hBs : B.w.heap.size ≤ w.heap.size := hi.ext.size
    obtain ⟨g2, e2, rl2, oth2⟩ := dead_put (B := B) (ob' := .loop { r' with state := .exhausted }) (g'.forget sub1) hr1 (fun c t f q => by cases q) hno (fun t q => by
      unfold hty at q ⊢
      rw [hr1] at q
      rw [World.putObj_heap_same (Array.getElem?_eq_some_iff.1 hr1).1]; exact q) (by omega) hE
    have hD0 : ((w.alloc (.deferred (some []))).alloc (.loop r0)).heap[w.heap.size]? = some (.deferred (some [])) := by
      show ((w.heap.push _).push _)[w.heap.size]? = _
      rw [Array.getElem?_push, if_neg (by rw [Array.size_push]; omega), Array.getElem?_push, if_pos rfl]
    have hm1 : Marks B ((w.alloc (.deferred (some []))).alloc (.loop r0)) ({ target := .collected w.heap.size, args := #[] } :: a.defers) := by
      have q := hi.defers.ext hi.good e1
      refine ⟨fun d hd => ?_, List.pairwise_cons.2 ⟨fun d hd D q1 q2 => ?_, q.nd⟩⟩
      · rcases List.mem_cons.1 hd with rfl | hd
        · exact ⟨w.heap.size, rfl, hD0, hBs⟩
        · exact q.one d hd
      · obtain ⟨D', q3, q4, _⟩ := hi.defers.one d hd
        have : D' < w.heap.size := (Array.getElem?_eq_some_iff.1 q4).1
        rw [q2] at q3
        simp at q1 q3
        omega
    have hm2 := hm1.ext g1 ex'
    have inv : Inv B (w'.putObj b (.loop { r' with state := .exhausted })) ρ' Z' H1 s { a with defers := [{ target := .collected w.heap.size, args := #[] }] ++ a.defers } :=
      ⟨g2, fun t v q => rl2 _ _ ((rl1 _ _ (hi.fr t v q)).ext ex' g1.notZ g1.zlt), e2, hi.size, ⟨fun d hd => by
        obtain ⟨D, q1, q2, q3⟩ := hm2.one d hd
        refine ⟨D, q1, ?_, q3⟩
        rw [oth2 D (fun e => by rw [e, hr1] at q2; cases q2)]
        exact q2, hm2.nd⟩⟩
    cases st with
    | ready =>
      refine ⟨none, w'.putObj b (.loop { r' with state := .exhausted }), ?_, s, H1, ρ', Z', inv, k⟩
      have q := run_endLoop (P := P) hr1 (by rw [hr2.1]; simp)
      rw [← hb0]
      exact q.trans (congrArg (fun p => Result.ok p _) hr2.2)
    | busy => exact k.elim
    | done c =>
      refine ⟨some c, w'.putObj b (.loop { r' with state := .exhausted }), ?_, ?_⟩
      · have q := run_endLoop (P := P) hr1 (by rw [hr2.1]; simp)
        rw [← hb0]
        exact q.trans (congrArg (fun p => Result.ok p _) hr2.2)
      · cases c with
        | ret => exact wpIn_ret ⟨s, H1, ρ', Z', inv, k⟩
        | exit id => exact wpIn_exit ⟨s, H1, ρ', Z', inv, k⟩
        | _ => exact k.elim
  | exit id => exact fun _ Q s H w ρ Z a hi => ⟨fun h => wpIn_exit ⟨s, H, ρ, Z, hi, h⟩, fun l rest hl => by simp [findLabel] at hl⟩
  | scope c ih =>
    intro hd Q s H w ρ Z a hi
    rcases hrd with hrd | hrd
    rotate_left
    · simp [comp, flatC] at hrd
    subst hrd
    have ih := ih (.inl rfl)
    simp only [comp, dstsOk] at hd
    refine ⟨fun h => ?_, fun l rest hl => by simp [findLabel] at hl⟩
    simp only [comp, wpA] at h
    obtain ⟨l, I, h0, hround⟩ := h
    have jump : ∀ {n : Nat} {J : Fr → AH → Prop} {J' : Act → World → Prop} {e : Exit} {a : Act} {w : World}, LQ B (jumpA l (Weak J) Q) e a w → (∀ s H ρ Z, Inv B w ρ Z H s a → J s H → J' a w) → Exit.jump l J' (LQ B Q) e a w := by
      intro n J J' e a w q hk
      obtain ⟨s, H, ρ, Z, hi, q⟩ := q
      cases e with
      | goto l' =>
        obtain ⟨s', H', Z', hi', q'⟩ := hi.forget q.2
        exact ⟨q.1, hk s' H' ρ Z' hi' q'⟩
      | _ => exact ⟨s, H, ρ, Z, hi, q⟩
    by_cases hL : hasL (comp P fl c) l = true
    · obtain ⟨rest, hrest⟩ := (hasL_spec c l).1 hL
      refine wpIn_wide.2 (wp_scope_n l (fun n a w => ∃ s H ρ Z, Inv B w ρ Z H s a ∧ I n s H) hrest ((wpIn_wide (n := nn)).1 ?_) fun n a' w' ⟨s', H', ρ', Z', hi', k⟩ => (wpIn_wide (n := nn)).1 ?_)
      · exact wpIn_mono ((ih hd _ s H w ρ Z a hi).1 h0) fun e a2 w2 q => jump (n := 0) q fun s2 H2 ρ2 Z2 hi2 ⟨m, hI⟩ => ⟨m, s2, H2, ρ2, Z2, hi2, hI⟩
      · exact wpIn_mono ((ih hd _ s' H' w' ρ' Z' a' hi').2 l rest hrest (hround n s' H' k)) fun e a2 w2 q => jump (n := 0) q fun s2 H2 ρ2 Z2 hi2 ⟨m, hmn, hI⟩ => ⟨m, hmn, s2, H2, ρ2, Z2, hi2, hI⟩
    · have hno : ∀ n s H, ¬ I n s H := fun n s H q => wpA_noL (comp P fl c) l _ s H (by simpa using hL) (hround n s H q)
      refine wpIn_wide.2 (wp_scope_straight ((wpIn_wide (n := nn)).1 (wpIn_mono ((ih hd _ s H w ρ Z a hi).1 h0) fun e a2 w2 q => ?_)))
      obtain ⟨s2, H2, ρ2, Z2, hi2, q⟩ := q
      cases e with
      | goto l' => obtain ⟨_, _, _, _, _, m, hI⟩ := q; exact hno _ _ _ hI
      | _ => exact ⟨s2, H2, ρ2, Z2, hi2, q⟩
  | label l' =>
    refine fun _ Q s H w ρ Z a hi => ⟨fun h => wpIn_label ⟨s, H, ρ, Z, hi, h⟩, fun l rest hl h => ?_⟩
    simp only [findLabel] at hl
    split at hl
    · simp only [Option.some.injEq] at hl
      subst hl
      exact wpIn_skip ⟨s, H, ρ, Z, hi, h.2⟩
    · cases hl
  | goto l' => exact fun _ Q s H w ρ Z a hi => ⟨fun h => wpIn_goto ⟨s, H, ρ, Z, hi, h⟩, fun l rest hl => by simp [findLabel] at hl⟩
  | ret => exact fun _ Q s H w ρ Z a hi => ⟨fun h => wpIn_ret ⟨s, H, ρ, Z, hi, h⟩, fun l rest hl => by simp [findLabel] at hl⟩
  | refuse why => exact fun _ Q s H w ρ Z a hi => ⟨fun h => by simp [comp, wpA] at h, fun l rest hl => by simp [findLabel] at hl⟩

/-! ### Results -/
theorem results_run (hi : Inv B w ρ Z H s a) : ∀ (rs : List ResultVar) (vs : List AV), resL s H (compRes P rs) = some vs →
    ∃ xs : List Value, (rs.mapM fun r => (match r with
      | .tmp t => pure (a.tmps.getD t undef)
      | .cell b t => do loadVar t (← asAddr (a.tmps.getD b undef)) : Sem Value)).run P w = .ok xs w ∧ RlL w.heap ρ Z vs xs
  | [], vs, h => by
    simp only [compRes, resL, Option.some.injEq] at h
    subst h
    exact ⟨[], rfl, .nil⟩
  | .tmp t :: rs, vs, h => by
    simp only [compRes, resL, Option.bind_eq_some_iff, Option.some.injEq] at h
    obtain ⟨v, h1, us, h2, rfl⟩ := h
    obtain ⟨xs, h3, h4⟩ := results_run hi rs us h2
    refine ⟨a.tmps.getD t undef :: xs, ?_, .cons (hi.fr t v h1) h4⟩
    rw [List.mapM_cons]
    simp only [Sem.run_bind, Sem.run_pure, Result.andThen_ok]
    rw [h3]
    rfl
  | .cell b t :: rs, vs, h => by
    simp only [compRes, resL, Option.bind_eq_some_iff, Option.some.injEq] at h
    obtain ⟨v, h1, us, h2, rfl⟩ := h
    obtain ⟨xs, h3, h4⟩ := results_run hi rs us h2
    cases hn : aggSize P t with
    | none => simp [hn, resOne] at h1
    | some n =>
      simp only [hn, resOne, Option.bind_eq_some_iff] at h1
      obtain ⟨p, h5, cs, h6, h7⟩ := h1
      have hr := hi.fr b p h5
      obtain ⟨k, o, hx, hc⟩ := readA_rl hi.good hr h6
      obtain ⟨y, hy, hry⟩ := run_loadVar hn h7 hc
      refine ⟨y :: xs, ?_, .cons hry h4⟩
      have hadr : asAddr (a.tmps.getD b undef) = pure ⟨k, o, none⟩ := by rw [hx]; rfl
      rw [List.mapM_cons]
      simp only [hadr, Sem.run_bind, Sem.run_pure, Result.andThen_ok, hy, h3]

theorem resA_run {fn : Func} (hi : Inv B w ρ Z H s a) {r : AV} (h : resA s H (compRes P fn.results.toList) = some r) : ∃ x, (results fn a.tmps).run P w = .ok x w ∧ Rl w.heap ρ Z r x := by
  simp only [resA, Option.bind_eq_some_iff] at h
  obtain ⟨vs, h1, h2⟩ := h
  obtain ⟨xs, h3, h4⟩ := results_run hi _ _ h1
  have hm : (fn.results.mapM fun r => (match r with
      | .tmp t => pure (a.tmps.getD t undef)
      | .cell b t => do loadVar t (← asAddr (a.tmps.getD b undef)) : Sem Value)).run P w = .ok xs.toArray w := by
    rw [Array.mapM_eq_mapM_toList, Sem.run_map, h3]
    rfl
  have he : (results fn a.tmps).run P w = (Result.ok xs.toArray w).andThen (fun vs w' => .ok (if h : vs.size = 1 then vs[0] else .tuple vs) w') := by
    unfold results
    rw [Sem.run_bind]
    exact congrArg (fun r => Result.andThen r fun (vs : Array Value) w' => Result.ok (if h : vs.size = 1 then vs[0] else Value.tuple vs) w') hm
  refine ⟨_, he, ?_⟩
  split at h2
  · rename_i v
    simp only [Option.some.injEq] at h2
    subst h2
    have hl := h4.1
    obtain ⟨x, rfl⟩ : ∃ x, xs = [x] := by
      match xs, hl with
      | [x], _ => exact ⟨x, rfl⟩
    simpa using h4.2 0 v x rfl rfl
  · rename_i hne
    simp only [Option.some.injEq] at h2
    subst h2
    have hl := h4.1
    have hs : ¬ (xs.toArray.size = 1) := by
      intro q
      have : vs.length = 1 := by simpa [← hl] using q
      match vs, this with
      | [v], _ => exact hne v rfl
    rw [dif_neg hs]
    exact .tup vs xs hl h4.2

/-- A function's contract, out of its code. -/
theorem ACalls.of_code {f : Nat} {fn : Func} {c : Code} {args : List AV} {K : AV → AH → Prop} (hm : P.follows .mixedOrders = true) (hf : P.funcs[f]? = some fn) (hb : fn.body = some c) (hn : (fn.name == "runtime.NumGoroutine") = false)
    (hl : args.length ≤ fn.ntmps) (hd : dstsOk fn.ntmps (comp P fl c) = true) (h : wpA P (comp P fl c) none (endA (compRes P fn.results.toList) K) (initFr args) H) : ACalls P f args H K := by
  refine ⟨by unfold callable; rw [hf]; simp [hb, hn], fun w ρ Z xs g hr => ?_⟩
  refine callsIn_wide.1 (callsIn_of_wp_marks (n := 0) hf hb trivial ?_)
  let B : Beg := ⟨w, ρ, Z, Own ρ H, fn.ntmps⟩
  have hxl := hr.1
  have hi : Inv B w ρ Z H (initFr args) { tmps := xs.toArray ++ Array.replicate (fn.ntmps - xs.toArray.size) undef, defers := [] } := by
    refine ⟨g, fun t v hv => ?_, Ext.refl _ _ _ _, by simp [B]; omega, Marks.nil _ _⟩
    have hv' : args[t]? = some v := hv
    have hlt := (List.getElem?_eq_some_iff.1 hv').1
    have hx : xs[t]? = some (xs[t]'(by omega)) := List.getElem?_eq_getElem (by omega)
    have := hr.2 t v _ hv' hx
    have e : (xs.toArray ++ Array.replicate (fn.ntmps - xs.toArray.size) undef).getD t undef = xs[t]'(by omega) := by
      rw [Array.getD_eq_getD_getElem?, Array.getElem?_append_left (by simp; omega)]
      simp [show t < xs.length by omega]
    simp only
    rw [e]
    exact this
  refine wpIn_mono ((wpA_sound (rd := none) (nn := 0) hm c (.inl rfl) hd _ _ H w ρ Z _ hi).1 h) fun e a' w' ⟨s', H', ρ', Z', hi', q⟩ => ?_
  have fin : OA (resA s' H' (compRes P fn.results.toList)) (fun r => K r H') → LeavesInM Fence.wide 0 P fn a'.tmps (fun e w' => ∃ x r H' ρ' Z', e = .returned x ∧ Good w'.heap ρ' Z' H' ∧ Rl w'.heap ρ' Z' r x ∧ Ext w ρ Z (Own ρ H) w' ρ' Z' (Own ρ' H') ∧ K r H') a'.defers .returning w' := by
    intro q
    rw [OA_iff] at q
    obtain ⟨r, h1, h2⟩ := q
    refine marks_out (B := B) a'.defers w' hi'.good hi'.ext hi'.defers fun w2 g2 e2 rl2 => ?_
    have hi2 : Inv B w2 ρ' Z' H' s' { a' with defers := [] } := ⟨g2, fun t v q => rl2 _ _ (hi'.fr t v q), e2, hi'.size, Marks.nil _ _⟩
    obtain ⟨x, h3, h4⟩ := resA_run hi2 h1
    exact ⟨x, h3, x, r, H', ρ', Z', rfl, g2, h4, e2, h2⟩
  cases e with
  | normal => exact fin q
  | ret => exact fin q
  | _ => exact q.elim

/-! ### Rounds -/
def setPs : Fr → List Nat → List AV → Fr
  | s, p :: ps, v :: vs => setPs (s.set p v) ps vs
  | s, _, _ => s
/-- What a round's body comes to. -/
def roundA (lid : Nat) (L : LoopB) (K : AV → AH → Prop) : Exit → Fr → AH → Prop
  | .normal, _, H => hget H lid = some (.loop { L with st := .busy }) ∧ K (.bool true) (hset H lid (.loop { L with st := .ready }))
  | .ret, _, H => hget H lid = some (.loop { L with st := .busy }) ∧ K (.bool false) (hset H lid (.loop { L with st := .done .ret }))
  | .exit id, _, H => hget H lid = some (.loop { L with st := .busy }) ∧ K (.bool false) (hset H lid (.loop { L with st := .done (.exit id) }))
  | _, _, _ => False
theorem setPs_fr {h : Array Obj} : ∀ (ps : List Nat) (args : List AV) (xs : List Value) (s : Fr) (tmps : Array Value), RlL h ρ Z args xs → args.length = ps.length → (∀ p ∈ ps, p < tmps.size) → (∀ t v, s t = some v → Rl h ρ Z v (tmps.getD t undef)) →
    ((ps.zip xs).foldl (fun (t : Array Value) (q : Nat × Value) => t.setIfInBounds q.1 q.2) tmps).size = tmps.size ∧
    ∀ t v, setPs s ps args t = some v → Rl h ρ Z v (((ps.zip xs).foldl (fun (t : Array Value) (q : Nat × Value) => t.setIfInBounds q.1 q.2) tmps).getD t undef)
  | [], args, xs, s, tmps, hr, hl, hp, hf => by
    refine ⟨rfl, fun t v q => ?_⟩
    have e : args = [] := List.eq_nil_of_length_eq_zero hl
    subst e
    exact hf t v q
  | p :: ps, args, xs, s, tmps, hr, hl, hp, hf => by
    match args, xs, hl, hr with
    | v :: args, [], hl, hr => exact absurd hr.1 (by simp)
    | v :: args, x :: xs, hl, hr =>
      have hpl := hp p List.mem_cons_self
      have hv : Rl h ρ Z v x := hr.2 0 v x rfl rfl
      have hr' : RlL h ρ Z args xs := ⟨by simpa using hr.1, fun i a b q1 q2 => hr.2 (i + 1) a b (by simpa using q1) (by simpa using q2)⟩
      have ih := setPs_fr ps args xs (s.set p v) (tmps.setIfInBounds p x) hr' (by simpa using hl) (fun q hq => by rw [Array.size_setIfInBounds]; exact hp q (List.mem_cons_of_mem _ hq)) (fun t u q => by
        rw [Array.getD_eq_getD_getElem?, Array.getElem?_setIfInBounds]
        simp only [Fr.set] at q
        split at q
        · rename_i e
          cases q
          rw [if_pos e.symm, if_pos hpl]
          exact hv
        · rename_i e
          rw [if_neg (fun e2 => e e2.symm), ← Array.getD_eq_getD_getElem?]
          exact hf t u q)
      rw [Array.size_setIfInBounds] at ih
      exact ih
/-- A round's contract out of the loop's body. -/
theorem AYields.of_body {ps : List Nat} {a b : Code} {fl : List Nat} {N lid : Nat} {s : Fr} {ca cb : C} {args : List AV} {H : AH} {K : AV → AH → Prop} (hm : P.follows .mixedOrders = true) (ha : comp P fl a = ca) (hb : comp P fl b = cb)
    (hd : (dstsOk N ca && dstsOk N cb && ps.all fun p => decide (p < N)) = true) (hfa : flatC ca = true) (hfb : flatC cb = true) (hl : args.length = ps.length) (hid : hget H lid = some (.loop ⟨ps, a, b, N, s, .ready⟩))
    (h : wpA P ca none (thenA (fun s' H' => hget H' lid = some (.loop ⟨ps, a, b, N, s, .ready⟩) ∧ wpA P cb none (roundA lid ⟨ps, a, b, N, s, .ready⟩ K) s' (hset H' lid (.loop ⟨ps, a, b, N, s, .busy⟩))) (fun _ _ _ => False)) (setPs s ps args) H) : AYields P lid args H K := by
  intro m w ρ Z xs b0 o g hr hρ
  simp only [Bool.and_eq_true, List.all_eq_true, decide_eq_true_eq] at hd
  obtain ⟨⟨hda, hdb⟩, hdp⟩ := hd
  obtain ⟨b1, o1, hb1, r, hr1, ⟨hst, hpd⟩, hps, hra, hrb, hsz, hfr⟩ := g.blk lid _ hid
  rw [hρ] at hb1
  obtain ⟨rfl, rfl⟩ : b0 = b1 ∧ o = o1 := by simpa using hb1
  dsimp only at hps hra hrb hsz hfr
  have hxl : xs.length = ps.length := by rw [← hr.1, hl]
  have hy := run_yield (P := P) (args := xs.toArray) hr1 (by rw [hps]; simpa using hxl)
  refine ⟨r.fn, _, r.assign, r.body, hy, ?_⟩
  rw [hra, hrb]
  obtain ⟨z1, z2⟩ := setPs_fr ps args xs s r.tmps hr hl (fun p hp => by rw [hsz]; exact hdp p hp) hfr
  have hz : (r.params.zip xs.toArray).foldl (fun (t : Array Value) (q : Nat × Value) => t.setIfInBounds q.1 q.2) r.tmps = (ps.zip xs).foldl (fun (t : Array Value) (q : Nat × Value) => t.setIfInBounds q.1 q.2) r.tmps := by
    rw [hps]; simp
  have hz' : (r.params.zip xs.toArray).foldl (fun tmps (t, a) => tmps.setIfInBounds t a) r.tmps = (ps.zip xs).foldl (fun (t : Array Value) (q : Nat × Value) => t.setIfInBounds q.1 q.2) r.tmps := hz
  rw [hz']
  let B : Beg := ⟨w, ρ, Z, Own ρ H, N⟩
  have hi : Inv B w ρ Z H (setPs s ps args) { tmps := (ps.zip xs).foldl (fun (t : Array Value) (q : Nat × Value) => t.setIfInBounds q.1 q.2) r.tmps, defers := [] } := ⟨g, z2, Ext.refl _ _ _ _, by rw [z1]; exact hsz, Marks.nil _ _⟩
  refine roundIn_of_wpIn (F := Fence.wide) trivial ?_
  rw [← ha] at h
  have qa := (wpA_sound (rd := some b0) (nn := m) (fl := fl) (B := B) hm a (.inr (by rw [ha]; exact hfa)) (by rw [ha]; exact hda) _ _ H w ρ Z _ hi).1 h
  refine wpIn_mono qa fun e a1 w1 ⟨s1, H1, ρ1, Z1, hi1, k⟩ => ?_
  cases e with
  | normal =>
    obtain ⟨s', H', Z', hi', q1, q2⟩ := hi1.forget k
    obtain ⟨b2, o2, hb2, r2, hr2, ⟨hst2, hpd2⟩, hps2, hra2, hrb2, hsz2, hfr2⟩ := hi'.good.blk lid _ q1
    have hb3 := hi'.ext.loc lid _ hρ
    rw [hb2] at hb3
    obtain ⟨rfl, rfl⟩ : b2 = b0 ∧ o2 = o := by simpa using hb3
    refine ⟨_, run_beginRound hr2 hst2, ?_⟩
    obtain ⟨g3, e3, rl3⟩ := loop_put (L' := ⟨ps, a, b, N, s, .busy⟩) (r' := { r2 with state := .busy }) hi'.good q1 hb2 hr2 (fun h' f hh => ⟨_, hh, rfl, hps2, hra2, hrb2, hsz2, fun t v q => f _ _ (hfr2 t v q)⟩)
    have hi3 : Inv B _ ρ1 Z' (hset H' lid (.loop ⟨ps, a, b, N, s, .busy⟩)) s' a1 := ⟨g3, fun t v q => rl3 _ _ (hi'.fr t v q), hi'.ext.trans e3, hi'.size, hi'.defers.ext hi'.good e3⟩
    rw [← hb] at q2
    have qb := (wpA_sound (rd := some b2) (nn := m) (fl := fl) (B := B) hm b (.inr (by rw [hb]; exact hfb)) (by rw [hb]; exact hdb) _ _ _ _ ρ1 Z' _ hi3).1 q2
    refine wpIn_mono qb fun e a4 w4 ⟨s4, H4, ρ4, Z4, hi4, k4⟩ => ?_
    have fin : ∀ (jump : Option Code) (st : LSt), (match st with | .ready => jump = none | .busy => False | .done c => jump = some c) → hget H4 lid = some (.loop ⟨ps, a, b, N, s, .busy⟩) → K (.bool jump.isNone) (hset H4 lid (.loop ⟨ps, a, b, N, s, st⟩)) →
        ∃ v w', (Instr.endRound b2 jump).run P w4 = .ok v w' ∧ ∃ x r H' ρ' Z', Ending.returned v = .returned x ∧ Good w'.heap ρ' Z' H' ∧ Rl w'.heap ρ' Z' r x ∧ Ext w ρ Z (Own ρ H) w' ρ' Z' (Own ρ' H') ∧ K r H' := by
      intro jump st hj h1 h2
      obtain ⟨b5, o5, hb5, r5, hr5, hst5, hps5, hra5, hrb5, hsz5, hfr5⟩ := hi4.good.blk lid _ h1
      have hb6 := hi4.ext.loc lid _ hρ
      rw [hb5] at hb6
      obtain ⟨rfl, rfl⟩ : b5 = b2 ∧ o5 = o2 := by simpa using hb6
      obtain ⟨g6, e6, _⟩ := loop_put (L' := ⟨ps, a, b, N, s, st⟩) (r' := { r5 with state := if jump.isNone then .ready else .done, pending := jump }) hi4.good h1 hb5 hr5 (fun h' f hh => ⟨_, hh, by
        cases st with
        | ready => simp only at hj; subst hj; exact ⟨rfl, rfl⟩
        | busy => exact hj.elim
        | done c => simp only at hj; subst hj; exact ⟨rfl, rfl⟩, hps5, hra5, hrb5, hsz5, fun t v q => f _ _ (hfr5 t v q)⟩)
      exact ⟨_, _, run_endRound jump hr5, _, .bool jump.isNone, _, ρ4, Z4, rfl, g6, .bool _, hi4.ext.trans e6, h2⟩
    cases e with
    | normal => exact fin none .ready rfl k4.1 k4.2
    | ret => exact fin (some .ret) (.done .ret) rfl k4.1 k4.2
    | exit id => exact fin (some (.exit id)) (.done (.exit id)) rfl k4.1 k4.2
    | _ => exact k4.elim
  | _ => exact k.elim

end
end Go.Proofs.Ytodiahhfpcdejaa

/- Each function's translation is, by reckoning, the abstract code that is written out here; its contract follows from the predicate transformer over that code. -/
namespace Go.Proofs.Ytodiahhfpcdejaa
set_option autoImplicit false
set_option maxRecDepth 100000
noncomputable abbrev PG : Program := Try.prog
theorem mixed : PG.follows .mixedOrders = true := by kernel_rfl
abbrev ty_int64 : Nat := 2
abbrev ty_int : Nat := 3
abbrev ty_bool : Nat := 4
abbrev ty_uint8 : Nat := 5
abbrev ty_abi_BoundsErrorCode : Nat := 6
abbrev ty_runtime_boundsError : Nat := 8
abbrev ty_string : Nat := 9
abbrev ty_runtime_errorString : Nat := 10
abbrev ty_runtime_plainError : Nat := 11
abbrev ty_uintptr : Nat := 12
abbrev ty_runtime_errorAddressString : Nat := 14
abbrev ty_P_runtime_TypeAssertionError : Nat := 15
abbrev ty_P_runtime_PanicNilError : Nat := 16
abbrev ty_P_abi_Type : Nat := 17
abbrev ty_maps_unhashableTypeError : Nat := 19
abbrev ty_int32 : Nat := 21
abbrev ty_S_api_Type : Nat := 22
abbrev ty_uint64 : Nat := 23
abbrev ty_S_api_Value : Nat := 24
abbrev ty_api_Value : Nat := 26
abbrev ty_api_Errno : Nat := 30
abbrev ty_S_api_Item : Nat := 35
abbrev ty_api_Type : Nat := 37
abbrev ty_api_Item : Nat := 39
abbrev ty_S_api_Step : Nat := 44
abbrev ty_broadsheetlaw12_Where : Nat := 46
abbrev ty_api_Fault : Nat := 49
abbrev ty_S_int : Nat := 53
abbrev ty_api_Key : Nat := 57
abbrev ty_S_api_Key : Nat := 64
abbrev ty_S_S_int : Nat := 65
abbrev ty_fits_asker : Nat := 70
abbrev ty_api_Step : Nat := 79
abbrev ty_P_types_look : Nat := 83
abbrev ty_types_look : Nat := 85
abbrev ty_P_strings_Builder : Nat := 91
abbrev ty_S_uint8 : Nat := 92
abbrev ty_strings_Builder : Nat := 94
abbrev ty_error : Nat := 96
abbrev ty_uint : Nat := 105
abbrev ty_key_group : Nat := 108
abbrev ty_path_piece : Nat := 127
abbrev ty_prim_row : Nat := 135
abbrev ty_P_uint8 : Nat := 138
abbrev ty_unsafe_Pointer : Nat := 150
abbrev ty_S_string : Nat := 158
abbrev ty_runtime_TypeAssertionError : Nat := 163
abbrev ty_runtime_PanicNilError : Nat := 166
abbrev ty_uint32 : Nat := 167
abbrev ty_abi_TFlag : Nat := 168
abbrev ty_abi_Kind : Nat := 169
abbrev ty_abi_NameOff : Nat := 171
abbrev ty_abi_TypeOff : Nat := 172
abbrev ty_abi_Type : Nat := 174
def strings_Builder_WriteByte.n : Nat := 58
noncomputable def strings_Builder_WriteByte.c : C := (.seq (.reg [⟨(some 4), none, (.mv (.c .nilI))⟩]) (.seq (.reg [⟨(some 5), none, (.mv (.t 0))⟩, ⟨(some 6), none, (.call 91 [(.t 5)])⟩]) (.seq (.reg [⟨(some 7), none, (.mv (.t 0))⟩, ⟨(some 8), none, (.mv (.t 0))⟩, ⟨(some 9), none, (.nilck (.t 8))⟩, ⟨(some 10), none, (.faddr 1 (.t 9))⟩, ⟨(some 11), none, (.load none (.t 10))⟩, ⟨(some 12), none, (.mv (.t 1))⟩, ⟨(some 13), none, (.bslice 5 1 1 [(.int .u8 0)] [(0, (.t 12))])⟩, ⟨(some 14), none, (.append 5 false 1 1 (.t 11) (.t 13))⟩, ⟨(some 15), none, (.nilck (.t 7))⟩, ⟨(some 16), none, (.faddr 1 (.t 15))⟩, ⟨none, none, (.store 1 (.t 16) (.t 14))⟩]) (.seq (.reg [⟨(some 4), none, (.mv (.c .nilI))⟩]) .ret))))
theorem strings_Builder_WriteByte.code : comp PG [] (Try.f58.body.getD .skip) = strings_Builder_WriteByte.c := by kernel_rfl
theorem strings_Builder_WriteByte.of {args : List AV} {H : AH} {K : AV → AH → Prop} (hl : args.length = 2) (h : wpA PG strings_Builder_WriteByte.c none (endA [(.t 4)] K) (initFr args) H) : ACalls PG 58 args H K :=
  ACalls.of_code (fl := []) mixed Try.func58 (c := Try.f58.body.getD .skip) (by kernel_rfl) (by kernel_rfl) (by rw [hl]; exact of_decide_eq_true (by kernel_rfl)) (by rw [strings_Builder_WriteByte.code]; kernel_rfl)
    (by rw [strings_Builder_WriteByte.code, show compRes PG Try.f58.results.toList = [(.t 4)] from by kernel_rfl]; exact h)
def strings_Builder_WriteString.n : Nat := 59
noncomputable def strings_Builder_WriteString.c : C := (.seq (.reg [⟨(some 4), none, (.mv (.c (.int .i64 0)))⟩, ⟨(some 5), none, (.mv (.c .nilI))⟩]) (.seq (.reg [⟨(some 6), none, (.mv (.t 0))⟩, ⟨(some 7), none, (.call 91 [(.t 6)])⟩]) (.seq (.reg [⟨(some 8), none, (.mv (.t 0))⟩, ⟨(some 9), none, (.mv (.t 0))⟩, ⟨(some 10), none, (.nilck (.t 9))⟩, ⟨(some 11), none, (.faddr 1 (.t 10))⟩, ⟨(some 12), none, (.load none (.t 11))⟩, ⟨(some 13), none, (.mv (.t 1))⟩, ⟨(some 14), none, (.append 5 true 1 1 (.t 12) (.t 13))⟩, ⟨(some 15), none, (.nilck (.t 8))⟩, ⟨(some 16), none, (.faddr 1 (.t 15))⟩, ⟨none, none, (.store 1 (.t 16) (.t 14))⟩]) (.seq (.reg [⟨(some 17), none, (.mv (.t 1))⟩, ⟨(some 18), none, (.len true (.t 17))⟩, ⟨(some 4), none, (.mv (.t 18))⟩, ⟨(some 5), none, (.mv (.c .nilI))⟩]) .ret))))
theorem strings_Builder_WriteString.code : comp PG [] (Try.f59.body.getD .skip) = strings_Builder_WriteString.c := by kernel_rfl
theorem strings_Builder_WriteString.of {args : List AV} {H : AH} {K : AV → AH → Prop} (hl : args.length = 2) (h : wpA PG strings_Builder_WriteString.c none (endA [(.t 4), (.t 5)] K) (initFr args) H) : ACalls PG 59 args H K :=
  ACalls.of_code (fl := []) mixed Try.func59 (c := Try.f59.body.getD .skip) (by kernel_rfl) (by kernel_rfl) (by rw [hl]; exact of_decide_eq_true (by kernel_rfl)) (by rw [strings_Builder_WriteString.code]; kernel_rfl)
    (by rw [strings_Builder_WriteString.code, show compRes PG Try.f59.results.toList = [(.t 4), (.t 5)] from by kernel_rfl]; exact h)
def strings_Builder_Len.n : Nat := 62
noncomputable def strings_Builder_Len.c : C := (.seq (.reg [⟨(some 2), none, (.mv (.c (.int .i64 0)))⟩]) (.seq (.reg [⟨(some 3), none, (.mv (.t 0))⟩, ⟨(some 4), none, (.nilck (.t 3))⟩, ⟨(some 5), none, (.faddr 1 (.t 4))⟩, ⟨(some 6), none, (.load none (.t 5))⟩, ⟨(some 7), none, (.len false (.t 6))⟩, ⟨(some 2), none, (.mv (.t 7))⟩]) .ret))
theorem strings_Builder_Len.code : comp PG [] (Try.f62.body.getD .skip) = strings_Builder_Len.c := by kernel_rfl
theorem strings_Builder_Len.of {args : List AV} {H : AH} {K : AV → AH → Prop} (hl : args.length = 1) (h : wpA PG strings_Builder_Len.c none (endA [(.t 2)] K) (initFr args) H) : ACalls PG 62 args H K :=
  ACalls.of_code (fl := []) mixed Try.func62 (c := Try.f62.body.getD .skip) (by kernel_rfl) (by kernel_rfl) (by rw [hl]; exact of_decide_eq_true (by kernel_rfl)) (by rw [strings_Builder_Len.code]; kernel_rfl)
    (by rw [strings_Builder_Len.code, show compRes PG Try.f62.results.toList = [(.t 2)] from by kernel_rfl]; exact h)
def strings_Builder_String.n : Nat := 63
noncomputable def strings_Builder_String.c : C := (.seq (.reg [⟨(some 2), none, (.mv (.c (.str [])))⟩]) (.seq (.dreg [⟨(some 3), none, (.mv (.t 0))⟩, ⟨(some 4), none, (.nilck (.t 3))⟩, ⟨(some 5), none, (.faddr 1 (.t 4))⟩, ⟨(some 6), none, (.load none (.t 5))⟩, ⟨(some 7), none, (.sdata (.t 6))⟩, ⟨(some 8), none, (.mv (.t 0))⟩, ⟨(some 9), none, (.nilck (.t 8))⟩, ⟨(some 10), none, (.faddr 1 (.t 9))⟩, ⟨(some 11), none, (.load none (.t 10))⟩, ⟨(some 12), none, (.len false (.t 11))⟩] [⟨(some 13), none, (.ustr 5 (.t 7) (.t 12))⟩, ⟨(some 2), none, (.mv (.t 13))⟩]) .ret))
theorem strings_Builder_String.code : comp PG [] (Try.f63.body.getD .skip) = strings_Builder_String.c := by kernel_rfl
theorem strings_Builder_String.of {args : List AV} {H : AH} {K : AV → AH → Prop} (hl : args.length = 1) (h : wpA PG strings_Builder_String.c none (endA [(.t 2)] K) (initFr args) H) : ACalls PG 63 args H K :=
  ACalls.of_code (fl := []) mixed Try.func63 (c := Try.f63.body.getD .skip) (by kernel_rfl) (by kernel_rfl) (by rw [hl]; exact of_decide_eq_true (by kernel_rfl)) (by rw [strings_Builder_String.code]; kernel_rfl)
    (by rw [strings_Builder_String.code, show compRes PG Try.f63.results.toList = [(.t 2)] from by kernel_rfl]; exact h)
def strings_Builder_copyCheck.n : Nat := 91
noncomputable def strings_Builder_copyCheck.c : C := (.seq (.reg [⟨(some 2), none, (.mv (.t 0))⟩, ⟨(some 3), none, (.nilck (.t 2))⟩, ⟨(some 4), none, (.faddr 0 (.t 3))⟩, ⟨(some 5), none, (.load none (.t 4))⟩, ⟨(some 6), none, (.ncmpP false (.t 5))⟩]) (.cond (.t 6) (.reg [⟨(some 7), none, (.mv (.t 0))⟩, ⟨(some 8), none, (.mv (.t 0))⟩, ⟨(some 9), none, (.idu (.t 8))⟩, ⟨(some 10), none, (.ext .same [(.t 9)])⟩, ⟨(some 11), none, (.idf [(94, (2, 0))] (.t 10))⟩, ⟨(some 12), none, (.nilck (.t 7))⟩, ⟨(some 13), none, (.faddr 0 (.t 12))⟩, ⟨none, none, (.store 1 (.t 13) (.t 11))⟩]) (.seq (.reg [⟨(some 14), none, (.mv (.t 0))⟩, ⟨(some 15), none, (.nilck (.t 14))⟩, ⟨(some 16), none, (.faddr 0 (.t 15))⟩, ⟨(some 17), none, (.load none (.t 16))⟩, ⟨(some 18), none, (.mv (.t 0))⟩, ⟨(some 19), none, (.peq true (.t 17) (.t 18))⟩]) (.cond (.t 19) .bad .skip))))
theorem strings_Builder_copyCheck.code : comp PG [] (Try.f91.body.getD .skip) = strings_Builder_copyCheck.c := by kernel_rfl
theorem strings_Builder_copyCheck.of {args : List AV} {H : AH} {K : AV → AH → Prop} (hl : args.length = 1) (h : wpA PG strings_Builder_copyCheck.c none (endA [] K) (initFr args) H) : ACalls PG 91 args H K :=
  ACalls.of_code (fl := []) mixed Try.func91 (c := Try.f91.body.getD .skip) (by kernel_rfl) (by kernel_rfl) (by rw [hl]; exact of_decide_eq_true (by kernel_rfl)) (by rw [strings_Builder_copyCheck.code]; kernel_rfl)
    (by rw [strings_Builder_copyCheck.code, show compRes PG Try.f91.results.toList = [] from by kernel_rfl]; exact h)
def strings_IndexByte.n : Nat := 97
noncomputable def strings_IndexByte.c : C := (.seq (.reg [⟨(some 4), none, (.mv (.c (.int .i64 0)))⟩]) (.seq (.reg [⟨(some 5), none, (.mv (.t 0))⟩, ⟨(some 6), none, (.mv (.t 1))⟩, ⟨(some 7), none, (.call 121 [(.t 5), (.t 6)])⟩, ⟨(some 4), none, (.mv (.t 7))⟩]) .ret))
theorem strings_IndexByte.code : comp PG [] (Try.f97.body.getD .skip) = strings_IndexByte.c := by kernel_rfl
theorem strings_IndexByte.of {args : List AV} {H : AH} {K : AV → AH → Prop} (hl : args.length = 2) (h : wpA PG strings_IndexByte.c none (endA [(.t 4)] K) (initFr args) H) : ACalls PG 97 args H K :=
  ACalls.of_code (fl := []) mixed Try.func97 (c := Try.f97.body.getD .skip) (by kernel_rfl) (by kernel_rfl) (by rw [hl]; exact of_decide_eq_true (by kernel_rfl)) (by rw [strings_IndexByte.code]; kernel_rfl)
    (by rw [strings_IndexByte.code, show compRes PG Try.f97.results.toList = [(.t 4)] from by kernel_rfl]; exact h)
def broadsheetref04_Name.n : Nat := 102
noncomputable def broadsheetref04_Name.c : C := (.seq (.reg [⟨(some 2), none, (.mv (.c (.bool false)))⟩]) (.seq (.reg [⟨(some 3), none, (.mv (.t 0))⟩, ⟨(some 4), none, (.call 122 [(.t 3)])⟩, ⟨(some 5), none, (.mv (.t 4))⟩, ⟨(some 6), (some (5, true)), (.mv (.t 0))⟩, ⟨(some 7), (some (5, true)), (.len true (.t 6))⟩, ⟨(some 8), (some (5, true)), (.bin .leq (.t 7) (.c (.int .i64 16)))⟩, ⟨(some 9), none, (.pick (.t 5) (.t 8) (.c (.bool false)))⟩, ⟨(some 10), none, (.mv (.t 9))⟩, ⟨(some 11), (some (10, true)), (.mv (.t 0))⟩, ⟨(some 12), (some (10, true)), (.call 123 [(.t 11)])⟩, ⟨(some 13), (some (10, true)), (.un .not (.t 12))⟩, ⟨(some 14), none, (.pick (.t 10) (.t 13) (.c (.bool false)))⟩, ⟨(some 2), none, (.mv (.t 14))⟩]) .ret))
theorem broadsheetref04_Name.code : comp PG [] (Try.f102.body.getD .skip) = broadsheetref04_Name.c := by kernel_rfl
theorem broadsheetref04_Name.of {args : List AV} {H : AH} {K : AV → AH → Prop} (hl : args.length = 1) (h : wpA PG broadsheetref04_Name.c none (endA [(.t 2)] K) (initFr args) H) : ACalls PG 102 args H K :=
  ACalls.of_code (fl := []) mixed Try.func102 (c := Try.f102.body.getD .skip) (by kernel_rfl) (by kernel_rfl) (by rw [hl]; exact of_decide_eq_true (by kernel_rfl)) (by rw [broadsheetref04_Name.code]; kernel_rfl)
    (by rw [broadsheetref04_Name.code, show compRes PG Try.f102.results.toList = [(.t 2)] from by kernel_rfl]; exact h)
def strings_CutPrefix.n : Nat := 111
noncomputable def strings_CutPrefix.c : C := (.seq (.reg [⟨(some 4), none, (.mv (.c (.str [])))⟩, ⟨(some 5), none, (.mv (.c (.bool false)))⟩]) (.seq (.reg [⟨(some 6), none, (.mv (.t 0))⟩, ⟨(some 7), none, (.mv (.t 1))⟩, ⟨(some 8), none, (.call 129 [(.t 6), (.t 7)])⟩, ⟨(some 9), none, (.extr (.t 8) 0)⟩, ⟨(some 10), none, (.extr (.t 8) 1)⟩, ⟨(some 4), none, (.mv (.t 9))⟩, ⟨(some 5), none, (.mv (.t 10))⟩]) .ret))
theorem strings_CutPrefix.code : comp PG [] (Try.f111.body.getD .skip) = strings_CutPrefix.c := by kernel_rfl
theorem strings_CutPrefix.of {args : List AV} {H : AH} {K : AV → AH → Prop} (hl : args.length = 2) (h : wpA PG strings_CutPrefix.c none (endA [(.t 4), (.t 5)] K) (initFr args) H) : ACalls PG 111 args H K :=
  ACalls.of_code (fl := []) mixed Try.func111 (c := Try.f111.body.getD .skip) (by kernel_rfl) (by kernel_rfl) (by rw [hl]; exact of_decide_eq_true (by kernel_rfl)) (by rw [strings_CutPrefix.code]; kernel_rfl)
    (by rw [strings_CutPrefix.code, show compRes PG Try.f111.results.toList = [(.t 4), (.t 5)] from by kernel_rfl]; exact h)
def name_Lead.n : Nat := 112
noncomputable def name_Lead.c : C := (.seq (.reg [⟨(some 2), none, (.mv (.c (.int .i64 0)))⟩]) (.seq (.reg [⟨(some 3), none, (.mv (.c (.int .i64 0)))⟩]) (.seq (.block 0 (.loop (.seq (.seq (.reg [⟨(some 4), none, (.mv (.t 3))⟩, ⟨(some 5), none, (.mv (.t 0))⟩, ⟨(some 6), none, (.len true (.t 5))⟩, ⟨(some 7), none, (.bin .lss (.t 4) (.t 6))⟩, ⟨(some 8), none, (.mv (.t 7))⟩, ⟨(some 9), (some (8, true)), (.mv (.t 0))⟩, ⟨(some 10), (some (8, true)), (.mv (.t 3))⟩, ⟨(some 11), (some (8, true)), (.idx (.t 9) (.t 10))⟩, ⟨(some 12), (some (8, true)), (.mv (.t 3))⟩, ⟨(some 13), (some (8, true)), (.bin .eql (.t 12) (.c (.int .i64 0)))⟩, ⟨(some 14), (some (8, true)), (.call 130 [(.t 11), (.t 13)])⟩, ⟨(some 15), none, (.pick (.t 8) (.t 14) (.c (.bool false)))⟩]) (.cond (.t 15) .skip (.exit 0))) (.block 1 (.reg [⟨(some 16), none, (.mv (.t 3))⟩, ⟨(some 17), none, (.bin .add (.t 16) (.c (.int .i64 1)))⟩, ⟨(some 3), none, (.mv (.t 17))⟩]))))) (.seq (.reg [⟨(some 18), none, (.mv (.t 3))⟩, ⟨(some 2), none, (.mv (.t 18))⟩]) .ret))))
theorem name_Lead.code : comp PG [] (Try.f112.body.getD .skip) = name_Lead.c := by kernel_rfl
theorem name_Lead.of {args : List AV} {H : AH} {K : AV → AH → Prop} (hl : args.length = 1) (h : wpA PG name_Lead.c none (endA [(.t 2)] K) (initFr args) H) : ACalls PG 112 args H K :=
  ACalls.of_code (fl := []) mixed Try.func112 (c := Try.f112.body.getD .skip) (by kernel_rfl) (by kernel_rfl) (by rw [hl]; exact of_decide_eq_true (by kernel_rfl)) (by rw [name_Lead.code]; kernel_rfl)
    (by rw [name_Lead.code, show compRes PG Try.f112.results.toList = [(.t 2)] from by kernel_rfl]; exact h)
def name_Word.n : Nat := 114
noncomputable def name_Word.c : C := (.seq (.reg [⟨(some 2), none, (.mv (.c (.bool false)))⟩]) (.seq (.seq (.reg [⟨(some 3), none, (.mv (.t 0))⟩]) (.block 0 (.seq (.seq (.reg [⟨(some 5), none, (.bin .eql (.t 3) (.c (.str [65, 78, 68])))⟩, ⟨(some 4), none, (.mv (.t 5))⟩]) (.cond (.t 4) .skip (.seq (.reg [⟨(some 6), none, (.bin .eql (.t 3) (.c (.str [79, 82])))⟩, ⟨(some 4), none, (.mv (.t 6))⟩]) (.cond (.t 4) .skip (.seq (.reg [⟨(some 7), none, (.bin .eql (.t 3) (.c (.str [78, 79, 84])))⟩, ⟨(some 4), none, (.mv (.t 7))⟩]) (.cond (.t 4) .skip (.seq (.reg [⟨(some 8), none, (.bin .eql (.t 3) (.c (.str [66, 69, 84, 87, 69, 69, 78])))⟩, ⟨(some 4), none, (.mv (.t 8))⟩]) (.cond (.t 4) .skip (.seq (.reg [⟨(some 9), none, (.bin .eql (.t 3) (.c (.str [76, 73, 75, 69])))⟩, ⟨(some 4), none, (.mv (.t 9))⟩]) (.cond (.t 4) .skip (.seq (.reg [⟨(some 10), none, (.bin .eql (.t 3) (.c (.str [84, 82, 85, 69])))⟩, ⟨(some 4), none, (.mv (.t 10))⟩]) (.cond (.t 4) .skip (.reg [⟨(some 11), none, (.bin .eql (.t 3) (.c (.str [70, 65, 76, 83, 69])))⟩, ⟨(some 4), none, (.mv (.t 11))⟩]))))))))))))) (.cond (.t 4) (.seq (.reg [⟨(some 2), none, (.mv (.c (.bool true)))⟩]) .ret) .skip)))) (.seq (.reg [⟨(some 2), none, (.mv (.c (.bool false)))⟩]) .ret)))
theorem name_Word.code : comp PG [] (Try.f114.body.getD .skip) = name_Word.c := by kernel_rfl
theorem name_Word.of {args : List AV} {H : AH} {K : AV → AH → Prop} (hl : args.length = 1) (h : wpA PG name_Word.c none (endA [(.t 2)] K) (initFr args) H) : ACalls PG 114 args H K :=
  ACalls.of_code (fl := []) mixed Try.func114 (c := Try.f114.body.getD .skip) (by kernel_rfl) (by kernel_rfl) (by rw [hl]; exact of_decide_eq_true (by kernel_rfl)) (by rw [name_Word.code]; kernel_rfl)
    (by rw [name_Word.code, show compRes PG Try.f114.results.toList = [(.t 2)] from by kernel_rfl]; exact h)
def stringslite_IndexByte.n : Nat := 121
noncomputable def stringslite_IndexByte.c : C := (.seq (.reg [⟨(some 4), none, (.mv (.c (.int .i64 0)))⟩]) (.seq (.reg [⟨(some 5), none, (.mv (.t 0))⟩, ⟨(some 6), none, (.mv (.t 1))⟩, ⟨(some 7), none, (.ext .ixb [(.t 5), (.t 6)])⟩, ⟨(some 4), none, (.mv (.t 7))⟩]) .ret))
theorem stringslite_IndexByte.code : comp PG [] (Try.f121.body.getD .skip) = stringslite_IndexByte.c := by kernel_rfl
theorem stringslite_IndexByte.of {args : List AV} {H : AH} {K : AV → AH → Prop} (hl : args.length = 2) (h : wpA PG stringslite_IndexByte.c none (endA [(.t 4)] K) (initFr args) H) : ACalls PG 121 args H K :=
  ACalls.of_code (fl := []) mixed Try.func121 (c := Try.f121.body.getD .skip) (by kernel_rfl) (by kernel_rfl) (by rw [hl]; exact of_decide_eq_true (by kernel_rfl)) (by rw [stringslite_IndexByte.code]; kernel_rfl)
    (by rw [stringslite_IndexByte.code, show compRes PG Try.f121.results.toList = [(.t 4)] from by kernel_rfl]; exact h)
def broadsheetref04_formed.n : Nat := 122
noncomputable def broadsheetref04_formed.c : C := (.seq (.reg [⟨(some 2), none, (.mv (.c (.bool false)))⟩]) (.seq (.seq (.reg [⟨(some 4), none, (.mv (.t 0))⟩, ⟨(some 5), none, (.bin .eql (.t 4) (.c (.str [])))⟩, ⟨(some 6), none, (.mv (.t 5))⟩, ⟨(some 7), (some (6, false)), (.mv (.t 0))⟩, ⟨(some 8), (some (6, false)), (.idx (.t 7) (.c (.int .i64 0)))⟩, ⟨(some 9), (some (6, false)), (.call 136 [(.t 8)])⟩, ⟨(some 10), (some (6, false)), (.un .not (.t 9))⟩, ⟨(some 11), none, (.pick (.t 6) (.c (.bool true)) (.t 10))⟩]) (.cond (.t 11) (.seq (.reg [⟨(some 2), none, (.mv (.c (.bool false)))⟩]) .ret) .skip)) (.seq (.seq (.reg [⟨(some 3), none, (.mv (.c (.int .i64 0)))⟩]) (.block 0 (.loop (.seq (.seq (.reg [⟨(some 12), none, (.mv (.t 3))⟩, ⟨(some 13), none, (.mv (.t 0))⟩, ⟨(some 14), none, (.len true (.t 13))⟩, ⟨(some 15), none, (.bin .lss (.t 12) (.t 14))⟩]) (.cond (.t 15) .skip (.exit 0))) (.seq (.block 1 (.seq (.reg [⟨(some 18), none, (.mv (.t 0))⟩, ⟨(some 19), none, (.mv (.t 3))⟩, ⟨(some 20), none, (.idx (.t 18) (.t 19))⟩, ⟨(some 21), none, (.call 136 [(.t 20)])⟩, ⟨(some 22), none, (.un .not (.t 21))⟩, ⟨(some 23), none, (.mv (.t 22))⟩, ⟨(some 24), (some (23, true)), (.mv (.t 0))⟩, ⟨(some 25), (some (23, true)), (.mv (.t 3))⟩, ⟨(some 26), (some (23, true)), (.idx (.t 24) (.t 25))⟩, ⟨(some 27), (some (23, true)), (.call 137 [(.t 26)])⟩, ⟨(some 28), (some (23, true)), (.un .not (.t 27))⟩, ⟨(some 29), none, (.pick (.t 23) (.t 28) (.c (.bool false)))⟩, ⟨(some 30), none, (.mv (.t 29))⟩, ⟨(some 31), (some (30, true)), (.mv (.t 0))⟩, ⟨(some 32), (some (30, true)), (.mv (.t 3))⟩, ⟨(some 33), (some (30, true)), (.idx (.t 31) (.t 32))⟩, ⟨(some 34), (some (30, true)), (.bin .neq (.t 33) (.c (.int .u8 95)))⟩, ⟨(some 35), none, (.pick (.t 30) (.t 34) (.c (.bool false)))⟩]) (.cond (.t 35) (.seq (.reg [⟨(some 2), none, (.mv (.c (.bool false)))⟩]) .ret) .skip))) (.reg [⟨(some 16), none, (.mv (.t 3))⟩, ⟨(some 17), none, (.bin .add (.t 16) (.c (.int .i64 1)))⟩, ⟨(some 3), none, (.mv (.t 17))⟩])))))) (.seq (.reg [⟨(some 2), none, (.mv (.c (.bool true)))⟩]) .ret))))
theorem broadsheetref04_formed.code : comp PG [] (Try.f122.body.getD .skip) = broadsheetref04_formed.c := by kernel_rfl
theorem broadsheetref04_formed.of {args : List AV} {H : AH} {K : AV → AH → Prop} (hl : args.length = 1) (h : wpA PG broadsheetref04_formed.c none (endA [(.t 2)] K) (initFr args) H) : ACalls PG 122 args H K :=
  ACalls.of_code (fl := []) mixed Try.func122 (c := Try.f122.body.getD .skip) (by kernel_rfl) (by kernel_rfl) (by rw [hl]; exact of_decide_eq_true (by kernel_rfl)) (by rw [broadsheetref04_formed.code]; kernel_rfl)
    (by rw [broadsheetref04_formed.code, show compRes PG Try.f122.results.toList = [(.t 2)] from by kernel_rfl]; exact h)
def broadsheetref04_Word.n : Nat := 123
noncomputable def broadsheetref04_Word.c : C := (.seq (.reg [⟨(some 2), none, (.mv (.c (.bool false)))⟩]) (.seq (.reg [⟨(some 4), none, (.bslice 9 1 7 [(.str [])] [(0, (.c (.str [65, 78, 68]))), (1, (.c (.str [79, 82]))), (2, (.c (.str [78, 79, 84]))), (3, (.c (.str [66, 69, 84, 87, 69, 69, 78]))), (4, (.c (.str [76, 73, 75, 69]))), (5, (.c (.str [84, 82, 85, 69]))), (6, (.c (.str [70, 65, 76, 83, 69])))])⟩, ⟨(some 3), none, (.mv (.t 4))⟩]) (.seq (.reg [⟨(some 5), none, (.mv (.t 3))⟩, ⟨(some 6), none, (.mv (.t 0))⟩, ⟨(some 7), none, (.call 138 [(.t 5), (.t 6)])⟩, ⟨(some 8), none, (.bin .geq (.t 7) (.c (.int .i64 0)))⟩, ⟨(some 2), none, (.mv (.t 8))⟩]) .ret)))
theorem broadsheetref04_Word.code : comp PG [] (Try.f123.body.getD .skip) = broadsheetref04_Word.c := by kernel_rfl
theorem broadsheetref04_Word.of {args : List AV} {H : AH} {K : AV → AH → Prop} (hl : args.length = 1) (h : wpA PG broadsheetref04_Word.c none (endA [(.t 2)] K) (initFr args) H) : ACalls PG 123 args H K :=
  ACalls.of_code (fl := []) mixed Try.func123 (c := Try.f123.body.getD .skip) (by kernel_rfl) (by kernel_rfl) (by rw [hl]; exact of_decide_eq_true (by kernel_rfl)) (by rw [broadsheetref04_Word.code]; kernel_rfl)
    (by rw [broadsheetref04_Word.code, show compRes PG Try.f123.results.toList = [(.t 2)] from by kernel_rfl]; exact h)
def stringslite_CutPrefix.n : Nat := 129
noncomputable def stringslite_CutPrefix.c : C := (.seq (.reg [⟨(some 4), none, (.mv (.c (.str [])))⟩, ⟨(some 5), none, (.mv (.c (.bool false)))⟩]) (.seq (.seq (.reg [⟨(some 6), none, (.mv (.t 0))⟩, ⟨(some 7), none, (.mv (.t 1))⟩, ⟨(some 8), none, (.call 142 [(.t 6), (.t 7)])⟩, ⟨(some 9), none, (.un .not (.t 8))⟩]) (.cond (.t 9) (.seq (.reg [⟨(some 10), none, (.mv (.t 0))⟩, ⟨(some 4), none, (.mv (.t 10))⟩, ⟨(some 5), none, (.mv (.c (.bool false)))⟩]) .ret) .skip)) (.seq (.reg [⟨(some 11), none, (.mv (.t 0))⟩, ⟨(some 12), none, (.mv (.t 1))⟩, ⟨(some 13), none, (.len true (.t 12))⟩, ⟨(some 14), none, (.slice none (.t 11) (some (.t 13)) none)⟩, ⟨(some 4), none, (.mv (.t 14))⟩, ⟨(some 5), none, (.mv (.c (.bool true)))⟩]) .ret)))
theorem stringslite_CutPrefix.code : comp PG [] (Try.f129.body.getD .skip) = stringslite_CutPrefix.c := by kernel_rfl
theorem stringslite_CutPrefix.of {args : List AV} {H : AH} {K : AV → AH → Prop} (hl : args.length = 2) (h : wpA PG stringslite_CutPrefix.c none (endA [(.t 4), (.t 5)] K) (initFr args) H) : ACalls PG 129 args H K :=
  ACalls.of_code (fl := []) mixed Try.func129 (c := Try.f129.body.getD .skip) (by kernel_rfl) (by kernel_rfl) (by rw [hl]; exact of_decide_eq_true (by kernel_rfl)) (by rw [stringslite_CutPrefix.code]; kernel_rfl)
    (by rw [stringslite_CutPrefix.code, show compRes PG Try.f129.results.toList = [(.t 4), (.t 5)] from by kernel_rfl]; exact h)
def name_may.n : Nat := 130
noncomputable def name_may.c : C := (.seq (.reg [⟨(some 4), none, (.mv (.c (.bool false)))⟩]) (.seq (.block 0 (.seq (.block 2 (.seq (.block 1 (.seq (.seq (.seq (.seq (.reg [⟨(some 6), none, (.mv (.t 0))⟩, ⟨(some 7), none, (.bin .geq (.t 6) (.c (.int .u8 48)))⟩, ⟨(some 8), none, (.mv (.t 7))⟩, ⟨(some 9), (some (8, true)), (.mv (.t 0))⟩, ⟨(some 10), (some (8, true)), (.bin .leq (.t 9) (.c (.int .u8 57)))⟩, ⟨(some 11), none, (.pick (.t 8) (.t 10) (.c (.bool false)))⟩, ⟨(some 5), none, (.mv (.t 11))⟩]) (.cond (.t 5) .skip (.reg [⟨(some 12), none, (.mv (.t 0))⟩, ⟨(some 13), none, (.bin .eql (.t 12) (.c (.int .u8 95)))⟩, ⟨(some 5), none, (.mv (.t 13))⟩]))) (.cond (.t 5) (.exit 1) .skip)) (.seq (.seq (.reg [⟨(some 15), none, (.mv (.t 0))⟩, ⟨(some 16), none, (.bin .geq (.t 15) (.c (.int .u8 97)))⟩, ⟨(some 17), none, (.mv (.t 16))⟩, ⟨(some 18), (some (17, true)), (.mv (.t 0))⟩, ⟨(some 19), (some (17, true)), (.bin .leq (.t 18) (.c (.int .u8 122)))⟩, ⟨(some 20), none, (.pick (.t 17) (.t 19) (.c (.bool false)))⟩, ⟨(some 14), none, (.mv (.t 20))⟩]) (.cond (.t 14) .skip (.reg [⟨(some 21), none, (.mv (.t 0))⟩, ⟨(some 22), none, (.bin .geq (.t 21) (.c (.int .u8 65)))⟩, ⟨(some 23), none, (.mv (.t 22))⟩, ⟨(some 24), (some (23, true)), (.mv (.t 0))⟩, ⟨(some 25), (some (23, true)), (.bin .leq (.t 24) (.c (.int .u8 90)))⟩, ⟨(some 26), none, (.pick (.t 23) (.t 25) (.c (.bool false)))⟩, ⟨(some 14), none, (.mv (.t 26))⟩]))) (.cond (.t 14) (.exit 2) .skip))) (.exit 0))) (.seq (.reg [⟨(some 27), none, (.mv (.t 1))⟩]) (.cond (.t 27) (.seq (.reg [⟨(some 4), none, (.mv (.c (.bool false)))⟩]) .ret) .skip)))) (.seq (.seq (.reg [⟨(some 4), none, (.mv (.c (.bool true)))⟩]) .ret) (.exit 0)))) (.seq (.reg [⟨(some 4), none, (.mv (.c (.bool false)))⟩]) .ret)))
theorem name_may.code : comp PG [] (Try.f130.body.getD .skip) = name_may.c := by kernel_rfl
theorem name_may.of {args : List AV} {H : AH} {K : AV → AH → Prop} (hl : args.length = 2) (h : wpA PG name_may.c none (endA [(.t 4)] K) (initFr args) H) : ACalls PG 130 args H K :=
  ACalls.of_code (fl := []) mixed Try.func130 (c := Try.f130.body.getD .skip) (by kernel_rfl) (by kernel_rfl) (by rw [hl]; exact of_decide_eq_true (by kernel_rfl)) (by rw [name_may.code]; kernel_rfl)
    (by rw [name_may.code, show compRes PG Try.f130.results.toList = [(.t 4)] from by kernel_rfl]; exact h)
def broadsheetref04_Letter.n : Nat := 136
noncomputable def broadsheetref04_Letter.c : C := (.seq (.reg [⟨(some 2), none, (.mv (.c (.bool false)))⟩]) (.seq (.reg [⟨(some 3), none, (.mv (.t 0))⟩, ⟨(some 4), none, (.bin .geq (.t 3) (.c (.int .u8 97)))⟩, ⟨(some 5), none, (.mv (.t 4))⟩, ⟨(some 6), (some (5, true)), (.mv (.t 0))⟩, ⟨(some 7), (some (5, true)), (.bin .leq (.t 6) (.c (.int .u8 122)))⟩, ⟨(some 8), none, (.pick (.t 5) (.t 7) (.c (.bool false)))⟩, ⟨(some 9), none, (.mv (.t 8))⟩, ⟨(some 10), (some (9, false)), (.mv (.t 0))⟩, ⟨(some 11), (some (9, false)), (.bin .geq (.t 10) (.c (.int .u8 65)))⟩, ⟨(some 12), (some (9, false)), (.mv (.t 11))⟩, ⟨(some 13), (some (12, true)), (.mv (.t 0))⟩, ⟨(some 14), (some (12, true)), (.bin .leq (.t 13) (.c (.int .u8 90)))⟩, ⟨(some 15), (some (9, false)), (.pick (.t 12) (.t 14) (.c (.bool false)))⟩, ⟨(some 16), none, (.pick (.t 9) (.c (.bool true)) (.t 15))⟩, ⟨(some 2), none, (.mv (.t 16))⟩]) .ret))
theorem broadsheetref04_Letter.code : comp PG [] (Try.f136.body.getD .skip) = broadsheetref04_Letter.c := by kernel_rfl
theorem broadsheetref04_Letter.of {args : List AV} {H : AH} {K : AV → AH → Prop} (hl : args.length = 1) (h : wpA PG broadsheetref04_Letter.c none (endA [(.t 2)] K) (initFr args) H) : ACalls PG 136 args H K :=
  ACalls.of_code (fl := []) mixed Try.func136 (c := Try.f136.body.getD .skip) (by kernel_rfl) (by kernel_rfl) (by rw [hl]; exact of_decide_eq_true (by kernel_rfl)) (by rw [broadsheetref04_Letter.code]; kernel_rfl)
    (by rw [broadsheetref04_Letter.code, show compRes PG Try.f136.results.toList = [(.t 2)] from by kernel_rfl]; exact h)
def broadsheetref04_Digit.n : Nat := 137
noncomputable def broadsheetref04_Digit.c : C := (.seq (.reg [⟨(some 2), none, (.mv (.c (.bool false)))⟩]) (.seq (.reg [⟨(some 3), none, (.mv (.t 0))⟩, ⟨(some 4), none, (.bin .geq (.t 3) (.c (.int .u8 48)))⟩, ⟨(some 5), none, (.mv (.t 4))⟩, ⟨(some 6), (some (5, true)), (.mv (.t 0))⟩, ⟨(some 7), (some (5, true)), (.bin .leq (.t 6) (.c (.int .u8 57)))⟩, ⟨(some 8), none, (.pick (.t 5) (.t 7) (.c (.bool false)))⟩, ⟨(some 2), none, (.mv (.t 8))⟩]) .ret))
theorem broadsheetref04_Digit.code : comp PG [] (Try.f137.body.getD .skip) = broadsheetref04_Digit.c := by kernel_rfl
theorem broadsheetref04_Digit.of {args : List AV} {H : AH} {K : AV → AH → Prop} (hl : args.length = 1) (h : wpA PG broadsheetref04_Digit.c none (endA [(.t 2)] K) (initFr args) H) : ACalls PG 137 args H K :=
  ACalls.of_code (fl := []) mixed Try.func137 (c := Try.f137.body.getD .skip) (by kernel_rfl) (by kernel_rfl) (by rw [hl]; exact of_decide_eq_true (by kernel_rfl)) (by rw [broadsheetref04_Digit.code]; kernel_rfl)
    (by rw [broadsheetref04_Digit.code, show compRes PG Try.f137.results.toList = [(.t 2)] from by kernel_rfl]; exact h)
def broadsheetref04_Find.n : Nat := 138
noncomputable def broadsheetref04_Find.c : C := (.seq (.reg [⟨(some 4), none, (.mv (.c (.int .i64 0)))⟩]) (.seq (.seq (.reg [⟨(some 5), none, (.mv (.c (.int .i64 0)))⟩]) (.block 0 (.loop (.seq (.seq (.reg [⟨(some 6), none, (.mv (.t 5))⟩, ⟨(some 7), none, (.mv (.t 0))⟩, ⟨(some 8), none, (.len false (.t 7))⟩, ⟨(some 9), none, (.bin .lss (.t 6) (.t 8))⟩]) (.cond (.t 9) .skip (.exit 0))) (.seq (.block 1 (.seq (.reg [⟨(some 12), none, (.mv (.t 0))⟩, ⟨(some 13), none, (.mv (.t 5))⟩, ⟨(some 14), none, (.iaddr 1 (.t 12) (.t 13))⟩, ⟨(some 15), none, (.load none (.t 14))⟩, ⟨(some 16), none, (.mv (.t 1))⟩, ⟨(some 17), none, (.bin .eql (.t 15) (.t 16))⟩]) (.cond (.t 17) (.seq (.reg [⟨(some 18), none, (.mv (.t 5))⟩, ⟨(some 4), none, (.mv (.t 18))⟩]) .ret) .skip))) (.reg [⟨(some 10), none, (.mv (.t 5))⟩, ⟨(some 11), none, (.bin .add (.t 10) (.c (.int .i64 1)))⟩, ⟨(some 5), none, (.mv (.t 11))⟩])))))) (.seq (.reg [⟨(some 4), none, (.mv (.c (.int .i64 (-1))))⟩]) .ret)))
theorem broadsheetref04_Find.code : comp PG [] (Try.f138.body.getD .skip) = broadsheetref04_Find.c := by kernel_rfl
theorem broadsheetref04_Find.of {args : List AV} {H : AH} {K : AV → AH → Prop} (hl : args.length = 2) (h : wpA PG broadsheetref04_Find.c none (endA [(.t 4)] K) (initFr args) H) : ACalls PG 138 args H K :=
  ACalls.of_code (fl := []) mixed Try.func138 (c := Try.f138.body.getD .skip) (by kernel_rfl) (by kernel_rfl) (by rw [hl]; exact of_decide_eq_true (by kernel_rfl)) (by rw [broadsheetref04_Find.code]; kernel_rfl)
    (by rw [broadsheetref04_Find.code, show compRes PG Try.f138.results.toList = [(.t 4)] from by kernel_rfl]; exact h)
def stringslite_HasPrefix.n : Nat := 142
noncomputable def stringslite_HasPrefix.c : C := (.seq (.reg [⟨(some 4), none, (.mv (.c (.bool false)))⟩]) (.seq (.reg [⟨(some 5), none, (.mv (.t 0))⟩, ⟨(some 6), none, (.len true (.t 5))⟩, ⟨(some 7), none, (.mv (.t 1))⟩, ⟨(some 8), none, (.len true (.t 7))⟩, ⟨(some 9), none, (.bin .geq (.t 6) (.t 8))⟩, ⟨(some 10), none, (.mv (.t 9))⟩, ⟨(some 11), (some (10, true)), (.mv (.t 0))⟩, ⟨(some 12), (some (10, true)), (.mv (.t 1))⟩, ⟨(some 13), (some (10, true)), (.len true (.t 12))⟩, ⟨(some 14), (some (10, true)), (.slice none (.t 11) none (some (.t 13)))⟩, ⟨(some 15), (some (10, true)), (.mv (.t 1))⟩, ⟨(some 16), (some (10, true)), (.bin .eql (.t 14) (.t 15))⟩, ⟨(some 17), none, (.pick (.t 10) (.t 16) (.c (.bool false)))⟩, ⟨(some 4), none, (.mv (.t 17))⟩]) .ret))
theorem stringslite_HasPrefix.code : comp PG [] (Try.f142.body.getD .skip) = stringslite_HasPrefix.c := by kernel_rfl
theorem stringslite_HasPrefix.of {args : List AV} {H : AH} {K : AV → AH → Prop} (hl : args.length = 2) (h : wpA PG stringslite_HasPrefix.c none (endA [(.t 4)] K) (initFr args) H) : ACalls PG 142 args H K :=
  ACalls.of_code (fl := []) mixed Try.func142 (c := Try.f142.body.getD .skip) (by kernel_rfl) (by kernel_rfl) (by rw [hl]; exact of_decide_eq_true (by kernel_rfl)) (by rw [stringslite_HasPrefix.code]; kernel_rfl)
    (by rw [stringslite_HasPrefix.code, show compRes PG Try.f142.results.toList = [(.t 4)] from by kernel_rfl]; exact h)
end Go.Proofs.Ytodiahhfpcdejaa

/- Each function's translation is, by reckoning, the abstract code that is written out here; its contract follows from the predicate transformer over that code. -/
namespace Go.Proofs.Ytodiahhfpcdejaa
set_option autoImplicit false
set_option maxRecDepth 100000
def broadsheetlaw06_Great.n : Nat := 9
noncomputable def broadsheetlaw06_Great.c : C := (.seq (.reg [⟨(some 2), none, (.mv (.c (.bool false)))⟩]) (.seq (.reg [⟨(some 3), none, (.mv (.c (.int .i64 0)))⟩]) (.seq (.seq (.reg [⟨(some 4), none, (.mv (.c (.int .i64 0)))⟩]) (.block 0 (.loop (.seq (.seq (.reg [⟨(some 5), none, (.mv (.t 4))⟩, ⟨(some 6), none, (.mv (.t 0))⟩, ⟨(some 7), none, (.len false (.t 6))⟩, ⟨(some 8), none, (.bin .lss (.t 5) (.t 7))⟩]) (.cond (.t 8) .skip (.exit 0))) (.seq (.block 1 (.reg [⟨(some 11), none, (.mv (.t 3))⟩, ⟨(some 12), none, (.mv (.t 0))⟩, ⟨(some 13), none, (.mv (.t 4))⟩, ⟨(some 14), none, (.iaddr 6 (.t 12) (.t 13))⟩, ⟨(some 15), none, (.faddr 5 (.t 14))⟩, ⟨(some 16), none, (.load none (.t 15))⟩, ⟨(some 17), none, (.len false (.t 16))⟩, ⟨(some 18), none, (.bin .add (.t 11) (.t 17))⟩, ⟨(some 19), none, (.mm false [(.t 18), (.c (.int .i64 1048576))])⟩, ⟨(some 3), none, (.mv (.t 19))⟩])) (.reg [⟨(some 9), none, (.mv (.t 4))⟩, ⟨(some 10), none, (.bin .add (.t 9) (.c (.int .i64 1)))⟩, ⟨(some 4), none, (.mv (.t 10))⟩])))))) (.seq (.reg [⟨(some 20), none, (.mv (.t 0))⟩, ⟨(some 21), none, (.len false (.t 20))⟩, ⟨(some 22), none, (.bin .gtr (.t 21) (.c (.int .i64 100)))⟩, ⟨(some 23), none, (.mv (.t 22))⟩, ⟨(some 24), (some (23, false)), (.mv (.t 3))⟩, ⟨(some 25), (some (23, false)), (.bin .gtr (.t 24) (.c (.int .i64 800)))⟩, ⟨(some 26), none, (.pick (.t 23) (.c (.bool true)) (.t 25))⟩, ⟨(some 2), none, (.mv (.t 26))⟩]) .ret))))
theorem broadsheetlaw06_Great.code : comp PG [] (Try.f9.body.getD .skip) = broadsheetlaw06_Great.c := by kernel_rfl
theorem broadsheetlaw06_Great.of {args : List AV} {H : AH} {K : AV → AH → Prop} (hl : args.length = 1) (h : wpA PG broadsheetlaw06_Great.c none (endA [(.t 2)] K) (initFr args) H) : ACalls PG 9 args H K :=
  ACalls.of_code (fl := []) mixed Try.func9 (c := Try.f9.body.getD .skip) (by kernel_rfl) (by kernel_rfl) (by rw [hl]; exact of_decide_eq_true (by kernel_rfl)) (by rw [broadsheetlaw06_Great.code]; kernel_rfl)
    (by rw [broadsheetlaw06_Great.code, show compRes PG Try.f9.results.toList = [(.t 2)] from by kernel_rfl]; exact h)
def types_Deep.n : Nat := 15
noncomputable def types_Deep.c : C := (.seq (.reg [⟨(some 4), none, (.mv (.c (.int .i64 0)))⟩]) (.seq (.seq (.reg [⟨(some 9), none, (.mv (.t 1))⟩, ⟨(some 10), none, (.bin .lss (.t 9) (.c (.int .i64 0)))⟩, ⟨(some 11), none, (.mv (.t 10))⟩, ⟨(some 12), (some (11, false)), (.mv (.t 1))⟩, ⟨(some 13), (some (11, false)), (.mv (.t 0))⟩, ⟨(some 14), (some (11, false)), (.len false (.t 13))⟩, ⟨(some 15), (some (11, false)), (.bin .geq (.t 12) (.t 14))⟩, ⟨(some 16), none, (.pick (.t 11) (.c (.bool true)) (.t 15))⟩]) (.cond (.t 16) (.seq (.reg [⟨(some 4), none, (.mv (.c (.int .i64 0)))⟩]) .ret) .skip)) (.seq (.reg [⟨(some 17), none, (.mv (.t 1))⟩, ⟨(some 18), none, (.bin .add (.t 17) (.c (.int .i64 1)))⟩, ⟨(some 19), none, (.mks 3 1 8 [(.int .i64 0)] (.t 18))⟩, ⟨(some 5), none, (.mv (.t 19))⟩]) (.seq (.seq (.reg [⟨(some 20), none, (.mv (.t 5))⟩, ⟨(some 21), none, (.len false (.t 20))⟩, ⟨(some 22), none, (.mv (.c (.int .i64 0)))⟩]) (.block 0 (.loop (.seq (.reg [⟨(some 23), none, (.bin .lss (.t 22) (.t 21))⟩]) (.seq (.cond (.t 23) .skip (.exit 0)) (.seq (.block 1 (.seq (.reg [⟨(some 24), none, (.mv (.t 22))⟩, ⟨(some 6), none, (.mv (.t 24))⟩]) (.seq (.reg [⟨(some 25), none, (.mv (.t 5))⟩, ⟨(some 26), none, (.mv (.t 6))⟩, ⟨(some 27), none, (.iaddr 1 (.t 25) (.t 26))⟩, ⟨none, none, (.store 1 (.t 27) (.c (.int .i64 1)))⟩]) (.seq (.reg [⟨(some 28), none, (.mv (.t 0))⟩, ⟨(some 29), none, (.mv (.t 6))⟩, ⟨(some 30), none, (.iaddr 6 (.t 28) (.t 29))⟩, ⟨(some 31), none, (.load (some 6) (.t 30))⟩, ⟨(some 32), none, (.call 40 [(.t 31)])⟩, ⟨(some 33), none, (.len false (.t 32))⟩, ⟨(some 34), none, (.mv (.c (.int .i64 0)))⟩]) (.block 2 (.loop (.seq (.reg [⟨(some 35), none, (.bin .lss (.t 34) (.t 33))⟩]) (.seq (.cond (.t 35) .skip (.exit 2)) (.seq (.block 3 (.seq (.reg [⟨(some 36), none, (.iaddr 1 (.t 32) (.t 34))⟩, ⟨(some 37), none, (.load none (.t 36))⟩, ⟨(some 8), none, (.mv (.t 37))⟩]) (.seq (.reg [⟨(some 38), none, (.mv (.t 8))⟩, ⟨(some 39), none, (.bin .geq (.t 38) (.c (.int .i64 0)))⟩, ⟨(some 40), none, (.mv (.t 39))⟩, ⟨(some 41), (some (40, true)), (.mv (.t 8))⟩, ⟨(some 42), (some (40, true)), (.mv (.t 6))⟩, ⟨(some 43), (some (40, true)), (.bin .lss (.t 41) (.t 42))⟩, ⟨(some 44), none, (.pick (.t 40) (.t 43) (.c (.bool false)))⟩]) (.cond (.t 44) (.dreg [⟨(some 45), none, (.mv (.t 5))⟩, ⟨(some 46), none, (.mv (.t 6))⟩, ⟨(some 47), none, (.mv (.t 5))⟩, ⟨(some 48), none, (.mv (.t 6))⟩, ⟨(some 49), none, (.iaddr 1 (.t 47) (.t 48))⟩, ⟨(some 50), none, (.load none (.t 49))⟩, ⟨(some 51), none, (.mv (.t 5))⟩, ⟨(some 52), none, (.mv (.t 8))⟩, ⟨(some 53), none, (.iaddr 1 (.t 51) (.t 52))⟩, ⟨(some 54), none, (.load none (.t 53))⟩, ⟨(some 55), none, (.bin .add (.t 54) (.c (.int .i64 1)))⟩, ⟨(some 56), none, (.mm true [(.t 50), (.t 55)])⟩] [⟨(some 57), none, (.iaddr 1 (.t 45) (.t 46))⟩, ⟨none, none, (.store 1 (.t 57) (.t 56))⟩]) .skip)))) (.reg [⟨(some 58), none, (.bin .add (.t 34) (.c (.int .i64 1)))⟩, ⟨(some 34), none, (.mv (.t 58))⟩])))))))))) (.reg [⟨(some 59), none, (.bin .add (.t 22) (.c (.int .i64 1)))⟩, ⟨(some 22), none, (.mv (.t 59))⟩]))))))) (.seq (.reg [⟨(some 60), none, (.mv (.t 5))⟩, ⟨(some 61), none, (.mv (.t 1))⟩, ⟨(some 62), none, (.iaddr 1 (.t 60) (.t 61))⟩, ⟨(some 63), none, (.load none (.t 62))⟩, ⟨(some 4), none, (.mv (.t 63))⟩]) .ret)))))
theorem types_Deep.code : comp PG [] (Try.f15.body.getD .skip) = types_Deep.c := by kernel_rfl
theorem types_Deep.of {args : List AV} {H : AH} {K : AV → AH → Prop} (hl : args.length = 2) (h : wpA PG types_Deep.c none (endA [(.t 4)] K) (initFr args) H) : ACalls PG 15 args H K :=
  ACalls.of_code (fl := []) mixed Try.func15 (c := Try.f15.body.getD .skip) (by kernel_rfl) (by kernel_rfl) (by rw [hl]; exact of_decide_eq_true (by kernel_rfl)) (by rw [types_Deep.code]; kernel_rfl)
    (by rw [types_Deep.code, show compRes PG Try.f15.results.toList = [(.t 4)] from by kernel_rfl]; exact h)
def types_Check.n : Nat := 22
noncomputable def types_Check.c : C := (.seq (.reg [⟨(some 2), none, (.allc 49 [(.int .i64 0), (.int .i64 0)])⟩]) (.seq (.seq (.reg [⟨(some 9), none, (.mv (.t 0))⟩, ⟨(some 10), none, (.len false (.t 9))⟩, ⟨(some 11), none, (.bin .gtr (.t 10) (.c (.int .i64 32)))⟩]) (.cond (.t 11) (.seq (.reg [⟨(some 12), none, (.build [(.int .i64 0), (.int .i64 0)] [(0, (1, (.c (.int .i64 3)))), (1, (1, (.c (.int .i64 32))))])⟩, ⟨none, none, (.store 2 (.t 2) (.t 12))⟩]) .ret) .skip)) (.seq (.seq (.reg [⟨(some 13), none, (.mv (.t 0))⟩, ⟨(some 14), none, (.len false (.t 13))⟩, ⟨(some 15), none, (.mv (.c (.int .i64 0)))⟩]) (.block 0 (.loop (.seq (.reg [⟨(some 16), none, (.bin .lss (.t 15) (.t 14))⟩]) (.seq (.cond (.t 16) .skip (.exit 0)) (.seq (.block 1 (.seq (.reg [⟨(some 17), none, (.mv (.t 15))⟩, ⟨(some 18), none, (.iaddr 6 (.t 13) (.t 15))⟩, ⟨(some 19), none, (.load (some 6) (.t 18))⟩, ⟨(some 4), none, (.allc 37 [(.int .i64 0), (.str []), (.int .i64 0), (.int .i64 0), (.int .i64 0), .nilS])⟩, ⟨(some 3), none, (.mv (.t 17))⟩, ⟨none, none, (.store 6 (.t 4) (.t 19))⟩]) (.seq (.reg [⟨(some 20), none, (.mv (.t 0))⟩, ⟨(some 21), none, (.mv (.t 3))⟩, ⟨(some 22), none, (.load (some 6) (.t 4))⟩, ⟨(some 23), none, (.build [.nilS, (.int .i64 0), (.int .i64 0), (.str []), (.int .i64 0), (.int .i64 0), (.int .i64 0), .nilS] [(0, (1, (.t 20))), (1, (1, (.t 21))), (2, (6, (.t 22)))])⟩, ⟨(some 24), none, (.box 85 (.t 23))⟩, ⟨(some 5), none, (.mv (.t 24))⟩]) (.seq (.reg [⟨(some 25), none, (.mv (.t 5))⟩, ⟨(some 26), none, (.mkfn 49 [(.t 25)] [])⟩, ⟨(some 27), none, (.mv (.t 5))⟩, ⟨(some 28), none, (.mkfn 50 [(.t 27)] [])⟩, ⟨(some 29), none, (.mv (.t 5))⟩, ⟨(some 30), none, (.mkfn 51 [(.t 29)] [])⟩, ⟨(some 31), none, (.mv (.t 5))⟩, ⟨(some 32), none, (.mkfn 52 [(.t 31)] [])⟩, ⟨(some 33), none, (.mv (.t 5))⟩, ⟨(some 34), none, (.mkfn 53 [(.t 33)] [])⟩, ⟨(some 35), none, (.mv (.t 5))⟩, ⟨(some 36), none, (.mkfn 54 [(.t 35)] [])⟩, ⟨(some 37), none, (.bslice 86 1 6 [.nilF] [(0, (.t 26)), (1, (.t 28)), (2, (.t 30)), (3, (.t 32)), (4, (.t 34)), (5, (.t 36))])⟩, ⟨(some 38), none, (.len false (.t 37))⟩, ⟨(some 39), none, (.mv (.c (.int .i64 0)))⟩]) (.block 2 (.loop (.seq (.reg [⟨(some 40), none, (.bin .lss (.t 39) (.t 38))⟩]) (.seq (.cond (.t 40) .skip (.exit 2)) (.seq (.block 3 (.seq (.reg [⟨(some 41), none, (.iaddr 1 (.t 37) (.t 39))⟩, ⟨(some 42), none, (.load none (.t 41))⟩, ⟨(some 7), none, (.mv (.t 42))⟩]) (.seq (.reg [⟨(some 43), none, (.mv (.t 7))⟩, ⟨(some 44), none, (.callv (.t 43) [])⟩, ⟨(some 8), none, (.mv (.t 44))⟩]) (.seq (.reg [⟨(some 45), none, (.mv (.t 8))⟩, ⟨(some 46), none, (.bin .neq (.t 45) (.c (.int .i64 0)))⟩]) (.cond (.t 46) (.seq (.reg [⟨(some 47), none, (.mv (.t 8))⟩, ⟨(some 48), none, (.mv (.t 3))⟩, ⟨(some 49), none, (.build [(.int .i64 0), (.int .i64 0)] [(0, (1, (.t 47))), (1, (1, (.t 48)))])⟩, ⟨none, none, (.store 2 (.t 2) (.t 49))⟩]) .ret) .skip))))) (.reg [⟨(some 50), none, (.bin .add (.t 39) (.c (.int .i64 1)))⟩, ⟨(some 39), none, (.mv (.t 50))⟩])))))))))) (.reg [⟨(some 51), none, (.bin .add (.t 15) (.c (.int .i64 1)))⟩, ⟨(some 15), none, (.mv (.t 51))⟩]))))))) (.seq (.reg [⟨(some 52), none, (.build [(.int .i64 0), (.int .i64 0)] [])⟩, ⟨none, none, (.store 2 (.t 2) (.t 52))⟩]) .ret))))
theorem types_Check.code : comp PG [] (Try.f22.body.getD .skip) = types_Check.c := by kernel_rfl
theorem types_Check.of {args : List AV} {H : AH} {K : AV → AH → Prop} (hl : args.length = 1) (h : wpA PG types_Check.c none (endA [(.cell 2 (some 2))] K) (initFr args) H) : ACalls PG 22 args H K :=
  ACalls.of_code (fl := []) mixed Try.func22 (c := Try.f22.body.getD .skip) (by kernel_rfl) (by kernel_rfl) (by rw [hl]; exact of_decide_eq_true (by kernel_rfl)) (by rw [types_Check.code]; kernel_rfl)
    (by rw [types_Check.code, show compRes PG Try.f22.results.toList = [(.cell 2 (some 2))] from by kernel_rfl]; exact h)
def broadsheetref06_Check.n : Nat := 38
noncomputable def broadsheetref06_Check.c : C := (.seq (.reg [⟨(some 2), none, (.allc 49 [(.int .i64 0), (.int .i64 0)])⟩]) (.seq (.seq (.reg [⟨(some 5), none, (.mv (.t 0))⟩, ⟨(some 6), none, (.len false (.t 5))⟩, ⟨(some 7), none, (.bin .gtr (.t 6) (.c (.int .i64 32)))⟩]) (.cond (.t 7) (.seq (.reg [⟨(some 8), none, (.build [(.int .i64 0), (.int .i64 0)] [(0, (1, (.c (.int .i64 3)))), (1, (1, (.c (.int .i64 32))))])⟩, ⟨none, none, (.store 2 (.t 2) (.t 8))⟩]) .ret) .skip)) (.seq (.seq (.reg [⟨(some 3), none, (.mv (.c (.int .i64 0)))⟩]) (.block 0 (.loop (.seq (.seq (.reg [⟨(some 9), none, (.mv (.t 3))⟩, ⟨(some 10), none, (.mv (.t 0))⟩, ⟨(some 11), none, (.len false (.t 10))⟩, ⟨(some 12), none, (.bin .lss (.t 9) (.t 11))⟩]) (.cond (.t 12) .skip (.exit 0))) (.seq (.block 1 (.seq (.reg [⟨(some 15), none, (.mv (.t 0))⟩, ⟨(some 16), none, (.mv (.t 3))⟩, ⟨(some 17), none, (.call 76 [(.t 15), (.t 16)])⟩, ⟨(some 4), none, (.mv (.t 17))⟩]) (.seq (.reg [⟨(some 18), none, (.mv (.t 4))⟩, ⟨(some 19), none, (.bin .neq (.t 18) (.c (.int .i64 0)))⟩]) (.cond (.t 19) (.seq (.reg [⟨(some 20), none, (.mv (.t 4))⟩, ⟨(some 21), none, (.mv (.t 3))⟩, ⟨(some 22), none, (.build [(.int .i64 0), (.int .i64 0)] [(0, (1, (.t 20))), (1, (1, (.t 21)))])⟩, ⟨none, none, (.store 2 (.t 2) (.t 22))⟩]) .ret) .skip)))) (.reg [⟨(some 13), none, (.mv (.t 3))⟩, ⟨(some 14), none, (.bin .add (.t 13) (.c (.int .i64 1)))⟩, ⟨(some 3), none, (.mv (.t 14))⟩])))))) (.seq (.reg [⟨(some 23), none, (.build [(.int .i64 0), (.int .i64 0)] [])⟩, ⟨none, none, (.store 2 (.t 2) (.t 23))⟩]) .ret))))
theorem broadsheetref06_Check.code : comp PG [] (Try.f38.body.getD .skip) = broadsheetref06_Check.c := by kernel_rfl
theorem broadsheetref06_Check.of {args : List AV} {H : AH} {K : AV → AH → Prop} (hl : args.length = 1) (h : wpA PG broadsheetref06_Check.c none (endA [(.cell 2 (some 2))] K) (initFr args) H) : ACalls PG 38 args H K :=
  ACalls.of_code (fl := []) mixed Try.func38 (c := Try.f38.body.getD .skip) (by kernel_rfl) (by kernel_rfl) (by rw [hl]; exact of_decide_eq_true (by kernel_rfl)) (by rw [broadsheetref06_Check.code]; kernel_rfl)
    (by rw [broadsheetref06_Check.code, show compRes PG Try.f38.results.toList = [(.cell 2 (some 2))] from by kernel_rfl]; exact h)
def types_parts.n : Nat := 40
noncomputable def types_parts.c : C := (.seq (.reg [⟨(some 1), none, (.box 37 (.t 0))⟩, ⟨(some 2), none, (.mv (.c .nilS))⟩]) (.seq (.reg [⟨(some 3), none, (.mv (.c .nilS))⟩]) (.seq (.reg [⟨(some 11), none, (.faddr 0 (.t 1))⟩, ⟨(some 12), none, (.load none (.t 11))⟩, ⟨(some 13), none, (.call 80 [(.t 12)])⟩, ⟨(some 10), none, (.mv (.t 13))⟩, ⟨(some 14), none, (.extr (.t 10) 0)⟩, ⟨(some 15), none, (.extr (.t 10) 1)⟩, ⟨(some 16), none, (.extr (.t 10) 2)⟩, ⟨(some 17), none, (.extr (.t 10) 3)⟩, ⟨(some 4), none, (.mv (.t 14))⟩, ⟨(some 5), none, (.mv (.t 15))⟩, ⟨(some 6), none, (.mv (.t 16))⟩, ⟨(some 7), none, (.mv (.t 17))⟩]) (.seq (.seq (.reg [⟨(some 18), none, (.mv (.t 6))⟩]) (.cond (.t 18) (.reg [⟨(some 19), none, (.mv (.t 3))⟩, ⟨(some 20), none, (.faddr 3 (.t 1))⟩, ⟨(some 21), none, (.load none (.t 20))⟩, ⟨(some 22), none, (.bslice 3 1 1 [(.int .i64 0)] [(0, (.t 21))])⟩, ⟨(some 23), none, (.append 3 false 1 8 (.t 19) (.t 22))⟩, ⟨(some 3), none, (.mv (.t 23))⟩]) .skip)) (.seq (.seq (.reg [⟨(some 24), none, (.mv (.t 7))⟩]) (.cond (.t 24) (.reg [⟨(some 25), none, (.mv (.t 3))⟩, ⟨(some 26), none, (.faddr 4 (.t 1))⟩, ⟨(some 27), none, (.load none (.t 26))⟩, ⟨(some 28), none, (.bslice 3 1 1 [(.int .i64 0)] [(0, (.t 27))])⟩, ⟨(some 29), none, (.append 3 false 1 8 (.t 25) (.t 28))⟩, ⟨(some 3), none, (.mv (.t 29))⟩]) .skip)) (.seq (.seq (.reg [⟨(some 30), none, (.faddr 0 (.t 1))⟩, ⟨(some 31), none, (.load none (.t 30))⟩, ⟨(some 32), none, (.bin .eql (.t 31) (.c (.int .i64 13)))⟩, ⟨(some 33), none, (.mv (.t 32))⟩, ⟨(some 34), (some (33, false)), (.faddr 0 (.t 1))⟩, ⟨(some 35), (some (33, false)), (.load none (.t 34))⟩, ⟨(some 36), (some (33, false)), (.bin .eql (.t 35) (.c (.int .i64 14)))⟩, ⟨(some 37), none, (.pick (.t 33) (.c (.bool true)) (.t 36))⟩]) (.cond (.t 37) (.seq (.reg [⟨(some 38), none, (.faddr 5 (.t 1))⟩, ⟨(some 39), none, (.load none (.t 38))⟩, ⟨(some 40), none, (.len false (.t 39))⟩, ⟨(some 41), none, (.mv (.c (.int .i64 0)))⟩]) (.block 0 (.loop (.seq (.reg [⟨(some 42), none, (.bin .lss (.t 41) (.t 40))⟩]) (.seq (.cond (.t 42) .skip (.exit 0)) (.seq (.block 1 (.seq (.reg [⟨(some 43), none, (.iaddr 5 (.t 39) (.t 41))⟩, ⟨(some 44), none, (.load (some 5) (.t 43))⟩, ⟨(some 9), none, (.allc 39 [(.str []), (.int .u64 0), (.int .i64 0), (.bool false), (.bool false)])⟩, ⟨none, none, (.store 5 (.t 9) (.t 44))⟩]) (.reg [⟨(some 45), none, (.mv (.t 3))⟩, ⟨(some 46), none, (.faddr 2 (.t 9))⟩, ⟨(some 47), none, (.load none (.t 46))⟩, ⟨(some 48), none, (.bslice 3 1 1 [(.int .i64 0)] [(0, (.t 47))])⟩, ⟨(some 49), none, (.append 3 false 1 8 (.t 45) (.t 48))⟩, ⟨(some 3), none, (.mv (.t 49))⟩]))) (.reg [⟨(some 50), none, (.bin .add (.t 41) (.c (.int .i64 1)))⟩, ⟨(some 41), none, (.mv (.t 50))⟩]))))))) .skip)) (.seq (.reg [⟨(some 51), none, (.mv (.t 3))⟩, ⟨(some 2), none, (.mv (.t 51))⟩]) .ret)))))))
theorem types_parts.code : comp PG [] (Try.f40.body.getD .skip) = types_parts.c := by kernel_rfl
theorem types_parts.of {args : List AV} {H : AH} {K : AV → AH → Prop} (hl : args.length = 1) (h : wpA PG types_parts.c none (endA [(.t 2)] K) (initFr args) H) : ACalls PG 40 args H K :=
  ACalls.of_code (fl := []) mixed Try.func40 (c := Try.f40.body.getD .skip) (by kernel_rfl) (by kernel_rfl) (by rw [hl]; exact of_decide_eq_true (by kernel_rfl)) (by rw [types_parts.code]; kernel_rfl)
    (by rw [types_parts.code, show compRes PG Try.f40.results.toList = [(.t 2)] from by kernel_rfl]; exact h)
def types_Branch.n : Nat := 48
noncomputable def types_Branch.c : C := (.seq (.reg [⟨(some 5), none, (.box 23 (.t 2))⟩, ⟨(some 6), none, (.mv (.c (.int .i64 0)))⟩, ⟨(some 7), none, (.mv (.c (.bool false)))⟩]) (.seq (.reg [⟨(some 8), none, (.mv (.c (.clo 84 [] [])))⟩]) (.seq (.seq (.reg [⟨(some 12), none, (.mv (.t 0))⟩, ⟨(some 13), none, (.mv (.t 1))⟩, ⟨(some 14), none, (.mv (.t 8))⟩, ⟨(some 15), none, (.mkfn 86 [] [(.t 5)])⟩, ⟨(some 16), none, (.call 85 [(.t 12), (.t 13), (.t 14), (.t 15)])⟩, ⟨(some 11), none, (.mv (.t 16))⟩, ⟨(some 17), none, (.extr (.t 11) 0)⟩, ⟨(some 18), none, (.extr (.t 11) 1)⟩, ⟨(some 9), none, (.mv (.t 17))⟩, ⟨(some 10), none, (.mv (.t 18))⟩]) (.seq (.reg [⟨(some 19), none, (.mv (.t 10))⟩]) (.cond (.t 19) (.seq (.reg [⟨(some 20), none, (.mv (.t 9))⟩, ⟨(some 6), none, (.mv (.t 20))⟩, ⟨(some 7), none, (.mv (.c (.bool true)))⟩]) .ret) .skip))) (.seq (.reg [⟨(some 21), none, (.mv (.t 0))⟩, ⟨(some 22), none, (.mv (.t 1))⟩, ⟨(some 23), none, (.mv (.t 8))⟩, ⟨(some 24), none, (.call 85 [(.t 21), (.t 22), (.t 23), (.c (.clo 87 [] []))])⟩, ⟨(some 25), none, (.extr (.t 24) 0)⟩, ⟨(some 26), none, (.extr (.t 24) 1)⟩, ⟨(some 6), none, (.mv (.t 25))⟩, ⟨(some 7), none, (.mv (.t 26))⟩]) .ret))))
theorem types_Branch.code : comp PG [] (Try.f48.body.getD .skip) = types_Branch.c := by kernel_rfl
theorem types_Branch.of {args : List AV} {H : AH} {K : AV → AH → Prop} (hl : args.length = 3) (h : wpA PG types_Branch.c none (endA [(.t 6), (.t 7)] K) (initFr args) H) : ACalls PG 48 args H K :=
  ACalls.of_code (fl := []) mixed Try.func48 (c := Try.f48.body.getD .skip) (by kernel_rfl) (by kernel_rfl) (by rw [hl]; exact of_decide_eq_true (by kernel_rfl)) (by rw [types_Branch.code]; kernel_rfl)
    (by rw [types_Branch.code, show compRes PG Try.f48.results.toList = [(.t 6), (.t 7)] from by kernel_rfl]; exact h)
def types_look_form.n : Nat := 49
noncomputable def types_look_form.c : C := (.seq (.reg [⟨(some 2), none, (.mv (.c (.int .i64 0)))⟩]) (.seq (.reg [⟨(some 10), none, (.mv (.t 0))⟩, ⟨(some 11), none, (.nilck (.t 10))⟩, ⟨(some 12), none, (.faddr 2 (.t 11))⟩, ⟨(some 13), none, (.load (some 6) (.t 12))⟩, ⟨(some 3), none, (.allc 37 [(.int .i64 0), (.str []), (.int .i64 0), (.int .i64 0), (.int .i64 0), .nilS])⟩, ⟨none, none, (.store 6 (.t 3) (.t 13))⟩]) (.seq (.seq (.reg [⟨(some 14), none, (.faddr 0 (.t 3))⟩, ⟨(some 15), none, (.load none (.t 14))⟩, ⟨(some 16), none, (.bin .lss (.t 15) (.c (.int .i64 1)))⟩, ⟨(some 17), none, (.mv (.t 16))⟩, ⟨(some 18), (some (17, false)), (.faddr 0 (.t 3))⟩, ⟨(some 19), (some (17, false)), (.load none (.t 18))⟩, ⟨(some 20), (some (17, false)), (.bin .gtr (.t 19) (.c (.int .i64 14)))⟩, ⟨(some 21), none, (.pick (.t 17) (.c (.bool true)) (.t 20))⟩]) (.cond (.t 21) (.seq (.reg [⟨(some 2), none, (.mv (.c (.int .i64 4)))⟩]) .ret) .skip)) (.seq (.reg [⟨(some 23), none, (.faddr 0 (.t 3))⟩, ⟨(some 24), none, (.load none (.t 23))⟩, ⟨(some 25), none, (.call 80 [(.t 24)])⟩, ⟨(some 22), none, (.mv (.t 25))⟩, ⟨(some 26), none, (.extr (.t 22) 0)⟩, ⟨(some 27), none, (.extr (.t 22) 1)⟩, ⟨(some 28), none, (.extr (.t 22) 2)⟩, ⟨(some 29), none, (.extr (.t 22) 3)⟩, ⟨(some 4), none, (.mv (.t 26))⟩, ⟨(some 5), none, (.mv (.t 27))⟩, ⟨(some 6), none, (.mv (.t 28))⟩, ⟨(some 7), none, (.mv (.t 29))⟩]) (.seq (.seq (.reg [⟨(some 30), none, (.mv (.t 4))⟩, ⟨(some 31), none, (.un .not (.t 30))⟩, ⟨(some 32), none, (.mv (.t 31))⟩, ⟨(some 33), (some (32, true)), (.faddr 1 (.t 3))⟩, ⟨(some 34), (some (32, true)), (.load none (.t 33))⟩, ⟨(some 35), (some (32, true)), (.bin .neq (.t 34) (.c (.str [])))⟩, ⟨(some 36), (some (32, true)), (.mv (.t 35))⟩, ⟨(some 37), (some (36, false)), (.faddr 5 (.t 3))⟩, ⟨(some 38), (some (36, false)), (.load none (.t 37))⟩, ⟨(some 39), (some (36, false)), (.len false (.t 38))⟩, ⟨(some 40), (some (36, false)), (.bin .gtr (.t 39) (.c (.int .i64 0)))⟩, ⟨(some 41), (some (32, true)), (.pick (.t 36) (.c (.bool true)) (.t 40))⟩, ⟨(some 42), none, (.pick (.t 32) (.t 41) (.c (.bool false)))⟩, ⟨(some 43), none, (.mv (.t 42))⟩, ⟨(some 44), (some (43, false)), (.mv (.t 5))⟩, ⟨(some 45), (some (43, false)), (.un .not (.t 44))⟩, ⟨(some 46), (some (43, false)), (.mv (.t 45))⟩, ⟨(some 47), (some (46, true)), (.faddr 2 (.t 3))⟩, ⟨(some 48), (some (46, true)), (.load none (.t 47))⟩, ⟨(some 49), (some (46, true)), (.bin .neq (.t 48) (.c (.int .i64 0)))⟩, ⟨(some 50), (some (43, false)), (.pick (.t 46) (.t 49) (.c (.bool false)))⟩, ⟨(some 51), none, (.pick (.t 43) (.c (.bool true)) (.t 50))⟩, ⟨(some 52), none, (.mv (.t 51))⟩, ⟨(some 53), (some (52, false)), (.mv (.t 6))⟩, ⟨(some 54), (some (52, false)), (.un .not (.t 53))⟩, ⟨(some 55), (some (52, false)), (.mv (.t 54))⟩, ⟨(some 56), (some (55, true)), (.faddr 3 (.t 3))⟩, ⟨(some 57), (some (55, true)), (.load none (.t 56))⟩, ⟨(some 58), (some (55, true)), (.bin .neq (.t 57) (.c (.int .i64 0)))⟩, ⟨(some 59), (some (52, false)), (.pick (.t 55) (.t 58) (.c (.bool false)))⟩, ⟨(some 60), none, (.pick (.t 52) (.c (.bool true)) (.t 59))⟩, ⟨(some 61), none, (.mv (.t 60))⟩, ⟨(some 62), (some (61, false)), (.mv (.t 7))⟩, ⟨(some 63), (some (61, false)), (.un .not (.t 62))⟩, ⟨(some 64), (some (61, false)), (.mv (.t 63))⟩, ⟨(some 65), (some (64, true)), (.faddr 4 (.t 3))⟩, ⟨(some 66), (some (64, true)), (.load none (.t 65))⟩, ⟨(some 67), (some (64, true)), (.bin .neq (.t 66) (.c (.int .i64 0)))⟩, ⟨(some 68), (some (61, false)), (.pick (.t 64) (.t 67) (.c (.bool false)))⟩, ⟨(some 69), none, (.pick (.t 61) (.c (.bool true)) (.t 68))⟩]) (.cond (.t 69) (.seq (.reg [⟨(some 2), none, (.mv (.c (.int .i64 1)))⟩]) .ret) .skip)) (.seq (.seq (.reg [⟨(some 70), none, (.faddr 5 (.t 3))⟩, ⟨(some 71), none, (.load none (.t 70))⟩, ⟨(some 72), none, (.len false (.t 71))⟩, ⟨(some 73), none, (.mv (.c (.int .i64 0)))⟩]) (.block 0 (.loop (.seq (.reg [⟨(some 74), none, (.bin .lss (.t 73) (.t 72))⟩]) (.seq (.cond (.t 74) .skip (.exit 0)) (.seq (.block 1 (.seq (.reg [⟨(some 75), none, (.iaddr 5 (.t 71) (.t 73))⟩, ⟨(some 76), none, (.load (some 5) (.t 75))⟩, ⟨(some 9), none, (.allc 39 [(.str []), (.int .u64 0), (.int .i64 0), (.bool false), (.bool false)])⟩, ⟨none, none, (.store 5 (.t 9) (.t 76))⟩]) (.seq (.reg [⟨(some 77), none, (.faddr 0 (.t 3))⟩, ⟨(some 78), none, (.load none (.t 77))⟩, ⟨(some 79), none, (.bin .eql (.t 78) (.c (.int .i64 9)))⟩, ⟨(some 80), none, (.mv (.t 79))⟩, ⟨(some 81), (some (80, true)), (.faddr 2 (.t 9))⟩, ⟨(some 82), (some (80, true)), (.load none (.t 81))⟩, ⟨(some 83), (some (80, true)), (.bin .neq (.t 82) (.c (.int .i64 0)))⟩, ⟨(some 84), none, (.pick (.t 80) (.t 83) (.c (.bool false)))⟩, ⟨(some 85), none, (.mv (.t 84))⟩, ⟨(some 86), (some (85, false)), (.faddr 0 (.t 3))⟩, ⟨(some 87), (some (85, false)), (.load none (.t 86))⟩, ⟨(some 88), (some (85, false)), (.bin .neq (.t 87) (.c (.int .i64 13)))⟩, ⟨(some 89), (some (85, false)), (.mv (.t 88))⟩, ⟨(some 90), (some (89, true)), (.faddr 3 (.t 9))⟩, ⟨(some 91), (some (89, true)), (.load none (.t 90))⟩, ⟨(some 92), (some (85, false)), (.pick (.t 89) (.t 91) (.c (.bool false)))⟩, ⟨(some 93), none, (.pick (.t 85) (.c (.bool true)) (.t 92))⟩, ⟨(some 94), none, (.mv (.t 93))⟩, ⟨(some 95), (some (94, false)), (.faddr 0 (.t 3))⟩, ⟨(some 96), (some (94, false)), (.load none (.t 95))⟩, ⟨(some 97), (some (94, false)), (.bin .neq (.t 96) (.c (.int .i64 14)))⟩, ⟨(some 98), (some (94, false)), (.mv (.t 97))⟩, ⟨(some 99), (some (98, true)), (.faddr 4 (.t 9))⟩, ⟨(some 100), (some (98, true)), (.load none (.t 99))⟩, ⟨(some 101), (some (94, false)), (.pick (.t 98) (.t 100) (.c (.bool false)))⟩, ⟨(some 102), none, (.pick (.t 94) (.c (.bool true)) (.t 101))⟩, ⟨(some 103), none, (.mv (.t 102))⟩, ⟨(some 104), (some (103, false)), (.faddr 0 (.t 3))⟩, ⟨(some 105), (some (103, false)), (.load none (.t 104))⟩, ⟨(some 106), (some (103, false)), (.bin .eql (.t 105) (.c (.int .i64 13)))⟩, ⟨(some 107), (some (103, false)), (.mv (.t 106))⟩, ⟨(some 108), (some (107, false)), (.faddr 4 (.t 9))⟩, ⟨(some 109), (some (107, false)), (.load none (.t 108))⟩, ⟨(some 110), (some (103, false)), (.pick (.t 107) (.c (.bool true)) (.t 109))⟩, ⟨(some 111), (some (103, false)), (.mv (.t 110))⟩, ⟨(some 112), (some (111, true)), (.faddr 1 (.t 9))⟩, ⟨(some 113), (some (111, true)), (.load none (.t 112))⟩, ⟨(some 114), (some (111, true)), (.bin .neq (.t 113) (.c (.int .u64 0)))⟩, ⟨(some 115), (some (103, false)), (.pick (.t 111) (.t 114) (.c (.bool false)))⟩, ⟨(some 116), none, (.pick (.t 103) (.c (.bool true)) (.t 115))⟩]) (.cond (.t 116) (.seq (.reg [⟨(some 2), none, (.mv (.c (.int .i64 1)))⟩]) .ret) .skip)))) (.reg [⟨(some 117), none, (.bin .add (.t 73) (.c (.int .i64 1)))⟩, ⟨(some 73), none, (.mv (.t 117))⟩]))))))) (.seq (.reg [⟨(some 2), none, (.mv (.c (.int .i64 0)))⟩]) .ret)))))))
theorem types_look_form.code : comp PG [] (Try.f49.body.getD .skip) = types_look_form.c := by kernel_rfl
theorem types_look_form.of {args : List AV} {H : AH} {K : AV → AH → Prop} (hl : args.length = 1) (h : wpA PG types_look_form.c none (endA [(.t 2)] K) (initFr args) H) : ACalls PG 49 args H K :=
  ACalls.of_code (fl := []) mixed Try.func49 (c := Try.f49.body.getD .skip) (by kernel_rfl) (by kernel_rfl) (by rw [hl]; exact of_decide_eq_true (by kernel_rfl)) (by rw [types_look_form.code]; kernel_rfl)
    (by rw [types_look_form.code, show compRes PG Try.f49.results.toList = [(.t 2)] from by kernel_rfl]; exact h)
def types_look_named.n : Nat := 50
noncomputable def types_look_named.c : C := (.seq (.reg [⟨(some 2), none, (.mv (.c (.int .i64 0)))⟩]) (.seq (.seq (.reg [⟨(some 10), none, (.mv (.t 0))⟩, ⟨(some 11), none, (.nilck (.t 10))⟩, ⟨(some 12), none, (.faddr 2 (.t 11))⟩, ⟨(some 13), none, (.faddr 0 (.t 12))⟩, ⟨(some 14), none, (.load none (.t 13))⟩, ⟨(some 15), none, (.call 80 [(.t 14)])⟩, ⟨(some 9), none, (.mv (.t 15))⟩, ⟨(some 16), none, (.extr (.t 9) 0)⟩, ⟨(some 17), none, (.extr (.t 9) 1)⟩, ⟨(some 18), none, (.extr (.t 9) 2)⟩, ⟨(some 19), none, (.extr (.t 9) 3)⟩, ⟨(some 3), none, (.mv (.t 16))⟩, ⟨(some 4), none, (.mv (.t 17))⟩, ⟨(some 5), none, (.mv (.t 18))⟩, ⟨(some 6), none, (.mv (.t 19))⟩]) (.seq (.reg [⟨(some 20), none, (.mv (.t 3))⟩, ⟨(some 21), none, (.un .not (.t 20))⟩]) (.cond (.t 21) (.seq (.reg [⟨(some 2), none, (.mv (.c (.int .i64 0)))⟩]) .ret) .skip))) (.seq (.seq (.reg [⟨(some 22), none, (.mv (.t 0))⟩, ⟨(some 23), none, (.nilck (.t 22))⟩, ⟨(some 24), none, (.faddr 2 (.t 23))⟩, ⟨(some 25), none, (.faddr 1 (.t 24))⟩, ⟨(some 26), none, (.load none (.t 25))⟩, ⟨(some 27), none, (.call 88 [(.t 26)])⟩, ⟨(some 28), none, (.un .not (.t 27))⟩]) (.cond (.t 28) (.seq (.reg [⟨(some 2), none, (.mv (.c (.int .i64 5)))⟩]) .ret) .skip)) (.seq (.seq (.dreg [⟨(some 29), none, (.mv (.t 0))⟩, ⟨(some 30), none, (.nilck (.t 29))⟩, ⟨(some 31), none, (.faddr 0 (.t 30))⟩, ⟨(some 32), none, (.load none (.t 31))⟩, ⟨(some 33), none, (.mv (.t 0))⟩, ⟨(some 34), none, (.nilck (.t 33))⟩, ⟨(some 35), none, (.faddr 1 (.t 34))⟩, ⟨(some 36), none, (.load none (.t 35))⟩, ⟨(some 37), none, (.slice (some 6) (.t 32) none (some (.t 36)))⟩, ⟨(some 38), none, (.len false (.t 37))⟩, ⟨(some 39), none, (.mv (.c (.int .i64 0)))⟩] []) (.block 0 (.loop (.seq (.reg [⟨(some 40), none, (.bin .lss (.t 39) (.t 38))⟩]) (.seq (.cond (.t 40) .skip (.exit 0)) (.seq (.block 1 (.seq (.reg [⟨(some 41), none, (.iaddr 6 (.t 37) (.t 39))⟩, ⟨(some 42), none, (.load (some 6) (.t 41))⟩, ⟨(some 8), none, (.allc 37 [(.int .i64 0), (.str []), (.int .i64 0), (.int .i64 0), (.int .i64 0), .nilS])⟩, ⟨none, none, (.store 6 (.t 8) (.t 42))⟩]) (.seq (.dreg [⟨(some 43), none, (.faddr 1 (.t 8))⟩, ⟨(some 44), none, (.load none (.t 43))⟩, ⟨(some 45), none, (.mv (.t 0))⟩, ⟨(some 46), none, (.nilck (.t 45))⟩, ⟨(some 47), none, (.faddr 2 (.t 46))⟩, ⟨(some 48), none, (.faddr 1 (.t 47))⟩, ⟨(some 49), none, (.load none (.t 48))⟩] [⟨(some 50), none, (.bin .eql (.t 44) (.t 49))⟩]) (.cond (.t 50) (.seq (.reg [⟨(some 2), none, (.mv (.c (.int .i64 6)))⟩]) .ret) .skip)))) (.reg [⟨(some 51), none, (.bin .add (.t 39) (.c (.int .i64 1)))⟩, ⟨(some 39), none, (.mv (.t 51))⟩]))))))) (.seq (.reg [⟨(some 2), none, (.mv (.c (.int .i64 0)))⟩]) .ret)))))
theorem types_look_named.code : comp PG [] (Try.f50.body.getD .skip) = types_look_named.c := by kernel_rfl
theorem types_look_named.of {args : List AV} {H : AH} {K : AV → AH → Prop} (hl : args.length = 1) (h : wpA PG types_look_named.c none (endA [(.t 2)] K) (initFr args) H) : ACalls PG 50 args H K :=
  ACalls.of_code (fl := []) mixed Try.func50 (c := Try.f50.body.getD .skip) (by kernel_rfl) (by kernel_rfl) (by rw [hl]; exact of_decide_eq_true (by kernel_rfl)) (by rw [types_look_named.code]; kernel_rfl)
    (by rw [types_look_named.code, show compRes PG Try.f50.results.toList = [(.t 2)] from by kernel_rfl]; exact h)
def types_look_bound.n : Nat := 51
noncomputable def types_look_bound.c : C := (.seq (.reg [⟨(some 2), none, (.mv (.c (.int .i64 0)))⟩]) (.seq (.reg [⟨(some 8), none, (.mv (.t 0))⟩, ⟨(some 9), none, (.nilck (.t 8))⟩, ⟨(some 10), none, (.faddr 2 (.t 9))⟩, ⟨(some 11), none, (.faddr 0 (.t 10))⟩, ⟨(some 12), none, (.load none (.t 11))⟩, ⟨(some 13), none, (.call 80 [(.t 12)])⟩, ⟨(some 7), none, (.mv (.t 13))⟩, ⟨(some 14), none, (.extr (.t 7) 0)⟩, ⟨(some 15), none, (.extr (.t 7) 1)⟩, ⟨(some 16), none, (.extr (.t 7) 2)⟩, ⟨(some 17), none, (.extr (.t 7) 3)⟩, ⟨(some 3), none, (.mv (.t 14))⟩, ⟨(some 4), none, (.mv (.t 15))⟩, ⟨(some 5), none, (.mv (.t 16))⟩, ⟨(some 6), none, (.mv (.t 17))⟩]) (.seq (.seq (.reg [⟨(some 18), none, (.mv (.t 4))⟩, ⟨(some 19), none, (.mv (.t 18))⟩, ⟨(some 20), (some (19, true)), (.mv (.t 0))⟩, ⟨(some 21), (some (19, true)), (.nilck (.t 20))⟩, ⟨(some 22), (some (19, true)), (.faddr 2 (.t 21))⟩, ⟨(some 23), (some (19, true)), (.faddr 2 (.t 22))⟩, ⟨(some 24), (some (19, true)), (.load none (.t 23))⟩, ⟨(some 25), (some (19, true)), (.bin .gtr (.t 24) (.c (.int .i64 64)))⟩, ⟨(some 26), (some (19, true)), (.mv (.t 25))⟩, ⟨(some 27), (some (26, false)), (.mv (.t 0))⟩, ⟨(some 28), (some (26, false)), (.nilck (.t 27))⟩, ⟨(some 29), (some (26, false)), (.faddr 2 (.t 28))⟩, ⟨(some 30), (some (26, false)), (.faddr 2 (.t 29))⟩, ⟨(some 31), (some (26, false)), (.load none (.t 30))⟩, ⟨(some 32), (some (26, false)), (.bin .lss (.t 31) (.c (.int .i64 0)))⟩, ⟨(some 33), (some (19, true)), (.pick (.t 26) (.c (.bool true)) (.t 32))⟩, ⟨(some 34), (some (19, true)), (.mv (.t 33))⟩, ⟨(some 35), (some (34, false)), (.mv (.t 5))⟩, ⟨(some 36), (some (34, false)), (.mv (.t 35))⟩, ⟨(some 37), (some (36, true)), (.mv (.t 0))⟩, ⟨(some 38), (some (36, true)), (.nilck (.t 37))⟩, ⟨(some 39), (some (36, true)), (.faddr 2 (.t 38))⟩, ⟨(some 40), (some (36, true)), (.faddr 2 (.t 39))⟩, ⟨(some 41), (some (36, true)), (.load none (.t 40))⟩, ⟨(some 42), (some (36, true)), (.bin .eql (.t 41) (.c (.int .i64 0)))⟩, ⟨(some 43), (some (34, false)), (.pick (.t 36) (.t 42) (.c (.bool false)))⟩, ⟨(some 44), (some (19, true)), (.pick (.t 34) (.c (.bool true)) (.t 43))⟩, ⟨(some 45), none, (.pick (.t 19) (.t 44) (.c (.bool false)))⟩]) (.cond (.t 45) (.seq (.reg [⟨(some 2), none, (.mv (.c (.int .i64 7)))⟩]) .ret) .skip)) (.seq (.reg [⟨(some 2), none, (.mv (.c (.int .i64 0)))⟩]) .ret))))
theorem types_look_bound.code : comp PG [] (Try.f51.body.getD .skip) = types_look_bound.c := by kernel_rfl
theorem types_look_bound.of {args : List AV} {H : AH} {K : AV → AH → Prop} (hl : args.length = 1) (h : wpA PG types_look_bound.c none (endA [(.t 2)] K) (initFr args) H) : ACalls PG 51 args H K :=
  ACalls.of_code (fl := []) mixed Try.func51 (c := Try.f51.body.getD .skip) (by kernel_rfl) (by kernel_rfl) (by rw [hl]; exact of_decide_eq_true (by kernel_rfl)) (by rw [types_look_bound.code]; kernel_rfl)
    (by rw [types_look_bound.code, show compRes PG Try.f51.results.toList = [(.t 2)] from by kernel_rfl]; exact h)
def types_look_order.n : Nat := 52
noncomputable def types_look_order.c : C := (.seq (.reg [⟨(some 2), none, (.mv (.c (.int .i64 0)))⟩]) (.seq (.seq (.reg [⟨(some 5), none, (.mv (.t 0))⟩, ⟨(some 6), none, (.nilck (.t 5))⟩, ⟨(some 7), none, (.faddr 2 (.t 6))⟩, ⟨(some 8), none, (.load (some 6) (.t 7))⟩, ⟨(some 9), none, (.call 40 [(.t 8)])⟩, ⟨(some 10), none, (.len false (.t 9))⟩, ⟨(some 11), none, (.mv (.c (.int .i64 0)))⟩]) (.block 0 (.loop (.seq (.reg [⟨(some 12), none, (.bin .lss (.t 11) (.t 10))⟩]) (.seq (.cond (.t 12) .skip (.exit 0)) (.seq (.block 1 (.seq (.reg [⟨(some 13), none, (.iaddr 1 (.t 9) (.t 11))⟩, ⟨(some 14), none, (.load none (.t 13))⟩, ⟨(some 4), none, (.mv (.t 14))⟩]) (.seq (.reg [⟨(some 15), none, (.mv (.t 4))⟩, ⟨(some 16), none, (.bin .lss (.t 15) (.c (.int .i64 0)))⟩, ⟨(some 17), none, (.mv (.t 16))⟩, ⟨(some 18), (some (17, false)), (.mv (.t 4))⟩, ⟨(some 19), (some (17, false)), (.mv (.t 0))⟩, ⟨(some 20), (some (17, false)), (.nilck (.t 19))⟩, ⟨(some 21), (some (17, false)), (.faddr 1 (.t 20))⟩, ⟨(some 22), (some (17, false)), (.load none (.t 21))⟩, ⟨(some 23), (some (17, false)), (.bin .geq (.t 18) (.t 22))⟩, ⟨(some 24), none, (.pick (.t 17) (.c (.bool true)) (.t 23))⟩]) (.cond (.t 24) (.seq (.reg [⟨(some 2), none, (.mv (.c (.int .i64 14)))⟩]) .ret) .skip)))) (.reg [⟨(some 25), none, (.bin .add (.t 11) (.c (.int .i64 1)))⟩, ⟨(some 11), none, (.mv (.t 25))⟩]))))))) (.seq (.seq (.dreg [⟨(some 26), none, (.mv (.t 0))⟩, ⟨(some 27), none, (.nilck (.t 26))⟩, ⟨(some 28), none, (.faddr 2 (.t 27))⟩, ⟨(some 29), none, (.faddr 0 (.t 28))⟩, ⟨(some 30), none, (.load none (.t 29))⟩, ⟨(some 31), none, (.bin .eql (.t 30) (.c (.int .i64 14)))⟩, ⟨(some 32), none, (.mv (.t 31))⟩, ⟨(some 33), (some (32, true)), (.mv (.t 0))⟩, ⟨(some 34), (some (32, true)), (.nilck (.t 33))⟩, ⟨(some 35), (some (32, true)), (.faddr 0 (.t 34))⟩, ⟨(some 36), (some (32, true)), (.load none (.t 35))⟩, ⟨(some 37), (some (32, true)), (.mv (.t 0))⟩, ⟨(some 38), (some (32, true)), (.nilck (.t 37))⟩, ⟨(some 39), (some (32, true)), (.faddr 2 (.t 38))⟩, ⟨(some 40), (some (32, true)), (.faddr 4 (.t 39))⟩, ⟨(some 41), (some (32, true)), (.load none (.t 40))⟩] [⟨(some 42), (some (32, true)), (.iaddr 6 (.t 36) (.t 41))⟩, ⟨(some 43), (some (32, true)), (.faddr 0 (.t 42))⟩, ⟨(some 44), (some (32, true)), (.load none (.t 43))⟩, ⟨(some 45), (some (32, true)), (.call 68 [(.t 44)])⟩, ⟨(some 46), (some (32, true)), (.un .not (.t 45))⟩, ⟨(some 47), none, (.pick (.t 32) (.t 46) (.c (.bool false)))⟩]) (.cond (.t 47) (.seq (.reg [⟨(some 2), none, (.mv (.c (.int .i64 8)))⟩]) .ret) .skip)) (.seq (.reg [⟨(some 2), none, (.mv (.c (.int .i64 0)))⟩]) .ret))))
theorem types_look_order.code : comp PG [] (Try.f52.body.getD .skip) = types_look_order.c := by kernel_rfl
theorem types_look_order.of {args : List AV} {H : AH} {K : AV → AH → Prop} (hl : args.length = 1) (h : wpA PG types_look_order.c none (endA [(.t 2)] K) (initFr args) H) : ACalls PG 52 args H K :=
  ACalls.of_code (fl := []) mixed Try.func52 (c := Try.f52.body.getD .skip) (by kernel_rfl) (by kernel_rfl) (by rw [hl]; exact of_decide_eq_true (by kernel_rfl)) (by rw [types_look_order.code]; kernel_rfl)
    (by rw [types_look_order.code, show compRes PG Try.f52.results.toList = [(.t 2)] from by kernel_rfl]; exact h)
def types_look_items.n : Nat := 53
noncomputable def types_look_items.c : C := (.seq (.reg [⟨(some 2), none, (.mv (.c (.int .i64 0)))⟩]) (.seq (.seq (.reg [⟨(some 11), none, (.mv (.t 0))⟩, ⟨(some 12), none, (.nilck (.t 11))⟩, ⟨(some 13), none, (.faddr 2 (.t 12))⟩, ⟨(some 14), none, (.faddr 0 (.t 13))⟩, ⟨(some 15), none, (.load none (.t 14))⟩, ⟨(some 16), none, (.call 80 [(.t 15)])⟩, ⟨(some 10), none, (.mv (.t 16))⟩, ⟨(some 17), none, (.extr (.t 10) 0)⟩, ⟨(some 18), none, (.extr (.t 10) 1)⟩, ⟨(some 19), none, (.extr (.t 10) 2)⟩, ⟨(some 20), none, (.extr (.t 10) 3)⟩, ⟨(some 3), none, (.mv (.t 17))⟩, ⟨(some 4), none, (.mv (.t 18))⟩, ⟨(some 5), none, (.mv (.t 19))⟩, ⟨(some 6), none, (.mv (.t 20))⟩]) (.seq (.reg [⟨(some 21), none, (.mv (.t 3))⟩, ⟨(some 22), none, (.un .not (.t 21))⟩]) (.cond (.t 22) (.seq (.reg [⟨(some 2), none, (.mv (.c (.int .i64 0)))⟩]) .ret) .skip))) (.seq (.seq (.reg [⟨(some 23), none, (.mv (.t 0))⟩, ⟨(some 24), none, (.nilck (.t 23))⟩, ⟨(some 25), none, (.faddr 2 (.t 24))⟩, ⟨(some 26), none, (.faddr 5 (.t 25))⟩, ⟨(some 27), none, (.load none (.t 26))⟩, ⟨(some 28), none, (.len false (.t 27))⟩, ⟨(some 7), none, (.mv (.t 28))⟩]) (.block 0 (.seq (.reg [⟨(some 30), none, (.mv (.t 7))⟩, ⟨(some 31), none, (.bin .eql (.t 30) (.c (.int .i64 0)))⟩, ⟨(some 29), none, (.mv (.t 31))⟩]) (.cond (.t 29) (.seq (.reg [⟨(some 2), none, (.mv (.c (.int .i64 18)))⟩]) .ret) (.seq (.reg [⟨(some 33), none, (.mv (.t 7))⟩, ⟨(some 34), none, (.bin .gtr (.t 33) (.c (.int .i64 16)))⟩, ⟨(some 32), none, (.mv (.t 34))⟩]) (.cond (.t 32) (.seq (.reg [⟨(some 2), none, (.mv (.c (.int .i64 3)))⟩]) .ret) .skip)))))) (.seq (.seq (.reg [⟨(some 35), none, (.mv (.t 0))⟩, ⟨(some 36), none, (.nilck (.t 35))⟩, ⟨(some 37), none, (.faddr 2 (.t 36))⟩, ⟨(some 38), none, (.faddr 5 (.t 37))⟩, ⟨(some 39), none, (.load none (.t 38))⟩, ⟨(some 40), none, (.len false (.t 39))⟩, ⟨(some 41), none, (.mv (.c (.int .i64 0)))⟩]) (.block 1 (.loop (.seq (.reg [⟨(some 42), none, (.bin .lss (.t 41) (.t 40))⟩]) (.seq (.cond (.t 42) .skip (.exit 1)) (.seq (.block 2 (.seq (.reg [⟨(some 43), none, (.mv (.t 41))⟩, ⟨(some 8), none, (.mv (.t 43))⟩]) (.seq (.reg [⟨(some 44), none, (.mv (.t 0))⟩, ⟨(some 45), none, (.mv (.t 8))⟩, ⟨(some 46), none, (.call 89 [(.t 44), (.t 45)])⟩, ⟨(some 9), none, (.mv (.t 46))⟩]) (.seq (.reg [⟨(some 47), none, (.mv (.t 9))⟩, ⟨(some 48), none, (.bin .neq (.t 47) (.c (.int .i64 0)))⟩]) (.cond (.t 48) (.seq (.reg [⟨(some 49), none, (.mv (.t 9))⟩, ⟨(some 2), none, (.mv (.t 49))⟩]) .ret) .skip))))) (.reg [⟨(some 50), none, (.bin .add (.t 41) (.c (.int .i64 1)))⟩, ⟨(some 41), none, (.mv (.t 50))⟩]))))))) (.seq (.reg [⟨(some 2), none, (.mv (.c (.int .i64 0)))⟩]) .ret)))))
theorem types_look_items.code : comp PG [] (Try.f53.body.getD .skip) = types_look_items.c := by kernel_rfl
theorem types_look_items.of {args : List AV} {H : AH} {K : AV → AH → Prop} (hl : args.length = 1) (h : wpA PG types_look_items.c none (endA [(.t 2)] K) (initFr args) H) : ACalls PG 53 args H K :=
  ACalls.of_code (fl := []) mixed Try.func53 (c := Try.f53.body.getD .skip) (by kernel_rfl) (by kernel_rfl) (by rw [hl]; exact of_decide_eq_true (by kernel_rfl)) (by rw [types_look_items.code]; kernel_rfl)
    (by rw [types_look_items.code, show compRes PG Try.f53.results.toList = [(.t 2)] from by kernel_rfl]; exact h)
def types_look_deep.n : Nat := 54
noncomputable def types_look_deep.c : C := (.seq (.reg [⟨(some 2), none, (.mv (.c (.int .i64 0)))⟩]) (.seq (.seq (.dreg [⟨(some 3), none, (.mv (.t 0))⟩, ⟨(some 4), none, (.nilck (.t 3))⟩, ⟨(some 5), none, (.faddr 0 (.t 4))⟩, ⟨(some 6), none, (.load none (.t 5))⟩, ⟨(some 7), none, (.mv (.t 0))⟩, ⟨(some 8), none, (.nilck (.t 7))⟩, ⟨(some 9), none, (.faddr 1 (.t 8))⟩, ⟨(some 10), none, (.load none (.t 9))⟩] [⟨(some 11), none, (.call 15 [(.t 6), (.t 10)])⟩, ⟨(some 12), none, (.bin .gtr (.t 11) (.c (.int .i64 6)))⟩]) (.cond (.t 12) (.seq (.reg [⟨(some 2), none, (.mv (.c (.int .i64 9)))⟩]) .ret) .skip)) (.seq (.reg [⟨(some 2), none, (.mv (.c (.int .i64 0)))⟩]) .ret)))
theorem types_look_deep.code : comp PG [] (Try.f54.body.getD .skip) = types_look_deep.c := by kernel_rfl
theorem types_look_deep.of {args : List AV} {H : AH} {K : AV → AH → Prop} (hl : args.length = 1) (h : wpA PG types_look_deep.c none (endA [(.t 2)] K) (initFr args) H) : ACalls PG 54 args H K :=
  ACalls.of_code (fl := []) mixed Try.func54 (c := Try.f54.body.getD .skip) (by kernel_rfl) (by kernel_rfl) (by rw [hl]; exact of_decide_eq_true (by kernel_rfl)) (by rw [types_look_deep.code]; kernel_rfl)
    (by rw [types_look_deep.code, show compRes PG Try.f54.results.toList = [(.t 2)] from by kernel_rfl]; exact h)
def broadsheetref06_Branch.n : Nat := 56
noncomputable def broadsheetref06_Branch.c : C := (.seq (.reg [⟨(some 6), none, (.mv (.c (.int .i64 0)))⟩]) (.seq (.seq (.reg [⟨(some 9), none, (.mv (.t 1))⟩, ⟨(some 10), none, (.bin .lss (.t 9) (.c (.int .i64 0)))⟩, ⟨(some 11), none, (.mv (.t 10))⟩, ⟨(some 12), (some (11, false)), (.mv (.t 1))⟩, ⟨(some 13), (some (11, false)), (.mv (.t 0))⟩, ⟨(some 14), (some (11, false)), (.len false (.t 13))⟩, ⟨(some 15), (some (11, false)), (.bin .geq (.t 12) (.t 14))⟩, ⟨(some 16), none, (.pick (.t 11) (.c (.bool true)) (.t 15))⟩, ⟨(some 17), none, (.mv (.t 16))⟩, ⟨(some 18), (some (17, false)), (.mv (.t 0))⟩, ⟨(some 19), (some (17, false)), (.mv (.t 1))⟩, ⟨(some 20), (some (17, false)), (.iaddr 6 (.t 18) (.t 19))⟩, ⟨(some 21), (some (17, false)), (.faddr 0 (.t 20))⟩, ⟨(some 22), (some (17, false)), (.load none (.t 21))⟩, ⟨(some 23), (some (17, false)), (.bin .neq (.t 22) (.c (.int .i64 14)))⟩, ⟨(some 24), none, (.pick (.t 17) (.c (.bool true)) (.t 23))⟩]) (.cond (.t 24) (.seq (.reg [⟨(some 6), none, (.mv (.c (.int .i64 (-1))))⟩]) .ret) .skip)) (.seq (.reg [⟨(some 7), none, (.mv (.c (.int .i64 (-1))))⟩]) (.seq (.seq (.reg [⟨(some 8), none, (.mv (.c (.int .i64 0)))⟩]) (.block 0 (.loop (.seq (.seq (.reg [⟨(some 25), none, (.mv (.t 8))⟩, ⟨(some 26), none, (.mv (.t 0))⟩, ⟨(some 27), none, (.mv (.t 1))⟩, ⟨(some 28), none, (.iaddr 6 (.t 26) (.t 27))⟩, ⟨(some 29), none, (.faddr 5 (.t 28))⟩, ⟨(some 30), none, (.load none (.t 29))⟩, ⟨(some 31), none, (.len false (.t 30))⟩, ⟨(some 32), none, (.bin .lss (.t 25) (.t 31))⟩]) (.cond (.t 32) .skip (.exit 0))) (.seq (.block 1 (.seq (.reg [⟨(some 35), none, (.mv (.t 0))⟩, ⟨(some 36), none, (.mv (.t 1))⟩, ⟨(some 37), none, (.iaddr 6 (.t 35) (.t 36))⟩, ⟨(some 38), none, (.faddr 5 (.t 37))⟩, ⟨(some 39), none, (.load none (.t 38))⟩, ⟨(some 40), none, (.mv (.t 8))⟩, ⟨(some 41), none, (.iaddr 5 (.t 39) (.t 40))⟩, ⟨(some 42), none, (.faddr 4 (.t 41))⟩, ⟨(some 43), none, (.load none (.t 42))⟩]) (.cond (.t 43) (.seq (.reg [⟨(some 44), none, (.mv (.t 7))⟩, ⟨(some 45), none, (.bin .lss (.t 44) (.c (.int .i64 0)))⟩]) (.cond (.t 45) (.reg [⟨(some 46), none, (.mv (.t 8))⟩, ⟨(some 7), none, (.mv (.t 46))⟩]) .skip)) (.seq (.reg [⟨(some 47), none, (.mv (.t 0))⟩, ⟨(some 48), none, (.mv (.t 1))⟩, ⟨(some 49), none, (.iaddr 6 (.t 47) (.t 48))⟩, ⟨(some 50), none, (.faddr 5 (.t 49))⟩, ⟨(some 51), none, (.load none (.t 50))⟩, ⟨(some 52), none, (.mv (.t 8))⟩, ⟨(some 53), none, (.iaddr 5 (.t 51) (.t 52))⟩, ⟨(some 54), none, (.faddr 1 (.t 53))⟩, ⟨(some 55), none, (.load none (.t 54))⟩, ⟨(some 56), none, (.mv (.t 2))⟩, ⟨(some 57), none, (.bin .eql (.t 55) (.t 56))⟩]) (.cond (.t 57) (.seq (.reg [⟨(some 58), none, (.mv (.t 8))⟩, ⟨(some 6), none, (.mv (.t 58))⟩]) .ret) .skip))))) (.reg [⟨(some 33), none, (.mv (.t 8))⟩, ⟨(some 34), none, (.bin .add (.t 33) (.c (.int .i64 1)))⟩, ⟨(some 8), none, (.mv (.t 34))⟩])))))) (.seq (.reg [⟨(some 59), none, (.mv (.t 7))⟩, ⟨(some 6), none, (.mv (.t 59))⟩]) .ret)))))
theorem broadsheetref06_Branch.code : comp PG [] (Try.f56.body.getD .skip) = broadsheetref06_Branch.c := by kernel_rfl
theorem broadsheetref06_Branch.of {args : List AV} {H : AH} {K : AV → AH → Prop} (hl : args.length = 3) (h : wpA PG broadsheetref06_Branch.c none (endA [(.t 6)] K) (initFr args) H) : ACalls PG 56 args H K :=
  ACalls.of_code (fl := []) mixed Try.func56 (c := Try.f56.body.getD .skip) (by kernel_rfl) (by kernel_rfl) (by rw [hl]; exact of_decide_eq_true (by kernel_rfl)) (by rw [broadsheetref06_Branch.code]; kernel_rfl)
    (by rw [broadsheetref06_Branch.code, show compRes PG Try.f56.results.toList = [(.t 6)] from by kernel_rfl]; exact h)
def prim_Size.n : Nat := 57
noncomputable def prim_Size.c : C := (.seq (.reg [⟨(some 2), none, (.mv (.c (.int .i64 0)))⟩]) (.seq (.reg [⟨(some 3), none, (.mv (.t 0))⟩, ⟨(some 4), none, (.call 90 [(.t 3)])⟩, ⟨(some 5), none, (.field 0 none (.t 4))⟩, ⟨(some 2), none, (.mv (.t 5))⟩]) .ret))
theorem prim_Size.code : comp PG [] (Try.f57.body.getD .skip) = prim_Size.c := by kernel_rfl
theorem prim_Size.of {args : List AV} {H : AH} {K : AV → AH → Prop} (hl : args.length = 1) (h : wpA PG prim_Size.c none (endA [(.t 2)] K) (initFr args) H) : ACalls PG 57 args H K :=
  ACalls.of_code (fl := []) mixed Try.func57 (c := Try.f57.body.getD .skip) (by kernel_rfl) (by kernel_rfl) (by rw [hl]; exact of_decide_eq_true (by kernel_rfl)) (by rw [prim_Size.code]; kernel_rfl)
    (by rw [prim_Size.code, show compRes PG Try.f57.results.toList = [(.t 2)] from by kernel_rfl]; exact h)
def word_Put.n : Nat := 60
noncomputable def word_Put.c : C := (.seq (.reg [⟨(some 4), none, (.mv (.c (.str [])))⟩, ⟨(some 5), none, (.mv (.c (.int .i64 0)))⟩]) (.seq (.block 0 (.seq (.reg [⟨(some 9), none, (.mv (.t 1))⟩, ⟨(some 10), none, (.call 92 [(.t 9)])⟩, ⟨(some 11), none, (.un .not (.t 10))⟩, ⟨(some 8), none, (.mv (.t 11))⟩]) (.cond (.t 8) (.seq (.reg [⟨(some 4), none, (.mv (.c (.str [])))⟩, ⟨(some 5), none, (.mv (.c (.int .i64 4)))⟩]) .ret) (.seq (.reg [⟨(some 13), none, (.mv (.t 0))⟩, ⟨(some 14), none, (.mv (.t 1))⟩, ⟨(some 15), none, (.call 93 [(.t 14)])⟩, ⟨(some 16), none, (.bin .andNot (.t 13) (.t 15))⟩, ⟨(some 17), none, (.bin .neq (.t 16) (.c (.int .u64 0)))⟩, ⟨(some 12), none, (.mv (.t 17))⟩]) (.cond (.t 12) (.seq (.reg [⟨(some 4), none, (.mv (.c (.str [])))⟩, ⟨(some 5), none, (.mv (.c (.int .i64 7)))⟩]) .ret) .skip))))) (.seq (.reg [⟨(some 18), none, (.mv (.t 1))⟩, ⟨(some 19), none, (.mks 5 1 1 [(.int .u8 0)] (.t 18))⟩, ⟨(some 6), none, (.mv (.t 19))⟩]) (.seq (.seq (.reg [⟨(some 20), none, (.mv (.t 1))⟩, ⟨(some 21), none, (.mv (.c (.int .i64 0)))⟩]) (.block 1 (.loop (.seq (.reg [⟨(some 22), none, (.bin .lss (.t 21) (.t 20))⟩]) (.seq (.cond (.t 22) .skip (.exit 1)) (.seq (.block 2 (.seq (.reg [⟨(some 23), none, (.mv (.t 21))⟩, ⟨(some 7), none, (.mv (.t 23))⟩]) (.reg [⟨(some 24), none, (.mv (.t 6))⟩, ⟨(some 25), none, (.mv (.t 7))⟩, ⟨(some 26), none, (.mv (.t 0))⟩, ⟨(some 27), none, (.mv (.t 7))⟩, ⟨(some 28), none, (.bin .mul (.c (.int .i64 8)) (.t 27))⟩, ⟨(some 29), none, (.conv .u64 (.t 28))⟩, ⟨(some 30), none, (.bin .shr (.t 26) (.t 29))⟩, ⟨(some 31), none, (.conv .u8 (.t 30))⟩, ⟨(some 32), none, (.iaddr 1 (.t 24) (.t 25))⟩, ⟨none, none, (.store 1 (.t 32) (.t 31))⟩]))) (.reg [⟨(some 33), none, (.bin .add (.t 21) (.c (.int .i64 1)))⟩, ⟨(some 21), none, (.mv (.t 33))⟩]))))))) (.seq (.reg [⟨(some 34), none, (.mv (.t 6))⟩, ⟨(some 35), none, (.bytesS (.t 34))⟩, ⟨(some 4), none, (.mv (.t 35))⟩, ⟨(some 5), none, (.mv (.c (.int .i64 0)))⟩]) .ret)))))
theorem word_Put.code : comp PG [] (Try.f60.body.getD .skip) = word_Put.c := by kernel_rfl
theorem word_Put.of {args : List AV} {H : AH} {K : AV → AH → Prop} (hl : args.length = 2) (h : wpA PG word_Put.c none (endA [(.t 4), (.t 5)] K) (initFr args) H) : ACalls PG 60 args H K :=
  ACalls.of_code (fl := []) mixed Try.func60 (c := Try.f60.body.getD .skip) (by kernel_rfl) (by kernel_rfl) (by rw [hl]; exact of_decide_eq_true (by kernel_rfl)) (by rw [word_Put.code]; kernel_rfl)
    (by rw [word_Put.code, show compRes PG Try.f60.results.toList = [(.t 4), (.t 5)] from by kernel_rfl]; exact h)
def prim_Low.n : Nat := 61
noncomputable def prim_Low.c : C := (.seq (.reg [⟨(some 4), none, (.mv (.c (.int .u64 0)))⟩]) (.seq (.reg [⟨(some 7), none, (.mv (.t 0))⟩, ⟨(some 8), none, (.call 57 [(.t 7)])⟩, ⟨(some 5), none, (.mv (.t 8))⟩]) (.seq (.seq (.reg [⟨(some 9), none, (.mv (.t 5))⟩, ⟨(some 10), none, (.bin .eql (.t 9) (.c (.int .i64 0)))⟩]) (.cond (.t 10) (.seq (.reg [⟨(some 4), none, (.mv (.c (.int .u64 0)))⟩]) .ret) .skip)) (.seq (.reg [⟨(some 11), none, (.mv (.t 5))⟩, ⟨(some 12), none, (.bin .mul (.c (.int .i64 8)) (.t 11))⟩, ⟨(some 13), none, (.bin .sub (.c (.int .i64 64)) (.t 12))⟩, ⟨(some 14), none, (.conv .u64 (.t 13))⟩, ⟨(some 6), none, (.mv (.t 14))⟩]) (.seq (.reg [⟨(some 15), none, (.mv (.t 1))⟩, ⟨(some 16), none, (.mv (.t 6))⟩, ⟨(some 17), none, (.bin .shl (.t 15) (.t 16))⟩, ⟨(some 18), none, (.mv (.t 6))⟩, ⟨(some 19), none, (.bin .shr (.t 17) (.t 18))⟩, ⟨(some 4), none, (.mv (.t 19))⟩]) .ret)))))
theorem prim_Low.code : comp PG [] (Try.f61.body.getD .skip) = prim_Low.c := by kernel_rfl
theorem prim_Low.of {args : List AV} {H : AH} {K : AV → AH → Prop} (hl : args.length = 2) (h : wpA PG prim_Low.c none (endA [(.t 4)] K) (initFr args) H) : ACalls PG 61 args H K :=
  ACalls.of_code (fl := []) mixed Try.func61 (c := Try.f61.body.getD .skip) (by kernel_rfl) (by kernel_rfl) (by rw [hl]; exact of_decide_eq_true (by kernel_rfl)) (by rw [prim_Low.code]; kernel_rfl)
    (by rw [prim_Low.code, show compRes PG Try.f61.results.toList = [(.t 4)] from by kernel_rfl]; exact h)
def prim_Number.n : Nat := 68
noncomputable def prim_Number.c : C := (.seq (.reg [⟨(some 2), none, (.mv (.c (.bool false)))⟩]) (.seq (.reg [⟨(some 3), none, (.mv (.t 0))⟩, ⟨(some 4), none, (.bin .geq (.t 3) (.c (.int .i64 1)))⟩, ⟨(some 5), none, (.mv (.t 4))⟩, ⟨(some 6), (some (5, true)), (.mv (.t 0))⟩, ⟨(some 7), (some (5, true)), (.bin .leq (.t 6) (.c (.int .i64 9)))⟩, ⟨(some 8), none, (.pick (.t 5) (.t 7) (.c (.bool false)))⟩, ⟨(some 2), none, (.mv (.t 8))⟩]) .ret))
theorem prim_Number.code : comp PG [] (Try.f68.body.getD .skip) = prim_Number.c := by kernel_rfl
theorem prim_Number.of {args : List AV} {H : AH} {K : AV → AH → Prop} (hl : args.length = 1) (h : wpA PG prim_Number.c none (endA [(.t 2)] K) (initFr args) H) : ACalls PG 68 args H K :=
  ACalls.of_code (fl := []) mixed Try.func68 (c := Try.f68.body.getD .skip) (by kernel_rfl) (by kernel_rfl) (by rw [hl]; exact of_decide_eq_true (by kernel_rfl)) (by rw [prim_Number.code]; kernel_rfl)
    (by rw [prim_Number.code, show compRes PG Try.f68.results.toList = [(.t 2)] from by kernel_rfl]; exact h)
def broadsheetref06_one.n : Nat := 76
noncomputable def broadsheetref06_one.c : C := (.seq (.reg [⟨(some 4), none, (.mv (.c (.int .i64 0)))⟩]) (.seq (.reg [⟨(some 11), none, (.mv (.t 0))⟩, ⟨(some 12), none, (.mv (.t 1))⟩, ⟨(some 13), none, (.iaddr 6 (.t 11) (.t 12))⟩, ⟨(some 14), none, (.load (some 6) (.t 13))⟩, ⟨(some 5), none, (.allc 37 [(.int .i64 0), (.str []), (.int .i64 0), (.int .i64 0), (.int .i64 0), .nilS])⟩, ⟨none, none, (.store 6 (.t 5) (.t 14))⟩]) (.seq (.seq (.reg [⟨(some 15), none, (.faddr 0 (.t 5))⟩, ⟨(some 16), none, (.load none (.t 15))⟩, ⟨(some 17), none, (.bin .lss (.t 16) (.c (.int .i64 1)))⟩, ⟨(some 18), none, (.mv (.t 17))⟩, ⟨(some 19), (some (18, false)), (.faddr 0 (.t 5))⟩, ⟨(some 20), (some (18, false)), (.load none (.t 19))⟩, ⟨(some 21), (some (18, false)), (.bin .gtr (.t 20) (.c (.int .i64 14)))⟩, ⟨(some 22), none, (.pick (.t 18) (.c (.bool true)) (.t 21))⟩]) (.cond (.t 22) (.seq (.reg [⟨(some 4), none, (.mv (.c (.int .i64 4)))⟩]) .ret) .skip)) (.seq (.seq (.reg [⟨(some 23), none, (.load (some 6) (.t 5))⟩, ⟨(some 24), none, (.call 100 [(.t 23)])⟩]) (.cond (.t 24) (.seq (.reg [⟨(some 4), none, (.mv (.c (.int .i64 1)))⟩]) .ret) .skip)) (.seq (.seq (.reg [⟨(some 25), none, (.faddr 0 (.t 5))⟩, ⟨(some 26), none, (.load none (.t 25))⟩, ⟨(some 27), none, (.call 101 [(.t 26)])⟩]) (.cond (.t 27) (.seq (.seq (.reg [⟨(some 28), none, (.faddr 1 (.t 5))⟩, ⟨(some 29), none, (.load none (.t 28))⟩, ⟨(some 30), none, (.call 102 [(.t 29)])⟩, ⟨(some 31), none, (.un .not (.t 30))⟩]) (.cond (.t 31) (.seq (.reg [⟨(some 4), none, (.mv (.c (.int .i64 5)))⟩]) .ret) .skip)) (.seq (.reg [⟨(some 6), none, (.mv (.c (.int .i64 0)))⟩]) (.block 0 (.loop (.seq (.seq (.reg [⟨(some 32), none, (.mv (.t 6))⟩, ⟨(some 33), none, (.mv (.t 1))⟩, ⟨(some 34), none, (.bin .lss (.t 32) (.t 33))⟩]) (.cond (.t 34) .skip (.exit 0))) (.seq (.block 1 (.seq (.dreg [⟨(some 37), none, (.mv (.t 0))⟩, ⟨(some 38), none, (.mv (.t 6))⟩, ⟨(some 39), none, (.iaddr 6 (.t 37) (.t 38))⟩, ⟨(some 40), none, (.faddr 1 (.t 39))⟩, ⟨(some 41), none, (.load none (.t 40))⟩, ⟨(some 42), none, (.faddr 1 (.t 5))⟩, ⟨(some 43), none, (.load none (.t 42))⟩] [⟨(some 44), none, (.bin .eql (.t 41) (.t 43))⟩]) (.cond (.t 44) (.seq (.reg [⟨(some 4), none, (.mv (.c (.int .i64 6)))⟩]) .ret) .skip))) (.reg [⟨(some 35), none, (.mv (.t 6))⟩, ⟨(some 36), none, (.bin .add (.t 35) (.c (.int .i64 1)))⟩, ⟨(some 6), none, (.mv (.t 36))⟩]))))))) .skip)) (.seq (.seq (.reg [⟨(some 45), none, (.faddr 0 (.t 5))⟩, ⟨(some 46), none, (.load none (.t 45))⟩, ⟨(some 47), none, (.bin .eql (.t 46) (.c (.int .i64 10)))⟩, ⟨(some 48), none, (.mv (.t 47))⟩, ⟨(some 49), (some (48, true)), (.faddr 2 (.t 5))⟩, ⟨(some 50), (some (48, true)), (.load none (.t 49))⟩, ⟨(some 51), (some (48, true)), (.bin .lss (.t 50) (.c (.int .i64 0)))⟩, ⟨(some 52), none, (.pick (.t 48) (.t 51) (.c (.bool false)))⟩, ⟨(some 53), none, (.mv (.t 52))⟩, ⟨(some 54), (some (53, false)), (.faddr 0 (.t 5))⟩, ⟨(some 55), (some (53, false)), (.load none (.t 54))⟩, ⟨(some 56), (some (53, false)), (.bin .eql (.t 55) (.c (.int .i64 11)))⟩, ⟨(some 57), (some (53, false)), (.mv (.t 56))⟩, ⟨(some 58), (some (57, false)), (.faddr 0 (.t 5))⟩, ⟨(some 59), (some (57, false)), (.load none (.t 58))⟩, ⟨(some 60), (some (57, false)), (.bin .eql (.t 59) (.c (.int .i64 12)))⟩, ⟨(some 61), (some (53, false)), (.pick (.t 57) (.c (.bool true)) (.t 60))⟩, ⟨(some 62), (some (53, false)), (.mv (.t 61))⟩, ⟨(some 63), (some (62, true)), (.faddr 2 (.t 5))⟩, ⟨(some 64), (some (62, true)), (.load none (.t 63))⟩, ⟨(some 65), (some (62, true)), (.bin .lss (.t 64) (.c (.int .i64 1)))⟩, ⟨(some 66), (some (53, false)), (.pick (.t 62) (.t 65) (.c (.bool false)))⟩, ⟨(some 67), none, (.pick (.t 53) (.c (.bool true)) (.t 66))⟩, ⟨(some 68), none, (.mv (.t 67))⟩, ⟨(some 69), (some (68, false)), (.faddr 2 (.t 5))⟩, ⟨(some 70), (some (68, false)), (.load none (.t 69))⟩, ⟨(some 71), (some (68, false)), (.bin .gtr (.t 70) (.c (.int .i64 64)))⟩, ⟨(some 72), none, (.pick (.t 68) (.c (.bool true)) (.t 71))⟩]) (.cond (.t 72) (.seq (.reg [⟨(some 4), none, (.mv (.c (.int .i64 7)))⟩]) .ret) .skip)) (.seq (.reg [⟨(some 73), none, (.load (some 6) (.t 5))⟩, ⟨(some 74), none, (.call 103 [(.t 73)])⟩, ⟨(some 7), none, (.mv (.t 74))⟩]) (.seq (.seq (.reg [⟨(some 8), none, (.mv (.c (.int .i64 0)))⟩]) (.block 2 (.loop (.seq (.seq (.reg [⟨(some 75), none, (.mv (.t 8))⟩, ⟨(some 76), none, (.mv (.t 7))⟩, ⟨(some 77), none, (.len false (.t 76))⟩, ⟨(some 78), none, (.bin .lss (.t 75) (.t 77))⟩]) (.cond (.t 78) .skip (.exit 2))) (.seq (.block 3 (.seq (.reg [⟨(some 81), none, (.mv (.t 7))⟩, ⟨(some 82), none, (.mv (.t 8))⟩, ⟨(some 83), none, (.iaddr 1 (.t 81) (.t 82))⟩, ⟨(some 84), none, (.load none (.t 83))⟩, ⟨(some 85), none, (.bin .lss (.t 84) (.c (.int .i64 0)))⟩, ⟨(some 86), none, (.mv (.t 85))⟩, ⟨(some 87), (some (86, false)), (.mv (.t 7))⟩, ⟨(some 88), (some (86, false)), (.mv (.t 8))⟩, ⟨(some 89), (some (86, false)), (.iaddr 1 (.t 87) (.t 88))⟩, ⟨(some 90), (some (86, false)), (.load none (.t 89))⟩, ⟨(some 91), (some (86, false)), (.mv (.t 1))⟩, ⟨(some 92), (some (86, false)), (.bin .geq (.t 90) (.t 91))⟩, ⟨(some 93), none, (.pick (.t 86) (.c (.bool true)) (.t 92))⟩]) (.cond (.t 93) (.seq (.reg [⟨(some 4), none, (.mv (.c (.int .i64 14)))⟩]) .ret) .skip))) (.reg [⟨(some 79), none, (.mv (.t 8))⟩, ⟨(some 80), none, (.bin .add (.t 79) (.c (.int .i64 1)))⟩, ⟨(some 8), none, (.mv (.t 80))⟩])))))) (.seq (.seq (.reg [⟨(some 94), none, (.faddr 0 (.t 5))⟩, ⟨(some 95), none, (.load none (.t 94))⟩, ⟨(some 96), none, (.bin .eql (.t 95) (.c (.int .i64 14)))⟩, ⟨(some 97), none, (.mv (.t 96))⟩, ⟨(some 98), (some (97, true)), (.mv (.t 0))⟩, ⟨(some 99), (some (97, true)), (.faddr 4 (.t 5))⟩, ⟨(some 100), (some (97, true)), (.load none (.t 99))⟩, ⟨(some 101), (some (97, true)), (.iaddr 6 (.t 98) (.t 100))⟩, ⟨(some 102), (some (97, true)), (.faddr 0 (.t 101))⟩, ⟨(some 103), (some (97, true)), (.load none (.t 102))⟩, ⟨(some 104), (some (97, true)), (.call 104 [(.t 103)])⟩, ⟨(some 105), (some (97, true)), (.un .not (.t 104))⟩, ⟨(some 106), none, (.pick (.t 97) (.t 105) (.c (.bool false)))⟩]) (.cond (.t 106) (.seq (.reg [⟨(some 4), none, (.mv (.c (.int .i64 8)))⟩]) .ret) .skip)) (.seq (.seq (.reg [⟨(some 107), none, (.faddr 0 (.t 5))⟩, ⟨(some 108), none, (.load none (.t 107))⟩, ⟨(some 109), none, (.call 101 [(.t 108)])⟩, ⟨(some 110), none, (.mv (.t 109))⟩, ⟨(some 111), (some (110, true)), (.faddr 5 (.t 5))⟩, ⟨(some 112), (some (110, true)), (.load none (.t 111))⟩, ⟨(some 113), (some (110, true)), (.len false (.t 112))⟩, ⟨(some 114), (some (110, true)), (.bin .eql (.t 113) (.c (.int .i64 0)))⟩, ⟨(some 115), none, (.pick (.t 110) (.t 114) (.c (.bool false)))⟩]) (.cond (.t 115) (.seq (.reg [⟨(some 4), none, (.mv (.c (.int .i64 18)))⟩]) .ret) .skip)) (.seq (.seq (.reg [⟨(some 116), none, (.faddr 5 (.t 5))⟩, ⟨(some 117), none, (.load none (.t 116))⟩, ⟨(some 118), none, (.len false (.t 117))⟩, ⟨(some 119), none, (.bin .gtr (.t 118) (.c (.int .i64 16)))⟩]) (.cond (.t 119) (.seq (.reg [⟨(some 4), none, (.mv (.c (.int .i64 3)))⟩]) .ret) .skip)) (.seq (.seq (.reg [⟨(some 9), none, (.mv (.c (.int .i64 0)))⟩]) (.block 4 (.loop (.seq (.seq (.reg [⟨(some 120), none, (.mv (.t 9))⟩, ⟨(some 121), none, (.faddr 5 (.t 5))⟩, ⟨(some 122), none, (.load none (.t 121))⟩, ⟨(some 123), none, (.len false (.t 122))⟩, ⟨(some 124), none, (.bin .lss (.t 120) (.t 123))⟩]) (.cond (.t 124) .skip (.exit 4))) (.seq (.block 5 (.seq (.reg [⟨(some 127), none, (.mv (.t 0))⟩, ⟨(some 128), none, (.load (some 6) (.t 5))⟩, ⟨(some 129), none, (.mv (.t 9))⟩, ⟨(some 130), none, (.call 105 [(.t 127), (.t 128), (.t 129)])⟩, ⟨(some 10), none, (.mv (.t 130))⟩]) (.seq (.reg [⟨(some 131), none, (.mv (.t 10))⟩, ⟨(some 132), none, (.bin .neq (.t 131) (.c (.int .i64 0)))⟩]) (.cond (.t 132) (.seq (.reg [⟨(some 133), none, (.mv (.t 10))⟩, ⟨(some 4), none, (.mv (.t 133))⟩]) .ret) .skip)))) (.reg [⟨(some 125), none, (.mv (.t 9))⟩, ⟨(some 126), none, (.bin .add (.t 125) (.c (.int .i64 1)))⟩, ⟨(some 9), none, (.mv (.t 126))⟩])))))) (.seq (.seq (.reg [⟨(some 134), none, (.mv (.t 0))⟩, ⟨(some 135), none, (.mv (.t 1))⟩, ⟨(some 136), none, (.call 106 [(.t 134), (.t 135)])⟩, ⟨(some 137), none, (.bin .gtr (.t 136) (.c (.int .i64 6)))⟩]) (.cond (.t 137) (.seq (.reg [⟨(some 4), none, (.mv (.c (.int .i64 9)))⟩]) .ret) .skip)) (.seq (.reg [⟨(some 4), none, (.mv (.c (.int .i64 0)))⟩]) .ret))))))))))))))
theorem broadsheetref06_one.code : comp PG [] (Try.f76.body.getD .skip) = broadsheetref06_one.c := by kernel_rfl
theorem broadsheetref06_one.of {args : List AV} {H : AH} {K : AV → AH → Prop} (hl : args.length = 2) (h : wpA PG broadsheetref06_one.c none (endA [(.t 4)] K) (initFr args) H) : ACalls PG 76 args H K :=
  ACalls.of_code (fl := []) mixed Try.func76 (c := Try.f76.body.getD .skip) (by kernel_rfl) (by kernel_rfl) (by rw [hl]; exact of_decide_eq_true (by kernel_rfl)) (by rw [broadsheetref06_one.code]; kernel_rfl)
    (by rw [broadsheetref06_one.code, show compRes PG Try.f76.results.toList = [(.t 4)] from by kernel_rfl]; exact h)
def types_has.n : Nat := 80
noncomputable def types_has.c : C := (.seq (.reg [⟨(some 2), none, (.mv (.c (.bool false)))⟩, ⟨(some 3), none, (.mv (.c (.bool false)))⟩, ⟨(some 4), none, (.mv (.c (.bool false)))⟩, ⟨(some 5), none, (.mv (.c (.bool false)))⟩]) (.seq (.seq (.reg [⟨(some 6), none, (.mv (.t 0))⟩]) (.block 0 (.seq (.reg [⟨(some 8), none, (.bin .eql (.t 6) (.c (.int .i64 10)))⟩, ⟨(some 7), none, (.mv (.t 8))⟩]) (.cond (.t 7) (.reg [⟨(some 3), none, (.mv (.c (.bool true)))⟩]) (.seq (.seq (.reg [⟨(some 10), none, (.bin .eql (.t 6) (.c (.int .i64 11)))⟩, ⟨(some 9), none, (.mv (.t 10))⟩]) (.cond (.t 9) .skip (.reg [⟨(some 11), none, (.bin .eql (.t 6) (.c (.int .i64 12)))⟩, ⟨(some 9), none, (.mv (.t 11))⟩]))) (.cond (.t 9) (.reg [⟨(some 3), none, (.mv (.c (.bool true)))⟩, ⟨(some 4), none, (.mv (.c (.bool true)))⟩]) (.seq (.seq (.reg [⟨(some 13), none, (.bin .eql (.t 6) (.c (.int .i64 9)))⟩, ⟨(some 12), none, (.mv (.t 13))⟩]) (.cond (.t 12) .skip (.reg [⟨(some 14), none, (.bin .eql (.t 6) (.c (.int .i64 13)))⟩, ⟨(some 12), none, (.mv (.t 14))⟩]))) (.cond (.t 12) (.reg [⟨(some 2), none, (.mv (.c (.bool true)))⟩]) (.seq (.reg [⟨(some 16), none, (.bin .eql (.t 6) (.c (.int .i64 14)))⟩, ⟨(some 15), none, (.mv (.t 16))⟩]) (.cond (.t 15) (.reg [⟨(some 2), none, (.mv (.c (.bool true)))⟩, ⟨(some 5), none, (.mv (.c (.bool true)))⟩]) .skip)))))))))) (.seq (.reg [⟨(some 17), none, (.mv (.t 2))⟩, ⟨(some 18), none, (.mv (.t 3))⟩, ⟨(some 19), none, (.mv (.t 4))⟩, ⟨(some 20), none, (.mv (.t 5))⟩, ⟨(some 2), none, (.mv (.t 17))⟩, ⟨(some 3), none, (.mv (.t 18))⟩, ⟨(some 4), none, (.mv (.t 19))⟩, ⟨(some 5), none, (.mv (.t 20))⟩]) .ret)))
theorem types_has.code : comp PG [] (Try.f80.body.getD .skip) = types_has.c := by kernel_rfl
theorem types_has.of {args : List AV} {H : AH} {K : AV → AH → Prop} (hl : args.length = 1) (h : wpA PG types_has.c none (endA [(.t 2), (.t 3), (.t 4), (.t 5)] K) (initFr args) H) : ACalls PG 80 args H K :=
  ACalls.of_code (fl := []) mixed Try.func80 (c := Try.f80.body.getD .skip) (by kernel_rfl) (by kernel_rfl) (by rw [hl]; exact of_decide_eq_true (by kernel_rfl)) (by rw [types_has.code]; kernel_rfl)
    (by rw [types_has.code, show compRes PG Try.f80.results.toList = [(.t 2), (.t 3), (.t 4), (.t 5)] from by kernel_rfl]; exact h)
def types_Branch_1.n : Nat := 84
noncomputable def types_Branch_1.c : C := (.seq (.reg [⟨(some 2), none, (.mv (.c (.bool false)))⟩]) (.seq (.reg [⟨(some 3), none, (.mv (.t 0))⟩, ⟨(some 4), none, (.bin .eql (.t 3) (.c (.int .i64 14)))⟩, ⟨(some 2), none, (.mv (.t 4))⟩]) .ret))
theorem types_Branch_1.code : comp PG [] (Try.f84.body.getD .skip) = types_Branch_1.c := by kernel_rfl
theorem types_Branch_1.of {args : List AV} {H : AH} {K : AV → AH → Prop} (hl : args.length = 1) (h : wpA PG types_Branch_1.c none (endA [(.t 2)] K) (initFr args) H) : ACalls PG 84 args H K :=
  ACalls.of_code (fl := []) mixed Try.func84 (c := Try.f84.body.getD .skip) (by kernel_rfl) (by kernel_rfl) (by rw [hl]; exact of_decide_eq_true (by kernel_rfl)) (by rw [types_Branch_1.code]; kernel_rfl)
    (by rw [types_Branch_1.code, show compRes PG Try.f84.results.toList = [(.t 2)] from by kernel_rfl]; exact h)
theorem types_Branch_1.of' {args : List AV} {H : AH} {K : AV → AH → Prop} (hl : args.length ≤ 5) (h : wpA PG types_Branch_1.c none (endA [(.t 2)] K) (initFr args) H) : ACalls PG 84 args H K :=
  ACalls.of_code (fl := []) mixed Try.func84 (c := Try.f84.body.getD .skip) (by kernel_rfl) (by kernel_rfl) hl (by rw [types_Branch_1.code]; kernel_rfl) (by rw [types_Branch_1.code, show compRes PG Try.f84.results.toList = [(.t 2)] from by kernel_rfl]; exact h)
def types_find.n : Nat := 85
noncomputable def types_find.c : C := (.seq (.reg [⟨(some 8), none, (.mv (.c (.int .i64 0)))⟩, ⟨(some 9), none, (.mv (.c (.bool false)))⟩]) (.seq (.seq (.reg [⟨(some 12), none, (.mv (.t 1))⟩, ⟨(some 13), none, (.bin .lss (.t 12) (.c (.int .i64 0)))⟩, ⟨(some 14), none, (.mv (.t 13))⟩, ⟨(some 15), (some (14, false)), (.mv (.t 1))⟩, ⟨(some 16), (some (14, false)), (.mv (.t 0))⟩, ⟨(some 17), (some (14, false)), (.len false (.t 16))⟩, ⟨(some 18), (some (14, false)), (.bin .geq (.t 15) (.t 17))⟩, ⟨(some 19), none, (.pick (.t 14) (.c (.bool true)) (.t 18))⟩, ⟨(some 20), none, (.mv (.t 19))⟩, ⟨(some 21), (some (20, false)), (.mv (.t 2))⟩, ⟨(some 22), (some (20, false)), (.mv (.t 0))⟩, ⟨(some 23), (some (20, false)), (.mv (.t 1))⟩, ⟨(some 24), (some (20, false)), (.iaddr 6 (.t 22) (.t 23))⟩, ⟨(some 25), (some (20, false)), (.faddr 0 (.t 24))⟩, ⟨(some 26), (some (20, false)), (.load none (.t 25))⟩, ⟨(some 27), (some (20, false)), (.callv (.t 21) [(.t 26)])⟩, ⟨(some 28), (some (20, false)), (.un .not (.t 27))⟩, ⟨(some 29), none, (.pick (.t 20) (.c (.bool true)) (.t 28))⟩]) (.cond (.t 29) (.seq (.reg [⟨(some 8), none, (.mv (.c (.int .i64 0)))⟩, ⟨(some 9), none, (.mv (.c (.bool false)))⟩]) .ret) .skip)) (.seq (.seq (.reg [⟨(some 30), none, (.mv (.t 0))⟩, ⟨(some 31), none, (.mv (.t 1))⟩, ⟨(some 32), none, (.iaddr 6 (.t 30) (.t 31))⟩, ⟨(some 33), none, (.faddr 5 (.t 32))⟩, ⟨(some 34), none, (.load none (.t 33))⟩, ⟨(some 35), none, (.len false (.t 34))⟩, ⟨(some 36), none, (.mv (.c (.int .i64 0)))⟩]) (.block 0 (.loop (.seq (.reg [⟨(some 37), none, (.bin .lss (.t 36) (.t 35))⟩]) (.seq (.cond (.t 37) .skip (.exit 0)) (.seq (.block 1 (.seq (.reg [⟨(some 38), none, (.mv (.t 36))⟩, ⟨(some 39), none, (.iaddr 5 (.t 34) (.t 36))⟩, ⟨(some 40), none, (.load (some 5) (.t 39))⟩, ⟨(some 11), none, (.allc 39 [(.str []), (.int .u64 0), (.int .i64 0), (.bool false), (.bool false)])⟩, ⟨(some 10), none, (.mv (.t 38))⟩, ⟨none, none, (.store 5 (.t 11) (.t 40))⟩]) (.seq (.reg [⟨(some 41), none, (.mv (.t 3))⟩, ⟨(some 42), none, (.load (some 5) (.t 11))⟩, ⟨(some 43), none, (.callv (.t 41) [(.t 42)])⟩]) (.cond (.t 43) (.seq (.reg [⟨(some 44), none, (.mv (.t 10))⟩, ⟨(some 8), none, (.mv (.t 44))⟩, ⟨(some 9), none, (.mv (.c (.bool true)))⟩]) .ret) .skip)))) (.reg [⟨(some 45), none, (.bin .add (.t 36) (.c (.int .i64 1)))⟩, ⟨(some 36), none, (.mv (.t 45))⟩]))))))) (.seq (.reg [⟨(some 8), none, (.mv (.c (.int .i64 0)))⟩, ⟨(some 9), none, (.mv (.c (.bool false)))⟩]) .ret))))
theorem types_find.code : comp PG [] (Try.f85.body.getD .skip) = types_find.c := by kernel_rfl
theorem types_find.of {args : List AV} {H : AH} {K : AV → AH → Prop} (hl : args.length = 4) (h : wpA PG types_find.c none (endA [(.t 8), (.t 9)] K) (initFr args) H) : ACalls PG 85 args H K :=
  ACalls.of_code (fl := []) mixed Try.func85 (c := Try.f85.body.getD .skip) (by kernel_rfl) (by kernel_rfl) (by rw [hl]; exact of_decide_eq_true (by kernel_rfl)) (by rw [types_find.code]; kernel_rfl)
    (by rw [types_find.code, show compRes PG Try.f85.results.toList = [(.t 8), (.t 9)] from by kernel_rfl]; exact h)
def types_Branch_2.n : Nat := 86
noncomputable def types_Branch_2.c : C := (.seq (.reg [⟨(some 2), none, (.box 39 (.t 0))⟩, ⟨(some 3), none, (.mv (.c (.bool false)))⟩]) (.seq (.reg [⟨(some 4), none, (.faddr 1 (.t 2))⟩, ⟨(some 5), none, (.load none (.t 4))⟩, ⟨(some 6), none, (.load none (.t 1))⟩, ⟨(some 7), none, (.bin .eql (.t 5) (.t 6))⟩, ⟨(some 8), none, (.mv (.t 7))⟩, ⟨(some 9), (some (8, true)), (.faddr 4 (.t 2))⟩, ⟨(some 10), (some (8, true)), (.load none (.t 9))⟩, ⟨(some 11), (some (8, true)), (.un .not (.t 10))⟩, ⟨(some 12), none, (.pick (.t 8) (.t 11) (.c (.bool false)))⟩, ⟨(some 3), none, (.mv (.t 12))⟩]) .ret))
theorem types_Branch_2.code : comp PG [] (Try.f86.body.getD .skip) = types_Branch_2.c := by kernel_rfl
theorem types_Branch_2.of {args : List AV} {H : AH} {K : AV → AH → Prop} (hl : args.length = 1) (h : wpA PG types_Branch_2.c none (endA [(.t 3)] K) (initFr args) H) : ACalls PG 86 args H K :=
  ACalls.of_code (fl := []) mixed Try.func86 (c := Try.f86.body.getD .skip) (by kernel_rfl) (by kernel_rfl) (by rw [hl]; exact of_decide_eq_true (by kernel_rfl)) (by rw [types_Branch_2.code]; kernel_rfl)
    (by rw [types_Branch_2.code, show compRes PG Try.f86.results.toList = [(.t 3)] from by kernel_rfl]; exact h)
theorem types_Branch_2.of' {args : List AV} {H : AH} {K : AV → AH → Prop} (hl : args.length ≤ 13) (h : wpA PG types_Branch_2.c none (endA [(.t 3)] K) (initFr args) H) : ACalls PG 86 args H K :=
  ACalls.of_code (fl := []) mixed Try.func86 (c := Try.f86.body.getD .skip) (by kernel_rfl) (by kernel_rfl) hl (by rw [types_Branch_2.code]; kernel_rfl) (by rw [types_Branch_2.code, show compRes PG Try.f86.results.toList = [(.t 3)] from by kernel_rfl]; exact h)
def types_Branch_3.n : Nat := 87
noncomputable def types_Branch_3.c : C := (.seq (.reg [⟨(some 1), none, (.box 39 (.t 0))⟩, ⟨(some 2), none, (.mv (.c (.bool false)))⟩]) (.seq (.reg [⟨(some 3), none, (.faddr 4 (.t 1))⟩, ⟨(some 4), none, (.load none (.t 3))⟩, ⟨(some 2), none, (.mv (.t 4))⟩]) .ret))
theorem types_Branch_3.code : comp PG [] (Try.f87.body.getD .skip) = types_Branch_3.c := by kernel_rfl
theorem types_Branch_3.of {args : List AV} {H : AH} {K : AV → AH → Prop} (hl : args.length = 1) (h : wpA PG types_Branch_3.c none (endA [(.t 2)] K) (initFr args) H) : ACalls PG 87 args H K :=
  ACalls.of_code (fl := []) mixed Try.func87 (c := Try.f87.body.getD .skip) (by kernel_rfl) (by kernel_rfl) (by rw [hl]; exact of_decide_eq_true (by kernel_rfl)) (by rw [types_Branch_3.code]; kernel_rfl)
    (by rw [types_Branch_3.code, show compRes PG Try.f87.results.toList = [(.t 2)] from by kernel_rfl]; exact h)
theorem types_Branch_3.of' {args : List AV} {H : AH} {K : AV → AH → Prop} (hl : args.length ≤ 5) (h : wpA PG types_Branch_3.c none (endA [(.t 2)] K) (initFr args) H) : ACalls PG 87 args H K :=
  ACalls.of_code (fl := []) mixed Try.func87 (c := Try.f87.body.getD .skip) (by kernel_rfl) (by kernel_rfl) hl (by rw [types_Branch_3.code]; kernel_rfl) (by rw [types_Branch_3.code, show compRes PG Try.f87.results.toList = [(.t 2)] from by kernel_rfl]; exact h)
def name_Name.n : Nat := 88
noncomputable def name_Name.c : C := (.seq (.reg [⟨(some 2), none, (.mv (.c (.bool false)))⟩]) (.seq (.reg [⟨(some 3), none, (.mv (.t 0))⟩, ⟨(some 4), none, (.bin .neq (.t 3) (.c (.str [])))⟩, ⟨(some 5), none, (.mv (.t 4))⟩, ⟨(some 6), (some (5, true)), (.mv (.t 0))⟩, ⟨(some 7), (some (5, true)), (.len true (.t 6))⟩, ⟨(some 8), (some (5, true)), (.bin .leq (.t 7) (.c (.int .i64 16)))⟩, ⟨(some 9), none, (.pick (.t 5) (.t 8) (.c (.bool false)))⟩, ⟨(some 10), none, (.mv (.t 9))⟩, ⟨(some 11), (some (10, true)), (.mv (.t 0))⟩, ⟨(some 12), (some (10, true)), (.call 112 [(.t 11)])⟩, ⟨(some 13), (some (10, true)), (.mv (.t 0))⟩, ⟨(some 14), (some (10, true)), (.len true (.t 13))⟩, ⟨(some 15), (some (10, true)), (.bin .eql (.t 12) (.t 14))⟩, ⟨(some 16), none, (.pick (.t 10) (.t 15) (.c (.bool false)))⟩, ⟨(some 17), none, (.mv (.t 16))⟩, ⟨(some 18), (some (17, true)), (.mv (.t 0))⟩, ⟨(some 19), (some (17, true)), (.call 114 [(.t 18)])⟩, ⟨(some 20), (some (17, true)), (.un .not (.t 19))⟩, ⟨(some 21), none, (.pick (.t 17) (.t 20) (.c (.bool false)))⟩, ⟨(some 2), none, (.mv (.t 21))⟩]) .ret))
theorem name_Name.code : comp PG [] (Try.f88.body.getD .skip) = name_Name.c := by kernel_rfl
theorem name_Name.of {args : List AV} {H : AH} {K : AV → AH → Prop} (hl : args.length = 1) (h : wpA PG name_Name.c none (endA [(.t 2)] K) (initFr args) H) : ACalls PG 88 args H K :=
  ACalls.of_code (fl := []) mixed Try.func88 (c := Try.f88.body.getD .skip) (by kernel_rfl) (by kernel_rfl) (by rw [hl]; exact of_decide_eq_true (by kernel_rfl)) (by rw [name_Name.code]; kernel_rfl)
    (by rw [name_Name.code, show compRes PG Try.f88.results.toList = [(.t 2)] from by kernel_rfl]; exact h)
def types_look_item.n : Nat := 89
noncomputable def types_look_item.c : C := (.seq (.reg [⟨(some 4), none, (.mv (.c (.int .i64 0)))⟩]) (.seq (.reg [⟨(some 11), none, (.mv (.t 0))⟩, ⟨(some 12), none, (.nilck (.t 11))⟩, ⟨(some 13), none, (.faddr 2 (.t 12))⟩, ⟨(some 14), none, (.faddr 5 (.t 13))⟩, ⟨(some 15), none, (.load none (.t 14))⟩, ⟨(some 16), none, (.mv (.t 1))⟩, ⟨(some 17), none, (.iaddr 5 (.t 15) (.t 16))⟩, ⟨(some 18), none, (.load (some 5) (.t 17))⟩, ⟨(some 5), none, (.allc 39 [(.str []), (.int .u64 0), (.int .i64 0), (.bool false), (.bool false)])⟩, ⟨none, none, (.store 5 (.t 5) (.t 18))⟩]) (.seq (.seq (.reg [⟨(some 19), none, (.faddr 0 (.t 5))⟩, ⟨(some 20), none, (.load none (.t 19))⟩, ⟨(some 21), none, (.call 88 [(.t 20)])⟩, ⟨(some 22), none, (.un .not (.t 21))⟩]) (.cond (.t 22) (.seq (.reg [⟨(some 4), none, (.mv (.c (.int .i64 5)))⟩]) .ret) .skip)) (.seq (.seq (.reg [⟨(some 23), none, (.mv (.t 0))⟩, ⟨(some 24), none, (.nilck (.t 23))⟩, ⟨(some 25), none, (.faddr 2 (.t 24))⟩, ⟨(some 26), none, (.faddr 5 (.t 25))⟩, ⟨(some 27), none, (.load none (.t 26))⟩, ⟨(some 28), none, (.mv (.t 1))⟩, ⟨(some 29), none, (.slice (some 5) (.t 27) none (some (.t 28)))⟩, ⟨(some 30), none, (.len false (.t 29))⟩, ⟨(some 31), none, (.mv (.c (.int .i64 0)))⟩]) (.block 0 (.loop (.seq (.reg [⟨(some 32), none, (.bin .lss (.t 31) (.t 30))⟩]) (.seq (.cond (.t 32) .skip (.exit 0)) (.seq (.block 1 (.seq (.reg [⟨(some 33), none, (.iaddr 5 (.t 29) (.t 31))⟩, ⟨(some 34), none, (.load (some 5) (.t 33))⟩, ⟨(some 7), none, (.allc 39 [(.str []), (.int .u64 0), (.int .i64 0), (.bool false), (.bool false)])⟩, ⟨none, none, (.store 5 (.t 7) (.t 34))⟩]) (.seq (.reg [⟨(some 35), none, (.faddr 0 (.t 7))⟩, ⟨(some 36), none, (.load none (.t 35))⟩, ⟨(some 37), none, (.faddr 0 (.t 5))⟩, ⟨(some 38), none, (.load none (.t 37))⟩, ⟨(some 39), none, (.bin .eql (.t 36) (.t 38))⟩]) (.cond (.t 39) (.seq (.reg [⟨(some 4), none, (.mv (.c (.int .i64 6)))⟩]) .ret) .skip)))) (.reg [⟨(some 40), none, (.bin .add (.t 31) (.c (.int .i64 1)))⟩, ⟨(some 31), none, (.mv (.t 40))⟩]))))))) (.seq (.block 2 (.seq (.reg [⟨(some 42), none, (.mv (.t 0))⟩, ⟨(some 43), none, (.nilck (.t 42))⟩, ⟨(some 44), none, (.faddr 2 (.t 43))⟩, ⟨(some 45), none, (.faddr 0 (.t 44))⟩, ⟨(some 46), none, (.load none (.t 45))⟩, ⟨(some 47), none, (.bin .eql (.t 46) (.c (.int .i64 13)))⟩, ⟨(some 41), none, (.mv (.t 47))⟩]) (.cond (.t 41) (.seq (.seq (.dreg [⟨(some 48), none, (.mv (.t 0))⟩, ⟨(some 49), none, (.nilck (.t 48))⟩, ⟨(some 50), none, (.faddr 0 (.t 49))⟩, ⟨(some 51), none, (.load none (.t 50))⟩, ⟨(some 52), none, (.faddr 2 (.t 5))⟩, ⟨(some 53), none, (.load none (.t 52))⟩] [⟨(some 54), none, (.iaddr 6 (.t 51) (.t 53))⟩, ⟨(some 55), none, (.faddr 0 (.t 54))⟩, ⟨(some 56), none, (.load none (.t 55))⟩, ⟨(some 8), none, (.mv (.t 56))⟩]) (.seq (.reg [⟨(some 57), none, (.faddr 3 (.t 5))⟩, ⟨(some 58), none, (.load none (.t 57))⟩, ⟨(some 59), none, (.mv (.t 58))⟩, ⟨(some 60), (some (59, true)), (.mv (.t 8))⟩, ⟨(some 61), (some (59, true)), (.call 68 [(.t 60)])⟩, ⟨(some 62), (some (59, true)), (.un .not (.t 61))⟩, ⟨(some 63), none, (.pick (.t 59) (.t 62) (.c (.bool false)))⟩, ⟨(some 64), none, (.mv (.t 63))⟩, ⟨(some 65), (some (64, true)), (.mv (.t 8))⟩, ⟨(some 66), (some (64, true)), (.bin .neq (.t 65) (.c (.int .i64 10)))⟩, ⟨(some 67), none, (.pick (.t 64) (.t 66) (.c (.bool false)))⟩]) (.cond (.t 67) (.seq (.reg [⟨(some 4), none, (.mv (.c (.int .i64 17)))⟩]) .ret) .skip))) (.seq (.reg [⟨(some 4), none, (.mv (.c (.int .i64 0)))⟩]) .ret)) (.seq (.reg [⟨(some 69), none, (.faddr 4 (.t 5))⟩, ⟨(some 70), none, (.load none (.t 69))⟩, ⟨(some 71), none, (.mv (.t 70))⟩, ⟨(some 72), (some (71, true)), (.mv (.t 1))⟩, ⟨(some 73), (some (71, true)), (.mv (.t 0))⟩, ⟨(some 74), (some (71, true)), (.nilck (.t 73))⟩, ⟨(some 75), (some (71, true)), (.faddr 2 (.t 74))⟩, ⟨(some 76), (some (71, true)), (.faddr 5 (.t 75))⟩, ⟨(some 77), (some (71, true)), (.load none (.t 76))⟩, ⟨(some 78), (some (71, true)), (.len false (.t 77))⟩, ⟨(some 79), (some (71, true)), (.bin .sub (.t 78) (.c (.int .i64 1)))⟩, ⟨(some 80), (some (71, true)), (.bin .neq (.t 72) (.t 79))⟩, ⟨(some 81), none, (.pick (.t 71) (.t 80) (.c (.bool false)))⟩, ⟨(some 68), none, (.mv (.t 81))⟩]) (.cond (.t 68) (.seq (.reg [⟨(some 4), none, (.mv (.c (.int .i64 14)))⟩]) .ret) (.seq (.reg [⟨(some 83), none, (.faddr 4 (.t 5))⟩, ⟨(some 84), none, (.load none (.t 83))⟩, ⟨(some 82), none, (.mv (.t 84))⟩]) (.cond (.t 82) (.seq (.reg [⟨(some 4), none, (.mv (.c (.int .i64 0)))⟩]) .ret) (.seq (.reg [⟨(some 86), none, (.mv (.t 0))⟩, ⟨(some 87), none, (.faddr 1 (.t 5))⟩, ⟨(some 88), none, (.load none (.t 87))⟩, ⟨(some 89), none, (.call 115 [(.t 86), (.t 88)])⟩, ⟨(some 90), none, (.un .not (.t 89))⟩, ⟨(some 85), none, (.mv (.t 90))⟩]) (.cond (.t 85) (.seq (.reg [⟨(some 4), none, (.mv (.c (.int .i64 7)))⟩]) .ret) .skip))))))))) (.seq (.seq (.reg [⟨(some 91), none, (.mv (.t 0))⟩, ⟨(some 92), none, (.nilck (.t 91))⟩, ⟨(some 93), none, (.faddr 2 (.t 92))⟩, ⟨(some 94), none, (.faddr 5 (.t 93))⟩, ⟨(some 95), none, (.load none (.t 94))⟩, ⟨(some 96), none, (.mv (.t 1))⟩, ⟨(some 97), none, (.slice (some 5) (.t 95) none (some (.t 96)))⟩, ⟨(some 98), none, (.len false (.t 97))⟩, ⟨(some 99), none, (.mv (.c (.int .i64 0)))⟩]) (.block 3 (.loop (.seq (.reg [⟨(some 100), none, (.bin .lss (.t 99) (.t 98))⟩]) (.seq (.cond (.t 100) .skip (.exit 3)) (.seq (.block 4 (.seq (.reg [⟨(some 101), none, (.iaddr 5 (.t 97) (.t 99))⟩, ⟨(some 102), none, (.load (some 5) (.t 101))⟩, ⟨(some 10), none, (.allc 39 [(.str []), (.int .u64 0), (.int .i64 0), (.bool false), (.bool false)])⟩, ⟨none, none, (.store 5 (.t 10) (.t 102))⟩]) (.seq (.reg [⟨(some 103), none, (.faddr 1 (.t 10))⟩, ⟨(some 104), none, (.load none (.t 103))⟩, ⟨(some 105), none, (.faddr 1 (.t 5))⟩, ⟨(some 106), none, (.load none (.t 105))⟩, ⟨(some 107), none, (.bin .eql (.t 104) (.t 106))⟩]) (.cond (.t 107) (.seq (.reg [⟨(some 4), none, (.mv (.c (.int .i64 6)))⟩]) .ret) .skip)))) (.reg [⟨(some 108), none, (.bin .add (.t 99) (.c (.int .i64 1)))⟩, ⟨(some 99), none, (.mv (.t 108))⟩]))))))) (.seq (.reg [⟨(some 4), none, (.mv (.c (.int .i64 0)))⟩]) .ret)))))))
theorem types_look_item.code : comp PG [] (Try.f89.body.getD .skip) = types_look_item.c := by kernel_rfl
theorem types_look_item.of {args : List AV} {H : AH} {K : AV → AH → Prop} (hl : args.length = 2) (h : wpA PG types_look_item.c none (endA [(.t 4)] K) (initFr args) H) : ACalls PG 89 args H K :=
  ACalls.of_code (fl := []) mixed Try.func89 (c := Try.f89.body.getD .skip) (by kernel_rfl) (by kernel_rfl) (by rw [hl]; exact of_decide_eq_true (by kernel_rfl)) (by rw [types_look_item.code]; kernel_rfl)
    (by rw [types_look_item.code, show compRes PG Try.f89.results.toList = [(.t 4)] from by kernel_rfl]; exact h)
def prim_rows.n : Nat := 90
noncomputable def prim_rows.c : C := (.seq (.reg [⟨(some 2), none, (.allc 135 [(.int .i64 0), (.bool false)])⟩]) (.seq (.reg [⟨(some 4), none, (.build [(.int .i64 0), (.bool false)] [(0, (1, (.c (.int .i64 1)))), (1, (1, (.c (.bool false))))])⟩, ⟨(some 5), none, (.build [(.int .i64 0), (.bool false)] [(0, (1, (.c (.int .i64 1)))), (1, (1, (.c (.bool false))))])⟩, ⟨(some 6), none, (.build [(.int .i64 0), (.bool false)] [(0, (1, (.c (.int .i64 2)))), (1, (1, (.c (.bool true))))])⟩, ⟨(some 7), none, (.build [(.int .i64 0), (.bool false)] [(0, (1, (.c (.int .i64 2)))), (1, (1, (.c (.bool false))))])⟩, ⟨(some 8), none, (.build [(.int .i64 0), (.bool false)] [(0, (1, (.c (.int .i64 4)))), (1, (1, (.c (.bool true))))])⟩, ⟨(some 9), none, (.build [(.int .i64 0), (.bool false)] [(0, (1, (.c (.int .i64 4)))), (1, (1, (.c (.bool false))))])⟩, ⟨(some 10), none, (.build [(.int .i64 0), (.bool false)] [(0, (1, (.c (.int .i64 8)))), (1, (1, (.c (.bool true))))])⟩, ⟨(some 11), none, (.build [(.int .i64 0), (.bool false)] [(0, (1, (.c (.int .i64 8)))), (1, (1, (.c (.bool false))))])⟩, ⟨(some 12), none, (.build [(.int .i64 0), (.bool false)] [(0, (1, (.c (.int .i64 4)))), (1, (1, (.c (.bool true))))])⟩, ⟨(some 13), none, (.build [(.int .i64 0), (.bool false), (.int .i64 0), (.bool false), (.int .i64 0), (.bool false), (.int .i64 0), (.bool false), (.int .i64 0), (.bool false), (.int .i64 0), (.bool false), (.int .i64 0), (.bool false), (.int .i64 0), (.bool false), (.int .i64 0), (.bool false), (.int .i64 0), (.bool false)] [(2, (2, (.t 4))), (4, (2, (.t 5))), (6, (2, (.t 6))), (8, (2, (.t 7))), (10, (2, (.t 8))), (12, (2, (.t 9))), (14, (2, (.t 10))), (16, (2, (.t 11))), (18, (2, (.t 12)))])⟩, ⟨(some 3), none, (.allc 149 [(.int .i64 0), (.bool false), (.int .i64 0), (.bool false), (.int .i64 0), (.bool false), (.int .i64 0), (.bool false), (.int .i64 0), (.bool false), (.int .i64 0), (.bool false), (.int .i64 0), (.bool false), (.int .i64 0), (.bool false), (.int .i64 0), (.bool false), (.int .i64 0), (.bool false)])⟩, ⟨none, none, (.store 20 (.t 3) (.t 13))⟩]) (.seq (.seq (.reg [⟨(some 14), none, (.mv (.t 0))⟩, ⟨(some 15), none, (.call 68 [(.t 14)])⟩, ⟨(some 16), none, (.un .not (.t 15))⟩]) (.cond (.t 16) (.seq (.reg [⟨(some 17), none, (.build [(.int .i64 0), (.bool false)] [])⟩, ⟨none, none, (.store 2 (.t 2) (.t 17))⟩]) .ret) .skip)) (.seq (.reg [⟨(some 18), none, (.mv (.t 0))⟩, ⟨(some 19), none, (.iarr 10 2 (.t 3) (.t 18))⟩, ⟨(some 20), none, (.load (some 2) (.t 19))⟩, ⟨none, none, (.store 2 (.t 2) (.t 20))⟩]) .ret))))
theorem prim_rows.code : comp PG [] (Try.f90.body.getD .skip) = prim_rows.c := by kernel_rfl
theorem prim_rows.of {args : List AV} {H : AH} {K : AV → AH → Prop} (hl : args.length = 1) (h : wpA PG prim_rows.c none (endA [(.cell 2 (some 2))] K) (initFr args) H) : ACalls PG 90 args H K :=
  ACalls.of_code (fl := []) mixed Try.func90 (c := Try.f90.body.getD .skip) (by kernel_rfl) (by kernel_rfl) (by rw [hl]; exact of_decide_eq_true (by kernel_rfl)) (by rw [prim_rows.code]; kernel_rfl)
    (by rw [prim_rows.code, show compRes PG Try.f90.results.toList = [(.cell 2 (some 2))] from by kernel_rfl]; exact h)
def word_sized.n : Nat := 92
noncomputable def word_sized.c : C := (.seq (.reg [⟨(some 2), none, (.mv (.c (.bool false)))⟩]) (.seq (.reg [⟨(some 3), none, (.mv (.t 0))⟩, ⟨(some 4), none, (.bin .eql (.t 3) (.c (.int .i64 1)))⟩, ⟨(some 5), none, (.mv (.t 4))⟩, ⟨(some 6), (some (5, false)), (.mv (.t 0))⟩, ⟨(some 7), (some (5, false)), (.bin .eql (.t 6) (.c (.int .i64 2)))⟩, ⟨(some 8), none, (.pick (.t 5) (.c (.bool true)) (.t 7))⟩, ⟨(some 9), none, (.mv (.t 8))⟩, ⟨(some 10), (some (9, false)), (.mv (.t 0))⟩, ⟨(some 11), (some (9, false)), (.bin .eql (.t 10) (.c (.int .i64 4)))⟩, ⟨(some 12), none, (.pick (.t 9) (.c (.bool true)) (.t 11))⟩, ⟨(some 13), none, (.mv (.t 12))⟩, ⟨(some 14), (some (13, false)), (.mv (.t 0))⟩, ⟨(some 15), (some (13, false)), (.bin .eql (.t 14) (.c (.int .i64 8)))⟩, ⟨(some 16), none, (.pick (.t 13) (.c (.bool true)) (.t 15))⟩, ⟨(some 2), none, (.mv (.t 16))⟩]) .ret))
theorem word_sized.code : comp PG [] (Try.f92.body.getD .skip) = word_sized.c := by kernel_rfl
theorem word_sized.of {args : List AV} {H : AH} {K : AV → AH → Prop} (hl : args.length = 1) (h : wpA PG word_sized.c none (endA [(.t 2)] K) (initFr args) H) : ACalls PG 92 args H K :=
  ACalls.of_code (fl := []) mixed Try.func92 (c := Try.f92.body.getD .skip) (by kernel_rfl) (by kernel_rfl) (by rw [hl]; exact of_decide_eq_true (by kernel_rfl)) (by rw [word_sized.code]; kernel_rfl)
    (by rw [word_sized.code, show compRes PG Try.f92.results.toList = [(.t 2)] from by kernel_rfl]; exact h)
def word_mask.n : Nat := 93
noncomputable def word_mask.c : C := (.seq (.reg [⟨(some 2), none, (.mv (.c (.int .u64 0)))⟩]) (.seq (.reg [⟨(some 3), none, (.mv (.t 0))⟩, ⟨(some 4), none, (.bin .mul (.c (.int .i64 8)) (.t 3))⟩, ⟨(some 5), none, (.bin .sub (.c (.int .i64 64)) (.t 4))⟩, ⟨(some 6), none, (.conv .u64 (.t 5))⟩, ⟨(some 7), none, (.bin .shr (.c (.int .u64 18446744073709551615)) (.t 6))⟩, ⟨(some 2), none, (.mv (.t 7))⟩]) .ret))
theorem word_mask.code : comp PG [] (Try.f93.body.getD .skip) = word_mask.c := by kernel_rfl
theorem word_mask.of {args : List AV} {H : AH} {K : AV → AH → Prop} (hl : args.length = 1) (h : wpA PG word_mask.c none (endA [(.t 2)] K) (initFr args) H) : ACalls PG 93 args H K :=
  ACalls.of_code (fl := []) mixed Try.func93 (c := Try.f93.body.getD .skip) (by kernel_rfl) (by kernel_rfl) (by rw [hl]; exact of_decide_eq_true (by kernel_rfl)) (by rw [word_mask.code]; kernel_rfl)
    (by rw [word_mask.code, show compRes PG Try.f93.results.toList = [(.t 2)] from by kernel_rfl]; exact h)
def types_Value.n : Nat := 95
noncomputable def types_Value.c : C := (.seq (.reg [⟨(some 5), none, (.box 23 (.t 2))⟩, ⟨(some 6), none, (.mv (.c (.int .i64 0)))⟩, ⟨(some 7), none, (.mv (.c (.bool false)))⟩]) (.seq (.reg [⟨(some 8), none, (.mv (.t 0))⟩, ⟨(some 9), none, (.mv (.t 1))⟩, ⟨(some 10), none, (.mkfn 119 [] [(.t 5)])⟩, ⟨(some 11), none, (.call 85 [(.t 8), (.t 9), (.c (.clo 118 [] [])), (.t 10)])⟩, ⟨(some 12), none, (.extr (.t 11) 0)⟩, ⟨(some 13), none, (.extr (.t 11) 1)⟩, ⟨(some 6), none, (.mv (.t 12))⟩, ⟨(some 7), none, (.mv (.t 13))⟩]) .ret))
theorem types_Value.code : comp PG [] (Try.f95.body.getD .skip) = types_Value.c := by kernel_rfl
theorem types_Value.of {args : List AV} {H : AH} {K : AV → AH → Prop} (hl : args.length = 3) (h : wpA PG types_Value.c none (endA [(.t 6), (.t 7)] K) (initFr args) H) : ACalls PG 95 args H K :=
  ACalls.of_code (fl := []) mixed Try.func95 (c := Try.f95.body.getD .skip) (by kernel_rfl) (by kernel_rfl) (by rw [hl]; exact of_decide_eq_true (by kernel_rfl)) (by rw [types_Value.code]; kernel_rfl)
    (by rw [types_Value.code, show compRes PG Try.f95.results.toList = [(.t 6), (.t 7)] from by kernel_rfl]; exact h)
def prim_May.n : Nat := 96
noncomputable def prim_May.c : C := (.seq (.reg [⟨(some 4), none, (.mv (.c (.bool false)))⟩]) (.seq (.reg [⟨(some 5), none, (.mv (.t 0))⟩, ⟨(some 6), none, (.call 68 [(.t 5)])⟩, ⟨(some 7), none, (.mv (.t 6))⟩, ⟨(some 8), (some (7, true)), (.mv (.t 0))⟩, ⟨(some 9), (some (7, true)), (.mv (.t 1))⟩, ⟨(some 10), (some (7, true)), (.call 120 [(.t 8), (.t 9)])⟩, ⟨(some 11), (some (7, true)), (.mv (.t 1))⟩, ⟨(some 12), (some (7, true)), (.bin .eql (.t 10) (.t 11))⟩, ⟨(some 13), none, (.pick (.t 7) (.t 12) (.c (.bool false)))⟩, ⟨(some 14), none, (.mv (.t 13))⟩, ⟨(some 15), (some (14, true)), (.mv (.t 0))⟩, ⟨(some 16), (some (14, true)), (.bin .neq (.t 15) (.c (.int .i64 1)))⟩, ⟨(some 17), (some (14, true)), (.mv (.t 16))⟩, ⟨(some 18), (some (17, false)), (.mv (.t 1))⟩, ⟨(some 19), (some (17, false)), (.bin .leq (.t 18) (.c (.int .u64 1)))⟩, ⟨(some 20), (some (14, true)), (.pick (.t 17) (.c (.bool true)) (.t 19))⟩, ⟨(some 21), none, (.pick (.t 14) (.t 20) (.c (.bool false)))⟩, ⟨(some 4), none, (.mv (.t 21))⟩]) .ret))
theorem prim_May.code : comp PG [] (Try.f96.body.getD .skip) = prim_May.c := by kernel_rfl
theorem prim_May.of {args : List AV} {H : AH} {K : AV → AH → Prop} (hl : args.length = 2) (h : wpA PG prim_May.c none (endA [(.t 4)] K) (initFr args) H) : ACalls PG 96 args H K :=
  ACalls.of_code (fl := []) mixed Try.func96 (c := Try.f96.body.getD .skip) (by kernel_rfl) (by kernel_rfl) (by rw [hl]; exact of_decide_eq_true (by kernel_rfl)) (by rw [prim_May.code]; kernel_rfl)
    (by rw [prim_May.code, show compRes PG Try.f96.results.toList = [(.t 4)] from by kernel_rfl]; exact h)
def broadsheetref06_more.n : Nat := 100
noncomputable def broadsheetref06_more.c : C := (.seq (.reg [⟨(some 1), none, (.box 37 (.t 0))⟩, ⟨(some 2), none, (.mv (.c (.bool false)))⟩]) (.seq (.seq (.reg [⟨(some 5), none, (.faddr 1 (.t 1))⟩, ⟨(some 6), none, (.load none (.t 5))⟩, ⟨(some 7), none, (.bin .neq (.t 6) (.c (.str [])))⟩, ⟨(some 8), none, (.mv (.t 7))⟩, ⟨(some 9), (some (8, true)), (.faddr 0 (.t 1))⟩, ⟨(some 10), (some (8, true)), (.load none (.t 9))⟩, ⟨(some 11), (some (8, true)), (.call 101 [(.t 10)])⟩, ⟨(some 12), (some (8, true)), (.un .not (.t 11))⟩, ⟨(some 13), none, (.pick (.t 8) (.t 12) (.c (.bool false)))⟩, ⟨(some 14), none, (.mv (.t 13))⟩, ⟨(some 15), (some (14, false)), (.faddr 5 (.t 1))⟩, ⟨(some 16), (some (14, false)), (.load none (.t 15))⟩, ⟨(some 17), (some (14, false)), (.len false (.t 16))⟩, ⟨(some 18), (some (14, false)), (.bin .gtr (.t 17) (.c (.int .i64 0)))⟩, ⟨(some 19), (some (14, false)), (.mv (.t 18))⟩, ⟨(some 20), (some (19, true)), (.faddr 0 (.t 1))⟩, ⟨(some 21), (some (19, true)), (.load none (.t 20))⟩, ⟨(some 22), (some (19, true)), (.call 101 [(.t 21)])⟩, ⟨(some 23), (some (19, true)), (.un .not (.t 22))⟩, ⟨(some 24), (some (14, false)), (.pick (.t 19) (.t 23) (.c (.bool false)))⟩, ⟨(some 25), none, (.pick (.t 14) (.c (.bool true)) (.t 24))⟩]) (.cond (.t 25) (.seq (.reg [⟨(some 2), none, (.mv (.c (.bool true)))⟩]) .ret) .skip)) (.seq (.seq (.reg [⟨(some 26), none, (.faddr 2 (.t 1))⟩, ⟨(some 27), none, (.load none (.t 26))⟩, ⟨(some 28), none, (.bin .neq (.t 27) (.c (.int .i64 0)))⟩, ⟨(some 29), none, (.mv (.t 28))⟩, ⟨(some 30), (some (29, true)), (.faddr 0 (.t 1))⟩, ⟨(some 31), (some (29, true)), (.load none (.t 30))⟩, ⟨(some 32), (some (29, true)), (.bin .lss (.t 31) (.c (.int .i64 10)))⟩, ⟨(some 33), (some (29, true)), (.mv (.t 32))⟩, ⟨(some 34), (some (33, false)), (.faddr 0 (.t 1))⟩, ⟨(some 35), (some (33, false)), (.load none (.t 34))⟩, ⟨(some 36), (some (33, false)), (.bin .gtr (.t 35) (.c (.int .i64 12)))⟩, ⟨(some 37), (some (29, true)), (.pick (.t 33) (.c (.bool true)) (.t 36))⟩, ⟨(some 38), none, (.pick (.t 29) (.t 37) (.c (.bool false)))⟩, ⟨(some 39), none, (.mv (.t 38))⟩, ⟨(some 40), (some (39, false)), (.faddr 3 (.t 1))⟩, ⟨(some 41), (some (39, false)), (.load none (.t 40))⟩, ⟨(some 42), (some (39, false)), (.bin .neq (.t 41) (.c (.int .i64 0)))⟩, ⟨(some 43), (some (39, false)), (.mv (.t 42))⟩, ⟨(some 44), (some (43, true)), (.faddr 0 (.t 1))⟩, ⟨(some 45), (some (43, true)), (.load none (.t 44))⟩, ⟨(some 46), (some (43, true)), (.bin .neq (.t 45) (.c (.int .i64 11)))⟩, ⟨(some 47), (some (39, false)), (.pick (.t 43) (.t 46) (.c (.bool false)))⟩, ⟨(some 48), (some (39, false)), (.mv (.t 47))⟩, ⟨(some 49), (some (48, true)), (.faddr 0 (.t 1))⟩, ⟨(some 50), (some (48, true)), (.load none (.t 49))⟩, ⟨(some 51), (some (48, true)), (.bin .neq (.t 50) (.c (.int .i64 12)))⟩, ⟨(some 52), (some (39, false)), (.pick (.t 48) (.t 51) (.c (.bool false)))⟩, ⟨(some 53), none, (.pick (.t 39) (.c (.bool true)) (.t 52))⟩, ⟨(some 54), none, (.mv (.t 53))⟩, ⟨(some 55), (some (54, false)), (.faddr 4 (.t 1))⟩, ⟨(some 56), (some (54, false)), (.load none (.t 55))⟩, ⟨(some 57), (some (54, false)), (.bin .neq (.t 56) (.c (.int .i64 0)))⟩, ⟨(some 58), (some (54, false)), (.mv (.t 57))⟩, ⟨(some 59), (some (58, true)), (.faddr 0 (.t 1))⟩, ⟨(some 60), (some (58, true)), (.load none (.t 59))⟩, ⟨(some 61), (some (58, true)), (.bin .neq (.t 60) (.c (.int .i64 14)))⟩, ⟨(some 62), (some (54, false)), (.pick (.t 58) (.t 61) (.c (.bool false)))⟩, ⟨(some 63), none, (.pick (.t 54) (.c (.bool true)) (.t 62))⟩]) (.cond (.t 63) (.seq (.reg [⟨(some 2), none, (.mv (.c (.bool true)))⟩]) .ret) .skip)) (.seq (.seq (.reg [⟨(some 3), none, (.mv (.c (.int .i64 0)))⟩]) (.block 0 (.loop (.seq (.seq (.reg [⟨(some 64), none, (.mv (.t 3))⟩, ⟨(some 65), none, (.faddr 5 (.t 1))⟩, ⟨(some 66), none, (.load none (.t 65))⟩, ⟨(some 67), none, (.len false (.t 66))⟩, ⟨(some 68), none, (.bin .lss (.t 64) (.t 67))⟩]) (.cond (.t 68) .skip (.exit 0))) (.seq (.block 1 (.seq (.reg [⟨(some 71), none, (.faddr 5 (.t 1))⟩, ⟨(some 72), none, (.load none (.t 71))⟩, ⟨(some 73), none, (.mv (.t 3))⟩, ⟨(some 74), none, (.iaddr 5 (.t 72) (.t 73))⟩, ⟨(some 75), none, (.load (some 5) (.t 74))⟩, ⟨(some 4), none, (.allc 39 [(.str []), (.int .u64 0), (.int .i64 0), (.bool false), (.bool false)])⟩, ⟨none, none, (.store 5 (.t 4) (.t 75))⟩]) (.seq (.reg [⟨(some 76), none, (.faddr 1 (.t 4))⟩, ⟨(some 77), none, (.load none (.t 76))⟩, ⟨(some 78), none, (.bin .neq (.t 77) (.c (.int .u64 0)))⟩, ⟨(some 79), none, (.mv (.t 78))⟩, ⟨(some 80), (some (79, true)), (.faddr 0 (.t 1))⟩, ⟨(some 81), (some (79, true)), (.load none (.t 80))⟩, ⟨(some 82), (some (79, true)), (.bin .eql (.t 81) (.c (.int .i64 13)))⟩, ⟨(some 83), (some (79, true)), (.mv (.t 82))⟩, ⟨(some 84), (some (83, false)), (.faddr 4 (.t 4))⟩, ⟨(some 85), (some (83, false)), (.load none (.t 84))⟩, ⟨(some 86), (some (79, true)), (.pick (.t 83) (.c (.bool true)) (.t 85))⟩, ⟨(some 87), none, (.pick (.t 79) (.t 86) (.c (.bool false)))⟩, ⟨(some 88), none, (.mv (.t 87))⟩, ⟨(some 89), (some (88, false)), (.faddr 2 (.t 4))⟩, ⟨(some 90), (some (88, false)), (.load none (.t 89))⟩, ⟨(some 91), (some (88, false)), (.bin .neq (.t 90) (.c (.int .i64 0)))⟩, ⟨(some 92), (some (88, false)), (.mv (.t 91))⟩, ⟨(some 93), (some (92, true)), (.faddr 0 (.t 1))⟩, ⟨(some 94), (some (92, true)), (.load none (.t 93))⟩, ⟨(some 95), (some (92, true)), (.bin .eql (.t 94) (.c (.int .i64 9)))⟩, ⟨(some 96), (some (88, false)), (.pick (.t 92) (.t 95) (.c (.bool false)))⟩, ⟨(some 97), none, (.pick (.t 88) (.c (.bool true)) (.t 96))⟩, ⟨(some 98), none, (.mv (.t 97))⟩, ⟨(some 99), (some (98, false)), (.faddr 3 (.t 4))⟩, ⟨(some 100), (some (98, false)), (.load none (.t 99))⟩, ⟨(some 101), (some (98, false)), (.mv (.t 100))⟩, ⟨(some 102), (some (101, true)), (.faddr 0 (.t 1))⟩, ⟨(some 103), (some (101, true)), (.load none (.t 102))⟩, ⟨(some 104), (some (101, true)), (.bin .neq (.t 103) (.c (.int .i64 13)))⟩, ⟨(some 105), (some (98, false)), (.pick (.t 101) (.t 104) (.c (.bool false)))⟩, ⟨(some 106), none, (.pick (.t 98) (.c (.bool true)) (.t 105))⟩, ⟨(some 107), none, (.mv (.t 106))⟩, ⟨(some 108), (some (107, false)), (.faddr 4 (.t 4))⟩, ⟨(some 109), (some (107, false)), (.load none (.t 108))⟩, ⟨(some 110), (some (107, false)), (.mv (.t 109))⟩, ⟨(some 111), (some (110, true)), (.faddr 0 (.t 1))⟩, ⟨(some 112), (some (110, true)), (.load none (.t 111))⟩, ⟨(some 113), (some (110, true)), (.bin .neq (.t 112) (.c (.int .i64 14)))⟩, ⟨(some 114), (some (107, false)), (.pick (.t 110) (.t 113) (.c (.bool false)))⟩, ⟨(some 115), none, (.pick (.t 107) (.c (.bool true)) (.t 114))⟩]) (.cond (.t 115) (.seq (.reg [⟨(some 2), none, (.mv (.c (.bool true)))⟩]) .ret) .skip)))) (.reg [⟨(some 69), none, (.mv (.t 3))⟩, ⟨(some 70), none, (.bin .add (.t 69) (.c (.int .i64 1)))⟩, ⟨(some 3), none, (.mv (.t 70))⟩])))))) (.seq (.reg [⟨(some 2), none, (.mv (.c (.bool false)))⟩]) .ret)))))
theorem broadsheetref06_more.code : comp PG [] (Try.f100.body.getD .skip) = broadsheetref06_more.c := by kernel_rfl
theorem broadsheetref06_more.of {args : List AV} {H : AH} {K : AV → AH → Prop} (hl : args.length = 1) (h : wpA PG broadsheetref06_more.c none (endA [(.t 2)] K) (initFr args) H) : ACalls PG 100 args H K :=
  ACalls.of_code (fl := []) mixed Try.func100 (c := Try.f100.body.getD .skip) (by kernel_rfl) (by kernel_rfl) (by rw [hl]; exact of_decide_eq_true (by kernel_rfl)) (by rw [broadsheetref06_more.code]; kernel_rfl)
    (by rw [broadsheetref06_more.code, show compRes PG Try.f100.results.toList = [(.t 2)] from by kernel_rfl]; exact h)
def broadsheetref06_named.n : Nat := 101
noncomputable def broadsheetref06_named.c : C := (.seq (.reg [⟨(some 2), none, (.mv (.c (.bool false)))⟩]) (.seq (.reg [⟨(some 3), none, (.mv (.t 0))⟩, ⟨(some 4), none, (.bin .eql (.t 3) (.c (.int .i64 9)))⟩, ⟨(some 5), none, (.mv (.t 4))⟩, ⟨(some 6), (some (5, false)), (.mv (.t 0))⟩, ⟨(some 7), (some (5, false)), (.bin .eql (.t 6) (.c (.int .i64 13)))⟩, ⟨(some 8), none, (.pick (.t 5) (.c (.bool true)) (.t 7))⟩, ⟨(some 9), none, (.mv (.t 8))⟩, ⟨(some 10), (some (9, false)), (.mv (.t 0))⟩, ⟨(some 11), (some (9, false)), (.bin .eql (.t 10) (.c (.int .i64 14)))⟩, ⟨(some 12), none, (.pick (.t 9) (.c (.bool true)) (.t 11))⟩, ⟨(some 2), none, (.mv (.t 12))⟩]) .ret))
theorem broadsheetref06_named.code : comp PG [] (Try.f101.body.getD .skip) = broadsheetref06_named.c := by kernel_rfl
theorem broadsheetref06_named.of {args : List AV} {H : AH} {K : AV → AH → Prop} (hl : args.length = 1) (h : wpA PG broadsheetref06_named.c none (endA [(.t 2)] K) (initFr args) H) : ACalls PG 101 args H K :=
  ACalls.of_code (fl := []) mixed Try.func101 (c := Try.f101.body.getD .skip) (by kernel_rfl) (by kernel_rfl) (by rw [hl]; exact of_decide_eq_true (by kernel_rfl)) (by rw [broadsheetref06_named.code]; kernel_rfl)
    (by rw [broadsheetref06_named.code, show compRes PG Try.f101.results.toList = [(.t 2)] from by kernel_rfl]; exact h)
def broadsheetref06_Parts.n : Nat := 103
noncomputable def broadsheetref06_Parts.c : C := (.seq (.reg [⟨(some 1), none, (.box 37 (.t 0))⟩, ⟨(some 2), none, (.mv (.c .nilS))⟩]) (.seq (.reg [⟨(some 3), none, (.mv (.c .nilS))⟩]) (.seq (.seq (.reg [⟨(some 5), none, (.faddr 0 (.t 1))⟩, ⟨(some 6), none, (.load none (.t 5))⟩, ⟨(some 7), none, (.bin .eql (.t 6) (.c (.int .i64 11)))⟩, ⟨(some 8), none, (.mv (.t 7))⟩, ⟨(some 9), (some (8, false)), (.faddr 0 (.t 1))⟩, ⟨(some 10), (some (8, false)), (.load none (.t 9))⟩, ⟨(some 11), (some (8, false)), (.bin .eql (.t 10) (.c (.int .i64 12)))⟩, ⟨(some 12), none, (.pick (.t 8) (.c (.bool true)) (.t 11))⟩]) (.cond (.t 12) (.reg [⟨(some 13), none, (.mv (.t 3))⟩, ⟨(some 14), none, (.faddr 3 (.t 1))⟩, ⟨(some 15), none, (.load none (.t 14))⟩, ⟨(some 16), none, (.bslice 3 1 1 [(.int .i64 0)] [(0, (.t 15))])⟩, ⟨(some 17), none, (.append 3 false 1 8 (.t 13) (.t 16))⟩, ⟨(some 3), none, (.mv (.t 17))⟩]) .skip)) (.seq (.seq (.reg [⟨(some 18), none, (.faddr 0 (.t 1))⟩, ⟨(some 19), none, (.load none (.t 18))⟩, ⟨(some 20), none, (.bin .eql (.t 19) (.c (.int .i64 14)))⟩]) (.cond (.t 20) (.reg [⟨(some 21), none, (.mv (.t 3))⟩, ⟨(some 22), none, (.faddr 4 (.t 1))⟩, ⟨(some 23), none, (.load none (.t 22))⟩, ⟨(some 24), none, (.bslice 3 1 1 [(.int .i64 0)] [(0, (.t 23))])⟩, ⟨(some 25), none, (.append 3 false 1 8 (.t 21) (.t 24))⟩, ⟨(some 3), none, (.mv (.t 25))⟩]) .skip)) (.seq (.seq (.reg [⟨(some 4), none, (.mv (.c (.int .i64 0)))⟩]) (.block 0 (.loop (.seq (.seq (.reg [⟨(some 26), none, (.mv (.t 4))⟩, ⟨(some 27), none, (.faddr 5 (.t 1))⟩, ⟨(some 28), none, (.load none (.t 27))⟩, ⟨(some 29), none, (.len false (.t 28))⟩, ⟨(some 30), none, (.bin .lss (.t 26) (.t 29))⟩, ⟨(some 31), none, (.mv (.t 30))⟩, ⟨(some 32), (some (31, true)), (.faddr 0 (.t 1))⟩, ⟨(some 33), (some (31, true)), (.load none (.t 32))⟩, ⟨(some 34), (some (31, true)), (.bin .geq (.t 33) (.c (.int .i64 13)))⟩, ⟨(some 35), none, (.pick (.t 31) (.t 34) (.c (.bool false)))⟩, ⟨(some 36), none, (.mv (.t 35))⟩, ⟨(some 37), (some (36, true)), (.faddr 0 (.t 1))⟩, ⟨(some 38), (some (36, true)), (.load none (.t 37))⟩, ⟨(some 39), (some (36, true)), (.bin .leq (.t 38) (.c (.int .i64 14)))⟩, ⟨(some 40), none, (.pick (.t 36) (.t 39) (.c (.bool false)))⟩]) (.cond (.t 40) .skip (.exit 0))) (.seq (.block 1 (.reg [⟨(some 43), none, (.mv (.t 3))⟩, ⟨(some 44), none, (.faddr 5 (.t 1))⟩, ⟨(some 45), none, (.load none (.t 44))⟩, ⟨(some 46), none, (.mv (.t 4))⟩, ⟨(some 47), none, (.iaddr 5 (.t 45) (.t 46))⟩, ⟨(some 48), none, (.faddr 2 (.t 47))⟩, ⟨(some 49), none, (.load none (.t 48))⟩, ⟨(some 50), none, (.bslice 3 1 1 [(.int .i64 0)] [(0, (.t 49))])⟩, ⟨(some 51), none, (.append 3 false 1 8 (.t 43) (.t 50))⟩, ⟨(some 3), none, (.mv (.t 51))⟩])) (.reg [⟨(some 41), none, (.mv (.t 4))⟩, ⟨(some 42), none, (.bin .add (.t 41) (.c (.int .i64 1)))⟩, ⟨(some 4), none, (.mv (.t 42))⟩])))))) (.seq (.reg [⟨(some 52), none, (.mv (.t 3))⟩, ⟨(some 2), none, (.mv (.t 52))⟩]) .ret))))))
theorem broadsheetref06_Parts.code : comp PG [] (Try.f103.body.getD .skip) = broadsheetref06_Parts.c := by kernel_rfl
theorem broadsheetref06_Parts.of {args : List AV} {H : AH} {K : AV → AH → Prop} (hl : args.length = 1) (h : wpA PG broadsheetref06_Parts.c none (endA [(.t 2)] K) (initFr args) H) : ACalls PG 103 args H K :=
  ACalls.of_code (fl := []) mixed Try.func103 (c := Try.f103.body.getD .skip) (by kernel_rfl) (by kernel_rfl) (by rw [hl]; exact of_decide_eq_true (by kernel_rfl)) (by rw [broadsheetref06_Parts.code]; kernel_rfl)
    (by rw [broadsheetref06_Parts.code, show compRes PG Try.f103.results.toList = [(.t 2)] from by kernel_rfl]; exact h)
def broadsheetref05_Number.n : Nat := 104
noncomputable def broadsheetref05_Number.c : C := (.seq (.reg [⟨(some 2), none, (.mv (.c (.bool false)))⟩]) (.seq (.reg [⟨(some 3), none, (.mv (.t 0))⟩, ⟨(some 4), none, (.bin .geq (.t 3) (.c (.int .i64 1)))⟩, ⟨(some 5), none, (.mv (.t 4))⟩, ⟨(some 6), (some (5, true)), (.mv (.t 0))⟩, ⟨(some 7), (some (5, true)), (.bin .leq (.t 6) (.c (.int .i64 9)))⟩, ⟨(some 8), none, (.pick (.t 5) (.t 7) (.c (.bool false)))⟩, ⟨(some 2), none, (.mv (.t 8))⟩]) .ret))
theorem broadsheetref05_Number.code : comp PG [] (Try.f104.body.getD .skip) = broadsheetref05_Number.c := by kernel_rfl
theorem broadsheetref05_Number.of {args : List AV} {H : AH} {K : AV → AH → Prop} (hl : args.length = 1) (h : wpA PG broadsheetref05_Number.c none (endA [(.t 2)] K) (initFr args) H) : ACalls PG 104 args H K :=
  ACalls.of_code (fl := []) mixed Try.func104 (c := Try.f104.body.getD .skip) (by kernel_rfl) (by kernel_rfl) (by rw [hl]; exact of_decide_eq_true (by kernel_rfl)) (by rw [broadsheetref05_Number.code]; kernel_rfl)
    (by rw [broadsheetref05_Number.code, show compRes PG Try.f104.results.toList = [(.t 2)] from by kernel_rfl]; exact h)
def broadsheetref06_item.n : Nat := 105
noncomputable def broadsheetref06_item.c : C := (.seq (.reg [⟨(some 4), none, (.box 37 (.t 1))⟩, ⟨(some 6), none, (.mv (.c (.int .i64 0)))⟩]) (.seq (.reg [⟨(some 11), none, (.faddr 5 (.t 4))⟩, ⟨(some 12), none, (.load none (.t 11))⟩, ⟨(some 13), none, (.mv (.t 2))⟩, ⟨(some 14), none, (.iaddr 5 (.t 12) (.t 13))⟩, ⟨(some 15), none, (.load (some 5) (.t 14))⟩, ⟨(some 7), none, (.allc 39 [(.str []), (.int .u64 0), (.int .i64 0), (.bool false), (.bool false)])⟩, ⟨none, none, (.store 5 (.t 7) (.t 15))⟩]) (.seq (.seq (.reg [⟨(some 16), none, (.faddr 0 (.t 7))⟩, ⟨(some 17), none, (.load none (.t 16))⟩, ⟨(some 18), none, (.call 102 [(.t 17)])⟩, ⟨(some 19), none, (.un .not (.t 18))⟩]) (.cond (.t 19) (.seq (.reg [⟨(some 6), none, (.mv (.c (.int .i64 5)))⟩]) .ret) .skip)) (.seq (.reg [⟨(some 8), none, (.mv (.c (.bool false)))⟩]) (.seq (.seq (.reg [⟨(some 9), none, (.mv (.c (.int .i64 0)))⟩]) (.block 0 (.loop (.seq (.seq (.reg [⟨(some 20), none, (.mv (.t 9))⟩, ⟨(some 21), none, (.mv (.t 2))⟩, ⟨(some 22), none, (.bin .lss (.t 20) (.t 21))⟩]) (.cond (.t 22) .skip (.exit 0))) (.seq (.block 1 (.seq (.seq (.dreg [⟨(some 25), none, (.faddr 5 (.t 4))⟩, ⟨(some 26), none, (.load none (.t 25))⟩, ⟨(some 27), none, (.mv (.t 9))⟩, ⟨(some 28), none, (.iaddr 5 (.t 26) (.t 27))⟩, ⟨(some 29), none, (.faddr 0 (.t 28))⟩, ⟨(some 30), none, (.load none (.t 29))⟩, ⟨(some 31), none, (.faddr 0 (.t 7))⟩, ⟨(some 32), none, (.load none (.t 31))⟩] [⟨(some 33), none, (.bin .eql (.t 30) (.t 32))⟩]) (.cond (.t 33) (.seq (.reg [⟨(some 6), none, (.mv (.c (.int .i64 6)))⟩]) .ret) .skip)) (.dreg [⟨(some 34), none, (.mv (.t 8))⟩, ⟨(some 35), none, (.mv (.t 34))⟩, ⟨(some 36), (some (35, false)), (.faddr 5 (.t 4))⟩, ⟨(some 37), (some (35, false)), (.load none (.t 36))⟩, ⟨(some 38), (some (35, false)), (.mv (.t 9))⟩, ⟨(some 39), (some (35, false)), (.iaddr 5 (.t 37) (.t 38))⟩, ⟨(some 40), (some (35, false)), (.faddr 1 (.t 39))⟩, ⟨(some 41), (some (35, false)), (.load none (.t 40))⟩, ⟨(some 42), (some (35, false)), (.faddr 1 (.t 7))⟩, ⟨(some 43), (some (35, false)), (.load none (.t 42))⟩] [⟨(some 44), (some (35, false)), (.bin .eql (.t 41) (.t 43))⟩, ⟨(some 45), none, (.pick (.t 35) (.c (.bool true)) (.t 44))⟩, ⟨(some 8), none, (.mv (.t 45))⟩]))) (.reg [⟨(some 23), none, (.mv (.t 9))⟩, ⟨(some 24), none, (.bin .add (.t 23) (.c (.int .i64 1)))⟩, ⟨(some 9), none, (.mv (.t 24))⟩])))))) (.seq (.seq (.reg [⟨(some 46), none, (.faddr 0 (.t 4))⟩, ⟨(some 47), none, (.load none (.t 46))⟩, ⟨(some 48), none, (.bin .eql (.t 47) (.c (.int .i64 13)))⟩]) (.cond (.t 48) (.seq (.reg [⟨(some 49), none, (.mv (.t 0))⟩, ⟨(some 50), none, (.faddr 2 (.t 7))⟩, ⟨(some 51), none, (.load none (.t 50))⟩, ⟨(some 52), none, (.iaddr 6 (.t 49) (.t 51))⟩, ⟨(some 53), none, (.faddr 0 (.t 52))⟩, ⟨(some 54), none, (.load none (.t 53))⟩, ⟨(some 10), none, (.mv (.t 54))⟩]) (.seq (.seq (.reg [⟨(some 55), none, (.faddr 3 (.t 7))⟩, ⟨(some 56), none, (.load none (.t 55))⟩, ⟨(some 57), none, (.mv (.t 56))⟩, ⟨(some 58), (some (57, true)), (.mv (.t 10))⟩, ⟨(some 59), (some (57, true)), (.call 104 [(.t 58)])⟩, ⟨(some 60), (some (57, true)), (.un .not (.t 59))⟩, ⟨(some 61), none, (.pick (.t 57) (.t 60) (.c (.bool false)))⟩, ⟨(some 62), none, (.mv (.t 61))⟩, ⟨(some 63), (some (62, true)), (.mv (.t 10))⟩, ⟨(some 64), (some (62, true)), (.bin .neq (.t 63) (.c (.int .i64 10)))⟩, ⟨(some 65), none, (.pick (.t 62) (.t 64) (.c (.bool false)))⟩]) (.cond (.t 65) (.seq (.reg [⟨(some 6), none, (.mv (.c (.int .i64 17)))⟩]) .ret) .skip)) (.seq (.reg [⟨(some 6), none, (.mv (.c (.int .i64 0)))⟩]) .ret))) .skip)) (.seq (.seq (.reg [⟨(some 66), none, (.faddr 4 (.t 7))⟩, ⟨(some 67), none, (.load none (.t 66))⟩]) (.cond (.t 67) (.seq (.seq (.reg [⟨(some 68), none, (.mv (.t 2))⟩, ⟨(some 69), none, (.faddr 5 (.t 4))⟩, ⟨(some 70), none, (.load none (.t 69))⟩, ⟨(some 71), none, (.len false (.t 70))⟩, ⟨(some 72), none, (.bin .sub (.t 71) (.c (.int .i64 1)))⟩, ⟨(some 73), none, (.bin .lss (.t 68) (.t 72))⟩]) (.cond (.t 73) (.seq (.reg [⟨(some 6), none, (.mv (.c (.int .i64 14)))⟩]) .ret) .skip)) (.seq (.reg [⟨(some 6), none, (.mv (.c (.int .i64 0)))⟩]) .ret)) .skip)) (.seq (.seq (.reg [⟨(some 74), none, (.mv (.t 0))⟩, ⟨(some 75), none, (.load (some 6) (.t 4))⟩, ⟨(some 76), none, (.faddr 1 (.t 7))⟩, ⟨(some 77), none, (.load none (.t 76))⟩, ⟨(some 78), none, (.call 124 [(.t 74), (.t 75), (.t 77)])⟩, ⟨(some 79), none, (.un .not (.t 78))⟩]) (.cond (.t 79) (.seq (.reg [⟨(some 6), none, (.mv (.c (.int .i64 7)))⟩]) .ret) .skip)) (.seq (.seq (.reg [⟨(some 80), none, (.mv (.t 8))⟩]) (.cond (.t 80) (.seq (.reg [⟨(some 6), none, (.mv (.c (.int .i64 6)))⟩]) .ret) .skip)) (.seq (.reg [⟨(some 6), none, (.mv (.c (.int .i64 0)))⟩]) .ret))))))))))
theorem broadsheetref06_item.code : comp PG [] (Try.f105.body.getD .skip) = broadsheetref06_item.c := by kernel_rfl
theorem broadsheetref06_item.of {args : List AV} {H : AH} {K : AV → AH → Prop} (hl : args.length = 3) (h : wpA PG broadsheetref06_item.c none (endA [(.t 6)] K) (initFr args) H) : ACalls PG 105 args H K :=
  ACalls.of_code (fl := []) mixed Try.func105 (c := Try.f105.body.getD .skip) (by kernel_rfl) (by kernel_rfl) (by rw [hl]; exact of_decide_eq_true (by kernel_rfl)) (by rw [broadsheetref06_item.code]; kernel_rfl)
    (by rw [broadsheetref06_item.code, show compRes PG Try.f105.results.toList = [(.t 6)] from by kernel_rfl]; exact h)
def broadsheetref06_Deep.n : Nat := 106
noncomputable def broadsheetref06_Deep.c : C := (.seq (.reg [⟨(some 4), none, (.mv (.c (.int .i64 0)))⟩]) (.seq (.seq (.reg [⟨(some 9), none, (.mv (.t 1))⟩, ⟨(some 10), none, (.bin .lss (.t 9) (.c (.int .i64 0)))⟩, ⟨(some 11), none, (.mv (.t 10))⟩, ⟨(some 12), (some (11, false)), (.mv (.t 1))⟩, ⟨(some 13), (some (11, false)), (.mv (.t 0))⟩, ⟨(some 14), (some (11, false)), (.len false (.t 13))⟩, ⟨(some 15), (some (11, false)), (.bin .geq (.t 12) (.t 14))⟩, ⟨(some 16), none, (.pick (.t 11) (.c (.bool true)) (.t 15))⟩]) (.cond (.t 16) (.seq (.reg [⟨(some 4), none, (.mv (.c (.int .i64 0)))⟩]) .ret) .skip)) (.seq (.reg [⟨(some 17), none, (.mv (.t 0))⟩, ⟨(some 18), none, (.mv (.t 1))⟩, ⟨(some 19), none, (.iaddr 6 (.t 17) (.t 18))⟩, ⟨(some 20), none, (.load (some 6) (.t 19))⟩, ⟨(some 21), none, (.call 103 [(.t 20)])⟩, ⟨(some 5), none, (.mv (.t 21))⟩]) (.seq (.reg [⟨(some 6), none, (.mv (.c (.int .i64 1)))⟩]) (.seq (.seq (.reg [⟨(some 7), none, (.mv (.c (.int .i64 0)))⟩]) (.block 0 (.loop (.seq (.seq (.reg [⟨(some 22), none, (.mv (.t 7))⟩, ⟨(some 23), none, (.mv (.t 5))⟩, ⟨(some 24), none, (.len false (.t 23))⟩, ⟨(some 25), none, (.bin .lss (.t 22) (.t 24))⟩]) (.cond (.t 25) .skip (.exit 0))) (.seq (.block 1 (.seq (.reg [⟨(some 28), none, (.mv (.t 5))⟩, ⟨(some 29), none, (.mv (.t 7))⟩, ⟨(some 30), none, (.iaddr 1 (.t 28) (.t 29))⟩, ⟨(some 31), none, (.load none (.t 30))⟩, ⟨(some 32), none, (.mv (.t 1))⟩, ⟨(some 33), none, (.bin .lss (.t 31) (.t 32))⟩, ⟨(some 34), none, (.mv (.t 33))⟩, ⟨(some 35), (some (34, true)), (.mv (.t 5))⟩, ⟨(some 36), (some (34, true)), (.mv (.t 7))⟩, ⟨(some 37), (some (34, true)), (.iaddr 1 (.t 35) (.t 36))⟩, ⟨(some 38), (some (34, true)), (.load none (.t 37))⟩, ⟨(some 39), (some (34, true)), (.bin .geq (.t 38) (.c (.int .i64 0)))⟩, ⟨(some 40), none, (.pick (.t 34) (.t 39) (.c (.bool false)))⟩]) (.cond (.t 40) (.seq (.reg [⟨(some 41), none, (.mv (.t 0))⟩, ⟨(some 42), none, (.mv (.t 5))⟩, ⟨(some 43), none, (.mv (.t 7))⟩, ⟨(some 44), none, (.iaddr 1 (.t 42) (.t 43))⟩, ⟨(some 45), none, (.load none (.t 44))⟩, ⟨(some 46), none, (.call 106 [(.t 41), (.t 45)])⟩, ⟨(some 47), none, (.bin .add (.t 46) (.c (.int .i64 1)))⟩, ⟨(some 8), none, (.mv (.t 47))⟩]) (.seq (.reg [⟨(some 48), none, (.mv (.t 8))⟩, ⟨(some 49), none, (.mv (.t 6))⟩, ⟨(some 50), none, (.bin .gtr (.t 48) (.t 49))⟩]) (.cond (.t 50) (.reg [⟨(some 51), none, (.mv (.t 8))⟩, ⟨(some 6), none, (.mv (.t 51))⟩]) .skip))) .skip))) (.reg [⟨(some 26), none, (.mv (.t 7))⟩, ⟨(some 27), none, (.bin .add (.t 26) (.c (.int .i64 1)))⟩, ⟨(some 7), none, (.mv (.t 27))⟩])))))) (.seq (.reg [⟨(some 52), none, (.mv (.t 6))⟩, ⟨(some 4), none, (.mv (.t 52))⟩]) .ret))))))
theorem broadsheetref06_Deep.code : comp PG [] (Try.f106.body.getD .skip) = broadsheetref06_Deep.c := by kernel_rfl
theorem broadsheetref06_Deep.of {args : List AV} {H : AH} {K : AV → AH → Prop} (hl : args.length = 2) (h : wpA PG broadsheetref06_Deep.c none (endA [(.t 4)] K) (initFr args) H) : ACalls PG 106 args H K :=
  ACalls.of_code (fl := []) mixed Try.func106 (c := Try.f106.body.getD .skip) (by kernel_rfl) (by kernel_rfl) (by rw [hl]; exact of_decide_eq_true (by kernel_rfl)) (by rw [broadsheetref06_Deep.code]; kernel_rfl)
    (by rw [broadsheetref06_Deep.code, show compRes PG Try.f106.results.toList = [(.t 4)] from by kernel_rfl]; exact h)
def broadsheetref06_Value.n : Nat := 107
noncomputable def broadsheetref06_Value.c : C := (.seq (.reg [⟨(some 6), none, (.mv (.c (.int .i64 0)))⟩]) (.seq (.seq (.reg [⟨(some 8), none, (.mv (.t 1))⟩, ⟨(some 9), none, (.bin .lss (.t 8) (.c (.int .i64 0)))⟩, ⟨(some 10), none, (.mv (.t 9))⟩, ⟨(some 11), (some (10, false)), (.mv (.t 1))⟩, ⟨(some 12), (some (10, false)), (.mv (.t 0))⟩, ⟨(some 13), (some (10, false)), (.len false (.t 12))⟩, ⟨(some 14), (some (10, false)), (.bin .geq (.t 11) (.t 13))⟩, ⟨(some 15), none, (.pick (.t 10) (.c (.bool true)) (.t 14))⟩, ⟨(some 16), none, (.mv (.t 15))⟩, ⟨(some 17), (some (16, false)), (.mv (.t 0))⟩, ⟨(some 18), (some (16, false)), (.mv (.t 1))⟩, ⟨(some 19), (some (16, false)), (.iaddr 6 (.t 17) (.t 18))⟩, ⟨(some 20), (some (16, false)), (.faddr 0 (.t 19))⟩, ⟨(some 21), (some (16, false)), (.load none (.t 20))⟩, ⟨(some 22), (some (16, false)), (.bin .neq (.t 21) (.c (.int .i64 9)))⟩, ⟨(some 23), none, (.pick (.t 16) (.c (.bool true)) (.t 22))⟩]) (.cond (.t 23) (.seq (.reg [⟨(some 6), none, (.mv (.c (.int .i64 (-1))))⟩]) .ret) .skip)) (.seq (.seq (.reg [⟨(some 7), none, (.mv (.c (.int .i64 0)))⟩]) (.block 0 (.loop (.seq (.seq (.reg [⟨(some 24), none, (.mv (.t 7))⟩, ⟨(some 25), none, (.mv (.t 0))⟩, ⟨(some 26), none, (.mv (.t 1))⟩, ⟨(some 27), none, (.iaddr 6 (.t 25) (.t 26))⟩, ⟨(some 28), none, (.faddr 5 (.t 27))⟩, ⟨(some 29), none, (.load none (.t 28))⟩, ⟨(some 30), none, (.len false (.t 29))⟩, ⟨(some 31), none, (.bin .lss (.t 24) (.t 30))⟩]) (.cond (.t 31) .skip (.exit 0))) (.seq (.block 1 (.seq (.reg [⟨(some 34), none, (.mv (.t 0))⟩, ⟨(some 35), none, (.mv (.t 1))⟩, ⟨(some 36), none, (.iaddr 6 (.t 34) (.t 35))⟩, ⟨(some 37), none, (.faddr 5 (.t 36))⟩, ⟨(some 38), none, (.load none (.t 37))⟩, ⟨(some 39), none, (.mv (.t 7))⟩, ⟨(some 40), none, (.iaddr 5 (.t 38) (.t 39))⟩, ⟨(some 41), none, (.faddr 1 (.t 40))⟩, ⟨(some 42), none, (.load none (.t 41))⟩, ⟨(some 43), none, (.mv (.t 2))⟩, ⟨(some 44), none, (.bin .eql (.t 42) (.t 43))⟩]) (.cond (.t 44) (.seq (.reg [⟨(some 45), none, (.mv (.t 7))⟩, ⟨(some 6), none, (.mv (.t 45))⟩]) .ret) .skip))) (.reg [⟨(some 32), none, (.mv (.t 7))⟩, ⟨(some 33), none, (.bin .add (.t 32) (.c (.int .i64 1)))⟩, ⟨(some 7), none, (.mv (.t 33))⟩])))))) (.seq (.reg [⟨(some 6), none, (.mv (.c (.int .i64 (-1))))⟩]) .ret))))
theorem broadsheetref06_Value.code : comp PG [] (Try.f107.body.getD .skip) = broadsheetref06_Value.c := by kernel_rfl
theorem broadsheetref06_Value.of {args : List AV} {H : AH} {K : AV → AH → Prop} (hl : args.length = 3) (h : wpA PG broadsheetref06_Value.c none (endA [(.t 6)] K) (initFr args) H) : ACalls PG 107 args H K :=
  ACalls.of_code (fl := []) mixed Try.func107 (c := Try.f107.body.getD .skip) (by kernel_rfl) (by kernel_rfl) (by rw [hl]; exact of_decide_eq_true (by kernel_rfl)) (by rw [broadsheetref06_Value.code]; kernel_rfl)
    (by rw [broadsheetref06_Value.code, show compRes PG Try.f107.results.toList = [(.t 6)] from by kernel_rfl]; exact h)
def broadsheetref05_May.n : Nat := 108
noncomputable def broadsheetref05_May.c : C := (.seq (.reg [⟨(some 4), none, (.mv (.c (.bool false)))⟩]) (.seq (.seq (.reg [⟨(some 7), none, (.mv (.t 0))⟩, ⟨(some 8), none, (.bin .eql (.t 7) (.c (.int .i64 1)))⟩]) (.cond (.t 8) (.seq (.reg [⟨(some 9), none, (.mv (.t 1))⟩, ⟨(some 10), none, (.bin .lss (.t 9) (.c (.int .u64 2)))⟩, ⟨(some 4), none, (.mv (.t 10))⟩]) .ret) .skip)) (.seq (.seq (.reg [⟨(some 11), none, (.mv (.t 0))⟩, ⟨(some 12), none, (.call 104 [(.t 11)])⟩, ⟨(some 13), none, (.un .not (.t 12))⟩]) (.cond (.t 13) (.seq (.reg [⟨(some 4), none, (.mv (.c (.bool false)))⟩]) .ret) .skip)) (.seq (.seq (.reg [⟨(some 14), none, (.mv (.t 0))⟩, ⟨(some 15), none, (.call 125 [(.t 14)])⟩]) (.cond (.t 15) (.seq (.reg [⟨(some 17), none, (.mv (.t 1))⟩, ⟨(some 18), none, (.conv .i64 (.t 17))⟩, ⟨(some 19), none, (.mv (.t 0))⟩, ⟨(some 20), none, (.call 127 [(.t 19)])⟩, ⟨(some 21), none, (.call 126 [(.t 18), (.t 20)])⟩, ⟨(some 16), none, (.mv (.t 21))⟩, ⟨(some 22), none, (.extr (.t 16) 0)⟩, ⟨(some 23), none, (.extr (.t 16) 1)⟩, ⟨(some 5), none, (.mv (.t 22))⟩, ⟨(some 6), none, (.mv (.t 23))⟩]) (.seq (.reg [⟨(some 24), none, (.mv (.t 6))⟩, ⟨(some 25), none, (.bin .eql (.t 24) (.c (.int .i64 0)))⟩, ⟨(some 4), none, (.mv (.t 25))⟩]) .ret)) .skip)) (.seq (.reg [⟨(some 26), none, (.mv (.t 0))⟩, ⟨(some 27), none, (.mv (.t 1))⟩, ⟨(some 28), none, (.call 128 [(.t 26), (.t 27)])⟩, ⟨(some 29), none, (.mv (.t 1))⟩, ⟨(some 30), none, (.bin .eql (.t 28) (.t 29))⟩, ⟨(some 4), none, (.mv (.t 30))⟩]) .ret)))))
theorem broadsheetref05_May.code : comp PG [] (Try.f108.body.getD .skip) = broadsheetref05_May.c := by kernel_rfl
theorem broadsheetref05_May.of {args : List AV} {H : AH} {K : AV → AH → Prop} (hl : args.length = 2) (h : wpA PG broadsheetref05_May.c none (endA [(.t 4)] K) (initFr args) H) : ACalls PG 108 args H K :=
  ACalls.of_code (fl := []) mixed Try.func108 (c := Try.f108.body.getD .skip) (by kernel_rfl) (by kernel_rfl) (by rw [hl]; exact of_decide_eq_true (by kernel_rfl)) (by rw [broadsheetref05_May.code]; kernel_rfl)
    (by rw [broadsheetref05_May.code, show compRes PG Try.f108.results.toList = [(.t 4)] from by kernel_rfl]; exact h)
def types_Item.n : Nat := 113
noncomputable def types_Item.c : C := (.seq (.reg [⟨(some 5), none, (.box 9 (.t 2))⟩, ⟨(some 6), none, (.mv (.c (.int .i64 0)))⟩, ⟨(some 7), none, (.mv (.c (.bool false)))⟩]) (.seq (.reg [⟨(some 8), none, (.mv (.t 0))⟩, ⟨(some 9), none, (.mv (.t 1))⟩, ⟨(some 10), none, (.mkfn 132 [] [(.t 5)])⟩, ⟨(some 11), none, (.call 85 [(.t 8), (.t 9), (.c (.clo 131 [] [])), (.t 10)])⟩, ⟨(some 12), none, (.extr (.t 11) 0)⟩, ⟨(some 13), none, (.extr (.t 11) 1)⟩, ⟨(some 6), none, (.mv (.t 12))⟩, ⟨(some 7), none, (.mv (.t 13))⟩]) .ret))
theorem types_Item.code : comp PG [] (Try.f113.body.getD .skip) = types_Item.c := by kernel_rfl
theorem types_Item.of {args : List AV} {H : AH} {K : AV → AH → Prop} (hl : args.length = 3) (h : wpA PG types_Item.c none (endA [(.t 6), (.t 7)] K) (initFr args) H) : ACalls PG 113 args H K :=
  ACalls.of_code (fl := []) mixed Try.func113 (c := Try.f113.body.getD .skip) (by kernel_rfl) (by kernel_rfl) (by rw [hl]; exact of_decide_eq_true (by kernel_rfl)) (by rw [types_Item.code]; kernel_rfl)
    (by rw [types_Item.code, show compRes PG Try.f113.results.toList = [(.t 6), (.t 7)] from by kernel_rfl]; exact h)
def types_look_may.n : Nat := 115
noncomputable def types_look_may.c : C := (.seq (.reg [⟨(some 4), none, (.mv (.c (.bool false)))⟩]) (.seq (.seq (.reg [⟨(some 8), none, (.mv (.t 0))⟩, ⟨(some 9), none, (.nilck (.t 8))⟩, ⟨(some 10), none, (.faddr 2 (.t 9))⟩, ⟨(some 11), none, (.faddr 0 (.t 10))⟩, ⟨(some 12), none, (.load none (.t 11))⟩, ⟨(some 13), none, (.bin .eql (.t 12) (.c (.int .i64 9)))⟩]) (.cond (.t 13) (.seq (.reg [⟨(some 14), none, (.mv (.t 1))⟩, ⟨(some 15), none, (.call 96 [(.c (.int .i64 9)), (.t 14)])⟩, ⟨(some 4), none, (.mv (.t 15))⟩]) .ret) .skip)) (.seq (.dreg [⟨(some 16), none, (.mv (.t 0))⟩, ⟨(some 17), none, (.nilck (.t 16))⟩, ⟨(some 18), none, (.faddr 0 (.t 17))⟩, ⟨(some 19), none, (.load none (.t 18))⟩, ⟨(some 20), none, (.mv (.t 0))⟩, ⟨(some 21), none, (.nilck (.t 20))⟩, ⟨(some 22), none, (.faddr 2 (.t 21))⟩, ⟨(some 23), none, (.faddr 4 (.t 22))⟩, ⟨(some 24), none, (.load none (.t 23))⟩, ⟨(some 25), none, (.iaddr 6 (.t 19) (.t 24))⟩, ⟨(some 26), none, (.load (some 6) (.t 25))⟩, ⟨(some 5), none, (.allc 37 [(.int .i64 0), (.str []), (.int .i64 0), (.int .i64 0), (.int .i64 0), .nilS])⟩] [⟨none, none, (.store 6 (.t 5) (.t 26))⟩]) (.seq (.seq (.reg [⟨(some 27), none, (.faddr 0 (.t 5))⟩, ⟨(some 28), none, (.load none (.t 27))⟩, ⟨(some 29), none, (.bin .eql (.t 28) (.c (.int .i64 9)))⟩]) (.cond (.t 29) (.seq (.dreg [⟨(some 31), none, (.mv (.t 0))⟩, ⟨(some 32), none, (.nilck (.t 31))⟩, ⟨(some 33), none, (.faddr 0 (.t 32))⟩, ⟨(some 34), none, (.load none (.t 33))⟩, ⟨(some 35), none, (.mv (.t 0))⟩, ⟨(some 36), none, (.nilck (.t 35))⟩, ⟨(some 37), none, (.faddr 2 (.t 36))⟩, ⟨(some 38), none, (.faddr 4 (.t 37))⟩, ⟨(some 39), none, (.load none (.t 38))⟩, ⟨(some 40), none, (.mv (.t 1))⟩, ⟨(some 41), none, (.call 95 [(.t 34), (.t 39), (.t 40)])⟩, ⟨(some 30), none, (.mv (.t 41))⟩, ⟨(some 42), none, (.extr (.t 30) 0)⟩, ⟨(some 43), none, (.extr (.t 30) 1)⟩, ⟨(some 6), none, (.mv (.t 42))⟩] [⟨(some 7), none, (.mv (.t 43))⟩]) (.seq (.reg [⟨(some 44), none, (.mv (.t 7))⟩, ⟨(some 4), none, (.mv (.t 44))⟩]) .ret)) .skip)) (.seq (.reg [⟨(some 45), none, (.faddr 0 (.t 5))⟩, ⟨(some 46), none, (.load none (.t 45))⟩, ⟨(some 47), none, (.mv (.t 1))⟩, ⟨(some 48), none, (.call 96 [(.t 46), (.t 47)])⟩, ⟨(some 4), none, (.mv (.t 48))⟩]) .ret)))))
theorem types_look_may.code : comp PG [] (Try.f115.body.getD .skip) = types_look_may.c := by kernel_rfl
theorem types_look_may.of {args : List AV} {H : AH} {K : AV → AH → Prop} (hl : args.length = 2) (h : wpA PG types_look_may.c none (endA [(.t 4)] K) (initFr args) H) : ACalls PG 115 args H K :=
  ACalls.of_code (fl := []) mixed Try.func115 (c := Try.f115.body.getD .skip) (by kernel_rfl) (by kernel_rfl) (by rw [hl]; exact of_decide_eq_true (by kernel_rfl)) (by rw [types_look_may.code]; kernel_rfl)
    (by rw [types_look_may.code, show compRes PG Try.f115.results.toList = [(.t 4)] from by kernel_rfl]; exact h)
def broadsheetref01_Byte.n : Nat := 117
noncomputable def broadsheetref01_Byte.c : C := (.seq (.reg [⟨(some 2), none, (.mv (.c (.str [])))⟩]) (.seq (.reg [⟨(some 3), none, (.mv (.t 0))⟩, ⟨(some 4), none, (.conv .u8 (.t 3))⟩, ⟨(some 5), none, (.bslice 5 1 1 [(.int .u8 0)] [(0, (.t 4))])⟩, ⟨(some 6), none, (.bytesS (.t 5))⟩, ⟨(some 2), none, (.mv (.t 6))⟩]) .ret))
theorem broadsheetref01_Byte.code : comp PG [] (Try.f117.body.getD .skip) = broadsheetref01_Byte.c := by kernel_rfl
theorem broadsheetref01_Byte.of {args : List AV} {H : AH} {K : AV → AH → Prop} (hl : args.length = 1) (h : wpA PG broadsheetref01_Byte.c none (endA [(.t 2)] K) (initFr args) H) : ACalls PG 117 args H K :=
  ACalls.of_code (fl := []) mixed Try.func117 (c := Try.f117.body.getD .skip) (by kernel_rfl) (by kernel_rfl) (by rw [hl]; exact of_decide_eq_true (by kernel_rfl)) (by rw [broadsheetref01_Byte.code]; kernel_rfl)
    (by rw [broadsheetref01_Byte.code, show compRes PG Try.f117.results.toList = [(.t 2)] from by kernel_rfl]; exact h)
def types_Value_1.n : Nat := 118
noncomputable def types_Value_1.c : C := (.seq (.reg [⟨(some 2), none, (.mv (.c (.bool false)))⟩]) (.seq (.reg [⟨(some 3), none, (.mv (.t 0))⟩, ⟨(some 4), none, (.bin .eql (.t 3) (.c (.int .i64 9)))⟩, ⟨(some 2), none, (.mv (.t 4))⟩]) .ret))
theorem types_Value_1.code : comp PG [] (Try.f118.body.getD .skip) = types_Value_1.c := by kernel_rfl
theorem types_Value_1.of {args : List AV} {H : AH} {K : AV → AH → Prop} (hl : args.length = 1) (h : wpA PG types_Value_1.c none (endA [(.t 2)] K) (initFr args) H) : ACalls PG 118 args H K :=
  ACalls.of_code (fl := []) mixed Try.func118 (c := Try.f118.body.getD .skip) (by kernel_rfl) (by kernel_rfl) (by rw [hl]; exact of_decide_eq_true (by kernel_rfl)) (by rw [types_Value_1.code]; kernel_rfl)
    (by rw [types_Value_1.code, show compRes PG Try.f118.results.toList = [(.t 2)] from by kernel_rfl]; exact h)
theorem types_Value_1.of' {args : List AV} {H : AH} {K : AV → AH → Prop} (hl : args.length ≤ 5) (h : wpA PG types_Value_1.c none (endA [(.t 2)] K) (initFr args) H) : ACalls PG 118 args H K :=
  ACalls.of_code (fl := []) mixed Try.func118 (c := Try.f118.body.getD .skip) (by kernel_rfl) (by kernel_rfl) hl (by rw [types_Value_1.code]; kernel_rfl) (by rw [types_Value_1.code, show compRes PG Try.f118.results.toList = [(.t 2)] from by kernel_rfl]; exact h)
def types_Value_2.n : Nat := 119
noncomputable def types_Value_2.c : C := (.seq (.reg [⟨(some 2), none, (.box 39 (.t 0))⟩, ⟨(some 3), none, (.mv (.c (.bool false)))⟩]) (.seq (.reg [⟨(some 4), none, (.faddr 1 (.t 2))⟩, ⟨(some 5), none, (.load none (.t 4))⟩, ⟨(some 6), none, (.load none (.t 1))⟩, ⟨(some 7), none, (.bin .eql (.t 5) (.t 6))⟩, ⟨(some 3), none, (.mv (.t 7))⟩]) .ret))
theorem types_Value_2.code : comp PG [] (Try.f119.body.getD .skip) = types_Value_2.c := by kernel_rfl
theorem types_Value_2.of {args : List AV} {H : AH} {K : AV → AH → Prop} (hl : args.length = 1) (h : wpA PG types_Value_2.c none (endA [(.t 3)] K) (initFr args) H) : ACalls PG 119 args H K :=
  ACalls.of_code (fl := []) mixed Try.func119 (c := Try.f119.body.getD .skip) (by kernel_rfl) (by kernel_rfl) (by rw [hl]; exact of_decide_eq_true (by kernel_rfl)) (by rw [types_Value_2.code]; kernel_rfl)
    (by rw [types_Value_2.code, show compRes PG Try.f119.results.toList = [(.t 3)] from by kernel_rfl]; exact h)
theorem types_Value_2.of' {args : List AV} {H : AH} {K : AV → AH → Prop} (hl : args.length ≤ 8) (h : wpA PG types_Value_2.c none (endA [(.t 3)] K) (initFr args) H) : ACalls PG 119 args H K :=
  ACalls.of_code (fl := []) mixed Try.func119 (c := Try.f119.body.getD .skip) (by kernel_rfl) (by kernel_rfl) hl (by rw [types_Value_2.code]; kernel_rfl) (by rw [types_Value_2.code, show compRes PG Try.f119.results.toList = [(.t 3)] from by kernel_rfl]; exact h)
def prim_Up.n : Nat := 120
noncomputable def prim_Up.c : C := (.seq (.reg [⟨(some 4), none, (.mv (.c (.int .u64 0)))⟩]) (.seq (.seq (.reg [⟨(some 5), none, (.mv (.t 0))⟩, ⟨(some 6), none, (.call 133 [(.t 5)])⟩]) (.cond (.t 6) (.seq (.reg [⟨(some 7), none, (.mv (.t 1))⟩, ⟨(some 8), none, (.mv (.t 0))⟩, ⟨(some 9), none, (.call 57 [(.t 8)])⟩, ⟨(some 10), none, (.call 134 [(.t 7), (.t 9)])⟩, ⟨(some 4), none, (.mv (.t 10))⟩]) .ret) .skip)) (.seq (.reg [⟨(some 11), none, (.mv (.t 0))⟩, ⟨(some 12), none, (.mv (.t 1))⟩, ⟨(some 13), none, (.call 61 [(.t 11), (.t 12)])⟩, ⟨(some 4), none, (.mv (.t 13))⟩]) .ret)))
theorem prim_Up.code : comp PG [] (Try.f120.body.getD .skip) = prim_Up.c := by kernel_rfl
theorem prim_Up.of {args : List AV} {H : AH} {K : AV → AH → Prop} (hl : args.length = 2) (h : wpA PG prim_Up.c none (endA [(.t 4)] K) (initFr args) H) : ACalls PG 120 args H K :=
  ACalls.of_code (fl := []) mixed Try.func120 (c := Try.f120.body.getD .skip) (by kernel_rfl) (by kernel_rfl) (by rw [hl]; exact of_decide_eq_true (by kernel_rfl)) (by rw [prim_Up.code]; kernel_rfl)
    (by rw [prim_Up.code, show compRes PG Try.f120.results.toList = [(.t 4)] from by kernel_rfl]; exact h)
def broadsheetref06_number.n : Nat := 124
noncomputable def broadsheetref06_number.c : C := (.seq (.reg [⟨(some 4), none, (.box 37 (.t 1))⟩, ⟨(some 6), none, (.mv (.c (.bool false)))⟩]) (.seq (.seq (.reg [⟨(some 7), none, (.faddr 0 (.t 4))⟩, ⟨(some 8), none, (.load none (.t 7))⟩, ⟨(some 9), none, (.bin .eql (.t 8) (.c (.int .i64 9)))⟩]) (.cond (.t 9) (.seq (.reg [⟨(some 10), none, (.mv (.t 2))⟩, ⟨(some 11), none, (.call 108 [(.c (.int .i64 9)), (.t 10)])⟩, ⟨(some 6), none, (.mv (.t 11))⟩]) .ret) .skip)) (.seq (.seq (.reg [⟨(some 12), none, (.mv (.t 0))⟩, ⟨(some 13), none, (.faddr 4 (.t 4))⟩, ⟨(some 14), none, (.load none (.t 13))⟩, ⟨(some 15), none, (.iaddr 6 (.t 12) (.t 14))⟩, ⟨(some 16), none, (.faddr 0 (.t 15))⟩, ⟨(some 17), none, (.load none (.t 16))⟩, ⟨(some 18), none, (.bin .eql (.t 17) (.c (.int .i64 9)))⟩]) (.cond (.t 18) (.seq (.reg [⟨(some 19), none, (.mv (.t 0))⟩, ⟨(some 20), none, (.faddr 4 (.t 4))⟩, ⟨(some 21), none, (.load none (.t 20))⟩, ⟨(some 22), none, (.mv (.t 2))⟩, ⟨(some 23), none, (.call 107 [(.t 19), (.t 21), (.t 22)])⟩, ⟨(some 24), none, (.bin .geq (.t 23) (.c (.int .i64 0)))⟩, ⟨(some 6), none, (.mv (.t 24))⟩]) .ret) .skip)) (.seq (.reg [⟨(some 25), none, (.mv (.t 0))⟩, ⟨(some 26), none, (.faddr 4 (.t 4))⟩, ⟨(some 27), none, (.load none (.t 26))⟩, ⟨(some 28), none, (.iaddr 6 (.t 25) (.t 27))⟩, ⟨(some 29), none, (.faddr 0 (.t 28))⟩, ⟨(some 30), none, (.load none (.t 29))⟩, ⟨(some 31), none, (.mv (.t 2))⟩, ⟨(some 32), none, (.call 108 [(.t 30), (.t 31)])⟩, ⟨(some 6), none, (.mv (.t 32))⟩]) .ret))))
theorem broadsheetref06_number.code : comp PG [] (Try.f124.body.getD .skip) = broadsheetref06_number.c := by kernel_rfl
theorem broadsheetref06_number.of {args : List AV} {H : AH} {K : AV → AH → Prop} (hl : args.length = 3) (h : wpA PG broadsheetref06_number.c none (endA [(.t 6)] K) (initFr args) H) : ACalls PG 124 args H K :=
  ACalls.of_code (fl := []) mixed Try.func124 (c := Try.f124.body.getD .skip) (by kernel_rfl) (by kernel_rfl) (by rw [hl]; exact of_decide_eq_true (by kernel_rfl)) (by rw [broadsheetref06_number.code]; kernel_rfl)
    (by rw [broadsheetref06_number.code, show compRes PG Try.f124.results.toList = [(.t 6)] from by kernel_rfl]; exact h)
def broadsheetref05_Signed.n : Nat := 125
noncomputable def broadsheetref05_Signed.c : C := (.seq (.reg [⟨(some 2), none, (.mv (.c (.bool false)))⟩]) (.seq (.reg [⟨(some 3), none, (.mv (.t 0))⟩, ⟨(some 4), none, (.bin .eql (.t 3) (.c (.int .i64 3)))⟩, ⟨(some 5), none, (.mv (.t 4))⟩, ⟨(some 6), (some (5, false)), (.mv (.t 0))⟩, ⟨(some 7), (some (5, false)), (.bin .eql (.t 6) (.c (.int .i64 5)))⟩, ⟨(some 8), none, (.pick (.t 5) (.c (.bool true)) (.t 7))⟩, ⟨(some 9), none, (.mv (.t 8))⟩, ⟨(some 10), (some (9, false)), (.mv (.t 0))⟩, ⟨(some 11), (some (9, false)), (.bin .eql (.t 10) (.c (.int .i64 7)))⟩, ⟨(some 12), none, (.pick (.t 9) (.c (.bool true)) (.t 11))⟩, ⟨(some 13), none, (.mv (.t 12))⟩, ⟨(some 14), (some (13, false)), (.mv (.t 0))⟩, ⟨(some 15), (some (13, false)), (.bin .eql (.t 14) (.c (.int .i64 9)))⟩, ⟨(some 16), none, (.pick (.t 13) (.c (.bool true)) (.t 15))⟩, ⟨(some 2), none, (.mv (.t 16))⟩]) .ret))
theorem broadsheetref05_Signed.code : comp PG [] (Try.f125.body.getD .skip) = broadsheetref05_Signed.c := by kernel_rfl
theorem broadsheetref05_Signed.of {args : List AV} {H : AH} {K : AV → AH → Prop} (hl : args.length = 1) (h : wpA PG broadsheetref05_Signed.c none (endA [(.t 2)] K) (initFr args) H) : ACalls PG 125 args H K :=
  ACalls.of_code (fl := []) mixed Try.func125 (c := Try.f125.body.getD .skip) (by kernel_rfl) (by kernel_rfl) (by rw [hl]; exact of_decide_eq_true (by kernel_rfl)) (by rw [broadsheetref05_Signed.code]; kernel_rfl)
    (by rw [broadsheetref05_Signed.code, show compRes PG Try.f125.results.toList = [(.t 2)] from by kernel_rfl]; exact h)
def broadsheetref01_Bits.n : Nat := 126
noncomputable def broadsheetref01_Bits.c : C := (.seq (.reg [⟨(some 4), none, (.mv (.c (.int .u64 0)))⟩, ⟨(some 5), none, (.mv (.c (.int .i64 0)))⟩]) (.seq (.seq (.reg [⟨(some 7), none, (.mv (.t 1))⟩, ⟨(some 8), none, (.call 139 [(.t 7)])⟩, ⟨(some 9), none, (.un .not (.t 8))⟩]) (.cond (.t 9) (.seq (.reg [⟨(some 4), none, (.mv (.c (.int .u64 0)))⟩, ⟨(some 5), none, (.mv (.c (.int .i64 4)))⟩]) .ret) .skip)) (.seq (.reg [⟨(some 10), none, (.mv (.t 1))⟩, ⟨(some 11), none, (.call 140 [(.t 10)])⟩, ⟨(some 6), none, (.mv (.t 11))⟩]) (.seq (.seq (.reg [⟨(some 12), none, (.mv (.t 0))⟩, ⟨(some 13), none, (.bin .geq (.t 12) (.c (.int .i64 0)))⟩, ⟨(some 14), none, (.mv (.t 13))⟩, ⟨(some 15), (some (14, true)), (.mv (.t 0))⟩, ⟨(some 16), (some (14, true)), (.conv .u64 (.t 15))⟩, ⟨(some 17), (some (14, true)), (.mv (.t 6))⟩, ⟨(some 18), (some (14, true)), (.bin .geq (.t 16) (.t 17))⟩, ⟨(some 19), none, (.pick (.t 14) (.t 18) (.c (.bool false)))⟩, ⟨(some 20), none, (.mv (.t 19))⟩, ⟨(some 21), (some (20, false)), (.mv (.t 0))⟩, ⟨(some 22), (some (20, false)), (.bin .lss (.t 21) (.c (.int .i64 0)))⟩, ⟨(some 23), (some (20, false)), (.mv (.t 22))⟩, ⟨(some 24), (some (23, true)), (.mv (.t 0))⟩, ⟨(some 25), (some (23, true)), (.bin .add (.t 24) (.c (.int .i64 1)))⟩, ⟨(some 26), (some (23, true)), (.un .neg (.t 25))⟩, ⟨(some 27), (some (23, true)), (.conv .u64 (.t 26))⟩, ⟨(some 28), (some (23, true)), (.mv (.t 6))⟩, ⟨(some 29), (some (23, true)), (.bin .geq (.t 27) (.t 28))⟩, ⟨(some 30), (some (20, false)), (.pick (.t 23) (.t 29) (.c (.bool false)))⟩, ⟨(some 31), none, (.pick (.t 20) (.c (.bool true)) (.t 30))⟩]) (.cond (.t 31) (.seq (.reg [⟨(some 4), none, (.mv (.c (.int .u64 0)))⟩, ⟨(some 5), none, (.mv (.c (.int .i64 7)))⟩]) .ret) .skip)) (.seq (.seq (.reg [⟨(some 32), none, (.mv (.t 0))⟩, ⟨(some 33), none, (.bin .geq (.t 32) (.c (.int .i64 0)))⟩]) (.cond (.t 33) (.seq (.reg [⟨(some 34), none, (.mv (.t 0))⟩, ⟨(some 35), none, (.conv .u64 (.t 34))⟩, ⟨(some 4), none, (.mv (.t 35))⟩, ⟨(some 5), none, (.mv (.c (.int .i64 0)))⟩]) .ret) .skip)) (.seq (.reg [⟨(some 36), none, (.mv (.t 6))⟩, ⟨(some 37), none, (.mv (.t 6))⟩, ⟨(some 38), none, (.bin .sub (.t 37) (.c (.int .u64 1)))⟩, ⟨(some 39), none, (.mv (.t 0))⟩, ⟨(some 40), none, (.bin .add (.t 39) (.c (.int .i64 1)))⟩, ⟨(some 41), none, (.un .neg (.t 40))⟩, ⟨(some 42), none, (.conv .u64 (.t 41))⟩, ⟨(some 43), none, (.bin .sub (.t 38) (.t 42))⟩, ⟨(some 44), none, (.bin .add (.t 36) (.t 43))⟩, ⟨(some 4), none, (.mv (.t 44))⟩, ⟨(some 5), none, (.mv (.c (.int .i64 0)))⟩]) .ret))))))
theorem broadsheetref01_Bits.code : comp PG [] (Try.f126.body.getD .skip) = broadsheetref01_Bits.c := by kernel_rfl
theorem broadsheetref01_Bits.of {args : List AV} {H : AH} {K : AV → AH → Prop} (hl : args.length = 2) (h : wpA PG broadsheetref01_Bits.c none (endA [(.t 4), (.t 5)] K) (initFr args) H) : ACalls PG 126 args H K :=
  ACalls.of_code (fl := []) mixed Try.func126 (c := Try.f126.body.getD .skip) (by kernel_rfl) (by kernel_rfl) (by rw [hl]; exact of_decide_eq_true (by kernel_rfl)) (by rw [broadsheetref01_Bits.code]; kernel_rfl)
    (by rw [broadsheetref01_Bits.code, show compRes PG Try.f126.results.toList = [(.t 4), (.t 5)] from by kernel_rfl]; exact h)
def broadsheetref05_Size.n : Nat := 127
noncomputable def broadsheetref05_Size.c : C := (.seq (.reg [⟨(some 2), none, (.mv (.c (.int .i64 0)))⟩]) (.seq (.seq (.reg [⟨(some 3), none, (.mv (.t 0))⟩]) (.block 0 (.seq (.seq (.reg [⟨(some 5), none, (.bin .eql (.t 3) (.c (.int .i64 1)))⟩, ⟨(some 4), none, (.mv (.t 5))⟩]) (.cond (.t 4) .skip (.reg [⟨(some 6), none, (.bin .eql (.t 3) (.c (.int .i64 2)))⟩, ⟨(some 4), none, (.mv (.t 6))⟩]))) (.cond (.t 4) (.seq (.reg [⟨(some 2), none, (.mv (.c (.int .i64 1)))⟩]) .ret) (.seq (.seq (.reg [⟨(some 8), none, (.bin .eql (.t 3) (.c (.int .i64 3)))⟩, ⟨(some 7), none, (.mv (.t 8))⟩]) (.cond (.t 7) .skip (.reg [⟨(some 9), none, (.bin .eql (.t 3) (.c (.int .i64 4)))⟩, ⟨(some 7), none, (.mv (.t 9))⟩]))) (.cond (.t 7) (.seq (.reg [⟨(some 2), none, (.mv (.c (.int .i64 2)))⟩]) .ret) (.seq (.seq (.reg [⟨(some 11), none, (.bin .eql (.t 3) (.c (.int .i64 5)))⟩, ⟨(some 10), none, (.mv (.t 11))⟩]) (.cond (.t 10) .skip (.seq (.reg [⟨(some 12), none, (.bin .eql (.t 3) (.c (.int .i64 6)))⟩, ⟨(some 10), none, (.mv (.t 12))⟩]) (.cond (.t 10) .skip (.reg [⟨(some 13), none, (.bin .eql (.t 3) (.c (.int .i64 9)))⟩, ⟨(some 10), none, (.mv (.t 13))⟩]))))) (.cond (.t 10) (.seq (.reg [⟨(some 2), none, (.mv (.c (.int .i64 4)))⟩]) .ret) (.seq (.seq (.reg [⟨(some 15), none, (.bin .eql (.t 3) (.c (.int .i64 7)))⟩, ⟨(some 14), none, (.mv (.t 15))⟩]) (.cond (.t 14) .skip (.reg [⟨(some 16), none, (.bin .eql (.t 3) (.c (.int .i64 8)))⟩, ⟨(some 14), none, (.mv (.t 16))⟩]))) (.cond (.t 14) (.seq (.reg [⟨(some 2), none, (.mv (.c (.int .i64 8)))⟩]) .ret) .skip)))))))))) (.seq (.reg [⟨(some 2), none, (.mv (.c (.int .i64 0)))⟩]) .ret)))
theorem broadsheetref05_Size.code : comp PG [] (Try.f127.body.getD .skip) = broadsheetref05_Size.c := by kernel_rfl
theorem broadsheetref05_Size.of {args : List AV} {H : AH} {K : AV → AH → Prop} (hl : args.length = 1) (h : wpA PG broadsheetref05_Size.c none (endA [(.t 2)] K) (initFr args) H) : ACalls PG 127 args H K :=
  ACalls.of_code (fl := []) mixed Try.func127 (c := Try.f127.body.getD .skip) (by kernel_rfl) (by kernel_rfl) (by rw [hl]; exact of_decide_eq_true (by kernel_rfl)) (by rw [broadsheetref05_Size.code]; kernel_rfl)
    (by rw [broadsheetref05_Size.code, show compRes PG Try.f127.results.toList = [(.t 2)] from by kernel_rfl]; exact h)
def broadsheetref05_Low.n : Nat := 128
noncomputable def broadsheetref05_Low.c : C := (.seq (.reg [⟨(some 4), none, (.mv (.c (.int .u64 0)))⟩]) (.seq (.seq (.reg [⟨(some 5), none, (.mv (.t 0))⟩, ⟨(some 6), none, (.call 104 [(.t 5)])⟩, ⟨(some 7), none, (.un .not (.t 6))⟩]) (.cond (.t 7) (.seq (.reg [⟨(some 4), none, (.mv (.c (.int .u64 0)))⟩]) .ret) .skip)) (.seq (.reg [⟨(some 8), none, (.mv (.t 1))⟩, ⟨(some 9), none, (.mv (.t 0))⟩, ⟨(some 10), none, (.call 127 [(.t 9)])⟩, ⟨(some 11), none, (.call 141 [(.t 8), (.t 10)])⟩, ⟨(some 4), none, (.mv (.t 11))⟩]) .ret)))
theorem broadsheetref05_Low.code : comp PG [] (Try.f128.body.getD .skip) = broadsheetref05_Low.c := by kernel_rfl
theorem broadsheetref05_Low.of {args : List AV} {H : AH} {K : AV → AH → Prop} (hl : args.length = 2) (h : wpA PG broadsheetref05_Low.c none (endA [(.t 4)] K) (initFr args) H) : ACalls PG 128 args H K :=
  ACalls.of_code (fl := []) mixed Try.func128 (c := Try.f128.body.getD .skip) (by kernel_rfl) (by kernel_rfl) (by rw [hl]; exact of_decide_eq_true (by kernel_rfl)) (by rw [broadsheetref05_Low.code]; kernel_rfl)
    (by rw [broadsheetref05_Low.code, show compRes PG Try.f128.results.toList = [(.t 4)] from by kernel_rfl]; exact h)
def types_Item_1.n : Nat := 131
noncomputable def types_Item_1.c : C := (.seq (.reg [⟨(some 2), none, (.mv (.c (.bool false)))⟩]) (.seq (.reg [⟨(some 8), none, (.mv (.t 0))⟩, ⟨(some 9), none, (.call 80 [(.t 8)])⟩, ⟨(some 7), none, (.mv (.t 9))⟩, ⟨(some 10), none, (.extr (.t 7) 0)⟩, ⟨(some 11), none, (.extr (.t 7) 1)⟩, ⟨(some 12), none, (.extr (.t 7) 2)⟩, ⟨(some 13), none, (.extr (.t 7) 3)⟩, ⟨(some 3), none, (.mv (.t 10))⟩, ⟨(some 4), none, (.mv (.t 11))⟩, ⟨(some 5), none, (.mv (.t 12))⟩, ⟨(some 6), none, (.mv (.t 13))⟩]) (.seq (.reg [⟨(some 14), none, (.mv (.t 3))⟩, ⟨(some 2), none, (.mv (.t 14))⟩]) .ret)))
theorem types_Item_1.code : comp PG [] (Try.f131.body.getD .skip) = types_Item_1.c := by kernel_rfl
theorem types_Item_1.of {args : List AV} {H : AH} {K : AV → AH → Prop} (hl : args.length = 1) (h : wpA PG types_Item_1.c none (endA [(.t 2)] K) (initFr args) H) : ACalls PG 131 args H K :=
  ACalls.of_code (fl := []) mixed Try.func131 (c := Try.f131.body.getD .skip) (by kernel_rfl) (by kernel_rfl) (by rw [hl]; exact of_decide_eq_true (by kernel_rfl)) (by rw [types_Item_1.code]; kernel_rfl)
    (by rw [types_Item_1.code, show compRes PG Try.f131.results.toList = [(.t 2)] from by kernel_rfl]; exact h)
theorem types_Item_1.of' {args : List AV} {H : AH} {K : AV → AH → Prop} (hl : args.length ≤ 15) (h : wpA PG types_Item_1.c none (endA [(.t 2)] K) (initFr args) H) : ACalls PG 131 args H K :=
  ACalls.of_code (fl := []) mixed Try.func131 (c := Try.f131.body.getD .skip) (by kernel_rfl) (by kernel_rfl) hl (by rw [types_Item_1.code]; kernel_rfl) (by rw [types_Item_1.code, show compRes PG Try.f131.results.toList = [(.t 2)] from by kernel_rfl]; exact h)
def types_Item_2.n : Nat := 132
noncomputable def types_Item_2.c : C := (.seq (.reg [⟨(some 2), none, (.box 39 (.t 0))⟩, ⟨(some 3), none, (.mv (.c (.bool false)))⟩]) (.seq (.reg [⟨(some 4), none, (.faddr 0 (.t 2))⟩, ⟨(some 5), none, (.load none (.t 4))⟩, ⟨(some 6), none, (.load none (.t 1))⟩, ⟨(some 7), none, (.bin .eql (.t 5) (.t 6))⟩, ⟨(some 3), none, (.mv (.t 7))⟩]) .ret))
theorem types_Item_2.code : comp PG [] (Try.f132.body.getD .skip) = types_Item_2.c := by kernel_rfl
theorem types_Item_2.of {args : List AV} {H : AH} {K : AV → AH → Prop} (hl : args.length = 1) (h : wpA PG types_Item_2.c none (endA [(.t 3)] K) (initFr args) H) : ACalls PG 132 args H K :=
  ACalls.of_code (fl := []) mixed Try.func132 (c := Try.f132.body.getD .skip) (by kernel_rfl) (by kernel_rfl) (by rw [hl]; exact of_decide_eq_true (by kernel_rfl)) (by rw [types_Item_2.code]; kernel_rfl)
    (by rw [types_Item_2.code, show compRes PG Try.f132.results.toList = [(.t 3)] from by kernel_rfl]; exact h)
theorem types_Item_2.of' {args : List AV} {H : AH} {K : AV → AH → Prop} (hl : args.length ≤ 8) (h : wpA PG types_Item_2.c none (endA [(.t 3)] K) (initFr args) H) : ACalls PG 132 args H K :=
  ACalls.of_code (fl := []) mixed Try.func132 (c := Try.f132.body.getD .skip) (by kernel_rfl) (by kernel_rfl) hl (by rw [types_Item_2.code]; kernel_rfl) (by rw [types_Item_2.code, show compRes PG Try.f132.results.toList = [(.t 3)] from by kernel_rfl]; exact h)
def prim_Signed.n : Nat := 133
noncomputable def prim_Signed.c : C := (.seq (.reg [⟨(some 2), none, (.mv (.c (.bool false)))⟩]) (.seq (.reg [⟨(some 3), none, (.mv (.t 0))⟩, ⟨(some 4), none, (.call 90 [(.t 3)])⟩, ⟨(some 5), none, (.field 1 none (.t 4))⟩, ⟨(some 2), none, (.mv (.t 5))⟩]) .ret))
theorem prim_Signed.code : comp PG [] (Try.f133.body.getD .skip) = prim_Signed.c := by kernel_rfl
theorem prim_Signed.of {args : List AV} {H : AH} {K : AV → AH → Prop} (hl : args.length = 1) (h : wpA PG prim_Signed.c none (endA [(.t 2)] K) (initFr args) H) : ACalls PG 133 args H K :=
  ACalls.of_code (fl := []) mixed Try.func133 (c := Try.f133.body.getD .skip) (by kernel_rfl) (by kernel_rfl) (by rw [hl]; exact of_decide_eq_true (by kernel_rfl)) (by rw [prim_Signed.code]; kernel_rfl)
    (by rw [prim_Signed.code, show compRes PG Try.f133.results.toList = [(.t 2)] from by kernel_rfl]; exact h)
def word_Wide.n : Nat := 134
noncomputable def word_Wide.c : C := (.seq (.reg [⟨(some 4), none, (.mv (.c (.int .u64 0)))⟩]) (.seq (.reg [⟨(some 5), none, (.mv (.t 0))⟩, ⟨(some 6), none, (.mv (.t 1))⟩, ⟨(some 7), none, (.call 143 [(.t 5), (.t 6)])⟩, ⟨(some 8), none, (.conv .u64 (.t 7))⟩, ⟨(some 4), none, (.mv (.t 8))⟩]) .ret))
theorem word_Wide.code : comp PG [] (Try.f134.body.getD .skip) = word_Wide.c := by kernel_rfl
theorem word_Wide.of {args : List AV} {H : AH} {K : AV → AH → Prop} (hl : args.length = 2) (h : wpA PG word_Wide.c none (endA [(.t 4)] K) (initFr args) H) : ACalls PG 134 args H K :=
  ACalls.of_code (fl := []) mixed Try.func134 (c := Try.f134.body.getD .skip) (by kernel_rfl) (by kernel_rfl) (by rw [hl]; exact of_decide_eq_true (by kernel_rfl)) (by rw [word_Wide.code]; kernel_rfl)
    (by rw [word_Wide.code, show compRes PG Try.f134.results.toList = [(.t 4)] from by kernel_rfl]; exact h)
def broadsheetref01_Sized.n : Nat := 139
noncomputable def broadsheetref01_Sized.c : C := (.seq (.reg [⟨(some 2), none, (.mv (.c (.bool false)))⟩]) (.seq (.reg [⟨(some 3), none, (.mv (.t 0))⟩, ⟨(some 4), none, (.bin .eql (.t 3) (.c (.int .i64 1)))⟩, ⟨(some 5), none, (.mv (.t 4))⟩, ⟨(some 6), (some (5, false)), (.mv (.t 0))⟩, ⟨(some 7), (some (5, false)), (.bin .eql (.t 6) (.c (.int .i64 2)))⟩, ⟨(some 8), none, (.pick (.t 5) (.c (.bool true)) (.t 7))⟩, ⟨(some 9), none, (.mv (.t 8))⟩, ⟨(some 10), (some (9, false)), (.mv (.t 0))⟩, ⟨(some 11), (some (9, false)), (.bin .eql (.t 10) (.c (.int .i64 4)))⟩, ⟨(some 12), none, (.pick (.t 9) (.c (.bool true)) (.t 11))⟩, ⟨(some 13), none, (.mv (.t 12))⟩, ⟨(some 14), (some (13, false)), (.mv (.t 0))⟩, ⟨(some 15), (some (13, false)), (.bin .eql (.t 14) (.c (.int .i64 8)))⟩, ⟨(some 16), none, (.pick (.t 13) (.c (.bool true)) (.t 15))⟩, ⟨(some 2), none, (.mv (.t 16))⟩]) .ret))
theorem broadsheetref01_Sized.code : comp PG [] (Try.f139.body.getD .skip) = broadsheetref01_Sized.c := by kernel_rfl
theorem broadsheetref01_Sized.of {args : List AV} {H : AH} {K : AV → AH → Prop} (hl : args.length = 1) (h : wpA PG broadsheetref01_Sized.c none (endA [(.t 2)] K) (initFr args) H) : ACalls PG 139 args H K :=
  ACalls.of_code (fl := []) mixed Try.func139 (c := Try.f139.body.getD .skip) (by kernel_rfl) (by kernel_rfl) (by rw [hl]; exact of_decide_eq_true (by kernel_rfl)) (by rw [broadsheetref01_Sized.code]; kernel_rfl)
    (by rw [broadsheetref01_Sized.code, show compRes PG Try.f139.results.toList = [(.t 2)] from by kernel_rfl]; exact h)
def broadsheetref01_half.n : Nat := 140
noncomputable def broadsheetref01_half.c : C := (.seq (.reg [⟨(some 2), none, (.mv (.c (.int .u64 0)))⟩]) (.seq (.reg [⟨(some 3), none, (.mv (.c (.int .u64 128)))⟩]) (.seq (.seq (.reg [⟨(some 4), none, (.mv (.c (.int .i64 1)))⟩]) (.block 0 (.loop (.seq (.seq (.reg [⟨(some 5), none, (.mv (.t 4))⟩, ⟨(some 6), none, (.mv (.t 0))⟩, ⟨(some 7), none, (.bin .lss (.t 5) (.t 6))⟩]) (.cond (.t 7) .skip (.exit 0))) (.seq (.block 1 (.reg [⟨(some 10), none, (.mv (.t 3))⟩, ⟨(some 11), none, (.bin .mul (.t 10) (.c (.int .u64 256)))⟩, ⟨(some 3), none, (.mv (.t 11))⟩])) (.reg [⟨(some 8), none, (.mv (.t 4))⟩, ⟨(some 9), none, (.bin .add (.t 8) (.c (.int .i64 1)))⟩, ⟨(some 4), none, (.mv (.t 9))⟩])))))) (.seq (.reg [⟨(some 12), none, (.mv (.t 3))⟩, ⟨(some 2), none, (.mv (.t 12))⟩]) .ret))))
theorem broadsheetref01_half.code : comp PG [] (Try.f140.body.getD .skip) = broadsheetref01_half.c := by kernel_rfl
theorem broadsheetref01_half.of {args : List AV} {H : AH} {K : AV → AH → Prop} (hl : args.length = 1) (h : wpA PG broadsheetref01_half.c none (endA [(.t 2)] K) (initFr args) H) : ACalls PG 140 args H K :=
  ACalls.of_code (fl := []) mixed Try.func140 (c := Try.f140.body.getD .skip) (by kernel_rfl) (by kernel_rfl) (by rw [hl]; exact of_decide_eq_true (by kernel_rfl)) (by rw [broadsheetref01_half.code]; kernel_rfl)
    (by rw [broadsheetref01_half.code, show compRes PG Try.f140.results.toList = [(.t 2)] from by kernel_rfl]; exact h)
def broadsheetref01_Low.n : Nat := 141
noncomputable def broadsheetref01_Low.c : C := (.seq (.reg [⟨(some 4), none, (.mv (.c (.int .u64 0)))⟩]) (.seq (.reg [⟨(some 6), none, (.mv (.t 1))⟩, ⟨(some 7), none, (.call 140 [(.t 6)])⟩, ⟨(some 5), none, (.mv (.t 7))⟩]) (.seq (.dreg [⟨(some 8), none, (.mv (.t 0))⟩, ⟨(some 9), none, (.mv (.t 5))⟩, ⟨(some 10), none, (.bin .rem (.t 8) (.t 9))⟩, ⟨(some 11), none, (.mv (.t 5))⟩, ⟨(some 12), none, (.mv (.t 0))⟩, ⟨(some 13), none, (.mv (.t 5))⟩, ⟨(some 14), none, (.bin .quo (.t 12) (.t 13))⟩, ⟨(some 15), none, (.bin .rem (.t 14) (.c (.int .u64 2)))⟩, ⟨(some 16), none, (.bin .mul (.t 11) (.t 15))⟩] [⟨(some 17), none, (.bin .add (.t 10) (.t 16))⟩, ⟨(some 4), none, (.mv (.t 17))⟩]) .ret)))
theorem broadsheetref01_Low.code : comp PG [] (Try.f141.body.getD .skip) = broadsheetref01_Low.c := by kernel_rfl
theorem broadsheetref01_Low.of {args : List AV} {H : AH} {K : AV → AH → Prop} (hl : args.length = 2) (h : wpA PG broadsheetref01_Low.c none (endA [(.t 4)] K) (initFr args) H) : ACalls PG 141 args H K :=
  ACalls.of_code (fl := []) mixed Try.func141 (c := Try.f141.body.getD .skip) (by kernel_rfl) (by kernel_rfl) (by rw [hl]; exact of_decide_eq_true (by kernel_rfl)) (by rw [broadsheetref01_Low.code]; kernel_rfl)
    (by rw [broadsheetref01_Low.code, show compRes PG Try.f141.results.toList = [(.t 4)] from by kernel_rfl]; exact h)
def word_Sign.n : Nat := 143
noncomputable def word_Sign.c : C := (.seq (.reg [⟨(some 4), none, (.mv (.c (.int .i64 0)))⟩]) (.seq (.seq (.reg [⟨(some 6), none, (.mv (.t 1))⟩, ⟨(some 7), none, (.call 92 [(.t 6)])⟩, ⟨(some 8), none, (.un .not (.t 7))⟩]) (.cond (.t 8) (.seq (.reg [⟨(some 4), none, (.mv (.c (.int .i64 0)))⟩]) .ret) .skip)) (.seq (.reg [⟨(some 9), none, (.mv (.t 1))⟩, ⟨(some 10), none, (.bin .mul (.c (.int .i64 8)) (.t 9))⟩, ⟨(some 11), none, (.bin .sub (.c (.int .i64 64)) (.t 10))⟩, ⟨(some 12), none, (.conv .u64 (.t 11))⟩, ⟨(some 5), none, (.mv (.t 12))⟩]) (.seq (.reg [⟨(some 13), none, (.mv (.t 0))⟩, ⟨(some 14), none, (.mv (.t 5))⟩, ⟨(some 15), none, (.bin .shl (.t 13) (.t 14))⟩, ⟨(some 16), none, (.conv .i64 (.t 15))⟩, ⟨(some 17), none, (.mv (.t 5))⟩, ⟨(some 18), none, (.bin .shr (.t 16) (.t 17))⟩, ⟨(some 4), none, (.mv (.t 18))⟩]) .ret))))
theorem word_Sign.code : comp PG [] (Try.f143.body.getD .skip) = word_Sign.c := by kernel_rfl
theorem word_Sign.of {args : List AV} {H : AH} {K : AV → AH → Prop} (hl : args.length = 2) (h : wpA PG word_Sign.c none (endA [(.t 4)] K) (initFr args) H) : ACalls PG 143 args H K :=
  ACalls.of_code (fl := []) mixed Try.func143 (c := Try.f143.body.getD .skip) (by kernel_rfl) (by kernel_rfl) (by rw [hl]; exact of_decide_eq_true (by kernel_rfl)) (by rw [word_Sign.code]; kernel_rfl)
    (by rw [word_Sign.code, show compRes PG Try.f143.results.toList = [(.t 4)] from by kernel_rfl]; exact h)
end Go.Proofs.Ytodiahhfpcdejaa
