/- Texts of this proof, one behind the other: SimSound, SimShape, SimRow, SimLib, SimFast, SimFast2, SimNil, SimAuto, SimSW, SimLoop, CodeA. -/
import Derived.Test.YtjaigpidmngaaaaGreatPkT2
import Derived.ChangeArms
import Derived.OpenShut
import Derived.SizedLaws
import Derived.DataReads
import Derived.Below
import Derived.Carry
import Derived.WalkKit
import Derived.ProofKit
import Derived.ShutString
import Derived.ChangeOld
import Derived.Test.YtjaigpidmngaaaaGreatProg
import Derived.KernelRfl
set_option autoImplicit false
set_option linter.unusedSimpArgs false
set_option linter.unusedVariables false
namespace Go.Proofs.YtjaigpidmngaaaaGreat
theorem least_of {p : Nat → Prop} (h : ∃ n, p n) : ∃ n, p n ∧ ∀ m, p m → n ≤ m := by
  obtain ⟨n, hn⟩ := h
  induction n using Nat.strongRecOn with
  | _ n ih =>
    by_cases q : ∃ m, m < n ∧ p m
    · obtain ⟨m, hm, hp⟩ := q; exact ih m hm hp
    · exact ⟨n, hn, fun m hm => Classical.byContradiction fun r => q ⟨m, by omega, hm⟩⟩
noncomputable def leastN (p : Nat → Prop) : Nat := open Classical in if h : ∃ n, p n then Classical.choose (least_of h) else 0
theorem leastN_spec {p : Nat → Prop} (h : ∃ n, p n) : p (leastN p) ∧ ∀ m, p m → leastN p ≤ m := by
  unfold leastN
  rw [dif_pos h]
  exact Classical.choose_spec (least_of h)
section
variable {rd : Option Nat} {nn : Nat} {P : Program} {w : World} {ρ : Loc} {Z : Nat → Prop} {H : AH} {s : Fr} {a : Act} {B : Beg} {fl : List Nat}
theorem wp_loop_n {c : Code} {Q : Exit → Act → World → Prop} (I : Nat → Act → World → Prop) (h0 : ∃ n, I n a w) (round : ∀ n a w, I n a w → c.wpIn (FnR rd) nn P (Exit.then (fun a' w' => ∃ m, m < n ∧ I m a' w') Q) a w) : (Code.loop c).wpIn (FnR rd) nn P Q a w := by
  refine wpIn_loop (fun a w => ∃ n, I n a w) (fun a w => leastN fun n => I n a w) h0 fun a w hi => ?_
  obtain ⟨h1, _⟩ := leastN_spec hi
  refine wpIn_mono (round _ a w h1) fun e a' w' q => ?_
  cases e with
  | normal =>
    obtain ⟨m, hm, hI⟩ := q
    exact ⟨⟨m, hI⟩, Nat.lt_of_le_of_lt ((leastN_spec ⟨m, hI⟩).2 m hI) hm⟩
  | _ => exact q
theorem wp_scope_n {c rest : Code} {Q : Exit → Act → World → Prop} (l : Nat) (I : Nat → Act → World → Prop) (hf : findLabel c l = some rest) (first : c.wp P (Exit.jump l (fun a w => ∃ n, I n a w) Q) a w)
    (pass : ∀ n a w, I n a w → rest.wp P (Exit.jump l (fun a' w' => ∃ m, m < n ∧ I m a' w') Q) a w) : (Code.scope c).wp P Q a w := by
  refine wp_scope_jumps l (fun a w => ∃ n, I n a w) (fun a w => leastN fun n => I n a w) hf first fun a w hi => ?_
  obtain ⟨h1, _⟩ := leastN_spec hi
  refine wp_mono (pass _ a w h1) fun e a' w' q => ?_
  cases e with
  | goto l' =>
    obtain ⟨hl, m, hm, hI⟩ := q
    exact ⟨hl, ⟨m, hI⟩, Nat.lt_of_le_of_lt ((leastN_spec ⟨m, hI⟩).2 m hI) hm⟩
  | _ => exact q
theorem Inv.drew (hi : Inv B w ρ Z H s a) : Inv B { w with drawn := w.drawn + 1 } ρ Z H s a :=
  ⟨hi.good, hi.fr, hi.ext.trans ⟨Nat.le_refl _, fun _ _ _ => rfl, fun _ _ q => q, fun _ q => q, fun _ q => .inl q, fun _ _ q => q, fun _ q => .inl q, rfl, rfl, rfl⟩, hi.size, ⟨fun d hd => hi.defers.one d hd, hi.defers.nd⟩⟩
theorem Inv.sub {Hc : AH} (hi : Inv B w ρ Z H s a) (hs : Sub Hc H) : Inv B w ρ Z Hc s a :=
  ⟨hi.good.forget hs, hi.fr, { hi.ext with own := fun b q => hi.ext.own b (q.of_sub hs) }, hi.size, hi.defers⟩
theorem Inv.forget {J : Fr → AH → Prop} (hi : Inv B w ρ Z H s a) (h : Weak J s H) : ∃ s' H' Z', Inv B w ρ Z' H' s' a ∧ J s' H' := by
  obtain ⟨s', H', h1, h2, h3⟩ := h
  refine ⟨s', H', fun b => Z b ∨ Drop ρ H H' b, ⟨hi.good.freeze h2, fun t v' h => ?_, ?_, hi.size, hi.defers⟩, h3⟩
  · obtain ⟨v, q1, q2⟩ := h1 t v' h
    exact q2.sound hi.good _ (hi.fr t v q1)
  · refine { hi.ext with zmono := fun b q => .inl (hi.ext.zmono b q), znew := fun b q => ?_, own := fun b q => hi.ext.own b (q.of_sub h2) }
    rcases q with q | q
    · exact hi.ext.znew b q
    · rcases hi.ext.own b q.own with q | q
      · exact .inr (.inl q)
      · exact .inr (.inr q)
def tyAt (os : List COp) (i : Nat) : Nat := match os[i]? with
  | some o => o.co.ty
  | none => 0
theorem tys_bound : ∀ os : List COp, ∃ K, ∀ i, tyAt os i ≤ K
  | [] => ⟨0, fun i => by simp [tyAt]⟩
  | o :: os => by
    obtain ⟨K, h⟩ := tys_bound os
    refine ⟨K + o.co.ty, fun i => ?_⟩
    cases i with
    | zero => simp [tyAt]
    | succ i => have := h i; simp [tyAt] at this ⊢; omega
theorem wp_dreg {id : Nat} {ops : Array Oper} {k : Nat} {K : Fr → AH → Prop} {Q : Exit → Act → World → Prop} (hm : P.follows .mixedOrders = true) (hkn : k ≤ ops.size) (hok : drawOk ops (compOps P fl ops ops.toList) k = true)
    (hd : (compOps P fl ops ops.toList).all (dstOk B.N) = true) (hQ : ∀ a' w' ρ' Z' H' s', Inv B w' ρ' Z' H' s' a' → K s' H' → Q .normal a' w') (hi : Inv B w ρ Z H s a)
    {H0 D : AH} (hsub : Sub H0 H) (hDH : Sub D H) (hdis : ∀ id b, hget D id = some b → hget H0 id = none)
    (h : wpDraw P ((compOps P fl ops ops.toList).take k) (fun s' H' => wpOps P ((compOps P fl ops ops.toList).drop k) K s' H') s H0 D [] H) : (Code.region id ops true).wpIn (FnR rd) nn P Q a w := by
  refine wpIn_region_any hm ?_
  obtain ⟨N, hN⟩ := hi.good.ids
  obtain ⟨K0, hK0⟩ := tys_bound ((compOps P fl ops ops.toList).take k)
  obtain ⟨idf, hidf⟩ : ∃ idf : Nat → Nat, ∀ i, idf i = 2 ^ (N + K0 + i) + tyAt ((compOps P fl ops ops.toList).take k) i := ⟨_, fun _ => rfl⟩
  have hlt : ∀ i, tyAt ((compOps P fl ops ops.toList).take k) i < 2 ^ (N + K0 + i) := fun i =>
    Nat.lt_of_lt_of_le (Nat.lt_of_le_of_lt (hK0 i) (lt_pow K0)) (Nat.pow_le_pow_right (by omega) (by omega))
  have htag : ∀ i, tag (idf i) = tyAt ((compOps P fl ops ops.toList).take k) i := fun i => by rw [hidf]; exact tag_mk (hlt i)
  have hge : ∀ i, N ≤ idf i := fun i => by
    rw [hidf]
    have := lt_pow (N + K0 + i)
    omega
  have hinj : ∀ i j, idf i = idf j → i = j := by
    have key : ∀ i j, i < j → idf i < idf j := fun i j hij => by
      have h1 := hlt i
      have h2 : 2 ^ (N + K0 + i + 1) ≤ 2 ^ (N + K0 + j) := Nat.pow_le_pow_right (by omega) (by omega)
      rw [Nat.pow_succ] at h2
      rw [hidf, hidf]
      omega
    intro i j q
    rcases Nat.lt_trichotomy i j with r | r | r
    · have := key i j r; omega
    · exact r
    · have := key j i r; omega
  have hid0 : ∀ j, hget H (idf j) = none := by
    intro j
    cases hh : hget H (idf j) with
    | none => rfl
    | some b => obtain ⟨p, q, r, _⟩ := hi.good.blk _ b hh; rw [hN _ (hge j)] at r; cases r
  obtain ⟨es, h1, h2, h3⟩ := wpDraw_effects (idf := idf) hinj _ 0 s D [] H (fun i o q => by rw [Nat.zero_add, htag]; unfold tyAt; rw [q]) h (fun j _ => hid0 j) (fun j _ => by
    cases q : hget D (idf j) with
    | none => rfl
    | some b => have := hDH _ _ q; rw [hid0] at this; cases this) (fun _ _ => rfl) (fun _ _ _ => rfl)
  have h4 : ∀ (i : Nat) id b b', es[i]? = some (.st id b b') → hget D id = some b.1 ∨ ∃ (j : Nat) (x : AV), j < i ∧ es[j]? = some (.nb x id b.1) := fun i id b b' q => by
    rcases h3.st i id b b' q with q | q | q
    · exact .inl q
    · cases q
    · exact .inr q
  have hlen : (compOps P fl ops ops.toList).length = ops.size := by rw [compOps_len]; simp
  have hel : es.length = k := by rw [h1, List.length_take, hlen]; omega
  have hi' := hi.drew
  refine early_any (s := s) (H0 := H0) (D := D) (H := H) (idf := idf) (es := es) hinj hkn hok hd hQ hel hid0 hsub hDH hdis h4 h3.un h3.ok h2 ops.size [] _ _ ρ Z H a (by simp) ?_
  exact ⟨hi'.good, hi'.ext, hi'.size, hi'.defers, hsub, fun _ _ q => .inr ⟨.inl q, fun _ _ _ q2 => by cases q2⟩, fun _ _ _ _ q => (by cases q), fun _ _ _ _ q => (by cases q), fun _ _ _ _ q => (by cases q), fun _ _ q _ => q, fun i _ => hN _ (hge i), fun _ _ _ _ _ q => (by cases q), fun t v hv _ => hi'.fr t v hv, fun _ _ q => (by cases q), fun _ q => (by cases q),
    List.nodup_nil, fun i => by
      have : (Array.replicate ops.size false).getD i false = false := by rw [Array.getD_eq_getD_getElem?, Array.getElem?_replicate]; split <;> rfl
      rw [this]; simp, by simp⟩
theorem hasL_spec : ∀ (c : Code) (l : Nat), hasL (comp P fl c) l = true ↔ ∃ rest, findLabel c l = some rest
  | .seq a b, l => by
    simp only [comp, hasL, Bool.or_eq_true, findLabel]
    rw [hasL_spec a l, hasL_spec b l]
    cases findLabel a l <;> simp
  | .label l', l => by
    simp only [comp, hasL, findLabel]
    by_cases h : l' = l <;> simp [h]
  | .region id ops d, l => by
    cases d with
    | false => simp [comp, hasL, findLabel]
    | true => simp only [comp, findLabel]; split <;> simp [hasL]
  | .skip, l | .cond _ _ _, l | .block _ _, l | .loop _, l | .rangeFunc _ _ _ _, l | .exit _, l | .scope _, l | .goto _, l | .ret, l | .refuse _, l => by simp [comp, hasL, findLabel]
theorem wpA_noL : ∀ (c : C) (l : Nat) (Q : Exit → Fr → AH → Prop) (s : Fr) (H : AH), hasL c l = false → ¬ wpA P c (some l) Q s H
  | .seq a b, l, Q, s, H, h => by
    simp only [hasL, Bool.or_eq_false_iff] at h
    simp only [wpA, h.1, Bool.false_eq_true, if_false]
    exact wpA_noL b l Q s H h.2
  | .label l', l, Q, s, H, h => by
    simp only [hasL, beq_eq_false_iff_ne] at h
    simp [wpA, h]
  | .skip, l, Q, s, H, _ | .reg _, l, Q, s, H, _ | .dreg _ _, l, Q, s, H, _ | .cond _ _ _, l, Q, s, H, _ | .block _ _, l, Q, s, H, _ | .loop _, l, Q, s, H, _ | .exit _, l, Q, s, H, _ | .scope _, l, Q, s, H, _ | .goto _, l, Q, s, H, _ | .rangeF _ _ _ _, l, Q, s, H, _
  | .ret, l, Q, s, H, _ | .bad, l, Q, s, H, _ => by simp [wpA]
theorem LQ.then {Q : Exit → Fr → AH → Prop} {K : Fr → AH → Prop} {e : Exit} {K' : Act → World → Prop} (h : LQ B (thenA K Q) e a w) (hk : ∀ s H ρ Z, Inv B w ρ Z H s a → K s H → K' a w) : Exit.then K' (LQ B Q) e a w := by
  obtain ⟨s, H, ρ, Z, hi, q⟩ := h
  cases e with
  | normal =>
    obtain ⟨s', H', Z', hi', q'⟩ := hi.forget q
    exact hk s' H' ρ Z' hi' q'
  | _ => exact ⟨s, H, ρ, Z, hi, q⟩
theorem wpA_sound (hm : P.follows .mixedOrders = true) (c : Code) (hrd : rd = none ∨ flatC (comp P fl c) = true) : dstsOk B.N (comp P fl c) = true → ∀ (Q : Exit → Fr → AH → Prop) (s : Fr) (H : AH) (w : World) (ρ : Loc) (Z : Nat → Prop) (a : Act), Inv B w ρ Z H s a →
    (wpA P (comp P fl c) none Q s H → c.wpIn (FnR rd) nn P (LQ B Q) a w) ∧ ∀ l rest, findLabel c l = some rest → wpA P (comp P fl c) (some l) Q s H → rest.wpIn (FnR rd) nn P (LQ B Q) a w := by
  induction c with
  | skip => exact fun _ Q s H w ρ Z a hi => ⟨fun h => wpIn_skip ⟨s, H, ρ, Z, hi, h⟩, fun l rest h => by simp [findLabel] at h⟩
  | region id ops d =>
    intro hd Q s H w ρ Z a hi
    refine ⟨fun h => ?_, fun l rest h => by simp [findLabel] at h⟩
    cases d with
    | false =>
      simp only [comp, dstsOk] at hd
      simp only [comp, wpA] at h
      exact wpIn_region_list (wpOps_list (K := Q .normal) (Q := LQ B Q) (fun a' w' ρ' Z' H' s' hi' k => ⟨s', H', ρ', Z', hi', k⟩) _ w ρ Z H s a hd hi h)
    | true =>
      simp only [comp] at hd h
      by_cases hok : drawOk ops (compOps P fl ops ops.toList) (min (lateFrom ops ops.size) ops.size) = true
      · rw [if_pos hok] at hd h
        simp only [dstsOk, Bool.and_eq_true] at hd
        simp only [wpA] at h
        obtain ⟨H0, D, hs1, hs2, hs3, h⟩ := h
        refine wp_dreg (K := Q .normal) hm (Nat.min_le_right _ _) hok ?_ (fun a' w' ρ' Z' H' s' hi' k => ⟨s', H', ρ', Z', hi', k⟩) hi hs1 hs2 hs3 h
        rw [← List.take_append_drop (min (lateFrom ops ops.size) ops.size) (compOps P fl ops ops.toList), List.all_append, hd.1, hd.2]
        rfl
      · rw [if_neg hok] at h
        simp [wpA] at h
  | seq x y ihx ihy =>
    intro hd Q s H w ρ Z a hi
    have ihx := ihx (hrd.imp (fun q => q) fun q => by simp only [comp, flatC, Bool.and_eq_true] at q; exact q.1)
    have ihy := ihy (hrd.imp (fun q => q) fun q => by simp only [comp, flatC, Bool.and_eq_true] at q; exact q.2)
    simp only [comp, dstsOk, Bool.and_eq_true] at hd
    refine ⟨fun h => ?_, fun l rest hl h => ?_⟩
    · simp only [comp, wpA] at h
      refine wpIn_seq (wpIn_mono ((ihx hd.1 _ s H w ρ Z a hi).1 h) fun e a' w' q => q.then fun s' H' ρ' Z' hi' k => (ihy hd.2 Q s' H' w' ρ' Z' a' hi').1 k)
    · simp only [comp, wpA] at h
      simp only [findLabel] at hl
      cases hx : findLabel x l with
      | some r =>
        rw [hx] at hl
        simp only [Option.some.injEq] at hl
        subst hl
        rw [if_pos ((hasL_spec x l).2 ⟨r, hx⟩)] at h
        exact wpIn_seq (wpIn_mono ((ihx hd.1 _ s H w ρ Z a hi).2 l r hx h) fun e a' w' q => q.then fun s' H' ρ' Z' hi' k => (ihy hd.2 Q s' H' w' ρ' Z' a' hi').1 k)
      | none =>
        rw [hx] at hl
        rw [if_neg (fun q => by obtain ⟨r, hr⟩ := (hasL_spec x l).1 q; rw [hx] at hr; cases hr)] at h
        exact (ihy hd.2 Q s H w ρ Z a hi).2 l rest hl h
  | cond x p q ihp ihq =>
    intro hd Q s H w ρ Z a hi
    have ihp := ihp (hrd.imp (fun q => q) fun q => by simp only [comp, flatC, Bool.and_eq_true] at q; exact q.1)
    have ihq := ihq (hrd.imp (fun q => q) fun q => by simp only [comp, flatC, Bool.and_eq_true] at q; exact q.2)
    simp only [comp, dstsOk, Bool.and_eq_true] at hd
    refine ⟨fun h => ?_, fun l rest hl => by simp [findLabel] at hl⟩
    simp only [comp, wpA] at h
    obtain ⟨b, h1, h2, h3⟩ := h
    have hr := ev_rl hi.fr h1
    have hb : a.eval x = .bool b := by
      generalize a.eval x = y at hr
      cases hr
      rfl
    exact wpIn_cond_split hb (fun e => (ihp hd.1 Q s H w ρ Z a hi).1 (h2 e)) (fun e => (ihq hd.2 Q s H w ρ Z a hi).1 (h3 e))
  | block id c ih =>
    intro hd Q s H w ρ Z a hi
    have ih := ih (hrd.imp (fun q => q) fun q => by simpa only [comp, flatC] using q)
    simp only [comp, dstsOk] at hd
    refine ⟨fun h => ?_, fun l rest hl => by simp [findLabel] at hl⟩
    simp only [comp, wpA] at h
    refine wpIn_block (wpIn_mono ((ih hd _ s H w ρ Z a hi).1 h) fun e a' w' q => ?_)
    obtain ⟨s', H', ρ', Z', hi', k⟩ := q
    cases e with
    | exit id' =>
      simp only [blockA] at k
      simp only [Exit.inBlock]
      split
      · rename_i e1; rw [if_pos e1] at k; exact ⟨s', H', ρ', Z', hi', k⟩
      · rename_i e1; rw [if_neg e1] at k; exact ⟨s', H', ρ', Z', hi', k⟩
    | _ => exact ⟨s', H', ρ', Z', hi', k⟩
  | loop c ih =>
    intro hd Q s H w ρ Z a hi
    have ih := ih (hrd.imp (fun q => q) fun q => by simpa only [comp, flatC] using q)
    simp only [comp, dstsOk] at hd
    refine ⟨fun h => ?_, fun l rest hl => by simp [findLabel] at hl⟩
    simp only [comp, wpA] at h
    obtain ⟨I, h0, hround⟩ := h
    obtain ⟨s0, H0, Z0, hi0, n0, h0⟩ := hi.forget h0
    refine wp_loop_n (fun n a w => ∃ s H ρ Z, Inv B w ρ Z H s a ∧ I n s H) ⟨n0, s0, H0, ρ, Z0, hi0, h0⟩ fun n a' w' ⟨s', H', ρ', Z', hi', k⟩ => ?_
    refine wpIn_mono ((ih hd _ s' H' w' ρ' Z' a' hi').1 (hround n s' H' k)) fun e a2 w2 q => q.then fun s2 H2 ρ2 Z2 hi2 ⟨m, hmn, hI⟩ => ⟨m, hmn, s2, H2, ρ2, Z2, hi2, hI⟩
  | rangeFunc g ps x y _ _ =>
    intro hd Q s H w ρ Z a hi
    refine ⟨fun h => ?_, fun l rest hl => by simp [findLabel] at hl⟩
    rcases hrd with hrd | hrd
    rotate_left
    · simp [comp, flatC] at hrd
    subst hrd
    simp only [comp, dstsOk] at hd
    simp only [comp, wpA] at h
    obtain ⟨f, first, caps, h1, h2⟩ := h
    have hx := ev_rl hi.fr h1
    generalize ex : a.eval g = xv at hx
    cases hx with
    | clo _ _ us _ vs hf hl hq hr =>
    obtain ⟨N0, hN0⟩ := hi.good.ids
    obtain ⟨lid, hle, htg⟩ := exists_tag N0 loopT
    have hlid : ρ lid = none := hN0 lid hle
    have hfresh : hget H lid = none := by
      cases hh : hget H lid with
      | none => rfl
      | some b =>
        obtain ⟨k, o, q, _⟩ := hi.good.blk lid b hh
        rw [hlid] at q
        cases q
    have hK := h2 x y fl B.N lid rfl rfl hd hfresh
    refine wpIn_rangeFunc (F := FnR none) fun fn _ => ?_
    obtain ⟨r0, hr0⟩ : ∃ r0 : Loop, r0 = { state := .ready, pending := none, fn, tmps := a.tmps, params := ps, assign := x, body := y, defers := w.heap.size } := ⟨_, rfl⟩
    obtain ⟨g1, e1, rl1⟩ := loop_new (L := ⟨ps.toList, x, y, B.N, s, .ready⟩) (r := r0) (D := .deferred (some [])) hi.good hlid htg (fun h' ρ' q1 q2 =>
      ⟨r0, q2, by rw [hr0]; exact ⟨rfl, rfl⟩, by rw [hr0], by rw [hr0], by rw [hr0], by rw [hr0]; exact hi.size, fun t v e => by rw [hr0]; exact q1 _ _ (hi.fr t v e)⟩)
    refine ⟨w.heap.size + 1, [{ target := .collected w.heap.size, args := #[] }], (w.alloc (.deferred (some []))).alloc (.loop r0), { target := .fn (.func f) vs.toArray, args := us.toArray ++ #[Value.func (.yield (w.heap.size + 1)) #[] #[]] }, (w.alloc (.deferred (some []))).alloc (.loop r0), f,
      (us ++ [Value.func (.yield (w.heap.size + 1)) #[] #[]] ++ vs).toArray, (w.alloc (.deferred (some []))).alloc (.loop r0), by rw [hr0]; exact run_enterLoop_outer _ _ _ _ _, ?_, fun _ _ => trivial, ?_, (fun q => by cases q), ?_⟩
    · simp only [resolve, rangeCall, Deferred.ofValue, ex]
      first | rfl | simp [Act.eval, Sem.run_pure]
    · simp only [invoke]
      rw [callFunc_run hK.1]
      congr 2
      simp
    have hargs : RlL ((w.alloc (.deferred (some []))).alloc (.loop r0)).heap (upd ρ lid (w.heap.size + 1, 0)) Z (first ++ [.yld lid] ++ caps) (us ++ [Value.func (.yield (w.heap.size + 1)) #[] #[]] ++ vs) :=
      (RlL.append ⟨hf, fun i v y q1 q2 => rl1 _ _ (hq i v y q1 q2)⟩ (RlL.cons (.yld lid _ 0 (by simp [upd])) .nil)).append ⟨hl, fun i v y q1 q2 => rl1 _ _ (hr i v y q1 q2)⟩
    refine callsIn_ff ((hK.2 _ _ _ _ g1 hargs).mono fun e w' ⟨xv, r, H', ρ', Z', q1, g', hv, ex', st, H1, hs1, hst, k⟩ => ?_)
    subst q1
    obtain ⟨b, o, hb1, r', hr1, hr2, _⟩ := g'.blk lid _ hst
    have hb0 : b = w.heap.size + 1 := by
      have := ex'.loc lid (w.heap.size + 1, 0) (by simp [upd])
      rw [hb1] at this
      simpa using congrArg (fun q => q.1) (Option.some.inj this)
    have sub1 : Sub H1 H' := fun j c q => by
      have := hs1 j c q
      rw [hget_hdel] at this
      split at this
      · cases this
      · exact this
    have nol : hget H1 lid = none := by
      cases hh : hget H1 lid with
      | none => rfl
      | some c =>
        have := hs1 _ _ hh
        rw [hget_hdel, if_pos rfl] at this
        cases this
    have hno : ¬ Own ρ' H1 b := by
      rintro ⟨j, bl, o2, q1, q2⟩
      have hne : j ≠ lid := fun e => by rw [e, nol] at q1; cases q1
      exact g'.inj j lid _ _ _ _ _ _ (sub1 _ _ q1) hst q2 hb1 hne rfl
    have hE : Ext B.w B.ρ B.Z B.O w' ρ' Z' (Own ρ' H1) := by
      have q := (hi.ext.trans e1).trans ex'
      exact { q with own := fun k h => q.own k (h.of_sub sub1) }
    have hBs : B.w.heap.size ≤ w.heap.size := hi.ext.size
    obtain ⟨g2, e2, rl2, oth2⟩ := dead_put (B := B) (ob' := .loop { r' with state := .exhausted }) (g'.forget sub1) hr1 (fun c t f q => by cases q) hno (fun t q => by
      unfold hty at q ⊢
      rw [hr1] at q
      rw [World.putObj_heap_same (Array.getElem?_eq_some_iff.1 hr1).1]; exact q) (by omega) hE
    have hD0 : ((w.alloc (.deferred (some []))).alloc (.loop r0)).heap[w.heap.size]? = some (.deferred (some [])) := by
      show ((w.heap.push _).push _)[w.heap.size]? = _
      rw [Array.getElem?_push, if_neg (by rw [Array.size_push]; omega), Array.getElem?_push, if_pos rfl]
    have hm1 : Marks B ((w.alloc (.deferred (some []))).alloc (.loop r0)) ({ target := .collected w.heap.size, args := #[] } :: a.defers) := by
      have q := hi.defers.ext hi.good e1
      refine ⟨fun d hd => ?_, List.pairwise_cons.2 ⟨fun d hd D q1 q2 => ?_, q.nd⟩⟩
      · rcases List.mem_cons.1 hd with rfl | hd
        · exact ⟨w.heap.size, rfl, hD0, hBs⟩
        · exact q.one d hd
      · obtain ⟨D', q3, q4, _⟩ := hi.defers.one d hd
        have : D' < w.heap.size := (Array.getElem?_eq_some_iff.1 q4).1
        rw [q2] at q3
        simp at q1 q3
        omega
    have hm2 := hm1.ext g1 ex'
    have inv : Inv B (w'.putObj b (.loop { r' with state := .exhausted })) ρ' Z' H1 s { a with defers := [{ target := .collected w.heap.size, args := #[] }] ++ a.defers } :=
      ⟨g2, fun t v q => rl2 _ _ ((rl1 _ _ (hi.fr t v q)).ext ex' g1.notZ g1.zlt), e2, hi.size, ⟨fun d hd => by
        obtain ⟨D, q1, q2, q3⟩ := hm2.one d hd
        refine ⟨D, q1, ?_, q3⟩
        rw [oth2 D (fun e => by rw [e, hr1] at q2; cases q2)]
        exact q2, hm2.nd⟩⟩
    cases st with
    | ready =>
      refine ⟨none, w'.putObj b (.loop { r' with state := .exhausted }), ?_, s, H1, ρ', Z', inv, k⟩
      have q := run_endLoop (P := P) hr1 (by rw [hr2.1]; simp)
      rw [← hb0]
      exact q.trans (congrArg (fun p => Result.ok p _) hr2.2)
    | busy => exact k.elim
    | done c =>
      refine ⟨some c, w'.putObj b (.loop { r' with state := .exhausted }), ?_, ?_⟩
      · have q := run_endLoop (P := P) hr1 (by rw [hr2.1]; simp)
        rw [← hb0]
        exact q.trans (congrArg (fun p => Result.ok p _) hr2.2)
      · cases c with
        | ret => exact wpIn_ret ⟨s, H1, ρ', Z', inv, k⟩
        | exit id => exact wpIn_exit ⟨s, H1, ρ', Z', inv, k⟩
        | _ => exact k.elim
  | exit id => exact fun _ Q s H w ρ Z a hi => ⟨fun h => wpIn_exit ⟨s, H, ρ, Z, hi, h⟩, fun l rest hl => by simp [findLabel] at hl⟩
  | scope c ih =>
    intro hd Q s H w ρ Z a hi
    rcases hrd with hrd | hrd
    rotate_left
    · simp [comp, flatC] at hrd
    subst hrd
    have ih := ih (.inl rfl)
    simp only [comp, dstsOk] at hd
    refine ⟨fun h => ?_, fun l rest hl => by simp [findLabel] at hl⟩
    simp only [comp, wpA] at h
    obtain ⟨l, I, h0, hround⟩ := h
    have jump : ∀ {n : Nat} {J : Fr → AH → Prop} {J' : Act → World → Prop} {e : Exit} {a : Act} {w : World}, LQ B (jumpA l (Weak J) Q) e a w → (∀ s H ρ Z, Inv B w ρ Z H s a → J s H → J' a w) → Exit.jump l J' (LQ B Q) e a w := by
      intro n J J' e a w q hk
      obtain ⟨s, H, ρ, Z, hi, q⟩ := q
      cases e with
      | goto l' =>
        obtain ⟨s', H', Z', hi', q'⟩ := hi.forget q.2
        exact ⟨q.1, hk s' H' ρ Z' hi' q'⟩
      | _ => exact ⟨s, H, ρ, Z, hi, q⟩
    by_cases hL : hasL (comp P fl c) l = true
    · obtain ⟨rest, hrest⟩ := (hasL_spec c l).1 hL
      refine wpIn_wide.2 (wp_scope_n l (fun n a w => ∃ s H ρ Z, Inv B w ρ Z H s a ∧ I n s H) hrest ((wpIn_wide (n := nn)).1 ?_) fun n a' w' ⟨s', H', ρ', Z', hi', k⟩ => (wpIn_wide (n := nn)).1 ?_)
      · exact wpIn_mono ((ih hd _ s H w ρ Z a hi).1 h0) fun e a2 w2 q => jump (n := 0) q fun s2 H2 ρ2 Z2 hi2 ⟨m, hI⟩ => ⟨m, s2, H2, ρ2, Z2, hi2, hI⟩
      · exact wpIn_mono ((ih hd _ s' H' w' ρ' Z' a' hi').2 l rest hrest (hround n s' H' k)) fun e a2 w2 q => jump (n := 0) q fun s2 H2 ρ2 Z2 hi2 ⟨m, hmn, hI⟩ => ⟨m, hmn, s2, H2, ρ2, Z2, hi2, hI⟩
    · have hno : ∀ n s H, ¬ I n s H := fun n s H q => wpA_noL (comp P fl c) l _ s H (by simpa using hL) (hround n s H q)
      refine wpIn_wide.2 (wp_scope_straight ((wpIn_wide (n := nn)).1 (wpIn_mono ((ih hd _ s H w ρ Z a hi).1 h0) fun e a2 w2 q => ?_)))
      obtain ⟨s2, H2, ρ2, Z2, hi2, q⟩ := q
      cases e with
      | goto l' => obtain ⟨_, _, _, _, _, m, hI⟩ := q; exact hno _ _ _ hI
      | _ => exact ⟨s2, H2, ρ2, Z2, hi2, q⟩
  | label l' =>
    refine fun _ Q s H w ρ Z a hi => ⟨fun h => wpIn_label ⟨s, H, ρ, Z, hi, h⟩, fun l rest hl h => ?_⟩
    simp only [findLabel] at hl
    split at hl
    · simp only [Option.some.injEq] at hl
      subst hl
      exact wpIn_skip ⟨s, H, ρ, Z, hi, h.2⟩
    · cases hl
  | goto l' => exact fun _ Q s H w ρ Z a hi => ⟨fun h => wpIn_goto ⟨s, H, ρ, Z, hi, h⟩, fun l rest hl => by simp [findLabel] at hl⟩
  | ret => exact fun _ Q s H w ρ Z a hi => ⟨fun h => wpIn_ret ⟨s, H, ρ, Z, hi, h⟩, fun l rest hl => by simp [findLabel] at hl⟩
  | refuse why => exact fun _ Q s H w ρ Z a hi => ⟨fun h => by simp [comp, wpA] at h, fun l rest hl => by simp [findLabel] at hl⟩
/-! ### Results -/
theorem results_run (hi : Inv B w ρ Z H s a) : ∀ (rs : List ResultVar) (vs : List AV), resL s H (compRes P rs) = some vs →
    ∃ xs : List Value, (rs.mapM fun r => (match r with
      | .tmp t => pure (a.tmps.getD t undef)
      | .cell b t => do loadVar t (← asAddr (a.tmps.getD b undef)) : Sem Value)).run P w = .ok xs w ∧ RlL w.heap ρ Z vs xs
  | [], vs, h => by
    simp only [compRes, resL, Option.some.injEq] at h
    subst h
    exact ⟨[], rfl, .nil⟩
  | .tmp t :: rs, vs, h => by
    simp only [compRes, resL, Option.bind_eq_some_iff, Option.some.injEq] at h
    obtain ⟨v, h1, us, h2, rfl⟩ := h
    obtain ⟨xs, h3, h4⟩ := results_run hi rs us h2
    refine ⟨a.tmps.getD t undef :: xs, ?_, .cons (hi.fr t v h1) h4⟩
    rw [List.mapM_cons]
    simp only [Sem.run_bind, Sem.run_pure, Result.andThen_ok]
    rw [h3]
    rfl
  | .cell b t :: rs, vs, h => by
    simp only [compRes, resL, Option.bind_eq_some_iff, Option.some.injEq] at h
    obtain ⟨v, h1, us, h2, rfl⟩ := h
    obtain ⟨xs, h3, h4⟩ := results_run hi rs us h2
    cases hn : aggSize P t with
    | none => simp [hn, resOne] at h1
    | some n =>
      simp only [hn, resOne, Option.bind_eq_some_iff] at h1
      obtain ⟨p, h5, cs, h6, h7⟩ := h1
      have hr := hi.fr b p h5
      obtain ⟨k, o, hx, hc⟩ := readA_rl hi.good hr h6
      obtain ⟨y, hy, hry⟩ := run_loadVar hn h7 hc
      refine ⟨y :: xs, ?_, .cons hry h4⟩
      have hadr : asAddr (a.tmps.getD b undef) = pure ⟨k, o, none⟩ := by rw [hx]; rfl
      rw [List.mapM_cons]
      simp only [hadr, Sem.run_bind, Sem.run_pure, Result.andThen_ok, hy, h3]
theorem resA_run {fn : Func} (hi : Inv B w ρ Z H s a) {r : AV} (h : resA s H (compRes P fn.results.toList) = some r) : ∃ x, (results fn a.tmps).run P w = .ok x w ∧ Rl w.heap ρ Z r x := by
  simp only [resA, Option.bind_eq_some_iff] at h
  obtain ⟨vs, h1, h2⟩ := h
  obtain ⟨xs, h3, h4⟩ := results_run hi _ _ h1
  have hm : (fn.results.mapM fun r => (match r with
      | .tmp t => pure (a.tmps.getD t undef)
      | .cell b t => do loadVar t (← asAddr (a.tmps.getD b undef)) : Sem Value)).run P w = .ok xs.toArray w := by
    rw [Array.mapM_eq_mapM_toList, Sem.run_map, h3]
    rfl
  have he : (results fn a.tmps).run P w = (Result.ok xs.toArray w).andThen (fun vs w' => .ok (if h : vs.size = 1 then vs[0] else .tuple vs) w') := by
    unfold results
    rw [Sem.run_bind]
    exact congrArg (fun r => Result.andThen r fun (vs : Array Value) w' => Result.ok (if h : vs.size = 1 then vs[0] else Value.tuple vs) w') hm
  refine ⟨_, he, ?_⟩
  split at h2
  · rename_i v
    simp only [Option.some.injEq] at h2
    subst h2
    have hl := h4.1
    obtain ⟨x, rfl⟩ : ∃ x, xs = [x] := by
      match xs, hl with
      | [x], _ => exact ⟨x, rfl⟩
    simpa using h4.2 0 v x rfl rfl
  · rename_i hne
    simp only [Option.some.injEq] at h2
    subst h2
    have hl := h4.1
    have hs : ¬ (xs.toArray.size = 1) := by
      intro q
      have : vs.length = 1 := by simpa [← hl] using q
      match vs, this with
      | [v], _ => exact hne v rfl
    rw [dif_neg hs]
    exact .tup vs xs hl h4.2
theorem ACalls.of_code {f : Nat} {fn : Func} {c : Code} {args : List AV} {K : AV → AH → Prop} (hm : P.follows .mixedOrders = true) (hf : P.funcs[f]? = some fn) (hb : fn.body = some c) (hn : (fn.name == "runtime.NumGoroutine") = false)
    (hl : args.length ≤ fn.ntmps) (hd : dstsOk fn.ntmps (comp P fl c) = true) (h : wpA P (comp P fl c) none (endA (compRes P fn.results.toList) K) (initFr args) H) : ACalls P f args H K := by
  refine ⟨by unfold callable; rw [hf]; simp [hb, hn], fun w ρ Z xs g hr => ?_⟩
  refine callsIn_wide.1 (callsIn_of_wp_marks (n := 0) hf hb trivial ?_)
  let B : Beg := ⟨w, ρ, Z, Own ρ H, fn.ntmps⟩
  have hxl := hr.1
  have hi : Inv B w ρ Z H (initFr args) { tmps := xs.toArray ++ Array.replicate (fn.ntmps - xs.toArray.size) undef, defers := [] } := by
    refine ⟨g, fun t v hv => ?_, Ext.refl _ _ _ _, by simp [B]; omega, Marks.nil _ _⟩
    have hv' : args[t]? = some v := hv
    have hlt := (List.getElem?_eq_some_iff.1 hv').1
    have hx : xs[t]? = some (xs[t]'(by omega)) := List.getElem?_eq_getElem (by omega)
    have := hr.2 t v _ hv' hx
    have e : (xs.toArray ++ Array.replicate (fn.ntmps - xs.toArray.size) undef).getD t undef = xs[t]'(by omega) := by
      rw [Array.getD_eq_getD_getElem?, Array.getElem?_append_left (by simp; omega)]
      simp [show t < xs.length by omega]
    simp only
    rw [e]
    exact this
  refine wpIn_mono ((wpA_sound (rd := none) (nn := 0) hm c (.inl rfl) hd _ _ H w ρ Z _ hi).1 h) fun e a' w' ⟨s', H', ρ', Z', hi', q⟩ => ?_
  have fin : OA (resA s' H' (compRes P fn.results.toList)) (fun r => K r H') → LeavesInM Fence.wide 0 P fn a'.tmps (fun e w' => ∃ x r H' ρ' Z', e = .returned x ∧ Good w'.heap ρ' Z' H' ∧ Rl w'.heap ρ' Z' r x ∧ Ext w ρ Z (Own ρ H) w' ρ' Z' (Own ρ' H') ∧ K r H') a'.defers .returning w' := by
    intro q
    rw [OA_iff] at q
    obtain ⟨r, h1, h2⟩ := q
    refine marks_out (B := B) a'.defers w' hi'.good hi'.ext hi'.defers fun w2 g2 e2 rl2 => ?_
    have hi2 : Inv B w2 ρ' Z' H' s' { a' with defers := [] } := ⟨g2, fun t v q => rl2 _ _ (hi'.fr t v q), e2, hi'.size, Marks.nil _ _⟩
    obtain ⟨x, h3, h4⟩ := resA_run hi2 h1
    exact ⟨x, h3, x, r, H', ρ', Z', rfl, g2, h4, e2, h2⟩
  cases e with
  | normal => exact fin q
  | ret => exact fin q
  | _ => exact q.elim
/-! ### Rounds -/
def setPs : Fr → List Nat → List AV → Fr
  | s, p :: ps, v :: vs => setPs (s.set p v) ps vs
  | s, _, _ => s
def roundA (lid : Nat) (L : LoopB) (K : AV → AH → Prop) : Exit → Fr → AH → Prop
  | .normal, _, H => hget H lid = some (.loop { L with st := .busy }) ∧ K (.bool true) (hset H lid (.loop { L with st := .ready }))
  | .ret, _, H => hget H lid = some (.loop { L with st := .busy }) ∧ K (.bool false) (hset H lid (.loop { L with st := .done .ret }))
  | .exit id, _, H => hget H lid = some (.loop { L with st := .busy }) ∧ K (.bool false) (hset H lid (.loop { L with st := .done (.exit id) }))
  | _, _, _ => False
theorem setPs_fr {h : Array Obj} : ∀ (ps : List Nat) (args : List AV) (xs : List Value) (s : Fr) (tmps : Array Value), RlL h ρ Z args xs → args.length = ps.length → (∀ p ∈ ps, p < tmps.size) → (∀ t v, s t = some v → Rl h ρ Z v (tmps.getD t undef)) →
    ((ps.zip xs).foldl (fun (t : Array Value) (q : Nat × Value) => t.setIfInBounds q.1 q.2) tmps).size = tmps.size ∧
    ∀ t v, setPs s ps args t = some v → Rl h ρ Z v (((ps.zip xs).foldl (fun (t : Array Value) (q : Nat × Value) => t.setIfInBounds q.1 q.2) tmps).getD t undef)
  | [], args, xs, s, tmps, hr, hl, hp, hf => by
    refine ⟨rfl, fun t v q => ?_⟩
    have e : args = [] := List.eq_nil_of_length_eq_zero hl
    subst e
    exact hf t v q
  | p :: ps, args, xs, s, tmps, hr, hl, hp, hf => by
    match args, xs, hl, hr with
    | v :: args, [], hl, hr => exact absurd hr.1 (by simp)
    | v :: args, x :: xs, hl, hr =>
      have hpl := hp p List.mem_cons_self
      have hv : Rl h ρ Z v x := hr.2 0 v x rfl rfl
      have hr' : RlL h ρ Z args xs := ⟨by simpa using hr.1, fun i a b q1 q2 => hr.2 (i + 1) a b (by simpa using q1) (by simpa using q2)⟩
      have ih := setPs_fr ps args xs (s.set p v) (tmps.setIfInBounds p x) hr' (by simpa using hl) (fun q hq => by rw [Array.size_setIfInBounds]; exact hp q (List.mem_cons_of_mem _ hq)) (fun t u q => by
        rw [Array.getD_eq_getD_getElem?, Array.getElem?_setIfInBounds]
        simp only [Fr.set] at q
        split at q
        · rename_i e
          cases q
          rw [if_pos e.symm, if_pos hpl]
          exact hv
        · rename_i e
          rw [if_neg (fun e2 => e e2.symm), ← Array.getD_eq_getD_getElem?]
          exact hf t u q)
      rw [Array.size_setIfInBounds] at ih
      exact ih
theorem AYields.of_body {ps : List Nat} {a b : Code} {fl : List Nat} {N lid : Nat} {s : Fr} {ca cb : C} {args : List AV} {H : AH} {K : AV → AH → Prop} (hm : P.follows .mixedOrders = true) (ha : comp P fl a = ca) (hb : comp P fl b = cb)
    (hd : (dstsOk N ca && dstsOk N cb && ps.all fun p => decide (p < N)) = true) (hfa : flatC ca = true) (hfb : flatC cb = true) (hl : args.length = ps.length) (hid : hget H lid = some (.loop ⟨ps, a, b, N, s, .ready⟩))
    (h : wpA P ca none (thenA (fun s' H' => hget H' lid = some (.loop ⟨ps, a, b, N, s, .ready⟩) ∧ wpA P cb none (roundA lid ⟨ps, a, b, N, s, .ready⟩ K) s' (hset H' lid (.loop ⟨ps, a, b, N, s, .busy⟩))) (fun _ _ _ => False)) (setPs s ps args) H) : AYields P lid args H K := by
  intro m w ρ Z xs b0 o g hr hρ
  simp only [Bool.and_eq_true, List.all_eq_true, decide_eq_true_eq] at hd
  obtain ⟨⟨hda, hdb⟩, hdp⟩ := hd
  obtain ⟨b1, o1, hb1, r, hr1, ⟨hst, hpd⟩, hps, hra, hrb, hsz, hfr⟩ := g.blk lid _ hid
  rw [hρ] at hb1
  obtain ⟨rfl, rfl⟩ : b0 = b1 ∧ o = o1 := by simpa using hb1
  dsimp only at hps hra hrb hsz hfr
  have hxl : xs.length = ps.length := by rw [← hr.1, hl]
  have hy := run_yield (P := P) (args := xs.toArray) hr1 (by rw [hps]; simpa using hxl)
  refine ⟨r.fn, _, r.assign, r.body, hy, ?_⟩
  rw [hra, hrb]
  obtain ⟨z1, z2⟩ := setPs_fr ps args xs s r.tmps hr hl (fun p hp => by rw [hsz]; exact hdp p hp) hfr
  have hz : (r.params.zip xs.toArray).foldl (fun (t : Array Value) (q : Nat × Value) => t.setIfInBounds q.1 q.2) r.tmps = (ps.zip xs).foldl (fun (t : Array Value) (q : Nat × Value) => t.setIfInBounds q.1 q.2) r.tmps := by
    rw [hps]; simp
  have hz' : (r.params.zip xs.toArray).foldl (fun tmps (t, a) => tmps.setIfInBounds t a) r.tmps = (ps.zip xs).foldl (fun (t : Array Value) (q : Nat × Value) => t.setIfInBounds q.1 q.2) r.tmps := hz
  rw [hz']
  let B : Beg := ⟨w, ρ, Z, Own ρ H, N⟩
  have hi : Inv B w ρ Z H (setPs s ps args) { tmps := (ps.zip xs).foldl (fun (t : Array Value) (q : Nat × Value) => t.setIfInBounds q.1 q.2) r.tmps, defers := [] } := ⟨g, z2, Ext.refl _ _ _ _, by rw [z1]; exact hsz, Marks.nil _ _⟩
  refine roundIn_of_wpIn (F := Fence.wide) trivial ?_
  rw [← ha] at h
  have qa := (wpA_sound (rd := some b0) (nn := m) (fl := fl) (B := B) hm a (.inr (by rw [ha]; exact hfa)) (by rw [ha]; exact hda) _ _ H w ρ Z _ hi).1 h
  refine wpIn_mono qa fun e a1 w1 ⟨s1, H1, ρ1, Z1, hi1, k⟩ => ?_
  cases e with
  | normal =>
    obtain ⟨s', H', Z', hi', q1, q2⟩ := hi1.forget k
    obtain ⟨b2, o2, hb2, r2, hr2, ⟨hst2, hpd2⟩, hps2, hra2, hrb2, hsz2, hfr2⟩ := hi'.good.blk lid _ q1
    have hb3 := hi'.ext.loc lid _ hρ
    rw [hb2] at hb3
    obtain ⟨rfl, rfl⟩ : b2 = b0 ∧ o2 = o := by simpa using hb3
    refine ⟨_, run_beginRound hr2 hst2, ?_⟩
    obtain ⟨g3, e3, rl3⟩ := loop_put (L' := ⟨ps, a, b, N, s, .busy⟩) (r' := { r2 with state := .busy }) hi'.good q1 hb2 hr2 (fun h' f hh => ⟨_, hh, rfl, hps2, hra2, hrb2, hsz2, fun t v q => f _ _ (hfr2 t v q)⟩)
    have hi3 : Inv B _ ρ1 Z' (hset H' lid (.loop ⟨ps, a, b, N, s, .busy⟩)) s' a1 := ⟨g3, fun t v q => rl3 _ _ (hi'.fr t v q), hi'.ext.trans e3, hi'.size, hi'.defers.ext hi'.good e3⟩
    rw [← hb] at q2
    have qb := (wpA_sound (rd := some b2) (nn := m) (fl := fl) (B := B) hm b (.inr (by rw [hb]; exact hfb)) (by rw [hb]; exact hdb) _ _ _ _ ρ1 Z' _ hi3).1 q2
    refine wpIn_mono qb fun e a4 w4 ⟨s4, H4, ρ4, Z4, hi4, k4⟩ => ?_
    have fin : ∀ (jump : Option Code) (st : LSt), (match st with | .ready => jump = none | .busy => False | .done c => jump = some c) → hget H4 lid = some (.loop ⟨ps, a, b, N, s, .busy⟩) → K (.bool jump.isNone) (hset H4 lid (.loop ⟨ps, a, b, N, s, st⟩)) →
        ∃ v w', (Instr.endRound b2 jump).run P w4 = .ok v w' ∧ ∃ x r H' ρ' Z', Ending.returned v = .returned x ∧ Good w'.heap ρ' Z' H' ∧ Rl w'.heap ρ' Z' r x ∧ Ext w ρ Z (Own ρ H) w' ρ' Z' (Own ρ' H') ∧ K r H' := by
      intro jump st hj h1 h2
      obtain ⟨b5, o5, hb5, r5, hr5, hst5, hps5, hra5, hrb5, hsz5, hfr5⟩ := hi4.good.blk lid _ h1
      have hb6 := hi4.ext.loc lid _ hρ
      rw [hb5] at hb6
      obtain ⟨rfl, rfl⟩ : b5 = b2 ∧ o5 = o2 := by simpa using hb6
      obtain ⟨g6, e6, _⟩ := loop_put (L' := ⟨ps, a, b, N, s, st⟩) (r' := { r5 with state := if jump.isNone then .ready else .done, pending := jump }) hi4.good h1 hb5 hr5 (fun h' f hh => ⟨_, hh, by
        cases st with
        | ready => simp only at hj; subst hj; exact ⟨rfl, rfl⟩
        | busy => exact hj.elim
        | done c => simp only at hj; subst hj; exact ⟨rfl, rfl⟩, hps5, hra5, hrb5, hsz5, fun t v q => f _ _ (hfr5 t v q)⟩)
      exact ⟨_, _, run_endRound jump hr5, _, .bool jump.isNone, _, ρ4, Z4, rfl, g6, .bool _, hi4.ext.trans e6, h2⟩
    cases e with
    | normal => exact fin none .ready rfl k4.1 k4.2
    | ret => exact fin (some .ret) (.done .ret) rfl k4.1 k4.2
    | exit id => exact fin (some (.exit id)) (.done (.exit id)) rfl k4.1 k4.2
    | _ => exact k4.elim
  | _ => exact k.elim
end
abbrev OfE (P : Program) (f np : Nat) (c : C) (rs : List CRes) : Prop := ∀ {args : List AV} {H : AH} {K : AV → AH → Prop}, args.length = np → wpA P c none (endA rs K) (initFr args) H → ACalls P f args H K
abbrev OfL (P : Program) (f nt : Nat) (c : C) (rs : List CRes) : Prop := ∀ {args : List AV} {H : AH} {K : AV → AH → Prop}, args.length ≤ nt → wpA P c none (endA rs K) (initFr args) H → ACalls P f args H K
theorem fnL {P : Program} {f nt : Nat} {fn : Func} {c0 : Code} {fl : List Nat} {c : C} {rs : List CRes} (hm : P.follows .mixedOrders = true) (hf : P.funcs[f]? = some fn) (hc : comp P fl c0 = c) (hb : fn.body = some c0) (hn : (fn.name == "runtime.NumGoroutine") = false)
    (hk : fn.ntmps = nt) (hd : dstsOk nt c = true) (hr : compRes P fn.results.toList = rs) : OfL P f nt c rs := by
  subst hc; subst hk; subst hr
  intro args H K hl h
  exact ACalls.of_code (fl := fl) hm hf hb hn hl hd h
theorem fnE {P : Program} {f np nt : Nat} {fn : Func} {c0 : Code} {fl : List Nat} {c : C} {rs : List CRes} (hm : P.follows .mixedOrders = true) (hf : P.funcs[f]? = some fn) (hc : comp P fl c0 = c) (hb : fn.body = some c0) (hn : (fn.name == "runtime.NumGoroutine") = false)
    (hk : fn.ntmps = nt) (hd : dstsOk nt c = true) (hr : compRes P fn.results.toList = rs) (hp : Nat.ble np nt = true) : OfE P f np c rs := fun hl h => fnL hm hf hc hb hn hk hd hr (by rw [hl]; exact Nat.le_of_ble_eq_true hp) h
end Go.Proofs.YtjaigpidmngaaaaGreat

namespace Go.Proofs.YtjaigpidmngaaaaGreat
inductive Sh where
  | int (k : IntKind)
  | bool
  | str
  | u
  | p (a b : Sh)
  | slice (sz bytes : Nat) (e : Sh)
  | ptr (e : Sh)
  | no
def Sh.rep : Nat → Sh → Sh
  | 0, _ => .u
  | n + 1, a => .p a (Sh.rep n a)
def Sh.Ok : Sh → List AV → Prop
  | .int k, vs => ∃ n, vs = [.int k n] ∧ (Lit.int k n).wf = true
  | .bool, vs => ∃ b, vs = [.bool b]
  | .str, vs => ∃ l : List UInt8, vs = [.str l] ∧ l.length ≤ 140737488351232
  | .u, vs => vs = []
  | .p a b, vs => ∃ x y, vs = x ++ y ∧ a.Ok x ∧ b.Ok y
  | .slice sz bytes e, vs => vs = [.nilS] ∨ ∃ l, vs = [.rows sz l] ∧ l.length * bytes ≤ 140737488351232 ∧ ∀ r ∈ l, e.Ok r
  | .ptr e, vs => vs = [.nilP] ∨ ∃ r, vs = [.fp r] ∧ e.Ok r
  | .no, _ => False
def fieldsSh (P : Program) (sh : TypeId → Option Sh) (tot : Nat) : Nat → List Field → Option Sh
  | o, [] => if o = tot then some .u else none
  | o, f :: r => if f.offset = o then (sh f.type).bind fun a => (fieldsSh P sh tot (o + P.cellsOf f.type) r).map (.p a) else none
def shO (rc : Bool) (P : Program) : Nat → TypeId → Option Sh
  | 0, _ => if rc = true then some .no else none
  | n + 1, t => match P.underlying t with
    | some .bool => some .bool
    | some (.int k) => some (.int k)
    | some .string => some .str
    | some (.struct fs) => fieldsSh P (shO rc P n) (P.cellsOf t) 0 fs.toList
    | some (.array m e) => if P.cellsOf t = m * P.cellsOf e then (shO rc P n e).map (Sh.rep m) else none
    | some (.slice e) => if 0 < P.cellsOf e then (shO rc P n e).map (.slice (P.cellsOf e) (P.bytesOf e)) else none
    | some (.pointer e) => if 0 < P.cellsOf e then (shO rc P n e).map .ptr else none
    | _ => none
abbrev shOf (P : Program) (n : Nat) (t : TypeId) : Option Sh := shO false P n t
section
variable {h : Array Obj}
def PartR (h : Array Obj) (vs : List AV) (cs : List Value) : Prop :=
  vs.length = cs.length ∧ ∀ (i : Nat) v c, vs[i]? = some v → cs[i]? = some c → v.isCell = true ∧ Rl h (fun _ => none) (fun b => b < h.size) v c
theorem PartR.nil : PartR h [] [] := ⟨rfl, by simp⟩
theorem PartR.one {v : AV} {c : Value} (hv : v.isCell = true) (hr : Rl h (fun _ => none) (fun b => b < h.size) v c) : PartR h [v] [c] :=
  ⟨rfl, fun i v' c' h1 h2 => by cases i <;> simp at h1 h2; subst h1; subst h2; exact ⟨hv, hr⟩⟩
theorem PartR.append {a b : List AV} {x y : List Value} (h1 : PartR h a x) (h2 : PartR h b y) : PartR h (a ++ b) (x ++ y) := by
  refine ⟨by simp [h1.1, h2.1], fun i v c q1 q2 => ?_⟩
  rw [List.getElem?_append] at q1 q2
  rw [h1.1] at q1
  split at q1 <;> rename_i hlt
  · rw [if_pos hlt] at q2; exact h1.2 i v c q1 q2
  · rw [if_neg hlt] at q2; exact h2.2 _ v c q1 q2
end
theorem exists_list {α : Type} {Q : Nat → α → Prop} : ∀ (n : Nat), (∀ i, i < n → ∃ r, Q i r) → ∃ l : List α, l.length = n ∧ ∀ (i : Nat) r, l[i]? = some r → Q i r
  | 0, _ => ⟨[], rfl, by simp⟩
  | n + 1, hq => by
    obtain ⟨l, h1, h2⟩ := exists_list n (fun i hi => hq i (by omega))
    obtain ⟨r, hr⟩ := hq n (by omega)
    refine ⟨l ++ [r], by simp [h1], fun i q hi => ?_⟩
    rw [List.getElem?_append] at hi
    split at hi
    · exact h2 i q hi
    · rename_i hlt
      have hl := (List.getElem?_eq_some_iff.1 hi).1
      simp at hl
      have : i = n := by omega
      subst this
      rw [h1] at hi
      simp at hi
      rw [← hi]; exact hr
section
variable {H : Type} {enc : TypeId × Value → H} {P : Program} {w : World} {sp : Nat → Bool}
abbrev Rd (P : Program) (w : World) (enc : TypeId × Value → H) (sp : Nat → Bool) (m : Nat) (s : TypeId → Option Sh) : Prop :=
  ∀ t cs x sh, s t = some sh → DataW.trod enc P w 0 sp true m t cs = some x → (∀ n ∈ x.1.weights P t, n ≤ reachBytes) → ∃ vs, sh.Ok vs ∧ PartR w.heap vs cs
theorem fields_read {m : Nat} {s : TypeId → Option Sh} (ih : Rd P w enc sp m s) {cs : List Value} {tot : Nat} (hcs : cs.length = tot) : ∀ (fs : List Field) (o : Nat) (xs : List (DataW H × List MemPlace)) (sh : Sh), fieldsSh P s tot o fs = some sh → xs.length = fs.length →
    (∀ (i : Nat) f, fs[i]? = some f → DataW.trod enc P w 0 sp true m f.type ((cs.drop f.offset).take (P.cellsOf f.type)) = xs[i]?) →
    (∀ n ∈ DataW.weightsEach P (fs.map (·.type)) (xs.map (·.1)), n ≤ reachBytes) → ∃ vs, sh.Ok vs ∧ PartR w.heap vs (cs.drop o)
  | [], o, xs, sh, hs, hl, _, _ => by
    simp only [fieldsSh] at hs
    split at hs <;> simp only [Option.some.injEq, reduceCtorEq] at hs
    rename_i e
    subst hs
    refine ⟨[], rfl, ?_⟩
    rw [List.drop_eq_nil_of_le (by omega)]
    exact .nil
  | f :: fs, o, xs, sh, hs, hl, hf, hw => by
    simp only [fieldsSh] at hs
    split at hs
    rotate_left
    · cases hs
    rename_i e
    simp only [Option.bind_eq_some_iff, Option.map_eq_some_iff] at hs
    obtain ⟨a, ha, b, hb, rfl⟩ := hs
    cases xs with
    | nil => simp at hl
    | cons x xs =>
      simp only [List.map_cons, DataW.weightsEach, List.mem_append] at hw
      have h0 := hf 0 f rfl
      rw [e] at h0
      simp only [List.getElem?_cons_zero] at h0
      obtain ⟨va, ok1, r1⟩ := ih _ _ _ _ ha h0 (fun n hn => hw n (.inl hn))
      obtain ⟨vb, ok2, r2⟩ := fields_read ih hcs fs _ xs b hb (by simpa using hl) (fun i g hg => by have := hf (i + 1) g (by simpa using hg); simpa using this) (fun n hn => hw n (.inr hn))
      refine ⟨va ++ vb, ⟨va, vb, rfl, ok1, ok2⟩, ?_⟩
      have := r1.append r2
      rw [show o + P.cellsOf f.type = o + P.cellsOf f.type from rfl, ← List.drop_drop, List.take_append_drop] at this
      exact this
theorem arr_read {m : Nat} {s : TypeId → Option Sh} (ih : Rd P w enc sp m s) {cs : List Value} {e : TypeId} {a : Sh} (ha : s e = some a) : ∀ (n j : Nat) (xs : List (DataW H × List MemPlace)), cs.length = (j + n) * P.cellsOf e → xs.length = n →
    (∀ i, i < n → DataW.trod enc P w 0 sp true m e ((cs.drop ((j + i) * P.cellsOf e)).take (P.cellsOf e)) = xs[i]?) →
    (∀ q ∈ DataW.weightsAll P e (xs.map (·.1)), q ≤ reachBytes) → ∃ vs, (Sh.rep n a).Ok vs ∧ PartR w.heap vs (cs.drop (j * P.cellsOf e))
  | 0, j, xs, hcs, hl, _, _ => by
    refine ⟨[], rfl, ?_⟩
    rw [List.drop_eq_nil_of_le (by rw [hcs]; simp)]
    exact .nil
  | n + 1, j, xs, hcs, hl, hf, hw => by
    cases xs with
    | nil => simp at hl
    | cons x xs =>
      simp only [List.map_cons, DataW.weightsAll, List.mem_append] at hw
      have h0 := hf 0 (by omega)
      simp only [Nat.add_zero, List.getElem?_cons_zero] at h0
      obtain ⟨va, ok1, r1⟩ := ih _ _ _ _ ha h0 (fun n hn => hw n (.inl hn))
      obtain ⟨vb, ok2, r2⟩ := arr_read ih ha n (j + 1) xs (by rw [hcs]; congr 1; omega) (by simpa using hl)
        (fun i hi => by have := hf (i + 1) (by omega); rw [show j + 1 + i = j + (i + 1) from by omega]; simpa using this) (fun n hn => hw n (.inr hn))
      refine ⟨va ++ vb, ⟨va, vb, rfl, ok1, ok2⟩, ?_⟩
      have := r1.append r2
      rw [Nat.add_mul, Nat.one_mul, ← List.drop_drop, List.take_append_drop] at this
      exact this
theorem weights_all_mem {e : TypeId} : ∀ {l : List (DataW H)} {d : DataW H}, d ∈ l → ∀ n ∈ d.weights P e, n ∈ DataW.weightsAll P e l
  | [], _, h, _, _ => by cases h
  | x :: l, d, h, n, hn => by
    simp only [DataW.weightsAll, List.mem_append]
    rcases List.mem_cons.1 h with h | h
    · subst h; exact .inl hn
    · exact .inr (weights_all_mem h n hn)
theorem readR {rc : Bool} : ∀ (m n : Nat), (rc = true → m ≤ n) → Rd P w enc sp m (shO rc P n)
  | 0, _, _, t, cs, x, sh, _, h, _ => by simp [DataW.trod] at h
  | m + 1, 0, hmn, t, cs, x, sh, hs, _, _ => by
    simp only [shO] at hs
    split at hs
    · rename_i hr; have := hmn hr; omega
    · cases hs
  | m + 1, n + 1, hmn, t, cs, x, sh, hs, h, hw => by
    have ih := readR m n fun q => by have := hmn q; omega
    simp only [shO] at hs
    split at hs <;> rename_i hu
    · simp only [Option.some.injEq] at hs; subst hs
      obtain ⟨b, rfl⟩ : ∃ b, cs = [.bool b] := by
        unfold DataW.trod at h; rw [hu] at h
        split at h <;> simp_all
      exact ⟨_, ⟨_, rfl⟩, .one rfl (.bool _)⟩
    · rename_i k
      simp only [Option.some.injEq] at hs; subst hs
      obtain ⟨n, rfl, hwf⟩ : ∃ n, cs = [.int k n] ∧ (Lit.int k n).wf = true := by
        unfold DataW.trod at h; rw [hu] at h
        split at h <;> simp_all
      exact ⟨_, ⟨_, rfl, hwf⟩, .one rfl (.int _ _)⟩
    · simp only [Option.some.injEq] at hs; subst hs
      obtain ⟨b, rfl, rfl⟩ : ∃ b, cs = [.string b] ∧ x = (.lit (.string b.data.toList), []) := by
        unfold DataW.trod at h; rw [hu] at h
        split at h <;> simp_all
      have := hw b.data.toList.length (by simp [DataW.weights])
      exact ⟨_, ⟨b.data.toList, rfl, this⟩, .one rfl (.str _ _ rfl)⟩
    · rename_i fs
      obtain ⟨xs, m', e, rfl, hl, hlen, hf⟩ := DataW.trod_struct hu h
      simp only [Nat.add_right_cancel_iff] at e
      subst e
      have := fields_read ih hl fs.toList 0 xs sh hs (by simpa using hlen) (fun i f hi => hf i f (by simpa using hi)) (fun q hq => hw q (by simpa [DataW.weights, hu] using hq))
      simpa using this
    · rename_i k e
      split at hs
      rotate_left
      · cases hs
      rename_i hc
      simp only [Option.map_eq_some_iff] at hs
      obtain ⟨a, ha, rfl⟩ := hs
      obtain ⟨xs, m', e1, rfl, hl, hlen, hf⟩ := DataW.trod_array hu h
      simp only [Nat.add_right_cancel_iff] at e1
      subst e1
      have := arr_read ih ha k 0 xs (by rw [hl, hc]; simp) hlen (fun i hi => by simpa using hf i hi) (fun q hq => hw q (by simpa [DataW.weights, hu] using hq))
      simpa using this
    · rename_i e
      split at hs
      rotate_left
      · cases hs
      rename_i hpos
      simp only [Option.map_eq_some_iff] at hs
      obtain ⟨a, ha, rfl⟩ := hs
      rcases DataW.trod_slice hu h with ⟨rfl, rfl⟩ | ⟨ad, len, cap, elems, rest, m', e1, rfl, rfl, _, hl, _, hlen, hel, _⟩
      · exact ⟨_, .inl rfl, .one rfl .nilS⟩
      · simp only [Nat.add_right_cancel_iff] at e1
        subst e1
        simp only [DataW.weights, hu, List.mem_cons, List.mem_append] at hw
        have hbytes := hw _ (.inl rfl)
        obtain ⟨l, hll, hq⟩ := exists_list (Q := fun i r => a.Ok r ∧ ∃ ci, w.cells? 0 (ad.add (i * P.cellsOf e)) (P.cellsOf e) = some ci ∧ PartR w.heap r ci) len fun i hi => by
          have := hel i hi
          rw [List.getElem?_eq_getElem (by omega)] at this
          simp only [Option.bind_eq_some_iff] at this
          obtain ⟨ci, hc, hd⟩ := this
          obtain ⟨vs, ok, r⟩ := ih _ _ _ _ ha hd (fun q hqq => hw q (.inr (.inl (weights_all_mem (List.mem_map_of_mem (List.getElem_mem (by omega))) q hqq))))
          exact ⟨vs, ok, ci, hc, r⟩
        refine ⟨[.rows (P.cellsOf e) l], .inr ⟨l, rfl, ?_, ?_⟩, .one rfl ?_⟩
        · simp only [List.length_map] at hbytes
          rw [hll, ← hlen]
          exact Nat.le_trans (Nat.mul_le_mul_right _ (Nat.le_add_right _ _)) hbytes
        · intro r hr
          obtain ⟨i, hi⟩ := List.getElem?_of_mem hr
          exact (hq i r hi).1
        · by_cases h0 : len = 0
          · subst h0
            rw [List.eq_nil_of_length_eq_zero hll]
            exact .rowsE _ _ _
          · obtain ⟨r0, hr0⟩ : ∃ r0, l[0]? = some r0 := ⟨_, List.getElem?_eq_getElem (by omega)⟩
            obtain ⟨_, c0, hc0, _⟩ := hq 0 r0 hr0
            have hz := World.cells?_some hc0
            have hz0 := hz.2.2 0 hpos
            rw [List.getElem?_eq_getElem (by omega)] at hz0
            have ea : (ad.add (0 * P.cellsOf e)).add 0 = ad := by simp [Addr.add]
            rw [ea] at hz0
            obtain ⟨b, o, spt⟩ := ad
            have hsp : spt = none ∧ b < w.heap.size := by
              unfold World.cell? at hz0
              simp only at hz0
              cases hb : w.heap[b]? with
              | none => simp [hb] at hz0
              | some ob =>
                refine ⟨?_, (Array.getElem?_eq_some_iff.1 hb).1⟩
                cases ob with
                | cells c t f => rw [hb] at hz0; simp only at hz0; cases spt with | none => rfl | some z => simp at hz0
                | _ => simp [hb] at hz0
            obtain ⟨rfl, hbl⟩ := hsp
            have key : ∀ (i : Nat) r (j : Nat) v, l[i]? = some r → r[j]? = some v → v.isCell = true ∧ ∃ c, hcell w.heap b (o + (i * P.cellsOf e + j)) = some c ∧ Rl w.heap (fun _ => none) (fun b => b < w.heap.size) v c := by
              intro i r j v h1 h2
              obtain ⟨_, ci, hci, hpr⟩ := hq i r h1
              have hz := World.cells?_some hci
              have hj : j < ci.length := by rw [← hpr.1]; exact (List.getElem?_eq_some_iff.1 h2).1
              have h3 := hz.2.2 j (by omega)
              rw [List.getElem?_eq_getElem hj, addr_add, addr_add, cell?_heap] at h3
              obtain ⟨h4, h5⟩ := hpr.2 j v _ h2 (List.getElem?_eq_getElem hj)
              exact ⟨h4, _, by rw [← h3, Nat.add_assoc], h5⟩
            refine .rows _ l b o len cap (fun q => (hcell w.heap b (o + q)).getD undef) hll.symm hl (fun _ => hbl) (fun i r h1 => ?_) (fun i r j v h1 h2 => (key i r j v h1 h2).1) (fun i r j v h1 h2 => ?_) fun i r j v h1 h2 => ?_
            · obtain ⟨_, ci, hci, hpr⟩ := hq i r h1
              rw [hpr.1, (World.cells?_some hci).2.1]
            · obtain ⟨_, c, hc, _⟩ := key i r j v h1 h2
              rw [hc]; rfl
            · obtain ⟨_, c, hc, hr⟩ := key i r j v h1 h2
              rw [hc]; exact hr
    · rename_i e
      split at hs
      rotate_left
      · cases hs
      rename_i hpos
      simp only [Option.map_eq_some_iff] at hs
      obtain ⟨a, ha, rfl⟩ := hs
      have alt : cs = [.pointer none] ∨ ∃ ad ci y, cs = [.pointer (some ad)] ∧ w.cells? 0 ad (P.cellsOf e) = some ci ∧ DataW.trod enc P w 0 sp true m e ci = some y ∧ x.1 = .ptr y.1 := by
        unfold DataW.trod at h; rw [hu] at h
        split at h <;> simp_all
        simp only [Option.bind_eq_some_iff, Function.comp, Option.map_eq_some_iff] at h
        obtain ⟨ci, hc, ⟨y1, y2⟩, hy, hx⟩ := h
        exact ⟨ci, hc, y1, ⟨y2, hy⟩, by rw [← hx]⟩
      rcases alt with rfl | ⟨ad, ci, y, rfl, hc, hy, hx⟩
      · exact ⟨_, .inl rfl, .one rfl .nilP⟩
      · obtain ⟨vs, ok, hpr⟩ := ih _ _ _ _ ha hy (fun q hq => hw q (by rw [hx]; simpa [DataW.weights, hu] using hq))
        refine ⟨[.fp vs], .inr ⟨vs, rfl, ok⟩, .one rfl ?_⟩
        have hz := World.cells?_some hc
        have hz0 := hz.2.2 0 hpos
        rw [List.getElem?_eq_getElem (by omega)] at hz0
        have ea : ad.add 0 = ad := by simp [Addr.add]
        rw [ea] at hz0
        obtain ⟨b, o, spt⟩ := ad
        have hsp : spt = none ∧ b < w.heap.size := by
          unfold World.cell? at hz0
          simp only at hz0
          cases hb : w.heap[b]? with
          | none => simp [hb] at hz0
          | some ob =>
            refine ⟨?_, (Array.getElem?_eq_some_iff.1 hb).1⟩
            cases ob with
            | cells c t f => rw [hb] at hz0; simp only at hz0; cases spt with | none => rfl | some z => simp at hz0
            | _ => simp [hb] at hz0
        obtain ⟨rfl, hbl⟩ := hsp
        have key : ∀ (j : Nat) v, vs[j]? = some v → v.isCell = true ∧ ∃ c, hcell w.heap b (o + j) = some c ∧ Rl w.heap (fun _ => none) (fun b => b < w.heap.size) v c := by
          intro j v h2
          have hj : j < ci.length := by rw [← hpr.1]; exact (List.getElem?_eq_some_iff.1 h2).1
          have h3 := hz.2.2 j (by omega)
          rw [List.getElem?_eq_getElem hj, addr_add, cell?_heap] at h3
          obtain ⟨h4, h5⟩ := hpr.2 j v _ h2 (List.getElem?_eq_getElem hj)
          exact ⟨h4, _, h3, h5⟩
        refine .fp vs b o (fun q => (hcell w.heap b (o + q)).getD undef) (fun _ => hbl) (fun j v h2 => (key j v h2).1) (fun j v h2 => ?_) fun j v h2 => ?_
        · obtain ⟨_, c, hc, _⟩ := key j v h2
          rw [hc]; rfl
        · obtain ⟨_, c, hc, hr⟩ := key j v h2
          rw [hc]; exact hr
    · cases hs
theorem read (m n : Nat) : Rd P w enc sp m (shOf P n) := readR m n fun q => by cases q
end
end Go.Proofs.YtjaigpidmngaaaaGreat

namespace Go.Proofs.YtjaigpidmngaaaaGreat
def isAggT (P : Program) (t : TypeId) : Bool :=
  match P.underlying t with
  | some (.struct _) => true
  | some (.array _ _) => true
  | _ => false
def ArgOk (agg : Bool) (sh : Sh) (av : AV) : Prop :=
  match agg with
  | true => ∃ vs, av = .agg vs ∧ sh.Ok vs
  | false => sh.Ok [av]
section
variable {H : Type} {enc : TypeId × Value → H} {P : Program} {W : World} {sp : Nat → Bool}
theorem okWide_notAgg {r : Reach} {base : Nat} {t : TypeId} {v : Value} (ha : isAggT P t = false) (h : Value.okWide P W r base t v) : v.cells = #[v] := by
  unfold isAggT at ha
  unfold Value.okWide at h
  split at h
  · rename_i hu; simp [hu] at ha
  · rename_i hu; simp [hu] at ha
  · cases v <;> first
      | rfl
      | (exfalso; unfold Cell.okWide at h; split at h <;> rename_i heq <;> first | (cases heq; done) | (unfold Cell.ok at h; split at h <;> rename_i heq2 <;> first | (cases heq2; done) | exact h))
theorem arg_rlR {r : Reach} {base : Nat} {t : TypeId} {v : Value} {d : DataW H} {ps : List MemPlace} (agg : Bool) (hagg : isAggT P t = agg) (hs : ∀ n, ∃ sh, shO true P n t = some sh) (hval : Value.okWide P W r base t v)
    (h : DataW.Trod enc P W 0 sp true t v d ps) (hw : ∀ n ∈ d.weights P t, n ≤ reachBytes) : ∃ av, (∃ n sh, shO true P n t = some sh ∧ ArgOk agg sh av) ∧ Rl W.heap (fun _ => none) (fun b => b < W.heap.size) av v := by
  obtain ⟨fuel, hf⟩ := h
  obtain ⟨sh, hs⟩ := hs fuel
  obtain ⟨vs, ok, hpr⟩ := readR fuel fuel (fun _ => Nat.le_refl _) t _ _ sh hs hf hw
  cases agg with
  | true =>
    obtain ⟨cs, rfl⟩ : ∃ cs, v = .agg cs := by
      unfold isAggT at hagg
      unfold Value.okWide at hval
      split at hagg
      · rename_i hu; simp only [hu] at hval; obtain ⟨cs, e, _⟩ := hval; exact ⟨cs, e⟩
      · rename_i hu; simp only [hu] at hval; obtain ⟨cs, e, _⟩ := hval; exact ⟨cs, e⟩
      · cases hagg
    refine ⟨.agg vs, ⟨fuel, sh, hs, vs, rfl, ok⟩, ?_⟩
    have := Rl.agg (h := W.heap) (ρ := fun _ => none) (Z := fun b => b < W.heap.size) vs cs.toList (by simpa [Value.cells] using hpr.1)
      (fun i v h1 => by
        have hi := (List.getElem?_eq_some_iff.1 h1).1
        rw [hpr.1] at hi
        exact (hpr.2 i v _ h1 (List.getElem?_eq_getElem hi)).1)
      (fun i v x h1 h2 => (hpr.2 i v x h1 (by simpa [Value.cells] using h2)).2)
    simpa using this
  | false =>
    rw [okWide_notAgg hagg hval] at hpr
    have hl := hpr.1
    match vs, hl with
    | [av], _ => exact ⟨av, ⟨fuel, sh, hs, ok⟩, (hpr.2 0 av v rfl rfl).2⟩
theorem good0 (h : Array Obj) (ht : TabG h fun b => b < h.size) : Good h (fun _ => none) (fun b => b < h.size) [] where
  blk := fun id blk h1 => by simp [hget] at h1
  inj := fun i j a b p q o o' h1 => by simp [hget] at h1
  notZ := fun b ⟨id, blk, o, h1, _⟩ => by simp [hget] at h1
  zlt := fun _ h => h
  ids := ⟨0, fun _ _ => rfl⟩
  ty := fun id b o q => by cases q
  tab := ht
theorem law_calls {f : Nat} {args : List AV} {xs : List Value} (h : ACalls P f args [] fun r _ => r = .bool true) (hr : RlL W.heap (fun _ => none) (fun b => b < W.heap.size) args xs) (ht : TabG W.heap fun b => b < W.heap.size := by intro x hx; simp [tabs] at hx) :
    Calls P f xs.toArray W fun e W' => e = .returned (.bool true) ∧ RowKit.Below W.heap.size W W' := by
  refine (h.2 W _ _ xs (good0 W.heap ht) hr).mono fun e w' ⟨x, r, H', ρ', Z', q1, _, hv, ex, k⟩ => ?_
  subst k
  cases hv
  refine ⟨q1, ⟨ex.os, ex.tape, ex.out, ex.size, fun k hk => ex.keep k hk ?_⟩⟩
  rintro ⟨id, blk, o, h1, _⟩
  simp [hget] at h1
end
end Go.Proofs.YtjaigpidmngaaaaGreat

namespace Go.Proofs.YtjaigpidmngaaaaGreat
theorem Sub.refl (H : AH) : Sub H H := fun _ _ h => h
theorem Sub.cons {Hc H : AH} {id : Nat} {b : Blk} (h : Sub Hc H) (hid : hget H id = none) : Sub Hc ((id, b) :: H) := fun j c q => by
  simp only [hget]
  split
  · rename_i e
    have := h j c q
    rw [e, hid] at this
    cases this
  · exact h j c q
theorem FzL.refl (H Hc : AH) (vs : List AV) : FzL H Hc vs vs := ⟨rfl, fun i v v' a b => by rw [a] at b; simp only [Option.some.injEq] at b; rw [b]; exact .refl _⟩
section
variable {P : Program} {f : Nat} {args : List AV} {H : AH} {K : AV → AH → Prop} {r : AV}
theorem callA_of (h : ACalls P f args H K) : callA P f args H K := ⟨args, H, Sub.refl H, FzL.refl _ _ _, .inl h⟩
theorem callA_eq (h : ACalls P f args H fun r' H' => r' = r ∧ H' = H) (k : K r H) : callA P f args H K :=
  callA_of (h.mono fun r' H' ⟨a, b⟩ => by rw [a, b]; exact k)
theorem NoId.plain (h : r.plain = true) : NoId r := fun _ _ _ _ _ q => q.plain h
theorem ACalls.plain (hp : r.plain = true) (h : ACalls P f args [] fun r' _ => r' = r) : ACalls P f args H fun r' H' => r' = r ∧ H' = H :=
  ⟨h.1, fun w ρ Z xs g hr => callA_calls (K := fun r' H' => r' = r ∧ H' = H)
    ⟨args, [], fun _ _ q => (by cases q), FzL.refl _ _ _, .inr (h.mono fun r' _ e => by rw [e]; exact ⟨hp, rfl, rfl⟩)⟩ g hr⟩
theorem callP_plain (hp : r.plain = true) (h : ACalls P f args H fun r' H' => r' = r ∧ H' = H) : callP P f args H r := .inl ⟨NoId.plain hp, h⟩
end
theorem wrap_id {n : Int} (h1 : -9223372036854775808 ≤ n) (h2 : n ≤ 9223372036854775807) : IntKind.i64.wrap n = n := by rw [IntKind.wrap_i64]; omega
end Go.Proofs.YtjaigpidmngaaaaGreat

namespace Go.Proofs.YtjaigpidmngaaaaGreat
abbrev FL := List (Nat × Option AV)
noncomputable def FL.get (L : FL) (t : Nat) : Option AV := @List.rec (Nat × Option AV) (fun _ => Option AV) none (fun p _ ih => match Nat.beq t p.1 with
    | true => p.2
    | false => ih) L
noncomputable def frm (L : FL) : Fr := fun t => L.get t
theorem FL.get_cons (d t : Nat) (x : Option AV) (L : FL) : FL.get ((d, x) :: L) t = if t = d then x else L.get t := by
  show (match Nat.beq t d with | true => x | false => L.get t) = _
  cases h : Nat.beq t d with
  | true => rw [if_pos (Nat.eq_of_beq_eq_true h)]
  | false => rw [if_neg (fun e => by rw [e, Nat.beq_refl] at h; cases h)]
theorem frm_set (L : FL) (d : Nat) (x : AV) : frm ((d, some x) :: L) = (frm L).set d x := by
  funext t; simp only [frm, FL.get_cons, Fr.set]
theorem frm_clr (L : FL) (d : Nat) : frm ((d, none) :: L) = (frm L).clr d := by
  funext t; simp only [frm, FL.get_cons, Fr.clr]
def putL (L : FL) (d : Option Nat) (x : AV) : FL := match d with | some d => (d, some x) :: L | none => L
def delL (L : FL) (d : Option Nat) : FL := match d with | some d => (d, none) :: L | none => L
def putK (L : FL) (d : Option Nat) (x : AV) (k : FL → Prop) : Prop := match d with | some d => k ((d, some x) :: L) | none => k L
def delK (L : FL) (d : Option Nat) (k : FL → Prop) : Prop := match d with | some d => k ((d, none) :: L) | none => k L
theorem putK_eq (L : FL) (d : Option Nat) (x : AV) (k : FL → Prop) : putK L d x k = k (putL L d x) := by cases d <;> rfl
theorem delK_eq (L : FL) (d : Option Nat) (k : FL → Prop) : delK L d k = k (delL L d) := by cases d <;> rfl
theorem frm_put (L : FL) (d : Option Nat) (x : AV) : frm (putL L d x) = (frm L).put d x := by cases d with | none => rfl | some d => exact frm_set L d x
theorem frm_del (L : FL) (d : Option Nat) : frm (delL L d) = (frm L).del d := by cases d with | none => rfl | some d => exact frm_clr L d
def covers : FL → FL → Prop
  | [], _ => True
  | (t, some v) :: r, L => L.get t = some v ∧ covers r L
  | (_, none) :: r, L => covers r L
noncomputable def memN (t : Nat) (l : List Nat) : Bool := @List.rec Nat (fun _ => Bool) false (fun a _ ih => match Nat.beq t a with
  | true => true
  | false => ih) l
theorem memN_mem {t : Nat} : ∀ {l : List Nat}, memN t l = true → t ∈ l
  | [], h => by cases h
  | a :: l, h => by
    have h' : (match Nat.beq t a with | true => true | false => memN t l) = true := h
    split at h'
    · rename_i e; rw [Nat.eq_of_beq_eq_true e]; exact List.mem_cons_self
    · exact List.mem_cons_of_mem _ (memN_mem h')
def coversS (H Hc : AH) : List Nat → FL → FL → Prop
  | _, [], _ => True
  | seen, (t, some v') :: r, L => (memN t seen = true ∨ ∃ v, L.get t = some v ∧ Fz H Hc v v') ∧ coversS H Hc (t :: seen) r L
  | seen, (t, none) :: r, L => coversS H Hc (t :: seen) r L
abbrev coversZ (H Hc : AH) (M L : FL) : Prop := coversS H Hc [] M L
theorem coversS_sub {H Hc : AH} : ∀ (M L : FL) (seen : List Nat), coversS H Hc seen M L → ∀ t v', t ∉ seen → frm M t = some v' → ∃ v, frm L t = some v ∧ Fz H Hc v v'
  | [], L, _, _, t, v, _, h => by cases h
  | (d, some x) :: M, L, seen, hc, t, v, hn, h => by
    simp only [frm, FL.get_cons] at h
    split at h
    · rename_i e
      simp only [Option.some.injEq] at h
      rw [← h, e]
      rcases hc.1 with q | q
      · exact absurd (memN_mem q) (e ▸ hn)
      · exact q
    · rename_i e
      exact coversS_sub M L _ hc.2 t v (by simp [e, hn]) h
  | (d, none) :: M, L, seen, hc, t, v, hn, h => by
    simp only [frm, FL.get_cons] at h
    split at h
    · cases h
    · rename_i e
      exact coversS_sub M L _ hc t v (by simp [e, hn]) h
theorem coversZ_sub {H Hc : AH} (M L : FL) (h : coversZ H Hc M L) : SubFz H Hc (frm M) (frm L) := fun t v q => coversS_sub M L [] h t v (by simp) q
/-! ### Operations, by what follows -/
def evX (L : FL) (x : X) (k : AV → Prop) : Prop :=
  match x with
  | .t n => match L.get n with
    | some v => k v
    | none => False
  | .c v => k v
  | .bad => False
def evXs (L : FL) : List X → (List AV → Prop) → Prop
  | [], k => k []
  | x :: xs, k => evX L x fun v => evXs L xs fun vs => k (v :: vs)
def evX3 (L : FL) : List (Nat × Nat × X) → (List (Nat × Nat × AV) → Prop) → Prop
  | [], k => k []
  | (o, z, x) :: xs, k => evX L x fun v => evX3 L xs fun vs => k ((o, z, v) :: vs)
def evX2 (L : FL) : List (Nat × X) → (List (Nat × AV) → Prop) → Prop
  | [], k => k []
  | (i, x) :: xs, k => evX L x fun v => evX2 L xs fun vs => k ((i, v) :: vs)
def evXO (L : FL) (d : Int) (x : Option X) (k : Int → Prop) : Prop :=
  match x with
  | none => k d
  | some x => evX L x fun v => match v with
    | .int _ n => k n
    | _ => False
def oA {α : Type} (o : Option α) (k : α → Prop) : Prop :=
  match o with
  | some x => k x
  | none => False
def kEq : IntKind → IntKind → Bool
  | .i8, .i8 => true
  | .i16, .i16 => true
  | .i32, .i32 => true
  | .i64, .i64 => true
  | .u8, .u8 => true
  | .u16, .u16 => true
  | .u32, .u32 => true
  | .u64, .u64 => true
  | _, _ => false
theorem kEq_eq {a b : IntKind} (h : kEq a b = true) : a = b := by cases a <;> cases b <;> first | rfl | cases h
def kG (a b : IntKind) (k : Prop) : Prop := match kEq a b with
  | true => k
  | false => False
def nG (a b : Nat) (k : Prop) : Prop := match Nat.beq a b with
  | true => k
  | false => False
theorem kG_of {a b : IntKind} {k : Prop} (h : kG a b k) : a = b ∧ k := by
  unfold kG at h
  split at h
  · rename_i e; exact ⟨kEq_eq e, h⟩
  · exact h.elim
theorem nG_of {a b : Nat} {k : Prop} (h : nG a b k) : a = b ∧ k := by
  unfold nG at h
  split at h
  · rename_i e; exact ⟨Nat.eq_of_beq_eq_true e, h⟩
  · exact h.elim
structure rng (w : Int) (k : Int → Prop) : Prop where
  out : k w
theorem rng_any {w : Int} {k : Int → Prop} (h : k w) : rng w k := ⟨h⟩
theorem rng_id {w n : Int} {k : Int → Prop} (e : w = n) (h : k n) : rng w k := by rw [e]; exact ⟨h⟩
theorem rng_i64 {n : Int} {k : Int → Prop} (h1 : -9223372036854775808 ≤ n) (h2 : n ≤ 9223372036854775807) (h : k n) : rng (IntKind.wrap .i64 n) k := rng_id (wrap_id h1 h2) h
theorem rng_u8 {n : Int} {k : Int → Prop} (h1 : 0 ≤ n) (h2 : n ≤ 255) (h : k n) : rng (IntKind.wrap .u8 n) k := rng_id (by simp only [IntKind.wrap, IntKind.bits, IntKind.signed, Bool.false_and, Bool.false_eq_true, if_false]; omega) h
theorem rng_u64 {n : Int} {k : Int → Prop} (h1 : 0 ≤ n) (h2 : n ≤ 18446744073709551615) (h : k n) : rng (IntKind.wrap .u64 n) k := rng_id (by simp only [IntKind.wrap, IntKind.bits, IntKind.signed, Bool.false_and, Bool.false_eq_true, if_false]; omega) h
structure hsetK (H : AH) (id : Nat) (b : Blk) (k : AH → Prop) : Prop where
  out : k (hset H id b)
structure hsetN (H : AH) (id : Nat) (b : Blk) (k : AH → Prop) : Prop where
  out : k (hset H id b)
theorem hsetN_of {H : AH} {id : Nat} {b b' : Blk} {k : AH → Prop} (e : b = b') (h : hsetK H id b' k) : hsetN H id b k := ⟨by rw [e]; exact h.out⟩
theorem hsetK_any {H : AH} {id : Nat} {b : Blk} {k : AH → Prop} (h : k (hset H id b)) : hsetK H id b k := ⟨h⟩
theorem hsetK_top {H : AH} {id : Nat} {b c : Blk} {k : AH → Prop} (h : k ((id, c) :: H)) : hsetK ((id, b) :: H) id c k := ⟨by rw [show hset ((id, b) :: H) id c = (id, c) :: H from by simp [hset]]; exact h⟩
theorem hsetK_down {T : AH} {i id : Nat} {b c : Blk} {k : AH → Prop} (h : i ≠ id) (h2 : hsetK T id b fun T' => k ((i, c) :: T')) : hsetK ((i, c) :: T) id b k :=
  ⟨by rw [show hset ((i, c) :: T) id b = (i, c) :: hset T id b from by simp only [hset]; rw [if_neg (fun e => h e.symm)]]; exact h2.out⟩
def opF (L : FL) (H : AH) (co : CO) (k : Rs → Prop) : Prop :=
  match co with
  | .mv x => evX L x fun v => k (.val v)
  | .pick c a b => evX L c fun v => match v with
    | .bool q => match q with
      | true => evX L a fun v => k (.val v)
      | false => evX L b fun v => k (.val v)
    | _ => False
  | .box T x => evX L x fun v => allCells v.cells = true ∧ k (.fresh T (.rows v.cells.length [v.cells]) (fun id => .ptr id v.cells.length 0 0) H)
  | .allc T zs => k (.fresh T (.rows zs.length [zs]) (fun id => .ptr id zs.length 0 0) H)
  | .load n x => evX L x fun v => match v with
    | .fp cs => oA (partA cs 0 n) fun r => k (.val r)
    | .ptr id sz i j => ∃ l r, hget H id = some (.rows sz l) ∧ l[i]? = some r ∧ oA (partA (r.drop j) 0 n) fun v => k (.val v)
    | _ => False
  | .store n x y => evX L x fun v => evX L y fun z => match v with
    | .ptr id sz i j => ∃ l r, hget H id = some (.rows sz l) ∧ l[i]? = some r ∧ z.cells.length = n ∧ allCells z.cells = true ∧ j + n ≤ r.length ∧ hsetN H id (.rows sz (l.set i (over r j z.cells))) fun H' => k (.upd H')
    | _ => False
  | .faddr off x => evX L x fun v => match v with
    | .ptr id sz i j => k (.val (.ptr id sz i (j + off)))
    | .fp cs => k (.val (.fp (cs.drop off)))
    | _ => False
  | .iaddr sz x i => evX L x fun v => evX L i fun w => match w with
    | .int _ n => match v with
      | .rows sz' l => nG sz' sz ((0 ≤ n ∧ n < l.length) ∧ k (.val (.fp (l.getD n.toNat []))))
      | .own id sz' lo hi => nG sz' sz ((0 ≤ n ∧ n < ((hi - lo : Nat) : Int)) ∧ k (.val (.ptr id sz (lo + n.toNat) 0)))
      | _ => False
    | _ => False
  | .iarr len sz x i => evX L x fun v => evX L i fun w => match w with
    | .int _ n => (0 ≤ n ∧ n < len) ∧ match v with
      | .ptr id z a j => k (.val (.ptr id z a (j + n.toNat * sz)))
      | .fp cs => k (.val (.fp (cs.drop (n.toNat * sz))))
      | _ => False
    | _ => False
  | .field off n x => evX L x fun v => match v with
    | .agg cs => oA (partA cs off n) fun r => k (.val r)
    | _ => False
  | .idx x i => evX L x fun v => evX L i fun w => match v with
    | .str l => match w with
      | .int _ n => (0 ≤ n ∧ n < l.length) ∧ k (.val (.int .u8 ((l.getD n.toNat 0).toNat : Int)))
      | _ => False
    | _ => False
  | .idxA len sz n x i => evX L x fun v => evX L i fun w => match v with
    | .agg cs => match w with
      | .int _ a => (0 ≤ a ∧ a < len) ∧ oA (partA cs (a.toNat * sz) n) fun r => k (.val r)
      | _ => False
    | _ => False
  | .bin op x y => evX L x fun a => evX L y fun b => match a with
    | .int ka m => match b with
      | .int kb n => match op with
        | .quo => kG ka kb (n ≠ 0 ∧ rng (IntKind.wrap ka (m.tdiv n)) fun z => k (.val (.int ka z)))
        | .rem => kG ka kb (n ≠ 0 ∧ k (.val (.int ka (m.tmod n))))
        | .shl => 0 ≤ n ∧ rng (IntKind.wrap ka (m * 2 ^ (min n.toNat ka.bits))) fun z => k (.val (.int ka z))
        | .shr => 0 ≤ n ∧ k (.val (.int ka (m.fdiv (2 ^ (min n.toNat ka.bits)))))
        | .add => kG ka kb (rng (IntKind.wrap ka (m + n)) fun z => k (.val (.int ka z)))
        | .sub => kG ka kb (rng (IntKind.wrap ka (m - n)) fun z => k (.val (.int ka z)))
        | .mul => kG ka kb (rng (IntKind.wrap ka (m * n)) fun z => k (.val (.int ka z)))
        | op => kG ka kb (oA (binInt op ka m n) fun r => k (.val r))
      | _ => False
    | .str p => match b with
      | .str q => match op with
        | .add => ((p.length + q.length : Nat) : Int) ≤ 9223372036854775807 ∧ k (.val (.str (p ++ q)))
        | op => oA (binStr op p q) fun r => k (.val r)
      | _ => False
    | _ => False
  | .beq neg x y => evX L x fun a => evX L y fun b => match a with
    | .bool p => match b with
      | .bool q => k (.val (.bool (match neg with | true => !(p == q) | false => (p == q))))
      | _ => False
    | _ => False
  | .ncmpS neg x => evX L x fun a => match a with
    | .nilS => k (.val (.bool (match neg with | true => false | false => true)))
    | .own _ _ _ _ => k (.val (.bool (match neg with | true => true | false => false)))
    | .rows _ l => l ≠ [] ∧ k (.val (.bool (match neg with | true => true | false => false)))
    | _ => False
  | .ncmpP neg x => evX L x fun a => oA (isNilP a) fun b => k (.val (.bool (match neg with | true => !b | false => b)))
  | .aeq neg sh x y => evX L x fun a => evX L y fun b => match a with
    | .agg xs => match b with
      | .agg ys => ∃ r, eqCells sh xs ys = some r ∧ k (.val (.bool (match neg with | true => !r | false => r)))
      | _ => False
    | _ => False
  | .un op x => evX L x fun a => oA (unV op a) fun r => k (.val r)
  | .conv kd x => evX L x fun a => match a with
    | .int _ n => rng (IntKind.wrap kd n) fun z => k (.val (.int kd z))
    | _ => False
  | .convS x => evX L x fun a => match a with
    | .str l => k (.val (.str l))
    | _ => False
  | .bytesS x => evX L x fun v => ∃ ys l, readS H false 1 v = some ys ∧ bytesA ys = some l ∧ k (.val (.str l))
  | .strB x => evX L x fun v => match v with
    | .str l => k (.val (.rows 1 (l.map fun c => [.int .u8 (c.toNat : Int)])))
    | _ => False
  | .ext e xs => evXs L xs fun vs => oA (extA e vs) fun v => k (.val v)
  | .build zs parts => evX3 L parts fun ps => ∃ cs, overs zs ps = some cs ∧ allCells cs = true ∧ k (.val (.agg cs))
  | .bslice T sz n zs parts => evX2 L parts fun ps => ∃ l, setRows sz (List.replicate n zs) ps = some l ∧ l.all allCells = true ∧
      match n with
      | 0 => k (.fresh T (.rows sz []) (fun id => .own id sz 0 0) H)
      | _ + 1 => k (.val (.rows sz l))
  | .bsliceO T sz n zs parts => evX2 L parts fun ps => ∃ l, setRows sz (List.replicate n zs) ps = some l ∧ l.all allCells = true ∧ k (.fresh T (.rows sz l) (fun id => .own id sz 0 n) H)
  | .slice kk x lo hi => evX L x fun v => oA (lenA kk.isNone v) fun n => evXO L 0 lo fun a => evXO L n hi fun b => (0 ≤ a ∧ a ≤ b ∧ b ≤ n) ∧
      match v with
      | .str l => k (.val (.str ((l.take b.toNat).drop a.toNat)))
      | .rows sz l => kk = some sz ∧ k (.val (.rows sz ((l.take b.toNat).drop a.toNat)))
      | .nilS => k (.val .nilS)
      | .own id sz l _ => kk = some sz ∧ k (.val (.own id sz (l + a.toNat) (l + b.toNat)))
      | _ => False
  | .mks T sz bytes zs n => evX L n fun v => match v with
    | .int _ a => (0 ≤ a ∧ a * bytes ≤ 140737488355328) ∧ k (.fresh T (.rows sz (List.replicate a.toNat zs)) (fun id => .own id sz 0 a.toNat) H)
    | _ => False
  | .len str x => evX L x fun v => oA (lenA str v) fun n => k (.val (.int .i64 n))
  | .append T str sz bytes x y => evX L x fun v => evX L y fun z => match v with
    | .nilS => ∃ ys, readS H str sz z = some ys ∧ ys.length * bytes ≤ 140737488355328 ∧ (ys = [] → k (.val .nilS)) ∧ (ys ≠ [] → k (.fresh T (.rows sz ys) (fun id => .own id sz 0 ys.length) H))
    | .own id sz' lo hi => ∃ xs ys, readS H false sz (.own id sz' lo hi) = some xs ∧ readS H str sz z = some ys ∧ sz' = sz ∧ lo = 0 ∧ tag id = T ∧ (xs.length + ys.length) * bytes ≤ 140737488355328 ∧
        k (.fresh T (.rows sz (xs ++ ys)) (fun id => .own id sz 0 (xs.length + ys.length)) (hdel H id))
    | .emp => ∃ ys, readS H str sz z = some ys ∧ ys.length * bytes ≤ 140737488355328 ∧ (ys = [] → k (.val .emp)) ∧ (ys ≠ [] → k (.fresh T (.rows sz ys) (fun id => .own id sz 0 ys.length) H))
    | _ => False
  | .mm mx xs => evXs L xs fun vs => oA (mm2 mx vs) fun v => k (.val v)
  | .extr x i => evX L x fun v => match v with
    | .tup vs => oA (vs[i]?) fun r => k (.val r)
    | _ => False
  | .call f xs => evXs L xs fun vs => k (.call f vs)
  | .callv g xs => evX L g fun c => evXs L xs fun vs => match c with
    | .clo f first caps => k (.call f (first ++ vs ++ caps))
    | .yld id => k (.yield id vs)
    | _ => False
  | .mkfn f first caps => evXs L first fun us => evXs L caps fun vs => k (.val (.clo f us vs))
  | .idu x => evX L x fun v => match v with
    | .nilP => k (.val .nilP)
    | .ptr id sz i j => ∃ l, hget H id = some (.rows sz l) ∧ i < l.length ∧ j < sz ∧ k (.val (.ptr id sz i j))
    | _ => False
  | .idf als x => evX L x fun v => match v with
    | .nilP => k (.val .nilP)
    | .ptr id sz i j => ∃ l, hget H id = some (.rows sz l) ∧ ∃ u, tag id = u ∧ (i = 0 ∧ 0 < l.length) ∧ als.contains (u, sz, j) = true ∧ k (.val (.ptr id sz 0 j))
    | _ => False
  | .peq neg x y => evX L x fun a => evX L y fun b => match a with
    | .ptr id sz i j => match b with
      | .ptr id' sz' i' j' => (id = id' ∧ sz = sz' ∧ i = i' ∧ j = j') ∧ k (.val (.bool (!neg)))
      | _ => False
    | _ => False
  | .sdata x => evX L x fun v => match v with
    | .nilS => k (.val .nilP)
    | .own id sz lo hi => lo < hi ∧ k (.val (.ptr id sz lo 0))
    | _ => False
  | .ustr u x n => evX L x fun v => evX L n fun w => match v with
    | .nilP => match w with
      | .int .i64 q => q = 0 ∧ k (.val (.str []))
      | _ => False
    | .ptr id sz i j => match w with
      | .int .i64 q => ∃ l b, hget H id = some (.rows 1 l) ∧ bytesA (l.take q.toNat) = some b ∧ sz = 1 ∧ i = 0 ∧ j = 0 ∧ 0 < q ∧ q ≤ l.length ∧ q ≤ 9223372036854775807 ∧ tag id = u ∧ k (.valH (.str b) (hdel H id))
      | _ => False
    | _ => False
  | .nilck x => evX L x fun v => match v with
    | .ptr _ _ _ _ => k (.val v)
    | .fp _ => k (.val v)
    | _ => False
  | .bad => False
theorem evX_of {L : FL} {x : X} {k : AV → Prop} (h : evX L x k) : ∃ v, ev (frm L) x = some v ∧ k v := by
  cases x with
  | t n =>
    simp only [evX] at h
    simp only [ev, frm]
    cases hg : L.get n with
    | none => rw [hg] at h; exact h.elim
    | some v => rw [hg] at h; exact ⟨v, rfl, h⟩
  | c v => exact ⟨v, rfl, h⟩
  | bad => exact h.elim
theorem evXs_of {L : FL} : ∀ {xs : List X} {k : List AV → Prop}, evXs L xs k → ∃ vs, evL (frm L) xs = some vs ∧ k vs
  | [], k, h => ⟨[], rfl, h⟩
  | x :: xs, k, h => by
    obtain ⟨v, h1, h2⟩ := evX_of h
    obtain ⟨vs, h3, h4⟩ := evXs_of h2
    exact ⟨v :: vs, by simp [evL, h1, h3], h4⟩
theorem evX3_of {L : FL} : ∀ {xs : List (Nat × Nat × X)} {k : List (Nat × Nat × AV) → Prop}, evX3 L xs k → ∃ vs, evParts3 (frm L) xs = some vs ∧ k vs
  | [], k, h => ⟨[], rfl, h⟩
  | (o, z, x) :: xs, k, h => by
    obtain ⟨v, h1, h2⟩ := evX_of h
    obtain ⟨vs, h3, h4⟩ := evX3_of h2
    exact ⟨(o, z, v) :: vs, by simp [evParts3, h1, h3], h4⟩
theorem evX2_of {L : FL} : ∀ {xs : List (Nat × X)} {k : List (Nat × AV) → Prop}, evX2 L xs k → ∃ vs, evParts2 (frm L) xs = some vs ∧ k vs
  | [], k, h => ⟨[], rfl, h⟩
  | (i, x) :: xs, k, h => by
    obtain ⟨v, h1, h2⟩ := evX_of h
    obtain ⟨vs, h3, h4⟩ := evX2_of h2
    exact ⟨(i, v) :: vs, by simp [evParts2, h1, h3], h4⟩
theorem evXO_of {L : FL} {d : Int} {x : Option X} {k : Int → Prop} (h : evXO L d x k) : ∃ n, evO (frm L) d x = some n ∧ k n := by
  cases x with
  | none => exact ⟨d, rfl, h⟩
  | some x =>
    obtain ⟨v, h1, h2⟩ := evX_of h
    cases v <;> try exact h2.elim
    exact ⟨_, by simp only [evO, h1, Option.bind_some], h2⟩
theorem oA_of {α : Type} {o : Option α} {k : α → Prop} (h : oA o k) : ∃ x, o = some x ∧ k x := by
  cases o with
  | none => exact h.elim
  | some x => exact ⟨x, rfl, h⟩
theorem opF_of {L : FL} {H : AH} {co : CO} {k : Rs → Prop} (h : opF L H co k) : ∃ rs, evalOp (frm L) H co = some rs ∧ k rs := by
  cases co <;> simp only [opF] at h
  case mv x =>
    obtain ⟨v, h1, h2⟩ := evX_of h
    exact ⟨_, by simp only [evalOp, h1, Option.bind_some], h2⟩
  case pick c x y =>
    obtain ⟨v, h1, h2⟩ := evX_of h
    cases v <;> try exact h2.elim
    rename_i q
    cases q with
    | true => obtain ⟨u, h3, h4⟩ := evX_of h2; exact ⟨_, by simp only [evalOp, h1, h3, Option.bind_some, if_true], h4⟩
    | false => obtain ⟨u, h3, h4⟩ := evX_of h2; exact ⟨_, by simp only [evalOp, h1, h3, Option.bind_some, Bool.false_eq_true, if_false], h4⟩
  case box T x =>
    obtain ⟨v, h1, h2⟩ := evX_of h
    exact ⟨_, by simp only [evalOp, h1, Option.bind_some, h2.1, if_true], h2.2⟩
  case allc T zs => exact ⟨_, rfl, h⟩
  case load n x =>
    obtain ⟨v, h1, h2⟩ := evX_of h
    cases v <;> try exact h2.elim
    case fp cs =>
      obtain ⟨r, h3, h4⟩ := oA_of h2
      exact ⟨_, by simp only [evalOp, h1, readA, Option.bind_some, h3], h4⟩
    case ptr id sz i j =>
      obtain ⟨l, r, h3, h4, h5⟩ := h2
      obtain ⟨u, h6, h7⟩ := oA_of h5
      exact ⟨_, by simp only [evalOp, h1, readA, Option.bind_some, h3, if_true, h4, Option.map_some, h6], h7⟩
  case store n x y =>
    obtain ⟨v, h1, h2⟩ := evX_of h
    obtain ⟨z, h3, h4⟩ := evX_of h2
    cases v <;> try exact h4.elim
    obtain ⟨l, r, h5, h6, h7, h8, h9, h10⟩ := h4
    replace h10 := h10.out
    exact ⟨_, by simp only [evalOp, h1, h3, Option.bind_some, h5, h6, h7, h8, h9, and_self, if_true], h10⟩
  case faddr off x =>
    obtain ⟨v, h1, h2⟩ := evX_of h
    cases v <;> first | exact h2.elim | exact ⟨_, by simp only [evalOp, h1, Option.bind_some], h2⟩
  case iaddr sz x i =>
    obtain ⟨v, h1, h2⟩ := evX_of h
    obtain ⟨w, h3, h4⟩ := evX_of h2
    cases w <;> try exact h4.elim
    cases v <;> try exact h4.elim
    · obtain ⟨h5, ⟨h6, h7⟩, h8⟩ := nG_of h4; exact ⟨_, by simp only [evalOp, h1, h3, Option.bind_some, h5, h6, h7, and_self, if_true], h8⟩
    · obtain ⟨h5, ⟨h6, h7⟩, h8⟩ := nG_of h4; exact ⟨_, by simp only [evalOp, h1, h3, Option.bind_some, h5, h6, h7, and_self, if_true], h8⟩
  case iarr len sz x i =>
    obtain ⟨v, h1, h2⟩ := evX_of h
    obtain ⟨w, h3, h4⟩ := evX_of h2
    cases w <;> try exact h4.elim
    cases v <;> first | exact h4.2.elim | (exact ⟨_, by simp only [evalOp, h1, h3, Option.bind_some, h4.1, and_self, if_true], h4.2⟩)
  case field off n x =>
    obtain ⟨v, h1, h2⟩ := evX_of h
    cases v <;> try exact h2.elim
    obtain ⟨r, h3, h4⟩ := oA_of h2
    exact ⟨_, by simp only [evalOp, h1, Option.bind_some, h3], h4⟩
  case idx x i =>
    obtain ⟨v, h1, h2⟩ := evX_of h
    obtain ⟨w, h3, h4⟩ := evX_of h2
    cases v <;> try exact h4.elim
    cases w <;> try exact h4.elim
    exact ⟨_, by simp only [evalOp, h1, h3, Option.bind_some, h4.1, and_self, if_true], h4.2⟩
  case idxA len sz n x i =>
    obtain ⟨v, h1, h2⟩ := evX_of h
    obtain ⟨w, h3, h4⟩ := evX_of h2
    cases v <;> try exact h4.elim
    cases w <;> try exact h4.elim
    obtain ⟨r, h5, h6⟩ := oA_of h4.2
    exact ⟨_, by simp only [evalOp, h1, h3, Option.bind_some, h4.1, and_self, if_true, h5], h6⟩
  case bin op x y =>
    obtain ⟨v, h1, h2⟩ := evX_of h
    obtain ⟨w, h3, h4⟩ := evX_of h2
    cases v <;> try exact h4.elim
    · cases w <;> try exact h4.elim
      cases op
      case quo => obtain ⟨rfl, h6, h7⟩ := kG_of h4; exact ⟨_, by simp only [evalOp, h1, h3, Option.bind_some, binV, if_true, binInt, if_pos h6], h7.out⟩
      case rem => obtain ⟨rfl, h6, h7⟩ := kG_of h4; exact ⟨_, by simp only [evalOp, h1, h3, Option.bind_some, binV, if_true, binInt, if_pos h6], h7⟩
      case shl => exact ⟨_, by simp only [evalOp, h1, h3, Option.bind_some, binV, h4.1, if_true], h4.2.out⟩
      case shr => exact ⟨_, by simp only [evalOp, h1, h3, Option.bind_some, binV, h4.1, if_true], h4.2⟩
      case add => obtain ⟨rfl, h6⟩ := kG_of h4; exact ⟨_, by simp only [evalOp, h1, h3, Option.bind_some, binV, if_true, binInt], h6.out⟩
      case sub => obtain ⟨rfl, h6⟩ := kG_of h4; exact ⟨_, by simp only [evalOp, h1, h3, Option.bind_some, binV, if_true, binInt], h6.out⟩
      case mul => obtain ⟨rfl, h6⟩ := kG_of h4; exact ⟨_, by simp only [evalOp, h1, h3, Option.bind_some, binV, if_true, binInt], h6.out⟩
      all_goals (obtain ⟨h5, h6⟩ := kG_of h4; obtain ⟨r, h7, h8⟩ := oA_of h6; exact ⟨_, by simp only [evalOp, h1, h3, Option.bind_some, binV, if_pos h5, h7], h8⟩)
    · cases w <;> try exact h4.elim
      cases op
      case add => exact ⟨_, by simp only [evalOp, h1, h3, Option.bind_some, binV, binStr, if_pos h4.1], h4.2⟩
      all_goals (obtain ⟨r, h7, h8⟩ := oA_of h4; exact ⟨_, by simp only [evalOp, h1, h3, Option.bind_some, binV, h7], h8⟩)
  case beq neg x y =>
    obtain ⟨v, h1, h2⟩ := evX_of h
    obtain ⟨w, h3, h4⟩ := evX_of h2
    cases v <;> try exact h4.elim
    cases w <;> try exact h4.elim
    cases neg <;> exact ⟨_, by simp only [evalOp, h1, h3, Option.bind_some, if_true, Bool.false_eq_true, if_false], h4⟩
  case ncmpS neg x =>
    obtain ⟨v, h1, h2⟩ := evX_of h
    cases v <;> try exact h2.elim
    · cases neg <;> exact ⟨_, by simp only [evalOp, h1, Option.bind_some, isNilS, if_pos h2.1, if_true, Bool.false_eq_true, if_false, Bool.not_false], h2.2⟩
    · cases neg <;> exact ⟨_, by simp only [evalOp, h1, Option.bind_some, isNilS, if_true, Bool.false_eq_true, if_false, Bool.not_true], h2⟩
    · cases neg <;> exact ⟨_, by simp only [evalOp, h1, Option.bind_some, isNilS, if_true, Bool.false_eq_true, if_false, Bool.not_false], h2⟩
  case ncmpP neg x =>
    obtain ⟨v, h1, h2⟩ := evX_of h
    obtain ⟨b, h3, h4⟩ := oA_of h2
    cases neg <;> exact ⟨_, by simp only [evalOp, h1, Option.bind_some, h3, if_true, Bool.false_eq_true, if_false], h4⟩
  case aeq neg sh x y =>
    obtain ⟨v, h1, h2⟩ := evX_of h
    obtain ⟨w, h3, h4⟩ := evX_of h2
    cases v <;> try exact h4.elim
    cases w <;> try exact h4.elim
    obtain ⟨r, h5, h6⟩ := h4
    cases neg <;> exact ⟨_, by simp only [evalOp, h1, h3, Option.bind_some, h5, if_true, Bool.false_eq_true, if_false], h6⟩
  case un op x =>
    obtain ⟨v, h1, h2⟩ := evX_of h
    obtain ⟨r, h3, h4⟩ := oA_of h2
    exact ⟨_, by simp only [evalOp, h1, Option.bind_some, h3], h4⟩
  case conv kd x =>
    obtain ⟨v, h1, h2⟩ := evX_of h
    cases v <;> try exact h2.elim
    exact ⟨_, by simp only [evalOp, h1, Option.bind_some], rng.out h2⟩
  case convS x =>
    obtain ⟨v, h1, h2⟩ := evX_of h
    cases v <;> try exact h2.elim
    exact ⟨_, by simp only [evalOp, h1, Option.bind_some], h2⟩
  case strB x =>
    obtain ⟨v, h1, h2⟩ := evX_of h
    cases v <;> first | exact h2.elim | exact ⟨_, by simp only [evalOp, h1, Option.bind_some], h2⟩
  case bytesS x =>
    obtain ⟨v, h1, ys, l, h2, h3, h4⟩ := evX_of h
    exact ⟨_, by simp only [evalOp, h1, h2, h3, Option.bind_some], h4⟩
  case ext e xs =>
    obtain ⟨vs, h1, h2⟩ := evXs_of h
    obtain ⟨r, h3, h4⟩ := oA_of h2
    exact ⟨_, by simp only [evalOp, h1, Option.bind_some, h3], h4⟩
  case build zs ps =>
    obtain ⟨vs, h1, cs, h2, h3, h4⟩ := evX3_of h
    exact ⟨_, by simp only [evalOp, h1, Option.bind_some, h2, h3, if_true], h4⟩
  case bslice T sz n zs ps =>
    obtain ⟨vs, h1, l, h2, h3, h4⟩ := evX2_of h
    cases n with
    | zero => exact ⟨_, by simp only [evalOp, h1, Option.bind_some, h2, h3, if_true], h4⟩
    | succ n => exact ⟨_, by simp only [evalOp, h1, Option.bind_some, h2, h3, if_true, Nat.add_eq_zero_iff, Nat.one_ne_zero, and_false, if_false], h4⟩
  case bsliceO T sz n zs ps =>
    obtain ⟨vs, h1, l, h2, h3, h4⟩ := evX2_of h
    exact ⟨_, by simp only [evalOp, h1, Option.bind_some, h2, h3, if_true], h4⟩
  case slice kk x lo hi =>
    obtain ⟨v, h1, h2⟩ := evX_of h
    obtain ⟨n, h3, h4⟩ := oA_of h2
    obtain ⟨p, h5, h6⟩ := evXO_of h4
    obtain ⟨q, h7, h8, h9⟩ := evXO_of h6
    cases v <;> try exact h9.elim
    · exact ⟨_, by simp only [evalOp, h1, Option.bind_some, sliceA, h3, h5, h7, if_pos h8, cutA], h9⟩
    · exact ⟨_, by simp only [evalOp, h1, Option.bind_some, sliceA, h3, h5, h7, if_pos h8, cutA, if_pos h9.1], h9.2⟩
    · exact ⟨_, by simp only [evalOp, h1, Option.bind_some, sliceA, h3, h5, h7, if_pos h8, cutA], h9⟩
    · exact ⟨_, by simp only [evalOp, h1, Option.bind_some, sliceA, h3, h5, h7, if_pos h8, cutA, if_pos h9.1], h9.2⟩
  case mks T sz bytes zs n =>
    obtain ⟨v, h1, h2⟩ := evX_of h
    cases v <;> try exact h2.elim
    exact ⟨_, by simp only [evalOp, h1, Option.bind_some, if_pos h2.1], h2.2⟩
  case len str x =>
    obtain ⟨v, h1, h2⟩ := evX_of h
    obtain ⟨n, h3, h4⟩ := oA_of h2
    exact ⟨_, by simp only [evalOp, h1, Option.bind_some, h3], h4⟩
  case append T str sz bytes x y =>
    obtain ⟨v, h1, h2⟩ := evX_of h
    obtain ⟨z, h3, h4⟩ := evX_of h2
    cases v <;> try exact h4.elim
    · obtain ⟨ys, h5, h6, h7, h8⟩ := h4
      by_cases he : ys = []
      · exact ⟨_, by simp only [evalOp, h1, h3, Option.bind_some, h5, if_pos he], h7 he⟩
      · exact ⟨_, by simp only [evalOp, h1, h3, Option.bind_some, h5, if_neg he, if_pos h6], h8 he⟩
    · obtain ⟨xs, ys, h5, h6, h7, h8, h9, h10, h11⟩ := h4
      exact ⟨_, by simp only [evalOp, h1, h3, Option.bind_some, h5, h6, if_pos (And.intro h7 (And.intro h8 (And.intro h9 h10)))], h11⟩
    · obtain ⟨ys, h5, h6, h7, h8⟩ := h4
      by_cases he : ys = []
      · exact ⟨_, by simp only [evalOp, h1, h3, Option.bind_some, h5, if_pos he], h7 he⟩
      · exact ⟨_, by simp only [evalOp, h1, h3, Option.bind_some, h5, if_neg he, if_pos h6], h8 he⟩
  case mm mx xs =>
    obtain ⟨vs, h1, h2⟩ := evXs_of h
    obtain ⟨r, h3, h4⟩ := oA_of h2
    exact ⟨_, by simp only [evalOp, h1, Option.bind_some, h3], h4⟩
  case extr x i =>
    obtain ⟨v, h1, h2⟩ := evX_of h
    cases v <;> try exact h2.elim
    obtain ⟨r, h3, h4⟩ := oA_of h2
    exact ⟨_, by simp only [evalOp, h1, Option.bind_some, h3], h4⟩
  case call f xs =>
    obtain ⟨vs, h1, h2⟩ := evXs_of h
    exact ⟨_, by simp only [evalOp, h1, Option.bind_some], h2⟩
  case callv g xs =>
    obtain ⟨c, h1, h2⟩ := evX_of h
    obtain ⟨vs, h3, h4⟩ := evXs_of h2
    cases c <;> try exact h4.elim
    all_goals exact ⟨_, by simp only [evalOp, h1, h3, Option.bind_some], h4⟩
  case mkfn f us xs =>
    obtain ⟨vs, h1, h2⟩ := evXs_of h
    obtain ⟨vs2, h3, h4⟩ := evXs_of h2
    exact ⟨_, by simp only [evalOp, h1, h3, Option.bind_some], h4⟩
  case idu x =>
    obtain ⟨v, h1, h2⟩ := evX_of h
    cases v <;> try exact h2.elim
    · obtain ⟨l, h3, h4, h5, h6⟩ := h2
      exact ⟨_, by simp [evalOp, h1, h3, h4, h5], h6⟩
    · exact ⟨_, by simp only [evalOp, h1, Option.bind_some], h2⟩
  case idf als x =>
    obtain ⟨v, h1, h2⟩ := evX_of h
    cases v <;> try exact h2.elim
    · obtain ⟨l, h3, u, h4, h5, h6, h9⟩ := h2
      subst h4
      exact ⟨_, by simp only [evalOp, h1, Option.bind_some, h3]; exact if_pos ⟨by trivial, h5.1, h5.2, h6⟩, h9⟩
    · exact ⟨_, by simp only [evalOp, h1, Option.bind_some], h2⟩
  case peq neg x y =>
    obtain ⟨v, h1, h2⟩ := evX_of h
    obtain ⟨w, h3, h4⟩ := evX_of h2
    cases v <;> try exact h4.elim
    cases w <;> try exact h4.elim
    exact ⟨_, by simp only [evalOp, h1, h3, Option.bind_some, if_pos h4.1], h4.2⟩
  case sdata x =>
    obtain ⟨v, h1, h2⟩ := evX_of h
    cases v <;> try exact h2.elim
    · exact ⟨_, by simp only [evalOp, h1, Option.bind_some], h2⟩
    · exact ⟨_, by simp only [evalOp, h1, Option.bind_some, if_pos h2.1], h2.2⟩
  case ustr u x n =>
    obtain ⟨v, h1, h2⟩ := evX_of h
    obtain ⟨w, h3, h4⟩ := evX_of h2
    cases v <;> try exact h4.elim
    · cases w <;> try exact h4.elim
      rename_i kd q
      cases kd <;> try exact h4.elim
      obtain ⟨l, b, h5, h6, h7, h8, h9, h10, h11, h12, h13, h14⟩ := h4
      exact ⟨_, by subst h8; subst h9; simp [evalOp, h1, h3, h5, h6, h7, h10, h11, h12, h13], h14⟩
    · cases w <;> try exact h4.elim
      rename_i kd q
      cases kd <;> try exact h4.elim
      exact ⟨_, by simp only [evalOp, h1, h3, Option.bind_some, if_pos h4.1], h4.2⟩
  case nilck x =>
    obtain ⟨v, h1, h2⟩ := evX_of h
    cases v <;> first | exact h2.elim | exact ⟨_, by simp only [evalOp, h1, Option.bind_some], h2⟩
end Go.Proofs.YtjaigpidmngaaaaGreat

namespace Go.Proofs.YtjaigpidmngaaaaGreat
structure bsplit (q : Bool) (k : Bool → Prop) : Prop where
  out : k q
theorem bsplit_intro {q : Bool} {k : Bool → Prop} (h1 : q = true → k true) (h2 : q = false → k false) : bsplit q k := ⟨by cases q with | true => exact h1 rfl | false => exact h2 rfl⟩
theorem bsplit_t {q : Bool} {k : Bool → Prop} (h : q = true) (h1 : k true) : bsplit q k := by rw [h]; exact ⟨h1⟩
theorem bsplit_f {q : Bool} {k : Bool → Prop} (h : q = false) (h1 : k false) : bsplit q k := by rw [h]; exact ⟨h1⟩
theorem bsplit_tt {k : Bool → Prop} (h : k true) : bsplit true k := ⟨h⟩
theorem bsplit_ff {k : Bool → Prop} (h : k false) : bsplit false k := ⟨h⟩
theorem bsplit_dec {p : Prop} [Decidable p] {k : Bool → Prop} (h1 : p → k true) (h2 : ¬ p → k false) : bsplit (decide p) k :=
  bsplit_intro (fun h => h1 (of_decide_eq_true h)) (fun h => h2 (of_decide_eq_false h))
theorem bsplit_pos {p : Prop} [Decidable p] {k : Bool → Prop} (h : p) (h1 : k true) : bsplit (decide p) k := bsplit_t (decide_eq_true h) h1
theorem bsplit_neg {p : Prop} [Decidable p] {k : Bool → Prop} (h : ¬ p) (h1 : k false) : bsplit (decide p) k := bsplit_f (decide_eq_false h) h1
theorem bsplit_not {q : Bool} {k : Bool → Prop} (h : bsplit q fun b => k (!b)) : bsplit (!q) k := ⟨h.out⟩
structure callF (P : Program) (f : Nat) (args : List AV) (H : AH) (K : AV → AH → Prop) : Prop where
  out : callA P f args H K
structure callG (P : Program) (f : Nat) (args : List AV) (H0 D H : AH) (K : AV → AH → AH → Prop) : Prop where
  out : (∃ r, callP P f args H0 r ∧ K r D H) ∨ ∃ id b r b', hget D id = some b ∧ callW P f args H0 id b r b' ∧ K r (hdel D id) (hset H id b')
theorem callF_of {P : Program} {f : Nat} {args : List AV} {H : AH} {K : AV → AH → Prop} (h : ACalls P f args H K) : callF P f args H K := ⟨callA_of h⟩
theorem callF_eq {P : Program} {f : Nat} {args : List AV} {H : AH} {K : AV → AH → Prop} {r : AV} (h : ACalls P f args H fun r' H' => r' = r ∧ H' = H) (k : K r H) : callF P f args H K := ⟨callA_eq h k⟩
theorem callG_eq {P : Program} {f : Nat} {args : List AV} {H0 D H : AH} {K : AV → AH → AH → Prop} {r : AV} (hp : r.plain = true) (h : ACalls P f args H0 fun r' H' => r' = r ∧ H' = H0) (k : K r D H) : callG P f args H0 D H K := ⟨.inl ⟨r, callP_plain hp h, k⟩⟩
theorem callG_no {P : Program} {f : Nat} {args : List AV} {H0 D H : AH} {K : AV → AH → AH → Prop} {r : AV} (hp : NoId r) (h : ACalls P f args H0 fun r' H' => r' = r ∧ H' = H0) (k : K r D H) : callG P f args H0 D H K := ⟨.inl ⟨r, .inl ⟨hp, h⟩, k⟩⟩
theorem FzL.nil (H Hc : AH) : FzL H Hc [] [] := FzL.refl H Hc []
theorem FzL.cons {H Hc : AH} {v v' : AV} {vs vs' : List AV} (h : Fz H Hc v v') (hs : FzL H Hc vs vs') : FzL H Hc (v :: vs) (v' :: vs') := by
  refine ⟨by simp [hs.1], fun i a b h1 h2 => ?_⟩
  cases i with
  | zero => simp at h1 h2; rw [← h1, ← h2]; exact h
  | succ i => exact hs.2 i a b (by simpa using h1) (by simpa using h2)
theorem fz_own {H Hc : AH} {id sz lo hi : Nat} {l : List (List AV)} (hg : hget H id = some (.rows sz l)) (hd : hget Hc id = none) (h1 : lo ≤ hi) (h2 : hi ≤ l.length) (hw : ∀ (i : Nat) r, l[i]? = some r → r.length = sz) :
    Fz H Hc (.own id sz lo hi) (.rows sz ((l.take hi).drop lo)) := by
  have key : ∀ i r', ((l.take hi).drop lo)[i]? = some r' → l[lo + i]? = some r' := by
    intro i r' q
    rw [List.getElem?_drop, List.getElem?_take] at q
    split at q
    · exact q
    · cases q
  refine .own id sz lo hi l _ hg hd h2 h1 (by simp; omega) (fun i r' q => hw _ _ (key i r' q)) fun i r r' j v v' q1 q2 q3 q4 => ?_
  rw [key i r' q2] at q1
  simp only [Option.some.injEq] at q1
  subst q1
  rw [q3] at q4
  simp only [Option.some.injEq] at q4
  subst q4
  exact .refl _
theorem ACalls.args {P : Program} {f : Nat} {args args' : List AV} {H : AH} {K : AV → AH → Prop} (h : ACalls P f args' H K) (hw : ∀ h ρ Z xs, RlL h ρ Z args xs → RlL h ρ Z args' xs) : ACalls P f args H K :=
  ⟨h.1, fun w ρ Z xs g hr => h.2 w ρ Z xs g (hw _ _ _ _ hr)⟩
theorem RlL.nilS {h : Array Obj} {ρ : Loc} {Z : Nat → Prop} {sz : Nat} {pre post : List AV} {xs : List Value} (hr : RlL h ρ Z (pre ++ .nilS :: post) xs) : RlL h ρ Z (pre ++ .rows sz [] :: post) xs := by
  refine ⟨by simpa using hr.1, fun i v x h1 h2 => ?_⟩
  by_cases e : i = pre.length
  · subst e
    have hq := hr.2 pre.length .nilS x (by simp) h2
    simp at h1
    subst h1
    cases hq
    exact .rowsN sz
  · refine hr.2 i v x ?_ h2
    rw [List.getElem?_append] at h1 ⊢
    split at h1
    · rename_i q; rw [if_pos q]; exact h1
    · rename_i q
      rw [if_neg q]
      obtain ⟨k, hk⟩ : ∃ k, i - pre.length = k + 1 := ⟨i - pre.length - 1, by omega⟩
      rw [hk] at h1 ⊢
      simpa using h1
theorem hget_ne_of {H : AH} {i j : Nat} {b : Blk} (h : hget H i = none) (h2 : hget H j = some b) : i ≠ j := fun e => by rw [e, h2] at h; cases h
theorem hget_set {H : AH} {i : Nat} {b c : Blk} (h : hget H i = some b) : hget (hset H i c) i = some c := by rw [hget_hset, if_pos rfl, h]; rfl
theorem hget_set_ne {H : AH} {i j : Nat} {c : Blk} (h : j ≠ i) : hget (hset H i c) j = hget H j := by rw [hget_hset, if_neg h]
theorem hget_del_ne {H : AH} {i j : Nat} (h : j ≠ i) : hget (hdel H i) j = hget H j := by rw [hget_hdel, if_neg h]
theorem hdel_none {H : AH} {i : Nat} (h : hget H i = none) : hdel H i = H := by
  induction H with
  | nil => rfl
  | cons p H ih =>
    obtain ⟨k, d⟩ := p
    simp only [hget] at h
    split at h
    · cases h
    · rename_i e
      simp only [hdel]
      rw [if_neg e, ih h]
theorem hdel_cons {H : AH} {i : Nat} {b : Blk} (h : hget H i = none) : hdel ((i, b) :: H) i = H := by
  simp only [hdel]; rw [if_pos trivial, hdel_none h]
theorem hget_tail {id j : Nat} {b : Blk} {H : AH} (h : j ≠ id) : hget ((j, b) :: H) id = hget H id := by simp only [hget]; rw [if_neg (fun e => h e.symm)]
theorem hset_self {id : Nat} {b c : Blk} {H : AH} : hset ((id, b) :: H) id c = (id, c) :: H := by simp [hset]
theorem hget_fresh {id j : Nat} {b : Blk} {H : AH} (h : hget ((j, b) :: H) id = none) : id ≠ j ∧ hget H id = none := by
  simp only [hget] at h
  split at h
  · cases h
  · rename_i e; exact ⟨e, h⟩
theorem hget_self {id : Nat} {b : Blk} {H : AH} : hget ((id, b) :: H) id = some b := by simp [hget]
structure yldF (P : Program) (id : Nat) (args : List AV) (H : AH) (K : AV → AH → Prop) : Prop where
  out : yldA P id args H K
def applyF (P : Program) (rs : Rs) (d : Option Nat) (L : FL) (H : AH) (K : FL → AH → Prop) : Prop :=
  match rs with
  | .val v => putK L d v fun L => K L H
  | .upd H' => delK L d fun L => K L H'
  | .valH v H' => putK L d v fun L => K L H'
  | .fresh T blk v H' => ∀ id, hget H id = none → tag id = T → putK L d (v id) fun L => K L ((id, blk) :: H')
  | .call f args => callF P f args H fun r H' => putK L d r fun L => K L H'
  | .yield id args => yldF P id args H fun r H' => putK L d r fun L => K L H'
def opFp (L : FL) (H : AH) (co : CO) (k : Rs → Prop) : Prop :=
  match co with
  | .pick c a b => evX L c fun v => match v with
    | .bool q => bsplit q fun q => match q with
      | true => evX L a fun v => k (.val v)
      | false => evX L b fun v => k (.val v)
    | _ => False
  | co => opF L H co k
def opsCons (P : Program) (o : COp) (ih : (FL → AH → Prop) → FL → AH → Prop) (K : FL → AH → Prop) (L : FL) (H : AH) : Prop :=
    match o.guard with
    | none => opFp L H o.co fun rs => applyF P rs o.dst L H (ih K)
    | some (g, want) => match L.get g with
      | some (.bool q) => bsplit q fun b => match b with
        | true => match want with
          | true => opFp ((g, some (.bool true)) :: L) H o.co fun rs => applyF P rs o.dst ((g, some (.bool true)) :: L) H (ih K)
          | false => putK ((g, some (.bool true)) :: L) o.dst (.tup []) fun L => ih K L H
        | false => match want with
          | false => opFp ((g, some (.bool false)) :: L) H o.co fun rs => applyF P rs o.dst ((g, some (.bool false)) :: L) H (ih K)
          | true => putK ((g, some (.bool false)) :: L) o.dst (.tup []) fun L => ih K L H
      | some (.tup []) => putK L o.dst (.tup []) fun L => ih K L H
      | _ => False
noncomputable def wpOpsF (P : Program) (os : List COp) (K : FL → AH → Prop) (L : FL) (H : AH) : Prop :=
  @List.rec COp (fun _ => (FL → AH → Prop) → FL → AH → Prop) (fun K L H => K L H) (fun o _ ih => opsCons P o ih) os K L H
theorem wpOpsF_cons (P : Program) (o : COp) (os : List COp) (K : FL → AH → Prop) (L : FL) (H : AH) : wpOpsF P (o :: os) K L H = opsCons P o (wpOpsF P os) K L H := rfl
noncomputable def slotF (F : List (Nat × Nat × Blk)) (t : Nat) : Option (Nat × Blk) := @List.rec (Nat × Nat × Blk) (fun _ => Option (Nat × Blk)) none (fun p _ ih => match Nat.beq t p.1 with
    | true => some p.2
    | false => ih) F
def addF (F : List (Nat × Nat × Blk)) (d : Option Nat) (id : Nat) (b : Blk) : List (Nat × Nat × Blk) :=
  match d with
  | some d => (d, id, b) :: F
  | none => F
abbrev FF := List (Nat × Nat × Blk)
def drawF (P : Program) (rs : Rs) (d : Option Nat) (L : FL) (H0 D : AH) (F : FF) (H : AH) (K : FL → AH → FF → AH → Prop) : Prop :=
  match rs with
  | .val v => putK L d v fun L => K L D F H
  | .upd _ => False
  | .valH _ _ => False
  | .fresh T blk v H' => H' = H0 ∧ ∀ id, hget H id = none → tag id = T → putK L d (v id) fun L => K L D (addF F d id blk) ((id, blk) :: H)
  | .call f args => callG P f args H0 D H fun r D' H' => putK L d r fun L => K L D' F H'
  | .yield _ _ => False
noncomputable def drawStF (P : Program) (o : COp) (L : FL) (H0 D : AH) (F : FF) (H : AH) (k : FL → AH → FF → AH → Prop) : Prop :=
  match o.co with
  | .store n x y => evX L x fun v => evX L y fun z => match v with
    | .ptr id sz i j => match (match x with | .t t => slotF F t | _ => none) with
      | some p => ∃ l r, hget [p] id = some (.rows sz l) ∧ l[i]? = some r ∧ z.cells.length = n ∧ allCells z.cells = true ∧ j + n ≤ r.length ∧ hsetN H id (.rows sz (l.set i (over r j z.cells))) fun H' => delK L o.dst fun L => k L D [] H'
      | none => ∃ l r, hget D id = some (.rows sz l) ∧ l[i]? = some r ∧ z.cells.length = n ∧ allCells z.cells = true ∧ j + n ≤ r.length ∧ hsetN H id (.rows sz (l.set i (over r j z.cells))) fun H' => delK L o.dst fun L => k L (hdel D id) F H'
    | _ => False
  | co => opFp L H0 co fun rs => drawF P rs o.dst L H0 D F H k
noncomputable def drawCons (P : Program) (o : COp) (ih : (FL → AH → Prop) → FL → AH → AH → FF → AH → Prop) (K : FL → AH → Prop) (L : FL) (H0 D : AH) (F : FF) (H : AH) : Prop :=
    match o.guard with
    | none => drawStF P o L H0 D F H fun L' D' F' H' => ih K L' H0 D' F' H'
    | some (g, want) => match L.get g with
      | some (.bool q) => bsplit q fun b => match b with
        | true => match want with
          | true => drawStF P o ((g, some (.bool true)) :: L) H0 D F H fun L' D' F' H' => ih K L' H0 D' F' H'
          | false => putK ((g, some (.bool true)) :: L) o.dst (.tup []) fun L => ih K L H0 D F H
        | false => match want with
          | false => drawStF P o ((g, some (.bool false)) :: L) H0 D F H fun L' D' F' H' => ih K L' H0 D' F' H'
          | true => putK ((g, some (.bool false)) :: L) o.dst (.tup []) fun L => ih K L H0 D F H
      | some (.tup []) => putK L o.dst (.tup []) fun L => ih K L H0 D F H
      | _ => False
noncomputable def wpDrawF (P : Program) (os : List COp) (K : FL → AH → Prop) (L : FL) (H0 D : AH) (F : FF) (H : AH) : Prop :=
  @List.rec COp (fun _ => (FL → AH → Prop) → FL → AH → AH → FF → AH → Prop) (fun K L _ _ _ H => K L H) (fun o _ ih => drawCons P o ih) os K L H0 D F H
noncomputable def stId (L : FL) (o : COp) : Option Nat :=
  match o.co with
  | .store _ x _ => match x with
    | .t k => match L.get k with
      | some (.ptr id _ _ _) => some id
      | _ => none
    | _ => none
  | _ => none
structure hdelK (H : AH) (id : Nat) (k : AH → Prop) : Prop where
  out : k (hdel H id)
theorem hdelK_any {H : AH} {id : Nat} {k : AH → Prop} (h : k (hdel H id)) : hdelK H id k := ⟨h⟩
theorem hdelK_top {H : AH} {id : Nat} {b : Blk} {k : AH → Prop} (hn : hget H id = none) (h : k H) : hdelK ((id, b) :: H) id k := ⟨by rw [hdel_cons hn]; exact h⟩
theorem hdelK_down {T : AH} {i id : Nat} {c : Blk} {k : AH → Prop} (h : i ≠ id) (h2 : hdelK T id fun T' => k ((i, c) :: T')) : hdelK ((i, c) :: T) id k :=
  ⟨by rw [show hdel ((i, c) :: T) id = (i, c) :: hdel T id from by simp only [hdel]; rw [if_neg (fun e => h e.symm)]]; exact h2.out⟩
noncomputable def withD (L : FL) (os : List COp) (k : AH → AH → Prop) (H0 D : AH) : Prop :=
  @List.rec COp (fun _ => AH → AH → Prop) k (fun o _ ih H0 D => match stId L o with
    | some id => ∃ b, hget H0 id = some b ∧ hdelK H0 id fun H0' => ih H0' ((id, b) :: D)
    | none => ih H0 D) os H0 D
theorem withD_of {L : FL} {k : AH → AH → Prop} {H : AH} : ∀ (os : List COp) (H0 D : AH), Sub H0 H → Sub D H → (∀ id b, hget D id = some b → hget H0 id = none) → withD L os k H0 D → ∃ H0 D, Sub H0 H ∧ Sub D H ∧ (∀ id b, hget D id = some b → hget H0 id = none) ∧ k H0 D
  | [], H0, D, h1, h2, h3, h => ⟨H0, D, h1, h2, h3, h⟩
  | o :: os, H0, D, h1, h2, h3, h => by
    have h' : (match stId L o with
      | some id => ∃ b, hget H0 id = some b ∧ hdelK H0 id fun H0' => withD L os k H0' ((id, b) :: D)
      | none => withD L os k H0 D) := h
    split at h'
    · rename_i id _
      obtain ⟨b, hb, h'⟩ := h'
      replace h' := h'.out
      refine withD_of os (hdel H0 id) ((id, b) :: D) (fun j c q => ?_) (fun j c q => ?_) (fun j c q => ?_) h'
      · rw [hget_hdel] at q
        split at q
        · cases q
        · exact h1 _ _ q
      · simp only [hget] at q
        split at q
        · rename_i e; subst e; rw [← q]; exact h1 _ _ hb
        · exact h2 _ _ q
      · simp only [hget] at q
        rw [hget_hdel]
        split at q
        · rename_i e; rw [if_pos e]
        · rename_i e; rw [if_neg e]; exact h3 _ _ q
    · exact withD_of os H0 D h1 h2 h3 h'
structure drawD (L : FL) (os : List COp) (k : AH → AH → Prop) (H : AH) : Prop where
  out : ∃ H0 D, Sub H0 H ∧ Sub D H ∧ (∀ id b, hget D id = some b → hget H0 id = none) ∧ k H0 D
theorem dAuto {L : FL} {os : List COp} {k : AH → AH → Prop} {H : AH} (h : withD L os k H []) : drawD L os k H := ⟨withD_of os H [] (fun _ _ q => q) (fun _ _ q => by cases q) (fun _ _ q => by cases q) h⟩
theorem dPick {L : FL} {os : List COp} {k : AH → AH → Prop} {H : AH} {id : Nat} {b : Blk} (hb : hget H id = some b) (h : hdelK H id fun H0 => withD L os k H0 [(id, b)]) : drawD L os k H :=
  ⟨withD_of os (hdel H id) [(id, b)] (fun j c q => by
    rw [hget_hdel] at q
    split at q
    · cases q
    · exact q) (fun j c q => by
    simp only [hget] at q
    split at q
    · rename_i e; subst e; rw [← q]; exact hb
    · cases q) (fun j c q => by
    simp only [hget] at q
    split at q
    · rename_i e; rw [hget_hdel, if_pos e]
    · cases q) h.out⟩
theorem wpDrawF_cons (P : Program) (o : COp) (os : List COp) (K : FL → AH → Prop) (L : FL) (H0 D : AH) (F : FF) (H : AH) : wpDrawF P (o :: os) K L H0 D F H = drawCons P o (wpDrawF P os) K L H0 D F H := rfl
def thenF (next : FL → AH → Prop) (Q : Exit → FL → AH → Prop) : Exit → FL → AH → Prop
  | .normal, L, H => next L H
  | e, L, H => Q e L H
def blockF (id : Nat) (Q : Exit → FL → AH → Prop) : Exit → FL → AH → Prop
  | .exit id', L, H => match Nat.beq id' id with
    | true => Q .normal L H
    | false => Q (.exit id') L H
  | e, L, H => Q e L H
def jumpF (l : Nat) (J : FL → AH → Prop) (Q : Exit → FL → AH → Prop) : Exit → FL → AH → Prop
  | .goto l', L, H => l' = l ∧ J L H
  | e, L, H => Q e L H
def isJoin : C → Bool
  | .cond _ _ _ => true
  | .block _ _ => true
  | .scope _ => true
  | .label _ => true
  | .seq _ b => isJoin b
  | _ => false
def WeakF (J : FL → AH → Prop) (L : FL) (H : AH) : Prop := ∃ M Hk, coversZ H Hk M L ∧ Sub Hk H ∧ J M Hk
abbrev WF := Option Nat → (Exit → FL → AH → Prop) → FL → AH → Prop
def fSeq (a : C) (jn : Bool) (iha ihb : WF) : WF
  | none, Q, L, H => match jn with
    | true => (iha none (thenF (ihb none Q) Q) L H ∨ ∃ J : FL → AH → Prop, iha none (thenF (WeakF J) Q) L H ∧ ∀ M Hk, J M Hk → ihb none Q M Hk) ∨
        ∃ M Hk, iha none (thenF (fun L' H' => coversZ H' Hk M L' ∧ Sub Hk H') Q) L H ∧ ihb none Q M Hk
    | false => iha none (thenF (ihb none Q) Q) L H
  | some l, Q, L, H => match hasL a l with
    | true => iha (some l) (thenF (ihb none Q) Q) L H
    | false => ihb (some l) Q L H
def fCond (x : X) (iha ihb : WF) : WF
  | none, Q, L, H => evX L x fun v => match v with
    | .bool q => bsplit q fun q => match q with
      | true => iha none Q L H
      | false => ihb none Q L H
    | _ => False
  | some _, _, _, _ => False
def fBlock (id : Nat) (ih : WF) : WF
  | none, Q, L, H => ih none (blockF id Q) L H
  | some _, _, _, _ => False
def fLoop (ih : WF) : WF
  | none, Q, L, H => ∃ I : Nat → FL → AH → Prop, WeakF (fun M Hk => ∃ n, I n M Hk) L H ∧
      ∀ n L H, I n L H → ih none (thenF (WeakF fun L' H' => ∃ m, m < n ∧ I m L' H') Q) L H
  | some _, _, _, _ => False
def fScope (ih : WF) : WF
  | none, Q, L, H => ∃ (l n0 : Nat) (I : Nat → FL → AH → Prop), ih none (jumpF l (WeakF fun L' H' => ∃ m, m < n0 ∧ I m L' H') Q) L H ∧
      ∀ n L H, I n L H → ih (some l) (jumpF l (WeakF fun L' H' => ∃ m, m < n ∧ I m L' H') Q) L H
  | some _, _, _, _ => False
structure rangeS (P : Program) (f : Nat) (first caps : List AV) (ps : List Nat) (ca cb : C) (L : FL) (H : AH) (Q : Exit → FL → AH → Prop) : Prop where
  out : ∀ (a b : Code) (fl : List Nat) (N lid : Nat), comp P fl a = ca → comp P fl b = cb → (dstsOk N ca && dstsOk N cb && ps.all fun p => decide (p < N)) = true → hget H lid = none →
      ACalls P f (first ++ [.yld lid] ++ caps) ((lid, .loop ⟨ps, a, b, N, frm L, .ready⟩) :: H) fun _ H' => ∃ st H1, Sub H1 (hdel H' lid) ∧ hget H' lid = some (.loop ⟨ps, a, b, N, frm L, st⟩) ∧ match st with
        | .ready => Q .normal L H1
        | .done .ret => Q .ret L H1
        | .done (.exit id) => Q (.exit id) L H1
        | _ => False
def fRange (P : Program) (g : X) (ps : List Nat) (ca cb : C) : WF
  | none, Q, L, H => evX L g fun v => match v with
    | .clo f first caps => rangeS P f first caps ps ca cb L H Q
    | _ => False
  | some _, _, _, _ => False
def fEnd (e : Exit) : WF
  | none, Q, L, H => Q e L H
  | some _, _, _, _ => False
def fLabel (l' : Nat) : WF
  | none, Q, L, H => Q .normal L H
  | some l, Q, L, H => l' = l ∧ Q .normal L H
def fReg (k : (FL → AH → Prop) → FL → AH → Prop) : WF
  | none, Q, L, H => k (Q .normal) L H
  | some _, _, _, _ => False
noncomputable def wpF (P : Program) (c : C) : WF :=
  @C.rec (fun _ => WF)
    (fEnd .normal)
    (fun ops => fReg (wpOpsF P ops))
    (fun pre post => fReg fun K L H => drawD L pre (fun H0 D => wpDrawF P pre (fun L' H' => wpOpsF P post K L' H') L H0 D [] H) H)
    (fun a _ iha ihb => fSeq a (isJoin a) iha ihb)
    (fun x _ _ iha ihb => fCond x iha ihb)
    (fun id _ ih => fBlock id ih)
    (fun _ ih => fLoop ih)
    (fun id => fEnd (.exit id))
    (fun _ ih => fScope ih)
    (fun l => fLabel l)
    (fun l => fEnd (.goto l))
    (fEnd .ret)
    (fun g ps a b _ _ => fRange P g ps a b)
    (fun _ _ _ _ => False) c
section
variable (P : Program) (Q : Exit → FL → AH → Prop) (L : FL) (H : AH)
theorem wpF_reg (ops : List COp) : wpF P (.reg ops) none Q L H = wpOpsF P ops (Q .normal) L H := rfl
theorem wpF_dreg (pre post : List COp) : wpF P (.dreg pre post) none Q L H = drawD L pre (fun H0 D => wpDrawF P pre (fun L' H' => wpOpsF P post (Q .normal) L' H') L H0 D [] H) H := rfl
theorem wpF_seq (a b : C) (lb : Option Nat) : wpF P (.seq a b) lb Q L H = fSeq a (isJoin a) (wpF P a) (wpF P b) lb Q L H := rfl
theorem wpF_cond (x : X) (a b : C) (lb : Option Nat) : wpF P (.cond x a b) lb Q L H = fCond x (wpF P a) (wpF P b) lb Q L H := rfl
theorem wpF_block (id : Nat) (b : C) (lb : Option Nat) : wpF P (.block id b) lb Q L H = fBlock id (wpF P b) lb Q L H := rfl
theorem wpF_loop (b : C) (lb : Option Nat) : wpF P (.loop b) lb Q L H = fLoop (wpF P b) lb Q L H := rfl
theorem wpF_rangeF (g : X) (ps : List Nat) (a b : C) (lb : Option Nat) : wpF P (.rangeF g ps a b) lb Q L H = fRange P g ps a b lb Q L H := rfl
theorem wpF_scope (b : C) (lb : Option Nat) : wpF P (.scope b) lb Q L H = fScope (wpF P b) lb Q L H := rfl
end
section
variable {P : Program}
theorem opFp_of {L : FL} {H : AH} {co : CO} {k : Rs → Prop} (h : opFp L H co k) : ∃ rs, evalOp (frm L) H co = some rs ∧ k rs := by
  cases co
  case pick c a b =>
    obtain ⟨v, h1, h2⟩ := evX_of h
    cases v <;> try exact h2.elim
    rename_i q
    replace h2 := h2.out
    cases q with
    | true => obtain ⟨u, h3, h4⟩ := evX_of h2; exact ⟨_, by simp only [evalOp, h1, h3, Option.bind_some, if_true], h4⟩
    | false => obtain ⟨u, h3, h4⟩ := evX_of h2; exact ⟨_, by simp only [evalOp, h1, h3, Option.bind_some, Bool.false_eq_true, if_false], h4⟩
  all_goals exact opF_of h
theorem frm_same {L : FL} {g : Nat} {v : AV} (h : L.get g = some v) : frm ((g, some v) :: L) = frm L := by
  funext t
  simp only [frm, FL.get_cons]
  split
  · rename_i e; rw [e, h]
  · rfl
theorem applyF_of {rs : Rs} {d : Option Nat} {L : FL} {H : AH} {K : FL → AH → Prop} {K' : Fr → AH → Prop} (hk : ∀ L H, K L H → K' (frm L) H) (h : applyF P rs d L H K) : applyRs P rs d (frm L) H K' := by
  cases rs with
  | val v => simp only [applyF, applyRs, putK_eq, delK_eq] at h ⊢; rw [← frm_put]; exact hk _ _ h
  | upd H' => simp only [applyF, applyRs, putK_eq, delK_eq] at h ⊢; rw [← frm_del]; exact hk _ _ h
  | valH v H' => simp only [applyF, applyRs, putK_eq, delK_eq] at h ⊢; rw [← frm_put]; exact hk _ _ h
  | fresh T blk vf H' => simp only [applyF, applyRs, putK_eq, delK_eq] at h ⊢; intro id hid ht; rw [← frm_put]; exact hk _ _ (h id hid ht)
  | call f args =>
    simp only [applyF, applyRs, putK_eq, delK_eq] at h ⊢
    obtain ⟨a', Hc, h1, h2, h3⟩ := h.out
    refine ⟨a', Hc, h1, h2, ?_⟩
    rcases h3 with h3 | h3
    · exact .inl (h3.mono fun r H' q => by rw [← frm_put]; exact hk _ _ q)
    · exact .inr (h3.mono fun r H' q => ⟨q.1, by show K' ((frm L).put d r) H; rw [← frm_put]; exact hk _ _ q.2⟩)
  | yield id args =>
    simp only [applyF, applyRs, putK_eq, delK_eq] at h ⊢
    obtain ⟨Hs, h1, h2⟩ := h.out
    exact ⟨Hs, h1, h2.mono fun r Hs' ⟨H', q1, q2⟩ => ⟨H', q1, by show K' ((frm L).put d r) H'; rw [← frm_put]; exact hk _ _ q2⟩⟩
theorem wpOpsF_of {K : FL → AH → Prop} {K' : Fr → AH → Prop} (hk : ∀ L H, K L H → K' (frm L) H) : ∀ (os : List COp) (L : FL) (H : AH), wpOpsF P os K L H → wpOps P os K' (frm L) H
  | [], L, H, h => hk L H h
  | o :: os, L, H, h => by
    have run : ∀ L H, (opFp L H o.co fun rs => applyF P rs o.dst L H (wpOpsF P os K)) → OA (evalOp (frm L) H o.co) fun rs => applyRs P rs o.dst (frm L) H (wpOps P os K') := by
      intro L H h
      obtain ⟨rs, h1, h2⟩ := opFp_of h
      rw [h1]
      exact applyF_of (fun L H q => wpOpsF_of hk os L H q) h2
    simp only [wpOpsF_cons, opsCons, putK_eq] at h
    simp only [wpOps]
    split at h
    · rename_i hg
      rw [hg]
      exact run L H h
    · rename_i g want hg
      rw [hg]
      simp only
      split at h
      · rename_i q hq
        refine .inl ⟨q, hq, fun e => ?_, fun e => ?_⟩
        · subst e
          replace h := h.out
          rw [← frm_same hq]
          cases q <;> exact run _ H h
        · replace h := h.out
          rw [← frm_same hq, ← frm_put]
          cases q <;> cases want <;> simp at e <;> exact wpOpsF_of hk os _ H h
      · rename_i hq
        refine .inr ⟨hq, ?_⟩
        rw [← frm_put]
        exact wpOpsF_of hk os _ H h
      · exact h.elim
structure OkF (Ff : FF) (F H : AH) : Prop where
  sub : ∀ t p, slotF Ff t = some p → hget F p.1 = some p.2
  own : ∀ id b, hget F id = some b → ∃ c, hget H id = some c
theorem OkF.add {Ff : FF} {F H : AH} (h : OkF Ff F H) {d : Option Nat} {id : Nat} {b : Blk} (hid : hget H id = none) : OkF (addF Ff d id b) ((id, b) :: F) ((id, b) :: H) := by
  have old : ∀ t p, slotF Ff t = some p → hget ((id, b) :: F) p.1 = some p.2 := fun t p q => by
    have := h.sub t p q
    simp only [hget]
    rw [if_neg (fun e => by obtain ⟨c, hc⟩ := h.own _ _ this; rw [e, hid] at hc; cases hc)]
    exact this
  refine ⟨fun t p q => ?_, fun id2 b2 q => ?_⟩
  · cases d with
    | none => exact old t p q
    | some d =>
      have q' : (match Nat.beq t d with | true => some (id, b) | false => slotF Ff t) = some p := q
      split at q'
      · simp only [Option.some.injEq] at q'
        subst q'
        simp [hget]
      · exact old t p q'
  · simp only [hget] at q ⊢
    split at q
    · rename_i e; rw [if_pos e]; exact ⟨_, rfl⟩
    · rename_i e; rw [if_neg e]; exact h.own _ _ q
theorem OkF.set {Ff : FF} {F H : AH} (h : OkF Ff F H) (id : Nat) (b : Blk) : OkF Ff F (hset H id b) := ⟨h.sub, fun id2 b2 q => by
  obtain ⟨c, hc⟩ := h.own _ _ q
  rw [hget_hset]
  split
  · rename_i e; rw [← e, hc]; exact ⟨_, rfl⟩
  · exact ⟨c, hc⟩⟩
theorem OkF.fin {Ff : FF} {F H : AH} (h : OkF Ff F H) (id i : Nat) (b : Blk) : OkF [] (hdel F i) (hset H id b) := ⟨fun t p q => (by cases q), fun id2 b2 q => by
  rw [hget_hdel] at q
  split at q
  · cases q
  · exact (h.set id b).own _ _ q⟩
theorem drawStF_of {o : COp} {L : FL} {H0 D : AH} {Ff : FF} {F H : AH} (hF : OkF Ff F H) {k : FL → AH → FF → AH → Prop} {k' : Fr → AH → AH → AH → Prop} (hk : ∀ L D Ff F H, OkF Ff F H → k L D Ff H → k' (frm L) D F H) (h : drawStF P o L H0 D Ff H k) : drawSt P o (frm L) H0 D F H k' := by
  have other : (opFp L H0 o.co fun rs => drawF P rs o.dst L H0 D Ff H k) → drawSt P o (frm L) H0 D F H k' := by
    intro h
    obtain ⟨rs, h1, h2⟩ := opFp_of h
    cases rs with
    | val v =>
      refine .inl ?_
      rw [h1]
      simp only [drawF, OA, drawRs, putK_eq] at h2 ⊢; rw [← frm_put]; exact hk _ _ _ _ _ hF h2
    | upd H' => exact h2.elim
    | valH v H' => exact h2.elim
    | yield _ _ => exact h2.elim
    | fresh T blk vf H' =>
      refine .inl ?_
      rw [h1]
      simp only [drawF, OA, drawRs, putK_eq] at h2 ⊢; exact ⟨h2.1, fun id hid ht => by rw [← frm_put]; exact hk _ _ _ _ _ (hF.add hid) (h2.2 id hid ht)⟩
    | call f args =>
      simp only [drawF, putK_eq] at h2
      rcases h2.out with ⟨r, q1, q2⟩ | ⟨id, b, r, b', q1, q2, q3⟩
      · refine .inl ?_
        rw [h1]
        simp only [OA, drawRs]
        exact ⟨r, q1, by rw [← frm_put]; exact hk _ _ _ _ _ hF q2⟩
      · exact .inr (.inr (.inl ⟨f, args, id, b, r, b', h1, q1, q2, by rw [← frm_put]; exact hk _ _ _ _ _ (hF.set id b') q3⟩))
  simp only [drawStF, delK_eq] at h
  split at h
  · rename_i n x y hco
    obtain ⟨v, h1, h2⟩ := evX_of h
    obtain ⟨z, h3, h4⟩ := evX_of h2
    cases v <;> try exact h4.elim
    rename_i id sz i j
    simp only at h4
    split at h4
    · rename_i p hp
      cases x with
      | t t =>
        obtain ⟨l, r, q1, q2, q3, q4, q5, q6⟩ := h4
        replace q6 := q6.out
        have hp' : slotF Ff t = some p := hp
        have hg := hF.sub t p hp'
        have e : p.1 = id ∧ p.2 = .rows sz l := by
          simp only [hget] at q1
          split at q1
          · rename_i e; simp only [Option.some.injEq] at q1; exact ⟨by rw [e], q1⟩
          · cases q1
        rw [e.1, e.2] at hg
        refine .inr (.inr (.inr ⟨id, .rows sz l, hset [(id, .rows sz l)] id (.rows sz (l.set i (over r j z.cells))), .rows sz (l.set i (over r j z.cells)), t, sz, i, j, h1, ?_, hg, ?_, ?_, by rw [← frm_del]; exact hk _ _ _ _ _ (hF.fin id id _) q6⟩))
        · simp [COp.looks, hco, CO.looks, X.looks]
        · rw [hco]
          simp only [evalOp, h1, h3, Option.bind_some, hget, if_true, q2]
          simp [q3, q4, q5]
        · simp [hset, hget]
      | _ => cases hp
    · obtain ⟨l, r, q1, q2, q3, q4, q5, q6⟩ := h4
      replace q6 := q6.out
      refine .inr (.inl ⟨id, .rows sz l, hset [(id, .rows sz l)] id (.rows sz (l.set i (over r j z.cells))), .rows sz (l.set i (over r j z.cells)), q1, ?_, ?_, by rw [← frm_del]; exact hk _ _ _ _ _ (hF.set id _) q6⟩)
      · rw [hco]
        simp only [evalOp, h1, h3, Option.bind_some, hget, if_true, q2]
        simp [q3, q4, q5]
      · simp [hset, hget]
  · exact other h
theorem wpDrawF_of {K : FL → AH → Prop} {K' : Fr → AH → Prop} (hk : ∀ L H, K L H → K' (frm L) H) : ∀ (os : List COp) (L : FL) (H0 D : AH) (Ff : FF) (F H : AH), OkF Ff F H → wpDrawF P os K L H0 D Ff H → wpDraw P os K' (frm L) H0 D F H
  | [], L, H0, D, Ff, F, H, _, h => hk L H h
  | o :: os, L, H0, D, Ff, F, H, hF, h => by
    have run : ∀ L D Ff F H, OkF Ff F H → (drawStF P o L H0 D Ff H fun L' D' F' H' => wpDrawF P os K L' H0 D' F' H') → drawSt P o (frm L) H0 D F H fun s' D' F' H' => wpDraw P os K' s' H0 D' F' H' :=
      fun L D Ff F H hF h => drawStF_of hF (fun L D Ff F H hF q => wpDrawF_of hk os L H0 D Ff F H hF q) h
    simp only [wpDrawF_cons, drawCons, putK_eq] at h
    simp only [wpDraw]
    split at h
    · rename_i hg
      rw [hg]
      exact run L D Ff F H hF h
    · rename_i g want hg
      rw [hg]
      simp only
      split at h
      · rename_i q hq
        refine .inl ⟨q, hq, fun e => ?_, fun e => ?_⟩
        · subst e
          replace h := h.out
          rw [← frm_same hq]
          cases q <;> exact run _ D Ff F H hF h
        · replace h := h.out
          rw [← frm_same hq, ← frm_put]
          cases q <;> cases want <;> simp at e <;> exact wpDrawF_of hk os _ H0 D Ff F H hF h
      · rename_i hq
        refine .inr ⟨hq, ?_⟩
        rw [← frm_put]
        exact wpDrawF_of hk os _ H0 D Ff F H hF h
      · exact h.elim
theorem SubFr.refl (s : Fr) : SubFr s s := fun _ _ h => h
theorem WeakF.of {J : FL → AH → Prop} {L : FL} {H : AH} (h : WeakF J L H) : Weak (fun s H => ∃ L, s = frm L ∧ J L H) (frm L) H :=
  let ⟨M, Hk, h1, h2, h3⟩ := h
  ⟨frm M, Hk, coversZ_sub M L h1, h2, M, rfl, h3⟩
theorem wpF_of : ∀ (c : C) (lb : Option Nat) (Q : Exit → FL → AH → Prop) (Q' : Exit → Fr → AH → Prop) (L : FL) (H : AH), (∀ e L H, Q e L H → Q' e (frm L) H) → wpF P c lb Q L H → wpA P c lb Q' (frm L) H := by
  have then_ : ∀ (K : FL → AH → Prop) (K' : Fr → AH → Prop) (Q : Exit → FL → AH → Prop) (Q' : Exit → Fr → AH → Prop), (∀ L H, K L H → Weak K' (frm L) H) → (∀ e L H, Q e L H → Q' e (frm L) H) → ∀ e L H, thenF K Q e L H → thenA K' Q' e (frm L) H := by
    intro K K' Q Q' hk hq e L H h
    cases e with
    | normal => exact hk _ _ h
    | _ => exact hq _ _ _ h
  have block_ : ∀ id (Q : Exit → FL → AH → Prop) (Q' : Exit → Fr → AH → Prop), (∀ e L H, Q e L H → Q' e (frm L) H) → ∀ e L H, blockF id Q e L H → blockA id Q' e (frm L) H := by
    intro id Q Q' hq e L H h
    cases e with
    | exit id' =>
      simp only [blockF] at h
      simp only [blockA]
      split at h
      · rename_i e1; rw [if_pos (Nat.eq_of_beq_eq_true e1)]; exact hq _ _ _ h
      · rename_i e1; rw [if_neg (fun q => by rw [q, Nat.beq_refl] at e1; cases e1)]; exact hq _ _ _ h
    | _ => exact hq _ _ _ h
  have jump_ : ∀ l J J' (Q : Exit → FL → AH → Prop) (Q' : Exit → Fr → AH → Prop), (∀ L H, J L H → J' (frm L) H) → (∀ e L H, Q e L H → Q' e (frm L) H) → ∀ e L H, jumpF l J Q e L H → jumpA l J' Q' e (frm L) H := by
    intro l J J' Q Q' hj hq e L H h
    cases e with
    | goto l' => exact ⟨h.1, hj _ _ h.2⟩
    | _ => exact hq _ _ _ h
  have self : ∀ (K : Fr → AH → Prop) s H, K s H → Weak K s H := fun K s H h => ⟨s, H, (SubFr.refl s).fz, Sub.refl H, h⟩
  intro c
  induction c with
  | seq a b iha ihb =>
    intro lb Q Q' L H hq h
    cases lb with
    | none =>
      simp only [wpF_seq, fSeq] at h
      simp only [wpA]
      have plain : wpF P a none (thenF (wpF P b none Q) Q) L H → wpA P a none (thenA (wpA P b none Q') Q') (frm L) H :=
        iha none _ _ L H (then_ _ _ _ _ (fun L H q => self _ _ _ (ihb none _ _ L H hq q)) hq)
      split at h
      · rcases h with (h | ⟨J, h1, h2⟩) | ⟨M, Hk, h1, h2⟩
        · exact plain h
        · refine iha none _ _ L H (then_ _ _ _ _ (fun L' H' q => ?_) hq) h1
          obtain ⟨M, Hk, q1, q2, q3⟩ := q
          exact ⟨frm M, Hk, coversZ_sub M L' q1, q2, ihb none _ _ M Hk hq (h2 M Hk q3)⟩
        · exact iha none _ _ L H (then_ _ _ _ _ (fun L' H' q => ⟨frm M, Hk, coversZ_sub M L' q.1, q.2, ihb none _ _ M Hk hq h2⟩) hq) h1
      · exact plain h
    | some l =>
      simp only [wpF_seq, fSeq] at h
      simp only [wpA]
      split at h
      · rename_i e1; rw [if_pos e1]; exact iha _ _ _ L H (then_ _ _ _ _ (fun L H q => self _ _ _ (ihb none _ _ L H hq q)) hq) h
      · rename_i e1; rw [if_neg (by rw [e1]; simp)]; exact ihb _ _ _ L H hq h
  | cond x a b iha ihb =>
    intro lb Q Q' L H hq h
    cases lb with
    | none =>
      simp only [wpF_cond, fCond] at h
      simp only [wpA]
      obtain ⟨v, h1, h2⟩ := evX_of h
      cases v <;> try exact h2.elim
      rename_i q
      replace h2 := h2.out
      refine ⟨q, h1, fun e => ?_, fun e => ?_⟩
      · subst e; exact iha _ _ _ L H hq h2
      · subst e; exact ihb _ _ _ L H hq h2
    | some l => exact h.elim
  | block id b ih =>
    intro lb Q Q' L H hq h
    cases lb with
    | none => simp only [wpF_block, fBlock] at h; simp only [wpA]; exact ih _ _ _ L H (block_ id _ _ hq) h
    | some l => exact h.elim
  | loop b ih =>
    intro lb Q Q' L H hq h
    cases lb with
    | none =>
      simp only [wpF_loop, fLoop] at h
      simp only [wpA]
      obtain ⟨I, h1, h2⟩ := h
      refine ⟨fun n s H => ∃ L, s = frm L ∧ I n L H, ?_, fun n s H ⟨L, e, hi⟩ => ?_⟩
      · obtain ⟨s', H', q1, q2, L', e, n, q3⟩ := h1.of
        exact ⟨s', H', q1, q2, n, L', e, q3⟩
      · subst e
        refine ih _ _ _ L H (then_ _ _ _ _ (fun L' H' q => ?_) hq) (h2 n L H hi)
        obtain ⟨s', H2, q1, q2, L2, e, m, q3, q4⟩ := q.of
        exact ⟨s', H2, q1, q2, m, q3, L2, e, q4⟩
    | some l => exact h.elim
  | scope b ih =>
    intro lb Q Q' L H hq h
    cases lb with
    | none =>
      simp only [wpF_scope, fScope] at h
      simp only [wpA]
      obtain ⟨l, n0, I, h1, h2⟩ := h
      refine ⟨l, fun n s H => ∃ L, s = frm L ∧ I n L H, ?_, fun n s H ⟨L, e, hi⟩ => ?_⟩
      · refine ih _ _ _ L H (jump_ _ _ _ _ _ (fun L' H' q => ?_) hq) h1
        obtain ⟨s', H2, q1, q2, L2, e, m, _, q3⟩ := q.of
        exact ⟨s', H2, q1, q2, m, L2, e, q3⟩
      · subst e
        refine ih _ _ _ L H (jump_ _ _ _ _ _ (fun L' H' q => ?_) hq) (h2 n L H hi)
        obtain ⟨s', H2, q1, q2, L2, e, m, q3, q4⟩ := q.of
        exact ⟨s', H2, q1, q2, m, q3, L2, e, q4⟩
    | some l => exact h.elim
  | reg os =>
    intro lb Q Q' L H hq h
    cases lb with
    | none => rw [wpF_reg] at h; simp only [wpA]; exact wpOpsF_of (fun L H q => hq _ _ _ q) os L H h
    | some l => exact h.elim
  | dreg pre post =>
    intro lb Q Q' L H hq h
    cases lb with
    | none =>
      rw [wpF_dreg] at h
      simp only [wpA]
      obtain ⟨H0, D, h1, h2, h3, h4⟩ := h.out
      exact ⟨H0, D, h1, h2, h3, wpDrawF_of (fun L H q => wpOpsF_of (fun L H q => hq _ _ _ q) post L H q) pre L H0 D [] [] H ⟨fun t p q => by (cases q), fun id b q => by (cases q)⟩ h4⟩
    | some l => exact h.elim
  | rangeF g ps a b _ _ =>
    intro lb Q Q' L H hq h
    cases lb with
    | none =>
      rw [wpF_rangeF] at h
      simp only [wpA]
      obtain ⟨v, h1, h2⟩ := evX_of h
      cases v <;> try exact h2.elim
      refine ⟨_, _, _, h1, fun a b fl N lid q1 q2 q3 q4 => (h2.out a b fl N lid q1 q2 q3 q4).mono fun r H' ⟨st, H1, k1, k2, k3⟩ => ⟨st, H1, k1, k2, ?_⟩⟩
      cases st with
      | ready => exact hq _ _ _ k3
      | busy => exact k3.elim
      | done c =>
        cases c with
        | ret => exact hq _ _ _ k3
        | exit id => exact hq _ _ _ k3
        | _ => exact k3.elim
    | some l => exact h.elim
  | label l' =>
    intro lb Q Q' L H hq h
    cases lb with
    | none => exact hq _ _ _ h
    | some l => exact ⟨h.1, hq _ _ _ h.2⟩
  | _ =>
    intro lb Q Q' L H hq h
    cases lb with
    | none => first | exact hq _ _ _ h | exact h.elim
    | some l => exact h.elim
end
/-! ### Results, over lists -/
def resF1 (L : FL) (H : AH) (r : CRes) (k : AV → Prop) : Prop :=
  match r with
  | .t n => match L.get n with
    | some v => k v
    | none => False
  | .cell n sz => match L.get n with
    | some (.ptr id z i j) => ∃ l r, hget H id = some (.rows z l) ∧ l[i]? = some r ∧ oA (partA (r.drop j) 0 sz) k
    | _ => False
  | .bad => False
def resFs (L : FL) (H : AH) : List CRes → (List AV → Prop) → Prop
  | [], k => k []
  | r :: rs, k => resF1 L H r fun v => resFs L H rs fun vs => k (v :: vs)
def endF (rs : List CRes) (K : AV → AH → Prop) : Exit → FL → AH → Prop
  | .normal, L, H => resFs L H rs fun vs => match vs with | [v] => K v H | vs => K (.tup vs) H
  | .ret, L, H => resFs L H rs fun vs => match vs with | [v] => K v H | vs => K (.tup vs) H
  | _, _, _ => False
theorem resFs_of {L : FL} {H : AH} : ∀ {rs : List CRes} {k : List AV → Prop}, resFs L H rs k → ∃ vs, resL (frm L) H rs = some vs ∧ k vs
  | [], k, h => ⟨[], rfl, h⟩
  | r :: rs, k, h => by
    have one : ∃ v, resOne (frm L) H r = some v ∧ resFs L H rs fun vs => k (v :: vs) := by
      simp only [resFs] at h
      cases r with
      | t n =>
        simp only [resF1] at h
        split at h
        · rename_i v hv; exact ⟨v, hv, h⟩
        · exact h.elim
      | cell n sz =>
        simp only [resF1] at h
        split at h
        · rename_i id z i j hv
          obtain ⟨l, r, h1, h2, h3⟩ := h
          obtain ⟨v, h4, h5⟩ := oA_of h3
          refine ⟨v, ?_, h5⟩
          have : frm L n = some (.ptr id z i j) := hv
          simp only [resOne, this, Option.bind_some, readA, h1, if_true, h2, Option.map_some, h4]
        · exact h.elim
      | bad => exact h.elim
    obtain ⟨v, h1, h2⟩ := one
    obtain ⟨vs, h3, h4⟩ := resFs_of h2
    exact ⟨v :: vs, by simp only [resL, h1, h3, Option.bind_some], h4⟩
theorem endF_of {rs : List CRes} {K : AV → AH → Prop} : ∀ e L H, endF rs K e L H → endA rs K e (frm L) H := by
  have fin : ∀ L H, (resFs L H rs fun vs => match vs with | [v] => K v H | vs => K (.tup vs) H) → OA (resA (frm L) H rs) fun r => K r H := by
    intro L H h
    obtain ⟨vs, h1, h2⟩ := resFs_of h
    rw [OA_iff]
    simp only [resA, h1, Option.bind_some]
    split
    · exact ⟨_, rfl, h2⟩
    · rename_i hne
      refine ⟨_, rfl, ?_⟩
      split at h2
      · rename_i v; exact absurd rfl (hne v)
      · exact h2
  intro e L H h
  cases e with
  | normal => exact fin L H h
  | ret => exact fin L H h
  | _ => exact h.elim
def argsL : Nat → List AV → FL
  | _, [] => []
  | n, v :: vs => (n, some v) :: argsL (n + 1) vs
theorem argsL_get : ∀ (vs : List AV) (n t : Nat), (argsL n vs).get t = if n ≤ t then vs[t - n]? else none
  | [], n, t => by simp only [argsL]; rw [show FL.get [] t = none from rfl]; simp
  | v :: vs, n, t => by
    rw [argsL, FL.get_cons, argsL_get vs (n + 1) t]
    by_cases h1 : t = n
    · subst h1; simp
    · rw [if_neg h1]
      by_cases h2 : n ≤ t
      · rw [if_pos (by omega), if_pos h2, show t - n = (t - (n + 1)) + 1 from by omega]
        simp
      · rw [if_neg (by omega), if_neg h2]
theorem initFr_frm (vs : List AV) : initFr vs = frm (argsL 0 vs) := by
  funext t
  simp [initFr, frm, argsL_get]
theorem wpF_start {P : Program} {c : C} {rs : List CRes} {K : AV → AH → Prop} {args : List AV} {H : AH} (h : wpF P c none (endF rs K) (argsL 0 args) H) : wpA P c none (endA rs K) (initFr args) H := by
  rw [initFr_frm]
  exact wpF_of c none _ _ _ H endF_of h
/-! ### Rounds, over lists -/
def putsL : List Nat → List AV → FL → FL
  | p :: ps, v :: vs, L => putsL ps vs ((p, some v) :: L)
  | _, _, L => L
theorem putsL_frm : ∀ (ps : List Nat) (vs : List AV) (L : FL), frm (putsL ps vs L) = setPs (frm L) ps vs
  | [], vs, L => by cases vs <;> rfl
  | p :: ps, [], L => rfl
  | p :: ps, v :: vs, L => by rw [putsL, putsL_frm ps vs, setPs, frm_set]
def roundF (lid : Nat) (L : LoopB) (K : AV → AH → Prop) : Exit → FL → AH → Prop
  | .normal, _, H => hget H lid = some (.loop { L with st := .busy }) ∧ hsetK H lid (.loop { L with st := .ready }) fun H => K (.bool true) H
  | .ret, _, H => hget H lid = some (.loop { L with st := .busy }) ∧ hsetK H lid (.loop { L with st := .done .ret }) fun H => K (.bool false) H
  | .exit id, _, H => hget H lid = some (.loop { L with st := .busy }) ∧ hsetK H lid (.loop { L with st := .done (.exit id) }) fun H => K (.bool false) H
  | _, _, _ => False
def assignF (P : Program) (lid : Nat) (L : LoopB) (cb : C) (K : AV → AH → Prop) : Exit → FL → AH → Prop
  | .normal, L', H => hget H lid = some (.loop L) ∧ hsetK H lid (.loop { L with st := .busy }) fun H => wpF P cb none (roundF lid L K) L' H
  | _, _, _ => False
theorem AYields.of_bodyF {P : Program} {ps : List Nat} {a b : Code} {fl : List Nat} {N lid : Nat} {L : FL} {ca cb : C} {args : List AV} {H : AH} {K : AV → AH → Prop} (hm : P.follows .mixedOrders = true) (ha : comp P fl a = ca) (hb : comp P fl b = cb)
    (hd : (dstsOk N ca && dstsOk N cb && ps.all fun p => decide (p < N)) = true) (hfa : flatC ca = true) (hfb : flatC cb = true) (hl : args.length = ps.length) (hid : hget H lid = some (.loop ⟨ps, a, b, N, frm L, .ready⟩))
    (h : wpF P ca none (assignF P lid ⟨ps, a, b, N, frm L, .ready⟩ cb K) (putsL ps args L) H) : AYields P lid args H K := by
  refine AYields.of_body hm ha hb hd hfa hfb hl hid ?_
  rw [← putsL_frm]
  refine wpF_of ca none _ _ _ H (fun e L' H' q => ?_) h
  cases e with
  | normal =>
    refine ⟨frm L', H', (SubFr.refl _).fz, Sub.refl _, q.1, wpF_of cb none _ _ _ _ (fun e L2 H2 q2 => ?_) q.2.out⟩
    cases e with
    | normal => exact ⟨q2.1, q2.2.out⟩
    | ret => exact ⟨q2.1, q2.2.out⟩
    | exit id => exact ⟨q2.1, q2.2.out⟩
    | _ => exact q2.elim
  | _ => exact q.elim
theorem yldF_of {P : Program} {id : Nat} {args : List AV} {H Hs : AH} {K K' : AV → AH → Prop} (h : AYields P id args Hs K') (hs : Sub Hs H)
    (k : ∀ r Hs', K' r Hs' → ∃ H', (∀ j b, hget H' j = some b → hget Hs' j = some b ∨ (hget H j = some b ∧ hget Hs j = none)) ∧ K r H') : yldF P id args H K := ⟨Hs, hs, h.mono k⟩
end Go.Proofs.YtjaigpidmngaaaaGreat

namespace Go.Proofs.YtjaigpidmngaaaaGreat
inductive Nw : AV → AV → Prop
  | refl (v : AV) : Nw v v
  | nil (sz : Nat) : Nw .nilS (.rows sz [])
  | agg (cs cs' : List AV) (hl : cs.length = cs'.length) (h : ∀ (i : Nat) v v', cs[i]? = some v → cs'[i]? = some v' → Nw v v') : Nw (.agg cs) (.agg cs')
  | rows (sz : Nat) (l l' : List (List AV)) (hl : l.length = l'.length) (hw : ∀ (i : Nat) r r', l[i]? = some r → l'[i]? = some r' → r.length = r'.length)
      (h : ∀ (i : Nat) r r' (j : Nat) v v', l[i]? = some r → l'[i]? = some r' → r[j]? = some v → r'[j]? = some v' → Nw v v') : Nw (.rows sz l) (.rows sz l')
  | fp (cs cs' : List AV) (hl : cs.length = cs'.length) (h : ∀ (i : Nat) v v', cs[i]? = some v → cs'[i]? = some v' → Nw v v') : Nw (.fp cs) (.fp cs')
theorem Nw.cell {v v' : AV} (h : Nw v v') : v'.isCell = v.isCell := by cases h <;> rfl
theorem Nw.rl {v v' : AV} (hn : Nw v v') : ∀ {h : Array Obj} {ρ : Loc} {Z : Nat → Prop} {x : Value}, Rl h ρ Z v x → Rl h ρ Z v' x := by
  induction hn with
  | refl v => exact fun h => h
  | nil sz => intro h ρ Z x hr; cases hr; exact .rowsN sz
  | agg cs cs' hl hp ih =>
    intro h ρ Z x hr
    cases hr with
    | agg _ vs h1 h2 h3 =>
      refine .agg cs' vs (by omega) (fun i v q => ?_) (fun i v y q1 q2 => ?_)
      · obtain ⟨a, ha⟩ := get_same hl q
        rw [(hp i a v ha q).cell]; exact h2 i a ha
      · obtain ⟨a, ha⟩ := get_same hl q1
        exact ih i a v ha q1 (h3 i a y ha q2)
  | rows sz l l' hl hw hp ih =>
    intro h ρ Z x hr
    cases hr with
    | rows _ _ b o n c f hn hnc hz hw2 hcc hm hr =>
      refine .rows sz l' b o n c f (by omega) hnc hz (fun i r q => ?_) (fun i r j v q1 q2 => ?_) (fun i r j v q1 q2 => ?_) (fun i r j v q1 q2 => ?_)
      · obtain ⟨a, ha⟩ := get_same hl q
        rw [← hw i a r ha q]; exact hw2 i a ha
      · obtain ⟨a, ha⟩ := get_same hl q1
        obtain ⟨u, hu⟩ := get_same (hw i a r ha q1) q2
        rw [(hp i a r j u v ha q1 hu q2).cell]; exact hcc i a j u ha hu
      · obtain ⟨a, ha⟩ := get_same hl q1
        obtain ⟨u, hu⟩ := get_same (hw i a r ha q1) q2
        exact hm i a j u ha hu
      · obtain ⟨a, ha⟩ := get_same hl q1
        obtain ⟨u, hu⟩ := get_same (hw i a r ha q1) q2
        exact ih i a r j u v ha q1 hu q2 (hr i a j u ha hu)
    | rowsN _ =>
      have : l' = [] := List.eq_nil_of_length_eq_zero hl.symm
      subst this; exact .rowsN sz
    | rowsE _ a c =>
      have : l' = [] := List.eq_nil_of_length_eq_zero hl.symm
      subst this; exact .rowsE sz a c
  | fp cs cs' hl hp ih =>
    intro h ρ Z x hr
    cases hr with
    | fp _ b o f hz hcc hm hr =>
      refine .fp cs' b o f (fun q => hz (by omega)) (fun i v q => ?_) (fun i v q => ?_) (fun i v q => ?_)
      · obtain ⟨a, ha⟩ := get_same hl q
        rw [(hp i a v ha q).cell]; exact hcc i a ha
      · obtain ⟨a, ha⟩ := get_same hl q
        exact hm i a ha
      · obtain ⟨a, ha⟩ := get_same hl q
        exact ih i a v ha q (hr i a ha)
theorem hset_tail {id j : Nat} {b c : Blk} {H : AH} (h : j ≠ id) : hset ((j, b) :: H) id c = (j, b) :: hset H id c := by simp only [hset]; rw [if_neg (fun e => h e.symm)]
def NwL (l l' : List AV) : Prop := l.length = l'.length ∧ ∀ (i : Nat) v v', l[i]? = some v → l'[i]? = some v' → Nw v v'
theorem NwL.refl (l : List AV) : NwL l l := ⟨rfl, fun i v v' h1 h2 => by rw [h1] at h2; cases h2; exact .refl _⟩
theorem NwL.cons {v v' : AV} {l l' : List AV} (h : Nw v v') (hs : NwL l l') : NwL (v :: l) (v' :: l') := by
  refine ⟨by simp [hs.1], fun i a b h1 h2 => ?_⟩
  cases i with
  | zero => simp at h1 h2; rw [← h1, ← h2]; exact h
  | succ i => exact hs.2 i a b (by simpa using h1) (by simpa using h2)
theorem NwL.append {a a' b b' : List AV} (h1 : NwL a a') (h2 : NwL b b') : NwL (a ++ b) (a' ++ b') := by
  refine ⟨by simp [h1.1, h2.1], fun i v v' q1 q2 => ?_⟩
  rw [List.getElem?_append] at q1 q2
  rw [← h1.1] at q2
  split at q1 <;> rename_i hlt
  · rw [if_pos hlt] at q2; exact h1.2 i v v' q1 q2
  · rw [if_neg hlt] at q2; exact h2.2 _ v v' q1 q2
theorem ACalls.nw {P : Program} {f : Nat} {args args' : List AV} {H : AH} {K : AV → AH → Prop} (h : ACalls P f args' H K) (hn : NwL args args') : ACalls P f args H K :=
  h.args fun h ρ Z xs hr => ⟨by rw [← hn.1]; exact hr.1, fun i v x q1 q2 => by
    obtain ⟨a, ha⟩ := get_same hn.1 q1
    exact (hn.2 i a v ha q1).rl (hr.2 i a x ha q2)⟩
def Sh.OkN : Sh → List AV → Prop
  | .int k, vs => ∃ n, vs = [.int k n] ∧ (Lit.int k n).wf = true
  | .bool, vs => ∃ b, vs = [.bool b]
  | .str, vs => ∃ l : List UInt8, vs = [.str l] ∧ l.length ≤ 140737488351232
  | .u, vs => vs = []
  | .p a b, vs => ∃ x y, vs = x ++ y ∧ a.OkN x ∧ b.OkN y
  | .slice sz bytes e, vs => ∃ l, vs = [.rows sz l] ∧ l.length * bytes ≤ 140737488351232 ∧ ∀ r ∈ l, e.OkN r
  | .ptr e, vs => vs = [.nilP] ∨ ∃ r, vs = [.fp r] ∧ e.OkN r
  | .no, _ => False
theorem Sh.Ok.nonil : ∀ {sh : Sh} {vs : List AV}, sh.Ok vs → ∃ vs', NwL vs vs' ∧ sh.OkN vs'
  | .int k, vs, h => ⟨vs, .refl _, h⟩
  | .bool, vs, h => ⟨vs, .refl _, h⟩
  | .str, vs, h => ⟨vs, .refl _, h⟩
  | .u, vs, h => ⟨vs, .refl _, h⟩
  | .p a b, vs, h => by
    obtain ⟨x, y, rfl, h1, h2⟩ := h
    obtain ⟨x', q1, q2⟩ := Sh.Ok.nonil (sh := a) h1
    obtain ⟨y', q3, q4⟩ := Sh.Ok.nonil (sh := b) h2
    exact ⟨x' ++ y', q1.append q3, x', y', rfl, q2, q4⟩
  | .slice sz bytes e, vs, h => by
    rcases h with rfl | ⟨l, rfl, hb, he⟩
    · exact ⟨[.rows sz []], .cons (.nil sz) (.refl _), [], rfl, by simp, by simp⟩
    · obtain ⟨l', q1, q2⟩ := exists_list l.length (Q := fun i r' => ∃ r, l[i]? = some r ∧ NwL r r' ∧ e.OkN r') (fun i hi => by
        obtain ⟨r', a1, a2⟩ := Sh.Ok.nonil (sh := e) (he _ (List.getElem_mem hi))
        exact ⟨r', _, List.getElem?_eq_getElem hi, a1, a2⟩)
      refine ⟨[.rows sz l'], .cons (.rows sz l l' q1.symm (fun i r r' a1 a2 => ?_) (fun i r r' j v v' a1 a2 a3 a4 => ?_)) (.refl _), l', rfl, by rw [q1]; exact hb, fun r' hr => ?_⟩
      · obtain ⟨r0, b1, b2, _⟩ := q2 i r' a2
        rw [a1] at b1; cases b1; exact b2.1
      · obtain ⟨r0, b1, b2, _⟩ := q2 i r' a2
        rw [a1] at b1; cases b1; exact b2.2 j v v' a3 a4
      · obtain ⟨i, hi⟩ := List.getElem?_of_mem hr
        obtain ⟨_, _, _, b3⟩ := q2 i r' hi
        exact b3
  | .no, vs, h => h.elim
  | .ptr e, vs, h => by
    rcases h with rfl | ⟨r, rfl, he⟩
    · exact ⟨_, .refl _, .inl rfl⟩
    · obtain ⟨r', q1, q2⟩ := Sh.Ok.nonil (sh := e) he
      exact ⟨[.fp r'], .cons (.fp r r' q1.1 q1.2) (.refl _), .inr ⟨r', rfl, q2⟩⟩
def ArgOkN (agg : Bool) (sh : Sh) (av : AV) : Prop :=
  match agg with
  | true => ∃ vs, av = .agg vs ∧ sh.OkN vs
  | false => sh.OkN [av]
theorem ArgOk.nonil {agg : Bool} {sh : Sh} {av : AV} (h : ArgOk agg sh av) : ∃ av', ArgOkN agg sh av' ∧ Nw av av' := by
  cases agg with
  | true =>
    obtain ⟨vs, rfl, h⟩ := h
    obtain ⟨vs', q1, q2⟩ := h.nonil
    exact ⟨.agg vs', ⟨vs', rfl, q2⟩, .agg vs vs' q1.1 q1.2⟩
  | false =>
    obtain ⟨vs', q1, q2⟩ := Sh.Ok.nonil (sh := sh) h
    match vs', q1, q2 with
    | [v'], q1, q2 => exact ⟨v', q2, q1.2 0 av v' rfl rfl⟩
    | [], q1, _ => have := q1.1; simp at this
    | _ :: _ :: _, q1, _ => have := q1.1; simp at this
theorem tdiv_nn {a b : Int} (h1 : 0 ≤ a) (h2 : 0 < b) : a.tdiv b = a / b ∧ 0 ≤ a / b ∧ a / b ≤ a := by
  refine ⟨Int.tdiv_eq_ediv_of_nonneg h1, Int.ediv_nonneg h1 (by omega), Int.ediv_le_self _ h1⟩
theorem tmod_nn {a b : Int} (h1 : 0 ≤ a) (h2 : 0 < b) : a.tmod b = a % b ∧ 0 ≤ a % b ∧ a % b < b := 
  ⟨Int.tmod_eq_emod_of_nonneg h1, Int.emod_nonneg _ (by omega), Int.emod_lt_of_pos _ h2⟩
theorem rng_quo_u64 {a b : Int} {k : Int → Prop} (h1 : 0 ≤ a) (h2 : a ≤ 18446744073709551615) (h3 : 0 < b) (h : k (a / b)) : rng (IntKind.wrap .u64 (a.tdiv b)) k := by
  obtain ⟨e, e1, e2⟩ := tdiv_nn h1 h3
  rw [e]; exact rng_u64 e1 (by omega) h
theorem rng_quo_i64 {a b : Int} {k : Int → Prop} (h1 : 0 ≤ a) (h2 : a ≤ 9223372036854775807) (h3 : 0 < b) (h : k (a / b)) : rng (IntKind.wrap .i64 (a.tdiv b)) k := by
  obtain ⟨e, e1, e2⟩ := tdiv_nn h1 h3
  rw [e]; exact rng_i64 (by omega) (by omega) h
theorem rng_rem_u64 {a b : Int} {k : Int → Prop} (h1 : 0 ≤ a) (h2 : b ≤ 18446744073709551615) (h3 : 0 < b) (h : k (a % b)) : rng (IntKind.wrap .u64 (a.tmod b)) k := by
  obtain ⟨e, e1, e2⟩ := tmod_nn h1 h3
  rw [e]; exact rng_u64 e1 (by omega) h
theorem rng_rem_i64 {a b : Int} {k : Int → Prop} (h1 : 0 ≤ a) (h2 : b ≤ 9223372036854775807) (h3 : 0 < b) (h : k (a % b)) : rng (IntKind.wrap .i64 (a.tmod b)) k := by
  obtain ⟨e, e1, e2⟩ := tmod_nn h1 h3
  rw [e]; exact rng_i64 (by omega) (by omega) h
theorem ACalls.frame {P : Program} {f : Nat} {args : List AV} {K : AV → Prop} (h : ACalls P f args [] fun r _ => K r) (H : AH) : ACalls P f args H fun r H' => K r ∧ H' = H := by
  refine ⟨h.1, fun w ρ Z xs hg hr => (h.2 w ρ Z xs (hg.forget fun _ _ q => by cases q) hr).mono fun e w' ⟨x, r, H', ρ', Z', a, g, c, d, k⟩ => ?_⟩
  obtain ⟨q1, q2⟩ := hg.frame (fun _ _ q => by cases q) d g (HS' := H) fun id b q => .inr ⟨q, rfl⟩
  exact ⟨x, r, H, ρ', Z', a, q1, c, q2, k, rfl⟩
end Go.Proofs.YtjaigpidmngaaaaGreat

namespace Go.Proofs.YtjaigpidmngaaaaGreat
def neAll : AH → Nat → Prop
  | [], _ => True
  | (i, _) :: H, j => j ≠ i ∧ neAll H j
theorem neAll_of {H : AH} {j : Nat} (h : hget H j = none) : neAll H j := by
  induction H with
  | nil => trivial
  | cons p H ih =>
    obtain ⟨i, b⟩ := p
    obtain ⟨a, c⟩ := hget_fresh h
    exact ⟨a, ih c⟩
theorem hget_none {H : AH} {j : Nat} (h : neAll H j) : hget H j = none := by
  induction H with
  | nil => rfl
  | cons p H ih =>
    obtain ⟨i, b⟩ := p
    exact (hget_tail (fun e => h.1 e.symm)).trans (ih h.2)
theorem neAll_hset {H : AH} {i j : Nat} {b : Blk} : neAll (hset H i b) j ↔ neAll H j := by
  induction H with
  | nil => exact Iff.rfl
  | cons p H ih =>
    obtain ⟨k, c⟩ := p
    simp only [hset]
    split
    · simp only [neAll]
    · simp only [neAll, ih]
structure Hid (k : Prop) : Prop where
  o : k
theorem hg_of {H : AH} {id : Nat} {b : Option Blk} (h : hget H id = b := by repeat (first | (with_reducible refine Eq.trans hget_self ?_; exact rfl) | with_reducible assumption | (with_reducible refine Eq.trans (hget_tail ?_) ?_; next => first | with_reducible assumption | (apply Ne.symm; with_reducible assumption) | omega) | (with_reducible refine Eq.trans (hget_set ?_) ?_; rotate_left; exact rfl) | (with_reducible refine Eq.trans (hget_set_ne ?_) ?_; next => first | with_reducible assumption | (apply Ne.symm; with_reducible assumption) | omega) | (with_reducible refine Eq.trans (hget_del_ne ?_) ?_; next => first | with_reducible assumption | (apply Ne.symm; with_reducible assumption) | omega) | exact hget_self | assumption | apply hget_set)) : hget H id = b := h
theorem cov_of {p : Prop} (h : p := by repeat (first | exact trivial | refine And.intro (Or.inl rfl) ?_ | refine And.intro (Or.inr (Exists.intro _ (And.intro rfl (Fz.refl _)))) ?_ | refine And.intro (Or.inr (Exists.intro _ (And.intro rfl (fz_eq (congrArg (AV.int _) (by omega)))))) ?_ | refine And.intro (Or.inr (Exists.intro _ (And.intro rfl (fz_eq (congrArg (AV.own _ _ _) (by (try dsimp only); (try simp only [List.length_append, List.length_map, List.length_cons, List.length_nil, List.length_take, List.length_set, List.length_replicate]); (try dsimp only); first | done | omega)))))) ?_)) : p := h
theorem au {k g : Prop} (h : k) (t : Hid k → g := by intro hk; (repeat ((conv => whnf); first | refine Or.inl ?_ | refine dAuto ?_ | (apply Exists.intro; apply Exists.intro; refine And.intro ?_ ?_; (next => repeat (first | (with_reducible refine Eq.trans hget_self ?_; exact rfl) | with_reducible assumption | (with_reducible refine Eq.trans (hget_tail ?_) ?_; next => first | with_reducible assumption | (apply Ne.symm; with_reducible assumption) | omega) | (with_reducible refine Eq.trans (hget_set ?_) ?_; rotate_left; exact rfl) | (with_reducible refine Eq.trans (hget_set_ne ?_) ?_; next => first | with_reducible assumption | (apply Ne.symm; with_reducible assumption) | omega) | (with_reducible refine Eq.trans (hget_del_ne ?_) ?_; next => first | with_reducible assumption | (apply Ne.symm; with_reducible assumption) | omega) | exact hget_self | assumption | apply hget_set)); refine And.intro (Eq.refl (some _)) ?_) | refine Exists.intro _ (And.intro rfl (And.intro rfl ?_)) | (refine And.intro ?_ ?_; next => first | omega | (dsimp only; omega) | exact rfl | exact Nat.le_of_ble_eq_true rfl | (exact ⟨by omega, by omega⟩) | decide | (simp only [List.length_append, List.length_cons, List.length_nil, List.length_map]; omega)) | (refine rng_i64 ?_ ?_ ?_; (next => first | omega | (dsimp only; omega)); (next => first | omega | (dsimp only; omega))) | (refine rng_u8 ?_ ?_ ?_; (next => first | omega | (dsimp only; omega)); (next => first | omega | (dsimp only; omega))) | (refine rng_u64 ?_ ?_ ?_; (next => first | omega | (dsimp only; omega)); (next => first | omega | (dsimp only; omega))) | (refine rng_quo_u64 ?_ ?_ ?_ ?_; (next => first | omega | (dsimp only; omega)); (next => first | omega | (dsimp only; omega)); (next => first | omega | (dsimp only; omega))) | (refine rng_quo_i64 ?_ ?_ ?_ ?_; (next => first | omega | (dsimp only; omega)); (next => first | omega | (dsimp only; omega)); (next => first | omega | (dsimp only; omega))) | (refine rng_rem_u64 ?_ ?_ ?_ ?_; (next => first | omega | (dsimp only; omega)); (next => first | omega | (dsimp only; omega)); (next => first | omega | (dsimp only; omega))) | (refine rng_rem_i64 ?_ ?_ ?_ ?_; (next => first | omega | (dsimp only; omega)); (next => first | omega | (dsimp only; omega)); (next => first | omega | (dsimp only; omega))) | refine bsplit_tt ?_ | refine bsplit_ff ?_ | refine bsplit_not ?_ | (refine bsplit_pos ?_ ?_; (next => first | omega | (dsimp only; omega))) | (refine bsplit_neg ?_ ?_; (next => first | omega | (dsimp only; omega))) | (apply Exists.intro; refine And.intro ?_ ?_; next => repeat (first | (with_reducible refine Eq.trans hget_self ?_; exact rfl) | with_reducible assumption | (with_reducible refine Eq.trans (hget_tail ?_) ?_; next => first | with_reducible assumption | (apply Ne.symm; with_reducible assumption) | omega) | (with_reducible refine Eq.trans (hget_set ?_) ?_; rotate_left; exact rfl) | (with_reducible refine Eq.trans (hget_set_ne ?_) ?_; next => first | with_reducible assumption | (apply Ne.symm; with_reducible assumption) | omega) | (with_reducible refine Eq.trans (hget_del_ne ?_) ?_; next => first | with_reducible assumption | (apply Ne.symm; with_reducible assumption) | omega) | exact hget_self | assumption | apply hget_set)) | (apply hsetN_of; next => (try simp only [over, List.set_cons_zero, List.set_cons_succ, List.take_zero, List.take_succ_cons, List.take_nil, List.drop_zero, List.drop_succ_cons, List.drop_nil, List.nil_append, List.cons_append, List.append_nil, AV.cells, List.length_cons, List.length_nil, Nat.zero_add, Nat.add_zero, Nat.reduceAdd]); exact rfl) | (refine hdelK_top ?_ ?_; next => first | with_reducible assumption | (refine hget_none ?_; (repeat' apply And.intro) <;> first | omega | exact True.intro | assumption)) | (refine hdelK_down ?_ ?_; next => first | with_reducible assumption | (apply Ne.symm; with_reducible assumption) | omega) | refine hdelK_any ?_ | refine hsetK_top ?_ | (refine hsetK_down ?_ ?_; next => first | with_reducible assumption | (apply Ne.symm; with_reducible assumption) | omega) | refine hsetK_any ?_ )); (conv => whnf); exact hk.o) : g := t ⟨h⟩
theorem au0 {g : Prop} (t : g := by (repeat ((conv => whnf); first | refine Or.inl ?_ | refine dAuto ?_ | (apply Exists.intro; apply Exists.intro; refine And.intro ?_ ?_; (next => repeat (first | (with_reducible refine Eq.trans hget_self ?_; exact rfl) | with_reducible assumption | (with_reducible refine Eq.trans (hget_tail ?_) ?_; next => first | with_reducible assumption | (apply Ne.symm; with_reducible assumption) | omega) | (with_reducible refine Eq.trans (hget_set ?_) ?_; rotate_left; exact rfl) | (with_reducible refine Eq.trans (hget_set_ne ?_) ?_; next => first | with_reducible assumption | (apply Ne.symm; with_reducible assumption) | omega) | (with_reducible refine Eq.trans (hget_del_ne ?_) ?_; next => first | with_reducible assumption | (apply Ne.symm; with_reducible assumption) | omega) | exact hget_self | assumption | apply hget_set)); refine And.intro (Eq.refl (some _)) ?_) | refine Exists.intro _ (And.intro rfl (And.intro rfl ?_)) | (refine And.intro ?_ ?_; next => first | omega | (dsimp only; omega) | exact rfl | exact Nat.le_of_ble_eq_true rfl | (exact ⟨by omega, by omega⟩) | decide | (simp only [List.length_append, List.length_cons, List.length_nil, List.length_map]; omega)) | (refine rng_i64 ?_ ?_ ?_; (next => first | omega | (dsimp only; omega)); (next => first | omega | (dsimp only; omega))) | (refine rng_u8 ?_ ?_ ?_; (next => first | omega | (dsimp only; omega)); (next => first | omega | (dsimp only; omega))) | (refine rng_u64 ?_ ?_ ?_; (next => first | omega | (dsimp only; omega)); (next => first | omega | (dsimp only; omega))) | (refine rng_quo_u64 ?_ ?_ ?_ ?_; (next => first | omega | (dsimp only; omega)); (next => first | omega | (dsimp only; omega)); (next => first | omega | (dsimp only; omega))) | (refine rng_quo_i64 ?_ ?_ ?_ ?_; (next => first | omega | (dsimp only; omega)); (next => first | omega | (dsimp only; omega)); (next => first | omega | (dsimp only; omega))) | (refine rng_rem_u64 ?_ ?_ ?_ ?_; (next => first | omega | (dsimp only; omega)); (next => first | omega | (dsimp only; omega)); (next => first | omega | (dsimp only; omega))) | (refine rng_rem_i64 ?_ ?_ ?_ ?_; (next => first | omega | (dsimp only; omega)); (next => first | omega | (dsimp only; omega)); (next => first | omega | (dsimp only; omega))) | refine bsplit_tt ?_ | refine bsplit_ff ?_ | refine bsplit_not ?_ | (refine bsplit_pos ?_ ?_; (next => first | omega | (dsimp only; omega))) | (refine bsplit_neg ?_ ?_; (next => first | omega | (dsimp only; omega))) | (apply Exists.intro; refine And.intro ?_ ?_; next => repeat (first | (with_reducible refine Eq.trans hget_self ?_; exact rfl) | with_reducible assumption | (with_reducible refine Eq.trans (hget_tail ?_) ?_; next => first | with_reducible assumption | (apply Ne.symm; with_reducible assumption) | omega) | (with_reducible refine Eq.trans (hget_set ?_) ?_; rotate_left; exact rfl) | (with_reducible refine Eq.trans (hget_set_ne ?_) ?_; next => first | with_reducible assumption | (apply Ne.symm; with_reducible assumption) | omega) | (with_reducible refine Eq.trans (hget_del_ne ?_) ?_; next => first | with_reducible assumption | (apply Ne.symm; with_reducible assumption) | omega) | exact hget_self | assumption | apply hget_set)) | (apply hsetN_of; next => (try simp only [over, List.set_cons_zero, List.set_cons_succ, List.take_zero, List.take_succ_cons, List.take_nil, List.drop_zero, List.drop_succ_cons, List.drop_nil, List.nil_append, List.cons_append, List.append_nil, AV.cells, List.length_cons, List.length_nil, Nat.zero_add, Nat.add_zero, Nat.reduceAdd]); exact rfl) | (refine hdelK_top ?_ ?_; next => first | with_reducible assumption | (refine hget_none ?_; (repeat' apply And.intro) <;> first | omega | exact True.intro | assumption)) | (refine hdelK_down ?_ ?_; next => first | with_reducible assumption | (apply Ne.symm; with_reducible assumption) | omega) | refine hdelK_any ?_ | refine hsetK_top ?_ | (refine hsetK_down ?_ ?_; next => first | with_reducible assumption | (apply Ne.symm; with_reducible assumption) | omega) | refine hsetK_any ?_ )); (conv => whnf); (first | done | fail)) : g := t
theorem ah {k g : Prop} (h : k) (t : Hid k → g := by intro hk; (repeat ((conv => whnf); first | refine Or.inl ?_ | refine dAuto ?_ | (apply Exists.intro; apply Exists.intro; refine And.intro ?_ ?_; (next => repeat (first | (with_reducible refine Eq.trans hget_self ?_; exact rfl) | with_reducible assumption | (with_reducible refine Eq.trans (hget_tail ?_) ?_; next => first | with_reducible assumption | (apply Ne.symm; with_reducible assumption) | omega) | (with_reducible refine Eq.trans (hget_set ?_) ?_; rotate_left; exact rfl) | (with_reducible refine Eq.trans (hget_set_ne ?_) ?_; next => first | with_reducible assumption | (apply Ne.symm; with_reducible assumption) | omega) | (with_reducible refine Eq.trans (hget_del_ne ?_) ?_; next => first | with_reducible assumption | (apply Ne.symm; with_reducible assumption) | omega) | exact hget_self | assumption | apply hget_set)); refine And.intro (Eq.refl (some _)) ?_) | refine Exists.intro _ (And.intro rfl (And.intro rfl ?_)) | (refine And.intro ?_ ?_; next => first | omega | (dsimp only; omega) | exact rfl | exact Nat.le_of_ble_eq_true rfl | (exact ⟨by omega, by omega⟩) | decide | (simp only [List.length_append, List.length_cons, List.length_nil, List.length_map]; omega)) | (refine rng_i64 ?_ ?_ ?_; (next => first | omega | (dsimp only; omega)); (next => first | omega | (dsimp only; omega))) | (refine rng_u8 ?_ ?_ ?_; (next => first | omega | (dsimp only; omega)); (next => first | omega | (dsimp only; omega))) | (refine rng_u64 ?_ ?_ ?_; (next => first | omega | (dsimp only; omega)); (next => first | omega | (dsimp only; omega))) | (refine rng_quo_u64 ?_ ?_ ?_ ?_; (next => first | omega | (dsimp only; omega)); (next => first | omega | (dsimp only; omega)); (next => first | omega | (dsimp only; omega))) | (refine rng_quo_i64 ?_ ?_ ?_ ?_; (next => first | omega | (dsimp only; omega)); (next => first | omega | (dsimp only; omega)); (next => first | omega | (dsimp only; omega))) | (refine rng_rem_u64 ?_ ?_ ?_ ?_; (next => first | omega | (dsimp only; omega)); (next => first | omega | (dsimp only; omega)); (next => first | omega | (dsimp only; omega))) | (refine rng_rem_i64 ?_ ?_ ?_ ?_; (next => first | omega | (dsimp only; omega)); (next => first | omega | (dsimp only; omega)); (next => first | omega | (dsimp only; omega))) | refine bsplit_tt ?_ | refine bsplit_ff ?_ | refine bsplit_not ?_ | (refine bsplit_pos ?_ ?_; (next => first | omega | (dsimp only; omega))) | (refine bsplit_neg ?_ ?_; (next => first | omega | (dsimp only; omega))) | (apply Exists.intro; refine And.intro ?_ ?_; next => repeat (first | (with_reducible refine Eq.trans hget_self ?_; exact rfl) | with_reducible assumption | (with_reducible refine Eq.trans (hget_tail ?_) ?_; next => first | with_reducible assumption | (apply Ne.symm; with_reducible assumption) | omega) | (with_reducible refine Eq.trans (hget_set ?_) ?_; rotate_left; exact rfl) | (with_reducible refine Eq.trans (hget_set_ne ?_) ?_; next => first | with_reducible assumption | (apply Ne.symm; with_reducible assumption) | omega) | (with_reducible refine Eq.trans (hget_del_ne ?_) ?_; next => first | with_reducible assumption | (apply Ne.symm; with_reducible assumption) | omega) | exact hget_self | assumption | apply hget_set)) | (apply hsetN_of; next => (try simp only [over, List.set_cons_zero, List.set_cons_succ, List.take_zero, List.take_succ_cons, List.take_nil, List.drop_zero, List.drop_succ_cons, List.drop_nil, List.nil_append, List.cons_append, List.append_nil, AV.cells, List.length_cons, List.length_nil, Nat.zero_add, Nat.add_zero, Nat.reduceAdd]); exact rfl) | (refine hdelK_top ?_ ?_; next => first | with_reducible assumption | (refine hget_none ?_; (repeat' apply And.intro) <;> first | omega | exact True.intro | assumption)) | (refine hdelK_down ?_ ?_; next => first | with_reducible assumption | (apply Ne.symm; with_reducible assumption) | omega) | refine hdelK_any ?_ | refine hsetK_top ?_ | (refine hsetK_down ?_ ?_; next => first | with_reducible assumption | (apply Ne.symm; with_reducible assumption) | omega) | refine hsetK_any ?_  | rw [hset_self] | rw [hset_tail (by first | with_reducible assumption | (apply Ne.symm; with_reducible assumption) | omega)])); (conv => whnf); exact hk.o) : g := t ⟨h⟩
theorem ah0 {g : Prop} (t : g := by (repeat ((conv => whnf); first | refine Or.inl ?_ | refine dAuto ?_ | (apply Exists.intro; apply Exists.intro; refine And.intro ?_ ?_; (next => repeat (first | (with_reducible refine Eq.trans hget_self ?_; exact rfl) | with_reducible assumption | (with_reducible refine Eq.trans (hget_tail ?_) ?_; next => first | with_reducible assumption | (apply Ne.symm; with_reducible assumption) | omega) | (with_reducible refine Eq.trans (hget_set ?_) ?_; rotate_left; exact rfl) | (with_reducible refine Eq.trans (hget_set_ne ?_) ?_; next => first | with_reducible assumption | (apply Ne.symm; with_reducible assumption) | omega) | (with_reducible refine Eq.trans (hget_del_ne ?_) ?_; next => first | with_reducible assumption | (apply Ne.symm; with_reducible assumption) | omega) | exact hget_self | assumption | apply hget_set)); refine And.intro (Eq.refl (some _)) ?_) | refine Exists.intro _ (And.intro rfl (And.intro rfl ?_)) | (refine And.intro ?_ ?_; next => first | omega | (dsimp only; omega) | exact rfl | exact Nat.le_of_ble_eq_true rfl | (exact ⟨by omega, by omega⟩) | decide | (simp only [List.length_append, List.length_cons, List.length_nil, List.length_map]; omega)) | (refine rng_i64 ?_ ?_ ?_; (next => first | omega | (dsimp only; omega)); (next => first | omega | (dsimp only; omega))) | (refine rng_u8 ?_ ?_ ?_; (next => first | omega | (dsimp only; omega)); (next => first | omega | (dsimp only; omega))) | (refine rng_u64 ?_ ?_ ?_; (next => first | omega | (dsimp only; omega)); (next => first | omega | (dsimp only; omega))) | (refine rng_quo_u64 ?_ ?_ ?_ ?_; (next => first | omega | (dsimp only; omega)); (next => first | omega | (dsimp only; omega)); (next => first | omega | (dsimp only; omega))) | (refine rng_quo_i64 ?_ ?_ ?_ ?_; (next => first | omega | (dsimp only; omega)); (next => first | omega | (dsimp only; omega)); (next => first | omega | (dsimp only; omega))) | (refine rng_rem_u64 ?_ ?_ ?_ ?_; (next => first | omega | (dsimp only; omega)); (next => first | omega | (dsimp only; omega)); (next => first | omega | (dsimp only; omega))) | (refine rng_rem_i64 ?_ ?_ ?_ ?_; (next => first | omega | (dsimp only; omega)); (next => first | omega | (dsimp only; omega)); (next => first | omega | (dsimp only; omega))) | refine bsplit_tt ?_ | refine bsplit_ff ?_ | refine bsplit_not ?_ | (refine bsplit_pos ?_ ?_; (next => first | omega | (dsimp only; omega))) | (refine bsplit_neg ?_ ?_; (next => first | omega | (dsimp only; omega))) | (apply Exists.intro; refine And.intro ?_ ?_; next => repeat (first | (with_reducible refine Eq.trans hget_self ?_; exact rfl) | with_reducible assumption | (with_reducible refine Eq.trans (hget_tail ?_) ?_; next => first | with_reducible assumption | (apply Ne.symm; with_reducible assumption) | omega) | (with_reducible refine Eq.trans (hget_set ?_) ?_; rotate_left; exact rfl) | (with_reducible refine Eq.trans (hget_set_ne ?_) ?_; next => first | with_reducible assumption | (apply Ne.symm; with_reducible assumption) | omega) | (with_reducible refine Eq.trans (hget_del_ne ?_) ?_; next => first | with_reducible assumption | (apply Ne.symm; with_reducible assumption) | omega) | exact hget_self | assumption | apply hget_set)) | (apply hsetN_of; next => (try simp only [over, List.set_cons_zero, List.set_cons_succ, List.take_zero, List.take_succ_cons, List.take_nil, List.drop_zero, List.drop_succ_cons, List.drop_nil, List.nil_append, List.cons_append, List.append_nil, AV.cells, List.length_cons, List.length_nil, Nat.zero_add, Nat.add_zero, Nat.reduceAdd]); exact rfl) | (refine hdelK_top ?_ ?_; next => first | with_reducible assumption | (refine hget_none ?_; (repeat' apply And.intro) <;> first | omega | exact True.intro | assumption)) | (refine hdelK_down ?_ ?_; next => first | with_reducible assumption | (apply Ne.symm; with_reducible assumption) | omega) | refine hdelK_any ?_ | refine hsetK_top ?_ | (refine hsetK_down ?_ ?_; next => first | with_reducible assumption | (apply Ne.symm; with_reducible assumption) | omega) | refine hsetK_any ?_  | rw [hset_self] | rw [hset_tail (by first | with_reducible assumption | (apply Ne.symm; with_reducible assumption) | omega)])); (conv => whnf); (first | done | fail)) : g := t
theorem ac {k g : Prop} (h : k) (t : Hid k → g := by intro hk; (repeat ((conv => whnf); first | (apply Exists.intro; apply Exists.intro; refine And.intro ?_ ?_; (next => repeat (first | (with_reducible refine Eq.trans hget_self ?_; exact rfl) | with_reducible assumption | (with_reducible refine Eq.trans (hget_tail ?_) ?_; next => first | with_reducible assumption | (apply Ne.symm; with_reducible assumption) | omega) | (with_reducible refine Eq.trans (hget_set ?_) ?_; rotate_left; exact rfl) | (with_reducible refine Eq.trans (hget_set_ne ?_) ?_; next => first | with_reducible assumption | (apply Ne.symm; with_reducible assumption) | omega) | (with_reducible refine Eq.trans (hget_del_ne ?_) ?_; next => first | with_reducible assumption | (apply Ne.symm; with_reducible assumption) | omega) | exact hget_self | assumption | apply hget_set)); refine And.intro (Eq.refl (some _)) ?_) | refine Exists.intro _ (And.intro rfl (And.intro rfl ?_)) | (refine And.intro ?_ ?_; next => first | omega | (dsimp only; omega) | exact rfl | exact Nat.le_of_ble_eq_true rfl | (exact ⟨by omega, by omega⟩) | decide | (simp only [List.length_append, List.length_cons, List.length_nil, List.length_map]; omega)) | (refine rng_i64 ?_ ?_ ?_; (next => first | omega | (dsimp only; omega)); (next => first | omega | (dsimp only; omega))) | (refine rng_u8 ?_ ?_ ?_; (next => first | omega | (dsimp only; omega)); (next => first | omega | (dsimp only; omega))) | (refine rng_u64 ?_ ?_ ?_; (next => first | omega | (dsimp only; omega)); (next => first | omega | (dsimp only; omega))) | (refine rng_quo_u64 ?_ ?_ ?_ ?_; (next => first | omega | (dsimp only; omega)); (next => first | omega | (dsimp only; omega)); (next => first | omega | (dsimp only; omega))) | (refine rng_quo_i64 ?_ ?_ ?_ ?_; (next => first | omega | (dsimp only; omega)); (next => first | omega | (dsimp only; omega)); (next => first | omega | (dsimp only; omega))) | (refine rng_rem_u64 ?_ ?_ ?_ ?_; (next => first | omega | (dsimp only; omega)); (next => first | omega | (dsimp only; omega)); (next => first | omega | (dsimp only; omega))) | (refine rng_rem_i64 ?_ ?_ ?_ ?_; (next => first | omega | (dsimp only; omega)); (next => first | omega | (dsimp only; omega)); (next => first | omega | (dsimp only; omega))) | refine bsplit_tt ?_ | refine bsplit_ff ?_ | refine bsplit_not ?_ | (refine bsplit_pos ?_ ?_; (next => first | omega | (dsimp only; omega))) | (refine bsplit_neg ?_ ?_; (next => first | omega | (dsimp only; omega))) | (apply Exists.intro; refine And.intro ?_ ?_; next => repeat (first | (with_reducible refine Eq.trans hget_self ?_; exact rfl) | with_reducible assumption | (with_reducible refine Eq.trans (hget_tail ?_) ?_; next => first | with_reducible assumption | (apply Ne.symm; with_reducible assumption) | omega) | (with_reducible refine Eq.trans (hget_set ?_) ?_; rotate_left; exact rfl) | (with_reducible refine Eq.trans (hget_set_ne ?_) ?_; next => first | with_reducible assumption | (apply Ne.symm; with_reducible assumption) | omega) | (with_reducible refine Eq.trans (hget_del_ne ?_) ?_; next => first | with_reducible assumption | (apply Ne.symm; with_reducible assumption) | omega) | exact hget_self | assumption | apply hget_set)) | (apply hsetN_of; next => (try simp only [over, List.set_cons_zero, List.set_cons_succ, List.take_zero, List.take_succ_cons, List.take_nil, List.drop_zero, List.drop_succ_cons, List.drop_nil, List.nil_append, List.cons_append, List.append_nil, AV.cells, List.length_cons, List.length_nil, Nat.zero_add, Nat.add_zero, Nat.reduceAdd]); exact rfl) | (refine hdelK_top ?_ ?_; next => first | with_reducible assumption | (refine hget_none ?_; (repeat' apply And.intro) <;> first | omega | exact True.intro | assumption)) | (refine hdelK_down ?_ ?_; next => first | with_reducible assumption | (apply Ne.symm; with_reducible assumption) | omega) | refine hdelK_any ?_ | refine hsetK_top ?_ | (refine hsetK_down ?_ ?_; next => first | with_reducible assumption | (apply Ne.symm; with_reducible assumption) | omega) | refine hsetK_any ?_  | rw [hset_self] | rw [hset_tail (by first | with_reducible assumption | (apply Ne.symm; with_reducible assumption) | omega)])); (conv => whnf); exact hk.o) : g := t ⟨h⟩
theorem ac0 {g : Prop} (t : g := by (repeat ((conv => whnf); first | (apply Exists.intro; apply Exists.intro; refine And.intro ?_ ?_; (next => repeat (first | (with_reducible refine Eq.trans hget_self ?_; exact rfl) | with_reducible assumption | (with_reducible refine Eq.trans (hget_tail ?_) ?_; next => first | with_reducible assumption | (apply Ne.symm; with_reducible assumption) | omega) | (with_reducible refine Eq.trans (hget_set ?_) ?_; rotate_left; exact rfl) | (with_reducible refine Eq.trans (hget_set_ne ?_) ?_; next => first | with_reducible assumption | (apply Ne.symm; with_reducible assumption) | omega) | (with_reducible refine Eq.trans (hget_del_ne ?_) ?_; next => first | with_reducible assumption | (apply Ne.symm; with_reducible assumption) | omega) | exact hget_self | assumption | apply hget_set)); refine And.intro (Eq.refl (some _)) ?_) | refine Exists.intro _ (And.intro rfl (And.intro rfl ?_)) | (refine And.intro ?_ ?_; next => first | omega | (dsimp only; omega) | exact rfl | exact Nat.le_of_ble_eq_true rfl | (exact ⟨by omega, by omega⟩) | decide | (simp only [List.length_append, List.length_cons, List.length_nil, List.length_map]; omega)) | (refine rng_i64 ?_ ?_ ?_; (next => first | omega | (dsimp only; omega)); (next => first | omega | (dsimp only; omega))) | (refine rng_u8 ?_ ?_ ?_; (next => first | omega | (dsimp only; omega)); (next => first | omega | (dsimp only; omega))) | (refine rng_u64 ?_ ?_ ?_; (next => first | omega | (dsimp only; omega)); (next => first | omega | (dsimp only; omega))) | (refine rng_quo_u64 ?_ ?_ ?_ ?_; (next => first | omega | (dsimp only; omega)); (next => first | omega | (dsimp only; omega)); (next => first | omega | (dsimp only; omega))) | (refine rng_quo_i64 ?_ ?_ ?_ ?_; (next => first | omega | (dsimp only; omega)); (next => first | omega | (dsimp only; omega)); (next => first | omega | (dsimp only; omega))) | (refine rng_rem_u64 ?_ ?_ ?_ ?_; (next => first | omega | (dsimp only; omega)); (next => first | omega | (dsimp only; omega)); (next => first | omega | (dsimp only; omega))) | (refine rng_rem_i64 ?_ ?_ ?_ ?_; (next => first | omega | (dsimp only; omega)); (next => first | omega | (dsimp only; omega)); (next => first | omega | (dsimp only; omega))) | refine bsplit_tt ?_ | refine bsplit_ff ?_ | refine bsplit_not ?_ | (refine bsplit_pos ?_ ?_; (next => first | omega | (dsimp only; omega))) | (refine bsplit_neg ?_ ?_; (next => first | omega | (dsimp only; omega))) | (apply Exists.intro; refine And.intro ?_ ?_; next => repeat (first | (with_reducible refine Eq.trans hget_self ?_; exact rfl) | with_reducible assumption | (with_reducible refine Eq.trans (hget_tail ?_) ?_; next => first | with_reducible assumption | (apply Ne.symm; with_reducible assumption) | omega) | (with_reducible refine Eq.trans (hget_set ?_) ?_; rotate_left; exact rfl) | (with_reducible refine Eq.trans (hget_set_ne ?_) ?_; next => first | with_reducible assumption | (apply Ne.symm; with_reducible assumption) | omega) | (with_reducible refine Eq.trans (hget_del_ne ?_) ?_; next => first | with_reducible assumption | (apply Ne.symm; with_reducible assumption) | omega) | exact hget_self | assumption | apply hget_set)) | (apply hsetN_of; next => (try simp only [over, List.set_cons_zero, List.set_cons_succ, List.take_zero, List.take_succ_cons, List.take_nil, List.drop_zero, List.drop_succ_cons, List.drop_nil, List.nil_append, List.cons_append, List.append_nil, AV.cells, List.length_cons, List.length_nil, Nat.zero_add, Nat.add_zero, Nat.reduceAdd]); exact rfl) | (refine hdelK_top ?_ ?_; next => first | with_reducible assumption | (refine hget_none ?_; (repeat' apply And.intro) <;> first | omega | exact True.intro | assumption)) | (refine hdelK_down ?_ ?_; next => first | with_reducible assumption | (apply Ne.symm; with_reducible assumption) | omega) | refine hdelK_any ?_ | refine hsetK_top ?_ | (refine hsetK_down ?_ ?_; next => first | with_reducible assumption | (apply Ne.symm; with_reducible assumption) | omega) | refine hsetK_any ?_  | rw [hset_self] | rw [hset_tail (by first | with_reducible assumption | (apply Ne.symm; with_reducible assumption) | omega)])); (conv => whnf); (first | done | fail)) : g := t
theorem ab {k g : Prop} (h : k) (t : Hid k → g := by intro hk; (repeat ((conv => whnf); first | (apply Exists.intro; apply Exists.intro; refine And.intro ?_ ?_; (next => repeat (first | (with_reducible refine Eq.trans hget_self ?_; exact rfl) | with_reducible assumption | (with_reducible refine Eq.trans (hget_tail ?_) ?_; next => first | with_reducible assumption | (apply Ne.symm; with_reducible assumption) | omega) | (with_reducible refine Eq.trans (hget_set ?_) ?_; rotate_left; exact rfl) | (with_reducible refine Eq.trans (hget_set_ne ?_) ?_; next => first | with_reducible assumption | (apply Ne.symm; with_reducible assumption) | omega) | (with_reducible refine Eq.trans (hget_del_ne ?_) ?_; next => first | with_reducible assumption | (apply Ne.symm; with_reducible assumption) | omega) | exact hget_self | assumption | apply hget_set)); refine And.intro (Eq.refl (some _)) ?_) | refine Exists.intro _ (And.intro rfl (And.intro rfl ?_)) | (refine And.intro ?_ ?_; next => first | omega | (dsimp only; omega) | exact rfl | exact Nat.le_of_ble_eq_true rfl | (exact ⟨by omega, by omega⟩) | decide | (simp only [List.length_append, List.length_cons, List.length_nil, List.length_map]; omega)) | (refine rng_i64 ?_ ?_ ?_; (next => first | omega | (dsimp only; omega)); (next => first | omega | (dsimp only; omega))) | (refine rng_u8 ?_ ?_ ?_; (next => first | omega | (dsimp only; omega)); (next => first | omega | (dsimp only; omega))) | (refine rng_u64 ?_ ?_ ?_; (next => first | omega | (dsimp only; omega)); (next => first | omega | (dsimp only; omega))) | (refine rng_quo_u64 ?_ ?_ ?_ ?_; (next => first | omega | (dsimp only; omega)); (next => first | omega | (dsimp only; omega)); (next => first | omega | (dsimp only; omega))) | (refine rng_quo_i64 ?_ ?_ ?_ ?_; (next => first | omega | (dsimp only; omega)); (next => first | omega | (dsimp only; omega)); (next => first | omega | (dsimp only; omega))) | (refine rng_rem_u64 ?_ ?_ ?_ ?_; (next => first | omega | (dsimp only; omega)); (next => first | omega | (dsimp only; omega)); (next => first | omega | (dsimp only; omega))) | (refine rng_rem_i64 ?_ ?_ ?_ ?_; (next => first | omega | (dsimp only; omega)); (next => first | omega | (dsimp only; omega)); (next => first | omega | (dsimp only; omega))) | refine bsplit_tt ?_ | refine bsplit_ff ?_ | refine bsplit_not ?_ | (refine bsplit_pos ?_ ?_; (next => first | omega | (dsimp only; omega))) | (refine bsplit_neg ?_ ?_; (next => first | omega | (dsimp only; omega))) | (apply Exists.intro; refine And.intro ?_ ?_; next => repeat (first | (with_reducible refine Eq.trans hget_self ?_; exact rfl) | with_reducible assumption | (with_reducible refine Eq.trans (hget_tail ?_) ?_; next => first | with_reducible assumption | (apply Ne.symm; with_reducible assumption) | omega) | (with_reducible refine Eq.trans (hget_set ?_) ?_; rotate_left; exact rfl) | (with_reducible refine Eq.trans (hget_set_ne ?_) ?_; next => first | with_reducible assumption | (apply Ne.symm; with_reducible assumption) | omega) | (with_reducible refine Eq.trans (hget_del_ne ?_) ?_; next => first | with_reducible assumption | (apply Ne.symm; with_reducible assumption) | omega) | exact hget_self | assumption | apply hget_set)) | (apply hsetN_of; next => (try simp only [over, List.set_cons_zero, List.set_cons_succ, List.take_zero, List.take_succ_cons, List.take_nil, List.drop_zero, List.drop_succ_cons, List.drop_nil, List.nil_append, List.cons_append, List.append_nil, AV.cells, List.length_cons, List.length_nil, Nat.zero_add, Nat.add_zero, Nat.reduceAdd]); exact rfl) | (refine hdelK_top ?_ ?_; next => first | with_reducible assumption | (refine hget_none ?_; (repeat' apply And.intro) <;> first | omega | exact True.intro | assumption)) | (refine hdelK_down ?_ ?_; next => first | with_reducible assumption | (apply Ne.symm; with_reducible assumption) | omega) | refine hdelK_any ?_ | refine hsetK_top ?_ | (refine hsetK_down ?_ ?_; next => first | with_reducible assumption | (apply Ne.symm; with_reducible assumption) | omega) | refine hsetK_any ?_ )); (conv => whnf); exact hk.o) : g := t ⟨h⟩
theorem ab0 {g : Prop} (t : g := by (repeat ((conv => whnf); first | (apply Exists.intro; apply Exists.intro; refine And.intro ?_ ?_; (next => repeat (first | (with_reducible refine Eq.trans hget_self ?_; exact rfl) | with_reducible assumption | (with_reducible refine Eq.trans (hget_tail ?_) ?_; next => first | with_reducible assumption | (apply Ne.symm; with_reducible assumption) | omega) | (with_reducible refine Eq.trans (hget_set ?_) ?_; rotate_left; exact rfl) | (with_reducible refine Eq.trans (hget_set_ne ?_) ?_; next => first | with_reducible assumption | (apply Ne.symm; with_reducible assumption) | omega) | (with_reducible refine Eq.trans (hget_del_ne ?_) ?_; next => first | with_reducible assumption | (apply Ne.symm; with_reducible assumption) | omega) | exact hget_self | assumption | apply hget_set)); refine And.intro (Eq.refl (some _)) ?_) | refine Exists.intro _ (And.intro rfl (And.intro rfl ?_)) | (refine And.intro ?_ ?_; next => first | omega | (dsimp only; omega) | exact rfl | exact Nat.le_of_ble_eq_true rfl | (exact ⟨by omega, by omega⟩) | decide | (simp only [List.length_append, List.length_cons, List.length_nil, List.length_map]; omega)) | (refine rng_i64 ?_ ?_ ?_; (next => first | omega | (dsimp only; omega)); (next => first | omega | (dsimp only; omega))) | (refine rng_u8 ?_ ?_ ?_; (next => first | omega | (dsimp only; omega)); (next => first | omega | (dsimp only; omega))) | (refine rng_u64 ?_ ?_ ?_; (next => first | omega | (dsimp only; omega)); (next => first | omega | (dsimp only; omega))) | (refine rng_quo_u64 ?_ ?_ ?_ ?_; (next => first | omega | (dsimp only; omega)); (next => first | omega | (dsimp only; omega)); (next => first | omega | (dsimp only; omega))) | (refine rng_quo_i64 ?_ ?_ ?_ ?_; (next => first | omega | (dsimp only; omega)); (next => first | omega | (dsimp only; omega)); (next => first | omega | (dsimp only; omega))) | (refine rng_rem_u64 ?_ ?_ ?_ ?_; (next => first | omega | (dsimp only; omega)); (next => first | omega | (dsimp only; omega)); (next => first | omega | (dsimp only; omega))) | (refine rng_rem_i64 ?_ ?_ ?_ ?_; (next => first | omega | (dsimp only; omega)); (next => first | omega | (dsimp only; omega)); (next => first | omega | (dsimp only; omega))) | refine bsplit_tt ?_ | refine bsplit_ff ?_ | refine bsplit_not ?_ | (refine bsplit_pos ?_ ?_; (next => first | omega | (dsimp only; omega))) | (refine bsplit_neg ?_ ?_; (next => first | omega | (dsimp only; omega))) | (apply Exists.intro; refine And.intro ?_ ?_; next => repeat (first | (with_reducible refine Eq.trans hget_self ?_; exact rfl) | with_reducible assumption | (with_reducible refine Eq.trans (hget_tail ?_) ?_; next => first | with_reducible assumption | (apply Ne.symm; with_reducible assumption) | omega) | (with_reducible refine Eq.trans (hget_set ?_) ?_; rotate_left; exact rfl) | (with_reducible refine Eq.trans (hget_set_ne ?_) ?_; next => first | with_reducible assumption | (apply Ne.symm; with_reducible assumption) | omega) | (with_reducible refine Eq.trans (hget_del_ne ?_) ?_; next => first | with_reducible assumption | (apply Ne.symm; with_reducible assumption) | omega) | exact hget_self | assumption | apply hget_set)) | (apply hsetN_of; next => (try simp only [over, List.set_cons_zero, List.set_cons_succ, List.take_zero, List.take_succ_cons, List.take_nil, List.drop_zero, List.drop_succ_cons, List.drop_nil, List.nil_append, List.cons_append, List.append_nil, AV.cells, List.length_cons, List.length_nil, Nat.zero_add, Nat.add_zero, Nat.reduceAdd]); exact rfl) | (refine hdelK_top ?_ ?_; next => first | with_reducible assumption | (refine hget_none ?_; (repeat' apply And.intro) <;> first | omega | exact True.intro | assumption)) | (refine hdelK_down ?_ ?_; next => first | with_reducible assumption | (apply Ne.symm; with_reducible assumption) | omega) | refine hdelK_any ?_ | refine hsetK_top ?_ | (refine hsetK_down ?_ ?_; next => first | with_reducible assumption | (apply Ne.symm; with_reducible assumption) | omega) | refine hsetK_any ?_ )); (conv => whnf); (first | done | fail)) : g := t
end Go.Proofs.YtjaigpidmngaaaaGreat

namespace Go.Proofs.YtjaigpidmngaaaaGreat
theorem Sub.skip {H K : AH} {id : Nat} {b : Blk} (h : Sub K H) (hid : hget H id = none) : Sub K ((id, b) :: H) := fun j c q => by
  have := h j c q
  exact (hget_tail (hget_ne_of hid this)).trans this
theorem Sub.keep {H K : AH} {id : Nat} {b : Blk} (h : Sub K H) : Sub ((id, b) :: K) ((id, b) :: H) := fun j c q => by
  simp only [hget] at q ⊢
  split at q
  · rename_i e; rw [if_pos e]; exact q
  · rename_i e; rw [if_neg e]; exact h _ _ q
theorem Sub.del {K H : AH} {id : Nat} (h : Sub K H) (hid : hget K id = none) : Sub K (hdel H id) := fun j c q => by
  rw [hget_hdel]
  by_cases e : j = id
  · subst e; rw [hid] at q; cases q
  · rw [if_neg e]; exact h _ _ q
theorem Sub.nil (H : AH) : Sub [] H := fun _ _ q => by cases q
theorem Sub.trans {A B C : AH} (h : Sub A B) (k : Sub B C) : Sub A C := fun i b q => k _ _ (h _ _ q)
theorem ACalls.fz {P : Program} {f : Nat} {args : List AV} {H H1 : AH} {v : AV} (h : ACalls P f args H fun r H' => Fz H' H1 r v ∧ Sub H1 H') : ACalls P f args H fun r H' => r = v ∧ H' = H1 :=
  h.freeze fun r H' ⟨a, b⟩ => ⟨v, H1, b, a, rfl, rfl⟩
/-! ### Freezing, part by part -/
theorem Fz.aggL {H Hc : AH} {cs cs' : List AV} (h : FzL H Hc cs cs') : Fz H Hc (.agg cs) (.agg cs') := .agg cs cs' h.1 h.2
theorem Fz.tupL {H Hc : AH} {cs cs' : List AV} (h : FzL H Hc cs cs') : Fz H Hc (.tup cs) (.tup cs') := .tup cs cs' h.1 h.2
def FzR (H Hc : AH) : List (List AV) → List (List AV) → Prop
  | [], [] => True
  | r :: l, r' :: l' => FzL H Hc r r' ∧ FzR H Hc l l'
  | _, _ => False
theorem FzR.spec {H Hc : AH} : ∀ {l l' : List (List AV)}, FzR H Hc l l' → l.length = l'.length ∧ ∀ (i : Nat) r r', l[i]? = some r → l'[i]? = some r' → FzL H Hc r r'
  | [], [], _ => ⟨rfl, fun i r r' q => by simp at q⟩
  | r :: l, [], h => h.elim
  | [], r :: l, h => h.elim
  | r :: l, r' :: l', h => by
    obtain ⟨a, b⟩ := FzR.spec h.2
    refine ⟨by simp [a], fun i x x' q1 q2 => ?_⟩
    cases i with
    | zero => simp at q1 q2; rw [← q1, ← q2]; exact h.1
    | succ i => exact b i x x' (by simpa using q1) (by simpa using q2)
theorem Fz.rowsL {H Hc : AH} {sz : Nat} {l l' : List (List AV)} (h : FzR H Hc l l') : Fz H Hc (.rows sz l) (.rows sz l') :=
  .rows sz l l' h.spec.1 (fun i r r' a b => (h.spec.2 i r r' a b).1) fun i r r' j v v' a b c d => (h.spec.2 i r r' a b).2 j v v' c d
theorem FzR.refl (H Hc : AH) : ∀ l : List (List AV), FzR H Hc l l
  | [] => trivial
  | r :: l => ⟨FzL.refl H Hc r, FzR.refl H Hc l⟩
theorem FzR.append {H Hc : AH} : ∀ {l l' m m' : List (List AV)}, FzR H Hc l l' → FzR H Hc m m' → FzR H Hc (l ++ m) (l' ++ m')
  | [], [], m, m', _, h => h
  | r :: l, [], m, m', h, _ => h.elim
  | [], r :: l, m, m', h, _ => h.elim
  | r :: l, r' :: l', m, m', h, k => ⟨h.1, h.2.append k⟩
theorem Fz.ownL {H Hc : AH} {id sz : Nat} {l l' : List (List AV)} (hg : hget H id = some (.rows sz l)) (hd : hget Hc id = none) (h : FzR H Hc l l') (hw : ∀ r ∈ l', r.length = sz) : Fz H Hc (.own id sz 0 l.length) (.rows sz l') := by
  refine .own id sz 0 l.length l l' hg hd (Nat.le_refl _) (Nat.zero_le _) (by rw [← h.spec.1]; omega) (fun i r' q => hw r' (List.mem_of_getElem? q)) fun i r r' j v v' q1 q2 q3 q4 => ?_
  rw [Nat.zero_add] at q1
  exact (h.spec.2 i r r' q1 q2).2 j v v' q3 q4
inductive Cl : AV → Prop
  | int (k : IntKind) (n : Int) : Cl (.int k n)
  | bool (b : Bool) : Cl (.bool b)
  | str (l : List UInt8) : Cl (.str l)
  | nilS : Cl .nilS
  | nilP : Cl .nilP
  | nilF : Cl .nilF
  | nilI : Cl .nilI
  | emp : Cl .emp
  | agg (cs : List AV) (h : ∀ v ∈ cs, Cl v) : Cl (.agg cs)
  | tup (cs : List AV) (h : ∀ v ∈ cs, Cl v) : Cl (.tup cs)
  | rows (sz : Nat) (l : List (List AV)) (h : ∀ r ∈ l, ∀ v ∈ r, Cl v) : Cl (.rows sz l)
  | fp (cs : List AV) (h : ∀ v ∈ cs, Cl v) : Cl (.fp cs)
theorem Cl.noId {v : AV} (h : Cl v) : NoId v := by
  induction h with
  | int k n => intro h ρ ρ' Z x hr; cases hr; exact .int k n
  | bool b => intro h ρ ρ' Z x hr; cases hr; exact .bool b
  | str l => intro h ρ ρ' Z x hr; cases hr; exact .str l _ (by assumption)
  | nilS => intro h ρ ρ' Z x hr; cases hr; exact .nilS
  | nilP => intro h ρ ρ' Z x hr; cases hr; exact .nilP
  | nilF => intro h ρ ρ' Z x hr; cases hr; exact .nilF
  | nilI => intro h ρ ρ' Z x hr; cases hr; exact .nilI
  | emp => intro h ρ ρ' Z x hr; cases hr; exact .emp _ _
  | agg cs hc ih =>
    intro h ρ ρ' Z x hr
    cases hr with
    | agg _ vs hl h2 h3 => exact .agg cs vs hl h2 fun i v y q1 q2 => ih v (List.mem_of_getElem? q1) _ _ _ _ _ (h3 i v y q1 q2)
  | tup cs hc ih =>
    intro h ρ ρ' Z x hr
    cases hr with
    | tup _ vs hl h3 => exact .tup cs vs hl fun i v y q1 q2 => ih v (List.mem_of_getElem? q1) _ _ _ _ _ (h3 i v y q1 q2)
  | rows sz l hc ih =>
    intro h ρ ρ' Z x hr
    cases hr with
    | rows _ _ b o n c f hn hnc hz hw hcc hm hr => exact .rows sz l b o n c f hn hnc hz hw hcc hm fun i r j v q1 q2 => ih r (List.mem_of_getElem? q1) v (List.mem_of_getElem? q2) _ _ _ _ _ (hr i r j v q1 q2)
    | rowsN _ => exact .rowsN sz
    | rowsE _ a c => exact .rowsE sz a c
  | fp cs hc ih =>
    intro h ρ ρ' Z x hr
    cases hr with
    | fp _ b o f hz hcc hm hr => exact .fp cs b o f hz hcc hm fun i v q => ih v (List.mem_of_getElem? q) _ _ _ _ _ (hr i v q)
def SW (P : Program) (f : Nat) (args : List AV) (id : Nat) (b : Blk) (Hs : AH) (r : AV) (b' : Blk) : Prop :=
  ACalls P f args ((id, b) :: Hs) fun r' H' => r' = r ∧ H' = (id, b') :: Hs
theorem SW.frame {P : Program} {f : Nat} {args : List AV} {id : Nat} {b : Blk} {Hs : AH} {r : AV} {b' : Blk} (h : SW P f args id b Hs r b') {H : AH} (hg : hget H id = some b) (hs : Sub Hs H) : ACalls P f args H fun r' H' => r' = r ∧ H' = hset H id b' := by
  have s1 : Sub ((id, b) :: Hs) H := fun j c q => by
    simp only [hget] at q
    split at q
    · rename_i e1; subst e1; rw [← q]; exact hg
    · exact hs _ _ q
  refine ⟨h.1, fun w ρ Z xs g hr => (h.2 w ρ Z xs (g.forget s1) hr).mono fun e w' ⟨x, r', H', ρ', Z', a, g1, c, d, k1, k2⟩ => ?_⟩
  subst k1
  subst k2
  obtain ⟨q1, q2⟩ := g.frame s1 d g1 (HS' := hset H id b') fun j c q => by
    rw [hget_hset] at q
    split at q
    · rename_i e1
      rw [hg] at q
      left
      simp only [hget]
      rw [if_pos e1, ← q]
      rfl
    · rename_i e1
      simp only [hget]
      rw [if_neg e1, if_neg e1]
      cases hh : hget Hs j with
      | none => exact .inr ⟨q, rfl⟩
      | some c' => have := hs _ _ hh; rw [q] at this; exact .inl this.symm
  exact ⟨x, _, _, ρ', Z', a, q1, c, q2, rfl, rfl⟩
theorem SW.call {P : Program} {f : Nat} {args : List AV} {id : Nat} {b : Blk} {Hs : AH} {r : AV} {b' : Blk} (h : SW P f args id b Hs r b') {H : AH} {K : AV → AH → Prop} (hg : hget H id = some b) (hs : Sub Hs H) (k : hsetK H id b' fun H1 => K r H1) : callF P f args H K :=
  callF_of ((h.frame hg hs).mono fun r' H' ⟨a, c⟩ => by rw [a, c]; exact k.out)
theorem SW.draw {P : Program} {f : Nat} {args : List AV} {id : Nat} {b : Blk} {Hs : AH} {r : AV} {b' : Blk} (h : SW P f args id b Hs r b') {H0 D H : AH} {K : AV → AH → AH → Prop} (hD : hget D id = some b) (hs : Sub Hs H0) (hp : NoId r) (hb : BlkN b b') (k : hsetK H id b' fun H1 => K r (hdel D id) H1) : callG P f args H0 D H K :=
  ⟨.inr ⟨id, b, r, b', hD, ⟨hp, hb, Hs, hs, h⟩, k.out⟩⟩
/-! ### Arguments that a proof fills in -/
theorem fz_of {H Hc : AH} {v v' : AV} (h : Fz H Hc v v' := by (repeat' (first | exact Fz.refl _ | exact Fz.nil _ | assumption | refine Fz.aggL ?_ | refine Fz.tupL ?_ | refine FzL.cons ?_ ?_ | exact FzL.nil _ _ | refine Fz.rowsL ?_ | exact trivial | refine And.intro ?_ ?_)); (first | done | fail)) : Fz H Hc v v' := h
theorem sub_of {H Hc : AH} (h : Sub Hc H := by (repeat' (first | exact Sub.refl _ | assumption | exact Sub.nil _ | refine Sub.keep ?_ | refine Sub.skip ?_ (by first | assumption | (refine hget_none ?_; (try simp only [neAll, neAll_hset]); (repeat' apply And.intro) <;> first | omega | trivial | assumption | simp_all)) | refine Sub.del ?_ (by first | assumption | (refine hget_none ?_; (try simp only [neAll, neAll_hset]); (repeat' apply And.intro) <;> first | omega | trivial | assumption | simp_all)))); (first | done | fail)) : Sub Hc H := h
end Go.Proofs.YtjaigpidmngaaaaGreat

namespace Go.Proofs.YtjaigpidmngaaaaGreat
noncomputable def app (E L : FL) : FL := @List.rec (Nat × Option AV) (fun _ => FL) L (fun p _ ih => p :: ih) E
structure LI {S : Type} (ent : S → FL) (hp : S → AH) (μ : S → Nat) (P : S → Prop) (L0 : FL) (n : Nat) (L : FL) (H : AH) : Prop where
  out : ∃ s, n = μ s ∧ P s ∧ L = app (ent s) L0 ∧ H = hp s
theorem loopS {B : (Nat → FL → AH → Prop) → Nat → FL → AH → Prop} {L0 : FL} {H0 : AH} {S : Type} (ent : S → FL) (hp : S → AH) (μ : S → Nat) (P : S → Prop) (s0 : S) (h0 : P s0)
    (step : ∀ s, P s → B (LI ent hp μ P L0) (μ s) (app (ent s) L0) (hp s))
    (hc : coversZ H0 (hp s0) (app (ent s0) L0) L0 := by exact cov_of) (hs : Sub (hp s0) H0 := by exact sub_of) :
    ∃ I : Nat → FL → AH → Prop, WeakF (fun M Hk => ∃ n, I n M Hk) L0 H0 ∧ ∀ n L H, I n L H → B I n L H :=
  ⟨LI ent hp μ P L0, ⟨_, _, hc, hs, _, ⟨s0, rfl, h0, rfl, rfl⟩⟩, by rintro n L H ⟨s, rfl, h, rfl, rfl⟩; exact step s h⟩
theorem nextS {S : Type} {ent : S → FL} {hp : S → AH} {μ : S → Nat} {P : S → Prop} {L0 L : FL} {H : AH} {n : Nat} (s : S)
    (hc : coversZ H (hp s) (app (ent s) L0) L) (hs : Sub (hp s) H) (hm : μ s < n) (h : P s) :
    ∃ M Hk, coversZ H Hk M L ∧ Sub Hk H ∧ ∃ m, m < n ∧ LI ent hp μ P L0 m M Hk := ⟨_, _, hc, hs, _, hm, ⟨s, rfl, h, rfl, rfl⟩⟩
theorem loopM {B : (Nat → FL → AH → Prop) → Nat → FL → AH → Prop} {L0 : FL} {H0 : AH} {S : Type} (L1 : FL) (ent : S → FL) (hp : S → AH) (μ : S → Nat) (P : S → Prop) (s0 : S)
    (hc : coversZ H0 (hp s0) (app (ent s0) L1) L0) (hs : Sub (hp s0) H0) (h0 : P s0)
    (step : ∀ s, P s → B (LI ent hp μ P L1) (μ s) (app (ent s) L1) (hp s)) :
    ∃ I : Nat → FL → AH → Prop, WeakF (fun M Hk => ∃ n, I n M Hk) L0 H0 ∧ ∀ n L H, I n L H → B I n L H :=
  ⟨LI ent hp μ P L1, ⟨_, _, hc, hs, _, ⟨s0, rfl, h0, rfl, rfl⟩⟩, by rintro n L H ⟨s, rfl, h, rfl, rfl⟩; exact step s h⟩
theorem loopL {B : (Nat → FL → AH → Prop) → Nat → FL → AH → Prop} {L0 : FL} {H0 : AH} (L1 : FL) (d a N : Nat) (P : Nat → Prop)
    (hc : coversZ H0 H0 ((d, some (.int .i64 (a : Nat))) :: L1) L0) (ha : a ≤ N) (h0 : P a)
    (step : ∀ i, i ≤ N → P i → B (LI (fun i : Nat => [(d, some (.int .i64 (i : Nat)))]) (fun _ => H0) (fun i => N - i) (fun i => i ≤ N ∧ P i) L1) (N - i) ((d, some (.int .i64 (i : Nat))) :: L1) H0) :
    ∃ I : Nat → FL → AH → Prop, WeakF (fun M Hk => ∃ n, I n M Hk) L0 H0 ∧ ∀ n L H, I n L H → B I n L H :=
  loopM (S := Nat) L1 (fun i => [(d, some (.int .i64 (i : Nat)))]) (fun _ => H0) (fun i => N - i) (fun i => i ≤ N ∧ P i) a hc (Sub.refl _) ⟨ha, h0⟩ (fun i h => step i h.1 h.2)
theorem fz_eq {H Hc : AH} {r v : AV} (h : r = v) : Fz H Hc r v := by rw [h]; exact .refl _
theorem nextN {d N i : Nat} {P : Nat → Prop} {H0 H : AH} {L0 L : FL} (hc : coversZ H H0 ((d, some (.int .i64 ((i + 1 : Nat) : Int))) :: L0) L) (hs : Sub H0 H) (h1 : i < N) (h2 : P (i + 1)) :
    ∃ M Hk, coversZ H Hk M L ∧ Sub Hk H ∧ ∃ m, m < N - i ∧ LI (fun i : Nat => [(d, some (.int .i64 (i : Nat)))]) (fun _ => H0) (fun i => N - i) (fun i => i ≤ N ∧ P i) L0 m M Hk :=
  nextS (S := Nat) (ent := fun i => [(d, some (.int .i64 (i : Nat)))]) (hp := fun _ => H0) (i + 1) hc hs (by show N - (i + 1) < N - i; omega) ⟨h1, h2⟩
theorem ACalls.fzK {P : Program} {f : Nat} {args : List AV} {H : AH} {v : AV} (h : ACalls P f args H fun r H' => Fz H' [] r v) : ACalls P f args H fun r _ => r = v :=
  h.freeze fun r H' a => ⟨v, [], Sub.nil _, a, rfl⟩
theorem ACalls.sup {P : Program} {f : Nat} {args : List AV} {Hs H : AH} {K : AV → Prop} (h : ACalls P f args Hs fun r H' => K r ∧ H' = Hs) (hs : Sub Hs H) : ACalls P f args H fun r H' => K r ∧ H' = H := by
  refine ⟨h.1, fun w ρ Z xs g hr => (h.2 w ρ Z xs (g.forget hs) hr).mono fun e w' ⟨x, r', H', ρ', Z', a, g1, c, d, k1, k2⟩ => ?_⟩
  subst k2
  obtain ⟨q1, q2⟩ := g.frame hs d g1 (HS' := H) fun j c q => by
    cases hh : hget H' j with
    | none => exact .inr ⟨q, rfl⟩
    | some c' => have := hs _ _ hh; rw [q] at this; exact .inl this.symm
  exact ⟨x, _, _, ρ', Z', a, q1, c, q2, k1, rfl⟩
def accV (o : Option Nat) (sz n : Nat) : AV := match o with
  | none => .nilS
  | some id => .own id sz 0 n
def accH (o : Option Nat) (sz : Nat) (l : List (List AV)) (H : AH) : AH := match o with
  | none => H
  | some id => (id, .rows sz l) :: H
theorem accFz {o : Option Nat} {sz n : Nat} {l l' : List (List AV)} {H Hc : AH} (hn : n = l.length) (h0 : o = none → l = []) (hd : ∀ id, o = some id → hget Hc id = none) (h : FzR (accH o sz l H) Hc l l') (hw : ∀ r ∈ l', r.length = sz) : Fz (accH o sz l H) Hc (accV o sz n) (.rows sz l') := by
  subst hn
  cases o with
  | none =>
    have := h0 rfl; subst this
    have : l' = [] := List.eq_nil_of_length_eq_zero h.spec.1.symm
    subst this; exact .nil sz
  | some id => exact Fz.ownL hget_self (hd id rfl) h hw
theorem map_w {α : Type} {f : α → List AV} {sz : Nat} (h : ∀ x, (f x).length = sz) (l : List α) : ∀ r ∈ l.map f, r.length = sz := fun r hr => by
  obtain ⟨x, _, rfl⟩ := List.mem_map.1 hr; exact h x
theorem take_map_succ {α β : Type} (f : α → β) (l : List α) (i : Nat) (h : i < l.length) : (l.take (i + 1)).map f = (l.take i).map f ++ [f l[i]] := by
  simp only [List.take_add_one, List.map_append, List.getElem?_eq_getElem h, Option.toList_some, List.map_cons, List.map_nil]
theorem row_get {α : Type} {f : α → List AV} {l : List α} {i : Nat} (h : i < l.length) : (l.map f).getD (Int.toNat (i : Nat)) [] = f l[i] := by
  rw [Int.toNat_natCast]; simp [List.getD, h]
theorem readS_all {H : AH} {id sz n : Nat} {l : List (List AV)} (hg : hget H id = some (.rows sz l)) (h : n = l.length) : readS H false sz (.own id sz 0 n) = some l := by
  simp [readS, hg, h]
theorem cast_max (a b : Nat) : ((max a b : Nat) : Int) = max (a : Int) (b : Int) := by omega
end Go.Proofs.YtjaigpidmngaaaaGreat

namespace Go.Proofs.YtjaigpidmngaaaaGreat
set_option maxRecDepth 100000
noncomputable abbrev PG : Program := Tryz.prog
theorem mixed : PG.follows .mixedOrders = true := by kernel_rfl
abbrev ty_int : Nat := 3
abbrev ty_bool : Nat := 4
abbrev ty_uint8 : Nat := 5
abbrev ty_string : Nat := 9
abbrev ty_S_api_Type : Nat := 22
abbrev ty_api_Expr : Nat := 26
abbrev ty_api_Errno : Nat := 30
abbrev ty_uint64 : Nat := 33
abbrev ty_api_Datum : Nat := 38
abbrev ty_S_api_Item : Nat := 65
abbrev ty_api_Type : Nat := 67
abbrev ty_api_Item : Nat := 70
abbrev ty_S_api_Step : Nat := 96
abbrev ty_api_Token : Nat := 111
abbrev ty_path_piece : Nat := 145
abbrev ty_api_Step : Nat := 147
abbrev ty_strings_Builder : Nat := 236
def token_Tokens.n : Nat := 61
noncomputable def token_Tokens.c : C := (.seq (.reg [oo_ 2 (.mv (.c .nilS)), oo_ 3 (.allc 72 [(.int .i64 0), (.int .i64 0)])]) (.seq (.seq (.reg [om_ 9 0, oo_ 10 (.len true (.t 9)), oo_ 11 (.bin .gtr (.t 10) (.c (.int .i64 256)))]) (.cond (.t 11) (.seq (.reg [oo_ 12 (.build [(.int .i64 0), (.int .i64 0)] [(0, (1, (.c (.int .i64 3))))]), oo_ 2 (.mv (.c .nilS)), os_ (.store 2 (.t 3) (.t 12))]) .ret) .skip)) (.seq (.reg [om_ 13 0, oo_ 14 (.build [(.str []), (.int .i64 0)] [(0, (1, (.t 13)))]), oo_ 15 (.box 166 (.t 14)), om_ 4 15]) (.seq (.reg [oo_ 5 (.mv (.c .nilS))]) (.block 0 (.loop (.block 1 (.seq (.block 2 (.loop (.seq (.seq (.reg [om_ 16 4, oo_ 17 (.nilck (.t 16)), of_ 18 1 17, ol_ 19 18, om_ 20 0, oo_ 21 (.len true (.t 20)), oo_ 22 (.bin .lss (.t 19) (.t 21)), om_ 23 22, og_ 24 23 true (.mv (.t 0)), og_ 25 23 true (.mv (.t 4)), og_ 26 23 true (.nilck (.t 25)), og_ 27 23 true (.faddr 1 (.t 26)), og_ 28 23 true (.load none (.t 27)), og_ 29 23 true (.idx (.t 24) (.t 28)), og_ 30 23 true (.call 114 [(.t 29)]), oo_ 31 (.pick (.t 23) (.t 30) (.c (.bool false)))]) (.cond (.t 31) .skip (.exit 2))) (.block 3 (.reg [om_ 32 4, oo_ 33 (.nilck (.t 32)), of_ 34 1 33, ol_ 35 34, oo_ 36 (.bin .add (.t 35) (.c (.int .i64 1))), oo_ 37 (.nilck (.t 32)), of_ 38 1 37, os_ (.store 1 (.t 38) (.t 36))]))))) (.seq (.seq (.reg [om_ 39 4, oo_ 40 (.nilck (.t 39)), of_ 41 1 40, ol_ 42 41, om_ 43 0, oo_ 44 (.len true (.t 43)), oo_ 45 (.bin .eql (.t 42) (.t 44))]) (.cond (.t 45) (.seq (.reg [om_ 46 5, om_ 47 4, oo_ 48 (.nilck (.t 47)), of_ 49 1 48, ol_ 50 49, oo_ 51 (.build [(.int .i64 0), (.str []), (.int .u64 0), (.int .i64 0)] [(0, (1, (.c (.int .i64 6)))), (3, (1, (.t 50)))]), oo_ 52 (.bslice 111 4 1 [(.int .i64 0), (.str []), (.int .u64 0), (.int .i64 0)] [(0, (.t 51))]), oo_ 53 (.append 111 false 4 40 (.t 46) (.t 52)), oo_ 54 (.build [(.int .i64 0), (.int .i64 0)] []), om_ 2 53, os_ (.store 2 (.t 3) (.t 54))]) .ret) .skip)) (.seq (.reg [om_ 55 4, oo_ 56 (.nilck (.t 55)), of_ 57 1 56, ol_ 58 57, om_ 6 58]) (.seq (.reg [om_ 60 4, oo_ 61 (.call 115 [(.t 60)]), om_ 59 61, oo_ 62 (.extr (.t 59) 0), oo_ 63 (.extr (.t 59) 1), oo_ 7 (.allc 111 [(.int .i64 0), (.str []), (.int .u64 0), (.int .i64 0)]), oo_ 8 (.allc 72 [(.int .i64 0), (.int .i64 0)]), os_ (.store 4 (.t 7) (.t 62)), os_ (.store 2 (.t 8) (.t 63))]) (.seq (.seq (.reg [of_ 64 0 8, ol_ 65 64, oo_ 66 (.bin .eql (.t 65) (.c (.int .i64 0))), om_ 67 66, og_ 68 67 true (.mv (.t 5)), og_ 69 67 true (.len false (.t 68)), og_ 70 67 true (.bin .eql (.t 69) (.c (.int .i64 64))), oo_ 71 (.pick (.t 67) (.t 70) (.c (.bool false)))]) (.cond (.t 71) (.reg [om_ 72 6, oo_ 73 (.build [(.int .i64 0), (.int .i64 0)] [(0, (1, (.c (.int .i64 3)))), (1, (1, (.t 72)))]), os_ (.store 2 (.t 8) (.t 73))]) .skip)) (.seq (.seq (.reg [of_ 74 0 8, ol_ 75 74, oo_ 76 (.bin .neq (.t 75) (.c (.int .i64 0)))]) (.cond (.t 76) (.seq (.dreg [oo_ 77 (.load (some 2) (.t 8)), oo_ 2 (.mv (.c .nilS))] [os_ (.store 2 (.t 3) (.t 77))]) .ret) .skip)) (.reg [om_ 78 5, oo_ 79 (.load (some 4) (.t 7)), oo_ 80 (.bslice 111 4 1 [(.int .i64 0), (.str []), (.int .u64 0), (.int .i64 0)] [(0, (.t 79))]), oo_ 81 (.append 111 false 4 40 (.t 78) (.t 80)), om_ 5 81]))))))))))))))
theorem token_Tokens.code : comp PG [] (Tryz.f61.body.getD .skip) = token_Tokens.c := by kernel_rfl
theorem token_Tokens.of : OfE PG 61 1 token_Tokens.c [(.t 2), (.cell 3 (some 2))] := fnE (nt := 82) mixed Tryz.func61 token_Tokens.code (by kernel_rfl) (by kernel_rfl) (by kernel_rfl) (by kernel_rfl) (by kernel_rfl) (by kernel_rfl)
def strings_Compare.n : Nat := 110
noncomputable def strings_Compare.c : C := (.seq (.reg [oo_ 4 (.mv (.c (.int .i64 0)))]) (.seq (.reg [om_ 5 0, om_ 6 1, oo_ 7 (.call 155 [(.t 5), (.t 6)]), om_ 4 7]) .ret))
theorem strings_Compare.code : comp PG [] (Tryz.f110.body.getD .skip) = strings_Compare.c := by kernel_rfl
theorem strings_Compare.of : OfE PG 110 2 strings_Compare.c [(.t 4)] := fnE (nt := 8) mixed Tryz.func110 strings_Compare.code (by kernel_rfl) (by kernel_rfl) (by kernel_rfl) (by kernel_rfl) (by kernel_rfl) (by kernel_rfl)
def cmp_Compare_uint64.n : Nat := 111
noncomputable def cmp_Compare_uint64.c : C := (.seq (.reg [oo_ 4 (.mv (.c (.int .i64 0)))]) (.seq (.reg [om_ 7 0, oo_ 8 (.call 156 [(.t 7)]), om_ 5 8]) (.seq (.reg [om_ 9 1, oo_ 10 (.call 156 [(.t 9)]), om_ 6 10]) (.seq (.seq (.reg [om_ 11 5]) (.cond (.t 11) (.seq (.seq (.reg [om_ 12 6]) (.cond (.t 12) (.seq (.reg [oo_ 4 (.mv (.c (.int .i64 0)))]) .ret) .skip)) (.seq (.reg [oo_ 4 (.mv (.c (.int .i64 (-1))))]) .ret)) .skip)) (.seq (.seq (.reg [om_ 13 6]) (.cond (.t 13) (.seq (.reg [oo_ 4 (.mv (.c (.int .i64 1)))]) .ret) .skip)) (.seq (.seq (.reg [om_ 14 0, om_ 15 1, oo_ 16 (.bin .lss (.t 14) (.t 15))]) (.cond (.t 16) (.seq (.reg [oo_ 4 (.mv (.c (.int .i64 (-1))))]) .ret) .skip)) (.seq (.seq (.reg [om_ 17 0, om_ 18 1, oo_ 19 (.bin .gtr (.t 17) (.t 18))]) (.cond (.t 19) (.seq (.reg [oo_ 4 (.mv (.c (.int .i64 1)))]) .ret) .skip)) (.seq (.reg [oo_ 4 (.mv (.c (.int .i64 0)))]) .ret))))))))
theorem cmp_Compare_uint64.code : comp PG [] (Tryz.f111.body.getD .skip) = cmp_Compare_uint64.c := by kernel_rfl
theorem cmp_Compare_uint64.of : OfE PG 111 2 cmp_Compare_uint64.c [(.t 4)] := fnE (nt := 20) mixed Tryz.func111 cmp_Compare_uint64.code (by kernel_rfl) (by kernel_rfl) (by kernel_rfl) (by kernel_rfl) (by kernel_rfl) (by kernel_rfl)
def token_blank.n : Nat := 114
noncomputable def token_blank.c : C := (.seq (.reg [oo_ 2 (.mv (.c (.bool false)))]) (.seq (.reg [om_ 3 0, oo_ 4 (.bin .eql (.t 3) (.c (.int .u8 32))), om_ 5 4, og_ 6 5 false (.mv (.t 0)), og_ 7 5 false (.bin .eql (.t 6) (.c (.int .u8 9))), oo_ 8 (.pick (.t 5) (.c (.bool true)) (.t 7)), om_ 9 8, og_ 10 9 false (.mv (.t 0)), og_ 11 9 false (.bin .eql (.t 10) (.c (.int .u8 10))), oo_ 12 (.pick (.t 9) (.c (.bool true)) (.t 11)), om_ 13 12, og_ 14 13 false (.mv (.t 0)), og_ 15 13 false (.bin .eql (.t 14) (.c (.int .u8 13))), oo_ 16 (.pick (.t 13) (.c (.bool true)) (.t 15)), om_ 2 16]) .ret))
theorem token_blank.code : comp PG [] (Tryz.f114.body.getD .skip) = token_blank.c := by kernel_rfl
theorem token_blank.of : OfE PG 114 1 token_blank.c [(.t 2)] := fnE (nt := 17) mixed Tryz.func114 token_blank.code (by kernel_rfl) (by kernel_rfl) (by kernel_rfl) (by kernel_rfl) (by kernel_rfl) (by kernel_rfl)
def token_lexer_next.n : Nat := 115
noncomputable def token_lexer_next.c : C := (.seq (.reg [oo_ 2 (.allc 111 [(.int .i64 0), (.str []), (.int .u64 0), (.int .i64 0)]), oo_ 3 (.allc 72 [(.int .i64 0), (.int .i64 0)])]) (.seq (.seq (.reg [oo_ 6 (.call 157 []), oo_ 7 (.len false (.t 6)), oo_ 8 (.mv (.c (.int .i64 0)))]) (.block 0 (.loop (.seq (.reg [oo_ 9 (.bin .lss (.t 8) (.t 7))]) (.seq (.cond (.t 9) .skip (.exit 0)) (.seq (.block 1 (.seq (.reg [oo_ 10 (.iaddr 2 (.t 6) (.t 8)), oo_ 11 (.load (some 2) (.t 10)), oo_ 5 (.allc 208 [.nilF, .nilF]), os_ (.store 2 (.t 5) (.t 11))]) (.seq (.dreg [of_ 12 0 5, ol_ 13 12, om_ 14 0, oo_ 15 (.nilck (.t 14)), of_ 16 0 15, ol_ 17 16, om_ 18 0, oo_ 19 (.nilck (.t 18)), of_ 20 1 19, ol_ 21 20, oo_ 22 (.idx (.t 17) (.t 21))] [oo_ 23 (.callv (.t 13) [(.t 22)])]) (.cond (.t 23) (.seq (.reg [of_ 24 1 5, ol_ 25 24, om_ 26 0, oo_ 27 (.callv (.t 25) [(.t 26)]), oo_ 28 (.extr (.t 27) 0), oo_ 29 (.extr (.t 27) 1), os_ (.store 4 (.t 2) (.t 28)), os_ (.store 2 (.t 3) (.t 29))]) .ret) .skip)))) (.reg [oo_ 30 (.bin .add (.t 8) (.c (.int .i64 1))), om_ 8 30]))))))) (.seq (.dreg [oo_ 31 (.build [(.int .i64 0), (.str []), (.int .u64 0), (.int .i64 0)] []), om_ 32 0, oo_ 33 (.nilck (.t 32)), of_ 34 1 33, ol_ 35 34, oo_ 36 (.build [(.int .i64 0), (.int .i64 0)] [(0, (1, (.c (.int .i64 11)))), (1, (1, (.t 35)))]), os_ (.store 4 (.t 2) (.t 31))] [os_ (.store 2 (.t 3) (.t 36))]) .ret)))
theorem token_lexer_next.code : comp PG [] (Tryz.f115.body.getD .skip) = token_lexer_next.c := by kernel_rfl
theorem token_lexer_next.of : OfE PG 115 1 token_lexer_next.c [(.cell 2 (some 4)), (.cell 3 (some 2))] := fnE (nt := 37) mixed Tryz.func115 token_lexer_next.code (by kernel_rfl) (by kernel_rfl) (by kernel_rfl) (by kernel_rfl) (by kernel_rfl) (by kernel_rfl)
def like_Match.n : Nat := 144
noncomputable def like_Match.lab0 : C := (.seq (.block 0 (.seq (.reg [⟨(some 10), none, (.mv (.t 5))⟩, ⟨(some 11), none, (.mv (.t 0))⟩, ⟨(some 12), none, (.len true (.t 11))⟩, ⟨(some 13), none, (.bin .lss (.t 10) (.t 12))⟩, ⟨(some 14), none, (.mv (.t 13))⟩, ⟨(some 15), (some (14, true)), (.mv (.t 0))⟩, ⟨(some 16), (some (14, true)), (.mv (.t 5))⟩, ⟨(some 17), (some (14, true)), (.idx (.t 15) (.t 16))⟩, ⟨(some 18), (some (14, true)), (.bin .eql (.t 17) (.c (.int .u8 37)))⟩, ⟨(some 19), none, (.pick (.t 14) (.t 18) (.c (.bool false)))⟩, ⟨(some 9), none, (.mv (.t 19))⟩]) (.cond (.t 9) (.seq (.reg [⟨(some 20), none, (.mv (.t 5))⟩, ⟨(some 21), none, (.bin .add (.t 20) (.c (.int .i64 1)))⟩, ⟨(some 22), none, (.mv (.t 6))⟩, ⟨(some 7), none, (.mv (.t 21))⟩, ⟨(some 8), none, (.mv (.t 22))⟩]) (.seq (.reg [⟨(some 23), none, (.mv (.t 5))⟩, ⟨(some 24), none, (.bin .add (.t 23) (.c (.int .i64 1)))⟩, ⟨(some 5), none, (.mv (.t 24))⟩]) (.goto 0))) (.seq (.reg [⟨(some 26), none, (.mv (.t 6))⟩, ⟨(some 27), none, (.mv (.t 1))⟩, ⟨(some 28), none, (.len true (.t 27))⟩, ⟨(some 29), none, (.bin .eql (.t 26) (.t 28))⟩, ⟨(some 25), none, (.mv (.t 29))⟩]) (.cond (.t 25) (.seq (.reg [⟨(some 30), none, (.mv (.t 5))⟩, ⟨(some 31), none, (.mv (.t 0))⟩, ⟨(some 32), none, (.len true (.t 31))⟩, ⟨(some 33), none, (.bin .eql (.t 30) (.t 32))⟩, ⟨(some 4), none, (.mv (.t 33))⟩]) .ret) (.seq (.dreg [⟨(some 35), none, (.mv (.t 5))⟩, ⟨(some 36), none, (.mv (.t 0))⟩, ⟨(some 37), none, (.len true (.t 36))⟩, ⟨(some 38), none, (.bin .lss (.t 35) (.t 37))⟩, ⟨(some 39), none, (.mv (.t 38))⟩, ⟨(some 40), (some (39, true)), (.mv (.t 0))⟩, ⟨(some 41), (some (39, true)), (.mv (.t 5))⟩, ⟨(some 42), (some (39, true)), (.idx (.t 40) (.t 41))⟩, ⟨(some 43), (some (39, true)), (.bin .eql (.t 42) (.c (.int .u8 95)))⟩, ⟨(some 44), (some (39, true)), (.mv (.t 43))⟩, ⟨(some 45), (some (44, false)), (.mv (.t 0))⟩, ⟨(some 46), (some (44, false)), (.mv (.t 5))⟩, ⟨(some 47), (some (44, false)), (.idx (.t 45) (.t 46))⟩, ⟨(some 48), (some (44, false)), (.mv (.t 1))⟩, ⟨(some 49), (some (44, false)), (.mv (.t 6))⟩, ⟨(some 50), (some (44, false)), (.idx (.t 48) (.t 49))⟩] [⟨(some 51), (some (44, false)), (.bin .eql (.t 47) (.t 50))⟩, ⟨(some 52), (some (39, true)), (.pick (.t 44) (.c (.bool true)) (.t 51))⟩, ⟨(some 53), none, (.pick (.t 39) (.t 52) (.c (.bool false)))⟩, ⟨(some 34), none, (.mv (.t 53))⟩]) (.cond (.t 34) (.seq (.reg [⟨(some 54), none, (.mv (.t 5))⟩, ⟨(some 55), none, (.bin .add (.t 54) (.c (.int .i64 1)))⟩, ⟨(some 5), none, (.mv (.t 55))⟩]) (.seq (.reg [⟨(some 56), none, (.mv (.t 6))⟩, ⟨(some 57), none, (.bin .add (.t 56) (.c (.int .i64 1)))⟩, ⟨(some 6), none, (.mv (.t 57))⟩]) (.goto 0))) (.seq (.reg [⟨(some 59), none, (.mv (.t 7))⟩, ⟨(some 60), none, (.bin .geq (.t 59) (.c (.int .i64 0)))⟩, ⟨(some 58), none, (.mv (.t 60))⟩]) (.cond (.t 58) (.seq (.reg [⟨(some 61), none, (.mv (.t 8))⟩, ⟨(some 62), none, (.bin .add (.t 61) (.c (.int .i64 1)))⟩, ⟨(some 8), none, (.mv (.t 62))⟩]) (.seq (.reg [⟨(some 63), none, (.mv (.t 7))⟩, ⟨(some 64), none, (.mv (.t 8))⟩, ⟨(some 5), none, (.mv (.t 63))⟩, ⟨(some 6), none, (.mv (.t 64))⟩]) (.goto 0))) .skip))))))))) (.seq (.reg [⟨(some 4), none, (.mv (.c (.bool false)))⟩]) .ret))
noncomputable def like_Match.c : C := (.seq (.reg [oo_ 4 (.mv (.c (.bool false)))]) (.scope (.seq (.reg [oo_ 5 (.mv (.c (.int .i64 0))), oo_ 6 (.mv (.c (.int .i64 0)))]) (.seq (.reg [oo_ 7 (.mv (.c (.int .i64 (-1)))), oo_ 8 (.mv (.c (.int .i64 0)))]) (.seq (.label 0) like_Match.lab0)))))
theorem like_Match.code : comp PG [] (Tryz.f144.body.getD .skip) = like_Match.c := by kernel_rfl
theorem like_Match.of : OfE PG 144 2 like_Match.c [(.t 4)] := fnE (nt := 65) mixed Tryz.func144 like_Match.code (by kernel_rfl) (by kernel_rfl) (by kernel_rfl) (by kernel_rfl) (by kernel_rfl) (by kernel_rfl)
def strings_CutPrefix.n : Nat := 147
noncomputable def strings_CutPrefix.c : C := (.seq (.reg [oo_ 4 (.mv (.c (.str []))), oo_ 5 (.mv (.c (.bool false)))]) (.seq (.reg [om_ 6 0, om_ 7 1, oo_ 8 (.call 176 [(.t 6), (.t 7)]), oo_ 9 (.extr (.t 8) 0), oo_ 10 (.extr (.t 8) 1), om_ 4 9, om_ 5 10]) .ret))
theorem strings_CutPrefix.code : comp PG [] (Tryz.f147.body.getD .skip) = strings_CutPrefix.c := by kernel_rfl
theorem strings_CutPrefix.of : OfE PG 147 2 strings_CutPrefix.c [(.t 4), (.t 5)] := fnE (nt := 11) mixed Tryz.func147 strings_CutPrefix.code (by kernel_rfl) (by kernel_rfl) (by kernel_rfl) (by kernel_rfl) (by kernel_rfl) (by kernel_rfl)
def name_Lead.n : Nat := 148
noncomputable def name_Lead.c : C := (.seq (.reg [oo_ 2 (.mv (.c (.int .i64 0)))]) (.seq (.reg [oo_ 3 (.mv (.c (.int .i64 0)))]) (.seq (.block 0 (.loop (.seq (.seq (.reg [om_ 4 3, om_ 5 0, oo_ 6 (.len true (.t 5)), oo_ 7 (.bin .lss (.t 4) (.t 6)), om_ 8 7, og_ 9 8 true (.mv (.t 0)), og_ 10 8 true (.mv (.t 3)), og_ 11 8 true (.idx (.t 9) (.t 10)), og_ 12 8 true (.mv (.t 3)), og_ 13 8 true (.bin .eql (.t 12) (.c (.int .i64 0))), og_ 14 8 true (.call 177 [(.t 11), (.t 13)]), oo_ 15 (.pick (.t 8) (.t 14) (.c (.bool false)))]) (.cond (.t 15) .skip (.exit 0))) (.block 1 (.reg [om_ 16 3, oo_ 17 (.bin .add (.t 16) (.c (.int .i64 1))), om_ 3 17]))))) (.seq (.reg [om_ 18 3, om_ 2 18]) .ret))))
theorem name_Lead.code : comp PG [] (Tryz.f148.body.getD .skip) = name_Lead.c := by kernel_rfl
theorem name_Lead.of : OfE PG 148 1 name_Lead.c [(.t 2)] := fnE (nt := 19) mixed Tryz.func148 name_Lead.code (by kernel_rfl) (by kernel_rfl) (by kernel_rfl) (by kernel_rfl) (by kernel_rfl) (by kernel_rfl)
def bytealg_CompareString.n : Nat := 155
noncomputable def bytealg_CompareString.c : C := (.seq (.reg [oo_ 4 (.mv (.c (.int .i64 0)))]) (.seq (.reg [om_ 5 0, om_ 6 1, oo_ 7 (.ext .cmp [(.t 5), (.t 6)]), om_ 4 7]) .ret))
theorem bytealg_CompareString.code : comp PG [] (Tryz.f155.body.getD .skip) = bytealg_CompareString.c := by kernel_rfl
theorem bytealg_CompareString.of : OfE PG 155 2 bytealg_CompareString.c [(.t 4)] := fnE (nt := 8) mixed Tryz.func155 bytealg_CompareString.code (by kernel_rfl) (by kernel_rfl) (by kernel_rfl) (by kernel_rfl) (by kernel_rfl) (by kernel_rfl)
def cmp_isNaN_uint64.n : Nat := 156
noncomputable def cmp_isNaN_uint64.c : C := (.seq (.reg [oo_ 2 (.mv (.c (.bool false)))]) (.seq (.reg [om_ 3 0, om_ 4 0, oo_ 5 (.bin .neq (.t 3) (.t 4)), om_ 2 5]) .ret))
theorem cmp_isNaN_uint64.code : comp PG [] (Tryz.f156.body.getD .skip) = cmp_isNaN_uint64.c := by kernel_rfl
theorem cmp_isNaN_uint64.of : OfE PG 156 1 cmp_isNaN_uint64.c [(.t 2)] := fnE (nt := 6) mixed Tryz.func156 cmp_isNaN_uint64.code (by kernel_rfl) (by kernel_rfl) (by kernel_rfl) (by kernel_rfl) (by kernel_rfl) (by kernel_rfl)
def token_kinds.n : Nat := 157
noncomputable def token_kinds.c : C := (.seq (.reg [oo_ 0 (.mv (.c .nilS))]) (.seq (.reg [oo_ 1 (.build [.nilF, .nilF] [(0, (1, (.c (.clo 180 [] [])))), (1, (1, (.c (.clo 181 [] []))))]), oo_ 2 (.build [.nilF, .nilF] [(0, (1, (.c (.clo 182 [] [])))), (1, (1, (.c (.clo 183 [] []))))]), oo_ 3 (.build [.nilF, .nilF] [(0, (1, (.c (.clo 184 [] [])))), (1, (1, (.c (.clo 185 [] []))))]), oo_ 4 (.build [.nilF, .nilF] [(0, (1, (.c (.clo 186 [] [])))), (1, (1, (.c (.clo 187 [] []))))]), oo_ 5 (.build [.nilF, .nilF] [(0, (1, (.c (.clo 188 [] [])))), (1, (1, (.c (.clo 189 [] []))))]), oo_ 6 (.bslice 208 2 5 [.nilF, .nilF] [(0, (.t 1)), (1, (.t 2)), (2, (.t 3)), (3, (.t 4)), (4, (.t 5))]), om_ 0 6]) .ret))
theorem token_kinds.code : comp PG [] (Tryz.f157.body.getD .skip) = token_kinds.c := by kernel_rfl
theorem token_kinds.of : OfE PG 157 0 token_kinds.c [(.t 0)] := fnE (nt := 7) mixed Tryz.func157 token_kinds.code (by kernel_rfl) (by kernel_rfl) (by kernel_rfl) (by kernel_rfl) (by kernel_rfl) (by kernel_rfl)
def name_Word.n : Nat := 160
noncomputable def name_Word.c : C := (.seq (.reg [oo_ 2 (.mv (.c (.bool false)))]) (.seq (.seq (.reg [om_ 3 0]) (.block 0 (.seq (.seq (.reg [oo_ 5 (.bin .eql (.t 3) (.c (.str [65, 78, 68]))), om_ 4 5]) (.cond (.t 4) .skip (.seq (.reg [oo_ 6 (.bin .eql (.t 3) (.c (.str [79, 82]))), om_ 4 6]) (.cond (.t 4) .skip (.seq (.reg [oo_ 7 (.bin .eql (.t 3) (.c (.str [78, 79, 84]))), om_ 4 7]) (.cond (.t 4) .skip (.seq (.reg [oo_ 8 (.bin .eql (.t 3) (.c (.str [66, 69, 84, 87, 69, 69, 78]))), om_ 4 8]) (.cond (.t 4) .skip (.seq (.reg [oo_ 9 (.bin .eql (.t 3) (.c (.str [76, 73, 75, 69]))), om_ 4 9]) (.cond (.t 4) .skip (.seq (.reg [oo_ 10 (.bin .eql (.t 3) (.c (.str [84, 82, 85, 69]))), om_ 4 10]) (.cond (.t 4) .skip (.reg [oo_ 11 (.bin .eql (.t 3) (.c (.str [70, 65, 76, 83, 69]))), om_ 4 11]))))))))))))) (.cond (.t 4) (.seq (.reg [oo_ 2 (.mv (.c (.bool true)))]) .ret) .skip)))) (.seq (.reg [oo_ 2 (.mv (.c (.bool false)))]) .ret)))
theorem name_Word.code : comp PG [] (Tryz.f160.body.getD .skip) = name_Word.c := by kernel_rfl
theorem name_Word.of : OfE PG 160 1 name_Word.c [(.t 2)] := fnE (nt := 12) mixed Tryz.func160 name_Word.code (by kernel_rfl) (by kernel_rfl) (by kernel_rfl) (by kernel_rfl) (by kernel_rfl) (by kernel_rfl)
def strings_IndexByte.n : Nat := 175
noncomputable def strings_IndexByte.c : C := (.seq (.reg [oo_ 4 (.mv (.c (.int .i64 0)))]) (.seq (.reg [om_ 5 0, om_ 6 1, oo_ 7 (.call 205 [(.t 5), (.t 6)]), om_ 4 7]) .ret))
theorem strings_IndexByte.code : comp PG [] (Tryz.f175.body.getD .skip) = strings_IndexByte.c := by kernel_rfl
theorem strings_IndexByte.of : OfE PG 175 2 strings_IndexByte.c [(.t 4)] := fnE (nt := 8) mixed Tryz.func175 strings_IndexByte.code (by kernel_rfl) (by kernel_rfl) (by kernel_rfl) (by kernel_rfl) (by kernel_rfl) (by kernel_rfl)
def stringslite_CutPrefix.n : Nat := 176
noncomputable def stringslite_CutPrefix.c : C := (.seq (.reg [oo_ 4 (.mv (.c (.str []))), oo_ 5 (.mv (.c (.bool false)))]) (.seq (.seq (.reg [om_ 6 0, om_ 7 1, oo_ 8 (.call 206 [(.t 6), (.t 7)]), oo_ 9 (.un .not (.t 8))]) (.cond (.t 9) (.seq (.reg [om_ 10 0, om_ 4 10, oo_ 5 (.mv (.c (.bool false)))]) .ret) .skip)) (.seq (.reg [om_ 11 0, om_ 12 1, oo_ 13 (.len true (.t 12)), oo_ 14 (.slice none (.t 11) (some (.t 13)) none), om_ 4 14, oo_ 5 (.mv (.c (.bool true)))]) .ret)))
theorem stringslite_CutPrefix.code : comp PG [] (Tryz.f176.body.getD .skip) = stringslite_CutPrefix.c := by kernel_rfl
theorem stringslite_CutPrefix.of : OfE PG 176 2 stringslite_CutPrefix.c [(.t 4), (.t 5)] := fnE (nt := 15) mixed Tryz.func176 stringslite_CutPrefix.code (by kernel_rfl) (by kernel_rfl) (by kernel_rfl) (by kernel_rfl) (by kernel_rfl) (by kernel_rfl)
def name_may.n : Nat := 177
noncomputable def name_may.c : C := (.seq (.reg [oo_ 4 (.mv (.c (.bool false)))]) (.seq (.block 0 (.seq (.block 2 (.seq (.block 1 (.seq (.seq (.seq (.seq (.reg [om_ 6 0, oo_ 7 (.bin .geq (.t 6) (.c (.int .u8 48))), om_ 8 7, og_ 9 8 true (.mv (.t 0)), og_ 10 8 true (.bin .leq (.t 9) (.c (.int .u8 57))), oo_ 11 (.pick (.t 8) (.t 10) (.c (.bool false))), om_ 5 11]) (.cond (.t 5) .skip (.reg [om_ 12 0, oo_ 13 (.bin .eql (.t 12) (.c (.int .u8 95))), om_ 5 13]))) (.cond (.t 5) (.exit 1) .skip)) (.seq (.seq (.reg [om_ 15 0, oo_ 16 (.bin .geq (.t 15) (.c (.int .u8 97))), om_ 17 16, og_ 18 17 true (.mv (.t 0)), og_ 19 17 true (.bin .leq (.t 18) (.c (.int .u8 122))), oo_ 20 (.pick (.t 17) (.t 19) (.c (.bool false))), om_ 14 20]) (.cond (.t 14) .skip (.reg [om_ 21 0, oo_ 22 (.bin .geq (.t 21) (.c (.int .u8 65))), om_ 23 22, og_ 24 23 true (.mv (.t 0)), og_ 25 23 true (.bin .leq (.t 24) (.c (.int .u8 90))), oo_ 26 (.pick (.t 23) (.t 25) (.c (.bool false))), om_ 14 26]))) (.cond (.t 14) (.exit 2) .skip))) (.exit 0))) (.seq (.reg [om_ 27 1]) (.cond (.t 27) (.seq (.reg [oo_ 4 (.mv (.c (.bool false)))]) .ret) .skip)))) (.seq (.seq (.reg [oo_ 4 (.mv (.c (.bool true)))]) .ret) (.exit 0)))) (.seq (.reg [oo_ 4 (.mv (.c (.bool false)))]) .ret)))
theorem name_may.code : comp PG [] (Tryz.f177.body.getD .skip) = name_may.c := by kernel_rfl
theorem name_may.of : OfE PG 177 2 name_may.c [(.t 4)] := fnE (nt := 28) mixed Tryz.func177 name_may.code (by kernel_rfl) (by kernel_rfl) (by kernel_rfl) (by kernel_rfl) (by kernel_rfl) (by kernel_rfl)
def token_kinds_1.n : Nat := 180
noncomputable def token_kinds_1.c : C := (.seq (.reg [oo_ 2 (.mv (.c (.bool false)))]) (.seq (.reg [om_ 3 0, oo_ 4 (.bslice 5 1 1 [(.int .u8 0)] [(0, (.t 3))]), oo_ 5 (.bytesS (.t 4)), oo_ 6 (.call 148 [(.t 5)]), oo_ 7 (.bin .eql (.t 6) (.c (.int .i64 1))), om_ 2 7]) .ret))
theorem token_kinds_1.code : comp PG [] (Tryz.f180.body.getD .skip) = token_kinds_1.c := by kernel_rfl
theorem token_kinds_1.of : OfE PG 180 1 token_kinds_1.c [(.t 2)] := fnE (nt := 8) mixed Tryz.func180 token_kinds_1.code (by kernel_rfl) (by kernel_rfl) (by kernel_rfl) (by kernel_rfl) (by kernel_rfl) (by kernel_rfl)
def token_word.n : Nat := 181
noncomputable def token_word.c : C := (.seq (.reg [oo_ 2 (.allc 111 [(.int .i64 0), (.str []), (.int .u64 0), (.int .i64 0)]), oo_ 3 (.allc 72 [(.int .i64 0), (.int .i64 0)])]) (.seq (.reg [om_ 4 0, om_ 5 0, oo_ 6 (.call 209 [(.t 5)]), oo_ 7 (.call 148 [(.t 6)]), oo_ 8 (.call 208 [(.t 4), (.c (.int .i64 1)), (.t 7)]), oo_ 9 (.build [(.int .i64 0), (.int .i64 0)] []), os_ (.store 4 (.t 2) (.t 8)), os_ (.store 2 (.t 3) (.t 9))]) .ret))
theorem token_word.code : comp PG [] (Tryz.f181.body.getD .skip) = token_word.c := by kernel_rfl
theorem token_word.of : OfE PG 181 1 token_word.c [(.cell 2 (some 4)), (.cell 3 (some 2))] := fnE (nt := 10) mixed Tryz.func181 token_word.code (by kernel_rfl) (by kernel_rfl) (by kernel_rfl) (by kernel_rfl) (by kernel_rfl) (by kernel_rfl)
def token_digit.n : Nat := 182
noncomputable def token_digit.c : C := (.seq (.reg [oo_ 2 (.mv (.c (.bool false)))]) (.seq (.reg [om_ 3 0, oo_ 4 (.bin .geq (.t 3) (.c (.int .u8 48))), om_ 5 4, og_ 6 5 true (.mv (.t 0)), og_ 7 5 true (.bin .leq (.t 6) (.c (.int .u8 57))), oo_ 8 (.pick (.t 5) (.t 7) (.c (.bool false))), om_ 2 8]) .ret))
theorem token_digit.code : comp PG [] (Tryz.f182.body.getD .skip) = token_digit.c := by kernel_rfl
theorem token_digit.of : OfE PG 182 1 token_digit.c [(.t 2)] := fnE (nt := 9) mixed Tryz.func182 token_digit.code (by kernel_rfl) (by kernel_rfl) (by kernel_rfl) (by kernel_rfl) (by kernel_rfl) (by kernel_rfl)
def token_number.n : Nat := 183
noncomputable def token_number.c : C := (.seq (.reg [oo_ 2 (.allc 111 [(.int .i64 0), (.str []), (.int .u64 0), (.int .i64 0)]), oo_ 3 (.allc 72 [(.int .i64 0), (.int .i64 0)])]) (.seq (.reg [oo_ 4 (.mv (.c (.int .i64 0)))]) (.seq (.block 0 (.loop (.seq (.seq (.reg [om_ 8 4, om_ 9 0, oo_ 10 (.call 209 [(.t 9)]), oo_ 11 (.len true (.t 10)), oo_ 12 (.bin .lss (.t 8) (.t 11)), om_ 13 12, og_ 14 13 true (.mv (.t 0)), og_ 15 13 true (.call 209 [(.t 14)]), og_ 16 13 true (.mv (.t 4)), og_ 17 13 true (.idx (.t 15) (.t 16)), og_ 18 13 true (.call 182 [(.t 17)]), oo_ 19 (.pick (.t 13) (.t 18) (.c (.bool false)))]) (.cond (.t 19) .skip (.exit 0))) (.block 1 (.reg [om_ 20 4, oo_ 21 (.bin .add (.t 20) (.c (.int .i64 1))), om_ 4 21]))))) (.seq (.reg [om_ 22 0, om_ 23 4, oo_ 24 (.call 208 [(.t 22), (.c (.int .i64 2)), (.t 23)]), oo_ 5 (.allc 111 [(.int .i64 0), (.str []), (.int .u64 0), (.int .i64 0)]), os_ (.store 4 (.t 5) (.t 24))]) (.seq (.seq (.reg [om_ 25 4, oo_ 26 (.bin .gtr (.t 25) (.c (.int .i64 1))), om_ 27 26, og_ 28 27 true (.faddr 1 (.t 5)), og_ 29 27 true (.load none (.t 28)), og_ 30 27 true (.idx (.t 29) (.c (.int .i64 0))), og_ 31 27 true (.bin .eql (.t 30) (.c (.int .u8 48))), oo_ 32 (.pick (.t 27) (.t 31) (.c (.bool false)))]) (.cond (.t 32) (.seq (.dreg [oo_ 33 (.load (some 4) (.t 5)), of_ 34 3 5, ol_ 35 34, oo_ 36 (.build [(.int .i64 0), (.int .i64 0)] [(0, (1, (.c (.int .i64 1)))), (1, (1, (.t 35)))]), os_ (.store 4 (.t 2) (.t 33))] [os_ (.store 2 (.t 3) (.t 36))]) .ret) .skip)) (.seq (.seq (.reg [om_ 37 4, oo_ 38 (.mv (.c (.int .i64 0)))]) (.block 2 (.loop (.seq (.reg [oo_ 39 (.bin .lss (.t 38) (.t 37))]) (.seq (.cond (.t 39) .skip (.exit 2)) (.seq (.block 3 (.seq (.reg [om_ 40 38, om_ 6 40]) (.seq (.reg [of_ 41 1 5, ol_ 42 41, om_ 43 6, oo_ 44 (.idx (.t 42) (.t 43)), oo_ 45 (.bin .sub (.t 44) (.c (.int .u8 48))), oo_ 46 (.conv .u64 (.t 45)), om_ 7 46]) (.seq (.seq (.reg [of_ 47 2 5, ol_ 48 47, om_ 49 7, oo_ 50 (.bin .sub (.c (.int .u64 18446744073709551615)) (.t 49)), oo_ 51 (.bin .quo (.t 50) (.c (.int .u64 10))), oo_ 52 (.bin .gtr (.t 48) (.t 51))]) (.cond (.t 52) (.seq (.dreg [oo_ 53 (.load (some 4) (.t 5)), of_ 54 3 5, ol_ 55 54, oo_ 56 (.build [(.int .i64 0), (.int .i64 0)] [(0, (1, (.c (.int .i64 7)))), (1, (1, (.t 55)))]), os_ (.store 4 (.t 2) (.t 53))] [os_ (.store 2 (.t 3) (.t 56))]) .ret) .skip)) (.reg [of_ 57 2 5, ol_ 58 57, oo_ 59 (.bin .mul (.c (.int .u64 10)) (.t 58)), om_ 60 7, oo_ 61 (.bin .add (.t 59) (.t 60)), of_ 62 2 5, os_ (.store 1 (.t 62) (.t 61))]))))) (.reg [oo_ 63 (.bin .add (.t 38) (.c (.int .i64 1))), om_ 38 63]))))))) (.seq (.reg [oo_ 64 (.load (some 4) (.t 5)), oo_ 65 (.build [(.int .i64 0), (.int .i64 0)] []), os_ (.store 4 (.t 2) (.t 64)), os_ (.store 2 (.t 3) (.t 65))]) .ret)))))))
theorem token_number.code : comp PG [] (Tryz.f183.body.getD .skip) = token_number.c := by kernel_rfl
theorem token_number.of : OfE PG 183 1 token_number.c [(.cell 2 (some 4)), (.cell 3 (some 2))] := fnE (nt := 66) mixed Tryz.func183 token_number.code (by kernel_rfl) (by kernel_rfl) (by kernel_rfl) (by kernel_rfl) (by kernel_rfl) (by kernel_rfl)
def token_kinds_2.n : Nat := 184
noncomputable def token_kinds_2.c : C := (.seq (.reg [oo_ 2 (.mv (.c (.bool false)))]) (.seq (.reg [om_ 3 0, oo_ 4 (.bin .eql (.t 3) (.c (.int .u8 39))), om_ 2 4]) .ret))
theorem token_kinds_2.code : comp PG [] (Tryz.f184.body.getD .skip) = token_kinds_2.c := by kernel_rfl
theorem token_kinds_2.of : OfE PG 184 1 token_kinds_2.c [(.t 2)] := fnE (nt := 5) mixed Tryz.func184 token_kinds_2.code (by kernel_rfl) (by kernel_rfl) (by kernel_rfl) (by kernel_rfl) (by kernel_rfl) (by kernel_rfl)
def token_text.n : Nat := 185
noncomputable def token_text.c : C := (.seq (.reg [oo_ 2 (.allc 111 [(.int .i64 0), (.str []), (.int .u64 0), (.int .i64 0)]), oo_ 3 (.allc 72 [(.int .i64 0), (.int .i64 0)])]) (.seq (.reg [om_ 7 0, oo_ 8 (.nilck (.t 7)), of_ 9 1 8, ol_ 10 9, oo_ 11 (.build [(.int .i64 0), (.str []), (.int .u64 0), (.int .i64 0)] [(0, (1, (.c (.int .i64 3)))), (3, (1, (.t 10)))]), oo_ 4 (.allc 111 [(.int .i64 0), (.str []), (.int .u64 0), (.int .i64 0)]), os_ (.store 4 (.t 4) (.t 11))]) (.seq (.reg [oo_ 5 (.allc 236 [.nilP, .nilS])]) (.seq (.seq (.reg [om_ 12 0, oo_ 13 (.nilck (.t 12)), of_ 14 1 13, ol_ 15 14, oo_ 16 (.bin .add (.t 15) (.c (.int .i64 1))), oo_ 17 (.nilck (.t 12)), of_ 18 1 17, os_ (.store 1 (.t 18) (.t 16))]) (.block 0 (.loop (.seq (.seq (.dreg [om_ 19 0, oo_ 20 (.nilck (.t 19)), of_ 21 1 20, ol_ 22 21, om_ 23 0, oo_ 24 (.nilck (.t 23)), of_ 25 0 24, ol_ 26 25, oo_ 27 (.len true (.t 26))] [oo_ 28 (.bin .lss (.t 22) (.t 27))]) (.cond (.t 28) .skip (.exit 0))) (.seq (.block 1 (.seq (.dreg [om_ 36 0, oo_ 37 (.nilck (.t 36)), of_ 38 0 37, ol_ 39 38, om_ 40 0, oo_ 41 (.nilck (.t 40)), of_ 42 1 41, ol_ 43 42] [oo_ 44 (.idx (.t 39) (.t 43)), om_ 6 44]) (.block 2 (.seq (.reg [om_ 57 6, oo_ 58 (.bin .lss (.t 57) (.c (.int .u8 32))), om_ 59 58, og_ 60 59 false (.mv (.t 6)), og_ 61 59 false (.bin .gtr (.t 60) (.c (.int .u8 126))), oo_ 62 (.pick (.t 59) (.c (.bool true)) (.t 61)), om_ 56 62]) (.cond (.t 56) (.seq (.dreg [oo_ 63 (.load (some 4) (.t 4)), om_ 64 0, oo_ 65 (.nilck (.t 64)), of_ 66 1 65, ol_ 67 66, oo_ 68 (.build [(.int .i64 0), (.int .i64 0)] [(0, (1, (.c (.int .i64 10)))), (1, (1, (.t 67)))]), os_ (.store 4 (.t 2) (.t 63))] [os_ (.store 2 (.t 3) (.t 68))]) .ret) (.seq (.reg [om_ 70 6, oo_ 71 (.bin .neq (.t 70) (.c (.int .u8 39))), om_ 69 71]) (.cond (.t 69) (.reg [om_ 72 6, oo_ 73 (.call 210 [(.t 5), (.t 72)])]) (.seq (.reg [om_ 75 0, oo_ 76 (.call 209 [(.t 75)]), oo_ 77 (.call 211 [(.t 76), (.c (.str [39, 39]))]), om_ 74 77]) (.cond (.t 74) (.seq (.reg [om_ 78 6, oo_ 79 (.call 210 [(.t 5), (.t 78)])]) (.reg [om_ 80 0, oo_ 81 (.nilck (.t 80)), of_ 82 1 81, ol_ 83 82, oo_ 84 (.bin .add (.t 83) (.c (.int .i64 1))), oo_ 85 (.nilck (.t 80)), of_ 86 1 85, os_ (.store 1 (.t 86) (.t 84))])) (.seq (.reg [om_ 45 0, oo_ 46 (.nilck (.t 45)), of_ 47 1 46, ol_ 48 47, oo_ 49 (.bin .add (.t 48) (.c (.int .i64 1))), oo_ 50 (.nilck (.t 45)), of_ 51 1 50, os_ (.store 1 (.t 51) (.t 49))]) (.seq (.reg [oo_ 52 (.call 212 [(.t 5)]), of_ 53 1 4, os_ (.store 1 (.t 53) (.t 52))]) (.seq (.reg [oo_ 54 (.load (some 4) (.t 4)), oo_ 55 (.build [(.int .i64 0), (.int .i64 0)] []), os_ (.store 4 (.t 2) (.t 54)), os_ (.store 2 (.t 3) (.t 55))]) .ret)))))))))))) (.reg [om_ 29 0, oo_ 30 (.nilck (.t 29)), of_ 31 1 30, ol_ 32 31, oo_ 33 (.bin .add (.t 32) (.c (.int .i64 1))), oo_ 34 (.nilck (.t 29)), of_ 35 1 34, os_ (.store 1 (.t 35) (.t 33))])))))) (.seq (.dreg [oo_ 87 (.load (some 4) (.t 4)), of_ 88 3 4, ol_ 89 88, oo_ 90 (.build [(.int .i64 0), (.int .i64 0)] [(0, (1, (.c (.int .i64 2)))), (1, (1, (.t 89)))]), os_ (.store 4 (.t 2) (.t 87))] [os_ (.store 2 (.t 3) (.t 90))]) .ret)))))
theorem token_text.code : comp PG [] (Tryz.f185.body.getD .skip) = token_text.c := by kernel_rfl
theorem token_text.of : OfE PG 185 1 token_text.c [(.cell 2 (some 4)), (.cell 3 (some 2))] := fnE (nt := 91) mixed Tryz.func185 token_text.code (by kernel_rfl) (by kernel_rfl) (by kernel_rfl) (by kernel_rfl) (by kernel_rfl) (by kernel_rfl)
def token_kinds_3.n : Nat := 186
noncomputable def token_kinds_3.c : C := (.seq (.reg [oo_ 2 (.mv (.c (.bool false)))]) (.seq (.reg [om_ 3 0, oo_ 4 (.bin .eql (.t 3) (.c (.int .u8 37))), om_ 2 4]) .ret))
theorem token_kinds_3.code : comp PG [] (Tryz.f186.body.getD .skip) = token_kinds_3.c := by kernel_rfl
theorem token_kinds_3.of : OfE PG 186 1 token_kinds_3.c [(.t 2)] := fnE (nt := 5) mixed Tryz.func186 token_kinds_3.code (by kernel_rfl) (by kernel_rfl) (by kernel_rfl) (by kernel_rfl) (by kernel_rfl) (by kernel_rfl)
def token_param.n : Nat := 187
noncomputable def token_param.c : C := (.seq (.reg [oo_ 2 (.allc 111 [(.int .i64 0), (.str []), (.int .u64 0), (.int .i64 0)]), oo_ 3 (.allc 72 [(.int .i64 0), (.int .i64 0)])]) (.seq (.seq (.reg [om_ 5 0, oo_ 6 (.call 209 [(.t 5)]), oo_ 7 (.len true (.t 6)), oo_ 8 (.bin .lss (.t 7) (.c (.int .i64 2))), om_ 9 8, og_ 10 9 false (.mv (.t 0)), og_ 11 9 false (.call 209 [(.t 10)]), og_ 12 9 false (.idx (.t 11) (.c (.int .i64 1))), og_ 13 9 false (.call 182 [(.t 12)]), og_ 14 9 false (.un .not (.t 13)), oo_ 15 (.pick (.t 9) (.c (.bool true)) (.t 14))]) (.cond (.t 15) (.seq (.dreg [oo_ 16 (.build [(.int .i64 0), (.str []), (.int .u64 0), (.int .i64 0)] []), om_ 17 0, oo_ 18 (.nilck (.t 17)), of_ 19 1 18, ol_ 20 19, oo_ 21 (.build [(.int .i64 0), (.int .i64 0)] [(0, (1, (.c (.int .i64 11)))), (1, (1, (.t 20)))]), os_ (.store 4 (.t 2) (.t 16))] [os_ (.store 2 (.t 3) (.t 21))]) .ret) .skip)) (.seq (.reg [om_ 22 0, oo_ 23 (.call 208 [(.t 22), (.c (.int .i64 4)), (.c (.int .i64 2))]), oo_ 4 (.allc 111 [(.int .i64 0), (.str []), (.int .u64 0), (.int .i64 0)]), os_ (.store 4 (.t 4) (.t 23))]) (.seq (.reg [of_ 24 1 4, ol_ 25 24, oo_ 26 (.idx (.t 25) (.c (.int .i64 1))), oo_ 27 (.bin .sub (.t 26) (.c (.int .u8 48))), oo_ 28 (.conv .u64 (.t 27)), of_ 29 2 4, os_ (.store 1 (.t 29) (.t 28))]) (.seq (.reg [oo_ 30 (.load (some 4) (.t 4)), oo_ 31 (.build [(.int .i64 0), (.int .i64 0)] []), os_ (.store 4 (.t 2) (.t 30)), os_ (.store 2 (.t 3) (.t 31))]) .ret)))))
theorem token_param.code : comp PG [] (Tryz.f187.body.getD .skip) = token_param.c := by kernel_rfl
theorem token_param.of : OfE PG 187 1 token_param.c [(.cell 2 (some 4)), (.cell 3 (some 2))] := fnE (nt := 32) mixed Tryz.func187 token_param.code (by kernel_rfl) (by kernel_rfl) (by kernel_rfl) (by kernel_rfl) (by kernel_rfl) (by kernel_rfl)
def token_kinds_4.n : Nat := 188
noncomputable def token_kinds_4.c : C := (.seq (.reg [oo_ 2 (.mv (.c (.bool false)))]) (.seq (.reg [om_ 3 0, oo_ 4 (.call 175 [(.c (.str [61, 60, 62, 40, 41, 46, 91, 93, 45])), (.t 3)]), oo_ 5 (.bin .geq (.t 4) (.c (.int .i64 0))), om_ 2 5]) .ret))
theorem token_kinds_4.code : comp PG [] (Tryz.f188.body.getD .skip) = token_kinds_4.c := by kernel_rfl
theorem token_kinds_4.of : OfE PG 188 1 token_kinds_4.c [(.t 2)] := fnE (nt := 6) mixed Tryz.func188 token_kinds_4.code (by kernel_rfl) (by kernel_rfl) (by kernel_rfl) (by kernel_rfl) (by kernel_rfl) (by kernel_rfl)
def token_sign.n : Nat := 189
noncomputable def token_sign.c : C := (.seq (.reg [oo_ 2 (.allc 111 [(.int .i64 0), (.str []), (.int .u64 0), (.int .i64 0)]), oo_ 3 (.allc 72 [(.int .i64 0), (.int .i64 0)])]) (.seq (.seq (.reg [oo_ 6 (.bslice 9 1 3 [(.str [])] [(0, (.c (.str [60, 62]))), (1, (.c (.str [60, 61]))), (2, (.c (.str [62, 61])))]), oo_ 7 (.len false (.t 6)), oo_ 8 (.mv (.c (.int .i64 0)))]) (.block 0 (.loop (.seq (.reg [oo_ 9 (.bin .lss (.t 8) (.t 7))]) (.seq (.cond (.t 9) .skip (.exit 0)) (.seq (.block 1 (.seq (.reg [oo_ 10 (.iaddr 1 (.t 6) (.t 8)), ol_ 11 10, om_ 5 11]) (.seq (.reg [om_ 12 0, oo_ 13 (.call 209 [(.t 12)]), om_ 14 5, oo_ 15 (.call 211 [(.t 13), (.t 14)])]) (.cond (.t 15) (.seq (.reg [om_ 16 0, oo_ 17 (.call 208 [(.t 16), (.c (.int .i64 5)), (.c (.int .i64 2))]), oo_ 18 (.build [(.int .i64 0), (.int .i64 0)] []), os_ (.store 4 (.t 2) (.t 17)), os_ (.store 2 (.t 3) (.t 18))]) .ret) .skip)))) (.reg [oo_ 19 (.bin .add (.t 8) (.c (.int .i64 1))), om_ 8 19]))))))) (.seq (.reg [om_ 20 0, oo_ 21 (.call 208 [(.t 20), (.c (.int .i64 5)), (.c (.int .i64 1))]), oo_ 22 (.build [(.int .i64 0), (.int .i64 0)] []), os_ (.store 4 (.t 2) (.t 21)), os_ (.store 2 (.t 3) (.t 22))]) .ret)))
theorem token_sign.code : comp PG [] (Tryz.f189.body.getD .skip) = token_sign.c := by kernel_rfl
theorem token_sign.of : OfE PG 189 1 token_sign.c [(.cell 2 (some 4)), (.cell 3 (some 2))] := fnE (nt := 23) mixed Tryz.func189 token_sign.code (by kernel_rfl) (by kernel_rfl) (by kernel_rfl) (by kernel_rfl) (by kernel_rfl) (by kernel_rfl)
def stringslite_IndexByte.n : Nat := 205
noncomputable def stringslite_IndexByte.c : C := (.seq (.reg [oo_ 4 (.mv (.c (.int .i64 0)))]) (.seq (.reg [om_ 5 0, om_ 6 1, oo_ 7 (.ext .ixb [(.t 5), (.t 6)]), om_ 4 7]) .ret))
theorem stringslite_IndexByte.code : comp PG [] (Tryz.f205.body.getD .skip) = stringslite_IndexByte.c := by kernel_rfl
theorem stringslite_IndexByte.of : OfE PG 205 2 stringslite_IndexByte.c [(.t 4)] := fnE (nt := 8) mixed Tryz.func205 stringslite_IndexByte.code (by kernel_rfl) (by kernel_rfl) (by kernel_rfl) (by kernel_rfl) (by kernel_rfl) (by kernel_rfl)
def stringslite_HasPrefix.n : Nat := 206
noncomputable def stringslite_HasPrefix.c : C := (.seq (.reg [oo_ 4 (.mv (.c (.bool false)))]) (.seq (.reg [om_ 5 0, oo_ 6 (.len true (.t 5)), om_ 7 1, oo_ 8 (.len true (.t 7)), oo_ 9 (.bin .geq (.t 6) (.t 8)), om_ 10 9, og_ 11 10 true (.mv (.t 0)), og_ 12 10 true (.mv (.t 1)), og_ 13 10 true (.len true (.t 12)), og_ 14 10 true (.slice none (.t 11) none (some (.t 13))), og_ 15 10 true (.mv (.t 1)), og_ 16 10 true (.bin .eql (.t 14) (.t 15)), oo_ 17 (.pick (.t 10) (.t 16) (.c (.bool false))), om_ 4 17]) .ret))
theorem stringslite_HasPrefix.code : comp PG [] (Tryz.f206.body.getD .skip) = stringslite_HasPrefix.c := by kernel_rfl
theorem stringslite_HasPrefix.of : OfE PG 206 2 stringslite_HasPrefix.c [(.t 4)] := fnE (nt := 18) mixed Tryz.func206 stringslite_HasPrefix.code (by kernel_rfl) (by kernel_rfl) (by kernel_rfl) (by kernel_rfl) (by kernel_rfl) (by kernel_rfl)
def token_lexer_cut.n : Nat := 208
noncomputable def token_lexer_cut.c : C := (.seq (.reg [oo_ 6 (.allc 111 [(.int .i64 0), (.str []), (.int .u64 0), (.int .i64 0)])]) (.seq (.dreg [om_ 8 1, om_ 9 0, oo_ 10 (.call 209 [(.t 9)]), om_ 11 2, oo_ 12 (.slice none (.t 10) none (some (.t 11))), om_ 13 0, oo_ 14 (.nilck (.t 13)), of_ 15 1 14, ol_ 16 15, oo_ 17 (.build [(.int .i64 0), (.str []), (.int .u64 0), (.int .i64 0)] [(0, (1, (.t 8))), (1, (1, (.t 12))), (3, (1, (.t 16)))]), oo_ 7 (.allc 111 [(.int .i64 0), (.str []), (.int .u64 0), (.int .i64 0)])] [os_ (.store 4 (.t 7) (.t 17))]) (.seq (.reg [om_ 18 0, oo_ 19 (.nilck (.t 18)), of_ 20 1 19, ol_ 21 20, om_ 22 2, oo_ 23 (.bin .add (.t 21) (.t 22)), oo_ 24 (.nilck (.t 18)), of_ 25 1 24, os_ (.store 1 (.t 25) (.t 23))]) (.seq (.reg [oo_ 26 (.load (some 4) (.t 7)), os_ (.store 4 (.t 6) (.t 26))]) .ret))))
theorem token_lexer_cut.code : comp PG [] (Tryz.f208.body.getD .skip) = token_lexer_cut.c := by kernel_rfl
theorem token_lexer_cut.of : OfE PG 208 3 token_lexer_cut.c [(.cell 6 (some 4))] := fnE (nt := 27) mixed Tryz.func208 token_lexer_cut.code (by kernel_rfl) (by kernel_rfl) (by kernel_rfl) (by kernel_rfl) (by kernel_rfl) (by kernel_rfl)
def token_lexer_rest.n : Nat := 209
noncomputable def token_lexer_rest.c : C := (.seq (.reg [oo_ 2 (.mv (.c (.str [])))]) (.seq (.dreg [om_ 3 0, oo_ 4 (.nilck (.t 3)), of_ 5 0 4, ol_ 6 5, om_ 7 0, oo_ 8 (.nilck (.t 7)), of_ 9 1 8, ol_ 10 9] [oo_ 11 (.slice none (.t 6) (some (.t 10)) none), om_ 2 11]) .ret))
theorem token_lexer_rest.code : comp PG [] (Tryz.f209.body.getD .skip) = token_lexer_rest.c := by kernel_rfl
theorem token_lexer_rest.of : OfE PG 209 1 token_lexer_rest.c [(.t 2)] := fnE (nt := 12) mixed Tryz.func209 token_lexer_rest.code (by kernel_rfl) (by kernel_rfl) (by kernel_rfl) (by kernel_rfl) (by kernel_rfl) (by kernel_rfl)
def strings_Builder_WriteByte.n : Nat := 210
noncomputable def strings_Builder_WriteByte.c : C := (.seq (.reg [oo_ 4 (.mv (.c .nilI))]) (.seq (.reg [om_ 5 0, oo_ 6 (.call 220 [(.t 5)])]) (.seq (.reg [om_ 7 0, om_ 8 0, oo_ 9 (.nilck (.t 8)), of_ 10 1 9, ol_ 11 10, om_ 12 1, oo_ 13 (.bslice 5 1 1 [(.int .u8 0)] [(0, (.t 12))]), oo_ 14 (.append 5 false 1 1 (.t 11) (.t 13)), oo_ 15 (.nilck (.t 7)), of_ 16 1 15, os_ (.store 1 (.t 16) (.t 14))]) (.seq (.reg [oo_ 4 (.mv (.c .nilI))]) .ret))))
theorem strings_Builder_WriteByte.code : comp PG [] (Tryz.f210.body.getD .skip) = strings_Builder_WriteByte.c := by kernel_rfl
theorem strings_Builder_WriteByte.of : OfE PG 210 2 strings_Builder_WriteByte.c [(.t 4)] := fnE (nt := 17) mixed Tryz.func210 strings_Builder_WriteByte.code (by kernel_rfl) (by kernel_rfl) (by kernel_rfl) (by kernel_rfl) (by kernel_rfl) (by kernel_rfl)
def strings_HasPrefix.n : Nat := 211
noncomputable def strings_HasPrefix.c : C := (.seq (.reg [oo_ 4 (.mv (.c (.bool false)))]) (.seq (.reg [om_ 5 0, om_ 6 1, oo_ 7 (.call 206 [(.t 5), (.t 6)]), om_ 4 7]) .ret))
theorem strings_HasPrefix.code : comp PG [] (Tryz.f211.body.getD .skip) = strings_HasPrefix.c := by kernel_rfl
theorem strings_HasPrefix.of : OfE PG 211 2 strings_HasPrefix.c [(.t 4)] := fnE (nt := 8) mixed Tryz.func211 strings_HasPrefix.code (by kernel_rfl) (by kernel_rfl) (by kernel_rfl) (by kernel_rfl) (by kernel_rfl) (by kernel_rfl)
def strings_Builder_String.n : Nat := 212
noncomputable def strings_Builder_String.c : C := (.seq (.reg [oo_ 2 (.mv (.c (.str [])))]) (.seq (.dreg [om_ 3 0, oo_ 4 (.nilck (.t 3)), of_ 5 1 4, ol_ 6 5, oo_ 7 (.sdata (.t 6)), om_ 8 0, oo_ 9 (.nilck (.t 8)), of_ 10 1 9, ol_ 11 10, oo_ 12 (.len false (.t 11))] [oo_ 13 (.ustr 5 (.t 7) (.t 12)), om_ 2 13]) .ret))
theorem strings_Builder_String.code : comp PG [] (Tryz.f212.body.getD .skip) = strings_Builder_String.c := by kernel_rfl
theorem strings_Builder_String.of : OfE PG 212 1 strings_Builder_String.c [(.t 2)] := fnE (nt := 14) mixed Tryz.func212 strings_Builder_String.code (by kernel_rfl) (by kernel_rfl) (by kernel_rfl) (by kernel_rfl) (by kernel_rfl) (by kernel_rfl)
def strings_Builder_copyCheck.n : Nat := 220
noncomputable def strings_Builder_copyCheck.c : C := (.seq (.reg [om_ 2 0, oo_ 3 (.nilck (.t 2)), of_ 4 0 3, ol_ 5 4, oo_ 6 (.ncmpP false (.t 5))]) (.cond (.t 6) (.reg [om_ 7 0, om_ 8 0, oo_ 9 (.idu (.t 8)), oo_ 10 (.ext .same [(.t 9)]), oo_ 11 (.idf [(236, (2, 0))] (.t 10)), oo_ 12 (.nilck (.t 7)), of_ 13 0 12, os_ (.store 1 (.t 13) (.t 11))]) (.seq (.reg [om_ 14 0, oo_ 15 (.nilck (.t 14)), of_ 16 0 15, ol_ 17 16, om_ 18 0, oo_ 19 (.peq true (.t 17) (.t 18))]) (.cond (.t 19) .bad .skip))))
theorem strings_Builder_copyCheck.code : comp PG [] (Tryz.f220.body.getD .skip) = strings_Builder_copyCheck.c := by kernel_rfl
theorem strings_Builder_copyCheck.of : OfE PG 220 1 strings_Builder_copyCheck.c [] := fnE (nt := 20) mixed Tryz.func220 strings_Builder_copyCheck.code (by kernel_rfl) (by kernel_rfl) (by kernel_rfl) (by kernel_rfl) (by kernel_rfl) (by kernel_rfl)
end Go.Proofs.YtjaigpidmngaaaaGreat
