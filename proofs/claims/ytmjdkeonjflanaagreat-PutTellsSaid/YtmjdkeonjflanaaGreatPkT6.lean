/- Texts of this proof, one behind the other: RFitSpec3, FitMath2, PutMath, PutRMath, SimShelf, CodeW, BitMath, ShelfLay, RepSpec, BufSpec, PutRSpec, PutRSpec2. -/
import Derived.Test.YtmjdkeonjflanaaGreatPkT5
import Derived.Below
import Derived.KernelRfl
import Derived.Test.YtmjdkeonjflanaaGreatProg
import Derived.Shelf.Strings.Repeat
/- Which values are of a type, in the reference, walked: all. -/
namespace Go.Proofs.YtmjdkeonjflanaaGreat
set_option autoImplicit false
set_option linter.unusedSimpArgs false
set_option linter.unusedVariables false
attribute [local irreducible] callA callP ACalls
theorem r9_Parts_spec (l : List Ty) (hl : TysOk l) (t : Int) (h0 : 0 ≤ t) (h1 : t < l.length) (hb : (tAt l t).bd ≤ 1000) (v : Vl) (hok : vOk v) (H : AH) : ACalls PG broadsheetref09_Parts.n [tysA l, .int .i64 t, vlA v] H fun r H' => r = .tup [.rows 1 ((partT l t v.num v.its.length).map inR), .bool (decide (¬ ((tAt l t).kd = 11 ∧ (tAt l t).bd < (v.its.length : Int))))] ∧ H' = H := (r9_Parts_spec0 l hl t h0 h1 hb v hok).frame H
theorem TyG.more {l : List Ty} {n : Nat} {t : Ty} (h : TyG l n t) : tyMore t = false ∧ t.its.any (itMore t.kd) = false := by
  have := h.form
  unfold formE at this
  split at this
  · cases this
  · split at this
    · cases this
    · rename_i q
      constructor
      · cases hm : tyMore t
        · rfl
        · exact absurd (.inl hm) q
      · cases hm : t.its.any (itMore t.kd)
        · rfl
        · exact absurd (.inr hm) q
theorem TyG.bd0 {l : List Ty} {n : Nat} {t : Ty} (h : TyG l n t) (hb : kBd t.kd = false) : t.bd = 0 := by
  have := h.more.1
  simp only [tyMore, decide_eq_false_iff_not] at this
  apply Classical.byContradiction
  intro q
  exact this (.inr (.inl ⟨hb, q⟩))
/-- What the reference's 'fits' is known to answer. -/
def RFitC (l : List Ty) (v : Vl) : Prop := ∀ t : Int, 0 ≤ t → t < l.length → ∀ H, ACalls PG broadsheetref09_fits.n [tysA l, .int .i64 t, vlA v] H fun r H' => r = .int .i64 (fitE l t v) ∧ H' = H
theorem partT_in {l : List Ty} {t : Int} {j : Nat} (hG : TyG l j (tAt l t)) (n m : Nat) : ∀ p ∈ partT l t n m, 0 ≤ p ∧ p < j := by
  have hp := hG.parts
  intro p h
  unfold partT at h
  split at h
  · rename_i c
    rw [List.eq_of_mem_replicate h]
    exact hp _ (by unfold parts; rw [show kEl (tAt l t).kd = true from by simp [kEl, c]]; simp)
  · split at h
    · rename_i c
      rw [List.eq_of_mem_replicate h]
      exact hp _ (by unfold parts; rw [show kEl (tAt l t).kd = true from by simp [kEl, c]]; simp)
    · split at h
      · rename_i c
        obtain ⟨y, hy, rfl⟩ := List.mem_map.1 h
        exact hp _ (parts_item (.inl c) hy)
      · split at h
        · rename_i c
          split at h
          · rename_i k hk
            simp only [List.mem_singleton] at h
            rw [h, getD_get (brIx_lt hk)]
            exact hp _ (parts_item (.inr c) (List.getElem_mem _))
          · cases h
        · cases h
theorem r9_fits_spec (l : List Ty) (hl : TysOk l) (hv : TyV l) : ∀ (m : Nat) (v : Vl), SizeOf.sizeOf v < m → vOk v → RFitC l v
  | 0, v, h, _ => by omega
  | m + 1, .mk k n x vs, hsz, hok => by
    intro t h0 h1 H
    have ih : ∀ w ∈ vs, RFitC l w := fun w hw => by
      simp only [vOk] at hok
      simp only [Vl.mk.sizeOf_spec] at hsz
      have := List.sizeOf_lt_of_mem hw
      exact r9_fits_spec l hl hv m w (by omega) (vOks_mem hok.2.2.2 _ hw)
    have hlen : (l.map tyR).length = l.length := by simp
    have hll := hl.len
    have hge := tAt_get h0 h1
    have hG := hv.tAt h0 h1
    have hkd := hG.kd
    have hbb : (tAt l t).bd ≤ 1000 := by
      cases hB : kBd (tAt l t).kd
      · have := hG.bd0 hB; omega
      · have := hG.bd hB; omega
    have hpi := partT_in hG n vs.length
    have hPt : ∀ H, ACalls PG broadsheetref09_Parts.n [tysA l, .int .i64 t, vlA (.mk k n x vs)] H fun r H' => r = .tup [.rows 1 ((partT l t n vs.length).map inR), .bool (decide (¬ ((tAt l t).kd = 11 ∧ (tAt l t).bd < (vs.length : Int))))] ∧ H' = H := fun H => r9_Parts_spec l hl t h0 h1 hbb (.mk k n x vs) hok H
    have hZ := fun H => r9_zero_spec (.mk k n x vs) hok H
    have hN := fun H => r9_number_spec l hl t h0 h1 n (by simp only [vOk] at hok; exact hok.1) H
    have hN14 := fun (h : (tAt l t).kd = 14) H => r9_number_spec l hl (tAt l t).tg (by have := hG.parts _ (parts_tag h); omega) (by have := hG.parts _ (parts_tag h); omega) n (by simp only [vOk] at hok; exact hok.1) H
    have hE := fitE_eq l t k n x vs
    have hvz : vZero k n x vs.length = decide (¬ ((n ≠ 0 ∧ 10 ≤ k ∧ k ≤ 13) ∨ (x ≠ [] ∧ k ≠ 10)) ∧ (vs.length = 0 ∨ 11 ≤ k)) := rfl
    simp only [Vl.kd, Vl.num, Vl.tx, Vl.its] at hZ
    have hkl := vlRs_len vs
    simp only [vOk] at hok
    obtain ⟨hnn, hxl, hvl, hks⟩ := hok
    refine ACalls.fz (broadsheetref09_fits.of rfl (wpF_start ?_))
    generalize tAt l t = g at *
    (first | refine au ?_ | exact au0 | fail)
    intro id5 hid5 ht5; have n5 := neAll_of hid5; (try simp only [neAll, neAll_hset] at n5); have m5 := n5; (repeat (obtain ⟨_, m5⟩ := m5))
    (first | refine au ?_ | exact au0 | fail)
    rw [hge]
    (first | refine au ?_ | exact au0 | fail)
    intro id7 hid7 ht7; have n7 := neAll_of hid7; (try simp only [neAll, neAll_hset] at n7); have m7 := n7; (repeat (obtain ⟨_, m7⟩ := m7))
    (first | refine au ?_ | exact au0 | fail)
    refine bsplit_dec (fun c => ?_) (fun c => ?_)
    · rw [if_pos c] at hE
      (first | refine au ?_ | exact au0 | fail)
      rw [hE]
      exact ⟨fz_of, sub_of⟩
    have hk : k = g.kd := Classical.not_not.1 c
    rw [if_neg c] at hE
    (first | refine au ?_ | exact au0 | fail)
    first | refine callF_eq (hZ _) ?_ | refine callG_eq rfl (hZ _) ?_
    cases hz : vZero k n x vs.length
    · rw [if_pos hz] at hE
      (first | refine au ?_ | exact au0 | fail)
      rw [hE]
      exact ⟨fz_of, sub_of⟩
    rw [if_neg (by rw [hz]; simp)] at hE
    rw [hz] at hvz
    have hvz2 := of_decide_eq_true hvz.symm
    clear hvz hZ hz
    have hx0 : k ≠ 10 → x = [] := fun q => Classical.byContradiction fun q2 => hvz2.1 (.inr ⟨q2, q⟩)
    have hm0 : k ≤ 10 → vs.length = 0 := fun q => by have := hvz2.2; omega
    clear hvz2
    (first | refine ab ?_ | exact ab0 | fail)
    refine joinP [(0, some (tysA l)), (1, some (.int .i64 t)), (5, some (.ptr id5 4 0 0)), (7, some (.ptr id7 6 0 0))] ((id7, .rows 6 [tyR g]) :: (id5, .rows 4 [vlR (.mk k n x vs)]) :: H) (¬ ((isNum k = true ∧ numT l t n = false) ∨ (k = 14 ∧ numT l g.tg n = false))) ?_ (fun p1 => ?_)
    · have hI : isNum k = decide (1 ≤ k ∧ k ≤ 9) := rfl
      by_cases c9 : g.kd ≤ 9
      · have hI9 : isNum k = true := by rw [hI]; exact decide_eq_true (by omega)
        obtain ⟨b, hb⟩ : ∃ b, numT l t n = b := ⟨_, rfl⟩
        rw [hb] at hN hE ⊢
        (first | refine au ?_ | exact au0 | fail)
        first | refine callF_eq (hN _) ?_ | refine callG_eq rfl (hN _) ?_
        cases b
        · rw [if_pos (.inl ⟨hI9, rfl⟩)] at hE
          (first | refine au ?_ | exact au0 | fail)
          rw [hE]
          exact ⟨fz_of, sub_of⟩
        · (first | refine au ?_ | exact au0 | fail)
          exact metP (by repeat (first | exact trivial | refine And.intro (Or.inl rfl) ?_ | refine And.intro (Or.inr (Exists.intro _ (And.intro rfl (Fz.refl _)))) ?_ | refine And.intro (Or.inr (Exists.intro _ (And.intro rfl (fz_eq (congrArg (AV.int _) (by omega)))))) ?_ | refine And.intro (Or.inr (Exists.intro _ (And.intro rfl (fz_eq (congrArg (AV.own _ _ _) (by (try dsimp only); (try simp only [List.length_append, List.length_map, List.length_cons, List.length_nil, List.length_take, List.length_set, List.length_replicate]); (try dsimp only); first | done | omega)))))) ?_)) sub_of (fun q => by rcases q with ⟨_, q⟩ | ⟨q, _⟩; cases q; omega)
      · have hI9 : isNum k = false := by rw [hI]; exact decide_eq_false (by omega)
        by_cases c14 : g.kd = 14
        · replace hN14 := hN14 c14
          obtain ⟨b, hb⟩ : ∃ b, numT l g.tg n = b := ⟨_, rfl⟩
          rw [hb] at hN14 hE ⊢
          (first | refine au ?_ | exact au0 | fail)
          first | refine callF_eq (hN14 _) ?_ | refine callG_eq rfl (hN14 _) ?_
          cases b
          · rw [if_pos (.inr ⟨by omega, rfl⟩)] at hE
            (first | refine au ?_ | exact au0 | fail)
            rw [hE]
            exact ⟨fz_of, sub_of⟩
          · (first | refine au ?_ | exact au0 | fail)
            exact metP (by repeat (first | exact trivial | refine And.intro (Or.inl rfl) ?_ | refine And.intro (Or.inr (Exists.intro _ (And.intro rfl (Fz.refl _)))) ?_ | refine And.intro (Or.inr (Exists.intro _ (And.intro rfl (fz_eq (congrArg (AV.int _) (by omega)))))) ?_ | refine And.intro (Or.inr (Exists.intro _ (And.intro rfl (fz_eq (congrArg (AV.own _ _ _) (by (try dsimp only); (try simp only [List.length_append, List.length_map, List.length_cons, List.length_nil, List.length_take, List.length_set, List.length_replicate]); (try dsimp only); first | done | omega)))))) ?_)) sub_of (fun q => by rcases q with ⟨q, _⟩ | ⟨_, q⟩; rw [hI9] at q; cases q; cases q)
        · (first | refine au ?_ | exact au0 | fail)
          exact metP (by repeat (first | exact trivial | refine And.intro (Or.inl rfl) ?_ | refine And.intro (Or.inr (Exists.intro _ (And.intro rfl (Fz.refl _)))) ?_ | refine And.intro (Or.inr (Exists.intro _ (And.intro rfl (fz_eq (congrArg (AV.int _) (by omega)))))) ?_ | refine And.intro (Or.inr (Exists.intro _ (And.intro rfl (fz_eq (congrArg (AV.own _ _ _) (by (try dsimp only); (try simp only [List.length_append, List.length_map, List.length_cons, List.length_nil, List.length_take, List.length_set, List.length_replicate]); (try dsimp only); first | done | omega)))))) ?_)) sub_of (fun q => by rcases q with ⟨q, _⟩ | ⟨q, _⟩; rw [hI9] at q; cases q; omega)
    rw [if_neg p1] at hE
    clear hN hN14 p1
    (first | refine ab ?_ | exact ab0 | fail)
    refine joinP [(0, some (tysA l)), (1, some (.int .i64 t)), (5, some (.ptr id5 4 0 0)), (7, some (.ptr id7 6 0 0))] ((id7, .rows 6 [tyR g]) :: (id5, .rows 4 [vlR (.mk k n x vs)]) :: H) (¬ (k = 10 ∧ g.bd < (x.length : Int))) ?_ (fun p2 => ?_)
    · (repeat' (first | (refine au ?_; first | refine bsplit_dec (fun _ => ?_) (fun _ => ?_) | refine bsplit_intro (fun _ => ?_) (fun _ => ?_)) | exact au0 | fail)); (all_goals try (first | refine au ?_ | fail))
      all_goals first
        | (exact metP (by repeat (first | exact trivial | refine And.intro (Or.inl rfl) ?_ | refine And.intro (Or.inr (Exists.intro _ (And.intro rfl (Fz.refl _)))) ?_ | refine And.intro (Or.inr (Exists.intro _ (And.intro rfl (fz_eq (congrArg (AV.int _) (by omega)))))) ?_ | refine And.intro (Or.inr (Exists.intro _ (And.intro rfl (fz_eq (congrArg (AV.own _ _ _) (by (try dsimp only); (try simp only [List.length_append, List.length_map, List.length_cons, List.length_nil, List.length_take, List.length_set, List.length_replicate]); (try dsimp only); first | done | omega)))))) ?_)) sub_of (by omega))
        | (rw [if_pos (by omega)] at hE; rw [hE]; exact ⟨fz_of, sub_of⟩)
    rw [if_neg p2] at hE
    (first | refine au ?_ | exact au0 | fail)
    refine loopL [(0, some _), (1, some _), (5, some _)] 8 0 x.length (fun i => ∀ j, j < i → x.getD j 0 ≠ 0) (by repeat (first | exact trivial | refine And.intro (Or.inl rfl) ?_ | refine And.intro (Or.inr (Exists.intro _ (And.intro rfl (Fz.refl _)))) ?_ | refine And.intro (Or.inr (Exists.intro _ (And.intro rfl (fz_eq (congrArg (AV.int _) (by omega)))))) ?_ | refine And.intro (Or.inr (Exists.intro _ (And.intro rfl (fz_eq (congrArg (AV.own _ _ _) (by (try dsimp only); (try simp only [List.length_append, List.length_map, List.length_cons, List.length_nil, List.length_take, List.length_set, List.length_replicate]); (try dsimp only); first | done | omega)))))) ?_)) (Nat.zero_le _) (fun j h => by omega) (fun i hi hno => ?_)
    (first | refine au ?_ | exact au0 | fail)
    refine bsplit_dec (fun c1 => ?_) (fun c1 => ?_)
    · have hil : i < x.length := by omega
      have hk10 : k = 10 := Classical.byContradiction fun q => by rw [hx0 q] at hil; simp at hil
      (first | refine au ?_ | exact au0 | fail)
      refine bsplit_dec (fun c2 => ?_) (fun c2 => ?_)
      · have hc0 : x.contains 0 = true := by
          rw [List.contains_iff_mem]
          have e0 : x.getD i 0 = 0 := UInt8.toNat.inj (by rw [Int.toNat_natCast] at c2; show (x.getD i 0).toNat = 0; omega)
          rw [getD_get hil] at e0
          rw [← e0]; exact List.getElem_mem hil
        rw [if_pos ⟨hk10, hc0⟩] at hE
        (first | refine au ?_ | exact au0 | fail)
        rw [hE]
        exact ⟨fz_of, sub_of⟩
      · (first | refine au ?_ | exact au0 | fail)
        refine nextN (by repeat (first | exact trivial | refine And.intro (Or.inl rfl) ?_ | refine And.intro (Or.inr (Exists.intro _ (And.intro rfl (Fz.refl _)))) ?_ | refine And.intro (Or.inr (Exists.intro _ (And.intro rfl (fz_eq (congrArg (AV.int _) (by omega)))))) ?_ | refine And.intro (Or.inr (Exists.intro _ (And.intro rfl (fz_eq (congrArg (AV.own _ _ _) (by (try dsimp only); (try simp only [List.length_append, List.length_map, List.length_cons, List.length_nil, List.length_take, List.length_set, List.length_replicate]); (try dsimp only); first | done | omega)))))) ?_)) (by exact sub_of) (by omega) (fun j hj => ?_)
        by_cases e : j = i
        · subst e; intro q; rw [Int.toNat_natCast, q] at c2; exact c2 rfl
        · exact hno j (by omega)
    have hc0 : x.contains 0 = false := by
      cases hc : x.contains 0
      · rfl
      · rw [List.contains_iff_mem] at hc
        obtain ⟨j, hj, e⟩ := List.getElem_of_mem hc
        exact absurd (by rw [getD_get hj]; exact e) (hno j (by omega))
    rw [if_neg (fun q => by rw [hc0] at q; cases q.2)] at hE
    clear hc0 hno hx0 hm0
    (first | refine au ?_ | exact au0 | fail)
    by_cases c3 : k = 11 ∧ g.bd < (vs.length : Int)
    · rw [if_pos c3] at hE
      have ed : decide (¬ (g.kd = 11 ∧ g.bd < (vs.length : Int))) = false := decide_eq_false (fun q => q ⟨by omega, c3.2⟩)
      rw [ed] at hPt
      first | refine callF_eq (hPt _) ?_ | refine callG_eq rfl (hPt _) ?_
      (first | refine au ?_ | exact au0 | fail)
      rw [hE]
      exact ⟨fz_of, sub_of⟩
    rw [if_neg c3] at hE
    have ed : decide (¬ (g.kd = 11 ∧ g.bd < (vs.length : Int))) = true := decide_eq_true (fun q => c3 ⟨by omega, q.2⟩)
    rw [ed] at hPt
    clear c3 p2
    first | refine callF_eq (hPt _) ?_ | refine callG_eq rfl (hPt _) ?_
    generalize partT l t n vs.length = ps at *
    have hplm : (ps.map inR).length = ps.length := by simp
    (first | refine au ?_ | exact au0 | fail)
    have eN : fitN l ps vs = if ps.length ≠ vs.length then 18 else fitEs l ps vs := rfl
    rw [eN] at hE
    refine bsplit_dec (fun c4 => ?_) (fun c4 => ?_)
    · rw [if_pos (by omega)] at hE
      (first | refine au ?_ | exact au0 | fail)
      rw [hE]
      exact ⟨fz_of, sub_of⟩
    rw [if_neg (by omega)] at hE
    rw [hE]
    clear hE eN hPt
    (first | refine au ?_ | exact au0 | fail)
    refine loopL [(0, some _), (5, some _), (9, some _)] 11 0 ps.length (fun i => ∀ (k : Nat) (h1 : k < ps.length) (h2 : k < vs.length), k < i → fitE l ps[k] vs[k] = 0) (by repeat (first | exact trivial | refine And.intro (Or.inl rfl) ?_ | refine And.intro (Or.inr (Exists.intro _ (And.intro rfl (Fz.refl _)))) ?_ | refine And.intro (Or.inr (Exists.intro _ (And.intro rfl (fz_eq (congrArg (AV.int _) (by omega)))))) ?_ | refine And.intro (Or.inr (Exists.intro _ (And.intro rfl (fz_eq (congrArg (AV.own _ _ _) (by (try dsimp only); (try simp only [List.length_append, List.length_map, List.length_cons, List.length_nil, List.length_take, List.length_set, List.length_replicate]); (try dsimp only); first | done | omega)))))) ?_)) (Nat.zero_le _) (fun k _ _ h => by omega) (fun i hi hno => ?_)
    (first | refine au ?_ | exact au0 | fail)
    refine bsplit_dec (fun c2 => ?_) (fun c2 => ?_)
    · have hip : i < ps.length := by omega
      have hil : i < vs.length := by omega
      have hg := vlRs_geti hil
      have hgp := row_get (f := inR) hip
      have hf := ih _ (List.getElem_mem hil)
      have hp1 := hpi _ (List.getElem_mem hip)
      have hhit := fitEs_hit (l := l) hno hip hil
      have hnx : fitE l ps[i] vs[i] = 0 → ∀ (k : Nat) (h1 : k < ps.length) (h2 : k < vs.length), k < i + 1 → fitE l ps[k] vs[k] = 0 := fun q k h1 h2 h3 => by
        by_cases e : k = i
        · subst e; exact q
        · exact hno k h1 h2 (by omega)
      generalize vs[i] = y at *
      generalize ps[i] = p at *
      have hf := hf p hp1.1 (by omega)
      obtain ⟨k2, n2, t2, l2⟩ := y
      (first | refine au ?_ | exact au0 | fail)
      rw [hgp]
      (first | refine au ?_ | exact au0 | fail)
      rw [hg]
      (first | refine au ?_ | exact au0 | fail)
      first | refine callF_eq (hf _) ?_ | refine callG_eq rfl (hf _) ?_
      (first | refine au ?_ | exact au0 | fail)
      refine bsplit_dec (fun h => ?_) (fun h => ?_)
      · (first | refine au ?_ | exact au0 | fail)
        rw [hhit h]
        exact ⟨fz_of, sub_of⟩
      · (first | refine au ?_ | exact au0 | fail)
        exact nextN (by repeat (first | exact trivial | refine And.intro (Or.inl rfl) ?_ | refine And.intro (Or.inr (Exists.intro _ (And.intro rfl (Fz.refl _)))) ?_ | refine And.intro (Or.inr (Exists.intro _ (And.intro rfl (fz_eq (congrArg (AV.int _) (by omega)))))) ?_ | refine And.intro (Or.inr (Exists.intro _ (And.intro rfl (fz_eq (congrArg (AV.own _ _ _) (by (try dsimp only); (try simp only [List.length_append, List.length_map, List.length_cons, List.length_nil, List.length_take, List.length_set, List.length_replicate]); (try dsimp only); first | done | omega)))))) ?_)) (by exact sub_of) (by omega) (hnx (Classical.not_not.1 h))
    · (first | refine au ?_ | exact au0 | fail)
      rw [fitEs_end fun k h1 h2 => hno k h1 h2 (by omega)]
      exact ⟨fz_of, sub_of⟩
theorem r9_Fits_spec (l : List Ty) (hl : TysOk l) (t : Int) (v : Vl) (hok : vOk v) (H : AH) : ACalls PG broadsheetref09_Fits.n [tysA l, .int .i64 t, vlA v] H fun r H' => r = .int .i64 (if 0 ≤ t ∧ t < l.length ∧ (tyChk l).1 = 0 then fitE l t v else 8) ∧ H' = H := by
  have hlen : (l.map tyR).length = l.length := by simp
  have hll := hl.len
  have hc := fun H => r6_Check_spec l hl H
  have hf := fun h => r9_fits_spec l hl (tyChk_v (l := l) h) _ v (Nat.lt_succ_self _) hok
  generalize (tyChk l).2 = at' at *
  generalize hce : (tyChk l).1 = e at *
  refine ACalls.fz (broadsheetref09_Fits.of rfl (wpF_start ?_))
  obtain ⟨k, n, x, vs⟩ := v
  by_cases c : 0 ≤ t ∧ t < l.length ∧ e = 0
  · rw [if_pos c]
    have hf := hf c.2.2 t c.1 c.2.1
    (first | refine au ?_ | exact au0 | fail)
    intro id3 hid3 ht3; have n3 := neAll_of hid3; (try simp only [neAll, neAll_hset] at n3); have m3 := n3; (repeat (obtain ⟨_, m3⟩ := m3))
    (first | refine au ?_ | exact au0 | fail)
    first | refine callF_eq (hc _) ?_ | refine callG_eq rfl (hc _) ?_
    (first | refine au ?_ | exact au0 | fail)
    first | refine callF_eq (hf _) ?_ | refine callG_eq rfl (hf _) ?_
    (first | refine au ?_ | exact au0 | fail)
    exact ⟨fz_of, sub_of⟩
  · rw [if_neg c]
    (first | refine au ?_ | exact au0 | fail)
    intro id3 hid3 ht3; have n3 := neAll_of hid3; (try simp only [neAll, neAll_hset] at n3); have m3 := n3; (repeat (obtain ⟨_, m3⟩ := m3))
    (repeat' (first | (refine au ?_; first | refine callF_eq (hc _) ?_ | refine bsplit_dec (fun _ => ?_) (fun _ => ?_) | refine bsplit_intro (fun _ => ?_) (fun _ => ?_)) | exact au0 | fail)); (all_goals try (first | refine au ?_ | fail))
    all_goals first | (exfalso; omega) | exact ⟨fz_of, sub_of⟩
end Go.Proofs.YtmjdkeonjflanaaGreat

/- What follows for a value that is of a type; plain. -/
namespace Go.Proofs.YtmjdkeonjflanaaGreat
set_option autoImplicit false
set_option linter.unusedVariables false
/-- What fitE = 0 says. -/
structure Fit0 (l : List Ty) (t : Int) (k : Int) (n : Nat) (x : List UInt8) (vs : List Vl) : Prop where
  kd : k = (tAt l t).kd
  z : vZero k n x vs.length = true
  num : ¬ ((isNum k = true ∧ numT l t n = false) ∨ (k = 14 ∧ numT l (tAt l t).tg n = false))
  tx : ¬ (k = 10 ∧ (tAt l t).bd < (x.length : Int))
  tx0 : ¬ (k = 10 ∧ x.contains 0 = true)
  sq : ¬ (k = 11 ∧ (tAt l t).bd < (vs.length : Int))
  len : (partT l t n vs.length).length = vs.length
  its : fitEs l (partT l t n vs.length) vs = 0
theorem fitE_0 {l : List Ty} {t : Int} {k : Int} {n : Nat} {x : List UInt8} {vs : List Vl} (h : fitE l t (.mk k n x vs) = 0) : Fit0 l t k n x vs := by
  rw [fitE_eq] at h
  by_cases c1 : k = (tAt l t).kd
  rotate_left
  · rw [if_pos c1] at h; cases h
  rw [if_neg (by simp [c1])] at h
  cases c2 : vZero k n x vs.length
  · rw [if_pos c2] at h; cases h
  rw [if_neg (by rw [c2]; simp)] at h
  by_cases c3 : (isNum k = true ∧ numT l t n = false) ∨ (k = 14 ∧ numT l (tAt l t).tg n = false)
  · rw [if_pos c3] at h; cases h
  rw [if_neg c3] at h
  by_cases c4 : k = 10 ∧ (tAt l t).bd < (x.length : Int)
  · rw [if_pos c4] at h; cases h
  rw [if_neg c4] at h
  by_cases c5 : k = 10 ∧ x.contains 0 = true
  · rw [if_pos c5] at h; cases h
  rw [if_neg c5] at h
  by_cases c6 : k = 11 ∧ (tAt l t).bd < (vs.length : Int)
  · rw [if_pos c6] at h; cases h
  rw [if_neg c6] at h
  unfold fitN at h
  by_cases c7 : (partT l t n vs.length).length = vs.length
  · rw [if_neg (by simp [c7])] at h
    exact ⟨c1, c2, c3, c4, c5, c6, c7, h⟩
  · rw [if_pos c7] at h; cases h
theorem fitEs_0 {l : List Ty} : ∀ {ps : List Int} {vs : List Vl} (_ : fitEs l ps vs = 0) (k : Nat) (h1 : k < ps.length) (h2 : k < vs.length), fitE l ps[k] vs[k] = 0
  | p :: ps, v :: vs, h, 0, _, _ => by
    simp only [fitEs] at h
    split at h
    · rename_i q; exact absurd h q
    · rename_i q; exact Classical.not_not.1 q
  | p :: ps, v :: vs, h, k + 1, h1, h2 => by
    simp only [fitEs] at h
    split at h
    · rename_i q; exact absurd h q
    · exact fitEs_0 h k (by simpa using h1) (by simpa using h2)
theorem foldl_dpF_ge {D : List Nat} {n : Nat} : ∀ (ps : List Int) (m : Nat), m ≤ ps.foldl (dpF D n) m
  | [], m => Nat.le_refl _
  | p :: ps, m => by
    have := foldl_dpF_ge (D := D) (n := n) ps (dpF D n m p)
    have : m ≤ dpF D n m p := by unfold dpF; split <;> omega
    simp only [List.foldl_cons]; omega
theorem foldl_dpF_mem {D : List Nat} {n : Nat} : ∀ (ps : List Int) (m : Nat) (p : Int), p ∈ ps → 0 ≤ p → p < (n : Int) → D.getD p.toNat 0 + 1 ≤ ps.foldl (dpF D n) m
  | q :: ps, m, p, hp, h0, h1 => by
    simp only [List.foldl_cons]
    rcases List.mem_cons.1 hp with rfl | hp
    · have := foldl_dpF_ge (D := D) (n := n) ps (dpF D n m p)
      have : D.getD p.toNat 0 + 1 ≤ dpF D n m p := by unfold dpF; rw [if_pos ⟨h0, h1⟩]; omega
      omega
    · exact foldl_dpF_mem ps _ p hp h0 h1
theorem deepT_ge {l : List Ty} {t : Int} (h0 : 0 ≤ t) (h1 : t < l.length) : 1 ≤ deepT l t := by
  obtain ⟨n, rfl⟩ : ∃ n : Nat, t = n := ⟨t.toNat, by omega⟩
  rw [deepT_eq (by omega)]
  exact foldl_dpF_ge _ _
theorem deepT_part {l : List Ty} {t : Int} (h0 : 0 ≤ t) (h1 : t < l.length) {p : Int} (hp : p ∈ parts (tAt l t)) (hp0 : 0 ≤ p) (hp1 : p < t) : deepT l p + 1 ≤ deepT l t := by
  obtain ⟨n, rfl⟩ : ∃ n : Nat, t = n := ⟨t.toNat, by omega⟩
  have hn : n < l.length := by omega
  have e : tAt l (n : Nat) = l[n] := by unfold tAt; rw [Int.toNat_natCast, getD_get hn]
  rw [e] at hp
  rw [deepT_eq hn]
  have := foldl_dpF_mem (D := dpT l n) (n := n) (parts l[n]) 1 p hp hp0 (by omega)
  rw [dpT_deep (by omega) (by omega), Int.toNat_of_nonneg hp0] at this
  exact this
theorem partT_mem {l : List Ty} {t : Int} {n m : Nat} : ∀ p ∈ partT l t n m, p ∈ parts (tAt l t) := by
  intro p h
  unfold partT at h
  split at h
  · rename_i c
    rw [List.eq_of_mem_replicate h]
    unfold parts; rw [show kEl (tAt l t).kd = true from by simp [kEl, c]]; simp
  · split at h
    · rename_i c
      rw [List.eq_of_mem_replicate h]
      unfold parts; rw [show kEl (tAt l t).kd = true from by simp [kEl, c]]; simp
    · split at h
      · rename_i c
        obtain ⟨y, hy, rfl⟩ := List.mem_map.1 h
        exact parts_item (.inl c) hy
      · split at h
        · rename_i c
          split at h
          · rename_i k hk
            simp only [List.mem_singleton] at h
            rw [h, getD_get (brIx_lt hk)]
            exact parts_item (.inr c) (List.getElem_mem _)
          · cases h
        · cases h
theorem vDeeps_le {l : List Vl} {m : Nat} (h : ∀ x ∈ l, vDeep x ≤ m) : vDeeps l ≤ m := by
  induction l with
  | nil => simp [vDeeps]
  | cons a l ih =>
    have h1 := h a List.mem_cons_self
    have h2 := ih fun x hx => h x (List.mem_cons_of_mem _ hx)
    simp only [vDeeps]; omega
/-- A value is not deeper than its type. -/
theorem fit_deep {l : List Ty} (hv : TyV l) : ∀ (m : Nat) (v : Vl), SizeOf.sizeOf v < m → ∀ t : Int, 0 ≤ t → t < l.length → fitE l t v = 0 → vDeep v ≤ deepT l t
  | 0, v, h, _, _, _, _ => by omega
  | m + 1, .mk k n x vs, hsz, t, h0, h1, hf => by
    have F := fitE_0 hf
    have hG := hv.tAt h0 h1
    have h1' := deepT_ge h0 h1
    simp only [vDeep]
    suffices vDeeps vs ≤ deepT l t - 1 by omega
    refine vDeeps_le fun w hw => ?_
    obtain ⟨i, hi, rfl⟩ := List.getElem_of_mem hw
    have hip : i < (partT l t n vs.length).length := by rw [F.len]; exact hi
    have hp := partT_mem _ (List.getElem_mem hip)
    have hr := hG.parts _ hp
    have hd := deepT_part h0 h1 hp hr.1 (by omega)
    have hs := List.sizeOf_lt_of_mem hw
    simp only [Vl.mk.sizeOf_spec] at hsz
    have := fit_deep hv m vs[i] (by omega) _ hr.1 (by omega) (fitEs_0 F.its i hip hi)
    omega
end Go.Proofs.YtmjdkeonjflanaaGreat

/- The bytes of values; plain. -/
namespace Go.Proofs.YtmjdkeonjflanaaGreat
set_option autoImplicit false
set_option linter.unusedVariables false
set_option linter.unusedSimpArgs false
/-- How many bytes are needed till a place is a multiple of a size. -/
def gapN (a sz : Nat) : Nat := (sz - a % sz) % sz
/-- A number's bytes, the lowest one first. -/
def leB : Nat → Nat → List UInt8
  | 0, _ => []
  | k + 1, n => UInt8.ofNat (n % 256) :: leB k (n / 256)
theorem leB_len : ∀ k n, (leB k n).length = k
  | 0, _ => rfl
  | k + 1, n => by simp [leB, leB_len k]
theorem leB_inj : ∀ (k n m : Nat), n < 256 ^ k → m < 256 ^ k → leB k n = leB k m → n = m
  | 0, n, m, hn, hm, _ => by simp at hn hm; omega
  | k + 1, n, m, hn, hm, h => by
    simp only [leB, List.cons.injEq] at h
    rw [Nat.pow_succ] at hn hm
    have h1 : n % 256 = m % 256 := by
      have := congrArg UInt8.toNat h.1
      simpa using this
    have h2 := leB_inj k (n / 256) (m / 256) (by omega) (by omega) h.2
    omega
/-- .. behind a gap. -/
def numB (a sz n : Nat) : List UInt8 := List.replicate (gapN a sz) 0 ++ leB sz n
theorem numB_len (a sz n : Nat) : (numB a sz n).length = gapN a sz + sz := by simp [numB, leB_len]
theorem gapN_lt {a sz : Nat} (h : 0 < sz) : gapN a sz < sz := Nat.mod_lt _ h
/-- What stands ahead of a value's items. -/
def encH (l : List Ty) (t : Int) (k : Int) (n : Nat) (x : List UInt8) (m a : Nat) : List UInt8 :=
  if k = 10 then numB a 4 (x.length + 1) ++ (x ++ [0])
  else if k = 11 then numB a 4 m
  else if k = 12 ∨ k = 13 then []
  else if k = 14 then numB a (szK (tAt l (tAt l t).tg).kd) (lowK (tAt l (tAt l t).tg).kd n)
  else numB a (szK (tAt l t).kd) (lowK (tAt l t).kd n)
mutual
/-- A value's bytes at a place. -/
def encV (l : List Ty) : Int → Vl → Nat → List UInt8
  | t, .mk k n x vs, a => encH l t k n x vs.length a ++ encVs l (partT l t n vs.length) vs (a + (encH l t k n x vs.length a).length)
def encVs (l : List Ty) : List Int → List Vl → Nat → List UInt8
  | p :: ps, v :: vs, a => encV l p v a ++ encVs l ps vs (a + (encV l p v a).length)
  | _, _, _ => []
end
theorem encVs_nil (l : List Ty) (vs : List Vl) (a : Nat) : encVs l [] vs a = [] := by cases vs <;> simp [encVs]
theorem encVs_nil' (l : List Ty) (ps : List Int) (a : Nat) : encVs l ps [] a = [] := by cases ps <;> simp [encVs]

/-! ### Numbers of a type -/
theorem szK_pos {k : Int} (h : isNum k = true) : szK k = 1 ∨ szK k = 2 ∨ szK k = 4 ∨ szK k = 8 := by
  rcases kinds9 h with rfl | rfl | rfl | rfl | rfl | rfl | rfl | rfl | rfl <;> decide
theorem lowN_lt (b n : Nat) : lowN b n < 256 ^ b := by
  unfold lowN
  rw [show (256 : Nat) = 2 ^ 8 from rfl, ← Nat.pow_mul]
  exact Nat.mod_lt _ (Nat.two_pow_pos _)
theorem lowK_lt {k : Int} (h : isNum k = true) (n : Nat) : lowK k n < 256 ^ szK k := by
  have := szK_pos h
  unfold lowK
  rw [if_neg (by omega)]
  exact lowN_lt _ _
theorem mayK_inj {k : Int} {n m : Nat} (hn : mayK k n = true) (hm : mayK k m = true) (h : lowK k n = lowK k m) : n = m := by
  simp only [mayK, Bool.and_eq_true, decide_eq_true_eq] at hn hm
  have hsz := szK_pos hn.1.1
  rw [← hn.1.2, ← hm.1.2]
  unfold lowK at h
  rw [if_neg (by omega), if_neg (by omega)] at h
  unfold upK sgnI lowK
  rw [h]
/-- An enumeration's numbers are such. -/
theorem TyG.enum {l : List Ty} {j : Nat} {t : Ty} (h : TyG l j t) (hk : t.kd = 9) {x : It} (hx : x ∈ t.its) : mayK 9 x.num = true := by
  obtain ⟨i, hi, rfl⟩ := List.getElem_of_mem hx
  have h1 := h.items
  unfold itemsE at h1
  rw [if_pos (by simp [kNm, hk])] at h1
  split at h1
  · cases h1
  split at h1
  · cases h1
  have h2 := fst0_all h1 (itemE l t i) (List.mem_map.2 ⟨i, List.mem_range.2 hi, rfl⟩)
  have h3 := h.more.2
  rw [List.any_eq_false] at h3
  have h4 := h3 t.its[i] (List.getElem_mem hi)
  simp only [itMore, decide_eq_true_eq, not_or, not_and] at h4
  unfold itemE at h2
  rw [getD_get hi] at h2
  simp only at h2
  split at h2
  rotate_left
  · cases h2
  split at h2
  · cases h2
  rw [if_neg (by omega)] at h2
  split at h2
  · rename_i q
    exact absurd q (h4.2.2.1 (by omega))
  split at h2
  · rename_i q
    unfold mayT at q
    rw [if_pos hk] at q
    exact q
  · cases h2
theorem numT_may {l : List Ty} (hv : TyV l) {t : Int} (h0 : 0 ≤ t) (h1 : t < l.length) {n : Nat} (h : numT l t n = true) : mayK (tAt l t).kd n = true := by
  unfold numT at h
  split at h
  · rename_i c
    unfold valIx at h
    rw [if_pos ⟨h0, h1, c⟩] at h
    obtain ⟨i, hi⟩ := Option.isSome_iff_exists.1 h
    obtain ⟨hn, h2, _⟩ := find_some hi
    have := (hv.tAt h0 h1).enum c (List.getElem_mem hn)
    rw [c, ← show (tAt l t).its[i].num = n from by simpa using h2]
    exact this
  · exact h
theorem TyG.tag {l : List Ty} {j : Nat} {t : Ty} (h : TyG l j t) (hk : t.kd = 14) : isNum (tAt l t.tg).kd = true := by
  have ho := h.order
  unfold orderE at ho
  split at ho
  · cases ho
  · split at ho
    · cases ho
    · rename_i q
      cases hc : isNum (tAt l t.tg).kd
      · exact absurd ⟨hk, hc⟩ q
      · rfl

/-! ### Unique reading -/
theorem app_len {α : Type} {a b r s : List α} (h : a ++ r = b ++ s) (hl : a.length = b.length) : a = b ∧ r = s := List.append_inj h hl
theorem numB_read {a sz n m : Nat} {r s : List UInt8} (hn : n < 256 ^ sz) (hm : m < 256 ^ sz) (h : numB a sz n ++ r = numB a sz m ++ s) : n = m ∧ r = s := by
  obtain ⟨h1, h2⟩ := app_len h (by rw [numB_len, numB_len])
  unfold numB at h1
  exact ⟨leB_inj sz n m hn hm (app_len h1 (by simp)).2, h2⟩
theorem Fit0.kinds {l : List Ty} {t : Int} {k : Int} {n : Nat} {x : List UInt8} {vs : List Vl} (F : Fit0 l t k n x vs) : (10 ≤ k → k ≤ 13 → n = 0) ∧ (k ≠ 10 → x = []) ∧ (k ≤ 10 → vs = []) := by
  have h := F.z
  simp only [vZero, decide_eq_true_eq, not_or, not_and, ne_eq] at h
  refine ⟨fun h1 h2 => ?_, fun h1 => ?_, fun h1 => ?_⟩
  · apply Classical.byContradiction; intro q; exact absurd h2 (h.1.1 q h1)
  · apply Classical.byContradiction; intro q; exact absurd (h.1.2 q) (by omega)
  · have := h.2
    have : vs.length = 0 := by omega
    exact List.eq_nil_of_length_eq_zero this
/-- What stands ahead of the items is read in one way. -/
theorem encH_read {l : List Ty} (hv : TyV l) {t : Int} (h0 : 0 ≤ t) (h1 : t < l.length) {k k' : Int} {n n' : Nat} {x x' : List UInt8} {vs vs' : List Vl} (F : Fit0 l t k n x vs) (F' : Fit0 l t k' n' x' vs') {a : Nat} {r s : List UInt8}
    (h : encH l t k n x vs.length a ++ r = encH l t k' n' x' vs'.length a ++ s) : k = k' ∧ n = n' ∧ x = x' ∧ vs.length = vs'.length ∧ r = s := by
  have hk : k = k' := F.kd.trans F'.kd.symm
  subst hk
  have hG := hv.tAt h0 h1
  have hkd := hG.kd
  rw [← F.kd] at hkd
  have Z := F.kinds
  have Z' := F'.kinds
  by_cases c10 : k = 10
  · have e1 := Z.2.2 (by omega)
    have e2 := Z'.2.2 (by omega)
    subst e1 e2
    have hb := hG.bd (by simp [kBd, ← F.kd, c10])
    have l1 : x.length ≤ 64 := by have := F.tx; omega
    have l2 : x'.length ≤ 64 := by have := F'.tx; omega
    unfold encH at h
    rw [if_pos c10, if_pos c10] at h
    simp only [List.append_assoc] at h
    obtain ⟨q1, q2⟩ := numB_read (sz := 4) (show x.length + 1 < 256 ^ 4 by omega) (show x'.length + 1 < 256 ^ 4 by omega) h
    obtain ⟨q3, q4⟩ := app_len q2 (by omega)
    obtain ⟨_, q5⟩ := app_len q4 rfl
    exact ⟨rfl, by rw [Z.1 (by omega) (by omega), Z'.1 (by omega) (by omega)], q3, rfl, q5⟩
  have ex : x = x' := by rw [Z.2.1 c10, Z'.2.1 c10]
  by_cases c11 : k = 11
  · have hb := hG.bd (by simp [kBd, ← F.kd, c11])
    have l1 : vs.length ≤ 64 := by have := F.sq; omega
    have l2 : vs'.length ≤ 64 := by have := F'.sq; omega
    unfold encH at h
    rw [if_neg c10, if_pos c11, if_neg c10, if_pos c11] at h
    obtain ⟨q1, q2⟩ := numB_read (sz := 4) (show vs.length < 256 ^ 4 by omega) (show vs'.length < 256 ^ 4 by omega) h
    exact ⟨rfl, by rw [Z.1 (by omega) (by omega), Z'.1 (by omega) (by omega)], ex, q1, q2⟩
  by_cases c12 : k = 12 ∨ k = 13
  · unfold encH at h
    rw [if_neg c10, if_neg c11, if_pos c12, if_neg c10, if_neg c11, if_pos c12] at h
    refine ⟨rfl, by rw [Z.1 (by omega) (by omega), Z'.1 (by omega) (by omega)], ex, ?_, h⟩
    have f1 := F.len
    have f2 := F'.len
    rcases c12 with c | c
    · rw [partT_ar rfl (by rw [← F.kd]; exact c), List.length_replicate] at f1 f2
      omega
    · rw [partT_st rfl (by rw [← F.kd]; exact c), List.length_map] at f1 f2
      omega
  by_cases c14 : k = 14
  · have hn : numT l (tAt l t).tg n = true := by
      cases e : numT l (tAt l t).tg n
      · exact absurd (.inr ⟨c14, e⟩) F.num
      · rfl
    have hn' : numT l (tAt l t).tg n' = true := by
      cases e : numT l (tAt l t).tg n'
      · exact absurd (.inr ⟨c14, e⟩) F'.num
      · rfl
    have ht := hG.parts _ (parts_tag (by rw [← F.kd]; exact c14))
    have hm := numT_may hv ht.1 (by omega) hn
    have hm' := numT_may hv ht.1 (by omega) hn'
    have hnum := hG.tag (by rw [← F.kd]; exact c14)
    unfold encH at h
    rw [if_neg c10, if_neg c11, if_neg c12, if_pos c14, if_neg c10, if_neg c11, if_neg c12, if_pos c14] at h
    obtain ⟨q1, q2⟩ := numB_read (lowK_lt hnum _) (lowK_lt hnum _) h
    have q3 := mayK_inj hm hm' q1
    subst q3
    refine ⟨rfl, rfl, ex, ?_, q2⟩
    have f1 := F.len
    have f2 := F'.len
    unfold partT at f1 f2
    rw [if_neg (by rw [← F.kd]; omega), if_neg (by rw [← F.kd]; omega), if_neg (by rw [← F.kd]; omega), if_pos (by rw [← F.kd]; omega)] at f1 f2
    omega
  · have hnum : isNum k = true := by simp only [isNum, decide_eq_true_eq]; omega
    have hn : numT l t n = true := by
      cases e : numT l t n
      · exact absurd (.inl ⟨hnum, e⟩) F.num
      · rfl
    have hn' : numT l t n' = true := by
      cases e : numT l t n'
      · exact absurd (.inl ⟨hnum, e⟩) F'.num
      · rfl
    have hm := numT_may hv h0 h1 hn
    have hm' := numT_may hv h0 h1 hn'
    unfold encH at h
    rw [if_neg c10, if_neg c11, if_neg c12, if_neg c14, if_neg c10, if_neg c11, if_neg c12, if_neg c14] at h
    rw [F.kd] at hnum
    obtain ⟨q1, q2⟩ := numB_read (lowK_lt hnum _) (lowK_lt hnum _) h
    exact ⟨rfl, mayK_inj hm hm' q1, ex, by rw [Z.2.2 (by omega), Z'.2.2 (by omega)], q2⟩
theorem encVs_read {l : List Ty} {m : Nat} (ih : ∀ v : Vl, SizeOf.sizeOf v < m → ∀ (v' : Vl) (t : Int) (a : Nat) (r s : List UInt8), 0 ≤ t → t < l.length → fitE l t v = 0 → fitE l t v' = 0 → encV l t v a ++ r = encV l t v' a ++ s → v = v' ∧ r = s) :
    ∀ (ps : List Int) (vs vs' : List Vl) (a : Nat) (r s : List UInt8), (∀ v ∈ vs, SizeOf.sizeOf v < m) → (∀ p ∈ ps, 0 ≤ p ∧ p < l.length) → ps.length = vs.length → ps.length = vs'.length → fitEs l ps vs = 0 → fitEs l ps vs' = 0 →
      encVs l ps vs a ++ r = encVs l ps vs' a ++ s → vs = vs' ∧ r = s
  | [], vs, vs', a, r, s, _, _, h1, h2, _, _, h => by
    rw [encVs_nil, encVs_nil] at h
    rw [List.eq_nil_of_length_eq_zero h1.symm, List.eq_nil_of_length_eq_zero h2.symm]
    exact ⟨rfl, h⟩
  | p :: ps, [], vs', a, r, s, _, _, h1, _, _, _, _ => by simp at h1
  | p :: ps, v :: vs, [], a, r, s, _, _, _, h2, _, _, _ => by simp at h2
  | p :: ps, v :: vs, v' :: vs', a, r, s, hm, hp, h1, h2, f1, f2, h => by
    have a1 := fitEs_0 f1 0 (by simp) (by simp)
    have a2 := fitEs_0 f2 0 (by simp) (by simp)
    simp only [List.getElem_cons_zero] at a1 a2
    have b1 : fitEs l ps vs = 0 := by simp only [fitEs, a1] at f1; simpa using f1
    have b2 : fitEs l ps vs' = 0 := by simp only [fitEs, a2] at f2; simpa using f2
    simp only [encVs, List.append_assoc] at h
    have hp0 := hp p List.mem_cons_self
    obtain ⟨e, h⟩ := ih v (hm v List.mem_cons_self) v' p a _ _ hp0.1 hp0.2 a1 a2 h
    subst e
    obtain ⟨e2, e3⟩ := encVs_read ih ps vs vs' _ r s (fun w hw => hm w (List.mem_cons_of_mem _ hw)) (fun q hq => hp q (List.mem_cons_of_mem _ hq)) (by simpa using h1) (by simpa using h2) b1 b2 h
    exact ⟨by rw [e2], e3⟩
/-- A value's bytes are read in one way. -/
theorem encV_read {l : List Ty} (hv : TyV l) : ∀ (m : Nat) (v : Vl), SizeOf.sizeOf v < m → ∀ (v' : Vl) (t : Int) (a : Nat) (r s : List UInt8), 0 ≤ t → t < l.length → fitE l t v = 0 → fitE l t v' = 0 → encV l t v a ++ r = encV l t v' a ++ s → v = v' ∧ r = s
  | 0, v, h, _, _, _, _, _, _, _, _, _, _ => by omega
  | m + 1, .mk k n x vs, hsz, .mk k' n' x' vs', t, a, r, s, h0, h1, f1, f2, h => by
    have F := fitE_0 f1
    have F' := fitE_0 f2
    have hG := hv.tAt h0 h1
    simp only [encV, List.append_assoc] at h
    obtain ⟨rfl, rfl, rfl, hl, h⟩ := encH_read hv h0 h1 F F' h
    rw [← hl] at h
    have g1 := F.len
    have g2 := F'.len
    have g3 := F.its
    have g4 := F'.its
    rw [← hl] at g2 g4
    have hin := partT_in hG n vs.length
    obtain ⟨e1, e2⟩ := encVs_read (l := l) (m := m) (fun v hv' => encV_read hv m v hv') _ vs vs' _ r s (fun w hw => by
      have := List.sizeOf_lt_of_mem hw
      simp only [Vl.mk.sizeOf_spec] at hsz
      omega) (fun p hp => by have := hin p hp; omega) g1 (by omega) g3 g4 h
    exact ⟨by rw [e1], e2⟩

/-! ### Lengths -/
theorem encH_len {l : List Ty} {t : Int} {k : Int} {n : Nat} {x : List UInt8} {m a : Nat} : (encH l t k n x m a).length ≤ 16 + x.length := by
  have sz : ∀ k : Int, szK k ≤ 8 := fun k => by unfold szK; repeat' split
                                                all_goals omega
  have nb : ∀ a s n : Nat, s ≤ 8 → (numB a s n).length ≤ 15 := fun a s n hs => by
    rw [numB_len]
    by_cases c : s = 0
    · subst c; simp [gapN, Nat.mod_zero]
    · have := gapN_lt (a := a) (sz := s) (by omega); omega
  have n4 : ∀ a n, (numB a 4 n).length ≤ 7 := fun a n => by
    rw [numB_len]
    have := gapN_lt (a := a) (sz := 4) (by omega); omega
  unfold encH
  split
  · have := n4 a (x.length + 1); simp only [List.length_append, List.length_cons, List.length_nil]; omega
  split
  · have := n4 a m; omega
  split
  · simp
  split
  · have := nb a _ (lowK (tAt l (tAt l t).tg).kd n) (sz (tAt l (tAt l t).tg).kd); omega
  · have := nb a _ (lowK (tAt l t).kd n) (sz (tAt l t).kd); omega
mutual
theorem encV_len (l : List Ty) : ∀ (t : Int) (v : Vl) (a : Nat), (encV l t v a).length ≤ 16 * vGreat v
  | t, .mk k n x vs, a => by
    have h1 := @encH_len l t k n x vs.length a
    have h2 := encVs_len l (partT l t n vs.length) vs (a + (encH l t k n x vs.length a).length)
    simp only [encV, vGreat, List.length_append]
    omega
theorem encVs_len (l : List Ty) : ∀ (ps : List Int) (vs : List Vl) (a : Nat), (encVs l ps vs a).length ≤ 16 * vGreats vs
  | [], vs, a => by rw [encVs_nil]; simp
  | p :: ps, [], a => by rw [encVs_nil']; simp
  | p :: ps, v :: vs, a => by
    have h1 := encV_len l p v a
    have h2 := encVs_len l ps vs (a + (encV l p v a).length)
    simp only [encVs, vGreats, List.length_append]
    omega
end
/-- A value has some bytes. -/
theorem encV_pos {l : List Ty} (hv : TyV l) : ∀ (m : Nat) (v : Vl), SizeOf.sizeOf v < m → ∀ (t : Int) (a : Nat), 0 ≤ t → t < l.length → fitE l t v = 0 → 0 < (encV l t v a).length
  | 0, v, h, _, _, _, _, _ => by omega
  | m + 1, .mk k n x vs, hsz, t, a, h0, h1, f => by
    have F := fitE_0 f
    have hG := hv.tAt h0 h1
    have hkd := hG.kd
    rw [← F.kd] at hkd
    simp only [encV, List.length_append]
    by_cases c12 : k = 12 ∨ k = 13
    · have hpos : 0 < vs.length := by
        have := F.len
        rcases c12 with c | c
        · rw [partT_ar rfl (by rw [← F.kd]; exact c), List.length_replicate] at this
          have := (hG.bd (by simp [kBd, ← F.kd, c])).2.2 (by simp [kEl, ← F.kd, c])
          omega
        · rw [partT_st rfl (by rw [← F.kd]; exact c), List.length_map] at this
          have h2 := hG.items
          unfold itemsE at h2
          rw [if_pos (by simp [kNm, ← F.kd, c])] at h2
          split at h2
          · cases h2
          · omega
      have hin := partT_in hG n vs.length
      have hl := F.len
      have hi := F.its
      cases vs with
      | nil => simp at hpos
      | cons v vs =>
        cases hps : partT l t n (v :: vs).length with
        | nil => rw [hps] at hl; simp at hl
        | cons p ps =>
          rw [hps] at hin hi
          have a1 := fitEs_0 hi 0 (by simp) (by simp)
          simp only [List.getElem_cons_zero] at a1
          have hp0 := hin p List.mem_cons_self
          have := encV_pos hv m v (by simp only [Vl.mk.sizeOf_spec, List.cons.sizeOf_spec] at hsz; omega) p (a + (encH l t k n x (v :: vs).length a).length) hp0.1 (by omega) a1
          simp only [encVs, List.length_append]
          omega
    · suffices 0 < (encH l t k n x vs.length a).length by omega
      unfold encH
      split
      · simp only [List.length_append, List.length_cons]; omega
      split
      · rw [numB_len]; omega
      split
      · rename_i c
        have := szK_pos (hG.tag (by rw [← F.kd]; exact c))
        rw [numB_len]; omega
      · have : isNum (tAt l t).kd = true := by rw [← F.kd]; simp only [isNum, decide_eq_true_eq]; omega
        have := szK_pos this
        rw [numB_len]; omega
end Go.Proofs.YtmjdkeonjflanaaGreat

/- The bytes of values, as the reference puts them; plain. -/
namespace Go.Proofs.YtmjdkeonjflanaaGreat
set_option autoImplicit false
set_option linter.unusedVariables false
set_option linter.unusedSimpArgs false
/-- A number of a size, or a text. -/
structure Pt where
  sz : Nat
  num : Nat
  tx : List UInt8
def rowH (l : List Ty) (t : Int) (k : Int) (n : Nat) (x : List UInt8) (m : Nat) : List Pt :=
  if isNum (if k = 14 then (tAt l (tAt l t).tg).kd else k) = true then [⟨szK (if k = 14 then (tAt l (tAt l t).tg).kd else k), lowK (if k = 14 then (tAt l (tAt l t).tg).kd else k) n, []⟩]
  else if (if k = 14 then (tAt l (tAt l t).tg).kd else k) = 10 then [⟨4, x.length + 1, []⟩, ⟨0, 0, x ++ [0]⟩]
  else if (if k = 14 then (tAt l (tAt l t).tg).kd else k) = 11 then [⟨4, m, []⟩]
  else []
mutual
def rowV (l : List Ty) : Int → Vl → List Pt
  | t, .mk k n x vs => rowH l t k n x vs.length ++ rowVs l (partT l t n vs.length) vs
def rowVs (l : List Ty) : List Int → List Vl → List Pt
  | p :: ps, v :: vs => rowV l p v ++ rowVs l ps vs
  | _, _ => []
end
def ptB (a : Nat) (p : Pt) : List UInt8 := if 0 < p.sz then numB a p.sz p.num else p.tx
def ptsB : Nat → List Pt → List UInt8
  | _, [] => []
  | a, p :: ps => ptB a p ++ ptsB (a + (ptB a p).length) ps
theorem ptsB_app : ∀ (a : Nat) (p q : List Pt), ptsB a (p ++ q) = ptsB a p ++ ptsB (a + (ptsB a p).length) q
  | a, [], q => by simp [ptsB]
  | a, x :: p, q => by
    simp only [List.cons_append, ptsB, ptsB_app _ p q, List.append_assoc, List.length_append, Nat.add_assoc]
theorem ptsB_take {a : Nat} {p : List Pt} {i : Nat} (h : i < p.length) : ptsB a (p.take (i + 1)) = ptsB a (p.take i) ++ ptB (a + (ptsB a (p.take i)).length) p[i] := by
  rw [List.take_succ_eq_append_getElem h, ptsB_app]
  simp [ptsB]
/-- The parts of a row are numbers that have their size, or texts. -/
def PtOk (p : Pt) : Prop := (p.sz = 0 ∨ ((p.sz = 1 ∨ p.sz = 2 ∨ p.sz = 4 ∨ p.sz = 8) ∧ p.num < 256 ^ p.sz)) ∧ p.tx.length ≤ 70
theorem rowH_enc {l : List Ty} (hv : TyV l) {t : Int} (h0 : 0 ≤ t) (h1 : t < l.length) {k : Int} {n : Nat} {x : List UInt8} {vs : List Vl} (F : Fit0 l t k n x vs) (a : Nat) :
    ptsB a (rowH l t k n x vs.length) = encH l t k n x vs.length a ∧ ∀ p ∈ rowH l t k n x vs.length, PtOk p := by
  have hG := hv.tAt h0 h1
  have hkd := hG.kd
  have hk := F.kd
  rw [← hk] at hkd
  by_cases c14 : k = 14
  · have hn := hG.tag (by omega)
    have hs := szK_pos hn
    unfold rowH encH
    rw [if_pos c14, if_pos hn, if_neg (by omega), if_neg (by omega), if_neg (by omega), if_pos c14]
    refine ⟨?_, fun p hp => ?_⟩
    · simp only [ptsB, ptB, List.append_nil]
      rw [if_pos (by omega)]
    · rw [List.mem_singleton.1 hp]
      exact ⟨.inr ⟨hs, lowK_lt hn n⟩, by simp⟩
  unfold rowH
  rw [if_neg c14]
  by_cases c10 : k = 10
  · have hb := hG.bd (by simp [kBd, ← hk, c10])
    have hx := F.tx
    unfold encH
    rw [if_neg (by simp [isNum, c10]), if_pos c10, if_pos c10]
    refine ⟨?_, fun p hp => ?_⟩
    · simp [ptsB, ptB]
    · simp only [List.mem_cons, List.not_mem_nil, or_false] at hp
      rcases hp with rfl | rfl
      · exact ⟨.inr ⟨by simp, show x.length + 1 < 256 ^ 4 by omega⟩, by simp⟩
      · exact ⟨.inl rfl, by simp; omega⟩
  by_cases c11 : k = 11
  · have hb := hG.bd (by simp [kBd, ← hk, c11])
    have hx := F.sq
    unfold encH
    rw [if_neg (by simp [isNum, c11]), if_neg c10, if_pos c11, if_neg c10, if_pos c11]
    refine ⟨?_, fun p hp => ?_⟩
    · simp [ptsB, ptB]
    · rw [List.mem_singleton.1 hp]
      exact ⟨.inr ⟨by simp, show vs.length < 256 ^ 4 by omega⟩, by simp⟩
  by_cases c12 : k = 12 ∨ k = 13
  · unfold encH
    rw [if_neg (by simp only [isNum, decide_eq_true_eq]; omega), if_neg c10, if_neg c11, if_neg c10, if_neg c11, if_pos c12]
    exact ⟨rfl, fun p hp => by cases hp⟩
  · have hn : isNum k = true := by simp only [isNum, decide_eq_true_eq]; omega
    have hs := szK_pos hn
    unfold encH
    rw [if_pos hn, if_neg c10, if_neg c11, if_neg c12, if_neg c14, ← hk]
    refine ⟨?_, fun p hp => ?_⟩
    · simp only [ptsB, ptB, List.append_nil]
      rw [if_pos (by omega)]
    · rw [List.mem_singleton.1 hp]
      exact ⟨.inr ⟨hs, lowK_lt hn n⟩, by simp⟩
theorem rowVs_enc {l : List Ty} : ∀ (ps : List Int) (vs : List Vl) (a : Nat), (∀ (k : Nat) (h1 : k < ps.length) (h2 : k < vs.length), ∀ a, ptsB a (rowV l ps[k] vs[k]) = encV l ps[k] vs[k] a ∧ ∀ p ∈ rowV l ps[k] vs[k], PtOk p) →
    ptsB a (rowVs l ps vs) = encVs l ps vs a ∧ ∀ p ∈ rowVs l ps vs, PtOk p
  | [], vs, a, _ => by
    rw [encVs_nil]
    cases vs <;> exact ⟨by simp [rowVs, ptsB], fun p hp => by simp [rowVs] at hp⟩
  | p :: ps, [], a, _ => by
    rw [encVs_nil']
    exact ⟨by simp [rowVs, ptsB], fun p hp => by simp [rowVs] at hp⟩
  | p :: ps, v :: vs, a, h => by
    obtain ⟨q1, q2⟩ := h 0 (by simp) (by simp) a
    simp only [List.getElem_cons_zero] at q1 q2
    obtain ⟨q3, q4⟩ := rowVs_enc ps vs (a + (encV l p v a).length) (fun k h1 h2 => h (k + 1) (by simpa using h1) (by simpa using h2))
    simp only [rowVs, encVs, ptsB_app, q1, q3]
    refine ⟨trivial, fun y hy => ?_⟩
    rcases List.mem_append.1 hy with hy | hy
    · exact q2 y hy
    · exact q4 y hy
/-- The reference's row has a value's bytes. -/
theorem rowV_enc {l : List Ty} (hv : TyV l) : ∀ (m : Nat) (v : Vl), SizeOf.sizeOf v < m → ∀ t : Int, 0 ≤ t → t < l.length → fitE l t v = 0 → ∀ a, ptsB a (rowV l t v) = encV l t v a ∧ ∀ p ∈ rowV l t v, PtOk p
  | 0, v, h, _, _, _, _, _ => by omega
  | m + 1, .mk k n x vs, hsz, t, h0, h1, hf, a => by
    have F := fitE_0 hf
    have hG := hv.tAt h0 h1
    have hin := partT_in hG n vs.length
    obtain ⟨q1, q2⟩ := rowH_enc hv h0 h1 F a
    obtain ⟨q3, q4⟩ := rowVs_enc (l := l) (partT l t n vs.length) vs (a + (encH l t k n x vs.length a).length) (fun k2 e1 e2 a => by
      have := hin _ (List.getElem_mem e1)
      have hs := List.sizeOf_lt_of_mem (List.getElem_mem e2)
      simp only [Vl.mk.sizeOf_spec] at hsz
      exact rowV_enc hv m vs[k2] (by omega) _ this.1 (by omega) (fitEs_0 F.its k2 e1 e2) a)
    simp only [rowV, encV, ptsB_app, q1, q3]
    refine ⟨trivial, fun y hy => ?_⟩
    rcases List.mem_append.1 hy with hy | hy
    · exact q2 y hy
    · exact q4 y hy
mutual
theorem rowV_len (l : List Ty) : ∀ (t : Int) (v : Vl), (rowV l t v).length ≤ 2 * vGreat v
  | t, .mk k n x vs => by
    have h2 := rowVs_len l (partT l t n vs.length) vs
    have h1 : (rowH l t k n x vs.length).length ≤ 2 := by
      unfold rowH
      generalize (if k = 14 then (tAt l (tAt l t).tg).kd else k) = q
      split
      · simp
      · split
        · simp
        · split <;> simp
    simp only [rowV, vGreat, List.length_append]
    omega
theorem rowVs_len (l : List Ty) : ∀ (ps : List Int) (vs : List Vl), (rowVs l ps vs).length ≤ 2 * vGreats vs
  | [], vs => by cases vs <;> simp [rowVs]
  | p :: ps, [] => by simp [rowVs]
  | p :: ps, v :: vs => by
    have h1 := rowV_len l p v
    have h2 := rowVs_len l ps vs
    simp only [rowVs, vGreats, List.length_append]
    omega
end
theorem rowVs_take {l : List Ty} : ∀ (ps : List Int) (vs : List Vl) (i : Nat) (h1 : i < ps.length) (h2 : i < vs.length), rowVs l (ps.take (i + 1)) (vs.take (i + 1)) = rowVs l (ps.take i) (vs.take i) ++ rowV l ps[i] vs[i]
  | p :: ps, v :: vs, 0, _, _ => by simp [rowVs]
  | p :: ps, v :: vs, i + 1, h1, h2 => by
    have := rowVs_take (l := l) ps vs i (by simpa using h1) (by simpa using h2)
    simp only [List.take_succ_cons, rowVs, this, List.getElem_cons_succ, List.append_assoc]
end Go.Proofs.YtmjdkeonjflanaaGreat

/- The kit's contracts of the library's functions, as contracts of this layer. -/
namespace Go.Proofs.YtmjdkeonjflanaaGreat
set_option autoImplicit false
open Go.RowKit

theorem hty_lt {h : Array Obj} {b : Nat} {t : Nat × TypeId} (q : hty h b = some t) : b < h.size := by
  unfold hty at q
  split at q
  · rename_i hx
    exact (Array.getElem?_eq_some_iff.1 hx).1
  · cases q
theorem Below.hty {w w' : World} (q : Below w.heap.size w w') (b : Nat) (t : Nat × TypeId) (h : hty w.heap b = some t) : Go.Proofs.YtmjdkeonjflanaaGreat.hty w'.heap b = some t := by
  have := q.block b (hty_lt h)
  unfold Go.Proofs.YtmjdkeonjflanaaGreat.hty at h ⊢
  rw [this]
  exact h
/-- A function of the library that leaves all that was there as it was. -/
theorem ACalls.below {P : Program} {f : Nat} {args : List AV} {v : AV} (hc : callable P f = true)
    (h : ∀ (w : World) (ρ : Loc) (Z : Nat → Prop) (xs : List Value), RlL w.heap ρ Z args xs → Calls P f xs.toArray w fun e w' => ∃ x, e = .returned x ∧ Rl w'.heap ρ Z v x ∧ Below w.heap.size w w') :
    ACalls P f args [] fun r _ => r = v := by
  refine ⟨hc, fun w ρ Z xs g hr => (h w ρ Z xs hr).mono fun e w' ⟨x, e1, e2, e3⟩ => ⟨x, v, [], ρ, Z, e1, ?_, e2, ?_, rfl⟩⟩
  · refine ⟨fun _ _ q => (by cases q), fun _ _ _ _ _ _ _ _ q => (by cases q), fun b ⟨_, _, _, q, _⟩ => (by cases q), fun b q => Nat.lt_of_lt_of_le (g.zlt b q) e3.size, g.ids, fun id b o q => ?_, g.tab.of (fun _ q => q) (fun b q => e3.block b (g.zlt b q))⟩
    obtain ⟨h1, m, h2⟩ := g.ty id b o q
    exact ⟨h1, m, Below.hty e3 b _ h2⟩
  · exact ⟨e3.size, fun b hb _ => e3.block b hb, fun b t q => Below.hty e3 b t q, fun _ q => q, fun _ q => .inl q, fun _ _ q => q, fun b ⟨_, _, _, q, _⟩ => (by cases q), e3.os, e3.output, e3.tape⟩
theorem RlL.two {h : Array Obj} {ρ : Loc} {Z : Nat → Prop} {a b : AV} {xs : List Value} (q : RlL h ρ Z [a, b] xs) : ∃ x y, xs = [x, y] ∧ Rl h ρ Z a x ∧ Rl h ρ Z b y := by
  obtain ⟨hl, hr⟩ := q
  match xs, hl with
  | [x, y], _ => exact ⟨x, y, rfl, hr 0 a x rfl rfl, hr 1 b y rfl rfl⟩
theorem RlL.one {h : Array Obj} {ρ : Loc} {Z : Nat → Prop} {a : AV} {xs : List Value} (q : RlL h ρ Z [a] xs) : ∃ x, xs = [x] ∧ Rl h ρ Z a x := by
  obtain ⟨hl, hr⟩ := q
  match xs, hl with
  | [x], _ => exact ⟨x, rfl, hr 0 a x rfl rfl⟩
theorem ACalls.sub {P : Program} {f : Nat} {args : List AV} {H H1 : AH} {v : AV} (h : ACalls P f args H fun r H' => r = v ∧ Sub H1 H') : ACalls P f args H fun r H' => r = v ∧ H' = H1 :=
  h.freeze fun r H' ⟨a, b⟩ => ⟨r, H1, b, .refl _, a, rfl⟩
theorem sub_hset {H H' : AH} {id : Nat} {b : Blk} (h1 : hget H' id = some b) (h2 : ∀ j c, j ≠ id → hget H j = some c → hget H' j = some c) : Sub (hset H id b) H' := fun j c q => by
  rw [hget_hset] at q
  split at q
  · rename_i e
    subst e
    cases hh : hget H j with
    | none => rw [hh] at q; cases q
    | some d => rw [hh] at q; simp only [Option.map_some, Option.some.injEq] at q; rw [← q]; exact h1
  · rename_i e; exact h2 j c e q

end Go.Proofs.YtmjdkeonjflanaaGreat

/- Each function's translation is, by reckoning, the abstract code that is written out here; its contract follows from the predicate transformer over that code. -/
namespace Go.Proofs.YtmjdkeonjflanaaGreat
set_option autoImplicit false
set_option maxRecDepth 100000
def put_Put.n : Nat := 9
noncomputable def put_Put.c : C := (.seq (.reg [⟨(some 5), none, (.box 26 (.t 2))⟩, ⟨(some 6), none, (.mv (.c (.str [])))⟩, ⟨(some 7), none, (.mv (.c (.int .i64 0)))⟩]) (.seq (.seq (.reg [⟨(some 10), none, (.mv (.t 0))⟩, ⟨(some 11), none, (.mv (.t 1))⟩, ⟨(some 12), none, (.load (some 4) (.t 5))⟩, ⟨(some 13), none, (.call 12 [(.t 10), (.t 11), (.t 12)])⟩, ⟨(some 8), none, (.mv (.t 13))⟩]) (.seq (.reg [⟨(some 14), none, (.mv (.t 8))⟩, ⟨(some 15), none, (.bin .neq (.t 14) (.c (.int .i64 0)))⟩]) (.cond (.t 15) (.seq (.reg [⟨(some 16), none, (.mv (.t 8))⟩, ⟨(some 6), none, (.mv (.c (.str [])))⟩, ⟨(some 7), none, (.mv (.t 16))⟩]) .ret) .skip))) (.seq (.reg [⟨(some 17), none, (.mv (.t 0))⟩, ⟨(some 18), none, (.mv (.t 1))⟩, ⟨(some 19), none, (.load (some 4) (.t 5))⟩, ⟨(some 20), none, (.call 25 [(.t 17), (.t 18), (.t 19), (.c (.int .i64 0))])⟩, ⟨(some 21), none, (.call 26 [(.t 20)])⟩, ⟨(some 9), none, (.mv (.t 21))⟩]) (.seq (.seq (.reg [⟨(some 22), none, (.mv (.t 9))⟩, ⟨(some 23), none, (.len true (.t 22))⟩, ⟨(some 24), none, (.bin .gtr (.t 23) (.c (.int .i64 512)))⟩]) (.cond (.t 24) (.seq (.reg [⟨(some 6), none, (.mv (.c (.str [])))⟩, ⟨(some 7), none, (.mv (.c (.int .i64 3)))⟩]) .ret) .skip)) (.seq (.reg [⟨(some 25), none, (.mv (.t 9))⟩, ⟨(some 6), none, (.mv (.t 25))⟩, ⟨(some 7), none, (.mv (.c (.int .i64 0)))⟩]) .ret)))))
theorem put_Put.code : comp PG [] (Tryz.f9.body.getD .skip) = put_Put.c := by kernel_rfl
theorem put_Put.of {args : List AV} {H : AH} {K : AV → AH → Prop} (hl : args.length = 3) (h : wpA PG put_Put.c none (endA [(.t 6), (.t 7)] K) (initFr args) H) : ACalls PG 9 args H K :=
  ACalls.of_code (fl := []) mixed Tryz.func9 (c := Tryz.f9.body.getD .skip) (by kernel_rfl) (by kernel_rfl) (by rw [hl]; exact of_decide_eq_true (by kernel_rfl)) (by rw [put_Put.code]; kernel_rfl)
    (by rw [put_Put.code, show compRes PG Tryz.f9.results.toList = [(.t 6), (.t 7)] from by kernel_rfl]; exact h)
def broadsheetref10_Put.n : Nat := 10
noncomputable def broadsheetref10_Put.c : C := (.seq (.reg [⟨(some 5), none, (.box 26 (.t 2))⟩, ⟨(some 6), none, (.mv (.c (.str [])))⟩, ⟨(some 7), none, (.mv (.c (.int .i64 0)))⟩]) (.seq (.reg [⟨(some 10), none, (.mv (.t 0))⟩, ⟨(some 11), none, (.mv (.t 1))⟩, ⟨(some 12), none, (.load (some 4) (.t 5))⟩, ⟨(some 13), none, (.call 27 [(.t 10), (.t 11), (.t 12)])⟩, ⟨(some 8), none, (.mv (.t 13))⟩]) (.seq (.seq (.reg [⟨(some 14), none, (.mv (.t 8))⟩, ⟨(some 15), none, (.bin .neq (.t 14) (.c (.int .i64 0)))⟩]) (.cond (.t 15) (.seq (.reg [⟨(some 16), none, (.mv (.t 8))⟩, ⟨(some 6), none, (.mv (.c (.str [])))⟩, ⟨(some 7), none, (.mv (.t 16))⟩]) .ret) .skip)) (.seq (.reg [⟨(some 17), none, (.mv (.t 0))⟩, ⟨(some 18), none, (.mv (.t 1))⟩, ⟨(some 19), none, (.load (some 4) (.t 5))⟩, ⟨(some 20), none, (.call 14 [(.t 17), (.t 18), (.t 19)])⟩, ⟨(some 9), none, (.mv (.t 20))⟩]) (.seq (.seq (.reg [⟨(some 21), none, (.mv (.t 9))⟩, ⟨(some 22), none, (.call 13 [(.t 21), (.c (.int .i64 0))])⟩, ⟨(some 23), none, (.bin .gtr (.t 22) (.c (.int .i64 512)))⟩]) (.cond (.t 23) (.seq (.reg [⟨(some 6), none, (.mv (.c (.str [])))⟩, ⟨(some 7), none, (.mv (.c (.int .i64 3)))⟩]) .ret) .skip)) (.seq (.reg [⟨(some 24), none, (.mv (.t 9))⟩, ⟨(some 25), none, (.call 28 [(.t 24)])⟩, ⟨(some 6), none, (.mv (.t 25))⟩, ⟨(some 7), none, (.mv (.c (.int .i64 0)))⟩]) .ret))))))
theorem broadsheetref10_Put.code : comp PG [] (Tryz.f10.body.getD .skip) = broadsheetref10_Put.c := by kernel_rfl
theorem broadsheetref10_Put.of {args : List AV} {H : AH} {K : AV → AH → Prop} (hl : args.length = 3) (h : wpA PG broadsheetref10_Put.c none (endA [(.t 6), (.t 7)] K) (initFr args) H) : ACalls PG 10 args H K :=
  ACalls.of_code (fl := []) mixed Tryz.func10 (c := Tryz.f10.body.getD .skip) (by kernel_rfl) (by kernel_rfl) (by rw [hl]; exact of_decide_eq_true (by kernel_rfl)) (by rw [broadsheetref10_Put.code]; kernel_rfl)
    (by rw [broadsheetref10_Put.code, show compRes PG Tryz.f10.results.toList = [(.t 6), (.t 7)] from by kernel_rfl]; exact h)
def put_End.n : Nat := 11
noncomputable def put_End.c : C := (.seq (.reg [⟨(some 6), none, (.box 26 (.t 2))⟩, ⟨(some 8), none, (.mv (.c (.int .i64 0)))⟩, ⟨(some 9), none, (.mv (.c (.int .i64 0)))⟩]) (.seq (.seq (.reg [⟨(some 11), none, (.mv (.t 3))⟩, ⟨(some 12), none, (.bin .lss (.t 11) (.c (.int .i64 0)))⟩, ⟨(some 13), none, (.mv (.t 12))⟩, ⟨(some 14), (some (13, false)), (.mv (.t 3))⟩, ⟨(some 15), (some (13, false)), (.bin .gtr (.t 14) (.c (.int .i64 512)))⟩, ⟨(some 16), none, (.pick (.t 13) (.c (.bool true)) (.t 15))⟩]) (.cond (.t 16) (.seq (.reg [⟨(some 8), none, (.mv (.c (.int .i64 0)))⟩, ⟨(some 9), none, (.mv (.c (.int .i64 7)))⟩]) .ret) .skip)) (.seq (.seq (.reg [⟨(some 17), none, (.mv (.t 0))⟩, ⟨(some 18), none, (.mv (.t 1))⟩, ⟨(some 19), none, (.load (some 4) (.t 6))⟩, ⟨(some 20), none, (.call 12 [(.t 17), (.t 18), (.t 19)])⟩, ⟨(some 10), none, (.mv (.t 20))⟩]) (.seq (.reg [⟨(some 21), none, (.mv (.t 10))⟩, ⟨(some 22), none, (.bin .neq (.t 21) (.c (.int .i64 0)))⟩]) (.cond (.t 22) (.seq (.reg [⟨(some 23), none, (.mv (.t 10))⟩, ⟨(some 8), none, (.mv (.c (.int .i64 0)))⟩, ⟨(some 9), none, (.mv (.t 23))⟩]) .ret) .skip))) (.seq (.reg [⟨(some 24), none, (.mv (.t 0))⟩, ⟨(some 25), none, (.mv (.t 1))⟩, ⟨(some 26), none, (.load (some 4) (.t 6))⟩, ⟨(some 27), none, (.mv (.t 3))⟩, ⟨(some 28), none, (.call 25 [(.t 24), (.t 25), (.t 26), (.t 27)])⟩, ⟨(some 29), none, (.call 29 [(.t 28)])⟩, ⟨(some 8), none, (.mv (.t 29))⟩, ⟨(some 9), none, (.mv (.c (.int .i64 0)))⟩]) .ret))))
theorem put_End.code : comp PG [] (Tryz.f11.body.getD .skip) = put_End.c := by kernel_rfl
theorem put_End.of {args : List AV} {H : AH} {K : AV → AH → Prop} (hl : args.length = 4) (h : wpA PG put_End.c none (endA [(.t 8), (.t 9)] K) (initFr args) H) : ACalls PG 11 args H K :=
  ACalls.of_code (fl := []) mixed Tryz.func11 (c := Tryz.f11.body.getD .skip) (by kernel_rfl) (by kernel_rfl) (by rw [hl]; exact of_decide_eq_true (by kernel_rfl)) (by rw [put_End.code]; kernel_rfl)
    (by rw [put_End.code, show compRes PG Tryz.f11.results.toList = [(.t 8), (.t 9)] from by kernel_rfl]; exact h)
def broadsheetref10_End.n : Nat := 13
noncomputable def broadsheetref10_End.c : C := (.seq (.reg [⟨(some 4), none, (.mv (.c (.int .i64 0)))⟩]) (.seq (.seq (.reg [⟨(some 5), none, (.mv (.c (.int .i64 0)))⟩]) (.block 0 (.loop (.seq (.seq (.reg [⟨(some 6), none, (.mv (.t 5))⟩, ⟨(some 7), none, (.mv (.t 0))⟩, ⟨(some 8), none, (.len false (.t 7))⟩, ⟨(some 9), none, (.bin .lss (.t 6) (.t 8))⟩]) (.cond (.t 9) .skip (.exit 0))) (.seq (.block 1 (.seq (.reg [⟨(some 12), none, (.mv (.t 0))⟩, ⟨(some 13), none, (.mv (.t 5))⟩, ⟨(some 14), none, (.iaddr 3 (.t 12) (.t 13))⟩, ⟨(some 15), none, (.faddr 0 (.t 14))⟩, ⟨(some 16), none, (.load none (.t 15))⟩, ⟨(some 17), none, (.bin .gtr (.t 16) (.c (.int .i64 0)))⟩]) (.cond (.t 17) (.dreg [⟨(some 18), none, (.mv (.t 1))⟩, ⟨(some 19), none, (.mv (.t 1))⟩, ⟨(some 20), none, (.mv (.t 0))⟩, ⟨(some 21), none, (.mv (.t 5))⟩, ⟨(some 22), none, (.iaddr 3 (.t 20) (.t 21))⟩, ⟨(some 23), none, (.faddr 0 (.t 22))⟩, ⟨(some 24), none, (.load none (.t 23))⟩, ⟨(some 25), none, (.call 32 [(.t 19), (.t 24)])⟩, ⟨(some 26), none, (.mv (.t 0))⟩, ⟨(some 27), none, (.mv (.t 5))⟩, ⟨(some 28), none, (.iaddr 3 (.t 26) (.t 27))⟩, ⟨(some 29), none, (.faddr 0 (.t 28))⟩, ⟨(some 30), none, (.load none (.t 29))⟩, ⟨(some 31), none, (.bin .add (.t 25) (.t 30))⟩] [⟨(some 32), none, (.bin .add (.t 18) (.t 31))⟩, ⟨(some 1), none, (.mv (.t 32))⟩]) (.reg [⟨(some 33), none, (.mv (.t 1))⟩, ⟨(some 34), none, (.mv (.t 0))⟩, ⟨(some 35), none, (.mv (.t 5))⟩, ⟨(some 36), none, (.iaddr 3 (.t 34) (.t 35))⟩, ⟨(some 37), none, (.faddr 2 (.t 36))⟩, ⟨(some 38), none, (.load none (.t 37))⟩, ⟨(some 39), none, (.len true (.t 38))⟩, ⟨(some 40), none, (.bin .add (.t 33) (.t 39))⟩, ⟨(some 1), none, (.mv (.t 40))⟩])))) (.reg [⟨(some 10), none, (.mv (.t 5))⟩, ⟨(some 11), none, (.bin .add (.t 10) (.c (.int .i64 1)))⟩, ⟨(some 5), none, (.mv (.t 11))⟩])))))) (.seq (.reg [⟨(some 41), none, (.mv (.t 1))⟩, ⟨(some 4), none, (.mv (.t 41))⟩]) .ret)))
theorem broadsheetref10_End.code : comp PG [] (Tryz.f13.body.getD .skip) = broadsheetref10_End.c := by kernel_rfl
theorem broadsheetref10_End.of {args : List AV} {H : AH} {K : AV → AH → Prop} (hl : args.length = 2) (h : wpA PG broadsheetref10_End.c none (endA [(.t 4)] K) (initFr args) H) : ACalls PG 13 args H K :=
  ACalls.of_code (fl := []) mixed Tryz.func13 (c := Tryz.f13.body.getD .skip) (by kernel_rfl) (by kernel_rfl) (by rw [hl]; exact of_decide_eq_true (by kernel_rfl)) (by rw [broadsheetref10_End.code]; kernel_rfl)
    (by rw [broadsheetref10_End.code, show compRes PG Tryz.f13.results.toList = [(.t 4)] from by kernel_rfl]; exact h)
def broadsheetref10_Row.n : Nat := 14
noncomputable def broadsheetref10_Row.c : C := (.seq (.reg [⟨(some 5), none, (.box 26 (.t 2))⟩, ⟨(some 6), none, (.mv (.c .nilS))⟩]) (.seq (.reg [⟨(some 7), none, (.mv (.c .nilS))⟩]) (.seq (.reg [⟨(some 12), none, (.faddr 0 (.t 5))⟩, ⟨(some 13), none, (.load none (.t 12))⟩, ⟨(some 8), none, (.mv (.t 13))⟩]) (.seq (.seq (.reg [⟨(some 14), none, (.mv (.t 8))⟩, ⟨(some 15), none, (.bin .eql (.t 14) (.c (.int .i64 14)))⟩]) (.cond (.t 15) (.reg [⟨(some 16), none, (.mv (.t 0))⟩, ⟨(some 17), none, (.mv (.t 0))⟩, ⟨(some 18), none, (.mv (.t 1))⟩, ⟨(some 19), none, (.iaddr 6 (.t 17) (.t 18))⟩, ⟨(some 20), none, (.faddr 4 (.t 19))⟩, ⟨(some 21), none, (.load none (.t 20))⟩, ⟨(some 22), none, (.iaddr 6 (.t 16) (.t 21))⟩, ⟨(some 23), none, (.faddr 0 (.t 22))⟩, ⟨(some 24), none, (.load none (.t 23))⟩, ⟨(some 8), none, (.mv (.t 24))⟩]) .skip)) (.seq (.block 0 (.seq (.reg [⟨(some 26), none, (.mv (.t 8))⟩, ⟨(some 27), none, (.call 33 [(.t 26)])⟩, ⟨(some 25), none, (.mv (.t 27))⟩]) (.cond (.t 25) (.dreg [⟨(some 28), none, (.mv (.t 7))⟩, ⟨(some 29), none, (.mv (.t 8))⟩, ⟨(some 30), none, (.call 34 [(.t 29)])⟩, ⟨(some 31), none, (.mv (.t 8))⟩, ⟨(some 32), none, (.faddr 1 (.t 5))⟩, ⟨(some 33), none, (.load none (.t 32))⟩, ⟨(some 34), none, (.call 35 [(.t 31), (.t 33)])⟩, ⟨(some 35), none, (.build [(.int .i64 0), (.int .u64 0), (.str [])] [(0, (1, (.t 30))), (1, (1, (.t 34)))])⟩, ⟨(some 36), none, (.bslice 81 3 1 [(.int .i64 0), (.int .u64 0), (.str [])] [(0, (.t 35))])⟩] [⟨(some 37), none, (.append 81 false 3 32 (.t 28) (.t 36))⟩, ⟨(some 7), none, (.mv (.t 37))⟩]) (.seq (.reg [⟨(some 39), none, (.mv (.t 8))⟩, ⟨(some 40), none, (.bin .eql (.t 39) (.c (.int .i64 10)))⟩, ⟨(some 38), none, (.mv (.t 40))⟩]) (.cond (.t 38) (.dreg [⟨(some 41), none, (.mv (.t 7))⟩, ⟨(some 42), none, (.faddr 2 (.t 5))⟩, ⟨(some 43), none, (.load none (.t 42))⟩, ⟨(some 44), none, (.len true (.t 43))⟩, ⟨(some 45), none, (.bin .add (.t 44) (.c (.int .i64 1)))⟩, ⟨(some 46), none, (.conv .u64 (.t 45))⟩, ⟨(some 47), none, (.build [(.int .i64 0), (.int .u64 0), (.str [])] [(0, (1, (.c (.int .i64 4)))), (1, (1, (.t 46)))])⟩, ⟨(some 48), none, (.faddr 2 (.t 5))⟩, ⟨(some 49), none, (.load none (.t 48))⟩, ⟨(some 50), none, (.call 36 [(.c (.int .i64 0))])⟩, ⟨(some 51), none, (.bin .add (.t 49) (.t 50))⟩, ⟨(some 52), none, (.build [(.int .i64 0), (.int .u64 0), (.str [])] [(2, (1, (.t 51)))])⟩, ⟨(some 53), none, (.bslice 81 3 2 [(.int .i64 0), (.int .u64 0), (.str [])] [(0, (.t 47)), (1, (.t 52))])⟩] [⟨(some 54), none, (.append 81 false 3 32 (.t 41) (.t 53))⟩, ⟨(some 7), none, (.mv (.t 54))⟩]) (.seq (.reg [⟨(some 56), none, (.mv (.t 8))⟩, ⟨(some 57), none, (.bin .eql (.t 56) (.c (.int .i64 11)))⟩, ⟨(some 55), none, (.mv (.t 57))⟩]) (.cond (.t 55) (.reg [⟨(some 58), none, (.mv (.t 7))⟩, ⟨(some 59), none, (.faddr 3 (.t 5))⟩, ⟨(some 60), none, (.load none (.t 59))⟩, ⟨(some 61), none, (.len false (.t 60))⟩, ⟨(some 62), none, (.conv .u64 (.t 61))⟩, ⟨(some 63), none, (.build [(.int .i64 0), (.int .u64 0), (.str [])] [(0, (1, (.c (.int .i64 4)))), (1, (1, (.t 62)))])⟩, ⟨(some 64), none, (.bslice 81 3 1 [(.int .i64 0), (.int .u64 0), (.str [])] [(0, (.t 63))])⟩, ⟨(some 65), none, (.append 81 false 3 32 (.t 58) (.t 64))⟩, ⟨(some 7), none, (.mv (.t 65))⟩]) .skip))))))) (.seq (.reg [⟨(some 67), none, (.mv (.t 0))⟩, ⟨(some 68), none, (.mv (.t 1))⟩, ⟨(some 69), none, (.load (some 4) (.t 5))⟩, ⟨(some 70), none, (.call 37 [(.t 67), (.t 68), (.t 69)])⟩, ⟨(some 66), none, (.mv (.t 70))⟩, ⟨(some 71), none, (.extr (.t 66) 0)⟩, ⟨(some 72), none, (.extr (.t 66) 1)⟩, ⟨(some 9), none, (.mv (.t 71))⟩, ⟨(some 10), none, (.mv (.t 72))⟩]) (.seq (.seq (.reg [⟨(some 11), none, (.mv (.c (.int .i64 0)))⟩]) (.block 1 (.loop (.seq (.seq (.reg [⟨(some 73), none, (.mv (.t 11))⟩, ⟨(some 74), none, (.mv (.t 9))⟩, ⟨(some 75), none, (.len false (.t 74))⟩, ⟨(some 76), none, (.bin .lss (.t 73) (.t 75))⟩, ⟨(some 77), none, (.mv (.t 76))⟩, ⟨(some 78), (some (77, true)), (.mv (.t 11))⟩, ⟨(some 79), (some (77, true)), (.faddr 3 (.t 5))⟩, ⟨(some 80), (some (77, true)), (.load none (.t 79))⟩, ⟨(some 81), (some (77, true)), (.len false (.t 80))⟩, ⟨(some 82), (some (77, true)), (.bin .lss (.t 78) (.t 81))⟩, ⟨(some 83), none, (.pick (.t 77) (.t 82) (.c (.bool false)))⟩]) (.cond (.t 83) .skip (.exit 1))) (.seq (.block 2 (.dreg [⟨(some 86), none, (.mv (.t 7))⟩, ⟨(some 87), none, (.mv (.t 0))⟩, ⟨(some 88), none, (.mv (.t 9))⟩, ⟨(some 89), none, (.mv (.t 11))⟩, ⟨(some 90), none, (.iaddr 1 (.t 88) (.t 89))⟩, ⟨(some 91), none, (.load none (.t 90))⟩, ⟨(some 92), none, (.faddr 3 (.t 5))⟩, ⟨(some 93), none, (.load none (.t 92))⟩, ⟨(some 94), none, (.mv (.t 11))⟩, ⟨(some 95), none, (.iaddr 4 (.t 93) (.t 94))⟩, ⟨(some 96), none, (.load (some 4) (.t 95))⟩, ⟨(some 97), none, (.call 14 [(.t 87), (.t 91), (.t 96)])⟩] [⟨(some 98), none, (.append 81 false 3 32 (.t 86) (.t 97))⟩, ⟨(some 7), none, (.mv (.t 98))⟩])) (.reg [⟨(some 84), none, (.mv (.t 11))⟩, ⟨(some 85), none, (.bin .add (.t 84) (.c (.int .i64 1)))⟩, ⟨(some 11), none, (.mv (.t 85))⟩])))))) (.seq (.reg [⟨(some 99), none, (.mv (.t 7))⟩, ⟨(some 6), none, (.mv (.t 99))⟩]) .ret))))))))
theorem broadsheetref10_Row.code : comp PG [] (Tryz.f14.body.getD .skip) = broadsheetref10_Row.c := by kernel_rfl
theorem broadsheetref10_Row.of {args : List AV} {H : AH} {K : AV → AH → Prop} (hl : args.length = 3) (h : wpA PG broadsheetref10_Row.c none (endA [(.t 6)] K) (initFr args) H) : ACalls PG 14 args H K :=
  ACalls.of_code (fl := []) mixed Tryz.func14 (c := Tryz.f14.body.getD .skip) (by kernel_rfl) (by kernel_rfl) (by rw [hl]; exact of_decide_eq_true (by kernel_rfl)) (by rw [broadsheetref10_Row.code]; kernel_rfl)
    (by rw [broadsheetref10_Row.code, show compRes PG Tryz.f14.results.toList = [(.t 6)] from by kernel_rfl]; exact h)
def put_behind.n : Nat := 25
noncomputable def put_behind.c : C := (.seq (.reg [⟨(some 6), none, (.box 26 (.t 2))⟩, ⟨(some 8), none, (.mv (.c .nilP))⟩]) (.seq (.reg [⟨(some 11), none, (.call 66 [])⟩, ⟨(some 9), none, (.mv (.t 11))⟩]) (.seq (.reg [⟨(some 12), none, (.mv (.t 9))⟩, ⟨(some 13), none, (.mv (.t 3))⟩, ⟨(some 14), none, (.call 68 [(.c (.str [0])), (.t 13)])⟩, ⟨(some 15), none, (.call 67 [(.t 12), (.t 14)])⟩]) (.seq (.reg [⟨(some 16), none, (.mv (.t 0))⟩, ⟨(some 17), none, (.mv (.t 9))⟩, ⟨(some 18), none, (.build [.nilS, .nilP] [(0, (1, (.t 16))), (1, (1, (.t 17)))])⟩, ⟨(some 19), none, (.box 131 (.t 18))⟩, ⟨(some 10), none, (.mv (.t 19))⟩]) (.seq (.reg [⟨(some 20), none, (.mv (.t 10))⟩, ⟨(some 21), none, (.mv (.t 1))⟩, ⟨(some 22), none, (.load (some 4) (.t 6))⟩, ⟨(some 23), none, (.call 69 [(.t 20), (.t 21), (.t 22)])⟩]) (.seq (.reg [⟨(some 24), none, (.mv (.t 9))⟩, ⟨(some 8), none, (.mv (.t 24))⟩]) .ret))))))
theorem put_behind.code : comp PG [] (Tryz.f25.body.getD .skip) = put_behind.c := by kernel_rfl
theorem put_behind.of {args : List AV} {H : AH} {K : AV → AH → Prop} (hl : args.length = 4) (h : wpA PG put_behind.c none (endA [(.t 8)] K) (initFr args) H) : ACalls PG 25 args H K :=
  ACalls.of_code (fl := []) mixed Tryz.func25 (c := Tryz.f25.body.getD .skip) (by kernel_rfl) (by kernel_rfl) (by rw [hl]; exact of_decide_eq_true (by kernel_rfl)) (by rw [put_behind.code]; kernel_rfl)
    (by rw [put_behind.code, show compRes PG Tryz.f25.results.toList = [(.t 8)] from by kernel_rfl]; exact h)
def align_Buf_Bytes.n : Nat := 26
noncomputable def align_Buf_Bytes.c : C := (.seq (.reg [⟨(some 2), none, (.mv (.c (.str [])))⟩]) (.seq (.seq (.reg [⟨(some 3), none, (.mv (.t 0))⟩, ⟨(some 4), none, (.ncmpP false (.t 3))⟩]) (.cond (.t 4) (.seq (.reg [⟨(some 2), none, (.mv (.c (.str [])))⟩]) .ret) .skip)) (.seq (.reg [⟨(some 5), none, (.mv (.t 0))⟩, ⟨(some 6), none, (.nilck (.t 5))⟩, ⟨(some 7), none, (.faddr 1 (.t 6))⟩, ⟨(some 8), none, (.call 70 [(.t 7)])⟩, ⟨(some 2), none, (.mv (.t 8))⟩]) .ret)))
theorem align_Buf_Bytes.code : comp PG [] (Tryz.f26.body.getD .skip) = align_Buf_Bytes.c := by kernel_rfl
theorem align_Buf_Bytes.of {args : List AV} {H : AH} {K : AV → AH → Prop} (hl : args.length = 1) (h : wpA PG align_Buf_Bytes.c none (endA [(.t 2)] K) (initFr args) H) : ACalls PG 26 args H K :=
  ACalls.of_code (fl := []) mixed Tryz.func26 (c := Tryz.f26.body.getD .skip) (by kernel_rfl) (by kernel_rfl) (by rw [hl]; exact of_decide_eq_true (by kernel_rfl)) (by rw [align_Buf_Bytes.code]; kernel_rfl)
    (by rw [align_Buf_Bytes.code, show compRes PG Tryz.f26.results.toList = [(.t 2)] from by kernel_rfl]; exact h)
def broadsheetref10_Bytes.n : Nat := 28
noncomputable def broadsheetref10_Bytes.c : C := (.seq (.reg [⟨(some 2), none, (.mv (.c (.str [])))⟩]) (.seq (.reg [⟨(some 3), none, (.mv (.c (.str [])))⟩]) (.seq (.seq (.reg [⟨(some 4), none, (.mv (.c (.int .i64 0)))⟩]) (.block 0 (.loop (.seq (.seq (.reg [⟨(some 5), none, (.mv (.t 4))⟩, ⟨(some 6), none, (.mv (.t 0))⟩, ⟨(some 7), none, (.len false (.t 6))⟩, ⟨(some 8), none, (.bin .lss (.t 5) (.t 7))⟩]) (.cond (.t 8) .skip (.exit 0))) (.seq (.block 1 (.seq (.reg [⟨(some 11), none, (.mv (.t 0))⟩, ⟨(some 12), none, (.mv (.t 4))⟩, ⟨(some 13), none, (.iaddr 3 (.t 11) (.t 12))⟩, ⟨(some 14), none, (.faddr 0 (.t 13))⟩, ⟨(some 15), none, (.load none (.t 14))⟩, ⟨(some 16), none, (.bin .gtr (.t 15) (.c (.int .i64 0)))⟩]) (.cond (.t 16) (.dreg [⟨(some 18), none, (.mv (.t 3))⟩, ⟨(some 19), none, (.mv (.t 0))⟩, ⟨(some 20), none, (.mv (.t 4))⟩, ⟨(some 21), none, (.iaddr 3 (.t 19) (.t 20))⟩, ⟨(some 22), none, (.faddr 1 (.t 21))⟩, ⟨(some 23), none, (.load none (.t 22))⟩, ⟨(some 24), none, (.mv (.t 0))⟩, ⟨(some 25), none, (.mv (.t 4))⟩, ⟨(some 26), none, (.iaddr 3 (.t 24) (.t 25))⟩, ⟨(some 27), none, (.faddr 0 (.t 26))⟩, ⟨(some 28), none, (.load none (.t 27))⟩, ⟨(some 29), none, (.call 73 [(.t 18), (.t 23), (.t 28)])⟩, ⟨(some 17), none, (.mv (.t 29))⟩, ⟨(some 30), none, (.extr (.t 17) 0)⟩, ⟨(some 31), none, (.extr (.t 17) 1)⟩, ⟨(some 3), none, (.mv (.t 30))⟩] []) (.reg [⟨(some 32), none, (.mv (.t 3))⟩, ⟨(some 33), none, (.mv (.t 0))⟩, ⟨(some 34), none, (.mv (.t 4))⟩, ⟨(some 35), none, (.iaddr 3 (.t 33) (.t 34))⟩, ⟨(some 36), none, (.faddr 2 (.t 35))⟩, ⟨(some 37), none, (.load none (.t 36))⟩, ⟨(some 38), none, (.bin .add (.t 32) (.t 37))⟩, ⟨(some 3), none, (.mv (.t 38))⟩])))) (.reg [⟨(some 9), none, (.mv (.t 4))⟩, ⟨(some 10), none, (.bin .add (.t 9) (.c (.int .i64 1)))⟩, ⟨(some 4), none, (.mv (.t 10))⟩])))))) (.seq (.reg [⟨(some 39), none, (.mv (.t 3))⟩, ⟨(some 2), none, (.mv (.t 39))⟩]) .ret))))
theorem broadsheetref10_Bytes.code : comp PG [] (Tryz.f28.body.getD .skip) = broadsheetref10_Bytes.c := by kernel_rfl
theorem broadsheetref10_Bytes.of {args : List AV} {H : AH} {K : AV → AH → Prop} (hl : args.length = 1) (h : wpA PG broadsheetref10_Bytes.c none (endA [(.t 2)] K) (initFr args) H) : ACalls PG 28 args H K :=
  ACalls.of_code (fl := []) mixed Tryz.func28 (c := Tryz.f28.body.getD .skip) (by kernel_rfl) (by kernel_rfl) (by rw [hl]; exact of_decide_eq_true (by kernel_rfl)) (by rw [broadsheetref10_Bytes.code]; kernel_rfl)
    (by rw [broadsheetref10_Bytes.code, show compRes PG Tryz.f28.results.toList = [(.t 2)] from by kernel_rfl]; exact h)
def align_Buf_Len.n : Nat := 29
noncomputable def align_Buf_Len.c : C := (.seq (.reg [⟨(some 2), none, (.mv (.c (.int .i64 0)))⟩]) (.seq (.seq (.reg [⟨(some 3), none, (.mv (.t 0))⟩, ⟨(some 4), none, (.ncmpP false (.t 3))⟩]) (.cond (.t 4) (.seq (.reg [⟨(some 2), none, (.mv (.c (.int .i64 0)))⟩]) .ret) .skip)) (.seq (.reg [⟨(some 5), none, (.mv (.t 0))⟩, ⟨(some 6), none, (.nilck (.t 5))⟩, ⟨(some 7), none, (.faddr 0 (.t 6))⟩, ⟨(some 8), none, (.faddr 0 (.t 7))⟩, ⟨(some 9), none, (.load none (.t 8))⟩, ⟨(some 2), none, (.mv (.t 9))⟩]) .ret)))
theorem align_Buf_Len.code : comp PG [] (Tryz.f29.body.getD .skip) = align_Buf_Len.c := by kernel_rfl
theorem align_Buf_Len.of {args : List AV} {H : AH} {K : AV → AH → Prop} (hl : args.length = 1) (h : wpA PG align_Buf_Len.c none (endA [(.t 2)] K) (initFr args) H) : ACalls PG 29 args H K :=
  ACalls.of_code (fl := []) mixed Tryz.func29 (c := Tryz.f29.body.getD .skip) (by kernel_rfl) (by kernel_rfl) (by rw [hl]; exact of_decide_eq_true (by kernel_rfl)) (by rw [align_Buf_Len.code]; kernel_rfl)
    (by rw [align_Buf_Len.code, show compRes PG Tryz.f29.results.toList = [(.t 2)] from by kernel_rfl]; exact h)
def broadsheetref02_Gap.n : Nat := 32
noncomputable def broadsheetref02_Gap.c : C := (.seq (.reg [⟨(some 4), none, (.mv (.c (.int .i64 0)))⟩]) (.seq (.seq (.reg [⟨(some 6), none, (.mv (.t 0))⟩, ⟨(some 7), none, (.bin .lss (.t 6) (.c (.int .i64 0)))⟩, ⟨(some 8), none, (.mv (.t 7))⟩, ⟨(some 9), (some (8, false)), (.mv (.t 1))⟩, ⟨(some 10), (some (8, false)), (.call 84 [(.t 9)])⟩, ⟨(some 11), (some (8, false)), (.un .not (.t 10))⟩, ⟨(some 12), none, (.pick (.t 8) (.c (.bool true)) (.t 11))⟩]) (.cond (.t 12) (.seq (.reg [⟨(some 4), none, (.mv (.c (.int .i64 0)))⟩]) .ret) .skip)) (.seq (.reg [⟨(some 5), none, (.mv (.c (.int .i64 0)))⟩]) (.seq (.block 0 (.loop (.seq (.seq (.reg [⟨(some 13), none, (.mv (.t 0))⟩, ⟨(some 14), none, (.bin .rem (.t 13) (.c (.int .i64 8)))⟩, ⟨(some 15), none, (.mv (.t 5))⟩, ⟨(some 16), none, (.bin .add (.t 14) (.t 15))⟩, ⟨(some 17), none, (.mv (.t 1))⟩, ⟨(some 18), none, (.bin .rem (.t 16) (.t 17))⟩, ⟨(some 19), none, (.bin .neq (.t 18) (.c (.int .i64 0)))⟩]) (.cond (.t 19) .skip (.exit 0))) (.block 1 (.reg [⟨(some 20), none, (.mv (.t 5))⟩, ⟨(some 21), none, (.bin .add (.t 20) (.c (.int .i64 1)))⟩, ⟨(some 5), none, (.mv (.t 21))⟩]))))) (.seq (.reg [⟨(some 22), none, (.mv (.t 5))⟩, ⟨(some 4), none, (.mv (.t 22))⟩]) .ret)))))
theorem broadsheetref02_Gap.code : comp PG [] (Tryz.f32.body.getD .skip) = broadsheetref02_Gap.c := by kernel_rfl
theorem broadsheetref02_Gap.of {args : List AV} {H : AH} {K : AV → AH → Prop} (hl : args.length = 2) (h : wpA PG broadsheetref02_Gap.c none (endA [(.t 4)] K) (initFr args) H) : ACalls PG 32 args H K :=
  ACalls.of_code (fl := []) mixed Tryz.func32 (c := Tryz.f32.body.getD .skip) (by kernel_rfl) (by kernel_rfl) (by rw [hl]; exact of_decide_eq_true (by kernel_rfl)) (by rw [broadsheetref02_Gap.code]; kernel_rfl)
    (by rw [broadsheetref02_Gap.code, show compRes PG Tryz.f32.results.toList = [(.t 4)] from by kernel_rfl]; exact h)
def align_New.n : Nat := 66
noncomputable def align_New.c : C := (.seq (.reg [⟨(some 0), none, (.mv (.c .nilP))⟩]) (.seq (.reg [⟨(some 1), none, (.build [(.int .i64 0), .nilP, .nilS] [])⟩, ⟨(some 2), none, (.box 140 (.t 1))⟩, ⟨(some 0), none, (.mv (.t 2))⟩]) .ret))
theorem align_New.code : comp PG [] (Tryz.f66.body.getD .skip) = align_New.c := by kernel_rfl
theorem align_New.of {args : List AV} {H : AH} {K : AV → AH → Prop} (hl : args.length = 0) (h : wpA PG align_New.c none (endA [(.t 0)] K) (initFr args) H) : ACalls PG 66 args H K :=
  ACalls.of_code (fl := []) mixed Tryz.func66 (c := Tryz.f66.body.getD .skip) (by kernel_rfl) (by kernel_rfl) (by rw [hl]; exact of_decide_eq_true (by kernel_rfl)) (by rw [align_New.code]; kernel_rfl)
    (by rw [align_New.code, show compRes PG Tryz.f66.results.toList = [(.t 0)] from by kernel_rfl]; exact h)
def align_Buf_Text.n : Nat := 67
noncomputable def align_Buf_Text.c : C := (.seq (.reg [⟨(some 4), none, (.mv (.t 0))⟩, ⟨(some 5), none, (.ncmpP true (.t 4))⟩]) (.cond (.t 5) (.seq (.reg [⟨(some 6), none, (.mv (.t 0))⟩, ⟨(some 7), none, (.nilck (.t 6))⟩, ⟨(some 8), none, (.faddr 1 (.t 7))⟩, ⟨(some 9), none, (.mv (.t 1))⟩, ⟨(some 10), none, (.call 99 [(.t 8), (.t 9)])⟩]) (.reg [⟨(some 11), none, (.mv (.t 0))⟩, ⟨(some 12), none, (.nilck (.t 11))⟩, ⟨(some 13), none, (.faddr 0 (.t 12))⟩, ⟨(some 14), none, (.mv (.t 1))⟩, ⟨(some 15), none, (.len true (.t 14))⟩, ⟨(some 16), none, (.call 114 [(.t 13), (.t 15)])⟩])) .skip))
theorem align_Buf_Text.code : comp PG [] (Tryz.f67.body.getD .skip) = align_Buf_Text.c := by kernel_rfl
theorem align_Buf_Text.of {args : List AV} {H : AH} {K : AV → AH → Prop} (hl : args.length = 2) (h : wpA PG align_Buf_Text.c none (endA [] K) (initFr args) H) : ACalls PG 67 args H K :=
  ACalls.of_code (fl := []) mixed Tryz.func67 (c := Tryz.f67.body.getD .skip) (by kernel_rfl) (by kernel_rfl) (by rw [hl]; exact of_decide_eq_true (by kernel_rfl)) (by rw [align_Buf_Text.code]; kernel_rfl)
    (by rw [align_Buf_Text.code, show compRes PG Tryz.f67.results.toList = [] from by kernel_rfl]; exact h)
def put_putter_put.n : Nat := 69
noncomputable def put_putter_put.c : C := (.seq (.reg [⟨(some 5), none, (.box 26 (.t 2))⟩]) (.dreg [⟨(some 6), none, (.faddr 0 (.t 5))⟩, ⟨(some 7), none, (.load none (.t 6))⟩, ⟨(some 8), none, (.call 118 [(.t 7)])⟩, ⟨(some 9), none, (.mv (.t 0))⟩, ⟨(some 10), none, (.mv (.t 1))⟩, ⟨(some 11), none, (.load (some 4) (.t 5))⟩] [⟨(some 12), none, (.callv (.t 8) [(.t 9), (.t 10), (.t 11)])⟩]))
theorem put_putter_put.code : comp PG [] (Tryz.f69.body.getD .skip) = put_putter_put.c := by kernel_rfl
theorem put_putter_put.of {args : List AV} {H : AH} {K : AV → AH → Prop} (hl : args.length = 3) (h : wpA PG put_putter_put.c none (endA [] K) (initFr args) H) : ACalls PG 69 args H K :=
  ACalls.of_code (fl := []) mixed Tryz.func69 (c := Tryz.f69.body.getD .skip) (by kernel_rfl) (by kernel_rfl) (by rw [hl]; exact of_decide_eq_true (by kernel_rfl)) (by rw [put_putter_put.code]; kernel_rfl)
    (by rw [put_putter_put.code, show compRes PG Tryz.f69.results.toList = [] from by kernel_rfl]; exact h)
def broadsheetref02_Put.n : Nat := 73
noncomputable def broadsheetref02_Put.c : C := (.seq (.reg [⟨(some 6), none, (.mv (.c (.str [])))⟩, ⟨(some 7), none, (.mv (.c (.int .i64 0)))⟩]) (.seq (.reg [⟨(some 11), none, (.mv (.t 1))⟩, ⟨(some 12), none, (.mv (.t 2))⟩, ⟨(some 13), none, (.call 122 [(.t 11), (.t 12)])⟩, ⟨(some 10), none, (.mv (.t 13))⟩, ⟨(some 14), none, (.extr (.t 10) 0)⟩, ⟨(some 15), none, (.extr (.t 10) 1)⟩, ⟨(some 8), none, (.mv (.t 14))⟩, ⟨(some 9), none, (.mv (.t 15))⟩]) (.seq (.seq (.reg [⟨(some 16), none, (.mv (.t 9))⟩, ⟨(some 17), none, (.bin .neq (.t 16) (.c (.int .i64 0)))⟩]) (.cond (.t 17) (.seq (.reg [⟨(some 18), none, (.mv (.t 0))⟩, ⟨(some 19), none, (.mv (.t 9))⟩, ⟨(some 6), none, (.mv (.t 18))⟩, ⟨(some 7), none, (.mv (.t 19))⟩]) .ret) .skip)) (.seq (.reg [⟨(some 20), none, (.mv (.t 0))⟩, ⟨(some 21), none, (.mv (.t 0))⟩, ⟨(some 22), none, (.len true (.t 21))⟩, ⟨(some 23), none, (.mv (.t 2))⟩, ⟨(some 24), none, (.call 32 [(.t 22), (.t 23)])⟩, ⟨(some 25), none, (.call 123 [(.t 24)])⟩, ⟨(some 26), none, (.bin .add (.t 20) (.t 25))⟩, ⟨(some 27), none, (.mv (.t 8))⟩, ⟨(some 28), none, (.bin .add (.t 26) (.t 27))⟩, ⟨(some 6), none, (.mv (.t 28))⟩, ⟨(some 7), none, (.mv (.c (.int .i64 0)))⟩]) .ret))))
theorem broadsheetref02_Put.code : comp PG [] (Tryz.f73.body.getD .skip) = broadsheetref02_Put.c := by kernel_rfl
theorem broadsheetref02_Put.of {args : List AV} {H : AH} {K : AV → AH → Prop} (hl : args.length = 3) (h : wpA PG broadsheetref02_Put.c none (endA [(.t 6), (.t 7)] K) (initFr args) H) : ACalls PG 73 args H K :=
  ACalls.of_code (fl := []) mixed Tryz.func73 (c := Tryz.f73.body.getD .skip) (by kernel_rfl) (by kernel_rfl) (by rw [hl]; exact of_decide_eq_true (by kernel_rfl)) (by rw [broadsheetref02_Put.code]; kernel_rfl)
    (by rw [broadsheetref02_Put.code, show compRes PG Tryz.f73.results.toList = [(.t 6), (.t 7)] from by kernel_rfl]; exact h)
def align_Read.n : Nat := 111
noncomputable def align_Read.c : C := (.seq (.reg [⟨(some 2), none, (.mv (.c .nilP))⟩]) (.seq (.reg [⟨(some 3), none, (.mv (.t 0))⟩, ⟨(some 4), none, (.build [(.int .i64 0), (.str []), (.int .i64 0)] [(1, (1, (.t 3)))])⟩, ⟨(some 5), none, (.box 219 (.t 4))⟩, ⟨(some 2), none, (.mv (.t 5))⟩]) .ret))
theorem align_Read.code : comp PG [] (Tryz.f111.body.getD .skip) = align_Read.c := by kernel_rfl
theorem align_Read.of {args : List AV} {H : AH} {K : AV → AH → Prop} (hl : args.length = 1) (h : wpA PG align_Read.c none (endA [(.t 2)] K) (initFr args) H) : ACalls PG 111 args H K :=
  ACalls.of_code (fl := []) mixed Tryz.func111 (c := Tryz.f111.body.getD .skip) (by kernel_rfl) (by kernel_rfl) (by rw [hl]; exact of_decide_eq_true (by kernel_rfl)) (by rw [align_Read.code]; kernel_rfl)
    (by rw [align_Read.code, show compRes PG Tryz.f111.results.toList = [(.t 2)] from by kernel_rfl]; exact h)
def align_Cur_At.n : Nat := 113
noncomputable def align_Cur_At.c : C := (.seq (.reg [⟨(some 2), none, (.mv (.c (.int .i64 0)))⟩]) (.seq (.seq (.reg [⟨(some 3), none, (.mv (.t 0))⟩, ⟨(some 4), none, (.ncmpP false (.t 3))⟩]) (.cond (.t 4) (.seq (.reg [⟨(some 2), none, (.mv (.c (.int .i64 0)))⟩]) .ret) .skip)) (.seq (.reg [⟨(some 5), none, (.mv (.t 0))⟩, ⟨(some 6), none, (.nilck (.t 5))⟩, ⟨(some 7), none, (.faddr 0 (.t 6))⟩, ⟨(some 8), none, (.faddr 0 (.t 7))⟩, ⟨(some 9), none, (.load none (.t 8))⟩, ⟨(some 2), none, (.mv (.t 9))⟩]) .ret)))
theorem align_Cur_At.code : comp PG [] (Tryz.f113.body.getD .skip) = align_Cur_At.c := by kernel_rfl
theorem align_Cur_At.of {args : List AV} {H : AH} {K : AV → AH → Prop} (hl : args.length = 1) (h : wpA PG align_Cur_At.c none (endA [(.t 2)] K) (initFr args) H) : ACalls PG 113 args H K :=
  ACalls.of_code (fl := []) mixed Tryz.func113 (c := Tryz.f113.body.getD .skip) (by kernel_rfl) (by kernel_rfl) (by rw [hl]; exact of_decide_eq_true (by kernel_rfl)) (by rw [align_Cur_At.code]; kernel_rfl)
    (by rw [align_Cur_At.code, show compRes PG Tryz.f113.results.toList = [(.t 2)] from by kernel_rfl]; exact h)
def align_place_move.n : Nat := 114
noncomputable def align_place_move.c : C := (.reg [⟨(some 4), none, (.mv (.t 0))⟩, ⟨(some 5), none, (.nilck (.t 4))⟩, ⟨(some 6), none, (.faddr 0 (.t 5))⟩, ⟨(some 7), none, (.load none (.t 6))⟩, ⟨(some 8), none, (.mv (.t 1))⟩, ⟨(some 9), none, (.bin .add (.t 7) (.t 8))⟩, ⟨(some 10), none, (.nilck (.t 4))⟩, ⟨(some 11), none, (.faddr 0 (.t 10))⟩, ⟨none, none, (.store 1 (.t 11) (.t 9))⟩])
theorem align_place_move.code : comp PG [] (Tryz.f114.body.getD .skip) = align_place_move.c := by kernel_rfl
theorem align_place_move.of {args : List AV} {H : AH} {K : AV → AH → Prop} (hl : args.length = 2) (h : wpA PG align_place_move.c none (endA [] K) (initFr args) H) : ACalls PG 114 args H K :=
  ACalls.of_code (fl := []) mixed Tryz.func114 (c := Tryz.f114.body.getD .skip) (by kernel_rfl) (by kernel_rfl) (by rw [hl]; exact of_decide_eq_true (by kernel_rfl)) (by rw [align_place_move.code]; kernel_rfl)
    (by rw [align_place_move.code, show compRes PG Tryz.f114.results.toList = [] from by kernel_rfl]; exact h)
def put_ways.n : Nat := 118
noncomputable def put_ways.c : C := (.seq (.reg [⟨(some 2), none, (.mv (.c .nilF))⟩]) (.seq (.seq (.reg [⟨(some 3), none, (.mv (.t 0))⟩]) (.block 0 (.seq (.reg [⟨(some 5), none, (.bin .eql (.t 3) (.c (.int .i64 10)))⟩, ⟨(some 4), none, (.mv (.t 5))⟩]) (.cond (.t 4) (.seq (.reg [⟨(some 2), none, (.mv (.c (.clo 156 [] [])))⟩]) .ret) (.seq (.reg [⟨(some 7), none, (.bin .eql (.t 3) (.c (.int .i64 11)))⟩, ⟨(some 6), none, (.mv (.t 7))⟩]) (.cond (.t 6) (.seq (.reg [⟨(some 2), none, (.mv (.c (.clo 157 [] [])))⟩]) .ret) (.seq (.reg [⟨(some 9), none, (.bin .eql (.t 3) (.c (.int .i64 12)))⟩, ⟨(some 8), none, (.mv (.t 9))⟩]) (.cond (.t 8) (.seq (.reg [⟨(some 2), none, (.mv (.c (.clo 158 [] [])))⟩]) .ret) (.seq (.reg [⟨(some 11), none, (.bin .eql (.t 3) (.c (.int .i64 13)))⟩, ⟨(some 10), none, (.mv (.t 11))⟩]) (.cond (.t 10) (.seq (.reg [⟨(some 2), none, (.mv (.c (.clo 159 [] [])))⟩]) .ret) (.seq (.reg [⟨(some 13), none, (.bin .eql (.t 3) (.c (.int .i64 14)))⟩, ⟨(some 12), none, (.mv (.t 13))⟩]) (.cond (.t 12) (.seq (.reg [⟨(some 2), none, (.mv (.c (.clo 160 [] [])))⟩]) .ret) .skip)))))))))))) (.seq (.reg [⟨(some 2), none, (.mv (.c (.clo 161 [] [])))⟩]) .ret)))
theorem put_ways.code : comp PG [] (Tryz.f118.body.getD .skip) = put_ways.c := by kernel_rfl
theorem put_ways.of {args : List AV} {H : AH} {K : AV → AH → Prop} (hl : args.length = 1) (h : wpA PG put_ways.c none (endA [(.t 2)] K) (initFr args) H) : ACalls PG 118 args H K :=
  ACalls.of_code (fl := []) mixed Tryz.func118 (c := Tryz.f118.body.getD .skip) (by kernel_rfl) (by kernel_rfl) (by rw [hl]; exact of_decide_eq_true (by kernel_rfl)) (by rw [put_ways.code]; kernel_rfl)
    (by rw [put_ways.code, show compRes PG Tryz.f118.results.toList = [(.t 2)] from by kernel_rfl]; exact h)
def broadsheetref02_Zeros.n : Nat := 123
noncomputable def broadsheetref02_Zeros.c : C := (.seq (.reg [⟨(some 2), none, (.mv (.c (.str [])))⟩]) (.seq (.reg [⟨(some 3), none, (.mv (.t 0))⟩, ⟨(some 4), none, (.mks 5 1 1 [(.int .u8 0)] (.t 3))⟩, ⟨(some 5), none, (.bytesS (.t 4))⟩, ⟨(some 2), none, (.mv (.t 5))⟩]) .ret))
theorem broadsheetref02_Zeros.code : comp PG [] (Tryz.f123.body.getD .skip) = broadsheetref02_Zeros.c := by kernel_rfl
theorem broadsheetref02_Zeros.of {args : List AV} {H : AH} {K : AV → AH → Prop} (hl : args.length = 1) (h : wpA PG broadsheetref02_Zeros.c none (endA [(.t 2)] K) (initFr args) H) : ACalls PG 123 args H K :=
  ACalls.of_code (fl := []) mixed Tryz.func123 (c := Tryz.f123.body.getD .skip) (by kernel_rfl) (by kernel_rfl) (by rw [hl]; exact of_decide_eq_true (by kernel_rfl)) (by rw [broadsheetref02_Zeros.code]; kernel_rfl)
    (by rw [broadsheetref02_Zeros.code, show compRes PG Tryz.f123.results.toList = [(.t 2)] from by kernel_rfl]; exact h)
def align_Cur_Take.n : Nat := 148
noncomputable def align_Cur_Take.c : C := (.seq (.reg [⟨(some 4), none, (.mv (.c (.int .u64 0)))⟩]) (.seq (.seq (.reg [⟨(some 11), none, (.mv (.t 0))⟩, ⟨(some 12), none, (.ncmpP false (.t 11))⟩, ⟨(some 13), none, (.mv (.t 12))⟩, ⟨(some 14), (some (13, false)), (.mv (.t 0))⟩, ⟨(some 15), (some (13, false)), (.nilck (.t 14))⟩, ⟨(some 16), (some (13, false)), (.faddr 2 (.t 15))⟩, ⟨(some 17), (some (13, false)), (.load none (.t 16))⟩, ⟨(some 18), (some (13, false)), (.bin .neq (.t 17) (.c (.int .i64 0)))⟩, ⟨(some 19), none, (.pick (.t 13) (.c (.bool true)) (.t 18))⟩]) (.cond (.t 19) (.seq (.reg [⟨(some 4), none, (.mv (.c (.int .u64 0)))⟩]) .ret) .skip)) (.seq (.seq (.reg [⟨(some 21), none, (.mv (.t 1))⟩, ⟨(some 22), none, (.call 100 [(.c (.int .u64 0)), (.t 21)])⟩, ⟨(some 20), none, (.mv (.t 22))⟩, ⟨(some 23), none, (.extr (.t 20) 0)⟩, ⟨(some 24), none, (.extr (.t 20) 1)⟩, ⟨(some 5), none, (.mv (.t 23))⟩, ⟨(some 6), none, (.mv (.t 24))⟩]) (.seq (.reg [⟨(some 25), none, (.mv (.t 6))⟩, ⟨(some 26), none, (.bin .neq (.t 25) (.c (.int .i64 0)))⟩]) (.cond (.t 26) (.seq (.reg [⟨(some 27), none, (.mv (.t 0))⟩, ⟨(some 28), none, (.mv (.t 6))⟩, ⟨(some 29), none, (.call 194 [(.t 27), (.t 28)])⟩]) (.seq (.reg [⟨(some 4), none, (.mv (.c (.int .u64 0)))⟩]) .ret)) .skip))) (.seq (.dreg [⟨(some 30), none, (.mv (.t 0))⟩, ⟨(some 31), none, (.nilck (.t 30))⟩, ⟨(some 32), none, (.faddr 0 (.t 31))⟩, ⟨(some 33), none, (.faddr 0 (.t 32))⟩, ⟨(some 34), none, (.load none (.t 33))⟩, ⟨(some 35), none, (.mv (.t 0))⟩, ⟨(some 36), none, (.nilck (.t 35))⟩, ⟨(some 37), none, (.faddr 0 (.t 36))⟩, ⟨(some 38), none, (.mv (.t 1))⟩, ⟨(some 39), none, (.call 195 [(.t 37), (.t 38)])⟩] [⟨(some 40), none, (.bin .add (.t 34) (.t 39))⟩, ⟨(some 7), none, (.mv (.t 40))⟩]) (.seq (.seq (.reg [⟨(some 41), none, (.mv (.t 0))⟩, ⟨(some 42), none, (.nilck (.t 41))⟩, ⟨(some 43), none, (.faddr 0 (.t 42))⟩, ⟨(some 44), none, (.faddr 0 (.t 43))⟩, ⟨(some 45), none, (.load none (.t 44))⟩, ⟨(some 8), none, (.mv (.t 45))⟩]) (.block 0 (.loop (.seq (.seq (.reg [⟨(some 46), none, (.mv (.t 8))⟩, ⟨(some 47), none, (.mv (.t 7))⟩, ⟨(some 48), none, (.bin .lss (.t 46) (.t 47))⟩]) (.cond (.t 48) .skip (.exit 0))) (.seq (.block 1 (.seq (.seq (.reg [⟨(some 51), none, (.mv (.t 8))⟩, ⟨(some 52), none, (.mv (.t 0))⟩, ⟨(some 53), none, (.nilck (.t 52))⟩, ⟨(some 54), none, (.faddr 1 (.t 53))⟩, ⟨(some 55), none, (.load none (.t 54))⟩, ⟨(some 56), none, (.len true (.t 55))⟩, ⟨(some 57), none, (.bin .geq (.t 51) (.t 56))⟩]) (.cond (.t 57) (.seq (.reg [⟨(some 58), none, (.mv (.t 0))⟩, ⟨(some 59), none, (.call 194 [(.t 58), (.c (.int .i64 2))])⟩]) (.seq (.reg [⟨(some 4), none, (.mv (.c (.int .u64 0)))⟩]) .ret)) .skip)) (.seq (.reg [⟨(some 60), none, (.mv (.t 0))⟩, ⟨(some 61), none, (.nilck (.t 60))⟩, ⟨(some 62), none, (.faddr 1 (.t 61))⟩, ⟨(some 63), none, (.load none (.t 62))⟩, ⟨(some 64), none, (.mv (.t 8))⟩, ⟨(some 65), none, (.idx (.t 63) (.t 64))⟩, ⟨(some 66), none, (.bin .neq (.t 65) (.c (.int .u8 0)))⟩]) (.cond (.t 66) (.seq (.reg [⟨(some 67), none, (.mv (.t 0))⟩, ⟨(some 68), none, (.call 194 [(.t 67), (.c (.int .i64 12))])⟩]) (.seq (.reg [⟨(some 4), none, (.mv (.c (.int .u64 0)))⟩]) .ret)) .skip)))) (.reg [⟨(some 49), none, (.mv (.t 8))⟩, ⟨(some 50), none, (.bin .add (.t 49) (.c (.int .i64 1)))⟩, ⟨(some 8), none, (.mv (.t 50))⟩])))))) (.seq (.reg [⟨(some 70), none, (.mv (.t 0))⟩, ⟨(some 71), none, (.nilck (.t 70))⟩, ⟨(some 72), none, (.faddr 1 (.t 71))⟩, ⟨(some 73), none, (.load none (.t 72))⟩, ⟨(some 74), none, (.mv (.t 7))⟩, ⟨(some 75), none, (.mv (.t 1))⟩, ⟨(some 76), none, (.call 196 [(.t 73), (.t 74), (.t 75)])⟩, ⟨(some 69), none, (.mv (.t 76))⟩, ⟨(some 77), none, (.extr (.t 69) 0)⟩, ⟨(some 78), none, (.extr (.t 69) 1)⟩, ⟨(some 9), none, (.mv (.t 77))⟩, ⟨(some 10), none, (.mv (.t 78))⟩]) (.seq (.seq (.reg [⟨(some 79), none, (.mv (.t 10))⟩, ⟨(some 80), none, (.bin .neq (.t 79) (.c (.int .i64 0)))⟩]) (.cond (.t 80) (.seq (.reg [⟨(some 81), none, (.mv (.t 0))⟩, ⟨(some 82), none, (.call 194 [(.t 81), (.c (.int .i64 2))])⟩]) (.seq (.reg [⟨(some 4), none, (.mv (.c (.int .u64 0)))⟩]) .ret)) .skip)) (.seq (.reg [⟨(some 83), none, (.mv (.t 0))⟩, ⟨(some 84), none, (.mv (.t 7))⟩, ⟨(some 85), none, (.mv (.t 1))⟩, ⟨(some 86), none, (.bin .add (.t 84) (.t 85))⟩, ⟨(some 87), none, (.nilck (.t 83))⟩, ⟨(some 88), none, (.faddr 0 (.t 87))⟩, ⟨(some 89), none, (.faddr 0 (.t 88))⟩, ⟨none, none, (.store 1 (.t 89) (.t 86))⟩]) (.seq (.reg [⟨(some 90), none, (.mv (.t 9))⟩, ⟨(some 4), none, (.mv (.t 90))⟩]) .ret)))))))))
theorem align_Cur_Take.code : comp PG [] (Tryz.f148.body.getD .skip) = align_Cur_Take.c := by kernel_rfl
theorem align_Cur_Take.of {args : List AV} {H : AH} {K : AV → AH → Prop} (hl : args.length = 2) (h : wpA PG align_Cur_Take.c none (endA [(.t 4)] K) (initFr args) H) : ACalls PG 148 args H K :=
  ACalls.of_code (fl := []) mixed Tryz.func148 (c := Tryz.f148.body.getD .skip) (by kernel_rfl) (by kernel_rfl) (by rw [hl]; exact of_decide_eq_true (by kernel_rfl)) (by rw [align_Cur_Take.code]; kernel_rfl)
    (by rw [align_Cur_Take.code, show compRes PG Tryz.f148.results.toList = [(.t 4)] from by kernel_rfl]; exact h)
def put_putter_text.n : Nat := 156
noncomputable def put_putter_text.c : C := (.seq (.reg [⟨(some 5), none, (.box 26 (.t 2))⟩]) (.seq (.dreg [⟨(some 6), none, (.mv (.t 0))⟩, ⟨(some 7), none, (.nilck (.t 6))⟩, ⟨(some 8), none, (.faddr 1 (.t 7))⟩, ⟨(some 9), none, (.load none (.t 8))⟩, ⟨(some 10), none, (.faddr 2 (.t 5))⟩, ⟨(some 11), none, (.load none (.t 10))⟩, ⟨(some 12), none, (.len true (.t 11))⟩, ⟨(some 13), none, (.bin .add (.t 12) (.c (.int .i64 1)))⟩, ⟨(some 14), none, (.conv .u64 (.t 13))⟩] [⟨(some 15), none, (.call 199 [(.t 9), (.t 14), (.c (.int .i64 4))])⟩]) (.dreg [⟨(some 16), none, (.mv (.t 0))⟩, ⟨(some 17), none, (.nilck (.t 16))⟩, ⟨(some 18), none, (.faddr 1 (.t 17))⟩, ⟨(some 19), none, (.load none (.t 18))⟩, ⟨(some 20), none, (.faddr 2 (.t 5))⟩, ⟨(some 21), none, (.load none (.t 20))⟩, ⟨(some 22), none, (.bin .add (.t 21) (.c (.str [0])))⟩] [⟨(some 23), none, (.call 67 [(.t 19), (.t 22)])⟩])))
theorem put_putter_text.code : comp PG [] (Tryz.f156.body.getD .skip) = put_putter_text.c := by kernel_rfl
theorem put_putter_text.of {args : List AV} {H : AH} {K : AV → AH → Prop} (hl : args.length = 3) (h : wpA PG put_putter_text.c none (endA [] K) (initFr args) H) : ACalls PG 156 args H K :=
  ACalls.of_code (fl := []) mixed Tryz.func156 (c := Tryz.f156.body.getD .skip) (by kernel_rfl) (by kernel_rfl) (by rw [hl]; exact of_decide_eq_true (by kernel_rfl)) (by rw [put_putter_text.code]; kernel_rfl)
    (by rw [put_putter_text.code, show compRes PG Tryz.f156.results.toList = [] from by kernel_rfl]; exact h)
def put_putter_seq.n : Nat := 157
noncomputable def put_putter_seq.c : C := (.seq (.reg [⟨(some 5), none, (.box 26 (.t 2))⟩]) (.seq (.dreg [⟨(some 6), none, (.mv (.t 0))⟩, ⟨(some 7), none, (.nilck (.t 6))⟩, ⟨(some 8), none, (.faddr 1 (.t 7))⟩, ⟨(some 9), none, (.load none (.t 8))⟩, ⟨(some 10), none, (.faddr 3 (.t 5))⟩, ⟨(some 11), none, (.load none (.t 10))⟩, ⟨(some 12), none, (.len false (.t 11))⟩, ⟨(some 13), none, (.conv .u64 (.t 12))⟩] [⟨(some 14), none, (.call 199 [(.t 9), (.t 13), (.c (.int .i64 4))])⟩]) (.reg [⟨(some 15), none, (.mv (.t 0))⟩, ⟨(some 16), none, (.mv (.t 1))⟩, ⟨(some 17), none, (.load (some 4) (.t 5))⟩, ⟨(some 18), none, (.call 158 [(.t 15), (.t 16), (.t 17)])⟩])))
theorem put_putter_seq.code : comp PG [] (Tryz.f157.body.getD .skip) = put_putter_seq.c := by kernel_rfl
theorem put_putter_seq.of {args : List AV} {H : AH} {K : AV → AH → Prop} (hl : args.length = 3) (h : wpA PG put_putter_seq.c none (endA [] K) (initFr args) H) : ACalls PG 157 args H K :=
  ACalls.of_code (fl := []) mixed Tryz.func157 (c := Tryz.f157.body.getD .skip) (by kernel_rfl) (by kernel_rfl) (by rw [hl]; exact of_decide_eq_true (by kernel_rfl)) (by rw [put_putter_seq.code]; kernel_rfl)
    (by rw [put_putter_seq.code, show compRes PG Tryz.f157.results.toList = [] from by kernel_rfl]; exact h)
def put_putter_array.n : Nat := 158
noncomputable def put_putter_array.c : C := (.seq (.reg [⟨(some 5), none, (.box 26 (.t 2))⟩]) (.seq (.reg [⟨(some 8), none, (.faddr 3 (.t 5))⟩, ⟨(some 9), none, (.load none (.t 8))⟩, ⟨(some 10), none, (.len false (.t 9))⟩, ⟨(some 11), none, (.mv (.c (.int .i64 0)))⟩]) (.block 0 (.loop (.seq (.reg [⟨(some 12), none, (.bin .lss (.t 11) (.t 10))⟩]) (.seq (.cond (.t 12) .skip (.exit 0)) (.seq (.block 1 (.seq (.reg [⟨(some 13), none, (.iaddr 4 (.t 9) (.t 11))⟩, ⟨(some 14), none, (.load (some 4) (.t 13))⟩, ⟨(some 7), none, (.allc 26 [(.int .i64 0), (.int .u64 0), (.str []), .nilS])⟩, ⟨none, none, (.store 4 (.t 7) (.t 14))⟩]) (.dreg [⟨(some 15), none, (.mv (.t 0))⟩, ⟨(some 16), none, (.mv (.t 0))⟩, ⟨(some 17), none, (.nilck (.t 16))⟩, ⟨(some 18), none, (.faddr 0 (.t 17))⟩, ⟨(some 19), none, (.load none (.t 18))⟩, ⟨(some 20), none, (.mv (.t 1))⟩, ⟨(some 21), none, (.iaddr 6 (.t 19) (.t 20))⟩, ⟨(some 22), none, (.faddr 3 (.t 21))⟩, ⟨(some 23), none, (.load none (.t 22))⟩, ⟨(some 24), none, (.load (some 4) (.t 7))⟩] [⟨(some 25), none, (.call 69 [(.t 15), (.t 23), (.t 24)])⟩]))) (.reg [⟨(some 26), none, (.bin .add (.t 11) (.c (.int .i64 1)))⟩, ⟨(some 11), none, (.mv (.t 26))⟩]))))))))
theorem put_putter_array.code : comp PG [] (Tryz.f158.body.getD .skip) = put_putter_array.c := by kernel_rfl
theorem put_putter_array.of {args : List AV} {H : AH} {K : AV → AH → Prop} (hl : args.length = 3) (h : wpA PG put_putter_array.c none (endA [] K) (initFr args) H) : ACalls PG 158 args H K :=
  ACalls.of_code (fl := []) mixed Tryz.func158 (c := Tryz.f158.body.getD .skip) (by kernel_rfl) (by kernel_rfl) (by rw [hl]; exact of_decide_eq_true (by kernel_rfl)) (by rw [put_putter_array.code]; kernel_rfl)
    (by rw [put_putter_array.code, show compRes PG Tryz.f158.results.toList = [] from by kernel_rfl]; exact h)
def put_putter_fields.n : Nat := 159
noncomputable def put_putter_fields.c : C := (.seq (.reg [⟨(some 5), none, (.box 26 (.t 2))⟩]) (.seq (.reg [⟨(some 8), none, (.faddr 3 (.t 5))⟩, ⟨(some 9), none, (.load none (.t 8))⟩, ⟨(some 10), none, (.len false (.t 9))⟩, ⟨(some 11), none, (.mv (.c (.int .i64 0)))⟩]) (.block 0 (.loop (.seq (.reg [⟨(some 12), none, (.bin .lss (.t 11) (.t 10))⟩]) (.seq (.cond (.t 12) .skip (.exit 0)) (.seq (.block 1 (.seq (.reg [⟨(some 13), none, (.mv (.t 11))⟩, ⟨(some 14), none, (.iaddr 4 (.t 9) (.t 11))⟩, ⟨(some 15), none, (.load (some 4) (.t 14))⟩, ⟨(some 7), none, (.allc 26 [(.int .i64 0), (.int .u64 0), (.str []), .nilS])⟩, ⟨(some 6), none, (.mv (.t 13))⟩, ⟨none, none, (.store 4 (.t 7) (.t 15))⟩]) (.dreg [⟨(some 16), none, (.mv (.t 0))⟩, ⟨(some 17), none, (.mv (.t 0))⟩, ⟨(some 18), none, (.nilck (.t 17))⟩, ⟨(some 19), none, (.faddr 0 (.t 18))⟩, ⟨(some 20), none, (.load none (.t 19))⟩, ⟨(some 21), none, (.mv (.t 1))⟩, ⟨(some 22), none, (.iaddr 6 (.t 20) (.t 21))⟩, ⟨(some 23), none, (.faddr 5 (.t 22))⟩, ⟨(some 24), none, (.load none (.t 23))⟩, ⟨(some 25), none, (.mv (.t 6))⟩, ⟨(some 26), none, (.iaddr 5 (.t 24) (.t 25))⟩, ⟨(some 27), none, (.faddr 2 (.t 26))⟩, ⟨(some 28), none, (.load none (.t 27))⟩, ⟨(some 29), none, (.load (some 4) (.t 7))⟩] [⟨(some 30), none, (.call 69 [(.t 16), (.t 28), (.t 29)])⟩]))) (.reg [⟨(some 31), none, (.bin .add (.t 11) (.c (.int .i64 1)))⟩, ⟨(some 11), none, (.mv (.t 31))⟩]))))))))
theorem put_putter_fields.code : comp PG [] (Tryz.f159.body.getD .skip) = put_putter_fields.c := by kernel_rfl
theorem put_putter_fields.of {args : List AV} {H : AH} {K : AV → AH → Prop} (hl : args.length = 3) (h : wpA PG put_putter_fields.c none (endA [] K) (initFr args) H) : ACalls PG 159 args H K :=
  ACalls.of_code (fl := []) mixed Tryz.func159 (c := Tryz.f159.body.getD .skip) (by kernel_rfl) (by kernel_rfl) (by rw [hl]; exact of_decide_eq_true (by kernel_rfl)) (by rw [put_putter_fields.code]; kernel_rfl)
    (by rw [put_putter_fields.code, show compRes PG Tryz.f159.results.toList = [] from by kernel_rfl]; exact h)
def put_putter_union.n : Nat := 160
noncomputable def put_putter_union.c : C := (.seq (.reg [⟨(some 5), none, (.box 26 (.t 2))⟩]) (.seq (.dreg [⟨(some 10), none, (.mv (.t 0))⟩, ⟨(some 11), none, (.mv (.t 0))⟩, ⟨(some 12), none, (.nilck (.t 11))⟩, ⟨(some 13), none, (.faddr 0 (.t 12))⟩, ⟨(some 14), none, (.load none (.t 13))⟩, ⟨(some 15), none, (.mv (.t 1))⟩, ⟨(some 16), none, (.iaddr 6 (.t 14) (.t 15))⟩, ⟨(some 17), none, (.faddr 4 (.t 16))⟩, ⟨(some 18), none, (.load none (.t 17))⟩, ⟨(some 19), none, (.load (some 4) (.t 5))⟩] [⟨(some 20), none, (.call 161 [(.t 10), (.t 18), (.t 19)])⟩]) (.seq (.reg [⟨(some 21), none, (.faddr 3 (.t 5))⟩, ⟨(some 22), none, (.load none (.t 21))⟩, ⟨(some 23), none, (.len false (.t 22))⟩, ⟨(some 24), none, (.mv (.c (.int .i64 0)))⟩]) (.block 0 (.loop (.seq (.reg [⟨(some 25), none, (.bin .lss (.t 24) (.t 23))⟩]) (.seq (.cond (.t 25) .skip (.exit 0)) (.seq (.block 1 (.seq (.reg [⟨(some 26), none, (.iaddr 4 (.t 22) (.t 24))⟩, ⟨(some 27), none, (.load (some 4) (.t 26))⟩, ⟨(some 7), none, (.allc 26 [(.int .i64 0), (.int .u64 0), (.str []), .nilS])⟩, ⟨none, none, (.store 4 (.t 7) (.t 27))⟩]) (.seq (.reg [⟨(some 28), none, (.mv (.t 0))⟩, ⟨(some 29), none, (.nilck (.t 28))⟩, ⟨(some 30), none, (.faddr 0 (.t 29))⟩, ⟨(some 31), none, (.load none (.t 30))⟩, ⟨(some 32), none, (.mv (.t 1))⟩, ⟨(some 33), none, (.iaddr 6 (.t 31) (.t 32))⟩, ⟨(some 34), none, (.faddr 5 (.t 33))⟩, ⟨(some 35), none, (.load none (.t 34))⟩, ⟨(some 36), none, (.len false (.t 35))⟩, ⟨(some 37), none, (.mv (.c (.int .i64 0)))⟩]) (.block 2 (.loop (.seq (.reg [⟨(some 38), none, (.bin .lss (.t 37) (.t 36))⟩]) (.seq (.cond (.t 38) .skip (.exit 2)) (.seq (.block 3 (.seq (.reg [⟨(some 39), none, (.iaddr 5 (.t 35) (.t 37))⟩, ⟨(some 40), none, (.load (some 5) (.t 39))⟩, ⟨(some 9), none, (.allc 91 [(.str []), (.int .u64 0), (.int .i64 0), (.bool false), (.bool false)])⟩, ⟨none, none, (.store 5 (.t 9) (.t 40))⟩]) (.seq (.reg [⟨(some 41), none, (.faddr 1 (.t 9))⟩, ⟨(some 42), none, (.load none (.t 41))⟩, ⟨(some 43), none, (.faddr 1 (.t 5))⟩, ⟨(some 44), none, (.load none (.t 43))⟩, ⟨(some 45), none, (.bin .eql (.t 42) (.t 44))⟩, ⟨(some 46), none, (.mv (.t 45))⟩, ⟨(some 47), (some (46, true)), (.faddr 4 (.t 9))⟩, ⟨(some 48), (some (46, true)), (.load none (.t 47))⟩, ⟨(some 49), (some (46, true)), (.un .not (.t 48))⟩, ⟨(some 50), none, (.pick (.t 46) (.t 49) (.c (.bool false)))⟩, ⟨(some 51), none, (.mv (.t 50))⟩, ⟨(some 52), (some (51, false)), (.faddr 4 (.t 9))⟩, ⟨(some 53), (some (51, false)), (.load none (.t 52))⟩, ⟨(some 54), none, (.pick (.t 51) (.c (.bool true)) (.t 53))⟩]) (.cond (.t 54) (.seq (.reg [⟨(some 55), none, (.mv (.t 0))⟩, ⟨(some 56), none, (.faddr 2 (.t 9))⟩, ⟨(some 57), none, (.load none (.t 56))⟩, ⟨(some 58), none, (.load (some 4) (.t 7))⟩, ⟨(some 59), none, (.call 69 [(.t 55), (.t 57), (.t 58)])⟩]) (.exit 2)) .skip)))) (.reg [⟨(some 60), none, (.bin .add (.t 37) (.c (.int .i64 1)))⟩, ⟨(some 37), none, (.mv (.t 60))⟩]))))))))) (.reg [⟨(some 61), none, (.bin .add (.t 24) (.c (.int .i64 1)))⟩, ⟨(some 24), none, (.mv (.t 61))⟩])))))))))
theorem put_putter_union.code : comp PG [] (Tryz.f160.body.getD .skip) = put_putter_union.c := by kernel_rfl
theorem put_putter_union.of {args : List AV} {H : AH} {K : AV → AH → Prop} (hl : args.length = 3) (h : wpA PG put_putter_union.c none (endA [] K) (initFr args) H) : ACalls PG 160 args H K :=
  ACalls.of_code (fl := []) mixed Tryz.func160 (c := Tryz.f160.body.getD .skip) (by kernel_rfl) (by kernel_rfl) (by rw [hl]; exact of_decide_eq_true (by kernel_rfl)) (by rw [put_putter_union.code]; kernel_rfl)
    (by rw [put_putter_union.code, show compRes PG Tryz.f160.results.toList = [] from by kernel_rfl]; exact h)
def put_putter_number.n : Nat := 161
noncomputable def put_putter_number.c : C := (.seq (.reg [⟨(some 5), none, (.box 26 (.t 2))⟩]) (.seq (.reg [⟨(some 7), none, (.mv (.t 0))⟩, ⟨(some 8), none, (.nilck (.t 7))⟩, ⟨(some 9), none, (.faddr 0 (.t 8))⟩, ⟨(some 10), none, (.load none (.t 9))⟩, ⟨(some 11), none, (.mv (.t 1))⟩, ⟨(some 12), none, (.iaddr 6 (.t 10) (.t 11))⟩, ⟨(some 13), none, (.faddr 0 (.t 12))⟩, ⟨(some 14), none, (.load none (.t 13))⟩, ⟨(some 6), none, (.mv (.t 14))⟩]) (.dreg [⟨(some 15), none, (.mv (.t 0))⟩, ⟨(some 16), none, (.nilck (.t 15))⟩, ⟨(some 17), none, (.faddr 1 (.t 16))⟩, ⟨(some 18), none, (.load none (.t 17))⟩, ⟨(some 19), none, (.mv (.t 6))⟩, ⟨(some 20), none, (.faddr 1 (.t 5))⟩, ⟨(some 21), none, (.load none (.t 20))⟩, ⟨(some 22), none, (.call 101 [(.t 19), (.t 21)])⟩, ⟨(some 23), none, (.mv (.t 6))⟩, ⟨(some 24), none, (.call 87 [(.t 23)])⟩] [⟨(some 25), none, (.call 199 [(.t 18), (.t 22), (.t 24)])⟩])))
theorem put_putter_number.code : comp PG [] (Tryz.f161.body.getD .skip) = put_putter_number.c := by kernel_rfl
theorem put_putter_number.of {args : List AV} {H : AH} {K : AV → AH → Prop} (hl : args.length = 3) (h : wpA PG put_putter_number.c none (endA [] K) (initFr args) H) : ACalls PG 161 args H K :=
  ACalls.of_code (fl := []) mixed Tryz.func161 (c := Tryz.f161.body.getD .skip) (by kernel_rfl) (by kernel_rfl) (by rw [hl]; exact of_decide_eq_true (by kernel_rfl)) (by rw [put_putter_number.code]; kernel_rfl)
    (by rw [put_putter_number.code, show compRes PG Tryz.f161.results.toList = [] from by kernel_rfl]; exact h)
def align_Cur_Text.n : Nat := 193
noncomputable def align_Cur_Text.c : C := (.seq (.reg [⟨(some 4), none, (.mv (.c (.str [])))⟩]) (.seq (.seq (.reg [⟨(some 6), none, (.mv (.t 0))⟩, ⟨(some 7), none, (.ncmpP false (.t 6))⟩, ⟨(some 8), none, (.mv (.t 7))⟩, ⟨(some 9), (some (8, false)), (.mv (.t 0))⟩, ⟨(some 10), (some (8, false)), (.nilck (.t 9))⟩, ⟨(some 11), (some (8, false)), (.faddr 2 (.t 10))⟩, ⟨(some 12), (some (8, false)), (.load none (.t 11))⟩, ⟨(some 13), (some (8, false)), (.bin .neq (.t 12) (.c (.int .i64 0)))⟩, ⟨(some 14), none, (.pick (.t 8) (.c (.bool true)) (.t 13))⟩]) (.cond (.t 14) (.seq (.reg [⟨(some 4), none, (.mv (.c (.str [])))⟩]) .ret) .skip)) (.seq (.block 0 (.seq (.reg [⟨(some 16), none, (.mv (.t 1))⟩, ⟨(some 17), none, (.bin .lss (.t 16) (.c (.int .i64 0)))⟩, ⟨(some 15), none, (.mv (.t 17))⟩]) (.cond (.t 15) (.seq (.reg [⟨(some 18), none, (.mv (.t 0))⟩, ⟨(some 19), none, (.call 194 [(.t 18), (.c (.int .i64 7))])⟩]) (.seq (.reg [⟨(some 4), none, (.mv (.c (.str [])))⟩]) .ret)) (.seq (.dreg [⟨(some 21), none, (.mv (.t 1))⟩, ⟨(some 22), none, (.mv (.t 0))⟩, ⟨(some 23), none, (.nilck (.t 22))⟩, ⟨(some 24), none, (.faddr 1 (.t 23))⟩, ⟨(some 25), none, (.load none (.t 24))⟩, ⟨(some 26), none, (.len true (.t 25))⟩, ⟨(some 27), none, (.mv (.t 0))⟩, ⟨(some 28), none, (.nilck (.t 27))⟩, ⟨(some 29), none, (.faddr 0 (.t 28))⟩, ⟨(some 30), none, (.faddr 0 (.t 29))⟩, ⟨(some 31), none, (.load none (.t 30))⟩, ⟨(some 32), none, (.bin .sub (.t 26) (.t 31))⟩] [⟨(some 33), none, (.bin .gtr (.t 21) (.t 32))⟩, ⟨(some 20), none, (.mv (.t 33))⟩]) (.cond (.t 20) (.seq (.reg [⟨(some 34), none, (.mv (.t 0))⟩, ⟨(some 35), none, (.call 194 [(.t 34), (.c (.int .i64 2))])⟩]) (.seq (.reg [⟨(some 4), none, (.mv (.c (.str [])))⟩]) .ret)) .skip))))) (.seq (.reg [⟨(some 36), none, (.mv (.t 0))⟩, ⟨(some 37), none, (.nilck (.t 36))⟩, ⟨(some 38), none, (.faddr 0 (.t 37))⟩, ⟨(some 39), none, (.faddr 0 (.t 38))⟩, ⟨(some 40), none, (.load none (.t 39))⟩, ⟨(some 5), none, (.mv (.t 40))⟩]) (.seq (.reg [⟨(some 41), none, (.mv (.t 0))⟩, ⟨(some 42), none, (.nilck (.t 41))⟩, ⟨(some 43), none, (.faddr 0 (.t 42))⟩, ⟨(some 44), none, (.mv (.t 1))⟩, ⟨(some 45), none, (.call 114 [(.t 43), (.t 44)])⟩]) (.seq (.dreg [⟨(some 46), none, (.mv (.t 0))⟩, ⟨(some 47), none, (.nilck (.t 46))⟩, ⟨(some 48), none, (.faddr 1 (.t 47))⟩, ⟨(some 49), none, (.load none (.t 48))⟩, ⟨(some 50), none, (.mv (.t 5))⟩, ⟨(some 51), none, (.mv (.t 0))⟩, ⟨(some 52), none, (.nilck (.t 51))⟩, ⟨(some 53), none, (.faddr 0 (.t 52))⟩, ⟨(some 54), none, (.faddr 0 (.t 53))⟩, ⟨(some 55), none, (.load none (.t 54))⟩] [⟨(some 56), none, (.slice none (.t 49) (some (.t 50)) (some (.t 55)))⟩, ⟨(some 4), none, (.mv (.t 56))⟩]) .ret))))))
theorem align_Cur_Text.code : comp PG [] (Tryz.f193.body.getD .skip) = align_Cur_Text.c := by kernel_rfl
theorem align_Cur_Text.of {args : List AV} {H : AH} {K : AV → AH → Prop} (hl : args.length = 2) (h : wpA PG align_Cur_Text.c none (endA [(.t 4)] K) (initFr args) H) : ACalls PG 193 args H K :=
  ACalls.of_code (fl := []) mixed Tryz.func193 (c := Tryz.f193.body.getD .skip) (by kernel_rfl) (by kernel_rfl) (by rw [hl]; exact of_decide_eq_true (by kernel_rfl)) (by rw [align_Cur_Text.code]; kernel_rfl)
    (by rw [align_Cur_Text.code, show compRes PG Tryz.f193.results.toList = [(.t 4)] from by kernel_rfl]; exact h)
def align_Cur_fail.n : Nat := 194
noncomputable def align_Cur_fail.c : C := (.reg [⟨(some 4), none, (.mv (.t 0))⟩, ⟨(some 5), none, (.mv (.t 1))⟩, ⟨(some 6), none, (.nilck (.t 4))⟩, ⟨(some 7), none, (.faddr 2 (.t 6))⟩, ⟨none, none, (.store 1 (.t 7) (.t 5))⟩])
theorem align_Cur_fail.code : comp PG [] (Tryz.f194.body.getD .skip) = align_Cur_fail.c := by kernel_rfl
theorem align_Cur_fail.of {args : List AV} {H : AH} {K : AV → AH → Prop} (hl : args.length = 2) (h : wpA PG align_Cur_fail.c none (endA [] K) (initFr args) H) : ACalls PG 194 args H K :=
  ACalls.of_code (fl := []) mixed Tryz.func194 (c := Tryz.f194.body.getD .skip) (by kernel_rfl) (by kernel_rfl) (by rw [hl]; exact of_decide_eq_true (by kernel_rfl)) (by rw [align_Cur_fail.code]; kernel_rfl)
    (by rw [align_Cur_fail.code, show compRes PG Tryz.f194.results.toList = [] from by kernel_rfl]; exact h)
def align_place_gap.n : Nat := 195
noncomputable def align_place_gap.c : C := (.seq (.reg [⟨(some 4), none, (.mv (.c (.int .i64 0)))⟩]) (.seq (.reg [⟨(some 5), none, (.mv (.t 0))⟩, ⟨(some 6), none, (.nilck (.t 5))⟩, ⟨(some 7), none, (.faddr 0 (.t 6))⟩, ⟨(some 8), none, (.load none (.t 7))⟩, ⟨(some 9), none, (.mv (.t 1))⟩, ⟨(some 10), none, (.call 214 [(.t 8), (.t 9)])⟩, ⟨(some 4), none, (.mv (.t 10))⟩]) .ret))
theorem align_place_gap.code : comp PG [] (Tryz.f195.body.getD .skip) = align_place_gap.c := by kernel_rfl
theorem align_place_gap.of {args : List AV} {H : AH} {K : AV → AH → Prop} (hl : args.length = 2) (h : wpA PG align_place_gap.c none (endA [(.t 4)] K) (initFr args) H) : ACalls PG 195 args H K :=
  ACalls.of_code (fl := []) mixed Tryz.func195 (c := Tryz.f195.body.getD .skip) (by kernel_rfl) (by kernel_rfl) (by rw [hl]; exact of_decide_eq_true (by kernel_rfl)) (by rw [align_place_gap.code]; kernel_rfl)
    (by rw [align_place_gap.code, show compRes PG Tryz.f195.results.toList = [(.t 4)] from by kernel_rfl]; exact h)
def align_Cur_Err.n : Nat := 197
noncomputable def align_Cur_Err.c : C := (.seq (.reg [⟨(some 2), none, (.mv (.c (.int .i64 0)))⟩]) (.seq (.seq (.reg [⟨(some 3), none, (.mv (.t 0))⟩, ⟨(some 4), none, (.ncmpP false (.t 3))⟩]) (.cond (.t 4) (.seq (.reg [⟨(some 2), none, (.mv (.c (.int .i64 0)))⟩]) .ret) .skip)) (.seq (.reg [⟨(some 5), none, (.mv (.t 0))⟩, ⟨(some 6), none, (.nilck (.t 5))⟩, ⟨(some 7), none, (.faddr 2 (.t 6))⟩, ⟨(some 8), none, (.load none (.t 7))⟩, ⟨(some 2), none, (.mv (.t 8))⟩]) .ret)))
theorem align_Cur_Err.code : comp PG [] (Tryz.f197.body.getD .skip) = align_Cur_Err.c := by kernel_rfl
theorem align_Cur_Err.of {args : List AV} {H : AH} {K : AV → AH → Prop} (hl : args.length = 1) (h : wpA PG align_Cur_Err.c none (endA [(.t 2)] K) (initFr args) H) : ACalls PG 197 args H K :=
  ACalls.of_code (fl := []) mixed Tryz.func197 (c := Tryz.f197.body.getD .skip) (by kernel_rfl) (by kernel_rfl) (by rw [hl]; exact of_decide_eq_true (by kernel_rfl)) (by rw [align_Cur_Err.code]; kernel_rfl)
    (by rw [align_Cur_Err.code, show compRes PG Tryz.f197.results.toList = [(.t 2)] from by kernel_rfl]; exact h)
def align_Buf_Put.n : Nat := 199
noncomputable def align_Buf_Put.c : C := (.seq (.reg [⟨(some 6), none, (.mv (.c (.int .i64 0)))⟩]) (.seq (.seq (.reg [⟨(some 9), none, (.mv (.t 0))⟩, ⟨(some 10), none, (.ncmpP false (.t 9))⟩]) (.cond (.t 10) (.seq (.reg [⟨(some 6), none, (.mv (.c (.int .i64 20)))⟩]) .ret) .skip)) (.seq (.reg [⟨(some 12), none, (.mv (.t 1))⟩, ⟨(some 13), none, (.mv (.t 2))⟩, ⟨(some 14), none, (.call 100 [(.t 12), (.t 13)])⟩, ⟨(some 11), none, (.mv (.t 14))⟩, ⟨(some 15), none, (.extr (.t 11) 0)⟩, ⟨(some 16), none, (.extr (.t 11) 1)⟩, ⟨(some 7), none, (.mv (.t 15))⟩, ⟨(some 8), none, (.mv (.t 16))⟩]) (.seq (.seq (.reg [⟨(some 17), none, (.mv (.t 8))⟩, ⟨(some 18), none, (.bin .neq (.t 17) (.c (.int .i64 0)))⟩]) (.cond (.t 18) (.seq (.reg [⟨(some 19), none, (.mv (.t 8))⟩, ⟨(some 6), none, (.mv (.t 19))⟩]) .ret) .skip)) (.seq (.reg [⟨(some 20), none, (.mv (.t 0))⟩, ⟨(some 21), none, (.mv (.t 0))⟩, ⟨(some 22), none, (.nilck (.t 21))⟩, ⟨(some 23), none, (.faddr 0 (.t 22))⟩, ⟨(some 24), none, (.mv (.t 2))⟩, ⟨(some 25), none, (.call 195 [(.t 23), (.t 24)])⟩, ⟨(some 26), none, (.call 68 [(.c (.str [0])), (.t 25)])⟩, ⟨(some 27), none, (.call 67 [(.t 20), (.t 26)])⟩]) (.seq (.reg [⟨(some 28), none, (.mv (.t 0))⟩, ⟨(some 29), none, (.mv (.t 7))⟩, ⟨(some 30), none, (.call 67 [(.t 28), (.t 29)])⟩]) (.seq (.reg [⟨(some 6), none, (.mv (.c (.int .i64 0)))⟩]) .ret)))))))
theorem align_Buf_Put.code : comp PG [] (Tryz.f199.body.getD .skip) = align_Buf_Put.c := by kernel_rfl
theorem align_Buf_Put.of {args : List AV} {H : AH} {K : AV → AH → Prop} (hl : args.length = 3) (h : wpA PG align_Buf_Put.c none (endA [(.t 6)] K) (initFr args) H) : ACalls PG 199 args H K :=
  ACalls.of_code (fl := []) mixed Tryz.func199 (c := Tryz.f199.body.getD .skip) (by kernel_rfl) (by kernel_rfl) (by rw [hl]; exact of_decide_eq_true (by kernel_rfl)) (by rw [align_Buf_Put.code]; kernel_rfl)
    (by rw [align_Buf_Put.code, show compRes PG Tryz.f199.results.toList = [(.t 6)] from by kernel_rfl]; exact h)
def align_Gap.n : Nat := 214
noncomputable def align_Gap.c : C := (.seq (.reg [⟨(some 4), none, (.mv (.c (.int .i64 0)))⟩]) (.seq (.seq (.reg [⟨(some 5), none, (.mv (.t 1))⟩]) (.block 0 (.seq (.seq (.reg [⟨(some 7), none, (.bin .eql (.t 5) (.c (.int .i64 1)))⟩, ⟨(some 6), none, (.mv (.t 7))⟩]) (.cond (.t 6) .skip (.seq (.reg [⟨(some 8), none, (.bin .eql (.t 5) (.c (.int .i64 2)))⟩, ⟨(some 6), none, (.mv (.t 8))⟩]) (.cond (.t 6) .skip (.seq (.reg [⟨(some 9), none, (.bin .eql (.t 5) (.c (.int .i64 4)))⟩, ⟨(some 6), none, (.mv (.t 9))⟩]) (.cond (.t 6) .skip (.reg [⟨(some 10), none, (.bin .eql (.t 5) (.c (.int .i64 8)))⟩, ⟨(some 6), none, (.mv (.t 10))⟩]))))))) (.cond (.t 6) (.seq (.reg [⟨(some 11), none, (.mv (.t 0))⟩, ⟨(some 12), none, (.mm true [(.t 11), (.c (.int .i64 0))])⟩, ⟨(some 13), none, (.un .neg (.t 12))⟩, ⟨(some 14), none, (.mv (.t 1))⟩, ⟨(some 15), none, (.bin .sub (.t 14) (.c (.int .i64 1)))⟩, ⟨(some 16), none, (.bin .and (.t 13) (.t 15))⟩, ⟨(some 4), none, (.mv (.t 16))⟩]) .ret) .skip)))) (.seq (.reg [⟨(some 4), none, (.mv (.c (.int .i64 0)))⟩]) .ret)))
theorem align_Gap.code : comp PG [] (Tryz.f214.body.getD .skip) = align_Gap.c := by kernel_rfl
theorem align_Gap.of {args : List AV} {H : AH} {K : AV → AH → Prop} (hl : args.length = 2) (h : wpA PG align_Gap.c none (endA [(.t 4)] K) (initFr args) H) : ACalls PG 214 args H K :=
  ACalls.of_code (fl := []) mixed Tryz.func214 (c := Tryz.f214.body.getD .skip) (by kernel_rfl) (by kernel_rfl) (by rw [hl]; exact of_decide_eq_true (by kernel_rfl)) (by rw [align_Gap.code]; kernel_rfl)
    (by rw [align_Gap.code, show compRes PG Tryz.f214.results.toList = [(.t 4)] from by kernel_rfl]; exact h)
end Go.Proofs.YtmjdkeonjflanaaGreat

/- Bits of numbers, as the layer reckons them. -/
namespace Go.Proofs.YtmjdkeonjflanaaGreat
set_option autoImplicit false
set_option linter.unusedSimpArgs false
theorem and_mask (x : Int) (b : Nat) (hb : b ≤ 8) : bitsV .and .i64 x ((2 ^ b - 1 : Nat) : Int) = ((x % 18446744073709551616).toNat % 2 ^ b : Nat) := by
  unfold bitsV
  have h2 : 2 ^ b ≤ 2 ^ 8 := Nat.pow_le_pow_right (by omega) hb
  have h3 := Nat.two_pow_pos b
  have e2 : (BitVec.ofInt 64 ((2 ^ b - 1 : Nat) : Int)).toNat = 2 ^ b - 1 := by
    rw [BitVec.toNat_ofInt]
    omega
  have e1 : (BitVec.ofInt 64 x).toNat = (x % 18446744073709551616).toNat := by
    rw [BitVec.toNat_ofInt]; rfl
  show IntKind.i64.wrap ((BitVec.ofInt 64 x &&& BitVec.ofInt 64 ((2 ^ b - 1 : Nat) : Int)).toNat : Int) = _
  rw [BitVec.toNat_and, e1, e2, Nat.and_two_pow_sub_one_eq_mod, wrap_i64]
  have := Nat.mod_lt (x % 18446744073709551616).toNat h3
  omega
theorem andNot_mask (n b : Nat) (hb : b ≤ 64) (hn : n < 2 ^ b) : bitsV .andNot .u64 (n : Int) ((2 ^ b - 1 : Nat) : Int) = 0 := by
  unfold bitsV
  have h2 : 2 ^ b ≤ 2 ^ 64 := Nat.pow_le_pow_right (by omega) hb
  have h3 := Nat.two_pow_pos b
  have e : BitVec.ofInt 64 (n : Int) &&& ~~~BitVec.ofInt 64 ((2 ^ b - 1 : Nat) : Int) = 0#64 := by
    apply BitVec.eq_of_getLsbD_eq
    intro i hi
    simp only [BitVec.getLsbD_and, BitVec.getLsbD_not, BitVec.getLsbD_zero, hi, decide_true, Bool.true_and]
    rw [BitVec.ofInt_natCast, BitVec.ofInt_natCast, BitVec.getLsbD_ofNat, BitVec.getLsbD_ofNat, Nat.testBit_two_pow_sub_one]
    by_cases h : i < b
    · simp [h]; intro q _; exact q
    · rw [Nat.testBit_lt_two_pow (Nat.lt_of_lt_of_le hn (Nat.pow_le_pow_right (by omega) (by omega)))]
      simp
  show IntKind.u64.wrap ((BitVec.ofInt 64 (n : Int) &&& ~~~BitVec.ofInt 64 ((2 ^ b - 1 : Nat) : Int)).toNat : Int) = 0
  rw [e]; rfl
theorem gap_and {a sz : Nat} (hs : sz = 1 ∨ sz = 2 ∨ sz = 4 ∨ sz = 8) (ha : a ≤ 140737488355328) : bitsV .and .i64 (IntKind.i64.wrap (0 - if true = true then max (a : Int) 0 else min (a : Int) 0)) ((sz : Nat) - 1 : Int) = (gapN a sz : Nat) := by
  rw [if_pos rfl, show max (a : Int) 0 = a from by omega, wrap_i64]
  unfold gapN
  rcases hs with rfl | rfl | rfl | rfl
  · have := and_mask (if (0 - (a : Int)) % 18446744073709551616 < 9223372036854775808 then (0 - (a : Int)) % 18446744073709551616 else (0 - (a : Int)) % 18446744073709551616 - 18446744073709551616) 0 (by omega)
    exact this.trans (by omega)
  · have := and_mask (if (0 - (a : Int)) % 18446744073709551616 < 9223372036854775808 then (0 - (a : Int)) % 18446744073709551616 else (0 - (a : Int)) % 18446744073709551616 - 18446744073709551616) 1 (by omega)
    exact this.trans (by omega)
  · have := and_mask (if (0 - (a : Int)) % 18446744073709551616 < 9223372036854775808 then (0 - (a : Int)) % 18446744073709551616 else (0 - (a : Int)) % 18446744073709551616 - 18446744073709551616) 2 (by omega)
    exact this.trans (by omega)
  · have := and_mask (if (0 - (a : Int)) % 18446744073709551616 < 9223372036854775808 then (0 - (a : Int)) % 18446744073709551616 else (0 - (a : Int)) % 18446744073709551616 - 18446744073709551616) 3 (by omega)
    exact this.trans (by omega)
end Go.Proofs.YtmjdkeonjflanaaGreat

/- The library's functions at this program, as the kit's contracts ask. -/
namespace Go.Proofs.YtmjdkeonjflanaaGreat
open Go.Shelf
set_option autoImplicit false
set_option maxRecDepth 100000
def lays105_ren : Go.Shelf.Ren := ⟨fun
  | 105 => 68
  | 212 => 115
  | 99 => 116
  | 165 => 117
  | 166 => 99
  | 170 => 102
  | 169 => 70
  | 263 => 152
  | 264 => 153
  | 206 => 154
  | 240 => 139
  | 241 => 155
  | 276 => 189
  | 277 => 198
  | n => n, fun
  | 9 => 9
  | 3 => 3
  | 4 => 4
  | 20 => 20
  | 0 => 0
  | 46 => 189
  | 109 => 190
  | 5 => 5
  | 72 => 138
  | 76 => 171
  | 51 => 223
  | 146 => 224
  | 53 => 23
  | 148 => 226
  | 70 => 135
  | 37 => 136
  | 75 => 169
  | 127 => 196
  | 164 => 242
  | 80 => 73
  | n => n, fun
  | n => n⟩
theorem lays105 : Go.Proofs.Lays.n105 Tryz.prog lays105_ren :=
  { mixed := by kernel_rfl,
    f99 := Tryz.func116.trans (congrArg some (by kernel_rfl)),
    f105 := Tryz.func68.trans (congrArg some (by kernel_rfl)),
    f165 := Tryz.func117.trans (congrArg some (by kernel_rfl)),
    f166 := Tryz.func99.trans (congrArg some (by kernel_rfl)),
    f169 := Tryz.func70.trans (congrArg some (by kernel_rfl)),
    f170 := Tryz.func102.trans (congrArg some (by kernel_rfl)),
    f206 := Tryz.func154.trans (congrArg some (by kernel_rfl)),
    f212 := Tryz.func115.trans (congrArg some (by kernel_rfl)),
    f240 := Tryz.func139.trans (congrArg some (by kernel_rfl)),
    f241 := Tryz.func155.trans (congrArg some (by kernel_rfl)),
    f263 := Tryz.func152.trans (congrArg some (by kernel_rfl)),
    f264 := Tryz.func153.trans (congrArg some (by kernel_rfl)),
    f276 := Tryz.func189.trans (congrArg some (by kernel_rfl)),
    f277 := Tryz.func198.trans (congrArg some (by kernel_rfl)),
    t0 := Tryz.underlying0,
    a0 := Tryz.isAgg0,
    z0 := Tryz.sizeOf0,
    v0 := Tryz.zeroValue0,
    t3 := Tryz.underlying3,
    a3 := Tryz.isAgg3,
    z3 := Tryz.sizeOf3,
    v3 := Tryz.zeroValue3,
    t4 := Tryz.underlying4,
    a4 := Tryz.isAgg4,
    z4 := Tryz.sizeOf4,
    v4 := Tryz.zeroValue4,
    t5 := Tryz.underlying5,
    a5 := Tryz.isAgg5,
    z5 := Tryz.sizeOf5,
    v5 := Tryz.zeroValue5,
    t9 := Tryz.underlying9,
    a9 := Tryz.isAgg9,
    z9 := Tryz.sizeOf9,
    v9 := Tryz.zeroValue9,
    t20 := Tryz.underlying20,
    a20 := Tryz.isAgg20,
    z20 := Tryz.sizeOf20,
    v20 := Tryz.zeroValue20,
    t37 := Tryz.underlying136,
    a37 := Tryz.isAgg136,
    z37 := Tryz.sizeOf136,
    v37 := Tryz.zeroValue136,
    t46 := Tryz.underlying189,
    a46 := Tryz.isAgg189,
    z46 := Tryz.sizeOf189,
    v46 := Tryz.zeroValue189,
    t51 := Tryz.underlying223,
    a51 := Tryz.isAgg223,
    z51 := Tryz.sizeOf223,
    v51 := Tryz.zeroValue223,
    t53 := Tryz.underlying23,
    a53 := Tryz.isAgg23,
    z53 := Tryz.sizeOf23,
    v53 := Tryz.zeroValue23,
    t70 := Tryz.underlying135,
    a70 := Tryz.isAgg135,
    z70 := Tryz.sizeOf135,
    v70 := Tryz.zeroValue135,
    t72 := Tryz.underlying138,
    a72 := Tryz.isAgg138,
    z72 := Tryz.sizeOf138,
    v72 := Tryz.zeroValue138,
    t75 := Tryz.underlying169,
    a75 := Tryz.isAgg169,
    z75 := Tryz.sizeOf169,
    v75 := Tryz.zeroValue169,
    t76 := Tryz.underlying171,
    a76 := Tryz.isAgg171,
    z76 := Tryz.sizeOf171,
    v76 := Tryz.zeroValue171,
    t109 := Tryz.underlying190,
    a109 := Tryz.isAgg190,
    z109 := Tryz.sizeOf190,
    v109 := Tryz.zeroValue190,
    t127 := Tryz.underlying196,
    a127 := Tryz.isAgg196,
    z127 := Tryz.sizeOf196,
    v127 := Tryz.zeroValue196,
    t146 := Tryz.underlying224,
    a146 := Tryz.isAgg224,
    z146 := Tryz.sizeOf224,
    v146 := Tryz.zeroValue224,
    t148 := Tryz.underlying226,
    a148 := Tryz.isAgg226,
    z148 := Tryz.sizeOf226,
    v148 := Tryz.zeroValue226,
    t164 := Tryz.underlying242,
    a164 := Tryz.isAgg242,
    z164 := Tryz.sizeOf242,
    v164 := Tryz.zeroValue242 }
theorem laysExtra : Builder.Extra Tryz.prog lays105_ren :=
  { sizeBuilder := by kernel_rfl,
    liesBuilder := by kernel_rfl,
    t5 := Tryz.underlying5,
    a5 := Tryz.isAgg5,
    z5 := Tryz.sizeOf5,
    v5 := Tryz.zeroValue5,
    infoByte := by kernel_rfl,
    cellsByte := by kernel_rfl,
    sizeByte := by kernel_rfl,
    neB5 := by decide }
end Go.Proofs.YtmjdkeonjflanaaGreat

/- strings.Repeat, by the kit's contract. -/
namespace Go.Proofs.YtmjdkeonjflanaaGreat
set_option autoImplicit false
theorem Repeat_spec (s : List UInt8) (n : Nat) (h : s.length * n ≤ 140737488355328) (hn : n ≤ 9223372036854775807) (H : AH) :
    ACalls PG strings_Repeat.n [.str s, .int .i64 (n : Nat)] H fun r H' => r = .str (Lib.repeatL s n) ∧ H' = H :=
  (ACalls.below (P := PG) (f := strings_Repeat.n) (args := [.str s, .int .i64 (n : Nat)]) (v := .str (Lib.repeatL s n)) (by kernel_rfl) fun w ρ Z xs hr => by
    obtain ⟨x, y, rfl, hx, hy⟩ := hr.two
    cases hx with
    | str _ b hb =>
      cases hy
      have hsz : b.size = s.length := by rw [← hb]; simp
      have := Any.strings_Repeat lays105 laysExtra b n w hn (by rw [hsz]; exact h)
      rw [hb] at this
      refine Calls.mono this fun e w' ⟨h1, h2⟩ => ⟨_, h1, .str _ _ (by simp), h2⟩).frame H
end Go.Proofs.YtmjdkeonjflanaaGreat

/- Bytes that are put, one behind the other, walked. -/
namespace Go.Proofs.YtmjdkeonjflanaaGreat
set_option autoImplicit false
set_option linter.unusedSimpArgs false
set_option linter.unusedVariables false
--HSET
attribute [local irreducible] callA callP ACalls
theorem callF_at {P : Program} {f : Nat} {args : List AV} {H H1 : AH} {K : AV → AH → Prop} {r : AV} (h : ACalls P f args H fun r' H' => r' = r ∧ H' = H1) (k : K r H1) : callF P f args H K :=
  callF_of (h.mono fun r' H' ⟨a, b⟩ => by rw [a, b]; exact k)
abbrev tyBf : Nat := ty_align_Buf
def bRow (l : List UInt8) : List (List AV) := l.map fun c => [.int .u8 (c.toNat : Int)]
theorem bRow_len (l : List UInt8) : (bRow l).length = l.length := by simp [bRow]
theorem bRow_app (l m : List UInt8) : bRow (l ++ m) = bRow l ++ bRow m := by simp [bRow]
theorem bRow_bytes (l : List UInt8) : bytesA (bRow l) = some l := by
  induction l with
  | nil => rfl
  | cons c l ih =>
    have hc := c.toNat_lt
    show bytesA ([.int .u8 (c.toNat : Int)] :: bRow l) = _
    unfold bytesA
    rw [if_pos (by omega), ih]
    simp
theorem readS_str (H : AH) (s : List UInt8) : readS H true 1 (.str s) = some (bRow s) := rfl
theorem readS_part {H : AH} {id sz lo hi : Nat} {l : List (List AV)} (hg : hget H id = some (.rows sz l)) (h : hi ≤ l.length) : readS H false sz (.own id sz lo hi) = some ((l.take hi).drop lo) := by
  simp [readS, hg, h]

/-- What was put, and where it lies; a: the place that is told. -/
structure Bf (H : AH) (id : Nat) (ob : Option Nat) (a : Int) (l : List UInt8) : Prop where
  tg : tag id = tyBf
  blk : ∃ p v, hget H id = some (.rows 3 [[.int .i64 a, p, v]]) ∧ (p = .nilP ∨ p = .ptr id 3 0 1) ∧
    ((ob = none ∧ v = .nilS ∧ l = []) ∨ ∃ idb, ob = some idb ∧ v = .own idb 1 0 l.length ∧ hget H idb = some (.rows 1 (bRow l)) ∧ tag idb = ty_uint8 ∧ idb ≠ id)
/-- What else was there is there still. -/
structure Kp (H : AH) (id : Nat) (ob : Option Nat) (H' : AH) (ob' : Option Nat) : Prop where
  nw : ∀ i, ob' = some i → hget H i = none ∨ ob = some i
  kp : ∀ j b, j ≠ id → ob ≠ some j → hget H j = some b → hget H' j = some b
theorem Kp.ne {H : AH} {id : Nat} {ob : Option Nat} {H' : AH} {ob' : Option Nat} (h : Kp H id ob H' ob') {j : Nat} {b : Blk} (h2 : ob ≠ some j) (hg : hget H j = some b) : ob' ≠ some j := fun e => by
  rcases h.nw j e with q | q
  · rw [hg] at q; cases q
  · exact h2 q
theorem Kp.trans {H : AH} {id : Nat} {ob : Option Nat} {H1 : AH} {ob1 : Option Nat} {H2 : AH} {ob2 : Option Nat} (h : Kp H id ob H1 ob1) (k : Kp H1 id ob1 H2 ob2) (hid : hget H id ≠ none) (hi : ∀ i, ob2 = some i → i ≠ id) : Kp H id ob H2 ob2 where
  nw := fun i e => by
    cases q : hget H i with
    | none => exact .inl rfl
    | some b =>
      by_cases q2 : ob = some i
      · exact .inr q2
      · have h1 := h.kp i b (hi i e) q2 q
        rcases k.nw i e with q3 | q3
        · rw [h1] at q3; cases q3
        · exact absurd q3 (h.ne q2 q)
  kp := fun j b h1 h2 hg => k.kp j b h1 (h.ne h2 hg) (h.kp j b h1 h2 hg)
theorem Bf.has {H : AH} {id : Nat} {ob : Option Nat} {a : Int} {l : List UInt8} (h : Bf H id ob a l) : hget H id ≠ none := by
  obtain ⟨_, p, v, hg, _⟩ := h
  rw [hg]; simp
theorem Bf.ob {H : AH} {id : Nat} {ob : Option Nat} {a : Int} {l : List UInt8} (h : Bf H id ob a l) : ∀ i, ob = some i → i ≠ id := fun i e => by
  obtain ⟨_, p, v, _, _, hv⟩ := h
  rcases hv with ⟨q, _⟩ | ⟨idb, q, _, _, _, q2⟩
  · rw [q] at e; cases e
  · rw [q] at e; cases e; exact q2

theorem bf_copyCheck {id : Nat} {H : AH} {a : Int} {p v : AV} (hg : hget H id = some (.rows 3 [[.int .i64 a, p, v]])) (hp : p = .nilP ∨ p = .ptr id 3 0 1) (ht : tag id = tyBf) :
    ACalls PG strings_Builder_copyCheck.n [.ptr id 3 0 1] H fun r H' => r = .tup [] ∧ H' = hset H id (.rows 3 [[.int .i64 a, .ptr id 3 0 1, v]]) := by
  refine ACalls.sub (strings_Builder_copyCheck.of rfl (wpF_start ?_))
  rcases hp with rfl | rfl
  · (first | refine ah ?_ | exact ah0 | fail)
    refine ⟨⟨rfl, by simp⟩, rfl, ?_⟩
    (first | refine ah ?_ | exact ah0 | fail)
    exact Sub.refl _
  · (first | refine ah ?_ | exact ah0 | fail)
    exact sub_hset hg (fun j c _ q => q)
theorem bf_WriteString {id : Nat} {ob : Option Nat} {a : Int} {l s : List UInt8} {H : AH} (hb : Bf H id ob a l) (hl : l.length + s.length ≤ 140737488351232) :
    ACalls PG strings_Builder_WriteString.n [.ptr id 3 0 1, .str s] H fun r H' => r = .tup [.int .i64 (s.length : Nat), .nilI] ∧ ∃ ob', Bf H' id ob' a (l ++ s) ∧ Kp H id ob H' ob' := by
  obtain ⟨ht, p, v, hg, hp, hv⟩ := hb
  refine strings_Builder_WriteString.of rfl (wpF_start ?_)
  (first | refine ah ?_ | exact ah0 | fail)
  refine callF_at (bf_copyCheck hg hp ht) ?_
  have hg1 : hget (hset H id (.rows 3 [[.int .i64 a, .ptr id 3 0 1, v]])) id = some (.rows 3 [[.int .i64 a, .ptr id 3 0 1, v]]) := hget_set hg
  have hk1 : ∀ j b, j ≠ id → hget H j = some b → hget (hset H id (.rows 3 [[.int .i64 a, .ptr id 3 0 1, v]])) j = some b := fun j b q r => (hget_set_ne q).trans r
  have hf1 : ∀ j, j ≠ id → hget (hset H id (.rows 3 [[.int .i64 a, .ptr id 3 0 1, v]])) j = none → hget H j = none := fun j q r => (hget_set_ne q).symm.trans r
  generalize hset H id (.rows 3 [[.int .i64 a, .ptr id 3 0 1, v]]) = H1 at *
  rcases hv with ⟨rfl, rfl, rfl⟩ | ⟨idb, rfl, rfl, hgb, htb, hne⟩
  · (first | refine ah ?_ | exact ah0 | fail)
    refine ⟨bRow s, rfl, by rw [bRow_len]; omega, fun e => ?_, fun _ => ?_⟩
    · have hs : s = [] := by
        have := congrArg List.length e
        rw [bRow_len] at this
        exact List.eq_nil_of_length_eq_zero this
      subst hs
      (first | refine ah ?_ | exact ah0 | fail)
      refine ⟨none, ⟨ht, .ptr id 3 0 1, .nilS, hget_set hg1, .inr rfl, .inl ⟨rfl, rfl, rfl⟩⟩, ⟨fun i q => (by cases q), fun j b q _ r => (hget_set_ne q).trans (hk1 j b q r)⟩⟩
    · (first | refine ah ?_ | exact ah0 | fail)
      intro idn hidn htn
      have nn : idn ≠ id := hget_ne_of hidn hg1
      (first | refine ah ?_ | exact ah0 | fail)
      refine ⟨some idn, ⟨ht, .ptr id 3 0 1, .own idn 1 0 s.length, ?_, .inr rfl, .inr ⟨idn, rfl, rfl, ?_, htn, nn⟩⟩, ⟨fun i q => ?_, fun j b q _ r => ?_⟩⟩
      · rw [← bRow_len]; exact (hget_tail nn).trans (hget_set hg1)
      · exact hget_self
      · cases q; exact .inl (hf1 idn nn hidn)
      · exact (hget_tail (hget_ne_of hidn (hk1 j b q r))).trans ((hget_set_ne q).trans (hk1 j b q r))
  · have hgb1 := hk1 _ _ hne hgb
    have exs : ((bRow l).take l.length).drop 0 = bRow l := by rw [List.drop_zero, ← bRow_len, List.take_length]
    (first | refine ah ?_ | exact ah0 | fail)
    refine ⟨_, bRow s, (readS_part hgb1 (by rw [bRow_len]; exact Nat.le_refl _)).trans (congrArg some exs), rfl, rfl, rfl, htb, by rw [bRow_len, bRow_len]; omega, ?_⟩
    intro idn hidn htn
    have nn : idn ≠ id := hget_ne_of hidn hg1
    have nb : idn ≠ idb := hget_ne_of hidn hgb1
    (first | refine ah ?_ | exact ah0 | fail)
    have hg2 : hget (hdel H1 idb) id = some (.rows 3 [[.int .i64 a, .ptr id 3 0 1, .own idb 1 0 l.length]]) := (hget_del_ne hne.symm).trans hg1
    refine ⟨some idn, ⟨ht, .ptr id 3 0 1, .own idn 1 0 (l ++ s).length, ?_, .inr rfl, .inr ⟨idn, rfl, rfl, ?_, htn, nn⟩⟩, ⟨fun i q => ?_, fun j b q q2 r => ?_⟩⟩
    · refine (hget_tail nn).trans ((hget_set hg2).trans ?_)
      rw [List.length_append, bRow_len, bRow_len]
    · rw [bRow_app]; exact hget_self
    · cases q; exact .inl (hf1 idn nn hidn)
    · have qb : j ≠ idb := fun e => q2 (by rw [e])
      exact (hget_tail (hget_ne_of hidn (hk1 j b q r))).trans ((hget_set_ne q).trans ((hget_del_ne qb).trans (hk1 j b q r)))
theorem bf_String {id : Nat} {ob : Option Nat} {a : Int} {l : List UInt8} {H : AH} (hb : Bf H id ob a l) (hpos : 0 < l.length) (hl : l.length ≤ 140737488351232) :
    ACalls PG strings_Builder_String.n [.ptr id 3 0 1] H fun r H' => r = .str l := by
  obtain ⟨ht, p, v, hg, hp, hv⟩ := hb
  refine strings_Builder_String.of rfl (wpF_start ?_)
  rcases hv with ⟨rfl, rfl, rfl⟩ | ⟨idb, rfl, rfl, hgb, htb, hne⟩
  · cases hpos
  · (first | refine ah ?_ | exact ah0 | fail)
    refine ⟨_, l, hgb, ?_, rfl, rfl, rfl, by omega, by rw [bRow_len]; omega, by omega, htb, ?_⟩
    · rw [show (((l.length - 0 : Nat) : Int)).toNat = (bRow l).length from by rw [bRow_len]; omega, List.take_length, bRow_bytes]
    (first | refine ah ?_ | exact ah0 | fail)
theorem Gap_spec (a sz : Nat) (hs : sz = 1 ∨ sz = 2 ∨ sz = 4 ∨ sz = 8) (ha : a ≤ 140737488355328) (H : AH) : ACalls PG align_Gap.n [.int .i64 (a : Nat), .int .i64 (sz : Nat)] H fun r H' => r = .int .i64 (gapN a sz : Nat) ∧ H' = H := by
  have hg := gap_and hs ha
  refine ACalls.fz (align_Gap.of rfl (wpF_start ?_))
  rcases hs with rfl | rfl | rfl | rfl
  all_goals
    (first | refine ah ?_ | exact ah0 | fail)
    refine ⟨fz_eq (congrArg (AV.int .i64) hg), sub_of⟩
theorem Gap_no_spec (a sz : Int) (hs : ¬ (sz = 1 ∨ sz = 2 ∨ sz = 4 ∨ sz = 8)) (H : AH) : ACalls PG align_Gap.n [.int .i64 a, .int .i64 sz] H fun r H' => r = .int .i64 0 ∧ H' = H := by
  refine ACalls.fz (align_Gap.of rfl (wpF_start ?_))
  have h1 : sz ≠ 1 := by omega
  have h2 : sz ≠ 2 := by omega
  have h3 : sz ≠ 4 := by omega
  have h4 : sz ≠ 8 := by omega
  (first | refine ah ?_ | exact ah0 | fail)
  exact ⟨fz_of, sub_of⟩
theorem Bf.move {id : Nat} {ob : Option Nat} {a : Int} {l : List UInt8} {H : AH} (a' : Int) {p v : AV} (hg : hget H id = some (.rows 3 [[.int .i64 a, p, v]])) (hb : Bf H id ob a l) : Bf (hset H id (.rows 3 [[.int .i64 a', p, v]])) id ob a' l ∧ Kp H id ob (hset H id (.rows 3 [[.int .i64 a', p, v]])) ob := by
  obtain ⟨ht, p', v', hg', hp, hv⟩ := hb
  have e := hg.symm.trans hg'
  simp only [Option.some.injEq, Blk.rows.injEq, List.cons.injEq, AV.int.injEq, true_and, and_true] at e
  obtain ⟨e1, e2⟩ := e
  rw [← e1] at hp
  rw [← e2] at hv
  refine ⟨⟨ht, _, _, hget_set hg, hp, ?_⟩, ⟨fun i e => .inr e, fun j b q _ r => (hget_set_ne q).trans r⟩⟩
  rcases hv with hv | ⟨idb, q1, q2, q3, q4, q5⟩
  · exact .inl hv
  · exact .inr ⟨idb, q1, q2, (hget_set_ne q5).trans q3, q4, q5⟩
theorem move_spec {id : Nat} {ob : Option Nat} {a n : Int} {l : List UInt8} {H : AH} (hb : Bf H id ob a l) (h0 : 0 ≤ a) (h1 : 0 ≤ n) (h2 : a + n ≤ 140737488355328) :
    ACalls PG align_place_move.n [.ptr id 3 0 0, .int .i64 n] H fun r H' => r = .tup [] ∧ Bf H' id ob (a + n) l ∧ Kp H id ob H' ob := by
  have hb' := hb
  obtain ⟨ht, p, v, hg, hp, hv⟩ := hb'
  refine align_place_move.of rfl (wpF_start ?_)
  (first | refine ah ?_ | exact ah0 | fail)
  exact hb.move _ hg
theorem gap_spec {id : Nat} {ob : Option Nat} {a sz : Nat} {l : List UInt8} {H : AH} (hb : Bf H id ob a l) (hs : sz = 1 ∨ sz = 2 ∨ sz = 4 ∨ sz = 8) (h2 : a ≤ 140737488355328) :
    ACalls PG align_place_gap.n [.ptr id 3 0 0, .int .i64 (sz : Nat)] H fun r H' => r = .int .i64 (gapN a sz : Nat) ∧ H' = H := by
  obtain ⟨ht, p, v, hg, hp, hv⟩ := hb
  refine ACalls.fz (align_place_gap.of rfl (wpF_start ?_))
  (first | refine ah ?_ | exact ah0 | fail)
  first | refine callF_eq (Gap_spec a sz hs h2 _) ?_ | refine callG_eq rfl (Gap_spec a sz hs h2 _) ?_
  (first | refine ah ?_ | exact ah0 | fail)
  exact ⟨fz_of, sub_of⟩
theorem Text_spec {id : Nat} {ob : Option Nat} {l s : List UInt8} {H : AH} (hb : Bf H id ob (l.length : Nat) l) (hl : l.length + s.length ≤ 140737488351232) :
    ACalls PG align_Buf_Text.n [.ptr id 3 0 0, .str s] H fun r H' => r = .tup [] ∧ ∃ ob', Bf H' id ob' ((l ++ s).length : Nat) (l ++ s) ∧ Kp H id ob H' ob' := by
  have hid := hb.has
  have hb' := hb
  obtain ⟨ht, p, v, hg, hp, hv⟩ := hb'
  refine align_Buf_Text.of rfl (wpF_start ?_)
  (first | refine ah ?_ | exact ah0 | fail)
  refine callF_of ((bf_WriteString hb hl).mono fun r H1 ⟨e, ob1, hb1, k1⟩ => ?_)
  subst e
  have hb1' := hb1
  obtain ⟨ht1, p1, v1, hg1, hp1, hv1⟩ := hb1'
  (first | refine ah ?_ | exact ah0 | fail)
  refine callF_of ((move_spec (n := (s.length : Nat)) hb1 (by omega) (by omega) (by omega)).mono fun r H2 ⟨e, hb2, k2⟩ => ?_)
  subst e
  (first | refine ah ?_ | exact ah0 | fail)
  refine ⟨ob1, ?_, k1.trans k2 hid hb2.ob⟩
  rw [List.length_append, Int.natCast_add]
  exact hb2
theorem mask_spec (sz : Nat) (hs : sz = 1 ∨ sz = 2 ∨ sz = 4 ∨ sz = 8) (H : AH) : ACalls PG word_mask.n [.int .i64 (sz : Nat)] H fun r H' => r = .int .u64 ((2 ^ (8 * sz) - 1 : Nat) : Int) ∧ H' = H := by
  refine ACalls.fz (word_mask.of rfl (wpF_start ?_))
  rcases hs with rfl | rfl | rfl | rfl
  all_goals
    (first | refine ah ?_ | exact ah0 | fail)
    refine ⟨fz_eq (congrArg (AV.int .u64) (by decide)), sub_of⟩
theorem leB_get : ∀ (k n i : Nat) (h : i < (leB k n).length), (leB k n)[i] = UInt8.ofNat (n / 256 ^ i % 256)
  | 0, n, i, h => by simp [leB] at h
  | k + 1, n, 0, h => by simp [leB]
  | k + 1, n, i + 1, h => by
    have := leB_get k (n / 256) i (by simpa [leB] using h)
    simp only [leB, List.getElem_cons_succ, this]
    rw [Nat.div_div_eq_div_mul, Nat.pow_succ, Nat.mul_comm]
theorem leB_byte (sz n i : Nat) (h : i < (leB sz n).length) (h8 : i < 8) : IntKind.u8.wrap (Int.fdiv (n : Int) (2 ^ min (8 * (i : Int)).toNat IntKind.u64.bits)) = ((leB sz n)[i].toNat : Int) := by
  rw [leB_get, show min (8 * (i : Int)).toNat IntKind.u64.bits = 8 * i from by simp [IntKind.bits]; omega, show ((2 : Int) ^ (8 * i)) = ((256 ^ i : Nat) : Int) from by rw [Int.natCast_pow, Int.pow_mul]; rfl, Int.fdiv_eq_ediv_of_nonneg _ (Int.natCast_nonneg _), ← Int.natCast_ediv]
  have : IntKind.u8.wrap ((n / 256 ^ i : Nat) : Int) = (n / 256 ^ i : Nat) % 256 := by
    simp only [IntKind.wrap, IntKind.bits, IntKind.signed]
    simp
  rw [this]
  simp
theorem bRow_mid {L : List UInt8} {sz i : Nat} (hL : L.length = sz) (hi : i < sz) : (bRow (L.take i ++ List.replicate (sz - i) 0))[i]? = some [.int .u8 0] := by
  unfold bRow
  rw [List.getElem?_map, List.getElem?_append_right (by simp; omega), List.getElem?_replicate]
  simp
  omega
theorem bRow_set {L : List UInt8} {sz i : Nat} (hL : L.length = sz) (hi : i < sz) : (bRow (L.take i ++ List.replicate (sz - i) 0)).set i [.int .u8 ((L[i]'(by omega)).toNat : Int)] = bRow (L.take (i + 1) ++ List.replicate (sz - (i + 1)) 0) := by
  unfold bRow
  rw [show sz - i = (sz - (i + 1)) + 1 from by omega, List.replicate_succ, List.take_succ_eq_append_getElem (by omega : i < L.length)]
  simp only [List.map_append, List.map_cons, List.append_assoc, List.map_nil]
  rw [List.set_append_right _ _ (by simp; omega)]
  simp [show i - min i L.length = 0 from by omega]
theorem word_Put_spec (n sz : Nat) (hs : sz = 1 ∨ sz = 2 ∨ sz = 4 ∨ sz = 8) (hn : n < 256 ^ sz) (H : AH) : ACalls PG word_Put.n [.int .u64 (n : Nat), .int .i64 (sz : Nat)] H fun r H' => r = .tup [.str (leB sz n), .int .i64 0] ∧ H' = H := by
  have hm := fun H => mask_spec sz hs H
  have hz := fun H => word_sized_spec (sz : Nat) H
  have hq : bitsV .andNot .u64 (n : Int) ((2 ^ (8 * sz) - 1 : Nat) : Int) = 0 := andNot_mask n (8 * sz) (by omega) (by rw [Nat.pow_mul]; exact hn)
  rw [decide_eq_true (show (sz : Int) = 1 ∨ (sz : Int) = 2 ∨ (sz : Int) = 4 ∨ (sz : Int) = 8 by omega)] at hz
  refine ACalls.fz (word_Put.of rfl (wpF_start ?_))
  (first | refine ah ?_ | exact ah0 | fail)
  first | refine callF_eq (hz _) ?_ | refine callG_eq rfl (hz _) ?_
  (first | refine ah ?_ | exact ah0 | fail)
  first | refine callF_eq (hm _) ?_ | refine callG_eq rfl (hm _) ?_
  (first | refine ah ?_ | exact ah0 | fail)
  intro id6 hid6 ht6; have n6 := neAll_of hid6; (try simp only [neAll, neAll_hset] at n6); have m6 := n6; (repeat (obtain ⟨_, m6⟩ := m6))
  (first | refine ah ?_ | exact ah0 | fail)
  have hL := leB_len sz n
  rw [show Int.toNat (sz : Nat) = sz from rfl]
  refine loopM (S := Nat) [(0, some _), (6, some _), (20, some _)] (fun i => [(21, some (.int .i64 (i : Nat)))]) (fun i => (id6, .rows 1 (bRow ((leB sz n).take i ++ List.replicate (sz - i) 0))) :: H) (fun i => sz - i) (fun i => i ≤ sz) 0 (by repeat (first | exact trivial | refine And.intro (Or.inl rfl) ?_ | refine And.intro (Or.inr (Exists.intro _ (And.intro rfl (Fz.refl _)))) ?_ | refine And.intro (Or.inr (Exists.intro _ (And.intro rfl (fz_eq (congrArg (AV.int _) (by omega)))))) ?_ | refine And.intro (Or.inr (Exists.intro _ (And.intro rfl (fz_eq (congrArg (AV.own _ _ _) (by (try dsimp only); (try simp only [List.length_append, List.length_map, List.length_cons, List.length_nil, List.length_take, List.length_set, List.length_replicate]); (try dsimp only); first | done | omega)))))) ?_)) (by simp only [bRow, List.take_zero, List.nil_append, List.map_replicate]; exact Sub.refl _) (by omega) (fun i hi => ?_)
  (first | refine ah ?_ | exact ah0 | fail)
  refine bsplit_dec (fun c => ?_) (fun c => ?_)
  · have hil : i < sz := by omega
    have hby := leB_byte sz n i (by omega) (by omega)
    have hst := bRow_set (L := leB sz n) (sz := sz) (i := i) hL hil
    have hmid := bRow_mid (L := leB sz n) (sz := sz) (i := i) hL hil
    have hlt := ((leB sz n)[i]'(by omega)).toNat_lt
    (first | refine ah ?_ | exact ah0 | fail)
    refine rng_id hby ?_
    (first | refine ah ?_ | exact ah0 | fail)
    refine ⟨_, _, hget_self, (by rw [Nat.zero_add, Int.toNat_natCast]; exact hmid), rfl, rfl, (Nat.le_of_ble_eq_true rfl), hsetN_of (b' := .rows 1 (bRow ((leB sz n).take (i + 1) ++ List.replicate (sz - (i + 1)) 0))) (by rw [Nat.zero_add, Int.toNat_natCast]; exact congrArg (Blk.rows 1) hst) ?_⟩
    (first | refine ah ?_ | exact ah0 | fail)
    exact nextS (S := Nat) (i + 1) (by repeat (first | exact trivial | refine And.intro (Or.inl rfl) ?_ | refine And.intro (Or.inr (Exists.intro _ (And.intro rfl (Fz.refl _)))) ?_ | refine And.intro (Or.inr (Exists.intro _ (And.intro rfl (fz_eq (congrArg (AV.int _) (by omega)))))) ?_ | refine And.intro (Or.inr (Exists.intro _ (And.intro rfl (fz_eq (congrArg (AV.own _ _ _) (by (try dsimp only); (try simp only [List.length_append, List.length_map, List.length_cons, List.length_nil, List.length_take, List.length_set, List.length_replicate]); (try dsimp only); first | done | omega)))))) ?_)) (by exact sub_of) (by omega) (by omega)
  · have hi' : i = sz := by omega
    subst hi'
    (first | refine ah ?_ | exact ah0 | fail)
    refine ⟨bRow (leB i n), leB i n, ?_, bRow_bytes _, ?_⟩
    · rw [Nat.sub_self, List.replicate_zero, List.append_nil, List.take_of_length_le (by omega)]
      exact (readS_part hget_self (by rw [bRow_len]; omega)).trans (by rw [List.drop_zero, List.take_of_length_le (by rw [bRow_len]; omega)])
    (first | refine ah ?_ | exact ah0 | fail)
    exact ⟨fz_of, sub_of⟩
/-- Bytes 0. -/
theorem repeat0 : ∀ n, Lib.repeatL [0] n = List.replicate n (0 : UInt8)
  | 0 => rfl
  | n + 1 => by
    have := repeat0 n
    rw [List.replicate_succ, ← this]
    simp [Lib.repeatL]
theorem gapN_le (a sz : Nat) (hs : sz = 1 ∨ sz = 2 ∨ sz = 4 ∨ sz = 8) : gapN a sz ≤ 7 := by
  have := gapN_lt (a := a) (sz := sz) (by omega)
  omega
theorem Put_spec {id : Nat} {ob : Option Nat} {l : List UInt8} {H : AH} {n sz : Nat} (hb : Bf H id ob (l.length : Nat) l) (hs : sz = 1 ∨ sz = 2 ∨ sz = 4 ∨ sz = 8) (hn : n < 256 ^ sz) (hl : l.length ≤ 1000000) :
    ACalls PG align_Buf_Put.n [.ptr id 3 0 0, .int .u64 (n : Nat), .int .i64 (sz : Nat)] H fun r H' => r = .int .i64 0 ∧ ∃ ob', Bf H' id ob' ((l ++ numB l.length sz n).length : Nat) (l ++ numB l.length sz n) ∧ Kp H id ob H' ob' := by
  have hid := hb.has
  have hb' := hb
  have hgl := gapN_le l.length sz hs
  obtain ⟨ht, p, v, hg, hp, hv⟩ := hb'
  refine align_Buf_Put.of rfl (wpF_start ?_)
  (first | refine ah ?_ | exact ah0 | fail)
  first | refine callF_eq (word_Put_spec n sz hs hn _) ?_ | refine callG_eq rfl (word_Put_spec n sz hs hn _) ?_
  (first | refine ah ?_ | exact ah0 | fail)
  first | refine callF_eq (gap_spec hb hs (by omega)) ?_ | refine callG_eq rfl (gap_spec hb hs (by omega)) ?_
  (first | refine ah ?_ | exact ah0 | fail)
  first | refine callF_eq (Repeat_spec [0] (gapN l.length sz) (by simp; omega) (by omega) _) ?_ | refine callG_eq rfl (Repeat_spec [0] (gapN l.length sz) (by simp; omega) (by omega) _) ?_
  rw [repeat0]
  (first | refine ah ?_ | exact ah0 | fail)
  refine callF_of ((Text_spec (s := List.replicate (gapN l.length sz) 0) hb (by rw [List.length_replicate]; omega)).mono fun r H1 ⟨e, ob1, hb1, k1⟩ => ?_)
  subst e
  (first | refine ah ?_ | exact ah0 | fail)
  refine callF_of ((Text_spec (s := leB sz n) hb1 (by rw [List.length_append, List.length_replicate, leB_len]; omega)).mono fun r H2 ⟨e, ob2, hb2, k2⟩ => ?_)
  subst e
  (first | refine ah ?_ | exact ah0 | fail)
  refine ⟨ob2, ?_, k1.trans k2 hid hb2.ob⟩
  unfold numB
  rw [← List.append_assoc]
  exact hb2
theorem Bytes_spec {id : Nat} {ob : Option Nat} {a : Int} {l : List UInt8} {H : AH} (hb : Bf H id ob a l) (hpos : 0 < l.length) (hl : l.length ≤ 140737488351232) :
    ACalls PG align_Buf_Bytes.n [.ptr id 3 0 0] H fun r H' => r = .str l := by
  have hb' := hb
  obtain ⟨ht, p, v, hg, hp, hv⟩ := hb'
  refine align_Buf_Bytes.of rfl (wpF_start ?_)
  (first | refine ah ?_ | exact ah0 | fail)
  refine callF_of ((bf_String hb hpos hl).mono fun r H1 e => ?_)
  subst e
  (first | refine ah ?_ | exact ah0 | fail)
theorem Len_spec {id : Nat} {ob : Option Nat} {a : Int} {l : List UInt8} {H : AH} (hb : Bf H id ob a l) :
    ACalls PG align_Buf_Len.n [.ptr id 3 0 0] H fun r H' => r = .int .i64 a := by
  obtain ⟨ht, p, v, hg, hp, hv⟩ := hb
  refine align_Buf_Len.of rfl (wpF_start ?_)
  (first | refine ah ?_ | exact ah0 | fail)
theorem New_spec (H : AH) : ACalls PG align_New.n [] H fun r H' => ∃ id, r = .ptr id 3 0 0 ∧ hget H id = none ∧ Bf H' id none 0 [] ∧ Sub H H' := by
  refine align_New.of rfl (wpF_start ?_)
  (first | refine ah ?_ | exact ah0 | fail)
  intro id5 hid5 ht5; have n5 := neAll_of hid5; (try simp only [neAll, neAll_hset] at n5); have m5 := n5; (repeat (obtain ⟨_, m5⟩ := m5))
  (first | refine ah ?_ | exact ah0 | fail)
  exact ⟨id5, rfl, hid5, ⟨ht5, _, _, hget_self, .inl rfl, .inl ⟨rfl, rfl, rfl⟩⟩, sub_of⟩
end Go.Proofs.YtmjdkeonjflanaaGreat

/- Values put as bytes, in the reference, walked: numbers, gaps. -/
namespace Go.Proofs.YtmjdkeonjflanaaGreat
set_option autoImplicit false
set_option linter.unusedSimpArgs false
set_option linter.unusedVariables false
attribute [local irreducible] callA callP ACalls
theorem Byte_spec (n : Nat) (hn : n < 256) (H : AH) : ACalls PG broadsheetref01_Byte.n [.int .i64 (n : Nat)] H fun r H' => r = .str [UInt8.ofNat n] ∧ H' = H := by
  refine ACalls.fz (broadsheetref01_Byte.of rfl (wpF_start ?_))
  (first | refine au ?_ | exact au0 | fail)
  refine ⟨[[.int .u8 (n : Nat)]], [UInt8.ofNat n], rfl, ?_, ?_⟩
  · unfold bytesA
    rw [if_pos (by omega)]
    rfl
  (first | refine au ?_ | exact au0 | fail)
  exact ⟨fz_of, sub_of⟩
theorem leB_take (sz n i : Nat) (h : i < sz) : (leB sz n).take (i + 1) = (leB sz n).take i ++ [UInt8.ofNat (n / 256 ^ i % 256)] := by
  have hl : i < (leB sz n).length := by rw [leB_len]; exact h
  rw [List.take_succ_eq_append_getElem hl, leB_get]
theorem r1_Put_spec (n sz : Nat) (hs : sz = 1 ∨ sz = 2 ∨ sz = 4 ∨ sz = 8) (hn : n < 256 ^ sz) (hn2 : n < 18446744073709551616) (H : AH) : ACalls PG broadsheetref01_Put.n [.int .u64 (n : Nat), .int .i64 (sz : Nat)] H fun r H' => r = .tup [.str (leB sz n), .int .i64 0] ∧ H' = H := by
  have hz := fun H => r1_Sized_spec (sz : Nat) H
  rw [decide_eq_true (show (sz : Int) = 1 ∨ (sz : Int) = 2 ∨ (sz : Int) = 4 ∨ (sz : Int) = 8 by omega)] at hz
  have hL := leB_len sz n
  refine ACalls.fz (broadsheetref01_Put.of rfl (wpF_start ?_))
  (first | refine au ?_ | exact au0 | fail)
  first | refine callF_eq (hz _) ?_ | refine callG_eq rfl (hz _) ?_
  (first | refine au ?_ | exact au0 | fail)
  refine loopM (S := Nat) [(1, some _)] (fun i => [(7, some (.int .i64 (i : Nat))), (6, some (.str ((leB sz n).take i))), (0, some (.int .u64 (n / 256 ^ i : Nat)))]) (fun _ => H) (fun i => sz - i) (fun i => i ≤ sz) 0 (by simp only [Nat.pow_zero, Nat.div_one, List.take_zero]; exact (by repeat (first | exact trivial | refine And.intro (Or.inl rfl) ?_ | refine And.intro (Or.inr (Exists.intro _ (And.intro rfl (Fz.refl _)))) ?_ | refine And.intro (Or.inr (Exists.intro _ (And.intro rfl (fz_eq (congrArg (AV.int _) (by omega)))))) ?_ | refine And.intro (Or.inr (Exists.intro _ (And.intro rfl (fz_eq (congrArg (AV.own _ _ _) (by (try dsimp only); (try simp only [List.length_append, List.length_map, List.length_cons, List.length_nil, List.length_take, List.length_set, List.length_replicate]); (try dsimp only); first | done | omega)))))) ?_))) (Sub.refl _) (by omega) (fun i hi => ?_)
  have hle : n / 256 ^ i ≤ n := Nat.div_le_self _ _
  (first | refine au ?_ | exact au0 | fail)
  refine bsplit_dec (fun c => ?_) (fun c => ?_)
  · have hil : i < sz := by omega
    have htk := leB_take sz n i hil
    have htl : ((leB sz n).take i).length ≤ 8 := by rw [List.length_take]; omega
    have hdv : n / 256 ^ (i + 1) = n / 256 ^ i / 256 := by rw [Nat.pow_succ, Nat.div_div_eq_div_mul]
    generalize n / 256 ^ i = q at *
    have hby := fun H => Byte_spec (q % 256) (by omega) H
    rw [show ((q % 256 : Nat) : Int) = (q : Int) % 256 from by omega] at hby
    (first | refine au ?_ | exact au0 | fail)
    first | refine callF_eq (hby _) ?_ | refine callG_eq rfl (hby _) ?_
    (first | refine au ?_ | exact au0 | fail)
    exact nextS (S := Nat) (i + 1) (by (try dsimp only); rw [htk, hdv, show ((q / 256 : Nat) : Int) = (q : Int) / 256 from by omega]; exact (by repeat (first | exact trivial | refine And.intro (Or.inl rfl) ?_ | refine And.intro (Or.inr (Exists.intro _ (And.intro rfl (Fz.refl _)))) ?_ | refine And.intro (Or.inr (Exists.intro _ (And.intro rfl (fz_eq (congrArg (AV.int _) (by omega)))))) ?_ | refine And.intro (Or.inr (Exists.intro _ (And.intro rfl (fz_eq (congrArg (AV.own _ _ _) (by (try dsimp only); (try simp only [List.length_append, List.length_map, List.length_cons, List.length_nil, List.length_take, List.length_set, List.length_replicate]); (try dsimp only); first | done | omega)))))) ?_))) (Sub.refl _) (by omega) (by omega)
  · have hi' : i = sz := by omega
    subst hi'
    have hz0 : n / 256 ^ i = 0 := Nat.div_eq_of_lt hn
    rw [hz0]
    (first | refine au ?_ | exact au0 | fail)
    rw [List.take_of_length_le (by omega)]
    exact ⟨fz_of, sub_of⟩
theorem r2_Gap_spec (a sz : Nat) (hs : sz = 1 ∨ sz = 2 ∨ sz = 4 ∨ sz = 8) (ha : a ≤ 140737488355328) (H : AH) : ACalls PG broadsheetref02_Gap.n [.int .i64 (a : Nat), .int .i64 (sz : Nat)] H fun r H' => r = .int .i64 (gapN a sz : Nat) ∧ H' = H := by
  have hz := fun H => r1_Sized_spec (sz : Nat) H
  rw [decide_eq_true (show (sz : Int) = 1 ∨ (sz : Int) = 2 ∨ (sz : Int) = 4 ∨ (sz : Int) = 8 by omega)] at hz
  have hgl := gapN_le a sz hs
  refine ACalls.fz (broadsheetref02_Gap.of rfl (wpF_start ?_))
  (first | refine au ?_ | exact au0 | fail)
  first | refine callF_eq (hz _) ?_ | refine callG_eq rfl (hz _) ?_
  (first | refine au ?_ | exact au0 | fail)
  refine loopM (S := Nat) [(0, some _), (1, some _)] (fun i => [(5, some (.int .i64 (i : Nat)))]) (fun _ => H) (fun i => 8 - i) (fun i => i ≤ gapN a sz) 0 (by repeat (first | exact trivial | refine And.intro (Or.inl rfl) ?_ | refine And.intro (Or.inr (Exists.intro _ (And.intro rfl (Fz.refl _)))) ?_ | refine And.intro (Or.inr (Exists.intro _ (And.intro rfl (fz_eq (congrArg (AV.int _) (by omega)))))) ?_ | refine And.intro (Or.inr (Exists.intro _ (And.intro rfl (fz_eq (congrArg (AV.own _ _ _) (by (try dsimp only); (try simp only [List.length_append, List.length_map, List.length_cons, List.length_nil, List.length_take, List.length_set, List.length_replicate]); (try dsimp only); first | done | omega)))))) ?_)) (Sub.refl _) (by omega) (fun i hi => ?_)
  have hstop : ((a % 8 + i) % sz = 0) ↔ i = gapN a sz := by
    unfold gapN at hi ⊢
    rcases hs with rfl | rfl | rfl | rfl <;> omega
  have hm8 : (a : Int).tmod 8 = ((a % 8 : Nat) : Int) := by rw [Int.tmod_eq_emod_of_nonneg (by omega)]; omega
  have hms : ((a % 8 : Nat) + (i : Nat) : Int).tmod (sz : Nat) = ((a % 8 + i) % sz : Nat) := by
    rw [Int.tmod_eq_emod_of_nonneg (by omega)]
    rcases hs with rfl | rfl | rfl | rfl <;> omega
  (first | refine au ?_ | exact au0 | fail)
  rw [hm8]
  (first | refine au ?_ | exact au0 | fail)
  rw [hms]
  (first | refine au ?_ | exact au0 | fail)
  refine bsplit_dec (fun c => ?_) (fun c => ?_)
  · have hne : i ≠ gapN a sz := fun e => c (by rw [hstop.2 e]; rfl)
    (first | refine au ?_ | exact au0 | fail)
    exact nextS (S := Nat) (i + 1) (by repeat (first | exact trivial | refine And.intro (Or.inl rfl) ?_ | refine And.intro (Or.inr (Exists.intro _ (And.intro rfl (Fz.refl _)))) ?_ | refine And.intro (Or.inr (Exists.intro _ (And.intro rfl (fz_eq (congrArg (AV.int _) (by omega)))))) ?_ | refine And.intro (Or.inr (Exists.intro _ (And.intro rfl (fz_eq (congrArg (AV.own _ _ _) (by (try dsimp only); (try simp only [List.length_append, List.length_map, List.length_cons, List.length_nil, List.length_take, List.length_set, List.length_replicate]); (try dsimp only); first | done | omega)))))) ?_)) (Sub.refl _) (by omega) (by omega)
  · have he : i = gapN a sz := hstop.1 (by omega)
    rw [he]
    (first | refine au ?_ | exact au0 | fail)
    exact ⟨fz_of, sub_of⟩
theorem Zeros_spec (n : Nat) (hn : n ≤ 1000) (H : AH) : ACalls PG broadsheetref02_Zeros.n [.int .i64 (n : Nat)] H fun r H' => r = .str (List.replicate n 0) ∧ H' = H := by
  refine ACalls.fz (broadsheetref02_Zeros.of rfl (wpF_start ?_))
  (first | refine au ?_ | exact au0 | fail)
  intro id3 hid3 ht3; have n3 := neAll_of hid3; (try simp only [neAll, neAll_hset] at n3); have m3 := n3; (repeat (obtain ⟨_, m3⟩ := m3))
  (first | refine au ?_ | exact au0 | fail)
  have e : List.replicate n [AV.int .u8 0] = bRow (List.replicate n 0) := by simp [bRow]
  rw [show Int.toNat (n : Nat) = n from rfl, e]
  refine ⟨bRow (List.replicate n 0), List.replicate n 0, ?_, bRow_bytes _, ?_⟩
  · exact readS_all hget_self (by rw [bRow_len, List.length_replicate])
  (first | refine au ?_ | exact au0 | fail)
  exact ⟨fz_of, sub_of⟩
theorem r2_Put_spec (b : List UInt8) (n sz : Nat) (hs : sz = 1 ∨ sz = 2 ∨ sz = 4 ∨ sz = 8) (hn : n < 256 ^ sz) (hn2 : n < 18446744073709551616) (hb : b.length ≤ 100000000) (H : AH) : ACalls PG broadsheetref02_Put.n [.str b, .int .u64 (n : Nat), .int .i64 (sz : Nat)] H fun r H' => r = .tup [.str (b ++ numB b.length sz n), .int .i64 0] ∧ H' = H := by
  have hgl := gapN_le b.length sz hs
  have hrl : (List.replicate (gapN b.length sz) (0 : UInt8)).length = gapN b.length sz := List.length_replicate
  have hL := leB_len sz n
  refine ACalls.fz (broadsheetref02_Put.of rfl (wpF_start ?_))
  (first | refine au ?_ | exact au0 | fail)
  first | refine callF_eq (r1_Put_spec n sz hs hn hn2 _) ?_ | refine callG_eq rfl (r1_Put_spec n sz hs hn hn2 _) ?_
  (first | refine au ?_ | exact au0 | fail)
  first | refine callF_eq (r2_Gap_spec b.length sz hs (by omega) _) ?_ | refine callG_eq rfl (r2_Gap_spec b.length sz hs (by omega) _) ?_
  (first | refine au ?_ | exact au0 | fail)
  first | refine callF_eq (Zeros_spec (gapN b.length sz) (by omega) _) ?_ | refine callG_eq rfl (Zeros_spec (gapN b.length sz) (by omega) _) ?_
  (first | refine au ?_ | exact au0 | fail)
  unfold numB
  rw [← List.append_assoc]
  exact ⟨fz_of, sub_of⟩
end Go.Proofs.YtmjdkeonjflanaaGreat

/- Values put as bytes, in the reference, walked: rows. -/
namespace Go.Proofs.YtmjdkeonjflanaaGreat
set_option autoImplicit false
set_option linter.unusedSimpArgs false
set_option linter.unusedVariables false
attribute [local irreducible] callA callP ACalls
def ptR (p : Pt) : List AV := [.int .i64 (p.sz : Nat), .int .u64 (p.num : Nat), .str p.tx]
theorem ptR_no (l : List Pt) : NoId (.rows 3 (l.map ptR)) := (Cl.rows 3 _ fun r hr v hv => by
  obtain ⟨p, _, rfl⟩ := List.mem_map.1 hr
  simp only [ptR, List.mem_cons, List.not_mem_nil, or_false] at hv
  rcases hv with rfl | rfl | rfl
  · exact .int _ _
  · exact .int _ _
  · exact .str _).noId
theorem ptR_w (l : List Pt) : ∀ r ∈ l.map ptR, r.length = 3 := map_w (f := ptR) (fun _ => rfl) l
theorem Row_spec (l : List Ty) (hl : TysOk l) (hv : TyV l) : ∀ (m : Nat) (v : Vl), SizeOf.sizeOf v < m → vOk v → vGreat v ≤ 20000 → ∀ t : Int, 0 ≤ t → t < l.length → fitE l t v = 0 → ACalls PG broadsheetref10_Row.n [tysA l, .int .i64 t, vlA v] [] fun r _ => r = .rows 3 ((rowV l t v).map ptR)
  | 0, v, h, _, _, _, _, _, _ => by omega
  | m + 1, .mk k n x vs, hsz, hok, hgr, t, h0, h1, hf => by
    have F := fitE_0 hf
    have hG := hv.tAt h0 h1
    have hkd := hG.kd
    have hk := F.kd
    rw [← hk] at hkd
    have hge := tAt_get h0 h1
    have hlen : (l.map tyR).length = l.length := by simp
    have hll := hl.len
    have hkl := vlRs_len vs
    have hin := partT_in hG n vs.length
    have hks : vOks vs := by simp only [vOk] at hok; exact hok.2.2.2
    have hn64 : n < 18446744073709551616 := by simp only [vOk] at hok; exact hok.1
    have hbd : (tAt l t).bd ≤ 1000 := by
      cases hb : kBd (tAt l t).kd
      · rw [hG.bd0 hb]; omega
      · have := (hG.bd hb).2.1; omega
    obtain ⟨bb, hbb⟩ : ∃ bb, bb = decide (¬ ((tAt l t).kd = 11 ∧ (tAt l t).bd < (vs.length : Int))) := ⟨_, rfl⟩
    have hparts : ∀ H, ACalls PG broadsheetref09_Parts.n [tysA l, .int .i64 t, vlA (.mk k n x vs)] H fun r H' => r = .tup [.rows 1 ((partT l t n vs.length).map inR), .bool bb] ∧ H' = H := fun H => by rw [hbb]; exact r9_Parts_spec l hl t h0 h1 hbd (.mk k n x vs) hok H
    have hplen := F.len
    have hpl2 : ((partT l t n vs.length).map inR).length = vs.length := by rw [List.length_map]; exact hplen
    have hp2 : ∀ i, i < vs.length → ((partT l t n vs.length).map inR).getD (Int.toNat (i : Nat)) [] = inR ((partT l t n vs.length).getD i 0) := fun i h => by
      rw [getD_get (by omega : i < (partT l t n vs.length).length)]; exact row_get (f := inR) (by omega)
    have hgv : vGreats vs ≤ 20000 := by simp only [vGreat] at hgr; omega
    have hvl : vs.length ≤ 20000 := by have := vGreats_len vs; omega
    have hrow : ∀ (i : Nat) (h : i < vs.length), ACalls PG broadsheetref10_Row.n [tysA l, .int .i64 ((partT l t n vs.length).getD i 0), vlA vs[i]] [] fun r _ => r = .rows 3 ((rowV l ((partT l t n vs.length).getD i 0) vs[i]).map ptR) := fun i h => by
      have hip : i < (partT l t n vs.length).length := by omega
      have hpp := hin _ (List.getElem_mem hip)
      rw [getD_get hip]
      have hsl := List.sizeOf_lt_of_mem (List.getElem_mem h)
      simp only [Vl.mk.sizeOf_spec] at hsz
      exact Row_spec l hl hv m vs[i] (by omega) (vOks_mem hks _ (List.getElem_mem h)) (by have := vGreats_mem (List.getElem_mem h); omega) _ hpp.1 (by omega) (fitEs_0 F.its i hip h)
    obtain ⟨R, hRd⟩ : ∃ R : Nat → List Pt, R = fun i => rowH l t k n x vs.length ++ rowVs l ((partT l t n vs.length).take i) (vs.take i) := ⟨_, rfl⟩
    have hR0 : R 0 = rowH l t k n x vs.length := by rw [hRd]; simp [rowVs]
    have hRs : ∀ (i : Nat) (h : i < vs.length), R (i + 1) = R i ++ rowV l ((partT l t n vs.length).getD i 0) vs[i] := fun i h => by
      rw [hRd, getD_get (by omega : i < (partT l t n vs.length).length)]
      simp only [rowVs_take (partT l t n vs.length) vs i (by omega) h, List.append_assoc]
    have hRe : R vs.length = rowV l t (.mk k n x vs) := by
      rw [hRd, rowV]
      simp only
      rw [List.take_of_length_le (by omega), List.take_length]
    have hRl : ∀ i, (R i).length ≤ 50000 := fun i => by
      rw [hRd]
      simp only [List.length_append]
      have h2 := rowVs_len l ((partT l t n vs.length).take i) (vs.take i)
      have h3 := vGreats_takeLe vs i
      have h4 : (rowH l t k n x vs.length).length ≤ 2 := by
        unfold rowH
        generalize (if k = 14 then (tAt l (tAt l t).tg).kd else k) = q
        split
        · simp
        · split
          · simp
          · split <;> simp
      omega
    rw [← hRe]
    have hkp : k ≤ 14 := hkd.2
    -- the kind that is told
    obtain ⟨kk, hkk⟩ : ∃ kk, kk = if k = 14 then (tAt l (tAt l t).tg).kd else k := ⟨_, rfl⟩
    have hrH : rowH l t k n x vs.length = if isNum kk = true then [⟨szK kk, lowK kk n, []⟩] else if kk = 10 then [⟨4, x.length + 1, []⟩, ⟨0, 0, x ++ [0]⟩] else if kk = 11 then [⟨4, vs.length, []⟩] else [] := by rw [hkk]; rfl
    have htg : k = 14 → 0 ≤ (tAt l t).tg ∧ (tAt l t).tg < l.length := fun c => by
      have := hG.parts _ (parts_tag (by omega : (tAt l t).kd = 14)); omega
    have hge2 := fun (c : k = 14) => tAt_get (htg c).1 (htg c).2
    have htn : k = 14 → isNum (tAt l (tAt l t).tg).kd = true := fun c => hG.tag (by omega)
    have hxl : x.length ≤ 20000 := by simp only [vGreat] at hgr; omega
    clear hRd hf F hin hG hv hsz hbb
    generalize partT l t n vs.length = P at *
    refine ACalls.fzK (broadsheetref10_Row.of rfl (wpF_start ?_))
    by_cases c14 : k = 14
    · rw [if_pos c14] at hkk
      have hnk := htn c14
      subst hkk
      rw [if_pos hnk] at hrH
      rw [hrH] at hR0
      have hge2 := hge2 c14
      have htg := htg c14
      have hNu := fun H => r5_Number_spec (tAt l (tAt l t).tg).kd H
      rw [hnk] at hNu
      have hSi := fun H => r5_Size_spec (tAt l (tAt l t).tg).kd H
      have hLo := fun H => r5_Low_spec (tAt l (tAt l t).tg).kd n hn64 H
      (first | refine au ?_ | exact au0 | fail)
      intro id5 hid5 ht5; have n5 := neAll_of hid5; (try simp only [neAll, neAll_hset] at n5); have m5 := n5; (repeat (obtain ⟨_, m5⟩ := m5))
      (first | refine au ?_ | exact au0 | fail)
      rw [hge]
      (first | refine au ?_ | exact au0 | fail)
      rw [hge2]
      (first | refine au ?_ | exact au0 | fail)
      first | refine callF_eq (hNu _) ?_ | refine callG_eq rfl (hNu _) ?_
      (first | refine au ?_ | exact au0 | fail)
      first | refine callF_eq (hSi _) ?_ | refine callG_eq rfl (hSi _) ?_
      (first | refine au ?_ | exact au0 | fail)
      first | refine callF_eq (hLo _) ?_ | refine callG_eq rfl (hLo _) ?_
      (first | refine au ?_ | exact au0 | fail)
      refine ⟨_, rfl, (Nat.le_of_ble_eq_true rfl), (fun q => by cases q), fun _ => ?_⟩
      intro id37 hid37 ht37; have n37 := neAll_of hid37; (try simp only [neAll, neAll_hset] at n37); have m37 := n37; (repeat (obtain ⟨_, m37⟩ := m37))
      (first | refine au ?_ | exact au0 | fail)
      first | refine callF_eq (hparts _) ?_ | refine callG_eq rfl (hparts _) ?_
      (first | refine au ?_ | exact au0 | fail)
      refine loopM (S := Nat × Option Nat) [(0, some _), (5, some _), (9, some _)] (fun s => [(11, some (.int .i64 (s.1 : Nat))), (7, some (accV s.2 3 (R s.1).length))]) (fun s => accH s.2 3 ((R s.1).map ptR) [(id5, .rows 4 [vlR (.mk k n x vs)])]) (fun s => vs.length - s.1)
        (fun s => s.1 ≤ vs.length ∧ (s.2 = none → R s.1 = []) ∧ ∀ id, s.2 = some id → tag id = ty_broadsheetref10_Part ∧ id ≠ id5) (0, some id37) (by (try dsimp only [accH, accV]); (try rw [hR0]); exact (by repeat (first | exact trivial | refine And.intro (Or.inl rfl) ?_ | refine And.intro (Or.inr (Exists.intro _ (And.intro rfl (Fz.refl _)))) ?_ | refine And.intro (Or.inr (Exists.intro _ (And.intro rfl (fz_eq (congrArg (AV.int _) (by omega)))))) ?_ | refine And.intro (Or.inr (Exists.intro _ (And.intro rfl (fz_eq (congrArg (AV.own _ _ _) (by (try dsimp only); (try simp only [List.length_append, List.length_map, List.length_cons, List.length_nil, List.length_take, List.length_set, List.length_replicate]); (try dsimp only); first | done | omega)))))) ?_))) (by (try dsimp only [accH]); (try rw [hR0]); exact sub_of) ⟨Nat.zero_le _, (fun q => by cases q), fun id q => by cases q; exact ⟨ht37, by omega⟩⟩ (fun ⟨i, o⟩ hs => ?_)
      dsimp only at hs
      obtain ⟨hi, ho1, ho2⟩ := hs
      have hRn := hRl i
      rcases o with _ | ida
      · have hR1 := ho1 rfl
        dsimp only [accH, accV]
        (first | refine au ?_ | exact au0 | fail)
        refine bsplit_dec (fun cc => ?_) (fun cc => ?_)
        · have hil : i < vs.length := by omega
          have hcs := hRs i hil
          have hgi := hp2 i hil
          have hgv := vlRs_geti hil
          have hri := hrow i hil
          (first | refine au ?_ | exact au0 | fail)
          rw [hgi]
          (first | refine au ?_ | exact au0 | fail)
          rw [hgv]
          generalize vs[i] = y at *
          obtain ⟨k2, n2, x2, vs2⟩ := y
          (first | refine au ?_ | exact au0 | fail)
          refine callG_no (ptR_no _) (hri.frame _) ?_
          (first | refine au ?_ | exact au0 | fail)
          refine ⟨(rowV l (P.getD i 0) (.mk k2 n2 x2 vs2)).map ptR, by rfl, by rw [List.length_map]; have := hRl (i + 1); rw [hcs, List.length_append] at this; omega, fun e => ?_, fun e => ?_⟩
          · have e := List.map_eq_nil_iff.1 e
            rw [hR1, e] at hcs
            (first | refine au ?_ | exact au0 | fail)
            refine nextS (S := Nat × Option Nat) (i + 1, none) (by (try dsimp only [accH, accV]); exact (by repeat (first | exact trivial | refine And.intro (Or.inl rfl) ?_ | refine And.intro (Or.inr (Exists.intro _ (And.intro rfl (Fz.refl _)))) ?_ | refine And.intro (Or.inr (Exists.intro _ (And.intro rfl (fz_eq (congrArg (AV.int _) (by omega)))))) ?_ | refine And.intro (Or.inr (Exists.intro _ (And.intro rfl (fz_eq (congrArg (AV.own _ _ _) (by (try dsimp only); (try simp only [List.length_append, List.length_map, List.length_cons, List.length_nil, List.length_take, List.length_set, List.length_replicate]); (try dsimp only); first | done | omega)))))) ?_))) (by (try dsimp only [accH]); exact sub_of) (by dsimp only; omega) ⟨by show i + 1 ≤ vs.length; omega, fun _ => hcs, fun j q => by cases q⟩
          · rw [hR1, List.nil_append] at hcs
            intro id98 hid98 ht98; have n98 := neAll_of hid98; (try simp only [neAll, neAll_hset] at n98); have m98 := n98; (repeat (obtain ⟨_, m98⟩ := m98))
            (first | refine au ?_ | exact au0 | fail)
            refine nextS (S := Nat × Option Nat) (i + 1, some id98) (by (try dsimp only [accH, accV]); rw [hcs]; rw [List.length_map]; exact (by repeat (first | exact trivial | refine And.intro (Or.inl rfl) ?_ | refine And.intro (Or.inr (Exists.intro _ (And.intro rfl (Fz.refl _)))) ?_ | refine And.intro (Or.inr (Exists.intro _ (And.intro rfl (fz_eq (congrArg (AV.int _) (by omega)))))) ?_ | refine And.intro (Or.inr (Exists.intro _ (And.intro rfl (fz_eq (congrArg (AV.own _ _ _) (by (try dsimp only); (try simp only [List.length_append, List.length_map, List.length_cons, List.length_nil, List.length_take, List.length_set, List.length_replicate]); (try dsimp only); first | done | omega)))))) ?_))) (by (try dsimp only [accH]); rw [hcs]; exact sub_of) (by dsimp only; omega) ⟨by show i + 1 ≤ vs.length; omega, (fun q => by cases q), fun j q => by cases q; exact ⟨ht98, by omega⟩⟩
        · have hie : i = vs.length := by omega
          rw [hie] at hR1
          (first | refine au ?_ | exact au0 | fail)
          rw [hR1]
          exact fz_of
      · obtain ⟨hti, hd5⟩ := ho2 ida rfl
        dsimp only [accH, accV]
        (first | refine au ?_ | exact au0 | fail)
        refine bsplit_dec (fun cc => ?_) (fun cc => ?_)
        · have hil : i < vs.length := by omega
          have hcs := hRs i hil
          have hgi := hp2 i hil
          have hgv := vlRs_geti hil
          have hri := hrow i hil
          (first | refine au ?_ | exact au0 | fail)
          rw [hgi]
          (first | refine au ?_ | exact au0 | fail)
          rw [hgv]
          generalize vs[i] = y at *
          obtain ⟨k2, n2, x2, vs2⟩ := y
          (first | refine au ?_ | exact au0 | fail)
          refine callG_no (ptR_no _) (hri.frame _) ?_
          (first | refine au ?_ | exact au0 | fail)
          have hRn1 := hRl (i + 1)
          rw [hcs, List.length_append] at hRn1
          refine ⟨_, (rowV l (P.getD i 0) (.mk k2 n2 x2 vs2)).map ptR, readS_all (by exact hg_of) (by rw [List.length_map]), by rfl, rfl, rfl, hti, by rw [List.length_map, List.length_map]; omega, ?_⟩
          intro id98 hid98 ht98; have n98 := neAll_of hid98; (try simp only [neAll, neAll_hset] at n98); have m98 := n98; (repeat (obtain ⟨_, m98⟩ := m98))
          (first | refine au ?_ | exact au0 | fail)
          refine nextS (S := Nat × Option Nat) (i + 1, some id98) (by (try dsimp only [accH, accV]); rw [hcs, List.length_append, List.length_map, List.length_map]; exact (by repeat (first | exact trivial | refine And.intro (Or.inl rfl) ?_ | refine And.intro (Or.inr (Exists.intro _ (And.intro rfl (Fz.refl _)))) ?_ | refine And.intro (Or.inr (Exists.intro _ (And.intro rfl (fz_eq (congrArg (AV.int _) (by omega)))))) ?_ | refine And.intro (Or.inr (Exists.intro _ (And.intro rfl (fz_eq (congrArg (AV.own _ _ _) (by (try dsimp only); (try simp only [List.length_append, List.length_map, List.length_cons, List.length_nil, List.length_take, List.length_set, List.length_replicate]); (try dsimp only); first | done | omega)))))) ?_))) (by (try dsimp only [accH]); rw [hcs, List.map_append]; exact sub_of) (by dsimp only; omega) ⟨by show i + 1 ≤ vs.length; omega, (fun q => by cases q), fun j q => by cases q; exact ⟨ht98, by omega⟩⟩
        · have hie : i = vs.length := by omega
          rw [← hie]
          (first | refine au ?_ | exact au0 | fail)
          exact accFz (o := some ida) (H := [(id5, .rows 4 [vlR (.mk k n x vs)])]) (by rw [List.length_map]) (fun q => by cases q) (fun _ _ => rfl) (FzR.refl _ _ _) (ptR_w _)
    rw [if_neg c14] at hkk
    have hkk := hkk.symm
    subst hkk
    have hNu := fun H => r5_Number_spec k H
    by_cases c9 : isNum k = true
    · rw [if_pos c9] at hrH
      rw [hrH] at hR0
      rw [c9] at hNu
      have hSi := fun H => r5_Size_spec k H
      have hLo := fun H => r5_Low_spec k n hn64 H
      (first | refine au ?_ | exact au0 | fail)
      intro id5 hid5 ht5; have n5 := neAll_of hid5; (try simp only [neAll, neAll_hset] at n5); have m5 := n5; (repeat (obtain ⟨_, m5⟩ := m5))
      (first | refine au ?_ | exact au0 | fail)
      first | refine callF_eq (hNu _) ?_ | refine callG_eq rfl (hNu _) ?_
      (first | refine au ?_ | exact au0 | fail)
      first | refine callF_eq (hSi _) ?_ | refine callG_eq rfl (hSi _) ?_
      (first | refine au ?_ | exact au0 | fail)
      first | refine callF_eq (hLo _) ?_ | refine callG_eq rfl (hLo _) ?_
      (first | refine au ?_ | exact au0 | fail)
      refine ⟨_, rfl, (Nat.le_of_ble_eq_true rfl), (fun q => by cases q), fun _ => ?_⟩
      intro id37 hid37 ht37; have n37 := neAll_of hid37; (try simp only [neAll, neAll_hset] at n37); have m37 := n37; (repeat (obtain ⟨_, m37⟩ := m37))
      (first | refine au ?_ | exact au0 | fail)
      first | refine callF_eq (hparts _) ?_ | refine callG_eq rfl (hparts _) ?_
      (first | refine au ?_ | exact au0 | fail)
      refine loopM (S := Nat × Option Nat) [(0, some _), (5, some _), (9, some _)] (fun s => [(11, some (.int .i64 (s.1 : Nat))), (7, some (accV s.2 3 (R s.1).length))]) (fun s => accH s.2 3 ((R s.1).map ptR) [(id5, .rows 4 [vlR (.mk k n x vs)])]) (fun s => vs.length - s.1)
        (fun s => s.1 ≤ vs.length ∧ (s.2 = none → R s.1 = []) ∧ ∀ id, s.2 = some id → tag id = ty_broadsheetref10_Part ∧ id ≠ id5) (0, some id37) (by (try dsimp only [accH, accV]); (try rw [hR0]); exact (by repeat (first | exact trivial | refine And.intro (Or.inl rfl) ?_ | refine And.intro (Or.inr (Exists.intro _ (And.intro rfl (Fz.refl _)))) ?_ | refine And.intro (Or.inr (Exists.intro _ (And.intro rfl (fz_eq (congrArg (AV.int _) (by omega)))))) ?_ | refine And.intro (Or.inr (Exists.intro _ (And.intro rfl (fz_eq (congrArg (AV.own _ _ _) (by (try dsimp only); (try simp only [List.length_append, List.length_map, List.length_cons, List.length_nil, List.length_take, List.length_set, List.length_replicate]); (try dsimp only); first | done | omega)))))) ?_))) (by (try dsimp only [accH]); (try rw [hR0]); exact sub_of) ⟨Nat.zero_le _, (fun q => by cases q), fun id q => by cases q; exact ⟨ht37, by omega⟩⟩ (fun ⟨i, o⟩ hs => ?_)
      dsimp only at hs
      obtain ⟨hi, ho1, ho2⟩ := hs
      have hRn := hRl i
      rcases o with _ | ida
      · have hR1 := ho1 rfl
        dsimp only [accH, accV]
        (first | refine au ?_ | exact au0 | fail)
        refine bsplit_dec (fun cc => ?_) (fun cc => ?_)
        · have hil : i < vs.length := by omega
          have hcs := hRs i hil
          have hgi := hp2 i hil
          have hgv := vlRs_geti hil
          have hri := hrow i hil
          (first | refine au ?_ | exact au0 | fail)
          rw [hgi]
          (first | refine au ?_ | exact au0 | fail)
          rw [hgv]
          generalize vs[i] = y at *
          obtain ⟨k2, n2, x2, vs2⟩ := y
          (first | refine au ?_ | exact au0 | fail)
          refine callG_no (ptR_no _) (hri.frame _) ?_
          (first | refine au ?_ | exact au0 | fail)
          refine ⟨(rowV l (P.getD i 0) (.mk k2 n2 x2 vs2)).map ptR, by rfl, by rw [List.length_map]; have := hRl (i + 1); rw [hcs, List.length_append] at this; omega, fun e => ?_, fun e => ?_⟩
          · have e := List.map_eq_nil_iff.1 e
            rw [hR1, e] at hcs
            (first | refine au ?_ | exact au0 | fail)
            refine nextS (S := Nat × Option Nat) (i + 1, none) (by (try dsimp only [accH, accV]); exact (by repeat (first | exact trivial | refine And.intro (Or.inl rfl) ?_ | refine And.intro (Or.inr (Exists.intro _ (And.intro rfl (Fz.refl _)))) ?_ | refine And.intro (Or.inr (Exists.intro _ (And.intro rfl (fz_eq (congrArg (AV.int _) (by omega)))))) ?_ | refine And.intro (Or.inr (Exists.intro _ (And.intro rfl (fz_eq (congrArg (AV.own _ _ _) (by (try dsimp only); (try simp only [List.length_append, List.length_map, List.length_cons, List.length_nil, List.length_take, List.length_set, List.length_replicate]); (try dsimp only); first | done | omega)))))) ?_))) (by (try dsimp only [accH]); exact sub_of) (by dsimp only; omega) ⟨by show i + 1 ≤ vs.length; omega, fun _ => hcs, fun j q => by cases q⟩
          · rw [hR1, List.nil_append] at hcs
            intro id98 hid98 ht98; have n98 := neAll_of hid98; (try simp only [neAll, neAll_hset] at n98); have m98 := n98; (repeat (obtain ⟨_, m98⟩ := m98))
            (first | refine au ?_ | exact au0 | fail)
            refine nextS (S := Nat × Option Nat) (i + 1, some id98) (by (try dsimp only [accH, accV]); rw [hcs]; rw [List.length_map]; exact (by repeat (first | exact trivial | refine And.intro (Or.inl rfl) ?_ | refine And.intro (Or.inr (Exists.intro _ (And.intro rfl (Fz.refl _)))) ?_ | refine And.intro (Or.inr (Exists.intro _ (And.intro rfl (fz_eq (congrArg (AV.int _) (by omega)))))) ?_ | refine And.intro (Or.inr (Exists.intro _ (And.intro rfl (fz_eq (congrArg (AV.own _ _ _) (by (try dsimp only); (try simp only [List.length_append, List.length_map, List.length_cons, List.length_nil, List.length_take, List.length_set, List.length_replicate]); (try dsimp only); first | done | omega)))))) ?_))) (by (try dsimp only [accH]); rw [hcs]; exact sub_of) (by dsimp only; omega) ⟨by show i + 1 ≤ vs.length; omega, (fun q => by cases q), fun j q => by cases q; exact ⟨ht98, by omega⟩⟩
        · have hie : i = vs.length := by omega
          rw [hie] at hR1
          (first | refine au ?_ | exact au0 | fail)
          rw [hR1]
          exact fz_of
      · obtain ⟨hti, hd5⟩ := ho2 ida rfl
        dsimp only [accH, accV]
        (first | refine au ?_ | exact au0 | fail)
        refine bsplit_dec (fun cc => ?_) (fun cc => ?_)
        · have hil : i < vs.length := by omega
          have hcs := hRs i hil
          have hgi := hp2 i hil
          have hgv := vlRs_geti hil
          have hri := hrow i hil
          (first | refine au ?_ | exact au0 | fail)
          rw [hgi]
          (first | refine au ?_ | exact au0 | fail)
          rw [hgv]
          generalize vs[i] = y at *
          obtain ⟨k2, n2, x2, vs2⟩ := y
          (first | refine au ?_ | exact au0 | fail)
          refine callG_no (ptR_no _) (hri.frame _) ?_
          (first | refine au ?_ | exact au0 | fail)
          have hRn1 := hRl (i + 1)
          rw [hcs, List.length_append] at hRn1
          refine ⟨_, (rowV l (P.getD i 0) (.mk k2 n2 x2 vs2)).map ptR, readS_all (by exact hg_of) (by rw [List.length_map]), by rfl, rfl, rfl, hti, by rw [List.length_map, List.length_map]; omega, ?_⟩
          intro id98 hid98 ht98; have n98 := neAll_of hid98; (try simp only [neAll, neAll_hset] at n98); have m98 := n98; (repeat (obtain ⟨_, m98⟩ := m98))
          (first | refine au ?_ | exact au0 | fail)
          refine nextS (S := Nat × Option Nat) (i + 1, some id98) (by (try dsimp only [accH, accV]); rw [hcs, List.length_append, List.length_map, List.length_map]; exact (by repeat (first | exact trivial | refine And.intro (Or.inl rfl) ?_ | refine And.intro (Or.inr (Exists.intro _ (And.intro rfl (Fz.refl _)))) ?_ | refine And.intro (Or.inr (Exists.intro _ (And.intro rfl (fz_eq (congrArg (AV.int _) (by omega)))))) ?_ | refine And.intro (Or.inr (Exists.intro _ (And.intro rfl (fz_eq (congrArg (AV.own _ _ _) (by (try dsimp only); (try simp only [List.length_append, List.length_map, List.length_cons, List.length_nil, List.length_take, List.length_set, List.length_replicate]); (try dsimp only); first | done | omega)))))) ?_))) (by (try dsimp only [accH]); rw [hcs, List.map_append]; exact sub_of) (by dsimp only; omega) ⟨by show i + 1 ≤ vs.length; omega, (fun q => by cases q), fun j q => by cases q; exact ⟨ht98, by omega⟩⟩
        · have hie : i = vs.length := by omega
          rw [← hie]
          (first | refine au ?_ | exact au0 | fail)
          exact accFz (o := some ida) (H := [(id5, .rows 4 [vlR (.mk k n x vs)])]) (by rw [List.length_map]) (fun q => by cases q) (fun _ _ => rfl) (FzR.refl _ _ _) (ptR_w _)
    rw [if_neg c9] at hrH
    have c9 : isNum k = false := by simpa using c9
    rw [c9] at hNu
    by_cases c10 : k = 10
    · rw [if_pos c10] at hrH
      rw [hrH] at hR0
      (first | refine au ?_ | exact au0 | fail)
      intro id5 hid5 ht5; have n5 := neAll_of hid5; (try simp only [neAll, neAll_hset] at n5); have m5 := n5; (repeat (obtain ⟨_, m5⟩ := m5))
      (first | refine au ?_ | exact au0 | fail)
      first | refine callF_eq (hNu _) ?_ | refine callG_eq rfl (hNu _) ?_
      (first | refine au ?_ | exact au0 | fail)
      first | refine callF_eq (Byte_spec 0 (by omega) _) ?_ | refine callG_eq rfl (Byte_spec 0 (by omega) _) ?_
      (first | refine au ?_ | exact au0 | fail)
      refine ⟨_, rfl, (Nat.le_of_ble_eq_true rfl), (fun q => by cases q), fun _ => ?_⟩
      intro id54 hid54 ht54; have n54 := neAll_of hid54; (try simp only [neAll, neAll_hset] at n54); have m54 := n54; (repeat (obtain ⟨_, m54⟩ := m54))
      (first | refine au ?_ | exact au0 | fail)
      first | refine callF_eq (hparts _) ?_ | refine callG_eq rfl (hparts _) ?_
      (first | refine au ?_ | exact au0 | fail)
      refine loopM (S := Nat × Option Nat) [(0, some _), (5, some _), (9, some _)] (fun s => [(11, some (.int .i64 (s.1 : Nat))), (7, some (accV s.2 3 (R s.1).length))]) (fun s => accH s.2 3 ((R s.1).map ptR) [(id5, .rows 4 [vlR (.mk k n x vs)])]) (fun s => vs.length - s.1)
        (fun s => s.1 ≤ vs.length ∧ (s.2 = none → R s.1 = []) ∧ ∀ id, s.2 = some id → tag id = ty_broadsheetref10_Part ∧ id ≠ id5) (0, some id54) (by (try dsimp only [accH, accV]); (try rw [hR0]); exact (by repeat (first | exact trivial | refine And.intro (Or.inl rfl) ?_ | refine And.intro (Or.inr (Exists.intro _ (And.intro rfl (Fz.refl _)))) ?_ | refine And.intro (Or.inr (Exists.intro _ (And.intro rfl (fz_eq (congrArg (AV.int _) (by omega)))))) ?_ | refine And.intro (Or.inr (Exists.intro _ (And.intro rfl (fz_eq (congrArg (AV.own _ _ _) (by (try dsimp only); (try simp only [List.length_append, List.length_map, List.length_cons, List.length_nil, List.length_take, List.length_set, List.length_replicate]); (try dsimp only); first | done | omega)))))) ?_))) (by (try dsimp only [accH]); (try rw [hR0]); exact sub_of) ⟨Nat.zero_le _, (fun q => by cases q), fun id q => by cases q; exact ⟨ht54, by omega⟩⟩ (fun ⟨i, o⟩ hs => ?_)
      dsimp only at hs
      obtain ⟨hi, ho1, ho2⟩ := hs
      have hRn := hRl i
      rcases o with _ | ida
      · have hR1 := ho1 rfl
        dsimp only [accH, accV]
        (first | refine au ?_ | exact au0 | fail)
        refine bsplit_dec (fun cc => ?_) (fun cc => ?_)
        · have hil : i < vs.length := by omega
          have hcs := hRs i hil
          have hgi := hp2 i hil
          have hgv := vlRs_geti hil
          have hri := hrow i hil
          (first | refine au ?_ | exact au0 | fail)
          rw [hgi]
          (first | refine au ?_ | exact au0 | fail)
          rw [hgv]
          generalize vs[i] = y at *
          obtain ⟨k2, n2, x2, vs2⟩ := y
          (first | refine au ?_ | exact au0 | fail)
          refine callG_no (ptR_no _) (hri.frame _) ?_
          (first | refine au ?_ | exact au0 | fail)
          refine ⟨(rowV l (P.getD i 0) (.mk k2 n2 x2 vs2)).map ptR, by rfl, by rw [List.length_map]; have := hRl (i + 1); rw [hcs, List.length_append] at this; omega, fun e => ?_, fun e => ?_⟩
          · have e := List.map_eq_nil_iff.1 e
            rw [hR1, e] at hcs
            (first | refine au ?_ | exact au0 | fail)
            refine nextS (S := Nat × Option Nat) (i + 1, none) (by (try dsimp only [accH, accV]); exact (by repeat (first | exact trivial | refine And.intro (Or.inl rfl) ?_ | refine And.intro (Or.inr (Exists.intro _ (And.intro rfl (Fz.refl _)))) ?_ | refine And.intro (Or.inr (Exists.intro _ (And.intro rfl (fz_eq (congrArg (AV.int _) (by omega)))))) ?_ | refine And.intro (Or.inr (Exists.intro _ (And.intro rfl (fz_eq (congrArg (AV.own _ _ _) (by (try dsimp only); (try simp only [List.length_append, List.length_map, List.length_cons, List.length_nil, List.length_take, List.length_set, List.length_replicate]); (try dsimp only); first | done | omega)))))) ?_))) (by (try dsimp only [accH]); exact sub_of) (by dsimp only; omega) ⟨by show i + 1 ≤ vs.length; omega, fun _ => hcs, fun j q => by cases q⟩
          · rw [hR1, List.nil_append] at hcs
            intro id98 hid98 ht98; have n98 := neAll_of hid98; (try simp only [neAll, neAll_hset] at n98); have m98 := n98; (repeat (obtain ⟨_, m98⟩ := m98))
            (first | refine au ?_ | exact au0 | fail)
            refine nextS (S := Nat × Option Nat) (i + 1, some id98) (by (try dsimp only [accH, accV]); rw [hcs]; rw [List.length_map]; exact (by repeat (first | exact trivial | refine And.intro (Or.inl rfl) ?_ | refine And.intro (Or.inr (Exists.intro _ (And.intro rfl (Fz.refl _)))) ?_ | refine And.intro (Or.inr (Exists.intro _ (And.intro rfl (fz_eq (congrArg (AV.int _) (by omega)))))) ?_ | refine And.intro (Or.inr (Exists.intro _ (And.intro rfl (fz_eq (congrArg (AV.own _ _ _) (by (try dsimp only); (try simp only [List.length_append, List.length_map, List.length_cons, List.length_nil, List.length_take, List.length_set, List.length_replicate]); (try dsimp only); first | done | omega)))))) ?_))) (by (try dsimp only [accH]); rw [hcs]; exact sub_of) (by dsimp only; omega) ⟨by show i + 1 ≤ vs.length; omega, (fun q => by cases q), fun j q => by cases q; exact ⟨ht98, by omega⟩⟩
        · have hie : i = vs.length := by omega
          rw [hie] at hR1
          (first | refine au ?_ | exact au0 | fail)
          rw [hR1]
          exact fz_of
      · obtain ⟨hti, hd5⟩ := ho2 ida rfl
        dsimp only [accH, accV]
        (first | refine au ?_ | exact au0 | fail)
        refine bsplit_dec (fun cc => ?_) (fun cc => ?_)
        · have hil : i < vs.length := by omega
          have hcs := hRs i hil
          have hgi := hp2 i hil
          have hgv := vlRs_geti hil
          have hri := hrow i hil
          (first | refine au ?_ | exact au0 | fail)
          rw [hgi]
          (first | refine au ?_ | exact au0 | fail)
          rw [hgv]
          generalize vs[i] = y at *
          obtain ⟨k2, n2, x2, vs2⟩ := y
          (first | refine au ?_ | exact au0 | fail)
          refine callG_no (ptR_no _) (hri.frame _) ?_
          (first | refine au ?_ | exact au0 | fail)
          have hRn1 := hRl (i + 1)
          rw [hcs, List.length_append] at hRn1
          refine ⟨_, (rowV l (P.getD i 0) (.mk k2 n2 x2 vs2)).map ptR, readS_all (by exact hg_of) (by rw [List.length_map]), by rfl, rfl, rfl, hti, by rw [List.length_map, List.length_map]; omega, ?_⟩
          intro id98 hid98 ht98; have n98 := neAll_of hid98; (try simp only [neAll, neAll_hset] at n98); have m98 := n98; (repeat (obtain ⟨_, m98⟩ := m98))
          (first | refine au ?_ | exact au0 | fail)
          refine nextS (S := Nat × Option Nat) (i + 1, some id98) (by (try dsimp only [accH, accV]); rw [hcs, List.length_append, List.length_map, List.length_map]; exact (by repeat (first | exact trivial | refine And.intro (Or.inl rfl) ?_ | refine And.intro (Or.inr (Exists.intro _ (And.intro rfl (Fz.refl _)))) ?_ | refine And.intro (Or.inr (Exists.intro _ (And.intro rfl (fz_eq (congrArg (AV.int _) (by omega)))))) ?_ | refine And.intro (Or.inr (Exists.intro _ (And.intro rfl (fz_eq (congrArg (AV.own _ _ _) (by (try dsimp only); (try simp only [List.length_append, List.length_map, List.length_cons, List.length_nil, List.length_take, List.length_set, List.length_replicate]); (try dsimp only); first | done | omega)))))) ?_))) (by (try dsimp only [accH]); rw [hcs, List.map_append]; exact sub_of) (by dsimp only; omega) ⟨by show i + 1 ≤ vs.length; omega, (fun q => by cases q), fun j q => by cases q; exact ⟨ht98, by omega⟩⟩
        · have hie : i = vs.length := by omega
          rw [← hie]
          (first | refine au ?_ | exact au0 | fail)
          exact accFz (o := some ida) (H := [(id5, .rows 4 [vlR (.mk k n x vs)])]) (by rw [List.length_map]) (fun q => by cases q) (fun _ _ => rfl) (FzR.refl _ _ _) (ptR_w _)
    rw [if_neg c10] at hrH
    by_cases c11 : k = 11
    · rw [if_pos c11] at hrH
      rw [hrH] at hR0
      (first | refine au ?_ | exact au0 | fail)
      intro id5 hid5 ht5; have n5 := neAll_of hid5; (try simp only [neAll, neAll_hset] at n5); have m5 := n5; (repeat (obtain ⟨_, m5⟩ := m5))
      (first | refine au ?_ | exact au0 | fail)
      first | refine callF_eq (hNu _) ?_ | refine callG_eq rfl (hNu _) ?_
      (first | refine au ?_ | exact au0 | fail)
      refine ⟨_, rfl, (Nat.le_of_ble_eq_true rfl), (fun q => by cases q), fun _ => ?_⟩
      intro id65 hid65 ht65; have n65 := neAll_of hid65; (try simp only [neAll, neAll_hset] at n65); have m65 := n65; (repeat (obtain ⟨_, m65⟩ := m65))
      (first | refine au ?_ | exact au0 | fail)
      first | refine callF_eq (hparts _) ?_ | refine callG_eq rfl (hparts _) ?_
      (first | refine au ?_ | exact au0 | fail)
      rw [hkl]
      refine loopM (S := Nat × Option Nat) [(0, some _), (5, some _), (9, some _)] (fun s => [(11, some (.int .i64 (s.1 : Nat))), (7, some (accV s.2 3 (R s.1).length))]) (fun s => accH s.2 3 ((R s.1).map ptR) [(id5, .rows 4 [vlR (.mk k n x vs)])]) (fun s => vs.length - s.1)
        (fun s => s.1 ≤ vs.length ∧ (s.2 = none → R s.1 = []) ∧ ∀ id, s.2 = some id → tag id = ty_broadsheetref10_Part ∧ id ≠ id5) (0, some id65) (by (try dsimp only [accH, accV]); (try rw [hR0]); exact (by repeat (first | exact trivial | refine And.intro (Or.inl rfl) ?_ | refine And.intro (Or.inr (Exists.intro _ (And.intro rfl (Fz.refl _)))) ?_ | refine And.intro (Or.inr (Exists.intro _ (And.intro rfl (fz_eq (congrArg (AV.int _) (by omega)))))) ?_ | refine And.intro (Or.inr (Exists.intro _ (And.intro rfl (fz_eq (congrArg (AV.own _ _ _) (by (try dsimp only); (try simp only [List.length_append, List.length_map, List.length_cons, List.length_nil, List.length_take, List.length_set, List.length_replicate]); (try dsimp only); first | done | omega)))))) ?_))) (by (try dsimp only [accH]); (try rw [hR0]); exact sub_of) ⟨Nat.zero_le _, (fun q => by cases q), fun id q => by cases q; exact ⟨ht65, by omega⟩⟩ (fun ⟨i, o⟩ hs => ?_)
      dsimp only at hs
      obtain ⟨hi, ho1, ho2⟩ := hs
      have hRn := hRl i
      rcases o with _ | ida
      · have hR1 := ho1 rfl
        dsimp only [accH, accV]
        (first | refine au ?_ | exact au0 | fail)
        refine bsplit_dec (fun cc => ?_) (fun cc => ?_)
        · have hil : i < vs.length := by omega
          have hcs := hRs i hil
          have hgi := hp2 i hil
          have hgv := vlRs_geti hil
          have hri := hrow i hil
          (first | refine au ?_ | exact au0 | fail)
          rw [hgi]
          (first | refine au ?_ | exact au0 | fail)
          rw [hgv]
          generalize vs[i] = y at *
          obtain ⟨k2, n2, x2, vs2⟩ := y
          (first | refine au ?_ | exact au0 | fail)
          refine callG_no (ptR_no _) (hri.frame _) ?_
          (first | refine au ?_ | exact au0 | fail)
          refine ⟨(rowV l (P.getD i 0) (.mk k2 n2 x2 vs2)).map ptR, by rfl, by rw [List.length_map]; have := hRl (i + 1); rw [hcs, List.length_append] at this; omega, fun e => ?_, fun e => ?_⟩
          · have e := List.map_eq_nil_iff.1 e
            rw [hR1, e] at hcs
            (first | refine au ?_ | exact au0 | fail)
            refine nextS (S := Nat × Option Nat) (i + 1, none) (by (try dsimp only [accH, accV]); exact (by repeat (first | exact trivial | refine And.intro (Or.inl rfl) ?_ | refine And.intro (Or.inr (Exists.intro _ (And.intro rfl (Fz.refl _)))) ?_ | refine And.intro (Or.inr (Exists.intro _ (And.intro rfl (fz_eq (congrArg (AV.int _) (by omega)))))) ?_ | refine And.intro (Or.inr (Exists.intro _ (And.intro rfl (fz_eq (congrArg (AV.own _ _ _) (by (try dsimp only); (try simp only [List.length_append, List.length_map, List.length_cons, List.length_nil, List.length_take, List.length_set, List.length_replicate]); (try dsimp only); first | done | omega)))))) ?_))) (by (try dsimp only [accH]); exact sub_of) (by dsimp only; omega) ⟨by show i + 1 ≤ vs.length; omega, fun _ => hcs, fun j q => by cases q⟩
          · rw [hR1, List.nil_append] at hcs
            intro id98 hid98 ht98; have n98 := neAll_of hid98; (try simp only [neAll, neAll_hset] at n98); have m98 := n98; (repeat (obtain ⟨_, m98⟩ := m98))
            (first | refine au ?_ | exact au0 | fail)
            refine nextS (S := Nat × Option Nat) (i + 1, some id98) (by (try dsimp only [accH, accV]); rw [hcs]; rw [List.length_map]; exact (by repeat (first | exact trivial | refine And.intro (Or.inl rfl) ?_ | refine And.intro (Or.inr (Exists.intro _ (And.intro rfl (Fz.refl _)))) ?_ | refine And.intro (Or.inr (Exists.intro _ (And.intro rfl (fz_eq (congrArg (AV.int _) (by omega)))))) ?_ | refine And.intro (Or.inr (Exists.intro _ (And.intro rfl (fz_eq (congrArg (AV.own _ _ _) (by (try dsimp only); (try simp only [List.length_append, List.length_map, List.length_cons, List.length_nil, List.length_take, List.length_set, List.length_replicate]); (try dsimp only); first | done | omega)))))) ?_))) (by (try dsimp only [accH]); rw [hcs]; exact sub_of) (by dsimp only; omega) ⟨by show i + 1 ≤ vs.length; omega, (fun q => by cases q), fun j q => by cases q; exact ⟨ht98, by omega⟩⟩
        · have hie : i = vs.length := by omega
          rw [hie] at hR1
          (first | refine au ?_ | exact au0 | fail)
          rw [hR1]
          exact fz_of
      · obtain ⟨hti, hd5⟩ := ho2 ida rfl
        dsimp only [accH, accV]
        (first | refine au ?_ | exact au0 | fail)
        refine bsplit_dec (fun cc => ?_) (fun cc => ?_)
        · have hil : i < vs.length := by omega
          have hcs := hRs i hil
          have hgi := hp2 i hil
          have hgv := vlRs_geti hil
          have hri := hrow i hil
          (first | refine au ?_ | exact au0 | fail)
          rw [hgi]
          (first | refine au ?_ | exact au0 | fail)
          rw [hgv]
          generalize vs[i] = y at *
          obtain ⟨k2, n2, x2, vs2⟩ := y
          (first | refine au ?_ | exact au0 | fail)
          refine callG_no (ptR_no _) (hri.frame _) ?_
          (first | refine au ?_ | exact au0 | fail)
          have hRn1 := hRl (i + 1)
          rw [hcs, List.length_append] at hRn1
          refine ⟨_, (rowV l (P.getD i 0) (.mk k2 n2 x2 vs2)).map ptR, readS_all (by exact hg_of) (by rw [List.length_map]), by rfl, rfl, rfl, hti, by rw [List.length_map, List.length_map]; omega, ?_⟩
          intro id98 hid98 ht98; have n98 := neAll_of hid98; (try simp only [neAll, neAll_hset] at n98); have m98 := n98; (repeat (obtain ⟨_, m98⟩ := m98))
          (first | refine au ?_ | exact au0 | fail)
          refine nextS (S := Nat × Option Nat) (i + 1, some id98) (by (try dsimp only [accH, accV]); rw [hcs, List.length_append, List.length_map, List.length_map]; exact (by repeat (first | exact trivial | refine And.intro (Or.inl rfl) ?_ | refine And.intro (Or.inr (Exists.intro _ (And.intro rfl (Fz.refl _)))) ?_ | refine And.intro (Or.inr (Exists.intro _ (And.intro rfl (fz_eq (congrArg (AV.int _) (by omega)))))) ?_ | refine And.intro (Or.inr (Exists.intro _ (And.intro rfl (fz_eq (congrArg (AV.own _ _ _) (by (try dsimp only); (try simp only [List.length_append, List.length_map, List.length_cons, List.length_nil, List.length_take, List.length_set, List.length_replicate]); (try dsimp only); first | done | omega)))))) ?_))) (by (try dsimp only [accH]); rw [hcs, List.map_append]; exact sub_of) (by dsimp only; omega) ⟨by show i + 1 ≤ vs.length; omega, (fun q => by cases q), fun j q => by cases q; exact ⟨ht98, by omega⟩⟩
        · have hie : i = vs.length := by omega
          rw [← hie]
          (first | refine au ?_ | exact au0 | fail)
          exact accFz (o := some ida) (H := [(id5, .rows 4 [vlR (.mk k n x vs)])]) (by rw [List.length_map]) (fun q => by cases q) (fun _ _ => rfl) (FzR.refl _ _ _) (ptR_w _)
    rw [if_neg c11] at hrH
    rw [hrH] at hR0
    (first | refine au ?_ | exact au0 | fail)
    intro id5 hid5 ht5; have n5 := neAll_of hid5; (try simp only [neAll, neAll_hset] at n5); have m5 := n5; (repeat (obtain ⟨_, m5⟩ := m5))
    (first | refine au ?_ | exact au0 | fail)
    first | refine callF_eq (hNu _) ?_ | refine callG_eq rfl (hNu _) ?_
    (first | refine au ?_ | exact au0 | fail)
    first | refine callF_eq (hparts _) ?_ | refine callG_eq rfl (hparts _) ?_
    (first | refine au ?_ | exact au0 | fail)
    refine loopM (S := Nat × Option Nat) [(0, some _), (5, some _), (9, some _)] (fun s => [(11, some (.int .i64 (s.1 : Nat))), (7, some (accV s.2 3 (R s.1).length))]) (fun s => accH s.2 3 ((R s.1).map ptR) [(id5, .rows 4 [vlR (.mk k n x vs)])]) (fun s => vs.length - s.1)
      (fun s => s.1 ≤ vs.length ∧ (s.2 = none → R s.1 = []) ∧ ∀ id, s.2 = some id → tag id = ty_broadsheetref10_Part ∧ id ≠ id5) (0, none) (by (try dsimp only [accH, accV]); (try rw [hR0]); exact (by repeat (first | exact trivial | refine And.intro (Or.inl rfl) ?_ | refine And.intro (Or.inr (Exists.intro _ (And.intro rfl (Fz.refl _)))) ?_ | refine And.intro (Or.inr (Exists.intro _ (And.intro rfl (fz_eq (congrArg (AV.int _) (by omega)))))) ?_ | refine And.intro (Or.inr (Exists.intro _ (And.intro rfl (fz_eq (congrArg (AV.own _ _ _) (by (try dsimp only); (try simp only [List.length_append, List.length_map, List.length_cons, List.length_nil, List.length_take, List.length_set, List.length_replicate]); (try dsimp only); first | done | omega)))))) ?_))) (by (try dsimp only [accH]); (try rw [hR0]); exact sub_of) ⟨Nat.zero_le _, fun _ => hR0, fun id q => by cases q⟩ (fun ⟨i, o⟩ hs => ?_)
    dsimp only at hs
    obtain ⟨hi, ho1, ho2⟩ := hs
    have hRn := hRl i
    rcases o with _ | ida
    · have hR1 := ho1 rfl
      dsimp only [accH, accV]
      (first | refine au ?_ | exact au0 | fail)
      refine bsplit_dec (fun cc => ?_) (fun cc => ?_)
      · have hil : i < vs.length := by omega
        have hcs := hRs i hil
        have hgi := hp2 i hil
        have hgv := vlRs_geti hil
        have hri := hrow i hil
        (first | refine au ?_ | exact au0 | fail)
        rw [hgi]
        (first | refine au ?_ | exact au0 | fail)
        rw [hgv]
        generalize vs[i] = y at *
        obtain ⟨k2, n2, x2, vs2⟩ := y
        (first | refine au ?_ | exact au0 | fail)
        refine callG_no (ptR_no _) (hri.frame _) ?_
        (first | refine au ?_ | exact au0 | fail)
        refine ⟨(rowV l (P.getD i 0) (.mk k2 n2 x2 vs2)).map ptR, by rfl, by rw [List.length_map]; have := hRl (i + 1); rw [hcs, List.length_append] at this; omega, fun e => ?_, fun e => ?_⟩
        · have e := List.map_eq_nil_iff.1 e
          rw [hR1, e] at hcs
          (first | refine au ?_ | exact au0 | fail)
          refine nextS (S := Nat × Option Nat) (i + 1, none) (by (try dsimp only [accH, accV]); exact (by repeat (first | exact trivial | refine And.intro (Or.inl rfl) ?_ | refine And.intro (Or.inr (Exists.intro _ (And.intro rfl (Fz.refl _)))) ?_ | refine And.intro (Or.inr (Exists.intro _ (And.intro rfl (fz_eq (congrArg (AV.int _) (by omega)))))) ?_ | refine And.intro (Or.inr (Exists.intro _ (And.intro rfl (fz_eq (congrArg (AV.own _ _ _) (by (try dsimp only); (try simp only [List.length_append, List.length_map, List.length_cons, List.length_nil, List.length_take, List.length_set, List.length_replicate]); (try dsimp only); first | done | omega)))))) ?_))) (by (try dsimp only [accH]); exact sub_of) (by dsimp only; omega) ⟨by show i + 1 ≤ vs.length; omega, fun _ => hcs, fun j q => by cases q⟩
        · rw [hR1, List.nil_append] at hcs
          intro id98 hid98 ht98; have n98 := neAll_of hid98; (try simp only [neAll, neAll_hset] at n98); have m98 := n98; (repeat (obtain ⟨_, m98⟩ := m98))
          (first | refine au ?_ | exact au0 | fail)
          refine nextS (S := Nat × Option Nat) (i + 1, some id98) (by (try dsimp only [accH, accV]); rw [hcs]; rw [List.length_map]; exact (by repeat (first | exact trivial | refine And.intro (Or.inl rfl) ?_ | refine And.intro (Or.inr (Exists.intro _ (And.intro rfl (Fz.refl _)))) ?_ | refine And.intro (Or.inr (Exists.intro _ (And.intro rfl (fz_eq (congrArg (AV.int _) (by omega)))))) ?_ | refine And.intro (Or.inr (Exists.intro _ (And.intro rfl (fz_eq (congrArg (AV.own _ _ _) (by (try dsimp only); (try simp only [List.length_append, List.length_map, List.length_cons, List.length_nil, List.length_take, List.length_set, List.length_replicate]); (try dsimp only); first | done | omega)))))) ?_))) (by (try dsimp only [accH]); rw [hcs]; exact sub_of) (by dsimp only; omega) ⟨by show i + 1 ≤ vs.length; omega, (fun q => by cases q), fun j q => by cases q; exact ⟨ht98, by omega⟩⟩
      · have hie : i = vs.length := by omega
        rw [hie] at hR1
        (first | refine au ?_ | exact au0 | fail)
        rw [hR1]
        exact fz_of
    · obtain ⟨hti, hd5⟩ := ho2 ida rfl
      dsimp only [accH, accV]
      (first | refine au ?_ | exact au0 | fail)
      refine bsplit_dec (fun cc => ?_) (fun cc => ?_)
      · have hil : i < vs.length := by omega
        have hcs := hRs i hil
        have hgi := hp2 i hil
        have hgv := vlRs_geti hil
        have hri := hrow i hil
        (first | refine au ?_ | exact au0 | fail)
        rw [hgi]
        (first | refine au ?_ | exact au0 | fail)
        rw [hgv]
        generalize vs[i] = y at *
        obtain ⟨k2, n2, x2, vs2⟩ := y
        (first | refine au ?_ | exact au0 | fail)
        refine callG_no (ptR_no _) (hri.frame _) ?_
        (first | refine au ?_ | exact au0 | fail)
        have hRn1 := hRl (i + 1)
        rw [hcs, List.length_append] at hRn1
        refine ⟨_, (rowV l (P.getD i 0) (.mk k2 n2 x2 vs2)).map ptR, readS_all (by exact hg_of) (by rw [List.length_map]), by rfl, rfl, rfl, hti, by rw [List.length_map, List.length_map]; omega, ?_⟩
        intro id98 hid98 ht98; have n98 := neAll_of hid98; (try simp only [neAll, neAll_hset] at n98); have m98 := n98; (repeat (obtain ⟨_, m98⟩ := m98))
        (first | refine au ?_ | exact au0 | fail)
        refine nextS (S := Nat × Option Nat) (i + 1, some id98) (by (try dsimp only [accH, accV]); rw [hcs, List.length_append, List.length_map, List.length_map]; exact (by repeat (first | exact trivial | refine And.intro (Or.inl rfl) ?_ | refine And.intro (Or.inr (Exists.intro _ (And.intro rfl (Fz.refl _)))) ?_ | refine And.intro (Or.inr (Exists.intro _ (And.intro rfl (fz_eq (congrArg (AV.int _) (by omega)))))) ?_ | refine And.intro (Or.inr (Exists.intro _ (And.intro rfl (fz_eq (congrArg (AV.own _ _ _) (by (try dsimp only); (try simp only [List.length_append, List.length_map, List.length_cons, List.length_nil, List.length_take, List.length_set, List.length_replicate]); (try dsimp only); first | done | omega)))))) ?_))) (by (try dsimp only [accH]); rw [hcs, List.map_append]; exact sub_of) (by dsimp only; omega) ⟨by show i + 1 ≤ vs.length; omega, (fun q => by cases q), fun j q => by cases q; exact ⟨ht98, by omega⟩⟩
      · have hie : i = vs.length := by omega
        rw [← hie]
        (first | refine au ?_ | exact au0 | fail)
        exact accFz (o := some ida) (H := [(id5, .rows 4 [vlR (.mk k n x vs)])]) (by rw [List.length_map]) (fun q => by cases q) (fun _ _ => rfl) (FzR.refl _ _ _) (ptR_w _)
end Go.Proofs.YtmjdkeonjflanaaGreat
