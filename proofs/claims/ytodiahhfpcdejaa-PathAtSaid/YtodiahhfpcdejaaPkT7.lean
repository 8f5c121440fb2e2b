/- Texts of this proof, one behind the other: RFitSpec2, RFitSpec3, FitMath2, PathAtMath2, PathAt, PathRAt, PathRound, PathFind, SimRec, TypArg, NilTy, FitLaw, PathAtLaw. -/
import Derived.Test.YtodiahhfpcdejaaPkT6
/- Which values are of a type, in the reference, walked: parts, all. -/
namespace Go.Proofs.Ytodiahhfpcdejaa
set_option autoImplicit false
set_option linter.unusedSimpArgs false
set_option linter.unusedVariables false
attribute [local irreducible] callA callP ACalls
theorem accTup {o : Option Nat} {sz n : Nat} {l : List (List AV)} {H : AH} {b b' : Bool} (hn : n = l.length) (h0 : o = none → l = []) (hw : ∀ r ∈ l, r.length = sz) (hb : b = b') : Fz (accH o sz l H) [] (.tup [accV o sz n, .bool b]) (.tup [.rows sz l, .bool b']) := by
  subst hb
  exact Fz.tupL (FzL.cons (accFz hn h0 (fun _ _ => rfl) (FzR.refl _ _ _) hw) (FzL.cons (.refl _) (FzL.nil _ _)))
/-- Lists that grow by one. -/
structure Grow (N : Nat) (q : Nat → Int) (r : List Int) (c : Nat → List Int) : Prop where
  z : c 0 = []
  l : ∀ i, i ≤ N → (c i).length = i
  s : ∀ i, i < N → c (i + 1) = c i ++ [q i]
  e : c N = r
theorem grow_rep (N : Nat) (a : Int) : Grow N (fun _ => a) (List.replicate N a) (fun i => List.replicate i a) := ⟨rfl, fun i _ => List.length_replicate, fun i _ => List.replicate_succ', rfl⟩
theorem grow_map (its : List It) : Grow its.length (fun i => (its.getD i it0).ty) (its.map (·.ty)) (fun i => (its.take i).map (·.ty)) := ⟨rfl, fun i h => by simp; omega, fun i h => by rw [take_map_succ _ _ _ h, getD_get h], by rw [List.take_length]⟩
theorem r9_Parts_spec0 (l : List Ty) (hl : TysOk l) (t : Int) (h0 : 0 ≤ t) (h1 : t < l.length) (hb : (tAt l t).bd ≤ 1000) (v : Vl) (hok : vOk v) : ACalls PG broadsheetref09_Parts.n [tysA l, .int .i64 t, vlA v] [] fun r _ => r = .tup [.rows 1 ((partT l t v.num v.its.length).map inR), .bool (decide (¬ ((tAt l t).kd = 11 ∧ (tAt l t).bd < (v.its.length : Int))))] := by
  have hlen : (l.map tyR).length = l.length := by simp
  have hll := hl.len
  have hge := tAt_get h0 h1
  have hto := hl.all _ (tAt_mem h0 h1)
  have hB := fun H => r6_Branch_spec l hl t v.num H
  refine ACalls.fzK (broadsheetref09_Parts.of rfl (wpF_start ?_))
  obtain ⟨k, n, x, vs⟩ := v
  have hkl := vlRs_len vs
  simp only [vOk] at hok
  obtain ⟨_, _, hvl, _⟩ := hok
  have hpe := fun h => partT_el (l := l) (t := t) rfl h n vs.length
  have hpa := fun h => partT_ar (l := l) (t := t) rfl h n vs.length
  have hps := fun h => partT_st (l := l) (t := t) rfl h n vs.length
  have hlt := fun k => @brIx_lt l t n k
  have hpN : (tAt l t).kd = 14 → brIx l t n = none → partT l t n vs.length = [] := fun h q => by
    unfold partT; rw [if_neg (by omega), if_neg (by omega), if_neg (by omega), if_pos h, q]
  have hpS : ∀ k, (tAt l t).kd = 14 → brIx l t n = some k → partT l t n vs.length = [((tAt l t).its.getD k it0).ty] := fun k h q => by
    unfold partT; rw [if_neg (by omega), if_neg (by omega), if_neg (by omega), if_pos h, q]
  have hpo : ¬ ((tAt l t).kd = 11 ∨ (tAt l t).kd = 12 ∨ (tAt l t).kd = 13 ∨ (tAt l t).kd = 14) → partT l t n vs.length = [] := fun h => by
    unfold partT; rw [if_neg (by omega), if_neg (by omega), if_neg (by omega), if_neg (by omega)]
  generalize tAt l t = g at *
  (first | refine au ?_ | exact au0 | fail)
  intro id3 hid3 ht3; have n3 := neAll_of hid3; (try simp only [neAll, neAll_hset] at n3); have m3 := n3; (repeat (obtain ⟨_, m3⟩ := m3))
  (first | refine au ?_ | exact au0 | fail)
  rw [hge]
  (first | refine au ?_ | exact au0 | fail)
  intro id8 hid8 ht8; have n8 := neAll_of hid8; (try simp only [neAll, neAll_hset] at n8); have m8 := n8; (repeat (obtain ⟨_, m8⟩ := m8))
  (first | refine au ?_ | exact au0 | fail)
  refine bsplit_dec (fun c11 => ?_) (fun c11 => ?_)
  · obtain ⟨N, hN⟩ : ∃ N, N = vs.length := ⟨_, rfl⟩
    obtain ⟨c, gr⟩ := Exists.intro (p := fun c => Grow N (fun _ => g.el) (List.replicate N g.el) c) _ (grow_rep N g.el)
    rw [← hN] at hpe
    have hkl2 : (vlRs vs).length = N := by omega
    (first | refine au ?_ | exact au0 | fail)
    rw [show partT l t (Vl.mk k n x vs).num (Vl.mk k n x vs).its.length = List.replicate N g.el from (by rw [hN] at hpe ⊢; exact hpe c11), show (Vl.mk k n x vs).its.length = N from hN.symm]
    refine loopM (S := Nat × Option Nat) [(5, some _), (8, some _)] (fun s => [(9, some (accV s.2 1 s.1)), (10, some (.int .i64 (s.1 : Nat)))]) (fun s => accH s.2 1 ((c s.1).map inR) [(id8, .rows 6 [tyR g]), (id3, .rows 4 [vlR (.mk k n x vs)])]) (fun s => N - s.1) (fun s => s.1 ≤ N ∧ (s.2 = none → s.1 = 0) ∧ ∀ id, s.2 = some id → tag id = ty_int ∧ id ≠ id8 ∧ id ≠ id3) (0, none) (by repeat (first | exact trivial | refine And.intro (Or.inl rfl) ?_ | refine And.intro (Or.inr (Exists.intro _ (And.intro rfl (Fz.refl _)))) ?_ | refine And.intro (Or.inr (Exists.intro _ (And.intro rfl (fz_eq (congrArg (AV.int _) (by omega)))))) ?_ | refine And.intro (Or.inr (Exists.intro _ (And.intro rfl (fz_eq (congrArg (AV.own _ _ _) (by (try dsimp only); (try simp only [List.length_append, List.length_map, List.length_cons, List.length_nil, List.length_take, List.length_set, List.length_replicate]); (try dsimp only); first | done | omega)))))) ?_)) (Sub.refl _) ⟨Nat.zero_le _, fun _ => rfl, fun id q => by cases q⟩ (fun ⟨i, o⟩ hs => ?_)
    dsimp only at hs
    obtain ⟨hi, ho1, ho2⟩ := hs
    have hcl := gr.l i hi
    rcases o with _ | ida
    · have hi0 := ho1 rfl
      subst hi0
      dsimp only [accH, accV]
      (first | refine au ?_ | exact au0 | fail)
      refine bsplit_dec (fun cc => ?_) (fun cc => ?_)
      · have hcs := gr.s 0 (by omega)
        (first | refine au ?_ | exact au0 | fail)
        skip
        refine ⟨_, rfl, (Nat.le_of_ble_eq_true rfl), (fun q => by cases q), fun _ => ?_⟩
        intro id47 hid47 ht47; have n47 := neAll_of hid47; (try simp only [neAll, neAll_hset] at n47); have m47 := n47; (repeat (obtain ⟨_, m47⟩ := m47))
        (first | refine au ?_ | exact au0 | fail)
        refine nextS (S := Nat × Option Nat) (1, some id47) (by repeat (first | exact trivial | refine And.intro (Or.inl rfl) ?_ | refine And.intro (Or.inr (Exists.intro _ (And.intro rfl (Fz.refl _)))) ?_ | refine And.intro (Or.inr (Exists.intro _ (And.intro rfl (fz_eq (congrArg (AV.int _) (by omega)))))) ?_ | refine And.intro (Or.inr (Exists.intro _ (And.intro rfl (fz_eq (congrArg (AV.own _ _ _) (by (try dsimp only); (try simp only [List.length_append, List.length_map, List.length_cons, List.length_nil, List.length_take, List.length_set, List.length_replicate]); (try dsimp only); first | done | omega)))))) ?_)) (by dsimp only [accH]; rw [show c 1 = c 0 ++ _ from hcs, gr.z]; exact sub_of) (by dsimp only; omega) ⟨by show 1 ≤ N; omega, (fun q => by cases q), fun j q => by cases q; exact ⟨ht47, by omega, by omega⟩⟩
      · have hcN : (c 0).map inR = [] := by rw [gr.z]; rfl
        rw [← gr.e, show N = 0 from by omega]
        (first | refine au ?_ | exact au0 | fail)
        exact accTup (o := none) (n := 0) (by rw [hcN]; rfl) (fun _ => hcN) (map_w (f := inR) (fun _ => rfl) _) (by first | rfl | (rw [Bool.eq_iff_iff]; simp only [decide_eq_true_eq]; omega))
    · obtain ⟨hti, hd8, hd3⟩ := ho2 ida rfl
      dsimp only [accH, accV]
      (first | refine au ?_ | exact au0 | fail)
      refine bsplit_dec (fun cc => ?_) (fun cc => ?_)
      · have hcs := gr.s i (by omega)
        (first | refine au ?_ | exact au0 | fail)
        skip
        refine ⟨_, _, readS_all (by exact hg_of) (by ((try dsimp only); (try simp only [List.length_append, List.length_map, List.length_cons, List.length_nil, List.length_take, List.length_set, List.length_replicate]); (try dsimp only); first | done | omega)), rfl, rfl, rfl, (hti), (by ((try dsimp only); (try simp only [List.length_append, List.length_map, List.length_cons, List.length_nil, List.length_take, List.length_set, List.length_replicate]); (try dsimp only); first | done | omega)), ?_⟩
        intro id47 hid47 ht47; have n47 := neAll_of hid47; (try simp only [neAll, neAll_hset] at n47); have m47 := n47; (repeat (obtain ⟨_, m47⟩ := m47))
        (first | refine au ?_ | exact au0 | fail)
        refine nextS (S := Nat × Option Nat) (i + 1, some id47) (by repeat (first | exact trivial | refine And.intro (Or.inl rfl) ?_ | refine And.intro (Or.inr (Exists.intro _ (And.intro rfl (Fz.refl _)))) ?_ | refine And.intro (Or.inr (Exists.intro _ (And.intro rfl (fz_eq (congrArg (AV.int _) (by omega)))))) ?_ | refine And.intro (Or.inr (Exists.intro _ (And.intro rfl (fz_eq (congrArg (AV.own _ _ _) (by (try dsimp only); (try simp only [List.length_append, List.length_map, List.length_cons, List.length_nil, List.length_take, List.length_set, List.length_replicate]); (try dsimp only); first | done | omega)))))) ?_)) (by (try dsimp only [accH]); rw [hcs, List.map_append]; exact sub_of) (by first | omega | (dsimp only; omega)) ⟨by show i + 1 ≤ N; omega, (fun q => by cases q), fun j q => by cases q; exact ⟨ht47, by omega, by omega⟩⟩
      · rw [← gr.e, show N = i from by omega]
        (first | refine au ?_ | exact au0 | fail)
        exact accTup (o := some ida) (n := i) (H := [(id8, .rows 6 [tyR g]), (id3, .rows 4 [vlR (.mk k n x vs)])]) (by rw [List.length_map, hcl]) (fun q => by cases q) (map_w (f := inR) (fun _ => rfl) _) (by first | rfl | (rw [Bool.eq_iff_iff]; simp only [decide_eq_true_eq]; omega))
  have hok11 : (decide (¬ (g.kd = 11 ∧ g.bd < ((Vl.mk k n x vs).its.length : Int)))) = true := decide_eq_true (fun q => c11 q.1)
  rw [hok11]
  (first | refine au ?_ | exact au0 | fail)
  refine bsplit_dec (fun c12 => ?_) (fun c12 => ?_)
  · obtain ⟨N, hN⟩ : ∃ N, N = g.bd.toNat := ⟨_, rfl⟩
    obtain ⟨c, gr⟩ := Exists.intro (p := fun c => Grow N (fun _ => g.el) (List.replicate N g.el) c) _ (grow_rep N g.el)
    rw [show partT l t (Vl.mk k n x vs).num (Vl.mk k n x vs).its.length = List.replicate N g.el from (by rw [hN]; exact hpa c12)]
    (first | refine au ?_ | exact au0 | fail)
    refine loopM (S := Nat × Option Nat) [(8, some _)] (fun s => [(9, some (accV s.2 1 s.1)), (11, some (.int .i64 (s.1 : Nat)))]) (fun s => accH s.2 1 ((c s.1).map inR) [(id8, .rows 6 [tyR g]), (id3, .rows 4 [vlR (.mk k n x vs)])]) (fun s => N - s.1) (fun s => s.1 ≤ N ∧ (s.2 = none → s.1 = 0) ∧ ∀ id, s.2 = some id → tag id = ty_int ∧ id ≠ id8 ∧ id ≠ id3) (0, none) (by repeat (first | exact trivial | refine And.intro (Or.inl rfl) ?_ | refine And.intro (Or.inr (Exists.intro _ (And.intro rfl (Fz.refl _)))) ?_ | refine And.intro (Or.inr (Exists.intro _ (And.intro rfl (fz_eq (congrArg (AV.int _) (by omega)))))) ?_ | refine And.intro (Or.inr (Exists.intro _ (And.intro rfl (fz_eq (congrArg (AV.own _ _ _) (by (try dsimp only); (try simp only [List.length_append, List.length_map, List.length_cons, List.length_nil, List.length_take, List.length_set, List.length_replicate]); (try dsimp only); first | done | omega)))))) ?_)) (Sub.refl _) ⟨Nat.zero_le _, fun _ => rfl, fun id q => by cases q⟩ (fun ⟨i, o⟩ hs => ?_)
    dsimp only at hs
    obtain ⟨hi, ho1, ho2⟩ := hs
    have hcl := gr.l i hi
    rcases o with _ | ida
    · have hi0 := ho1 rfl
      subst hi0
      dsimp only [accH, accV]
      (first | refine au ?_ | exact au0 | fail)
      refine bsplit_dec (fun cc => ?_) (fun cc => ?_)
      · have hcs := gr.s 0 (by omega)
        (first | refine au ?_ | exact au0 | fail)
        skip
        refine ⟨_, rfl, (Nat.le_of_ble_eq_true rfl), (fun q => by cases q), fun _ => ?_⟩
        intro id47 hid47 ht47; have n47 := neAll_of hid47; (try simp only [neAll, neAll_hset] at n47); have m47 := n47; (repeat (obtain ⟨_, m47⟩ := m47))
        (first | refine au ?_ | exact au0 | fail)
        refine nextS (S := Nat × Option Nat) (1, some id47) (by repeat (first | exact trivial | refine And.intro (Or.inl rfl) ?_ | refine And.intro (Or.inr (Exists.intro _ (And.intro rfl (Fz.refl _)))) ?_ | refine And.intro (Or.inr (Exists.intro _ (And.intro rfl (fz_eq (congrArg (AV.int _) (by omega)))))) ?_ | refine And.intro (Or.inr (Exists.intro _ (And.intro rfl (fz_eq (congrArg (AV.own _ _ _) (by (try dsimp only); (try simp only [List.length_append, List.length_map, List.length_cons, List.length_nil, List.length_take, List.length_set, List.length_replicate]); (try dsimp only); first | done | omega)))))) ?_)) (by dsimp only [accH]; rw [show c 1 = c 0 ++ _ from hcs, gr.z]; exact sub_of) (by dsimp only; omega) ⟨by show 1 ≤ N; omega, (fun q => by cases q), fun j q => by cases q; exact ⟨ht47, by omega, by omega⟩⟩
      · have hcN : (c 0).map inR = [] := by rw [gr.z]; rfl
        rw [← gr.e, show N = 0 from by omega]
        (first | refine au ?_ | exact au0 | fail)
        exact accTup (o := none) (n := 0) (by rw [hcN]; rfl) (fun _ => hcN) (map_w (f := inR) (fun _ => rfl) _) (by first | rfl | (rw [Bool.eq_iff_iff]; simp only [decide_eq_true_eq]; omega))
    · obtain ⟨hti, hd8, hd3⟩ := ho2 ida rfl
      dsimp only [accH, accV]
      (first | refine au ?_ | exact au0 | fail)
      refine bsplit_dec (fun cc => ?_) (fun cc => ?_)
      · have hcs := gr.s i (by omega)
        (first | refine au ?_ | exact au0 | fail)
        skip
        refine ⟨_, _, readS_all (by exact hg_of) (by ((try dsimp only); (try simp only [List.length_append, List.length_map, List.length_cons, List.length_nil, List.length_take, List.length_set, List.length_replicate]); (try dsimp only); first | done | omega)), rfl, rfl, rfl, (hti), (by ((try dsimp only); (try simp only [List.length_append, List.length_map, List.length_cons, List.length_nil, List.length_take, List.length_set, List.length_replicate]); (try dsimp only); first | done | omega)), ?_⟩
        intro id47 hid47 ht47; have n47 := neAll_of hid47; (try simp only [neAll, neAll_hset] at n47); have m47 := n47; (repeat (obtain ⟨_, m47⟩ := m47))
        (first | refine au ?_ | exact au0 | fail)
        refine nextS (S := Nat × Option Nat) (i + 1, some id47) (by repeat (first | exact trivial | refine And.intro (Or.inl rfl) ?_ | refine And.intro (Or.inr (Exists.intro _ (And.intro rfl (Fz.refl _)))) ?_ | refine And.intro (Or.inr (Exists.intro _ (And.intro rfl (fz_eq (congrArg (AV.int _) (by omega)))))) ?_ | refine And.intro (Or.inr (Exists.intro _ (And.intro rfl (fz_eq (congrArg (AV.own _ _ _) (by (try dsimp only); (try simp only [List.length_append, List.length_map, List.length_cons, List.length_nil, List.length_take, List.length_set, List.length_replicate]); (try dsimp only); first | done | omega)))))) ?_)) (by (try dsimp only [accH]); rw [hcs, List.map_append]; exact sub_of) (by first | omega | (dsimp only; omega)) ⟨by show i + 1 ≤ N; omega, (fun q => by cases q), fun j q => by cases q; exact ⟨ht47, by omega, by omega⟩⟩
      · rw [← gr.e, show N = i from by omega]
        (first | refine au ?_ | exact au0 | fail)
        exact accTup (o := some ida) (n := i) (H := [(id8, .rows 6 [tyR g]), (id3, .rows 4 [vlR (.mk k n x vs)])]) (by rw [List.length_map, hcl]) (fun q => by cases q) (map_w (f := inR) (fun _ => rfl) _) (by first | rfl | (rw [Bool.eq_iff_iff]; simp only [decide_eq_true_eq]; omega))
  (first | refine au ?_ | exact au0 | fail)
  refine bsplit_dec (fun c13 => ?_) (fun c13 => ?_)
  · obtain ⟨N, hN⟩ : ∃ N, N = g.its.length := ⟨_, rfl⟩
    have hli := hto.its
    have hlen2 : (g.its.map itR).length = N := by simp [hN]
    have hge2 : ∀ i, i < N → (g.its.map itR).getD (Int.toNat (i : Nat)) [] = itR (g.its.getD i it0) := fun i h => by rw [getD_get (show i < g.its.length by omega)]; exact row_get (f := itR) (l := g.its) (by omega)
    obtain ⟨c, gr⟩ := Exists.intro (p := fun c => Grow N (fun i => (g.its.getD i it0).ty) (g.its.map (·.ty)) c) _ (by rw [hN]; exact grow_map g.its)
    rw [show partT l t (Vl.mk k n x vs).num (Vl.mk k n x vs).its.length = g.its.map (·.ty) from hps c13]
    (first | refine au ?_ | exact au0 | fail)
    refine loopM (S := Nat × Option Nat) [(8, some _)] (fun s => [(9, some (accV s.2 1 s.1)), (12, some (.int .i64 (s.1 : Nat)))]) (fun s => accH s.2 1 ((c s.1).map inR) [(id8, .rows 6 [tyR g]), (id3, .rows 4 [vlR (.mk k n x vs)])]) (fun s => N - s.1) (fun s => s.1 ≤ N ∧ (s.2 = none → s.1 = 0) ∧ ∀ id, s.2 = some id → tag id = ty_int ∧ id ≠ id8 ∧ id ≠ id3) (0, none) (by repeat (first | exact trivial | refine And.intro (Or.inl rfl) ?_ | refine And.intro (Or.inr (Exists.intro _ (And.intro rfl (Fz.refl _)))) ?_ | refine And.intro (Or.inr (Exists.intro _ (And.intro rfl (fz_eq (congrArg (AV.int _) (by omega)))))) ?_ | refine And.intro (Or.inr (Exists.intro _ (And.intro rfl (fz_eq (congrArg (AV.own _ _ _) (by (try dsimp only); (try simp only [List.length_append, List.length_map, List.length_cons, List.length_nil, List.length_take, List.length_set, List.length_replicate]); (try dsimp only); first | done | omega)))))) ?_)) (Sub.refl _) ⟨Nat.zero_le _, fun _ => rfl, fun id q => by cases q⟩ (fun ⟨i, o⟩ hs => ?_)
    dsimp only at hs
    obtain ⟨hi, ho1, ho2⟩ := hs
    have hcl := gr.l i hi
    rcases o with _ | ida
    · have hi0 := ho1 rfl
      subst hi0
      dsimp only [accH, accV]
      (first | refine au ?_ | exact au0 | fail)
      refine bsplit_dec (fun cc => ?_) (fun cc => ?_)
      · have hcs := gr.s 0 (by omega)
        (first | refine au ?_ | exact au0 | fail)
        (rw [hge2 _ (by omega)]; (first | refine au ?_ | exact au0 | fail))
        refine ⟨_, rfl, (Nat.le_of_ble_eq_true rfl), (fun q => by cases q), fun _ => ?_⟩
        intro id47 hid47 ht47; have n47 := neAll_of hid47; (try simp only [neAll, neAll_hset] at n47); have m47 := n47; (repeat (obtain ⟨_, m47⟩ := m47))
        (first | refine au ?_ | exact au0 | fail)
        refine nextS (S := Nat × Option Nat) (1, some id47) (by repeat (first | exact trivial | refine And.intro (Or.inl rfl) ?_ | refine And.intro (Or.inr (Exists.intro _ (And.intro rfl (Fz.refl _)))) ?_ | refine And.intro (Or.inr (Exists.intro _ (And.intro rfl (fz_eq (congrArg (AV.int _) (by omega)))))) ?_ | refine And.intro (Or.inr (Exists.intro _ (And.intro rfl (fz_eq (congrArg (AV.own _ _ _) (by (try dsimp only); (try simp only [List.length_append, List.length_map, List.length_cons, List.length_nil, List.length_take, List.length_set, List.length_replicate]); (try dsimp only); first | done | omega)))))) ?_)) (by dsimp only [accH]; rw [show c 1 = c 0 ++ _ from hcs, gr.z]; exact sub_of) (by dsimp only; omega) ⟨by show 1 ≤ N; omega, (fun q => by cases q), fun j q => by cases q; exact ⟨ht47, by omega, by omega⟩⟩
      · have hcN : (c 0).map inR = [] := by rw [gr.z]; rfl
        rw [← gr.e, show N = 0 from by omega]
        (first | refine au ?_ | exact au0 | fail)
        exact accTup (o := none) (n := 0) (by rw [hcN]; rfl) (fun _ => hcN) (map_w (f := inR) (fun _ => rfl) _) (by first | rfl | (rw [Bool.eq_iff_iff]; simp only [decide_eq_true_eq]; omega))
    · obtain ⟨hti, hd8, hd3⟩ := ho2 ida rfl
      dsimp only [accH, accV]
      (first | refine au ?_ | exact au0 | fail)
      refine bsplit_dec (fun cc => ?_) (fun cc => ?_)
      · have hcs := gr.s i (by omega)
        (first | refine au ?_ | exact au0 | fail)
        (rw [hge2 _ (by omega)]; (first | refine au ?_ | exact au0 | fail))
        refine ⟨_, _, readS_all (by exact hg_of) (by ((try dsimp only); (try simp only [List.length_append, List.length_map, List.length_cons, List.length_nil, List.length_take, List.length_set, List.length_replicate]); (try dsimp only); first | done | omega)), rfl, rfl, rfl, (hti), (by ((try dsimp only); (try simp only [List.length_append, List.length_map, List.length_cons, List.length_nil, List.length_take, List.length_set, List.length_replicate]); (try dsimp only); first | done | omega)), ?_⟩
        intro id47 hid47 ht47; have n47 := neAll_of hid47; (try simp only [neAll, neAll_hset] at n47); have m47 := n47; (repeat (obtain ⟨_, m47⟩ := m47))
        (first | refine au ?_ | exact au0 | fail)
        refine nextS (S := Nat × Option Nat) (i + 1, some id47) (by repeat (first | exact trivial | refine And.intro (Or.inl rfl) ?_ | refine And.intro (Or.inr (Exists.intro _ (And.intro rfl (Fz.refl _)))) ?_ | refine And.intro (Or.inr (Exists.intro _ (And.intro rfl (fz_eq (congrArg (AV.int _) (by omega)))))) ?_ | refine And.intro (Or.inr (Exists.intro _ (And.intro rfl (fz_eq (congrArg (AV.own _ _ _) (by (try dsimp only); (try simp only [List.length_append, List.length_map, List.length_cons, List.length_nil, List.length_take, List.length_set, List.length_replicate]); (try dsimp only); first | done | omega)))))) ?_)) (by (try dsimp only [accH]); rw [hcs, List.map_append]; exact sub_of) (by first | omega | (dsimp only; omega)) ⟨by show i + 1 ≤ N; omega, (fun q => by cases q), fun j q => by cases q; exact ⟨ht47, by omega, by omega⟩⟩
      · rw [← gr.e, show N = i from by omega]
        (first | refine au ?_ | exact au0 | fail)
        exact accTup (o := some ida) (n := i) (H := [(id8, .rows 6 [tyR g]), (id3, .rows 4 [vlR (.mk k n x vs)])]) (by rw [List.length_map, hcl]) (fun q => by cases q) (map_w (f := inR) (fun _ => rfl) _) (by first | rfl | (rw [Bool.eq_iff_iff]; simp only [decide_eq_true_eq]; omega))
  (first | refine au ?_ | exact au0 | fail)
  refine bsplit_dec (fun c14 => ?_) (fun c14 => ?_)
  · have hlen2 : (g.its.map itR).length = g.its.length := by simp
    generalize hbr : brIx l t n = o at *
    have hB : ∀ H, ACalls PG broadsheetref06_Branch.n [tysA l, .int .i64 t, .int .u64 (n : Nat)] H fun r H' => r = ixN o ∧ H' = H := fun H => by
      have := hB H
      rw [show brIx l t (Vl.mk k n x vs).num = o from hbr] at this
      exact this
    cases o with
    | none =>
      rw [show partT l t (Vl.mk k n x vs).num (Vl.mk k n x vs).its.length = _ from hpN c14 rfl]
      (first | refine au ?_ | exact au0 | fail)
      first | refine callF_eq (hB _) ?_ | refine callG_eq rfl (hB _) ?_
      (first | refine au ?_ | exact au0 | fail)
      exact accTup (o := none) (n := 0) (l := []) (H := [(id8, .rows 6 [tyR g]), (id3, .rows 4 [vlR (.mk k n x vs)])]) rfl (fun _ => rfl) (by simp) rfl
    | some j =>
      have hj := hlt j rfl
      have hge2 := row_get (f := itR) hj
      rw [show partT l t (Vl.mk k n x vs).num (Vl.mk k n x vs).its.length = _ from hpS j c14 rfl, getD_get hj]
      generalize g.its[j] = y at *
      (first | refine au ?_ | exact au0 | fail)
      first | refine callF_eq (hB _) ?_ | refine callG_eq rfl (hB _) ?_
      (first | refine au ?_ | exact au0 | fail)
      rw [hge2]
      (first | refine au ?_ | exact au0 | fail)
      refine ⟨_, rfl, (Nat.le_of_ble_eq_true rfl), (fun q => by cases q), fun _ => ?_⟩
      intro id47 hid47 ht47; have n47 := neAll_of hid47; (try simp only [neAll, neAll_hset] at n47); have m47 := n47; (repeat (obtain ⟨_, m47⟩ := m47))
      (first | refine au ?_ | exact au0 | fail)
      exact accTup (o := some id47) (n := 1) (l := [inR y.ty]) (H := [(id8, .rows 6 [tyR g]), (id3, .rows 4 [vlR (.mk k n x vs)])]) rfl (fun q => by cases q) (by simp) rfl
  · rw [show partT l t (Vl.mk k n x vs).num (Vl.mk k n x vs).its.length = [] from hpo (by omega)]
    (first | refine au ?_ | exact au0 | fail)
    exact accTup (o := none) (n := 0) (l := []) (H := [(id8, .rows 6 [tyR g]), (id3, .rows 4 [vlR (.mk k n x vs)])]) rfl (fun _ => rfl) (by simp) rfl
end Go.Proofs.Ytodiahhfpcdejaa

/- Which values are of a type, in the reference, walked: all. -/
namespace Go.Proofs.Ytodiahhfpcdejaa
set_option autoImplicit false
set_option linter.unusedSimpArgs false
set_option linter.unusedVariables false
attribute [local irreducible] callA callP ACalls
theorem r9_Parts_spec (l : List Ty) (hl : TysOk l) (t : Int) (h0 : 0 ≤ t) (h1 : t < l.length) (hb : (tAt l t).bd ≤ 1000) (v : Vl) (hok : vOk v) (H : AH) : ACalls PG broadsheetref09_Parts.n [tysA l, .int .i64 t, vlA v] H fun r H' => r = .tup [.rows 1 ((partT l t v.num v.its.length).map inR), .bool (decide (¬ ((tAt l t).kd = 11 ∧ (tAt l t).bd < (v.its.length : Int))))] ∧ H' = H := (r9_Parts_spec0 l hl t h0 h1 hb v hok).frame H
theorem TyG.more {l : List Ty} {n : Nat} {t : Ty} (h : TyG l n t) : tyMore t = false ∧ t.its.any (itMore t.kd) = false := by
  have := h.form
  unfold formE at this
  split at this
  · cases this
  · split at this
    · cases this
    · rename_i q
      constructor
      · cases hm : tyMore t
        · rfl
        · exact absurd (.inl hm) q
      · cases hm : t.its.any (itMore t.kd)
        · rfl
        · exact absurd (.inr hm) q
theorem TyG.bd0 {l : List Ty} {n : Nat} {t : Ty} (h : TyG l n t) (hb : kBd t.kd = false) : t.bd = 0 := by
  have := h.more.1
  simp only [tyMore, decide_eq_false_iff_not] at this
  apply Classical.byContradiction
  intro q
  exact this (.inr (.inl ⟨hb, q⟩))
/-- What the reference's 'fits' is known to answer. -/
def RFitC (l : List Ty) (v : Vl) : Prop := ∀ t : Int, 0 ≤ t → t < l.length → ∀ H, ACalls PG broadsheetref09_fits.n [tysA l, .int .i64 t, vlA v] H fun r H' => r = .int .i64 (fitE l t v) ∧ H' = H
theorem partT_in {l : List Ty} {t : Int} {j : Nat} (hG : TyG l j (tAt l t)) (n m : Nat) : ∀ p ∈ partT l t n m, 0 ≤ p ∧ p < j := by
  have hp := hG.parts
  intro p h
  unfold partT at h
  split at h
  · rename_i c
    rw [List.eq_of_mem_replicate h]
    exact hp _ (by unfold parts; rw [show kEl (tAt l t).kd = true from by simp [kEl, c]]; simp)
  · split at h
    · rename_i c
      rw [List.eq_of_mem_replicate h]
      exact hp _ (by unfold parts; rw [show kEl (tAt l t).kd = true from by simp [kEl, c]]; simp)
    · split at h
      · rename_i c
        obtain ⟨y, hy, rfl⟩ := List.mem_map.1 h
        exact hp _ (parts_item (.inl c) hy)
      · split at h
        · rename_i c
          split at h
          · rename_i k hk
            simp only [List.mem_singleton] at h
            rw [h, getD_get (brIx_lt hk)]
            exact hp _ (parts_item (.inr c) (List.getElem_mem _))
          · cases h
        · cases h
theorem r9_fits_spec (l : List Ty) (hl : TysOk l) (hv : TyV l) : ∀ (m : Nat) (v : Vl), SizeOf.sizeOf v < m → vOk v → RFitC l v
  | 0, v, h, _ => by omega
  | m + 1, .mk k n x vs, hsz, hok => by
    intro t h0 h1 H
    have ih : ∀ w ∈ vs, RFitC l w := fun w hw => by
      simp only [vOk] at hok
      simp only [Vl.mk.sizeOf_spec] at hsz
      have := List.sizeOf_lt_of_mem hw
      exact r9_fits_spec l hl hv m w (by omega) (vOks_mem hok.2.2.2 _ hw)
    have hlen : (l.map tyR).length = l.length := by simp
    have hll := hl.len
    have hge := tAt_get h0 h1
    have hG := hv.tAt h0 h1
    have hkd := hG.kd
    have hbb : (tAt l t).bd ≤ 1000 := by
      cases hB : kBd (tAt l t).kd
      · have := hG.bd0 hB; omega
      · have := hG.bd hB; omega
    have hpi := partT_in hG n vs.length
    have hPt : ∀ H, ACalls PG broadsheetref09_Parts.n [tysA l, .int .i64 t, vlA (.mk k n x vs)] H fun r H' => r = .tup [.rows 1 ((partT l t n vs.length).map inR), .bool (decide (¬ ((tAt l t).kd = 11 ∧ (tAt l t).bd < (vs.length : Int))))] ∧ H' = H := fun H => r9_Parts_spec l hl t h0 h1 hbb (.mk k n x vs) hok H
    have hZ := fun H => r9_zero_spec (.mk k n x vs) hok H
    have hN := fun H => r9_number_spec l hl t h0 h1 n (by simp only [vOk] at hok; exact hok.1) H
    have hN14 := fun (h : (tAt l t).kd = 14) H => r9_number_spec l hl (tAt l t).tg (by have := hG.parts _ (parts_tag h); omega) (by have := hG.parts _ (parts_tag h); omega) n (by simp only [vOk] at hok; exact hok.1) H
    have hE := fitE_eq l t k n x vs
    have hvz : vZero k n x vs.length = decide (¬ ((n ≠ 0 ∧ 10 ≤ k ∧ k ≤ 13) ∨ (x ≠ [] ∧ k ≠ 10)) ∧ (vs.length = 0 ∨ 11 ≤ k)) := rfl
    simp only [Vl.kd, Vl.num, Vl.tx, Vl.its] at hZ
    have hkl := vlRs_len vs
    simp only [vOk] at hok
    obtain ⟨hnn, hxl, hvl, hks⟩ := hok
    refine ACalls.fz (broadsheetref09_fits.of rfl (wpF_start ?_))
    generalize tAt l t = g at *
    (first | refine au ?_ | exact au0 | fail)
    intro id5 hid5 ht5; have n5 := neAll_of hid5; (try simp only [neAll, neAll_hset] at n5); have m5 := n5; (repeat (obtain ⟨_, m5⟩ := m5))
    (first | refine au ?_ | exact au0 | fail)
    rw [hge]
    (first | refine au ?_ | exact au0 | fail)
    intro id7 hid7 ht7; have n7 := neAll_of hid7; (try simp only [neAll, neAll_hset] at n7); have m7 := n7; (repeat (obtain ⟨_, m7⟩ := m7))
    (first | refine au ?_ | exact au0 | fail)
    refine bsplit_dec (fun c => ?_) (fun c => ?_)
    · rw [if_pos c] at hE
      (first | refine au ?_ | exact au0 | fail)
      rw [hE]
      exact ⟨fz_of, sub_of⟩
    have hk : k = g.kd := Classical.not_not.1 c
    rw [if_neg c] at hE
    (first | refine au ?_ | exact au0 | fail)
    first | refine callF_eq (hZ _) ?_ | refine callG_eq rfl (hZ _) ?_
    cases hz : vZero k n x vs.length
    · rw [if_pos hz] at hE
      (first | refine au ?_ | exact au0 | fail)
      rw [hE]
      exact ⟨fz_of, sub_of⟩
    rw [if_neg (by rw [hz]; simp)] at hE
    rw [hz] at hvz
    have hvz2 := of_decide_eq_true hvz.symm
    clear hvz hZ hz
    have hx0 : k ≠ 10 → x = [] := fun q => Classical.byContradiction fun q2 => hvz2.1 (.inr ⟨q2, q⟩)
    have hm0 : k ≤ 10 → vs.length = 0 := fun q => by have := hvz2.2; omega
    clear hvz2
    (first | refine ab ?_ | exact ab0 | fail)
    refine joinP [(0, some (tysA l)), (1, some (.int .i64 t)), (5, some (.ptr id5 4 0 0)), (7, some (.ptr id7 6 0 0))] ((id7, .rows 6 [tyR g]) :: (id5, .rows 4 [vlR (.mk k n x vs)]) :: H) (¬ ((isNum k = true ∧ numT l t n = false) ∨ (k = 14 ∧ numT l g.tg n = false))) ?_ (fun p1 => ?_)
    · have hI : isNum k = decide (1 ≤ k ∧ k ≤ 9) := rfl
      by_cases c9 : g.kd ≤ 9
      · have hI9 : isNum k = true := by rw [hI]; exact decide_eq_true (by omega)
        obtain ⟨b, hb⟩ : ∃ b, numT l t n = b := ⟨_, rfl⟩
        rw [hb] at hN hE ⊢
        (first | refine au ?_ | exact au0 | fail)
        first | refine callF_eq (hN _) ?_ | refine callG_eq rfl (hN _) ?_
        cases b
        · rw [if_pos (.inl ⟨hI9, rfl⟩)] at hE
          (first | refine au ?_ | exact au0 | fail)
          rw [hE]
          exact ⟨fz_of, sub_of⟩
        · (first | refine au ?_ | exact au0 | fail)
          exact metP (by repeat (first | exact trivial | refine And.intro (Or.inl rfl) ?_ | refine And.intro (Or.inr (Exists.intro _ (And.intro rfl (Fz.refl _)))) ?_ | refine And.intro (Or.inr (Exists.intro _ (And.intro rfl (fz_eq (congrArg (AV.int _) (by omega)))))) ?_ | refine And.intro (Or.inr (Exists.intro _ (And.intro rfl (fz_eq (congrArg (AV.own _ _ _) (by (try dsimp only); (try simp only [List.length_append, List.length_map, List.length_cons, List.length_nil, List.length_take, List.length_set, List.length_replicate]); (try dsimp only); first | done | omega)))))) ?_)) sub_of (fun q => by rcases q with ⟨_, q⟩ | ⟨q, _⟩; cases q; omega)
      · have hI9 : isNum k = false := by rw [hI]; exact decide_eq_false (by omega)
        by_cases c14 : g.kd = 14
        · replace hN14 := hN14 c14
          obtain ⟨b, hb⟩ : ∃ b, numT l g.tg n = b := ⟨_, rfl⟩
          rw [hb] at hN14 hE ⊢
          (first | refine au ?_ | exact au0 | fail)
          first | refine callF_eq (hN14 _) ?_ | refine callG_eq rfl (hN14 _) ?_
          cases b
          · rw [if_pos (.inr ⟨by omega, rfl⟩)] at hE
            (first | refine au ?_ | exact au0 | fail)
            rw [hE]
            exact ⟨fz_of, sub_of⟩
          · (first | refine au ?_ | exact au0 | fail)
            exact metP (by repeat (first | exact trivial | refine And.intro (Or.inl rfl) ?_ | refine And.intro (Or.inr (Exists.intro _ (And.intro rfl (Fz.refl _)))) ?_ | refine And.intro (Or.inr (Exists.intro _ (And.intro rfl (fz_eq (congrArg (AV.int _) (by omega)))))) ?_ | refine And.intro (Or.inr (Exists.intro _ (And.intro rfl (fz_eq (congrArg (AV.own _ _ _) (by (try dsimp only); (try simp only [List.length_append, List.length_map, List.length_cons, List.length_nil, List.length_take, List.length_set, List.length_replicate]); (try dsimp only); first | done | omega)))))) ?_)) sub_of (fun q => by rcases q with ⟨q, _⟩ | ⟨_, q⟩; rw [hI9] at q; cases q; cases q)
        · (first | refine au ?_ | exact au0 | fail)
          exact metP (by repeat (first | exact trivial | refine And.intro (Or.inl rfl) ?_ | refine And.intro (Or.inr (Exists.intro _ (And.intro rfl (Fz.refl _)))) ?_ | refine And.intro (Or.inr (Exists.intro _ (And.intro rfl (fz_eq (congrArg (AV.int _) (by omega)))))) ?_ | refine And.intro (Or.inr (Exists.intro _ (And.intro rfl (fz_eq (congrArg (AV.own _ _ _) (by (try dsimp only); (try simp only [List.length_append, List.length_map, List.length_cons, List.length_nil, List.length_take, List.length_set, List.length_replicate]); (try dsimp only); first | done | omega)))))) ?_)) sub_of (fun q => by rcases q with ⟨q, _⟩ | ⟨q, _⟩; rw [hI9] at q; cases q; omega)
    rw [if_neg p1] at hE
    clear hN hN14 p1
    (first | refine ab ?_ | exact ab0 | fail)
    refine joinP [(0, some (tysA l)), (1, some (.int .i64 t)), (5, some (.ptr id5 4 0 0)), (7, some (.ptr id7 6 0 0))] ((id7, .rows 6 [tyR g]) :: (id5, .rows 4 [vlR (.mk k n x vs)]) :: H) (¬ (k = 10 ∧ g.bd < (x.length : Int))) ?_ (fun p2 => ?_)
    · (repeat' (first | (refine au ?_; first | refine bsplit_dec (fun _ => ?_) (fun _ => ?_) | refine bsplit_intro (fun _ => ?_) (fun _ => ?_)) | exact au0 | fail)); (all_goals try (first | refine au ?_ | fail))
      all_goals first
        | (exact metP (by repeat (first | exact trivial | refine And.intro (Or.inl rfl) ?_ | refine And.intro (Or.inr (Exists.intro _ (And.intro rfl (Fz.refl _)))) ?_ | refine And.intro (Or.inr (Exists.intro _ (And.intro rfl (fz_eq (congrArg (AV.int _) (by omega)))))) ?_ | refine And.intro (Or.inr (Exists.intro _ (And.intro rfl (fz_eq (congrArg (AV.own _ _ _) (by (try dsimp only); (try simp only [List.length_append, List.length_map, List.length_cons, List.length_nil, List.length_take, List.length_set, List.length_replicate]); (try dsimp only); first | done | omega)))))) ?_)) sub_of (by omega))
        | (rw [if_pos (by omega)] at hE; rw [hE]; exact ⟨fz_of, sub_of⟩)
    rw [if_neg p2] at hE
    (first | refine au ?_ | exact au0 | fail)
    refine loopL [(0, some _), (1, some _), (5, some _)] 8 0 x.length (fun i => ∀ j, j < i → x.getD j 0 ≠ 0) (by repeat (first | exact trivial | refine And.intro (Or.inl rfl) ?_ | refine And.intro (Or.inr (Exists.intro _ (And.intro rfl (Fz.refl _)))) ?_ | refine And.intro (Or.inr (Exists.intro _ (And.intro rfl (fz_eq (congrArg (AV.int _) (by omega)))))) ?_ | refine And.intro (Or.inr (Exists.intro _ (And.intro rfl (fz_eq (congrArg (AV.own _ _ _) (by (try dsimp only); (try simp only [List.length_append, List.length_map, List.length_cons, List.length_nil, List.length_take, List.length_set, List.length_replicate]); (try dsimp only); first | done | omega)))))) ?_)) (Nat.zero_le _) (fun j h => by omega) (fun i hi hno => ?_)
    (first | refine au ?_ | exact au0 | fail)
    refine bsplit_dec (fun c1 => ?_) (fun c1 => ?_)
    · have hil : i < x.length := by omega
      have hk10 : k = 10 := Classical.byContradiction fun q => by rw [hx0 q] at hil; simp at hil
      (first | refine au ?_ | exact au0 | fail)
      refine bsplit_dec (fun c2 => ?_) (fun c2 => ?_)
      · have hc0 : x.contains 0 = true := by
          rw [List.contains_iff_mem]
          have e0 : x.getD i 0 = 0 := UInt8.toNat.inj (by rw [Int.toNat_natCast] at c2; show (x.getD i 0).toNat = 0; omega)
          rw [getD_get hil] at e0
          rw [← e0]; exact List.getElem_mem hil
        rw [if_pos ⟨hk10, hc0⟩] at hE
        (first | refine au ?_ | exact au0 | fail)
        rw [hE]
        exact ⟨fz_of, sub_of⟩
      · (first | refine au ?_ | exact au0 | fail)
        refine nextN (by repeat (first | exact trivial | refine And.intro (Or.inl rfl) ?_ | refine And.intro (Or.inr (Exists.intro _ (And.intro rfl (Fz.refl _)))) ?_ | refine And.intro (Or.inr (Exists.intro _ (And.intro rfl (fz_eq (congrArg (AV.int _) (by omega)))))) ?_ | refine And.intro (Or.inr (Exists.intro _ (And.intro rfl (fz_eq (congrArg (AV.own _ _ _) (by (try dsimp only); (try simp only [List.length_append, List.length_map, List.length_cons, List.length_nil, List.length_take, List.length_set, List.length_replicate]); (try dsimp only); first | done | omega)))))) ?_)) (by exact sub_of) (by omega) (fun j hj => ?_)
        by_cases e : j = i
        · subst e; intro q; rw [Int.toNat_natCast, q] at c2; exact c2 rfl
        · exact hno j (by omega)
    have hc0 : x.contains 0 = false := by
      cases hc : x.contains 0
      · rfl
      · rw [List.contains_iff_mem] at hc
        obtain ⟨j, hj, e⟩ := List.getElem_of_mem hc
        exact absurd (by rw [getD_get hj]; exact e) (hno j (by omega))
    rw [if_neg (fun q => by rw [hc0] at q; cases q.2)] at hE
    clear hc0 hno hx0 hm0
    (first | refine au ?_ | exact au0 | fail)
    by_cases c3 : k = 11 ∧ g.bd < (vs.length : Int)
    · rw [if_pos c3] at hE
      have ed : decide (¬ (g.kd = 11 ∧ g.bd < (vs.length : Int))) = false := decide_eq_false (fun q => q ⟨by omega, c3.2⟩)
      rw [ed] at hPt
      first | refine callF_eq (hPt _) ?_ | refine callG_eq rfl (hPt _) ?_
      (first | refine au ?_ | exact au0 | fail)
      rw [hE]
      exact ⟨fz_of, sub_of⟩
    rw [if_neg c3] at hE
    have ed : decide (¬ (g.kd = 11 ∧ g.bd < (vs.length : Int))) = true := decide_eq_true (fun q => c3 ⟨by omega, q.2⟩)
    rw [ed] at hPt
    clear c3 p2
    first | refine callF_eq (hPt _) ?_ | refine callG_eq rfl (hPt _) ?_
    generalize partT l t n vs.length = ps at *
    have hplm : (ps.map inR).length = ps.length := by simp
    (first | refine au ?_ | exact au0 | fail)
    have eN : fitN l ps vs = if ps.length ≠ vs.length then 18 else fitEs l ps vs := rfl
    rw [eN] at hE
    refine bsplit_dec (fun c4 => ?_) (fun c4 => ?_)
    · rw [if_pos (by omega)] at hE
      (first | refine au ?_ | exact au0 | fail)
      rw [hE]
      exact ⟨fz_of, sub_of⟩
    rw [if_neg (by omega)] at hE
    rw [hE]
    clear hE eN hPt
    (first | refine au ?_ | exact au0 | fail)
    refine loopL [(0, some _), (5, some _), (9, some _)] 11 0 ps.length (fun i => ∀ (k : Nat) (h1 : k < ps.length) (h2 : k < vs.length), k < i → fitE l ps[k] vs[k] = 0) (by repeat (first | exact trivial | refine And.intro (Or.inl rfl) ?_ | refine And.intro (Or.inr (Exists.intro _ (And.intro rfl (Fz.refl _)))) ?_ | refine And.intro (Or.inr (Exists.intro _ (And.intro rfl (fz_eq (congrArg (AV.int _) (by omega)))))) ?_ | refine And.intro (Or.inr (Exists.intro _ (And.intro rfl (fz_eq (congrArg (AV.own _ _ _) (by (try dsimp only); (try simp only [List.length_append, List.length_map, List.length_cons, List.length_nil, List.length_take, List.length_set, List.length_replicate]); (try dsimp only); first | done | omega)))))) ?_)) (Nat.zero_le _) (fun k _ _ h => by omega) (fun i hi hno => ?_)
    (first | refine au ?_ | exact au0 | fail)
    refine bsplit_dec (fun c2 => ?_) (fun c2 => ?_)
    · have hip : i < ps.length := by omega
      have hil : i < vs.length := by omega
      have hg := vlRs_geti hil
      have hgp := row_get (f := inR) hip
      have hf := ih _ (List.getElem_mem hil)
      have hp1 := hpi _ (List.getElem_mem hip)
      have hhit := fitEs_hit (l := l) hno hip hil
      have hnx : fitE l ps[i] vs[i] = 0 → ∀ (k : Nat) (h1 : k < ps.length) (h2 : k < vs.length), k < i + 1 → fitE l ps[k] vs[k] = 0 := fun q k h1 h2 h3 => by
        by_cases e : k = i
        · subst e; exact q
        · exact hno k h1 h2 (by omega)
      generalize vs[i] = y at *
      generalize ps[i] = p at *
      have hf := hf p hp1.1 (by omega)
      obtain ⟨k2, n2, t2, l2⟩ := y
      (first | refine au ?_ | exact au0 | fail)
      rw [hgp]
      (first | refine au ?_ | exact au0 | fail)
      rw [hg]
      (first | refine au ?_ | exact au0 | fail)
      first | refine callF_eq (hf _) ?_ | refine callG_eq rfl (hf _) ?_
      (first | refine au ?_ | exact au0 | fail)
      refine bsplit_dec (fun h => ?_) (fun h => ?_)
      · (first | refine au ?_ | exact au0 | fail)
        rw [hhit h]
        exact ⟨fz_of, sub_of⟩
      · (first | refine au ?_ | exact au0 | fail)
        exact nextN (by repeat (first | exact trivial | refine And.intro (Or.inl rfl) ?_ | refine And.intro (Or.inr (Exists.intro _ (And.intro rfl (Fz.refl _)))) ?_ | refine And.intro (Or.inr (Exists.intro _ (And.intro rfl (fz_eq (congrArg (AV.int _) (by omega)))))) ?_ | refine And.intro (Or.inr (Exists.intro _ (And.intro rfl (fz_eq (congrArg (AV.own _ _ _) (by (try dsimp only); (try simp only [List.length_append, List.length_map, List.length_cons, List.length_nil, List.length_take, List.length_set, List.length_replicate]); (try dsimp only); first | done | omega)))))) ?_)) (by exact sub_of) (by omega) (hnx (Classical.not_not.1 h))
    · (first | refine au ?_ | exact au0 | fail)
      rw [fitEs_end fun k h1 h2 => hno k h1 h2 (by omega)]
      exact ⟨fz_of, sub_of⟩
theorem r9_Fits_spec (l : List Ty) (hl : TysOk l) (t : Int) (v : Vl) (hok : vOk v) (H : AH) : ACalls PG broadsheetref09_Fits.n [tysA l, .int .i64 t, vlA v] H fun r H' => r = .int .i64 (if 0 ≤ t ∧ t < l.length ∧ (tyChk l).1 = 0 then fitE l t v else 8) ∧ H' = H := by
  have hlen : (l.map tyR).length = l.length := by simp
  have hll := hl.len
  have hc := fun H => r6_Check_spec l hl H
  have hf := fun h => r9_fits_spec l hl (tyChk_v (l := l) h) _ v (Nat.lt_succ_self _) hok
  generalize (tyChk l).2 = at' at *
  generalize hce : (tyChk l).1 = e at *
  refine ACalls.fz (broadsheetref09_Fits.of rfl (wpF_start ?_))
  obtain ⟨k, n, x, vs⟩ := v
  by_cases c : 0 ≤ t ∧ t < l.length ∧ e = 0
  · rw [if_pos c]
    have hf := hf c.2.2 t c.1 c.2.1
    (first | refine au ?_ | exact au0 | fail)
    intro id3 hid3 ht3; have n3 := neAll_of hid3; (try simp only [neAll, neAll_hset] at n3); have m3 := n3; (repeat (obtain ⟨_, m3⟩ := m3))
    (first | refine au ?_ | exact au0 | fail)
    first | refine callF_eq (hc _) ?_ | refine callG_eq rfl (hc _) ?_
    (first | refine au ?_ | exact au0 | fail)
    first | refine callF_eq (hf _) ?_ | refine callG_eq rfl (hf _) ?_
    (first | refine au ?_ | exact au0 | fail)
    exact ⟨fz_of, sub_of⟩
  · rw [if_neg c]
    (first | refine au ?_ | exact au0 | fail)
    intro id3 hid3 ht3; have n3 := neAll_of hid3; (try simp only [neAll, neAll_hset] at n3); have m3 := n3; (repeat (obtain ⟨_, m3⟩ := m3))
    (repeat' (first | (refine au ?_; first | refine callF_eq (hc _) ?_ | refine bsplit_dec (fun _ => ?_) (fun _ => ?_) | refine bsplit_intro (fun _ => ?_) (fun _ => ?_)) | exact au0 | fail)); (all_goals try (first | refine au ?_ | fail))
    all_goals first | (exfalso; omega) | exact ⟨fz_of, sub_of⟩
end Go.Proofs.Ytodiahhfpcdejaa

/- What follows for a value that is of a type; plain. -/
namespace Go.Proofs.Ytodiahhfpcdejaa
set_option autoImplicit false
set_option linter.unusedVariables false
/-- What fitE = 0 says. -/
structure Fit0 (l : List Ty) (t : Int) (k : Int) (n : Nat) (x : List UInt8) (vs : List Vl) : Prop where
  kd : k = (tAt l t).kd
  z : vZero k n x vs.length = true
  num : ¬ ((isNum k = true ∧ numT l t n = false) ∨ (k = 14 ∧ numT l (tAt l t).tg n = false))
  tx : ¬ (k = 10 ∧ (tAt l t).bd < (x.length : Int))
  tx0 : ¬ (k = 10 ∧ x.contains 0 = true)
  sq : ¬ (k = 11 ∧ (tAt l t).bd < (vs.length : Int))
  len : (partT l t n vs.length).length = vs.length
  its : fitEs l (partT l t n vs.length) vs = 0
theorem fitE_0 {l : List Ty} {t : Int} {k : Int} {n : Nat} {x : List UInt8} {vs : List Vl} (h : fitE l t (.mk k n x vs) = 0) : Fit0 l t k n x vs := by
  rw [fitE_eq] at h
  by_cases c1 : k = (tAt l t).kd
  rotate_left
  · rw [if_pos c1] at h; cases h
  rw [if_neg (by simp [c1])] at h
  cases c2 : vZero k n x vs.length
  · rw [if_pos c2] at h; cases h
  rw [if_neg (by rw [c2]; simp)] at h
  by_cases c3 : (isNum k = true ∧ numT l t n = false) ∨ (k = 14 ∧ numT l (tAt l t).tg n = false)
  · rw [if_pos c3] at h; cases h
  rw [if_neg c3] at h
  by_cases c4 : k = 10 ∧ (tAt l t).bd < (x.length : Int)
  · rw [if_pos c4] at h; cases h
  rw [if_neg c4] at h
  by_cases c5 : k = 10 ∧ x.contains 0 = true
  · rw [if_pos c5] at h; cases h
  rw [if_neg c5] at h
  by_cases c6 : k = 11 ∧ (tAt l t).bd < (vs.length : Int)
  · rw [if_pos c6] at h; cases h
  rw [if_neg c6] at h
  unfold fitN at h
  by_cases c7 : (partT l t n vs.length).length = vs.length
  · rw [if_neg (by simp [c7])] at h
    exact ⟨c1, c2, c3, c4, c5, c6, c7, h⟩
  · rw [if_pos c7] at h; cases h
theorem fitEs_0 {l : List Ty} : ∀ {ps : List Int} {vs : List Vl} (_ : fitEs l ps vs = 0) (k : Nat) (h1 : k < ps.length) (h2 : k < vs.length), fitE l ps[k] vs[k] = 0
  | p :: ps, v :: vs, h, 0, _, _ => by
    simp only [fitEs] at h
    split at h
    · rename_i q; exact absurd h q
    · rename_i q; exact Classical.not_not.1 q
  | p :: ps, v :: vs, h, k + 1, h1, h2 => by
    simp only [fitEs] at h
    split at h
    · rename_i q; exact absurd h q
    · exact fitEs_0 h k (by simpa using h1) (by simpa using h2)
theorem foldl_dpF_ge {D : List Nat} {n : Nat} : ∀ (ps : List Int) (m : Nat), m ≤ ps.foldl (dpF D n) m
  | [], m => Nat.le_refl _
  | p :: ps, m => by
    have := foldl_dpF_ge (D := D) (n := n) ps (dpF D n m p)
    have : m ≤ dpF D n m p := by unfold dpF; split <;> omega
    simp only [List.foldl_cons]; omega
theorem foldl_dpF_mem {D : List Nat} {n : Nat} : ∀ (ps : List Int) (m : Nat) (p : Int), p ∈ ps → 0 ≤ p → p < (n : Int) → D.getD p.toNat 0 + 1 ≤ ps.foldl (dpF D n) m
  | q :: ps, m, p, hp, h0, h1 => by
    simp only [List.foldl_cons]
    rcases List.mem_cons.1 hp with rfl | hp
    · have := foldl_dpF_ge (D := D) (n := n) ps (dpF D n m p)
      have : D.getD p.toNat 0 + 1 ≤ dpF D n m p := by unfold dpF; rw [if_pos ⟨h0, h1⟩]; omega
      omega
    · exact foldl_dpF_mem ps _ p hp h0 h1
theorem deepT_ge {l : List Ty} {t : Int} (h0 : 0 ≤ t) (h1 : t < l.length) : 1 ≤ deepT l t := by
  obtain ⟨n, rfl⟩ : ∃ n : Nat, t = n := ⟨t.toNat, by omega⟩
  rw [deepT_eq (by omega)]
  exact foldl_dpF_ge _ _
theorem deepT_part {l : List Ty} {t : Int} (h0 : 0 ≤ t) (h1 : t < l.length) {p : Int} (hp : p ∈ parts (tAt l t)) (hp0 : 0 ≤ p) (hp1 : p < t) : deepT l p + 1 ≤ deepT l t := by
  obtain ⟨n, rfl⟩ : ∃ n : Nat, t = n := ⟨t.toNat, by omega⟩
  have hn : n < l.length := by omega
  have e : tAt l (n : Nat) = l[n] := by unfold tAt; rw [Int.toNat_natCast, getD_get hn]
  rw [e] at hp
  rw [deepT_eq hn]
  have := foldl_dpF_mem (D := dpT l n) (n := n) (parts l[n]) 1 p hp hp0 (by omega)
  rw [dpT_deep (by omega) (by omega), Int.toNat_of_nonneg hp0] at this
  exact this
theorem partT_mem {l : List Ty} {t : Int} {n m : Nat} : ∀ p ∈ partT l t n m, p ∈ parts (tAt l t) := by
  intro p h
  unfold partT at h
  split at h
  · rename_i c
    rw [List.eq_of_mem_replicate h]
    unfold parts; rw [show kEl (tAt l t).kd = true from by simp [kEl, c]]; simp
  · split at h
    · rename_i c
      rw [List.eq_of_mem_replicate h]
      unfold parts; rw [show kEl (tAt l t).kd = true from by simp [kEl, c]]; simp
    · split at h
      · rename_i c
        obtain ⟨y, hy, rfl⟩ := List.mem_map.1 h
        exact parts_item (.inl c) hy
      · split at h
        · rename_i c
          split at h
          · rename_i k hk
            simp only [List.mem_singleton] at h
            rw [h, getD_get (brIx_lt hk)]
            exact parts_item (.inr c) (List.getElem_mem _)
          · cases h
        · cases h
theorem vDeeps_le {l : List Vl} {m : Nat} (h : ∀ x ∈ l, vDeep x ≤ m) : vDeeps l ≤ m := by
  induction l with
  | nil => simp [vDeeps]
  | cons a l ih =>
    have h1 := h a List.mem_cons_self
    have h2 := ih fun x hx => h x (List.mem_cons_of_mem _ hx)
    simp only [vDeeps]; omega
/-- A value is not deeper than its type. -/
theorem fit_deep {l : List Ty} (hv : TyV l) : ∀ (m : Nat) (v : Vl), SizeOf.sizeOf v < m → ∀ t : Int, 0 ≤ t → t < l.length → fitE l t v = 0 → vDeep v ≤ deepT l t
  | 0, v, h, _, _, _, _ => by omega
  | m + 1, .mk k n x vs, hsz, t, h0, h1, hf => by
    have F := fitE_0 hf
    have hG := hv.tAt h0 h1
    have h1' := deepT_ge h0 h1
    simp only [vDeep]
    suffices vDeeps vs ≤ deepT l t - 1 by omega
    refine vDeeps_le fun w hw => ?_
    obtain ⟨i, hi, rfl⟩ := List.getElem_of_mem hw
    have hip : i < (partT l t n vs.length).length := by rw [F.len]; exact hi
    have hp := partT_mem _ (List.getElem_mem hip)
    have hr := hG.parts _ hp
    have hd := deepT_part h0 h1 hp hr.1 (by omega)
    have hs := List.sizeOf_lt_of_mem hw
    simp only [Vl.mk.sizeOf_spec] at hsz
    have := fit_deep hv m vs[i] (by omega) _ hr.1 (by omega) (fitEs_0 F.its i hip hi)
    omega
end Go.Proofs.Ytodiahhfpcdejaa

/- What stands at a path of a value that is of a type; plain. -/
namespace Go.Proofs.Ytodiahhfpcdejaa
set_option autoImplicit false
set_option linter.unusedVariables false
/-- A step of the reference's At. -/
def rat1 (l : List Ty) (t : Int) (x : Bool × Int) (v : Vl) : Option (Int × Vl) :=
  if nextP (tAt l t) x.1 x.2 < 0 then none
  else if (tAt l t).kd = 14 then (if brIx l t v.num = some x.2.toNat then (match v.its with | [] => none | w :: _ => some (nextP (tAt l t) x.1 x.2, w)) else none)
  else (v.its[x.2.toNat]?).map fun w => (nextP (tAt l t) x.1 x.2, w)
def ratP (l : List Ty) : Int → List (Bool × Int) → Vl → Option Vl
  | _, [], v => some v
  | t, x :: xs, v => (rat1 l t x v).bind fun y => ratP l y.1 xs y.2
theorem nextP_in {l : List Ty} (hv : TyV l) {t : Int} (h0 : 0 ≤ t) (h1 : t < l.length) {e : Bool} {n : Int} (h : ¬ nextP (tAt l t) e n < 0) : nextP (tAt l t) e n < t := by
  have hG := hv.tAt h0 h1
  unfold nextP at h ⊢
  by_cases c : n < 0
  · rw [if_pos c] at h; omega
  rw [if_neg c] at h ⊢
  cases e with
  | true =>
    rw [if_pos rfl] at h ⊢
    by_cases c1 : kEl (tAt l t).kd = true ∧ n < (tAt l t).bd
    · rw [if_pos c1]
      have := hG.parts (tAt l t).el (by unfold parts; rw [if_pos c1.1]; simp)
      omega
    · rw [if_neg c1] at h; omega
  | false =>
    rw [if_neg (by simp)] at h ⊢
    by_cases c1 : kIt (tAt l t).kd = true ∧ n < (tAt l t).its.length
    · rw [if_pos c1]
      have hil : n.toNat < (tAt l t).its.length := by omega
      rw [show (tAt l t).its.getD n.toNat it0 = (tAt l t).its[n.toNat] from by simp [List.getD, hil]]
      have := hG.parts _ (parts_item (by simpa [kIt] using c1.1) (List.getElem_mem hil))
      omega
    · rw [if_neg c1] at h; omega
theorem at1_fit {l : List Ty} (hv : TyV l) {t : Int} (h0 : 0 ≤ t) (h1 : t < l.length) (x : Bool × Int) {v : Vl} (hf : fitE l t v = 0) : rat1 l t x v = at1 l t x v := by
  obtain ⟨k, n, tx, vs⟩ := v
  obtain ⟨e, m⟩ := x
  have F := fitE_0 hf
  have hG := hv.tAt h0 h1
  have hFk := F.kd
  unfold rat1 at1 nextP
  dsimp only
  by_cases c : m < 0
  · rw [if_pos (by rw [if_pos c]; omega), if_pos (.inr (.inr c))]
  rw [if_neg c]
  cases e with
  | true =>
    rw [if_pos rfl]
    cases ce : kEl (tAt l t).kd with
    | false => rw [if_pos (by simp), if_pos (.inl (by simp))]
    | true =>
      have hel := hG.parts (tAt l t).el (by unfold parts; rw [if_pos ce]; simp)
      have hkd : ¬ (tAt l t).kd = 14 := by
        intro q; rw [q] at ce; simp [kEl] at ce
      rw [if_neg (show ¬ (true ≠ true ∨ (true = false ∧ kIt (tAt l t).kd = false) ∨ m < 0) from by simp; omega), if_neg (show ¬ (true = false ∧ ((tAt l t).its.length : Int) ≤ m) from by simp)]
      simp only [true_and, if_neg hkd, if_true]
      by_cases cb : m < (tAt l t).bd
      · rw [if_pos cb, if_neg (by omega)]
      · rw [if_neg cb, if_pos (by omega)]
        have hl : vs.length ≤ m.toNat := by
          simp only [kEl, decide_eq_true_eq] at ce
          have hb := (hG.bd (by simp [kBd]; omega)).1
          rcases ce with ce | ce
          · have := F.sq; omega
          · have := F.len
            rw [partT_ar rfl ce, List.length_replicate] at this
            omega
        simp only [Vl.its]
        rw [List.getElem?_eq_none hl]; rfl
  | false =>
    rw [if_neg (show ¬ (false = true) from by simp)]
    cases ce : kEl (tAt l t).kd with
    | true =>
      have ci : kIt (tAt l t).kd = false := by
        simp only [kEl, decide_eq_true_eq] at ce
        simp [kIt]; omega
      rw [if_pos (by rw [ci]; simp), if_pos (.inl (by simp))]
    | false =>
      cases ci : kIt (tAt l t).kd with
      | false => rw [if_pos (by simp), if_pos (.inr (.inl ⟨rfl, rfl⟩))]
      | true =>
        rw [if_neg (show ¬ (false ≠ false ∨ (false = false ∧ true = false) ∨ m < 0) from by simp; omega)]
        by_cases cl : m < (tAt l t).its.length
        · have hil : m.toNat < (tAt l t).its.length := by omega
          have hp := hG.parts _ (parts_item (by simpa [kIt] using ci) (List.getElem_mem hil))
          rw [if_neg (show ¬ (false = false ∧ ((tAt l t).its.length : Int) ≤ m) from by simp; omega), if_pos (show true = true ∧ m < ((tAt l t).its.length : Int) from ⟨rfl, cl⟩)]
          rw [show (tAt l t).its.getD m.toNat it0 = (tAt l t).its[m.toNat] from by simp [List.getD, hil]]
          rw [if_neg (by omega)]
          simp only [Bool.false_eq_true, if_false]
          rfl
        · rw [if_neg (show ¬ (true = true ∧ m < ((tAt l t).its.length : Int)) from by simp; omega), if_pos (show (-1 : Int) < 0 from by omega), if_pos ⟨rfl, by omega⟩]
theorem at1_next {l : List Ty} (hv : TyV l) {t : Int} (h0 : 0 ≤ t) (h1 : t < l.length) {x : Bool × Int} {v : Vl} (hf : fitE l t v = 0) {u : Int} {w : Vl} (h : at1 l t x v = some (u, w)) : 0 ≤ u ∧ u < t ∧ fitE l u w = 0 := by
  obtain ⟨k, n, tx, vs⟩ := v
  obtain ⟨e, m⟩ := x
  have F := fitE_0 hf
  have hG := hv.tAt h0 h1
  have hFk := F.kd
  have key : ∀ (i : Nat) (hi : i < vs.length), w = vs[i] → (∀ hp : i < (partT l t n vs.length).length, u = (partT l t n vs.length)[i]) → 0 ≤ u ∧ u < t ∧ fitE l u w = 0 := fun i hi e1 e2 => by
    have hip : i < (partT l t n vs.length).length := by rw [F.len]; exact hi
    have e3 := partT_in hG n vs.length _ (List.getElem_mem hip)
    have e4 := fitEs_0 F.its i hip hi
    rw [← e2 hip] at e3 e4
    rw [← e1] at e4
    exact ⟨e3.1, by omega, e4⟩
  unfold at1 at h
  dsimp only at h
  split at h
  · cases h
  rename_i c1
  split at h
  · cases h
  rename_i c2
  have hm : 0 ≤ m := by
    apply Classical.byContradiction
    intro q; exact c1 (.inr (.inr (by omega)))
  by_cases c14 : (tAt l t).kd = 14
  · rw [if_pos c14] at h
    split at h
    · rename_i hb
      simp only [Vl.num] at hb
      cases vs with
      | nil => simp only [Vl.its] at h; cases h
      | cons w2 ws =>
        simp only [Vl.its, Option.some.injEq, Prod.mk.injEq] at h
        have ee : e = false := by
          cases e with
          | false => rfl
          | true => exact absurd (.inl (by rw [c14]; simp [kEl])) c1
        subst ee
        simp only [Bool.false_eq_true, if_false] at h
        refine key 0 (by simp) h.2.symm fun hp => ?_
        rw [← h.1]
        have e5 : partT l t n (w2 :: ws).length = [((tAt l t).its.getD m.toNat it0).ty] := by
          unfold partT
          rw [if_neg (by omega), if_neg (by omega), if_neg (by omega), if_pos c14, hb]
        simp only [e5, List.getElem_cons_zero]
    · cases h
  · rw [if_neg c14] at h
    simp only [Vl.its] at h
    by_cases hi : m.toNat < vs.length
    · rw [List.getElem?_eq_getElem hi] at h
      simp only [Option.map_some, Option.some.injEq, Prod.mk.injEq] at h
      refine key m.toNat hi h.2.symm fun hp => ?_
      rw [← h.1]
      cases e with
      | true =>
        have ce : kEl (tAt l t).kd = true := by
          cases q : kEl (tAt l t).kd with
          | true => rfl
          | false => exact absurd (.inl (by rw [q]; simp)) c1
        rw [if_pos rfl]
        simp only [kEl, decide_eq_true_eq] at ce
        rcases ce with ce | ce
        · simp only [partT_el rfl ce, List.getElem_replicate]
        · simp only [partT_ar rfl ce, List.getElem_replicate]
      | false =>
        have ci : kIt (tAt l t).kd = true := by
          cases q : kIt (tAt l t).kd with
          | true => rfl
          | false => exact absurd (.inr (.inl ⟨rfl, q⟩)) c1
        have hil : m.toNat < (tAt l t).its.length := by
          apply Classical.byContradiction
          intro q; exact c2 ⟨rfl, by omega⟩
        rw [if_neg (by simp), show (tAt l t).its.getD m.toNat it0 = (tAt l t).its[m.toNat] from by simp [List.getD, hil]]
        have c13 : (tAt l t).kd = 13 := by
          simp only [kIt, decide_eq_true_eq] at ci; omega
        simp only [partT_st rfl c13, List.getElem_map]
    · rw [List.getElem?_eq_none (by omega)] at h
      simp at h
theorem atP_fit {l : List Ty} (hv : TyV l) : ∀ (p : List (Bool × Int)) {t : Int} (_ : 0 ≤ t) (_ : t < l.length) {v : Vl} (_ : fitE l t v = 0), ratP l t p v = atP l t p v
  | [], _, _, _, _, _ => rfl
  | x :: xs, t, h0, h1, v, hf => by
    rw [ratP, atP, at1_fit hv h0 h1 x hf]
    cases e : at1 l t x v with
    | none => rfl
    | some y =>
      obtain ⟨u, w⟩ := y
      have := at1_next hv h0 h1 hf e
      exact atP_fit hv xs this.1 (by omega) this.2.2
theorem atP_ok {l : List Ty} : ∀ (p : List (Bool × Int)) {t : Int} {v w : Vl} (_ : vOk v) (_ : atP l t p v = some w), vOk w
  | [], t, v, w, h, e => by simp only [atP, Option.some.injEq] at e; rw [← e]; exact h
  | x :: xs, t, v, w, h, e => by
    rw [atP, Option.bind_eq_some_iff] at e
    obtain ⟨⟨u, y⟩, h1, h2⟩ := e
    refine atP_ok xs ?_ h2
    obtain ⟨k, n, tx, vs⟩ := v
    simp only [vOk] at h
    unfold at1 at h1
    dsimp only [Vl.its] at h1
    split at h1
    · cases h1
    split at h1
    · cases h1
    split at h1
    · split at h1
      · cases vs with
        | nil => cases h1
        | cons w2 ws =>
          simp only [Option.some.injEq, Prod.mk.injEq] at h1
          rw [← h1.2]; exact vOks_mem h.2.2.2 _ List.mem_cons_self
      · cases h1
    · rw [Option.map_eq_some_iff] at h1
      obtain ⟨z, hz, e2⟩ := h1
      simp only [Prod.mk.injEq] at e2
      rw [← e2.2]; exact vOks_mem h.2.2.2 _ (List.mem_of_getElem? hz)
end Go.Proofs.Ytodiahhfpcdejaa

/- What stands at a path, walked. -/
namespace Go.Proofs.Ytodiahhfpcdejaa
set_option autoImplicit false
set_option linter.unusedSimpArgs false
set_option linter.unusedVariables false
attribute [local irreducible] callA callP ACalls
abbrev spI (x : Bool × Int) : List AV := [.bool x.1, .int .i64 x.2]
abbrev v0 : Vl := .mk 0 0 [] []
abbrev atA : Option Vl → AV
  | some v => .tup [vlA v, .bool true]
  | none => .tup [vlA v0, .bool false]
theorem At_spec0 (l : List Ty) (hl : TysOk l) (t : Int) (p : List (Bool × Int)) (hpl : p.length ≤ 1000) (v : Vl) (hok : vOk v) : ACalls PG path_At.n [tysA l, .int .i64 t, .rows 2 (p.map spI), vlA v] [] fun r _ => r = atA (if knownT l t then atP l t p v else none) := by
  have hlen : (l.map tyR).length = l.length := by simp
  have hll := hl.len
  have hplen : (p.map spI).length = p.length := by simp
  obtain ⟨k0, n0, x0, vs0⟩ := v
  refine ACalls.fzK (path_At.of rfl (wpF_start ?_))
  (first | refine au ?_ | exact au0 | fail)
  intro id7 hid7 ht7; have n7 := neAll_of hid7; (try simp only [neAll, neAll_hset] at n7); have m7 := n7; (repeat (obtain ⟨_, m7⟩ := m7))
  clear hid7
  (first | refine au ?_ | exact au0 | fail)
  intro id8 hid8 ht8; have n8 := neAll_of hid8; (try simp only [neAll, neAll_hset] at n8); have m8 := n8; (repeat (obtain ⟨_, m8⟩ := m8))
  clear hid8
  (first | refine au ?_ | exact au0 | fail)
  first | refine callF_eq (path_known_spec l hl t _) ?_ | refine callG_eq rfl (path_known_spec l hl t _) ?_
  by_cases hk : knownT l t
  · rw [if_pos hk, decide_eq_true hk]
    have hv := tyChk_v hk.2.2
    (first | refine au ?_ | exact au0 | fail)
    refine loopM (S := Nat × Int × Vl) [(0, some _), (7, some _), (8, some _), (22, some _), (23, some _)] (fun z => [(24, some (.int .i64 (z.1 : Nat))), (1, some (.int .i64 z.2.1))]) (fun z => [(id8, .rows 4 [[.int .i64 0, .int .u64 0, .str [], .nilS]]), (id7, .rows 4 [vlR z.2.2])]) (fun z => p.length - z.1) (fun z => z.1 ≤ p.length ∧ 0 ≤ z.2.1 ∧ z.2.1 < l.length ∧ vOk z.2.2 ∧ atP l t p (.mk k0 n0 x0 vs0) = atP l z.2.1 (p.drop z.1) z.2.2) (0, t, .mk k0 n0 x0 vs0) (by repeat (first | exact trivial | refine And.intro (Or.inl rfl) ?_ | refine And.intro (Or.inr (Exists.intro _ (And.intro rfl (Fz.refl _)))) ?_ | refine And.intro (Or.inr (Exists.intro _ (And.intro rfl (fz_eq (congrArg (AV.int _) (by omega)))))) ?_ | refine And.intro (Or.inr (Exists.intro _ (And.intro rfl (fz_eq (congrArg (AV.own _ _ _) (by (try dsimp only); (try simp only [List.length_append, List.length_map, List.length_cons, List.length_nil, List.length_take, List.length_set, List.length_replicate]); (try dsimp only); first | done | omega)))))) ?_)) (by dsimp only; exact sub_of) ⟨Nat.zero_le _, hk.1, hk.2.1, hok, rfl⟩ (fun ⟨i, u, w⟩ hz => ?_)
    obtain ⟨hi, h0, h1, hwo, hw⟩ := hz
    dsimp only at hi h0 h1 hwo hw ⊢
    (first | refine au ?_ | exact au0 | fail)
    refine bsplit_dec (fun h2 => ?_) (fun h2 => ?_)
    · have hil : i < p.length := by omega
      have hgp := row_get (f := spI) hil
      have hge := tAt_get h0 h1
      have hti := (hl.all _ (tAt_mem h0 h1)).its
      have hin := (hv.tAt h0 h1).parts
      rw [List.drop_eq_getElem_cons hil, atP] at hw
      generalize p[i] = sp at *
      obtain ⟨e, n⟩ := sp
      (first | refine au ?_ | exact au0 | fail)
      rw [hgp]
      (first | refine au ?_ | exact au0 | fail)
      intro id11 hid11 ht11; have n11 := neAll_of hid11; (try simp only [neAll, neAll_hset] at n11); have m11 := n11; (repeat (obtain ⟨_, m11⟩ := m11))
      clear hid11
      (first | refine au ?_ | exact au0 | fail)
      rw [hge]
      (first | refine au ?_ | exact au0 | fail)
      intro id13 hid13 ht13; have n13 := neAll_of hid13; (try simp only [neAll, neAll_hset] at n13); have m13 := n13; (repeat (obtain ⟨_, m13⟩ := m13))
      clear hid13
      have hbr := fun m => Branch_spec l hl u m
      have hel := elems_spec (tAt l u)
      have hit := items_spec' (tAt l u)
      unfold at1 at hw
      generalize tAt l u = g at *
      generalize hbe : kEl g.kd = be at *
      generalize hbi : kIt g.kd = bi at *
      (first | refine au ?_ | exact au0 | fail)
      first | refine callF_eq (hel _) ?_ | refine callG_eq rfl (hel _) ?_
      (first | refine au ?_ | exact au0 | fail)
      by_cases cm : e ≠ be ∨ (e = false ∧ bi = false) ∨ n < 0
      · rw [if_pos cm] at hw
        rw [show atP l t p (.mk k0 n0 x0 vs0) = none from hw]
        cases e <;> cases be <;> cases bi
        all_goals first | ((first | refine au ?_ | exact au0 | fail); exact fz_of) | ((first | refine au ?_ | exact au0 | fail); (first | refine callF_eq (hit _) ?_ | refine callG_eq rfl (hit _) ?_); (first | refine au ?_ | exact au0 | fail); exact fz_of) | (have cn : n < 0 := by (simp at cm; exact cm)); (first | ((first | refine au ?_ | exact au0 | fail); exact fz_of) | ((first | refine au ?_ | exact au0 | fail); (first | refine callF_eq (hit _) ?_ | refine callG_eq rfl (hit _) ?_); (first | refine au ?_ | exact au0 | fail); exact fz_of))
      · rw [if_neg cm] at hw
        have hn0 : 0 ≤ n := by
          apply Classical.byContradiction
          intro q
          exact cm (.inr (.inr (by omega)))
        have heb : e = be := by
          apply Classical.byContradiction
          intro q
          exact cm (.inl q)
        subst heb
        obtain ⟨wk, wn, wx, ws⟩ := w
        have hwsl : (vlRs ws).length = ws.length := vlRs_len ws
        cases e with
        | true =>
          have hk14 : ¬ g.kd = 14 := by
            simp only [kEl, decide_eq_true_eq] at hbe
            omega
          rw [if_neg (by simp)] at hw
          simp only [if_true, if_neg hk14, Vl.its] at hw
          have hel2 := hin g.el (by unfold parts; rw [if_pos hbe]; simp)
          (first | refine au ?_ | exact au0 | fail)
          refine bsplit_dec (fun h3 => ?_) (fun h3 => ?_)
          · rw [List.getElem?_eq_none (by omega)] at hw
            rw [show atP l t p (.mk k0 n0 x0 vs0) = none from hw]
            (first | refine au ?_ | exact au0 | fail)
            exact fz_of
          · have hws : n.toNat < ws.length := by omega
            have hgv : (vlRs ws).getD n.toNat [] = vlR ws[n.toNat] := by rw [vlRs_map]; exact row_get (f := vlR) hws
            rw [List.getElem?_eq_getElem hws] at hw
            have hwo2 : vOk ws[n.toNat] := by have q := hwo; simp only [vOk] at q; exact vOks_mem q.2.2.2 _ (List.getElem_mem hws)
            generalize ws[n.toNat] = w2 at *
            obtain ⟨wk2, wn2, wx2, ws2⟩ := w2
            (first | refine au ?_ | exact au0 | fail)
            rw [hgv]
            (first | refine au ?_ | exact au0 | fail)
            exact nextS (S := Nat × Int × Vl) (i + 1, g.el, .mk wk2 wn2 wx2 ws2) (by repeat (first | exact trivial | refine And.intro (Or.inl rfl) ?_ | refine And.intro (Or.inr (Exists.intro _ (And.intro rfl (Fz.refl _)))) ?_ | refine And.intro (Or.inr (Exists.intro _ (And.intro rfl (fz_eq (congrArg (AV.int _) (by omega)))))) ?_ | refine And.intro (Or.inr (Exists.intro _ (And.intro rfl (fz_eq (congrArg (AV.own _ _ _) (by (try dsimp only); (try simp only [List.length_append, List.length_map, List.length_cons, List.length_nil, List.length_take, List.length_set, List.length_replicate]); (try dsimp only); first | done | omega)))))) ?_)) (by dsimp only; exact sub_of) (by dsimp only; omega) ⟨by dsimp only; omega, hel2.1, by dsimp only; omega, hwo2, hw⟩
        | false =>
          have hbt : bi = true := by
            cases bi with
            | true => rfl
            | false => exact absurd (.inr (.inl ⟨rfl, rfl⟩)) cm
          subst hbt
          have hkk : g.kd = 13 ∨ g.kd = 14 := by simpa [kIt] using hbi
          have hlen2 : (g.its.map itR).length = g.its.length := by simp
          (first | refine au ?_ | exact au0 | fail)
          first | refine callF_eq (hit _) ?_ | refine callG_eq rfl (hit _) ?_
          by_cases c3 : (g.its.length : Int) ≤ n
          · rw [if_pos ⟨rfl, c3⟩] at hw
            rw [show atP l t p (.mk k0 n0 x0 vs0) = none from hw]
            (first | refine au ?_ | exact au0 | fail)
            exact fz_of
          · rw [if_neg (fun q => c3 q.2)] at hw
            have hil2 : n.toNat < g.its.length := by omega
            have hge2 : (g.its.map itR).getD n.toNat [] = itR g.its[n.toNat] := row_get (f := itR) hil2
            rw [show g.its.getD n.toNat it0 = g.its[n.toNat] from by simp [List.getD, hil2]] at hw
            have hel2 := hin g.its[n.toNat].ty (by unfold parts; rw [if_pos hkk]; simp only [List.mem_append, List.mem_map]; exact .inr ⟨_, List.getElem_mem hil2, rfl⟩)
            (first | refine au ?_ | exact au0 | fail)
            rw [hge2]
            (first | refine au ?_ | exact au0 | fail)
            refine bsplit_dec (fun hk14 => ?_) (fun hk14 => ?_)
            · simp only [if_pos hk14, Vl.its, Vl.num] at hw
              have hbw := hbr wn
              cases hbx : brIx l u wn with
              | none =>
                rw [hbx] at hbw
                simp only [hbx] at hw
                rw [show atP l t p (.mk k0 n0 x0 vs0) = none from by rw [hw]; simp]
                (first | refine au ?_ | exact au0 | fail)
                first | refine callF_eq (hbw _) ?_ | refine callG_eq rfl (hbw _) ?_
                (first | refine au ?_ | exact au0 | fail)
                exact fz_of
              | some m =>
                rw [hbx] at hbw
                simp only [hbx, Option.some.injEq] at hw
                (first | refine au ?_ | exact au0 | fail)
                first | refine callF_eq (hbw _) ?_ | refine callG_eq rfl (hbw _) ?_
                (first | refine au ?_ | exact au0 | fail)
                refine bsplit_dec (fun h5 => ?_) (fun h5 => ?_)
                · rw [if_neg (by omega)] at hw
                  rw [show atP l t p (.mk k0 n0 x0 vs0) = none from hw]
                  (first | refine au ?_ | exact au0 | fail)
                  exact fz_of
                · rw [if_pos (by omega)] at hw
                  (first | refine au ?_ | exact au0 | fail)
                  cases ws with
                  | nil =>
                    rw [show atP l t p (.mk k0 n0 x0 vs0) = none from hw]
                    (first | refine au ?_ | exact au0 | fail)
                    exact fz_of
                  | cons w2 ws =>
                    have hwo2 : vOk w2 := by have q := hwo; simp only [vOk] at q; exact vOks_mem q.2.2.2 _ List.mem_cons_self
                    have hgv : (vlRs (w2 :: ws)).getD 0 [] = vlR w2 := rfl
                    obtain ⟨wk2, wn2, wx2, ws2⟩ := w2
                    have hlw : (vlRs (.mk wk2 wn2 wx2 ws2 :: ws)).length = ws.length + 1 := by rw [vlRs_len]; rfl
                    (first | refine au ?_ | exact au0 | fail)
                    rw [show (vlRs (.mk wk2 wn2 wx2 ws2 :: ws)).getD (Int.toNat 0) [] = vlR (.mk wk2 wn2 wx2 ws2) from rfl]
                    (first | refine au ?_ | exact au0 | fail)
                    exact nextS (S := Nat × Int × Vl) (i + 1, g.its[n.toNat].ty, .mk wk2 wn2 wx2 ws2) (by repeat (first | exact trivial | refine And.intro (Or.inl rfl) ?_ | refine And.intro (Or.inr (Exists.intro _ (And.intro rfl (Fz.refl _)))) ?_ | refine And.intro (Or.inr (Exists.intro _ (And.intro rfl (fz_eq (congrArg (AV.int _) (by omega)))))) ?_ | refine And.intro (Or.inr (Exists.intro _ (And.intro rfl (fz_eq (congrArg (AV.own _ _ _) (by (try dsimp only); (try simp only [List.length_append, List.length_map, List.length_cons, List.length_nil, List.length_take, List.length_set, List.length_replicate]); (try dsimp only); first | done | omega)))))) ?_)) (by dsimp only; exact sub_of) (by dsimp only; omega) ⟨by dsimp only; omega, hel2.1, by dsimp only; omega, hwo2, hw⟩
            · simp only [if_neg hk14, Vl.its] at hw
              (first | refine au ?_ | exact au0 | fail)
              refine bsplit_dec (fun h3 => ?_) (fun h3 => ?_)
              · rw [List.getElem?_eq_none (by omega)] at hw
                rw [show atP l t p (.mk k0 n0 x0 vs0) = none from hw]
                (first | refine au ?_ | exact au0 | fail)
                exact fz_of
              · have hws : n.toNat < ws.length := by omega
                have hgv : (vlRs ws).getD n.toNat [] = vlR ws[n.toNat] := by rw [vlRs_map]; exact row_get (f := vlR) hws
                rw [List.getElem?_eq_getElem hws] at hw
                have hwo2 : vOk ws[n.toNat] := by have q := hwo; simp only [vOk] at q; exact vOks_mem q.2.2.2 _ (List.getElem_mem hws)
                generalize ws[n.toNat] = w2 at *
                obtain ⟨wk2, wn2, wx2, ws2⟩ := w2
                (first | refine au ?_ | exact au0 | fail)
                rw [hgv]
                (first | refine au ?_ | exact au0 | fail)
                exact nextS (S := Nat × Int × Vl) (i + 1, g.its[n.toNat].ty, .mk wk2 wn2 wx2 ws2) (by repeat (first | exact trivial | refine And.intro (Or.inl rfl) ?_ | refine And.intro (Or.inr (Exists.intro _ (And.intro rfl (Fz.refl _)))) ?_ | refine And.intro (Or.inr (Exists.intro _ (And.intro rfl (fz_eq (congrArg (AV.int _) (by omega)))))) ?_ | refine And.intro (Or.inr (Exists.intro _ (And.intro rfl (fz_eq (congrArg (AV.own _ _ _) (by (try dsimp only); (try simp only [List.length_append, List.length_map, List.length_cons, List.length_nil, List.length_take, List.length_set, List.length_replicate]); (try dsimp only); first | done | omega)))))) ?_)) (by dsimp only; exact sub_of) (by dsimp only; omega) ⟨by dsimp only; omega, hel2.1, by dsimp only; omega, hwo2, hw⟩
    · have hie : i = p.length := by omega
      rw [hie, List.drop_length, atP] at hw
      rw [hw]
      obtain ⟨k, m, x, vs⟩ := w
      (first | refine au ?_ | exact au0 | fail)
      exact fz_of
  · rw [if_neg hk, decide_eq_false hk]
    (first | refine au ?_ | exact au0 | fail)
    exact fz_of
end Go.Proofs.Ytodiahhfpcdejaa

/- What stands at a path in the reference, walked. -/
namespace Go.Proofs.Ytodiahhfpcdejaa
set_option autoImplicit false
set_option linter.unusedSimpArgs false
set_option linter.unusedVariables false
attribute [local irreducible] callA callP ACalls
theorem atA_no (o : Option Vl) : NoId (atA o) := by
  cases o with
  | none => exact (Cl.tup _ (by intro v hv; simp only [List.mem_cons, List.not_mem_nil, or_false] at hv; rcases hv with rfl | rfl; exact .agg _ (vlR_cl v0); exact .bool _)).noId
  | some w => exact (Cl.tup _ (by intro v hv; simp only [List.mem_cons, List.not_mem_nil, or_false] at hv; rcases hv with rfl | rfl; exact .agg _ (vlR_cl w); exact .bool _)).noId
theorem r12_At_spec (l : List Ty) (hl : TysOk l) (hv : TyV l) : ∀ (p : List (Bool × Int)) (_ : p.length ≤ 1000) (t : Int) (_ : 0 ≤ t) (_ : t < l.length) (v : Vl) (_ : vOk v), ACalls PG broadsheetref12_At.n [tysA l, .int .i64 t, .rows 2 (p.map spI), vlA v] [] fun r _ => r = atA (ratP l t p v)
  | [], _, t, h0, h1, v, hok => by
    obtain ⟨k, n, x, vs⟩ := v
    refine ACalls.fzK (broadsheetref12_At.of rfl (wpF_start ?_))
    rw [ratP]
    (first | refine au ?_ | exact au0 | fail)
    intro id7 hid7 ht7; have n7 := neAll_of hid7; (try simp only [neAll, neAll_hset] at n7); have m7 := n7; (repeat (obtain ⟨_, m7⟩ := m7))
    (first | refine au ?_ | exact au0 | fail)
    intro id8 hid8 ht8; have n8 := neAll_of hid8; (try simp only [neAll, neAll_hset] at n8); have m8 := n8; (repeat (obtain ⟨_, m8⟩ := m8))
    (first | refine au ?_ | exact au0 | fail)
    exact fz_of
  | (e, n) :: p, hpl, t, h0, h1, v, hok => by
    have ih := fun t' a b v' c => r12_At_spec l hl hv p (by simp at hpl; omega) t' a b v' c
    have hlen : (l.map tyR).length = l.length := by simp
    have hlp : (List.map spI ((e, n) :: p)).length = p.length + 1 := by simp
    have hpl2 : p.length ≤ 999 := by simp at hpl; omega
    have hll := hl.len
    have hnx := fun H => Next_spec l hl t h0 h1 e n H
    have hni := nextP_in hv h0 h1 (e := e) (n := n)
    have hbr := fun m => r6_Branch_spec l hl t m
    have hge := tAt_get h0 h1
    have hn0 : ¬ nextP (tAt l t) e n < 0 → 0 ≤ n := by
      intro q
      apply Classical.byContradiction
      intro c
      exact q (by unfold nextP; rw [if_pos (by omega)]; omega)
    obtain ⟨k, m, x, vs⟩ := v
    have hwsl : (vlRs vs).length = vs.length := vlRs_len vs
    refine ACalls.fzK (broadsheetref12_At.of rfl (wpF_start ?_))
    obtain ⟨R, hR⟩ : ∃ R, ratP l t ((e, n) :: p) (.mk k m x vs) = R := ⟨_, rfl⟩
    rw [hR]
    rw [ratP] at hR
    unfold rat1 at hR
    generalize nextP (tAt l t) e n = to at *
    generalize tAt l t = g at *
    dsimp only [Vl.num, Vl.its] at hR
    (first | refine au ?_ | exact au0 | fail)
    intro id7 hid7 ht7; have n7 := neAll_of hid7; (try simp only [neAll, neAll_hset] at n7); have m7 := n7; (repeat (obtain ⟨_, m7⟩ := m7))
    clear hid7
    (first | refine au ?_ | exact au0 | fail)
    intro id8 hid8 ht8; have n8 := neAll_of hid8; (try simp only [neAll, neAll_hset] at n8); have m8 := n8; (repeat (obtain ⟨_, m8⟩ := m8))
    clear hid8
    (first | refine au ?_ | exact au0 | fail)
    rw [show (List.map spI ((e, n) :: p)).getD (Int.toNat 0) [] = spI (e, n) from rfl]
    (first | refine au ?_ | exact au0 | fail)
    first | refine callF_eq (hnx _) ?_ | refine callG_eq rfl (hnx _) ?_
    (first | refine au ?_ | exact au0 | fail)
    by_cases c : to < 0
    · rw [if_pos c] at hR
      rw [show R = none from hR.symm]
      (first | refine au ?_ | exact au0 | fail)
      exact fz_of
    rw [if_neg c] at hR
    have hni := hni c
    have hn0 := hn0 c
    (first | refine au ?_ | exact au0 | fail)
    rw [hge]
    (first | refine au ?_ | exact au0 | fail)
    refine bsplit_dec (fun hk14 => ?_) (fun hk14 => ?_)
    · rw [if_pos hk14] at hR
      have hbm := hbr m
      obtain ⟨b, hb⟩ : ∃ b, brIx l t m = b := ⟨_, rfl⟩
      simp only [hb] at hR
      rw [hb] at hbm
      clear hb
      cases b with
      | none =>
        rw [if_neg (by simp)] at hR
        rw [show R = none from hR.symm]
        (first | refine au ?_ | exact au0 | fail)
        first | refine callF_eq (hbm _) ?_ | refine callG_eq rfl (hbm _) ?_
        (first | refine au ?_ | exact au0 | fail)
        exact fz_of
      | some j =>
        simp only [Option.some.injEq] at hR
        (first | refine au ?_ | exact au0 | fail)
        first | refine callF_eq (hbm _) ?_ | refine callG_eq rfl (hbm _) ?_
        (first | refine au ?_ | exact au0 | fail)
        refine bsplit_dec (fun h5 => ?_) (fun h5 => ?_)
        · rw [if_neg (by omega)] at hR
          rw [show R = none from hR.symm]
          (first | refine au ?_ | exact au0 | fail)
          exact fz_of
        · rw [if_pos (by omega)] at hR
          (first | refine au ?_ | exact au0 | fail)
          cases vs with
          | nil =>
            rw [show R = none from hR.symm]
            (first | refine au ?_ | exact au0 | fail)
            exact fz_of
          | cons w ws =>
            have hwo : vOk w := by simp only [vOk] at hok; exact vOks_mem hok.2.2.2 _ List.mem_cons_self
            have ih2 := fun H => (ih to (by omega) (by omega) w hwo).frame H
            have hR : ratP l to p w = R := hR
            rw [hR] at ih2
            obtain ⟨wk2, wn2, wx2, ws2⟩ := w
            have hlw : (vlRs (.mk wk2 wn2 wx2 ws2 :: ws)).length = ws.length + 1 := by rw [vlRs_len]; rfl
            (first | refine au ?_ | exact au0 | fail)
            rw [show (vlRs (.mk wk2 wn2 wx2 ws2 :: ws)).getD (Int.toNat 0) [] = vlR (.mk wk2 wn2 wx2 ws2) from rfl, show List.drop (Int.toNat 1) (List.take (((List.map spI ((e, n) :: p)).length : Nat) : Int).toNat (List.map spI ((e, n) :: p))) = List.map spI p from by rw [Int.toNat_natCast, List.take_length]; rfl]
            (first | refine au ?_ | exact au0 | fail)
            rcases R with _ | ⟨k3, n3, x3, vs3⟩
            · refine callG_no (atA_no _) (ih2 _) ?_
              (first | refine au ?_ | exact au0 | fail)
              exact fz_of
            · refine callG_no (atA_no _) (ih2 _) ?_
              (first | refine au ?_ | exact au0 | fail)
              exact fz_of
    · rw [if_neg hk14] at hR
      (first | refine au ?_ | exact au0 | fail)
      refine bsplit_dec (fun h3 => ?_) (fun h3 => ?_)
      · rw [List.getElem?_eq_none (by omega)] at hR
        rw [show R = none from hR.symm]
        (first | refine au ?_ | exact au0 | fail)
        exact fz_of
      · have hws : n.toNat < vs.length := by omega
        have hgv : (vlRs vs).getD n.toNat [] = vlR vs[n.toNat] := by rw [vlRs_map]; exact row_get (f := vlR) hws
        rw [List.getElem?_eq_getElem hws] at hR
        have hwo : vOk vs[n.toNat] := by simp only [vOk] at hok; exact vOks_mem hok.2.2.2 _ (List.getElem_mem hws)
        generalize vs[n.toNat] = w2 at *
        have ih2 := fun H => (ih to (by omega) (by omega) w2 hwo).frame H
        have hR : ratP l to p w2 = R := hR
        rw [hR] at ih2
        obtain ⟨wk2, wn2, wx2, ws2⟩ := w2
        (first | refine au ?_ | exact au0 | fail)
        rw [hgv]
        (first | refine au ?_ | exact au0 | fail)
        rw [show List.drop (Int.toNat 1) (List.take (((List.map spI ((e, n) :: p)).length : Nat) : Int).toNat (List.map spI ((e, n) :: p))) = List.map spI p from by rw [Int.toNat_natCast, List.take_length]; rfl]
        (first | refine au ?_ | exact au0 | fail)
        rcases R with _ | ⟨k3, n3, x3, vs3⟩
        · refine callG_no (atA_no _) (ih2 _) ?_
          (first | refine au ?_ | exact au0 | fail)
          exact fz_of
        · refine callG_no (atA_no _) (ih2 _) ?_
          (first | refine au ?_ | exact au0 | fail)
          exact fz_of
end Go.Proofs.Ytodiahhfpcdejaa

/- Find, walked: two ranges over a function. -/
namespace Go.Proofs.Ytodiahhfpcdejaa
set_option autoImplicit false
set_option linter.unusedSimpArgs false
set_option linter.unusedVariables false
attribute [local irreducible] callA callP ACalls
theorem path_pieces_spec (s : List UInt8) (H : AH) : ACalls PG path_pieces.n [.str s] H fun r H' => ∃ id, r = .clo path_pieces_1.n [] [.ptr id 1 0 0] ∧ hget H id = none ∧ tag id = ty_string ∧ H' = (id, .rows 1 [[.str s]]) :: H := by
  refine path_pieces.of rfl (wpF_start ?_)
  (first | refine au ?_ | exact au0 | fail)
  intro id1 hid1 ht1; have n1 := neAll_of hid1; (try simp only [neAll, neAll_hset] at n1); have m1 := n1; (repeat (obtain ⟨_, m1⟩ := m1))
  (first | refine au ?_ | exact au0 | fail)
  exact ⟨id1, rfl, hid1, ht1, rfl⟩
abbrev findA (x : List (Bool × Nat) × Int × Int) : AV := .tup [.rows 2 (x.1.map spR), .int .i64 x.2.1, .int .i64 x.2.2]
theorem of_bodyG {ps : List Nat} {a b : Code} {fl : List Nat} {N lid : Nat} {L : FL} {fr : Nat → Option AV} {ca cb : C} {args : List AV} {H : AH} {K : AV → AH → Prop} (hm : PG.follows .mixedOrders = true) (ha : comp PG fl a = ca) (hb : comp PG fl b = cb) (hfr : frm L = fr)
    (hd : (dstsOk N ca && dstsOk N cb && ps.all fun p => decide (p < N)) = true) (hfa : flatC ca = true) (hfb : flatC cb = true) (hl : args.length = ps.length) (hid : hget H lid = some (.loop ⟨ps, a, b, N, fr, .ready⟩))
    (h : wpF PG ca none (assignF PG lid ⟨ps, a, b, N, fr, .ready⟩ cb K) (putsL ps args L) H) : AYields PG lid args H K := by
  subst hfr
  exact AYields.of_bodyF hm ha hb hd hfa hfb hl hid h
theorem all_ok {l : List Pc} (h : ∀ j (h : j < l.length), l[j].2.2 = true) : l.all (·.2.2) = true := by
  rw [List.all_eq_true]
  intro x hx
  obtain ⟨j, hj, rfl⟩ := List.getElem_of_mem hx
  exact h j hj
theorem Sub.swap {H : AH} {i j : Nat} {b c : Blk} (h : i ≠ j) : Sub ((i, b) :: (j, c) :: H) ((j, c) :: (i, b) :: H) := by
  intro k x q
  simp only [hget] at q ⊢
  by_cases e1 : k = i
  · subst e1
    simp_all
  · by_cases e2 : k = j <;> simp_all [Ne.symm e1]
abbrev base1 (id3 id4 id6 id7 id8 : Nat) (l : List Ty) (t : Int) : AH := [(id8, .rows 1 [[.int .i64 0]]), (id7, .rows 1 [[.int .i64 0]]), (id6, .rows 1 [[.nilS]]), (id4, .rows 1 [[.int .i64 t]]), (id3, .rows 1 [[tysA l]])]
abbrev base2 (id3 id4 id6 id7 id8 : Nat) (l : List Ty) (t e : Int) : AH := [(id8, .rows 1 [[.int .i64 e]]), (id7, .rows 1 [[.int .i64 0]]), (id6, .rows 1 [[.nilS]]), (id4, .rows 1 [[.int .i64 t]]), (id3, .rows 1 [[tysA l]])]
theorem AYields.freeze {P : Program} {id : Nat} {args : List AV} {H : AH} {K K' : AV → AH → Prop} (h : AYields P id args H K)
    (hk : ∀ r H', K r H' → ∃ r' Hc, Sub Hc H' ∧ Fz H' Hc r r' ∧ K' r' Hc) : AYields P id args H K' := by
  intro m w ρ Z xs b o hg hr hb
  obtain ⟨fn, tmps, asg, bd, h1, h2⟩ := h m w ρ Z xs b o hg hr hb
  refine ⟨fn, tmps, asg, bd, h1, h2.mono fun e w' ⟨x, r, H', ρ', Z', a, g, c, d, k⟩ => ?_⟩
  obtain ⟨r', Hc, hs, hf, hk'⟩ := hk r H' k
  refine ⟨x, r', Hc, ρ', _, a, g.freeze hs, hf.sound g x c, ?_, hk'⟩
  refine { d with zmono := fun b q => .inl (d.zmono b q), znew := fun b q => ?_, own := fun b q => d.own b (q.of_sub hs) }
  rcases q with q | q
  · exact d.znew b q
  · rcases d.own b q.own with q | q
    · exact .inr (.inl q)
    · exact .inr (.inr q)
theorem Sub.of_cons {H K : AH} {id : Nat} {b : Blk} (h : hget H id = some b) (hs : Sub K H) : Sub ((id, b) :: K) H := fun j c q => by
  simp only [hget] at q
  split at q
  · rename_i e; subst e; rw [h]; exact q
  · exact hs _ _ q
abbrev L2 (idq id11 idp id8 id7 id6 id4 id3 : Nat) (l : List Ty) (t : Int) (s : List UInt8) : FL :=
  ((27, some (AV.clo path_pieces_1.n [] [AV.ptr idq 1 0 0])) ::
      (26, some (AV.str s)) ::
        (11, some ((fun id => AV.ptr id [AV.nilS].length 0 0) id11)) ::
          (21, some (AV.clo path_pieces_1.n [] [AV.ptr idp 1 0 0])) ::
            (20, some (AV.str s)) ::
              (19, some (AV.bool !true)) ::
                (18, some (AV.bool true)) ::
                  (17, some (AV.int IntKind.i64 t)) ::
                    (16, some (tysA l)) ::
                      (8, some ((fun id => AV.ptr id [AV.int IntKind.i64 0].length 0 0) id8)) ::
                        (7, some ((fun id => AV.ptr id [AV.int IntKind.i64 0].length 0 0) id7)) ::
                          (6, some ((fun id => AV.ptr id [AV.nilS].length 0 0) id6)) ::
                            (4, some ((fun id => AV.ptr id (AV.int IntKind.i64 t).cells.length 0 0) id4)) ::
                              (3, some ((fun id => AV.ptr id (tysA l).cells.length 0 0) id3)) ::
                                argsL 0 [tysA l, AV.int IntKind.i64 t, AV.str s])
abbrev base3 (o : Option Nat) (acc : List (Bool × Nat)) (id11 id3 id4 id6 id7 id8 : Nat) (l : List Ty) (t : Int) : AH := accH o 2 (acc.map spR) [(id11, .rows 1 [[accV o 2 acc.length]]), (id8, .rows 1 [[.int .i64 0]]), (id7, .rows 1 [[.int .i64 0]]), (id6, .rows 1 [[.nilS]]), (id4, .rows 1 [[.int .i64 t]]), (id3, .rows 1 [[tysA l]])]
abbrev ca2 : C := (C.reg [{ dst := some 12, guard := none, co := CO.allc 127 [AV.str [], AV.int IntKind.i64 0] }, { dst := none, guard := none, co := CO.store 2 (X.t 12) (X.t 28) }])
abbrev cb2 : C := C.block 3
      ((C.reg
            [{ dst := some 31, guard := none, co := CO.load none (X.t 3) },
              { dst := some 32, guard := none, co := CO.load none (X.t 4) },
              { dst := some 33, guard := none, co := CO.load (some 2) (X.t 12) },
              { dst := some 34, guard := none, co := CO.call 83 [X.t 31, X.t 32, X.t 33] },
              { dst := some 30, guard := none, co := CO.mv (X.t 34) },
              { dst := some 35, guard := none, co := CO.extr (X.t 30) 0 },
              { dst := some 36, guard := none, co := CO.extr (X.t 30) 1 },
              { dst := some 37, guard := none, co := CO.extr (X.t 30) 2 },
              { dst := some 13, guard := none, co := CO.allc 79 [AV.bool false, AV.int IntKind.i64 0] },
              { dst := none, guard := none, co := CO.store 2 (X.t 13) (X.t 35) },
              { dst := some 14, guard := none, co := CO.mv (X.t 36) },
              { dst := some 15, guard := none, co := CO.mv (X.t 37) }]).seq
        (((C.reg
                  [{ dst := some 38, guard := none, co := CO.mv (X.t 15) },
                    { dst := some 39, guard := none,
                      co := CO.bin BinOp.neq (X.t 38) (X.c (AV.int IntKind.i64 0)) }]).seq
              (C.cond (X.t 39)
                ((C.reg
                      [{ dst := some 40, guard := none, co := CO.mv (X.t 15) },
                        { dst := none, guard := none, co := CO.store 1 (X.t 6) (X.c AV.nilS) },
                        { dst := none, guard := none, co := CO.store 1 (X.t 7) (X.c (AV.int IntKind.i64 0)) },
                        { dst := none, guard := none, co := CO.store 1 (X.t 8) (X.t 40) }]).seq
                  C.ret)
                C.skip)).seq
          (C.reg
            [{ dst := some 41, guard := none, co := CO.load none (X.t 11) },
              { dst := some 42, guard := none, co := CO.load (some 2) (X.t 13) },
              { dst := some 43, guard := none,
                co := CO.bslice 79 2 1 [AV.bool false, AV.int IntKind.i64 0] [(0, X.t 42)] },
              { dst := some 44, guard := none, co := CO.append 79 false 2 16 (X.t 41) (X.t 43) },
              { dst := some 45, guard := none, co := CO.mv (X.t 14) },
              { dst := none, guard := none, co := CO.store 1 (X.t 11) (X.t 44) },
              { dst := none, guard := none, co := CO.store 1 (X.t 4) (X.t 45) }])))
/-- What holds ahead of a round. -/
structure J2 (lid idq : Nat) (lr : Blk) (id11 id3 id4 id6 id7 id8 : Nat) (l : List Ty) (t : Int) (ps : List Pc) (i : Nat) (H : AH) : Prop where
  mk :: out : ∃ (o : Option Nat) (acc : List (Bool × Nat)) (t' : Int), H = (lid, lr) :: base3 o acc id11 id3 id4 id6 id7 id8 l t' ∧ (o = none → acc = []) ∧
    (∀ id, o = some id → tag id = 79 ∧ id ≠ lid ∧ id ≠ idq ∧ id ≠ id11 ∧ id ≠ id8 ∧ id ≠ id7 ∧ id ≠ id6 ∧ id ≠ id4 ∧ id ≠ id3) ∧ 0 ≤ t' ∧ t' < l.length ∧ acc.length = i ∧ wayP l t ps [] = wayP l t' (ps.drop i) acc
/-- What is left by a round that ends all. -/
structure X2 (lid : Nat) (lr : Blk) (id6 id7 id8 : Nat) (l : List Ty) (t : Int) (ps : List Pc) (H : AH) : Prop where
  mk :: out : ∃ e : Int, H = [(lid, lr), (id8, .rows 1 [[.int .i64 e]]), (id7, .rows 1 [[.int .i64 0]]), (id6, .rows 1 [[.nilS]])] ∧ wayP l t ps [] = ([], 0, e)
theorem step_in {l : List Ty} (hv : TyV l) {t : Int} (h0 : 0 ≤ t) (h1 : t < l.length) (p : Pc) (h : (stepP l t p).2.2 = 0) : 0 ≤ (stepP l t p).2.1 ∧ (stepP l t p).2.1 < l.length := by
  have hp := (hv.tAt h0 h1).parts
  unfold stepP at h ⊢
  split at h
  · rename_i c
    rw [if_pos c]
    split at h
    · cases h
    · rename_i c2
      rw [if_neg c2]
      split at h
      · cases h
      · rename_i c3
        rw [if_neg c3]
        have := hp (tAt l t).el (by unfold parts; rw [if_pos (by simpa using c2)]; simp)
        dsimp only
        omega
  · rename_i c
    rw [if_neg c]
    split at h
    · cases h
    · rename_i c2
      rw [if_neg c2]
      cases hi : itemIx l t p.1 with
      | none => rw [hi] at h; cases h
      | some n =>
        dsimp only
        have hil : n < (tAt l t).its.length := by
          unfold itemIx at hi
          split at hi
          · exact (List.findIdx?_eq_some_iff_getElem.1 hi).1
          · cases hi
        have hk : (tAt l t).kd = 13 ∨ (tAt l t).kd = 14 := by
          simp only [kIt, decide_eq_false_iff_not, Classical.not_not] at c2
          exact c2
        have := hp ((tAt l t).its[n]).ty (by unfold parts; rw [if_pos hk]; simp only [List.mem_append, List.mem_map]; exact .inr ⟨_, List.getElem_mem hil, rfl⟩)
        rw [show (tAt l t).its.getD n it0 = (tAt l t).its[n] from by simp [List.getD, hil]]
        omega
set_option maxHeartbeats 400000 in
theorem round2 (ps : List Pc) (l : List Ty) (hl : TysOk l) (hv : TyV l) (t : Int) (s : List UInt8) (lid idq id11 idp id8 id7 id6 id4 id3 : Nat) (a b : Code) (fl : List Nat) (N : Nat) (ha : comp PG fl a = ca2) (hb : comp PG fl b = cb2) (fr : Nat → Option AV) (hfr : frm (L2 idq id11 idp id8 id7 id6 id4 id3 l t s) = fr)
    (hd : (dstsOk N ca2 && dstsOk N cb2 && [28, 29].all fun p => decide (p < N)) = true) (hpl : ps.length ≤ 1000001)
    (nl : lid ≠ idq ∧ lid ≠ id11 ∧ lid ≠ id8 ∧ lid ≠ id7 ∧ lid ≠ id6 ∧ lid ≠ id4 ∧ lid ≠ id3) (nq : idq ≠ id11 ∧ idq ≠ id8 ∧ idq ≠ id7 ∧ idq ≠ id6 ∧ idq ≠ id4 ∧ idq ≠ id3)
    (n11 : id11 ≠ id8 ∧ id11 ≠ id7 ∧ id11 ≠ id6 ∧ id11 ≠ id4 ∧ id11 ≠ id3) (n8 : id8 ≠ id7 ∧ id8 ≠ id6 ∧ id8 ≠ id4 ∧ id8 ≠ id3) (n7 : id7 ≠ id6 ∧ id7 ≠ id4 ∧ id7 ≠ id3) (n6 : id6 ≠ id4 ∧ id6 ≠ id3) (n4 : id4 ≠ id3)
    (t11 : tag id11 = 44) (t8 : tag id8 = 30) (t7 : tag id7 = 3) (t6 : tag id6 = 44) (t4 : tag id4 = 3) (t3 : tag id3 = 22) :
    Round lid idq ps (J2 lid idq (.loop ⟨[28, 29], a, b, N, fr, .ready⟩) id11 id3 id4 id6 id7 id8 l t ps) (X2 lid (.loop ⟨[28, 29], a, b, N, fr, .done .ret⟩) id6 id7 id8 l t ps) := by
  obtain ⟨l1, l2, l3, l4, l5, l6, l7⟩ := nl
  obtain ⟨q1, q2, q3, q4, q5, q6⟩ := nq
  obtain ⟨e1, e2, e3, e4, e5⟩ := n11
  obtain ⟨g1, g2, g3, g4⟩ := n8
  obtain ⟨k1, k2, k3⟩ := n7
  obtain ⟨k4, k5⟩ := n6
  intro i hi H b0 hH hj
  obtain ⟨o, acc, t', e, ho1, ho2, ht0, ht1, hla, hw⟩ := hj.out
  subst e
  refine AYields.freeze (K := fun r H' => ∃ Hc, Sub Hc H' ∧ (∃ q, r = .bool q) ∧ ∃ H2, Hc = (idq, b0) :: H2 ∧ ((r = .bool true ∧ hget H2 idq = none ∧ J2 lid idq (.loop ⟨[28, 29], a, b, N, fr, .ready⟩) id11 id3 id4 id6 id7 id8 l t ps (i + 1) H2) ∨ (r = .bool false ∧ X2 lid (.loop ⟨[28, 29], a, b, N, fr, .done .ret⟩) id6 id7 id8 l t ps H2))) ?_ (fun r H' ⟨Hc, hs, ⟨q, hq⟩, hk⟩ => ⟨r, Hc, hs, by subst hq; exact Fz.refl _, hk⟩)
  have hid : hget ((idq, b0) :: (lid, Blk.loop ⟨[28, 29], a, b, N, fr, .ready⟩) :: base3 o acc id11 id3 id4 id6 id7 id8 l t') lid = some (.loop ⟨[28, 29], a, b, N, fr, .ready⟩) := (hget_tail l1.symm).trans hget_self
  rw [List.drop_eq_getElem_cons hi, wayP] at hw
  have hin := step_in hv ht0 ht1 (ps[i])
  have hsp := step_spec l hl t' ht0 ht1 (ps[i])
  generalize (ps[i]) = p at *
  generalize stepP l t' p = st at *
  obtain ⟨⟨eb, en⟩, to, er⟩ := st
  dsimp only at hw hin
  rcases o with _ | ida
  · have hac := ho1 rfl
    subst hac
    have hi0 : i = 0 := hla.symm
    clear hla ho1 ho2 hpl
    dsimp only [base3, accH, accV, List.map_nil, List.length_nil] at hH hid ⊢
    refine of_bodyG mixed ha hb hfr hd rfl rfl rfl hid ?_
    clear hid hH hd ha hb hfr hj
    (first | refine au ?_ | exact au0 | fail)
    intro id12 hid12 ht12; have n12 := neAll_of hid12; (try simp only [neAll, neAll_hset] at n12); have m12 := n12; (repeat (obtain ⟨_, m12⟩ := m12))
    clear hid12
    (first | refine au ?_ | exact au0 | fail)
    refine ⟨by exact hg_of, ?_⟩
    (first | refine au ?_ | exact au0 | fail)
    first | refine callF_eq (hsp _) ?_ | refine callG_eq rfl (hsp _) ?_
    (first | refine au ?_ | exact au0 | fail)
    intro id13 hid13 ht13; have n13 := neAll_of hid13; (try simp only [neAll, neAll_hset] at n13); have m13 := n13; (repeat (obtain ⟨_, m13⟩ := m13))
    clear hid13
    (first | refine au ?_ | exact au0 | fail)
    refine bsplit_dec (fun ce => ?_) (fun ce => ?_)
    · (first | refine au ?_ | exact au0 | fail)
      refine ⟨by exact hg_of, ?_⟩
      (first | refine au ?_ | exact au0 | fail)
      refine ⟨[(idq, b0), (lid, .loop ⟨[28, 29], a, b, N, fr, .done .ret⟩), (id8, .rows 1 [[.int .i64 er]]), (id7, .rows 1 [[.int .i64 0]]), (id6, .rows 1 [[.nilS]])], ?_, ⟨false, rfl⟩, _, rfl, .inr ⟨rfl, ⟨er, rfl, by rw [hw, if_neg ce]⟩⟩⟩
      (repeat (refine Sub.of_cons ?_ ?_; (next => (repeat (first | ((with_reducible refine Eq.trans hget_self ?_); exact rfl) | with_reducible refine (hget_tail (by first | with_reducible assumption | (apply Ne.symm; with_reducible assumption))).trans ?_ | with_reducible refine (hget_set_ne (by first | with_reducible assumption | (apply Ne.symm; with_reducible assumption))).trans ?_ | with_reducible refine (hget_del_ne (by first | with_reducible assumption | (apply Ne.symm; with_reducible assumption))).trans ?_ | ((with_reducible refine Eq.trans (hget_set ?_) ?_); rotate_left; exact rfl))))))
      exact Sub.nil _
    (first | refine au ?_ | exact au0 | fail)
    refine ⟨_, rfl, (Nat.le_of_ble_eq_true rfl), (fun q => by cases q), fun _ => ?_⟩
    intro id44 hid44 ht44; have n44 := neAll_of hid44; (try simp only [neAll, neAll_hset] at n44); have m44 := n44; (repeat (obtain ⟨_, m44⟩ := m44))
    clear hid44
    (first | refine au ?_ | exact au0 | fail)
    refine ⟨by exact hg_of, ?_⟩
    (first | refine au ?_ | exact au0 | fail)
    have er0 : er = 0 := by first | exact ce | exact Classical.not_not.1 ce
    refine ⟨(idq, b0) :: (lid, .loop ⟨[28, 29], a, b, N, fr, .ready⟩) :: base3 (some id44) [(eb, en)] id11 id3 id4 id6 id7 id8 l to, ?_, ⟨true, rfl⟩, _, rfl, .inl ⟨rfl, ?_, ⟨some id44, [(eb, en)], to, rfl, (fun q => by cases q), (fun id q => by cases q; exact ⟨ht44, by assumption, by assumption, by assumption, by assumption, by assumption, by assumption, by assumption, by assumption⟩), (hin er0).1, (hin er0).2, by rw [hi0]; rfl, by rw [hw, if_pos er0]; rfl⟩⟩⟩
    · dsimp only [base3, accH, accV]
      (repeat (refine Sub.of_cons ?_ ?_; (next => (repeat (first | ((with_reducible refine Eq.trans hget_self ?_); exact rfl) | with_reducible refine (hget_tail (by first | with_reducible assumption | (apply Ne.symm; with_reducible assumption))).trans ?_ | with_reducible refine (hget_set_ne (by first | with_reducible assumption | (apply Ne.symm; with_reducible assumption))).trans ?_ | with_reducible refine (hget_del_ne (by first | with_reducible assumption | (apply Ne.symm; with_reducible assumption))).trans ?_ | ((with_reducible refine Eq.trans (hget_set ?_) ?_); rotate_left; exact rfl))))))
      exact Sub.nil _
    · refine hget_none ?_
      simp only [base3, accH, neAll]
      (repeat' apply And.intro) <;> first | with_reducible assumption | (apply Ne.symm; with_reducible assumption) | trivial
  · obtain ⟨hti, a1, a2, a3, a4, a5, a6, a7, a8⟩ := ho2 ida rfl
    have hal : acc.length ≤ 1000001 := by omega
    clear ho1 ho2 hpl
    dsimp only [base3, accH, accV] at hH hid ⊢
    refine of_bodyG mixed ha hb hfr hd rfl rfl rfl hid ?_
    clear hid hH hd ha hb hfr hj
    (first | refine au ?_ | exact au0 | fail)
    intro id12 hid12 ht12; have n12 := neAll_of hid12; (try simp only [neAll, neAll_hset] at n12); have m12 := n12; (repeat (obtain ⟨_, m12⟩ := m12))
    clear hid12
    (first | refine au ?_ | exact au0 | fail)
    refine ⟨by exact hg_of, ?_⟩
    (first | refine au ?_ | exact au0 | fail)
    first | refine callF_eq (hsp _) ?_ | refine callG_eq rfl (hsp _) ?_
    (first | refine au ?_ | exact au0 | fail)
    intro id13 hid13 ht13; have n13 := neAll_of hid13; (try simp only [neAll, neAll_hset] at n13); have m13 := n13; (repeat (obtain ⟨_, m13⟩ := m13))
    clear hid13
    (first | refine au ?_ | exact au0 | fail)
    refine bsplit_dec (fun ce => ?_) (fun ce => ?_)
    · (first | refine au ?_ | exact au0 | fail)
      refine ⟨by exact hg_of, ?_⟩
      (first | refine au ?_ | exact au0 | fail)
      refine ⟨[(idq, b0), (lid, .loop ⟨[28, 29], a, b, N, fr, .done .ret⟩), (id8, .rows 1 [[.int .i64 er]]), (id7, .rows 1 [[.int .i64 0]]), (id6, .rows 1 [[.nilS]])], ?_, ⟨false, rfl⟩, _, rfl, .inr ⟨rfl, ⟨er, rfl, by rw [hw, if_neg ce]⟩⟩⟩
      (repeat (refine Sub.of_cons ?_ ?_; (next => (repeat (first | ((with_reducible refine Eq.trans hget_self ?_); exact rfl) | with_reducible refine (hget_tail (by first | with_reducible assumption | (apply Ne.symm; with_reducible assumption))).trans ?_ | with_reducible refine (hget_set_ne (by first | with_reducible assumption | (apply Ne.symm; with_reducible assumption))).trans ?_ | with_reducible refine (hget_del_ne (by first | with_reducible assumption | (apply Ne.symm; with_reducible assumption))).trans ?_ | ((with_reducible refine Eq.trans (hget_set ?_) ?_); rotate_left; exact rfl))))))
      exact Sub.nil _
    (first | refine au ?_ | exact au0 | fail)
    refine ⟨_, _, readS_all (by exact hg_of) ?_, rfl, rfl, rfl, hti, ?_, ?_⟩
    · simp
    · simp only [List.length_map, List.length_set, List.length_replicate]; omega
    (first | refine au ?_ | exact au0 | fail)
    intro id44 hid44 ht44; have n44 := neAll_of hid44; (try simp only [neAll, neAll_hset] at n44); have m44 := n44; (repeat (obtain ⟨_, m44⟩ := m44))
    clear hid44
    (first | refine au ?_ | exact au0 | fail)
    refine ⟨by exact hg_of, ?_⟩
    (first | refine au ?_ | exact au0 | fail)
    have er0 : er = 0 := by first | exact ce | exact Classical.not_not.1 ce
    refine ⟨(idq, b0) :: (lid, .loop ⟨[28, 29], a, b, N, fr, .ready⟩) :: base3 (some id44) (acc ++ [(eb, en)]) id11 id3 id4 id6 id7 id8 l to, ?_, ⟨true, rfl⟩, _, rfl, .inl ⟨rfl, ?_, ⟨some id44, acc ++ [(eb, en)], to, rfl, (fun q => by cases q), (fun id q => by cases q; exact ⟨ht44, by assumption, by assumption, by assumption, by assumption, by assumption, by assumption, by assumption, by assumption⟩), (hin er0).1, (hin er0).2, by rw [List.length_append, hla]; rfl, by rw [hw, if_pos er0]⟩⟩⟩
    · dsimp only [base3, accH, accV]
      rw [List.map_append, List.length_append, show acc.length = (acc.map spR).length from by simp]
      have b1 : id44 ≠ lid := by assumption
      have b2 : id44 ≠ id11 := by assumption
      have b3 : id44 ≠ id4 := by assumption
      have hB : ∀ T : AH, hget T lid = some (.loop ⟨[28, 29], a, b, N, fr, .busy⟩) → ∀ c, hget (hset T lid c) lid = some c := fun T h c => hget_set h
      have hC : ∀ T : AH, hget T id11 = some (.rows 1 [[.own ida 2 0 (acc.map spR).length]]) → ∀ c, hget (hset T id11 c) id11 = some c := fun T h c => hget_set h
      have hD : ∀ T : AH, hget T id4 = some (.rows 1 [[.int .i64 t']]) → ∀ c, hget (hset T id4 c) id4 = some c := fun T h c => hget_set h
      (repeat (refine Sub.of_cons ?_ ?_; (next => (repeat (first | ((with_reducible refine Eq.trans hget_self ?_); exact rfl) | with_reducible refine (hget_tail (by first | with_reducible assumption | (apply Ne.symm; with_reducible assumption))).trans ?_ | with_reducible refine (hget_set_ne (by first | with_reducible assumption | (apply Ne.symm; with_reducible assumption))).trans ?_ | with_reducible refine (hget_del_ne (by first | with_reducible assumption | (apply Ne.symm; with_reducible assumption))).trans ?_ | (with_reducible refine (hB _ ?_ _).trans rfl) | (with_reducible refine (hC _ ?_ _).trans rfl) | (with_reducible refine (hD _ ?_ _).trans rfl))))))
      exact Sub.nil _
    · refine hget_none ?_
      simp only [base3, accH, neAll]
      (repeat' apply And.intro) <;> first | with_reducible assumption | (apply Ne.symm; with_reducible assumption) | trivial
end Go.Proofs.Ytodiahhfpcdejaa

/- Find, walked. -/
namespace Go.Proofs.Ytodiahhfpcdejaa
set_option autoImplicit false
set_option linter.unusedSimpArgs false
set_option linter.unusedVariables false
attribute [local irreducible] callA callP ACalls
theorem sub_del2 {T : AH} {i k : Nat} {b x : Blk} (h1 : hget T i = none) (h2 : hget T k = none) : Sub T (hdel ((i, b) :: (k, x) :: T) k) := fun j c q => by
  have e1 : i ≠ j := fun e => by subst e; rw [h1] at q; cases q
  have e2 : j ≠ k := fun e => by subst e; rw [h2] at q; cases q
  rw [hget_del_ne e2, hget_tail e1, hget_tail e2.symm]; exact q
theorem pcs_len : ∀ (n : Nat) (s : List UInt8) (f : Bool), s.length < n → (pcs s f).length ≤ s.length + 1
  | 0, s, f, h => absurd h (Nat.not_lt_zero _)
  | n + 1, s, f, h => by
    by_cases h0 : f = false ∧ s = []
    · obtain ⟨rfl, rfl⟩ := h0
      rw [pcs_end]; simp
    by_cases h1 : 0 < (numP s).2
    · rw [pcs_num h0 h1, List.length_cons]
      have := (numP_le s).1
      have := pcs_len n (s.drop (numP s).2) false (by rw [List.length_drop]; omega)
      rw [List.length_drop] at this
      omega
    cases hr : (if f = true then some s else dotP s) with
    | none =>
      cases f with
      | true => cases hr
      | false => rw [pcs_nodot (fun q => h0 ⟨rfl, q⟩) h1 hr]; simp
    | some r =>
      rw [pcs_item h0 h1 hr]
      have h4 : r.length ≤ s.length := by
        cases f with
        | true => cases hr; exact Nat.le_refl _
        | false => rw [dotP_some hr]; simp
      split
      · simp
      · have h3 := nl_le r
        have := pcs_len n (r.drop (nl r)) false (by rw [List.length_drop]; omega)
        rw [List.length_drop] at this
        rw [List.length_cons]
        omega
set_option maxHeartbeats 4000000 in
theorem Find_spec0 (l : List Ty) (hl : TysOk l) (t : Int) (s : List UInt8) (hs : s.length ≤ 1000000) : ACalls PG path_Find.n [tysA l, .int .i64 t, .str s] [] fun r _ => r = findA (findP l t s) := by
  have hlen : (l.map tyR).length = l.length := by simp
  have hll := hl.len
  refine ACalls.fzK (path_Find.of rfl (wpF_start ?_))
  unfold findP
  (first | refine au ?_ | exact au0 | fail)
  intro id3 hid3 ht3; have n3 := neAll_of hid3; (try simp only [neAll, neAll_hset] at n3); have m3 := n3; (repeat (obtain ⟨_, m3⟩ := m3))
  (first | refine au ?_ | exact au0 | fail)
  intro id4 hid4 ht4; have n4 := neAll_of hid4; (try simp only [neAll, neAll_hset] at n4); have m4 := n4; (repeat (obtain ⟨_, m4⟩ := m4))
  (first | refine au ?_ | exact au0 | fail)
  intro id6 hid6 ht6; have n6 := neAll_of hid6; (try simp only [neAll, neAll_hset] at n6); have m6 := n6; (repeat (obtain ⟨_, m6⟩ := m6))
  (first | refine au ?_ | exact au0 | fail)
  intro id7 hid7 ht7; have n7 := neAll_of hid7; (try simp only [neAll, neAll_hset] at n7); have m7 := n7; (repeat (obtain ⟨_, m7⟩ := m7))
  (first | refine au ?_ | exact au0 | fail)
  intro id8 hid8 ht8; have n8 := neAll_of hid8; (try simp only [neAll, neAll_hset] at n8); have m8 := n8; (repeat (obtain ⟨_, m8⟩ := m8))
  (first | refine au ?_ | exact au0 | fail)
  first | refine callF_eq (path_known_spec l hl t _) ?_ | refine callG_eq rfl (path_known_spec l hl t _) ?_
  by_cases hk : knownT l t
  · rw [if_pos hk, decide_eq_true hk]
    (first | refine au ?_ | exact au0 | fail)
    refine callF_of ((path_pieces_spec s _).mono fun r H1 ⟨idp, e1, hidp, htp, e2⟩ => ?_)
    subst e1; subst e2
    (first | refine au ?_ | exact au0 | fail)
    clear hid3 hid4 hid6 hid7 hid8
    have np := neAll_of hidp
    simp only [neAll] at np
    refine ⟨fun a b fl N lid ha hb hd hli => ?_⟩
    have nl := neAll_of hli
    simp only [neAll] at nl
    generalize hfr : frm _ = fr
    have hround : Round lid idp (pcs s true) (fun i H => H = (lid, .loop ⟨[22, 23], a, b, N, fr, .ready⟩) :: base1 id3 id4 id6 id7 id8 l t ∧ ∀ j (h : j < (pcs s true).length), j < i → (pcs s true)[j].2.2 = true)
        (fun H => H = (lid, .loop ⟨[22, 23], a, b, N, fr, .done .ret⟩) :: base2 id3 id4 id6 id7 id8 l t 1 ∧ (pcs s true).all (·.2.2) = false) := by
      intro i hi H b0 hH ⟨e, hok⟩
      subst e
      refine of_bodyG mixed ha hb hfr hd rfl rfl rfl (by exact hg_of) ?_
      (first | refine au ?_ | exact au0 | fail)
      refine ⟨by exact hg_of, ?_⟩
      (first | refine au ?_ | exact au0 | fail)
      refine bsplit_intro (fun c => ?_) (fun c => ?_)
      · (first | refine au ?_ | exact au0 | fail)
        refine ⟨by exact hg_of, ?_⟩
        (first | refine au ?_ | exact au0 | fail)
        exact ⟨_, rfl, .inl ⟨rfl, hH, rfl, fun j h q => by
          by_cases e : j < i
          · exact hok j h e
          · have : j = i := by omega
            subst this; exact c⟩⟩
      · (first | refine au ?_ | exact au0 | fail)
        refine ⟨by exact hg_of, ?_⟩
        (first | refine au ?_ | exact au0 | fail)
        refine ⟨_, rfl, .inr ⟨rfl, rfl, ?_⟩⟩
        rw [← Bool.not_eq_true]
        intro q
        rw [List.all_eq_true.1 q _ (List.getElem_mem hi)] at c
        cases c
    refine ((pieces_iter s (by omega) lid idp htp _ _ hround _ ?_ ⟨rfl, fun j h q => by omega⟩).perm ?_ ?_).mono fun r H' hio => ?_
    · refine hget_none ?_
      simp only [neAll]
      (repeat' apply And.intro) <;> first | omega | trivial
    · exact Sub.swap (by omega)
    · exact Sub.swap (by omega)
    obtain ⟨b', H2, rfl, ⟨rfl, hok⟩ | ⟨rfl, hno⟩⟩ := hio.out
    · refine ⟨.ready, base1 id3 id4 id6 id7 id8 l t, ?_, ?_, ?_⟩
      · exact sub_of
      · exact hg_of
      rw [if_pos (all_ok fun j h => hok j h h)]
      (first | refine au ?_ | exact au0 | fail)
      intro id11 hid11 ht11; have n11 := neAll_of hid11; (try simp only [neAll, neAll_hset] at n11); have m11 := n11; (repeat (obtain ⟨_, m11⟩ := m11))
      (first | refine au ?_ | exact au0 | fail)
      clear hid11 hli
      have hpl := pcs_len (s.length + 1) s true (Nat.lt_succ_self _)
      have hv := tyChk_v hk.2.2
      refine callF_of ((path_pieces_spec s _).mono fun r H1 ⟨idq, e1, hidq, htq, e2⟩ => ?_)
      subst e1; subst e2
      (first | refine au ?_ | exact au0 | fail)
      have nq := neAll_of hidq
      simp only [neAll] at nq
      clear hidq
      refine ⟨fun a b fl N lid ha hb hd hli => ?_⟩
      have nl2 := neAll_of hli
      simp only [neAll] at nl2
      clear hli
      have hr := round2 (pcs s true) l hl hv t s lid idq id11 idp id8 id7 id6 id4 id3 a b fl N ha hb _ rfl hd (by omega) ⟨nl2.1, nl2.2.1, nl2.2.2.1, nl2.2.2.2.1, nl2.2.2.2.2.1, nl2.2.2.2.2.2.1, nl2.2.2.2.2.2.2.1⟩ ⟨nq.1, nq.2.1, nq.2.2.1, nq.2.2.2.1, nq.2.2.2.2.1, nq.2.2.2.2.2.1⟩ ⟨n11.1, n11.2.1, n11.2.2.1, n11.2.2.2.1, n11.2.2.2.2.1⟩ ⟨n8.1, n8.2.1, n8.2.2.1, n8.2.2.2.1⟩ ⟨n7.1, n7.2.1, n7.2.2.1⟩ ⟨n6.1, n6.2.1⟩ n4.1 ht11 ht8 ht7 ht6 ht4 ht3
      refine ((pieces_iter s (by omega) lid idq htq _ _ hr ((lid, .loop ⟨[28, 29], a, b, N, _, .ready⟩) :: (id11, .rows 1 [[.nilS]]) :: base1 id3 id4 id6 id7 id8 l t) ?_ ⟨none, [], t, rfl, fun _ => rfl, (fun id q => by cases q), hk.1, hk.2.1, rfl, rfl⟩).perm ?_ ?_).mono fun r H' hio => ?_
      · refine hget_none ?_
        simp only [neAll]
        exact ⟨nl2.1.symm, nq⟩
      · exact Sub.swap nl2.1.symm
      · exact Sub.swap nl2.1
      obtain ⟨b', H2, rfl, hj | hx⟩ := hio.out
      · obtain ⟨o, acc, t', rfl, ho1, ho2, h0, h1, hla, hw⟩ := hj.out
        rw [List.drop_length, wayP] at hw
        rw [hw]
        rcases o with _ | ida
        · have hac := ho1 rfl
          subst hac
          refine ⟨.ready, base3 none [] id11 id3 id4 id6 id7 id8 l t', ?_, (hget_tail nl2.1.symm).trans hget_self, ?_⟩
          · exact sub_del2 (hget_none (by simp only [base3, accH, neAll]; exact nq)) (hget_none (by simp only [base3, accH, neAll]; exact nl2.2))
          dsimp only [base3, accH, accV]
          (first | refine au ?_ | exact au0 | fail)
          exact fz_of
        · obtain ⟨hti, a1, a2, a3, a4, a5, a6, a7, a8⟩ := ho2 ida rfl
          refine ⟨.ready, base3 (some ida) acc id11 id3 id4 id6 id7 id8 l t', ?_, (hget_tail nl2.1.symm).trans hget_self, ?_⟩
          · exact sub_del2 (hget_none (by simp only [base3, accH, neAll]; exact ⟨a2.symm, nq⟩)) (hget_none (by simp only [base3, accH, neAll]; exact ⟨a1.symm, nl2.2⟩))
          dsimp only [base3, accH, accV]
          (first | refine au ?_ | exact au0 | fail)
          have hlm : acc.length = (acc.map spR).length := (List.length_map _).symm
          rw [hlm]
          refine Fz.tupL (FzL.cons (Fz.ownL hget_self rfl (FzR.refl _ _ _) (map_w (f := spR) (fun _ => rfl) _)) (FzL.cons (Fz.refl _) (FzL.cons (Fz.refl _) (FzL.nil _ _))))
      · obtain ⟨e, rfl, hw⟩ := hx.out
        rw [hw]
        refine ⟨.done .ret, [(id8, .rows 1 [[.int .i64 e]]), (id7, .rows 1 [[.int .i64 0]]), (id6, .rows 1 [[.nilS]])], ?_, ?_, ?_⟩
        · exact sub_del2 (hget_none (by simp only [neAll]; exact ⟨nq.2.1, nq.2.2.1, nq.2.2.2.1, trivial⟩)) (hget_none (by simp only [neAll]; exact ⟨nl2.2.2.1, nl2.2.2.2.1, nl2.2.2.2.2.1, trivial⟩))
        · exact (hget_tail nl2.1.symm).trans hget_self
        (first | refine au ?_ | exact au0 | fail)
        exact fz_of
    · refine ⟨.done .ret, (idp, b') :: base2 id3 id4 id6 id7 id8 l t 1, ?_, ?_, ?_⟩
      · exact sub_of
      · exact hg_of
      rw [hno, if_neg (by decide)]
      (first | refine au ?_ | exact au0 | fail)
      exact fz_of
  · rw [if_neg hk, decide_eq_false hk]
    (first | refine au ?_ | exact au0 | fail)
    exact fz_of
theorem Find_spec (l : List Ty) (hl : TysOk l) (t : Int) (s : List UInt8) (hs : s.length ≤ 1000000) (H : AH) : ACalls PG path_Find.n [tysA l, .int .i64 t, .str s] H fun r H' => r = findA (findP l t s) ∧ H' = H := (Find_spec0 l hl t s hs).frame H
end Go.Proofs.Ytodiahhfpcdejaa

/- Shapes of types, a level at a time; for types that hold themselves. -/
namespace Go.Proofs.Ytodiahhfpcdejaa
set_option autoImplicit false
set_option linter.unusedVariables false
section
variable {P : Program} {rc : Bool} {n : Nat} {t e : TypeId}
def flOf (P : Program) (t : TypeId) : Option (List (Nat × Nat)) := match P.underlying t with
  | some (.struct fs) => some (fs.toList.map fun f => (f.offset, f.type))
  | _ => none
def slOf (P : Program) (t : TypeId) : Option TypeId := match P.underlying t with
  | some (.slice e) => some e
  | _ => none
def inOf (P : Program) (t : TypeId) : Option IntKind := match P.underlying t with
  | some (.int k) => some k
  | _ => none
def boOf (P : Program) (t : TypeId) : Bool := match P.underlying t with
  | some .bool => true
  | _ => false
def stOf (P : Program) (t : TypeId) : Bool := match P.underlying t with
  | some .string => true
  | _ => false
/-- Fields, one behind the other: each with its offset, cells and type. -/
def fsh (sh : TypeId → Option Sh) : List (Nat × Nat × Nat) → Option Sh
  | [] => some .u
  | (_, _, t) :: r => (sh t).bind fun a => (fsh sh r).map (.p a)
def flC (P : Program) (t : TypeId) : Option (List (Nat × Nat × Nat)) := (flOf P t).map fun l => l.map fun x => (x.1, P.cellsOf x.2, x.2)
def offB : Nat → Nat → List (Nat × Nat × Nat) → Bool
  | tot, o, [] => Nat.beq o tot
  | tot, o, (a, c, _) :: r => Nat.beq a o && offB tot (o + c) r
theorem fsh_of (sh : TypeId → Option Sh) : ∀ (fs : List Field) (tot o : Nat), offB tot o (fs.map fun f => (f.offset, P.cellsOf f.type, f.type)) = true → fieldsSh P sh tot o fs = fsh sh (fs.map fun f => (f.offset, P.cellsOf f.type, f.type))
  | [], tot, o, h => by
    have : o = tot := Nat.eq_of_beq_eq_true h
    simp [fieldsSh, fsh, this]
  | f :: fs, tot, o, h => by
    simp only [List.map_cons, offB, Bool.and_eq_true] at h
    have h1 : f.offset = o := Nat.eq_of_beq_eq_true h.1
    have := fsh_of sh fs tot (o + P.cellsOf f.type) h.2
    simp only [fieldsSh, fsh, List.map_cons, if_pos h1, this]
theorem shO_struct {l : List (Nat × Nat × Nat)} (h : flC P t = some l) (ho : offB (P.cellsOf t) 0 l = true) : shO rc P (n + 1) t = fsh (shO rc P n) l := by
  unfold flC flOf at h
  split at h
  · rename_i fs hu
    simp only [Option.map_some, List.map_map, Option.some.injEq] at h
    subst h
    simp only [shO, hu]
    exact fsh_of _ _ _ _ ho
  · cases h
theorem shO_slice {c b : Nat} (h : slOf P t = some e) (hc : P.cellsOf e = c) (hb : P.bytesOf e = b) (h0 : 0 < c) : shO rc P (n + 1) t = (shO rc P n e).map (.slice c b) := by
  unfold slOf at h
  split at h
  · rename_i hu
    simp only [Option.some.injEq] at h
    subst h
    simp only [shO, hu, hc, hb, if_pos h0]
  · cases h
theorem shO_int {k : IntKind} (h : inOf P t = some k) : shO rc P (n + 1) t = some (.int k) := by
  unfold inOf at h
  split at h
  · rename_i hu
    simp only [Option.some.injEq] at h
    subst h
    simp only [shO, hu]
  · cases h
theorem shO_bool (h : boOf P t = true) : shO rc P (n + 1) t = some .bool := by
  unfold boOf at h
  split at h
  · rename_i hu
    simp only [shO, hu]
  · cases h
theorem shO_str (h : stOf P t = true) : shO rc P (n + 1) t = some .str := by
  unfold stOf at h
  split at h
  · rename_i hu
    simp only [shO, hu]
  · cases h
theorem fsh_some {sh : TypeId → Option Sh} : ∀ {l : List (Nat × Nat × Nat)}, (∀ x ∈ l, ∃ a, sh x.2.2 = some a) → ∃ a, fsh sh l = some a
  | [], _ => ⟨_, rfl⟩
  | x :: l, h => by
    obtain ⟨a, ha⟩ := h x List.mem_cons_self
    obtain ⟨b, hb⟩ := fsh_some (l := l) fun y hy => h y (List.mem_cons_of_mem _ hy)
    exact ⟨_, by simp only [fsh, ha, hb, Option.bind_some, Option.map_some]; rfl⟩
/-- A set of types that is closed has shapes at each depth. -/
def clB (P : Program) (S : List Nat) : Bool := S.all fun t => match P.underlying t with
  | some .bool => true
  | some (.int _) => true
  | some .string => true
  | some (.struct fs) => (match flC P t with
    | some l => offB (P.cellsOf t) 0 l && l.all (fun x => S.contains x.2.2)
    | none => false)
  | some (.slice e) => Nat.ble 1 (P.cellsOf e) && S.contains e
  | _ => false
theorem clB_some {S : List Nat} (h : clB P S = true) : ∀ (n : Nat) (t : Nat), t ∈ S → ∃ sh, shO true P n t = some sh
  | 0, t, _ => ⟨.no, rfl⟩
  | n + 1, t, ht => by
    have q := List.all_eq_true.1 h t ht
    have ih := clB_some h n
    split at q <;> rename_i hu
    · exact ⟨_, by simp only [shO, hu]; rfl⟩
    · exact ⟨_, by simp only [shO, hu]; rfl⟩
    · exact ⟨_, by simp only [shO, hu]; rfl⟩
    · split at q
      · rename_i l hl
        simp only [Bool.and_eq_true, List.all_eq_true, List.contains_iff_mem] at q
        rw [shO_struct hl q.1]
        exact fsh_some fun x hx => ih _ (q.2 x hx)
      · cases q
    · simp only [Bool.and_eq_true, List.contains_iff_mem] at q
      obtain ⟨a, ha⟩ := ih _ q.2
      exact ⟨_, by simp only [shO, hu, if_pos (show 0 < P.cellsOf _ from Nat.le_of_ble_eq_true q.1), ha, Option.map_some]; rfl⟩
    · cases q
end
section
variable {P : Program} {m : Nat} {t e : TypeId} {a sh : Sh} {x vs : List AV}
theorem okInt {k : IntKind} (h : inOf P t = some k) (hs : shO true P m t = some a) (ho : a.OkN x) : ∃ n, x = [.int k n] ∧ k.min ≤ n ∧ n ≤ k.max := by
  cases m with
  | zero => simp only [shO, if_true, Option.some.injEq] at hs; subst hs; exact ho.elim
  | succ m =>
    rw [shO_int h] at hs
    simp only [Option.some.injEq] at hs; subst hs
    obtain ⟨n, h1, h2⟩ := ho
    simp only [Lit.wf, Bool.and_eq_true, decide_eq_true_eq] at h2
    exact ⟨n, h1, h2⟩
theorem okU64 (h : inOf P t = some .u64) (hs : shO true P m t = some a) (ho : a.OkN x) : ∃ n : Nat, x = [.int .u64 (n : Nat)] ∧ n < 18446744073709551616 := by
  obtain ⟨n, h1, h2, h3⟩ := okInt h hs ho
  have e1 : IntKind.min .u64 = 0 := rfl
  have e2 : IntKind.max .u64 = 18446744073709551615 := rfl
  rw [e1] at h2; rw [e2] at h3
  exact ⟨n.toNat, by rw [h1, Int.toNat_of_nonneg h2], by omega⟩
theorem okI64 (h : inOf P t = some .i64) (hs : shO true P m t = some a) (ho : a.OkN x) : ∃ n : Int, x = [.int .i64 n] ∧ -9223372036854775808 ≤ n ∧ n ≤ 9223372036854775807 := okInt h hs ho
theorem okU8 (h : inOf P t = some .u8) (hs : shO true P m t = some a) (ho : a.OkN x) : ∃ n : UInt8, x = [.int .u8 (n.toNat : Nat)] := by
  obtain ⟨n, h1, h2, h3⟩ := okInt h hs ho
  have e1 : IntKind.min .u8 = 0 := rfl
  have e2 : IntKind.max .u8 = 255 := rfl
  rw [e1] at h2; rw [e2] at h3
  refine ⟨UInt8.ofNat n.toNat, ?_⟩
  rw [h1, UInt8.toNat_ofNat', show n.toNat % 2 ^ 8 = n.toNat from by omega, Int.toNat_of_nonneg h2]
theorem okBool (h : boOf P t = true) (hs : shO true P m t = some a) (ho : a.OkN x) : ∃ b, x = [.bool b] := by
  cases m with
  | zero => simp only [shO, if_true, Option.some.injEq] at hs; subst hs; exact ho.elim
  | succ m =>
    rw [shO_bool h] at hs
    simp only [Option.some.injEq] at hs; subst hs
    exact ho
theorem okStr (h : stOf P t = true) (hs : shO true P m t = some a) (ho : a.OkN x) : ∃ l : List UInt8, x = [.str l] ∧ l.length ≤ 140737488351232 := by
  cases m with
  | zero => simp only [shO, if_true, Option.some.injEq] at hs; subst hs; exact ho.elim
  | succ m =>
    rw [shO_str h] at hs
    simp only [Option.some.injEq] at hs; subst hs
    exact ho
theorem okSlice {c b : Nat} (h : slOf P t = some e) (hc : P.cellsOf e = c) (hb : P.bytesOf e = b) (h0 : 0 < c) (hs : shO true P m t = some a) (ho : a.OkN x) :
    ∃ l, x = [.rows c l] ∧ l.length * b ≤ 140737488351232 ∧ ∃ k a', m = k + 1 ∧ shO true P k e = some a' ∧ ∀ r ∈ l, a'.OkN r := by
  cases m with
  | zero => simp only [shO, if_true, Option.some.injEq] at hs; subst hs; exact ho.elim
  | succ m =>
    rw [shO_slice h hc hb h0] at hs
    simp only [Option.map_eq_some_iff] at hs
    obtain ⟨a', h1, rfl⟩ := hs
    obtain ⟨l, h2, h3, h4⟩ := ho
    exact ⟨l, h2, h3, m, a', rfl, h1, h4⟩
theorem okStruct {l : List (Nat × Nat × Nat)} (h : flC P t = some l) (ho : offB (P.cellsOf t) 0 l = true) (hs : shO true P m t = some a) (hk : a.OkN x) : ∃ k, m = k + 1 ∧ fsh (shO true P k) l = some a := by
  cases m with
  | zero => simp only [shO, if_true, Option.some.injEq] at hs; subst hs; exact hk.elim
  | succ m => exact ⟨m, rfl, by rw [← shO_struct h ho]; exact hs⟩
theorem okCons {s : TypeId → Option Sh} {o c : Nat} {r : List (Nat × Nat × Nat)} (h : fsh s ((o, c, t) :: r) = some sh) (hk : sh.OkN vs) :
    ∃ a x b y, s t = some a ∧ a.OkN x ∧ fsh s r = some b ∧ b.OkN y ∧ vs = x ++ y := by
  simp only [fsh, Option.bind_eq_some_iff, Option.map_eq_some_iff] at h
  obtain ⟨a, h1, b, h2, rfl⟩ := h
  obtain ⟨x, y, h3, h4, h5⟩ := hk
  exact ⟨a, x, b, y, h1, h4, h2, h5, h3⟩
theorem okNil {s : TypeId → Option Sh} (h : fsh s [] = some sh) (hk : sh.OkN vs) : vs = [] := by
  simp only [fsh, Option.some.injEq] at h
  subst h; exact hk
end
/-- Rows that each stand for something. -/
theorem rows_of {α : Type} {f : α → List AV} {Q : α → Prop} : ∀ {l : List (List AV)}, (∀ r ∈ l, ∃ x, r = f x ∧ Q x) → ∃ xs : List α, l = xs.map f ∧ ∀ x ∈ xs, Q x
  | [], _ => ⟨[], rfl, by simp⟩
  | r :: l, h => by
    obtain ⟨x, h1, h2⟩ := h r List.mem_cons_self
    obtain ⟨xs, h3, h4⟩ := rows_of (l := l) fun r hr => h r (List.mem_cons_of_mem _ hr)
    refine ⟨x :: xs, by rw [h1, h3]; rfl, fun y hy => ?_⟩
    rcases List.mem_cons.1 hy with rfl | hy
    · exact h2
    · exact h4 y hy
end Go.Proofs.Ytodiahhfpcdejaa

/- Arguments that are types, values, numbers. -/
namespace Go.Proofs.Ytodiahhfpcdejaa
set_option autoImplicit false
set_option linter.unusedSimpArgs false
set_option linter.unusedVariables false
theorem item_fl : flC PG ty_api_Item = some [(0, 1, ty_string), (1, 1, ty_uint64), (2, 1, ty_int), (3, 1, ty_bool), (4, 1, ty_bool)] := by kernel_rfl
theorem type_fl : flC PG ty_api_Type = some [(0, 1, ty_int), (1, 1, ty_string), (2, 1, ty_int), (3, 1, ty_int), (4, 1, ty_int), (5, 1, ty_S_api_Item)] := by kernel_rfl
theorem value_fl : flC PG ty_api_Value = some [(0, 1, ty_int), (1, 1, ty_uint64), (2, 1, ty_string), (3, 1, ty_S_api_Value)] := by kernel_rfl
theorem item_of {m : Nat} {sh : Sh} {vs : List AV} (hs : shO true PG m ty_api_Item = some sh) (hk : sh.OkN vs) : ∃ x : It, vs = itR x ∧ x.nm.length ≤ 140737488351232 ∧ x.num < 18446744073709551616 := by
  obtain ⟨k, rfl, h1⟩ := okStruct item_fl (by kernel_rfl) hs hk
  obtain ⟨_, _, _, _, a1, a2, h2, k2, rfl⟩ := okCons h1 hk
  obtain ⟨_, _, _, _, b1, b2, h3, k3, rfl⟩ := okCons h2 k2
  obtain ⟨_, _, _, _, c1, c2, h4, k4, rfl⟩ := okCons h3 k3
  obtain ⟨_, _, _, _, d1, d2, h5, k5, rfl⟩ := okCons h4 k4
  obtain ⟨_, _, _, _, e1, e2, h6, k6, rfl⟩ := okCons h5 k5
  have := okNil h6 k6; subst this
  obtain ⟨s, rfl, hs⟩ := okStr (by kernel_rfl) a1 a2
  obtain ⟨u, rfl, hu⟩ := okU64 (by kernel_rfl) b1 b2
  obtain ⟨n, rfl, _⟩ := okI64 (by kernel_rfl) c1 c2
  obtain ⟨b, rfl⟩ := okBool (by kernel_rfl) d1 d2
  obtain ⟨b', rfl⟩ := okBool (by kernel_rfl) e1 e2
  exact ⟨⟨s, u, n, b, b'⟩, rfl, hs, hu⟩
theorem type_of {m : Nat} {sh : Sh} {vs : List AV} (hs : shO true PG m ty_api_Type = some sh) (hk : sh.OkN vs) : ∃ t : Ty, vs = tyR t ∧ TyOk t := by
  obtain ⟨k, rfl, h1⟩ := okStruct type_fl (by kernel_rfl) hs hk
  obtain ⟨_, _, _, _, a1, a2, h2, k2, rfl⟩ := okCons h1 hk
  obtain ⟨_, _, _, _, b1, b2, h3, k3, rfl⟩ := okCons h2 k2
  obtain ⟨_, _, _, _, c1, c2, h4, k4, rfl⟩ := okCons h3 k3
  obtain ⟨_, _, _, _, d1, d2, h5, k5, rfl⟩ := okCons h4 k4
  obtain ⟨_, _, _, _, e1, e2, h6, k6, rfl⟩ := okCons h5 k5
  obtain ⟨_, _, _, _, f1, f2, h7, k7, rfl⟩ := okCons h6 k6
  have := okNil h7 k7; subst this
  obtain ⟨kd, rfl, _⟩ := okI64 (by kernel_rfl) a1 a2
  obtain ⟨s, rfl, hs⟩ := okStr (by kernel_rfl) b1 b2
  obtain ⟨bd, rfl, _⟩ := okI64 (by kernel_rfl) c1 c2
  obtain ⟨el, rfl, _⟩ := okI64 (by kernel_rfl) d1 d2
  obtain ⟨tg, rfl, _⟩ := okI64 (by kernel_rfl) e1 e2
  obtain ⟨l, rfl, hl, k1, s1, _, h3', h4'⟩ := okSlice (e := ty_api_Item) (c := 5) (b := 40) (by kernel_rfl) (by kernel_rfl) (by kernel_rfl) (by decide) f1 f2
  obtain ⟨its, rfl, hi⟩ := rows_of (f := itR) fun r hr => item_of h3' (h4' r hr)
  rw [List.length_map] at hl
  exact ⟨⟨kd, s, bd, el, tg, its⟩, rfl, hs, by show its.length ≤ _; omega, fun x hx => (hi x hx).1, fun x hx => (hi x hx).2⟩
theorem value_of : ∀ (m : Nat) {sh : Sh} {vs : List AV} (_ : shO true PG m ty_api_Value = some sh) (_ : sh.OkN vs), ∃ v : Vl, vs = vlR v ∧ vOk v := by
  intro m
  induction m using Nat.strongRecOn with
  | _ m ih =>
  intro sh vs hs hk
  obtain ⟨k, rfl, h1⟩ := okStruct value_fl (by kernel_rfl) hs hk
  obtain ⟨_, _, _, _, a1, a2, h2, k2, rfl⟩ := okCons h1 hk
  obtain ⟨_, _, _, _, b1, b2, h3, k3, rfl⟩ := okCons h2 k2
  obtain ⟨_, _, _, _, c1, c2, h4, k4, rfl⟩ := okCons h3 k3
  obtain ⟨_, _, _, _, d1, d2, h5, k5, rfl⟩ := okCons h4 k4
  have := okNil h5 k5; subst this
  obtain ⟨kd, rfl, _⟩ := okI64 (by kernel_rfl) a1 a2
  obtain ⟨u, rfl, hu⟩ := okU64 (by kernel_rfl) b1 b2
  obtain ⟨s, rfl, hs⟩ := okStr (by kernel_rfl) c1 c2
  obtain ⟨l, rfl, hl, k1, s1, e2, h5', h6'⟩ := okSlice (e := ty_api_Value) (c := 4) (b := 56) (by kernel_rfl) (by kernel_rfl) (by kernel_rfl) (by decide) d1 d2
  obtain ⟨its, rfl, hi⟩ := rows_of (f := vlR) fun r hr => ih k1 (by omega) h5' (h6' r hr)
  rw [List.length_map] at hl
  exact ⟨.mk kd u s its, by rw [vlR, vlRs_map]; rfl, hu, hs, by omega, vOks_of hi⟩
def Shapes.ValS : List Nat := [ty_api_Value, ty_int, ty_uint64, ty_string, ty_S_api_Value]
def Shapes.TypS : List Nat := [ty_S_api_Type, ty_api_Type, ty_int, ty_uint64, ty_string, ty_bool, ty_S_api_Item, ty_api_Item]
theorem value_sh : ∀ n, ∃ sh, shO true PG n ty_api_Value = some sh := fun n => clB_some (S := Shapes.ValS) (by kernel_rfl) n _ (by simp [Shapes.ValS])
theorem types_sh : ∀ n, ∃ sh, shO true PG n ty_S_api_Type = some sh := fun n => clB_some (S := Shapes.TypS) (by kernel_rfl) n _ (by simp [Shapes.TypS])
theorem int_sh : ∀ n, ∃ sh, shO true PG n ty_int = some sh := fun n => clB_some (S := Shapes.TypS) (by kernel_rfl) n _ (by simp [Shapes.TypS])
theorem value_arg {av : AV} (h : ∃ n sh, shO true PG n ty_api_Value = some sh ∧ ArgOk true sh av) : ∃ v : Vl, Nw av (vlA v) ∧ vOk v := by
  obtain ⟨n, sh, h1, h2⟩ := h
  obtain ⟨av', h3, h4⟩ := h2.nonil
  obtain ⟨vs, rfl, h5⟩ := h3
  obtain ⟨x, rfl, h6⟩ := value_of n h1 h5
  exact ⟨x, h4, h6⟩
theorem types_arg {av : AV} (h : ∃ n sh, shO true PG n ty_S_api_Type = some sh ∧ ArgOk false sh av) : ∃ l : List Ty, Nw av (tysA l) ∧ TysOk l := by
  obtain ⟨n, sh, h1, h2⟩ := h
  obtain ⟨av', h3, h4⟩ := h2.nonil
  obtain ⟨l, e, hl, k1, s1, e2, h5', h6'⟩ := okSlice (e := ty_api_Type) (c := 6) (b := 72) (by kernel_rfl) (by kernel_rfl) (by kernel_rfl) (by decide) h1 h3
  obtain ⟨ts, rfl, hi⟩ := rows_of (f := tyR) fun r hr => type_of h5' (h6' r hr)
  rw [List.length_map] at hl
  simp only [List.cons.injEq, and_true] at e
  subst e
  exact ⟨ts, h4, by omega, hi⟩
theorem int_arg {av : AV} (h : ∃ n sh, shO true PG n ty_int = some sh ∧ ArgOk false sh av) : ∃ n : Int, av = .int .i64 n ∧ -9223372036854775808 ≤ n ∧ n ≤ 9223372036854775807 := by
  obtain ⟨n, sh, h1, h2⟩ := h
  obtain ⟨av', h3, h4⟩ := h2.nonil
  obtain ⟨k, e, h5⟩ := okI64 (by kernel_rfl) h1 h3
  simp only [List.cons.injEq, and_true] at e
  subst e
  cases h4 with
  | refl _ => exact ⟨k, rfl, h5⟩
end Go.Proofs.Ytodiahhfpcdejaa

/- Types and values of examples: what is empty may be nil. -/
namespace Go.Proofs.Ytodiahhfpcdejaa
set_option autoImplicit false
set_option linter.unusedVariables false
def nItR : List It → AV
  | [] => .nilS
  | x :: l => .rows 5 ((x :: l).map itR)
def ntyR (t : Ty) : List AV := [.int .i64 t.kd, .str t.nm, .int .i64 t.bd, .int .i64 t.el, .int .i64 t.tg, nItR t.its]
theorem nw_items (l : List It) : Nw (nItR l) (.rows 5 (l.map itR)) := by
  cases l with
  | nil => exact .nil 5
  | cons x l => exact .refl _
theorem nwl_ty (t : Ty) : NwL (ntyR t) (tyR t) := .cons (.refl _) (.cons (.refl _) (.cons (.refl _) (.cons (.refl _) (.cons (.refl _) (.cons (nw_items t.its) (.refl _))))))
theorem nw_map {α : Type} {f g : α → List AV} (h : ∀ x, NwL (f x) (g x)) (sz : Nat) (l : List α) : Nw (.rows sz (l.map f)) (.rows sz (l.map g)) := by
  refine .rows sz _ _ (by simp) (fun i r r' h1 h2 => ?_) (fun i r r' j v v' h1 h2 h3 h4 => ?_)
  · rw [List.getElem?_map, Option.map_eq_some_iff] at h1 h2
    obtain ⟨x, hx, rfl⟩ := h1
    obtain ⟨y, hy, rfl⟩ := h2
    rw [hx] at hy; cases hy
    exact (h x).1
  · rw [List.getElem?_map, Option.map_eq_some_iff] at h1 h2
    obtain ⟨x, hx, rfl⟩ := h1
    obtain ⟨y, hy, rfl⟩ := h2
    rw [hx] at hy; cases hy
    exact (h x).2 j v v' h3 h4
theorem nw_tys (l : List Ty) : Nw (.rows 6 (l.map ntyR)) (tysA l) := nw_map nwl_ty 6 l
end Go.Proofs.Ytodiahhfpcdejaa

/- The law 'FitsTells', walked. -/
namespace Go.Proofs.Ytodiahhfpcdejaa
set_option autoImplicit false
set_option linter.unusedSimpArgs false
set_option linter.unusedVariables false
attribute [local irreducible] callA callP ACalls
theorem nw_leaf (k : Int) (n : Nat) (t : List UInt8) : Nw (.agg [.int .i64 k, .int .u64 (n : Nat), .str t, .nilS]) (vlA (.mk k n t [])) := by
  have q : NwL [.int .i64 k, .int .u64 (n : Nat), .str t, .nilS] (vlR (.mk k n t [])) := .cons (.refl _) (.cons (.refl _) (.cons (.refl _) (.cons (.nil 4) (.refl _))))
  exact .agg _ _ q.1 q.2
/-- The example's types. -/
def awL : List Ty := [⟨9, [69], 0, 0, 0, [⟨[97], 0, 0, false, false⟩, ⟨[98], 1, 0, false, false⟩]⟩]
theorem awL_ok : TysOk awL := ⟨by decide, by
  intro t ht
  simp only [awL, List.mem_singleton] at ht
  subst ht
  exact ⟨by decide, by decide, by simp, by simp⟩⟩
theorem aw2 : (if 0 ≤ (0 : Int) ∧ (0 : Int) < awL.length ∧ (tyChk awL).1 = 0 then fitE awL 0 (.mk 9 2 [] []) else 8) = 7 := by kernel_rfl
theorem aw1 : (if 0 ≤ (0 : Int) ∧ (0 : Int) < awL.length ∧ (tyChk awL).1 = 0 then fitE awL 0 (.mk 9 1 [] []) else 8) = 0 := by kernel_rfl
theorem fit_awake_spec (H : AH) : ACalls PG broadsheetlaw09_awake.n [] H fun r H' => r = .bool true ∧ H' = H := by
  have h2 := fun H => Fits_spec awL awL_ok 0 (.mk 9 2 [] []) (by simp [vOk, vOks]) H
  have h1 := fun H => Fits_spec awL awL_ok 0 (.mk 9 1 [] []) (by simp [vOk, vOks]) H
  rw [aw2] at h2
  rw [aw1] at h1
  have n2 := fun H => (h2 H).nw (.cons (.refl _) (.cons (.refl _) (.cons (nw_leaf 9 2 []) (.refl _))))
  have n1 := fun H => (h1 H).nw (.cons (.refl _) (.cons (.refl _) (.cons (nw_leaf 9 1 []) (.refl _))))
  refine ACalls.fz (broadsheetlaw09_awake.of rfl (wpF_start ?_))
  (first | refine au ?_ | exact au0 | fail)
  first | refine callF_eq (n2 _) ?_ | refine callG_eq rfl (n2 _) ?_
  (first | refine au ?_ | exact au0 | fail)
  first | refine callF_eq (n1 _) ?_ | refine callG_eq rfl (n1 _) ?_
  (first | refine au ?_ | exact au0 | fail)
  exact ⟨fz_of, sub_of⟩
theorem FitsTells_spec (l : List Ty) (hl : TysOk l) (t : Int) (v : Vl) (hok : vOk v) : ACalls PG broadsheetlaw09_FitsTells.n [tysA l, .int .i64 t, vlA v] [] fun r _ => r = .bool true := by
  have hg := fun H => tGreat_spec l hl H
  have hm := vMuch_spec _ v 0 (Nat.lt_succ_self _) hok (by omega)
  have h1 := fun H => Fits_spec l hl t v hok H
  have h2 := fun H => r9_Fits_spec l hl t v hok H
  generalize (if 0 ≤ t ∧ t < l.length ∧ (tyChk l).1 = 0 then fitE l t v else 8) = e at *
  generalize tyGreat l = a at *
  generalize vMuch v 0 = b at *
  refine ACalls.fzK (broadsheetlaw09_FitsTells.of rfl (wpF_start ?_))
  obtain ⟨k, n, x, vs⟩ := v
  (first | refine au ?_ | exact au0 | fail)
  intro id3 hid3 ht3; have n3 := neAll_of hid3; (try simp only [neAll, neAll_hset] at n3); have m3 := n3; (repeat (obtain ⟨_, m3⟩ := m3))
  (first | refine au ?_ | exact au0 | fail)
  first | refine callF_eq (hg _) ?_ | refine callG_eq rfl (hg _) ?_
  cases a
  rotate_left
  · (first | refine au ?_ | exact au0 | fail)
    first | refine callF_eq (fit_awake_spec _) ?_ | refine callG_eq rfl (fit_awake_spec _) ?_
    (first | refine au ?_ | exact au0 | fail)
    exact fz_of
  (first | refine au ?_ | exact au0 | fail)
  first | refine callF_eq (hm.frame _) ?_ | refine callG_eq rfl (hm.frame _) ?_
  cases b
  rotate_left
  · (first | refine au ?_ | exact au0 | fail)
    first | refine callF_eq (fit_awake_spec _) ?_ | refine callG_eq rfl (fit_awake_spec _) ?_
    (first | refine au ?_ | exact au0 | fail)
    exact fz_of
  (first | refine au ?_ | exact au0 | fail)
  first | refine callF_eq (h1 _) ?_ | refine callG_eq rfl (h1 _) ?_
  (first | refine au ?_ | exact au0 | fail)
  first | refine callF_eq (h2 _) ?_ | refine callG_eq rfl (h2 _) ?_
  (first | refine au ?_ | exact au0 | fail)
  first | refine callF_eq (fit_awake_spec _) ?_ | refine callG_eq rfl (fit_awake_spec _) ?_
  (first | refine au ?_ | exact au0 | fail)
  exact fz_of
theorem FitsTells_row (a0 : AV) (h0 : ∃ n sh, shO true PG n ty_S_api_Type = some sh ∧ ArgOk false sh a0) (a1 : AV) (h1 : ∃ n sh, shO true PG n ty_int = some sh ∧ ArgOk false sh a1) (a2 : AV) (h2 : ∃ n sh, shO true PG n ty_api_Value = some sh ∧ ArgOk true sh a2) : ACalls PG broadsheetlaw09_FitsTells.n [a0, a1, a2] [] fun r _ => r = .bool true := by
  obtain ⟨l, q0, hl⟩ := types_arg h0
  obtain ⟨t, rfl, _⟩ := int_arg h1
  obtain ⟨v, q2, hv⟩ := value_arg h2
  exact (FitsTells_spec l hl t v hv).nw (.cons q0 (.cons (.refl _) (.cons q2 (.refl _))))
end Go.Proofs.Ytodiahhfpcdejaa

/- The law 'PathAt', walked. -/
namespace Go.Proofs.Ytodiahhfpcdejaa
set_option autoImplicit false
set_option linter.unusedSimpArgs false
set_option linter.unusedVariables false
attribute [local irreducible] callA callP ACalls
/-- The example's types. -/
def awQ : List Ty := [⟨2, [], 0, 0, 0, []⟩, ⟨11, [], 3, 0, 0, []⟩, ⟨13, [80], 0, 0, 0, [⟨[98], 0, 1, false, false⟩]⟩, ⟨13, [81], 0, 0, 0, [⟨[97], 0, 2, false, false⟩]⟩]
theorem awQ_ok : TysOk awQ := ⟨by decide, by
  intro t ht
  simp only [awQ, List.mem_cons, List.not_mem_nil, or_false] at ht
  rcases ht with rfl | rfl | rfl | rfl
  all_goals exact ⟨by decide, by decide, by simp, by simp⟩⟩
theorem awQ_pcs : pcs [97, 46, 98, 91, 50, 93] true = [([97], 0, true), ([98], 0, true), ([], 2, true)] := by
  rw [pcs_item (r := [97, 46, 98, 91, 50, 93]) (by simp) (by decide) (by simp), if_neg (by decide)]
  rw [show List.drop (nl [97, 46, 98, 91, 50, 93]) ([97, 46, 98, 91, 50, 93] : List UInt8) = [46, 98, 91, 50, 93] from by decide]
  rw [pcs_item (r := [98, 91, 50, 93]) (by simp) (by decide) (by decide), if_neg (by decide)]
  rw [show List.drop (nl [98, 91, 50, 93]) ([98, 91, 50, 93] : List UInt8) = [91, 50, 93] from by decide]
  rw [pcs_num (by simp) (by decide)]
  rw [show List.drop (numP [91, 50, 93]).2 ([91, 50, 93] : List UInt8) = [] from by decide, pcs_end]
  decide
theorem awQ_find : findP awQ 3 [97, 46, 98, 91, 50, 93] = ([(false, 0), (false, 0), (true, 2)], 0, 0) := by
  unfold findP
  rw [if_pos ⟨by decide, by decide, by kernel_rfl⟩, awQ_pcs]
  kernel_rfl
theorem p12_awake_spec (H : AH) : ACalls PG broadsheetlaw12_awake.n [] H fun r H' => r = .bool true ∧ H' = H := by
  have h1 := fun H => Find_spec awQ awQ_ok 3 [97, 46, 98, 91, 50, 93] (by decide) H
  rw [awQ_find] at h1
  have n1 := fun H => (h1 H).nw (.cons (nw_tys awQ) (.refl _))
  refine ACalls.fz (broadsheetlaw12_awake.of rfl (wpF_start ?_))
  (first | refine au ?_ | exact au0 | fail)
  first | refine callF_eq (n1 _) ?_ | refine callG_eq rfl (n1 _) ?_
  (first | refine au ?_ | exact au0 | fail)
  refine ⟨true, by rfl, ?_⟩
  (first | refine au ?_ | exact au0 | fail)
  exact ⟨fz_of, sub_of⟩
theorem nw_v0 : Nw (.agg [.int .i64 0, .int .u64 0, .str [], .nilS]) (vlA v0) := nw_leaf 0 0 []
theorem PathAt_spec (l : List Ty) (hl : TysOk l) (v : Vl) (hok : vOk v) (t : Int) (p : List (Bool × Int)) (hpl : p.length ≤ 140737488351232) : ACalls PG broadsheetlaw12_PathAt.n [tysA l, vlA v, .agg [.int .i64 t, .rows 2 (p.map spI)]] [] fun r _ => r = .bool true := by
  have hg := fun H => tGreat_spec l hl H
  have hm := vMuch_spec _ v 0 (Nat.lt_succ_self _) hok (by omega)
  have h2 := fun H => r9_Fits_spec l hl t v hok H
  have h1 := fun q => At_spec0 l hl t p q v hok
  have hC := fun H => Check_spec l hl H
  have hplen : (p.map spI).length = p.length := by simp
  have h3 : (if 0 ≤ t ∧ t < l.length ∧ (tyChk l).1 = 0 then fitE l t v else 8) = 0 → ∀ q : p.length ≤ 1000, knownT l t ∧ ACalls PG broadsheetref12_At.n [tysA l, .int .i64 t, .rows 2 (p.map spI), vlA v] [] fun r _ => r = atA (atP l t p v) := by
    intro e q
    by_cases hk : 0 ≤ t ∧ t < l.length ∧ (tyChk l).1 = 0
    · rw [if_pos hk] at e
      have := r12_At_spec l hl (tyChk_v hk.2.2) p q t hk.1 hk.2.1 v hok
      rw [atP_fit (tyChk_v hk.2.2) p hk.1 hk.2.1 e] at this
      exact ⟨hk, this⟩
    · rw [if_neg hk] at e; cases e
  have hkc : knownT l t → (tyChk l).1 = 0 := fun q => q.2.2
  have hsm := fun x y (a : vOk x) (b : vOk y) H => (r8_Same_spec _ x y (Nat.lt_succ_self _) ⟨a, b⟩).frame H
  have hwok : ∀ w, atP l t p v = some w → vOk w := fun w q => atP_ok p hok q
  generalize (if 0 ≤ t ∧ t < l.length ∧ (tyChk l).1 = 0 then fitE l t v else 8) = e at *
  generalize tyGreat l = a at *
  generalize vMuch v 0 = b at *
  generalize atP l t p v = R at *
  refine ACalls.fzK (broadsheetlaw12_PathAt.of rfl (wpF_start ?_))
  obtain ⟨k, n, x, vs⟩ := v
  (first | refine au ?_ | exact au0 | fail)
  intro id4 hid4 ht4; have n4 := neAll_of hid4; (try simp only [neAll, neAll_hset] at n4); have m4 := n4; (repeat (obtain ⟨_, m4⟩ := m4))
  (first | refine au ?_ | exact au0 | fail)
  intro id5 hid5 ht5; have n5 := neAll_of hid5; (try simp only [neAll, neAll_hset] at n5); have m5 := n5; (repeat (obtain ⟨_, m5⟩ := m5))
  (first | refine au ?_ | exact au0 | fail)
  first | refine callF_eq (hg _) ?_ | refine callG_eq rfl (hg _) ?_
  cases a
  rotate_left
  · (first | refine au ?_ | exact au0 | fail)
    first | refine callF_eq (p12_awake_spec _) ?_ | refine callG_eq rfl (p12_awake_spec _) ?_
    (first | refine au ?_ | exact au0 | fail)
    exact fz_of
  (first | refine au ?_ | exact au0 | fail)
  first | refine callF_eq (hm.frame _) ?_ | refine callG_eq rfl (hm.frame _) ?_
  cases b
  rotate_left
  · (first | refine au ?_ | exact au0 | fail)
    first | refine callF_eq (p12_awake_spec _) ?_ | refine callG_eq rfl (p12_awake_spec _) ?_
    (first | refine au ?_ | exact au0 | fail)
    exact fz_of
  (first | refine au ?_ | exact au0 | fail)
  refine bsplit_dec (fun c => ?_) (fun c => ?_)
  · (first | refine au ?_ | exact au0 | fail)
    first | refine callF_eq (p12_awake_spec _) ?_ | refine callG_eq rfl (p12_awake_spec _) ?_
    (first | refine au ?_ | exact au0 | fail)
    exact fz_of
  have h1 := h1 (by omega)
  have h3 := fun q => h3 q (by omega)
  (first | refine au ?_ | exact au0 | fail)
  by_cases hk : knownT l t
  · rw [if_pos hk] at h1
    have hkc := hkc hk
    rcases R with _ | ⟨k2, n2, x2, vs2⟩
    · refine callF_eq (h1.frame _) ?_
      (first | refine au ?_ | exact au0 | fail)
      intro id34 hid34 ht34; have n34 := neAll_of hid34; (try simp only [neAll, neAll_hset] at n34); have m34 := n34; (repeat (obtain ⟨_, m34⟩ := m34))
      (first | refine au ?_ | exact au0 | fail)
      first | refine callF_eq (h2 _) ?_ | refine callG_eq rfl (h2 _) ?_
      (first | refine au ?_ | exact au0 | fail)
      refine bsplit_dec (fun ce => ?_) (fun ce => ?_)
      · (first | refine au ?_ | exact au0 | fail)
        refine callF_eq ((hsm v0 v0 (by simp [vOk, vOks]) (by simp [vOk, vOks]) _).nw (.cons (.refl _) (.cons nw_v0 (.refl _)))) ?_
        rw [show vEq v0 v0 = true from vEq_refl v0]
        (first | refine au ?_ | exact au0 | fail)
        first | refine callF_eq (hC _) ?_ | refine callG_eq rfl (hC _) ?_
        rw [hkc]
        (first | refine au ?_ | exact au0 | fail)
        first | refine callF_eq (p12_awake_spec _) ?_ | refine callG_eq rfl (p12_awake_spec _) ?_
        (first | refine au ?_ | exact au0 | fail)
        exact fz_of
      · have h4 := (h3 (Classical.not_not.1 ce)).2
        (first | refine au ?_ | exact au0 | fail)
        refine callF_eq (h4.frame _) ?_
        (first | refine au ?_ | exact au0 | fail)
        intro id69 hid69 ht69; have n69 := neAll_of hid69; (try simp only [neAll, neAll_hset] at n69); have m69 := n69; (repeat (obtain ⟨_, m69⟩ := m69))
        (first | refine au ?_ | exact au0 | fail)
        refine callF_eq (hsm v0 v0 (by simp [vOk, vOks]) (by simp [vOk, vOks]) _) ?_
        rw [show vEq v0 v0 = true from vEq_refl v0]
        (first | refine au ?_ | exact au0 | fail)
        first | refine callF_eq (p12_awake_spec _) ?_ | refine callG_eq rfl (p12_awake_spec _) ?_
        (first | refine au ?_ | exact au0 | fail)
        exact fz_of
    · have hw2 := hwok _ rfl
      refine callF_eq (h1.frame _) ?_
      (first | refine au ?_ | exact au0 | fail)
      intro id34 hid34 ht34; have n34 := neAll_of hid34; (try simp only [neAll, neAll_hset] at n34); have m34 := n34; (repeat (obtain ⟨_, m34⟩ := m34))
      (first | refine au ?_ | exact au0 | fail)
      first | refine callF_eq (h2 _) ?_ | refine callG_eq rfl (h2 _) ?_
      (first | refine au ?_ | exact au0 | fail)
      refine bsplit_dec (fun ce => ?_) (fun ce => ?_)
      · (first | refine au ?_ | exact au0 | fail)
        first | refine callF_eq (hC _) ?_ | refine callG_eq rfl (hC _) ?_
        rw [hkc]
        (first | refine au ?_ | exact au0 | fail)
        first | refine callF_eq (p12_awake_spec _) ?_ | refine callG_eq rfl (p12_awake_spec _) ?_
        (first | refine au ?_ | exact au0 | fail)
        exact fz_of
      · have h4 := (h3 (Classical.not_not.1 ce)).2
        (first | refine au ?_ | exact au0 | fail)
        refine callF_eq (h4.frame _) ?_
        (first | refine au ?_ | exact au0 | fail)
        intro id69 hid69 ht69; have n69 := neAll_of hid69; (try simp only [neAll, neAll_hset] at n69); have m69 := n69; (repeat (obtain ⟨_, m69⟩ := m69))
        (first | refine au ?_ | exact au0 | fail)
        refine callF_eq (hsm (.mk k2 n2 x2 vs2) (.mk k2 n2 x2 vs2) hw2 hw2 _) ?_
        rw [vEq_refl]
        (first | refine au ?_ | exact au0 | fail)
        first | refine callF_eq (p12_awake_spec _) ?_ | refine callG_eq rfl (p12_awake_spec _) ?_
        (first | refine au ?_ | exact au0 | fail)
        exact fz_of
  · rw [if_neg hk] at h1
    have he : e ≠ 0 := fun q => hk (h3 q).1
    refine callF_eq (h1.frame _) ?_
    (first | refine au ?_ | exact au0 | fail)
    intro id34 hid34 ht34; have n34 := neAll_of hid34; (try simp only [neAll, neAll_hset] at n34); have m34 := n34; (repeat (obtain ⟨_, m34⟩ := m34))
    (first | refine au ?_ | exact au0 | fail)
    first | refine callF_eq (h2 _) ?_ | refine callG_eq rfl (h2 _) ?_
    (first | refine au ?_ | exact au0 | fail)
    refine callF_eq ((hsm v0 v0 (by simp [vOk, vOks]) (by simp [vOk, vOks]) _).nw (.cons (.refl _) (.cons nw_v0 (.refl _)))) ?_
    rw [show vEq v0 v0 = true from vEq_refl v0]
    (first | refine au ?_ | exact au0 | fail)
    first | refine callF_eq (hC _) ?_ | refine callG_eq rfl (hC _) ?_
    (first | refine au ?_ | exact au0 | fail)
    refine bsplit_dec (fun _ => ?_) (fun _ => ?_)
    · (first | refine au ?_ | exact au0 | fail)
      first | refine callF_eq (p12_awake_spec _) ?_ | refine callG_eq rfl (p12_awake_spec _) ?_
      (first | refine au ?_ | exact au0 | fail)
      exact fz_of
    · (first | refine au ?_ | exact au0 | fail)
      first | refine callF_eq (p12_awake_spec _) ?_ | refine callG_eq rfl (p12_awake_spec _) ?_
      (first | refine au ?_ | exact au0 | fail)
      exact fz_of
theorem step_fl : flC PG ty_api_Step = some [(0, 1, ty_bool), (1, 1, ty_int)] := by kernel_rfl
theorem where_fl : flC PG ty_broadsheetlaw12_Where = some [(0, 1, ty_int), (1, 1, ty_S_api_Step)] := by kernel_rfl
theorem step_of {m : Nat} {sh : Sh} {vs : List AV} (hs : shO true PG m ty_api_Step = some sh) (hk : sh.OkN vs) : ∃ x : Bool × Int, vs = spI x ∧ True := by
  obtain ⟨k, rfl, h1⟩ := okStruct step_fl (by kernel_rfl) hs hk
  obtain ⟨_, _, _, _, a1, a2, h2, k2, rfl⟩ := okCons h1 hk
  obtain ⟨_, _, _, _, b1, b2, h3, k3, rfl⟩ := okCons h2 k2
  have := okNil h3 k3; subst this
  obtain ⟨b, rfl⟩ := okBool (by kernel_rfl) a1 a2
  obtain ⟨n, rfl, _⟩ := okI64 (by kernel_rfl) b1 b2
  exact ⟨(b, n), rfl, trivial⟩
def Shapes.WhereS : List Nat := [ty_broadsheetlaw12_Where, ty_int, ty_S_api_Step, ty_api_Step, ty_bool]
theorem where_sh : ∀ n, ∃ sh, shO true PG n ty_broadsheetlaw12_Where = some sh := fun n => clB_some (S := Shapes.WhereS) (by kernel_rfl) n _ (by simp [Shapes.WhereS])
theorem where_arg {av : AV} (h : ∃ n sh, shO true PG n ty_broadsheetlaw12_Where = some sh ∧ ArgOk true sh av) : ∃ (t : Int) (p : List (Bool × Int)), Nw av (.agg [.int .i64 t, .rows 2 (p.map spI)]) ∧ p.length ≤ 140737488351232 := by
  obtain ⟨n, sh, h1, h2⟩ := h
  obtain ⟨av', h3, h4⟩ := h2.nonil
  obtain ⟨vs, rfl, h5⟩ := h3
  obtain ⟨k, rfl, q1⟩ := okStruct where_fl (by kernel_rfl) h1 h5
  obtain ⟨_, _, _, _, a1, a2, q2, k2, rfl⟩ := okCons q1 h5
  obtain ⟨_, _, _, _, b1, b2, q3, k3, rfl⟩ := okCons q2 k2
  have := okNil q3 k3; subst this
  obtain ⟨t, rfl, _⟩ := okI64 (by kernel_rfl) a1 a2
  obtain ⟨l, rfl, hl, k1, s1, _, h5', h6'⟩ := okSlice (e := ty_api_Step) (c := 2) (b := 16) (by kernel_rfl) (by kernel_rfl) (by kernel_rfl) (by decide) b1 b2
  obtain ⟨p, rfl, _⟩ := rows_of (f := spI) fun r hr => step_of h5' (h6' r hr)
  rw [List.length_map] at hl
  exact ⟨t, p, h4, by omega⟩
theorem PathAt_row (a0 : AV) (h0 : ∃ n sh, shO true PG n ty_S_api_Type = some sh ∧ ArgOk false sh a0) (a1 : AV) (h1 : ∃ n sh, shO true PG n ty_api_Value = some sh ∧ ArgOk true sh a1) (a2 : AV) (h2 : ∃ n sh, shO true PG n ty_broadsheetlaw12_Where = some sh ∧ ArgOk true sh a2) : ACalls PG broadsheetlaw12_PathAt.n [a0, a1, a2] [] fun r _ => r = .bool true := by
  obtain ⟨l, q0, hl⟩ := types_arg h0
  obtain ⟨v, q1, hv⟩ := value_arg h1
  obtain ⟨t, p, q2, hp⟩ := where_arg h2
  exact (PathAt_spec l hl v hv t p hp).nw (.cons q0 (.cons q1 (.cons q2 (.refl _))))
end Go.Proofs.Ytodiahhfpcdejaa
