/- Texts of this proof, one behind the other: ValSpec, StrSpec, FitSpec, FitSpec2, FitSpec3, RFitSpec, RFitSpec2, RFitSpec3, FitMath2, PutMath, BndMath, SimShelf, CodeW, BitMath, ShelfLay, RepSpec, BufSpec, BndSpec, BndSpec2. -/
import Derived.Test.YtmjdkeonjflanaaPkB4
import Derived.Below
import Derived.KernelRfl
import Derived.Test.YtmjdkeonjflanaaProg
import Derived.Shelf.Strings.Repeat
/- Values, walked. -/
namespace Go.Proofs.Ytmjdkeonjflanaa
set_option autoImplicit false
set_option linter.unusedSimpArgs false
set_option linter.unusedVariables false
attribute [local irreducible] callA callP ACalls
mutual
/-- A value's cells. -/
def vlR : Vl → List AV
  | .mk k n t l => [.int .i64 k, .int .u64 (n : Nat), .str t, .rows 4 (vlRs l)]
def vlRs : List Vl → List (List AV)
  | [] => []
  | a :: l => vlR a :: vlRs l
end
abbrev vlA (v : Vl) : AV := .agg (vlR v)
theorem vlRs_map : ∀ l : List Vl, vlRs l = l.map vlR
  | [] => rfl
  | k :: ks => by rw [vlRs, vlRs_map ks]; rfl
theorem vlRs_len (l : List Vl) : (vlRs l).length = l.length := by rw [vlRs_map]; simp
theorem vlR_len (v : Vl) : (vlR v).length = 4 := by cases v; rfl
theorem vlRs_geti {l : List Vl} {i : Nat} (h : i < l.length) : (vlRs l).getD (Int.toNat (i : Nat)) [] = vlR l[i] := by rw [vlRs_map]; exact row_get h
theorem vlSz {l : List Vl} {i : Nat} (h : i < l.length) : SizeOf.sizeOf l[i] < SizeOf.sizeOf l := List.sizeOf_lt_of_mem (List.getElem_mem h)
mutual
theorem vlR_cl : ∀ (x : Vl), ∀ v ∈ vlR x, Cl v
  | .mk k n t l => by
    intro v hv
    simp only [vlR, List.mem_cons, List.not_mem_nil, or_false] at hv
    rcases hv with rfl | rfl | rfl | rfl
    · exact .int _ _
    · exact .int _ _
    · exact .str _
    · exact .rows _ _ (vlRs_cl l)
theorem vlRs_cl : ∀ (l : List Vl), ∀ r ∈ vlRs l, ∀ v ∈ r, Cl v
  | [] => by simp [vlRs]
  | k :: ks => by
    intro r hr
    simp only [vlRs, List.mem_cons] at hr
    rcases hr with rfl | hr
    · exact vlR_cl k
    · exact vlRs_cl ks r hr
end
theorem vlA_no (x : Vl) : NoId (vlA x) := (Cl.agg _ (vlR_cl x)).noId
mutual
/-- Texts and lists are not longer than memory lets them be. -/
def vOk : Vl → Prop
  | .mk _ n t l => n < 18446744073709551616 ∧ t.length ≤ 140737488351232 ∧ l.length ≤ 3000000000000 ∧ vOks l
def vOks : List Vl → Prop
  | [] => True
  | a :: l => vOk a ∧ vOks l
end
theorem vOks_mem : ∀ {l : List Vl}, vOks l → ∀ x ∈ l, vOk x
  | k :: ks, h, x, hx => by
    simp only [vOks] at h
    rcases List.mem_cons.1 hx with rfl | hx
    · exact h.1
    · exact vOks_mem h.2 x hx
theorem vOks_of : ∀ {l : List Vl}, (∀ x ∈ l, vOk x) → vOks l
  | [], _ => trivial
  | k :: ks, h => ⟨h k List.mem_cons_self, vOks_of fun x hx => h x (List.mem_cons_of_mem _ hx)⟩
theorem r8_Great_spec : ∀ (n : Nat) (x : Vl), SizeOf.sizeOf x < n → vGreat x ≤ 1000000 → ACalls PG broadsheetref08_Great.n [vlA x] [] fun r _ => r = .int .i64 (vGreat x : Nat)
  | 0, x, h, _ => by omega
  | n + 1, .mk kd num tx its, hsz, hle => by
    have hkl := vlRs_len its
    have hlen := vGreats_len its
    simp only [vGreat] at hle ⊢
    refine ACalls.fzK (broadsheetref08_Great.of rfl (wpF_start ?_))
    (first | refine au ?_ | exact au0 | fail)
    intro id1 hid1 ht1; have n1 := neAll_of hid1; (try simp only [neAll, neAll_hset] at n1); have m1 := n1; (repeat (obtain ⟨_, m1⟩ := m1))
    (first | refine au ?_ | exact au0 | fail)
    have e0 : 1 + tx.length + vGreats (its.take 0) = 1 + tx.length := by simp [vGreats]
    refine loopM (S := Nat) [(1, some _)] (fun i => [(3, some (.int .i64 (1 + tx.length + vGreats (its.take i) : Nat))), (4, some (.int .i64 (i : Nat)))]) (fun _ => _) (fun i => its.length - i) (fun i => i ≤ its.length) 0 (by repeat (first | exact trivial | refine And.intro (Or.inl rfl) ?_ | refine And.intro (Or.inr (Exists.intro _ (And.intro rfl (Fz.refl _)))) ?_ | refine And.intro (Or.inr (Exists.intro _ (And.intro rfl (fz_eq (congrArg (AV.int _) (by omega)))))) ?_ | refine And.intro (Or.inr (Exists.intro _ (And.intro rfl (fz_eq (congrArg (AV.own _ _ _) (by (try dsimp only); (try simp only [List.length_append, List.length_map, List.length_cons, List.length_nil, List.length_take, List.length_set, List.length_replicate]); (try dsimp only); first | done | omega)))))) ?_)) (Sub.refl _) (Nat.zero_le _) (fun i hi => ?_)
    (first | refine au ?_ | exact au0 | fail)
    refine bsplit_dec (fun h1 => ?_) (fun h1 => ?_)
    · have hil : i < its.length := by omega
      have hg := vlRs_geti hil
      have hsz' := vlSz hil
      have hmem := List.getElem_mem hil
      have hm := vGreats_mem hmem
      have ht := vGreats_take its i hil
      have htl := vGreats_takeLe its (i + 1)
      simp only [Vl.mk.sizeOf_spec] at hsz
      have ih := r8_Great_spec n its[i] (by omega) (by omega)
      generalize its[i] = y at *
      obtain ⟨k2, n2, t2, l2⟩ := y
      (first | refine au ?_ | exact au0 | fail)
      rw [hg]
      (first | refine au ?_ | exact au0 | fail)
      first | refine callF_eq (ih.frame _) ?_ | refine callG_eq rfl (ih.frame _) ?_
      (first | refine au ?_ | exact au0 | fail)
      refine nextS ((i + 1 : Nat)) (by (try dsimp only); rw [ ht, ← Nat.add_assoc, Int.natCast_add (1 + tx.length + vGreats (its.take i))]; repeat (first | exact trivial | refine And.intro (Or.inl rfl) ?_ | refine And.intro (Or.inr (Exists.intro _ (And.intro rfl (Fz.refl _)))) ?_ | refine And.intro (Or.inr (Exists.intro _ (And.intro rfl (fz_eq (congrArg (AV.int _) (by omega)))))) ?_ | refine And.intro (Or.inr (Exists.intro _ (And.intro rfl (fz_eq (congrArg (AV.own _ _ _) (by (try dsimp only); (try simp only [List.length_append, List.length_map, List.length_cons, List.length_nil, List.length_take, List.length_set, List.length_replicate]); (try dsimp only); first | done | omega)))))) ?_)) (by exact sub_of) (by first | omega | (dsimp only; omega)) ?_; (try dsimp only)
      exact hil
    · have e1 := List.take_of_length_le (show its.length ≤ i from by omega)
      rw [e1]
      (first | refine au ?_ | exact au0 | fail)
      exact fz_of
def vCnt (l : List Vl) (i : Nat) : Nat := min (vGreats (l.take i)) 100000
theorem vCnt_step {l : List Vl} {i : Nat} (h : i < l.length) : vCnt l (i + 1) = min (vCnt l i + vGreat l[i]) 100000 := by
  unfold vCnt; rw [vGreats_take l i h]; omega
theorem vMuchs_none {l : List Vl} {d : Nat} (h : none' (fun x => vMuch x d) l l.length) : vMuchs l d = false := by
  have := none'_any h
  induction l with
  | nil => rfl
  | cons a l ih =>
    simp only [List.any_cons, Bool.or_eq_false_iff] at this
    simp only [vMuchs, this.1, Bool.false_or]
    exact ih (any_none' this.2 _) this.2
theorem vMuchs_any : ∀ (l : List Vl) (d : Nat), vMuchs l d = l.any fun x => vMuch x d
  | [], _ => rfl
  | a :: l, d => by simp only [vMuchs, List.any_cons, vMuchs_any l d]
theorem vMuch_spec : ∀ (n : Nat) (x : Vl) (d : Nat), SizeOf.sizeOf x < n → vOk x → d ≤ 1000 → ACalls PG broadsheetref08_Much.n [vlA x, .int .i64 (d : Nat)] [] fun r _ => r = .bool (vMuch x d)
  | 0, x, d, h, _, _ => by omega
  | n + 1, .mk kd num tx its, d, hsz, hok, hd => by
    have hkl := vlRs_len its
    simp only [vOk] at hok
    obtain ⟨hnum, htx, hlen, hks⟩ := hok
    simp only [vMuch, vMuchs_any]
    refine ACalls.fzK (broadsheetref08_Much.of rfl (wpF_start ?_))
    (first | refine au ?_ | exact au0 | fail)
    intro id2 hid2 ht2; have n2 := neAll_of hid2; (try simp only [neAll, neAll_hset] at n2); have m2 := n2; (repeat (obtain ⟨_, m2⟩ := m2))
    (first | refine au ?_ | exact au0 | fail)
    refine bsplit_dec (fun c1 => ?_) (fun c1 => ?_)
    · (first | refine au ?_ | exact au0 | fail)
      exact fz_eq (congrArg AV.bool (by simp [show 40 < d from by omega]))
    (first | refine au ?_ | exact au0 | fail)
    refine bsplit_dec (fun c2 => ?_) (fun c2 => ?_)
    · (first | refine au ?_ | exact au0 | fail)
      exact fz_eq (congrArg AV.bool (by simp [show 300 < its.length from by omega]))
    (first | refine au ?_ | exact au0 | fail)
    refine bsplit_dec (fun c3 => ?_) (fun c3 => ?_)
    · (first | refine au ?_ | exact au0 | fail)
      exact fz_eq (congrArg AV.bool (by simp [show 1000 < tx.length from by omega]))
    rw [decide_eq_false (show ¬ 40 < d from by omega), decide_eq_false (show ¬ 300 < its.length from by omega), decide_eq_false (show ¬ 1000 < tx.length from by omega), Bool.false_or, Bool.false_or, Bool.false_or]
    (first | refine au ?_ | exact au0 | fail)
    refine loopM (S := Nat) [(1, some _), (2, some _)] (fun i => [(5, some (.int .i64 (vCnt its i : Nat))), (6, some (.int .i64 (i : Nat)))]) (fun _ => _) (fun i => its.length - i) (fun i => i ≤ its.length ∧ none' (fun x => vMuch x (d + 1 + its.length / 4)) its i) 0 (by repeat (first | exact trivial | refine And.intro (Or.inl rfl) ?_ | refine And.intro (Or.inr (Exists.intro _ (And.intro rfl (Fz.refl _)))) ?_ | refine And.intro (Or.inr (Exists.intro _ (And.intro rfl (fz_eq (congrArg (AV.int _) (by omega)))))) ?_ | refine And.intro (Or.inr (Exists.intro _ (And.intro rfl (fz_eq (congrArg (AV.own _ _ _) (by (try dsimp only); (try simp only [List.length_append, List.length_map, List.length_cons, List.length_nil, List.length_take, List.length_set, List.length_replicate]); (try dsimp only); first | done | omega)))))) ?_)) (Sub.refl _) ⟨Nat.zero_le _, none'_zero⟩ (fun i hi => ?_)
    obtain ⟨hi, hno⟩ := hi
    have hb : vCnt its i ≤ 100000 := by unfold vCnt; omega
    (first | refine au ?_ | exact au0 | fail)
    refine bsplit_dec (fun h1 => ?_) (fun h1 => ?_)
    · have hil : i < its.length := by omega
      have hg := vlRs_geti hil
      have hsz' := vlSz hil
      have hmem := List.getElem_mem hil
      have hm := vGreats_mem hmem
      have ht := vCnt_step hil
      simp only [Vl.mk.sizeOf_spec] at hsz
      have ih := vMuch_spec n its[i] (d + 1 + its.length / 4) (by omega) (vOks_mem hks _ hmem) (by omega)
      have ihs := r8_Great_spec n its[i] (by omega)
      have hgr := @vMuch_great its[i] (d + 1 + its.length / 4)
      have hany : vMuch its[i] (d + 1 + its.length / 4) = true → its.any (fun x => vMuch x (d + 1 + its.length / 4)) = true := any_hit (p := fun x => vMuch x (d + 1 + its.length / 4)) hil
      have hnx := none'_succ hno hil
      generalize its[i] = y at *
      obtain ⟨k2, n2, t2, l2⟩ := y
      (first | refine au ?_ | exact au0 | fail)
      rw [hg]
      (first | refine au ?_ | exact au0 | fail)
      rw [show (d : Int) + 1 + ((vlRs its).length : Nat) / 4 = ((d + 1 + its.length / 4 : Nat) : Int) from by omega]
      first | refine callF_eq (ih.frame _) ?_ | refine callG_eq rfl (ih.frame _) ?_
      cases hM : vMuch (.mk k2 n2 t2 l2) (d + 1 + its.length / 4)
      · have hle := hgr hM
        (first | refine au ?_ | exact au0 | fail)
        rw [hg]
        (first | refine au ?_ | exact au0 | fail)
        first | refine callF_eq ((ihs (by omega)).frame _) ?_ | refine callG_eq rfl ((ihs (by omega)).frame _) ?_
        (first | refine au ?_ | exact au0 | fail)
        refine nextS ((i + 1 : Nat)) (by (try dsimp only); rw [ ht, cast_min]; repeat (first | exact trivial | refine And.intro (Or.inl rfl) ?_ | refine And.intro (Or.inr (Exists.intro _ (And.intro rfl (Fz.refl _)))) ?_ | refine And.intro (Or.inr (Exists.intro _ (And.intro rfl (fz_eq (congrArg (AV.int _) (by omega)))))) ?_ | refine And.intro (Or.inr (Exists.intro _ (And.intro rfl (fz_eq (congrArg (AV.own _ _ _) (by (try dsimp only); (try simp only [List.length_append, List.length_map, List.length_cons, List.length_nil, List.length_take, List.length_set, List.length_replicate]); (try dsimp only); first | done | omega)))))) ?_)) (by exact sub_of) (by first | omega | (dsimp only; omega)) ?_; (try dsimp only)
        exact ⟨hil, hnx hM⟩
      · (first | refine au ?_ | exact au0 | fail)
        exact fz_eq (congrArg AV.bool (by rw [hany hM]; rfl))
    · obtain rfl : i = its.length := by omega
      (first | refine au ?_ | exact au0 | fail)
      refine fz_eq (congrArg AV.bool ?_)
      rw [none'_any hno, Bool.false_or]
      have : vCnt its its.length = min (vGreats its) 100000 := by unfold vCnt; rw [List.take_length]
      rw [this]
      exact decide_eq_decide.2 (by omega)
theorem vEqs_ne {l m : List Vl} {i : Nat} (h : i < l.length) (h' : i < m.length) (hn : vEq l[i] m[i] = false) : vEqs l m = false := by
  rw [Bool.eq_false_iff, ne_eq, vEqs_iff]
  rintro rfl
  rw [vEq_refl] at hn; cases hn
theorem vEqs_all {l m : List Vl} (hl : l.length = m.length) (h : ∀ (k : Nat) (h1 : k < l.length) (h2 : k < m.length), vEq l[k] m[k] = true) : vEqs l m = true := by
  rw [vEqs_iff]
  exact List.ext_getElem hl fun k h1 h2 => (vEq_iff _ _).1 (h k h1 h2)
theorem vEqs_step {l m : List Vl} {i : Nat} (h : ∀ (k : Nat) (h1 : k < l.length) (h2 : k < m.length), k < i → vEq l[k] m[k] = true) (hi : i < l.length) (hi' : i < m.length) (q : vEq l[i] m[i] = true) : ∀ (k : Nat) (h1 : k < l.length) (h2 : k < m.length), k < i + 1 → vEq l[k] m[k] = true := fun k h1 h2 h3 => by
  by_cases e : k = i
  · subst e; exact q
  · exact h k h1 h2 (by omega)
theorem vSame_spec : ∀ (n : Nat) (x y : Vl), SizeOf.sizeOf x < n → (vOk x ∧ vOk y) → ACalls PG value_Same.n [vlA x, vlA y] [] fun r _ => r = .bool (vEq x y)
  | 0, x, y, h, _ => by omega
  | n + 1, .mk kd num tx its, .mk kd' num' tx' its', hsz, hok => by
    have hkl := vlRs_len its
    have hkl' := vlRs_len its'
    simp only [vOk] at hok
    obtain ⟨⟨_, _, hlen, hks⟩, ⟨_, _, hlen', hks'⟩⟩ := hok
    refine ACalls.fzK (value_Same.of rfl (wpF_start ?_))
    (first | refine au ?_ | exact au0 | fail)
    intro id2 hid2 ht2; have n2 := neAll_of hid2; (try simp only [neAll, neAll_hset] at n2); have m2 := n2; (repeat (obtain ⟨_, m2⟩ := m2))
    (first | refine au ?_ | exact au0 | fail)
    intro id3 hid3 ht3; have n3 := neAll_of hid3; (try simp only [neAll, neAll_hset] at n3); have m3 := n3; (repeat (obtain ⟨_, m3⟩ := m3))
    (first | refine au ?_ | exact au0 | fail)
    refine bsplit_dec (fun c1 => ?_) (fun c1 => ?_)
    · (first | refine au ?_ | exact au0 | fail)
      exact fz_eq (congrArg AV.bool (by simp [vEq, c1]))
    (first | refine au ?_ | exact au0 | fail)
    refine bsplit_dec (fun c2 => ?_) (fun c2 => ?_)
    · (first | refine au ?_ | exact au0 | fail)
      exact fz_eq (congrArg AV.bool (by simp [vEq, show ¬ num = num' from by omega]))
    (first | refine au ?_ | exact au0 | fail)
    refine bsplit_dec (fun c3 => ?_) (fun c3 => ?_)
    · (first | refine au ?_ | exact au0 | fail)
      exact fz_eq (congrArg AV.bool (by simp [vEq, c3]))
    (first | refine au ?_ | exact au0 | fail)
    refine bsplit_dec (fun c4 => ?_) (fun c4 => ?_)
    · (first | refine au ?_ | exact au0 | fail)
      exact fz_eq (congrArg AV.bool (by rw [show vEq (.mk kd num tx its) (.mk kd' num' tx' its') = false from by rw [Bool.eq_false_iff, ne_eq, vEq_iff]; intro q; injection q with _ _ _ q; rw [q] at c4; omega]))
    have hv : vEq (.mk kd num tx its) (.mk kd' num' tx' its') = vEqs its its' := by
      simp [vEq, Classical.not_not.1 c1, Classical.not_not.1 c3, show num = num' from by omega]
    rw [hv]
    have hll : its.length = its'.length := by omega
    clear c1 c2 c3 c4
    (first | refine au ?_ | exact au0 | fail)
    refine loopL [(3, some _), (36, some _), (37, some _)] 38 0 its.length (fun i => ∀ (k : Nat) (h1 : k < its.length) (h2 : k < its'.length), k < i → vEq its[k] its'[k] = true) (by repeat (first | exact trivial | refine And.intro (Or.inl rfl) ?_ | refine And.intro (Or.inr (Exists.intro _ (And.intro rfl (Fz.refl _)))) ?_ | refine And.intro (Or.inr (Exists.intro _ (And.intro rfl (fz_eq (congrArg (AV.int _) (by omega)))))) ?_ | refine And.intro (Or.inr (Exists.intro _ (And.intro rfl (fz_eq (congrArg (AV.own _ _ _) (by (try dsimp only); (try simp only [List.length_append, List.length_map, List.length_cons, List.length_nil, List.length_take, List.length_set, List.length_replicate]); (try dsimp only); first | done | omega)))))) ?_)) (Nat.zero_le _) (fun k _ _ h => by omega) (fun i hi hno => ?_)
    (first | refine au ?_ | exact au0 | fail)
    refine bsplit_dec (fun h1 => ?_) (fun h1 => ?_)
    · have hil : i < its.length := by omega
      have hil' : i < its'.length := by omega
      have hg := vlRs_geti hil
      have hg' := vlRs_geti hil'
      have hsz' := vlSz hil
      simp only [Vl.mk.sizeOf_spec] at hsz
      have ih := vSame_spec n its[i] its'[i] (by omega) ⟨vOks_mem hks _ (List.getElem_mem hil), vOks_mem hks' _ (List.getElem_mem hil')⟩
      have hst := vEqs_step hno hil hil'
      have hne := vEqs_ne hil hil'
      generalize its[i] = y at *
      generalize its'[i] = z at *
      obtain ⟨k2, n2, t2, l2⟩ := y
      obtain ⟨k3, n3, t3, l3⟩ := z
      (first | refine au ?_ | exact au0 | fail)
      rw [hg]
      (first | refine au ?_ | exact au0 | fail)
      (intro id5 hid5 ht5; have n5 := neAll_of hid5; (try simp only [neAll, neAll_hset] at n5); have m5 := n5; (repeat (obtain ⟨_, m5⟩ := m5)); (first | refine au ?_ | exact au0 | fail))
      rw [hg']
      (first | refine au ?_ | exact au0 | fail)
      first | refine callF_eq (ih.frame _) ?_ | refine callG_eq rfl (ih.frame _) ?_
      cases hM : vEq (.mk k2 n2 t2 l2) (.mk k3 n3 t3 l3)
      · (first | refine au ?_ | exact au0 | fail)
        rw [hne hM]
        exact fz_of
      · (first | refine au ?_ | exact au0 | fail)
        exact nextN (by repeat (first | exact trivial | refine And.intro (Or.inl rfl) ?_ | refine And.intro (Or.inr (Exists.intro _ (And.intro rfl (Fz.refl _)))) ?_ | refine And.intro (Or.inr (Exists.intro _ (And.intro rfl (fz_eq (congrArg (AV.int _) (by omega)))))) ?_ | refine And.intro (Or.inr (Exists.intro _ (And.intro rfl (fz_eq (congrArg (AV.own _ _ _) (by (try dsimp only); (try simp only [List.length_append, List.length_map, List.length_cons, List.length_nil, List.length_take, List.length_set, List.length_replicate]); (try dsimp only); first | done | omega)))))) ?_)) (by exact sub_of) (by omega) (hst hM)
    · (first | refine au ?_ | exact au0 | fail)
      rw [vEqs_all hll fun k h1 h2 => hno k h1 h2 (by omega)]
      exact fz_of
end Go.Proofs.Ytmjdkeonjflanaa

/- Bytes in texts, walked. -/
namespace Go.Proofs.Ytmjdkeonjflanaa
set_option autoImplicit false
set_option linter.unusedSimpArgs false
set_option linter.unusedVariables false
--HSET
attribute [local irreducible] callA callP ACalls
theorem stringslite_IndexByte_spec (s : List UInt8) (c : UInt8) (H : AH) : ACalls PG stringslite_IndexByte.n [.str s, u8A c] H fun r H' => r = .int .i64 (Lib.indexByte s c) ∧ H' = H := by
  refine stringslite_IndexByte.of rfl (wpF_start ?_)
  (first | refine ah ?_ | exact ah0 | fail)
  exact ⟨by simp, rfl⟩
theorem strings_IndexByte_spec (s : List UInt8) (c : UInt8) (H : AH) : ACalls PG strings_IndexByte.n [.str s, u8A c] H fun r H' => r = .int .i64 (Lib.indexByte s c) ∧ H' = H := by
  refine strings_IndexByte.of rfl (wpF_start ?_)
  (first | refine ah ?_ | exact ah0 | fail)
  refine callF_eq (stringslite_IndexByte_spec s c _) ?_
  (first | refine ah ?_ | exact ah0 | fail)
theorem indexByte_in : ∀ (s : List UInt8) (c : UInt8), 0 ≤ Lib.indexByte s c ↔ s.contains c = true
  | [], c => by simp [Lib.indexByte]
  | b :: s, c => by
    have ih := indexByte_in s c
    have ge := Lib.indexByte_ge s c
    unfold Lib.indexByte
    simp only [List.contains_cons, Bool.or_eq_true, beq_iff_eq]
    split
    · rename_i h; simp [h]
    · rename_i h
      split
      · rename_i h2
        rw [h2] at ih
        constructor
        · intro q; omega
        · rintro (q | q)
          · exact (h q.symm).elim
          · have := ih.2 q; omega
      · rename_i h2
        constructor
        · intro q; exact .inr (ih.1 (by omega))
        · intro q; omega
end Go.Proofs.Ytmjdkeonjflanaa

/- Which values are of a type, walked. -/
namespace Go.Proofs.Ytmjdkeonjflanaa
set_option autoImplicit false
set_option linter.unusedSimpArgs false
set_option linter.unusedVariables false
attribute [local irreducible] callA callP ACalls
abbrev askA (l : List Ty) : AV := .agg [tysA l]
theorem fnum_spec (l : List Ty) (hl : TysOk l) (t : Int) (h0 : 0 ≤ t) (h1 : t < l.length) (n : Nat) (H : AH) : ACalls PG fits_asker_number.n [askA l, .int .i64 t, .int .u64 (n : Nat)] H fun r H' => r = .bool (numT l t n) ∧ H' = H := by
  have hlen : (l.map tyR).length = l.length := by simp
  have hll := hl.len
  have hge := tAt_get h0 h1
  have hV := fun H => Value_spec l hl t n H
  refine ACalls.fz (fits_asker_number.of rfl (wpF_start ?_))
  unfold numT
  generalize tAt l t = g at *
  (first | refine au ?_ | exact au0 | fail)
  intro id3 hid3 ht3; have n3 := neAll_of hid3; (try simp only [neAll, neAll_hset] at n3); have m3 := n3; (repeat (obtain ⟨_, m3⟩ := m3))
  (first | refine au ?_ | exact au0 | fail)
  rw [hge]
  (first | refine au ?_ | exact au0 | fail)
  refine bsplit_dec (fun c => ?_) (fun c => ?_)
  · rw [if_pos c]
    (first | refine au ?_ | exact au0 | fail)
    generalize valIx l t n = o at *
    first | refine callF_eq (hV _) ?_ | refine callG_eq rfl (hV _) ?_
    cases o with
    | some k =>
      (first | refine au ?_ | exact au0 | fail)
      exact ⟨fz_of, sub_of⟩
    | none =>
      (first | refine au ?_ | exact au0 | fail)
      exact ⟨fz_of, sub_of⟩
  · rw [if_neg c]
    (first | refine au ?_ | exact au0 | fail)
    rw [hge]
    (first | refine au ?_ | exact au0 | fail)
    first | refine callF_eq (prim_May_spec _ n _) ?_ | refine callG_eq rfl (prim_May_spec _ n _) ?_
    (first | refine au ?_ | exact au0 | fail)
    exact ⟨fz_of, sub_of⟩
/-- What a kind has not, twice. -/
def vForm (k : Int) (n : Nat) (t : List UInt8) (m : Nat) : Bool := decide ((1 ≤ k ∧ k ≤ 9) ∨ k = 14 ∨ (n = 0 ∧ (k = 10 ∨ t = []) ∧ (10 < k ∨ m = 0)))
def vPlain (k : Int) (t : List UInt8) (m : Nat) : Bool := decide ((t = [] ∧ (k = 14 ∨ m = 0)) ∨ k = 10 ∨ (10 < k ∧ k ≠ 14))
theorem vZero_eq {k : Int} (h : 1 ≤ k ∧ k ≤ 14) (n : Nat) (t : List UInt8) (m : Nat) : (vForm k n t m && vPlain k t m) = vZero k n t m := by
  unfold vForm vPlain vZero
  rw [← Bool.decide_and]
  apply decide_eq_decide.2
  by_cases ht : t = []
  · simp only [ht, true_and, ne_eq, not_true_eq_false, false_and, or_true, or_false]; omega
  · simp only [ht, false_and, ne_eq, not_false_eq_true, true_and, or_false, false_or]; omega
theorem fform_spec (v : Vl) (hok : vOk v) (H : AH) : ACalls PG fits_form.n [vlA v] H fun r H' => r = .bool (vForm v.kd v.num v.tx v.its.length) ∧ H' = H := by
  obtain ⟨k, n, t, its⟩ := v
  have hkl := vlRs_len its
  simp only [Vl.kd, Vl.num, Vl.tx, Vl.its]
  simp only [vOk] at hok
  refine ACalls.fz (fits_form.of rfl (wpF_start ?_))
  (first | refine au ?_ | exact au0 | fail)
  intro id1 hid1 ht1; have n1 := neAll_of hid1; (try simp only [neAll, neAll_hset] at n1); have m1 := n1; (repeat (obtain ⟨_, m1⟩ := m1))
  unfold vForm
  by_cases ht : t = []
  · subst ht
    (repeat' (first | (refine au ?_; first | refine callF_eq (prim_Number_spec _ _) ?_ | refine bsplit_dec (fun _ => ?_) (fun _ => ?_) | refine bsplit_intro (fun _ => ?_) (fun _ => ?_)) | exact au0 | fail)); (all_goals try (first | refine au ?_ | fail))
    all_goals first | (exfalso; omega) | skip
    all_goals (refine ⟨fz_eq (congrArg AV.bool ?_), sub_of⟩; simp only [true_or, or_true, true_and, and_true]; first | exact (decide_eq_true (by omega)).symm | exact (decide_eq_false (by omega)).symm | exact decide_eq_decide.2 (by omega) | rfl)
  · (repeat' (first | (refine au ?_; first | refine callF_eq (prim_Number_spec _ _) ?_ | refine bsplit_dec (fun _ => ?_) (fun _ => ?_) | refine bsplit_intro (fun _ => ?_) (fun _ => ?_)) | exact au0 | fail)); (all_goals try (first | refine au ?_ | fail))
    all_goals first | (exfalso; omega) | skip
    all_goals (refine ⟨fz_eq (congrArg AV.bool ?_), sub_of⟩; simp only [ht, or_false]; first | exact (decide_eq_true (by omega)).symm | exact (decide_eq_false (by omega)).symm | exact decide_eq_decide.2 (by omega) | (simp_all; done) | skip)
theorem fplain_spec (v : Vl) (hok : vOk v) (H : AH) : ACalls PG fits_plain.n [vlA v] H fun r H' => r = .bool (vPlain v.kd v.tx v.its.length) ∧ H' = H := by
  obtain ⟨k, n, t, its⟩ := v
  have hkl := vlRs_len its
  simp only [Vl.kd, Vl.num, Vl.tx, Vl.its]
  simp only [vOk] at hok
  refine ACalls.fz (fits_plain.of rfl (wpF_start ?_))
  (first | refine au ?_ | exact au0 | fail)
  intro id1 hid1 ht1; have n1 := neAll_of hid1; (try simp only [neAll, neAll_hset] at n1); have m1 := n1; (repeat (obtain ⟨_, m1⟩ := m1))
  unfold vPlain
  by_cases ht : t = []
  · subst ht
    (repeat' (first | (refine au ?_; first | refine bsplit_dec (fun _ => ?_) (fun _ => ?_) | refine bsplit_intro (fun _ => ?_) (fun _ => ?_)) | exact au0 | fail)); (all_goals try (first | refine au ?_ | fail))
    all_goals first | (exfalso; omega) | skip
    all_goals (refine ⟨fz_eq (congrArg AV.bool ?_), sub_of⟩; simp only [true_or, or_true, true_and, and_true]; first | exact (decide_eq_true (by omega)).symm | exact (decide_eq_false (by omega)).symm | exact decide_eq_decide.2 (by omega) | rfl)
  · (repeat' (first | (refine au ?_; first | refine bsplit_dec (fun _ => ?_) (fun _ => ?_) | refine bsplit_intro (fun _ => ?_) (fun _ => ?_)) | exact au0 | fail)); (all_goals try (first | refine au ?_ | fail))
    all_goals first | (exfalso; omega) | skip
    all_goals (refine ⟨fz_eq (congrArg AV.bool ?_), sub_of⟩; simp only [ht, false_and, false_or]; first | exact (decide_eq_true (by omega)).symm | exact (decide_eq_false (by omega)).symm | exact decide_eq_decide.2 (by omega) | (simp_all; done) | skip)
theorem ftext_spec (s : List UInt8) (hs : s.length ≤ 140737488351232) (b : Int) (H : AH) : ACalls PG fits_text.n [.str s, .int .i64 b] H fun r H' => r = .int .i64 (if b < (s.length : Int) then 3 else if s.contains 0 = true then 10 else 0) ∧ H' = H := by
  refine ACalls.fz (fits_text.of rfl (wpF_start ?_))
  (first | refine au ?_ | exact au0 | fail)
  refine bsplit_dec (fun c => ?_) (fun c => ?_)
  · rw [if_pos c]
    (first | refine au ?_ | exact au0 | fail)
    exact ⟨fz_of, sub_of⟩
  · rw [if_neg c]
    (first | refine au ?_ | exact au0 | fail)
    first | refine callF_eq (strings_IndexByte_spec s 0 _) ?_ | refine callG_eq rfl (strings_IndexByte_spec s 0 _) ?_
    have hi := indexByte_in s 0
    (first | refine au ?_ | exact au0 | fail)
    refine bsplit_dec (fun c => ?_) (fun c => ?_)
    · rw [if_pos (hi.1 c)]
      (first | refine au ?_ | exact au0 | fail)
      exact ⟨fz_of, sub_of⟩
    · rw [if_neg (fun q => c (hi.2 q))]
      (first | refine au ?_ | exact au0 | fail)
      exact ⟨fz_of, sub_of⟩
end Go.Proofs.Ytmjdkeonjflanaa

/- Which values are of a type, walked: items, unions, all. -/
namespace Go.Proofs.Ytmjdkeonjflanaa
set_option autoImplicit false
set_option linter.unusedSimpArgs false
set_option linter.unusedVariables false
attribute [local irreducible] callA callP ACalls
/-- As many items as must be, each of its type. -/
def fitN (l : List Ty) (ps : List Int) (vs : List Vl) : Int := if ps.length ≠ vs.length then 18 else fitEs l ps vs
/-- What 'fits' is known to answer. -/
def FitC (l : List Ty) (v : Vl) : Prop := ∀ t : Int, 0 ≤ t → t < l.length → ∀ H, ACalls PG fits_asker_fits.n [askA l, .int .i64 t, vlA v] H fun r H' => r = .int .i64 (fitE l t v) ∧ H' = H
theorem items_fspec (l : List Ty) (v : Vl) (hok : vOk v) (n : Int) (f : Nat) (caps : List AV) (ps : List Int) (Hs : AH) (hn : n = ps.length) (hin : ∀ p ∈ ps, 0 ≤ p ∧ p < l.length)
    (hof : ∀ (i : Nat) (h : i < ps.length), ACalls PG f (.int .i64 (i : Nat) :: caps) Hs fun r H' => r = .int .i64 ps[i] ∧ H' = Hs) (ih : ∀ w ∈ v.its, FitC l w) :
    ACalls PG fits_asker_items.n [askA l, vlA v, .int .i64 n, .clo f [] caps] Hs fun r H' => r = .int .i64 (fitN l ps v.its) ∧ H' = Hs := by
  obtain ⟨kd, num, tx, its⟩ := v
  have hkl := vlRs_len its
  simp only [vOk] at hok
  obtain ⟨_, _, hlen, hks⟩ := hok
  simp only [Vl.its] at ih ⊢
  subst hn
  refine ACalls.fz (fits_asker_items.of rfl (wpF_start ?_))
  (first | refine au ?_ | exact au0 | fail)
  intro id4 hid4 ht4; have n4 := neAll_of hid4; (try simp only [neAll, neAll_hset] at n4); have m4 := n4; (repeat (obtain ⟨_, m4⟩ := m4))
  (first | refine au ?_ | exact au0 | fail)
  intro id5 hid5 ht5; have n5 := neAll_of hid5; (try simp only [neAll, neAll_hset] at n5); have m5 := n5; (repeat (obtain ⟨_, m5⟩ := m5))
  (first | refine au ?_ | exact au0 | fail)
  refine bsplit_dec (fun c => ?_) (fun c => ?_)
  · have e : fitN l ps its = 18 := if_pos (by omega)
    rw [e]
    (first | refine au ?_ | exact au0 | fail)
    exact ⟨fz_of, sub_of⟩
  have e : fitN l ps its = fitEs l ps its := if_neg (by omega)
  rw [e]
  (first | refine au ?_ | exact au0 | fail)
  refine loopL [(3, some _), (4, some _), (18, some _), (19, some _)] 20 0 its.length (fun i => ∀ (k : Nat) (h1 : k < ps.length) (h2 : k < its.length), k < i → fitE l ps[k] its[k] = 0) (by repeat (first | exact trivial | refine And.intro (Or.inl rfl) ?_ | refine And.intro (Or.inr (Exists.intro _ (And.intro rfl (Fz.refl _)))) ?_ | refine And.intro (Or.inr (Exists.intro _ (And.intro rfl (fz_eq (congrArg (AV.int _) (by omega)))))) ?_ | refine And.intro (Or.inr (Exists.intro _ (And.intro rfl (fz_eq (congrArg (AV.own _ _ _) (by (try dsimp only); (try simp only [List.length_append, List.length_map, List.length_cons, List.length_nil, List.length_take, List.length_set, List.length_replicate]); (try dsimp only); first | done | omega)))))) ?_)) (Nat.zero_le _) (fun k _ _ h => by omega) (fun i hi hno => ?_)
  (first | refine au ?_ | exact au0 | fail)
  refine bsplit_dec (fun c2 => ?_) (fun c2 => ?_)
  · have hil : i < its.length := by omega
    have hip : i < ps.length := by omega
    have hg := vlRs_geti hil
    have hmem := List.getElem_mem hil
    have hf := ih _ hmem
    have hpi := hin _ (List.getElem_mem hip)
    have ho := hof i hip
    have hhit := fitEs_hit (l := l) hno hip hil
    have hnx : fitE l ps[i] its[i] = 0 → ∀ (k : Nat) (h1 : k < ps.length) (h2 : k < its.length), k < i + 1 → fitE l ps[k] its[k] = 0 := fun q k h1 h2 h3 => by
      by_cases e : k = i
      · subst e; exact q
      · exact hno k h1 h2 (by omega)
    generalize its[i] = y at *
    generalize ps[i] = p at *
    have hf := hf p hpi.1 hpi.2
    obtain ⟨k2, n2, t2, l2⟩ := y
    (first | refine au ?_ | exact au0 | fail)
    rw [hg]
    (first | refine au ?_ | exact au0 | fail)
    intro id10 hid10 ht10; have n10 := neAll_of hid10; (try simp only [neAll, neAll_hset] at n10); have m10 := n10; (repeat (obtain ⟨_, m10⟩ := m10))
    (first | refine au ?_ | exact au0 | fail)
    first | refine callF_eq (ho.sup (by exact sub_of)) ?_ | refine callG_eq rfl (ho.sup (by exact sub_of)) ?_
    (first | refine au ?_ | exact au0 | fail)
    first | refine callF_eq (hf _) ?_ | refine callG_eq rfl (hf _) ?_
    (first | refine au ?_ | exact au0 | fail)
    refine bsplit_dec (fun h => ?_) (fun h => ?_)
    · (first | refine au ?_ | exact au0 | fail)
      rw [hhit h]
      exact ⟨fz_of, sub_of⟩
    · (first | refine au ?_ | exact au0 | fail)
      exact nextN (by repeat (first | exact trivial | refine And.intro (Or.inl rfl) ?_ | refine And.intro (Or.inr (Exists.intro _ (And.intro rfl (Fz.refl _)))) ?_ | refine And.intro (Or.inr (Exists.intro _ (And.intro rfl (fz_eq (congrArg (AV.int _) (by omega)))))) ?_ | refine And.intro (Or.inr (Exists.intro _ (And.intro rfl (fz_eq (congrArg (AV.own _ _ _) (by (try dsimp only); (try simp only [List.length_append, List.length_map, List.length_cons, List.length_nil, List.length_take, List.length_set, List.length_replicate]); (try dsimp only); first | done | omega)))))) ?_)) (by exact sub_of) (by omega) (hnx (Classical.not_not.1 h))
  · (first | refine au ?_ | exact au0 | fail)
    rw [fitEs_end fun k h1 h2 => hno k h1 h2 (by omega)]
    exact ⟨fz_of, sub_of⟩
theorem fits1_spec (x : Ty) (i : Int) (id : Nat) : ACalls PG fits_asker_fits_1.n [.int .i64 i, .ptr id 6 0 0] [(id, .rows 6 [tyR x])] fun r H' => r = .int .i64 x.el ∧ H' = [(id, .rows 6 [tyR x])] := by
  refine ACalls.fz (fits_asker_fits_1.of' (Nat.le_of_ble_eq_true rfl) (wpF_start ?_))
  (first | refine au ?_ | exact au0 | fail)
  exact ⟨fz_of, sub_of⟩
theorem fits2_spec (x : Ty) (i : Int) (id : Nat) : ACalls PG fits_asker_fits_2.n [.int .i64 i, .ptr id 6 0 0] [(id, .rows 6 [tyR x])] fun r H' => r = .int .i64 x.el ∧ H' = [(id, .rows 6 [tyR x])] := by
  refine ACalls.fz (fits_asker_fits_2.of' (Nat.le_of_ble_eq_true rfl) (wpF_start ?_))
  (first | refine au ?_ | exact au0 | fail)
  exact ⟨fz_of, sub_of⟩
theorem fits3_spec (x : Ty) (i : Nat) (hi : i < x.its.length) (id : Nat) : ACalls PG fits_asker_fits_3.n [.int .i64 (i : Nat), .ptr id 6 0 0] [(id, .rows 6 [tyR x])] fun r H' => r = .int .i64 x.its[i].ty ∧ H' = [(id, .rows 6 [tyR x])] := by
  have hlen : (x.its.map itR).length = x.its.length := by simp
  have hg := row_get (f := itR) hi
  refine ACalls.fz (fits_asker_fits_3.of' (Nat.le_of_ble_eq_true rfl) (wpF_start ?_))
  generalize x.its[i] = y at *
  (first | refine au ?_ | exact au0 | fail)
  rw [hg]
  (first | refine au ?_ | exact au0 | fail)
  exact ⟨fz_of, sub_of⟩
theorem union1_spec (i : Int) (H : AH) : ACalls PG fits_asker_union_1.n [.int .i64 i] H fun r H' => r = .int .i64 0 ∧ H' = H := by
  refine ACalls.fz (fits_asker_union_1.of rfl (wpF_start ?_))
  (first | refine au ?_ | exact au0 | fail)
  exact ⟨fz_of, sub_of⟩
theorem union2_spec (l : List Ty) (t : Int) (h0 : 0 ≤ t) (h1 : t < l.length) (n : Nat) (hn : n < (tAt l t).its.length) (i : Int) (ida idt idn : Nat) (d1 : ida ≠ idt) (d2 : ida ≠ idn) (d3 : idt ≠ idn) (Hs : AH) (e1 : hget Hs ida = some (.rows 1 [[tysA l]])) (e2 : hget Hs idt = some (.rows 1 [[.int .i64 t]])) (e3 : hget Hs idn = some (.rows 1 [[.int .i64 (n : Nat)]])) :
    ACalls PG fits_asker_union_2.n [.int .i64 i, .ptr ida 1 0 0, .ptr idt 1 0 0, .ptr idn 1 0 0] Hs fun r H' => r = .int .i64 ((tAt l t).its.getD n it0).ty ∧ H' = Hs := by
  have hlen : (l.map tyR).length = l.length := by simp
  have hge := tAt_get h0 h1
  rw [getD_get hn]
  have hlen2 : ((tAt l t).its.map itR).length = (tAt l t).its.length := by simp
  have hg := row_get (f := itR) hn
  refine ACalls.fz (fits_asker_union_2.of' (Nat.le_of_ble_eq_true rfl) (wpF_start ?_))
  generalize (tAt l t).its[n] = y at *
  generalize tAt l t = g at *
  (first | refine au ?_ | exact au0 | fail)
  rw [hge]
  (first | refine au ?_ | exact au0 | fail)
  rw [hg]
  (first | refine au ?_ | exact au0 | fail)
  exact ⟨fz_of, sub_of⟩
end Go.Proofs.Ytmjdkeonjflanaa

/- Which values are of a type, walked: unions, all. -/
namespace Go.Proofs.Ytmjdkeonjflanaa
set_option autoImplicit false
set_option linter.unusedSimpArgs false
set_option linter.unusedVariables false
attribute [local irreducible] callA callP ACalls
theorem fitE_eq (l : List Ty) (t : Int) (k : Int) (n : Nat) (x : List UInt8) (vs : List Vl) : fitE l t (.mk k n x vs) =
    if k ≠ (tAt l t).kd then 4
    else if vZero k n x vs.length = false then 1
    else if (isNum k = true ∧ numT l t n = false) ∨ (k = 14 ∧ numT l (tAt l t).tg n = false) then 7
    else if k = 10 ∧ (tAt l t).bd < (x.length : Int) then 3
    else if k = 10 ∧ x.contains 0 = true then 10
    else if k = 11 ∧ (tAt l t).bd < (vs.length : Int) then 3
    else fitN l (partT l t n vs.length) vs := by
  rw [fitE]
  unfold fitH fitN
  repeat' split
  all_goals first | rfl | (simp_all; done) | skip
theorem TyG.parts {l : List Ty} {n : Nat} {t : Ty} (h : TyG l n t) : ∀ p ∈ parts t, 0 ≤ p ∧ p < n := orderE_in h.order
theorem TyG.kd {l : List Ty} {n : Nat} {t : Ty} (h : TyG l n t) : 1 ≤ t.kd ∧ t.kd ≤ 14 := by
  have := h.form
  unfold formE at this
  split at this
  · cases this
  · omega
theorem TyV.tAt {l : List Ty} (h : TyV l) {t : Int} (h0 : 0 ≤ t) (h1 : t < l.length) : TyG l t.toNat (tAt l t) := by
  have := h.at (i := t.toNat) (by omega)
  unfold Go.Proofs.Ytmjdkeonjflanaa.tAt
  rw [getD_get (by omega)]
  exact this
theorem TyG.bd {l : List Ty} {n : Nat} {t : Ty} (h : TyG l n t) (hb : kBd t.kd = true) : 0 ≤ t.bd ∧ t.bd ≤ 64 ∧ (kEl t.kd = true → 1 ≤ t.bd) := by
  have := h.bound
  unfold boundE at this
  split at this
  · cases this
  · rename_i q
    refine ⟨?_, ?_, fun e => ?_⟩
    · apply Classical.byContradiction; intro c; exact q ⟨hb, by omega⟩
    · apply Classical.byContradiction; intro c; exact q ⟨hb, by omega⟩
    · apply Classical.byContradiction; intro c
      have : ¬ t.bd < 0 := fun c2 => q ⟨hb, .inr (.inl c2)⟩
      exact q ⟨hb, .inr (.inr ⟨e, by omega⟩)⟩
theorem brIx_lt {l : List Ty} {t : Int} {n k : Nat} (h : brIx l t n = some k) : k < (tAt l t).its.length := by
  unfold brIx at h
  split at h
  · cases h1 : (Go.Proofs.Ytmjdkeonjflanaa.tAt l t).its.findIdx? (fun x => x.num == n && !x.rest) with
    | some j =>
      rw [h1] at h
      simp only [Option.some_or, Option.some.injEq] at h
      obtain ⟨a, _⟩ := find_some h1
      omega
    | none =>
      rw [h1] at h
      simp only [Option.none_or] at h
      obtain ⟨a, _⟩ := find_some h
      exact a
  · cases h
theorem union_spec (l : List Ty) (hl : TysOk l) (hv : TyV l) (v : Vl) (hok : vOk v) (t : Int) (h0 : 0 ≤ t) (h1 : t < l.length) (h14 : (tAt l t).kd = 14) (ih : ∀ w ∈ v.its, FitC l w) (H : AH) :
    ACalls PG fits_asker_union.n [askA l, .int .i64 t, vlA v] H fun r H' => r = .int .i64 (if numT l (tAt l t).tg v.num = false then 7 else fitN l (partT l t v.num v.its.length) v.its) ∧ H' = H := by
  have hlen : (l.map tyR).length = l.length := by simp
  have hll := hl.len
  have hge := tAt_get h0 h1
  have hG := hv.tAt h0 h1
  have htg := hG.parts _ (parts_tag h14)
  have hpt : ∀ x ∈ (tAt l t).its, 0 ≤ x.ty ∧ x.ty < l.length := fun x hx => by
    have := hG.parts _ (parts_item (.inr h14) hx); omega
  have hB := fun H => Branch_spec l hl t v.num H
  have hN := fun H => fnum_spec l hl (tAt l t).tg htg.1 (by omega) v.num H
  have hpp : partT l t v.num v.its.length = match brIx l t v.num with
    | some k => [((tAt l t).its.getD k it0).ty]
    | none => [] := by
    unfold partT; rw [if_neg (by omega), if_neg (by omega), if_neg (by omega), if_pos h14]; cases brIx l t v.num <;> rfl
  rw [hpp]
  have hlt := fun k => @brIx_lt l t v.num k
  have hu2 := fun k (hk : k < (tAt l t).its.length) => union2_spec l t h0 h1 k hk
  have hit0 := items_fspec l v hok 0 fits_asker_union_1.n [] []
  have hit1 := fun f caps p Hs => items_fspec l v hok 1 f caps [p] Hs rfl
  obtain ⟨b, hb⟩ : ∃ b, numT l (tAt l t).tg v.num = b := ⟨_, rfl⟩
  obtain ⟨o, ho⟩ : ∃ o, brIx l t v.num = o := ⟨_, rfl⟩
  rw [hb] at hN ⊢
  rw [ho] at hB ⊢
  refine ACalls.fz (fits_asker_union.of rfl (wpF_start ?_))
  obtain ⟨kd, num, tx, its⟩ := v
  (first | refine au ?_ | exact au0 | fail)
  intro id3 hid3 ht3; have n3 := neAll_of hid3; (try simp only [neAll, neAll_hset] at n3); have m3 := n3; (repeat (obtain ⟨_, m3⟩ := m3))
  (first | refine au ?_ | exact au0 | fail)
  intro id4 hid4 ht4; have n4 := neAll_of hid4; (try simp only [neAll, neAll_hset] at n4); have m4 := n4; (repeat (obtain ⟨_, m4⟩ := m4))
  (first | refine au ?_ | exact au0 | fail)
  intro id5 hid5 ht5; have n5 := neAll_of hid5; (try simp only [neAll, neAll_hset] at n5); have m5 := n5; (repeat (obtain ⟨_, m5⟩ := m5))
  (first | refine au ?_ | exact au0 | fail)
  rw [hge]
  (first | refine au ?_ | exact au0 | fail)
  first | refine callF_eq (hN _) ?_ | refine callG_eq rfl (hN _) ?_
  cases b
  · rw [if_pos rfl]
    (first | refine au ?_ | exact au0 | fail)
    exact ⟨fz_of, sub_of⟩
  rw [if_neg (by simp)]
  (first | refine au ?_ | exact au0 | fail)
  first | refine callF_eq (hB _) ?_ | refine callG_eq rfl (hB _) ?_
  cases o with
  | none =>
    (first | refine au ?_ | exact au0 | fail)
    intro id7 hid7 ht7; have n7 := neAll_of hid7; (try simp only [neAll, neAll_hset] at n7); have m7 := n7; (repeat (obtain ⟨_, m7⟩ := m7))
    (first | refine au ?_ | exact au0 | fail)
    first | refine callF_eq ((hit0 [] rfl (by simp) (fun i h => by simp at h) ih).sup (by exact sub_of)) ?_ | refine callG_eq rfl ((hit0 [] rfl (by simp) (fun i h => by simp at h) ih).sup (by exact sub_of)) ?_
    (first | refine au ?_ | exact au0 | fail)
    exact ⟨fz_of, sub_of⟩
  | some k =>
    have hk := hlt k ho
    (first | refine au ?_ | exact au0 | fail)
    intro id7 hid7 ht7; have n7 := neAll_of hid7; (try simp only [neAll, neAll_hset] at n7); have m7 := n7; (repeat (obtain ⟨_, m7⟩ := m7))
    (first | refine au ?_ | exact au0 | fail)
    have hc := fun (Hs : AH) (e1 : hget Hs id3 = some (.rows 1 [[tysA l]])) (e2 : hget Hs id4 = some (.rows 1 [[.int .i64 t]])) (e3 : hget Hs id7 = some (.rows 1 [[.int .i64 (k : Nat)]])) => hit1 fits_asker_union_2.n [.ptr id3 1 0 0, .ptr id4 1 0 0, .ptr id7 1 0 0] ((tAt l t).its.getD k it0).ty Hs
      (by intro p hp; simp only [List.mem_singleton] at hp; rw [hp, getD_get hk]; exact hpt _ (List.getElem_mem hk))
      (fun i h => by
        have hi0 : i = 0 := by simpa using h
        subst hi0
        exact hu2 k hk _ id3 id4 id7 (by omega) (by omega) (by omega) _ e1 e2 e3) ih
    first | refine callF_eq (hc _ (by exact hg_of) (by exact hg_of) (by exact hg_of)) ?_ | refine callG_eq rfl (hc _ (by exact hg_of) (by exact hg_of) (by exact hg_of)) ?_
    (first | refine au ?_ | exact au0 | fail)
    exact ⟨fz_of, sub_of⟩
theorem partT_el {l : List Ty} {t : Int} {g : Ty} (hg : tAt l t = g) (h : g.kd = 11) (n m : Nat) : partT l t n m = List.replicate m g.el := by
  unfold partT; rw [hg, if_pos h]
theorem partT_ar {l : List Ty} {t : Int} {g : Ty} (hg : tAt l t = g) (h : g.kd = 12) (n m : Nat) : partT l t n m = List.replicate g.bd.toNat g.el := by
  unfold partT; rw [hg, if_neg (by omega), if_pos h]
theorem partT_st {l : List Ty} {t : Int} {g : Ty} (hg : tAt l t = g) (h : g.kd = 13) (n m : Nat) : partT l t n m = g.its.map (·.ty) := by
  unfold partT; rw [hg, if_neg (by omega), if_neg (by omega), if_pos h]
theorem partT_no {l : List Ty} {t : Int} {g : Ty} (hg : tAt l t = g) (h : g.kd ≤ 10) (n m : Nat) : partT l t n m = [] := by
  unfold partT; rw [hg, if_neg (by omega), if_neg (by omega), if_neg (by omega), if_neg (by omega)]
section
variable {l : List Ty} {t : Int} {g : Ty} {k : Int} {n : Nat} {x : List UInt8} {vs : List Vl} {H : AH}
/-- Where a type stands in a list. -/
structure FAt (l : List Ty) (t : Int) (g : Ty) : Prop where
  h0 : 0 ≤ t
  h1 : t < ((l.map tyR).length : Nat)
  ge : (l.map tyR).getD t.toNat [] = tyR g
abbrev FRes (l : List Ty) (t : Int) (v : Vl) (H : AH) (e : Int) : Prop := ACalls PG fits_asker_fits.n [askA l, .int .i64 t, vlA v] H fun r H' => r = .int .i64 e ∧ H' = H
theorem fits_kind (a : FAt l t g) (hk : k ≠ g.kd) : FRes l t (.mk k n x vs) H 4 := by
  obtain ⟨h0, h1, hge⟩ := a
  have hkl := vlRs_len vs
  refine ACalls.fz (fits_asker_fits.of rfl (wpF_start ?_))
  (first | refine au ?_ | exact au0 | fail)
  intro id3 hid3 ht3; have n3 := neAll_of hid3; (try simp only [neAll, neAll_hset] at n3); have m3 := n3; (repeat (obtain ⟨_, m3⟩ := m3))
  (first | refine au ?_ | exact au0 | fail)
  intro id5 hid5 ht5; have n5 := neAll_of hid5; (try simp only [neAll, neAll_hset] at n5); have m5 := n5; (repeat (obtain ⟨_, m5⟩ := m5))
  (first | refine au ?_ | exact au0 | fail)
  rw [hge]
  (first | refine au ?_ | exact au0 | fail)
  intro id7 hid7 ht7; have n7 := neAll_of hid7; (try simp only [neAll, neAll_hset] at n7); have m7 := n7; (repeat (obtain ⟨_, m7⟩ := m7))
  clear hid3 hid5 hid7 ht3 ht5 ht7
  (first | refine au ?_ | exact au0 | fail)
  exact ⟨fz_of, sub_of⟩
theorem fits_form0 (a : FAt l t g) (hk : k = g.kd) (hF : ∀ H, ACalls PG fits_form.n [vlA (.mk k n x vs)] H fun r H' => r = .bool false ∧ H' = H) : FRes l t (.mk k n x vs) H 1 := by
  obtain ⟨h0, h1, hge⟩ := a
  have hkl := vlRs_len vs
  refine ACalls.fz (fits_asker_fits.of rfl (wpF_start ?_))
  (first | refine au ?_ | exact au0 | fail)
  intro id3 hid3 ht3; have n3 := neAll_of hid3; (try simp only [neAll, neAll_hset] at n3); have m3 := n3; (repeat (obtain ⟨_, m3⟩ := m3))
  (first | refine au ?_ | exact au0 | fail)
  intro id5 hid5 ht5; have n5 := neAll_of hid5; (try simp only [neAll, neAll_hset] at n5); have m5 := n5; (repeat (obtain ⟨_, m5⟩ := m5))
  (first | refine au ?_ | exact au0 | fail)
  rw [hge]
  (first | refine au ?_ | exact au0 | fail)
  intro id7 hid7 ht7; have n7 := neAll_of hid7; (try simp only [neAll, neAll_hset] at n7); have m7 := n7; (repeat (obtain ⟨_, m7⟩ := m7))
  clear hid3 hid5 hid7 ht3 ht5 ht7
  (first | refine au ?_ | exact au0 | fail)
  first | refine callF_eq (hF _) ?_ | refine callG_eq rfl (hF _) ?_
  (first | refine au ?_ | exact au0 | fail)
  exact ⟨fz_of, sub_of⟩
theorem fits_form1 (a : FAt l t g) (hk : k = g.kd) (hF : ∀ H, ACalls PG fits_form.n [vlA (.mk k n x vs)] H fun r H' => r = .bool true ∧ H' = H) (hP : ∀ H, ACalls PG fits_plain.n [vlA (.mk k n x vs)] H fun r H' => r = .bool false ∧ H' = H) : FRes l t (.mk k n x vs) H 1 := by
  obtain ⟨h0, h1, hge⟩ := a
  have hkl := vlRs_len vs
  refine ACalls.fz (fits_asker_fits.of rfl (wpF_start ?_))
  (first | refine au ?_ | exact au0 | fail)
  intro id3 hid3 ht3; have n3 := neAll_of hid3; (try simp only [neAll, neAll_hset] at n3); have m3 := n3; (repeat (obtain ⟨_, m3⟩ := m3))
  (first | refine au ?_ | exact au0 | fail)
  intro id5 hid5 ht5; have n5 := neAll_of hid5; (try simp only [neAll, neAll_hset] at n5); have m5 := n5; (repeat (obtain ⟨_, m5⟩ := m5))
  (first | refine au ?_ | exact au0 | fail)
  rw [hge]
  (first | refine au ?_ | exact au0 | fail)
  intro id7 hid7 ht7; have n7 := neAll_of hid7; (try simp only [neAll, neAll_hset] at n7); have m7 := n7; (repeat (obtain ⟨_, m7⟩ := m7))
  clear hid3 hid5 hid7 ht3 ht5 ht7
  (first | refine au ?_ | exact au0 | fail)
  first | refine callF_eq (hF _) ?_ | refine callG_eq rfl (hF _) ?_
  (first | refine au ?_ | exact au0 | fail)
  first | refine callF_eq (hP _) ?_ | refine callG_eq rfl (hP _) ?_
  (first | refine au ?_ | exact au0 | fail)
  exact ⟨fz_of, sub_of⟩
/-- The value has what its kind has. -/
structure FZ (k : Int) (n : Nat) (x : List UInt8) (vs : List Vl) (g : Ty) : Prop where
  hk : k = g.kd
  hF : ∀ H, ACalls PG fits_form.n [vlA (.mk k n x vs)] H fun r H' => r = .bool true ∧ H' = H
  hP : ∀ H, ACalls PG fits_plain.n [vlA (.mk k n x vs)] H fun r H' => r = .bool true ∧ H' = H
theorem fits_num (a : FAt l t g) (z : FZ k n x vs g) (h9 : isNum g.kd = true) {b : Bool} (hN : ∀ H, ACalls PG fits_asker_number.n [askA l, .int .i64 t, .int .u64 (n : Nat)] H fun r H' => r = .bool b ∧ H' = H) : FRes l t (.mk k n x vs) H (if b = true then 0 else 7) := by
  obtain ⟨h0, h1, hge⟩ := a
  obtain ⟨hk, hF, hP⟩ := z
  have hkl := vlRs_len vs
  refine ACalls.fz (fits_asker_fits.of rfl (wpF_start ?_))
  (first | refine au ?_ | exact au0 | fail)
  intro id3 hid3 ht3; have n3 := neAll_of hid3; (try simp only [neAll, neAll_hset] at n3); have m3 := n3; (repeat (obtain ⟨_, m3⟩ := m3))
  (first | refine au ?_ | exact au0 | fail)
  intro id5 hid5 ht5; have n5 := neAll_of hid5; (try simp only [neAll, neAll_hset] at n5); have m5 := n5; (repeat (obtain ⟨_, m5⟩ := m5))
  (first | refine au ?_ | exact au0 | fail)
  rw [hge]
  (first | refine au ?_ | exact au0 | fail)
  intro id7 hid7 ht7; have n7 := neAll_of hid7; (try simp only [neAll, neAll_hset] at n7); have m7 := n7; (repeat (obtain ⟨_, m7⟩ := m7))
  clear hid3 hid5 hid7 ht3 ht5 ht7
  (first | refine au ?_ | exact au0 | fail)
  first | refine callF_eq (hF _) ?_ | refine callG_eq rfl (hF _) ?_
  (first | refine au ?_ | exact au0 | fail)
  first | refine callF_eq (hP _) ?_ | refine callG_eq rfl (hP _) ?_
  clear hF hP
  (first | refine au ?_ | exact au0 | fail)
  have hnum := fun H => prim_Number_spec g.kd H
  rw [h9] at hnum
  first | refine callF_eq (hnum _) ?_ | refine callG_eq rfl (hnum _) ?_
  (first | refine au ?_ | exact au0 | fail)
  first | refine callF_eq (hN _) ?_ | refine callG_eq rfl (hN _) ?_
  cases b
  · (first | refine au ?_ | exact au0 | fail)
    exact ⟨fz_of, sub_of⟩
  · (first | refine au ?_ | exact au0 | fail)
    exact ⟨fz_of, sub_of⟩
theorem fits_str (a : FAt l t g) (z : FZ k n x vs g) (h9 : isNum g.kd = false) (h10 : g.kd = 10) {e : Int} (hT : ∀ H, ACalls PG fits_text.n [.str x, .int .i64 g.bd] H fun r H' => r = .int .i64 e ∧ H' = H) : FRes l t (.mk k n x vs) H e := by
  obtain ⟨h0, h1, hge⟩ := a
  obtain ⟨hk, hF, hP⟩ := z
  have hkl := vlRs_len vs
  refine ACalls.fz (fits_asker_fits.of rfl (wpF_start ?_))
  (first | refine au ?_ | exact au0 | fail)
  intro id3 hid3 ht3; have n3 := neAll_of hid3; (try simp only [neAll, neAll_hset] at n3); have m3 := n3; (repeat (obtain ⟨_, m3⟩ := m3))
  (first | refine au ?_ | exact au0 | fail)
  intro id5 hid5 ht5; have n5 := neAll_of hid5; (try simp only [neAll, neAll_hset] at n5); have m5 := n5; (repeat (obtain ⟨_, m5⟩ := m5))
  (first | refine au ?_ | exact au0 | fail)
  rw [hge]
  (first | refine au ?_ | exact au0 | fail)
  intro id7 hid7 ht7; have n7 := neAll_of hid7; (try simp only [neAll, neAll_hset] at n7); have m7 := n7; (repeat (obtain ⟨_, m7⟩ := m7))
  clear hid3 hid5 hid7 ht3 ht5 ht7
  (first | refine au ?_ | exact au0 | fail)
  first | refine callF_eq (hF _) ?_ | refine callG_eq rfl (hF _) ?_
  (first | refine au ?_ | exact au0 | fail)
  first | refine callF_eq (hP _) ?_ | refine callG_eq rfl (hP _) ?_
  clear hF hP
  (first | refine au ?_ | exact au0 | fail)
  have hnum := fun H => prim_Number_spec g.kd H
  rw [h9] at hnum
  first | refine callF_eq (hnum _) ?_ | refine callG_eq rfl (hnum _) ?_
  (first | refine au ?_ | exact au0 | fail)
  first | refine callF_eq (hT _) ?_ | refine callG_eq rfl (hT _) ?_
  (first | refine au ?_ | exact au0 | fail)
  exact ⟨fz_of, sub_of⟩
theorem fits_seq0 (a : FAt l t g) (z : FZ k n x vs g) (h9 : isNum g.kd = false) (h11 : g.kd = 11) (hb : g.bd < (vs.length : Nat)) : FRes l t (.mk k n x vs) H 3 := by
  obtain ⟨h0, h1, hge⟩ := a
  obtain ⟨hk, hF, hP⟩ := z
  have hkl := vlRs_len vs
  refine ACalls.fz (fits_asker_fits.of rfl (wpF_start ?_))
  (first | refine au ?_ | exact au0 | fail)
  intro id3 hid3 ht3; have n3 := neAll_of hid3; (try simp only [neAll, neAll_hset] at n3); have m3 := n3; (repeat (obtain ⟨_, m3⟩ := m3))
  (first | refine au ?_ | exact au0 | fail)
  intro id5 hid5 ht5; have n5 := neAll_of hid5; (try simp only [neAll, neAll_hset] at n5); have m5 := n5; (repeat (obtain ⟨_, m5⟩ := m5))
  (first | refine au ?_ | exact au0 | fail)
  rw [hge]
  (first | refine au ?_ | exact au0 | fail)
  intro id7 hid7 ht7; have n7 := neAll_of hid7; (try simp only [neAll, neAll_hset] at n7); have m7 := n7; (repeat (obtain ⟨_, m7⟩ := m7))
  clear hid3 hid5 hid7 ht3 ht5 ht7
  (first | refine au ?_ | exact au0 | fail)
  first | refine callF_eq (hF _) ?_ | refine callG_eq rfl (hF _) ?_
  (first | refine au ?_ | exact au0 | fail)
  first | refine callF_eq (hP _) ?_ | refine callG_eq rfl (hP _) ?_
  clear hF hP
  (first | refine au ?_ | exact au0 | fail)
  have hnum := fun H => prim_Number_spec g.kd H
  rw [h9] at hnum
  first | refine callF_eq (hnum _) ?_ | refine callG_eq rfl (hnum _) ?_
  (first | refine au ?_ | exact au0 | fail)
  exact ⟨fz_of, sub_of⟩
theorem fits_seq (a : FAt l t g) (z : FZ k n x vs g) (h9 : isNum g.kd = false) (h11 : g.kd = 11) (hb : (vs.length : Nat) ≤ g.bd) {e : Int}
    (hI : ∀ id Hs, hget Hs id = some (.rows 6 [tyR g]) → ACalls PG fits_asker_items.n [askA l, vlA (.mk k n x vs), .int .i64 (vs.length : Nat), .clo fits_asker_fits_1.n [] [.ptr id 6 0 0]] Hs fun r H' => r = .int .i64 e ∧ H' = Hs) : FRes l t (.mk k n x vs) H e := by
  obtain ⟨h0, h1, hge⟩ := a
  obtain ⟨hk, hF, hP⟩ := z
  have hkl := vlRs_len vs
  refine ACalls.fz (fits_asker_fits.of rfl (wpF_start ?_))
  (first | refine au ?_ | exact au0 | fail)
  intro id3 hid3 ht3; have n3 := neAll_of hid3; (try simp only [neAll, neAll_hset] at n3); have m3 := n3; (repeat (obtain ⟨_, m3⟩ := m3))
  (first | refine au ?_ | exact au0 | fail)
  intro id5 hid5 ht5; have n5 := neAll_of hid5; (try simp only [neAll, neAll_hset] at n5); have m5 := n5; (repeat (obtain ⟨_, m5⟩ := m5))
  (first | refine au ?_ | exact au0 | fail)
  rw [hge]
  (first | refine au ?_ | exact au0 | fail)
  intro id7 hid7 ht7; have n7 := neAll_of hid7; (try simp only [neAll, neAll_hset] at n7); have m7 := n7; (repeat (obtain ⟨_, m7⟩ := m7))
  clear hid3 hid5 hid7 ht3 ht5 ht7
  (first | refine au ?_ | exact au0 | fail)
  first | refine callF_eq (hF _) ?_ | refine callG_eq rfl (hF _) ?_
  (first | refine au ?_ | exact au0 | fail)
  first | refine callF_eq (hP _) ?_ | refine callG_eq rfl (hP _) ?_
  clear hF hP
  (first | refine au ?_ | exact au0 | fail)
  have hnum := fun H => prim_Number_spec g.kd H
  rw [h9] at hnum
  first | refine callF_eq (hnum _) ?_ | refine callG_eq rfl (hnum _) ?_
  (first | refine au ?_ | exact au0 | fail)
  rw [hkl]
  first | refine callF_eq (hI _ _ (by exact hg_of)) ?_ | refine callG_eq rfl (hI _ _ (by exact hg_of)) ?_
  (first | refine au ?_ | exact au0 | fail)
  exact ⟨fz_of, sub_of⟩
theorem fits_arr (a : FAt l t g) (z : FZ k n x vs g) (h9 : isNum g.kd = false) (h12 : g.kd = 12) {e : Int}
    (hI : ∀ id Hs, hget Hs id = some (.rows 6 [tyR g]) → ACalls PG fits_asker_items.n [askA l, vlA (.mk k n x vs), .int .i64 g.bd, .clo fits_asker_fits_2.n [] [.ptr id 6 0 0]] Hs fun r H' => r = .int .i64 e ∧ H' = Hs) : FRes l t (.mk k n x vs) H e := by
  obtain ⟨h0, h1, hge⟩ := a
  obtain ⟨hk, hF, hP⟩ := z
  have hkl := vlRs_len vs
  refine ACalls.fz (fits_asker_fits.of rfl (wpF_start ?_))
  (first | refine au ?_ | exact au0 | fail)
  intro id3 hid3 ht3; have n3 := neAll_of hid3; (try simp only [neAll, neAll_hset] at n3); have m3 := n3; (repeat (obtain ⟨_, m3⟩ := m3))
  (first | refine au ?_ | exact au0 | fail)
  intro id5 hid5 ht5; have n5 := neAll_of hid5; (try simp only [neAll, neAll_hset] at n5); have m5 := n5; (repeat (obtain ⟨_, m5⟩ := m5))
  (first | refine au ?_ | exact au0 | fail)
  rw [hge]
  (first | refine au ?_ | exact au0 | fail)
  intro id7 hid7 ht7; have n7 := neAll_of hid7; (try simp only [neAll, neAll_hset] at n7); have m7 := n7; (repeat (obtain ⟨_, m7⟩ := m7))
  clear hid3 hid5 hid7 ht3 ht5 ht7
  (first | refine au ?_ | exact au0 | fail)
  first | refine callF_eq (hF _) ?_ | refine callG_eq rfl (hF _) ?_
  (first | refine au ?_ | exact au0 | fail)
  first | refine callF_eq (hP _) ?_ | refine callG_eq rfl (hP _) ?_
  clear hF hP
  (first | refine au ?_ | exact au0 | fail)
  have hnum := fun H => prim_Number_spec g.kd H
  rw [h9] at hnum
  first | refine callF_eq (hnum _) ?_ | refine callG_eq rfl (hnum _) ?_
  (first | refine au ?_ | exact au0 | fail)
  first | refine callF_eq (hI _ _ (by exact hg_of)) ?_ | refine callG_eq rfl (hI _ _ (by exact hg_of)) ?_
  (first | refine au ?_ | exact au0 | fail)
  exact ⟨fz_of, sub_of⟩
theorem fits_stc (a : FAt l t g) (z : FZ k n x vs g) (h9 : isNum g.kd = false) (h13 : g.kd = 13) (hli : g.its.length ≤ 4000000000000) {e : Int}
    (hI : ∀ id Hs, hget Hs id = some (.rows 6 [tyR g]) → ACalls PG fits_asker_items.n [askA l, vlA (.mk k n x vs), .int .i64 (g.its.length : Nat), .clo fits_asker_fits_3.n [] [.ptr id 6 0 0]] Hs fun r H' => r = .int .i64 e ∧ H' = Hs) : FRes l t (.mk k n x vs) H e := by
  have hlen2 : (g.its.map itR).length = g.its.length := by simp
  obtain ⟨h0, h1, hge⟩ := a
  obtain ⟨hk, hF, hP⟩ := z
  have hkl := vlRs_len vs
  refine ACalls.fz (fits_asker_fits.of rfl (wpF_start ?_))
  (first | refine au ?_ | exact au0 | fail)
  intro id3 hid3 ht3; have n3 := neAll_of hid3; (try simp only [neAll, neAll_hset] at n3); have m3 := n3; (repeat (obtain ⟨_, m3⟩ := m3))
  (first | refine au ?_ | exact au0 | fail)
  intro id5 hid5 ht5; have n5 := neAll_of hid5; (try simp only [neAll, neAll_hset] at n5); have m5 := n5; (repeat (obtain ⟨_, m5⟩ := m5))
  (first | refine au ?_ | exact au0 | fail)
  rw [hge]
  (first | refine au ?_ | exact au0 | fail)
  intro id7 hid7 ht7; have n7 := neAll_of hid7; (try simp only [neAll, neAll_hset] at n7); have m7 := n7; (repeat (obtain ⟨_, m7⟩ := m7))
  clear hid3 hid5 hid7 ht3 ht5 ht7
  (first | refine au ?_ | exact au0 | fail)
  first | refine callF_eq (hF _) ?_ | refine callG_eq rfl (hF _) ?_
  (first | refine au ?_ | exact au0 | fail)
  first | refine callF_eq (hP _) ?_ | refine callG_eq rfl (hP _) ?_
  clear hF hP
  (first | refine au ?_ | exact au0 | fail)
  have hnum := fun H => prim_Number_spec g.kd H
  rw [h9] at hnum
  first | refine callF_eq (hnum _) ?_ | refine callG_eq rfl (hnum _) ?_
  (first | refine au ?_ | exact au0 | fail)
  rw [hlen2]
  first | refine callF_eq (hI _ _ (by exact hg_of)) ?_ | refine callG_eq rfl (hI _ _ (by exact hg_of)) ?_
  (first | refine au ?_ | exact au0 | fail)
  exact ⟨fz_of, sub_of⟩
theorem fits_uni (a : FAt l t g) (z : FZ k n x vs g) (h9 : isNum g.kd = false) (h14 : g.kd = 14) {e : Int}
    (hU : ∀ H, ACalls PG fits_asker_union.n [askA l, .int .i64 t, vlA (.mk k n x vs)] H fun r H' => r = .int .i64 e ∧ H' = H) : FRes l t (.mk k n x vs) H e := by
  obtain ⟨h0, h1, hge⟩ := a
  obtain ⟨hk, hF, hP⟩ := z
  have hkl := vlRs_len vs
  refine ACalls.fz (fits_asker_fits.of rfl (wpF_start ?_))
  (first | refine au ?_ | exact au0 | fail)
  intro id3 hid3 ht3; have n3 := neAll_of hid3; (try simp only [neAll, neAll_hset] at n3); have m3 := n3; (repeat (obtain ⟨_, m3⟩ := m3))
  (first | refine au ?_ | exact au0 | fail)
  intro id5 hid5 ht5; have n5 := neAll_of hid5; (try simp only [neAll, neAll_hset] at n5); have m5 := n5; (repeat (obtain ⟨_, m5⟩ := m5))
  (first | refine au ?_ | exact au0 | fail)
  rw [hge]
  (first | refine au ?_ | exact au0 | fail)
  intro id7 hid7 ht7; have n7 := neAll_of hid7; (try simp only [neAll, neAll_hset] at n7); have m7 := n7; (repeat (obtain ⟨_, m7⟩ := m7))
  clear hid3 hid5 hid7 ht3 ht5 ht7
  (first | refine au ?_ | exact au0 | fail)
  first | refine callF_eq (hF _) ?_ | refine callG_eq rfl (hF _) ?_
  (first | refine au ?_ | exact au0 | fail)
  first | refine callF_eq (hP _) ?_ | refine callG_eq rfl (hP _) ?_
  clear hF hP
  (first | refine au ?_ | exact au0 | fail)
  have hnum := fun H => prim_Number_spec g.kd H
  rw [h9] at hnum
  first | refine callF_eq (hnum _) ?_ | refine callG_eq rfl (hnum _) ?_
  (first | refine au ?_ | exact au0 | fail)
  first | refine callF_eq (hU _) ?_ | refine callG_eq rfl (hU _) ?_
  (first | refine au ?_ | exact au0 | fail)
  exact ⟨fz_of, sub_of⟩
end
theorem sub_one {Hs : AH} {id : Nat} {b : Blk} (h : hget Hs id = some b) : Sub [(id, b)] Hs := fun j c q => by
  simp only [hget] at q
  split at q
  · rename_i e; subst e; rw [← q]; exact h
  · cases q
theorem fits_spec (l : List Ty) (hl : TysOk l) (hv : TyV l) : ∀ (m : Nat) (v : Vl), SizeOf.sizeOf v < m → vOk v → FitC l v
  | 0, v, h, _ => by omega
  | m + 1, .mk k n x vs, hsz, hok => by
    intro t h0 h1 H
    have ih : ∀ w ∈ vs, FitC l w := fun w hw => by
      simp only [vOk] at hok
      simp only [Vl.mk.sizeOf_spec] at hsz
      have := List.sizeOf_lt_of_mem hw
      exact fits_spec l hl hv m w (by omega) (vOks_mem hok.2.2.2 _ hw)
    have hlen : (l.map tyR).length = l.length := by simp
    have hG := hv.tAt h0 h1
    have hbd := hG.bd
    have hto := hl.all _ (tAt_mem h0 h1)
    have hpt : ∀ p ∈ parts (tAt l t), 0 ≤ p ∧ p < l.length := fun p hp => by have := hG.parts p hp; omega
    have a : FAt l t (tAt l t) := ⟨h0, by rw [hlen]; exact h1, tAt_get h0 h1⟩
    have hkd := hG.kd
    have hI := fun n' f caps ps Hs => items_fspec l (.mk k n x vs) hok n' f caps ps Hs
    show FRes l t (.mk k n x vs) H (fitE l t (.mk k n x vs))
    rw [fitE_eq]
    by_cases hk : k = (tAt l t).kd
    rotate_left
    · rw [if_pos hk]; exact fits_kind a hk
    rw [if_neg (by simp [hk])]
    have hz := vZero_eq (k := k) (by rw [hk]; exact hkd) n x vs.length
    have hF := fun H => fform_spec (.mk k n x vs) hok H
    have hP := fun H => fplain_spec (.mk k n x vs) hok H
    simp only [Vl.kd, Vl.num, Vl.tx, Vl.its] at hF hP
    cases hbf : vForm k n x vs.length
    · rw [hbf] at hF hz
      rw [if_pos (by rw [← hz]; rfl)]
      exact fits_form0 a hk hF
    cases hbp : vPlain k x vs.length
    · rw [hbf] at hF hz
      rw [hbp] at hP hz
      rw [if_pos (by rw [← hz]; rfl)]
      exact fits_form1 a hk hF hP
    rw [hbf] at hF hz
    rw [hbp] at hP hz
    rw [if_neg (by rw [← hz]; simp)]
    have z : FZ k n x vs (tAt l t) := ⟨hk, hF, hP⟩
    have hvz : vZero k n x vs.length = true := by rw [← hz]; rfl
    simp only [vZero, decide_eq_true_eq] at hvz
    obtain ⟨_, hm⟩ := hvz
    have hN0 : vs.length = 0 → fitN l [] vs = 0 := fun q => by unfold fitN; rw [if_neg (by simp [q])]; simp [fitEs]
    rw [show isNum k = isNum (tAt l t).kd from by rw [hk]]
    cases hI9 : isNum (tAt l t).kd
    rotate_left
    · have h9 : 1 ≤ (tAt l t).kd ∧ (tAt l t).kd ≤ 9 := by simpa [isNum] using hI9
      have := fits_num (H := H) a z hI9 (fun H => fnum_spec l hl t h0 h1 n H)
      rw [partT_no rfl (by omega), hN0 (by omega)]
      cases hb : numT l t n
      · rw [hb] at this
        rw [if_pos (.inl ⟨rfl, rfl⟩)]
        exact this
      · rw [hb] at this
        rw [if_neg (fun q => by rcases q with ⟨_, q⟩ | ⟨q, _⟩; cases q; omega), if_neg (by omega), if_neg (by omega), if_neg (by omega)]
        exact this
    have h10 : 10 ≤ (tAt l t).kd := by
      have : ¬ (1 ≤ (tAt l t).kd ∧ (tAt l t).kd ≤ 9) := by simpa [isNum] using hI9
      omega
    by_cases c10 : (tAt l t).kd = 10
    · rw [if_neg (fun q => by rcases q with ⟨q, _⟩ | ⟨q, _⟩; cases q; omega), partT_no rfl (by omega), hN0 (by omega)]
      have := fits_str (H := H) a z hI9 c10 (fun H => ftext_spec x (by simp only [vOk] at hok; exact hok.2.1) (tAt l t).bd H)
      have e : (if k = 10 ∧ (tAt l t).bd < (x.length : Int) then (3 : Int) else if k = 10 ∧ x.contains 0 = true then 10 else if k = 11 ∧ (tAt l t).bd < (vs.length : Int) then 3 else 0) = if (tAt l t).bd < (x.length : Int) then 3 else if x.contains 0 = true then 10 else 0 := by
        by_cases c1 : (tAt l t).bd < (x.length : Int)
        · rw [if_pos ⟨by omega, c1⟩, if_pos c1]
        · rw [if_neg (fun q => c1 q.2), if_neg c1]
          by_cases c2 : x.contains 0 = true
          · rw [if_pos ⟨by omega, c2⟩, if_pos c2]
          · rw [if_neg (fun q => c2 q.2), if_neg c2, if_neg (by omega)]
      rw [e]
      exact this
    by_cases c14 : (tAt l t).kd = 14
    · have := fits_uni (H := H) a z hI9 c14 (fun H => union_spec l hl hv (.mk k n x vs) hok t h0 h1 c14 ih H)
      cases hb : numT l (tAt l t).tg n
      · rw [if_pos (.inr ⟨by omega, rfl⟩)]
        have hb : numT l (tAt l t).tg (Vl.mk k n x vs).num = false := hb
        rw [if_pos hb] at this
        exact this
      · rw [if_neg (fun q => by rcases q with ⟨q, _⟩ | ⟨_, q⟩; cases q; cases q), if_neg (by omega), if_neg (by omega), if_neg (by omega)]
        have hb : ¬ numT l (tAt l t).tg (Vl.mk k n x vs).num = false := by
          show ¬ numT l (tAt l t).tg n = false
          rw [hb]; simp
        rw [if_neg hb] at this
        exact this
    rw [if_neg (fun q => by rcases q with ⟨q, _⟩ | ⟨q, _⟩; cases q; omega), if_neg (by omega), if_neg (by omega)]
    by_cases c11 : (tAt l t).kd = 11
    · by_cases cb : (tAt l t).bd < (vs.length : Nat)
      · rw [if_pos ⟨by omega, cb⟩]
        exact fits_seq0 a z hI9 c11 cb
      · rw [if_neg (fun q => cb q.2), partT_el rfl c11]
        have hel : (tAt l t).el ∈ parts (tAt l t) := by unfold parts; rw [show kEl (tAt l t).kd = true from by simp [kEl, c11]]; simp
        exact fits_seq a z hI9 c11 (by omega) fun id Hs e => hI vs.length fits_asker_fits_1.n [.ptr id 6 0 0] (List.replicate vs.length (tAt l t).el) Hs (by simp) (fun p hp => by rw [List.eq_of_mem_replicate hp]; exact hpt _ hel) (fun i h => by rw [List.getElem_replicate]; exact (fits1_spec (tAt l t) i id).sup (sub_one e)) ih
    rw [if_neg (fun q => c11 (by omega))]
    by_cases c12 : (tAt l t).kd = 12
    · rw [partT_ar rfl c12]
      have hel : (tAt l t).el ∈ parts (tAt l t) := by unfold parts; rw [show kEl (tAt l t).kd = true from by simp [kEl, c12]]; simp
      have hb0 := hbd (by simp [kBd, c12])
      exact fits_arr a z hI9 c12 fun id Hs e => hI (tAt l t).bd fits_asker_fits_2.n [.ptr id 6 0 0] (List.replicate (tAt l t).bd.toNat (tAt l t).el) Hs (by simp; omega) (fun p hp => by rw [List.eq_of_mem_replicate hp]; exact hpt _ hel) (fun i h => by rw [List.getElem_replicate]; exact (fits2_spec (tAt l t) i id).sup (sub_one e)) ih
    have c13 : (tAt l t).kd = 13 := by omega
    rw [partT_st rfl c13]
    exact fits_stc a z hI9 c13 hto.its fun id Hs e => hI (tAt l t).its.length fits_asker_fits_3.n [.ptr id 6 0 0] ((tAt l t).its.map (·.ty)) Hs (by simp) (fun p hp => by obtain ⟨y, hy, rfl⟩ := List.mem_map.1 hp; exact hpt _ (parts_item (.inl c13) hy)) (fun i h => by rw [List.getElem_map]; exact (fits3_spec (tAt l t) i (by simpa using h) id).sup (sub_one e)) ih
end Go.Proofs.Ytmjdkeonjflanaa

/- Which values are of a type, in the reference, walked. -/
namespace Go.Proofs.Ytmjdkeonjflanaa
set_option autoImplicit false
set_option linter.unusedSimpArgs false
set_option linter.unusedVariables false
attribute [local irreducible] callA callP ACalls
theorem known_spec (l : List Ty) (hl : TysOk l) (t : Int) (H : AH) : ACalls PG fits_known.n [tysA l, .int .i64 t] H fun r H' => r = .bool (decide (0 ≤ t ∧ t < l.length ∧ (tyChk l).1 = 0)) ∧ H' = H := by
  have hlen : (l.map tyR).length = l.length := by simp
  have hll := hl.len
  refine ACalls.fz (fits_known.of rfl (wpF_start ?_))
  (repeat' (first | (refine au ?_; first | refine callF_eq (Check_spec l hl _) ?_ | refine bsplit_dec (fun _ => ?_) (fun _ => ?_) | refine bsplit_intro (fun _ => ?_) (fun _ => ?_)) | exact au0 | fail)); (all_goals try (first | refine au ?_ | fail))
  all_goals exact ⟨fz_eq (congrArg AV.bool (by first | exact (decide_eq_true (by omega)).symm | exact (decide_eq_false (by omega)).symm | exact decide_eq_decide.2 (by omega) | rfl)), sub_of⟩
theorem Fits_spec (l : List Ty) (hl : TysOk l) (t : Int) (v : Vl) (hok : vOk v) (H : AH) : ACalls PG fits_Fits.n [tysA l, .int .i64 t, vlA v] H fun r H' => r = .int .i64 (if 0 ≤ t ∧ t < l.length ∧ (tyChk l).1 = 0 then fitE l t v else 8) ∧ H' = H := by
  have hk := fun H => known_spec l hl t H
  have hf := fun h => fits_spec l hl (tyChk_v (l := l) h) _ v (Nat.lt_succ_self _) hok
  refine ACalls.fz (fits_Fits.of rfl (wpF_start ?_))
  obtain ⟨k, n, x, vs⟩ := v
  by_cases c : 0 ≤ t ∧ t < l.length ∧ (tyChk l).1 = 0
  · rw [decide_eq_true c] at hk
    rw [if_pos c]
    (first | refine au ?_ | exact au0 | fail)
    intro id3 hid3 ht3; have n3 := neAll_of hid3; (try simp only [neAll, neAll_hset] at n3); have m3 := n3; (repeat (obtain ⟨_, m3⟩ := m3))
    (first | refine au ?_ | exact au0 | fail)
    first | refine callF_eq (hk _) ?_ | refine callG_eq rfl (hk _) ?_
    (first | refine au ?_ | exact au0 | fail)
    first | refine callF_eq (hf c.2.2 t c.1 c.2.1 _) ?_ | refine callG_eq rfl (hf c.2.2 t c.1 c.2.1 _) ?_
    (first | refine au ?_ | exact au0 | fail)
    exact ⟨fz_of, sub_of⟩
  · rw [decide_eq_false c] at hk
    rw [if_neg c]
    (first | refine au ?_ | exact au0 | fail)
    intro id3 hid3 ht3; have n3 := neAll_of hid3; (try simp only [neAll, neAll_hset] at n3); have m3 := n3; (repeat (obtain ⟨_, m3⟩ := m3))
    (first | refine au ?_ | exact au0 | fail)
    first | refine callF_eq (hk _) ?_ | refine callG_eq rfl (hk _) ?_
    (first | refine au ?_ | exact au0 | fail)
    exact ⟨fz_of, sub_of⟩
end Go.Proofs.Ytmjdkeonjflanaa

/- Which values are of a type, in the reference, walked: parts, all. -/
namespace Go.Proofs.Ytmjdkeonjflanaa
set_option autoImplicit false
set_option linter.unusedSimpArgs false
set_option linter.unusedVariables false
attribute [local irreducible] callA callP ACalls
theorem accTup {o : Option Nat} {sz n : Nat} {l : List (List AV)} {H : AH} {b b' : Bool} (hn : n = l.length) (h0 : o = none → l = []) (hw : ∀ r ∈ l, r.length = sz) (hb : b = b') : Fz (accH o sz l H) [] (.tup [accV o sz n, .bool b]) (.tup [.rows sz l, .bool b']) := by
  subst hb
  exact Fz.tupL (FzL.cons (accFz hn h0 (fun _ _ => rfl) (FzR.refl _ _ _) hw) (FzL.cons (.refl _) (FzL.nil _ _)))
/-- Lists that grow by one. -/
structure Grow (N : Nat) (q : Nat → Int) (r : List Int) (c : Nat → List Int) : Prop where
  z : c 0 = []
  l : ∀ i, i ≤ N → (c i).length = i
  s : ∀ i, i < N → c (i + 1) = c i ++ [q i]
  e : c N = r
theorem grow_rep (N : Nat) (a : Int) : Grow N (fun _ => a) (List.replicate N a) (fun i => List.replicate i a) := ⟨rfl, fun i _ => List.length_replicate, fun i _ => List.replicate_succ', rfl⟩
theorem grow_map (its : List It) : Grow its.length (fun i => (its.getD i it0).ty) (its.map (·.ty)) (fun i => (its.take i).map (·.ty)) := ⟨rfl, fun i h => by simp; omega, fun i h => by rw [take_map_succ _ _ _ h, getD_get h], by rw [List.take_length]⟩
end Go.Proofs.Ytmjdkeonjflanaa

/- Which values are of a type, in the reference, walked: all. -/
namespace Go.Proofs.Ytmjdkeonjflanaa
set_option autoImplicit false
set_option linter.unusedSimpArgs false
set_option linter.unusedVariables false
attribute [local irreducible] callA callP ACalls
theorem TyG.more {l : List Ty} {n : Nat} {t : Ty} (h : TyG l n t) : tyMore t = false ∧ t.its.any (itMore t.kd) = false := by
  have := h.form
  unfold formE at this
  split at this
  · cases this
  · split at this
    · cases this
    · rename_i q
      constructor
      · cases hm : tyMore t
        · rfl
        · exact absurd (.inl hm) q
      · cases hm : t.its.any (itMore t.kd)
        · rfl
        · exact absurd (.inr hm) q
theorem TyG.bd0 {l : List Ty} {n : Nat} {t : Ty} (h : TyG l n t) (hb : kBd t.kd = false) : t.bd = 0 := by
  have := h.more.1
  simp only [tyMore, decide_eq_false_iff_not] at this
  apply Classical.byContradiction
  intro q
  exact this (.inr (.inl ⟨hb, q⟩))
theorem partT_in {l : List Ty} {t : Int} {j : Nat} (hG : TyG l j (tAt l t)) (n m : Nat) : ∀ p ∈ partT l t n m, 0 ≤ p ∧ p < j := by
  have hp := hG.parts
  intro p h
  unfold partT at h
  split at h
  · rename_i c
    rw [List.eq_of_mem_replicate h]
    exact hp _ (by unfold parts; rw [show kEl (tAt l t).kd = true from by simp [kEl, c]]; simp)
  · split at h
    · rename_i c
      rw [List.eq_of_mem_replicate h]
      exact hp _ (by unfold parts; rw [show kEl (tAt l t).kd = true from by simp [kEl, c]]; simp)
    · split at h
      · rename_i c
        obtain ⟨y, hy, rfl⟩ := List.mem_map.1 h
        exact hp _ (parts_item (.inl c) hy)
      · split at h
        · rename_i c
          split at h
          · rename_i k hk
            simp only [List.mem_singleton] at h
            rw [h, getD_get (brIx_lt hk)]
            exact hp _ (parts_item (.inr c) (List.getElem_mem _))
          · cases h
        · cases h
end Go.Proofs.Ytmjdkeonjflanaa

/- What follows for a value that is of a type; plain. -/
namespace Go.Proofs.Ytmjdkeonjflanaa
set_option autoImplicit false
set_option linter.unusedVariables false
/-- What fitE = 0 says. -/
structure Fit0 (l : List Ty) (t : Int) (k : Int) (n : Nat) (x : List UInt8) (vs : List Vl) : Prop where
  kd : k = (tAt l t).kd
  z : vZero k n x vs.length = true
  num : ¬ ((isNum k = true ∧ numT l t n = false) ∨ (k = 14 ∧ numT l (tAt l t).tg n = false))
  tx : ¬ (k = 10 ∧ (tAt l t).bd < (x.length : Int))
  tx0 : ¬ (k = 10 ∧ x.contains 0 = true)
  sq : ¬ (k = 11 ∧ (tAt l t).bd < (vs.length : Int))
  len : (partT l t n vs.length).length = vs.length
  its : fitEs l (partT l t n vs.length) vs = 0
theorem fitE_0 {l : List Ty} {t : Int} {k : Int} {n : Nat} {x : List UInt8} {vs : List Vl} (h : fitE l t (.mk k n x vs) = 0) : Fit0 l t k n x vs := by
  rw [fitE_eq] at h
  by_cases c1 : k = (tAt l t).kd
  rotate_left
  · rw [if_pos c1] at h; cases h
  rw [if_neg (by simp [c1])] at h
  cases c2 : vZero k n x vs.length
  · rw [if_pos c2] at h; cases h
  rw [if_neg (by rw [c2]; simp)] at h
  by_cases c3 : (isNum k = true ∧ numT l t n = false) ∨ (k = 14 ∧ numT l (tAt l t).tg n = false)
  · rw [if_pos c3] at h; cases h
  rw [if_neg c3] at h
  by_cases c4 : k = 10 ∧ (tAt l t).bd < (x.length : Int)
  · rw [if_pos c4] at h; cases h
  rw [if_neg c4] at h
  by_cases c5 : k = 10 ∧ x.contains 0 = true
  · rw [if_pos c5] at h; cases h
  rw [if_neg c5] at h
  by_cases c6 : k = 11 ∧ (tAt l t).bd < (vs.length : Int)
  · rw [if_pos c6] at h; cases h
  rw [if_neg c6] at h
  unfold fitN at h
  by_cases c7 : (partT l t n vs.length).length = vs.length
  · rw [if_neg (by simp [c7])] at h
    exact ⟨c1, c2, c3, c4, c5, c6, c7, h⟩
  · rw [if_pos c7] at h; cases h
theorem fitEs_0 {l : List Ty} : ∀ {ps : List Int} {vs : List Vl} (_ : fitEs l ps vs = 0) (k : Nat) (h1 : k < ps.length) (h2 : k < vs.length), fitE l ps[k] vs[k] = 0
  | p :: ps, v :: vs, h, 0, _, _ => by
    simp only [fitEs] at h
    split at h
    · rename_i q; exact absurd h q
    · rename_i q; exact Classical.not_not.1 q
  | p :: ps, v :: vs, h, k + 1, h1, h2 => by
    simp only [fitEs] at h
    split at h
    · rename_i q; exact absurd h q
    · exact fitEs_0 h k (by simpa using h1) (by simpa using h2)
theorem foldl_dpF_ge {D : List Nat} {n : Nat} : ∀ (ps : List Int) (m : Nat), m ≤ ps.foldl (dpF D n) m
  | [], m => Nat.le_refl _
  | p :: ps, m => by
    have := foldl_dpF_ge (D := D) (n := n) ps (dpF D n m p)
    have : m ≤ dpF D n m p := by unfold dpF; split <;> omega
    simp only [List.foldl_cons]; omega
theorem foldl_dpF_mem {D : List Nat} {n : Nat} : ∀ (ps : List Int) (m : Nat) (p : Int), p ∈ ps → 0 ≤ p → p < (n : Int) → D.getD p.toNat 0 + 1 ≤ ps.foldl (dpF D n) m
  | q :: ps, m, p, hp, h0, h1 => by
    simp only [List.foldl_cons]
    rcases List.mem_cons.1 hp with rfl | hp
    · have := foldl_dpF_ge (D := D) (n := n) ps (dpF D n m p)
      have : D.getD p.toNat 0 + 1 ≤ dpF D n m p := by unfold dpF; rw [if_pos ⟨h0, h1⟩]; omega
      omega
    · exact foldl_dpF_mem ps _ p hp h0 h1
theorem deepT_ge {l : List Ty} {t : Int} (h0 : 0 ≤ t) (h1 : t < l.length) : 1 ≤ deepT l t := by
  obtain ⟨n, rfl⟩ : ∃ n : Nat, t = n := ⟨t.toNat, by omega⟩
  rw [deepT_eq (by omega)]
  exact foldl_dpF_ge _ _
theorem deepT_part {l : List Ty} {t : Int} (h0 : 0 ≤ t) (h1 : t < l.length) {p : Int} (hp : p ∈ parts (tAt l t)) (hp0 : 0 ≤ p) (hp1 : p < t) : deepT l p + 1 ≤ deepT l t := by
  obtain ⟨n, rfl⟩ : ∃ n : Nat, t = n := ⟨t.toNat, by omega⟩
  have hn : n < l.length := by omega
  have e : tAt l (n : Nat) = l[n] := by unfold tAt; rw [Int.toNat_natCast, getD_get hn]
  rw [e] at hp
  rw [deepT_eq hn]
  have := foldl_dpF_mem (D := dpT l n) (n := n) (parts l[n]) 1 p hp hp0 (by omega)
  rw [dpT_deep (by omega) (by omega), Int.toNat_of_nonneg hp0] at this
  exact this
theorem partT_mem {l : List Ty} {t : Int} {n m : Nat} : ∀ p ∈ partT l t n m, p ∈ parts (tAt l t) := by
  intro p h
  unfold partT at h
  split at h
  · rename_i c
    rw [List.eq_of_mem_replicate h]
    unfold parts; rw [show kEl (tAt l t).kd = true from by simp [kEl, c]]; simp
  · split at h
    · rename_i c
      rw [List.eq_of_mem_replicate h]
      unfold parts; rw [show kEl (tAt l t).kd = true from by simp [kEl, c]]; simp
    · split at h
      · rename_i c
        obtain ⟨y, hy, rfl⟩ := List.mem_map.1 h
        exact parts_item (.inl c) hy
      · split at h
        · rename_i c
          split at h
          · rename_i k hk
            simp only [List.mem_singleton] at h
            rw [h, getD_get (brIx_lt hk)]
            exact parts_item (.inr c) (List.getElem_mem _)
          · cases h
        · cases h
theorem vDeeps_le {l : List Vl} {m : Nat} (h : ∀ x ∈ l, vDeep x ≤ m) : vDeeps l ≤ m := by
  induction l with
  | nil => simp [vDeeps]
  | cons a l ih =>
    have h1 := h a List.mem_cons_self
    have h2 := ih fun x hx => h x (List.mem_cons_of_mem _ hx)
    simp only [vDeeps]; omega
/-- A value is not deeper than its type. -/
theorem fit_deep {l : List Ty} (hv : TyV l) : ∀ (m : Nat) (v : Vl), SizeOf.sizeOf v < m → ∀ t : Int, 0 ≤ t → t < l.length → fitE l t v = 0 → vDeep v ≤ deepT l t
  | 0, v, h, _, _, _, _ => by omega
  | m + 1, .mk k n x vs, hsz, t, h0, h1, hf => by
    have F := fitE_0 hf
    have hG := hv.tAt h0 h1
    have h1' := deepT_ge h0 h1
    simp only [vDeep]
    suffices vDeeps vs ≤ deepT l t - 1 by omega
    refine vDeeps_le fun w hw => ?_
    obtain ⟨i, hi, rfl⟩ := List.getElem_of_mem hw
    have hip : i < (partT l t n vs.length).length := by rw [F.len]; exact hi
    have hp := partT_mem _ (List.getElem_mem hip)
    have hr := hG.parts _ hp
    have hd := deepT_part h0 h1 hp hr.1 (by omega)
    have hs := List.sizeOf_lt_of_mem hw
    simp only [Vl.mk.sizeOf_spec] at hsz
    have := fit_deep hv m vs[i] (by omega) _ hr.1 (by omega) (fitEs_0 F.its i hip hi)
    omega
end Go.Proofs.Ytmjdkeonjflanaa

/- The bytes of values; plain. -/
namespace Go.Proofs.Ytmjdkeonjflanaa
set_option autoImplicit false
set_option linter.unusedVariables false
set_option linter.unusedSimpArgs false
/-- How many bytes are needed till a place is a multiple of a size. -/
def gapN (a sz : Nat) : Nat := (sz - a % sz) % sz
/-- A number's bytes, the lowest one first. -/
def leB : Nat → Nat → List UInt8
  | 0, _ => []
  | k + 1, n => UInt8.ofNat (n % 256) :: leB k (n / 256)
theorem leB_len : ∀ k n, (leB k n).length = k
  | 0, _ => rfl
  | k + 1, n => by simp [leB, leB_len k]
theorem leB_inj : ∀ (k n m : Nat), n < 256 ^ k → m < 256 ^ k → leB k n = leB k m → n = m
  | 0, n, m, hn, hm, _ => by simp at hn hm; omega
  | k + 1, n, m, hn, hm, h => by
    simp only [leB, List.cons.injEq] at h
    rw [Nat.pow_succ] at hn hm
    have h1 : n % 256 = m % 256 := by
      have := congrArg UInt8.toNat h.1
      simpa using this
    have h2 := leB_inj k (n / 256) (m / 256) (by omega) (by omega) h.2
    omega
/-- .. behind a gap. -/
def numB (a sz n : Nat) : List UInt8 := List.replicate (gapN a sz) 0 ++ leB sz n
theorem numB_len (a sz n : Nat) : (numB a sz n).length = gapN a sz + sz := by simp [numB, leB_len]
theorem gapN_lt {a sz : Nat} (h : 0 < sz) : gapN a sz < sz := Nat.mod_lt _ h
/-- What stands ahead of a value's items. -/
def encH (l : List Ty) (t : Int) (k : Int) (n : Nat) (x : List UInt8) (m a : Nat) : List UInt8 :=
  if k = 10 then numB a 4 (x.length + 1) ++ (x ++ [0])
  else if k = 11 then numB a 4 m
  else if k = 12 ∨ k = 13 then []
  else if k = 14 then numB a (szK (tAt l (tAt l t).tg).kd) (lowK (tAt l (tAt l t).tg).kd n)
  else numB a (szK (tAt l t).kd) (lowK (tAt l t).kd n)
mutual
/-- A value's bytes at a place. -/
def encV (l : List Ty) : Int → Vl → Nat → List UInt8
  | t, .mk k n x vs, a => encH l t k n x vs.length a ++ encVs l (partT l t n vs.length) vs (a + (encH l t k n x vs.length a).length)
def encVs (l : List Ty) : List Int → List Vl → Nat → List UInt8
  | p :: ps, v :: vs, a => encV l p v a ++ encVs l ps vs (a + (encV l p v a).length)
  | _, _, _ => []
end
theorem encVs_nil (l : List Ty) (vs : List Vl) (a : Nat) : encVs l [] vs a = [] := by cases vs <;> simp [encVs]
theorem encVs_nil' (l : List Ty) (ps : List Int) (a : Nat) : encVs l ps [] a = [] := by cases ps <;> simp [encVs]

/-! ### Numbers of a type -/
theorem szK_pos {k : Int} (h : isNum k = true) : szK k = 1 ∨ szK k = 2 ∨ szK k = 4 ∨ szK k = 8 := by
  rcases kinds9 h with rfl | rfl | rfl | rfl | rfl | rfl | rfl | rfl | rfl <;> decide
theorem lowN_lt (b n : Nat) : lowN b n < 256 ^ b := by
  unfold lowN
  rw [show (256 : Nat) = 2 ^ 8 from rfl, ← Nat.pow_mul]
  exact Nat.mod_lt _ (Nat.two_pow_pos _)
theorem lowK_lt {k : Int} (h : isNum k = true) (n : Nat) : lowK k n < 256 ^ szK k := by
  have := szK_pos h
  unfold lowK
  rw [if_neg (by omega)]
  exact lowN_lt _ _
theorem mayK_inj {k : Int} {n m : Nat} (hn : mayK k n = true) (hm : mayK k m = true) (h : lowK k n = lowK k m) : n = m := by
  simp only [mayK, Bool.and_eq_true, decide_eq_true_eq] at hn hm
  have hsz := szK_pos hn.1.1
  rw [← hn.1.2, ← hm.1.2]
  unfold lowK at h
  rw [if_neg (by omega), if_neg (by omega)] at h
  unfold upK sgnI lowK
  rw [h]
/-- An enumeration's numbers are such. -/
theorem TyG.enum {l : List Ty} {j : Nat} {t : Ty} (h : TyG l j t) (hk : t.kd = 9) {x : It} (hx : x ∈ t.its) : mayK 9 x.num = true := by
  obtain ⟨i, hi, rfl⟩ := List.getElem_of_mem hx
  have h1 := h.items
  unfold itemsE at h1
  rw [if_pos (by simp [kNm, hk])] at h1
  split at h1
  · cases h1
  split at h1
  · cases h1
  have h2 := fst0_all h1 (itemE l t i) (List.mem_map.2 ⟨i, List.mem_range.2 hi, rfl⟩)
  have h3 := h.more.2
  rw [List.any_eq_false] at h3
  have h4 := h3 t.its[i] (List.getElem_mem hi)
  simp only [itMore, decide_eq_true_eq, not_or, not_and] at h4
  unfold itemE at h2
  rw [getD_get hi] at h2
  simp only at h2
  split at h2
  rotate_left
  · cases h2
  split at h2
  · cases h2
  rw [if_neg (by omega)] at h2
  split at h2
  · rename_i q
    exact absurd q (h4.2.2.1 (by omega))
  split at h2
  · rename_i q
    unfold mayT at q
    rw [if_pos hk] at q
    exact q
  · cases h2
theorem numT_may {l : List Ty} (hv : TyV l) {t : Int} (h0 : 0 ≤ t) (h1 : t < l.length) {n : Nat} (h : numT l t n = true) : mayK (tAt l t).kd n = true := by
  unfold numT at h
  split at h
  · rename_i c
    unfold valIx at h
    rw [if_pos ⟨h0, h1, c⟩] at h
    obtain ⟨i, hi⟩ := Option.isSome_iff_exists.1 h
    obtain ⟨hn, h2, _⟩ := find_some hi
    have := (hv.tAt h0 h1).enum c (List.getElem_mem hn)
    rw [c, ← show (tAt l t).its[i].num = n from by simpa using h2]
    exact this
  · exact h
theorem TyG.tag {l : List Ty} {j : Nat} {t : Ty} (h : TyG l j t) (hk : t.kd = 14) : isNum (tAt l t.tg).kd = true := by
  have ho := h.order
  unfold orderE at ho
  split at ho
  · cases ho
  · split at ho
    · cases ho
    · rename_i q
      cases hc : isNum (tAt l t.tg).kd
      · exact absurd ⟨hk, hc⟩ q
      · rfl

/-! ### Unique reading -/
theorem app_len {α : Type} {a b r s : List α} (h : a ++ r = b ++ s) (hl : a.length = b.length) : a = b ∧ r = s := List.append_inj h hl
theorem numB_read {a sz n m : Nat} {r s : List UInt8} (hn : n < 256 ^ sz) (hm : m < 256 ^ sz) (h : numB a sz n ++ r = numB a sz m ++ s) : n = m ∧ r = s := by
  obtain ⟨h1, h2⟩ := app_len h (by rw [numB_len, numB_len])
  unfold numB at h1
  exact ⟨leB_inj sz n m hn hm (app_len h1 (by simp)).2, h2⟩
theorem Fit0.kinds {l : List Ty} {t : Int} {k : Int} {n : Nat} {x : List UInt8} {vs : List Vl} (F : Fit0 l t k n x vs) : (10 ≤ k → k ≤ 13 → n = 0) ∧ (k ≠ 10 → x = []) ∧ (k ≤ 10 → vs = []) := by
  have h := F.z
  simp only [vZero, decide_eq_true_eq, not_or, not_and, ne_eq] at h
  refine ⟨fun h1 h2 => ?_, fun h1 => ?_, fun h1 => ?_⟩
  · apply Classical.byContradiction; intro q; exact absurd h2 (h.1.1 q h1)
  · apply Classical.byContradiction; intro q; exact absurd (h.1.2 q) (by omega)
  · have := h.2
    have : vs.length = 0 := by omega
    exact List.eq_nil_of_length_eq_zero this
/-- What stands ahead of the items is read in one way. -/
theorem encH_read {l : List Ty} (hv : TyV l) {t : Int} (h0 : 0 ≤ t) (h1 : t < l.length) {k k' : Int} {n n' : Nat} {x x' : List UInt8} {vs vs' : List Vl} (F : Fit0 l t k n x vs) (F' : Fit0 l t k' n' x' vs') {a : Nat} {r s : List UInt8}
    (h : encH l t k n x vs.length a ++ r = encH l t k' n' x' vs'.length a ++ s) : k = k' ∧ n = n' ∧ x = x' ∧ vs.length = vs'.length ∧ r = s := by
  have hk : k = k' := F.kd.trans F'.kd.symm
  subst hk
  have hG := hv.tAt h0 h1
  have hkd := hG.kd
  rw [← F.kd] at hkd
  have Z := F.kinds
  have Z' := F'.kinds
  by_cases c10 : k = 10
  · have e1 := Z.2.2 (by omega)
    have e2 := Z'.2.2 (by omega)
    subst e1 e2
    have hb := hG.bd (by simp [kBd, ← F.kd, c10])
    have l1 : x.length ≤ 64 := by have := F.tx; omega
    have l2 : x'.length ≤ 64 := by have := F'.tx; omega
    unfold encH at h
    rw [if_pos c10, if_pos c10] at h
    simp only [List.append_assoc] at h
    obtain ⟨q1, q2⟩ := numB_read (sz := 4) (show x.length + 1 < 256 ^ 4 by omega) (show x'.length + 1 < 256 ^ 4 by omega) h
    obtain ⟨q3, q4⟩ := app_len q2 (by omega)
    obtain ⟨_, q5⟩ := app_len q4 rfl
    exact ⟨rfl, by rw [Z.1 (by omega) (by omega), Z'.1 (by omega) (by omega)], q3, rfl, q5⟩
  have ex : x = x' := by rw [Z.2.1 c10, Z'.2.1 c10]
  by_cases c11 : k = 11
  · have hb := hG.bd (by simp [kBd, ← F.kd, c11])
    have l1 : vs.length ≤ 64 := by have := F.sq; omega
    have l2 : vs'.length ≤ 64 := by have := F'.sq; omega
    unfold encH at h
    rw [if_neg c10, if_pos c11, if_neg c10, if_pos c11] at h
    obtain ⟨q1, q2⟩ := numB_read (sz := 4) (show vs.length < 256 ^ 4 by omega) (show vs'.length < 256 ^ 4 by omega) h
    exact ⟨rfl, by rw [Z.1 (by omega) (by omega), Z'.1 (by omega) (by omega)], ex, q1, q2⟩
  by_cases c12 : k = 12 ∨ k = 13
  · unfold encH at h
    rw [if_neg c10, if_neg c11, if_pos c12, if_neg c10, if_neg c11, if_pos c12] at h
    refine ⟨rfl, by rw [Z.1 (by omega) (by omega), Z'.1 (by omega) (by omega)], ex, ?_, h⟩
    have f1 := F.len
    have f2 := F'.len
    rcases c12 with c | c
    · rw [partT_ar rfl (by rw [← F.kd]; exact c), List.length_replicate] at f1 f2
      omega
    · rw [partT_st rfl (by rw [← F.kd]; exact c), List.length_map] at f1 f2
      omega
  by_cases c14 : k = 14
  · have hn : numT l (tAt l t).tg n = true := by
      cases e : numT l (tAt l t).tg n
      · exact absurd (.inr ⟨c14, e⟩) F.num
      · rfl
    have hn' : numT l (tAt l t).tg n' = true := by
      cases e : numT l (tAt l t).tg n'
      · exact absurd (.inr ⟨c14, e⟩) F'.num
      · rfl
    have ht := hG.parts _ (parts_tag (by rw [← F.kd]; exact c14))
    have hm := numT_may hv ht.1 (by omega) hn
    have hm' := numT_may hv ht.1 (by omega) hn'
    have hnum := hG.tag (by rw [← F.kd]; exact c14)
    unfold encH at h
    rw [if_neg c10, if_neg c11, if_neg c12, if_pos c14, if_neg c10, if_neg c11, if_neg c12, if_pos c14] at h
    obtain ⟨q1, q2⟩ := numB_read (lowK_lt hnum _) (lowK_lt hnum _) h
    have q3 := mayK_inj hm hm' q1
    subst q3
    refine ⟨rfl, rfl, ex, ?_, q2⟩
    have f1 := F.len
    have f2 := F'.len
    unfold partT at f1 f2
    rw [if_neg (by rw [← F.kd]; omega), if_neg (by rw [← F.kd]; omega), if_neg (by rw [← F.kd]; omega), if_pos (by rw [← F.kd]; omega)] at f1 f2
    omega
  · have hnum : isNum k = true := by simp only [isNum, decide_eq_true_eq]; omega
    have hn : numT l t n = true := by
      cases e : numT l t n
      · exact absurd (.inl ⟨hnum, e⟩) F.num
      · rfl
    have hn' : numT l t n' = true := by
      cases e : numT l t n'
      · exact absurd (.inl ⟨hnum, e⟩) F'.num
      · rfl
    have hm := numT_may hv h0 h1 hn
    have hm' := numT_may hv h0 h1 hn'
    unfold encH at h
    rw [if_neg c10, if_neg c11, if_neg c12, if_neg c14, if_neg c10, if_neg c11, if_neg c12, if_neg c14] at h
    rw [F.kd] at hnum
    obtain ⟨q1, q2⟩ := numB_read (lowK_lt hnum _) (lowK_lt hnum _) h
    exact ⟨rfl, mayK_inj hm hm' q1, ex, by rw [Z.2.2 (by omega), Z'.2.2 (by omega)], q2⟩
theorem encVs_read {l : List Ty} {m : Nat} (ih : ∀ v : Vl, SizeOf.sizeOf v < m → ∀ (v' : Vl) (t : Int) (a : Nat) (r s : List UInt8), 0 ≤ t → t < l.length → fitE l t v = 0 → fitE l t v' = 0 → encV l t v a ++ r = encV l t v' a ++ s → v = v' ∧ r = s) :
    ∀ (ps : List Int) (vs vs' : List Vl) (a : Nat) (r s : List UInt8), (∀ v ∈ vs, SizeOf.sizeOf v < m) → (∀ p ∈ ps, 0 ≤ p ∧ p < l.length) → ps.length = vs.length → ps.length = vs'.length → fitEs l ps vs = 0 → fitEs l ps vs' = 0 →
      encVs l ps vs a ++ r = encVs l ps vs' a ++ s → vs = vs' ∧ r = s
  | [], vs, vs', a, r, s, _, _, h1, h2, _, _, h => by
    rw [encVs_nil, encVs_nil] at h
    rw [List.eq_nil_of_length_eq_zero h1.symm, List.eq_nil_of_length_eq_zero h2.symm]
    exact ⟨rfl, h⟩
  | p :: ps, [], vs', a, r, s, _, _, h1, _, _, _, _ => by simp at h1
  | p :: ps, v :: vs, [], a, r, s, _, _, _, h2, _, _, _ => by simp at h2
  | p :: ps, v :: vs, v' :: vs', a, r, s, hm, hp, h1, h2, f1, f2, h => by
    have a1 := fitEs_0 f1 0 (by simp) (by simp)
    have a2 := fitEs_0 f2 0 (by simp) (by simp)
    simp only [List.getElem_cons_zero] at a1 a2
    have b1 : fitEs l ps vs = 0 := by simp only [fitEs, a1] at f1; simpa using f1
    have b2 : fitEs l ps vs' = 0 := by simp only [fitEs, a2] at f2; simpa using f2
    simp only [encVs, List.append_assoc] at h
    have hp0 := hp p List.mem_cons_self
    obtain ⟨e, h⟩ := ih v (hm v List.mem_cons_self) v' p a _ _ hp0.1 hp0.2 a1 a2 h
    subst e
    obtain ⟨e2, e3⟩ := encVs_read ih ps vs vs' _ r s (fun w hw => hm w (List.mem_cons_of_mem _ hw)) (fun q hq => hp q (List.mem_cons_of_mem _ hq)) (by simpa using h1) (by simpa using h2) b1 b2 h
    exact ⟨by rw [e2], e3⟩
/-- A value's bytes are read in one way. -/
theorem encV_read {l : List Ty} (hv : TyV l) : ∀ (m : Nat) (v : Vl), SizeOf.sizeOf v < m → ∀ (v' : Vl) (t : Int) (a : Nat) (r s : List UInt8), 0 ≤ t → t < l.length → fitE l t v = 0 → fitE l t v' = 0 → encV l t v a ++ r = encV l t v' a ++ s → v = v' ∧ r = s
  | 0, v, h, _, _, _, _, _, _, _, _, _, _ => by omega
  | m + 1, .mk k n x vs, hsz, .mk k' n' x' vs', t, a, r, s, h0, h1, f1, f2, h => by
    have F := fitE_0 f1
    have F' := fitE_0 f2
    have hG := hv.tAt h0 h1
    simp only [encV, List.append_assoc] at h
    obtain ⟨rfl, rfl, rfl, hl, h⟩ := encH_read hv h0 h1 F F' h
    rw [← hl] at h
    have g1 := F.len
    have g2 := F'.len
    have g3 := F.its
    have g4 := F'.its
    rw [← hl] at g2 g4
    have hin := partT_in hG n vs.length
    obtain ⟨e1, e2⟩ := encVs_read (l := l) (m := m) (fun v hv' => encV_read hv m v hv') _ vs vs' _ r s (fun w hw => by
      have := List.sizeOf_lt_of_mem hw
      simp only [Vl.mk.sizeOf_spec] at hsz
      omega) (fun p hp => by have := hin p hp; omega) g1 (by omega) g3 g4 h
    exact ⟨by rw [e1], e2⟩

/-! ### Lengths -/
theorem encH_len {l : List Ty} {t : Int} {k : Int} {n : Nat} {x : List UInt8} {m a : Nat} : (encH l t k n x m a).length ≤ 16 + x.length := by
  have sz : ∀ k : Int, szK k ≤ 8 := fun k => by unfold szK; repeat' split
                                                all_goals omega
  have nb : ∀ a s n : Nat, s ≤ 8 → (numB a s n).length ≤ 15 := fun a s n hs => by
    rw [numB_len]
    by_cases c : s = 0
    · subst c; simp [gapN, Nat.mod_zero]
    · have := gapN_lt (a := a) (sz := s) (by omega); omega
  have n4 : ∀ a n, (numB a 4 n).length ≤ 7 := fun a n => by
    rw [numB_len]
    have := gapN_lt (a := a) (sz := 4) (by omega); omega
  unfold encH
  split
  · have := n4 a (x.length + 1); simp only [List.length_append, List.length_cons, List.length_nil]; omega
  split
  · have := n4 a m; omega
  split
  · simp
  split
  · have := nb a _ (lowK (tAt l (tAt l t).tg).kd n) (sz (tAt l (tAt l t).tg).kd); omega
  · have := nb a _ (lowK (tAt l t).kd n) (sz (tAt l t).kd); omega
mutual
theorem encV_len (l : List Ty) : ∀ (t : Int) (v : Vl) (a : Nat), (encV l t v a).length ≤ 16 * vGreat v
  | t, .mk k n x vs, a => by
    have h1 := @encH_len l t k n x vs.length a
    have h2 := encVs_len l (partT l t n vs.length) vs (a + (encH l t k n x vs.length a).length)
    simp only [encV, vGreat, List.length_append]
    omega
theorem encVs_len (l : List Ty) : ∀ (ps : List Int) (vs : List Vl) (a : Nat), (encVs l ps vs a).length ≤ 16 * vGreats vs
  | [], vs, a => by rw [encVs_nil]; simp
  | p :: ps, [], a => by rw [encVs_nil']; simp
  | p :: ps, v :: vs, a => by
    have h1 := encV_len l p v a
    have h2 := encVs_len l ps vs (a + (encV l p v a).length)
    simp only [encVs, vGreats, List.length_append]
    omega
end
/-- A value has some bytes. -/
theorem encV_pos {l : List Ty} (hv : TyV l) : ∀ (m : Nat) (v : Vl), SizeOf.sizeOf v < m → ∀ (t : Int) (a : Nat), 0 ≤ t → t < l.length → fitE l t v = 0 → 0 < (encV l t v a).length
  | 0, v, h, _, _, _, _, _ => by omega
  | m + 1, .mk k n x vs, hsz, t, a, h0, h1, f => by
    have F := fitE_0 f
    have hG := hv.tAt h0 h1
    have hkd := hG.kd
    rw [← F.kd] at hkd
    simp only [encV, List.length_append]
    by_cases c12 : k = 12 ∨ k = 13
    · have hpos : 0 < vs.length := by
        have := F.len
        rcases c12 with c | c
        · rw [partT_ar rfl (by rw [← F.kd]; exact c), List.length_replicate] at this
          have := (hG.bd (by simp [kBd, ← F.kd, c])).2.2 (by simp [kEl, ← F.kd, c])
          omega
        · rw [partT_st rfl (by rw [← F.kd]; exact c), List.length_map] at this
          have h2 := hG.items
          unfold itemsE at h2
          rw [if_pos (by simp [kNm, ← F.kd, c])] at h2
          split at h2
          · cases h2
          · omega
      have hin := partT_in hG n vs.length
      have hl := F.len
      have hi := F.its
      cases vs with
      | nil => simp at hpos
      | cons v vs =>
        cases hps : partT l t n (v :: vs).length with
        | nil => rw [hps] at hl; simp at hl
        | cons p ps =>
          rw [hps] at hin hi
          have a1 := fitEs_0 hi 0 (by simp) (by simp)
          simp only [List.getElem_cons_zero] at a1
          have hp0 := hin p List.mem_cons_self
          have := encV_pos hv m v (by simp only [Vl.mk.sizeOf_spec, List.cons.sizeOf_spec] at hsz; omega) p (a + (encH l t k n x (v :: vs).length a).length) hp0.1 (by omega) a1
          simp only [encVs, List.length_append]
          omega
    · suffices 0 < (encH l t k n x vs.length a).length by omega
      unfold encH
      split
      · simp only [List.length_append, List.length_cons]; omega
      split
      · rw [numB_len]; omega
      split
      · rename_i c
        have := szK_pos (hG.tag (by rw [← F.kd]; exact c))
        rw [numB_len]; omega
      · have : isNum (tAt l t).kd = true := by rw [← F.kd]; simp only [isNum, decide_eq_true_eq]; omega
        have := szK_pos this
        rw [numB_len]; omega
end Go.Proofs.Ytmjdkeonjflanaa

/- How many bytes values may have; plain. -/
namespace Go.Proofs.Ytmjdkeonjflanaa
set_option autoImplicit false
set_option linter.unusedVariables false
set_option linter.unusedSimpArgs false
/-- The end of a number; 513 is all that is beyond. -/
def nE (a sz : Nat) : Nat := min (a + gapN a sz + sz) 513
def stB (f : Int → Nat → Nat) (a : Nat) (p : Int) : Nat := if 513 ≤ a then 513 else f p a
def rowB (f : Int → Nat → Nat) (ps : List Int) (a : Nat) : Nat := ps.foldl (stB f) a
def unS (most : Bool) (f : Int → Nat → Nat) (a : Nat) (o : Nat × Bool) (i : It) : Nat × Bool :=
  if o.2 = false ∨ (most = true ∧ o.1 < stB f a i.ty) ∨ (most = false ∧ stB f a i.ty < o.1) then (stB f a i.ty, true) else o
/-- Has some tag no branch? -/
def openT (l : List Ty) (t : Int) : Bool := decide ((tAt l t).kd = 14) && !((tAt l t).its.getD ((tAt l t).its.length - 1) it0).rest &&
  (if (tAt l (tAt l t).tg).kd = 1 then decide ((tAt l t).its.length < 2) else if (tAt l (tAt l t).tg).kd = 9 then decide ((tAt l t).its.length < (tAt l (tAt l t).tg).its.length) else true)
def endB (l : List Ty) (most : Bool) : Nat → Int → Nat → Nat
  | 0, _, _ => 0
  | m + 1, t, a =>
    if (tAt l t).kd = 10 then min (nE a 4 + (1 + if most = true then (tAt l t).bd.toNat else 0)) 513
    else if (tAt l t).kd = 11 then (if most = true then rowB (endB l most m) (List.replicate (tAt l t).bd.toNat (tAt l t).el) (nE a 4) else nE a 4)
    else if (tAt l t).kd = 12 then rowB (endB l most m) (List.replicate (tAt l t).bd.toNat (tAt l t).el) a
    else if (tAt l t).kd = 13 then rowB (endB l most m) ((tAt l t).its.map (·.ty)) a
    else if (tAt l t).kd = 14 then ((tAt l t).its.foldl (unS most (endB l most m) (nE a (szK (tAt l (tAt l t).tg).kd))) (nE a (szK (tAt l (tAt l t).tg).kd), openT l t)).1
    else nE a (szK (tAt l t).kd)
section
variable {l : List Ty} {most : Bool} {m : Nat} {t : Int} {a : Nat}
theorem endB_tx (h : (tAt l t).kd = 10) : endB l most (m + 1) t a = min (nE a 4 + (1 + if most = true then (tAt l t).bd.toNat else 0)) 513 := by rw [endB, if_pos h]
theorem endB_sq (h : (tAt l t).kd = 11) : endB l most (m + 1) t a = if most = true then rowB (endB l most m) (List.replicate (tAt l t).bd.toNat (tAt l t).el) (nE a 4) else nE a 4 := by rw [endB, if_neg (by omega), if_pos h]
theorem endB_ar (h : (tAt l t).kd = 12) : endB l most (m + 1) t a = rowB (endB l most m) (List.replicate (tAt l t).bd.toNat (tAt l t).el) a := by rw [endB, if_neg (by omega), if_neg (by omega), if_pos h]
theorem endB_st (h : (tAt l t).kd = 13) : endB l most (m + 1) t a = rowB (endB l most m) ((tAt l t).its.map (·.ty)) a := by rw [endB, if_neg (by omega), if_neg (by omega), if_neg (by omega), if_pos h]
theorem endB_un (h : (tAt l t).kd = 14) : endB l most (m + 1) t a = ((tAt l t).its.foldl (unS most (endB l most m) (nE a (szK (tAt l (tAt l t).tg).kd))) (nE a (szK (tAt l (tAt l t).tg).kd), openT l t)).1 := by
  rw [endB, if_neg (by omega), if_neg (by omega), if_neg (by omega), if_neg (by omega), if_pos h]
theorem endB_no (h : (tAt l t).kd < 10 ∨ 14 < (tAt l t).kd) : endB l most (m + 1) t a = nE a (szK (tAt l t).kd) := by
  rw [endB, if_neg (by omega), if_neg (by omega), if_neg (by omega), if_neg (by omega), if_neg (by omega)]
end
theorem nE_ge (a sz : Nat) (h : a ≤ 513) : a ≤ nE a sz ∧ nE a sz ≤ 513 := by unfold nE; omega
theorem stB_ge {f : Int → Nat → Nat} {a : Nat} {p : Int} (hf : ∀ a, a ≤ 513 → a ≤ f p a ∧ f p a ≤ 513) (h : a ≤ 513) : a ≤ stB f a p ∧ stB f a p ≤ 513 := by
  unfold stB
  split
  · omega
  · exact hf a h
theorem rowB_ge {f : Int → Nat → Nat} : ∀ (ps : List Int) (a : Nat), (∀ p ∈ ps, ∀ a, a ≤ 513 → a ≤ f p a ∧ f p a ≤ 513) → a ≤ 513 → a ≤ rowB f ps a ∧ rowB f ps a ≤ 513
  | [], a, _, h => ⟨Nat.le_refl _, h⟩
  | p :: ps, a, hf, h => by
    have h1 := stB_ge (hf p List.mem_cons_self) h
    have h2 := rowB_ge ps (stB f a p) (fun q hq => hf q (List.mem_cons_of_mem _ hq)) h1.2
    simp only [rowB, List.foldl_cons] at h2 ⊢
    omega
theorem unS_in {most : Bool} {f : Int → Nat → Nat} {a : Nat} {o : Nat × Bool} {i : It} (ho : a ≤ o.1 ∧ o.1 ≤ 513) (hs : a ≤ stB f a i.ty ∧ stB f a i.ty ≤ 513) : a ≤ (unS most f a o i).1 ∧ (unS most f a o i).1 ≤ 513 := by
  unfold unS
  split
  · exact hs
  · exact ho
theorem un_in {most : Bool} {f : Int → Nat → Nat} {a : Nat} : ∀ (its : List It) (o : Nat × Bool), (∀ i ∈ its, a ≤ stB f a i.ty ∧ stB f a i.ty ≤ 513) → a ≤ o.1 ∧ o.1 ≤ 513 → a ≤ (its.foldl (unS most f a) o).1 ∧ (its.foldl (unS most f a) o).1 ≤ 513
  | [], o, _, h => h
  | i :: its, o, hs, h => un_in its _ (fun j hj => hs j (List.mem_cons_of_mem _ hj)) (unS_in h (hs i List.mem_cons_self))
theorem endB_ge {l : List Ty} (hv : TyV l) {most : Bool} : ∀ (m : Nat) (t : Int) (a : Nat), 0 ≤ t → t < l.length → t < m → a ≤ 513 → a ≤ endB l most m t a ∧ endB l most m t a ≤ 513
  | 0, t, a, h0, h1, hm, _ => by omega
  | m + 1, t, a, h0, h1, hm, ha => by
    have hG := hv.tAt h0 h1
    have hp := hG.parts
    have ih : ∀ p ∈ parts (tAt l t), ∀ a, a ≤ 513 → a ≤ endB l most m p a ∧ endB l most m p a ≤ 513 := fun p q a ha => by
      have := hp p q
      exact endB_ge hv m p a this.1 (by omega) (by omega) ha
    have n4 := nE_ge a 4 ha
    unfold endB
    split
    · omega
    split
    · rename_i c
      split
      · have := rowB_ge (List.replicate (tAt l t).bd.toNat (tAt l t).el) (nE a 4) (fun p q => by
          rw [List.eq_of_mem_replicate q]
          exact ih _ (by unfold parts; rw [show kEl (tAt l t).kd = true from by simp [kEl, c]]; simp)) n4.2
        omega
      · omega
    split
    · rename_i c
      exact rowB_ge (List.replicate (tAt l t).bd.toNat (tAt l t).el) a (fun p q => by
          rw [List.eq_of_mem_replicate q]
          exact ih _ (by unfold parts; rw [show kEl (tAt l t).kd = true from by simp [kEl, c]]; simp)) ha
    split
    · rename_i c
      exact rowB_ge _ a (fun p q => by
        obtain ⟨y, hy, rfl⟩ := List.mem_map.1 q
        exact ih _ (parts_item (.inl c) hy)) ha
    split
    · rename_i c
      have := nE_ge a (szK (tAt l (tAt l t).tg).kd) ha
      have := un_in (most := most) (f := endB l most m) (a := nE a (szK (tAt l (tAt l t).tg).kd)) (tAt l t).its (nE a (szK (tAt l (tAt l t).tg).kd), openT l t) (fun i hi => stB_ge (ih _ (parts_item (.inr c) hi)) this.2) ⟨Nat.le_refl _, this.2⟩
      omega
    · exact nE_ge a _ ha

/-! ### Between the bounds -/
structure Btw (b a c : Nat) : Prop where
  lo : b ≤ min a 513
  hi : min a 513 ≤ c
  c : c ≤ 513
theorem gap_mono {a b sz : Nat} (h : a ≤ b) (hs : sz = 1 ∨ sz = 2 ∨ sz = 4 ∨ sz = 8) : a + gapN a sz ≤ b + gapN b sz := by
  unfold gapN
  rcases hs with rfl | rfl | rfl | rfl <;> omega
theorem Btw.num {b a c sz : Nat} (h : Btw b a c) (hs : sz = 1 ∨ sz = 2 ∨ sz = 4 ∨ sz = 8) : Btw (nE b sz) (a + (gapN a sz + sz)) (nE c sz) := by
  obtain ⟨h1, h2, h3⟩ := h
  have m1 := gap_mono (a := b) (b := a) (by omega) hs
  unfold nE
  refine ⟨by omega, ?_, by omega⟩
  by_cases q : a ≤ 513
  · have m2 := gap_mono (a := a) (b := c) (by omega) hs
    omega
  · omega
theorem Btw.row {f g : Int → Nat → Nat} {l : List Ty} : ∀ (ps : List Int) (vs : List Vl) (b a c : Nat), (∀ (k : Nat) (h1 : k < ps.length) (h2 : k < vs.length), ∀ b a c, Btw b a c → Btw (f ps[k] b) (a + (encV l ps[k] vs[k] a).length) (g ps[k] c)) → ps.length = vs.length → Btw b a c →
    Btw (rowB f ps b) (a + (encVs l ps vs a).length) (rowB g ps c)
  | [], vs, b, a, c, _, hl, h => by rw [encVs_nil]; exact h
  | p :: ps, [], b, a, c, _, hl, h => by simp at hl
  | p :: ps, v :: vs, b, a, c, hf, hl, h => by
    have h0 := hf 0 (by simp) (by simp)
    simp only [List.getElem_cons_zero] at h0
    have step : Btw (stB f b p) (a + (encV l p v a).length) (stB g c p) := by
      have q := h0 b a c h
      obtain ⟨x1, x2, x3⟩ := h
      obtain ⟨q1, q2, q3⟩ := q
      refine ⟨?_, ?_, ?_⟩ <;> unfold stB <;> split <;> omega
    have := Btw.row ps vs _ _ _ (fun k h1 h2 => hf (k + 1) (by simpa using h1) (by simpa using h2)) (by simpa using hl) step
    simp only [encVs, List.length_append, rowB, List.foldl_cons] at this ⊢
    rw [Nat.add_assoc] at this
    exact this
theorem rowB_more {f : Int → Nat → Nat} (ps qs : List Int) (a : Nat) (hf : ∀ p ∈ qs, ∀ a, a ≤ 513 → a ≤ f p a ∧ f p a ≤ 513) (h : rowB f ps a ≤ 513) : rowB f ps a ≤ rowB f (ps ++ qs) a ∧ rowB f (ps ++ qs) a ≤ 513 := by
  have : rowB f (ps ++ qs) a = rowB f qs (rowB f ps a) := by simp [rowB]
  rw [this]
  exact rowB_ge qs _ hf h
/-- The least and the greatest of some. -/
theorem un_lo {f : Int → Nat → Nat} {a : Nat} : ∀ (its : List It) (o : Nat × Bool), (o.2 = true → (its.foldl (unS false f a) o).1 ≤ o.1) ∧ ∀ i ∈ its, (its.foldl (unS false f a) o).1 ≤ stB f a i.ty
  | [], o => ⟨fun _ => Nat.le_refl _, fun i h => by cases h⟩
  | i :: its, o => by
    obtain ⟨h1, h2⟩ := un_lo its (unS false f a o i) (f := f) (a := a)
    have h3 : (unS false f a o i).2 = true ∧ (o.2 = true → (unS false f a o i).1 ≤ o.1) ∧ (unS false f a o i).1 ≤ stB f a i.ty := by
      unfold unS
      split
      · rename_i q
        refine ⟨rfl, fun e => ?_, Nat.le_refl _⟩
        rcases q with q | ⟨q, _⟩ | ⟨_, q⟩
        · rw [e] at q; cases q
        · cases q
        · exact Nat.le_of_lt q
      · rename_i q
        refine ⟨?_, fun _ => Nat.le_refl _, ?_⟩
        · cases e : o.2
          · exact absurd (.inl e) q
          · rfl
        · apply Classical.byContradiction; intro e; exact q (.inr (.inr ⟨rfl, by omega⟩))
    simp only [List.foldl_cons]
    refine ⟨fun e => Nat.le_trans (h1 h3.1) (h3.2.1 e), fun j hj => ?_⟩
    rcases List.mem_cons.1 hj with rfl | hj
    · exact Nat.le_trans (h1 h3.1) h3.2.2
    · exact h2 j hj
theorem un_hi {f : Int → Nat → Nat} {a : Nat} : ∀ (its : List It) (o : Nat × Bool), (o.2 = true → o.1 ≤ (its.foldl (unS true f a) o).1) ∧ ∀ i ∈ its, stB f a i.ty ≤ (its.foldl (unS true f a) o).1
  | [], o => ⟨fun _ => Nat.le_refl _, fun i h => by cases h⟩
  | i :: its, o => by
    obtain ⟨h1, h2⟩ := un_hi its (unS true f a o i) (f := f) (a := a)
    have h3 : (unS true f a o i).2 = true ∧ (o.2 = true → o.1 ≤ (unS true f a o i).1) ∧ stB f a i.ty ≤ (unS true f a o i).1 := by
      unfold unS
      split
      · rename_i q
        refine ⟨rfl, fun e => ?_, Nat.le_refl _⟩
        rcases q with q | ⟨_, q⟩ | ⟨q, _⟩
        · rw [e] at q; cases q
        · exact Nat.le_of_lt q
        · cases q
      · rename_i q
        refine ⟨?_, fun _ => Nat.le_refl _, ?_⟩
        · cases e : o.2
          · exact absurd (.inl e) q
          · rfl
        · apply Classical.byContradiction; intro e; exact q (.inr (.inl ⟨rfl, by omega⟩))
    simp only [List.foldl_cons]
    refine ⟨fun e => Nat.le_trans (h3.2.1 e) (h1 h3.1), fun j hj => ?_⟩
    rcases List.mem_cons.1 hj with rfl | hj
    · exact Nat.le_trans h3.2.2 (h1 h3.1)
    · exact h2 j hj

/-! ### Tags without a branch -/
theorem nodup_le : ∀ (A B : List Nat), A.Nodup → (∀ x ∈ A, x ∈ B) → A.length ≤ B.length
  | [], B, _, _ => Nat.zero_le _
  | a :: A, B, hn, h => by
    have hn' := List.nodup_cons.1 hn
    have ha := h a List.mem_cons_self
    have := nodup_le A (B.erase a) hn'.2 fun x hx => by
      rw [List.mem_erase_of_ne (fun e => hn'.1 (by rw [← e]; exact hx))]
      exact h x (List.mem_cons_of_mem _ hx)
    rw [List.length_erase_of_mem ha] at this
    have : 0 < B.length := List.length_pos_of_mem ha
    simp only [List.length_cons]; omega
/-- What is known of a union's items, where none is for the rest. -/
theorem TyG.union {l : List Ty} {j : Nat} {t : Ty} (h : TyG l j t) (hk : t.kd = 14) (hr : ∀ x ∈ t.its, x.rest = false) : (t.its.map (·.num)).Nodup ∧ ∀ x ∈ t.its, mayT l t x.num = true := by
  have h1 := h.items
  unfold itemsE at h1
  rw [if_pos (by simp [kNm, hk])] at h1
  split at h1
  · cases h1
  split at h1
  · cases h1
  have key : ∀ (i : Nat) (hi : i < t.its.length), mayT l t t.its[i].num = true ∧ ∀ (k : Nat) (hk : k < t.its.length), k < i → t.its[k].num ≠ t.its[i].num := fun i hi => by
    have h2 := fst0_all h1 (itemE l t i) (List.mem_map.2 ⟨i, List.mem_range.2 hi, rfl⟩)
    unfold itemE at h2
    rw [getD_get hi] at h2
    simp only at h2
    split at h2
    rotate_left
    · cases h2
    split at h2
    · cases h2
    rw [if_neg (by omega)] at h2
    split at h2
    · rename_i q
      rw [hr _ (List.getElem_mem hi)] at q; cases q
    split at h2
    rotate_left
    · cases h2
    rename_i hm
    split at h2
    · cases h2
    rename_i q
    refine ⟨hm, fun k hk2 hki e => q ?_⟩
    rw [List.any_eq_true]
    refine ⟨t.its[k], ?_, by simpa using e⟩
    rw [List.mem_take_iff_getElem]
    exact ⟨k, by omega, rfl⟩
  refine ⟨?_, fun x hx => ?_⟩
  · unfold List.Nodup
    rw [List.pairwise_iff_getElem]
    intro i k hi hk2 hik
    simp only [List.getElem_map, ne_eq]
    exact (key k (by simpa using hk2)).2 i (by simpa using hi) hik
  · obtain ⟨i, hi, rfl⟩ := List.getElem_of_mem hx
    exact (key i hi).1
theorem open_of {l : List Ty} (hv : TyV l) {t : Int} (h0 : 0 ≤ t) (h1 : t < l.length) (hk : (tAt l t).kd = 14) {n : Nat} (hn : numT l (tAt l t).tg n = true) (hb : brIx l t n = none) : openT l t = true := by
  have hG := hv.tAt h0 h1
  unfold brIx at hb
  rw [if_pos ⟨h0, h1, hk⟩, Option.or_eq_none_iff] at hb
  obtain ⟨b1, b2⟩ := hb
  rw [List.findIdx?_eq_none_iff] at b1 b2
  have hr : ∀ x ∈ (tAt l t).its, x.rest = false := fun x hx => by simpa using b2 x hx
  have hnn : ∀ x ∈ (tAt l t).its, x.num ≠ n := fun x hx e => by
    have := b1 x hx
    rw [hr x hx] at this
    simp [e] at this
  obtain ⟨nd, may⟩ := hG.union hk hr
  have hpos : 0 < (tAt l t).its.length := by
    have h2 := hG.items
    unfold itemsE at h2
    rw [if_pos (by simp [kNm, hk])] at h2
    split at h2
    · cases h2
    · omega
  have ht := hG.parts _ (parts_tag hk)
  unfold openT
  rw [getD_get (by omega), hr _ (List.getElem_mem _)]
  simp only [hk, decide_true, Bool.not_false, Bool.and_self, Bool.true_and]
  have nd' : (n :: (tAt l t).its.map (·.num)).Nodup := List.nodup_cons.2 ⟨fun hm => by
    obtain ⟨x, hx, e⟩ := List.mem_map.1 hm
    exact hnn x hx e, nd⟩
  split
  · rename_i c1
    apply decide_eq_true
    have hm := numT_may hv ht.1 (by omega) hn
    have two : ∀ m, mayK (tAt l (tAt l t).tg).kd m = true → m ∈ [0, 1] := fun m hm => by
      rw [c1] at hm
      simp only [mayK, Bool.and_eq_true, Bool.or_eq_true, decide_eq_true_eq] at hm
      have : m = 0 ∨ m = 1 := by omega
      simp [this]
    have := nodup_le _ [0, 1] nd' fun x hx => by
      rcases List.mem_cons.1 hx with rfl | hx
      · exact two _ hm
      · obtain ⟨y, hy, rfl⟩ := List.mem_map.1 hx
        have q := may y hy
        unfold mayT at q
        rw [if_neg (by omega), if_neg (by omega)] at q
        exact two _ q
    simp only [List.length_cons, List.length_map, List.length_nil] at this
    omega
  split
  · rename_i c1 c9
    apply decide_eq_true
    have vals : ∀ m, (valIx l (tAt l t).tg m).isSome = true → m ∈ (tAt l (tAt l t).tg).its.map (·.num) := fun m hm => by
      unfold valIx at hm
      rw [if_pos ⟨ht.1, by omega, c9⟩] at hm
      obtain ⟨i, hi⟩ := Option.isSome_iff_exists.1 hm
      obtain ⟨hn, h2, _⟩ := find_some hi
      exact List.mem_map.2 ⟨_, List.getElem_mem hn, by simpa using h2⟩
    have := nodup_le _ ((tAt l (tAt l t).tg).its.map (·.num)) nd' fun x hx => by
      rcases List.mem_cons.1 hx with rfl | hx
      · unfold numT at hn
        rw [if_pos c9] at hn
        exact vals _ hn
      · obtain ⟨y, hy, rfl⟩ := List.mem_map.1 hx
        have q := may y hy
        unfold mayT at q
        rw [if_neg (by omega), if_pos c9] at q
        exact vals _ q
    simp only [List.length_cons, List.length_map] at this
    omega
  · rfl

/-- A value ends between the bounds of its type. -/
theorem endB_btw {l : List Ty} (hv : TyV l) : ∀ (m : Nat) (v : Vl) (t : Int), t < m → 0 ≤ t → t < l.length → fitE l t v = 0 → ∀ b a c, Btw b a c → Btw (endB l false m t b) (a + (encV l t v a).length) (endB l true m t c)
  | 0, v, t, hm, h0, _, _, _, _, _, _ => by omega
  | m + 1, .mk k n x vs, t, hm, h0, h1, hf, b, a, c, hB => by
    have F := fitE_0 hf
    have hG := hv.tAt h0 h1
    have hkd := hG.kd
    have hp := hG.parts
    have Z := F.kinds
    have hin := partT_in hG n vs.length
    have hlen := F.len
    have hitem : ∀ (k2 : Nat) (e1 : k2 < (partT l t n vs.length).length) (e2 : k2 < vs.length), ∀ b a c, Btw b a c → Btw (endB l false m (partT l t n vs.length)[k2] b) (a + (encV l (partT l t n vs.length)[k2] vs[k2] a).length) (endB l true m (partT l t n vs.length)[k2] c) := fun k2 e1 e2 b a c q => by
      have := hin _ (List.getElem_mem e1)
      exact endB_btw hv m vs[k2] _ (by omega) this.1 (by omega) (fitEs_0 F.its k2 e1 e2) b a c q
    have hge : ∀ (most : Bool) (p : Int), p ∈ parts (tAt l t) → ∀ a, a ≤ 513 → a ≤ endB l most m p a ∧ endB l most m p a ≤ 513 := fun most p q a ha => by
      have := hp p q
      exact endB_ge hv m p a this.1 (by omega) (by omega) ha
    have b4 := hB.num (sz := 4) (by omega)
    rw [← F.kd] at hkd
    have hk := F.kd
    simp only [encV, List.length_append]
    by_cases c10 : k = 10
    · have e1 := Z.2.2 (by omega)
      subst e1
      have hx := F.tx
      have hbd := hG.bd (by simp [kBd, ← hk, c10])
      rw [endB_tx (by omega), endB_tx (by omega), encVs_nil', encH, if_pos c10]
      simp only [List.length_append, numB_len, List.length_cons, List.length_nil, Bool.false_eq_true, if_false, if_true]
      obtain ⟨q1, q2, q3⟩ := b4
      refine ⟨by omega, by omega, by omega⟩
    by_cases c11 : k = 11
    · have hx := F.sq
      have hbd := hG.bd (by simp [kBd, ← hk, c11])
      have epe : (tAt l t).el ∈ parts (tAt l t) := by unfold parts; rw [show kEl (tAt l t).kd = true from by simp [kEl, ← hk, c11]]; simp
      rw [encH, if_neg c10, if_pos c11, numB_len]
      have r := Btw.row (f := endB l false m) (g := endB l true m) (l := l) _ vs _ _ _ hitem hlen b4
      rw [partT_el rfl (by omega)] at r ⊢
      have : ∃ d, (tAt l t).bd.toNat = vs.length + d := ⟨(tAt l t).bd.toNat - vs.length, by omega⟩
      obtain ⟨d, hd⟩ := this
      have mo := rowB_more (f := endB l true m) (List.replicate vs.length (tAt l t).el) (List.replicate d (tAt l t).el) (nE c 4) (fun p q => by
        rw [List.eq_of_mem_replicate q]; exact hge true _ epe) r.c
      rw [List.replicate_append_replicate, ← hd] at mo
      rw [endB_sq (by omega), endB_sq (by omega)]
      simp only [Bool.false_eq_true, if_false, if_true]
      obtain ⟨q1, q2, q3⟩ := b4
      obtain ⟨p1, p2, p3⟩ := r
      refine ⟨by omega, by omega, by omega⟩
    by_cases c12 : k = 12
    · have r := Btw.row (f := endB l false m) (g := endB l true m) (l := l) _ vs _ _ _ hitem hlen hB
      rw [partT_ar rfl (by omega)] at r ⊢
      rw [endB_ar (by omega), endB_ar (by omega), encH, if_neg c10, if_neg c11, if_pos (.inl c12)]
      simpa using r
    by_cases c13 : k = 13
    · have r := Btw.row (f := endB l false m) (g := endB l true m) (l := l) _ vs _ _ _ hitem hlen hB
      rw [partT_st rfl (by omega)] at r ⊢
      rw [endB_st (by omega), endB_st (by omega), encH, if_neg c10, if_neg c11, if_pos (.inr c13)]
      simpa using r
    by_cases c14 : k = 14
    · have hn : numT l (tAt l t).tg n = true := by
        cases e : numT l (tAt l t).tg n
        · exact absurd (.inr ⟨c14, e⟩) F.num
        · rfl
      have hnum := szK_pos (hG.tag (by omega))
      have bs := hB.num hnum
      have r := Btw.row (f := endB l false m) (g := endB l true m) (l := l) _ vs _ _ _ hitem hlen bs
      rw [encH, if_neg c10, if_neg c11, if_neg (by omega), if_pos c14, numB_len]
      rw [endB_un (by omega), endB_un (by omega)]
      have hlo := un_lo (f := endB l false m) (a := nE b (szK (tAt l (tAt l t).tg).kd)) (tAt l t).its (nE b (szK (tAt l (tAt l t).tg).kd), openT l t)
      have hhi := un_hi (f := endB l true m) (a := nE c (szK (tAt l (tAt l t).tg).kd)) (tAt l t).its (nE c (szK (tAt l (tAt l t).tg).kd), openT l t)
      have hin2 := un_in (most := true) (f := endB l true m) (a := nE c (szK (tAt l (tAt l t).tg).kd)) (tAt l t).its (nE c (szK (tAt l (tAt l t).tg).kd), openT l t) (fun i hi => stB_ge (hge true _ (parts_item (.inr (by omega)) hi)) bs.c) ⟨Nat.le_refl _, bs.c⟩
      have hpt : partT l t n vs.length = (match brIx l t n with | some k => [((tAt l t).its.getD k it0).ty] | none => []) := by
        unfold partT
        rw [if_neg (by omega), if_neg (by omega), if_neg (by omega), if_pos (by omega)]
        cases brIx l t n <;> rfl
      cases hbr : brIx l t n with
      | none =>
        have ho := open_of hv h0 h1 (by omega) hn hbr
        rw [hbr] at hpt
        simp only at hpt
        rw [hpt, encVs_nil] at r ⊢
        obtain ⟨p1, p2, p3⟩ := bs
        have := hlo.1 ho
        have := hhi.1 ho
        simp only [List.length_nil, Nat.add_zero] at *
        refine ⟨by omega, by omega, by omega⟩
      | some j =>
        have hj := brIx_lt hbr
        rw [hbr] at hpt
        simp only [getD_get hj] at hpt
        rw [hpt] at r ⊢
        have a1 := hlo.2 _ (List.getElem_mem hj)
        have a2 := hhi.2 _ (List.getElem_mem hj)
        simp only [rowB, List.foldl_cons, List.foldl_nil] at r
        obtain ⟨p1, p2, p3⟩ := r
        rw [Nat.add_assoc] at p1 p2
        refine ⟨by omega, by omega, by omega⟩
    · have hnum : isNum (tAt l t).kd = true := by rw [← hk]; simp only [isNum, decide_eq_true_eq]; omega
      have e1 := Z.2.2 (by omega)
      subst e1
      rw [endB_no (by omega), endB_no (by omega), encVs_nil', encH, if_neg c10, if_neg c11, if_neg (by omega), if_neg c14, numB_len]
      exact hB.num (szK_pos hnum)
end Go.Proofs.Ytmjdkeonjflanaa

/- The kit's contracts of the library's functions, as contracts of this layer. -/
namespace Go.Proofs.Ytmjdkeonjflanaa
set_option autoImplicit false
open Go.RowKit

theorem hty_lt {h : Array Obj} {b : Nat} {t : Nat × TypeId} (q : hty h b = some t) : b < h.size := by
  unfold hty at q
  split at q
  · rename_i hx
    exact (Array.getElem?_eq_some_iff.1 hx).1
  · cases q
theorem Below.hty {w w' : World} (q : Below w.heap.size w w') (b : Nat) (t : Nat × TypeId) (h : hty w.heap b = some t) : Go.Proofs.Ytmjdkeonjflanaa.hty w'.heap b = some t := by
  have := q.block b (hty_lt h)
  unfold Go.Proofs.Ytmjdkeonjflanaa.hty at h ⊢
  rw [this]
  exact h
/-- A function of the library that leaves all that was there as it was. -/
theorem ACalls.below {P : Program} {f : Nat} {args : List AV} {v : AV} (hc : callable P f = true)
    (h : ∀ (w : World) (ρ : Loc) (Z : Nat → Prop) (xs : List Value), RlL w.heap ρ Z args xs → Calls P f xs.toArray w fun e w' => ∃ x, e = .returned x ∧ Rl w'.heap ρ Z v x ∧ Below w.heap.size w w') :
    ACalls P f args [] fun r _ => r = v := by
  refine ⟨hc, fun w ρ Z xs g hr => (h w ρ Z xs hr).mono fun e w' ⟨x, e1, e2, e3⟩ => ⟨x, v, [], ρ, Z, e1, ?_, e2, ?_, rfl⟩⟩
  · refine ⟨fun _ _ q => (by cases q), fun _ _ _ _ _ _ _ _ q => (by cases q), fun b ⟨_, _, _, q, _⟩ => (by cases q), fun b q => Nat.lt_of_lt_of_le (g.zlt b q) e3.size, g.ids, fun id b o q => ?_⟩
    obtain ⟨h1, m, h2⟩ := g.ty id b o q
    exact ⟨h1, m, Below.hty e3 b _ h2⟩
  · exact ⟨e3.size, fun b hb _ => e3.block b hb, fun b t q => Below.hty e3 b t q, fun _ q => q, fun _ q => .inl q, fun _ _ q => q, fun b ⟨_, _, _, q, _⟩ => (by cases q), e3.os, e3.output, e3.tape⟩
theorem RlL.two {h : Array Obj} {ρ : Loc} {Z : Nat → Prop} {a b : AV} {xs : List Value} (q : RlL h ρ Z [a, b] xs) : ∃ x y, xs = [x, y] ∧ Rl h ρ Z a x ∧ Rl h ρ Z b y := by
  obtain ⟨hl, hr⟩ := q
  match xs, hl with
  | [x, y], _ => exact ⟨x, y, rfl, hr 0 a x rfl rfl, hr 1 b y rfl rfl⟩
theorem RlL.one {h : Array Obj} {ρ : Loc} {Z : Nat → Prop} {a : AV} {xs : List Value} (q : RlL h ρ Z [a] xs) : ∃ x, xs = [x] ∧ Rl h ρ Z a x := by
  obtain ⟨hl, hr⟩ := q
  match xs, hl with
  | [x], _ => exact ⟨x, rfl, hr 0 a x rfl rfl⟩
theorem ACalls.sub {P : Program} {f : Nat} {args : List AV} {H H1 : AH} {v : AV} (h : ACalls P f args H fun r H' => r = v ∧ Sub H1 H') : ACalls P f args H fun r H' => r = v ∧ H' = H1 :=
  h.freeze fun r H' ⟨a, b⟩ => ⟨r, H1, b, .refl _, a, rfl⟩
theorem sub_hset {H H' : AH} {id : Nat} {b : Blk} (h1 : hget H' id = some b) (h2 : ∀ j c, j ≠ id → hget H j = some c → hget H' j = some c) : Sub (hset H id b) H' := fun j c q => by
  rw [hget_hset] at q
  split at q
  · rename_i e
    subst e
    cases hh : hget H j with
    | none => rw [hh] at q; cases q
    | some d => rw [hh] at q; simp only [Option.map_some, Option.some.injEq] at q; rw [← q]; exact h1
  · rename_i e; exact h2 j c e q

end Go.Proofs.Ytmjdkeonjflanaa

/- Each function's translation is, by reckoning, the abstract code that is written out here; its contract follows from the predicate transformer over that code. -/
namespace Go.Proofs.Ytmjdkeonjflanaa
set_option autoImplicit false
set_option maxRecDepth 100000
def put_Put.n : Nat := 8
noncomputable def put_Put.c : C := (.seq (.reg [⟨(some 5), none, (.box 26 (.t 2))⟩, ⟨(some 6), none, (.mv (.c (.str [])))⟩, ⟨(some 7), none, (.mv (.c (.int .i64 0)))⟩]) (.seq (.seq (.reg [⟨(some 10), none, (.mv (.t 0))⟩, ⟨(some 11), none, (.mv (.t 1))⟩, ⟨(some 12), none, (.load (some 4) (.t 5))⟩, ⟨(some 13), none, (.call 11 [(.t 10), (.t 11), (.t 12)])⟩, ⟨(some 8), none, (.mv (.t 13))⟩]) (.seq (.reg [⟨(some 14), none, (.mv (.t 8))⟩, ⟨(some 15), none, (.bin .neq (.t 14) (.c (.int .i64 0)))⟩]) (.cond (.t 15) (.seq (.reg [⟨(some 16), none, (.mv (.t 8))⟩, ⟨(some 6), none, (.mv (.c (.str [])))⟩, ⟨(some 7), none, (.mv (.t 16))⟩]) .ret) .skip))) (.seq (.reg [⟨(some 17), none, (.mv (.t 0))⟩, ⟨(some 18), none, (.mv (.t 1))⟩, ⟨(some 19), none, (.load (some 4) (.t 5))⟩, ⟨(some 20), none, (.call 15 [(.t 17), (.t 18), (.t 19), (.c (.int .i64 0))])⟩, ⟨(some 21), none, (.call 16 [(.t 20)])⟩, ⟨(some 9), none, (.mv (.t 21))⟩]) (.seq (.seq (.reg [⟨(some 22), none, (.mv (.t 9))⟩, ⟨(some 23), none, (.len true (.t 22))⟩, ⟨(some 24), none, (.bin .gtr (.t 23) (.c (.int .i64 512)))⟩]) (.cond (.t 24) (.seq (.reg [⟨(some 6), none, (.mv (.c (.str [])))⟩, ⟨(some 7), none, (.mv (.c (.int .i64 3)))⟩]) .ret) .skip)) (.seq (.reg [⟨(some 25), none, (.mv (.t 9))⟩, ⟨(some 6), none, (.mv (.t 25))⟩, ⟨(some 7), none, (.mv (.c (.int .i64 0)))⟩]) .ret)))))
theorem put_Put.code : comp PG [] (Try.f8.body.getD .skip) = put_Put.c := by kernel_rfl
theorem put_Put.of {args : List AV} {H : AH} {K : AV → AH → Prop} (hl : args.length = 3) (h : wpA PG put_Put.c none (endA [(.t 6), (.t 7)] K) (initFr args) H) : ACalls PG 8 args H K :=
  ACalls.of_code (fl := []) mixed Try.func8 (c := Try.f8.body.getD .skip) (by kernel_rfl) (by kernel_rfl) (by rw [hl]; exact of_decide_eq_true (by kernel_rfl)) (by rw [put_Put.code]; kernel_rfl)
    (by rw [put_Put.code, show compRes PG Try.f8.results.toList = [(.t 6), (.t 7)] from by kernel_rfl]; exact h)
def put_End.n : Nat := 10
noncomputable def put_End.c : C := (.seq (.reg [⟨(some 6), none, (.box 26 (.t 2))⟩, ⟨(some 8), none, (.mv (.c (.int .i64 0)))⟩, ⟨(some 9), none, (.mv (.c (.int .i64 0)))⟩]) (.seq (.seq (.reg [⟨(some 11), none, (.mv (.t 3))⟩, ⟨(some 12), none, (.bin .lss (.t 11) (.c (.int .i64 0)))⟩, ⟨(some 13), none, (.mv (.t 12))⟩, ⟨(some 14), (some (13, false)), (.mv (.t 3))⟩, ⟨(some 15), (some (13, false)), (.bin .gtr (.t 14) (.c (.int .i64 512)))⟩, ⟨(some 16), none, (.pick (.t 13) (.c (.bool true)) (.t 15))⟩]) (.cond (.t 16) (.seq (.reg [⟨(some 8), none, (.mv (.c (.int .i64 0)))⟩, ⟨(some 9), none, (.mv (.c (.int .i64 7)))⟩]) .ret) .skip)) (.seq (.seq (.reg [⟨(some 17), none, (.mv (.t 0))⟩, ⟨(some 18), none, (.mv (.t 1))⟩, ⟨(some 19), none, (.load (some 4) (.t 6))⟩, ⟨(some 20), none, (.call 11 [(.t 17), (.t 18), (.t 19)])⟩, ⟨(some 10), none, (.mv (.t 20))⟩]) (.seq (.reg [⟨(some 21), none, (.mv (.t 10))⟩, ⟨(some 22), none, (.bin .neq (.t 21) (.c (.int .i64 0)))⟩]) (.cond (.t 22) (.seq (.reg [⟨(some 23), none, (.mv (.t 10))⟩, ⟨(some 8), none, (.mv (.c (.int .i64 0)))⟩, ⟨(some 9), none, (.mv (.t 23))⟩]) .ret) .skip))) (.seq (.reg [⟨(some 24), none, (.mv (.t 0))⟩, ⟨(some 25), none, (.mv (.t 1))⟩, ⟨(some 26), none, (.load (some 4) (.t 6))⟩, ⟨(some 27), none, (.mv (.t 3))⟩, ⟨(some 28), none, (.call 15 [(.t 24), (.t 25), (.t 26), (.t 27)])⟩, ⟨(some 29), none, (.call 17 [(.t 28)])⟩, ⟨(some 8), none, (.mv (.t 29))⟩, ⟨(some 9), none, (.mv (.c (.int .i64 0)))⟩]) .ret))))
theorem put_End.code : comp PG [] (Try.f10.body.getD .skip) = put_End.c := by kernel_rfl
theorem put_End.of {args : List AV} {H : AH} {K : AV → AH → Prop} (hl : args.length = 4) (h : wpA PG put_End.c none (endA [(.t 8), (.t 9)] K) (initFr args) H) : ACalls PG 10 args H K :=
  ACalls.of_code (fl := []) mixed Try.func10 (c := Try.f10.body.getD .skip) (by kernel_rfl) (by kernel_rfl) (by rw [hl]; exact of_decide_eq_true (by kernel_rfl)) (by rw [put_End.code]; kernel_rfl)
    (by rw [put_End.code, show compRes PG Try.f10.results.toList = [(.t 8), (.t 9)] from by kernel_rfl]; exact h)
def bounds_Least.n : Nat := 12
noncomputable def bounds_Least.c : C := (.seq (.reg [⟨(some 6), none, (.mv (.c (.int .i64 0)))⟩]) (.seq (.reg [⟨(some 7), none, (.mv (.t 0))⟩, ⟨(some 8), none, (.mv (.t 1))⟩, ⟨(some 9), none, (.mv (.t 2))⟩, ⟨(some 10), none, (.call 20 [(.t 7), (.t 8), (.t 9), (.c (.bool false))])⟩, ⟨(some 6), none, (.mv (.t 10))⟩]) .ret))
theorem bounds_Least.code : comp PG [] (Try.f12.body.getD .skip) = bounds_Least.c := by kernel_rfl
theorem bounds_Least.of {args : List AV} {H : AH} {K : AV → AH → Prop} (hl : args.length = 3) (h : wpA PG bounds_Least.c none (endA [(.t 6)] K) (initFr args) H) : ACalls PG 12 args H K :=
  ACalls.of_code (fl := []) mixed Try.func12 (c := Try.f12.body.getD .skip) (by kernel_rfl) (by kernel_rfl) (by rw [hl]; exact of_decide_eq_true (by kernel_rfl)) (by rw [bounds_Least.code]; kernel_rfl)
    (by rw [bounds_Least.code, show compRes PG Try.f12.results.toList = [(.t 6)] from by kernel_rfl]; exact h)
def bounds_Most.n : Nat := 13
noncomputable def bounds_Most.c : C := (.seq (.reg [⟨(some 6), none, (.mv (.c (.int .i64 0)))⟩]) (.seq (.reg [⟨(some 7), none, (.mv (.t 0))⟩, ⟨(some 8), none, (.mv (.t 1))⟩, ⟨(some 9), none, (.mv (.t 2))⟩, ⟨(some 10), none, (.call 20 [(.t 7), (.t 8), (.t 9), (.c (.bool true))])⟩, ⟨(some 6), none, (.mv (.t 10))⟩]) .ret))
theorem bounds_Most.code : comp PG [] (Try.f13.body.getD .skip) = bounds_Most.c := by kernel_rfl
theorem bounds_Most.of {args : List AV} {H : AH} {K : AV → AH → Prop} (hl : args.length = 3) (h : wpA PG bounds_Most.c none (endA [(.t 6)] K) (initFr args) H) : ACalls PG 13 args H K :=
  ACalls.of_code (fl := []) mixed Try.func13 (c := Try.f13.body.getD .skip) (by kernel_rfl) (by kernel_rfl) (by rw [hl]; exact of_decide_eq_true (by kernel_rfl)) (by rw [bounds_Most.code]; kernel_rfl)
    (by rw [bounds_Most.code, show compRes PG Try.f13.results.toList = [(.t 6)] from by kernel_rfl]; exact h)
def put_behind.n : Nat := 15
noncomputable def put_behind.c : C := (.seq (.reg [⟨(some 6), none, (.box 26 (.t 2))⟩, ⟨(some 8), none, (.mv (.c .nilP))⟩]) (.seq (.reg [⟨(some 11), none, (.call 21 [])⟩, ⟨(some 9), none, (.mv (.t 11))⟩]) (.seq (.reg [⟨(some 12), none, (.mv (.t 9))⟩, ⟨(some 13), none, (.mv (.t 3))⟩, ⟨(some 14), none, (.call 23 [(.c (.str [0])), (.t 13)])⟩, ⟨(some 15), none, (.call 22 [(.t 12), (.t 14)])⟩]) (.seq (.reg [⟨(some 16), none, (.mv (.t 0))⟩, ⟨(some 17), none, (.mv (.t 9))⟩, ⟨(some 18), none, (.build [.nilS, .nilP] [(0, (1, (.t 16))), (1, (1, (.t 17)))])⟩, ⟨(some 19), none, (.box 60 (.t 18))⟩, ⟨(some 10), none, (.mv (.t 19))⟩]) (.seq (.reg [⟨(some 20), none, (.mv (.t 10))⟩, ⟨(some 21), none, (.mv (.t 1))⟩, ⟨(some 22), none, (.load (some 4) (.t 6))⟩, ⟨(some 23), none, (.call 24 [(.t 20), (.t 21), (.t 22)])⟩]) (.seq (.reg [⟨(some 24), none, (.mv (.t 9))⟩, ⟨(some 8), none, (.mv (.t 24))⟩]) .ret))))))
theorem put_behind.code : comp PG [] (Try.f15.body.getD .skip) = put_behind.c := by kernel_rfl
theorem put_behind.of {args : List AV} {H : AH} {K : AV → AH → Prop} (hl : args.length = 4) (h : wpA PG put_behind.c none (endA [(.t 8)] K) (initFr args) H) : ACalls PG 15 args H K :=
  ACalls.of_code (fl := []) mixed Try.func15 (c := Try.f15.body.getD .skip) (by kernel_rfl) (by kernel_rfl) (by rw [hl]; exact of_decide_eq_true (by kernel_rfl)) (by rw [put_behind.code]; kernel_rfl)
    (by rw [put_behind.code, show compRes PG Try.f15.results.toList = [(.t 8)] from by kernel_rfl]; exact h)
def align_Buf_Bytes.n : Nat := 16
noncomputable def align_Buf_Bytes.c : C := (.seq (.reg [⟨(some 2), none, (.mv (.c (.str [])))⟩]) (.seq (.seq (.reg [⟨(some 3), none, (.mv (.t 0))⟩, ⟨(some 4), none, (.ncmpP false (.t 3))⟩]) (.cond (.t 4) (.seq (.reg [⟨(some 2), none, (.mv (.c (.str [])))⟩]) .ret) .skip)) (.seq (.reg [⟨(some 5), none, (.mv (.t 0))⟩, ⟨(some 6), none, (.nilck (.t 5))⟩, ⟨(some 7), none, (.faddr 1 (.t 6))⟩, ⟨(some 8), none, (.call 25 [(.t 7)])⟩, ⟨(some 2), none, (.mv (.t 8))⟩]) .ret)))
theorem align_Buf_Bytes.code : comp PG [] (Try.f16.body.getD .skip) = align_Buf_Bytes.c := by kernel_rfl
theorem align_Buf_Bytes.of {args : List AV} {H : AH} {K : AV → AH → Prop} (hl : args.length = 1) (h : wpA PG align_Buf_Bytes.c none (endA [(.t 2)] K) (initFr args) H) : ACalls PG 16 args H K :=
  ACalls.of_code (fl := []) mixed Try.func16 (c := Try.f16.body.getD .skip) (by kernel_rfl) (by kernel_rfl) (by rw [hl]; exact of_decide_eq_true (by kernel_rfl)) (by rw [align_Buf_Bytes.code]; kernel_rfl)
    (by rw [align_Buf_Bytes.code, show compRes PG Try.f16.results.toList = [(.t 2)] from by kernel_rfl]; exact h)
def align_Buf_Len.n : Nat := 17
noncomputable def align_Buf_Len.c : C := (.seq (.reg [⟨(some 2), none, (.mv (.c (.int .i64 0)))⟩]) (.seq (.seq (.reg [⟨(some 3), none, (.mv (.t 0))⟩, ⟨(some 4), none, (.ncmpP false (.t 3))⟩]) (.cond (.t 4) (.seq (.reg [⟨(some 2), none, (.mv (.c (.int .i64 0)))⟩]) .ret) .skip)) (.seq (.reg [⟨(some 5), none, (.mv (.t 0))⟩, ⟨(some 6), none, (.nilck (.t 5))⟩, ⟨(some 7), none, (.faddr 0 (.t 6))⟩, ⟨(some 8), none, (.faddr 0 (.t 7))⟩, ⟨(some 9), none, (.load none (.t 8))⟩, ⟨(some 2), none, (.mv (.t 9))⟩]) .ret)))
theorem align_Buf_Len.code : comp PG [] (Try.f17.body.getD .skip) = align_Buf_Len.c := by kernel_rfl
theorem align_Buf_Len.of {args : List AV} {H : AH} {K : AV → AH → Prop} (hl : args.length = 1) (h : wpA PG align_Buf_Len.c none (endA [(.t 2)] K) (initFr args) H) : ACalls PG 17 args H K :=
  ACalls.of_code (fl := []) mixed Try.func17 (c := Try.f17.body.getD .skip) (by kernel_rfl) (by kernel_rfl) (by rw [hl]; exact of_decide_eq_true (by kernel_rfl)) (by rw [align_Buf_Len.code]; kernel_rfl)
    (by rw [align_Buf_Len.code, show compRes PG Try.f17.results.toList = [(.t 2)] from by kernel_rfl]; exact h)
def bounds_ends.n : Nat := 20
noncomputable def bounds_ends.c : C := (.seq (.reg [⟨(some 8), none, (.mv (.c (.int .i64 0)))⟩]) (.seq (.block 0 (.seq (.reg [⟨(some 10), none, (.mv (.t 1))⟩, ⟨(some 11), none, (.bin .lss (.t 10) (.c (.int .i64 0)))⟩, ⟨(some 12), none, (.mv (.t 11))⟩, ⟨(some 13), (some (12, false)), (.mv (.t 1))⟩, ⟨(some 14), (some (12, false)), (.mv (.t 0))⟩, ⟨(some 15), (some (12, false)), (.len false (.t 14))⟩, ⟨(some 16), (some (12, false)), (.bin .geq (.t 13) (.t 15))⟩, ⟨(some 17), none, (.pick (.t 12) (.c (.bool true)) (.t 16))⟩, ⟨(some 18), none, (.mv (.t 17))⟩, ⟨(some 19), (some (18, false)), (.mv (.t 0))⟩, ⟨(some 20), (some (18, false)), (.call 26 [(.t 19)])⟩, ⟨(some 21), (some (18, false)), (.field 0 none (.t 20))⟩, ⟨(some 22), (some (18, false)), (.bin .neq (.t 21) (.c (.int .i64 0)))⟩, ⟨(some 23), none, (.pick (.t 18) (.c (.bool true)) (.t 22))⟩, ⟨(some 9), none, (.mv (.t 23))⟩]) (.cond (.t 9) (.seq (.reg [⟨(some 8), none, (.mv (.c (.int .i64 (-1))))⟩]) .ret) (.seq (.reg [⟨(some 25), none, (.mv (.t 2))⟩, ⟨(some 26), none, (.bin .gtr (.t 25) (.c (.int .i64 512)))⟩, ⟨(some 24), none, (.mv (.t 26))⟩]) (.cond (.t 24) (.seq (.reg [⟨(some 8), none, (.mv (.c (.int .i64 513)))⟩]) .ret) .skip))))) (.seq (.reg [⟨(some 27), none, (.mv (.t 0))⟩, ⟨(some 28), none, (.mv (.t 3))⟩, ⟨(some 29), none, (.build [.nilS, (.bool false)] [(0, (1, (.t 27))), (1, (1, (.t 28)))])⟩, ⟨(some 30), none, (.mv (.t 1))⟩, ⟨(some 31), none, (.mv (.t 2))⟩, ⟨(some 32), none, (.mm true [(.t 31), (.c (.int .i64 0))])⟩, ⟨(some 33), none, (.call 37 [(.t 29), (.t 30), (.t 32)])⟩, ⟨(some 8), none, (.mv (.t 33))⟩]) .ret)))
theorem bounds_ends.code : comp PG [] (Try.f20.body.getD .skip) = bounds_ends.c := by kernel_rfl
theorem bounds_ends.of {args : List AV} {H : AH} {K : AV → AH → Prop} (hl : args.length = 4) (h : wpA PG bounds_ends.c none (endA [(.t 8)] K) (initFr args) H) : ACalls PG 20 args H K :=
  ACalls.of_code (fl := []) mixed Try.func20 (c := Try.f20.body.getD .skip) (by kernel_rfl) (by kernel_rfl) (by rw [hl]; exact of_decide_eq_true (by kernel_rfl)) (by rw [bounds_ends.code]; kernel_rfl)
    (by rw [bounds_ends.code, show compRes PG Try.f20.results.toList = [(.t 8)] from by kernel_rfl]; exact h)
def align_New.n : Nat := 21
noncomputable def align_New.c : C := (.seq (.reg [⟨(some 0), none, (.mv (.c .nilP))⟩]) (.seq (.reg [⟨(some 1), none, (.build [(.int .i64 0), .nilP, .nilS] [])⟩, ⟨(some 2), none, (.box 69 (.t 1))⟩, ⟨(some 0), none, (.mv (.t 2))⟩]) .ret))
theorem align_New.code : comp PG [] (Try.f21.body.getD .skip) = align_New.c := by kernel_rfl
theorem align_New.of {args : List AV} {H : AH} {K : AV → AH → Prop} (hl : args.length = 0) (h : wpA PG align_New.c none (endA [(.t 0)] K) (initFr args) H) : ACalls PG 21 args H K :=
  ACalls.of_code (fl := []) mixed Try.func21 (c := Try.f21.body.getD .skip) (by kernel_rfl) (by kernel_rfl) (by rw [hl]; exact of_decide_eq_true (by kernel_rfl)) (by rw [align_New.code]; kernel_rfl)
    (by rw [align_New.code, show compRes PG Try.f21.results.toList = [(.t 0)] from by kernel_rfl]; exact h)
def align_Buf_Text.n : Nat := 22
noncomputable def align_Buf_Text.c : C := (.seq (.reg [⟨(some 4), none, (.mv (.t 0))⟩, ⟨(some 5), none, (.ncmpP true (.t 4))⟩]) (.cond (.t 5) (.seq (.reg [⟨(some 6), none, (.mv (.t 0))⟩, ⟨(some 7), none, (.nilck (.t 6))⟩, ⟨(some 8), none, (.faddr 1 (.t 7))⟩, ⟨(some 9), none, (.mv (.t 1))⟩, ⟨(some 10), none, (.call 38 [(.t 8), (.t 9)])⟩]) (.reg [⟨(some 11), none, (.mv (.t 0))⟩, ⟨(some 12), none, (.nilck (.t 11))⟩, ⟨(some 13), none, (.faddr 0 (.t 12))⟩, ⟨(some 14), none, (.mv (.t 1))⟩, ⟨(some 15), none, (.len true (.t 14))⟩, ⟨(some 16), none, (.call 39 [(.t 13), (.t 15)])⟩])) .skip))
theorem align_Buf_Text.code : comp PG [] (Try.f22.body.getD .skip) = align_Buf_Text.c := by kernel_rfl
theorem align_Buf_Text.of {args : List AV} {H : AH} {K : AV → AH → Prop} (hl : args.length = 2) (h : wpA PG align_Buf_Text.c none (endA [] K) (initFr args) H) : ACalls PG 22 args H K :=
  ACalls.of_code (fl := []) mixed Try.func22 (c := Try.f22.body.getD .skip) (by kernel_rfl) (by kernel_rfl) (by rw [hl]; exact of_decide_eq_true (by kernel_rfl)) (by rw [align_Buf_Text.code]; kernel_rfl)
    (by rw [align_Buf_Text.code, show compRes PG Try.f22.results.toList = [] from by kernel_rfl]; exact h)
def put_putter_put.n : Nat := 24
noncomputable def put_putter_put.c : C := (.seq (.reg [⟨(some 5), none, (.box 26 (.t 2))⟩]) (.dreg [⟨(some 6), none, (.faddr 0 (.t 5))⟩, ⟨(some 7), none, (.load none (.t 6))⟩, ⟨(some 8), none, (.call 44 [(.t 7)])⟩, ⟨(some 9), none, (.mv (.t 0))⟩, ⟨(some 10), none, (.mv (.t 1))⟩, ⟨(some 11), none, (.load (some 4) (.t 5))⟩] [⟨(some 12), none, (.callv (.t 8) [(.t 9), (.t 10), (.t 11)])⟩]))
theorem put_putter_put.code : comp PG [] (Try.f24.body.getD .skip) = put_putter_put.c := by kernel_rfl
theorem put_putter_put.of {args : List AV} {H : AH} {K : AV → AH → Prop} (hl : args.length = 3) (h : wpA PG put_putter_put.c none (endA [] K) (initFr args) H) : ACalls PG 24 args H K :=
  ACalls.of_code (fl := []) mixed Try.func24 (c := Try.f24.body.getD .skip) (by kernel_rfl) (by kernel_rfl) (by rw [hl]; exact of_decide_eq_true (by kernel_rfl)) (by rw [put_putter_put.code]; kernel_rfl)
    (by rw [put_putter_put.code, show compRes PG Try.f24.results.toList = [] from by kernel_rfl]; exact h)
def bounds_walk_end.n : Nat := 37
noncomputable def bounds_walk_end.c : C := (.seq (.reg [⟨(some 3), none, (.box 82 (.t 0))⟩, ⟨(some 6), none, (.mv (.c (.int .i64 0)))⟩]) (.seq (.reg [⟨(some 11), none, (.faddr 0 (.t 3))⟩, ⟨(some 12), none, (.load none (.t 11))⟩, ⟨(some 13), none, (.mv (.t 1))⟩, ⟨(some 14), none, (.iaddr 6 (.t 12) (.t 13))⟩, ⟨(some 15), none, (.load (some 6) (.t 14))⟩, ⟨(some 7), none, (.allc 44 [(.int .i64 0), (.str []), (.int .i64 0), (.int .i64 0), (.int .i64 0), .nilS])⟩, ⟨none, none, (.store 6 (.t 7) (.t 15))⟩]) (.seq (.seq (.reg [⟨(some 16), none, (.faddr 0 (.t 7))⟩, ⟨(some 17), none, (.load none (.t 16))⟩]) (.block 0 (.seq (.reg [⟨(some 19), none, (.bin .eql (.t 17) (.c (.int .i64 10)))⟩, ⟨(some 18), none, (.mv (.t 19))⟩]) (.cond (.t 18) (.seq (.reg [⟨(some 8), none, (.mv (.c (.int .i64 1)))⟩]) (.seq (.seq (.reg [⟨(some 20), none, (.faddr 1 (.t 3))⟩, ⟨(some 21), none, (.load none (.t 20))⟩]) (.cond (.t 21) (.reg [⟨(some 22), none, (.mv (.t 8))⟩, ⟨(some 23), none, (.faddr 2 (.t 7))⟩, ⟨(some 24), none, (.load none (.t 23))⟩, ⟨(some 25), none, (.bin .add (.t 22) (.t 24))⟩, ⟨(some 8), none, (.mv (.t 25))⟩]) .skip)) (.seq (.reg [⟨(some 26), none, (.mv (.t 2))⟩, ⟨(some 27), none, (.call 57 [(.t 26), (.c (.int .i64 4))])⟩, ⟨(some 28), none, (.mv (.t 8))⟩, ⟨(some 29), none, (.bin .add (.t 27) (.t 28))⟩, ⟨(some 30), none, (.mm false [(.t 29), (.c (.int .i64 513))])⟩, ⟨(some 6), none, (.mv (.t 30))⟩]) .ret))) (.seq (.reg [⟨(some 32), none, (.bin .eql (.t 17) (.c (.int .i64 11)))⟩, ⟨(some 31), none, (.mv (.t 32))⟩]) (.cond (.t 31) (.seq (.reg [⟨(some 33), none, (.mv (.t 2))⟩, ⟨(some 34), none, (.call 57 [(.t 33), (.c (.int .i64 4))])⟩, ⟨(some 2), none, (.mv (.t 34))⟩]) (.seq (.seq (.reg [⟨(some 35), none, (.faddr 1 (.t 3))⟩, ⟨(some 36), none, (.load none (.t 35))⟩, ⟨(some 37), none, (.un .not (.t 36))⟩]) (.cond (.t 37) (.seq (.reg [⟨(some 38), none, (.mv (.t 2))⟩, ⟨(some 6), none, (.mv (.t 38))⟩]) .ret) .skip)) (.seq (.reg [⟨(some 39), none, (.load (some 2) (.t 3))⟩, ⟨(some 40), none, (.faddr 3 (.t 7))⟩, ⟨(some 41), none, (.load none (.t 40))⟩, ⟨(some 42), none, (.faddr 2 (.t 7))⟩, ⟨(some 43), none, (.load none (.t 42))⟩, ⟨(some 44), none, (.mv (.t 2))⟩, ⟨(some 45), none, (.call 58 [(.t 39), (.t 41), (.t 43), (.t 44)])⟩, ⟨(some 6), none, (.mv (.t 45))⟩]) .ret))) (.seq (.reg [⟨(some 47), none, (.bin .eql (.t 17) (.c (.int .i64 12)))⟩, ⟨(some 46), none, (.mv (.t 47))⟩]) (.cond (.t 46) (.seq (.reg [⟨(some 48), none, (.load (some 2) (.t 3))⟩, ⟨(some 49), none, (.faddr 3 (.t 7))⟩, ⟨(some 50), none, (.load none (.t 49))⟩, ⟨(some 51), none, (.faddr 2 (.t 7))⟩, ⟨(some 52), none, (.load none (.t 51))⟩, ⟨(some 53), none, (.mv (.t 2))⟩, ⟨(some 54), none, (.call 58 [(.t 48), (.t 50), (.t 52), (.t 53)])⟩, ⟨(some 6), none, (.mv (.t 54))⟩]) .ret) (.seq (.reg [⟨(some 56), none, (.bin .eql (.t 17) (.c (.int .i64 13)))⟩, ⟨(some 55), none, (.mv (.t 56))⟩]) (.cond (.t 55) (.seq (.seq (.reg [⟨(some 57), none, (.faddr 5 (.t 7))⟩, ⟨(some 58), none, (.load none (.t 57))⟩, ⟨(some 59), none, (.len false (.t 58))⟩, ⟨(some 60), none, (.mv (.c (.int .i64 0)))⟩]) (.block 1 (.loop (.seq (.reg [⟨(some 61), none, (.bin .lss (.t 60) (.t 59))⟩]) (.seq (.cond (.t 61) .skip (.exit 1)) (.seq (.block 2 (.seq (.reg [⟨(some 62), none, (.iaddr 5 (.t 58) (.t 60))⟩, ⟨(some 63), none, (.load (some 5) (.t 62))⟩, ⟨(some 10), none, (.allc 80 [(.str []), (.int .u64 0), (.int .i64 0), (.bool false), (.bool false)])⟩, ⟨none, none, (.store 5 (.t 10) (.t 63))⟩]) (.reg [⟨(some 64), none, (.load (some 2) (.t 3))⟩, ⟨(some 65), none, (.faddr 2 (.t 10))⟩, ⟨(some 66), none, (.load none (.t 65))⟩, ⟨(some 67), none, (.mv (.t 2))⟩, ⟨(some 68), none, (.call 58 [(.t 64), (.t 66), (.c (.int .i64 1)), (.t 67)])⟩, ⟨(some 2), none, (.mv (.t 68))⟩]))) (.reg [⟨(some 69), none, (.bin .add (.t 60) (.c (.int .i64 1)))⟩, ⟨(some 60), none, (.mv (.t 69))⟩]))))))) (.seq (.reg [⟨(some 70), none, (.mv (.t 2))⟩, ⟨(some 6), none, (.mv (.t 70))⟩]) .ret)) (.seq (.reg [⟨(some 72), none, (.bin .eql (.t 17) (.c (.int .i64 14)))⟩, ⟨(some 71), none, (.mv (.t 72))⟩]) (.cond (.t 71) (.seq (.reg [⟨(some 73), none, (.load (some 2) (.t 3))⟩, ⟨(some 74), none, (.mv (.t 1))⟩, ⟨(some 75), none, (.mv (.t 2))⟩, ⟨(some 76), none, (.call 59 [(.t 73), (.t 74), (.t 75)])⟩, ⟨(some 6), none, (.mv (.t 76))⟩]) .ret) .skip)))))))))))) (.seq (.reg [⟨(some 77), none, (.mv (.t 2))⟩, ⟨(some 78), none, (.faddr 0 (.t 7))⟩, ⟨(some 79), none, (.load none (.t 78))⟩, ⟨(some 80), none, (.call 60 [(.t 79)])⟩, ⟨(some 81), none, (.call 57 [(.t 77), (.t 80)])⟩, ⟨(some 6), none, (.mv (.t 81))⟩]) .ret))))
theorem bounds_walk_end.code : comp PG [] (Try.f37.body.getD .skip) = bounds_walk_end.c := by kernel_rfl
theorem bounds_walk_end.of {args : List AV} {H : AH} {K : AV → AH → Prop} (hl : args.length = 3) (h : wpA PG bounds_walk_end.c none (endA [(.t 6)] K) (initFr args) H) : ACalls PG 37 args H K :=
  ACalls.of_code (fl := []) mixed Try.func37 (c := Try.f37.body.getD .skip) (by kernel_rfl) (by kernel_rfl) (by rw [hl]; exact of_decide_eq_true (by kernel_rfl)) (by rw [bounds_walk_end.code]; kernel_rfl)
    (by rw [bounds_walk_end.code, show compRes PG Try.f37.results.toList = [(.t 6)] from by kernel_rfl]; exact h)
def align_place_move.n : Nat := 39
noncomputable def align_place_move.c : C := (.reg [⟨(some 4), none, (.mv (.t 0))⟩, ⟨(some 5), none, (.nilck (.t 4))⟩, ⟨(some 6), none, (.faddr 0 (.t 5))⟩, ⟨(some 7), none, (.load none (.t 6))⟩, ⟨(some 8), none, (.mv (.t 1))⟩, ⟨(some 9), none, (.bin .add (.t 7) (.t 8))⟩, ⟨(some 10), none, (.nilck (.t 4))⟩, ⟨(some 11), none, (.faddr 0 (.t 10))⟩, ⟨none, none, (.store 1 (.t 11) (.t 9))⟩])
theorem align_place_move.code : comp PG [] (Try.f39.body.getD .skip) = align_place_move.c := by kernel_rfl
theorem align_place_move.of {args : List AV} {H : AH} {K : AV → AH → Prop} (hl : args.length = 2) (h : wpA PG align_place_move.c none (endA [] K) (initFr args) H) : ACalls PG 39 args H K :=
  ACalls.of_code (fl := []) mixed Try.func39 (c := Try.f39.body.getD .skip) (by kernel_rfl) (by kernel_rfl) (by rw [hl]; exact of_decide_eq_true (by kernel_rfl)) (by rw [align_place_move.code]; kernel_rfl)
    (by rw [align_place_move.code, show compRes PG Try.f39.results.toList = [] from by kernel_rfl]; exact h)
def put_ways.n : Nat := 44
noncomputable def put_ways.c : C := (.seq (.reg [⟨(some 2), none, (.mv (.c .nilF))⟩]) (.seq (.seq (.reg [⟨(some 3), none, (.mv (.t 0))⟩]) (.block 0 (.seq (.reg [⟨(some 5), none, (.bin .eql (.t 3) (.c (.int .i64 10)))⟩, ⟨(some 4), none, (.mv (.t 5))⟩]) (.cond (.t 4) (.seq (.reg [⟨(some 2), none, (.mv (.c (.clo 66 [] [])))⟩]) .ret) (.seq (.reg [⟨(some 7), none, (.bin .eql (.t 3) (.c (.int .i64 11)))⟩, ⟨(some 6), none, (.mv (.t 7))⟩]) (.cond (.t 6) (.seq (.reg [⟨(some 2), none, (.mv (.c (.clo 67 [] [])))⟩]) .ret) (.seq (.reg [⟨(some 9), none, (.bin .eql (.t 3) (.c (.int .i64 12)))⟩, ⟨(some 8), none, (.mv (.t 9))⟩]) (.cond (.t 8) (.seq (.reg [⟨(some 2), none, (.mv (.c (.clo 68 [] [])))⟩]) .ret) (.seq (.reg [⟨(some 11), none, (.bin .eql (.t 3) (.c (.int .i64 13)))⟩, ⟨(some 10), none, (.mv (.t 11))⟩]) (.cond (.t 10) (.seq (.reg [⟨(some 2), none, (.mv (.c (.clo 69 [] [])))⟩]) .ret) (.seq (.reg [⟨(some 13), none, (.bin .eql (.t 3) (.c (.int .i64 14)))⟩, ⟨(some 12), none, (.mv (.t 13))⟩]) (.cond (.t 12) (.seq (.reg [⟨(some 2), none, (.mv (.c (.clo 70 [] [])))⟩]) .ret) .skip)))))))))))) (.seq (.reg [⟨(some 2), none, (.mv (.c (.clo 71 [] [])))⟩]) .ret)))
theorem put_ways.code : comp PG [] (Try.f44.body.getD .skip) = put_ways.c := by kernel_rfl
theorem put_ways.of {args : List AV} {H : AH} {K : AV → AH → Prop} (hl : args.length = 1) (h : wpA PG put_ways.c none (endA [(.t 2)] K) (initFr args) H) : ACalls PG 44 args H K :=
  ACalls.of_code (fl := []) mixed Try.func44 (c := Try.f44.body.getD .skip) (by kernel_rfl) (by kernel_rfl) (by rw [hl]; exact of_decide_eq_true (by kernel_rfl)) (by rw [put_ways.code]; kernel_rfl)
    (by rw [put_ways.code, show compRes PG Try.f44.results.toList = [(.t 2)] from by kernel_rfl]; exact h)
def bounds_number.n : Nat := 57
noncomputable def bounds_number.c : C := (.seq (.reg [⟨(some 4), none, (.mv (.c (.int .i64 0)))⟩]) (.seq (.reg [⟨(some 5), none, (.mv (.t 0))⟩, ⟨(some 6), none, (.mv (.t 0))⟩, ⟨(some 7), none, (.mv (.t 1))⟩, ⟨(some 8), none, (.call 85 [(.t 6), (.t 7)])⟩, ⟨(some 9), none, (.bin .add (.t 5) (.t 8))⟩, ⟨(some 10), none, (.mv (.t 1))⟩, ⟨(some 11), none, (.bin .add (.t 9) (.t 10))⟩, ⟨(some 12), none, (.mm false [(.t 11), (.c (.int .i64 513))])⟩, ⟨(some 4), none, (.mv (.t 12))⟩]) .ret))
theorem bounds_number.code : comp PG [] (Try.f57.body.getD .skip) = bounds_number.c := by kernel_rfl
theorem bounds_number.of {args : List AV} {H : AH} {K : AV → AH → Prop} (hl : args.length = 2) (h : wpA PG bounds_number.c none (endA [(.t 4)] K) (initFr args) H) : ACalls PG 57 args H K :=
  ACalls.of_code (fl := []) mixed Try.func57 (c := Try.f57.body.getD .skip) (by kernel_rfl) (by kernel_rfl) (by rw [hl]; exact of_decide_eq_true (by kernel_rfl)) (by rw [bounds_number.code]; kernel_rfl)
    (by rw [bounds_number.code, show compRes PG Try.f57.results.toList = [(.t 4)] from by kernel_rfl]; exact h)
def bounds_walk_row.n : Nat := 58
noncomputable def bounds_walk_row.c : C := (.seq (.reg [⟨(some 4), none, (.box 82 (.t 0))⟩, ⟨(some 8), none, (.mv (.c (.int .i64 0)))⟩]) (.seq (.seq (.reg [⟨(some 9), none, (.mv (.t 2))⟩, ⟨(some 10), none, (.mv (.c (.int .i64 0)))⟩]) (.block 0 (.loop (.seq (.reg [⟨(some 11), none, (.bin .lss (.t 10) (.t 9))⟩]) (.seq (.cond (.t 11) .skip (.exit 0)) (.seq (.block 1 (.seq (.seq (.reg [⟨(some 12), none, (.mv (.t 3))⟩, ⟨(some 13), none, (.bin .geq (.t 12) (.c (.int .i64 513)))⟩]) (.cond (.t 13) (.seq (.reg [⟨(some 8), none, (.mv (.c (.int .i64 513)))⟩]) .ret) .skip)) (.reg [⟨(some 14), none, (.load (some 2) (.t 4))⟩, ⟨(some 15), none, (.mv (.t 1))⟩, ⟨(some 16), none, (.mv (.t 3))⟩, ⟨(some 17), none, (.call 37 [(.t 14), (.t 15), (.t 16)])⟩, ⟨(some 3), none, (.mv (.t 17))⟩]))) (.reg [⟨(some 18), none, (.bin .add (.t 10) (.c (.int .i64 1)))⟩, ⟨(some 10), none, (.mv (.t 18))⟩]))))))) (.seq (.reg [⟨(some 19), none, (.mv (.t 3))⟩, ⟨(some 8), none, (.mv (.t 19))⟩]) .ret)))
theorem bounds_walk_row.code : comp PG [] (Try.f58.body.getD .skip) = bounds_walk_row.c := by kernel_rfl
theorem bounds_walk_row.of {args : List AV} {H : AH} {K : AV → AH → Prop} (hl : args.length = 4) (h : wpA PG bounds_walk_row.c none (endA [(.t 8)] K) (initFr args) H) : ACalls PG 58 args H K :=
  ACalls.of_code (fl := []) mixed Try.func58 (c := Try.f58.body.getD .skip) (by kernel_rfl) (by kernel_rfl) (by rw [hl]; exact of_decide_eq_true (by kernel_rfl)) (by rw [bounds_walk_row.code]; kernel_rfl)
    (by rw [bounds_walk_row.code, show compRes PG Try.f58.results.toList = [(.t 8)] from by kernel_rfl]; exact h)
def bounds_walk_union.n : Nat := 59
noncomputable def bounds_walk_union.c : C := (.seq (.reg [⟨(some 3), none, (.box 82 (.t 0))⟩, ⟨(some 6), none, (.mv (.c (.int .i64 0)))⟩]) (.seq (.reg [⟨(some 13), none, (.faddr 0 (.t 3))⟩, ⟨(some 14), none, (.load none (.t 13))⟩, ⟨(some 15), none, (.mv (.t 1))⟩, ⟨(some 16), none, (.iaddr 6 (.t 14) (.t 15))⟩, ⟨(some 17), none, (.load (some 6) (.t 16))⟩, ⟨(some 7), none, (.allc 44 [(.int .i64 0), (.str []), (.int .i64 0), (.int .i64 0), (.int .i64 0), .nilS])⟩, ⟨none, none, (.store 6 (.t 7) (.t 17))⟩]) (.seq (.reg [⟨(some 18), none, (.mv (.t 2))⟩, ⟨(some 19), none, (.faddr 0 (.t 3))⟩, ⟨(some 20), none, (.load none (.t 19))⟩, ⟨(some 21), none, (.faddr 4 (.t 7))⟩, ⟨(some 22), none, (.load none (.t 21))⟩, ⟨(some 23), none, (.iaddr 6 (.t 20) (.t 22))⟩, ⟨(some 24), none, (.faddr 0 (.t 23))⟩, ⟨(some 25), none, (.load none (.t 24))⟩, ⟨(some 26), none, (.call 60 [(.t 25)])⟩, ⟨(some 27), none, (.call 57 [(.t 18), (.t 26)])⟩, ⟨(some 2), none, (.mv (.t 27))⟩]) (.seq (.reg [⟨(some 28), none, (.mv (.t 2))⟩, ⟨(some 29), none, (.faddr 0 (.t 3))⟩, ⟨(some 30), none, (.load none (.t 29))⟩, ⟨(some 31), none, (.mv (.t 1))⟩, ⟨(some 32), none, (.call 86 [(.t 30), (.t 31)])⟩, ⟨(some 8), none, (.mv (.t 28))⟩, ⟨(some 9), none, (.mv (.t 32))⟩]) (.seq (.seq (.reg [⟨(some 33), none, (.faddr 5 (.t 7))⟩, ⟨(some 34), none, (.load none (.t 33))⟩, ⟨(some 35), none, (.len false (.t 34))⟩, ⟨(some 36), none, (.mv (.c (.int .i64 0)))⟩]) (.block 0 (.loop (.seq (.reg [⟨(some 37), none, (.bin .lss (.t 36) (.t 35))⟩]) (.seq (.cond (.t 37) .skip (.exit 0)) (.seq (.block 1 (.seq (.reg [⟨(some 38), none, (.iaddr 5 (.t 34) (.t 36))⟩, ⟨(some 39), none, (.load (some 5) (.t 38))⟩, ⟨(some 11), none, (.allc 80 [(.str []), (.int .u64 0), (.int .i64 0), (.bool false), (.bool false)])⟩, ⟨none, none, (.store 5 (.t 11) (.t 39))⟩]) (.seq (.reg [⟨(some 40), none, (.load (some 2) (.t 3))⟩, ⟨(some 41), none, (.faddr 2 (.t 11))⟩, ⟨(some 42), none, (.load none (.t 41))⟩, ⟨(some 43), none, (.mv (.t 2))⟩, ⟨(some 44), none, (.call 58 [(.t 40), (.t 42), (.c (.int .i64 1)), (.t 43)])⟩, ⟨(some 12), none, (.mv (.t 44))⟩]) (.seq (.reg [⟨(some 45), none, (.mv (.t 9))⟩, ⟨(some 46), none, (.un .not (.t 45))⟩, ⟨(some 47), none, (.mv (.t 46))⟩, ⟨(some 48), (some (47, false)), (.faddr 1 (.t 3))⟩, ⟨(some 49), (some (47, false)), (.load none (.t 48))⟩, ⟨(some 50), (some (47, false)), (.mv (.t 49))⟩, ⟨(some 51), (some (50, true)), (.mv (.t 12))⟩, ⟨(some 52), (some (50, true)), (.mv (.t 8))⟩, ⟨(some 53), (some (50, true)), (.bin .gtr (.t 51) (.t 52))⟩, ⟨(some 54), (some (47, false)), (.pick (.t 50) (.t 53) (.c (.bool false)))⟩, ⟨(some 55), none, (.pick (.t 47) (.c (.bool true)) (.t 54))⟩, ⟨(some 56), none, (.mv (.t 55))⟩, ⟨(some 57), (some (56, false)), (.faddr 1 (.t 3))⟩, ⟨(some 58), (some (56, false)), (.load none (.t 57))⟩, ⟨(some 59), (some (56, false)), (.un .not (.t 58))⟩, ⟨(some 60), (some (56, false)), (.mv (.t 59))⟩, ⟨(some 61), (some (60, true)), (.mv (.t 12))⟩, ⟨(some 62), (some (60, true)), (.mv (.t 8))⟩, ⟨(some 63), (some (60, true)), (.bin .lss (.t 61) (.t 62))⟩, ⟨(some 64), (some (56, false)), (.pick (.t 60) (.t 63) (.c (.bool false)))⟩, ⟨(some 65), none, (.pick (.t 56) (.c (.bool true)) (.t 64))⟩]) (.cond (.t 65) (.reg [⟨(some 66), none, (.mv (.t 12))⟩, ⟨(some 8), none, (.mv (.t 66))⟩, ⟨(some 9), none, (.mv (.c (.bool true)))⟩]) .skip))))) (.reg [⟨(some 67), none, (.bin .add (.t 36) (.c (.int .i64 1)))⟩, ⟨(some 36), none, (.mv (.t 67))⟩]))))))) (.seq (.reg [⟨(some 68), none, (.mv (.t 8))⟩, ⟨(some 6), none, (.mv (.t 68))⟩]) .ret))))))
theorem bounds_walk_union.code : comp PG [] (Try.f59.body.getD .skip) = bounds_walk_union.c := by kernel_rfl
theorem bounds_walk_union.of {args : List AV} {H : AH} {K : AV → AH → Prop} (hl : args.length = 3) (h : wpA PG bounds_walk_union.c none (endA [(.t 6)] K) (initFr args) H) : ACalls PG 59 args H K :=
  ACalls.of_code (fl := []) mixed Try.func59 (c := Try.f59.body.getD .skip) (by kernel_rfl) (by kernel_rfl) (by rw [hl]; exact of_decide_eq_true (by kernel_rfl)) (by rw [bounds_walk_union.code]; kernel_rfl)
    (by rw [bounds_walk_union.code, show compRes PG Try.f59.results.toList = [(.t 6)] from by kernel_rfl]; exact h)
def put_putter_text.n : Nat := 66
noncomputable def put_putter_text.c : C := (.seq (.reg [⟨(some 5), none, (.box 26 (.t 2))⟩]) (.seq (.dreg [⟨(some 6), none, (.mv (.t 0))⟩, ⟨(some 7), none, (.nilck (.t 6))⟩, ⟨(some 8), none, (.faddr 1 (.t 7))⟩, ⟨(some 9), none, (.load none (.t 8))⟩, ⟨(some 10), none, (.faddr 2 (.t 5))⟩, ⟨(some 11), none, (.load none (.t 10))⟩, ⟨(some 12), none, (.len true (.t 11))⟩, ⟨(some 13), none, (.bin .add (.t 12) (.c (.int .i64 1)))⟩, ⟨(some 14), none, (.conv .u64 (.t 13))⟩] [⟨(some 15), none, (.call 90 [(.t 9), (.t 14), (.c (.int .i64 4))])⟩]) (.dreg [⟨(some 16), none, (.mv (.t 0))⟩, ⟨(some 17), none, (.nilck (.t 16))⟩, ⟨(some 18), none, (.faddr 1 (.t 17))⟩, ⟨(some 19), none, (.load none (.t 18))⟩, ⟨(some 20), none, (.faddr 2 (.t 5))⟩, ⟨(some 21), none, (.load none (.t 20))⟩, ⟨(some 22), none, (.bin .add (.t 21) (.c (.str [0])))⟩] [⟨(some 23), none, (.call 22 [(.t 19), (.t 22)])⟩])))
theorem put_putter_text.code : comp PG [] (Try.f66.body.getD .skip) = put_putter_text.c := by kernel_rfl
theorem put_putter_text.of {args : List AV} {H : AH} {K : AV → AH → Prop} (hl : args.length = 3) (h : wpA PG put_putter_text.c none (endA [] K) (initFr args) H) : ACalls PG 66 args H K :=
  ACalls.of_code (fl := []) mixed Try.func66 (c := Try.f66.body.getD .skip) (by kernel_rfl) (by kernel_rfl) (by rw [hl]; exact of_decide_eq_true (by kernel_rfl)) (by rw [put_putter_text.code]; kernel_rfl)
    (by rw [put_putter_text.code, show compRes PG Try.f66.results.toList = [] from by kernel_rfl]; exact h)
def put_putter_seq.n : Nat := 67
noncomputable def put_putter_seq.c : C := (.seq (.reg [⟨(some 5), none, (.box 26 (.t 2))⟩]) (.seq (.dreg [⟨(some 6), none, (.mv (.t 0))⟩, ⟨(some 7), none, (.nilck (.t 6))⟩, ⟨(some 8), none, (.faddr 1 (.t 7))⟩, ⟨(some 9), none, (.load none (.t 8))⟩, ⟨(some 10), none, (.faddr 3 (.t 5))⟩, ⟨(some 11), none, (.load none (.t 10))⟩, ⟨(some 12), none, (.len false (.t 11))⟩, ⟨(some 13), none, (.conv .u64 (.t 12))⟩] [⟨(some 14), none, (.call 90 [(.t 9), (.t 13), (.c (.int .i64 4))])⟩]) (.reg [⟨(some 15), none, (.mv (.t 0))⟩, ⟨(some 16), none, (.mv (.t 1))⟩, ⟨(some 17), none, (.load (some 4) (.t 5))⟩, ⟨(some 18), none, (.call 68 [(.t 15), (.t 16), (.t 17)])⟩])))
theorem put_putter_seq.code : comp PG [] (Try.f67.body.getD .skip) = put_putter_seq.c := by kernel_rfl
theorem put_putter_seq.of {args : List AV} {H : AH} {K : AV → AH → Prop} (hl : args.length = 3) (h : wpA PG put_putter_seq.c none (endA [] K) (initFr args) H) : ACalls PG 67 args H K :=
  ACalls.of_code (fl := []) mixed Try.func67 (c := Try.f67.body.getD .skip) (by kernel_rfl) (by kernel_rfl) (by rw [hl]; exact of_decide_eq_true (by kernel_rfl)) (by rw [put_putter_seq.code]; kernel_rfl)
    (by rw [put_putter_seq.code, show compRes PG Try.f67.results.toList = [] from by kernel_rfl]; exact h)
def put_putter_array.n : Nat := 68
noncomputable def put_putter_array.c : C := (.seq (.reg [⟨(some 5), none, (.box 26 (.t 2))⟩]) (.seq (.reg [⟨(some 8), none, (.faddr 3 (.t 5))⟩, ⟨(some 9), none, (.load none (.t 8))⟩, ⟨(some 10), none, (.len false (.t 9))⟩, ⟨(some 11), none, (.mv (.c (.int .i64 0)))⟩]) (.block 0 (.loop (.seq (.reg [⟨(some 12), none, (.bin .lss (.t 11) (.t 10))⟩]) (.seq (.cond (.t 12) .skip (.exit 0)) (.seq (.block 1 (.seq (.reg [⟨(some 13), none, (.iaddr 4 (.t 9) (.t 11))⟩, ⟨(some 14), none, (.load (some 4) (.t 13))⟩, ⟨(some 7), none, (.allc 26 [(.int .i64 0), (.int .u64 0), (.str []), .nilS])⟩, ⟨none, none, (.store 4 (.t 7) (.t 14))⟩]) (.dreg [⟨(some 15), none, (.mv (.t 0))⟩, ⟨(some 16), none, (.mv (.t 0))⟩, ⟨(some 17), none, (.nilck (.t 16))⟩, ⟨(some 18), none, (.faddr 0 (.t 17))⟩, ⟨(some 19), none, (.load none (.t 18))⟩, ⟨(some 20), none, (.mv (.t 1))⟩, ⟨(some 21), none, (.iaddr 6 (.t 19) (.t 20))⟩, ⟨(some 22), none, (.faddr 3 (.t 21))⟩, ⟨(some 23), none, (.load none (.t 22))⟩, ⟨(some 24), none, (.load (some 4) (.t 7))⟩] [⟨(some 25), none, (.call 24 [(.t 15), (.t 23), (.t 24)])⟩]))) (.reg [⟨(some 26), none, (.bin .add (.t 11) (.c (.int .i64 1)))⟩, ⟨(some 11), none, (.mv (.t 26))⟩]))))))))
theorem put_putter_array.code : comp PG [] (Try.f68.body.getD .skip) = put_putter_array.c := by kernel_rfl
theorem put_putter_array.of {args : List AV} {H : AH} {K : AV → AH → Prop} (hl : args.length = 3) (h : wpA PG put_putter_array.c none (endA [] K) (initFr args) H) : ACalls PG 68 args H K :=
  ACalls.of_code (fl := []) mixed Try.func68 (c := Try.f68.body.getD .skip) (by kernel_rfl) (by kernel_rfl) (by rw [hl]; exact of_decide_eq_true (by kernel_rfl)) (by rw [put_putter_array.code]; kernel_rfl)
    (by rw [put_putter_array.code, show compRes PG Try.f68.results.toList = [] from by kernel_rfl]; exact h)
def put_putter_fields.n : Nat := 69
noncomputable def put_putter_fields.c : C := (.seq (.reg [⟨(some 5), none, (.box 26 (.t 2))⟩]) (.seq (.reg [⟨(some 8), none, (.faddr 3 (.t 5))⟩, ⟨(some 9), none, (.load none (.t 8))⟩, ⟨(some 10), none, (.len false (.t 9))⟩, ⟨(some 11), none, (.mv (.c (.int .i64 0)))⟩]) (.block 0 (.loop (.seq (.reg [⟨(some 12), none, (.bin .lss (.t 11) (.t 10))⟩]) (.seq (.cond (.t 12) .skip (.exit 0)) (.seq (.block 1 (.seq (.reg [⟨(some 13), none, (.mv (.t 11))⟩, ⟨(some 14), none, (.iaddr 4 (.t 9) (.t 11))⟩, ⟨(some 15), none, (.load (some 4) (.t 14))⟩, ⟨(some 7), none, (.allc 26 [(.int .i64 0), (.int .u64 0), (.str []), .nilS])⟩, ⟨(some 6), none, (.mv (.t 13))⟩, ⟨none, none, (.store 4 (.t 7) (.t 15))⟩]) (.dreg [⟨(some 16), none, (.mv (.t 0))⟩, ⟨(some 17), none, (.mv (.t 0))⟩, ⟨(some 18), none, (.nilck (.t 17))⟩, ⟨(some 19), none, (.faddr 0 (.t 18))⟩, ⟨(some 20), none, (.load none (.t 19))⟩, ⟨(some 21), none, (.mv (.t 1))⟩, ⟨(some 22), none, (.iaddr 6 (.t 20) (.t 21))⟩, ⟨(some 23), none, (.faddr 5 (.t 22))⟩, ⟨(some 24), none, (.load none (.t 23))⟩, ⟨(some 25), none, (.mv (.t 6))⟩, ⟨(some 26), none, (.iaddr 5 (.t 24) (.t 25))⟩, ⟨(some 27), none, (.faddr 2 (.t 26))⟩, ⟨(some 28), none, (.load none (.t 27))⟩, ⟨(some 29), none, (.load (some 4) (.t 7))⟩] [⟨(some 30), none, (.call 24 [(.t 16), (.t 28), (.t 29)])⟩]))) (.reg [⟨(some 31), none, (.bin .add (.t 11) (.c (.int .i64 1)))⟩, ⟨(some 11), none, (.mv (.t 31))⟩]))))))))
theorem put_putter_fields.code : comp PG [] (Try.f69.body.getD .skip) = put_putter_fields.c := by kernel_rfl
theorem put_putter_fields.of {args : List AV} {H : AH} {K : AV → AH → Prop} (hl : args.length = 3) (h : wpA PG put_putter_fields.c none (endA [] K) (initFr args) H) : ACalls PG 69 args H K :=
  ACalls.of_code (fl := []) mixed Try.func69 (c := Try.f69.body.getD .skip) (by kernel_rfl) (by kernel_rfl) (by rw [hl]; exact of_decide_eq_true (by kernel_rfl)) (by rw [put_putter_fields.code]; kernel_rfl)
    (by rw [put_putter_fields.code, show compRes PG Try.f69.results.toList = [] from by kernel_rfl]; exact h)
def put_putter_union.n : Nat := 70
noncomputable def put_putter_union.c : C := (.seq (.reg [⟨(some 5), none, (.box 26 (.t 2))⟩]) (.seq (.dreg [⟨(some 10), none, (.mv (.t 0))⟩, ⟨(some 11), none, (.mv (.t 0))⟩, ⟨(some 12), none, (.nilck (.t 11))⟩, ⟨(some 13), none, (.faddr 0 (.t 12))⟩, ⟨(some 14), none, (.load none (.t 13))⟩, ⟨(some 15), none, (.mv (.t 1))⟩, ⟨(some 16), none, (.iaddr 6 (.t 14) (.t 15))⟩, ⟨(some 17), none, (.faddr 4 (.t 16))⟩, ⟨(some 18), none, (.load none (.t 17))⟩, ⟨(some 19), none, (.load (some 4) (.t 5))⟩] [⟨(some 20), none, (.call 71 [(.t 10), (.t 18), (.t 19)])⟩]) (.seq (.reg [⟨(some 21), none, (.faddr 3 (.t 5))⟩, ⟨(some 22), none, (.load none (.t 21))⟩, ⟨(some 23), none, (.len false (.t 22))⟩, ⟨(some 24), none, (.mv (.c (.int .i64 0)))⟩]) (.block 0 (.loop (.seq (.reg [⟨(some 25), none, (.bin .lss (.t 24) (.t 23))⟩]) (.seq (.cond (.t 25) .skip (.exit 0)) (.seq (.block 1 (.seq (.reg [⟨(some 26), none, (.iaddr 4 (.t 22) (.t 24))⟩, ⟨(some 27), none, (.load (some 4) (.t 26))⟩, ⟨(some 7), none, (.allc 26 [(.int .i64 0), (.int .u64 0), (.str []), .nilS])⟩, ⟨none, none, (.store 4 (.t 7) (.t 27))⟩]) (.seq (.reg [⟨(some 28), none, (.mv (.t 0))⟩, ⟨(some 29), none, (.nilck (.t 28))⟩, ⟨(some 30), none, (.faddr 0 (.t 29))⟩, ⟨(some 31), none, (.load none (.t 30))⟩, ⟨(some 32), none, (.mv (.t 1))⟩, ⟨(some 33), none, (.iaddr 6 (.t 31) (.t 32))⟩, ⟨(some 34), none, (.faddr 5 (.t 33))⟩, ⟨(some 35), none, (.load none (.t 34))⟩, ⟨(some 36), none, (.len false (.t 35))⟩, ⟨(some 37), none, (.mv (.c (.int .i64 0)))⟩]) (.block 2 (.loop (.seq (.reg [⟨(some 38), none, (.bin .lss (.t 37) (.t 36))⟩]) (.seq (.cond (.t 38) .skip (.exit 2)) (.seq (.block 3 (.seq (.reg [⟨(some 39), none, (.iaddr 5 (.t 35) (.t 37))⟩, ⟨(some 40), none, (.load (some 5) (.t 39))⟩, ⟨(some 9), none, (.allc 80 [(.str []), (.int .u64 0), (.int .i64 0), (.bool false), (.bool false)])⟩, ⟨none, none, (.store 5 (.t 9) (.t 40))⟩]) (.seq (.reg [⟨(some 41), none, (.faddr 1 (.t 9))⟩, ⟨(some 42), none, (.load none (.t 41))⟩, ⟨(some 43), none, (.faddr 1 (.t 5))⟩, ⟨(some 44), none, (.load none (.t 43))⟩, ⟨(some 45), none, (.bin .eql (.t 42) (.t 44))⟩, ⟨(some 46), none, (.mv (.t 45))⟩, ⟨(some 47), (some (46, true)), (.faddr 4 (.t 9))⟩, ⟨(some 48), (some (46, true)), (.load none (.t 47))⟩, ⟨(some 49), (some (46, true)), (.un .not (.t 48))⟩, ⟨(some 50), none, (.pick (.t 46) (.t 49) (.c (.bool false)))⟩, ⟨(some 51), none, (.mv (.t 50))⟩, ⟨(some 52), (some (51, false)), (.faddr 4 (.t 9))⟩, ⟨(some 53), (some (51, false)), (.load none (.t 52))⟩, ⟨(some 54), none, (.pick (.t 51) (.c (.bool true)) (.t 53))⟩]) (.cond (.t 54) (.seq (.reg [⟨(some 55), none, (.mv (.t 0))⟩, ⟨(some 56), none, (.faddr 2 (.t 9))⟩, ⟨(some 57), none, (.load none (.t 56))⟩, ⟨(some 58), none, (.load (some 4) (.t 7))⟩, ⟨(some 59), none, (.call 24 [(.t 55), (.t 57), (.t 58)])⟩]) (.exit 2)) .skip)))) (.reg [⟨(some 60), none, (.bin .add (.t 37) (.c (.int .i64 1)))⟩, ⟨(some 37), none, (.mv (.t 60))⟩]))))))))) (.reg [⟨(some 61), none, (.bin .add (.t 24) (.c (.int .i64 1)))⟩, ⟨(some 24), none, (.mv (.t 61))⟩])))))))))
theorem put_putter_union.code : comp PG [] (Try.f70.body.getD .skip) = put_putter_union.c := by kernel_rfl
theorem put_putter_union.of {args : List AV} {H : AH} {K : AV → AH → Prop} (hl : args.length = 3) (h : wpA PG put_putter_union.c none (endA [] K) (initFr args) H) : ACalls PG 70 args H K :=
  ACalls.of_code (fl := []) mixed Try.func70 (c := Try.f70.body.getD .skip) (by kernel_rfl) (by kernel_rfl) (by rw [hl]; exact of_decide_eq_true (by kernel_rfl)) (by rw [put_putter_union.code]; kernel_rfl)
    (by rw [put_putter_union.code, show compRes PG Try.f70.results.toList = [] from by kernel_rfl]; exact h)
def put_putter_number.n : Nat := 71
noncomputable def put_putter_number.c : C := (.seq (.reg [⟨(some 5), none, (.box 26 (.t 2))⟩]) (.seq (.reg [⟨(some 7), none, (.mv (.t 0))⟩, ⟨(some 8), none, (.nilck (.t 7))⟩, ⟨(some 9), none, (.faddr 0 (.t 8))⟩, ⟨(some 10), none, (.load none (.t 9))⟩, ⟨(some 11), none, (.mv (.t 1))⟩, ⟨(some 12), none, (.iaddr 6 (.t 10) (.t 11))⟩, ⟨(some 13), none, (.faddr 0 (.t 12))⟩, ⟨(some 14), none, (.load none (.t 13))⟩, ⟨(some 6), none, (.mv (.t 14))⟩]) (.dreg [⟨(some 15), none, (.mv (.t 0))⟩, ⟨(some 16), none, (.nilck (.t 15))⟩, ⟨(some 17), none, (.faddr 1 (.t 16))⟩, ⟨(some 18), none, (.load none (.t 17))⟩, ⟨(some 19), none, (.mv (.t 6))⟩, ⟨(some 20), none, (.faddr 1 (.t 5))⟩, ⟨(some 21), none, (.load none (.t 20))⟩, ⟨(some 22), none, (.call 91 [(.t 19), (.t 21)])⟩, ⟨(some 23), none, (.mv (.t 6))⟩, ⟨(some 24), none, (.call 60 [(.t 23)])⟩] [⟨(some 25), none, (.call 90 [(.t 18), (.t 22), (.t 24)])⟩])))
theorem put_putter_number.code : comp PG [] (Try.f71.body.getD .skip) = put_putter_number.c := by kernel_rfl
theorem put_putter_number.of {args : List AV} {H : AH} {K : AV → AH → Prop} (hl : args.length = 3) (h : wpA PG put_putter_number.c none (endA [] K) (initFr args) H) : ACalls PG 71 args H K :=
  ACalls.of_code (fl := []) mixed Try.func71 (c := Try.f71.body.getD .skip) (by kernel_rfl) (by kernel_rfl) (by rw [hl]; exact of_decide_eq_true (by kernel_rfl)) (by rw [put_putter_number.code]; kernel_rfl)
    (by rw [put_putter_number.code, show compRes PG Try.f71.results.toList = [] from by kernel_rfl]; exact h)
def align_Gap.n : Nat := 85
noncomputable def align_Gap.c : C := (.seq (.reg [⟨(some 4), none, (.mv (.c (.int .i64 0)))⟩]) (.seq (.seq (.reg [⟨(some 5), none, (.mv (.t 1))⟩]) (.block 0 (.seq (.seq (.reg [⟨(some 7), none, (.bin .eql (.t 5) (.c (.int .i64 1)))⟩, ⟨(some 6), none, (.mv (.t 7))⟩]) (.cond (.t 6) .skip (.seq (.reg [⟨(some 8), none, (.bin .eql (.t 5) (.c (.int .i64 2)))⟩, ⟨(some 6), none, (.mv (.t 8))⟩]) (.cond (.t 6) .skip (.seq (.reg [⟨(some 9), none, (.bin .eql (.t 5) (.c (.int .i64 4)))⟩, ⟨(some 6), none, (.mv (.t 9))⟩]) (.cond (.t 6) .skip (.reg [⟨(some 10), none, (.bin .eql (.t 5) (.c (.int .i64 8)))⟩, ⟨(some 6), none, (.mv (.t 10))⟩]))))))) (.cond (.t 6) (.seq (.reg [⟨(some 11), none, (.mv (.t 0))⟩, ⟨(some 12), none, (.mm true [(.t 11), (.c (.int .i64 0))])⟩, ⟨(some 13), none, (.un .neg (.t 12))⟩, ⟨(some 14), none, (.mv (.t 1))⟩, ⟨(some 15), none, (.bin .sub (.t 14) (.c (.int .i64 1)))⟩, ⟨(some 16), none, (.bin .and (.t 13) (.t 15))⟩, ⟨(some 4), none, (.mv (.t 16))⟩]) .ret) .skip)))) (.seq (.reg [⟨(some 4), none, (.mv (.c (.int .i64 0)))⟩]) .ret)))
theorem align_Gap.code : comp PG [] (Try.f85.body.getD .skip) = align_Gap.c := by kernel_rfl
theorem align_Gap.of {args : List AV} {H : AH} {K : AV → AH → Prop} (hl : args.length = 2) (h : wpA PG align_Gap.c none (endA [(.t 4)] K) (initFr args) H) : ACalls PG 85 args H K :=
  ACalls.of_code (fl := []) mixed Try.func85 (c := Try.f85.body.getD .skip) (by kernel_rfl) (by kernel_rfl) (by rw [hl]; exact of_decide_eq_true (by kernel_rfl)) (by rw [align_Gap.code]; kernel_rfl)
    (by rw [align_Gap.code, show compRes PG Try.f85.results.toList = [(.t 4)] from by kernel_rfl]; exact h)
def bounds_Open.n : Nat := 86
noncomputable def bounds_Open.c : C := (.seq (.reg [⟨(some 4), none, (.mv (.c (.bool false)))⟩]) (.seq (.seq (.reg [⟨(some 7), none, (.mv (.t 1))⟩, ⟨(some 8), none, (.bin .lss (.t 7) (.c (.int .i64 0)))⟩, ⟨(some 9), none, (.mv (.t 8))⟩, ⟨(some 10), (some (9, false)), (.mv (.t 1))⟩, ⟨(some 11), (some (9, false)), (.mv (.t 0))⟩, ⟨(some 12), (some (9, false)), (.len false (.t 11))⟩, ⟨(some 13), (some (9, false)), (.bin .geq (.t 10) (.t 12))⟩, ⟨(some 14), none, (.pick (.t 9) (.c (.bool true)) (.t 13))⟩, ⟨(some 15), none, (.mv (.t 14))⟩, ⟨(some 16), (some (15, false)), (.mv (.t 0))⟩, ⟨(some 17), (some (15, false)), (.call 26 [(.t 16)])⟩, ⟨(some 18), (some (15, false)), (.field 0 none (.t 17))⟩, ⟨(some 19), (some (15, false)), (.bin .neq (.t 18) (.c (.int .i64 0)))⟩, ⟨(some 20), none, (.pick (.t 15) (.c (.bool true)) (.t 19))⟩, ⟨(some 21), none, (.mv (.t 20))⟩, ⟨(some 22), (some (21, false)), (.mv (.t 0))⟩, ⟨(some 23), (some (21, false)), (.mv (.t 1))⟩, ⟨(some 24), (some (21, false)), (.iaddr 6 (.t 22) (.t 23))⟩, ⟨(some 25), (some (21, false)), (.faddr 0 (.t 24))⟩, ⟨(some 26), (some (21, false)), (.load none (.t 25))⟩, ⟨(some 27), (some (21, false)), (.bin .neq (.t 26) (.c (.int .i64 14)))⟩, ⟨(some 28), none, (.pick (.t 21) (.c (.bool true)) (.t 27))⟩]) (.cond (.t 28) (.seq (.reg [⟨(some 4), none, (.mv (.c (.bool false)))⟩]) .ret) .skip)) (.seq (.reg [⟨(some 29), none, (.mv (.t 0))⟩, ⟨(some 30), none, (.mv (.t 1))⟩, ⟨(some 31), none, (.iaddr 6 (.t 29) (.t 30))⟩, ⟨(some 32), none, (.load (some 6) (.t 31))⟩, ⟨(some 5), none, (.allc 44 [(.int .i64 0), (.str []), (.int .i64 0), (.int .i64 0), (.int .i64 0), .nilS])⟩, ⟨none, none, (.store 6 (.t 5) (.t 32))⟩]) (.seq (.seq (.reg [⟨(some 33), none, (.faddr 5 (.t 5))⟩, ⟨(some 34), none, (.load none (.t 33))⟩, ⟨(some 35), none, (.faddr 5 (.t 5))⟩, ⟨(some 36), none, (.load none (.t 35))⟩, ⟨(some 37), none, (.len false (.t 36))⟩, ⟨(some 38), none, (.bin .sub (.t 37) (.c (.int .i64 1)))⟩, ⟨(some 39), none, (.iaddr 5 (.t 34) (.t 38))⟩, ⟨(some 40), none, (.faddr 4 (.t 39))⟩, ⟨(some 41), none, (.load none (.t 40))⟩]) (.cond (.t 41) (.seq (.reg [⟨(some 4), none, (.mv (.c (.bool false)))⟩]) .ret) .skip)) (.seq (.seq (.reg [⟨(some 42), none, (.mv (.t 0))⟩, ⟨(some 43), none, (.faddr 4 (.t 5))⟩, ⟨(some 44), none, (.load none (.t 43))⟩, ⟨(some 45), none, (.iaddr 6 (.t 42) (.t 44))⟩, ⟨(some 46), none, (.load (some 6) (.t 45))⟩, ⟨(some 6), none, (.allc 44 [(.int .i64 0), (.str []), (.int .i64 0), (.int .i64 0), (.int .i64 0), .nilS])⟩, ⟨none, none, (.store 6 (.t 6) (.t 46))⟩]) (.seq (.reg [⟨(some 47), none, (.faddr 0 (.t 6))⟩, ⟨(some 48), none, (.load none (.t 47))⟩]) (.block 0 (.seq (.reg [⟨(some 50), none, (.bin .eql (.t 48) (.c (.int .i64 1)))⟩, ⟨(some 49), none, (.mv (.t 50))⟩]) (.cond (.t 49) (.seq (.reg [⟨(some 51), none, (.faddr 5 (.t 5))⟩, ⟨(some 52), none, (.load none (.t 51))⟩, ⟨(some 53), none, (.len false (.t 52))⟩, ⟨(some 54), none, (.bin .lss (.t 53) (.c (.int .i64 2)))⟩, ⟨(some 4), none, (.mv (.t 54))⟩]) .ret) (.seq (.reg [⟨(some 56), none, (.bin .eql (.t 48) (.c (.int .i64 9)))⟩, ⟨(some 55), none, (.mv (.t 56))⟩]) (.cond (.t 55) (.seq (.reg [⟨(some 57), none, (.faddr 5 (.t 5))⟩, ⟨(some 58), none, (.load none (.t 57))⟩, ⟨(some 59), none, (.len false (.t 58))⟩, ⟨(some 60), none, (.faddr 5 (.t 6))⟩, ⟨(some 61), none, (.load none (.t 60))⟩, ⟨(some 62), none, (.len false (.t 61))⟩, ⟨(some 63), none, (.bin .lss (.t 59) (.t 62))⟩, ⟨(some 4), none, (.mv (.t 63))⟩]) .ret) .skip))))))) (.seq (.reg [⟨(some 4), none, (.mv (.c (.bool true)))⟩]) .ret))))))
theorem bounds_Open.code : comp PG [] (Try.f86.body.getD .skip) = bounds_Open.c := by kernel_rfl
theorem bounds_Open.of {args : List AV} {H : AH} {K : AV → AH → Prop} (hl : args.length = 2) (h : wpA PG bounds_Open.c none (endA [(.t 4)] K) (initFr args) H) : ACalls PG 86 args H K :=
  ACalls.of_code (fl := []) mixed Try.func86 (c := Try.f86.body.getD .skip) (by kernel_rfl) (by kernel_rfl) (by rw [hl]; exact of_decide_eq_true (by kernel_rfl)) (by rw [bounds_Open.code]; kernel_rfl)
    (by rw [bounds_Open.code, show compRes PG Try.f86.results.toList = [(.t 4)] from by kernel_rfl]; exact h)
def align_Buf_Put.n : Nat := 90
noncomputable def align_Buf_Put.c : C := (.seq (.reg [⟨(some 6), none, (.mv (.c (.int .i64 0)))⟩]) (.seq (.seq (.reg [⟨(some 9), none, (.mv (.t 0))⟩, ⟨(some 10), none, (.ncmpP false (.t 9))⟩]) (.cond (.t 10) (.seq (.reg [⟨(some 6), none, (.mv (.c (.int .i64 20)))⟩]) .ret) .skip)) (.seq (.reg [⟨(some 12), none, (.mv (.t 1))⟩, ⟨(some 13), none, (.mv (.t 2))⟩, ⟨(some 14), none, (.call 98 [(.t 12), (.t 13)])⟩, ⟨(some 11), none, (.mv (.t 14))⟩, ⟨(some 15), none, (.extr (.t 11) 0)⟩, ⟨(some 16), none, (.extr (.t 11) 1)⟩, ⟨(some 7), none, (.mv (.t 15))⟩, ⟨(some 8), none, (.mv (.t 16))⟩]) (.seq (.seq (.reg [⟨(some 17), none, (.mv (.t 8))⟩, ⟨(some 18), none, (.bin .neq (.t 17) (.c (.int .i64 0)))⟩]) (.cond (.t 18) (.seq (.reg [⟨(some 19), none, (.mv (.t 8))⟩, ⟨(some 6), none, (.mv (.t 19))⟩]) .ret) .skip)) (.seq (.reg [⟨(some 20), none, (.mv (.t 0))⟩, ⟨(some 21), none, (.mv (.t 0))⟩, ⟨(some 22), none, (.nilck (.t 21))⟩, ⟨(some 23), none, (.faddr 0 (.t 22))⟩, ⟨(some 24), none, (.mv (.t 2))⟩, ⟨(some 25), none, (.call 99 [(.t 23), (.t 24)])⟩, ⟨(some 26), none, (.call 23 [(.c (.str [0])), (.t 25)])⟩, ⟨(some 27), none, (.call 22 [(.t 20), (.t 26)])⟩]) (.seq (.reg [⟨(some 28), none, (.mv (.t 0))⟩, ⟨(some 29), none, (.mv (.t 7))⟩, ⟨(some 30), none, (.call 22 [(.t 28), (.t 29)])⟩]) (.seq (.reg [⟨(some 6), none, (.mv (.c (.int .i64 0)))⟩]) .ret)))))))
theorem align_Buf_Put.code : comp PG [] (Try.f90.body.getD .skip) = align_Buf_Put.c := by kernel_rfl
theorem align_Buf_Put.of {args : List AV} {H : AH} {K : AV → AH → Prop} (hl : args.length = 3) (h : wpA PG align_Buf_Put.c none (endA [(.t 6)] K) (initFr args) H) : ACalls PG 90 args H K :=
  ACalls.of_code (fl := []) mixed Try.func90 (c := Try.f90.body.getD .skip) (by kernel_rfl) (by kernel_rfl) (by rw [hl]; exact of_decide_eq_true (by kernel_rfl)) (by rw [align_Buf_Put.code]; kernel_rfl)
    (by rw [align_Buf_Put.code, show compRes PG Try.f90.results.toList = [(.t 6)] from by kernel_rfl]; exact h)
def align_place_gap.n : Nat := 99
noncomputable def align_place_gap.c : C := (.seq (.reg [⟨(some 4), none, (.mv (.c (.int .i64 0)))⟩]) (.seq (.reg [⟨(some 5), none, (.mv (.t 0))⟩, ⟨(some 6), none, (.nilck (.t 5))⟩, ⟨(some 7), none, (.faddr 0 (.t 6))⟩, ⟨(some 8), none, (.load none (.t 7))⟩, ⟨(some 9), none, (.mv (.t 1))⟩, ⟨(some 10), none, (.call 85 [(.t 8), (.t 9)])⟩, ⟨(some 4), none, (.mv (.t 10))⟩]) .ret))
theorem align_place_gap.code : comp PG [] (Try.f99.body.getD .skip) = align_place_gap.c := by kernel_rfl
theorem align_place_gap.of {args : List AV} {H : AH} {K : AV → AH → Prop} (hl : args.length = 2) (h : wpA PG align_place_gap.c none (endA [(.t 4)] K) (initFr args) H) : ACalls PG 99 args H K :=
  ACalls.of_code (fl := []) mixed Try.func99 (c := Try.f99.body.getD .skip) (by kernel_rfl) (by kernel_rfl) (by rw [hl]; exact of_decide_eq_true (by kernel_rfl)) (by rw [align_place_gap.code]; kernel_rfl)
    (by rw [align_place_gap.code, show compRes PG Try.f99.results.toList = [(.t 4)] from by kernel_rfl]; exact h)
end Go.Proofs.Ytmjdkeonjflanaa

/- Bits of numbers, as the layer reckons them. -/
namespace Go.Proofs.Ytmjdkeonjflanaa
set_option autoImplicit false
set_option linter.unusedSimpArgs false
theorem and_mask (x : Int) (b : Nat) (hb : b ≤ 8) : bitsV .and .i64 x ((2 ^ b - 1 : Nat) : Int) = ((x % 18446744073709551616).toNat % 2 ^ b : Nat) := by
  unfold bitsV
  have h2 : 2 ^ b ≤ 2 ^ 8 := Nat.pow_le_pow_right (by omega) hb
  have h3 := Nat.two_pow_pos b
  have e2 : (BitVec.ofInt 64 ((2 ^ b - 1 : Nat) : Int)).toNat = 2 ^ b - 1 := by
    rw [BitVec.toNat_ofInt]
    omega
  have e1 : (BitVec.ofInt 64 x).toNat = (x % 18446744073709551616).toNat := by
    rw [BitVec.toNat_ofInt]; rfl
  show IntKind.i64.wrap ((BitVec.ofInt 64 x &&& BitVec.ofInt 64 ((2 ^ b - 1 : Nat) : Int)).toNat : Int) = _
  rw [BitVec.toNat_and, e1, e2, Nat.and_two_pow_sub_one_eq_mod, wrap_i64]
  have := Nat.mod_lt (x % 18446744073709551616).toNat h3
  omega
theorem andNot_mask (n b : Nat) (hb : b ≤ 64) (hn : n < 2 ^ b) : bitsV .andNot .u64 (n : Int) ((2 ^ b - 1 : Nat) : Int) = 0 := by
  unfold bitsV
  have h2 : 2 ^ b ≤ 2 ^ 64 := Nat.pow_le_pow_right (by omega) hb
  have h3 := Nat.two_pow_pos b
  have e : BitVec.ofInt 64 (n : Int) &&& ~~~BitVec.ofInt 64 ((2 ^ b - 1 : Nat) : Int) = 0#64 := by
    apply BitVec.eq_of_getLsbD_eq
    intro i hi
    simp only [BitVec.getLsbD_and, BitVec.getLsbD_not, BitVec.getLsbD_zero, hi, decide_true, Bool.true_and]
    rw [BitVec.ofInt_natCast, BitVec.ofInt_natCast, BitVec.getLsbD_ofNat, BitVec.getLsbD_ofNat, Nat.testBit_two_pow_sub_one]
    by_cases h : i < b
    · simp [h]; intro q _; exact q
    · rw [Nat.testBit_lt_two_pow (Nat.lt_of_lt_of_le hn (Nat.pow_le_pow_right (by omega) (by omega)))]
      simp
  show IntKind.u64.wrap ((BitVec.ofInt 64 (n : Int) &&& ~~~BitVec.ofInt 64 ((2 ^ b - 1 : Nat) : Int)).toNat : Int) = 0
  rw [e]; rfl
theorem gap_and {a sz : Nat} (hs : sz = 1 ∨ sz = 2 ∨ sz = 4 ∨ sz = 8) (ha : a ≤ 140737488355328) : bitsV .and .i64 (IntKind.i64.wrap (0 - if true = true then max (a : Int) 0 else min (a : Int) 0)) ((sz : Nat) - 1 : Int) = (gapN a sz : Nat) := by
  rw [if_pos rfl, show max (a : Int) 0 = a from by omega, wrap_i64]
  unfold gapN
  rcases hs with rfl | rfl | rfl | rfl
  · have := and_mask (if (0 - (a : Int)) % 18446744073709551616 < 9223372036854775808 then (0 - (a : Int)) % 18446744073709551616 else (0 - (a : Int)) % 18446744073709551616 - 18446744073709551616) 0 (by omega)
    exact this.trans (by omega)
  · have := and_mask (if (0 - (a : Int)) % 18446744073709551616 < 9223372036854775808 then (0 - (a : Int)) % 18446744073709551616 else (0 - (a : Int)) % 18446744073709551616 - 18446744073709551616) 1 (by omega)
    exact this.trans (by omega)
  · have := and_mask (if (0 - (a : Int)) % 18446744073709551616 < 9223372036854775808 then (0 - (a : Int)) % 18446744073709551616 else (0 - (a : Int)) % 18446744073709551616 - 18446744073709551616) 2 (by omega)
    exact this.trans (by omega)
  · have := and_mask (if (0 - (a : Int)) % 18446744073709551616 < 9223372036854775808 then (0 - (a : Int)) % 18446744073709551616 else (0 - (a : Int)) % 18446744073709551616 - 18446744073709551616) 3 (by omega)
    exact this.trans (by omega)
end Go.Proofs.Ytmjdkeonjflanaa

/- The library's functions at this program, as the kit's contracts ask. -/
namespace Go.Proofs.Ytmjdkeonjflanaa
open Go.Shelf
set_option autoImplicit false
set_option maxRecDepth 100000
def Try.lays105_ren : Go.Shelf.Ren := ⟨fun
  | 105 => 23
  | 212 => 40
  | 99 => 41
  | 165 => 42
  | 166 => 38
  | 170 => 43
  | 169 => 25
  | 263 => 62
  | 264 => 63
  | 206 => 64
  | 240 => 61
  | 241 => 65
  | 276 => 88
  | 277 => 89
  | n => n, fun
  | 9 => 9
  | 3 => 3
  | 4 => 4
  | 20 => 20
  | 0 => 0
  | 46 => 89
  | 109 => 90
  | 5 => 5
  | 72 => 67
  | 76 => 86
  | 51 => 107
  | 146 => 108
  | 53 => 23
  | 148 => 110
  | 70 => 64
  | 37 => 65
  | 75 => 85
  | 127 => 96
  | 164 => 125
  | 80 => 48
  | n => n, fun
  | n => n⟩
theorem Try.lays105 : Go.Proofs.Lays.n105 Try.prog Try.lays105_ren :=
  { mixed := by kernel_rfl,
    f99 := Try.func41.trans (congrArg some (by kernel_rfl)),
    f105 := Try.func23.trans (congrArg some (by kernel_rfl)),
    f165 := Try.func42.trans (congrArg some (by kernel_rfl)),
    f166 := Try.func38.trans (congrArg some (by kernel_rfl)),
    f169 := Try.func25.trans (congrArg some (by kernel_rfl)),
    f170 := Try.func43.trans (congrArg some (by kernel_rfl)),
    f206 := Try.func64.trans (congrArg some (by kernel_rfl)),
    f212 := Try.func40.trans (congrArg some (by kernel_rfl)),
    f240 := Try.func61.trans (congrArg some (by kernel_rfl)),
    f241 := Try.func65.trans (congrArg some (by kernel_rfl)),
    f263 := Try.func62.trans (congrArg some (by kernel_rfl)),
    f264 := Try.func63.trans (congrArg some (by kernel_rfl)),
    f276 := Try.func88.trans (congrArg some (by kernel_rfl)),
    f277 := Try.func89.trans (congrArg some (by kernel_rfl)),
    t0 := Try.underlying0,
    a0 := Try.isAgg0,
    z0 := Try.sizeOf0,
    v0 := Try.zeroValue0,
    t3 := Try.underlying3,
    a3 := Try.isAgg3,
    z3 := Try.sizeOf3,
    v3 := Try.zeroValue3,
    t4 := Try.underlying4,
    a4 := Try.isAgg4,
    z4 := Try.sizeOf4,
    v4 := Try.zeroValue4,
    t5 := Try.underlying5,
    a5 := Try.isAgg5,
    z5 := Try.sizeOf5,
    v5 := Try.zeroValue5,
    t9 := Try.underlying9,
    a9 := Try.isAgg9,
    z9 := Try.sizeOf9,
    v9 := Try.zeroValue9,
    t20 := Try.underlying20,
    a20 := Try.isAgg20,
    z20 := Try.sizeOf20,
    v20 := Try.zeroValue20,
    t37 := Try.underlying65,
    a37 := Try.isAgg65,
    z37 := Try.sizeOf65,
    v37 := Try.zeroValue65,
    t46 := Try.underlying89,
    a46 := Try.isAgg89,
    z46 := Try.sizeOf89,
    v46 := Try.zeroValue89,
    t51 := Try.underlying107,
    a51 := Try.isAgg107,
    z51 := Try.sizeOf107,
    v51 := Try.zeroValue107,
    t53 := Try.underlying23,
    a53 := Try.isAgg23,
    z53 := Try.sizeOf23,
    v53 := Try.zeroValue23,
    t70 := Try.underlying64,
    a70 := Try.isAgg64,
    z70 := Try.sizeOf64,
    v70 := Try.zeroValue64,
    t72 := Try.underlying67,
    a72 := Try.isAgg67,
    z72 := Try.sizeOf67,
    v72 := Try.zeroValue67,
    t75 := Try.underlying85,
    a75 := Try.isAgg85,
    z75 := Try.sizeOf85,
    v75 := Try.zeroValue85,
    t76 := Try.underlying86,
    a76 := Try.isAgg86,
    z76 := Try.sizeOf86,
    v76 := Try.zeroValue86,
    t109 := Try.underlying90,
    a109 := Try.isAgg90,
    z109 := Try.sizeOf90,
    v109 := Try.zeroValue90,
    t127 := Try.underlying96,
    a127 := Try.isAgg96,
    z127 := Try.sizeOf96,
    v127 := Try.zeroValue96,
    t146 := Try.underlying108,
    a146 := Try.isAgg108,
    z146 := Try.sizeOf108,
    v146 := Try.zeroValue108,
    t148 := Try.underlying110,
    a148 := Try.isAgg110,
    z148 := Try.sizeOf110,
    v148 := Try.zeroValue110,
    t164 := Try.underlying125,
    a164 := Try.isAgg125,
    z164 := Try.sizeOf125,
    v164 := Try.zeroValue125 }
theorem Try.extra : Builder.Extra Try.prog Try.lays105_ren :=
  { sizeBuilder := by kernel_rfl,
    liesBuilder := by kernel_rfl,
    t5 := Try.underlying5,
    a5 := Try.isAgg5,
    z5 := Try.sizeOf5,
    v5 := Try.zeroValue5,
    infoByte := by kernel_rfl,
    cellsByte := by kernel_rfl,
    sizeByte := by kernel_rfl,
    neB5 := by decide }
end Go.Proofs.Ytmjdkeonjflanaa

/- strings.Repeat, by the kit's contract. -/
namespace Go.Proofs.Ytmjdkeonjflanaa
set_option autoImplicit false
theorem Repeat_spec (s : List UInt8) (n : Nat) (h : s.length * n ≤ 140737488355328) (hn : n ≤ 9223372036854775807) (H : AH) :
    ACalls PG strings_Repeat.n [.str s, .int .i64 (n : Nat)] H fun r H' => r = .str (Lib.repeatL s n) ∧ H' = H :=
  (ACalls.below (P := PG) (f := strings_Repeat.n) (args := [.str s, .int .i64 (n : Nat)]) (v := .str (Lib.repeatL s n)) (by kernel_rfl) fun w ρ Z xs hr => by
    obtain ⟨x, y, rfl, hx, hy⟩ := hr.two
    cases hx with
    | str _ b hb =>
      cases hy
      have hsz : b.size = s.length := by rw [← hb]; simp
      have := Any.strings_Repeat Try.lays105 Try.extra b n w hn (by rw [hsz]; exact h)
      rw [hb] at this
      refine Calls.mono this fun e w' ⟨h1, h2⟩ => ⟨_, h1, .str _ _ (by simp), h2⟩).frame H
end Go.Proofs.Ytmjdkeonjflanaa

/- Bytes that are put, one behind the other, walked. -/
namespace Go.Proofs.Ytmjdkeonjflanaa
set_option autoImplicit false
set_option linter.unusedSimpArgs false
set_option linter.unusedVariables false
--HSET
attribute [local irreducible] callA callP ACalls
theorem callF_at {P : Program} {f : Nat} {args : List AV} {H H1 : AH} {K : AV → AH → Prop} {r : AV} (h : ACalls P f args H fun r' H' => r' = r ∧ H' = H1) (k : K r H1) : callF P f args H K :=
  callF_of (h.mono fun r' H' ⟨a, b⟩ => by rw [a, b]; exact k)
abbrev tyBf : Nat := ty_align_Buf
def bRow (l : List UInt8) : List (List AV) := l.map fun c => [.int .u8 (c.toNat : Int)]
theorem bRow_len (l : List UInt8) : (bRow l).length = l.length := by simp [bRow]
theorem bRow_app (l m : List UInt8) : bRow (l ++ m) = bRow l ++ bRow m := by simp [bRow]
theorem bRow_bytes (l : List UInt8) : bytesA (bRow l) = some l := by
  induction l with
  | nil => rfl
  | cons c l ih =>
    have hc := c.toNat_lt
    show bytesA ([.int .u8 (c.toNat : Int)] :: bRow l) = _
    unfold bytesA
    rw [if_pos (by omega), ih]
    simp
theorem readS_str (H : AH) (s : List UInt8) : readS H true 1 (.str s) = some (bRow s) := rfl
theorem readS_part {H : AH} {id sz lo hi : Nat} {l : List (List AV)} (hg : hget H id = some (.rows sz l)) (h : hi ≤ l.length) : readS H false sz (.own id sz lo hi) = some ((l.take hi).drop lo) := by
  simp [readS, hg, h]

/-- What was put, and where it lies; a: the place that is told. -/
structure Bf (H : AH) (id : Nat) (ob : Option Nat) (a : Int) (l : List UInt8) : Prop where
  tg : tag id = tyBf
  blk : ∃ p v, hget H id = some (.rows 3 [[.int .i64 a, p, v]]) ∧ (p = .nilP ∨ p = .ptr id 3 0 1) ∧
    ((ob = none ∧ v = .nilS ∧ l = []) ∨ ∃ idb, ob = some idb ∧ v = .own idb 1 0 l.length ∧ hget H idb = some (.rows 1 (bRow l)) ∧ tag idb = ty_uint8 ∧ idb ≠ id)
/-- What else was there is there still. -/
structure Kp (H : AH) (id : Nat) (ob : Option Nat) (H' : AH) (ob' : Option Nat) : Prop where
  nw : ∀ i, ob' = some i → hget H i = none ∨ ob = some i
  kp : ∀ j b, j ≠ id → ob ≠ some j → hget H j = some b → hget H' j = some b
theorem Kp.ne {H : AH} {id : Nat} {ob : Option Nat} {H' : AH} {ob' : Option Nat} (h : Kp H id ob H' ob') {j : Nat} {b : Blk} (h2 : ob ≠ some j) (hg : hget H j = some b) : ob' ≠ some j := fun e => by
  rcases h.nw j e with q | q
  · rw [hg] at q; cases q
  · exact h2 q
theorem Kp.trans {H : AH} {id : Nat} {ob : Option Nat} {H1 : AH} {ob1 : Option Nat} {H2 : AH} {ob2 : Option Nat} (h : Kp H id ob H1 ob1) (k : Kp H1 id ob1 H2 ob2) (hid : hget H id ≠ none) (hi : ∀ i, ob2 = some i → i ≠ id) : Kp H id ob H2 ob2 where
  nw := fun i e => by
    cases q : hget H i with
    | none => exact .inl rfl
    | some b =>
      by_cases q2 : ob = some i
      · exact .inr q2
      · have h1 := h.kp i b (hi i e) q2 q
        rcases k.nw i e with q3 | q3
        · rw [h1] at q3; cases q3
        · exact absurd q3 (h.ne q2 q)
  kp := fun j b h1 h2 hg => k.kp j b h1 (h.ne h2 hg) (h.kp j b h1 h2 hg)
theorem Bf.has {H : AH} {id : Nat} {ob : Option Nat} {a : Int} {l : List UInt8} (h : Bf H id ob a l) : hget H id ≠ none := by
  obtain ⟨_, p, v, hg, _⟩ := h
  rw [hg]; simp
theorem Bf.ob {H : AH} {id : Nat} {ob : Option Nat} {a : Int} {l : List UInt8} (h : Bf H id ob a l) : ∀ i, ob = some i → i ≠ id := fun i e => by
  obtain ⟨_, p, v, _, _, hv⟩ := h
  rcases hv with ⟨q, _⟩ | ⟨idb, q, _, _, _, q2⟩
  · rw [q] at e; cases e
  · rw [q] at e; cases e; exact q2

theorem bf_copyCheck {id : Nat} {H : AH} {a : Int} {p v : AV} (hg : hget H id = some (.rows 3 [[.int .i64 a, p, v]])) (hp : p = .nilP ∨ p = .ptr id 3 0 1) (ht : tag id = tyBf) :
    ACalls PG strings_Builder_copyCheck.n [.ptr id 3 0 1] H fun r H' => r = .tup [] ∧ H' = hset H id (.rows 3 [[.int .i64 a, .ptr id 3 0 1, v]]) := by
  refine ACalls.sub (strings_Builder_copyCheck.of rfl (wpF_start ?_))
  rcases hp with rfl | rfl
  · (first | refine ah ?_ | exact ah0 | fail)
    refine ⟨⟨rfl, by simp⟩, rfl, ?_⟩
    (first | refine ah ?_ | exact ah0 | fail)
    exact Sub.refl _
  · (first | refine ah ?_ | exact ah0 | fail)
    exact sub_hset hg (fun j c _ q => q)
theorem bf_WriteString {id : Nat} {ob : Option Nat} {a : Int} {l s : List UInt8} {H : AH} (hb : Bf H id ob a l) (hl : l.length + s.length ≤ 140737488351232) :
    ACalls PG strings_Builder_WriteString.n [.ptr id 3 0 1, .str s] H fun r H' => r = .tup [.int .i64 (s.length : Nat), .nilI] ∧ ∃ ob', Bf H' id ob' a (l ++ s) ∧ Kp H id ob H' ob' := by
  obtain ⟨ht, p, v, hg, hp, hv⟩ := hb
  refine strings_Builder_WriteString.of rfl (wpF_start ?_)
  (first | refine ah ?_ | exact ah0 | fail)
  refine callF_at (bf_copyCheck hg hp ht) ?_
  have hg1 : hget (hset H id (.rows 3 [[.int .i64 a, .ptr id 3 0 1, v]])) id = some (.rows 3 [[.int .i64 a, .ptr id 3 0 1, v]]) := hget_set hg
  have hk1 : ∀ j b, j ≠ id → hget H j = some b → hget (hset H id (.rows 3 [[.int .i64 a, .ptr id 3 0 1, v]])) j = some b := fun j b q r => (hget_set_ne q).trans r
  have hf1 : ∀ j, j ≠ id → hget (hset H id (.rows 3 [[.int .i64 a, .ptr id 3 0 1, v]])) j = none → hget H j = none := fun j q r => (hget_set_ne q).symm.trans r
  generalize hset H id (.rows 3 [[.int .i64 a, .ptr id 3 0 1, v]]) = H1 at *
  rcases hv with ⟨rfl, rfl, rfl⟩ | ⟨idb, rfl, rfl, hgb, htb, hne⟩
  · (first | refine ah ?_ | exact ah0 | fail)
    refine ⟨bRow s, rfl, by rw [bRow_len]; omega, fun e => ?_, fun _ => ?_⟩
    · have hs : s = [] := by
        have := congrArg List.length e
        rw [bRow_len] at this
        exact List.eq_nil_of_length_eq_zero this
      subst hs
      (first | refine ah ?_ | exact ah0 | fail)
      refine ⟨none, ⟨ht, .ptr id 3 0 1, .nilS, hget_set hg1, .inr rfl, .inl ⟨rfl, rfl, rfl⟩⟩, ⟨fun i q => (by cases q), fun j b q _ r => (hget_set_ne q).trans (hk1 j b q r)⟩⟩
    · (first | refine ah ?_ | exact ah0 | fail)
      intro idn hidn htn
      have nn : idn ≠ id := hget_ne_of hidn hg1
      (first | refine ah ?_ | exact ah0 | fail)
      refine ⟨some idn, ⟨ht, .ptr id 3 0 1, .own idn 1 0 s.length, ?_, .inr rfl, .inr ⟨idn, rfl, rfl, ?_, htn, nn⟩⟩, ⟨fun i q => ?_, fun j b q _ r => ?_⟩⟩
      · rw [← bRow_len]; exact (hget_tail nn).trans (hget_set hg1)
      · exact hget_self
      · cases q; exact .inl (hf1 idn nn hidn)
      · exact (hget_tail (hget_ne_of hidn (hk1 j b q r))).trans ((hget_set_ne q).trans (hk1 j b q r))
  · have hgb1 := hk1 _ _ hne hgb
    have exs : ((bRow l).take l.length).drop 0 = bRow l := by rw [List.drop_zero, ← bRow_len, List.take_length]
    (first | refine ah ?_ | exact ah0 | fail)
    refine ⟨_, bRow s, (readS_part hgb1 (by rw [bRow_len]; exact Nat.le_refl _)).trans (congrArg some exs), rfl, rfl, rfl, htb, by rw [bRow_len, bRow_len]; omega, ?_⟩
    intro idn hidn htn
    have nn : idn ≠ id := hget_ne_of hidn hg1
    have nb : idn ≠ idb := hget_ne_of hidn hgb1
    (first | refine ah ?_ | exact ah0 | fail)
    have hg2 : hget (hdel H1 idb) id = some (.rows 3 [[.int .i64 a, .ptr id 3 0 1, .own idb 1 0 l.length]]) := (hget_del_ne hne.symm).trans hg1
    refine ⟨some idn, ⟨ht, .ptr id 3 0 1, .own idn 1 0 (l ++ s).length, ?_, .inr rfl, .inr ⟨idn, rfl, rfl, ?_, htn, nn⟩⟩, ⟨fun i q => ?_, fun j b q q2 r => ?_⟩⟩
    · refine (hget_tail nn).trans ((hget_set hg2).trans ?_)
      rw [List.length_append, bRow_len, bRow_len]
    · rw [bRow_app]; exact hget_self
    · cases q; exact .inl (hf1 idn nn hidn)
    · have qb : j ≠ idb := fun e => q2 (by rw [e])
      exact (hget_tail (hget_ne_of hidn (hk1 j b q r))).trans ((hget_set_ne q).trans ((hget_del_ne qb).trans (hk1 j b q r)))
theorem bf_String {id : Nat} {ob : Option Nat} {a : Int} {l : List UInt8} {H : AH} (hb : Bf H id ob a l) (hpos : 0 < l.length) (hl : l.length ≤ 140737488351232) :
    ACalls PG strings_Builder_String.n [.ptr id 3 0 1] H fun r H' => r = .str l := by
  obtain ⟨ht, p, v, hg, hp, hv⟩ := hb
  refine strings_Builder_String.of rfl (wpF_start ?_)
  rcases hv with ⟨rfl, rfl, rfl⟩ | ⟨idb, rfl, rfl, hgb, htb, hne⟩
  · cases hpos
  · (first | refine ah ?_ | exact ah0 | fail)
    refine ⟨_, l, hgb, ?_, rfl, rfl, rfl, by omega, by rw [bRow_len]; omega, by omega, htb, ?_⟩
    · rw [show (((l.length - 0 : Nat) : Int)).toNat = (bRow l).length from by rw [bRow_len]; omega, List.take_length, bRow_bytes]
    (first | refine ah ?_ | exact ah0 | fail)
theorem Gap_spec (a sz : Nat) (hs : sz = 1 ∨ sz = 2 ∨ sz = 4 ∨ sz = 8) (ha : a ≤ 140737488355328) (H : AH) : ACalls PG align_Gap.n [.int .i64 (a : Nat), .int .i64 (sz : Nat)] H fun r H' => r = .int .i64 (gapN a sz : Nat) ∧ H' = H := by
  have hg := gap_and hs ha
  refine ACalls.fz (align_Gap.of rfl (wpF_start ?_))
  rcases hs with rfl | rfl | rfl | rfl
  all_goals
    (first | refine ah ?_ | exact ah0 | fail)
    refine ⟨fz_eq (congrArg (AV.int .i64) hg), sub_of⟩
theorem Gap_no_spec (a sz : Int) (hs : ¬ (sz = 1 ∨ sz = 2 ∨ sz = 4 ∨ sz = 8)) (H : AH) : ACalls PG align_Gap.n [.int .i64 a, .int .i64 sz] H fun r H' => r = .int .i64 0 ∧ H' = H := by
  refine ACalls.fz (align_Gap.of rfl (wpF_start ?_))
  have h1 : sz ≠ 1 := by omega
  have h2 : sz ≠ 2 := by omega
  have h3 : sz ≠ 4 := by omega
  have h4 : sz ≠ 8 := by omega
  (first | refine ah ?_ | exact ah0 | fail)
  exact ⟨fz_of, sub_of⟩
theorem Bf.move {id : Nat} {ob : Option Nat} {a : Int} {l : List UInt8} {H : AH} (a' : Int) {p v : AV} (hg : hget H id = some (.rows 3 [[.int .i64 a, p, v]])) (hb : Bf H id ob a l) : Bf (hset H id (.rows 3 [[.int .i64 a', p, v]])) id ob a' l ∧ Kp H id ob (hset H id (.rows 3 [[.int .i64 a', p, v]])) ob := by
  obtain ⟨ht, p', v', hg', hp, hv⟩ := hb
  have e := hg.symm.trans hg'
  simp only [Option.some.injEq, Blk.rows.injEq, List.cons.injEq, AV.int.injEq, true_and, and_true] at e
  obtain ⟨e1, e2⟩ := e
  rw [← e1] at hp
  rw [← e2] at hv
  refine ⟨⟨ht, _, _, hget_set hg, hp, ?_⟩, ⟨fun i e => .inr e, fun j b q _ r => (hget_set_ne q).trans r⟩⟩
  rcases hv with hv | ⟨idb, q1, q2, q3, q4, q5⟩
  · exact .inl hv
  · exact .inr ⟨idb, q1, q2, (hget_set_ne q5).trans q3, q4, q5⟩
theorem move_spec {id : Nat} {ob : Option Nat} {a n : Int} {l : List UInt8} {H : AH} (hb : Bf H id ob a l) (h0 : 0 ≤ a) (h1 : 0 ≤ n) (h2 : a + n ≤ 140737488355328) :
    ACalls PG align_place_move.n [.ptr id 3 0 0, .int .i64 n] H fun r H' => r = .tup [] ∧ Bf H' id ob (a + n) l ∧ Kp H id ob H' ob := by
  have hb' := hb
  obtain ⟨ht, p, v, hg, hp, hv⟩ := hb'
  refine align_place_move.of rfl (wpF_start ?_)
  (first | refine ah ?_ | exact ah0 | fail)
  exact hb.move _ hg
theorem gap_spec {id : Nat} {ob : Option Nat} {a sz : Nat} {l : List UInt8} {H : AH} (hb : Bf H id ob a l) (hs : sz = 1 ∨ sz = 2 ∨ sz = 4 ∨ sz = 8) (h2 : a ≤ 140737488355328) :
    ACalls PG align_place_gap.n [.ptr id 3 0 0, .int .i64 (sz : Nat)] H fun r H' => r = .int .i64 (gapN a sz : Nat) ∧ H' = H := by
  obtain ⟨ht, p, v, hg, hp, hv⟩ := hb
  refine ACalls.fz (align_place_gap.of rfl (wpF_start ?_))
  (first | refine ah ?_ | exact ah0 | fail)
  first | refine callF_eq (Gap_spec a sz hs h2 _) ?_ | refine callG_eq rfl (Gap_spec a sz hs h2 _) ?_
  (first | refine ah ?_ | exact ah0 | fail)
  exact ⟨fz_of, sub_of⟩
theorem Text_spec {id : Nat} {ob : Option Nat} {l s : List UInt8} {H : AH} (hb : Bf H id ob (l.length : Nat) l) (hl : l.length + s.length ≤ 140737488351232) :
    ACalls PG align_Buf_Text.n [.ptr id 3 0 0, .str s] H fun r H' => r = .tup [] ∧ ∃ ob', Bf H' id ob' ((l ++ s).length : Nat) (l ++ s) ∧ Kp H id ob H' ob' := by
  have hid := hb.has
  have hb' := hb
  obtain ⟨ht, p, v, hg, hp, hv⟩ := hb'
  refine align_Buf_Text.of rfl (wpF_start ?_)
  (first | refine ah ?_ | exact ah0 | fail)
  refine callF_of ((bf_WriteString hb hl).mono fun r H1 ⟨e, ob1, hb1, k1⟩ => ?_)
  subst e
  have hb1' := hb1
  obtain ⟨ht1, p1, v1, hg1, hp1, hv1⟩ := hb1'
  (first | refine ah ?_ | exact ah0 | fail)
  refine callF_of ((move_spec (n := (s.length : Nat)) hb1 (by omega) (by omega) (by omega)).mono fun r H2 ⟨e, hb2, k2⟩ => ?_)
  subst e
  (first | refine ah ?_ | exact ah0 | fail)
  refine ⟨ob1, ?_, k1.trans k2 hid hb2.ob⟩
  rw [List.length_append, Int.natCast_add]
  exact hb2
theorem mask_spec (sz : Nat) (hs : sz = 1 ∨ sz = 2 ∨ sz = 4 ∨ sz = 8) (H : AH) : ACalls PG word_mask.n [.int .i64 (sz : Nat)] H fun r H' => r = .int .u64 ((2 ^ (8 * sz) - 1 : Nat) : Int) ∧ H' = H := by
  refine ACalls.fz (word_mask.of rfl (wpF_start ?_))
  rcases hs with rfl | rfl | rfl | rfl
  all_goals
    (first | refine ah ?_ | exact ah0 | fail)
    refine ⟨fz_eq (congrArg (AV.int .u64) (by decide)), sub_of⟩
theorem leB_get : ∀ (k n i : Nat) (h : i < (leB k n).length), (leB k n)[i] = UInt8.ofNat (n / 256 ^ i % 256)
  | 0, n, i, h => by simp [leB] at h
  | k + 1, n, 0, h => by simp [leB]
  | k + 1, n, i + 1, h => by
    have := leB_get k (n / 256) i (by simpa [leB] using h)
    simp only [leB, List.getElem_cons_succ, this]
    rw [Nat.div_div_eq_div_mul, Nat.pow_succ, Nat.mul_comm]
theorem leB_byte (sz n i : Nat) (h : i < (leB sz n).length) (h8 : i < 8) : IntKind.u8.wrap (Int.fdiv (n : Int) (2 ^ min (8 * (i : Int)).toNat IntKind.u64.bits)) = ((leB sz n)[i].toNat : Int) := by
  rw [leB_get, show min (8 * (i : Int)).toNat IntKind.u64.bits = 8 * i from by simp [IntKind.bits]; omega, show ((2 : Int) ^ (8 * i)) = ((256 ^ i : Nat) : Int) from by rw [Int.natCast_pow, Int.pow_mul]; rfl, Int.fdiv_eq_ediv_of_nonneg _ (Int.natCast_nonneg _), ← Int.natCast_ediv]
  have : IntKind.u8.wrap ((n / 256 ^ i : Nat) : Int) = (n / 256 ^ i : Nat) % 256 := by
    simp only [IntKind.wrap, IntKind.bits, IntKind.signed]
    simp
  rw [this]
  simp
theorem bRow_mid {L : List UInt8} {sz i : Nat} (hL : L.length = sz) (hi : i < sz) : (bRow (L.take i ++ List.replicate (sz - i) 0))[i]? = some [.int .u8 0] := by
  unfold bRow
  rw [List.getElem?_map, List.getElem?_append_right (by simp; omega), List.getElem?_replicate]
  simp
  omega
theorem bRow_set {L : List UInt8} {sz i : Nat} (hL : L.length = sz) (hi : i < sz) : (bRow (L.take i ++ List.replicate (sz - i) 0)).set i [.int .u8 ((L[i]'(by omega)).toNat : Int)] = bRow (L.take (i + 1) ++ List.replicate (sz - (i + 1)) 0) := by
  unfold bRow
  rw [show sz - i = (sz - (i + 1)) + 1 from by omega, List.replicate_succ, List.take_succ_eq_append_getElem (by omega : i < L.length)]
  simp only [List.map_append, List.map_cons, List.append_assoc, List.map_nil]
  rw [List.set_append_right _ _ (by simp; omega)]
  simp [show i - min i L.length = 0 from by omega]
theorem word_Put_spec (n sz : Nat) (hs : sz = 1 ∨ sz = 2 ∨ sz = 4 ∨ sz = 8) (hn : n < 256 ^ sz) (H : AH) : ACalls PG word_Put.n [.int .u64 (n : Nat), .int .i64 (sz : Nat)] H fun r H' => r = .tup [.str (leB sz n), .int .i64 0] ∧ H' = H := by
  have hm := fun H => mask_spec sz hs H
  have hz := fun H => word_sized_spec (sz : Nat) H
  have hq : bitsV .andNot .u64 (n : Int) ((2 ^ (8 * sz) - 1 : Nat) : Int) = 0 := andNot_mask n (8 * sz) (by omega) (by rw [Nat.pow_mul]; exact hn)
  rw [decide_eq_true (show (sz : Int) = 1 ∨ (sz : Int) = 2 ∨ (sz : Int) = 4 ∨ (sz : Int) = 8 by omega)] at hz
  refine ACalls.fz (word_Put.of rfl (wpF_start ?_))
  (first | refine ah ?_ | exact ah0 | fail)
  first | refine callF_eq (hz _) ?_ | refine callG_eq rfl (hz _) ?_
  (first | refine ah ?_ | exact ah0 | fail)
  first | refine callF_eq (hm _) ?_ | refine callG_eq rfl (hm _) ?_
  (first | refine ah ?_ | exact ah0 | fail)
  intro id6 hid6 ht6; have n6 := neAll_of hid6; (try simp only [neAll, neAll_hset] at n6); have m6 := n6; (repeat (obtain ⟨_, m6⟩ := m6))
  (first | refine ah ?_ | exact ah0 | fail)
  have hL := leB_len sz n
  rw [show Int.toNat (sz : Nat) = sz from rfl]
  refine loopM (S := Nat) [(0, some _), (6, some _), (20, some _)] (fun i => [(21, some (.int .i64 (i : Nat)))]) (fun i => (id6, .rows 1 (bRow ((leB sz n).take i ++ List.replicate (sz - i) 0))) :: H) (fun i => sz - i) (fun i => i ≤ sz) 0 (by repeat (first | exact trivial | refine And.intro (Or.inl rfl) ?_ | refine And.intro (Or.inr (Exists.intro _ (And.intro rfl (Fz.refl _)))) ?_ | refine And.intro (Or.inr (Exists.intro _ (And.intro rfl (fz_eq (congrArg (AV.int _) (by omega)))))) ?_ | refine And.intro (Or.inr (Exists.intro _ (And.intro rfl (fz_eq (congrArg (AV.own _ _ _) (by (try dsimp only); (try simp only [List.length_append, List.length_map, List.length_cons, List.length_nil, List.length_take, List.length_set, List.length_replicate]); (try dsimp only); first | done | omega)))))) ?_)) (by simp only [bRow, List.take_zero, List.nil_append, List.map_replicate]; exact Sub.refl _) (by omega) (fun i hi => ?_)
  (first | refine ah ?_ | exact ah0 | fail)
  refine bsplit_dec (fun c => ?_) (fun c => ?_)
  · have hil : i < sz := by omega
    have hby := leB_byte sz n i (by omega) (by omega)
    have hst := bRow_set (L := leB sz n) (sz := sz) (i := i) hL hil
    have hmid := bRow_mid (L := leB sz n) (sz := sz) (i := i) hL hil
    have hlt := ((leB sz n)[i]'(by omega)).toNat_lt
    (first | refine ah ?_ | exact ah0 | fail)
    refine rng_id hby ?_
    (first | refine ah ?_ | exact ah0 | fail)
    refine ⟨_, _, hget_self, (by rw [Nat.zero_add, Int.toNat_natCast]; exact hmid), rfl, rfl, (Nat.le_of_ble_eq_true rfl), hsetN_of (b' := .rows 1 (bRow ((leB sz n).take (i + 1) ++ List.replicate (sz - (i + 1)) 0))) (by rw [Nat.zero_add, Int.toNat_natCast]; exact congrArg (Blk.rows 1) hst) ?_⟩
    (first | refine ah ?_ | exact ah0 | fail)
    exact nextS (S := Nat) (i + 1) (by repeat (first | exact trivial | refine And.intro (Or.inl rfl) ?_ | refine And.intro (Or.inr (Exists.intro _ (And.intro rfl (Fz.refl _)))) ?_ | refine And.intro (Or.inr (Exists.intro _ (And.intro rfl (fz_eq (congrArg (AV.int _) (by omega)))))) ?_ | refine And.intro (Or.inr (Exists.intro _ (And.intro rfl (fz_eq (congrArg (AV.own _ _ _) (by (try dsimp only); (try simp only [List.length_append, List.length_map, List.length_cons, List.length_nil, List.length_take, List.length_set, List.length_replicate]); (try dsimp only); first | done | omega)))))) ?_)) (by exact sub_of) (by omega) (by omega)
  · have hi' : i = sz := by omega
    subst hi'
    (first | refine ah ?_ | exact ah0 | fail)
    refine ⟨bRow (leB i n), leB i n, ?_, bRow_bytes _, ?_⟩
    · rw [Nat.sub_self, List.replicate_zero, List.append_nil, List.take_of_length_le (by omega)]
      exact (readS_part hget_self (by rw [bRow_len]; omega)).trans (by rw [List.drop_zero, List.take_of_length_le (by rw [bRow_len]; omega)])
    (first | refine ah ?_ | exact ah0 | fail)
    exact ⟨fz_of, sub_of⟩
/-- Bytes 0. -/
theorem repeat0 : ∀ n, Lib.repeatL [0] n = List.replicate n (0 : UInt8)
  | 0 => rfl
  | n + 1 => by
    have := repeat0 n
    rw [List.replicate_succ, ← this]
    simp [Lib.repeatL]
theorem gapN_le (a sz : Nat) (hs : sz = 1 ∨ sz = 2 ∨ sz = 4 ∨ sz = 8) : gapN a sz ≤ 7 := by
  have := gapN_lt (a := a) (sz := sz) (by omega)
  omega
theorem Put_spec {id : Nat} {ob : Option Nat} {l : List UInt8} {H : AH} {n sz : Nat} (hb : Bf H id ob (l.length : Nat) l) (hs : sz = 1 ∨ sz = 2 ∨ sz = 4 ∨ sz = 8) (hn : n < 256 ^ sz) (hl : l.length ≤ 1000000) :
    ACalls PG align_Buf_Put.n [.ptr id 3 0 0, .int .u64 (n : Nat), .int .i64 (sz : Nat)] H fun r H' => r = .int .i64 0 ∧ ∃ ob', Bf H' id ob' ((l ++ numB l.length sz n).length : Nat) (l ++ numB l.length sz n) ∧ Kp H id ob H' ob' := by
  have hid := hb.has
  have hb' := hb
  have hgl := gapN_le l.length sz hs
  obtain ⟨ht, p, v, hg, hp, hv⟩ := hb'
  refine align_Buf_Put.of rfl (wpF_start ?_)
  (first | refine ah ?_ | exact ah0 | fail)
  first | refine callF_eq (word_Put_spec n sz hs hn _) ?_ | refine callG_eq rfl (word_Put_spec n sz hs hn _) ?_
  (first | refine ah ?_ | exact ah0 | fail)
  first | refine callF_eq (gap_spec hb hs (by omega)) ?_ | refine callG_eq rfl (gap_spec hb hs (by omega)) ?_
  (first | refine ah ?_ | exact ah0 | fail)
  first | refine callF_eq (Repeat_spec [0] (gapN l.length sz) (by simp; omega) (by omega) _) ?_ | refine callG_eq rfl (Repeat_spec [0] (gapN l.length sz) (by simp; omega) (by omega) _) ?_
  rw [repeat0]
  (first | refine ah ?_ | exact ah0 | fail)
  refine callF_of ((Text_spec (s := List.replicate (gapN l.length sz) 0) hb (by rw [List.length_replicate]; omega)).mono fun r H1 ⟨e, ob1, hb1, k1⟩ => ?_)
  subst e
  (first | refine ah ?_ | exact ah0 | fail)
  refine callF_of ((Text_spec (s := leB sz n) hb1 (by rw [List.length_append, List.length_replicate, leB_len]; omega)).mono fun r H2 ⟨e, ob2, hb2, k2⟩ => ?_)
  subst e
  (first | refine ah ?_ | exact ah0 | fail)
  refine ⟨ob2, ?_, k1.trans k2 hid hb2.ob⟩
  unfold numB
  rw [← List.append_assoc]
  exact hb2
theorem Bytes_spec {id : Nat} {ob : Option Nat} {a : Int} {l : List UInt8} {H : AH} (hb : Bf H id ob a l) (hpos : 0 < l.length) (hl : l.length ≤ 140737488351232) :
    ACalls PG align_Buf_Bytes.n [.ptr id 3 0 0] H fun r H' => r = .str l := by
  have hb' := hb
  obtain ⟨ht, p, v, hg, hp, hv⟩ := hb'
  refine align_Buf_Bytes.of rfl (wpF_start ?_)
  (first | refine ah ?_ | exact ah0 | fail)
  refine callF_of ((bf_String hb hpos hl).mono fun r H1 e => ?_)
  subst e
  (first | refine ah ?_ | exact ah0 | fail)
theorem Len_spec {id : Nat} {ob : Option Nat} {a : Int} {l : List UInt8} {H : AH} (hb : Bf H id ob a l) :
    ACalls PG align_Buf_Len.n [.ptr id 3 0 0] H fun r H' => r = .int .i64 a := by
  obtain ⟨ht, p, v, hg, hp, hv⟩ := hb
  refine align_Buf_Len.of rfl (wpF_start ?_)
  (first | refine ah ?_ | exact ah0 | fail)
theorem New_spec (H : AH) : ACalls PG align_New.n [] H fun r H' => ∃ id, r = .ptr id 3 0 0 ∧ hget H id = none ∧ Bf H' id none 0 [] ∧ Sub H H' := by
  refine align_New.of rfl (wpF_start ?_)
  (first | refine ah ?_ | exact ah0 | fail)
  intro id5 hid5 ht5; have n5 := neAll_of hid5; (try simp only [neAll, neAll_hset] at n5); have m5 := n5; (repeat (obtain ⟨_, m5⟩ := m5))
  (first | refine ah ?_ | exact ah0 | fail)
  exact ⟨id5, rfl, hid5, ⟨ht5, _, _, hget_self, .inl rfl, .inl ⟨rfl, rfl, rfl⟩⟩, sub_of⟩
end Go.Proofs.Ytmjdkeonjflanaa

/- How many bytes values may have, walked. -/
namespace Go.Proofs.Ytmjdkeonjflanaa
set_option autoImplicit false
set_option linter.unusedSimpArgs false
set_option linter.unusedVariables false
attribute [local irreducible] callA callP ACalls
abbrev wA (l : List Ty) (most : Bool) : AV := .agg [tysA l, .bool most]
theorem bnumber_spec (a sz : Nat) (hs : sz = 1 ∨ sz = 2 ∨ sz = 4 ∨ sz = 8) (ha : a ≤ 1000) (H : AH) : ACalls PG bounds_number.n [.int .i64 (a : Nat), .int .i64 (sz : Nat)] H fun r H' => r = .int .i64 (nE a sz : Nat) ∧ H' = H := by
  have hg := gapN_le a sz hs
  refine ACalls.fz (bounds_number.of rfl (wpF_start ?_))
  (first | refine au ?_ | exact au0 | fail)
  first | refine callF_eq (Gap_spec a sz hs (by omega) _) ?_ | refine callG_eq rfl (Gap_spec a sz hs (by omega) _) ?_
  (first | refine au ?_ | exact au0 | fail)
  refine ⟨fz_eq (congrArg (AV.int .i64) ?_), sub_of⟩
  unfold nE
  simp only [Bool.false_eq_true, if_false]
  omega
theorem rowB_step (f : Int → Nat → Nat) (p : Int) (i a : Nat) : rowB f (List.replicate (i + 1) p) a = stB f (rowB f (List.replicate i p) a) p := by
  rw [List.replicate_succ']
  simp [rowB]
theorem rowB_sat (f : Int → Nat → Nat) (p : Int) : ∀ (n a : Nat), 513 ≤ a → 0 < n → rowB f (List.replicate n p) a = 513
  | 0, a, _, h => by omega
  | n + 1, a, ha, _ => by
    have e : stB f a p = 513 := by unfold stB; rw [if_pos ha]
    simp only [List.replicate_succ, rowB, List.foldl_cons, e]
    cases n with
    | zero => rfl
    | succ n => exact rowB_sat f p (n + 1) 513 (Nat.le_refl _) (by omega)
theorem rowB_add (f : Int → Nat → Nat) (p : Int) (i j a : Nat) : rowB f (List.replicate (i + j) p) a = rowB f (List.replicate j p) (rowB f (List.replicate i p) a) := by
  rw [← List.replicate_append_replicate]
  exact List.foldl_append ..
theorem brow_spec (l : List Ty) (most : Bool) (f : Int → Nat → Nat) (t : Int) (hf : ∀ a, a ≤ 513 → (∀ H, ACalls PG bounds_walk_end.n [wA l most, .int .i64 t, .int .i64 (a : Nat)] H fun r H' => r = .int .i64 (f t a : Nat) ∧ H' = H) ∧ a ≤ f t a ∧ f t a ≤ 513)
    (n a : Nat) (hn : n ≤ 1000000) (ha : a ≤ 513) (H : AH) : ACalls PG bounds_walk_row.n [wA l most, .int .i64 t, .int .i64 (n : Nat), .int .i64 (a : Nat)] H fun r H' => r = .int .i64 (rowB f (List.replicate n t) a : Nat) ∧ H' = H := by
  refine ACalls.fz (bounds_walk_row.of rfl (wpF_start ?_))
  (first | refine au ?_ | exact au0 | fail)
  intro id4 hid4 ht4; have n4 := neAll_of hid4; (try simp only [neAll, neAll_hset] at n4); have m4 := n4; (repeat (obtain ⟨_, m4⟩ := m4))
  (first | refine au ?_ | exact au0 | fail)
  refine loopM (S := Nat) [(1, some _), (4, some _), (9, some _)] (fun i => [(10, some (.int .i64 (i : Nat))), (3, some (.int .i64 (rowB f (List.replicate i t) a : Nat)))]) (fun _ => (id4, .rows 2 [[tysA l, .bool most]]) :: H) (fun i => n - i) (fun i => i ≤ n) 0 (by repeat (first | exact trivial | refine And.intro (Or.inl rfl) ?_ | refine And.intro (Or.inr (Exists.intro _ (And.intro rfl (Fz.refl _)))) ?_ | refine And.intro (Or.inr (Exists.intro _ (And.intro rfl (fz_eq (congrArg (AV.int _) (by omega)))))) ?_ | refine And.intro (Or.inr (Exists.intro _ (And.intro rfl (fz_eq (congrArg (AV.own _ _ _) (by (try dsimp only); (try simp only [List.length_append, List.length_map, List.length_cons, List.length_nil, List.length_take, List.length_set, List.length_replicate]); (try dsimp only); first | done | omega)))))) ?_)) (Sub.refl _) (by omega) (fun i hi => ?_)
  have hb := rowB_ge (f := f) (List.replicate i t) a (fun p q a ha => by rw [List.eq_of_mem_replicate q]; exact (hf a ha).2) ha
  have hst := rowB_step f t i a
  have had := rowB_add f t i (n - i) a
  rw [show i + (n - i) = n from by omega] at had
  (first | refine au ?_ | exact au0 | fail)
  refine bsplit_dec (fun c => ?_) (fun c => ?_)
  · (first | refine au ?_ | exact au0 | fail)
    refine bsplit_dec (fun c2 => ?_) (fun c2 => ?_)
    · rw [rowB_sat f t (n - i) _ (by omega) (by omega)] at had
      (first | refine au ?_ | exact au0 | fail)
      exact ⟨fz_eq (congrArg (AV.int .i64) (by omega)), sub_of⟩
    · unfold stB at hst
      rw [if_neg (by omega)] at hst
      (first | refine au ?_ | exact au0 | fail)
      first | refine callF_eq ((hf _ hb.2).1 _) ?_ | refine callG_eq rfl ((hf _ hb.2).1 _) ?_
      (first | refine au ?_ | exact au0 | fail)
      exact nextS (S := Nat) (i + 1) (by dsimp only; rw [hst]; exact (by repeat (first | exact trivial | refine And.intro (Or.inl rfl) ?_ | refine And.intro (Or.inr (Exists.intro _ (And.intro rfl (Fz.refl _)))) ?_ | refine And.intro (Or.inr (Exists.intro _ (And.intro rfl (fz_eq (congrArg (AV.int _) (by omega)))))) ?_ | refine And.intro (Or.inr (Exists.intro _ (And.intro rfl (fz_eq (congrArg (AV.own _ _ _) (by (try dsimp only); (try simp only [List.length_append, List.length_map, List.length_cons, List.length_nil, List.length_take, List.length_set, List.length_replicate]); (try dsimp only); first | done | omega)))))) ?_))) (by exact sub_of) (by omega) (by omega)
  · have hi' : i = n := by omega
    subst hi'
    (first | refine au ?_ | exact au0 | fail)
    exact ⟨fz_of, sub_of⟩
theorem Open_spec (l : List Ty) (hl : TysOk l) (hc : (tyChk l).1 = 0) (t : Int) (h0 : 0 ≤ t) (h1 : t < l.length) (hk : (tAt l t).kd = 14) (H : AH) : ACalls PG bounds_Open.n [tysA l, .int .i64 t] H fun r H' => r = .bool (openT l t) ∧ H' = H := by
  have hv := tyChk_v hc
  have hG := hv.tAt h0 h1
  have hge := tAt_get h0 h1
  have htg := hG.parts _ (parts_tag hk)
  have hge2 := tAt_get htg.1 (by omega : (tAt l t).tg < l.length)
  have hlen : (l.map tyR).length = l.length := by simp
  have hll := hl.len
  have hck := fun H => Check_spec l hl H
  rw [hc] at hck
  have hpos : 0 < (tAt l t).its.length := by
    have h2 := hG.items
    unfold itemsE at h2
    rw [if_pos (by simp [kNm, hk])] at h2
    split at h2
    · cases h2
    · omega
  have hil2 : ((tAt l t).its.map itR).length = (tAt l t).its.length := by simp
  have hil3 : ((tAt l (tAt l t).tg).its.map itR).length = (tAt l (tAt l t).tg).its.length := by simp
  have hitl := (hl.all _ (tAt_mem h0 h1)).its
  have hgi := row_get (f := itR) (l := (tAt l t).its) (i := (tAt l t).its.length - 1) (by omega)
  rw [show (((tAt l t).its.length - 1 : Nat) : Int) = ((tAt l t).its.length : Int) - 1 from by omega] at hgi
  refine ACalls.fz (bounds_Open.of rfl (wpF_start ?_))
  unfold openT
  rw [getD_get (by omega : (tAt l t).its.length - 1 < (tAt l t).its.length), hk]
  simp only [decide_true, Bool.true_and]
  generalize (tAt l t).its[(tAt l t).its.length - 1] = z at *
  obtain ⟨znm, znum, zty, zkey, zrest⟩ := z
  (first | refine au ?_ | exact au0 | fail)
  first | refine callF_eq (hck _) ?_ | refine callG_eq rfl (hck _) ?_
  (first | refine au ?_ | exact au0 | fail)
  rw [hge]
  (first | refine au ?_ | exact au0 | fail)
  rw [hge]
  (first | refine au ?_ | exact au0 | fail)
  intro id5 hid5 ht5; have n5 := neAll_of hid5; (try simp only [neAll, neAll_hset] at n5); have m5 := n5; (repeat (obtain ⟨_, m5⟩ := m5))
  (first | refine au ?_ | exact au0 | fail)
  rw [hil2]
  rw [hgi]
  cases zrest
  rotate_left
  · (first | refine au ?_ | exact au0 | fail)
    exact ⟨fz_of, sub_of⟩
  (first | refine au ?_ | exact au0 | fail)
  rw [hge2]
  (first | refine au ?_ | exact au0 | fail)
  intro id6 hid6 ht6; have n6 := neAll_of hid6; (try simp only [neAll, neAll_hset] at n6); have m6 := n6; (repeat (obtain ⟨_, m6⟩ := m6))
  (first | refine au ?_ | exact au0 | fail)
  by_cases c1 : (tAt l (tAt l t).tg).kd = 1
  · rw [if_pos c1]
    (first | refine au ?_ | exact au0 | fail)
    exact ⟨fz_eq (congrArg AV.bool (by first | exact (decide_eq_true (by omega)).symm | exact (decide_eq_false (by omega)).symm | exact decide_eq_decide.2 (by omega) | rfl)), sub_of⟩
  · rw [if_neg c1]
    by_cases c9 : (tAt l (tAt l t).tg).kd = 9
    · rw [if_pos c9]
      (first | refine au ?_ | exact au0 | fail)
      exact ⟨fz_eq (congrArg AV.bool (by first | exact (decide_eq_true (by omega)).symm | exact (decide_eq_false (by omega)).symm | exact decide_eq_decide.2 (by omega) | rfl)), sub_of⟩
    · rw [if_neg c9]
      (first | refine au ?_ | exact au0 | fail)
      exact ⟨fz_of, sub_of⟩
/-- What 'end' is known to answer. -/
def EndC (l : List Ty) (most : Bool) (m : Nat) : Prop := ∀ t : Int, 0 ≤ t → t < l.length → t < m → ∀ a : Nat, a ≤ 513 → ∀ H, ACalls PG bounds_walk_end.n [wA l most, .int .i64 t, .int .i64 (a : Nat)] H fun r H' => r = .int .i64 (endB l most m t a : Nat) ∧ H' = H
theorem unS_step (most : Bool) (f : Int → Nat → Nat) (a : Nat) (its : List It) (i : Nat) (h : i < its.length) (o : Nat × Bool) : (its.take (i + 1)).foldl (unS most f a) o = unS most f a ((its.take i).foldl (unS most f a) o) its[i] := by
  rw [List.take_succ_eq_append_getElem h, List.foldl_append]; rfl
theorem bunion_spec (l : List Ty) (hl : TysOk l) (hc : (tyChk l).1 = 0) (most : Bool) (m : Nat) (ih : EndC l most m) (t : Int) (h0 : 0 ≤ t) (h1 : t < l.length) (hm : t < m + 1) (hk : (tAt l t).kd = 14) (a : Nat) (ha : a ≤ 513) (H : AH) :
    ACalls PG bounds_walk_union.n [wA l most, .int .i64 t, .int .i64 (a : Nat)] H fun r H' => r = .int .i64 (endB l most (m + 1) t a : Nat) ∧ H' = H := by
  have hv := tyChk_v hc
  have hG := hv.tAt h0 h1
  have hge := tAt_get h0 h1
  have htg := hG.parts _ (parts_tag hk)
  have hge2 := tAt_get htg.1 (by omega : (tAt l t).tg < l.length)
  have hlen : (l.map tyR).length = l.length := by simp
  have hll := hl.len
  have hszp := szK_pos (hG.tag hk)
  have hitl := (hl.all _ (tAt_mem h0 h1)).its
  have hil2 : ((tAt l t).its.map itR).length = (tAt l t).its.length := by simp
  have hop := fun H => Open_spec l hl hc t h0 h1 hk H
  have hnE := nE_ge a (szK (tAt l (tAt l t).tg).kd) ha
  have hrow : ∀ i (hi : i < (tAt l t).its.length), (∀ H, ACalls PG bounds_walk_row.n [wA l most, .int .i64 (tAt l t).its[i].ty, .int .i64 1, .int .i64 (nE a (szK (tAt l (tAt l t).tg).kd) : Nat)] H fun r H' => r = .int .i64 (stB (endB l most m) (nE a (szK (tAt l (tAt l t).tg).kd)) (tAt l t).its[i].ty : Nat) ∧ H' = H) ∧ stB (endB l most m) (nE a (szK (tAt l (tAt l t).tg).kd)) (tAt l t).its[i].ty ≤ 513 := fun i hi => by
    have hp := hG.parts _ (parts_item (.inr hk) (List.getElem_mem hi))
    have hq := fun a (ha : a ≤ 513) => And.intro (ih _ hp.1 (by omega) (by omega) a ha) (endB_ge (most := most) hv m _ a hp.1 (by omega) (by omega) ha)
    exact ⟨fun H => brow_spec l most (endB l most m) (tAt l t).its[i].ty hq 1 _ (by omega) hnE.2 H, (stB_ge (fun a ha => (hq a ha).2) hnE.2).2⟩
  have hnum := fun H => bnumber_spec a (szK (tAt l (tAt l t).tg).kd) hszp (by omega) H
  have hsz := fun H => prim_Size_spec (tAt l (tAt l t).tg).kd H
  rw [endB_un hk]
  clear ih hop
  have hop := fun H => Open_spec l hl hc t h0 h1 hk H
  generalize openT l t = op at *
  generalize nE a (szK (tAt l (tAt l t).tg).kd) = b at *
  refine ACalls.fz (bounds_walk_union.of rfl (wpF_start ?_))
  (first | refine au ?_ | exact au0 | fail)
  intro id3 hid3 ht3; have n3 := neAll_of hid3; (try simp only [neAll, neAll_hset] at n3); have m3 := n3; (repeat (obtain ⟨_, m3⟩ := m3))
  (first | refine au ?_ | exact au0 | fail)
  rw [hge]
  (first | refine au ?_ | exact au0 | fail)
  intro id7 hid7 ht7; have n7 := neAll_of hid7; (try simp only [neAll, neAll_hset] at n7); have m7 := n7; (repeat (obtain ⟨_, m7⟩ := m7))
  (first | refine au ?_ | exact au0 | fail)
  rw [hge2]
  (first | refine au ?_ | exact au0 | fail)
  first | refine callF_eq (hsz _) ?_ | refine callG_eq rfl (hsz _) ?_
  (first | refine au ?_ | exact au0 | fail)
  first | refine callF_eq (hnum _) ?_ | refine callG_eq rfl (hnum _) ?_
  (first | refine au ?_ | exact au0 | fail)
  first | refine callF_eq (hop _) ?_ | refine callG_eq rfl (hop _) ?_
  (first | refine au ?_ | exact au0 | fail)
  refine loopM (S := Nat) [(2, some _), (3, some _), (34, some _), (35, some _)] (fun i => [(36, some (.int .i64 (i : Nat))), (8, some (.int .i64 (((tAt l t).its.take i).foldl (unS most (endB l most m) b) (b, op)).1)), (9, some (.bool (((tAt l t).its.take i).foldl (unS most (endB l most m) b) (b, op)).2))])
    (fun _ => (id3, .rows 2 [[tysA l, .bool most]]) :: H) (fun i => (tAt l t).its.length - i) (fun i => i ≤ (tAt l t).its.length) 0 (by repeat (first | exact trivial | refine And.intro (Or.inl rfl) ?_ | refine And.intro (Or.inr (Exists.intro _ (And.intro rfl (Fz.refl _)))) ?_ | refine And.intro (Or.inr (Exists.intro _ (And.intro rfl (fz_eq (congrArg (AV.int _) (by omega)))))) ?_ | refine And.intro (Or.inr (Exists.intro _ (And.intro rfl (fz_eq (congrArg (AV.own _ _ _) (by (try dsimp only); (try simp only [List.length_append, List.length_map, List.length_cons, List.length_nil, List.length_take, List.length_set, List.length_replicate]); (try dsimp only); first | done | omega)))))) ?_)) (by exact sub_of) (by omega) (fun i hi => ?_)
  (first | refine au ?_ | exact au0 | fail)
  refine bsplit_dec (fun c => ?_) (fun c => ?_)
  · have hii : i < (tAt l t).its.length := by omega
    have hg2 := row_get (f := itR) hii
    have hst := unS_step most (endB l most m) b (tAt l t).its i hii (b, op)
    obtain ⟨hr, hr2⟩ := hrow i hii
    clear hrow
    rw [show unS most (endB l most m) b (((tAt l t).its.take i).foldl (unS most (endB l most m) b) (b, op)) (tAt l t).its[i] = if (((tAt l t).its.take i).foldl (unS most (endB l most m) b) (b, op)).2 = false ∨ (most = true ∧ (((tAt l t).its.take i).foldl (unS most (endB l most m) b) (b, op)).1 < stB (endB l most m) b (tAt l t).its[i].ty) ∨ (most = false ∧ stB (endB l most m) b (tAt l t).its[i].ty < (((tAt l t).its.take i).foldl (unS most (endB l most m) b) (b, op)).1) then (stB (endB l most m) b (tAt l t).its[i].ty, true) else ((tAt l t).its.take i).foldl (unS most (endB l most m) b) (b, op) from rfl] at hst
    generalize ((tAt l t).its.take i).foldl (unS most (endB l most m) b) (b, op) = o at *
    generalize (tAt l t).its[i] = z at *
    generalize stB (endB l most m) b z.ty = e at *
    obtain ⟨ov, os⟩ := o
    dsimp only at hst
    (first | refine au ?_ | exact au0 | fail)
    rw [hg2]
    (first | refine au ?_ | exact au0 | fail)
    intro id11 hid11 ht11; have n11 := neAll_of hid11; (try simp only [neAll, neAll_hset] at n11); have m11 := n11; (repeat (obtain ⟨_, m11⟩ := m11))
    (first | refine au ?_ | exact au0 | fail)
    first | refine callF_eq (hr _) ?_ | refine callG_eq rfl (hr _) ?_
    cases os
    · rw [if_pos (.inl rfl)] at hst
      (first | refine au ?_ | exact au0 | fail)
      exact nextS (S := Nat) (i + 1) (by dsimp only; rw [hst]; exact (by repeat (first | exact trivial | refine And.intro (Or.inl rfl) ?_ | refine And.intro (Or.inr (Exists.intro _ (And.intro rfl (Fz.refl _)))) ?_ | refine And.intro (Or.inr (Exists.intro _ (And.intro rfl (fz_eq (congrArg (AV.int _) (by omega)))))) ?_ | refine And.intro (Or.inr (Exists.intro _ (And.intro rfl (fz_eq (congrArg (AV.own _ _ _) (by (try dsimp only); (try simp only [List.length_append, List.length_map, List.length_cons, List.length_nil, List.length_take, List.length_set, List.length_replicate]); (try dsimp only); first | done | omega)))))) ?_))) (by exact sub_of) (by omega) (by omega)
    · cases most
      · by_cases c2 : e < ov
        · rw [if_pos (.inr (.inr ⟨rfl, c2⟩))] at hst
          (first | refine au ?_ | exact au0 | fail)
          exact nextS (S := Nat) (i + 1) (by dsimp only; rw [hst]; exact (by repeat (first | exact trivial | refine And.intro (Or.inl rfl) ?_ | refine And.intro (Or.inr (Exists.intro _ (And.intro rfl (Fz.refl _)))) ?_ | refine And.intro (Or.inr (Exists.intro _ (And.intro rfl (fz_eq (congrArg (AV.int _) (by omega)))))) ?_ | refine And.intro (Or.inr (Exists.intro _ (And.intro rfl (fz_eq (congrArg (AV.own _ _ _) (by (try dsimp only); (try simp only [List.length_append, List.length_map, List.length_cons, List.length_nil, List.length_take, List.length_set, List.length_replicate]); (try dsimp only); first | done | omega)))))) ?_))) (by exact sub_of) (by omega) (by omega)
        · rw [if_neg (by simp; omega)] at hst
          (first | refine au ?_ | exact au0 | fail)
          exact nextS (S := Nat) (i + 1) (by dsimp only; rw [hst]; exact (by repeat (first | exact trivial | refine And.intro (Or.inl rfl) ?_ | refine And.intro (Or.inr (Exists.intro _ (And.intro rfl (Fz.refl _)))) ?_ | refine And.intro (Or.inr (Exists.intro _ (And.intro rfl (fz_eq (congrArg (AV.int _) (by omega)))))) ?_ | refine And.intro (Or.inr (Exists.intro _ (And.intro rfl (fz_eq (congrArg (AV.own _ _ _) (by (try dsimp only); (try simp only [List.length_append, List.length_map, List.length_cons, List.length_nil, List.length_take, List.length_set, List.length_replicate]); (try dsimp only); first | done | omega)))))) ?_))) (by exact sub_of) (by omega) (by omega)
      · by_cases c2 : ov < e
        · rw [if_pos (.inr (.inl ⟨rfl, c2⟩))] at hst
          (first | refine au ?_ | exact au0 | fail)
          exact nextS (S := Nat) (i + 1) (by dsimp only; rw [hst]; exact (by repeat (first | exact trivial | refine And.intro (Or.inl rfl) ?_ | refine And.intro (Or.inr (Exists.intro _ (And.intro rfl (Fz.refl _)))) ?_ | refine And.intro (Or.inr (Exists.intro _ (And.intro rfl (fz_eq (congrArg (AV.int _) (by omega)))))) ?_ | refine And.intro (Or.inr (Exists.intro _ (And.intro rfl (fz_eq (congrArg (AV.own _ _ _) (by (try dsimp only); (try simp only [List.length_append, List.length_map, List.length_cons, List.length_nil, List.length_take, List.length_set, List.length_replicate]); (try dsimp only); first | done | omega)))))) ?_))) (by exact sub_of) (by omega) (by omega)
        · rw [if_neg (by simp; omega)] at hst
          (first | refine au ?_ | exact au0 | fail)
          exact nextS (S := Nat) (i + 1) (by dsimp only; rw [hst]; exact (by repeat (first | exact trivial | refine And.intro (Or.inl rfl) ?_ | refine And.intro (Or.inr (Exists.intro _ (And.intro rfl (Fz.refl _)))) ?_ | refine And.intro (Or.inr (Exists.intro _ (And.intro rfl (fz_eq (congrArg (AV.int _) (by omega)))))) ?_ | refine And.intro (Or.inr (Exists.intro _ (And.intro rfl (fz_eq (congrArg (AV.own _ _ _) (by (try dsimp only); (try simp only [List.length_append, List.length_map, List.length_cons, List.length_nil, List.length_take, List.length_set, List.length_replicate]); (try dsimp only); first | done | omega)))))) ?_))) (by exact sub_of) (by omega) (by omega)
  · have hi' : i = (tAt l t).its.length := by omega
    subst hi'
    rw [List.take_length]
    (first | refine au ?_ | exact au0 | fail)
    exact ⟨fz_of, sub_of⟩
end Go.Proofs.Ytmjdkeonjflanaa

/- How many bytes values may have, walked: all. -/
namespace Go.Proofs.Ytmjdkeonjflanaa
set_option autoImplicit false
set_option linter.unusedSimpArgs false
set_option linter.unusedVariables false
attribute [local irreducible] callA callP ACalls
theorem rowB_take (f : Int → Nat → Nat) (ps : List Int) (i : Nat) (h : i < ps.length) (a : Nat) : rowB f (ps.take (i + 1)) a = stB f (rowB f (ps.take i) a) ps[i] := by
  unfold rowB
  rw [List.take_succ_eq_append_getElem h, List.foldl_append]; rfl
theorem end_spec (l : List Ty) (hl : TysOk l) (hc : (tyChk l).1 = 0) (most : Bool) : ∀ m : Nat, EndC l most m
  | 0 => fun t h0 h1 hm => by omega
  | m + 1 => by
    intro t h0 h1 hm a ha H
    have ih := end_spec l hl hc most m
    have hv := tyChk_v hc
    have hG := hv.tAt h0 h1
    have hkd := hG.kd
    have hge := tAt_get h0 h1
    have hlen : (l.map tyR).length = l.length := by simp
    have hll := hl.len
    have hitl := (hl.all _ (tAt_mem h0 h1)).its
    have hil2 : ((tAt l t).its.map itR).length = (tAt l t).its.length := by simp
    have hn4 := nE_ge a 4 ha
    have hq := fun p (hp : p ∈ parts (tAt l t)) a (ha : a ≤ 513) => And.intro (ih p (hG.parts p hp).1 (by have := hG.parts p hp; omega) (by have := hG.parts p hp; omega) a ha) (endB_ge (most := most) hv m p a (hG.parts p hp).1 (by have := hG.parts p hp; omega) (by have := hG.parts p hp; omega) ha)
    have hun := fun (hk : (tAt l t).kd = 14) H => bunion_spec l hl hc most m ih t h0 h1 (by omega) hk a ha H
    have hnum4 := fun H => bnumber_spec a 4 (by omega) (by omega) H
    refine ACalls.fz (bounds_walk_end.of rfl (wpF_start ?_))
    by_cases c10 : (tAt l t).kd = 10
    · have hbd := hG.bd (by simp [kBd, c10])
      rw [endB_tx c10]
      (first | refine au ?_ | exact au0 | fail)
      intro id3 hid3 ht3; have n3 := neAll_of hid3; (try simp only [neAll, neAll_hset] at n3); have m3 := n3; (repeat (obtain ⟨_, m3⟩ := m3))
      (first | refine au ?_ | exact au0 | fail)
      rw [hge]
      (first | refine au ?_ | exact au0 | fail)
      intro id7 hid7 ht7; have n7 := neAll_of hid7; (try simp only [neAll, neAll_hset] at n7); have m7 := n7; (repeat (obtain ⟨_, m7⟩ := m7))
      (first | refine au ?_ | exact au0 | fail)
      cases most
      · (first | refine au ?_ | exact au0 | fail)
        first | refine callF_eq (hnum4 _) ?_ | refine callG_eq rfl (hnum4 _) ?_
        (first | refine au ?_ | exact au0 | fail)
        exact ⟨fz_eq (congrArg (AV.int .i64) (by simp; omega)), sub_of⟩
      · (first | refine au ?_ | exact au0 | fail)
        first | refine callF_eq (hnum4 _) ?_ | refine callG_eq rfl (hnum4 _) ?_
        (first | refine au ?_ | exact au0 | fail)
        exact ⟨fz_eq (congrArg (AV.int .i64) (by simp; omega)), sub_of⟩
    by_cases c11 : (tAt l t).kd = 11
    · have hbd := hG.bd (by simp [kBd, c11])
      have hrow := fun a ha H => brow_spec l most (endB l most m) (tAt l t).el (hq _ (by unfold parts; rw [show kEl (tAt l t).kd = true from by simp [kEl, c11]]; simp)) (tAt l t).bd.toNat a (by omega) ha H
      rw [Int.toNat_of_nonneg hbd.1] at hrow
      rw [endB_sq c11]
      (first | refine au ?_ | exact au0 | fail)
      intro id3 hid3 ht3; have n3 := neAll_of hid3; (try simp only [neAll, neAll_hset] at n3); have m3 := n3; (repeat (obtain ⟨_, m3⟩ := m3))
      (first | refine au ?_ | exact au0 | fail)
      rw [hge]
      (first | refine au ?_ | exact au0 | fail)
      intro id7 hid7 ht7; have n7 := neAll_of hid7; (try simp only [neAll, neAll_hset] at n7); have m7 := n7; (repeat (obtain ⟨_, m7⟩ := m7))
      (first | refine au ?_ | exact au0 | fail)
      first | refine callF_eq (hnum4 _) ?_ | refine callG_eq rfl (hnum4 _) ?_
      (first | refine au ?_ | exact au0 | fail)
      cases most
      · (first | refine au ?_ | exact au0 | fail)
        exact ⟨fz_of, sub_of⟩
      · (first | refine au ?_ | exact au0 | fail)
        first | refine callF_eq (hrow _ hn4.2 _) ?_ | refine callG_eq rfl (hrow _ hn4.2 _) ?_
        (first | refine au ?_ | exact au0 | fail)
        exact ⟨fz_of, sub_of⟩
    by_cases c12 : (tAt l t).kd = 12
    · have hbd := hG.bd (by simp [kBd, c12])
      have hrow := fun H => brow_spec l most (endB l most m) (tAt l t).el (hq _ (by unfold parts; rw [show kEl (tAt l t).kd = true from by simp [kEl, c12]]; simp)) (tAt l t).bd.toNat a (by omega) ha H
      rw [Int.toNat_of_nonneg hbd.1] at hrow
      rw [endB_ar c12]
      (first | refine au ?_ | exact au0 | fail)
      intro id3 hid3 ht3; have n3 := neAll_of hid3; (try simp only [neAll, neAll_hset] at n3); have m3 := n3; (repeat (obtain ⟨_, m3⟩ := m3))
      (first | refine au ?_ | exact au0 | fail)
      rw [hge]
      (first | refine au ?_ | exact au0 | fail)
      intro id7 hid7 ht7; have n7 := neAll_of hid7; (try simp only [neAll, neAll_hset] at n7); have m7 := n7; (repeat (obtain ⟨_, m7⟩ := m7))
      (first | refine au ?_ | exact au0 | fail)
      first | refine callF_eq (hrow _) ?_ | refine callG_eq rfl (hrow _) ?_
      (first | refine au ?_ | exact au0 | fail)
      exact ⟨fz_of, sub_of⟩
    by_cases c13 : (tAt l t).kd = 13
    · rw [endB_st c13]
      (first | refine au ?_ | exact au0 | fail)
      intro id3 hid3 ht3; have n3 := neAll_of hid3; (try simp only [neAll, neAll_hset] at n3); have m3 := n3; (repeat (obtain ⟨_, m3⟩ := m3))
      (first | refine au ?_ | exact au0 | fail)
      rw [hge]
      (first | refine au ?_ | exact au0 | fail)
      intro id7 hid7 ht7; have n7 := neAll_of hid7; (try simp only [neAll, neAll_hset] at n7); have m7 := n7; (repeat (obtain ⟨_, m7⟩ := m7))
      (first | refine au ?_ | exact au0 | fail)
      refine loopM (S := Nat) [(3, some _), (58, some _), (59, some _)] (fun i => [(60, some (.int .i64 (i : Nat))), (2, some (.int .i64 (rowB (endB l most m) (((tAt l t).its.map (·.ty)).take i) a : Nat)))])
        (fun _ => (id3, .rows 2 [[tysA l, .bool most]]) :: H) (fun i => (tAt l t).its.length - i) (fun i => i ≤ (tAt l t).its.length) 0 (by repeat (first | exact trivial | refine And.intro (Or.inl rfl) ?_ | refine And.intro (Or.inr (Exists.intro _ (And.intro rfl (Fz.refl _)))) ?_ | refine And.intro (Or.inr (Exists.intro _ (And.intro rfl (fz_eq (congrArg (AV.int _) (by omega)))))) ?_ | refine And.intro (Or.inr (Exists.intro _ (And.intro rfl (fz_eq (congrArg (AV.own _ _ _) (by (try dsimp only); (try simp only [List.length_append, List.length_map, List.length_cons, List.length_nil, List.length_take, List.length_set, List.length_replicate]); (try dsimp only); first | done | omega)))))) ?_)) (by exact sub_of) (by omega) (fun i hi => ?_)
      (first | refine au ?_ | exact au0 | fail)
      refine bsplit_dec (fun c => ?_) (fun c => ?_)
      · have hii : i < (tAt l t).its.length := by omega
        have hg2 := row_get (f := itR) hii
        have hst := rowB_take (endB l most m) ((tAt l t).its.map (·.ty)) i (by simpa using hii) a
        have hb := rowB_ge (f := endB l most m) (((tAt l t).its.map (·.ty)).take i) a (fun p q a ha => by
          obtain ⟨y, hy, rfl⟩ := List.mem_map.1 (List.mem_of_mem_take q)
          exact (hq _ (parts_item (.inl c13) hy) a ha).2) ha
        have hr := fun H => brow_spec l most (endB l most m) (tAt l t).its[i].ty (hq _ (parts_item (.inl c13) (List.getElem_mem hii))) 1 _ (by omega) hb.2 H
        rw [List.getElem_map] at hst
        clear hq hun ih
        generalize (tAt l t).its[i] = z at *
        (first | refine au ?_ | exact au0 | fail)
        rw [hg2]
        (first | refine au ?_ | exact au0 | fail)
        intro id10 hid10 ht10; have n10 := neAll_of hid10; (try simp only [neAll, neAll_hset] at n10); have m10 := n10; (repeat (obtain ⟨_, m10⟩ := m10))
        (first | refine au ?_ | exact au0 | fail)
        first | refine callF_eq (hr _) ?_ | refine callG_eq rfl (hr _) ?_
        (first | refine au ?_ | exact au0 | fail)
        exact nextS (S := Nat) (i + 1) (by dsimp only; rw [hst]; exact (by repeat (first | exact trivial | refine And.intro (Or.inl rfl) ?_ | refine And.intro (Or.inr (Exists.intro _ (And.intro rfl (Fz.refl _)))) ?_ | refine And.intro (Or.inr (Exists.intro _ (And.intro rfl (fz_eq (congrArg (AV.int _) (by omega)))))) ?_ | refine And.intro (Or.inr (Exists.intro _ (And.intro rfl (fz_eq (congrArg (AV.own _ _ _) (by (try dsimp only); (try simp only [List.length_append, List.length_map, List.length_cons, List.length_nil, List.length_take, List.length_set, List.length_replicate]); (try dsimp only); first | done | omega)))))) ?_))) (by exact sub_of) (by omega) (by omega)
      · have hi' : i = (tAt l t).its.length := by omega
        rw [List.take_of_length_le (by rw [List.length_map]; omega)]
        (first | refine au ?_ | exact au0 | fail)
        exact ⟨fz_of, sub_of⟩
    by_cases c14 : (tAt l t).kd = 14
    · (first | refine au ?_ | exact au0 | fail)
      intro id3 hid3 ht3; have n3 := neAll_of hid3; (try simp only [neAll, neAll_hset] at n3); have m3 := n3; (repeat (obtain ⟨_, m3⟩ := m3))
      (first | refine au ?_ | exact au0 | fail)
      rw [hge]
      (first | refine au ?_ | exact au0 | fail)
      intro id7 hid7 ht7; have n7 := neAll_of hid7; (try simp only [neAll, neAll_hset] at n7); have m7 := n7; (repeat (obtain ⟨_, m7⟩ := m7))
      (first | refine au ?_ | exact au0 | fail)
      first | refine callF_eq (hun c14 _) ?_ | refine callG_eq rfl (hun c14 _) ?_
      (first | refine au ?_ | exact au0 | fail)
      exact ⟨fz_of, sub_of⟩
    · have hnum : isNum (tAt l t).kd = true := by simp only [isNum, decide_eq_true_eq]; omega
      have hsz := fun H => prim_Size_spec (tAt l t).kd H
      have hnn := fun H => bnumber_spec a (szK (tAt l t).kd) (szK_pos hnum) (by omega) H
      rw [endB_no (by omega)]
      (first | refine au ?_ | exact au0 | fail)
      intro id3 hid3 ht3; have n3 := neAll_of hid3; (try simp only [neAll, neAll_hset] at n3); have m3 := n3; (repeat (obtain ⟨_, m3⟩ := m3))
      (first | refine au ?_ | exact au0 | fail)
      rw [hge]
      (first | refine au ?_ | exact au0 | fail)
      intro id7 hid7 ht7; have n7 := neAll_of hid7; (try simp only [neAll, neAll_hset] at n7); have m7 := n7; (repeat (obtain ⟨_, m7⟩ := m7))
      (first | refine au ?_ | exact au0 | fail)
      first | refine callF_eq (hsz _) ?_ | refine callG_eq rfl (hsz _) ?_
      (first | refine au ?_ | exact au0 | fail)
      first | refine callF_eq (hnn _) ?_ | refine callG_eq rfl (hnn _) ?_
      (first | refine au ?_ | exact au0 | fail)
      exact ⟨fz_of, sub_of⟩
/-- What 'Most' and 'Least' answer. -/
def endsQ (l : List Ty) (most : Bool) (t a : Int) : Int := if 0 ≤ t ∧ t < l.length ∧ (tyChk l).1 = 0 then (if 512 < a then 513 else (endB l most (t.toNat + 1) t (max a 0).toNat : Nat)) else -1
theorem ends_spec (l : List Ty) (hl : TysOk l) (most : Bool) (t a : Int) (H : AH) : ACalls PG bounds_ends.n [tysA l, .int .i64 t, .int .i64 a, .bool most] H fun r H' => r = .int .i64 (endsQ l most t a) ∧ H' = H := by
  have hck := fun H => Check_spec l hl H
  have hlen : (l.map tyR).length = l.length := by simp
  have hll := hl.len
  refine ACalls.fz (bounds_ends.of rfl (wpF_start ?_))
  unfold endsQ
  by_cases c : 0 ≤ t ∧ t < l.length
  · by_cases c2 : (tyChk l).1 = 0
    · rw [if_pos ⟨c.1, c.2, c2⟩]
      have he := end_spec l hl c2 most (t.toNat + 1) t c.1 c.2 (by omega)
      by_cases c3 : 512 < a
      · rw [if_pos c3]
        (first | refine au ?_ | exact au0 | fail)
        first | refine callF_eq (hck _) ?_ | refine callG_eq rfl (hck _) ?_
        (first | refine au ?_ | exact au0 | fail)
        exact ⟨fz_of, sub_of⟩
      · rw [if_neg c3]
        have he := fun H => he (max a 0).toNat (by omega) H
        rw [show (((max a 0).toNat : Nat) : Int) = max a 0 from by omega] at he
        (first | refine au ?_ | exact au0 | fail)
        first | refine callF_eq (hck _) ?_ | refine callG_eq rfl (hck _) ?_
        (first | refine au ?_ | exact au0 | fail)
        first | refine callF_eq (he _) ?_ | refine callG_eq rfl (he _) ?_
        (first | refine au ?_ | exact au0 | fail)
        exact ⟨fz_of, sub_of⟩
    · rw [if_neg (fun q => c2 q.2.2)]
      (first | refine au ?_ | exact au0 | fail)
      first | refine callF_eq (hck _) ?_ | refine callG_eq rfl (hck _) ?_
      (first | refine au ?_ | exact au0 | fail)
      exact ⟨fz_of, sub_of⟩
  · rw [if_neg (fun q => c ⟨q.1, q.2.1⟩)]
    by_cases c1 : t < 0
    · (first | refine au ?_ | exact au0 | fail)
      exact ⟨fz_of, sub_of⟩
    · (first | refine au ?_ | exact au0 | fail)
      exact ⟨fz_of, sub_of⟩
theorem Most_spec (l : List Ty) (hl : TysOk l) (t a : Int) (H : AH) : ACalls PG bounds_Most.n [tysA l, .int .i64 t, .int .i64 a] H fun r H' => r = .int .i64 (endsQ l true t a) ∧ H' = H := by
  refine ACalls.fz (bounds_Most.of rfl (wpF_start ?_))
  (first | refine au ?_ | exact au0 | fail)
  first | refine callF_eq (ends_spec l hl true t a _) ?_ | refine callG_eq rfl (ends_spec l hl true t a _) ?_
  (first | refine au ?_ | exact au0 | fail)
  exact ⟨fz_of, sub_of⟩
theorem Least_spec (l : List Ty) (hl : TysOk l) (t a : Int) (H : AH) : ACalls PG bounds_Least.n [tysA l, .int .i64 t, .int .i64 a] H fun r H' => r = .int .i64 (endsQ l false t a) ∧ H' = H := by
  refine ACalls.fz (bounds_Least.of rfl (wpF_start ?_))
  (first | refine au ?_ | exact au0 | fail)
  first | refine callF_eq (ends_spec l hl false t a _) ?_ | refine callG_eq rfl (ends_spec l hl false t a _) ?_
  (first | refine au ?_ | exact au0 | fail)
  exact ⟨fz_of, sub_of⟩
end Go.Proofs.Ytmjdkeonjflanaa
