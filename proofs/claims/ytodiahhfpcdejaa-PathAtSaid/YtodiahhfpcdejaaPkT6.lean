/- Texts of this proof, one behind the other: TypItem, TypDeep, RTypSpec, RTypItem, RTypCheck, RTypMore, ValSpec, FitSpec, FitSpec2, FitSpec3, RFitSpec, PathStep, PathNext. -/
import Derived.Test.YtodiahhfpcdejaaPkT5
/- Types, walked: a type's items. -/
namespace Go.Proofs.Ytodiahhfpcdejaa
set_option autoImplicit false
set_option linter.unusedSimpArgs false
set_option linter.unusedVariables false
attribute [local irreducible] callA callP ACalls
theorem getD_get {α : Type} {l : List α} {i : Nat} {d : α} (h : i < l.length) : l.getD i d = l[i] := by simp [List.getD, h]
theorem parts_item {t : Ty} (h : t.kd = 13 ∨ t.kd = 14) {x : It} (hx : x ∈ t.its) : x.ty ∈ parts t := by
  unfold parts; rw [if_pos h]; simp only [List.mem_append]; exact .inr (List.mem_map_of_mem hx)
theorem item_spec (l : List Ty) (hl : TysOk l) (n : Nat) (t : Ty) (hok : TyOk t) (hn : n ≤ l.length) (hN : kNm t.kd = true) (ho : orderE l t n = 0) (i : Nat) (hi : i < t.its.length) (id : Nat) :
    SW PG types_look_item.n [.ptr id 8 0 0, .int .i64 (i : Nat)] id (kB l n t) [] (.int .i64 (itemE l t i)) (kB l n t) := by
  have hlen : (t.its.map itR).length = t.its.length := by simp
  have hll := hl.len
  have hli := hok.its
  have hge := row_get (f := itR) hi
  have hx := List.getElem_mem hi
  have hsn := hok.nms _ hx
  have hpt := fun h => parts_item (t := t) h hx
  have hmay := fun h13 => may_spec l hl n t hn hN h13 ho t.its[i].num id
  refine ACalls.fz (types_look_item.of rfl (wpF_start ?_))
  unfold itemE
  dsimp only
  rw [getD_get hi]
  generalize t.its[i] = x at *
  (first | refine au ?_ | exact au0 | fail)
  rw [hge]
  (first | refine au ?_ | exact au0 | fail)
  intro id5 hid5 ht5; have n5 := neAll_of hid5; (try simp only [neAll, neAll_hset] at n5); have m5 := n5; (repeat (obtain ⟨_, m5⟩ := m5))
  (first | refine au ?_ | exact au0 | fail)
  first | refine callF_eq (name_Name_spec _ hsn _) ?_ | refine callG_eq rfl (name_Name_spec _ hsn _) ?_
  cases hO : nameOk x.nm
  · (first | refine au ?_ | exact au0 | fail)
    exact ⟨fz_of, sub_of⟩
  rw [if_pos rfl]
  (first | refine au ?_ | exact au0 | fail)
  have e1 : List.drop (Int.toNat 0) (List.take (Int.toNat (i : Nat)) (t.its.map itR)) = (t.its.take i).map itR := by simp
  have hl2 : (t.its.take i).length = i := by rw [List.length_take]; omega
  have hlen2 : ((t.its.take i).map itR).length = i := by simp; omega
  rw [e1]
  refine loopL [(0, some _), (1, some _), (5, some _), (29, some _), (30, some _)] 31 0 i (none' (fun y => y.nm == x.nm) (t.its.take i)) (by repeat (first | exact trivial | refine And.intro (Or.inl rfl) ?_ | refine And.intro (Or.inr (Exists.intro _ (And.intro rfl (Fz.refl _)))) ?_ | refine And.intro (Or.inr (Exists.intro _ (And.intro rfl (fz_eq (congrArg (AV.int _) (by omega)))))) ?_ | refine And.intro (Or.inr (Exists.intro _ (And.intro rfl (fz_eq (congrArg (AV.own _ _ _) (by (try dsimp only); (try simp only [List.length_append, List.length_map, List.length_cons, List.length_nil, List.length_take, List.length_set, List.length_replicate]); (try dsimp only); first | done | omega)))))) ?_)) (Nat.zero_le _) none'_zero (fun j hj hno => ?_)
  (first | refine au ?_ | exact au0 | fail)
  refine bsplit_dec (fun c => ?_) (fun c => ?_)
  · have hil : j < (t.its.take i).length := by omega
    have hge2 := row_get (f := itR) hil
    have hany : ((t.its.take i)[j].nm == x.nm) = true → (t.its.take i).any (fun y => y.nm == x.nm) = true := any_hit (p := fun y : It => y.nm == x.nm) hil
    have hnx := none'_succ hno hil
    generalize (t.its.take i)[j] = y at *
    (first | refine au ?_ | exact au0 | fail)
    rw [hge2]
    (first | refine au ?_ | exact au0 | fail)
    intro id7 hid7 ht7; have n7 := neAll_of hid7; (try simp only [neAll, neAll_hset] at n7); have m7 := n7; (repeat (obtain ⟨_, m7⟩ := m7))
    (first | refine au ?_ | exact au0 | fail)
    refine bsplit_dec (fun h => ?_) (fun h => ?_)
    · (first | refine au ?_ | exact au0 | fail)
      rw [hany (by simpa using h)]
      exact ⟨fz_of, sub_of⟩
    · (first | refine au ?_ | exact au0 | fail)
      refine nextN (by repeat (first | exact trivial | refine And.intro (Or.inl rfl) ?_ | refine And.intro (Or.inr (Exists.intro _ (And.intro rfl (Fz.refl _)))) ?_ | refine And.intro (Or.inr (Exists.intro _ (And.intro rfl (fz_eq (congrArg (AV.int _) (by omega)))))) ?_ | refine And.intro (Or.inr (Exists.intro _ (And.intro rfl (fz_eq (congrArg (AV.own _ _ _) (by (try dsimp only); (try simp only [List.length_append, List.length_map, List.length_cons, List.length_nil, List.length_take, List.length_set, List.length_replicate]); (try dsimp only); first | done | omega)))))) ?_)) (by exact sub_of) (by omega) (hnx (by simpa using h))
  rw [none'_end hno (by omega), if_neg Bool.false_ne_true]
  (first | refine au ?_ | exact au0 | fail)
  refine bsplit_dec (fun h13 => ?_) (fun h13 => ?_)
  · have hin := orderE_in ho _ (hpt (.inl h13))
    have hge3 := tAt_get (l := l) hin.1 (by omega)
    rw [if_pos h13]
    generalize tAt l x.ty = g at *
    (first | refine au ?_ | exact au0 | fail)
    rw [hge3]
    cases hkey : x.key
    all_goals (repeat' (first | (refine au ?_; first | refine callF_eq (prim_Number_spec _ _) ?_ | refine bsplit_dec (fun _ => ?_) (fun _ => ?_) | refine bsplit_intro (fun _ => ?_) (fun _ => ?_)) | exact au0 | fail)); (all_goals try (first | refine au ?_ | fail))
    all_goals (refine ⟨fz_eq (congrArg (AV.int .i64) ?_), sub_of⟩; first | (simp only [isNum, decide_eq_false_iff_not, true_and, Bool.false_eq_true, false_and, if_false]; done) | (simp only [isNum, decide_eq_false_iff_not, true_and, Bool.false_eq_true, false_and, if_false]; split <;> omega))
  · rw [if_neg h13]
    have hm := hmay h13
    cases hr : x.rest
    · (first | refine au ?_ | exact au0 | fail)
      refine hm.call (by exact hg_of) (Sub.nil _) ?_
      cases hy : mayT l t x.num
      · (first | refine au ?_ | exact au0 | fail)
        exact ⟨fz_of, sub_of⟩
      (first | refine au ?_ | exact au0 | fail)
      rw [e1]
      refine loopL [(5, some _), (97, some _), (98, some _)] 99 0 i (none' (fun y => y.num == x.num) (t.its.take i)) (by repeat (first | exact trivial | refine And.intro (Or.inl rfl) ?_ | refine And.intro (Or.inr (Exists.intro _ (And.intro rfl (Fz.refl _)))) ?_ | refine And.intro (Or.inr (Exists.intro _ (And.intro rfl (fz_eq (congrArg (AV.int _) (by omega)))))) ?_ | refine And.intro (Or.inr (Exists.intro _ (And.intro rfl (fz_eq (congrArg (AV.own _ _ _) (by (try dsimp only); (try simp only [List.length_append, List.length_map, List.length_cons, List.length_nil, List.length_take, List.length_set, List.length_replicate]); (try dsimp only); first | done | omega)))))) ?_)) (Nat.zero_le _) none'_zero (fun j hj hno => ?_)
      (first | refine au ?_ | exact au0 | fail)
      refine bsplit_dec (fun c => ?_) (fun c => ?_)
      · have hil : j < (t.its.take i).length := by omega
        have hge2 := row_get (f := itR) hil
        have hany : ((t.its.take i)[j].num == x.num) = true → (t.its.take i).any (fun y => y.num == x.num) = true := any_hit (p := fun y : It => y.num == x.num) hil
        have hnx := none'_succ hno hil
        generalize (t.its.take i)[j] = y at *
        (first | refine au ?_ | exact au0 | fail)
        rw [hge2]
        (first | refine au ?_ | exact au0 | fail)
        intro id7 hid7 ht7; have n7 := neAll_of hid7; (try simp only [neAll, neAll_hset] at n7); have m7 := n7; (repeat (obtain ⟨_, m7⟩ := m7))
        (first | refine au ?_ | exact au0 | fail)
        refine bsplit_dec (fun h => ?_) (fun h => ?_)
        · (first | refine au ?_ | exact au0 | fail)
          rw [hany (by simp; omega)]
          exact ⟨fz_of, sub_of⟩
        · (first | refine au ?_ | exact au0 | fail)
          refine nextN (by repeat (first | exact trivial | refine And.intro (Or.inl rfl) ?_ | refine And.intro (Or.inr (Exists.intro _ (And.intro rfl (Fz.refl _)))) ?_ | refine And.intro (Or.inr (Exists.intro _ (And.intro rfl (fz_eq (congrArg (AV.int _) (by omega)))))) ?_ | refine And.intro (Or.inr (Exists.intro _ (And.intro rfl (fz_eq (congrArg (AV.own _ _ _) (by (try dsimp only); (try simp only [List.length_append, List.length_map, List.length_cons, List.length_nil, List.length_take, List.length_set, List.length_replicate]); (try dsimp only); first | done | omega)))))) ?_)) (by exact sub_of) (by omega) (hnx (by simp; omega))
      · rw [none'_end hno (by omega)]
        (first | refine au ?_ | exact au0 | fail)
        exact ⟨fz_of, sub_of⟩
    · rw [if_pos (rfl : true = true)]
      (first | refine au ?_ | exact au0 | fail)
      refine bsplit_dec (fun c => ?_) (fun c => ?_)
      · (first | refine au ?_ | exact au0 | fail)
        refine ⟨fz_eq (congrArg (AV.int .i64) ?_), sub_of⟩
        rw [if_neg (by omega)]
      · (first | refine au ?_ | exact au0 | fail)
        refine ⟨fz_eq (congrArg (AV.int .i64) ?_), sub_of⟩
        rw [if_pos (by omega)]
theorem items_spec (l : List Ty) (hl : TysOk l) (n : Nat) (t : Ty) (hok : TyOk t) (hn : n ≤ l.length) (ho : orderE l t n = 0) (id : Nat) :
    SW PG types_look_items.n [.ptr id 8 0 0] id (kB l n t) [] (.int .i64 (itemsE l t)) (kB l n t) := by
  have hlen : (t.its.map itR).length = t.its.length := by simp
  have hli := hok.its
  refine ACalls.fz (types_look_items.of rfl (wpF_start ?_))
  unfold itemsE
  (first | refine au ?_ | exact au0 | fail)
  first | refine callF_eq (has_spec _ _) ?_ | refine callG_eq rfl (has_spec _ _) ?_
  cases hN : kNm t.kd
  · (first | refine au ?_ | exact au0 | fail)
    exact ⟨fz_of, sub_of⟩
  rw [if_pos rfl]
  (first | refine au ?_ | exact au0 | fail)
  refine bsplit_dec (fun c => ?_) (fun c => ?_)
  · (first | refine au ?_ | exact au0 | fail)
    exact ⟨fz_eq (congrArg (AV.int .i64) (by rw [if_pos (by omega)])), sub_of⟩
  rw [if_neg (by omega)]
  (first | refine au ?_ | exact au0 | fail)
  refine bsplit_dec (fun c2 => ?_) (fun c2 => ?_)
  · (first | refine au ?_ | exact au0 | fail)
    exact ⟨fz_eq (congrArg (AV.int .i64) (by rw [if_pos (by omega)])), sub_of⟩
  rw [if_neg (by omega)]
  (first | refine au ?_ | exact au0 | fail)
  have hgl : ∀ (k : Nat) (h : k < ((List.range t.its.length).map (itemE l t)).length), ((List.range t.its.length).map (itemE l t))[k] = itemE l t k := fun k h => by simp
  have hlm : ((List.range t.its.length).map (itemE l t)).length = t.its.length := by simp
  refine loopL [(0, some _), (40, some _)] 41 0 t.its.length (fun i => ∀ k, k < i → itemE l t k = 0) (by repeat (first | exact trivial | refine And.intro (Or.inl rfl) ?_ | refine And.intro (Or.inr (Exists.intro _ (And.intro rfl (Fz.refl _)))) ?_ | refine And.intro (Or.inr (Exists.intro _ (And.intro rfl (fz_eq (congrArg (AV.int _) (by omega)))))) ?_ | refine And.intro (Or.inr (Exists.intro _ (And.intro rfl (fz_eq (congrArg (AV.own _ _ _) (by (try dsimp only); (try simp only [List.length_append, List.length_map, List.length_cons, List.length_nil, List.length_take, List.length_set, List.length_replicate]); (try dsimp only); first | done | omega)))))) ?_)) (Nat.zero_le _) (fun k h => by omega) (fun i hi hno => ?_)
  (first | refine au ?_ | exact au0 | fail)
  refine bsplit_dec (fun c3 => ?_) (fun c3 => ?_)
  · have hil : i < t.its.length := by omega
    (first | refine au ?_ | exact au0 | fail)
    refine (item_spec l hl n t hok hn hN ho i hil id).call (by exact hg_of) (Sub.nil _) ?_
    (first | refine au ?_ | exact au0 | fail)
    refine bsplit_dec (fun h => ?_) (fun h => ?_)
    · (first | refine au ?_ | exact au0 | fail)
      rw [fst0_hit (i := i) (fun k hk h3 => by rw [hgl]; exact hno k h3) (by omega) (by rw [hgl]; exact h), hgl]
      exact ⟨fz_of, sub_of⟩
    · (first | refine au ?_ | exact au0 | fail)
      refine nextN (by repeat (first | exact trivial | refine And.intro (Or.inl rfl) ?_ | refine And.intro (Or.inr (Exists.intro _ (And.intro rfl (Fz.refl _)))) ?_ | refine And.intro (Or.inr (Exists.intro _ (And.intro rfl (fz_eq (congrArg (AV.int _) (by omega)))))) ?_ | refine And.intro (Or.inr (Exists.intro _ (And.intro rfl (fz_eq (congrArg (AV.own _ _ _) (by (try dsimp only); (try simp only [List.length_append, List.length_map, List.length_cons, List.length_nil, List.length_take, List.length_set, List.length_replicate]); (try dsimp only); first | done | omega)))))) ?_)) (by exact sub_of) (by omega) (fun k hk => ?_)
      by_cases e : k = i
      · subst e; exact Classical.not_not.1 h
      · exact hno k (by omega)
  · (first | refine au ?_ | exact au0 | fail)
    rw [fst0_end (fun k hk => by rw [hgl]; exact hno k (by omega))]
    exact ⟨fz_of, sub_of⟩
end Go.Proofs.Ytodiahhfpcdejaa

/- Types, walked: how deep. -/
namespace Go.Proofs.Ytodiahhfpcdejaa
set_option autoImplicit false
set_option linter.unusedSimpArgs false
set_option linter.unusedVariables false
attribute [local irreducible] callA callP ACalls
abbrev naR (n : Nat) : List AV := [.int .i64 (n : Nat)]
/-- A part's depth, met. -/
def dpF (D : List Nat) (n : Nat) (m : Nat) (p : Int) : Nat := if 0 ≤ p ∧ p < (n : Int) then max m (D.getD p.toNat 0 + 1) else m
theorem dpT_succ (l : List Ty) (n : Nat) : dpT l (n + 1) = dpT l n ++ [(parts (l.getD n ty0)).foldl (dpF (dpT l n) n) 1] := rfl
theorem dpT_len (l : List Ty) : ∀ n, (dpT l n).length = n
  | 0 => rfl
  | n + 1 => by rw [dpT_succ, List.length_append, dpT_len l n]; rfl
theorem foldl_take {α β : Type} (f : β → α → β) (b : β) (l : List α) (i : Nat) (h : i < l.length) : (l.take (i + 1)).foldl f b = f ((l.take i).foldl f b) l[i] := by
  rw [List.take_add_one, List.getElem?_eq_getElem h, List.foldl_append]; rfl
theorem dpF_le {D : List Nat} {n b : Nat} (hD : ∀ x ∈ D, x ≤ b) : ∀ (ps : List Int) (m : Nat), m ≤ b + 1 → ps.foldl (dpF D n) m ≤ b + 1
  | [], m, h => h
  | p :: ps, m, h => by
    refine dpF_le hD ps _ ?_
    unfold dpF
    split
    · have : D.getD p.toNat 0 ≤ b := by
        by_cases hp : p.toNat < D.length
        · rw [getD_get hp]; exact hD _ (List.getElem_mem hp)
        · simp [List.getD, hp]
      omega
    · exact h
theorem dpT_le (l : List Ty) : ∀ n, ∀ x ∈ dpT l n, x ≤ n
  | 0, x, h => by cases h
  | n + 1, x, h => by
    rw [dpT_succ, List.mem_append] at h
    rcases h with h | h
    · have := dpT_le l n x h; omega
    · simp only [List.mem_singleton] at h
      rw [h]
      exact dpF_le (dpT_le l n) _ _ (by omega)
/-- Depths in memory: the first n, one, zeros. -/
def dpR (D : List Nat) (m k : Nat) : List (List AV) := (D ++ m :: List.replicate k 0).map naR
theorem dpR_set {D : List Nat} {m m' k n : Nat} (h : D.length = n) : (dpR D m k).set n (naR m') = dpR D m' k := by
  unfold dpR
  rw [← List.map_set, List.set_append_right _ _ (by omega)]
  simp [h]
theorem dpR_at {D : List Nat} {m k n : Nat} (h : D.length = n) : (dpR D m k)[n]? = some (naR m) := by
  unfold dpR; rw [List.getElem?_map, List.getElem?_append_right (by omega)]; simp [h]
theorem dpR_lt {D : List Nat} {m k p : Nat} (h : p < D.length) : (dpR D m k)[p]? = some (naR (D.getD p 0)) := by
  unfold dpR; rw [List.getElem?_map, List.getElem?_append_left h]; simp [List.getD, h]
theorem dpR_len (D : List Nat) (m k : Nat) : (dpR D m k).length = D.length + 1 + k := by simp [dpR]; omega
theorem Deep_spec0 (l : List Ty) (hl : TysOk l) (t : Int) : ACalls PG types_Deep.n [tysA l, .int .i64 t] [] fun r _ => r = .int .i64 (deepT l t : Nat) := by
  have hlen : (l.map tyR).length = l.length := by simp
  have hll := hl.len
  refine ACalls.fzK (types_Deep.of rfl (wpF_start ?_))
  unfold deepT
  by_cases hb : 0 ≤ t ∧ t < l.length
  · rw [if_pos hb]
    obtain ⟨n, rfl⟩ : ∃ n : Nat, t = n := ⟨t.toNat, by omega⟩
    rw [show Int.toNat (n : Nat) = n from rfl]
    (first | refine au ?_ | exact au0 | fail)
    intro id5 hid5 ht5; have n5 := neAll_of hid5; (try simp only [neAll, neAll_hset] at n5); have m5 := n5; (repeat (obtain ⟨_, m5⟩ := m5))
    (first | refine au ?_ | exact au0 | fail)
    rw [show ((n : Int) + 1).toNat = n + 1 from by omega]
    refine loopM (S := Nat) [(0, some _), (1, some _), (5, some _), (21, some _)] (fun i => [(22, some (.int .i64 (i : Nat)))]) (fun i => [(id5, .rows 1 ((dpT l i ++ List.replicate (n + 1 - i) 0).map naR))]) (fun i => n + 1 - i) (fun i => i ≤ n + 1) 0 (by repeat (first | exact trivial | refine And.intro (Or.inl rfl) ?_ | refine And.intro (Or.inr (Exists.intro _ (And.intro rfl (Fz.refl _)))) ?_ | refine And.intro (Or.inr (Exists.intro _ (And.intro rfl (fz_eq (congrArg (AV.int _) (by omega)))))) ?_ | refine And.intro (Or.inr (Exists.intro _ (And.intro rfl (fz_eq (congrArg (AV.own _ _ _) (by (try dsimp only); (try simp only [List.length_append, List.length_map, List.length_cons, List.length_nil, List.length_take, List.length_set, List.length_replicate]); (try dsimp only); first | done | omega)))))) ?_)) (by simp only [dpT, List.nil_append, List.map_replicate]; exact Sub.refl _) (by omega) (fun i hi => ?_)
    have hD := dpT_len l i
    have hDle := dpT_le l i
    (first | refine au ?_ | exact au0 | fail)
    refine bsplit_dec (fun c => ?_) (fun c => ?_)
    · have hin : i ≤ n := by omega
      have hB : (dpT l i ++ List.replicate (n + 1 - i) 0).map naR = dpR (dpT l i) 0 (n - i) := by
        unfold dpR; rw [show n + 1 - i = (n - i) + 1 from by omega, List.replicate_succ]
      rw [hB]
      have hil : i < l.length := by omega
      have hge := row_get (f := tyR) hil
      have hpe : l.getD i ty0 = l[i] := getD_get hil
      have hti := (hl.all _ (List.getElem_mem hil)).its
      (first | refine au ?_ | exact au0 | fail)
      refine ⟨_, _, (by exact hg_of), (by rw [Nat.zero_add, Int.toNat_natCast]; exact dpR_at hD), rfl, rfl, (Nat.le_of_ble_eq_true rfl), hsetN_of (b' := .rows 1 (dpR (dpT l i) 1 (n - i))) (by rw [Nat.zero_add, Int.toNat_natCast]; exact congrArg (Blk.rows 1) (dpR_set (m' := 1) hD)) ?_⟩
      (first | refine au ?_ | exact au0 | fail)
      rw [hge]
      have hps := dpT_succ l i
      rw [hpe] at hps
      generalize l[i] = g at *
      have hpl := parts_len g
      have hplm : ((parts g).map inR).length = (parts g).length := by simp
      (first | refine au ?_ | exact au0 | fail)
      first | refine callF_eq (parts_spec g hti _) ?_ | refine callG_eq rfl (parts_spec g hti _) ?_
      (first | refine au ?_ | exact au0 | fail)
      refine loopM (S := Nat) [(0, some _), (1, some _), (5, some _), (6, some _), (21, some _), (22, some _), (32, some _), (33, some _)] (fun j => [(34, some (.int .i64 (j : Nat)))]) (fun j => [(id5, .rows 1 (dpR (dpT l i) (((parts g).take j).foldl (dpF (dpT l i) i) 1) (n - i)))]) (fun j => (parts g).length - j) (fun j => j ≤ (parts g).length) 0 (by repeat (first | exact trivial | refine And.intro (Or.inl rfl) ?_ | refine And.intro (Or.inr (Exists.intro _ (And.intro rfl (Fz.refl _)))) ?_ | refine And.intro (Or.inr (Exists.intro _ (And.intro rfl (fz_eq (congrArg (AV.int _) (by omega)))))) ?_ | refine And.intro (Or.inr (Exists.intro _ (And.intro rfl (fz_eq (congrArg (AV.own _ _ _) (by (try dsimp only); (try simp only [List.length_append, List.length_map, List.length_cons, List.length_nil, List.length_take, List.length_set, List.length_replicate]); (try dsimp only); first | done | omega)))))) ?_)) (Sub.refl _) (by omega) (fun j hj => ?_)
      have hm := dpF_le (n := i) hDle ((parts g).take j) 1 (by omega)
      (first | refine au ?_ | exact au0 | fail)
      refine bsplit_dec (fun c2 => ?_) (fun c2 => ?_)
      · have hjl : j < (parts g).length := by omega
        have hge2 := row_get (f := inR) hjl
        have hft := foldl_take (dpF (dpT l i) i) 1 (parts g) j hjl
        generalize (parts g)[j] = p at *
        generalize ((parts g).take j).foldl (dpF (dpT l i) i) 1 = m at *
        (first | refine au ?_ | exact au0 | fail)
        rw [hge2]
        (first | refine au ?_ | exact au0 | fail)
        rw [show dpF (dpT l i) i m p = if 0 ≤ p ∧ p < (i : Int) then max m ((dpT l i).getD p.toNat 0 + 1) else m from rfl] at hft
        refine bsplit_dec (fun c3 => ?_) (fun c3 => ?_)
        · (first | refine au ?_ | exact au0 | fail)
          refine bsplit_dec (fun c4 => ?_) (fun c4 => ?_)
          · rw [if_pos (by omega)] at hft
            (first | refine au ?_ | exact au0 | fail)
            refine ⟨_, _, (by exact hg_of), (by rw [Nat.zero_add, Int.toNat_natCast]; exact dpR_at hD), ?_⟩
            (first | refine au ?_ | exact au0 | fail)
            have hpl : p.toNat < (dpT l i).length := by omega
            have hpv : (dpT l i).getD p.toNat 0 ≤ i := by rw [getD_get hpl]; exact hDle _ (List.getElem_mem hpl)
            refine ⟨_, _, (by exact hg_of), (by rw [Nat.zero_add]; exact dpR_lt hpl), ?_⟩
            (first | refine au ?_ | exact au0 | fail)
            refine ⟨_, _, (by exact hg_of), (by rw [Nat.zero_add, Int.toNat_natCast]; exact dpR_at hD), rfl, rfl, (Nat.le_of_ble_eq_true rfl), hsetN_of (b' := .rows 1 (dpR (dpT l i) (max m ((dpT l i).getD p.toNat 0 + 1)) (n - i))) (by
              rw [Nat.zero_add, Int.toNat_natCast]
              refine Eq.trans (congrArg (fun x : List AV => Blk.rows 1 (List.set (dpR (dpT l i) m (n - i)) i x)) ?_) (congrArg (Blk.rows 1) (dpR_set (m' := max m ((dpT l i).getD p.toNat 0 + 1)) hD))
              show [AV.int .i64 (max (m : Int) (((dpT l i).getD p.toNat 0 : Nat) + 1))] = [AV.int .i64 ((max m ((dpT l i).getD p.toNat 0 + 1) : Nat) : Int)]
              rw [cast_max]; rfl) ?_⟩
            (first | refine au ?_ | exact au0 | fail)
            refine nextS (S := Nat) (j + 1) (by repeat (first | exact trivial | refine And.intro (Or.inl rfl) ?_ | refine And.intro (Or.inr (Exists.intro _ (And.intro rfl (Fz.refl _)))) ?_ | refine And.intro (Or.inr (Exists.intro _ (And.intro rfl (fz_eq (congrArg (AV.int _) (by omega)))))) ?_ | refine And.intro (Or.inr (Exists.intro _ (And.intro rfl (fz_eq (congrArg (AV.own _ _ _) (by (try dsimp only); (try simp only [List.length_append, List.length_map, List.length_cons, List.length_nil, List.length_take, List.length_set, List.length_replicate]); (try dsimp only); first | done | omega)))))) ?_)) (by (try dsimp only); rw [hft]; exact Sub.refl _) (by first | omega | (dsimp only; omega)) hjl
          · rw [if_neg (by omega)] at hft
            (first | refine au ?_ | exact au0 | fail)
            refine nextS (S := Nat) (j + 1) (by repeat (first | exact trivial | refine And.intro (Or.inl rfl) ?_ | refine And.intro (Or.inr (Exists.intro _ (And.intro rfl (Fz.refl _)))) ?_ | refine And.intro (Or.inr (Exists.intro _ (And.intro rfl (fz_eq (congrArg (AV.int _) (by omega)))))) ?_ | refine And.intro (Or.inr (Exists.intro _ (And.intro rfl (fz_eq (congrArg (AV.own _ _ _) (by (try dsimp only); (try simp only [List.length_append, List.length_map, List.length_cons, List.length_nil, List.length_take, List.length_set, List.length_replicate]); (try dsimp only); first | done | omega)))))) ?_)) (by (try dsimp only); rw [hft]; exact Sub.refl _) (by first | omega | (dsimp only; omega)) hjl
        · rw [if_neg (by omega)] at hft
          (first | refine au ?_ | exact au0 | fail)
          refine nextS (S := Nat) (j + 1) (by repeat (first | exact trivial | refine And.intro (Or.inl rfl) ?_ | refine And.intro (Or.inr (Exists.intro _ (And.intro rfl (Fz.refl _)))) ?_ | refine And.intro (Or.inr (Exists.intro _ (And.intro rfl (fz_eq (congrArg (AV.int _) (by omega)))))) ?_ | refine And.intro (Or.inr (Exists.intro _ (And.intro rfl (fz_eq (congrArg (AV.own _ _ _) (by (try dsimp only); (try simp only [List.length_append, List.length_map, List.length_cons, List.length_nil, List.length_take, List.length_set, List.length_replicate]); (try dsimp only); first | done | omega)))))) ?_)) (by (try dsimp only); rw [hft]; exact Sub.refl _) (by first | omega | (dsimp only; omega)) hjl
      · obtain rfl : j = (parts g).length := by omega
        rw [List.take_length]
        (first | refine au ?_ | exact au0 | fail)
        refine nextS (S := Nat) (i + 1) (by repeat (first | exact trivial | refine And.intro (Or.inl rfl) ?_ | refine And.intro (Or.inr (Exists.intro _ (And.intro rfl (Fz.refl _)))) ?_ | refine And.intro (Or.inr (Exists.intro _ (And.intro rfl (fz_eq (congrArg (AV.int _) (by omega)))))) ?_ | refine And.intro (Or.inr (Exists.intro _ (And.intro rfl (fz_eq (congrArg (AV.own _ _ _) (by (try dsimp only); (try simp only [List.length_append, List.length_map, List.length_cons, List.length_nil, List.length_take, List.length_set, List.length_replicate]); (try dsimp only); first | done | omega)))))) ?_)) (by
          (try dsimp only)
          rw [hps, show n + 1 - (i + 1) = n - i from by omega]
          unfold dpR
          rw [List.append_assoc]
          exact Sub.refl _) (by first | omega | (dsimp only; omega)) (by omega)
    · obtain rfl : i = n + 1 := by omega
      (first | refine au ?_ | exact au0 | fail)
      have hnl : n < (dpT l (n + 1)).length := by omega
      refine ⟨_, naR ((dpT l (n + 1)).getD n 0), (by exact hg_of), (by rw [Nat.zero_add, Int.toNat_natCast, List.getElem?_map, List.getElem?_append_left hnl, List.getElem?_eq_getElem hnl, getD_get hnl]; rfl), ?_⟩
      (first | refine au ?_ | exact au0 | fail)
      exact fz_of
  · rw [if_neg hb]
    (repeat' (first | (refine au ?_; first | refine bsplit_dec (fun _ => ?_) (fun _ => ?_) | refine bsplit_intro (fun _ => ?_) (fun _ => ?_)) | exact au0 | fail)); (all_goals try (first | refine au ?_ | fail))
    all_goals first | omega | exact fz_of
theorem Deep_tspec (l : List Ty) (hl : TysOk l) (t : Int) (H : AH) : ACalls PG types_Deep.n [tysA l, .int .i64 t] H fun r H' => r = .int .i64 (deepT l t : Nat) ∧ H' = H := (Deep_spec0 l hl t).frame H
theorem deep_spec (l : List Ty) (hl : TysOk l) (n : Nat) (t : Ty) (id : Nat) : SW PG types_look_deep.n [.ptr id 8 0 0] id (kB l n t) [] (.int .i64 (deepE l n)) (kB l n t) := by
  refine ACalls.fz (types_look_deep.of rfl (wpF_start ?_))
  unfold deepE
  (first | refine au ?_ | exact au0 | fail)
  first | refine callF_eq (Deep_tspec l hl _ _) ?_ | refine callG_eq rfl (Deep_tspec l hl _ _) ?_
  (first | refine au ?_ | exact au0 | fail)
  refine bsplit_dec (fun c => ?_) (fun c => ?_)
  · (first | refine au ?_ | exact au0 | fail)
    exact ⟨fz_eq (congrArg (AV.int .i64) (by rw [if_pos (by omega)])), sub_of⟩
  · (first | refine au ?_ | exact au0 | fail)
    exact ⟨fz_eq (congrArg (AV.int .i64) (by rw [if_neg (by omega)])), sub_of⟩
theorem Check_spec0 (l : List Ty) (hl : TysOk l) : ACalls PG types_Check.n [tysA l] [] fun r _ => r = .agg [.int .i64 (tyChk l).1, .int .i64 (tyChk l).2] := by
  have hlen : (l.map tyR).length = l.length := by simp
  have hll := hl.len
  refine ACalls.fzK (types_Check.of rfl (wpF_start ?_))
  unfold tyChk
  (first | refine au ?_ | exact au0 | fail)
  intro id2 hid2 ht2; have n2 := neAll_of hid2; (try simp only [neAll, neAll_hset] at n2); have m2 := n2; (repeat (obtain ⟨_, m2⟩ := m2))
  (first | refine au ?_ | exact au0 | fail)
  refine bsplit_dec (fun c => ?_) (fun c => ?_)
  · rw [if_pos (by omega)]
    (first | refine au ?_ | exact au0 | fail)
    exact fz_of
  rw [if_neg (by omega)]
  (first | refine au ?_ | exact au0 | fail)
  have hr : (List.range l.length).length = l.length := List.length_range
  refine loopL [(0, some _), (2, some _), (13, some _), (14, some _)] 15 0 l.length (none' (fun i => decide (tyErr l i ≠ 0)) (List.range l.length)) (by repeat (first | exact trivial | refine And.intro (Or.inl rfl) ?_ | refine And.intro (Or.inr (Exists.intro _ (And.intro rfl (Fz.refl _)))) ?_ | refine And.intro (Or.inr (Exists.intro _ (And.intro rfl (fz_eq (congrArg (AV.int _) (by omega)))))) ?_ | refine And.intro (Or.inr (Exists.intro _ (And.intro rfl (fz_eq (congrArg (AV.own _ _ _) (by (try dsimp only); (try simp only [List.length_append, List.length_map, List.length_cons, List.length_nil, List.length_take, List.length_set, List.length_replicate]); (try dsimp only); first | done | omega)))))) ?_)) (Nat.zero_le _) none'_zero (fun i hi hno => ?_)
  (first | refine au ?_ | exact au0 | fail)
  refine bsplit_dec (fun c2 => ?_) (fun c2 => ?_)
  · have hil : i < l.length := by omega
    have hge := row_get (f := tyR) hil
    have hto := hl.all _ (List.getElem_mem hil)
    have hte : tyErr l i = fst0 [formE l[i], namedE l l[i] i, boundE l[i], orderE l l[i] i, itemsE l l[i], deepE l i] := by unfold tyErr; rw [getD_get hil]
    have hhit : tyErr l i ≠ 0 → (List.range l.length).findIdx? (fun i => decide (tyErr l i ≠ 0)) = some i := fun q => find_hit hno (by omega) (by simpa using q)
    have hnx : tyErr l i = 0 → _ := fun q => none'_succ hno (by omega) (by simpa using q)
    have h0 := form_spec l i l[i] hto
    have h1 := named_spec l i l[i] hto hl hi
    have h2 := bound_spec l i l[i]
    have h3 := order_spec l i l[i] hto hl hil
    have h4 := items_spec l hl i l[i] hto hi
    have h5 := deep_spec l hl i l[i]
    generalize l[i] = g at *
    (first | refine au ?_ | exact au0 | fail)
    rw [hge]
    (first | refine au ?_ | exact au0 | fail)
    intro id4 hid4 ht4; have n4 := neAll_of hid4; (try simp only [neAll, neAll_hset] at n4); have m4 := n4; (repeat (obtain ⟨_, m4⟩ := m4))
    (first | refine au ?_ | exact au0 | fail)
    intro id24 hid24 ht24; have n24 := neAll_of hid24; (try simp only [neAll, neAll_hset] at n24); have m24 := n24; (repeat (obtain ⟨_, m24⟩ := m24))
    (first | refine au ?_ | exact au0 | fail)
    refine loopL [(0, some _), (2, some _), (3, some _), (13, some _), (14, some _), (15, some _), (37, some _), (38, some _)] 39 0 6 (fun j => (0 < j → formE g = 0) ∧ (1 < j → namedE l g i = 0) ∧ (2 < j → boundE g = 0) ∧ (3 < j → orderE l g i = 0) ∧ (4 < j → itemsE l g = 0) ∧ (5 < j → deepE l i = 0)) (by repeat (first | exact trivial | refine And.intro (Or.inl rfl) ?_ | refine And.intro (Or.inr (Exists.intro _ (And.intro rfl (Fz.refl _)))) ?_ | refine And.intro (Or.inr (Exists.intro _ (And.intro rfl (fz_eq (congrArg (AV.int _) (by omega)))))) ?_ | refine And.intro (Or.inr (Exists.intro _ (And.intro rfl (fz_eq (congrArg (AV.own _ _ _) (by (try dsimp only); (try simp only [List.length_append, List.length_map, List.length_cons, List.length_nil, List.length_take, List.length_set, List.length_replicate]); (try dsimp only); first | done | omega)))))) ?_)) (Nat.zero_le _) (by omega) (fun j hj hz => ?_)
    obtain ⟨z0, z1, z2, z3, z4, z5⟩ := hz
    (first | refine au ?_ | exact au0 | fail)
    refine bsplit_dec (fun c3 => ?_) (fun c3 => ?_)
    · have hj6 : j < 6 := by
        have : (j : Int) < 6 := by simpa using c3
        omega
      have hjj : j = 0 ∨ j = 1 ∨ j = 2 ∨ j = 3 ∨ j = 4 ∨ j = 5 := by omega
      rcases hjj with rfl | rfl | rfl | rfl | rfl | rfl
      · (first | refine au ?_ | exact au0 | fail)
        refine (h0 id24).call (by exact hg_of) (Sub.nil _) ?_
        (first | refine au ?_ | exact au0 | fail)
        refine bsplit_dec (fun hz => ?_) (fun hz => ?_)
        · (first | refine au ?_ | exact au0 | fail)
          have ht : tyErr l i = formE g := by rw [hte]; simp only [fst0]; simp only [ ne_eq, not_true_eq_false, if_false, hz, not_false_eq_true, if_true]
          rw [hhit (by rw [ht]; exact hz)]
          dsimp only
          rw [ht]
          exact fz_of
        · have hz := Classical.not_not.1 hz
          (first | refine au ?_ | exact au0 | fail)
          refine nextN (by repeat (first | exact trivial | refine And.intro (Or.inl rfl) ?_ | refine And.intro (Or.inr (Exists.intro _ (And.intro rfl (Fz.refl _)))) ?_ | refine And.intro (Or.inr (Exists.intro _ (And.intro rfl (fz_eq (congrArg (AV.int _) (by omega)))))) ?_ | refine And.intro (Or.inr (Exists.intro _ (And.intro rfl (fz_eq (congrArg (AV.own _ _ _) (by (try dsimp only); (try simp only [List.length_append, List.length_map, List.length_cons, List.length_nil, List.length_take, List.length_set, List.length_replicate]); (try dsimp only); first | done | omega)))))) ?_)) (by exact sub_of) (by omega) ⟨?_, ?_, ?_, ?_, ?_, ?_⟩ <;> intro q <;> first | exact hz | omega | exact z0 (by omega) | exact z1 (by omega) | exact z2 (by omega) | exact z3 (by omega) | exact z4 (by omega)
      · (first | refine au ?_ | exact au0 | fail)
        refine (h1 id24).call (by exact hg_of) (Sub.nil _) ?_
        (first | refine au ?_ | exact au0 | fail)
        refine bsplit_dec (fun hz => ?_) (fun hz => ?_)
        · (first | refine au ?_ | exact au0 | fail)
          have ht : tyErr l i = namedE l g i := by rw [hte]; simp only [fst0]; simp only [z0 (by omega), ne_eq, not_true_eq_false, if_false, hz, not_false_eq_true, if_true]
          rw [hhit (by rw [ht]; exact hz)]
          dsimp only
          rw [ht]
          exact fz_of
        · have hz := Classical.not_not.1 hz
          (first | refine au ?_ | exact au0 | fail)
          refine nextN (by repeat (first | exact trivial | refine And.intro (Or.inl rfl) ?_ | refine And.intro (Or.inr (Exists.intro _ (And.intro rfl (Fz.refl _)))) ?_ | refine And.intro (Or.inr (Exists.intro _ (And.intro rfl (fz_eq (congrArg (AV.int _) (by omega)))))) ?_ | refine And.intro (Or.inr (Exists.intro _ (And.intro rfl (fz_eq (congrArg (AV.own _ _ _) (by (try dsimp only); (try simp only [List.length_append, List.length_map, List.length_cons, List.length_nil, List.length_take, List.length_set, List.length_replicate]); (try dsimp only); first | done | omega)))))) ?_)) (by exact sub_of) (by omega) ⟨?_, ?_, ?_, ?_, ?_, ?_⟩ <;> intro q <;> first | exact hz | omega | exact z0 (by omega) | exact z1 (by omega) | exact z2 (by omega) | exact z3 (by omega) | exact z4 (by omega)
      · (first | refine au ?_ | exact au0 | fail)
        refine (h2 id24).call (by exact hg_of) (Sub.nil _) ?_
        (first | refine au ?_ | exact au0 | fail)
        refine bsplit_dec (fun hz => ?_) (fun hz => ?_)
        · (first | refine au ?_ | exact au0 | fail)
          have ht : tyErr l i = boundE g := by rw [hte]; simp only [fst0]; simp only [z0 (by omega), z1 (by omega), ne_eq, not_true_eq_false, if_false, hz, not_false_eq_true, if_true]
          rw [hhit (by rw [ht]; exact hz)]
          dsimp only
          rw [ht]
          exact fz_of
        · have hz := Classical.not_not.1 hz
          (first | refine au ?_ | exact au0 | fail)
          refine nextN (by repeat (first | exact trivial | refine And.intro (Or.inl rfl) ?_ | refine And.intro (Or.inr (Exists.intro _ (And.intro rfl (Fz.refl _)))) ?_ | refine And.intro (Or.inr (Exists.intro _ (And.intro rfl (fz_eq (congrArg (AV.int _) (by omega)))))) ?_ | refine And.intro (Or.inr (Exists.intro _ (And.intro rfl (fz_eq (congrArg (AV.own _ _ _) (by (try dsimp only); (try simp only [List.length_append, List.length_map, List.length_cons, List.length_nil, List.length_take, List.length_set, List.length_replicate]); (try dsimp only); first | done | omega)))))) ?_)) (by exact sub_of) (by omega) ⟨?_, ?_, ?_, ?_, ?_, ?_⟩ <;> intro q <;> first | exact hz | omega | exact z0 (by omega) | exact z1 (by omega) | exact z2 (by omega) | exact z3 (by omega) | exact z4 (by omega)
      · (first | refine au ?_ | exact au0 | fail)
        refine (h3 id24).call (by exact hg_of) (Sub.nil _) ?_
        (first | refine au ?_ | exact au0 | fail)
        refine bsplit_dec (fun hz => ?_) (fun hz => ?_)
        · (first | refine au ?_ | exact au0 | fail)
          have ht : tyErr l i = orderE l g i := by rw [hte]; simp only [fst0]; simp only [z0 (by omega), z1 (by omega), z2 (by omega), ne_eq, not_true_eq_false, if_false, hz, not_false_eq_true, if_true]
          rw [hhit (by rw [ht]; exact hz)]
          dsimp only
          rw [ht]
          exact fz_of
        · have hz := Classical.not_not.1 hz
          (first | refine au ?_ | exact au0 | fail)
          refine nextN (by repeat (first | exact trivial | refine And.intro (Or.inl rfl) ?_ | refine And.intro (Or.inr (Exists.intro _ (And.intro rfl (Fz.refl _)))) ?_ | refine And.intro (Or.inr (Exists.intro _ (And.intro rfl (fz_eq (congrArg (AV.int _) (by omega)))))) ?_ | refine And.intro (Or.inr (Exists.intro _ (And.intro rfl (fz_eq (congrArg (AV.own _ _ _) (by (try dsimp only); (try simp only [List.length_append, List.length_map, List.length_cons, List.length_nil, List.length_take, List.length_set, List.length_replicate]); (try dsimp only); first | done | omega)))))) ?_)) (by exact sub_of) (by omega) ⟨?_, ?_, ?_, ?_, ?_, ?_⟩ <;> intro q <;> first | exact hz | omega | exact z0 (by omega) | exact z1 (by omega) | exact z2 (by omega) | exact z3 (by omega) | exact z4 (by omega)
      · (first | refine au ?_ | exact au0 | fail)
        refine ((h4 (z3 (by omega))) id24).call (by exact hg_of) (Sub.nil _) ?_
        (first | refine au ?_ | exact au0 | fail)
        refine bsplit_dec (fun hz => ?_) (fun hz => ?_)
        · (first | refine au ?_ | exact au0 | fail)
          have ht : tyErr l i = itemsE l g := by rw [hte]; simp only [fst0]; simp only [z0 (by omega), z1 (by omega), z2 (by omega), z3 (by omega), ne_eq, not_true_eq_false, if_false, hz, not_false_eq_true, if_true]
          rw [hhit (by rw [ht]; exact hz)]
          dsimp only
          rw [ht]
          exact fz_of
        · have hz := Classical.not_not.1 hz
          (first | refine au ?_ | exact au0 | fail)
          refine nextN (by repeat (first | exact trivial | refine And.intro (Or.inl rfl) ?_ | refine And.intro (Or.inr (Exists.intro _ (And.intro rfl (Fz.refl _)))) ?_ | refine And.intro (Or.inr (Exists.intro _ (And.intro rfl (fz_eq (congrArg (AV.int _) (by omega)))))) ?_ | refine And.intro (Or.inr (Exists.intro _ (And.intro rfl (fz_eq (congrArg (AV.own _ _ _) (by (try dsimp only); (try simp only [List.length_append, List.length_map, List.length_cons, List.length_nil, List.length_take, List.length_set, List.length_replicate]); (try dsimp only); first | done | omega)))))) ?_)) (by exact sub_of) (by omega) ⟨?_, ?_, ?_, ?_, ?_, ?_⟩ <;> intro q <;> first | exact hz | omega | exact z0 (by omega) | exact z1 (by omega) | exact z2 (by omega) | exact z3 (by omega) | exact z4 (by omega)
      · (first | refine au ?_ | exact au0 | fail)
        refine (h5 id24).call (by exact hg_of) (Sub.nil _) ?_
        (first | refine au ?_ | exact au0 | fail)
        refine bsplit_dec (fun hz => ?_) (fun hz => ?_)
        · (first | refine au ?_ | exact au0 | fail)
          have ht : tyErr l i = deepE l i := by rw [hte]; simp only [fst0]; simp only [z0 (by omega), z1 (by omega), z2 (by omega), z3 (by omega), z4 (by omega), ne_eq, not_true_eq_false, if_false, hz, not_false_eq_true, if_true]
          rw [hhit (by rw [ht]; exact hz)]
          dsimp only
          rw [ht]
          exact fz_of
        · have hz := Classical.not_not.1 hz
          (first | refine au ?_ | exact au0 | fail)
          refine nextN (by repeat (first | exact trivial | refine And.intro (Or.inl rfl) ?_ | refine And.intro (Or.inr (Exists.intro _ (And.intro rfl (Fz.refl _)))) ?_ | refine And.intro (Or.inr (Exists.intro _ (And.intro rfl (fz_eq (congrArg (AV.int _) (by omega)))))) ?_ | refine And.intro (Or.inr (Exists.intro _ (And.intro rfl (fz_eq (congrArg (AV.own _ _ _) (by (try dsimp only); (try simp only [List.length_append, List.length_map, List.length_cons, List.length_nil, List.length_take, List.length_set, List.length_replicate]); (try dsimp only); first | done | omega)))))) ?_)) (by exact sub_of) (by omega) ⟨?_, ?_, ?_, ?_, ?_, ?_⟩ <;> intro q <;> first | exact hz | omega | exact z0 (by omega) | exact z1 (by omega) | exact z2 (by omega) | exact z3 (by omega) | exact z4 (by omega)
    · have hj6 : j = 6 := by
        have : ¬ (j : Int) < 6 := by simpa using c3
        omega
      subst hj6
      (first | refine au ?_ | exact au0 | fail)
      refine nextN (by repeat (first | exact trivial | refine And.intro (Or.inl rfl) ?_ | refine And.intro (Or.inr (Exists.intro _ (And.intro rfl (Fz.refl _)))) ?_ | refine And.intro (Or.inr (Exists.intro _ (And.intro rfl (fz_eq (congrArg (AV.int _) (by omega)))))) ?_ | refine And.intro (Or.inr (Exists.intro _ (And.intro rfl (fz_eq (congrArg (AV.own _ _ _) (by (try dsimp only); (try simp only [List.length_append, List.length_map, List.length_cons, List.length_nil, List.length_take, List.length_set, List.length_replicate]); (try dsimp only); first | done | omega)))))) ?_)) (by exact sub_of) (by omega) (hnx ?_)
      rw [hte]
      simp only [fst0, z0 (by omega), z1 (by omega), z2 (by omega), z3 (by omega), z4 (by omega), z5 (by omega), ne_eq, not_true_eq_false, if_false]
  · (first | refine au ?_ | exact au0 | fail)
    rw [find_none hno (by omega)]
    exact fz_of
end Go.Proofs.Ytodiahhfpcdejaa

/- Types in the reference, walked. -/
namespace Go.Proofs.Ytodiahhfpcdejaa
set_option autoImplicit false
set_option linter.unusedSimpArgs false
set_option linter.unusedVariables false
attribute [local irreducible] callA callP ACalls
theorem r6_named_spec (k : Int) (H : AH) : ACalls PG broadsheetref06_named.n [.int .i64 k] H fun r H' => r = .bool (kNm k) ∧ H' = H := by
  refine ACalls.fz (broadsheetref06_named.of rfl (wpF_start ?_))
  unfold kNm
  (repeat' (first | (refine au ?_; first | refine bsplit_dec (fun _ => ?_) (fun _ => ?_) | refine bsplit_intro (fun _ => ?_) (fun _ => ?_)) | exact au0 | fail)); (all_goals try (first | refine au ?_ | fail))
  all_goals exact ⟨fz_eq (congrArg AV.bool (by first | exact (decide_eq_true (by omega)).symm | exact (decide_eq_false (by omega)).symm | exact decide_eq_decide.2 (by omega) | rfl)), sub_of⟩
theorem r6_Parts_spec0 (t : Ty) (ht : t.its.length ≤ 4000000000000) : ACalls PG broadsheetref06_Parts.n [.agg (tyR t)] [] fun r _ => r = .rows 1 ((parts t).map inR) := by
  refine ACalls.fzK (broadsheetref06_Parts.of rfl (wpF_start ?_))
  have hlen : (t.its.map itR).length = t.its.length := by simp
  (first | refine au ?_ | exact au0 | fail)
  intro id1 hid1 ht1; have n1 := neAll_of hid1; (try simp only [neAll, neAll_hset] at n1); have m1 := n1; (repeat (obtain ⟨_, m1⟩ := m1))
  (first | refine au ?_ | exact au0 | fail)
  rcases rng4 t.kd with ⟨h1, h2, h3, h4⟩ | ⟨h1, h2, h3⟩ | ⟨h1, h2, h3⟩ | ⟨h1, h2, h3, h4⟩
  · have h11 : t.kd = 11 ∨ t.kd = 12 := by simpa [kEl] using h1
    rw [parts_el h1 h2 h3 h4]
    rcases h11 with h11 | h11
    all_goals (first | refine au ?_ | exact au0 | fail)
    all_goals refine ⟨_, rfl, (Nat.le_of_ble_eq_true rfl), (fun q => by cases q), fun _ => ?_⟩
    all_goals intro id2 hid2 ht2; have n2 := neAll_of hid2; (try simp only [neAll, neAll_hset] at n2); have m2 := n2; (repeat (obtain ⟨_, m2⟩ := m2))
    all_goals (first | refine au ?_ | exact au0 | fail)
    all_goals refine loopL [(1, some _), (3, some _)] 4 0 0 (fun _ => True) (by repeat (first | exact trivial | refine And.intro (Or.inl rfl) ?_ | refine And.intro (Or.inr (Exists.intro _ (And.intro rfl (Fz.refl _)))) ?_ | refine And.intro (Or.inr (Exists.intro _ (And.intro rfl (fz_eq (congrArg (AV.int _) (by omega)))))) ?_ | refine And.intro (Or.inr (Exists.intro _ (And.intro rfl (fz_eq (congrArg (AV.own _ _ _) (by (try dsimp only); (try simp only [List.length_append, List.length_map, List.length_cons, List.length_nil, List.length_take, List.length_set, List.length_replicate]); (try dsimp only); first | done | omega)))))) ?_)) (Nat.zero_le _) trivial (fun i hi _ => ?_)
    all_goals obtain rfl : i = 0 := by omega
    all_goals (first | refine au ?_ | exact au0 | fail)
    all_goals try refine bsplit_dec (fun c => ?_) (fun c => ?_)
    all_goals (first | refine au ?_ | exact au0 | fail)
    all_goals exact Fz.ownL hget_self rfl (FzR.refl _ _ _) (map_w (f := inR) (fun _ => rfl) _)
  · rw [parts_tg h1 h2 h3]
    (first | refine au ?_ | exact au0 | fail)
    refine ⟨_, rfl, (Nat.le_of_ble_eq_true rfl), (fun q => by cases q), fun _ => ?_⟩
    intro id2 hid2 ht2; have n2 := neAll_of hid2; (try simp only [neAll, neAll_hset] at n2); have m2 := n2; (repeat (obtain ⟨_, m2⟩ := m2))
    (first | refine au ?_ | exact au0 | fail)
    obtain ⟨pre, hpre⟩ : ∃ pre : List Int, pre = [t.tg] := ⟨_, rfl⟩
    have hpl : pre.length = 1 := by rw [hpre]; rfl
    refine loopM (S := Nat × Option Nat) [(1, some _)] (fun s => [(3, some (accV s.2 1 (pre.length + s.1))), (4, some (.int .i64 (s.1 : Nat)))]) (fun s => accH s.2 1 (pre.map inR ++ ((t.its.take s.1).map fun x => inR x.ty)) [(id1, .rows 6 [tyR t])]) (fun s => t.its.length - s.1) (fun s => s.1 ≤ t.its.length ∧ (s.2 = none → pre.length + s.1 = 0) ∧ ∀ id, s.2 = some id → tag id = ty_int ∧ id ≠ id1) (0, some id2) (by repeat (first | exact trivial | refine And.intro (Or.inl rfl) ?_ | refine And.intro (Or.inr (Exists.intro _ (And.intro rfl (Fz.refl _)))) ?_ | refine And.intro (Or.inr (Exists.intro _ (And.intro rfl (fz_eq (congrArg (AV.int _) (by omega)))))) ?_ | refine And.intro (Or.inr (Exists.intro _ (And.intro rfl (fz_eq (congrArg (AV.own _ _ _) (by (try dsimp only); (try simp only [List.length_append, List.length_map, List.length_cons, List.length_nil, List.length_take, List.length_set, List.length_replicate]); (try dsimp only); first | done | omega)))))) ?_)) (by subst hpre; exact sub_of) ⟨Nat.zero_le _, by simp, fun id q => by cases q; exact ⟨ht2, by omega⟩⟩ (fun ⟨i, o⟩ hs => ?_)
    dsimp only at hs
    rcases hs with ⟨hi, ho1, ho2⟩
    have hge : ∀ h : i < t.its.length, (t.its.map itR).getD (Int.toNat (i : Nat)) [] = itR t.its[i] := fun h => row_get h
    have htk : ∀ h : i < t.its.length, ((t.its.take (i + 1)).map fun x => inR x.ty) = ((t.its.take i).map fun x => inR x.ty) ++ [inR t.its[i].ty] := fun h => take_map_succ _ _ _ h
    have htl : (t.its.take i).length = i := by rw [List.length_take]; omega
    rcases o with _ | ida
    · (first | refine au ?_ | exact au0 | fail)
      refine bsplit_dec (fun c => ?_) (fun c => ?_)
      · have hil : i < t.its.length := by omega
        replace hge := hge hil
        replace htk := htk hil
        generalize t.its[i] = x at *
        (first | refine au ?_ | exact au0 | fail)
        rw [hge]
        (first | refine au ?_ | exact au0 | fail)
        refine ⟨_, rfl, (Nat.le_of_ble_eq_true rfl), (fun q => by cases q), fun _ => ?_⟩
        intro id47 hid47 ht47; have n47 := neAll_of hid47; (try simp only [neAll, neAll_hset] at n47); have m47 := n47; (repeat (obtain ⟨_, m47⟩ := m47))
        (first | refine au ?_ | exact au0 | fail)
        have hp := ho1 rfl
        refine nextS (S := Nat × Option Nat) (i + 1, some id47) (by repeat (first | exact trivial | refine And.intro (Or.inl rfl) ?_ | refine And.intro (Or.inr (Exists.intro _ (And.intro rfl (Fz.refl _)))) ?_ | refine And.intro (Or.inr (Exists.intro _ (And.intro rfl (fz_eq (congrArg (AV.int _) (by omega)))))) ?_ | refine And.intro (Or.inr (Exists.intro _ (And.intro rfl (fz_eq (congrArg (AV.own _ _ _) (by (try dsimp only); (try simp only [List.length_append, List.length_map, List.length_cons, List.length_nil, List.length_take, List.length_set, List.length_replicate]); (try dsimp only); first | done | omega)))))) ?_)) ?_ (by dsimp only; omega) ⟨hil, by simp, fun j q => ?_⟩
        · dsimp only [accH]
          rw [htk, show pre = [] from List.eq_nil_of_length_eq_zero (by omega), show i = 0 from by omega]
          exact sub_of
        · simp only [Option.some.injEq] at q
          subst q
          exact ⟨ht47, by omega⟩
      · (first | refine au ?_ | exact au0 | fail)
        obtain rfl : i = t.its.length := by omega
        have hp := ho1 rfl
        rw [hpre] at hp ⊢
        rw [List.eq_nil_of_length_eq_zero (show t.its.length = 0 by omega)]
        first | exact Fz.nil _ | (simp at hp)
    · obtain ⟨hti, hdi⟩ := ho2 ida rfl
      dsimp only [accH, accV]
      (first | refine au ?_ | exact au0 | fail)
      refine bsplit_dec (fun c => ?_) (fun c => ?_)
      · have hil : i < t.its.length := by omega
        replace hge := hge hil
        replace htk := htk hil
        generalize t.its[i] = x at *
        (first | refine au ?_ | exact au0 | fail)
        rw [hge]
        (first | refine au ?_ | exact au0 | fail)
        refine ⟨_, _, readS_all (by exact hg_of) (by ((try dsimp only); (try simp only [List.length_append, List.length_map, List.length_cons, List.length_nil, List.length_take, List.length_set, List.length_replicate]); (try dsimp only); first | done | omega)), rfl, rfl, rfl, (hti), (by ((try dsimp only); (try simp only [List.length_append, List.length_map, List.length_cons, List.length_nil, List.length_take, List.length_set, List.length_replicate]); (try dsimp only); first | done | omega)), ?_⟩
        intro id47 hid47 ht47; have n47 := neAll_of hid47; (try simp only [neAll, neAll_hset] at n47); have m47 := n47; (repeat (obtain ⟨_, m47⟩ := m47))
        (first | refine au ?_ | exact au0 | fail)
        refine nextS (S := Nat × Option Nat) (i + 1, some id47) (by repeat (first | exact trivial | refine And.intro (Or.inl rfl) ?_ | refine And.intro (Or.inr (Exists.intro _ (And.intro rfl (Fz.refl _)))) ?_ | refine And.intro (Or.inr (Exists.intro _ (And.intro rfl (fz_eq (congrArg (AV.int _) (by omega)))))) ?_ | refine And.intro (Or.inr (Exists.intro _ (And.intro rfl (fz_eq (congrArg (AV.own _ _ _) (by (try dsimp only); (try simp only [List.length_append, List.length_map, List.length_cons, List.length_nil, List.length_take, List.length_set, List.length_replicate]); (try dsimp only); first | done | omega)))))) ?_)) ?_ (by dsimp only; omega) ⟨hil, by simp, fun j q => ?_⟩
        · dsimp only [accH]
          rw [htk, ← List.append_assoc]
          exact sub_of
        · simp only [Option.some.injEq] at q
          subst q
          exact ⟨ht47, by omega⟩
      · (first | refine au ?_ | exact au0 | fail)
        obtain rfl : i = t.its.length := by omega
        rw [List.take_length]
        refine accFz (o := some ida) (n := pre.length + t.its.length) (l := pre.map inR ++ t.its.map fun x => inR x.ty) (H := [(id1, .rows 6 [tyR t])]) (by ((try dsimp only); (try simp only [List.length_append, List.length_map, List.length_cons, List.length_nil, List.length_take, List.length_set, List.length_replicate]); (try dsimp only); first | done | omega)) (fun q => by cases q) (fun _ _ => rfl) ?_ (map_w (f := inR) (fun _ => rfl) _)
        rw [hpre]
        simp only [List.map_cons, List.map_nil, List.map_map, List.cons_append, List.nil_append]
        exact FzR.refl _ _ _
  · rw [parts_st h1 h2 h3]
    (first | refine au ?_ | exact au0 | fail)
    obtain ⟨pre, hpre⟩ : ∃ pre : List Int, pre = [] := ⟨_, rfl⟩
    have hpl : pre.length = 0 := by rw [hpre]; rfl
    refine loopM (S := Nat × Option Nat) [(1, some _)] (fun s => [(3, some (accV s.2 1 (pre.length + s.1))), (4, some (.int .i64 (s.1 : Nat)))]) (fun s => accH s.2 1 (pre.map inR ++ ((t.its.take s.1).map fun x => inR x.ty)) [(id1, .rows 6 [tyR t])]) (fun s => t.its.length - s.1) (fun s => s.1 ≤ t.its.length ∧ (s.2 = none → pre.length + s.1 = 0) ∧ ∀ id, s.2 = some id → tag id = ty_int ∧ id ≠ id1) (0, none) (by repeat (first | exact trivial | refine And.intro (Or.inl rfl) ?_ | refine And.intro (Or.inr (Exists.intro _ (And.intro rfl (Fz.refl _)))) ?_ | refine And.intro (Or.inr (Exists.intro _ (And.intro rfl (fz_eq (congrArg (AV.int _) (by omega)))))) ?_ | refine And.intro (Or.inr (Exists.intro _ (And.intro rfl (fz_eq (congrArg (AV.own _ _ _) (by (try dsimp only); (try simp only [List.length_append, List.length_map, List.length_cons, List.length_nil, List.length_take, List.length_set, List.length_replicate]); (try dsimp only); first | done | omega)))))) ?_)) (by subst hpre; exact sub_of) ⟨Nat.zero_le _, by simp [hpl], fun id q => by cases q⟩ (fun ⟨i, o⟩ hs => ?_)
    dsimp only at hs
    rcases hs with ⟨hi, ho1, ho2⟩
    have hge : ∀ h : i < t.its.length, (t.its.map itR).getD (Int.toNat (i : Nat)) [] = itR t.its[i] := fun h => row_get h
    have htk : ∀ h : i < t.its.length, ((t.its.take (i + 1)).map fun x => inR x.ty) = ((t.its.take i).map fun x => inR x.ty) ++ [inR t.its[i].ty] := fun h => take_map_succ _ _ _ h
    have htl : (t.its.take i).length = i := by rw [List.length_take]; omega
    rcases o with _ | ida
    · (first | refine au ?_ | exact au0 | fail)
      refine bsplit_dec (fun c => ?_) (fun c => ?_)
      · have hil : i < t.its.length := by omega
        replace hge := hge hil
        replace htk := htk hil
        generalize t.its[i] = x at *
        (first | refine au ?_ | exact au0 | fail)
        rw [hge]
        (first | refine au ?_ | exact au0 | fail)
        refine ⟨_, rfl, (Nat.le_of_ble_eq_true rfl), (fun q => by cases q), fun _ => ?_⟩
        intro id47 hid47 ht47; have n47 := neAll_of hid47; (try simp only [neAll, neAll_hset] at n47); have m47 := n47; (repeat (obtain ⟨_, m47⟩ := m47))
        (first | refine au ?_ | exact au0 | fail)
        have hp := ho1 rfl
        refine nextS (S := Nat × Option Nat) (i + 1, some id47) (by repeat (first | exact trivial | refine And.intro (Or.inl rfl) ?_ | refine And.intro (Or.inr (Exists.intro _ (And.intro rfl (Fz.refl _)))) ?_ | refine And.intro (Or.inr (Exists.intro _ (And.intro rfl (fz_eq (congrArg (AV.int _) (by omega)))))) ?_ | refine And.intro (Or.inr (Exists.intro _ (And.intro rfl (fz_eq (congrArg (AV.own _ _ _) (by (try dsimp only); (try simp only [List.length_append, List.length_map, List.length_cons, List.length_nil, List.length_take, List.length_set, List.length_replicate]); (try dsimp only); first | done | omega)))))) ?_)) ?_ (by dsimp only; omega) ⟨hil, by simp, fun j q => ?_⟩
        · dsimp only [accH]
          rw [htk, show pre = [] from List.eq_nil_of_length_eq_zero (by omega), show i = 0 from by omega]
          exact sub_of
        · simp only [Option.some.injEq] at q
          subst q
          exact ⟨ht47, by omega⟩
      · (first | refine au ?_ | exact au0 | fail)
        obtain rfl : i = t.its.length := by omega
        have hp := ho1 rfl
        rw [hpre] at hp ⊢
        rw [List.eq_nil_of_length_eq_zero (show t.its.length = 0 by omega)]
        first | exact Fz.nil _ | (simp at hp)
    · obtain ⟨hti, hdi⟩ := ho2 ida rfl
      dsimp only [accH, accV]
      (first | refine au ?_ | exact au0 | fail)
      refine bsplit_dec (fun c => ?_) (fun c => ?_)
      · have hil : i < t.its.length := by omega
        replace hge := hge hil
        replace htk := htk hil
        generalize t.its[i] = x at *
        (first | refine au ?_ | exact au0 | fail)
        rw [hge]
        (first | refine au ?_ | exact au0 | fail)
        refine ⟨_, _, readS_all (by exact hg_of) (by ((try dsimp only); (try simp only [List.length_append, List.length_map, List.length_cons, List.length_nil, List.length_take, List.length_set, List.length_replicate]); (try dsimp only); first | done | omega)), rfl, rfl, rfl, (hti), (by ((try dsimp only); (try simp only [List.length_append, List.length_map, List.length_cons, List.length_nil, List.length_take, List.length_set, List.length_replicate]); (try dsimp only); first | done | omega)), ?_⟩
        intro id47 hid47 ht47; have n47 := neAll_of hid47; (try simp only [neAll, neAll_hset] at n47); have m47 := n47; (repeat (obtain ⟨_, m47⟩ := m47))
        (first | refine au ?_ | exact au0 | fail)
        refine nextS (S := Nat × Option Nat) (i + 1, some id47) (by repeat (first | exact trivial | refine And.intro (Or.inl rfl) ?_ | refine And.intro (Or.inr (Exists.intro _ (And.intro rfl (Fz.refl _)))) ?_ | refine And.intro (Or.inr (Exists.intro _ (And.intro rfl (fz_eq (congrArg (AV.int _) (by omega)))))) ?_ | refine And.intro (Or.inr (Exists.intro _ (And.intro rfl (fz_eq (congrArg (AV.own _ _ _) (by (try dsimp only); (try simp only [List.length_append, List.length_map, List.length_cons, List.length_nil, List.length_take, List.length_set, List.length_replicate]); (try dsimp only); first | done | omega)))))) ?_)) ?_ (by dsimp only; omega) ⟨hil, by simp, fun j q => ?_⟩
        · dsimp only [accH]
          rw [htk, ← List.append_assoc]
          exact sub_of
        · simp only [Option.some.injEq] at q
          subst q
          exact ⟨ht47, by omega⟩
      · (first | refine au ?_ | exact au0 | fail)
        obtain rfl : i = t.its.length := by omega
        rw [List.take_length]
        refine accFz (o := some ida) (n := pre.length + t.its.length) (l := pre.map inR ++ t.its.map fun x => inR x.ty) (H := [(id1, .rows 6 [tyR t])]) (by ((try dsimp only); (try simp only [List.length_append, List.length_map, List.length_cons, List.length_nil, List.length_take, List.length_set, List.length_replicate]); (try dsimp only); first | done | omega)) (fun q => by cases q) (fun _ _ => rfl) ?_ (map_w (f := inR) (fun _ => rfl) _)
        rw [hpre]
        simp only [List.map_cons, List.map_nil, List.map_map, List.cons_append, List.nil_append]
        exact FzR.refl _ _ _
  · have h11 : t.kd ≠ 11 ∧ t.kd ≠ 12 := by simpa [kEl] using h1
    rw [parts_no h1 h2 h3 h4]
    (first | refine au ?_ | exact au0 | fail)
    refine loopL [(1, some _), (3, some _)] 4 0 0 (fun _ => True) (by repeat (first | exact trivial | refine And.intro (Or.inl rfl) ?_ | refine And.intro (Or.inr (Exists.intro _ (And.intro rfl (Fz.refl _)))) ?_ | refine And.intro (Or.inr (Exists.intro _ (And.intro rfl (fz_eq (congrArg (AV.int _) (by omega)))))) ?_ | refine And.intro (Or.inr (Exists.intro _ (And.intro rfl (fz_eq (congrArg (AV.own _ _ _) (by (try dsimp only); (try simp only [List.length_append, List.length_map, List.length_cons, List.length_nil, List.length_take, List.length_set, List.length_replicate]); (try dsimp only); first | done | omega)))))) ?_)) (Nat.zero_le _) trivial (fun i hi _ => ?_)
    obtain rfl : i = 0 := by omega
    (repeat' (first | (refine au ?_; first | refine bsplit_dec (fun _ => ?_) (fun _ => ?_) | refine bsplit_intro (fun _ => ?_) (fun _ => ?_)) | exact au0 | fail)); (all_goals try (first | refine au ?_ | fail))
    all_goals first | omega | exact Fz.nil _
theorem r6_Parts_spec (t : Ty) (ht : t.its.length ≤ 4000000000000) (H : AH) : ACalls PG broadsheetref06_Parts.n [.agg (tyR t)] H fun r H' => r = .rows 1 ((parts t).map inR) ∧ H' = H := (r6_Parts_spec0 t ht).frame H
theorem r6_more_spec (t : Ty) (hok : TyOk t) (H : AH) : ACalls PG broadsheetref06_more.n [.agg (tyR t)] H fun r H' => r = .bool (tyMore t || t.its.any (itMore t.kd)) ∧ H' = H := by
  have hlen : (t.its.map itR).length = t.its.length := by simp
  have hli := hok.its
  have h0 : (0 : Int) < (t.its.map itR).length ↔ t.its ≠ [] := by rw [hlen]; cases t.its <;> simp
  refine ACalls.fz (broadsheetref06_more.of rfl (wpF_start ?_))
  (first | refine au ?_ | exact au0 | fail)
  intro id1 hid1 ht1; have n1 := neAll_of hid1; (try simp only [neAll, neAll_hset] at n1); have m1 := n1; (repeat (obtain ⟨_, m1⟩ := m1))
  (first | refine ab ?_ | exact ab0 | fail)
  have hnm := fun H => r6_named_spec t.kd H
  refine joinP [(1, some (.ptr id1 6 0 0))] ((id1, .rows 6 [tyR t]) :: H) (¬ (kNm t.kd = false ∧ (t.nm ≠ [] ∨ t.its ≠ []))) ?_ (fun p1 => ?_)
  · cases hN : kNm t.kd
    all_goals rw [hN] at hnm
    all_goals (repeat' (first | (refine au ?_; first | refine callF_eq (hnm _) ?_ | refine bsplit_dec (fun _ => ?_) (fun _ => ?_) | refine bsplit_intro (fun _ => ?_) (fun _ => ?_)) | exact au0 | fail)); (all_goals try (first | refine au ?_ | fail))
    all_goals first
      | (refine metP (by repeat (first | exact trivial | refine And.intro (Or.inl rfl) ?_ | refine And.intro (Or.inr (Exists.intro _ (And.intro rfl (Fz.refl _)))) ?_ | refine And.intro (Or.inr (Exists.intro _ (And.intro rfl (fz_eq (congrArg (AV.int _) (by omega)))))) ?_ | refine And.intro (Or.inr (Exists.intro _ (And.intro rfl (fz_eq (congrArg (AV.own _ _ _) (by (try dsimp only); (try simp only [List.length_append, List.length_map, List.length_cons, List.length_nil, List.length_take, List.length_set, List.length_replicate]); (try dsimp only); first | done | omega)))))) ?_)) sub_of (by simp_all))
      | (rw [show tyMore t = true from decide_eq_true (.inl ⟨hN, by simp_all⟩)]; exact ⟨fz_of, sub_of⟩)
  (first | refine ab ?_ | exact ab0 | fail)
  refine joinP [(1, some (.ptr id1 6 0 0))] ((id1, .rows 6 [tyR t]) :: H) (¬ ((kBd t.kd = false ∧ t.bd ≠ 0) ∨ (kEl t.kd = false ∧ t.el ≠ 0) ∨ (kTg t.kd = false ∧ t.tg ≠ 0))) ?_ (fun p2 => ?_)
  · have eM : ((kBd t.kd = false ∧ t.bd ≠ 0) ∨ (kEl t.kd = false ∧ t.el ≠ 0) ∨ (kTg t.kd = false ∧ t.tg ≠ 0)) → tyMore t = true := fun q => decide_eq_true (.inr q)
    simp only [kBd, kEl, kTg, decide_eq_false_iff_not] at eM ⊢
    (repeat' (first | (refine au ?_; first | refine bsplit_dec (fun _ => ?_) (fun _ => ?_) | refine bsplit_intro (fun _ => ?_) (fun _ => ?_)) | exact au0 | fail)); (all_goals try (first | refine au ?_ | fail))
    all_goals first
      | (refine metP (by repeat (first | exact trivial | refine And.intro (Or.inl rfl) ?_ | refine And.intro (Or.inr (Exists.intro _ (And.intro rfl (Fz.refl _)))) ?_ | refine And.intro (Or.inr (Exists.intro _ (And.intro rfl (fz_eq (congrArg (AV.int _) (by omega)))))) ?_ | refine And.intro (Or.inr (Exists.intro _ (And.intro rfl (fz_eq (congrArg (AV.own _ _ _) (by (try dsimp only); (try simp only [List.length_append, List.length_map, List.length_cons, List.length_nil, List.length_take, List.length_set, List.length_replicate]); (try dsimp only); first | done | omega)))))) ?_)) sub_of (by omega))
      | (rw [eM (by omega)]; exact ⟨fz_of, sub_of⟩)
  have hm : tyMore t = false := decide_eq_false fun q => q.elim p1 p2
  rw [hm, Bool.false_or]
  (first | refine au ?_ | exact au0 | fail)
  refine loopL [(1, some _)] 3 0 t.its.length (none' (itMore t.kd) t.its) (by repeat (first | exact trivial | refine And.intro (Or.inl rfl) ?_ | refine And.intro (Or.inr (Exists.intro _ (And.intro rfl (Fz.refl _)))) ?_ | refine And.intro (Or.inr (Exists.intro _ (And.intro rfl (fz_eq (congrArg (AV.int _) (by omega)))))) ?_ | refine And.intro (Or.inr (Exists.intro _ (And.intro rfl (fz_eq (congrArg (AV.own _ _ _) (by (try dsimp only); (try simp only [List.length_append, List.length_map, List.length_cons, List.length_nil, List.length_take, List.length_set, List.length_replicate]); (try dsimp only); first | done | omega)))))) ?_)) (Nat.zero_le _) none'_zero (fun i hi hn => ?_)
  (first | refine au ?_ | exact au0 | fail)
  refine bsplit_dec (fun c => ?_) (fun c => ?_)
  · have hil : i < t.its.length := by omega
    have hge := row_get (f := itR) hil
    have hany : itMore t.kd t.its[i] = true → t.its.any (itMore t.kd) = true := any_hit hil
    have hnx := none'_succ hn hil
    generalize t.its[i] = x at *
    (first | refine au ?_ | exact au0 | fail)
    rw [hge]
    (first | refine au ?_ | exact au0 | fail)
    intro id9 hid9 ht9; have n9 := neAll_of hid9; (try simp only [neAll, neAll_hset] at n9); have m9 := n9; (repeat (obtain ⟨_, m9⟩ := m9))
    (repeat' (first | (refine au ?_; first | refine bsplit_dec (fun _ => ?_) (fun _ => ?_) | refine bsplit_intro (fun _ => ?_) (fun _ => ?_)) | exact au0 | fail)); (all_goals try (first | refine au ?_ | fail))
    all_goals first
      | (rw [hany (by unfold itMore; apply decide_eq_true; simp_all)]; exact ⟨fz_of, sub_of⟩)
      | (refine nextN (by repeat (first | exact trivial | refine And.intro (Or.inl rfl) ?_ | refine And.intro (Or.inr (Exists.intro _ (And.intro rfl (Fz.refl _)))) ?_ | refine And.intro (Or.inr (Exists.intro _ (And.intro rfl (fz_eq (congrArg (AV.int _) (by omega)))))) ?_ | refine And.intro (Or.inr (Exists.intro _ (And.intro rfl (fz_eq (congrArg (AV.own _ _ _) (by (try dsimp only); (try simp only [List.length_append, List.length_map, List.length_cons, List.length_nil, List.length_take, List.length_set, List.length_replicate]); (try dsimp only); first | done | omega)))))) ?_)) (by exact sub_of) (by omega) (hnx (by unfold itMore; apply decide_eq_false; simp_all)))
  · rw [none'_end hn (by omega)]
    (first | refine au ?_ | exact au0 | fail)
    exact ⟨fz_of, sub_of⟩
end Go.Proofs.Ytodiahhfpcdejaa

/- Types in the reference, walked: items. -/
namespace Go.Proofs.Ytodiahhfpcdejaa
set_option autoImplicit false
set_option linter.unusedSimpArgs false
set_option linter.unusedVariables false
attribute [local irreducible] callA callP ACalls
/-- A place, or -1. -/
abbrev ixN : Option Nat → AV
  | some n => .int .i64 (n : Nat)
  | none => .int .i64 (-1)
theorem r6_Value_spec (l : List Ty) (hl : TysOk l) (t : Int) (n : Nat) (H : AH) : ACalls PG broadsheetref06_Value.n [tysA l, .int .i64 t, .int .u64 (n : Nat)] H fun r H' => r = ixN (valIx l t n) ∧ H' = H := by
  have hlen : (l.map tyR).length = l.length := by simp
  have hll := hl.len
  refine ACalls.fz (broadsheetref06_Value.of rfl (wpF_start ?_))
  unfold valIx
  by_cases hb : 0 ≤ t ∧ t < l.length
  · have hge := tAt_get hb.1 hb.2
    have hti := (hl.all _ (tAt_mem hb.1 hb.2)).its
    generalize tAt l t = g at *
    have hlen2 : (g.its.map itR).length = g.its.length := by simp
    (first | refine au ?_ | exact au0 | fail)
    rw [hge]
    (first | refine au ?_ | exact au0 | fail)
    refine bsplit_dec (fun c => ?_) (fun c => ?_)
    · rw [if_neg (fun q => c q.2.2)]
      (first | refine au ?_ | exact au0 | fail)
      exact ⟨fz_of, sub_of⟩
    rw [if_pos ⟨hb.1, hb.2, Classical.not_not.1 c⟩]
    (first | refine au ?_ | exact au0 | fail)
    refine loopL [(0, some _), (1, some _), (2, some _)] 7 0 g.its.length (none' (fun x => x.num == n) g.its) (by repeat (first | exact trivial | refine And.intro (Or.inl rfl) ?_ | refine And.intro (Or.inr (Exists.intro _ (And.intro rfl (Fz.refl _)))) ?_ | refine And.intro (Or.inr (Exists.intro _ (And.intro rfl (fz_eq (congrArg (AV.int _) (by omega)))))) ?_ | refine And.intro (Or.inr (Exists.intro _ (And.intro rfl (fz_eq (congrArg (AV.own _ _ _) (by (try dsimp only); (try simp only [List.length_append, List.length_map, List.length_cons, List.length_nil, List.length_take, List.length_set, List.length_replicate]); (try dsimp only); first | done | omega)))))) ?_)) (Nat.zero_le _) none'_zero (fun i hi hno => ?_)
    (first | refine au ?_ | exact au0 | fail)
    rw [hge]
    (first | refine au ?_ | exact au0 | fail)
    refine bsplit_dec (fun c => ?_) (fun c => ?_)
    · have hil : i < g.its.length := by omega
      have hge2 := row_get (f := itR) hil
      have hhit : (g.its[i].num == n) = true → g.its.findIdx? (fun x => x.num == n) = some i := find_hit (p := fun x : It => x.num == n) hno hil
      have hnx := none'_succ hno hil
      generalize g.its[i] = x at *
      (first | refine au ?_ | exact au0 | fail)
      rw [hge]
      (first | refine au ?_ | exact au0 | fail)
      rw [hge2]
      (first | refine au ?_ | exact au0 | fail)
      refine bsplit_dec (fun c => ?_) (fun c => ?_)
      · (first | refine au ?_ | exact au0 | fail)
        rw [hhit (by simp; omega)]
        exact ⟨fz_of, sub_of⟩
      · (first | refine au ?_ | exact au0 | fail)
        refine nextN (by repeat (first | exact trivial | refine And.intro (Or.inl rfl) ?_ | refine And.intro (Or.inr (Exists.intro _ (And.intro rfl (Fz.refl _)))) ?_ | refine And.intro (Or.inr (Exists.intro _ (And.intro rfl (fz_eq (congrArg (AV.int _) (by omega)))))) ?_ | refine And.intro (Or.inr (Exists.intro _ (And.intro rfl (fz_eq (congrArg (AV.own _ _ _) (by (try dsimp only); (try simp only [List.length_append, List.length_map, List.length_cons, List.length_nil, List.length_take, List.length_set, List.length_replicate]); (try dsimp only); first | done | omega)))))) ?_)) (by exact sub_of) (by omega) (hnx (by simp; omega))
    · (first | refine au ?_ | exact au0 | fail)
      rw [find_none hno (by omega)]
      exact ⟨fz_of, sub_of⟩
  · rw [if_neg (fun q => hb ⟨q.1, q.2.1⟩)]
    (repeat' (first | (refine au ?_; first | refine bsplit_dec (fun _ => ?_) (fun _ => ?_) | refine bsplit_intro (fun _ => ?_) (fun _ => ?_)) | exact au0 | fail)); (all_goals try (first | refine au ?_ | fail))
    all_goals first | omega | exact ⟨fz_of, sub_of⟩
theorem r6_number_spec (l : List Ty) (hl : TysOk l) (n : Nat) (t : Ty) (hn : n ≤ l.length) (hN : kNm t.kd = true) (h13 : t.kd ≠ 13) (ho : orderE l t n = 0) (m : Nat) (hm : m < 18446744073709551616) (H : AH) : ACalls PG broadsheetref06_number.n [tysA l, .agg (tyR t), .int .u64 (m : Nat)] H fun r H' => r = .bool (mayT l t m) ∧ H' = H := by
  have hlen : (l.map tyR).length = l.length := by simp
  have hll := hl.len
  refine ACalls.fz (broadsheetref06_number.of rfl (wpF_start ?_))
  unfold mayT
  (first | refine au ?_ | exact au0 | fail)
  intro id3 hid3 ht3; have n3 := neAll_of hid3; (try simp only [neAll, neAll_hset] at n3); have m3 := n3; (repeat (obtain ⟨_, m3⟩ := m3))
  (first | refine au ?_ | exact au0 | fail)
  refine bsplit_dec (fun c => ?_) (fun c => ?_)
  · rw [if_pos c]
    (first | refine au ?_ | exact au0 | fail)
    first | refine callF_eq (r5_May_spec _ m hm _) ?_ | refine callG_eq rfl (r5_May_spec _ m hm _) ?_
    (first | refine au ?_ | exact au0 | fail)
    exact ⟨fz_of, sub_of⟩
  · rw [if_neg c]
    have h14 : t.kd = 14 := by rcases kd4 hN with h | h | h <;> omega
    have hin := orderE_in ho _ (parts_tag h14)
    have hge := tAt_get (l := l) hin.1 (by omega)
    generalize hg : tAt l t.tg = g at *
    (first | refine au ?_ | exact au0 | fail)
    rw [hge]
    (first | refine au ?_ | exact au0 | fail)
    refine bsplit_dec (fun c2 => ?_) (fun c2 => ?_)
    · rw [if_pos c2]
      have hV := fun H => r6_Value_spec l hl t.tg m H
      generalize valIx l t.tg m = o at *
      cases o with
      | some k =>
        (first | refine au ?_ | exact au0 | fail)
        first | refine callF_eq (hV _) ?_ | refine callG_eq rfl (hV _) ?_
        (first | refine au ?_ | exact au0 | fail)
        exact ⟨fz_eq (congrArg AV.bool (by simp)), sub_of⟩
      | none =>
        (first | refine au ?_ | exact au0 | fail)
        first | refine callF_eq (hV _) ?_ | refine callG_eq rfl (hV _) ?_
        (first | refine au ?_ | exact au0 | fail)
        exact ⟨fz_eq (congrArg AV.bool (by simp)), sub_of⟩
    · rw [if_neg c2]
      (first | refine au ?_ | exact au0 | fail)
      rw [hge]
      (first | refine au ?_ | exact au0 | fail)
      first | refine callF_eq (r5_May_spec _ m hm _) ?_ | refine callG_eq rfl (r5_May_spec _ m hm _) ?_
      (first | refine au ?_ | exact au0 | fail)
      exact ⟨fz_of, sub_of⟩
theorem ref_Word4_spec (s : List UInt8) (H : AH) : ACalls PG broadsheetref04_Word.n [.str s] H fun r H' => r = .bool (rsv.contains s) ∧ H' = H := rword_spec s H
theorem tw_full {p : UInt8 → Bool} : ∀ r : List UInt8, (r.takeWhile p).length = r.length ↔ r.all p = true
  | [] => by simp
  | a :: r => by
    rw [List.takeWhile_cons]
    cases h : p a
    · simp [h]
    · simp only [if_true, List.length_cons, List.all_cons, h, Bool.true_and, ← tw_full r]; omega
theorem fmd_nl (s : List UInt8) : fmd s = (decide (s ≠ []) && decide (nl s = s.length)) := by
  cases s with
  | nil => rfl
  | cons c r =>
    unfold fmd
    rw [nl_cons]
    simp only [List.getD_cons_zero, List.all_cons, List.length_cons, ne_eq, reduceCtorEq, not_false_eq_true, decide_true, Bool.true_and]
    cases hc : ltr c
    · simp
    · simp only [if_true, Bool.true_and]
      have hn : nam c = true := by simp [nam, hc]
      rw [hn, Bool.true_and]
      have hf := tw_full (p := nam) r
      cases ha : r.all nam
      · symm
        apply decide_eq_false
        intro q
        have := hf.1 (by omega)
        rw [ha] at this; cases this
      · symm
        apply decide_eq_true
        have := hf.2 ha
        omega
theorem r4_Name_spec (s : List UInt8) (hs : s.length ≤ 140737488351232) (H : AH) : ACalls PG broadsheetref04_Name.n [.str s] H fun r H' => r = .bool (nameOk s) ∧ H' = H := by
  refine ACalls.fz (broadsheetref04_Name.of rfl (wpF_start ?_))
  have e : nameOk s = (fmd s && decide (s.length ≤ 16) && !rsv.contains s) := by
    rw [fmd_nl]; unfold nameOk
    cases decide (s ≠ []) <;> cases decide (s.length ≤ 16) <;> cases decide (nl s = s.length) <;> cases rsv.contains s <;> rfl
  rw [e]
  have hf := fun H => ref_formed_spec s hs H
  have hw := fun H => rword_spec s H
  generalize fmd s = f at *
  generalize rsv.contains s = w at *
  cases f
  · (first | refine au ?_ | exact au0 | fail)
    first | refine callF_eq (hf _) ?_ | refine callG_eq rfl (hf _) ?_
    (first | refine au ?_ | exact au0 | fail)
    exact ⟨fz_of, sub_of⟩
  · (first | refine au ?_ | exact au0 | fail)
    first | refine callF_eq (hf _) ?_ | refine callG_eq rfl (hf _) ?_
    (first | refine au ?_ | exact au0 | fail)
    refine bsplit_dec (fun c => ?_) (fun c => ?_)
    · (first | refine au ?_ | exact au0 | fail)
      first | refine callF_eq (hw _) ?_ | refine callG_eq rfl (hw _) ?_
      (first | refine au ?_ | exact au0 | fail)
      exact ⟨fz_eq (congrArg AV.bool (by simp; omega)), sub_of⟩
    · (first | refine au ?_ | exact au0 | fail)
      exact ⟨fz_eq (congrArg AV.bool (by simp; omega)), sub_of⟩
theorem any_succ {α : Type} {p : α → Bool} {l : List α} {i : Nat} (h : i < l.length) : (l.take (i + 1)).any p = ((l.take i).any p || p l[i]) := by
  rw [List.take_add_one, List.getElem?_eq_getElem h, List.any_append]; simp
theorem none'_take {α : Type} {p : α → Bool} {l : List α} {i : Nat} (h : none' p l i) : (l.take i).any p = false := take_any_no h (Nat.le_refl _)
theorem take_hit {α : Type} {p : α → Bool} {l : List α} {i k : Nat} (hk : k < l.length) (h : k < i) (hp : p l[k] = true) : (l.take i).any p = true := any_take.2 ⟨k, hk, h, hp⟩
theorem r6_item_spec (l : List Ty) (hl : TysOk l) (n : Nat) (t : Ty) (hok : TyOk t) (hn : n ≤ l.length) (hN : kNm t.kd = true) (ho : orderE l t n = 0) (i : Nat) (hi : i < t.its.length) (H : AH) :
    ACalls PG broadsheetref06_item.n [tysA l, .agg (tyR t), .int .i64 (i : Nat)] H fun r H' => r = .int .i64 (itemE l t i) ∧ H' = H := by
  have hlen : (t.its.map itR).length = t.its.length := by simp
  have hll := hl.len
  have hli := hok.its
  have hge := row_get (f := itR) hi
  have hx := List.getElem_mem hi
  have hsn := hok.nms _ hx
  have hpt := fun h => parts_item (t := t) h hx
  have hmay := fun h13 H => r6_number_spec l hl n t hn hN h13 ho t.its[i].num (hok.nums _ hx) H
  refine ACalls.fz (broadsheetref06_item.of rfl (wpF_start ?_))
  unfold itemE
  dsimp only
  rw [getD_get hi]
  generalize t.its[i] = x at *
  (first | refine au ?_ | exact au0 | fail)
  intro id3 hid3 ht3; have n3 := neAll_of hid3; (try simp only [neAll, neAll_hset] at n3); have m3 := n3; (repeat (obtain ⟨_, m3⟩ := m3))
  (first | refine au ?_ | exact au0 | fail)
  rw [hge]
  (first | refine au ?_ | exact au0 | fail)
  intro id5 hid5 ht5; have n5 := neAll_of hid5; (try simp only [neAll, neAll_hset] at n5); have m5 := n5; (repeat (obtain ⟨_, m5⟩ := m5))
  (first | refine au ?_ | exact au0 | fail)
  first | refine callF_eq (r4_Name_spec _ hsn _) ?_ | refine callG_eq rfl (r4_Name_spec _ hsn _) ?_
  cases hO : nameOk x.nm
  · (first | refine au ?_ | exact au0 | fail)
    exact ⟨fz_of, sub_of⟩
  rw [if_pos rfl]
  (first | refine au ?_ | exact au0 | fail)
  refine loopM (S := Nat) [(0, some _), (2, some _), (4, some _), (7, some _)] (fun k => [(8, some (.bool ((t.its.take k).any (fun y => y.num == x.num)))), (9, some (.int .i64 (k : Nat)))]) (fun _ => _) (fun k => i - k) (fun k => k ≤ i ∧ none' (fun y => y.nm == x.nm) t.its k) 0 (by repeat (first | exact trivial | refine And.intro (Or.inl rfl) ?_ | refine And.intro (Or.inr (Exists.intro _ (And.intro rfl (Fz.refl _)))) ?_ | refine And.intro (Or.inr (Exists.intro _ (And.intro rfl (fz_eq (congrArg (AV.int _) (by omega)))))) ?_ | refine And.intro (Or.inr (Exists.intro _ (And.intro rfl (fz_eq (congrArg (AV.own _ _ _) (by (try dsimp only); (try simp only [List.length_append, List.length_map, List.length_cons, List.length_nil, List.length_take, List.length_set, List.length_replicate]); (try dsimp only); first | done | omega)))))) ?_)) (Sub.refl _) ⟨Nat.zero_le _, none'_zero⟩ (fun k hk => ?_)
  obtain ⟨hk, hno⟩ := hk
  (first | refine au ?_ | exact au0 | fail)
  refine bsplit_dec (fun c => ?_) (fun c => ?_)
  · have hkl : k < t.its.length := by omega
    have hge2 := row_get (f := itR) hkl
    have hany : (t.its[k].nm == x.nm) = true → (t.its.take i).any (fun y => y.nm == x.nm) = true := take_hit (p := fun y : It => y.nm == x.nm) hkl (by omega)
    have hnx := none'_succ hno hkl
    have has := any_succ (p := fun y : It => y.num == x.num) hkl
    generalize t.its[k] = y at *
    (first | refine au ?_ | exact au0 | fail)
    rw [hge2]
    (first | refine au ?_ | exact au0 | fail)
    refine bsplit_dec (fun h => ?_) (fun h => ?_)
    · (first | refine au ?_ | exact au0 | fail)
      rw [hany (by simpa using h)]
      exact ⟨fz_of, sub_of⟩
    · have hq := hnx (by simpa using h)
      generalize hb : (t.its.take k).any (fun y => y.num == x.num) = b at *
      cases b
      · (first | refine au ?_ | exact au0 | fail)
        rw [hge2]
        (first | refine au ?_ | exact au0 | fail)
        refine nextS (S := Nat) (k + 1) (by (try dsimp only); rw [has, Bool.false_or, show (y.num == x.num) = decide ((y.num : Int) = x.num) from by rw [Bool.eq_iff_iff]; simp; omega]; exact (by repeat (first | exact trivial | refine And.intro (Or.inl rfl) ?_ | refine And.intro (Or.inr (Exists.intro _ (And.intro rfl (Fz.refl _)))) ?_ | refine And.intro (Or.inr (Exists.intro _ (And.intro rfl (fz_eq (congrArg (AV.int _) (by omega)))))) ?_ | refine And.intro (Or.inr (Exists.intro _ (And.intro rfl (fz_eq (congrArg (AV.own _ _ _) (by (try dsimp only); (try simp only [List.length_append, List.length_map, List.length_cons, List.length_nil, List.length_take, List.length_set, List.length_replicate]); (try dsimp only); first | done | omega)))))) ?_))) (Sub.refl _) (by first | omega | (dsimp only; omega)) ⟨by omega, hq⟩
      · (first | refine au ?_ | exact au0 | fail)
        refine nextS (S := Nat) (k + 1) (by (try dsimp only); rw [has, Bool.true_or]; exact (by repeat (first | exact trivial | refine And.intro (Or.inl rfl) ?_ | refine And.intro (Or.inr (Exists.intro _ (And.intro rfl (Fz.refl _)))) ?_ | refine And.intro (Or.inr (Exists.intro _ (And.intro rfl (fz_eq (congrArg (AV.int _) (by omega)))))) ?_ | refine And.intro (Or.inr (Exists.intro _ (And.intro rfl (fz_eq (congrArg (AV.own _ _ _) (by (try dsimp only); (try simp only [List.length_append, List.length_map, List.length_cons, List.length_nil, List.length_take, List.length_set, List.length_replicate]); (try dsimp only); first | done | omega)))))) ?_))) (Sub.refl _) (by first | omega | (dsimp only; omega)) ⟨by omega, hq⟩
  obtain rfl : k = i := by omega
  rw [none'_take hno, if_neg Bool.false_ne_true]
  generalize (t.its.take k).any (fun y => y.num == x.num) = b at *
  (first | refine au ?_ | exact au0 | fail)
  refine bsplit_dec (fun h13 => ?_) (fun h13 => ?_)
  · have hin := orderE_in ho _ (hpt (.inl h13))
    have hge3 := tAt_get (l := l) hin.1 (by omega)
    rw [if_pos h13]
    generalize tAt l x.ty = g at *
    (first | refine au ?_ | exact au0 | fail)
    rw [hge3]
    (first | refine au ?_ | exact au0 | fail)
    cases hkey : x.key
    all_goals (repeat' (first | (refine au ?_; first | refine callF_eq (r5_Number_spec _ _) ?_ | refine bsplit_dec (fun _ => ?_) (fun _ => ?_) | refine bsplit_intro (fun _ => ?_) (fun _ => ?_)) | exact au0 | fail)); (all_goals try (first | refine au ?_ | fail))
    all_goals (refine ⟨fz_eq (congrArg (AV.int .i64) ?_), sub_of⟩; simp only [isNum, decide_eq_false_iff_not, true_and, Bool.false_eq_true, false_and, if_false]; first | done | (split <;> omega))
  · rw [if_neg h13]
    have hm := hmay h13
    cases hr : x.rest
    · (first | refine au ?_ | exact au0 | fail)
      first | refine callF_eq (hm _) ?_ | refine callG_eq rfl (hm _) ?_
      cases hy : mayT l t x.num
      · (first | refine au ?_ | exact au0 | fail)
        exact ⟨fz_of, sub_of⟩
      cases b
      · (first | refine au ?_ | exact au0 | fail)
        exact ⟨fz_of, sub_of⟩
      · (first | refine au ?_ | exact au0 | fail)
        exact ⟨fz_of, sub_of⟩
    · rw [if_pos (rfl : true = true)]
      (first | refine au ?_ | exact au0 | fail)
      refine bsplit_dec (fun c => ?_) (fun c => ?_)
      · (first | refine au ?_ | exact au0 | fail)
        refine ⟨fz_eq (congrArg (AV.int .i64) ?_), sub_of⟩
        rw [if_neg (by omega)]
      · (first | refine au ?_ | exact au0 | fail)
        refine ⟨fz_eq (congrArg (AV.int .i64) ?_), sub_of⟩
        rw [if_pos (by omega)]
end Go.Proofs.Ytodiahhfpcdejaa

/- Types in the reference, walked: which may be. -/
namespace Go.Proofs.Ytodiahhfpcdejaa
set_option autoImplicit false
set_option linter.unusedSimpArgs false
set_option linter.unusedVariables false
attribute [local irreducible] callA callP ACalls
theorem dpT_pre (l : List Ty) : ∀ (n p : Nat), p < n → (dpT l n).getD p 0 = (dpT l (p + 1)).getD p 0
  | 0, p, h => by omega
  | n + 1, p, h => by
    by_cases e : p = n
    · rw [e]
    · rw [dpT_succ, List.getD_eq_getElem?_getD, List.getElem?_append_left (by rw [dpT_len]; omega), ← List.getD_eq_getElem?_getD]
      exact dpT_pre l n p (by omega)
theorem dpT_deep {l : List Ty} {n p : Nat} (h : p < n) (hn : n ≤ l.length) : (dpT l n).getD p 0 = deepT l p := by
  unfold deepT
  rw [if_pos (by omega), dpT_pre l n p h, Int.toNat_natCast]
theorem deepT_eq {l : List Ty} {n : Nat} (h : n < l.length) : deepT l n = (parts l[n]).foldl (dpF (dpT l n) n) 1 := by
  unfold deepT
  rw [if_pos (by omega), Int.toNat_natCast, dpT_succ, getD_get h, List.getD_eq_getElem?_getD, List.getElem?_append_right (by rw [dpT_len]; omega), dpT_len]
  simp
theorem r6_Deep_spec : ∀ (m : Nat) (l : List Ty) (_ : TysOk l) (t : Int) (_ : t < m) (H : AH), ACalls PG broadsheetref06_Deep.n [tysA l, .int .i64 t] H fun r H' => r = .int .i64 (deepT l t : Nat) ∧ H' = H := by
  intro m
  induction m with
  | zero =>
    intro l hl t ht H
    refine ACalls.fz (broadsheetref06_Deep.of rfl (wpF_start ?_))
    unfold deepT
    rw [if_neg (by omega)]
    (repeat' (first | (refine au ?_; first | refine bsplit_dec (fun _ => ?_) (fun _ => ?_) | refine bsplit_intro (fun _ => ?_) (fun _ => ?_)) | exact au0 | fail)); (all_goals try (first | refine au ?_ | fail))
    all_goals first | omega | exact ⟨fz_of, sub_of⟩
  | succ m ih =>
    intro l hl t ht H
    have hlen : (l.map tyR).length = l.length := by simp
    have hll := hl.len
    refine ACalls.fz (broadsheetref06_Deep.of rfl (wpF_start ?_))
    by_cases hb : 0 ≤ t ∧ t < l.length
    · obtain ⟨n, rfl⟩ : ∃ n : Nat, t = n := ⟨t.toNat, by omega⟩
      have hnl : n < l.length := by omega
      have hge := row_get (f := tyR) hnl
      have hdt := deepT_eq hnl
      have hti := (hl.all _ (List.getElem_mem hnl)).its
      rw [hdt]
      have hDle := dpT_le l n
      generalize l[n] = g at *
      have hpl := parts_len g
      have hplm : ((parts g).map inR).length = (parts g).length := by simp
      (first | refine au ?_ | exact au0 | fail)
      rw [hge]
      (first | refine au ?_ | exact au0 | fail)
      first | refine callF_eq (r6_Parts_spec g hti _) ?_ | refine callG_eq rfl (r6_Parts_spec g hti _) ?_
      (first | refine au ?_ | exact au0 | fail)
      refine loopM (S := Nat) [(0, some _), (1, some _), (5, some _)] (fun j => [(6, some (.int .i64 (((parts g).take j).foldl (dpF (dpT l n) n) 1 : Nat))), (7, some (.int .i64 (j : Nat)))]) (fun _ => _) (fun j => (parts g).length - j) (fun j => j ≤ (parts g).length) 0 (by repeat (first | exact trivial | refine And.intro (Or.inl rfl) ?_ | refine And.intro (Or.inr (Exists.intro _ (And.intro rfl (Fz.refl _)))) ?_ | refine And.intro (Or.inr (Exists.intro _ (And.intro rfl (fz_eq (congrArg (AV.int _) (by omega)))))) ?_ | refine And.intro (Or.inr (Exists.intro _ (And.intro rfl (fz_eq (congrArg (AV.own _ _ _) (by (try dsimp only); (try simp only [List.length_append, List.length_map, List.length_cons, List.length_nil, List.length_take, List.length_set, List.length_replicate]); (try dsimp only); first | done | omega)))))) ?_)) (Sub.refl _) (Nat.zero_le _) (fun j hj => ?_)
      have hm := dpF_le (n := n) hDle ((parts g).take j) 1 (by omega)
      (first | refine au ?_ | exact au0 | fail)
      refine bsplit_dec (fun c2 => ?_) (fun c2 => ?_)
      · have hjl : j < (parts g).length := by omega
        have hge2 := row_get (f := inR) hjl
        have hft := foldl_take (dpF (dpT l n) n) 1 (parts g) j hjl
        generalize (parts g)[j] = p at *
        generalize ((parts g).take j).foldl (dpF (dpT l n) n) 1 = q at *
        rw [show dpF (dpT l n) n q p = if 0 ≤ p ∧ p < (n : Int) then max q ((dpT l n).getD p.toNat 0 + 1) else q from rfl] at hft
        (first | refine au ?_ | exact au0 | fail)
        rw [hge2]
        (first | refine au ?_ | exact au0 | fail)
        refine bsplit_dec (fun c3 => ?_) (fun c3 => ?_)
        · (first | refine au ?_ | exact au0 | fail)
          rw [hge2]
          (first | refine au ?_ | exact au0 | fail)
          refine bsplit_dec (fun c4 => ?_) (fun c4 => ?_)
          · rw [if_pos (by omega), dpT_deep (by omega) (by omega), Int.toNat_of_nonneg c4] at hft
            have hdp : deepT l p ≤ n := by
              have := dpT_deep (l := l) (n := n) (p := p.toNat) (by omega) (by omega)
              rw [Int.toNat_of_nonneg c4] at this
              rw [← this, getD_get (by rw [dpT_len]; omega)]
              exact hDle _ (List.getElem_mem _)
            (first | refine au ?_ | exact au0 | fail)
            rw [hge2]
            (first | refine au ?_ | exact au0 | fail)
            first | refine callF_eq (ih l hl p (by omega) _) ?_ | refine callG_eq rfl (ih l hl p (by omega) _) ?_
            (first | refine au ?_ | exact au0 | fail)
            refine bsplit_dec (fun c5 => ?_) (fun c5 => ?_)
            · (first | refine au ?_ | exact au0 | fail)
              refine nextS (S := Nat) (j + 1) (by (try dsimp only); rw [hft, show max q (deepT l p + 1) = deepT l p + 1 from by omega]; exact (by repeat (first | exact trivial | refine And.intro (Or.inl rfl) ?_ | refine And.intro (Or.inr (Exists.intro _ (And.intro rfl (Fz.refl _)))) ?_ | refine And.intro (Or.inr (Exists.intro _ (And.intro rfl (fz_eq (congrArg (AV.int _) (by omega)))))) ?_ | refine And.intro (Or.inr (Exists.intro _ (And.intro rfl (fz_eq (congrArg (AV.own _ _ _) (by (try dsimp only); (try simp only [List.length_append, List.length_map, List.length_cons, List.length_nil, List.length_take, List.length_set, List.length_replicate]); (try dsimp only); first | done | omega)))))) ?_))) (Sub.refl _) (by first | omega | (dsimp only; omega)) hjl
            · (first | refine au ?_ | exact au0 | fail)
              refine nextS (S := Nat) (j + 1) (by (try dsimp only); rw [hft, show max q (deepT l p + 1) = q from by omega]; exact (by repeat (first | exact trivial | refine And.intro (Or.inl rfl) ?_ | refine And.intro (Or.inr (Exists.intro _ (And.intro rfl (Fz.refl _)))) ?_ | refine And.intro (Or.inr (Exists.intro _ (And.intro rfl (fz_eq (congrArg (AV.int _) (by omega)))))) ?_ | refine And.intro (Or.inr (Exists.intro _ (And.intro rfl (fz_eq (congrArg (AV.own _ _ _) (by (try dsimp only); (try simp only [List.length_append, List.length_map, List.length_cons, List.length_nil, List.length_take, List.length_set, List.length_replicate]); (try dsimp only); first | done | omega)))))) ?_))) (Sub.refl _) (by first | omega | (dsimp only; omega)) hjl
          · rw [if_neg (by omega)] at hft
            (first | refine au ?_ | exact au0 | fail)
            refine nextS (S := Nat) (j + 1) (by (try dsimp only); rw [hft]; exact (by repeat (first | exact trivial | refine And.intro (Or.inl rfl) ?_ | refine And.intro (Or.inr (Exists.intro _ (And.intro rfl (Fz.refl _)))) ?_ | refine And.intro (Or.inr (Exists.intro _ (And.intro rfl (fz_eq (congrArg (AV.int _) (by omega)))))) ?_ | refine And.intro (Or.inr (Exists.intro _ (And.intro rfl (fz_eq (congrArg (AV.own _ _ _) (by (try dsimp only); (try simp only [List.length_append, List.length_map, List.length_cons, List.length_nil, List.length_take, List.length_set, List.length_replicate]); (try dsimp only); first | done | omega)))))) ?_))) (Sub.refl _) (by first | omega | (dsimp only; omega)) hjl
        · rw [if_neg (by omega)] at hft
          (first | refine au ?_ | exact au0 | fail)
          refine nextS (S := Nat) (j + 1) (by (try dsimp only); rw [hft]; exact (by repeat (first | exact trivial | refine And.intro (Or.inl rfl) ?_ | refine And.intro (Or.inr (Exists.intro _ (And.intro rfl (Fz.refl _)))) ?_ | refine And.intro (Or.inr (Exists.intro _ (And.intro rfl (fz_eq (congrArg (AV.int _) (by omega)))))) ?_ | refine And.intro (Or.inr (Exists.intro _ (And.intro rfl (fz_eq (congrArg (AV.own _ _ _) (by (try dsimp only); (try simp only [List.length_append, List.length_map, List.length_cons, List.length_nil, List.length_take, List.length_set, List.length_replicate]); (try dsimp only); first | done | omega)))))) ?_))) (Sub.refl _) (by first | omega | (dsimp only; omega)) hjl
      · obtain rfl : j = (parts g).length := by omega
        rw [List.take_length]
        (first | refine au ?_ | exact au0 | fail)
        exact ⟨fz_of, sub_of⟩
    · unfold deepT
      rw [if_neg hb]
      (repeat' (first | (refine au ?_; first | refine bsplit_dec (fun _ => ?_) (fun _ => ?_) | refine bsplit_intro (fun _ => ?_) (fun _ => ?_)) | exact au0 | fail)); (all_goals try (first | refine au ?_ | fail))
      all_goals first | omega | exact ⟨fz_of, sub_of⟩
theorem formE_0 {t : Ty} (h : ¬ (t.kd < 1 ∨ 14 < t.kd)) (h2 : (tyMore t || t.its.any (itMore t.kd)) = false) : formE t = 0 := by
  simp only [Bool.or_eq_false_iff] at h2
  unfold formE; rw [if_neg h, if_neg (by simp [h2.1, h2.2])]
theorem formE_1 {t : Ty} (h : ¬ (t.kd < 1 ∨ 14 < t.kd)) (h2 : (tyMore t || t.its.any (itMore t.kd)) = true) : formE t = 1 := by
  simp only [Bool.or_eq_true] at h2
  unfold formE; rw [if_neg h, if_pos h2]
theorem tyErr_eq {l : List Ty} {n : Nat} (h : n < l.length) : tyErr l n = fst0 [formE l[n], namedE l l[n] n, boundE l[n], orderE l l[n] n, itemsE l l[n], deepE l n] := by
  unfold tyErr; rw [getD_get h]
set_option maxHeartbeats 2000000 in
theorem r6_one_spec (l : List Ty) (hl : TysOk l) (n : Nat) (hn : n < l.length) (H : AH) : ACalls PG broadsheetref06_one.n [tysA l, .int .i64 (n : Nat)] H fun r H' => r = .int .i64 (tyErr l n) ∧ H' = H := by
  have hlen : (l.map tyR).length = l.length := by simp
  have hll := hl.len
  have hge := row_get (f := tyR) hn
  have hok := hl.all _ (List.getElem_mem hn)
  have hdp := r6_Deep_spec (n + 1) l hl n (by omega)
  refine ACalls.fz (broadsheetref06_one.of rfl (wpF_start ?_))
  rw [tyErr_eq hn]
  generalize l[n] = t at *
  have hlen2 : (t.its.map itR).length = t.its.length := by simp
  have hli := hok.its
  (first | refine au ?_ | exact au0 | fail)
  rw [hge]
  (first | refine au ?_ | exact au0 | fail)
  intro id5 hid5 ht5; have n5 := neAll_of hid5; (try simp only [neAll, neAll_hset] at n5); have m5 := n5; (repeat (obtain ⟨_, m5⟩ := m5))
  by_cases hk : t.kd < 1 ∨ 14 < t.kd
  · have e : formE t = 4 := by unfold formE; rw [if_pos hk]
    (repeat' (first | (refine au ?_; first | refine bsplit_dec (fun _ => ?_) (fun _ => ?_) | refine bsplit_intro (fun _ => ?_) (fun _ => ?_)) | exact au0 | fail)); (all_goals try (first | refine au ?_ | fail))
    all_goals first | omega | (refine ⟨fz_eq (congrArg (AV.int .i64) (by simp [fst0, e])), sub_of⟩)
  (first | refine au ?_ | exact au0 | fail)
  first | refine callF_eq (r6_more_spec t hok _) ?_ | refine callG_eq rfl (r6_more_spec t hok _) ?_
  cases hm : tyMore t || t.its.any (itMore t.kd)
  rotate_left
  · have e := formE_1 hk hm
    (first | refine au ?_ | exact au0 | fail)
    refine ⟨fz_eq (congrArg (AV.int .i64) (by simp [fst0, e])), sub_of⟩
  have z0 := formE_0 hk hm
  (first | refine ab ?_ | exact ab0 | fail)
  refine joinP [(0, some (tysA l)), (1, some (.int .i64 (n : Nat))), (5, some (.ptr id5 6 0 0))] ((id5, .rows 6 [tyR t]) :: H) (namedE l t n = 0) ?_ (fun z1 => ?_)
  · have e : namedE l t n = if kNm t.kd = true then (if nameOk t.nm = true then (if (l.take n).any (fun x => x.nm == t.nm) = true then 6 else 0) else 5) else 0 := rfl
    (first | refine au ?_ | exact au0 | fail)
    first | refine callF_eq (r6_named_spec _ _) ?_ | refine callG_eq rfl (r6_named_spec _ _) ?_
    cases hN : kNm t.kd
    · rw [hN, if_neg Bool.false_ne_true] at e
      (first | refine au ?_ | exact au0 | fail)
      exact metP (by repeat (first | exact trivial | refine And.intro (Or.inl rfl) ?_ | refine And.intro (Or.inr (Exists.intro _ (And.intro rfl (Fz.refl _)))) ?_ | refine And.intro (Or.inr (Exists.intro _ (And.intro rfl (fz_eq (congrArg (AV.int _) (by omega)))))) ?_ | refine And.intro (Or.inr (Exists.intro _ (And.intro rfl (fz_eq (congrArg (AV.own _ _ _) (by (try dsimp only); (try simp only [List.length_append, List.length_map, List.length_cons, List.length_nil, List.length_take, List.length_set, List.length_replicate]); (try dsimp only); first | done | omega)))))) ?_)) sub_of e
    rw [hN, if_pos rfl] at e
    (first | refine au ?_ | exact au0 | fail)
    first | refine callF_eq (r4_Name_spec _ hok.nm _) ?_ | refine callG_eq rfl (r4_Name_spec _ hok.nm _) ?_
    cases hO : nameOk t.nm
    · rw [hO, if_neg Bool.false_ne_true] at e
      (first | refine au ?_ | exact au0 | fail)
      refine ⟨fz_eq (congrArg (AV.int .i64) (by simp [fst0, z0, e])), sub_of⟩
    rw [hO, if_pos rfl] at e
    (first | refine au ?_ | exact au0 | fail)
    refine loopL [(0, some _), (1, some _), (5, some _)] 6 0 n (none' (fun x => x.nm == t.nm) l) (by repeat (first | exact trivial | refine And.intro (Or.inl rfl) ?_ | refine And.intro (Or.inr (Exists.intro _ (And.intro rfl (Fz.refl _)))) ?_ | refine And.intro (Or.inr (Exists.intro _ (And.intro rfl (fz_eq (congrArg (AV.int _) (by omega)))))) ?_ | refine And.intro (Or.inr (Exists.intro _ (And.intro rfl (fz_eq (congrArg (AV.own _ _ _) (by (try dsimp only); (try simp only [List.length_append, List.length_map, List.length_cons, List.length_nil, List.length_take, List.length_set, List.length_replicate]); (try dsimp only); first | done | omega)))))) ?_)) (Nat.zero_le _) none'_zero (fun i hi hno => ?_)
    (first | refine au ?_ | exact au0 | fail)
    refine bsplit_dec (fun c => ?_) (fun c => ?_)
    · have hil : i < l.length := by omega
      have hge2 := row_get (f := tyR) hil
      have hany : (l[i].nm == t.nm) = true → (l.take n).any (fun x => x.nm == t.nm) = true := take_hit (p := fun x : Ty => x.nm == t.nm) hil (by omega)
      have hnx := none'_succ hno hil
      generalize l[i] = x at *
      (first | refine au ?_ | exact au0 | fail)
      rw [hge2]
      (first | refine au ?_ | exact au0 | fail)
      refine bsplit_dec (fun h => ?_) (fun h => ?_)
      · rw [hany (by simpa using h), if_pos rfl] at e
        (first | refine au ?_ | exact au0 | fail)
        refine ⟨fz_eq (congrArg (AV.int .i64) (by simp [fst0, z0, e])), sub_of⟩
      · (first | refine au ?_ | exact au0 | fail)
        refine nextN (by repeat (first | exact trivial | refine And.intro (Or.inl rfl) ?_ | refine And.intro (Or.inr (Exists.intro _ (And.intro rfl (Fz.refl _)))) ?_ | refine And.intro (Or.inr (Exists.intro _ (And.intro rfl (fz_eq (congrArg (AV.int _) (by omega)))))) ?_ | refine And.intro (Or.inr (Exists.intro _ (And.intro rfl (fz_eq (congrArg (AV.own _ _ _) (by (try dsimp only); (try simp only [List.length_append, List.length_map, List.length_cons, List.length_nil, List.length_take, List.length_set, List.length_replicate]); (try dsimp only); first | done | omega)))))) ?_)) (by exact sub_of) (by omega) (hnx (by simpa using h))
    · obtain rfl : i = n := by omega
      rw [none'_take hno, if_neg Bool.false_ne_true] at e
      (first | refine au ?_ | exact au0 | fail)
      exact metP (by repeat (first | exact trivial | refine And.intro (Or.inl rfl) ?_ | refine And.intro (Or.inr (Exists.intro _ (And.intro rfl (Fz.refl _)))) ?_ | refine And.intro (Or.inr (Exists.intro _ (And.intro rfl (fz_eq (congrArg (AV.int _) (by omega)))))) ?_ | refine And.intro (Or.inr (Exists.intro _ (And.intro rfl (fz_eq (congrArg (AV.own _ _ _) (by (try dsimp only); (try simp only [List.length_append, List.length_map, List.length_cons, List.length_nil, List.length_take, List.length_set, List.length_replicate]); (try dsimp only); first | done | omega)))))) ?_)) sub_of e
  (first | refine ab ?_ | exact ab0 | fail)
  refine joinP [(0, some (tysA l)), (1, some (.int .i64 (n : Nat))), (5, some (.ptr id5 6 0 0))] ((id5, .rows 6 [tyR t]) :: H) (boundE t = 0) ?_ (fun z2 => ?_)
  · have hbd : ¬ (t.kd = 10 ∨ t.kd = 11 ∨ t.kd = 12) → t.bd = 0 := fun q => by
      simp only [Bool.or_eq_false_iff, tyMore, decide_eq_false_iff_not] at hm
      apply Classical.byContradiction
      intro q2
      exact hm.1 (.inr (.inl ⟨decide_eq_false q, q2⟩))
    have e7 : (t.kd = 10 ∨ t.kd = 11 ∨ t.kd = 12) ∧ (64 < t.bd ∨ t.bd < 0 ∨ ((t.kd = 11 ∨ t.kd = 12) ∧ t.bd = 0)) → boundE t = 7 := fun q => by
      unfold boundE kBd kEl; rw [if_pos ⟨decide_eq_true q.1, by simpa using q.2⟩]
    have e0 : ¬ ((t.kd = 10 ∨ t.kd = 11 ∨ t.kd = 12) ∧ (64 < t.bd ∨ t.bd < 0 ∨ ((t.kd = 11 ∨ t.kd = 12) ∧ t.bd = 0))) → boundE t = 0 := fun q => by
      unfold boundE kBd kEl; rw [if_neg (by simpa using q)]
    (repeat' (first | (refine au ?_; first | refine bsplit_dec (fun _ => ?_) (fun _ => ?_) | refine bsplit_intro (fun _ => ?_) (fun _ => ?_)) | exact au0 | fail)); (all_goals try (first | refine au ?_ | fail))
    all_goals first
      | (refine metP (by repeat (first | exact trivial | refine And.intro (Or.inl rfl) ?_ | refine And.intro (Or.inr (Exists.intro _ (And.intro rfl (Fz.refl _)))) ?_ | refine And.intro (Or.inr (Exists.intro _ (And.intro rfl (fz_eq (congrArg (AV.int _) (by omega)))))) ?_ | refine And.intro (Or.inr (Exists.intro _ (And.intro rfl (fz_eq (congrArg (AV.own _ _ _) (by (try dsimp only); (try simp only [List.length_append, List.length_map, List.length_cons, List.length_nil, List.length_take, List.length_set, List.length_replicate]); (try dsimp only); first | done | omega)))))) ?_)) sub_of (e0 (by omega)))
      | (have e := e7 (by omega); refine ⟨fz_eq (congrArg (AV.int .i64) (by simp [fst0, z0, z1, e])), sub_of⟩)
  have hpl := parts_len t
  have hplm : ((parts t).map inR).length = (parts t).length := by simp
  (first | refine au ?_ | exact au0 | fail)
  first | refine callF_eq (r6_Parts_spec t hli _) ?_ | refine callG_eq rfl (r6_Parts_spec t hli _) ?_
  (first | refine au ?_ | exact au0 | fail)
  have eo : orderE l t n = if (parts t).any (fun p => decide (p < 0 ∨ (n : Int) ≤ p)) = true then 14 else if t.kd = 14 ∧ isNum (tAt l t.tg).kd = false then 8 else 0 := rfl
  refine loopL [(0, some _), (1, some _), (5, some _), (7, some _)] 8 0 (parts t).length (none' (fun p => decide (p < 0 ∨ (n : Int) ≤ p)) (parts t)) (by repeat (first | exact trivial | refine And.intro (Or.inl rfl) ?_ | refine And.intro (Or.inr (Exists.intro _ (And.intro rfl (Fz.refl _)))) ?_ | refine And.intro (Or.inr (Exists.intro _ (And.intro rfl (fz_eq (congrArg (AV.int _) (by omega)))))) ?_ | refine And.intro (Or.inr (Exists.intro _ (And.intro rfl (fz_eq (congrArg (AV.own _ _ _) (by (try dsimp only); (try simp only [List.length_append, List.length_map, List.length_cons, List.length_nil, List.length_take, List.length_set, List.length_replicate]); (try dsimp only); first | done | omega)))))) ?_)) (Nat.zero_le _) none'_zero (fun i hi hno => ?_)
  (first | refine au ?_ | exact au0 | fail)
  refine bsplit_dec (fun c => ?_) (fun c => ?_)
  · have hpi : i < (parts t).length := by omega
    have hge2 := row_get (f := inR) hpi
    have hany : decide ((parts t)[i] < 0 ∨ (n : Int) ≤ (parts t)[i]) = true → (parts t).any (fun p => decide (p < 0 ∨ (n : Int) ≤ p)) = true := any_hit (p := fun p => decide (p < 0 ∨ (n : Int) ≤ p)) hpi
    have hnx := none'_succ hno hpi
    generalize (parts t)[i] = x at *
    (first | refine au ?_ | exact au0 | fail)
    rw [hge2]
    (first | refine au ?_ | exact au0 | fail)
    refine bsplit_dec (fun c1 => ?_) (fun c1 => ?_)
    · rw [hany (decide_eq_true (by omega)), if_pos rfl] at eo
      (first | refine au ?_ | exact au0 | fail)
      refine ⟨fz_eq (congrArg (AV.int .i64) (by simp [fst0, z0, z1, z2, eo])), sub_of⟩
    (first | refine au ?_ | exact au0 | fail)
    rw [hge2]
    (first | refine au ?_ | exact au0 | fail)
    refine bsplit_dec (fun c2 => ?_) (fun c2 => ?_)
    · rw [hany (decide_eq_true (by omega)), if_pos rfl] at eo
      (first | refine au ?_ | exact au0 | fail)
      refine ⟨fz_eq (congrArg (AV.int .i64) (by simp [fst0, z0, z1, z2, eo])), sub_of⟩
    (first | refine au ?_ | exact au0 | fail)
    refine nextN (by repeat (first | exact trivial | refine And.intro (Or.inl rfl) ?_ | refine And.intro (Or.inr (Exists.intro _ (And.intro rfl (Fz.refl _)))) ?_ | refine And.intro (Or.inr (Exists.intro _ (And.intro rfl (fz_eq (congrArg (AV.int _) (by omega)))))) ?_ | refine And.intro (Or.inr (Exists.intro _ (And.intro rfl (fz_eq (congrArg (AV.own _ _ _) (by (try dsimp only); (try simp only [List.length_append, List.length_map, List.length_cons, List.length_nil, List.length_take, List.length_set, List.length_replicate]); (try dsimp only); first | done | omega)))))) ?_)) (by exact sub_of) (by omega) (hnx (decide_eq_false (by omega)))
  have hany := none'_end hno (show (parts t).length ≤ i by omega)
  rw [hany, if_neg Bool.false_ne_true] at eo
  (first | refine ab ?_ | exact ab0 | fail)
  refine joinP [(0, some (tysA l)), (1, some (.int .i64 (n : Nat))), (5, some (.ptr id5 6 0 0))] ((id5, .rows 6 [tyR t]) :: H) (orderE l t n = 0) ?_ (fun z3 => ?_)
  · (first | refine au ?_ | exact au0 | fail)
    refine bsplit_dec (fun h => ?_) (fun h => ?_)
    · have hq := List.any_eq_false.1 hany _ (parts_tag h)
      simp only [decide_eq_true_eq] at hq
      have hge3 := tAt_get (l := l) (t := t.tg) (by omega) (by omega)
      generalize tAt l t.tg = g at *
      (first | refine au ?_ | exact au0 | fail)
      rw [hge3]
      (first | refine au ?_ | exact au0 | fail)
      first | refine callF_eq (r5_Number_spec _ _) ?_ | refine callG_eq rfl (r5_Number_spec _ _) ?_
      cases hI : isNum g.kd
      · rw [hI, if_pos ⟨h, rfl⟩] at eo
        (first | refine au ?_ | exact au0 | fail)
        refine ⟨fz_eq (congrArg (AV.int .i64) (by simp [fst0, z0, z1, z2, eo])), sub_of⟩
      · rw [hI, if_neg (by simp)] at eo
        (first | refine au ?_ | exact au0 | fail)
        exact metP (by repeat (first | exact trivial | refine And.intro (Or.inl rfl) ?_ | refine And.intro (Or.inr (Exists.intro _ (And.intro rfl (Fz.refl _)))) ?_ | refine And.intro (Or.inr (Exists.intro _ (And.intro rfl (fz_eq (congrArg (AV.int _) (by omega)))))) ?_ | refine And.intro (Or.inr (Exists.intro _ (And.intro rfl (fz_eq (congrArg (AV.own _ _ _) (by (try dsimp only); (try simp only [List.length_append, List.length_map, List.length_cons, List.length_nil, List.length_take, List.length_set, List.length_replicate]); (try dsimp only); first | done | omega)))))) ?_)) sub_of eo
    · rw [if_neg (fun q => h q.1)] at eo
      (first | refine au ?_ | exact au0 | fail)
      exact metP (by repeat (first | exact trivial | refine And.intro (Or.inl rfl) ?_ | refine And.intro (Or.inr (Exists.intro _ (And.intro rfl (Fz.refl _)))) ?_ | refine And.intro (Or.inr (Exists.intro _ (And.intro rfl (fz_eq (congrArg (AV.int _) (by omega)))))) ?_ | refine And.intro (Or.inr (Exists.intro _ (And.intro rfl (fz_eq (congrArg (AV.own _ _ _) (by (try dsimp only); (try simp only [List.length_append, List.length_map, List.length_cons, List.length_nil, List.length_take, List.length_set, List.length_replicate]); (try dsimp only); first | done | omega)))))) ?_)) sub_of eo
  have ei : itemsE l t = if kNm t.kd = true then (if t.its.length = 0 then 18 else if 16 < t.its.length then 3 else fst0 ((List.range t.its.length).map (itemE l t))) else 0 := rfl
  have hno0 : kNm t.kd = false → t.its = [] := fun q => by
    simp only [Bool.or_eq_false_iff, tyMore, decide_eq_false_iff_not] at hm
    apply Classical.byContradiction
    intro q2
    exact hm.1 (.inl ⟨q, .inr q2⟩)
  (first | refine ab ?_ | exact ab0 | fail)
  refine joinP [(0, some (tysA l)), (1, some (.int .i64 (n : Nat))), (5, some (.ptr id5 6 0 0))] ((id5, .rows 6 [tyR t]) :: H) (kNm t.kd = true → t.its.length ≠ 0) ?_ (fun p4 => ?_)
  · (first | refine au ?_ | exact au0 | fail)
    first | refine callF_eq (r6_named_spec _ _) ?_ | refine callG_eq rfl (r6_named_spec _ _) ?_
    cases hN : kNm t.kd
    · (first | refine au ?_ | exact au0 | fail)
      exact metP (by repeat (first | exact trivial | refine And.intro (Or.inl rfl) ?_ | refine And.intro (Or.inr (Exists.intro _ (And.intro rfl (Fz.refl _)))) ?_ | refine And.intro (Or.inr (Exists.intro _ (And.intro rfl (fz_eq (congrArg (AV.int _) (by omega)))))) ?_ | refine And.intro (Or.inr (Exists.intro _ (And.intro rfl (fz_eq (congrArg (AV.own _ _ _) (by (try dsimp only); (try simp only [List.length_append, List.length_map, List.length_cons, List.length_nil, List.length_take, List.length_set, List.length_replicate]); (try dsimp only); first | done | omega)))))) ?_)) sub_of (fun q => by cases q)
    · rw [hN, if_pos rfl] at ei
      (first | refine au ?_ | exact au0 | fail)
      refine bsplit_dec (fun c => ?_) (fun c => ?_)
      · rw [if_pos (by omega)] at ei
        (first | refine au ?_ | exact au0 | fail)
        refine ⟨fz_eq (congrArg (AV.int .i64) (by simp [fst0, z0, z1, z2, z3, ei])), sub_of⟩
      · (first | refine au ?_ | exact au0 | fail)
        exact metP (by repeat (first | exact trivial | refine And.intro (Or.inl rfl) ?_ | refine And.intro (Or.inr (Exists.intro _ (And.intro rfl (Fz.refl _)))) ?_ | refine And.intro (Or.inr (Exists.intro _ (And.intro rfl (fz_eq (congrArg (AV.int _) (by omega)))))) ?_ | refine And.intro (Or.inr (Exists.intro _ (And.intro rfl (fz_eq (congrArg (AV.own _ _ _) (by (try dsimp only); (try simp only [List.length_append, List.length_map, List.length_cons, List.length_nil, List.length_take, List.length_set, List.length_replicate]); (try dsimp only); first | done | omega)))))) ?_)) sub_of (fun _ => by omega)
  (first | refine au ?_ | exact au0 | fail)
  refine bsplit_dec (fun c => ?_) (fun c => ?_)
  · have hN : kNm t.kd = true := by
      cases hN : kNm t.kd
      · rw [hno0 hN] at c; simp at c
      · rfl
    rw [hN, if_pos rfl, if_neg (by omega), if_pos (by omega)] at ei
    (first | refine au ?_ | exact au0 | fail)
    refine ⟨fz_eq (congrArg (AV.int .i64) (by simp [fst0, z0, z1, z2, z3, ei])), sub_of⟩
  have hgl : ∀ (k : Nat) (h : k < ((List.range t.its.length).map (itemE l t)).length), ((List.range t.its.length).map (itemE l t))[k] = itemE l t k := fun k h => by simp
  have hlm : ((List.range t.its.length).map (itemE l t)).length = t.its.length := by simp
  (first | refine au ?_ | exact au0 | fail)
  refine loopL [(0, some _), (1, some _), (5, some _)] 9 0 t.its.length (fun i => ∀ k, k < i → itemE l t k = 0) (by repeat (first | exact trivial | refine And.intro (Or.inl rfl) ?_ | refine And.intro (Or.inr (Exists.intro _ (And.intro rfl (Fz.refl _)))) ?_ | refine And.intro (Or.inr (Exists.intro _ (And.intro rfl (fz_eq (congrArg (AV.int _) (by omega)))))) ?_ | refine And.intro (Or.inr (Exists.intro _ (And.intro rfl (fz_eq (congrArg (AV.own _ _ _) (by (try dsimp only); (try simp only [List.length_append, List.length_map, List.length_cons, List.length_nil, List.length_take, List.length_set, List.length_replicate]); (try dsimp only); first | done | omega)))))) ?_)) (Nat.zero_le _) (fun k h => by omega) (fun i hi hno => ?_)
  (first | refine au ?_ | exact au0 | fail)
  refine bsplit_dec (fun c3 => ?_) (fun c3 => ?_)
  · have hil : i < t.its.length := by omega
    have hN : kNm t.kd = true := by
      cases hN : kNm t.kd
      · rw [hno0 hN] at hil; simp at hil
      · rfl
    rw [hN, if_pos rfl, if_neg (by omega), if_neg (by omega)] at ei
    (first | refine au ?_ | exact au0 | fail)
    first | refine callF_eq (r6_item_spec l hl n t hok (by omega) hN z3 i hil _) ?_ | refine callG_eq rfl (r6_item_spec l hl n t hok (by omega) hN z3 i hil _) ?_
    (first | refine au ?_ | exact au0 | fail)
    refine bsplit_dec (fun h => ?_) (fun h => ?_)
    · rw [fst0_hit (i := i) (fun k hk h3 => by rw [hgl]; exact hno k h3) (by omega) (by rw [hgl]; exact h), hgl] at ei
      (first | refine au ?_ | exact au0 | fail)
      refine ⟨fz_eq (congrArg (AV.int .i64) (by simp [fst0, z0, z1, z2, z3, ei, h])), sub_of⟩
    · (first | refine au ?_ | exact au0 | fail)
      refine nextN (by repeat (first | exact trivial | refine And.intro (Or.inl rfl) ?_ | refine And.intro (Or.inr (Exists.intro _ (And.intro rfl (Fz.refl _)))) ?_ | refine And.intro (Or.inr (Exists.intro _ (And.intro rfl (fz_eq (congrArg (AV.int _) (by omega)))))) ?_ | refine And.intro (Or.inr (Exists.intro _ (And.intro rfl (fz_eq (congrArg (AV.own _ _ _) (by (try dsimp only); (try simp only [List.length_append, List.length_map, List.length_cons, List.length_nil, List.length_take, List.length_set, List.length_replicate]); (try dsimp only); first | done | omega)))))) ?_)) (by exact sub_of) (by omega) (fun k hk => ?_)
      by_cases e : k = i
      · subst e; exact Classical.not_not.1 h
      · exact hno k (by omega)
  have z4 : itemsE l t = 0 := by
    rw [ei]
    split
    · rename_i hN
      rw [if_neg (p4 hN), if_neg (by omega), fst0_end (fun k hk => by rw [hgl]; exact hno k (by omega))]
    · rfl
  have ed : deepE l n = if 6 < deepT l n then 9 else 0 := rfl
  (first | refine au ?_ | exact au0 | fail)
  first | refine callF_eq (hdp _) ?_ | refine callG_eq rfl (hdp _) ?_
  (first | refine au ?_ | exact au0 | fail)
  refine bsplit_dec (fun c4 => ?_) (fun c4 => ?_)
  · rw [if_pos (by omega)] at ed
    (first | refine au ?_ | exact au0 | fail)
    refine ⟨fz_eq (congrArg (AV.int .i64) (by simp [fst0, z0, z1, z2, z3, z4, ed])), sub_of⟩
  · rw [if_neg (by omega)] at ed
    (first | refine au ?_ | exact au0 | fail)
    refine ⟨fz_eq (congrArg (AV.int .i64) (by simp [fst0, z0, z1, z2, z3, z4, ed])), sub_of⟩
theorem r6_Check_spec0 (l : List Ty) (hl : TysOk l) : ACalls PG broadsheetref06_Check.n [tysA l] [] fun r _ => r = .agg [.int .i64 (tyChk l).1, .int .i64 (tyChk l).2] := by
  have hlen : (l.map tyR).length = l.length := by simp
  have hll := hl.len
  refine ACalls.fzK (broadsheetref06_Check.of rfl (wpF_start ?_))
  unfold tyChk
  (first | refine au ?_ | exact au0 | fail)
  intro id2 hid2 ht2; have n2 := neAll_of hid2; (try simp only [neAll, neAll_hset] at n2); have m2 := n2; (repeat (obtain ⟨_, m2⟩ := m2))
  (first | refine au ?_ | exact au0 | fail)
  refine bsplit_dec (fun c => ?_) (fun c => ?_)
  · rw [if_pos (by omega)]
    (first | refine au ?_ | exact au0 | fail)
    exact fz_of
  rw [if_neg (by omega)]
  (first | refine au ?_ | exact au0 | fail)
  have hr : (List.range l.length).length = l.length := List.length_range
  refine loopL [(0, some _), (2, some _)] 3 0 l.length (none' (fun i => decide (tyErr l i ≠ 0)) (List.range l.length)) (by repeat (first | exact trivial | refine And.intro (Or.inl rfl) ?_ | refine And.intro (Or.inr (Exists.intro _ (And.intro rfl (Fz.refl _)))) ?_ | refine And.intro (Or.inr (Exists.intro _ (And.intro rfl (fz_eq (congrArg (AV.int _) (by omega)))))) ?_ | refine And.intro (Or.inr (Exists.intro _ (And.intro rfl (fz_eq (congrArg (AV.own _ _ _) (by (try dsimp only); (try simp only [List.length_append, List.length_map, List.length_cons, List.length_nil, List.length_take, List.length_set, List.length_replicate]); (try dsimp only); first | done | omega)))))) ?_)) (Nat.zero_le _) none'_zero (fun i hi hno => ?_)
  (first | refine au ?_ | exact au0 | fail)
  refine bsplit_dec (fun c2 => ?_) (fun c2 => ?_)
  · have hil : i < l.length := by omega
    have hhit : tyErr l i ≠ 0 → (List.range l.length).findIdx? (fun i => decide (tyErr l i ≠ 0)) = some i := fun q => find_hit hno (by omega) (by simpa using q)
    have hnx : tyErr l i = 0 → _ := fun q => none'_succ hno (by omega) (by simpa using q)
    (first | refine au ?_ | exact au0 | fail)
    first | refine callF_eq (r6_one_spec l hl i hil _) ?_ | refine callG_eq rfl (r6_one_spec l hl i hil _) ?_
    (first | refine au ?_ | exact au0 | fail)
    refine bsplit_dec (fun h => ?_) (fun h => ?_)
    · (first | refine au ?_ | exact au0 | fail)
      rw [hhit h]
      exact fz_of
    · (first | refine au ?_ | exact au0 | fail)
      exact nextN (by repeat (first | exact trivial | refine And.intro (Or.inl rfl) ?_ | refine And.intro (Or.inr (Exists.intro _ (And.intro rfl (Fz.refl _)))) ?_ | refine And.intro (Or.inr (Exists.intro _ (And.intro rfl (fz_eq (congrArg (AV.int _) (by omega)))))) ?_ | refine And.intro (Or.inr (Exists.intro _ (And.intro rfl (fz_eq (congrArg (AV.own _ _ _) (by (try dsimp only); (try simp only [List.length_append, List.length_map, List.length_cons, List.length_nil, List.length_take, List.length_set, List.length_replicate]); (try dsimp only); first | done | omega)))))) ?_)) (by exact sub_of) (by omega) (hnx (Classical.not_not.1 h))
  · (first | refine au ?_ | exact au0 | fail)
    rw [find_none hno (by omega)]
    exact fz_of
theorem r6_Check_spec (l : List Ty) (hl : TysOk l) (H : AH) : ACalls PG broadsheetref06_Check.n [tysA l] H fun r H' => r = .agg [.int .i64 (tyChk l).1, .int .i64 (tyChk l).2] ∧ H' = H := (r6_Check_spec0 l hl).frame H
theorem Check_spec (l : List Ty) (hl : TysOk l) (H : AH) : ACalls PG types_Check.n [tysA l] H fun r H' => r = .agg [.int .i64 (tyChk l).1, .int .i64 (tyChk l).2] ∧ H' = H := (Check_spec0 l hl).frame H
end Go.Proofs.Ytodiahhfpcdejaa

/- Types in the reference, walked: branches; lists that are too great to be asked. -/
namespace Go.Proofs.Ytodiahhfpcdejaa
set_option autoImplicit false
set_option linter.unusedSimpArgs false
set_option linter.unusedVariables false
attribute [local irreducible] callA callP ACalls
theorem r6_Branch_spec (l : List Ty) (hl : TysOk l) (t : Int) (n : Nat) (H : AH) : ACalls PG broadsheetref06_Branch.n [tysA l, .int .i64 t, .int .u64 (n : Nat)] H fun r H' => r = ixN (brIx l t n) ∧ H' = H := by
  have hlen : (l.map tyR).length = l.length := by simp
  have hll := hl.len
  refine ACalls.fz (broadsheetref06_Branch.of rfl (wpF_start ?_))
  unfold brIx
  by_cases hb : 0 ≤ t ∧ t < l.length
  · have hge := tAt_get hb.1 hb.2
    have hti := (hl.all _ (tAt_mem hb.1 hb.2)).its
    generalize tAt l t = g at *
    have hlen2 : (g.its.map itR).length = g.its.length := by simp
    (first | refine au ?_ | exact au0 | fail)
    rw [hge]
    (first | refine au ?_ | exact au0 | fail)
    refine bsplit_dec (fun c => ?_) (fun c => ?_)
    · rw [if_neg (fun q => c q.2.2)]
      (first | refine au ?_ | exact au0 | fail)
      exact ⟨fz_of, sub_of⟩
    rw [if_pos ⟨hb.1, hb.2, Classical.not_not.1 c⟩]
    (first | refine au ?_ | exact au0 | fail)
    refine loopM (S := Nat × Option Nat) [(0, some _), (1, some _), (2, some _)] (fun s => [(7, some (ixN s.2)), (8, some (.int .i64 (s.1 : Nat)))]) (fun _ => _) (fun s => g.its.length - s.1) (fun s => s.1 ≤ g.its.length ∧ none' (fun x : It => x.num == n && !x.rest) g.its s.1 ∧ (s.2 = none → none' (fun x : It => x.rest) g.its s.1) ∧ ∀ k, s.2 = some k → g.its.findIdx? (fun x : It => x.rest) = some k) (0, none) (by repeat (first | exact trivial | refine And.intro (Or.inl rfl) ?_ | refine And.intro (Or.inr (Exists.intro _ (And.intro rfl (Fz.refl _)))) ?_ | refine And.intro (Or.inr (Exists.intro _ (And.intro rfl (fz_eq (congrArg (AV.int _) (by omega)))))) ?_ | refine And.intro (Or.inr (Exists.intro _ (And.intro rfl (fz_eq (congrArg (AV.own _ _ _) (by (try dsimp only); (try simp only [List.length_append, List.length_map, List.length_cons, List.length_nil, List.length_take, List.length_set, List.length_replicate]); (try dsimp only); first | done | omega)))))) ?_)) (Sub.refl _) ⟨Nat.zero_le _, none'_zero, fun _ => none'_zero, fun k q => by cases q⟩ (fun ⟨i, o⟩ hs => ?_)
    dsimp only at hs ⊢
    obtain ⟨hi, hno, h1, h2⟩ := hs
    (first | refine au ?_ | exact au0 | fail)
    rw [hge]
    (first | refine au ?_ | exact au0 | fail)
    refine bsplit_dec (fun c => ?_) (fun c => ?_)
    · have hil : i < g.its.length := by omega
      have hge2 := row_get (f := itR) hil
      have hhit : (g.its[i].num == n && !g.its[i].rest) = true → g.its.findIdx? (fun x : It => x.num == n && !x.rest) = some i := find_hit (p := fun x : It => x.num == n && !x.rest) hno hil
      have hnx := none'_succ hno hil
      have hrh : o = none → g.its[i].rest = true → g.its.findIdx? (fun x : It => x.rest) = some i := fun q => find_hit (p := fun x : It => x.rest) (h1 q) hil
      have hrn : o = none → g.its[i].rest = false → _ := fun q q2 => none'_succ (h1 q) hil q2
      generalize g.its[i] = x at *
      (first | refine au ?_ | exact au0 | fail)
      rw [hge]
      (first | refine au ?_ | exact au0 | fail)
      rw [hge2]
      (first | refine au ?_ | exact au0 | fail)
      cases hr : x.rest
      · (first | refine au ?_ | exact au0 | fail)
        rw [hge]
        (first | refine au ?_ | exact au0 | fail)
        rw [hge2]
        (first | refine au ?_ | exact au0 | fail)
        refine bsplit_dec (fun c => ?_) (fun c => ?_)
        · (first | refine au ?_ | exact au0 | fail)
          rw [hhit (by simp [hr]; omega)]
          exact ⟨fz_of, sub_of⟩
        · (first | refine au ?_ | exact au0 | fail)
          refine nextS (S := Nat × Option Nat) (i + 1, o) (by repeat (first | exact trivial | refine And.intro (Or.inl rfl) ?_ | refine And.intro (Or.inr (Exists.intro _ (And.intro rfl (Fz.refl _)))) ?_ | refine And.intro (Or.inr (Exists.intro _ (And.intro rfl (fz_eq (congrArg (AV.int _) (by omega)))))) ?_ | refine And.intro (Or.inr (Exists.intro _ (And.intro rfl (fz_eq (congrArg (AV.own _ _ _) (by (try dsimp only); (try simp only [List.length_append, List.length_map, List.length_cons, List.length_nil, List.length_take, List.length_set, List.length_replicate]); (try dsimp only); first | done | omega)))))) ?_)) (Sub.refl _) (by first | omega | (dsimp only; omega)) ⟨hil, hnx (by simp [hr]; omega), fun q => hrn q hr, h2⟩
      · cases o with
        | none =>
          (first | refine au ?_ | exact au0 | fail)
          refine nextS (S := Nat × Option Nat) (i + 1, some i) (by repeat (first | exact trivial | refine And.intro (Or.inl rfl) ?_ | refine And.intro (Or.inr (Exists.intro _ (And.intro rfl (Fz.refl _)))) ?_ | refine And.intro (Or.inr (Exists.intro _ (And.intro rfl (fz_eq (congrArg (AV.int _) (by omega)))))) ?_ | refine And.intro (Or.inr (Exists.intro _ (And.intro rfl (fz_eq (congrArg (AV.own _ _ _) (by (try dsimp only); (try simp only [List.length_append, List.length_map, List.length_cons, List.length_nil, List.length_take, List.length_set, List.length_replicate]); (try dsimp only); first | done | omega)))))) ?_)) (Sub.refl _) (by first | omega | (dsimp only; omega)) ⟨hil, hnx (by simp [hr]), (fun q => by cases q), fun k q => by cases q; exact hrh rfl hr⟩
        | some k =>
          (first | refine au ?_ | exact au0 | fail)
          refine nextS (S := Nat × Option Nat) (i + 1, some k) (by repeat (first | exact trivial | refine And.intro (Or.inl rfl) ?_ | refine And.intro (Or.inr (Exists.intro _ (And.intro rfl (Fz.refl _)))) ?_ | refine And.intro (Or.inr (Exists.intro _ (And.intro rfl (fz_eq (congrArg (AV.int _) (by omega)))))) ?_ | refine And.intro (Or.inr (Exists.intro _ (And.intro rfl (fz_eq (congrArg (AV.own _ _ _) (by (try dsimp only); (try simp only [List.length_append, List.length_map, List.length_cons, List.length_nil, List.length_take, List.length_set, List.length_replicate]); (try dsimp only); first | done | omega)))))) ?_)) (Sub.refl _) (by first | omega | (dsimp only; omega)) ⟨hil, hnx (by simp [hr]), (fun q => by cases q), h2⟩
    · rw [find_none hno (by omega)]
      cases o with
      | none =>
        rw [find_none (h1 rfl) (by omega)]
        (first | refine au ?_ | exact au0 | fail)
        exact ⟨fz_of, sub_of⟩
      | some k =>
        rw [h2 k rfl]
        (first | refine au ?_ | exact au0 | fail)
        exact ⟨fz_of, sub_of⟩
  · rw [if_neg (fun q => hb ⟨q.1, q.2.1⟩)]
    (repeat' (first | (refine au ?_; first | refine bsplit_dec (fun _ => ?_) (fun _ => ?_) | refine bsplit_intro (fun _ => ?_) (fun _ => ?_)) | exact au0 | fail)); (all_goals try (first | refine au ?_ | fail))
    all_goals first | omega | exact ⟨fz_of, sub_of⟩
/-- How many items there are. -/
def itN : List Ty → Nat
  | [] => 0
  | t :: l => t.its.length + itN l
theorem itN_take : ∀ (l : List Ty) (i : Nat) (h : i < l.length), itN (l.take (i + 1)) = itN (l.take i) + l[i].its.length
  | a :: l, 0, h => by simp [itN]
  | a :: l, i + 1, h => by
    have := itN_take l i (by simpa using h)
    simp only [List.take_succ_cons, itN, List.getElem_cons_succ] at this ⊢
    omega
theorem itN_mem : ∀ {l : List Ty} {t : Ty}, t ∈ l → t.its.length ≤ itN l
  | a :: l, t, h => by
    simp only [itN]
    rcases List.mem_cons.1 h with rfl | h
    · omega
    · have := itN_mem h; omega
def tyGreat (l : List Ty) : Bool := decide (100 < l.length) || decide (800 < itN l)
def itB (l : List Ty) (i : Nat) : Nat := min (itN (l.take i)) 1048576
theorem itB_step {l : List Ty} {i : Nat} (h : i < l.length) : itB l (i + 1) = min (itB l i + l[i].its.length) 1048576 := by
  unfold itB; rw [itN_take l i h]; omega
theorem tGreat_spec (l : List Ty) (hl : TysOk l) (H : AH) : ACalls PG broadsheetlaw06_Great.n [tysA l] H fun r H' => r = .bool (tyGreat l) ∧ H' = H := by
  have hlen : (l.map tyR).length = l.length := by simp
  have hll := hl.len
  refine ACalls.fz (broadsheetlaw06_Great.of rfl (wpF_start ?_))
  (first | refine au ?_ | exact au0 | fail)
  refine loopM (S := Nat) [(0, some _)] (fun i => [(3, some (.int .i64 (itB l i : Nat))), (4, some (.int .i64 (i : Nat)))]) (fun _ => _) (fun i => l.length - i) (fun i => i ≤ l.length) 0 (by repeat (first | exact trivial | refine And.intro (Or.inl rfl) ?_ | refine And.intro (Or.inr (Exists.intro _ (And.intro rfl (Fz.refl _)))) ?_ | refine And.intro (Or.inr (Exists.intro _ (And.intro rfl (fz_eq (congrArg (AV.int _) (by omega)))))) ?_ | refine And.intro (Or.inr (Exists.intro _ (And.intro rfl (fz_eq (congrArg (AV.own _ _ _) (by (try dsimp only); (try simp only [List.length_append, List.length_map, List.length_cons, List.length_nil, List.length_take, List.length_set, List.length_replicate]); (try dsimp only); first | done | omega)))))) ?_)) (Sub.refl _) (Nat.zero_le _) (fun i hi => ?_)
  have hb : itB l i ≤ 1048576 := by unfold itB; omega
  (first | refine au ?_ | exact au0 | fail)
  refine bsplit_dec (fun c => ?_) (fun c => ?_)
  · have hil : i < l.length := by omega
    have hge := row_get (f := tyR) hil
    have hst := itB_step hil
    have hti := (hl.all _ (List.getElem_mem hil)).its
    generalize l[i] = g at *
    have hlen2 : (g.its.map itR).length = g.its.length := by simp
    (first | refine au ?_ | exact au0 | fail)
    rw [hge]
    (first | refine au ?_ | exact au0 | fail)
    refine nextS (S := Nat) (i + 1) (by (try dsimp only); rw [hst, ← hlen2, cast_min]; exact (by repeat (first | exact trivial | refine And.intro (Or.inl rfl) ?_ | refine And.intro (Or.inr (Exists.intro _ (And.intro rfl (Fz.refl _)))) ?_ | refine And.intro (Or.inr (Exists.intro _ (And.intro rfl (fz_eq (congrArg (AV.int _) (by omega)))))) ?_ | refine And.intro (Or.inr (Exists.intro _ (And.intro rfl (fz_eq (congrArg (AV.own _ _ _) (by (try dsimp only); (try simp only [List.length_append, List.length_map, List.length_cons, List.length_nil, List.length_take, List.length_set, List.length_replicate]); (try dsimp only); first | done | omega)))))) ?_))) (Sub.refl _) (by first | omega | (dsimp only; omega)) hil
  · have e : itB l i = min (itN l) 1048576 := by unfold itB; rw [List.take_of_length_le (by omega)]
    have eg : tyGreat l = decide (100 < l.length ∨ 800 < itN l) := by unfold tyGreat; rw [Bool.decide_or]
    rw [e, eg]
    (repeat' (first | (refine au ?_; first | refine bsplit_dec (fun _ => ?_) (fun _ => ?_) | refine bsplit_intro (fun _ => ?_) (fun _ => ?_)) | exact au0 | fail)); (all_goals try (first | refine au ?_ | fail))
    all_goals exact ⟨fz_eq (congrArg AV.bool (by first | exact (decide_eq_true (by omega)).symm | exact (decide_eq_false (by omega)).symm | exact decide_eq_decide.2 (by omega) | rfl)), sub_of⟩
end Go.Proofs.Ytodiahhfpcdejaa

/- Values, walked. -/
namespace Go.Proofs.Ytodiahhfpcdejaa
set_option autoImplicit false
set_option linter.unusedSimpArgs false
set_option linter.unusedVariables false
attribute [local irreducible] callA callP ACalls
mutual
/-- A value's cells. -/
def vlR : Vl → List AV
  | .mk k n t l => [.int .i64 k, .int .u64 (n : Nat), .str t, .rows 4 (vlRs l)]
def vlRs : List Vl → List (List AV)
  | [] => []
  | a :: l => vlR a :: vlRs l
end
abbrev vlA (v : Vl) : AV := .agg (vlR v)
theorem vlRs_map : ∀ l : List Vl, vlRs l = l.map vlR
  | [] => rfl
  | k :: ks => by rw [vlRs, vlRs_map ks]; rfl
theorem vlRs_len (l : List Vl) : (vlRs l).length = l.length := by rw [vlRs_map]; simp
theorem vlR_len (v : Vl) : (vlR v).length = 4 := by cases v; rfl
theorem vlRs_geti {l : List Vl} {i : Nat} (h : i < l.length) : (vlRs l).getD (Int.toNat (i : Nat)) [] = vlR l[i] := by rw [vlRs_map]; exact row_get h
theorem vlSz {l : List Vl} {i : Nat} (h : i < l.length) : SizeOf.sizeOf l[i] < SizeOf.sizeOf l := List.sizeOf_lt_of_mem (List.getElem_mem h)
mutual
theorem vlR_cl : ∀ (x : Vl), ∀ v ∈ vlR x, Cl v
  | .mk k n t l => by
    intro v hv
    simp only [vlR, List.mem_cons, List.not_mem_nil, or_false] at hv
    rcases hv with rfl | rfl | rfl | rfl
    · exact .int _ _
    · exact .int _ _
    · exact .str _
    · exact .rows _ _ (vlRs_cl l)
theorem vlRs_cl : ∀ (l : List Vl), ∀ r ∈ vlRs l, ∀ v ∈ r, Cl v
  | [] => by simp [vlRs]
  | k :: ks => by
    intro r hr
    simp only [vlRs, List.mem_cons] at hr
    rcases hr with rfl | hr
    · exact vlR_cl k
    · exact vlRs_cl ks r hr
end
theorem vlA_no (x : Vl) : NoId (vlA x) := (Cl.agg _ (vlR_cl x)).noId
mutual
/-- Texts and lists are not longer than memory lets them be. -/
def vOk : Vl → Prop
  | .mk _ n t l => n < 18446744073709551616 ∧ t.length ≤ 140737488351232 ∧ l.length ≤ 3000000000000 ∧ vOks l
def vOks : List Vl → Prop
  | [] => True
  | a :: l => vOk a ∧ vOks l
end
theorem vOks_mem : ∀ {l : List Vl}, vOks l → ∀ x ∈ l, vOk x
  | k :: ks, h, x, hx => by
    simp only [vOks] at h
    rcases List.mem_cons.1 hx with rfl | hx
    · exact h.1
    · exact vOks_mem h.2 x hx
theorem vOks_of : ∀ {l : List Vl}, (∀ x ∈ l, vOk x) → vOks l
  | [], _ => trivial
  | k :: ks, h => ⟨h k List.mem_cons_self, vOks_of fun x hx => h x (List.mem_cons_of_mem _ hx)⟩
theorem r8_Great_spec : ∀ (n : Nat) (x : Vl), SizeOf.sizeOf x < n → vGreat x ≤ 1000000 → ACalls PG broadsheetref08_Great.n [vlA x] [] fun r _ => r = .int .i64 (vGreat x : Nat)
  | 0, x, h, _ => by omega
  | n + 1, .mk kd num tx its, hsz, hle => by
    have hkl := vlRs_len its
    have hlen := vGreats_len its
    simp only [vGreat] at hle ⊢
    refine ACalls.fzK (broadsheetref08_Great.of rfl (wpF_start ?_))
    (first | refine au ?_ | exact au0 | fail)
    intro id1 hid1 ht1; have n1 := neAll_of hid1; (try simp only [neAll, neAll_hset] at n1); have m1 := n1; (repeat (obtain ⟨_, m1⟩ := m1))
    (first | refine au ?_ | exact au0 | fail)
    have e0 : 1 + tx.length + vGreats (its.take 0) = 1 + tx.length := by simp [vGreats]
    refine loopM (S := Nat) [(1, some _)] (fun i => [(3, some (.int .i64 (1 + tx.length + vGreats (its.take i) : Nat))), (4, some (.int .i64 (i : Nat)))]) (fun _ => _) (fun i => its.length - i) (fun i => i ≤ its.length) 0 (by repeat (first | exact trivial | refine And.intro (Or.inl rfl) ?_ | refine And.intro (Or.inr (Exists.intro _ (And.intro rfl (Fz.refl _)))) ?_ | refine And.intro (Or.inr (Exists.intro _ (And.intro rfl (fz_eq (congrArg (AV.int _) (by omega)))))) ?_ | refine And.intro (Or.inr (Exists.intro _ (And.intro rfl (fz_eq (congrArg (AV.own _ _ _) (by (try dsimp only); (try simp only [List.length_append, List.length_map, List.length_cons, List.length_nil, List.length_take, List.length_set, List.length_replicate]); (try dsimp only); first | done | omega)))))) ?_)) (Sub.refl _) (Nat.zero_le _) (fun i hi => ?_)
    (first | refine au ?_ | exact au0 | fail)
    refine bsplit_dec (fun h1 => ?_) (fun h1 => ?_)
    · have hil : i < its.length := by omega
      have hg := vlRs_geti hil
      have hsz' := vlSz hil
      have hmem := List.getElem_mem hil
      have hm := vGreats_mem hmem
      have ht := vGreats_take its i hil
      have htl := vGreats_takeLe its (i + 1)
      simp only [Vl.mk.sizeOf_spec] at hsz
      have ih := r8_Great_spec n its[i] (by omega) (by omega)
      generalize its[i] = y at *
      obtain ⟨k2, n2, t2, l2⟩ := y
      (first | refine au ?_ | exact au0 | fail)
      rw [hg]
      (first | refine au ?_ | exact au0 | fail)
      first | refine callF_eq (ih.frame _) ?_ | refine callG_eq rfl (ih.frame _) ?_
      (first | refine au ?_ | exact au0 | fail)
      refine nextS ((i + 1 : Nat)) (by (try dsimp only); rw [ ht, ← Nat.add_assoc, Int.natCast_add (1 + tx.length + vGreats (its.take i))]; repeat (first | exact trivial | refine And.intro (Or.inl rfl) ?_ | refine And.intro (Or.inr (Exists.intro _ (And.intro rfl (Fz.refl _)))) ?_ | refine And.intro (Or.inr (Exists.intro _ (And.intro rfl (fz_eq (congrArg (AV.int _) (by omega)))))) ?_ | refine And.intro (Or.inr (Exists.intro _ (And.intro rfl (fz_eq (congrArg (AV.own _ _ _) (by (try dsimp only); (try simp only [List.length_append, List.length_map, List.length_cons, List.length_nil, List.length_take, List.length_set, List.length_replicate]); (try dsimp only); first | done | omega)))))) ?_)) (by exact sub_of) (by first | omega | (dsimp only; omega)) ?_; (try dsimp only)
      exact hil
    · have e1 := List.take_of_length_le (show its.length ≤ i from by omega)
      rw [e1]
      (first | refine au ?_ | exact au0 | fail)
      exact fz_of
theorem vGreat_spec : ∀ (n : Nat) (x : Vl), SizeOf.sizeOf x < n → vGreat x ≤ 1000000 → ACalls PG value_Great.n [vlA x] [] fun r _ => r = .int .i64 (vGreat x : Nat)
  | 0, x, h, _ => by omega
  | n + 1, .mk kd num tx its, hsz, hle => by
    have hkl := vlRs_len its
    have hlen := vGreats_len its
    simp only [vGreat] at hle ⊢
    refine ACalls.fzK (value_Great.of rfl (wpF_start ?_))
    (first | refine au ?_ | exact au0 | fail)
    intro id1 hid1 ht1; have n1 := neAll_of hid1; (try simp only [neAll, neAll_hset] at n1); have m1 := n1; (repeat (obtain ⟨_, m1⟩ := m1))
    (first | refine au ?_ | exact au0 | fail)
    have e0 : 1 + tx.length + vGreats (its.take 0) = 1 + tx.length := by simp [vGreats]
    refine loopM (S := Nat) [(11, some _), (12, some _)] (fun i => [(3, some (.int .i64 (1 + tx.length + vGreats (its.take i) : Nat))), (13, some (.int .i64 (i : Nat)))]) (fun _ => _) (fun i => its.length - i) (fun i => i ≤ its.length) 0 (by repeat (first | exact trivial | refine And.intro (Or.inl rfl) ?_ | refine And.intro (Or.inr (Exists.intro _ (And.intro rfl (Fz.refl _)))) ?_ | refine And.intro (Or.inr (Exists.intro _ (And.intro rfl (fz_eq (congrArg (AV.int _) (by omega)))))) ?_ | refine And.intro (Or.inr (Exists.intro _ (And.intro rfl (fz_eq (congrArg (AV.own _ _ _) (by (try dsimp only); (try simp only [List.length_append, List.length_map, List.length_cons, List.length_nil, List.length_take, List.length_set, List.length_replicate]); (try dsimp only); first | done | omega)))))) ?_)) (Sub.refl _) (Nat.zero_le _) (fun i hi => ?_)
    (first | refine au ?_ | exact au0 | fail)
    refine bsplit_dec (fun h1 => ?_) (fun h1 => ?_)
    · have hil : i < its.length := by omega
      have hg := vlRs_geti hil
      have hsz' := vlSz hil
      have hmem := List.getElem_mem hil
      have hm := vGreats_mem hmem
      have ht := vGreats_take its i hil
      have htl := vGreats_takeLe its (i + 1)
      simp only [Vl.mk.sizeOf_spec] at hsz
      have ih := vGreat_spec n its[i] (by omega) (by omega)
      generalize its[i] = y at *
      obtain ⟨k2, n2, t2, l2⟩ := y
      (first | refine au ?_ | exact au0 | fail)
      rw [hg]
      (first | refine au ?_ | exact au0 | fail)
      intro id5 hid5 ht5; have n5 := neAll_of hid5; (try simp only [neAll, neAll_hset] at n5); have m5 := n5; (repeat (obtain ⟨_, m5⟩ := m5))
      (first | refine au ?_ | exact au0 | fail)
      first | refine callF_eq (ih.frame _) ?_ | refine callG_eq rfl (ih.frame _) ?_
      (first | refine au ?_ | exact au0 | fail)
      refine nextS ((i + 1 : Nat)) (by (try dsimp only); rw [ ht, ← Nat.add_assoc, Int.natCast_add (1 + tx.length + vGreats (its.take i))]; repeat (first | exact trivial | refine And.intro (Or.inl rfl) ?_ | refine And.intro (Or.inr (Exists.intro _ (And.intro rfl (Fz.refl _)))) ?_ | refine And.intro (Or.inr (Exists.intro _ (And.intro rfl (fz_eq (congrArg (AV.int _) (by omega)))))) ?_ | refine And.intro (Or.inr (Exists.intro _ (And.intro rfl (fz_eq (congrArg (AV.own _ _ _) (by (try dsimp only); (try simp only [List.length_append, List.length_map, List.length_cons, List.length_nil, List.length_take, List.length_set, List.length_replicate]); (try dsimp only); first | done | omega)))))) ?_)) (by exact sub_of) (by first | omega | (dsimp only; omega)) ?_; (try dsimp only)
      exact hil
    · have e1 := List.take_of_length_le (show its.length ≤ i from by omega)
      rw [e1]
      (first | refine au ?_ | exact au0 | fail)
      exact fz_of
theorem vDeep_spec : ∀ (n : Nat) (x : Vl), SizeOf.sizeOf x < n → vGreat x ≤ 1000000 → ACalls PG value_Deep.n [vlA x] [] fun r _ => r = .int .i64 (vDeep x : Nat)
  | 0, x, h, _ => by omega
  | n + 1, .mk kd num tx its, hsz, hle => by
    have hkl := vlRs_len its
    have hlen := vGreats_len its
    have hdg := vDeep_great (.mk kd num tx its)
    simp only [vGreat, vDeep] at hle hdg ⊢
    refine ACalls.fzK (value_Deep.of rfl (wpF_start ?_))
    (first | refine au ?_ | exact au0 | fail)
    intro id1 hid1 ht1; have n1 := neAll_of hid1; (try simp only [neAll, neAll_hset] at n1); have m1 := n1; (repeat (obtain ⟨_, m1⟩ := m1))
    (first | refine au ?_ | exact au0 | fail)
    refine loopM (S := Nat) [(7, some _), (8, some _)] (fun i => [(3, some (.int .i64 (vDeeps (its.take i) : Nat))), (9, some (.int .i64 (i : Nat)))]) (fun _ => _) (fun i => its.length - i) (fun i => i ≤ its.length) 0 (by repeat (first | exact trivial | refine And.intro (Or.inl rfl) ?_ | refine And.intro (Or.inr (Exists.intro _ (And.intro rfl (Fz.refl _)))) ?_ | refine And.intro (Or.inr (Exists.intro _ (And.intro rfl (fz_eq (congrArg (AV.int _) (by omega)))))) ?_ | refine And.intro (Or.inr (Exists.intro _ (And.intro rfl (fz_eq (congrArg (AV.own _ _ _) (by (try dsimp only); (try simp only [List.length_append, List.length_map, List.length_cons, List.length_nil, List.length_take, List.length_set, List.length_replicate]); (try dsimp only); first | done | omega)))))) ?_)) (Sub.refl _) (Nat.zero_le _) (fun i hi => ?_)
    (first | refine au ?_ | exact au0 | fail)
    refine bsplit_dec (fun h1 => ?_) (fun h1 => ?_)
    · have hil : i < its.length := by omega
      have hg := vlRs_geti hil
      have hsz' := vlSz hil
      have hmem := List.getElem_mem hil
      have hm := vGreats_mem hmem
      have ht := vDeeps_take its i hil
      have htl := vDeeps_takeLe its (i + 1)
      simp only [Vl.mk.sizeOf_spec] at hsz
      have ih := vDeep_spec n its[i] (by omega) (by omega)
      generalize its[i] = y at *
      obtain ⟨k2, n2, t2, l2⟩ := y
      (first | refine au ?_ | exact au0 | fail)
      rw [hg]
      (first | refine au ?_ | exact au0 | fail)
      intro id5 hid5 ht5; have n5 := neAll_of hid5; (try simp only [neAll, neAll_hset] at n5); have m5 := n5; (repeat (obtain ⟨_, m5⟩ := m5))
      (first | refine au ?_ | exact au0 | fail)
      first | refine callF_eq (ih.frame _) ?_ | refine callG_eq rfl (ih.frame _) ?_
      (first | refine au ?_ | exact au0 | fail)
      refine nextS ((i + 1 : Nat)) (by (try dsimp only); rw [ ht, cast_max]; repeat (first | exact trivial | refine And.intro (Or.inl rfl) ?_ | refine And.intro (Or.inr (Exists.intro _ (And.intro rfl (Fz.refl _)))) ?_ | refine And.intro (Or.inr (Exists.intro _ (And.intro rfl (fz_eq (congrArg (AV.int _) (by omega)))))) ?_ | refine And.intro (Or.inr (Exists.intro _ (And.intro rfl (fz_eq (congrArg (AV.own _ _ _) (by (try dsimp only); (try simp only [List.length_append, List.length_map, List.length_cons, List.length_nil, List.length_take, List.length_set, List.length_replicate]); (try dsimp only); first | done | omega)))))) ?_)) (by exact sub_of) (by first | omega | (dsimp only; omega)) ?_; (try dsimp only)
      exact hil
    · have e1 := List.take_of_length_le (show its.length ≤ i from by omega)
      rw [e1]
      (first | refine au ?_ | exact au0 | fail)
      exact fz_eq (congrArg (AV.int .i64) (by omega))
def vCnt (l : List Vl) (i : Nat) : Nat := min (vGreats (l.take i)) 100000
theorem vCnt_step {l : List Vl} {i : Nat} (h : i < l.length) : vCnt l (i + 1) = min (vCnt l i + vGreat l[i]) 100000 := by
  unfold vCnt; rw [vGreats_take l i h]; omega
theorem vMuchs_none {l : List Vl} {d : Nat} (h : none' (fun x => vMuch x d) l l.length) : vMuchs l d = false := by
  have := none'_any h
  induction l with
  | nil => rfl
  | cons a l ih =>
    simp only [List.any_cons, Bool.or_eq_false_iff] at this
    simp only [vMuchs, this.1, Bool.false_or]
    exact ih (any_none' this.2 _) this.2
theorem vMuchs_any : ∀ (l : List Vl) (d : Nat), vMuchs l d = l.any fun x => vMuch x d
  | [], _ => rfl
  | a :: l, d => by simp only [vMuchs, List.any_cons, vMuchs_any l d]
theorem vMuch_spec : ∀ (n : Nat) (x : Vl) (d : Nat), SizeOf.sizeOf x < n → vOk x → d ≤ 1000 → ACalls PG broadsheetref08_Much.n [vlA x, .int .i64 (d : Nat)] [] fun r _ => r = .bool (vMuch x d)
  | 0, x, d, h, _, _ => by omega
  | n + 1, .mk kd num tx its, d, hsz, hok, hd => by
    have hkl := vlRs_len its
    simp only [vOk] at hok
    obtain ⟨hnum, htx, hlen, hks⟩ := hok
    simp only [vMuch, vMuchs_any]
    refine ACalls.fzK (broadsheetref08_Much.of rfl (wpF_start ?_))
    (first | refine au ?_ | exact au0 | fail)
    intro id2 hid2 ht2; have n2 := neAll_of hid2; (try simp only [neAll, neAll_hset] at n2); have m2 := n2; (repeat (obtain ⟨_, m2⟩ := m2))
    (first | refine au ?_ | exact au0 | fail)
    refine bsplit_dec (fun c1 => ?_) (fun c1 => ?_)
    · (first | refine au ?_ | exact au0 | fail)
      exact fz_eq (congrArg AV.bool (by simp [show 40 < d from by omega]))
    (first | refine au ?_ | exact au0 | fail)
    refine bsplit_dec (fun c2 => ?_) (fun c2 => ?_)
    · (first | refine au ?_ | exact au0 | fail)
      exact fz_eq (congrArg AV.bool (by simp [show 300 < its.length from by omega]))
    (first | refine au ?_ | exact au0 | fail)
    refine bsplit_dec (fun c3 => ?_) (fun c3 => ?_)
    · (first | refine au ?_ | exact au0 | fail)
      exact fz_eq (congrArg AV.bool (by simp [show 1000 < tx.length from by omega]))
    rw [decide_eq_false (show ¬ 40 < d from by omega), decide_eq_false (show ¬ 300 < its.length from by omega), decide_eq_false (show ¬ 1000 < tx.length from by omega), Bool.false_or, Bool.false_or, Bool.false_or]
    (first | refine au ?_ | exact au0 | fail)
    refine loopM (S := Nat) [(1, some _), (2, some _)] (fun i => [(5, some (.int .i64 (vCnt its i : Nat))), (6, some (.int .i64 (i : Nat)))]) (fun _ => _) (fun i => its.length - i) (fun i => i ≤ its.length ∧ none' (fun x => vMuch x (d + 1 + its.length / 4)) its i) 0 (by repeat (first | exact trivial | refine And.intro (Or.inl rfl) ?_ | refine And.intro (Or.inr (Exists.intro _ (And.intro rfl (Fz.refl _)))) ?_ | refine And.intro (Or.inr (Exists.intro _ (And.intro rfl (fz_eq (congrArg (AV.int _) (by omega)))))) ?_ | refine And.intro (Or.inr (Exists.intro _ (And.intro rfl (fz_eq (congrArg (AV.own _ _ _) (by (try dsimp only); (try simp only [List.length_append, List.length_map, List.length_cons, List.length_nil, List.length_take, List.length_set, List.length_replicate]); (try dsimp only); first | done | omega)))))) ?_)) (Sub.refl _) ⟨Nat.zero_le _, none'_zero⟩ (fun i hi => ?_)
    obtain ⟨hi, hno⟩ := hi
    have hb : vCnt its i ≤ 100000 := by unfold vCnt; omega
    (first | refine au ?_ | exact au0 | fail)
    refine bsplit_dec (fun h1 => ?_) (fun h1 => ?_)
    · have hil : i < its.length := by omega
      have hg := vlRs_geti hil
      have hsz' := vlSz hil
      have hmem := List.getElem_mem hil
      have hm := vGreats_mem hmem
      have ht := vCnt_step hil
      simp only [Vl.mk.sizeOf_spec] at hsz
      have ih := vMuch_spec n its[i] (d + 1 + its.length / 4) (by omega) (vOks_mem hks _ hmem) (by omega)
      have ihs := r8_Great_spec n its[i] (by omega)
      have hgr := @vMuch_great its[i] (d + 1 + its.length / 4)
      have hany : vMuch its[i] (d + 1 + its.length / 4) = true → its.any (fun x => vMuch x (d + 1 + its.length / 4)) = true := any_hit (p := fun x => vMuch x (d + 1 + its.length / 4)) hil
      have hnx := none'_succ hno hil
      generalize its[i] = y at *
      obtain ⟨k2, n2, t2, l2⟩ := y
      (first | refine au ?_ | exact au0 | fail)
      rw [hg]
      (first | refine au ?_ | exact au0 | fail)
      rw [show (d : Int) + 1 + ((vlRs its).length : Nat) / 4 = ((d + 1 + its.length / 4 : Nat) : Int) from by omega]
      first | refine callF_eq (ih.frame _) ?_ | refine callG_eq rfl (ih.frame _) ?_
      cases hM : vMuch (.mk k2 n2 t2 l2) (d + 1 + its.length / 4)
      · have hle := hgr hM
        (first | refine au ?_ | exact au0 | fail)
        rw [hg]
        (first | refine au ?_ | exact au0 | fail)
        first | refine callF_eq ((ihs (by omega)).frame _) ?_ | refine callG_eq rfl ((ihs (by omega)).frame _) ?_
        (first | refine au ?_ | exact au0 | fail)
        refine nextS ((i + 1 : Nat)) (by (try dsimp only); rw [ ht, cast_min]; repeat (first | exact trivial | refine And.intro (Or.inl rfl) ?_ | refine And.intro (Or.inr (Exists.intro _ (And.intro rfl (Fz.refl _)))) ?_ | refine And.intro (Or.inr (Exists.intro _ (And.intro rfl (fz_eq (congrArg (AV.int _) (by omega)))))) ?_ | refine And.intro (Or.inr (Exists.intro _ (And.intro rfl (fz_eq (congrArg (AV.own _ _ _) (by (try dsimp only); (try simp only [List.length_append, List.length_map, List.length_cons, List.length_nil, List.length_take, List.length_set, List.length_replicate]); (try dsimp only); first | done | omega)))))) ?_)) (by exact sub_of) (by first | omega | (dsimp only; omega)) ?_; (try dsimp only)
        exact ⟨hil, hnx hM⟩
      · (first | refine au ?_ | exact au0 | fail)
        exact fz_eq (congrArg AV.bool (by rw [hany hM]; rfl))
    · obtain rfl : i = its.length := by omega
      (first | refine au ?_ | exact au0 | fail)
      refine fz_eq (congrArg AV.bool ?_)
      rw [none'_any hno, Bool.false_or]
      have : vCnt its its.length = min (vGreats its) 100000 := by unfold vCnt; rw [List.take_length]
      rw [this]
      exact decide_eq_decide.2 (by omega)
theorem vEqs_ne {l m : List Vl} {i : Nat} (h : i < l.length) (h' : i < m.length) (hn : vEq l[i] m[i] = false) : vEqs l m = false := by
  rw [Bool.eq_false_iff, ne_eq, vEqs_iff]
  rintro rfl
  rw [vEq_refl] at hn; cases hn
theorem vEqs_all {l m : List Vl} (hl : l.length = m.length) (h : ∀ (k : Nat) (h1 : k < l.length) (h2 : k < m.length), vEq l[k] m[k] = true) : vEqs l m = true := by
  rw [vEqs_iff]
  exact List.ext_getElem hl fun k h1 h2 => (vEq_iff _ _).1 (h k h1 h2)
theorem vEqs_step {l m : List Vl} {i : Nat} (h : ∀ (k : Nat) (h1 : k < l.length) (h2 : k < m.length), k < i → vEq l[k] m[k] = true) (hi : i < l.length) (hi' : i < m.length) (q : vEq l[i] m[i] = true) : ∀ (k : Nat) (h1 : k < l.length) (h2 : k < m.length), k < i + 1 → vEq l[k] m[k] = true := fun k h1 h2 h3 => by
  by_cases e : k = i
  · subst e; exact q
  · exact h k h1 h2 (by omega)
theorem vSame_spec : ∀ (n : Nat) (x y : Vl), SizeOf.sizeOf x < n → (vOk x ∧ vOk y) → ACalls PG value_Same.n [vlA x, vlA y] [] fun r _ => r = .bool (vEq x y)
  | 0, x, y, h, _ => by omega
  | n + 1, .mk kd num tx its, .mk kd' num' tx' its', hsz, hok => by
    have hkl := vlRs_len its
    have hkl' := vlRs_len its'
    simp only [vOk] at hok
    obtain ⟨⟨_, _, hlen, hks⟩, ⟨_, _, hlen', hks'⟩⟩ := hok
    refine ACalls.fzK (value_Same.of rfl (wpF_start ?_))
    (first | refine au ?_ | exact au0 | fail)
    intro id2 hid2 ht2; have n2 := neAll_of hid2; (try simp only [neAll, neAll_hset] at n2); have m2 := n2; (repeat (obtain ⟨_, m2⟩ := m2))
    (first | refine au ?_ | exact au0 | fail)
    intro id3 hid3 ht3; have n3 := neAll_of hid3; (try simp only [neAll, neAll_hset] at n3); have m3 := n3; (repeat (obtain ⟨_, m3⟩ := m3))
    (first | refine au ?_ | exact au0 | fail)
    refine bsplit_dec (fun c1 => ?_) (fun c1 => ?_)
    · (first | refine au ?_ | exact au0 | fail)
      exact fz_eq (congrArg AV.bool (by simp [vEq, c1]))
    (first | refine au ?_ | exact au0 | fail)
    refine bsplit_dec (fun c2 => ?_) (fun c2 => ?_)
    · (first | refine au ?_ | exact au0 | fail)
      exact fz_eq (congrArg AV.bool (by simp [vEq, show ¬ num = num' from by omega]))
    (first | refine au ?_ | exact au0 | fail)
    refine bsplit_dec (fun c3 => ?_) (fun c3 => ?_)
    · (first | refine au ?_ | exact au0 | fail)
      exact fz_eq (congrArg AV.bool (by simp [vEq, c3]))
    (first | refine au ?_ | exact au0 | fail)
    refine bsplit_dec (fun c4 => ?_) (fun c4 => ?_)
    · (first | refine au ?_ | exact au0 | fail)
      exact fz_eq (congrArg AV.bool (by rw [show vEq (.mk kd num tx its) (.mk kd' num' tx' its') = false from by rw [Bool.eq_false_iff, ne_eq, vEq_iff]; intro q; injection q with _ _ _ q; rw [q] at c4; omega]))
    have hv : vEq (.mk kd num tx its) (.mk kd' num' tx' its') = vEqs its its' := by
      simp [vEq, Classical.not_not.1 c1, Classical.not_not.1 c3, show num = num' from by omega]
    rw [hv]
    have hll : its.length = its'.length := by omega
    clear c1 c2 c3 c4
    (first | refine au ?_ | exact au0 | fail)
    refine loopL [(3, some _), (36, some _), (37, some _)] 38 0 its.length (fun i => ∀ (k : Nat) (h1 : k < its.length) (h2 : k < its'.length), k < i → vEq its[k] its'[k] = true) (by repeat (first | exact trivial | refine And.intro (Or.inl rfl) ?_ | refine And.intro (Or.inr (Exists.intro _ (And.intro rfl (Fz.refl _)))) ?_ | refine And.intro (Or.inr (Exists.intro _ (And.intro rfl (fz_eq (congrArg (AV.int _) (by omega)))))) ?_ | refine And.intro (Or.inr (Exists.intro _ (And.intro rfl (fz_eq (congrArg (AV.own _ _ _) (by (try dsimp only); (try simp only [List.length_append, List.length_map, List.length_cons, List.length_nil, List.length_take, List.length_set, List.length_replicate]); (try dsimp only); first | done | omega)))))) ?_)) (Nat.zero_le _) (fun k _ _ h => by omega) (fun i hi hno => ?_)
    (first | refine au ?_ | exact au0 | fail)
    refine bsplit_dec (fun h1 => ?_) (fun h1 => ?_)
    · have hil : i < its.length := by omega
      have hil' : i < its'.length := by omega
      have hg := vlRs_geti hil
      have hg' := vlRs_geti hil'
      have hsz' := vlSz hil
      simp only [Vl.mk.sizeOf_spec] at hsz
      have ih := vSame_spec n its[i] its'[i] (by omega) ⟨vOks_mem hks _ (List.getElem_mem hil), vOks_mem hks' _ (List.getElem_mem hil')⟩
      have hst := vEqs_step hno hil hil'
      have hne := vEqs_ne hil hil'
      generalize its[i] = y at *
      generalize its'[i] = z at *
      obtain ⟨k2, n2, t2, l2⟩ := y
      obtain ⟨k3, n3, t3, l3⟩ := z
      (first | refine au ?_ | exact au0 | fail)
      rw [hg]
      (first | refine au ?_ | exact au0 | fail)
      (intro id5 hid5 ht5; have n5 := neAll_of hid5; (try simp only [neAll, neAll_hset] at n5); have m5 := n5; (repeat (obtain ⟨_, m5⟩ := m5)); (first | refine au ?_ | exact au0 | fail))
      rw [hg']
      (first | refine au ?_ | exact au0 | fail)
      first | refine callF_eq (ih.frame _) ?_ | refine callG_eq rfl (ih.frame _) ?_
      cases hM : vEq (.mk k2 n2 t2 l2) (.mk k3 n3 t3 l3)
      · (first | refine au ?_ | exact au0 | fail)
        rw [hne hM]
        exact fz_of
      · (first | refine au ?_ | exact au0 | fail)
        exact nextN (by repeat (first | exact trivial | refine And.intro (Or.inl rfl) ?_ | refine And.intro (Or.inr (Exists.intro _ (And.intro rfl (Fz.refl _)))) ?_ | refine And.intro (Or.inr (Exists.intro _ (And.intro rfl (fz_eq (congrArg (AV.int _) (by omega)))))) ?_ | refine And.intro (Or.inr (Exists.intro _ (And.intro rfl (fz_eq (congrArg (AV.own _ _ _) (by (try dsimp only); (try simp only [List.length_append, List.length_map, List.length_cons, List.length_nil, List.length_take, List.length_set, List.length_replicate]); (try dsimp only); first | done | omega)))))) ?_)) (by exact sub_of) (by omega) (hst hM)
    · (first | refine au ?_ | exact au0 | fail)
      rw [vEqs_all hll fun k h1 h2 => hno k h1 h2 (by omega)]
      exact fz_of
theorem r8_Same_spec : ∀ (n : Nat) (x y : Vl), SizeOf.sizeOf x < n → (vOk x ∧ vOk y) → ACalls PG broadsheetref08_Same.n [vlA x, vlA y] [] fun r _ => r = .bool (vEq x y)
  | 0, x, y, h, _ => by omega
  | n + 1, .mk kd num tx its, .mk kd' num' tx' its', hsz, hok => by
    have hkl := vlRs_len its
    have hkl' := vlRs_len its'
    simp only [vOk] at hok
    obtain ⟨⟨_, _, hlen, hks⟩, ⟨_, _, hlen', hks'⟩⟩ := hok
    refine ACalls.fzK (broadsheetref08_Same.of rfl (wpF_start ?_))
    (first | refine au ?_ | exact au0 | fail)
    intro id2 hid2 ht2; have n2 := neAll_of hid2; (try simp only [neAll, neAll_hset] at n2); have m2 := n2; (repeat (obtain ⟨_, m2⟩ := m2))
    (first | refine au ?_ | exact au0 | fail)
    intro id3 hid3 ht3; have n3 := neAll_of hid3; (try simp only [neAll, neAll_hset] at n3); have m3 := n3; (repeat (obtain ⟨_, m3⟩ := m3))
    (first | refine au ?_ | exact au0 | fail)
    refine bsplit_dec (fun c1 => ?_) (fun c1 => ?_)
    · (first | refine au ?_ | exact au0 | fail)
      exact fz_eq (congrArg AV.bool (by simp [vEq, c1]))
    (first | refine au ?_ | exact au0 | fail)
    refine bsplit_dec (fun c2 => ?_) (fun c2 => ?_)
    · (first | refine au ?_ | exact au0 | fail)
      exact fz_eq (congrArg AV.bool (by simp [vEq, show ¬ num = num' from by omega]))
    (first | refine au ?_ | exact au0 | fail)
    refine bsplit_dec (fun c3 => ?_) (fun c3 => ?_)
    · (first | refine au ?_ | exact au0 | fail)
      exact fz_eq (congrArg AV.bool (by simp [vEq, c3]))
    (first | refine au ?_ | exact au0 | fail)
    refine bsplit_dec (fun c4 => ?_) (fun c4 => ?_)
    · (first | refine au ?_ | exact au0 | fail)
      exact fz_eq (congrArg AV.bool (by rw [show vEq (.mk kd num tx its) (.mk kd' num' tx' its') = false from by rw [Bool.eq_false_iff, ne_eq, vEq_iff]; intro q; injection q with _ _ _ q; rw [q] at c4; omega]))
    have hv : vEq (.mk kd num tx its) (.mk kd' num' tx' its') = vEqs its its' := by
      simp [vEq, Classical.not_not.1 c1, Classical.not_not.1 c3, show num = num' from by omega]
    rw [hv]
    have hll : its.length = its'.length := by omega
    clear c1 c2 c3 c4
    (first | refine au ?_ | exact au0 | fail)
    refine loopL [(2, some _), (3, some _)] 5 0 its.length (fun i => ∀ (k : Nat) (h1 : k < its.length) (h2 : k < its'.length), k < i → vEq its[k] its'[k] = true) (by repeat (first | exact trivial | refine And.intro (Or.inl rfl) ?_ | refine And.intro (Or.inr (Exists.intro _ (And.intro rfl (Fz.refl _)))) ?_ | refine And.intro (Or.inr (Exists.intro _ (And.intro rfl (fz_eq (congrArg (AV.int _) (by omega)))))) ?_ | refine And.intro (Or.inr (Exists.intro _ (And.intro rfl (fz_eq (congrArg (AV.own _ _ _) (by (try dsimp only); (try simp only [List.length_append, List.length_map, List.length_cons, List.length_nil, List.length_take, List.length_set, List.length_replicate]); (try dsimp only); first | done | omega)))))) ?_)) (Nat.zero_le _) (fun k _ _ h => by omega) (fun i hi hno => ?_)
    (first | refine au ?_ | exact au0 | fail)
    refine bsplit_dec (fun h1 => ?_) (fun h1 => ?_)
    · have hil : i < its.length := by omega
      have hil' : i < its'.length := by omega
      have hg := vlRs_geti hil
      have hg' := vlRs_geti hil'
      have hsz' := vlSz hil
      simp only [Vl.mk.sizeOf_spec] at hsz
      have ih := r8_Same_spec n its[i] its'[i] (by omega) ⟨vOks_mem hks _ (List.getElem_mem hil), vOks_mem hks' _ (List.getElem_mem hil')⟩
      have hst := vEqs_step hno hil hil'
      have hne := vEqs_ne hil hil'
      generalize its[i] = y at *
      generalize its'[i] = z at *
      obtain ⟨k2, n2, t2, l2⟩ := y
      obtain ⟨k3, n3, t3, l3⟩ := z
      (first | refine au ?_ | exact au0 | fail)
      rw [hg]
      (first | refine au ?_ | exact au0 | fail)
      skip
      rw [hg']
      (first | refine au ?_ | exact au0 | fail)
      first | refine callF_eq (ih.frame _) ?_ | refine callG_eq rfl (ih.frame _) ?_
      cases hM : vEq (.mk k2 n2 t2 l2) (.mk k3 n3 t3 l3)
      · (first | refine au ?_ | exact au0 | fail)
        rw [hne hM]
        exact fz_of
      · (first | refine au ?_ | exact au0 | fail)
        exact nextN (by repeat (first | exact trivial | refine And.intro (Or.inl rfl) ?_ | refine And.intro (Or.inr (Exists.intro _ (And.intro rfl (Fz.refl _)))) ?_ | refine And.intro (Or.inr (Exists.intro _ (And.intro rfl (fz_eq (congrArg (AV.int _) (by omega)))))) ?_ | refine And.intro (Or.inr (Exists.intro _ (And.intro rfl (fz_eq (congrArg (AV.own _ _ _) (by (try dsimp only); (try simp only [List.length_append, List.length_map, List.length_cons, List.length_nil, List.length_take, List.length_set, List.length_replicate]); (try dsimp only); first | done | omega)))))) ?_)) (by exact sub_of) (by omega) (hst hM)
    · (first | refine au ?_ | exact au0 | fail)
      rw [vEqs_all hll fun k h1 h2 => hno k h1 h2 (by omega)]
      exact fz_of
end Go.Proofs.Ytodiahhfpcdejaa

/- Which values are of a type, walked. -/
namespace Go.Proofs.Ytodiahhfpcdejaa
set_option autoImplicit false
set_option linter.unusedSimpArgs false
set_option linter.unusedVariables false
attribute [local irreducible] callA callP ACalls
abbrev askA (l : List Ty) : AV := .agg [tysA l]
theorem fnum_spec (l : List Ty) (hl : TysOk l) (t : Int) (h0 : 0 ≤ t) (h1 : t < l.length) (n : Nat) (H : AH) : ACalls PG fits_asker_number.n [askA l, .int .i64 t, .int .u64 (n : Nat)] H fun r H' => r = .bool (numT l t n) ∧ H' = H := by
  have hlen : (l.map tyR).length = l.length := by simp
  have hll := hl.len
  have hge := tAt_get h0 h1
  have hV := fun H => Value_spec l hl t n H
  refine ACalls.fz (fits_asker_number.of rfl (wpF_start ?_))
  unfold numT
  generalize tAt l t = g at *
  (first | refine au ?_ | exact au0 | fail)
  intro id3 hid3 ht3; have n3 := neAll_of hid3; (try simp only [neAll, neAll_hset] at n3); have m3 := n3; (repeat (obtain ⟨_, m3⟩ := m3))
  (first | refine au ?_ | exact au0 | fail)
  rw [hge]
  (first | refine au ?_ | exact au0 | fail)
  refine bsplit_dec (fun c => ?_) (fun c => ?_)
  · rw [if_pos c]
    (first | refine au ?_ | exact au0 | fail)
    generalize valIx l t n = o at *
    first | refine callF_eq (hV _) ?_ | refine callG_eq rfl (hV _) ?_
    cases o with
    | some k =>
      (first | refine au ?_ | exact au0 | fail)
      exact ⟨fz_of, sub_of⟩
    | none =>
      (first | refine au ?_ | exact au0 | fail)
      exact ⟨fz_of, sub_of⟩
  · rw [if_neg c]
    (first | refine au ?_ | exact au0 | fail)
    rw [hge]
    (first | refine au ?_ | exact au0 | fail)
    first | refine callF_eq (prim_May_spec _ n _) ?_ | refine callG_eq rfl (prim_May_spec _ n _) ?_
    (first | refine au ?_ | exact au0 | fail)
    exact ⟨fz_of, sub_of⟩
/-- What a kind has not, twice. -/
def vForm (k : Int) (n : Nat) (t : List UInt8) (m : Nat) : Bool := decide ((1 ≤ k ∧ k ≤ 9) ∨ k = 14 ∨ (n = 0 ∧ (k = 10 ∨ t = []) ∧ (10 < k ∨ m = 0)))
def vPlain (k : Int) (t : List UInt8) (m : Nat) : Bool := decide ((t = [] ∧ (k = 14 ∨ m = 0)) ∨ k = 10 ∨ (10 < k ∧ k ≠ 14))
theorem vZero_eq {k : Int} (h : 1 ≤ k ∧ k ≤ 14) (n : Nat) (t : List UInt8) (m : Nat) : (vForm k n t m && vPlain k t m) = vZero k n t m := by
  unfold vForm vPlain vZero
  rw [← Bool.decide_and]
  apply decide_eq_decide.2
  by_cases ht : t = []
  · simp only [ht, true_and, ne_eq, not_true_eq_false, false_and, or_true, or_false]; omega
  · simp only [ht, false_and, ne_eq, not_false_eq_true, true_and, or_false, false_or]; omega
theorem fform_spec (v : Vl) (hok : vOk v) (H : AH) : ACalls PG fits_form.n [vlA v] H fun r H' => r = .bool (vForm v.kd v.num v.tx v.its.length) ∧ H' = H := by
  obtain ⟨k, n, t, its⟩ := v
  have hkl := vlRs_len its
  simp only [Vl.kd, Vl.num, Vl.tx, Vl.its]
  simp only [vOk] at hok
  refine ACalls.fz (fits_form.of rfl (wpF_start ?_))
  (first | refine au ?_ | exact au0 | fail)
  intro id1 hid1 ht1; have n1 := neAll_of hid1; (try simp only [neAll, neAll_hset] at n1); have m1 := n1; (repeat (obtain ⟨_, m1⟩ := m1))
  unfold vForm
  by_cases ht : t = []
  · subst ht
    (repeat' (first | (refine au ?_; first | refine callF_eq (prim_Number_spec _ _) ?_ | refine bsplit_dec (fun _ => ?_) (fun _ => ?_) | refine bsplit_intro (fun _ => ?_) (fun _ => ?_)) | exact au0 | fail)); (all_goals try (first | refine au ?_ | fail))
    all_goals first | (exfalso; omega) | skip
    all_goals (refine ⟨fz_eq (congrArg AV.bool ?_), sub_of⟩; simp only [true_or, or_true, true_and, and_true]; first | exact (decide_eq_true (by omega)).symm | exact (decide_eq_false (by omega)).symm | exact decide_eq_decide.2 (by omega) | rfl)
  · (repeat' (first | (refine au ?_; first | refine callF_eq (prim_Number_spec _ _) ?_ | refine bsplit_dec (fun _ => ?_) (fun _ => ?_) | refine bsplit_intro (fun _ => ?_) (fun _ => ?_)) | exact au0 | fail)); (all_goals try (first | refine au ?_ | fail))
    all_goals first | (exfalso; omega) | skip
    all_goals (refine ⟨fz_eq (congrArg AV.bool ?_), sub_of⟩; simp only [ht, or_false]; first | exact (decide_eq_true (by omega)).symm | exact (decide_eq_false (by omega)).symm | exact decide_eq_decide.2 (by omega) | (simp_all; done) | skip)
theorem fplain_spec (v : Vl) (hok : vOk v) (H : AH) : ACalls PG fits_plain.n [vlA v] H fun r H' => r = .bool (vPlain v.kd v.tx v.its.length) ∧ H' = H := by
  obtain ⟨k, n, t, its⟩ := v
  have hkl := vlRs_len its
  simp only [Vl.kd, Vl.num, Vl.tx, Vl.its]
  simp only [vOk] at hok
  refine ACalls.fz (fits_plain.of rfl (wpF_start ?_))
  (first | refine au ?_ | exact au0 | fail)
  intro id1 hid1 ht1; have n1 := neAll_of hid1; (try simp only [neAll, neAll_hset] at n1); have m1 := n1; (repeat (obtain ⟨_, m1⟩ := m1))
  unfold vPlain
  by_cases ht : t = []
  · subst ht
    (repeat' (first | (refine au ?_; first | refine bsplit_dec (fun _ => ?_) (fun _ => ?_) | refine bsplit_intro (fun _ => ?_) (fun _ => ?_)) | exact au0 | fail)); (all_goals try (first | refine au ?_ | fail))
    all_goals first | (exfalso; omega) | skip
    all_goals (refine ⟨fz_eq (congrArg AV.bool ?_), sub_of⟩; simp only [true_or, or_true, true_and, and_true]; first | exact (decide_eq_true (by omega)).symm | exact (decide_eq_false (by omega)).symm | exact decide_eq_decide.2 (by omega) | rfl)
  · (repeat' (first | (refine au ?_; first | refine bsplit_dec (fun _ => ?_) (fun _ => ?_) | refine bsplit_intro (fun _ => ?_) (fun _ => ?_)) | exact au0 | fail)); (all_goals try (first | refine au ?_ | fail))
    all_goals first | (exfalso; omega) | skip
    all_goals (refine ⟨fz_eq (congrArg AV.bool ?_), sub_of⟩; simp only [ht, false_and, false_or]; first | exact (decide_eq_true (by omega)).symm | exact (decide_eq_false (by omega)).symm | exact decide_eq_decide.2 (by omega) | (simp_all; done) | skip)
theorem ftext_spec (s : List UInt8) (hs : s.length ≤ 140737488351232) (b : Int) (H : AH) : ACalls PG fits_text.n [.str s, .int .i64 b] H fun r H' => r = .int .i64 (if b < (s.length : Int) then 3 else if s.contains 0 = true then 10 else 0) ∧ H' = H := by
  refine ACalls.fz (fits_text.of rfl (wpF_start ?_))
  (first | refine au ?_ | exact au0 | fail)
  refine bsplit_dec (fun c => ?_) (fun c => ?_)
  · rw [if_pos c]
    (first | refine au ?_ | exact au0 | fail)
    exact ⟨fz_of, sub_of⟩
  · rw [if_neg c]
    (first | refine au ?_ | exact au0 | fail)
    first | refine callF_eq (strings_IndexByte_spec s 0 _) ?_ | refine callG_eq rfl (strings_IndexByte_spec s 0 _) ?_
    have hi := indexByte_in s 0
    (first | refine au ?_ | exact au0 | fail)
    refine bsplit_dec (fun c => ?_) (fun c => ?_)
    · rw [if_pos (hi.1 c)]
      (first | refine au ?_ | exact au0 | fail)
      exact ⟨fz_of, sub_of⟩
    · rw [if_neg (fun q => c (hi.2 q))]
      (first | refine au ?_ | exact au0 | fail)
      exact ⟨fz_of, sub_of⟩
end Go.Proofs.Ytodiahhfpcdejaa

/- Which values are of a type, walked: items, unions, all. -/
namespace Go.Proofs.Ytodiahhfpcdejaa
set_option autoImplicit false
set_option linter.unusedSimpArgs false
set_option linter.unusedVariables false
attribute [local irreducible] callA callP ACalls
/-- As many items as must be, each of its type. -/
def fitN (l : List Ty) (ps : List Int) (vs : List Vl) : Int := if ps.length ≠ vs.length then 18 else fitEs l ps vs
/-- What 'fits' is known to answer. -/
def FitC (l : List Ty) (v : Vl) : Prop := ∀ t : Int, 0 ≤ t → t < l.length → ∀ H, ACalls PG fits_asker_fits.n [askA l, .int .i64 t, vlA v] H fun r H' => r = .int .i64 (fitE l t v) ∧ H' = H
theorem items_fspec (l : List Ty) (v : Vl) (hok : vOk v) (n : Int) (f : Nat) (caps : List AV) (ps : List Int) (Hs : AH) (hn : n = ps.length) (hin : ∀ p ∈ ps, 0 ≤ p ∧ p < l.length)
    (hof : ∀ (i : Nat) (h : i < ps.length), ACalls PG f (.int .i64 (i : Nat) :: caps) Hs fun r H' => r = .int .i64 ps[i] ∧ H' = Hs) (ih : ∀ w ∈ v.its, FitC l w) :
    ACalls PG fits_asker_items.n [askA l, vlA v, .int .i64 n, .clo f [] caps] Hs fun r H' => r = .int .i64 (fitN l ps v.its) ∧ H' = Hs := by
  obtain ⟨kd, num, tx, its⟩ := v
  have hkl := vlRs_len its
  simp only [vOk] at hok
  obtain ⟨_, _, hlen, hks⟩ := hok
  simp only [Vl.its] at ih ⊢
  subst hn
  refine ACalls.fz (fits_asker_items.of rfl (wpF_start ?_))
  (first | refine au ?_ | exact au0 | fail)
  intro id4 hid4 ht4; have n4 := neAll_of hid4; (try simp only [neAll, neAll_hset] at n4); have m4 := n4; (repeat (obtain ⟨_, m4⟩ := m4))
  (first | refine au ?_ | exact au0 | fail)
  intro id5 hid5 ht5; have n5 := neAll_of hid5; (try simp only [neAll, neAll_hset] at n5); have m5 := n5; (repeat (obtain ⟨_, m5⟩ := m5))
  (first | refine au ?_ | exact au0 | fail)
  refine bsplit_dec (fun c => ?_) (fun c => ?_)
  · have e : fitN l ps its = 18 := if_pos (by omega)
    rw [e]
    (first | refine au ?_ | exact au0 | fail)
    exact ⟨fz_of, sub_of⟩
  have e : fitN l ps its = fitEs l ps its := if_neg (by omega)
  rw [e]
  (first | refine au ?_ | exact au0 | fail)
  refine loopL [(3, some _), (4, some _), (18, some _), (19, some _)] 20 0 its.length (fun i => ∀ (k : Nat) (h1 : k < ps.length) (h2 : k < its.length), k < i → fitE l ps[k] its[k] = 0) (by repeat (first | exact trivial | refine And.intro (Or.inl rfl) ?_ | refine And.intro (Or.inr (Exists.intro _ (And.intro rfl (Fz.refl _)))) ?_ | refine And.intro (Or.inr (Exists.intro _ (And.intro rfl (fz_eq (congrArg (AV.int _) (by omega)))))) ?_ | refine And.intro (Or.inr (Exists.intro _ (And.intro rfl (fz_eq (congrArg (AV.own _ _ _) (by (try dsimp only); (try simp only [List.length_append, List.length_map, List.length_cons, List.length_nil, List.length_take, List.length_set, List.length_replicate]); (try dsimp only); first | done | omega)))))) ?_)) (Nat.zero_le _) (fun k _ _ h => by omega) (fun i hi hno => ?_)
  (first | refine au ?_ | exact au0 | fail)
  refine bsplit_dec (fun c2 => ?_) (fun c2 => ?_)
  · have hil : i < its.length := by omega
    have hip : i < ps.length := by omega
    have hg := vlRs_geti hil
    have hmem := List.getElem_mem hil
    have hf := ih _ hmem
    have hpi := hin _ (List.getElem_mem hip)
    have ho := hof i hip
    have hhit := fitEs_hit (l := l) hno hip hil
    have hnx : fitE l ps[i] its[i] = 0 → ∀ (k : Nat) (h1 : k < ps.length) (h2 : k < its.length), k < i + 1 → fitE l ps[k] its[k] = 0 := fun q k h1 h2 h3 => by
      by_cases e : k = i
      · subst e; exact q
      · exact hno k h1 h2 (by omega)
    generalize its[i] = y at *
    generalize ps[i] = p at *
    have hf := hf p hpi.1 hpi.2
    obtain ⟨k2, n2, t2, l2⟩ := y
    (first | refine au ?_ | exact au0 | fail)
    rw [hg]
    (first | refine au ?_ | exact au0 | fail)
    intro id10 hid10 ht10; have n10 := neAll_of hid10; (try simp only [neAll, neAll_hset] at n10); have m10 := n10; (repeat (obtain ⟨_, m10⟩ := m10))
    (first | refine au ?_ | exact au0 | fail)
    first | refine callF_eq (ho.sup (by exact sub_of)) ?_ | refine callG_eq rfl (ho.sup (by exact sub_of)) ?_
    (first | refine au ?_ | exact au0 | fail)
    first | refine callF_eq (hf _) ?_ | refine callG_eq rfl (hf _) ?_
    (first | refine au ?_ | exact au0 | fail)
    refine bsplit_dec (fun h => ?_) (fun h => ?_)
    · (first | refine au ?_ | exact au0 | fail)
      rw [hhit h]
      exact ⟨fz_of, sub_of⟩
    · (first | refine au ?_ | exact au0 | fail)
      exact nextN (by repeat (first | exact trivial | refine And.intro (Or.inl rfl) ?_ | refine And.intro (Or.inr (Exists.intro _ (And.intro rfl (Fz.refl _)))) ?_ | refine And.intro (Or.inr (Exists.intro _ (And.intro rfl (fz_eq (congrArg (AV.int _) (by omega)))))) ?_ | refine And.intro (Or.inr (Exists.intro _ (And.intro rfl (fz_eq (congrArg (AV.own _ _ _) (by (try dsimp only); (try simp only [List.length_append, List.length_map, List.length_cons, List.length_nil, List.length_take, List.length_set, List.length_replicate]); (try dsimp only); first | done | omega)))))) ?_)) (by exact sub_of) (by omega) (hnx (Classical.not_not.1 h))
  · (first | refine au ?_ | exact au0 | fail)
    rw [fitEs_end fun k h1 h2 => hno k h1 h2 (by omega)]
    exact ⟨fz_of, sub_of⟩
theorem fits1_spec (x : Ty) (i : Int) (id : Nat) : ACalls PG fits_asker_fits_1.n [.int .i64 i, .ptr id 6 0 0] [(id, .rows 6 [tyR x])] fun r H' => r = .int .i64 x.el ∧ H' = [(id, .rows 6 [tyR x])] := by
  refine ACalls.fz (fits_asker_fits_1.of' (Nat.le_of_ble_eq_true rfl) (wpF_start ?_))
  (first | refine au ?_ | exact au0 | fail)
  exact ⟨fz_of, sub_of⟩
theorem fits2_spec (x : Ty) (i : Int) (id : Nat) : ACalls PG fits_asker_fits_2.n [.int .i64 i, .ptr id 6 0 0] [(id, .rows 6 [tyR x])] fun r H' => r = .int .i64 x.el ∧ H' = [(id, .rows 6 [tyR x])] := by
  refine ACalls.fz (fits_asker_fits_2.of' (Nat.le_of_ble_eq_true rfl) (wpF_start ?_))
  (first | refine au ?_ | exact au0 | fail)
  exact ⟨fz_of, sub_of⟩
theorem fits3_spec (x : Ty) (i : Nat) (hi : i < x.its.length) (id : Nat) : ACalls PG fits_asker_fits_3.n [.int .i64 (i : Nat), .ptr id 6 0 0] [(id, .rows 6 [tyR x])] fun r H' => r = .int .i64 x.its[i].ty ∧ H' = [(id, .rows 6 [tyR x])] := by
  have hlen : (x.its.map itR).length = x.its.length := by simp
  have hg := row_get (f := itR) hi
  refine ACalls.fz (fits_asker_fits_3.of' (Nat.le_of_ble_eq_true rfl) (wpF_start ?_))
  generalize x.its[i] = y at *
  (first | refine au ?_ | exact au0 | fail)
  rw [hg]
  (first | refine au ?_ | exact au0 | fail)
  exact ⟨fz_of, sub_of⟩
theorem union1_spec (i : Int) (H : AH) : ACalls PG fits_asker_union_1.n [.int .i64 i] H fun r H' => r = .int .i64 0 ∧ H' = H := by
  refine ACalls.fz (fits_asker_union_1.of rfl (wpF_start ?_))
  (first | refine au ?_ | exact au0 | fail)
  exact ⟨fz_of, sub_of⟩
theorem union2_spec (l : List Ty) (t : Int) (h0 : 0 ≤ t) (h1 : t < l.length) (n : Nat) (hn : n < (tAt l t).its.length) (i : Int) (ida idt idn : Nat) (d1 : ida ≠ idt) (d2 : ida ≠ idn) (d3 : idt ≠ idn) (Hs : AH) (e1 : hget Hs ida = some (.rows 1 [[tysA l]])) (e2 : hget Hs idt = some (.rows 1 [[.int .i64 t]])) (e3 : hget Hs idn = some (.rows 1 [[.int .i64 (n : Nat)]])) :
    ACalls PG fits_asker_union_2.n [.int .i64 i, .ptr ida 1 0 0, .ptr idt 1 0 0, .ptr idn 1 0 0] Hs fun r H' => r = .int .i64 ((tAt l t).its.getD n it0).ty ∧ H' = Hs := by
  have hlen : (l.map tyR).length = l.length := by simp
  have hge := tAt_get h0 h1
  rw [getD_get hn]
  have hlen2 : ((tAt l t).its.map itR).length = (tAt l t).its.length := by simp
  have hg := row_get (f := itR) hn
  refine ACalls.fz (fits_asker_union_2.of' (Nat.le_of_ble_eq_true rfl) (wpF_start ?_))
  generalize (tAt l t).its[n] = y at *
  generalize tAt l t = g at *
  (first | refine au ?_ | exact au0 | fail)
  rw [hge]
  (first | refine au ?_ | exact au0 | fail)
  rw [hg]
  (first | refine au ?_ | exact au0 | fail)
  exact ⟨fz_of, sub_of⟩
end Go.Proofs.Ytodiahhfpcdejaa

/- Which values are of a type, walked: unions, all. -/
namespace Go.Proofs.Ytodiahhfpcdejaa
set_option autoImplicit false
set_option linter.unusedSimpArgs false
set_option linter.unusedVariables false
attribute [local irreducible] callA callP ACalls
theorem fitE_eq (l : List Ty) (t : Int) (k : Int) (n : Nat) (x : List UInt8) (vs : List Vl) : fitE l t (.mk k n x vs) =
    if k ≠ (tAt l t).kd then 4
    else if vZero k n x vs.length = false then 1
    else if (isNum k = true ∧ numT l t n = false) ∨ (k = 14 ∧ numT l (tAt l t).tg n = false) then 7
    else if k = 10 ∧ (tAt l t).bd < (x.length : Int) then 3
    else if k = 10 ∧ x.contains 0 = true then 10
    else if k = 11 ∧ (tAt l t).bd < (vs.length : Int) then 3
    else fitN l (partT l t n vs.length) vs := by
  rw [fitE]
  unfold fitH fitN
  repeat' split
  all_goals first | rfl | (simp_all; done) | skip
theorem TyG.parts {l : List Ty} {n : Nat} {t : Ty} (h : TyG l n t) : ∀ p ∈ parts t, 0 ≤ p ∧ p < n := orderE_in h.order
theorem TyG.kd {l : List Ty} {n : Nat} {t : Ty} (h : TyG l n t) : 1 ≤ t.kd ∧ t.kd ≤ 14 := by
  have := h.form
  unfold formE at this
  split at this
  · cases this
  · omega
theorem TyV.tAt {l : List Ty} (h : TyV l) {t : Int} (h0 : 0 ≤ t) (h1 : t < l.length) : TyG l t.toNat (tAt l t) := by
  have := h.at (i := t.toNat) (by omega)
  unfold Go.Proofs.Ytodiahhfpcdejaa.tAt
  rw [getD_get (by omega)]
  exact this
theorem TyG.bd {l : List Ty} {n : Nat} {t : Ty} (h : TyG l n t) (hb : kBd t.kd = true) : 0 ≤ t.bd ∧ t.bd ≤ 64 ∧ (kEl t.kd = true → 1 ≤ t.bd) := by
  have := h.bound
  unfold boundE at this
  split at this
  · cases this
  · rename_i q
    refine ⟨?_, ?_, fun e => ?_⟩
    · apply Classical.byContradiction; intro c; exact q ⟨hb, by omega⟩
    · apply Classical.byContradiction; intro c; exact q ⟨hb, by omega⟩
    · apply Classical.byContradiction; intro c
      have : ¬ t.bd < 0 := fun c2 => q ⟨hb, .inr (.inl c2)⟩
      exact q ⟨hb, .inr (.inr ⟨e, by omega⟩)⟩
theorem brIx_lt {l : List Ty} {t : Int} {n k : Nat} (h : brIx l t n = some k) : k < (tAt l t).its.length := by
  unfold brIx at h
  split at h
  · cases h1 : (Go.Proofs.Ytodiahhfpcdejaa.tAt l t).its.findIdx? (fun x => x.num == n && !x.rest) with
    | some j =>
      rw [h1] at h
      simp only [Option.some_or, Option.some.injEq] at h
      obtain ⟨a, _⟩ := find_some h1
      omega
    | none =>
      rw [h1] at h
      simp only [Option.none_or] at h
      obtain ⟨a, _⟩ := find_some h
      exact a
  · cases h
theorem union_spec (l : List Ty) (hl : TysOk l) (hv : TyV l) (v : Vl) (hok : vOk v) (t : Int) (h0 : 0 ≤ t) (h1 : t < l.length) (h14 : (tAt l t).kd = 14) (ih : ∀ w ∈ v.its, FitC l w) (H : AH) :
    ACalls PG fits_asker_union.n [askA l, .int .i64 t, vlA v] H fun r H' => r = .int .i64 (if numT l (tAt l t).tg v.num = false then 7 else fitN l (partT l t v.num v.its.length) v.its) ∧ H' = H := by
  have hlen : (l.map tyR).length = l.length := by simp
  have hll := hl.len
  have hge := tAt_get h0 h1
  have hG := hv.tAt h0 h1
  have htg := hG.parts _ (parts_tag h14)
  have hpt : ∀ x ∈ (tAt l t).its, 0 ≤ x.ty ∧ x.ty < l.length := fun x hx => by
    have := hG.parts _ (parts_item (.inr h14) hx); omega
  have hB := fun H => Branch_spec l hl t v.num H
  have hN := fun H => fnum_spec l hl (tAt l t).tg htg.1 (by omega) v.num H
  have hpp : partT l t v.num v.its.length = match brIx l t v.num with
    | some k => [((tAt l t).its.getD k it0).ty]
    | none => [] := by
    unfold partT; rw [if_neg (by omega), if_neg (by omega), if_neg (by omega), if_pos h14]; cases brIx l t v.num <;> rfl
  rw [hpp]
  have hlt := fun k => @brIx_lt l t v.num k
  have hu2 := fun k (hk : k < (tAt l t).its.length) => union2_spec l t h0 h1 k hk
  have hit0 := items_fspec l v hok 0 fits_asker_union_1.n [] []
  have hit1 := fun f caps p Hs => items_fspec l v hok 1 f caps [p] Hs rfl
  obtain ⟨b, hb⟩ : ∃ b, numT l (tAt l t).tg v.num = b := ⟨_, rfl⟩
  obtain ⟨o, ho⟩ : ∃ o, brIx l t v.num = o := ⟨_, rfl⟩
  rw [hb] at hN ⊢
  rw [ho] at hB ⊢
  refine ACalls.fz (fits_asker_union.of rfl (wpF_start ?_))
  obtain ⟨kd, num, tx, its⟩ := v
  (first | refine au ?_ | exact au0 | fail)
  intro id3 hid3 ht3; have n3 := neAll_of hid3; (try simp only [neAll, neAll_hset] at n3); have m3 := n3; (repeat (obtain ⟨_, m3⟩ := m3))
  (first | refine au ?_ | exact au0 | fail)
  intro id4 hid4 ht4; have n4 := neAll_of hid4; (try simp only [neAll, neAll_hset] at n4); have m4 := n4; (repeat (obtain ⟨_, m4⟩ := m4))
  (first | refine au ?_ | exact au0 | fail)
  intro id5 hid5 ht5; have n5 := neAll_of hid5; (try simp only [neAll, neAll_hset] at n5); have m5 := n5; (repeat (obtain ⟨_, m5⟩ := m5))
  (first | refine au ?_ | exact au0 | fail)
  rw [hge]
  (first | refine au ?_ | exact au0 | fail)
  first | refine callF_eq (hN _) ?_ | refine callG_eq rfl (hN _) ?_
  cases b
  · rw [if_pos rfl]
    (first | refine au ?_ | exact au0 | fail)
    exact ⟨fz_of, sub_of⟩
  rw [if_neg (by simp)]
  (first | refine au ?_ | exact au0 | fail)
  first | refine callF_eq (hB _) ?_ | refine callG_eq rfl (hB _) ?_
  cases o with
  | none =>
    (first | refine au ?_ | exact au0 | fail)
    intro id7 hid7 ht7; have n7 := neAll_of hid7; (try simp only [neAll, neAll_hset] at n7); have m7 := n7; (repeat (obtain ⟨_, m7⟩ := m7))
    (first | refine au ?_ | exact au0 | fail)
    first | refine callF_eq ((hit0 [] rfl (by simp) (fun i h => by simp at h) ih).sup (by exact sub_of)) ?_ | refine callG_eq rfl ((hit0 [] rfl (by simp) (fun i h => by simp at h) ih).sup (by exact sub_of)) ?_
    (first | refine au ?_ | exact au0 | fail)
    exact ⟨fz_of, sub_of⟩
  | some k =>
    have hk := hlt k ho
    (first | refine au ?_ | exact au0 | fail)
    intro id7 hid7 ht7; have n7 := neAll_of hid7; (try simp only [neAll, neAll_hset] at n7); have m7 := n7; (repeat (obtain ⟨_, m7⟩ := m7))
    (first | refine au ?_ | exact au0 | fail)
    have hc := fun (Hs : AH) (e1 : hget Hs id3 = some (.rows 1 [[tysA l]])) (e2 : hget Hs id4 = some (.rows 1 [[.int .i64 t]])) (e3 : hget Hs id7 = some (.rows 1 [[.int .i64 (k : Nat)]])) => hit1 fits_asker_union_2.n [.ptr id3 1 0 0, .ptr id4 1 0 0, .ptr id7 1 0 0] ((tAt l t).its.getD k it0).ty Hs
      (by intro p hp; simp only [List.mem_singleton] at hp; rw [hp, getD_get hk]; exact hpt _ (List.getElem_mem hk))
      (fun i h => by
        have hi0 : i = 0 := by simpa using h
        subst hi0
        exact hu2 k hk _ id3 id4 id7 (by omega) (by omega) (by omega) _ e1 e2 e3) ih
    first | refine callF_eq (hc _ (by exact hg_of) (by exact hg_of) (by exact hg_of)) ?_ | refine callG_eq rfl (hc _ (by exact hg_of) (by exact hg_of) (by exact hg_of)) ?_
    (first | refine au ?_ | exact au0 | fail)
    exact ⟨fz_of, sub_of⟩
theorem partT_el {l : List Ty} {t : Int} {g : Ty} (hg : tAt l t = g) (h : g.kd = 11) (n m : Nat) : partT l t n m = List.replicate m g.el := by
  unfold partT; rw [hg, if_pos h]
theorem partT_ar {l : List Ty} {t : Int} {g : Ty} (hg : tAt l t = g) (h : g.kd = 12) (n m : Nat) : partT l t n m = List.replicate g.bd.toNat g.el := by
  unfold partT; rw [hg, if_neg (by omega), if_pos h]
theorem partT_st {l : List Ty} {t : Int} {g : Ty} (hg : tAt l t = g) (h : g.kd = 13) (n m : Nat) : partT l t n m = g.its.map (·.ty) := by
  unfold partT; rw [hg, if_neg (by omega), if_neg (by omega), if_pos h]
theorem partT_no {l : List Ty} {t : Int} {g : Ty} (hg : tAt l t = g) (h : g.kd ≤ 10) (n m : Nat) : partT l t n m = [] := by
  unfold partT; rw [hg, if_neg (by omega), if_neg (by omega), if_neg (by omega), if_neg (by omega)]
section
variable {l : List Ty} {t : Int} {g : Ty} {k : Int} {n : Nat} {x : List UInt8} {vs : List Vl} {H : AH}
/-- Where a type stands in a list. -/
structure FAt (l : List Ty) (t : Int) (g : Ty) : Prop where
  h0 : 0 ≤ t
  h1 : t < ((l.map tyR).length : Nat)
  ge : (l.map tyR).getD t.toNat [] = tyR g
abbrev FRes (l : List Ty) (t : Int) (v : Vl) (H : AH) (e : Int) : Prop := ACalls PG fits_asker_fits.n [askA l, .int .i64 t, vlA v] H fun r H' => r = .int .i64 e ∧ H' = H
theorem fits_kind (a : FAt l t g) (hk : k ≠ g.kd) : FRes l t (.mk k n x vs) H 4 := by
  obtain ⟨h0, h1, hge⟩ := a
  have hkl := vlRs_len vs
  refine ACalls.fz (fits_asker_fits.of rfl (wpF_start ?_))
  (first | refine au ?_ | exact au0 | fail)
  intro id3 hid3 ht3; have n3 := neAll_of hid3; (try simp only [neAll, neAll_hset] at n3); have m3 := n3; (repeat (obtain ⟨_, m3⟩ := m3))
  (first | refine au ?_ | exact au0 | fail)
  intro id5 hid5 ht5; have n5 := neAll_of hid5; (try simp only [neAll, neAll_hset] at n5); have m5 := n5; (repeat (obtain ⟨_, m5⟩ := m5))
  (first | refine au ?_ | exact au0 | fail)
  rw [hge]
  (first | refine au ?_ | exact au0 | fail)
  intro id7 hid7 ht7; have n7 := neAll_of hid7; (try simp only [neAll, neAll_hset] at n7); have m7 := n7; (repeat (obtain ⟨_, m7⟩ := m7))
  clear hid3 hid5 hid7 ht3 ht5 ht7
  (first | refine au ?_ | exact au0 | fail)
  exact ⟨fz_of, sub_of⟩
theorem fits_form0 (a : FAt l t g) (hk : k = g.kd) (hF : ∀ H, ACalls PG fits_form.n [vlA (.mk k n x vs)] H fun r H' => r = .bool false ∧ H' = H) : FRes l t (.mk k n x vs) H 1 := by
  obtain ⟨h0, h1, hge⟩ := a
  have hkl := vlRs_len vs
  refine ACalls.fz (fits_asker_fits.of rfl (wpF_start ?_))
  (first | refine au ?_ | exact au0 | fail)
  intro id3 hid3 ht3; have n3 := neAll_of hid3; (try simp only [neAll, neAll_hset] at n3); have m3 := n3; (repeat (obtain ⟨_, m3⟩ := m3))
  (first | refine au ?_ | exact au0 | fail)
  intro id5 hid5 ht5; have n5 := neAll_of hid5; (try simp only [neAll, neAll_hset] at n5); have m5 := n5; (repeat (obtain ⟨_, m5⟩ := m5))
  (first | refine au ?_ | exact au0 | fail)
  rw [hge]
  (first | refine au ?_ | exact au0 | fail)
  intro id7 hid7 ht7; have n7 := neAll_of hid7; (try simp only [neAll, neAll_hset] at n7); have m7 := n7; (repeat (obtain ⟨_, m7⟩ := m7))
  clear hid3 hid5 hid7 ht3 ht5 ht7
  (first | refine au ?_ | exact au0 | fail)
  first | refine callF_eq (hF _) ?_ | refine callG_eq rfl (hF _) ?_
  (first | refine au ?_ | exact au0 | fail)
  exact ⟨fz_of, sub_of⟩
theorem fits_form1 (a : FAt l t g) (hk : k = g.kd) (hF : ∀ H, ACalls PG fits_form.n [vlA (.mk k n x vs)] H fun r H' => r = .bool true ∧ H' = H) (hP : ∀ H, ACalls PG fits_plain.n [vlA (.mk k n x vs)] H fun r H' => r = .bool false ∧ H' = H) : FRes l t (.mk k n x vs) H 1 := by
  obtain ⟨h0, h1, hge⟩ := a
  have hkl := vlRs_len vs
  refine ACalls.fz (fits_asker_fits.of rfl (wpF_start ?_))
  (first | refine au ?_ | exact au0 | fail)
  intro id3 hid3 ht3; have n3 := neAll_of hid3; (try simp only [neAll, neAll_hset] at n3); have m3 := n3; (repeat (obtain ⟨_, m3⟩ := m3))
  (first | refine au ?_ | exact au0 | fail)
  intro id5 hid5 ht5; have n5 := neAll_of hid5; (try simp only [neAll, neAll_hset] at n5); have m5 := n5; (repeat (obtain ⟨_, m5⟩ := m5))
  (first | refine au ?_ | exact au0 | fail)
  rw [hge]
  (first | refine au ?_ | exact au0 | fail)
  intro id7 hid7 ht7; have n7 := neAll_of hid7; (try simp only [neAll, neAll_hset] at n7); have m7 := n7; (repeat (obtain ⟨_, m7⟩ := m7))
  clear hid3 hid5 hid7 ht3 ht5 ht7
  (first | refine au ?_ | exact au0 | fail)
  first | refine callF_eq (hF _) ?_ | refine callG_eq rfl (hF _) ?_
  (first | refine au ?_ | exact au0 | fail)
  first | refine callF_eq (hP _) ?_ | refine callG_eq rfl (hP _) ?_
  (first | refine au ?_ | exact au0 | fail)
  exact ⟨fz_of, sub_of⟩
/-- The value has what its kind has. -/
structure FZ (k : Int) (n : Nat) (x : List UInt8) (vs : List Vl) (g : Ty) : Prop where
  hk : k = g.kd
  hF : ∀ H, ACalls PG fits_form.n [vlA (.mk k n x vs)] H fun r H' => r = .bool true ∧ H' = H
  hP : ∀ H, ACalls PG fits_plain.n [vlA (.mk k n x vs)] H fun r H' => r = .bool true ∧ H' = H
theorem fits_num (a : FAt l t g) (z : FZ k n x vs g) (h9 : isNum g.kd = true) {b : Bool} (hN : ∀ H, ACalls PG fits_asker_number.n [askA l, .int .i64 t, .int .u64 (n : Nat)] H fun r H' => r = .bool b ∧ H' = H) : FRes l t (.mk k n x vs) H (if b = true then 0 else 7) := by
  obtain ⟨h0, h1, hge⟩ := a
  obtain ⟨hk, hF, hP⟩ := z
  have hkl := vlRs_len vs
  refine ACalls.fz (fits_asker_fits.of rfl (wpF_start ?_))
  (first | refine au ?_ | exact au0 | fail)
  intro id3 hid3 ht3; have n3 := neAll_of hid3; (try simp only [neAll, neAll_hset] at n3); have m3 := n3; (repeat (obtain ⟨_, m3⟩ := m3))
  (first | refine au ?_ | exact au0 | fail)
  intro id5 hid5 ht5; have n5 := neAll_of hid5; (try simp only [neAll, neAll_hset] at n5); have m5 := n5; (repeat (obtain ⟨_, m5⟩ := m5))
  (first | refine au ?_ | exact au0 | fail)
  rw [hge]
  (first | refine au ?_ | exact au0 | fail)
  intro id7 hid7 ht7; have n7 := neAll_of hid7; (try simp only [neAll, neAll_hset] at n7); have m7 := n7; (repeat (obtain ⟨_, m7⟩ := m7))
  clear hid3 hid5 hid7 ht3 ht5 ht7
  (first | refine au ?_ | exact au0 | fail)
  first | refine callF_eq (hF _) ?_ | refine callG_eq rfl (hF _) ?_
  (first | refine au ?_ | exact au0 | fail)
  first | refine callF_eq (hP _) ?_ | refine callG_eq rfl (hP _) ?_
  clear hF hP
  (first | refine au ?_ | exact au0 | fail)
  have hnum := fun H => prim_Number_spec g.kd H
  rw [h9] at hnum
  first | refine callF_eq (hnum _) ?_ | refine callG_eq rfl (hnum _) ?_
  (first | refine au ?_ | exact au0 | fail)
  first | refine callF_eq (hN _) ?_ | refine callG_eq rfl (hN _) ?_
  cases b
  · (first | refine au ?_ | exact au0 | fail)
    exact ⟨fz_of, sub_of⟩
  · (first | refine au ?_ | exact au0 | fail)
    exact ⟨fz_of, sub_of⟩
theorem fits_str (a : FAt l t g) (z : FZ k n x vs g) (h9 : isNum g.kd = false) (h10 : g.kd = 10) {e : Int} (hT : ∀ H, ACalls PG fits_text.n [.str x, .int .i64 g.bd] H fun r H' => r = .int .i64 e ∧ H' = H) : FRes l t (.mk k n x vs) H e := by
  obtain ⟨h0, h1, hge⟩ := a
  obtain ⟨hk, hF, hP⟩ := z
  have hkl := vlRs_len vs
  refine ACalls.fz (fits_asker_fits.of rfl (wpF_start ?_))
  (first | refine au ?_ | exact au0 | fail)
  intro id3 hid3 ht3; have n3 := neAll_of hid3; (try simp only [neAll, neAll_hset] at n3); have m3 := n3; (repeat (obtain ⟨_, m3⟩ := m3))
  (first | refine au ?_ | exact au0 | fail)
  intro id5 hid5 ht5; have n5 := neAll_of hid5; (try simp only [neAll, neAll_hset] at n5); have m5 := n5; (repeat (obtain ⟨_, m5⟩ := m5))
  (first | refine au ?_ | exact au0 | fail)
  rw [hge]
  (first | refine au ?_ | exact au0 | fail)
  intro id7 hid7 ht7; have n7 := neAll_of hid7; (try simp only [neAll, neAll_hset] at n7); have m7 := n7; (repeat (obtain ⟨_, m7⟩ := m7))
  clear hid3 hid5 hid7 ht3 ht5 ht7
  (first | refine au ?_ | exact au0 | fail)
  first | refine callF_eq (hF _) ?_ | refine callG_eq rfl (hF _) ?_
  (first | refine au ?_ | exact au0 | fail)
  first | refine callF_eq (hP _) ?_ | refine callG_eq rfl (hP _) ?_
  clear hF hP
  (first | refine au ?_ | exact au0 | fail)
  have hnum := fun H => prim_Number_spec g.kd H
  rw [h9] at hnum
  first | refine callF_eq (hnum _) ?_ | refine callG_eq rfl (hnum _) ?_
  (first | refine au ?_ | exact au0 | fail)
  first | refine callF_eq (hT _) ?_ | refine callG_eq rfl (hT _) ?_
  (first | refine au ?_ | exact au0 | fail)
  exact ⟨fz_of, sub_of⟩
theorem fits_seq0 (a : FAt l t g) (z : FZ k n x vs g) (h9 : isNum g.kd = false) (h11 : g.kd = 11) (hb : g.bd < (vs.length : Nat)) : FRes l t (.mk k n x vs) H 3 := by
  obtain ⟨h0, h1, hge⟩ := a
  obtain ⟨hk, hF, hP⟩ := z
  have hkl := vlRs_len vs
  refine ACalls.fz (fits_asker_fits.of rfl (wpF_start ?_))
  (first | refine au ?_ | exact au0 | fail)
  intro id3 hid3 ht3; have n3 := neAll_of hid3; (try simp only [neAll, neAll_hset] at n3); have m3 := n3; (repeat (obtain ⟨_, m3⟩ := m3))
  (first | refine au ?_ | exact au0 | fail)
  intro id5 hid5 ht5; have n5 := neAll_of hid5; (try simp only [neAll, neAll_hset] at n5); have m5 := n5; (repeat (obtain ⟨_, m5⟩ := m5))
  (first | refine au ?_ | exact au0 | fail)
  rw [hge]
  (first | refine au ?_ | exact au0 | fail)
  intro id7 hid7 ht7; have n7 := neAll_of hid7; (try simp only [neAll, neAll_hset] at n7); have m7 := n7; (repeat (obtain ⟨_, m7⟩ := m7))
  clear hid3 hid5 hid7 ht3 ht5 ht7
  (first | refine au ?_ | exact au0 | fail)
  first | refine callF_eq (hF _) ?_ | refine callG_eq rfl (hF _) ?_
  (first | refine au ?_ | exact au0 | fail)
  first | refine callF_eq (hP _) ?_ | refine callG_eq rfl (hP _) ?_
  clear hF hP
  (first | refine au ?_ | exact au0 | fail)
  have hnum := fun H => prim_Number_spec g.kd H
  rw [h9] at hnum
  first | refine callF_eq (hnum _) ?_ | refine callG_eq rfl (hnum _) ?_
  (first | refine au ?_ | exact au0 | fail)
  exact ⟨fz_of, sub_of⟩
theorem fits_seq (a : FAt l t g) (z : FZ k n x vs g) (h9 : isNum g.kd = false) (h11 : g.kd = 11) (hb : (vs.length : Nat) ≤ g.bd) {e : Int}
    (hI : ∀ id Hs, hget Hs id = some (.rows 6 [tyR g]) → ACalls PG fits_asker_items.n [askA l, vlA (.mk k n x vs), .int .i64 (vs.length : Nat), .clo fits_asker_fits_1.n [] [.ptr id 6 0 0]] Hs fun r H' => r = .int .i64 e ∧ H' = Hs) : FRes l t (.mk k n x vs) H e := by
  obtain ⟨h0, h1, hge⟩ := a
  obtain ⟨hk, hF, hP⟩ := z
  have hkl := vlRs_len vs
  refine ACalls.fz (fits_asker_fits.of rfl (wpF_start ?_))
  (first | refine au ?_ | exact au0 | fail)
  intro id3 hid3 ht3; have n3 := neAll_of hid3; (try simp only [neAll, neAll_hset] at n3); have m3 := n3; (repeat (obtain ⟨_, m3⟩ := m3))
  (first | refine au ?_ | exact au0 | fail)
  intro id5 hid5 ht5; have n5 := neAll_of hid5; (try simp only [neAll, neAll_hset] at n5); have m5 := n5; (repeat (obtain ⟨_, m5⟩ := m5))
  (first | refine au ?_ | exact au0 | fail)
  rw [hge]
  (first | refine au ?_ | exact au0 | fail)
  intro id7 hid7 ht7; have n7 := neAll_of hid7; (try simp only [neAll, neAll_hset] at n7); have m7 := n7; (repeat (obtain ⟨_, m7⟩ := m7))
  clear hid3 hid5 hid7 ht3 ht5 ht7
  (first | refine au ?_ | exact au0 | fail)
  first | refine callF_eq (hF _) ?_ | refine callG_eq rfl (hF _) ?_
  (first | refine au ?_ | exact au0 | fail)
  first | refine callF_eq (hP _) ?_ | refine callG_eq rfl (hP _) ?_
  clear hF hP
  (first | refine au ?_ | exact au0 | fail)
  have hnum := fun H => prim_Number_spec g.kd H
  rw [h9] at hnum
  first | refine callF_eq (hnum _) ?_ | refine callG_eq rfl (hnum _) ?_
  (first | refine au ?_ | exact au0 | fail)
  rw [hkl]
  first | refine callF_eq (hI _ _ (by exact hg_of)) ?_ | refine callG_eq rfl (hI _ _ (by exact hg_of)) ?_
  (first | refine au ?_ | exact au0 | fail)
  exact ⟨fz_of, sub_of⟩
theorem fits_arr (a : FAt l t g) (z : FZ k n x vs g) (h9 : isNum g.kd = false) (h12 : g.kd = 12) {e : Int}
    (hI : ∀ id Hs, hget Hs id = some (.rows 6 [tyR g]) → ACalls PG fits_asker_items.n [askA l, vlA (.mk k n x vs), .int .i64 g.bd, .clo fits_asker_fits_2.n [] [.ptr id 6 0 0]] Hs fun r H' => r = .int .i64 e ∧ H' = Hs) : FRes l t (.mk k n x vs) H e := by
  obtain ⟨h0, h1, hge⟩ := a
  obtain ⟨hk, hF, hP⟩ := z
  have hkl := vlRs_len vs
  refine ACalls.fz (fits_asker_fits.of rfl (wpF_start ?_))
  (first | refine au ?_ | exact au0 | fail)
  intro id3 hid3 ht3; have n3 := neAll_of hid3; (try simp only [neAll, neAll_hset] at n3); have m3 := n3; (repeat (obtain ⟨_, m3⟩ := m3))
  (first | refine au ?_ | exact au0 | fail)
  intro id5 hid5 ht5; have n5 := neAll_of hid5; (try simp only [neAll, neAll_hset] at n5); have m5 := n5; (repeat (obtain ⟨_, m5⟩ := m5))
  (first | refine au ?_ | exact au0 | fail)
  rw [hge]
  (first | refine au ?_ | exact au0 | fail)
  intro id7 hid7 ht7; have n7 := neAll_of hid7; (try simp only [neAll, neAll_hset] at n7); have m7 := n7; (repeat (obtain ⟨_, m7⟩ := m7))
  clear hid3 hid5 hid7 ht3 ht5 ht7
  (first | refine au ?_ | exact au0 | fail)
  first | refine callF_eq (hF _) ?_ | refine callG_eq rfl (hF _) ?_
  (first | refine au ?_ | exact au0 | fail)
  first | refine callF_eq (hP _) ?_ | refine callG_eq rfl (hP _) ?_
  clear hF hP
  (first | refine au ?_ | exact au0 | fail)
  have hnum := fun H => prim_Number_spec g.kd H
  rw [h9] at hnum
  first | refine callF_eq (hnum _) ?_ | refine callG_eq rfl (hnum _) ?_
  (first | refine au ?_ | exact au0 | fail)
  first | refine callF_eq (hI _ _ (by exact hg_of)) ?_ | refine callG_eq rfl (hI _ _ (by exact hg_of)) ?_
  (first | refine au ?_ | exact au0 | fail)
  exact ⟨fz_of, sub_of⟩
theorem fits_stc (a : FAt l t g) (z : FZ k n x vs g) (h9 : isNum g.kd = false) (h13 : g.kd = 13) (hli : g.its.length ≤ 4000000000000) {e : Int}
    (hI : ∀ id Hs, hget Hs id = some (.rows 6 [tyR g]) → ACalls PG fits_asker_items.n [askA l, vlA (.mk k n x vs), .int .i64 (g.its.length : Nat), .clo fits_asker_fits_3.n [] [.ptr id 6 0 0]] Hs fun r H' => r = .int .i64 e ∧ H' = Hs) : FRes l t (.mk k n x vs) H e := by
  have hlen2 : (g.its.map itR).length = g.its.length := by simp
  obtain ⟨h0, h1, hge⟩ := a
  obtain ⟨hk, hF, hP⟩ := z
  have hkl := vlRs_len vs
  refine ACalls.fz (fits_asker_fits.of rfl (wpF_start ?_))
  (first | refine au ?_ | exact au0 | fail)
  intro id3 hid3 ht3; have n3 := neAll_of hid3; (try simp only [neAll, neAll_hset] at n3); have m3 := n3; (repeat (obtain ⟨_, m3⟩ := m3))
  (first | refine au ?_ | exact au0 | fail)
  intro id5 hid5 ht5; have n5 := neAll_of hid5; (try simp only [neAll, neAll_hset] at n5); have m5 := n5; (repeat (obtain ⟨_, m5⟩ := m5))
  (first | refine au ?_ | exact au0 | fail)
  rw [hge]
  (first | refine au ?_ | exact au0 | fail)
  intro id7 hid7 ht7; have n7 := neAll_of hid7; (try simp only [neAll, neAll_hset] at n7); have m7 := n7; (repeat (obtain ⟨_, m7⟩ := m7))
  clear hid3 hid5 hid7 ht3 ht5 ht7
  (first | refine au ?_ | exact au0 | fail)
  first | refine callF_eq (hF _) ?_ | refine callG_eq rfl (hF _) ?_
  (first | refine au ?_ | exact au0 | fail)
  first | refine callF_eq (hP _) ?_ | refine callG_eq rfl (hP _) ?_
  clear hF hP
  (first | refine au ?_ | exact au0 | fail)
  have hnum := fun H => prim_Number_spec g.kd H
  rw [h9] at hnum
  first | refine callF_eq (hnum _) ?_ | refine callG_eq rfl (hnum _) ?_
  (first | refine au ?_ | exact au0 | fail)
  rw [hlen2]
  first | refine callF_eq (hI _ _ (by exact hg_of)) ?_ | refine callG_eq rfl (hI _ _ (by exact hg_of)) ?_
  (first | refine au ?_ | exact au0 | fail)
  exact ⟨fz_of, sub_of⟩
theorem fits_uni (a : FAt l t g) (z : FZ k n x vs g) (h9 : isNum g.kd = false) (h14 : g.kd = 14) {e : Int}
    (hU : ∀ H, ACalls PG fits_asker_union.n [askA l, .int .i64 t, vlA (.mk k n x vs)] H fun r H' => r = .int .i64 e ∧ H' = H) : FRes l t (.mk k n x vs) H e := by
  obtain ⟨h0, h1, hge⟩ := a
  obtain ⟨hk, hF, hP⟩ := z
  have hkl := vlRs_len vs
  refine ACalls.fz (fits_asker_fits.of rfl (wpF_start ?_))
  (first | refine au ?_ | exact au0 | fail)
  intro id3 hid3 ht3; have n3 := neAll_of hid3; (try simp only [neAll, neAll_hset] at n3); have m3 := n3; (repeat (obtain ⟨_, m3⟩ := m3))
  (first | refine au ?_ | exact au0 | fail)
  intro id5 hid5 ht5; have n5 := neAll_of hid5; (try simp only [neAll, neAll_hset] at n5); have m5 := n5; (repeat (obtain ⟨_, m5⟩ := m5))
  (first | refine au ?_ | exact au0 | fail)
  rw [hge]
  (first | refine au ?_ | exact au0 | fail)
  intro id7 hid7 ht7; have n7 := neAll_of hid7; (try simp only [neAll, neAll_hset] at n7); have m7 := n7; (repeat (obtain ⟨_, m7⟩ := m7))
  clear hid3 hid5 hid7 ht3 ht5 ht7
  (first | refine au ?_ | exact au0 | fail)
  first | refine callF_eq (hF _) ?_ | refine callG_eq rfl (hF _) ?_
  (first | refine au ?_ | exact au0 | fail)
  first | refine callF_eq (hP _) ?_ | refine callG_eq rfl (hP _) ?_
  clear hF hP
  (first | refine au ?_ | exact au0 | fail)
  have hnum := fun H => prim_Number_spec g.kd H
  rw [h9] at hnum
  first | refine callF_eq (hnum _) ?_ | refine callG_eq rfl (hnum _) ?_
  (first | refine au ?_ | exact au0 | fail)
  first | refine callF_eq (hU _) ?_ | refine callG_eq rfl (hU _) ?_
  (first | refine au ?_ | exact au0 | fail)
  exact ⟨fz_of, sub_of⟩
end
theorem sub_one {Hs : AH} {id : Nat} {b : Blk} (h : hget Hs id = some b) : Sub [(id, b)] Hs := fun j c q => by
  simp only [hget] at q
  split at q
  · rename_i e; subst e; rw [← q]; exact h
  · cases q
theorem fits_spec (l : List Ty) (hl : TysOk l) (hv : TyV l) : ∀ (m : Nat) (v : Vl), SizeOf.sizeOf v < m → vOk v → FitC l v
  | 0, v, h, _ => by omega
  | m + 1, .mk k n x vs, hsz, hok => by
    intro t h0 h1 H
    have ih : ∀ w ∈ vs, FitC l w := fun w hw => by
      simp only [vOk] at hok
      simp only [Vl.mk.sizeOf_spec] at hsz
      have := List.sizeOf_lt_of_mem hw
      exact fits_spec l hl hv m w (by omega) (vOks_mem hok.2.2.2 _ hw)
    have hlen : (l.map tyR).length = l.length := by simp
    have hG := hv.tAt h0 h1
    have hbd := hG.bd
    have hto := hl.all _ (tAt_mem h0 h1)
    have hpt : ∀ p ∈ parts (tAt l t), 0 ≤ p ∧ p < l.length := fun p hp => by have := hG.parts p hp; omega
    have a : FAt l t (tAt l t) := ⟨h0, by rw [hlen]; exact h1, tAt_get h0 h1⟩
    have hkd := hG.kd
    have hI := fun n' f caps ps Hs => items_fspec l (.mk k n x vs) hok n' f caps ps Hs
    show FRes l t (.mk k n x vs) H (fitE l t (.mk k n x vs))
    rw [fitE_eq]
    by_cases hk : k = (tAt l t).kd
    rotate_left
    · rw [if_pos hk]; exact fits_kind a hk
    rw [if_neg (by simp [hk])]
    have hz := vZero_eq (k := k) (by rw [hk]; exact hkd) n x vs.length
    have hF := fun H => fform_spec (.mk k n x vs) hok H
    have hP := fun H => fplain_spec (.mk k n x vs) hok H
    simp only [Vl.kd, Vl.num, Vl.tx, Vl.its] at hF hP
    cases hbf : vForm k n x vs.length
    · rw [hbf] at hF hz
      rw [if_pos (by rw [← hz]; rfl)]
      exact fits_form0 a hk hF
    cases hbp : vPlain k x vs.length
    · rw [hbf] at hF hz
      rw [hbp] at hP hz
      rw [if_pos (by rw [← hz]; rfl)]
      exact fits_form1 a hk hF hP
    rw [hbf] at hF hz
    rw [hbp] at hP hz
    rw [if_neg (by rw [← hz]; simp)]
    have z : FZ k n x vs (tAt l t) := ⟨hk, hF, hP⟩
    have hvz : vZero k n x vs.length = true := by rw [← hz]; rfl
    simp only [vZero, decide_eq_true_eq] at hvz
    obtain ⟨_, hm⟩ := hvz
    have hN0 : vs.length = 0 → fitN l [] vs = 0 := fun q => by unfold fitN; rw [if_neg (by simp [q])]; simp [fitEs]
    rw [show isNum k = isNum (tAt l t).kd from by rw [hk]]
    cases hI9 : isNum (tAt l t).kd
    rotate_left
    · have h9 : 1 ≤ (tAt l t).kd ∧ (tAt l t).kd ≤ 9 := by simpa [isNum] using hI9
      have := fits_num (H := H) a z hI9 (fun H => fnum_spec l hl t h0 h1 n H)
      rw [partT_no rfl (by omega), hN0 (by omega)]
      cases hb : numT l t n
      · rw [hb] at this
        rw [if_pos (.inl ⟨rfl, rfl⟩)]
        exact this
      · rw [hb] at this
        rw [if_neg (fun q => by rcases q with ⟨_, q⟩ | ⟨q, _⟩; cases q; omega), if_neg (by omega), if_neg (by omega), if_neg (by omega)]
        exact this
    have h10 : 10 ≤ (tAt l t).kd := by
      have : ¬ (1 ≤ (tAt l t).kd ∧ (tAt l t).kd ≤ 9) := by simpa [isNum] using hI9
      omega
    by_cases c10 : (tAt l t).kd = 10
    · rw [if_neg (fun q => by rcases q with ⟨q, _⟩ | ⟨q, _⟩; cases q; omega), partT_no rfl (by omega), hN0 (by omega)]
      have := fits_str (H := H) a z hI9 c10 (fun H => ftext_spec x (by simp only [vOk] at hok; exact hok.2.1) (tAt l t).bd H)
      have e : (if k = 10 ∧ (tAt l t).bd < (x.length : Int) then (3 : Int) else if k = 10 ∧ x.contains 0 = true then 10 else if k = 11 ∧ (tAt l t).bd < (vs.length : Int) then 3 else 0) = if (tAt l t).bd < (x.length : Int) then 3 else if x.contains 0 = true then 10 else 0 := by
        by_cases c1 : (tAt l t).bd < (x.length : Int)
        · rw [if_pos ⟨by omega, c1⟩, if_pos c1]
        · rw [if_neg (fun q => c1 q.2), if_neg c1]
          by_cases c2 : x.contains 0 = true
          · rw [if_pos ⟨by omega, c2⟩, if_pos c2]
          · rw [if_neg (fun q => c2 q.2), if_neg c2, if_neg (by omega)]
      rw [e]
      exact this
    by_cases c14 : (tAt l t).kd = 14
    · have := fits_uni (H := H) a z hI9 c14 (fun H => union_spec l hl hv (.mk k n x vs) hok t h0 h1 c14 ih H)
      cases hb : numT l (tAt l t).tg n
      · rw [if_pos (.inr ⟨by omega, rfl⟩)]
        have hb : numT l (tAt l t).tg (Vl.mk k n x vs).num = false := hb
        rw [if_pos hb] at this
        exact this
      · rw [if_neg (fun q => by rcases q with ⟨q, _⟩ | ⟨_, q⟩; cases q; cases q), if_neg (by omega), if_neg (by omega), if_neg (by omega)]
        have hb : ¬ numT l (tAt l t).tg (Vl.mk k n x vs).num = false := by
          show ¬ numT l (tAt l t).tg n = false
          rw [hb]; simp
        rw [if_neg hb] at this
        exact this
    rw [if_neg (fun q => by rcases q with ⟨q, _⟩ | ⟨q, _⟩; cases q; omega), if_neg (by omega), if_neg (by omega)]
    by_cases c11 : (tAt l t).kd = 11
    · by_cases cb : (tAt l t).bd < (vs.length : Nat)
      · rw [if_pos ⟨by omega, cb⟩]
        exact fits_seq0 a z hI9 c11 cb
      · rw [if_neg (fun q => cb q.2), partT_el rfl c11]
        have hel : (tAt l t).el ∈ parts (tAt l t) := by unfold parts; rw [show kEl (tAt l t).kd = true from by simp [kEl, c11]]; simp
        exact fits_seq a z hI9 c11 (by omega) fun id Hs e => hI vs.length fits_asker_fits_1.n [.ptr id 6 0 0] (List.replicate vs.length (tAt l t).el) Hs (by simp) (fun p hp => by rw [List.eq_of_mem_replicate hp]; exact hpt _ hel) (fun i h => by rw [List.getElem_replicate]; exact (fits1_spec (tAt l t) i id).sup (sub_one e)) ih
    rw [if_neg (fun q => c11 (by omega))]
    by_cases c12 : (tAt l t).kd = 12
    · rw [partT_ar rfl c12]
      have hel : (tAt l t).el ∈ parts (tAt l t) := by unfold parts; rw [show kEl (tAt l t).kd = true from by simp [kEl, c12]]; simp
      have hb0 := hbd (by simp [kBd, c12])
      exact fits_arr a z hI9 c12 fun id Hs e => hI (tAt l t).bd fits_asker_fits_2.n [.ptr id 6 0 0] (List.replicate (tAt l t).bd.toNat (tAt l t).el) Hs (by simp; omega) (fun p hp => by rw [List.eq_of_mem_replicate hp]; exact hpt _ hel) (fun i h => by rw [List.getElem_replicate]; exact (fits2_spec (tAt l t) i id).sup (sub_one e)) ih
    have c13 : (tAt l t).kd = 13 := by omega
    rw [partT_st rfl c13]
    exact fits_stc a z hI9 c13 hto.its fun id Hs e => hI (tAt l t).its.length fits_asker_fits_3.n [.ptr id 6 0 0] ((tAt l t).its.map (·.ty)) Hs (by simp) (fun p hp => by obtain ⟨y, hy, rfl⟩ := List.mem_map.1 hp; exact hpt _ (parts_item (.inl c13) hy)) (fun i h => by rw [List.getElem_map]; exact (fits3_spec (tAt l t) i (by simpa using h) id).sup (sub_one e)) ih
end Go.Proofs.Ytodiahhfpcdejaa

/- Which values are of a type, in the reference, walked. -/
namespace Go.Proofs.Ytodiahhfpcdejaa
set_option autoImplicit false
set_option linter.unusedSimpArgs false
set_option linter.unusedVariables false
attribute [local irreducible] callA callP ACalls
theorem known_spec (l : List Ty) (hl : TysOk l) (t : Int) (H : AH) : ACalls PG fits_known.n [tysA l, .int .i64 t] H fun r H' => r = .bool (decide (0 ≤ t ∧ t < l.length ∧ (tyChk l).1 = 0)) ∧ H' = H := by
  have hlen : (l.map tyR).length = l.length := by simp
  have hll := hl.len
  refine ACalls.fz (fits_known.of rfl (wpF_start ?_))
  (repeat' (first | (refine au ?_; first | refine callF_eq (Check_spec l hl _) ?_ | refine bsplit_dec (fun _ => ?_) (fun _ => ?_) | refine bsplit_intro (fun _ => ?_) (fun _ => ?_)) | exact au0 | fail)); (all_goals try (first | refine au ?_ | fail))
  all_goals exact ⟨fz_eq (congrArg AV.bool (by first | exact (decide_eq_true (by omega)).symm | exact (decide_eq_false (by omega)).symm | exact decide_eq_decide.2 (by omega) | rfl)), sub_of⟩
theorem Fits_spec (l : List Ty) (hl : TysOk l) (t : Int) (v : Vl) (hok : vOk v) (H : AH) : ACalls PG fits_Fits.n [tysA l, .int .i64 t, vlA v] H fun r H' => r = .int .i64 (if 0 ≤ t ∧ t < l.length ∧ (tyChk l).1 = 0 then fitE l t v else 8) ∧ H' = H := by
  have hk := fun H => known_spec l hl t H
  have hf := fun h => fits_spec l hl (tyChk_v (l := l) h) _ v (Nat.lt_succ_self _) hok
  refine ACalls.fz (fits_Fits.of rfl (wpF_start ?_))
  obtain ⟨k, n, x, vs⟩ := v
  by_cases c : 0 ≤ t ∧ t < l.length ∧ (tyChk l).1 = 0
  · rw [decide_eq_true c] at hk
    rw [if_pos c]
    (first | refine au ?_ | exact au0 | fail)
    intro id3 hid3 ht3; have n3 := neAll_of hid3; (try simp only [neAll, neAll_hset] at n3); have m3 := n3; (repeat (obtain ⟨_, m3⟩ := m3))
    (first | refine au ?_ | exact au0 | fail)
    first | refine callF_eq (hk _) ?_ | refine callG_eq rfl (hk _) ?_
    (first | refine au ?_ | exact au0 | fail)
    first | refine callF_eq (hf c.2.2 t c.1 c.2.1 _) ?_ | refine callG_eq rfl (hf c.2.2 t c.1 c.2.1 _) ?_
    (first | refine au ?_ | exact au0 | fail)
    exact ⟨fz_of, sub_of⟩
  · rw [decide_eq_false c] at hk
    rw [if_neg c]
    (first | refine au ?_ | exact au0 | fail)
    intro id3 hid3 ht3; have n3 := neAll_of hid3; (try simp only [neAll, neAll_hset] at n3); have m3 := n3; (repeat (obtain ⟨_, m3⟩ := m3))
    (first | refine au ?_ | exact au0 | fail)
    first | refine callF_eq (hk _) ?_ | refine callG_eq rfl (hk _) ?_
    (first | refine au ?_ | exact au0 | fail)
    exact ⟨fz_of, sub_of⟩
theorem r9_number_spec (l : List Ty) (hl : TysOk l) (t : Int) (h0 : 0 ≤ t) (h1 : t < l.length) (n : Nat) (hn : n < 18446744073709551616) (H : AH) : ACalls PG broadsheetref09_number.n [tysA l, .int .i64 t, .int .u64 (n : Nat)] H fun r H' => r = .bool (numT l t n) ∧ H' = H := by
  have hlen : (l.map tyR).length = l.length := by simp
  have hll := hl.len
  have hge := tAt_get h0 h1
  have hV := fun H => r6_Value_spec l hl t n H
  refine ACalls.fz (broadsheetref09_number.of rfl (wpF_start ?_))
  unfold numT
  generalize tAt l t = g at *
  (first | refine au ?_ | exact au0 | fail)
  rw [hge]
  (first | refine au ?_ | exact au0 | fail)
  refine bsplit_dec (fun c => ?_) (fun c => ?_)
  · rw [if_pos c]
    generalize valIx l t n = o at *
    cases o with
    | some k =>
      (first | refine au ?_ | exact au0 | fail)
      first | refine callF_eq (hV _) ?_ | refine callG_eq rfl (hV _) ?_
      (first | refine au ?_ | exact au0 | fail)
      exact ⟨fz_eq (congrArg AV.bool (by simp)), sub_of⟩
    | none =>
      (first | refine au ?_ | exact au0 | fail)
      first | refine callF_eq (hV _) ?_ | refine callG_eq rfl (hV _) ?_
      (first | refine au ?_ | exact au0 | fail)
      exact ⟨fz_eq (congrArg AV.bool (by simp)), sub_of⟩
  · rw [if_neg c]
    (first | refine au ?_ | exact au0 | fail)
    rw [hge]
    (first | refine au ?_ | exact au0 | fail)
    first | refine callF_eq (r5_May_spec _ n hn _) ?_ | refine callG_eq rfl (r5_May_spec _ n hn _) ?_
    (first | refine au ?_ | exact au0 | fail)
    exact ⟨fz_of, sub_of⟩
theorem r9_zero_spec (v : Vl) (hok : vOk v) (H : AH) : ACalls PG broadsheetref09_zero.n [vlA v] H fun r H' => r = .bool (vZero v.kd v.num v.tx v.its.length) ∧ H' = H := by
  obtain ⟨k, n, t, its⟩ := v
  have hkl := vlRs_len its
  simp only [Vl.kd, Vl.num, Vl.tx, Vl.its]
  simp only [vOk] at hok
  refine ACalls.fz (broadsheetref09_zero.of rfl (wpF_start ?_))
  (first | refine au ?_ | exact au0 | fail)
  intro id1 hid1 ht1; have n1 := neAll_of hid1; (try simp only [neAll, neAll_hset] at n1); have m1 := n1; (repeat (obtain ⟨_, m1⟩ := m1))
  unfold vZero
  by_cases ht : t = []
  · subst ht
    (repeat' (first | (refine au ?_; first | refine bsplit_dec (fun _ => ?_) (fun _ => ?_) | refine bsplit_intro (fun _ => ?_) (fun _ => ?_)) | exact au0 | fail)); (all_goals try (first | refine au ?_ | fail))
    all_goals first | (exfalso; omega) | skip
    all_goals (refine ⟨fz_eq (congrArg AV.bool ?_), sub_of⟩; simp only [ne_eq, not_true_eq_false, false_and, or_false]; first | exact (decide_eq_true (by omega)).symm | exact (decide_eq_false (by omega)).symm | exact decide_eq_decide.2 (by omega) | rfl)
  · (repeat' (first | (refine au ?_; first | refine bsplit_dec (fun _ => ?_) (fun _ => ?_) | refine bsplit_intro (fun _ => ?_) (fun _ => ?_)) | exact au0 | fail)); (all_goals try (first | refine au ?_ | fail))
    all_goals first | (exfalso; omega) | skip
    all_goals (refine ⟨fz_eq (congrArg AV.bool ?_), sub_of⟩; simp only [ht, ne_eq, not_false_eq_true, true_and]; first | exact (decide_eq_true (by omega)).symm | exact (decide_eq_false (by omega)).symm | exact decide_eq_decide.2 (by omega) | (simp_all; done))
end Go.Proofs.Ytodiahhfpcdejaa

/- A step of a path, walked. -/
namespace Go.Proofs.Ytodiahhfpcdejaa
set_option autoImplicit false
set_option linter.unusedSimpArgs false
set_option linter.unusedVariables false
attribute [local irreducible] callA callP ACalls
theorem Item1_spec (k : Int) (H : AH) : ACalls PG types_Item_1.n [.int .i64 k] H fun r H' => r = .bool (kNm k) ∧ H' = H := by
  refine ACalls.fz (types_Item_1.of rfl (wpF_start ?_))
  (first | refine au ?_ | exact au0 | fail)
  first | refine callF_eq (has_spec k _) ?_ | refine callG_eq rfl (has_spec k _) ?_
  (first | refine au ?_ | exact au0 | fail)
  exact ⟨fz_of, sub_of⟩
theorem Item2_spec (x : It) (s : List UInt8) (id : Nat) : ACalls PG types_Item_2.n [.agg (itR x), .ptr id 1 0 0] [(id, .rows 1 [[.str s]])] fun r H' => r = .bool (x.nm == s) ∧ H' = [(id, .rows 1 [[.str s]])] := by
  refine ACalls.fz (types_Item_2.of' (Nat.le_of_ble_eq_true rfl) (wpF_start ?_))
  (first | refine au ?_ | exact au0 | fail)
  intro id2 hid2 ht2; have n2 := neAll_of hid2; (try simp only [neAll, neAll_hset] at n2); have m2 := n2; (repeat (obtain ⟨_, m2⟩ := m2))
  (first | refine au ?_ | exact au0 | fail)
  refine ⟨fz_eq (congrArg AV.bool ?_), sub_of⟩
  rw [Bool.eq_iff_iff]; simp
theorem fIx_item (l : List Ty) (t : Int) (s : List UInt8) : fIx l t kNm (fun x => x.nm == s) = itemIx l t s := rfl
theorem Item_spec (l : List Ty) (hl : TysOk l) (t : Int) (s : List UInt8) (H : AH) : ACalls PG types_Item.n [tysA l, .int .i64 t, .str s] H fun r H' => r = ixA (itemIx l t s) ∧ H' = H := by
  refine ACalls.fz (types_Item.of rfl (wpF_start ?_))
  rw [← fIx_item]
  (first | refine au ?_ | exact au0 | fail)
  intro id5 hid5 ht5; have n5 := neAll_of hid5; (try simp only [neAll, neAll_hset] at n5); have m5 := n5; (repeat (obtain ⟨_, m5⟩ := m5))
  (first | refine au ?_ | exact au0 | fail)
  first | refine callF_eq ((find_spec l hl t types_Item_1.n types_Item_2.n [] [.ptr id5 1 0 0] kNm (fun x => x.nm == s) _ (fun k => Item1_spec k _) (fun x => Item2_spec x s id5)).sup (by exact sub_of)) ?_ | refine callG_eq rfl ((find_spec l hl t types_Item_1.n types_Item_2.n [] [.ptr id5 1 0 0] kNm (fun x => x.nm == s) _ (fun k => Item1_spec k _) (fun x => Item2_spec x s id5)).sup (by exact sub_of)) ?_
  cases fIx l t kNm (fun x => x.nm == s) with
  | some m =>
    (first | refine au ?_ | exact au0 | fail)
    exact ⟨fz_of, sub_of⟩
  | none =>
    (first | refine au ?_ | exact au0 | fail)
    exact ⟨fz_of, sub_of⟩
theorem path_known_spec (l : List Ty) (hl : TysOk l) (t : Int) (H : AH) : ACalls PG path_known.n [tysA l, .int .i64 t] H fun r H' => r = .bool (decide (knownT l t)) ∧ H' = H := by
  have hlen : (l.map tyR).length = l.length := by simp
  have hll := hl.len
  unfold knownT
  refine ACalls.fz (path_known.of rfl (wpF_start ?_))
  (repeat' (first | (refine au ?_; first | refine callF_eq (Check_spec l hl _) ?_ | refine bsplit_dec (fun _ => ?_) (fun _ => ?_) | refine bsplit_intro (fun _ => ?_) (fun _ => ?_)) | exact au0 | fail)); (all_goals try (first | refine au ?_ | fail))
  all_goals exact ⟨fz_eq (congrArg AV.bool (by first | exact (decide_eq_true (by omega)).symm | exact (decide_eq_false (by omega)).symm | exact decide_eq_decide.2 (by omega) | rfl)), sub_of⟩
theorem elems_spec (x : Ty) (H : AH) : ACalls PG path_elems.n [.agg (tyR x)] H fun r H' => r = .bool (kEl x.kd) ∧ H' = H := by
  refine ACalls.fz (path_elems.of rfl (wpF_start ?_))
  (first | refine au ?_ | exact au0 | fail)
  intro id1 hid1 ht1; have n1 := neAll_of hid1; (try simp only [neAll, neAll_hset] at n1); have m1 := n1; (repeat (obtain ⟨_, m1⟩ := m1))
  unfold kEl
  (repeat' (first | (refine au ?_; first | refine bsplit_dec (fun _ => ?_) (fun _ => ?_) | refine bsplit_intro (fun _ => ?_) (fun _ => ?_)) | exact au0 | fail)); (all_goals try (first | refine au ?_ | fail))
  all_goals exact ⟨fz_eq (congrArg AV.bool (by first | exact (decide_eq_true (by omega)).symm | exact (decide_eq_false (by omega)).symm | exact decide_eq_decide.2 (by omega) | rfl)), sub_of⟩
theorem items_spec' (x : Ty) (H : AH) : ACalls PG path_items.n [.agg (tyR x)] H fun r H' => r = .bool (kIt x.kd) ∧ H' = H := by
  refine ACalls.fz (path_items.of rfl (wpF_start ?_))
  (first | refine au ?_ | exact au0 | fail)
  intro id1 hid1 ht1; have n1 := neAll_of hid1; (try simp only [neAll, neAll_hset] at n1); have m1 := n1; (repeat (obtain ⟨_, m1⟩ := m1))
  unfold kIt
  (repeat' (first | (refine au ?_; first | refine bsplit_dec (fun _ => ?_) (fun _ => ?_) | refine bsplit_intro (fun _ => ?_) (fun _ => ?_)) | exact au0 | fail)); (all_goals try (first | refine au ?_ | fail))
  all_goals exact ⟨fz_eq (congrArg AV.bool (by first | exact (decide_eq_true (by omega)).symm | exact (decide_eq_false (by omega)).symm | exact decide_eq_decide.2 (by omega) | rfl)), sub_of⟩
abbrev spR (x : Bool × Nat) : List AV := [.bool x.1, .int .i64 (x.2 : Nat)]
abbrev stA (x : (Bool × Nat) × Int × Int) : AV := .tup [.agg (spR x.1), .int .i64 x.2.1, .int .i64 x.2.2]
theorem step_spec (l : List Ty) (hl : TysOk l) (t : Int) (h0 : 0 ≤ t) (h1 : t < l.length) (p : Pc) (H : AH) : ACalls PG path_step.n [tysA l, .int .i64 t, pcA p] H fun r H' => r = stA (stepP l t p) ∧ H' = H := by
  have hlen : (l.map tyR).length = l.length := by simp
  have hll := hl.len
  have hge := tAt_get h0 h1
  have hti := (hl.all _ (tAt_mem h0 h1)).its
  obtain ⟨nm, k, okp⟩ := p
  have hix := Item_spec l hl t nm
  show ACalls PG path_step.n [tysA l, .int .i64 t, .agg [.str nm, .int .i64 (k : Nat)]] H _
  unfold stepP
  dsimp only
  have hii : ∀ n, itemIx l t nm = some n → n < (tAt l t).its.length := by
    intro n q
    unfold itemIx at q
    split at q
    · exact (List.findIdx?_eq_some_iff_getElem.1 q).1
    · cases q
  generalize itemIx l t nm = ix at *
  generalize tAt l t = g at *
  have hel := elems_spec g
  have hit := items_spec' g
  generalize hkel : kEl g.kd = be at *
  generalize hkit : kIt g.kd = bi at *
  refine ACalls.fz (path_step.of rfl (wpF_start ?_))
  (first | refine au ?_ | exact au0 | fail)
  intro id5 hid5 ht5; have n5 := neAll_of hid5; (try simp only [neAll, neAll_hset] at n5); have m5 := n5; (repeat (obtain ⟨_, m5⟩ := m5))
  (first | refine au ?_ | exact au0 | fail)
  intro id6 hid6 ht6; have n6 := neAll_of hid6; (try simp only [neAll, neAll_hset] at n6); have m6 := n6; (repeat (obtain ⟨_, m6⟩ := m6))
  (first | refine au ?_ | exact au0 | fail)
  rw [hge]
  (first | refine au ?_ | exact au0 | fail)
  intro id9 hid9 ht9; have n9 := neAll_of hid9; (try simp only [neAll, neAll_hset] at n9); have m9 := n9; (repeat (obtain ⟨_, m9⟩ := m9))
  cases nm with
  | nil =>
    (first | refine au ?_ | exact au0 | fail)
    first | refine callF_eq (hel _) ?_ | refine callG_eq rfl (hel _) ?_
    cases be
    · (first | refine au ?_ | exact au0 | fail)
      exact ⟨fz_of, sub_of⟩
    · (first | refine au ?_ | exact au0 | fail)
      refine bsplit_dec (fun c => ?_) (fun c => ?_)
      · rw [if_pos rfl, if_neg (by decide), if_pos (by omega)]
        (first | refine au ?_ | exact au0 | fail)
        exact ⟨fz_of, sub_of⟩
      · rw [if_pos rfl, if_neg (by decide), if_neg (by omega)]
        (first | refine au ?_ | exact au0 | fail)
        exact ⟨fz_of, sub_of⟩
  | cons a bs =>
    rw [if_neg (by simp)]
    (first | refine au ?_ | exact au0 | fail)
    first | refine callF_eq (hit _) ?_ | refine callG_eq rfl (hit _) ?_
    cases bi
    · (first | refine au ?_ | exact au0 | fail)
      exact ⟨fz_of, sub_of⟩
    · (first | refine au ?_ | exact au0 | fail)
      first | refine callF_eq (hix _) ?_ | refine callG_eq rfl (hix _) ?_
      cases ix with
      | none =>
        (first | refine au ?_ | exact au0 | fail)
        exact ⟨fz_of, sub_of⟩
      | some n =>
        have hil := hii n rfl
        have hge2 := row_get (f := itR) hil
        have hgd : g.its.getD n it0 = g.its[n] := by simp [List.getD, hil]
        dsimp only
        rw [hgd]
        have hlen2 : (g.its.map itR).length = g.its.length := by simp
        (first | refine au ?_ | exact au0 | fail)
        rw [hge2]
        (first | refine au ?_ | exact au0 | fail)
        exact ⟨fz_of, sub_of⟩
end Go.Proofs.Ytodiahhfpcdejaa

/- The next type of a path, walked. -/
namespace Go.Proofs.Ytodiahhfpcdejaa
set_option autoImplicit false
set_option linter.unusedSimpArgs false
set_option linter.unusedVariables false
attribute [local irreducible] callA callP ACalls
/-- The type to which a step leads; -1: it is none. -/
def nextP (g : Ty) (e : Bool) (n : Int) : Int :=
  if n < 0 then -1 else if e = true then (if kEl g.kd = true ∧ n < g.bd then g.el else -1) else (if kIt g.kd = true ∧ n < g.its.length then (g.its.getD n.toNat it0).ty else -1)
theorem Next_spec (l : List Ty) (hl : TysOk l) (t : Int) (h0 : 0 ≤ t) (h1 : t < l.length) (e : Bool) (n : Int) (H : AH) : ACalls PG broadsheetref12_Next.n [tysA l, .int .i64 t, .agg [.bool e, .int .i64 n]] H fun r H' => r = .int .i64 (nextP (tAt l t) e n) ∧ H' = H := by
  have hlen : (l.map tyR).length = l.length := by simp
  have hll := hl.len
  have hge := tAt_get h0 h1
  have hti := (hl.all _ (tAt_mem h0 h1)).its
  generalize tAt l t = g at *
  have hlen2 : (g.its.map itR).length = g.its.length := by simp
  refine ACalls.fz (broadsheetref12_Next.of rfl (wpF_start ?_))
  (first | refine au ?_ | exact au0 | fail)
  intro id5 hid5 ht5; have n5 := neAll_of hid5; (try simp only [neAll, neAll_hset] at n5); have m5 := n5; (repeat (obtain ⟨_, m5⟩ := m5))
  clear hid5
  (first | refine au ?_ | exact au0 | fail)
  rw [hge]
  (first | refine au ?_ | exact au0 | fail)
  intro id7 hid7 ht7; have n7 := neAll_of hid7; (try simp only [neAll, neAll_hset] at n7); have m7 := n7; (repeat (obtain ⟨_, m7⟩ := m7))
  clear hid7
  (first | refine au ?_ | exact au0 | fail)
  unfold nextP kEl kIt
  by_cases c : n < 0
  · rw [if_pos c]
    (first | refine au ?_ | exact au0 | fail)
    exact ⟨fz_of, sub_of⟩
  rw [if_neg c]
  cases e with
  | true =>
    rw [if_pos rfl]
    by_cases c1 : g.kd = 11
    · by_cases c3 : n < g.bd
      · rw [if_pos ⟨by simp [c1], c3⟩]
        (first | refine au ?_ | exact au0 | fail)
        exact ⟨fz_of, sub_of⟩
      · rw [if_neg (fun q => c3 q.2)]
        (first | refine au ?_ | exact au0 | fail)
        exact ⟨fz_of, sub_of⟩
    by_cases c2 : g.kd = 12
    · by_cases c3 : n < g.bd
      · rw [if_pos ⟨by simp [c2], c3⟩]
        (first | refine au ?_ | exact au0 | fail)
        exact ⟨fz_of, sub_of⟩
      · rw [if_neg (fun q => c3 q.2)]
        (first | refine au ?_ | exact au0 | fail)
        exact ⟨fz_of, sub_of⟩
    rw [if_neg (fun q => by have := q.1; simp at this; omega)]
    (first | refine au ?_ | exact au0 | fail)
    exact ⟨fz_of, sub_of⟩
  | false =>
    rw [if_neg (by simp)]
    by_cases c1 : g.kd = 13 ∨ g.kd = 14
    · by_cases c3 : n < g.its.length
      · have hil : n.toNat < g.its.length := by omega
        have hge2 : (g.its.map itR).getD n.toNat [] = itR g.its[n.toNat] := row_get (f := itR) hil
        rw [if_pos ⟨by simpa using c1, c3⟩, show g.its.getD n.toNat it0 = g.its[n.toNat] from by simp [List.getD, hil]]
        have hnn : ((n.toNat : Nat) : Int) = n := by omega
        rcases c1 with c1 | c1
        · (first | refine au ?_ | exact au0 | fail)
          rw [hge2]
          (first | refine au ?_ | exact au0 | fail)
          exact ⟨fz_of, sub_of⟩
        · (first | refine au ?_ | exact au0 | fail)
          rw [hge2]
          (first | refine au ?_ | exact au0 | fail)
          exact ⟨fz_of, sub_of⟩
      · rw [if_neg (fun q => c3 q.2)]
        rcases c1 with c1 | c1
        · (first | refine au ?_ | exact au0 | fail)
          exact ⟨fz_of, sub_of⟩
        · (first | refine au ?_ | exact au0 | fail)
          exact ⟨fz_of, sub_of⟩
    · rw [if_neg (fun q => c1 (by simpa using q.1))]
      have c4 : ¬ g.kd = 13 := fun q => c1 (.inl q)
      have c5 : ¬ g.kd = 14 := fun q => c1 (.inr q)
      (first | refine au ?_ | exact au0 | fail)
      exact ⟨fz_of, sub_of⟩
end Go.Proofs.Ytodiahhfpcdejaa
