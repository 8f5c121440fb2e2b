/- Texts of this proof, one behind the other: TypItem, TypDeep, RTypSpec, RTypItem, RTypCheck, RTypMore, FitSpec3, PathStep, PathRound, PathFind, TextMath, PathRMath, DigSpec, SimShelf, TokSpec, TokBld, TokTake, TokTake2, TokText, TokNext, TokLex, TokTokens, TokRefMath, TokRef2. -/
import Derived.Test.YtjaigpidmngaaaaGreatPkT4
import Derived.Lib.ItoaNum
import Derived.Lib.Join
import Derived.Below
set_option autoImplicit false
set_option linter.unusedSimpArgs false
set_option linter.unusedVariables false
namespace Go.Proofs.YtjaigpidmngaaaaGreat
attribute [local irreducible] callA callP ACalls
theorem getD_get {α : Type} {l : List α} {i : Nat} {d : α} (h : i < l.length) : l.getD i d = l[i] := by simp [List.getD, h]
theorem parts_item {t : Ty} (h : t.kd = 13 ∨ t.kd = 14) {x : It} (hx : x ∈ t.its) : x.ty ∈ parts t := by
  unfold parts; rw [if_pos h]; simp only [List.mem_append]; exact .inr (List.mem_map_of_mem hx)
theorem item_spec (l : List Ty) (hl : TysOk l) (n : Nat) (t : Ty) (hok : TyOk t) (hn : n ≤ l.length) (hN : kNm t.kd = true) (ho : orderE l t n = 0) (i : Nat) (hi : i < t.its.length) (id : Nat) :
    SW PG types_look_item.n [.ptr id 8 0 0, .int .i64 (i : Nat)] id (kB l n t) [] (.int .i64 (itemE l t i)) (kB l n t) := by
  have hlen : (t.its.map itR).length = t.its.length := by simp
  have hll := hl.len
  have hli := hok.its
  have hge := row_get (f := itR) hi
  have hx := List.getElem_mem hi
  have hsn := hok.nms _ hx
  have hpt := fun h => parts_item (t := t) h hx
  have hmay := fun h13 => may_spec l hl n t hn hN h13 ho t.its[i].num id
  refine ACalls.fz (types_look_item.of rfl (wpF_start ?_))
  unfold itemE
  dsimp only
  rw [getD_get hi]
  generalize t.its[i] = x at *
  (first | refine au ?_ | exact au0)
  rw [hge]
  (first | refine au ?_ | exact au0)
  intro id5 hid5 ht5; have n5 := neAll_of hid5; (try simp only [neAll, neAll_hset] at n5); have m5 := n5; (repeat (obtain ⟨_, m5⟩ := m5))
  (first | refine au ?_ | exact au0)
  first | refine callF_eq (name_Name_spec _ hsn _) ?_ | refine callG_eq rfl (name_Name_spec _ hsn _) ?_
  cases hO : nameOk x.nm
  · (first | refine au ?_ | exact au0)
    exact ⟨fz_of, sub_of⟩
  rw [if_pos rfl]
  (first | refine au ?_ | exact au0)
  have e1 : List.drop (Int.toNat 0) (List.take (Int.toNat (i : Nat)) (t.its.map itR)) = (t.its.take i).map itR := by simp
  have hl2 : (t.its.take i).length = i := by rw [List.length_take]; omega
  have hlen2 : ((t.its.take i).map itR).length = i := by simp; omega
  rw [e1]
  refine loopL [(0, some _), (1, some _), (5, some _), (29, some _), (30, some _)] 31 0 i (none' (fun y => y.nm == x.nm) (t.its.take i)) (by exact cov_of) (Nat.zero_le _) none'_zero (fun j hj hno => ?_)
  (first | refine au ?_ | exact au0)
  refine bsplit_dec (fun c => ?_) (fun c => ?_)
  · have hil : j < (t.its.take i).length := by omega
    have hge2 := row_get (f := itR) hil
    have hany : ((t.its.take i)[j].nm == x.nm) = true → (t.its.take i).any (fun y => y.nm == x.nm) = true := any_hit (p := fun y : It => y.nm == x.nm) hil
    have hnx := none'_succ hno hil
    generalize (t.its.take i)[j] = y at *
    (first | refine au ?_ | exact au0)
    rw [hge2]
    (first | refine au ?_ | exact au0)
    intro id7 hid7 ht7; have n7 := neAll_of hid7; (try simp only [neAll, neAll_hset] at n7); have m7 := n7; (repeat (obtain ⟨_, m7⟩ := m7))
    (first | refine au ?_ | exact au0)
    refine bsplit_dec (fun h => ?_) (fun h => ?_)
    · (first | refine au ?_ | exact au0)
      rw [hany (by simpa using h)]
      exact ⟨fz_of, sub_of⟩
    · (first | refine au ?_ | exact au0)
      refine nextN (by exact cov_of) (by exact sub_of) (by omega) (hnx (by simpa using h))
  rw [none'_end hno (by omega), if_neg Bool.false_ne_true]
  (first | refine au ?_ | exact au0)
  refine bsplit_dec (fun h13 => ?_) (fun h13 => ?_)
  · have hin := orderE_in ho _ (hpt (.inl h13))
    have hge3 := tAt_get (l := l) hin.1 (by omega)
    rw [if_pos h13]
    generalize tAt l x.ty = g at *
    (first | refine au ?_ | exact au0)
    rw [hge3]
    cases hkey : x.key
    all_goals (repeat' (first | (refine au ?_; first | refine callF_eq (prim_Number_spec _ _) ?_ | refine bsplit_dec (fun _ => ?_) (fun _ => ?_) | refine bsplit_intro (fun _ => ?_) (fun _ => ?_)) | exact au0 | fail)); (all_goals try (first | refine au ?_ | fail))
    all_goals (refine ⟨fz_eq (congrArg (AV.int .i64) ?_), sub_of⟩; first | (simp only [isNum, decide_eq_false_iff_not, true_and, Bool.false_eq_true, false_and, if_false]; done) | (simp only [isNum, decide_eq_false_iff_not, true_and, Bool.false_eq_true, false_and, if_false]; split <;> omega))
  · rw [if_neg h13]
    have hm := hmay h13
    cases hr : x.rest
    · (first | refine au ?_ | exact au0)
      refine hm.call (by exact hg_of) (Sub.nil _) ?_
      cases hy : mayT l t x.num
      · (first | refine au ?_ | exact au0)
        exact ⟨fz_of, sub_of⟩
      (first | refine au ?_ | exact au0)
      rw [e1]
      refine loopL [(5, some _), (97, some _), (98, some _)] 99 0 i (none' (fun y => y.num == x.num) (t.its.take i)) (by exact cov_of) (Nat.zero_le _) none'_zero (fun j hj hno => ?_)
      (first | refine au ?_ | exact au0)
      refine bsplit_dec (fun c => ?_) (fun c => ?_)
      · have hil : j < (t.its.take i).length := by omega
        have hge2 := row_get (f := itR) hil
        have hany : ((t.its.take i)[j].num == x.num) = true → (t.its.take i).any (fun y => y.num == x.num) = true := any_hit (p := fun y : It => y.num == x.num) hil
        have hnx := none'_succ hno hil
        generalize (t.its.take i)[j] = y at *
        (first | refine au ?_ | exact au0)
        rw [hge2]
        (first | refine au ?_ | exact au0)
        intro id7 hid7 ht7; have n7 := neAll_of hid7; (try simp only [neAll, neAll_hset] at n7); have m7 := n7; (repeat (obtain ⟨_, m7⟩ := m7))
        (first | refine au ?_ | exact au0)
        refine bsplit_dec (fun h => ?_) (fun h => ?_)
        · (first | refine au ?_ | exact au0)
          rw [hany (by simp; omega)]
          exact ⟨fz_of, sub_of⟩
        · (first | refine au ?_ | exact au0)
          refine nextN (by exact cov_of) (by exact sub_of) (by omega) (hnx (by simp; omega))
      · rw [none'_end hno (by omega)]
        (first | refine au ?_ | exact au0)
        exact ⟨fz_of, sub_of⟩
    · rw [if_pos (rfl : true = true)]
      (first | refine au ?_ | exact au0)
      refine bsplit_dec (fun c => ?_) (fun c => ?_)
      · (first | refine au ?_ | exact au0)
        refine ⟨fz_eq (congrArg (AV.int .i64) ?_), sub_of⟩
        rw [if_neg (by omega)]
      · (first | refine au ?_ | exact au0)
        refine ⟨fz_eq (congrArg (AV.int .i64) ?_), sub_of⟩
        rw [if_pos (by omega)]
theorem items_spec (l : List Ty) (hl : TysOk l) (n : Nat) (t : Ty) (hok : TyOk t) (hn : n ≤ l.length) (ho : orderE l t n = 0) (id : Nat) :
    SW PG types_look_items.n [.ptr id 8 0 0] id (kB l n t) [] (.int .i64 (itemsE l t)) (kB l n t) := by
  have hlen : (t.its.map itR).length = t.its.length := by simp
  have hli := hok.its
  refine ACalls.fz (types_look_items.of rfl (wpF_start ?_))
  unfold itemsE
  (first | refine au ?_ | exact au0)
  first | refine callF_eq (has_spec _ _) ?_ | refine callG_eq rfl (has_spec _ _) ?_
  cases hN : kNm t.kd
  · (first | refine au ?_ | exact au0)
    exact ⟨fz_of, sub_of⟩
  rw [if_pos rfl]
  (first | refine au ?_ | exact au0)
  refine bsplit_dec (fun c => ?_) (fun c => ?_)
  · (first | refine au ?_ | exact au0)
    exact ⟨fz_eq (congrArg (AV.int .i64) (by rw [if_pos (by omega)])), sub_of⟩
  rw [if_neg (by omega)]
  (first | refine au ?_ | exact au0)
  refine bsplit_dec (fun c2 => ?_) (fun c2 => ?_)
  · (first | refine au ?_ | exact au0)
    exact ⟨fz_eq (congrArg (AV.int .i64) (by rw [if_pos (by omega)])), sub_of⟩
  rw [if_neg (by omega)]
  (first | refine au ?_ | exact au0)
  have hgl : ∀ (k : Nat) (h : k < ((List.range t.its.length).map (itemE l t)).length), ((List.range t.its.length).map (itemE l t))[k] = itemE l t k := fun k h => by simp
  have hlm : ((List.range t.its.length).map (itemE l t)).length = t.its.length := by simp
  refine loopL [(0, some _), (40, some _)] 41 0 t.its.length (fun i => ∀ k, k < i → itemE l t k = 0) (by exact cov_of) (Nat.zero_le _) (fun k h => by omega) (fun i hi hno => ?_)
  (first | refine au ?_ | exact au0)
  refine bsplit_dec (fun c3 => ?_) (fun c3 => ?_)
  · have hil : i < t.its.length := by omega
    (first | refine au ?_ | exact au0)
    refine (item_spec l hl n t hok hn hN ho i hil id).call (by exact hg_of) (Sub.nil _) ?_
    (first | refine au ?_ | exact au0)
    refine bsplit_dec (fun h => ?_) (fun h => ?_)
    · (first | refine au ?_ | exact au0)
      rw [fst0_hit (i := i) (fun k hk h3 => by rw [hgl]; exact hno k h3) (by omega) (by rw [hgl]; exact h), hgl]
      exact ⟨fz_of, sub_of⟩
    · (first | refine au ?_ | exact au0)
      refine nextN (by exact cov_of) (by exact sub_of) (by omega) (fun k hk => ?_)
      by_cases e : k = i
      · subst e; exact Classical.not_not.1 h
      · exact hno k (by omega)
  · (first | refine au ?_ | exact au0)
    rw [fst0_end (fun k hk => by rw [hgl]; exact hno k (by omega))]
    exact ⟨fz_of, sub_of⟩
end Go.Proofs.YtjaigpidmngaaaaGreat

namespace Go.Proofs.YtjaigpidmngaaaaGreat
attribute [local irreducible] callA callP ACalls
abbrev naR (n : Nat) : List AV := [.int .i64 (n : Nat)]
def dpF (D : List Nat) (n : Nat) (m : Nat) (p : Int) : Nat := if 0 ≤ p ∧ p < (n : Int) then max m (D.getD p.toNat 0 + 1) else m
theorem dpT_succ (l : List Ty) (n : Nat) : dpT l (n + 1) = dpT l n ++ [(parts (l.getD n ty0)).foldl (dpF (dpT l n) n) 1] := rfl
theorem dpT_len (l : List Ty) : ∀ n, (dpT l n).length = n
  | 0 => rfl
  | n + 1 => by rw [dpT_succ, List.length_append, dpT_len l n]; rfl
theorem foldl_take {α β : Type} (f : β → α → β) (b : β) (l : List α) (i : Nat) (h : i < l.length) : (l.take (i + 1)).foldl f b = f ((l.take i).foldl f b) l[i] := by
  rw [List.take_add_one, List.getElem?_eq_getElem h, List.foldl_append]; rfl
theorem dpF_le {D : List Nat} {n b : Nat} (hD : ∀ x ∈ D, x ≤ b) : ∀ (ps : List Int) (m : Nat), m ≤ b + 1 → ps.foldl (dpF D n) m ≤ b + 1
  | [], m, h => h
  | p :: ps, m, h => by
    refine dpF_le hD ps _ ?_
    unfold dpF
    split
    · have : D.getD p.toNat 0 ≤ b := by
        by_cases hp : p.toNat < D.length
        · rw [getD_get hp]; exact hD _ (List.getElem_mem hp)
        · simp [List.getD, hp]
      omega
    · exact h
theorem dpT_le (l : List Ty) : ∀ n, ∀ x ∈ dpT l n, x ≤ n
  | 0, x, h => by cases h
  | n + 1, x, h => by
    rw [dpT_succ, List.mem_append] at h
    rcases h with h | h
    · have := dpT_le l n x h; omega
    · simp only [List.mem_singleton] at h
      rw [h]
      exact dpF_le (dpT_le l n) _ _ (by omega)
def dpR (D : List Nat) (m k : Nat) : List (List AV) := (D ++ m :: List.replicate k 0).map naR
theorem dpR_set {D : List Nat} {m m' k n : Nat} (h : D.length = n) : (dpR D m k).set n (naR m') = dpR D m' k := by
  unfold dpR
  rw [← List.map_set, List.set_append_right _ _ (by omega)]
  simp [h]
theorem dpR_at {D : List Nat} {m k n : Nat} (h : D.length = n) : (dpR D m k)[n]? = some (naR m) := by
  unfold dpR; rw [List.getElem?_map, List.getElem?_append_right (by omega)]; simp [h]
theorem dpR_lt {D : List Nat} {m k p : Nat} (h : p < D.length) : (dpR D m k)[p]? = some (naR (D.getD p 0)) := by
  unfold dpR; rw [List.getElem?_map, List.getElem?_append_left h]; simp [List.getD, h]
theorem Deep_spec0 (l : List Ty) (hl : TysOk l) (t : Int) : ACalls PG types_Deep.n [tysA l, .int .i64 t] [] fun r _ => r = .int .i64 (deepT l t : Nat) := by
  have hlen : (l.map tyR).length = l.length := by simp
  have hll := hl.len
  refine ACalls.fzK (types_Deep.of rfl (wpF_start ?_))
  unfold deepT
  by_cases hb : 0 ≤ t ∧ t < l.length
  · rw [if_pos hb]
    obtain ⟨n, rfl⟩ : ∃ n : Nat, t = n := ⟨t.toNat, by omega⟩
    rw [show Int.toNat (n : Nat) = n from rfl]
    (first | refine au ?_ | exact au0)
    intro id5 hid5 ht5; have n5 := neAll_of hid5; (try simp only [neAll, neAll_hset] at n5); have m5 := n5; (repeat (obtain ⟨_, m5⟩ := m5))
    (first | refine au ?_ | exact au0)
    rw [show ((n : Int) + 1).toNat = n + 1 from by omega]
    refine loopM (S := Nat) [(0, some _), (1, some _), (5, some _), (21, some _)] (fun i => [(22, some (.int .i64 (i : Nat)))]) (fun i => [(id5, .rows 1 ((dpT l i ++ List.replicate (n + 1 - i) 0).map naR))]) (fun i => n + 1 - i) (fun i => i ≤ n + 1) 0 (by exact cov_of) (by simp only [dpT, List.nil_append, List.map_replicate]; exact Sub.refl _) (by omega) (fun i hi => ?_)
    have hD := dpT_len l i
    have hDle := dpT_le l i
    (first | refine au ?_ | exact au0)
    refine bsplit_dec (fun c => ?_) (fun c => ?_)
    · have hin : i ≤ n := by omega
      have hB : (dpT l i ++ List.replicate (n + 1 - i) 0).map naR = dpR (dpT l i) 0 (n - i) := by
        unfold dpR; rw [show n + 1 - i = (n - i) + 1 from by omega, List.replicate_succ]
      rw [hB]
      have hil : i < l.length := by omega
      have hge := row_get (f := tyR) hil
      have hpe : l.getD i ty0 = l[i] := getD_get hil
      have hti := (hl.all _ (List.getElem_mem hil)).its
      (first | refine au ?_ | exact au0)
      refine ⟨_, _, (by exact hg_of), (by rw [Nat.zero_add, Int.toNat_natCast]; exact dpR_at hD), rfl, rfl, (Nat.le_of_ble_eq_true rfl), hsetN_of (b' := .rows 1 (dpR (dpT l i) 1 (n - i))) (by rw [Nat.zero_add, Int.toNat_natCast]; exact congrArg (Blk.rows 1) (dpR_set (m' := 1) hD)) ?_⟩
      (first | refine au ?_ | exact au0)
      rw [hge]
      have hps := dpT_succ l i
      rw [hpe] at hps
      generalize l[i] = g at *
      have hpl := parts_len g
      have hplm : ((parts g).map inR).length = (parts g).length := by simp
      (first | refine au ?_ | exact au0)
      first | refine callF_eq (parts_spec g hti _) ?_ | refine callG_eq rfl (parts_spec g hti _) ?_
      (first | refine au ?_ | exact au0)
      refine loopM (S := Nat) [(0, some _), (1, some _), (5, some _), (6, some _), (21, some _), (22, some _), (32, some _), (33, some _)] (fun j => [(34, some (.int .i64 (j : Nat)))]) (fun j => [(id5, .rows 1 (dpR (dpT l i) (((parts g).take j).foldl (dpF (dpT l i) i) 1) (n - i)))]) (fun j => (parts g).length - j) (fun j => j ≤ (parts g).length) 0 (by exact cov_of) (Sub.refl _) (by omega) (fun j hj => ?_)
      have hm := dpF_le (n := i) hDle ((parts g).take j) 1 (by omega)
      (first | refine au ?_ | exact au0)
      refine bsplit_dec (fun c2 => ?_) (fun c2 => ?_)
      · have hjl : j < (parts g).length := by omega
        have hge2 := row_get (f := inR) hjl
        have hft := foldl_take (dpF (dpT l i) i) 1 (parts g) j hjl
        generalize (parts g)[j] = p at *
        generalize ((parts g).take j).foldl (dpF (dpT l i) i) 1 = m at *
        (first | refine au ?_ | exact au0)
        rw [hge2]
        (first | refine au ?_ | exact au0)
        rw [show dpF (dpT l i) i m p = if 0 ≤ p ∧ p < (i : Int) then max m ((dpT l i).getD p.toNat 0 + 1) else m from rfl] at hft
        refine bsplit_dec (fun c3 => ?_) (fun c3 => ?_)
        · (first | refine au ?_ | exact au0)
          refine bsplit_dec (fun c4 => ?_) (fun c4 => ?_)
          · rw [if_pos (by omega)] at hft
            (first | refine au ?_ | exact au0)
            refine ⟨_, _, (by exact hg_of), (by rw [Nat.zero_add, Int.toNat_natCast]; exact dpR_at hD), ?_⟩
            (first | refine au ?_ | exact au0)
            have hpl : p.toNat < (dpT l i).length := by omega
            have hpv : (dpT l i).getD p.toNat 0 ≤ i := by rw [getD_get hpl]; exact hDle _ (List.getElem_mem hpl)
            refine ⟨_, _, (by exact hg_of), (by rw [Nat.zero_add]; exact dpR_lt hpl), ?_⟩
            (first | refine au ?_ | exact au0)
            refine ⟨_, _, (by exact hg_of), (by rw [Nat.zero_add, Int.toNat_natCast]; exact dpR_at hD), rfl, rfl, (Nat.le_of_ble_eq_true rfl), hsetN_of (b' := .rows 1 (dpR (dpT l i) (max m ((dpT l i).getD p.toNat 0 + 1)) (n - i))) (by
              rw [Nat.zero_add, Int.toNat_natCast]
              refine Eq.trans (congrArg (fun x : List AV => Blk.rows 1 (List.set (dpR (dpT l i) m (n - i)) i x)) ?_) (congrArg (Blk.rows 1) (dpR_set (m' := max m ((dpT l i).getD p.toNat 0 + 1)) hD))
              show [AV.int .i64 (max (m : Int) (((dpT l i).getD p.toNat 0 : Nat) + 1))] = [AV.int .i64 ((max m ((dpT l i).getD p.toNat 0 + 1) : Nat) : Int)]
              rw [cast_max]; rfl) ?_⟩
            (first | refine au ?_ | exact au0)
            refine nextS (S := Nat) (j + 1) (by exact cov_of) (by (try dsimp only); rw [hft]; exact Sub.refl _) (by first | omega | (dsimp only; omega)) hjl
          · rw [if_neg (by omega)] at hft
            (first | refine au ?_ | exact au0)
            refine nextS (S := Nat) (j + 1) (by exact cov_of) (by (try dsimp only); rw [hft]; exact Sub.refl _) (by first | omega | (dsimp only; omega)) hjl
        · rw [if_neg (by omega)] at hft
          (first | refine au ?_ | exact au0)
          refine nextS (S := Nat) (j + 1) (by exact cov_of) (by (try dsimp only); rw [hft]; exact Sub.refl _) (by first | omega | (dsimp only; omega)) hjl
      · obtain rfl : j = (parts g).length := by omega
        rw [List.take_length]
        (first | refine au ?_ | exact au0)
        refine nextS (S := Nat) (i + 1) (by exact cov_of) (by
          (try dsimp only)
          rw [hps, show n + 1 - (i + 1) = n - i from by omega]
          unfold dpR
          rw [List.append_assoc]
          exact Sub.refl _) (by first | omega | (dsimp only; omega)) (by omega)
    · obtain rfl : i = n + 1 := by omega
      (first | refine au ?_ | exact au0)
      have hnl : n < (dpT l (n + 1)).length := by omega
      refine ⟨_, naR ((dpT l (n + 1)).getD n 0), (by exact hg_of), (by rw [Nat.zero_add, Int.toNat_natCast, List.getElem?_map, List.getElem?_append_left hnl, List.getElem?_eq_getElem hnl, getD_get hnl]; rfl), ?_⟩
      (first | refine au ?_ | exact au0)
      exact fz_of
  · rw [if_neg hb]
    (repeat' (first | (refine au ?_; first | refine bsplit_dec (fun _ => ?_) (fun _ => ?_) | refine bsplit_intro (fun _ => ?_) (fun _ => ?_)) | exact au0 | fail)); (all_goals try (first | refine au ?_ | fail))
    all_goals first | omega | exact fz_of
theorem Deep_tspec (l : List Ty) (hl : TysOk l) (t : Int) (H : AH) : ACalls PG types_Deep.n [tysA l, .int .i64 t] H fun r H' => r = .int .i64 (deepT l t : Nat) ∧ H' = H := (Deep_spec0 l hl t).frame H
theorem deep_spec (l : List Ty) (hl : TysOk l) (n : Nat) (t : Ty) (id : Nat) : SW PG types_look_deep.n [.ptr id 8 0 0] id (kB l n t) [] (.int .i64 (deepE l n)) (kB l n t) := by
  refine ACalls.fz (types_look_deep.of rfl (wpF_start ?_))
  unfold deepE
  (first | refine au ?_ | exact au0)
  first | refine callF_eq (Deep_tspec l hl _ _) ?_ | refine callG_eq rfl (Deep_tspec l hl _ _) ?_
  (first | refine au ?_ | exact au0)
  refine bsplit_dec (fun c => ?_) (fun c => ?_)
  · (first | refine au ?_ | exact au0)
    exact ⟨fz_eq (congrArg (AV.int .i64) (by rw [if_pos (by omega)])), sub_of⟩
  · (first | refine au ?_ | exact au0)
    exact ⟨fz_eq (congrArg (AV.int .i64) (by rw [if_neg (by omega)])), sub_of⟩
theorem Check_spec0 (l : List Ty) (hl : TysOk l) : ACalls PG types_Check.n [tysA l] [] fun r _ => r = .agg [.int .i64 (tyChk l).1, .int .i64 (tyChk l).2] := by
  have hlen : (l.map tyR).length = l.length := by simp
  have hll := hl.len
  refine ACalls.fzK (types_Check.of rfl (wpF_start ?_))
  unfold tyChk
  (first | refine au ?_ | exact au0)
  intro id2 hid2 ht2; have n2 := neAll_of hid2; (try simp only [neAll, neAll_hset] at n2); have m2 := n2; (repeat (obtain ⟨_, m2⟩ := m2))
  (first | refine au ?_ | exact au0)
  refine bsplit_dec (fun c => ?_) (fun c => ?_)
  · rw [if_pos (by omega)]
    (first | refine au ?_ | exact au0)
    exact fz_of
  rw [if_neg (by omega)]
  (first | refine au ?_ | exact au0)
  have hr : (List.range l.length).length = l.length := List.length_range
  refine loopL [(0, some _), (2, some _), (13, some _), (14, some _)] 15 0 l.length (none' (fun i => decide (tyErr l i ≠ 0)) (List.range l.length)) (by exact cov_of) (Nat.zero_le _) none'_zero (fun i hi hno => ?_)
  (first | refine au ?_ | exact au0)
  refine bsplit_dec (fun c2 => ?_) (fun c2 => ?_)
  · have hil : i < l.length := by omega
    have hge := row_get (f := tyR) hil
    have hto := hl.all _ (List.getElem_mem hil)
    have hte : tyErr l i = fst0 [formE l[i], namedE l l[i] i, boundE l[i], orderE l l[i] i, itemsE l l[i], deepE l i] := by unfold tyErr; rw [getD_get hil]
    have hhit : tyErr l i ≠ 0 → (List.range l.length).findIdx? (fun i => decide (tyErr l i ≠ 0)) = some i := fun q => find_hit hno (by omega) (by simpa using q)
    have hnx : tyErr l i = 0 → _ := fun q => none'_succ hno (by omega) (by simpa using q)
    have h0 := form_spec l i l[i] hto
    have h1 := named_spec l i l[i] hto hl hi
    have h2 := bound_spec l i l[i]
    have h3 := order_spec l i l[i] hto hl hil
    have h4 := items_spec l hl i l[i] hto hi
    have h5 := deep_spec l hl i l[i]
    generalize l[i] = g at *
    (first | refine au ?_ | exact au0)
    rw [hge]
    (first | refine au ?_ | exact au0)
    intro id4 hid4 ht4; have n4 := neAll_of hid4; (try simp only [neAll, neAll_hset] at n4); have m4 := n4; (repeat (obtain ⟨_, m4⟩ := m4))
    (first | refine au ?_ | exact au0)
    intro id24 hid24 ht24; have n24 := neAll_of hid24; (try simp only [neAll, neAll_hset] at n24); have m24 := n24; (repeat (obtain ⟨_, m24⟩ := m24))
    (first | refine au ?_ | exact au0)
    refine loopL [(0, some _), (2, some _), (3, some _), (13, some _), (14, some _), (15, some _), (37, some _), (38, some _)] 39 0 6 (fun j => (0 < j → formE g = 0) ∧ (1 < j → namedE l g i = 0) ∧ (2 < j → boundE g = 0) ∧ (3 < j → orderE l g i = 0) ∧ (4 < j → itemsE l g = 0) ∧ (5 < j → deepE l i = 0)) (by exact cov_of) (Nat.zero_le _) (by omega) (fun j hj hz => ?_)
    obtain ⟨z0, z1, z2, z3, z4, z5⟩ := hz
    (first | refine au ?_ | exact au0)
    refine bsplit_dec (fun c3 => ?_) (fun c3 => ?_)
    · have hj6 : j < 6 := by
        have : (j : Int) < 6 := by simpa using c3
        omega
      have hjj : j = 0 ∨ j = 1 ∨ j = 2 ∨ j = 3 ∨ j = 4 ∨ j = 5 := by omega
      rcases hjj with rfl | rfl | rfl | rfl | rfl | rfl
      · (first | refine au ?_ | exact au0)
        refine (h0 id24).call (by exact hg_of) (Sub.nil _) ?_
        (first | refine au ?_ | exact au0)
        refine bsplit_dec (fun hz => ?_) (fun hz => ?_)
        · (first | refine au ?_ | exact au0)
          have ht : tyErr l i = formE g := by rw [hte]; simp only [fst0]; simp only [ ne_eq, not_true_eq_false, if_false, hz, not_false_eq_true, if_true]
          rw [hhit (by rw [ht]; exact hz)]
          dsimp only
          rw [ht]
          exact fz_of
        · have hz := Classical.not_not.1 hz
          (first | refine au ?_ | exact au0)
          refine nextN (by exact cov_of) (by exact sub_of) (by omega) ⟨?_, ?_, ?_, ?_, ?_, ?_⟩ <;> intro q <;> first | exact hz | omega | exact z0 (by omega) | exact z1 (by omega) | exact z2 (by omega) | exact z3 (by omega) | exact z4 (by omega)
      · (first | refine au ?_ | exact au0)
        refine (h1 id24).call (by exact hg_of) (Sub.nil _) ?_
        (first | refine au ?_ | exact au0)
        refine bsplit_dec (fun hz => ?_) (fun hz => ?_)
        · (first | refine au ?_ | exact au0)
          have ht : tyErr l i = namedE l g i := by rw [hte]; simp only [fst0]; simp only [z0 (by omega), ne_eq, not_true_eq_false, if_false, hz, not_false_eq_true, if_true]
          rw [hhit (by rw [ht]; exact hz)]
          dsimp only
          rw [ht]
          exact fz_of
        · have hz := Classical.not_not.1 hz
          (first | refine au ?_ | exact au0)
          refine nextN (by exact cov_of) (by exact sub_of) (by omega) ⟨?_, ?_, ?_, ?_, ?_, ?_⟩ <;> intro q <;> first | exact hz | omega | exact z0 (by omega) | exact z1 (by omega) | exact z2 (by omega) | exact z3 (by omega) | exact z4 (by omega)
      · (first | refine au ?_ | exact au0)
        refine (h2 id24).call (by exact hg_of) (Sub.nil _) ?_
        (first | refine au ?_ | exact au0)
        refine bsplit_dec (fun hz => ?_) (fun hz => ?_)
        · (first | refine au ?_ | exact au0)
          have ht : tyErr l i = boundE g := by rw [hte]; simp only [fst0]; simp only [z0 (by omega), z1 (by omega), ne_eq, not_true_eq_false, if_false, hz, not_false_eq_true, if_true]
          rw [hhit (by rw [ht]; exact hz)]
          dsimp only
          rw [ht]
          exact fz_of
        · have hz := Classical.not_not.1 hz
          (first | refine au ?_ | exact au0)
          refine nextN (by exact cov_of) (by exact sub_of) (by omega) ⟨?_, ?_, ?_, ?_, ?_, ?_⟩ <;> intro q <;> first | exact hz | omega | exact z0 (by omega) | exact z1 (by omega) | exact z2 (by omega) | exact z3 (by omega) | exact z4 (by omega)
      · (first | refine au ?_ | exact au0)
        refine (h3 id24).call (by exact hg_of) (Sub.nil _) ?_
        (first | refine au ?_ | exact au0)
        refine bsplit_dec (fun hz => ?_) (fun hz => ?_)
        · (first | refine au ?_ | exact au0)
          have ht : tyErr l i = orderE l g i := by rw [hte]; simp only [fst0]; simp only [z0 (by omega), z1 (by omega), z2 (by omega), ne_eq, not_true_eq_false, if_false, hz, not_false_eq_true, if_true]
          rw [hhit (by rw [ht]; exact hz)]
          dsimp only
          rw [ht]
          exact fz_of
        · have hz := Classical.not_not.1 hz
          (first | refine au ?_ | exact au0)
          refine nextN (by exact cov_of) (by exact sub_of) (by omega) ⟨?_, ?_, ?_, ?_, ?_, ?_⟩ <;> intro q <;> first | exact hz | omega | exact z0 (by omega) | exact z1 (by omega) | exact z2 (by omega) | exact z3 (by omega) | exact z4 (by omega)
      · (first | refine au ?_ | exact au0)
        refine ((h4 (z3 (by omega))) id24).call (by exact hg_of) (Sub.nil _) ?_
        (first | refine au ?_ | exact au0)
        refine bsplit_dec (fun hz => ?_) (fun hz => ?_)
        · (first | refine au ?_ | exact au0)
          have ht : tyErr l i = itemsE l g := by rw [hte]; simp only [fst0]; simp only [z0 (by omega), z1 (by omega), z2 (by omega), z3 (by omega), ne_eq, not_true_eq_false, if_false, hz, not_false_eq_true, if_true]
          rw [hhit (by rw [ht]; exact hz)]
          dsimp only
          rw [ht]
          exact fz_of
        · have hz := Classical.not_not.1 hz
          (first | refine au ?_ | exact au0)
          refine nextN (by exact cov_of) (by exact sub_of) (by omega) ⟨?_, ?_, ?_, ?_, ?_, ?_⟩ <;> intro q <;> first | exact hz | omega | exact z0 (by omega) | exact z1 (by omega) | exact z2 (by omega) | exact z3 (by omega) | exact z4 (by omega)
      · (first | refine au ?_ | exact au0)
        refine (h5 id24).call (by exact hg_of) (Sub.nil _) ?_
        (first | refine au ?_ | exact au0)
        refine bsplit_dec (fun hz => ?_) (fun hz => ?_)
        · (first | refine au ?_ | exact au0)
          have ht : tyErr l i = deepE l i := by rw [hte]; simp only [fst0]; simp only [z0 (by omega), z1 (by omega), z2 (by omega), z3 (by omega), z4 (by omega), ne_eq, not_true_eq_false, if_false, hz, not_false_eq_true, if_true]
          rw [hhit (by rw [ht]; exact hz)]
          dsimp only
          rw [ht]
          exact fz_of
        · have hz := Classical.not_not.1 hz
          (first | refine au ?_ | exact au0)
          refine nextN (by exact cov_of) (by exact sub_of) (by omega) ⟨?_, ?_, ?_, ?_, ?_, ?_⟩ <;> intro q <;> first | exact hz | omega | exact z0 (by omega) | exact z1 (by omega) | exact z2 (by omega) | exact z3 (by omega) | exact z4 (by omega)
    · have hj6 : j = 6 := by
        have : ¬ (j : Int) < 6 := by simpa using c3
        omega
      subst hj6
      (first | refine au ?_ | exact au0)
      refine nextN (by exact cov_of) (by exact sub_of) (by omega) (hnx ?_)
      rw [hte]
      simp only [fst0, z0 (by omega), z1 (by omega), z2 (by omega), z3 (by omega), z4 (by omega), z5 (by omega), ne_eq, not_true_eq_false, if_false]
  · (first | refine au ?_ | exact au0)
    rw [find_none hno (by omega)]
    exact fz_of
end Go.Proofs.YtjaigpidmngaaaaGreat

namespace Go.Proofs.YtjaigpidmngaaaaGreat
attribute [local irreducible] callA callP ACalls
theorem r6_named_spec (k : Int) (H : AH) : ACalls PG broadsheetref06_named.n [.int .i64 k] H fun r H' => r = .bool (kNm k) ∧ H' = H := by
  refine ACalls.fz (broadsheetref06_named.of rfl (wpF_start ?_))
  unfold kNm
  (repeat' (first | (refine au ?_; first | refine bsplit_dec (fun _ => ?_) (fun _ => ?_) | refine bsplit_intro (fun _ => ?_) (fun _ => ?_)) | exact au0 | fail)); (all_goals try (first | refine au ?_ | fail))
  all_goals exact ⟨fz_eq (congrArg AV.bool (by first | exact (decide_eq_true (by omega)).symm | exact (decide_eq_false (by omega)).symm | exact decide_eq_decide.2 (by omega) | rfl)), sub_of⟩
theorem r6_Parts_spec0 (t : Ty) (ht : t.its.length ≤ 4000000000000) : ACalls PG broadsheetref06_Parts.n [.agg (tyR t)] [] fun r _ => r = .rows 1 ((parts t).map inR) := by
  refine ACalls.fzK (broadsheetref06_Parts.of rfl (wpF_start ?_))
  have hlen : (t.its.map itR).length = t.its.length := by simp
  (first | refine au ?_ | exact au0)
  intro id1 hid1 ht1; have n1 := neAll_of hid1; (try simp only [neAll, neAll_hset] at n1); have m1 := n1; (repeat (obtain ⟨_, m1⟩ := m1))
  (first | refine au ?_ | exact au0)
  rcases rng4 t.kd with ⟨h1, h2, h3, h4⟩ | ⟨h1, h2, h3⟩ | ⟨h1, h2, h3⟩ | ⟨h1, h2, h3, h4⟩
  · have h11 : t.kd = 11 ∨ t.kd = 12 := by simpa [kEl] using h1
    rw [parts_el h1 h2 h3 h4]
    rcases h11 with h11 | h11
    all_goals (first | refine au ?_ | exact au0)
    all_goals refine ⟨_, rfl, (Nat.le_of_ble_eq_true rfl), (fun q => by cases q), fun _ => ?_⟩
    all_goals intro id2 hid2 ht2; have n2 := neAll_of hid2; (try simp only [neAll, neAll_hset] at n2); have m2 := n2; (repeat (obtain ⟨_, m2⟩ := m2))
    all_goals (first | refine au ?_ | exact au0)
    all_goals refine loopL [(1, some _), (3, some _)] 4 0 0 (fun _ => True) (by exact cov_of) (Nat.zero_le _) trivial (fun i hi _ => ?_)
    all_goals obtain rfl : i = 0 := by omega
    all_goals (first | refine au ?_ | exact au0)
    all_goals try refine bsplit_dec (fun c => ?_) (fun c => ?_)
    all_goals (first | refine au ?_ | exact au0)
    all_goals exact Fz.ownL hget_self rfl (FzR.refl _ _ _) (map_w (f := inR) (fun _ => rfl) _)
  · rw [parts_tg h1 h2 h3]
    (first | refine au ?_ | exact au0)
    refine ⟨_, rfl, (Nat.le_of_ble_eq_true rfl), (fun q => by cases q), fun _ => ?_⟩
    intro id2 hid2 ht2; have n2 := neAll_of hid2; (try simp only [neAll, neAll_hset] at n2); have m2 := n2; (repeat (obtain ⟨_, m2⟩ := m2))
    (first | refine au ?_ | exact au0)
    obtain ⟨pre, hpre⟩ : ∃ pre : List Int, pre = [t.tg] := ⟨_, rfl⟩
    have hpl : pre.length = 1 := by rw [hpre]; rfl
    refine loopM (S := Nat × Option Nat) [(1, some _)] (fun s => [(3, some (accV s.2 1 (pre.length + s.1))), (4, some (.int .i64 (s.1 : Nat)))]) (fun s => accH s.2 1 (pre.map inR ++ ((t.its.take s.1).map fun x => inR x.ty)) [(id1, .rows 6 [tyR t])]) (fun s => t.its.length - s.1) (fun s => s.1 ≤ t.its.length ∧ (s.2 = none → pre.length + s.1 = 0) ∧ ∀ id, s.2 = some id → tag id = ty_int ∧ id ≠ id1) (0, some id2) (by exact cov_of) (by subst hpre; exact sub_of) ⟨Nat.zero_le _, by simp, fun id q => by cases q; exact ⟨ht2, by omega⟩⟩ (fun ⟨i, o⟩ hs => ?_)
    dsimp only at hs
    rcases hs with ⟨hi, ho1, ho2⟩
    have hge : ∀ h : i < t.its.length, (t.its.map itR).getD (Int.toNat (i : Nat)) [] = itR t.its[i] := fun h => row_get h
    have htk : ∀ h : i < t.its.length, ((t.its.take (i + 1)).map fun x => inR x.ty) = ((t.its.take i).map fun x => inR x.ty) ++ [inR t.its[i].ty] := fun h => take_map_succ _ _ _ h
    have htl : (t.its.take i).length = i := by rw [List.length_take]; omega
    rcases o with _ | ida
    · (first | refine au ?_ | exact au0)
      refine bsplit_dec (fun c => ?_) (fun c => ?_)
      · have hil : i < t.its.length := by omega
        replace hge := hge hil
        replace htk := htk hil
        generalize t.its[i] = x at *
        (first | refine au ?_ | exact au0)
        rw [hge]
        (first | refine au ?_ | exact au0)
        refine ⟨_, rfl, (Nat.le_of_ble_eq_true rfl), (fun q => by cases q), fun _ => ?_⟩
        intro id47 hid47 ht47; have n47 := neAll_of hid47; (try simp only [neAll, neAll_hset] at n47); have m47 := n47; (repeat (obtain ⟨_, m47⟩ := m47))
        (first | refine au ?_ | exact au0)
        have hp := ho1 rfl
        refine nextS (S := Nat × Option Nat) (i + 1, some id47) (by exact cov_of) ?_ (by dsimp only; omega) ⟨hil, by simp, fun j q => ?_⟩
        · dsimp only [accH]
          rw [htk, show pre = [] from List.eq_nil_of_length_eq_zero (by omega), show i = 0 from by omega]
          exact sub_of
        · simp only [Option.some.injEq] at q
          subst q
          exact ⟨ht47, by omega⟩
      · (first | refine au ?_ | exact au0)
        obtain rfl : i = t.its.length := by omega
        have hp := ho1 rfl
        rw [hpre] at hp ⊢
        rw [List.eq_nil_of_length_eq_zero (show t.its.length = 0 by omega)]
        first | exact Fz.nil _ | (simp at hp)
    · obtain ⟨hti, hdi⟩ := ho2 ida rfl
      dsimp only [accH, accV]
      (first | refine au ?_ | exact au0)
      refine bsplit_dec (fun c => ?_) (fun c => ?_)
      · have hil : i < t.its.length := by omega
        replace hge := hge hil
        replace htk := htk hil
        generalize t.its[i] = x at *
        (first | refine au ?_ | exact au0)
        rw [hge]
        (first | refine au ?_ | exact au0)
        refine ⟨_, _, readS_all (by exact hg_of) (by ((try dsimp only); (try simp only [List.length_append, List.length_map, List.length_cons, List.length_nil, List.length_take, List.length_set, List.length_replicate]); (try dsimp only); first | done | omega)), rfl, rfl, rfl, (hti), (by ((try dsimp only); (try simp only [List.length_append, List.length_map, List.length_cons, List.length_nil, List.length_take, List.length_set, List.length_replicate]); (try dsimp only); first | done | omega)), ?_⟩
        intro id47 hid47 ht47; have n47 := neAll_of hid47; (try simp only [neAll, neAll_hset] at n47); have m47 := n47; (repeat (obtain ⟨_, m47⟩ := m47))
        (first | refine au ?_ | exact au0)
        refine nextS (S := Nat × Option Nat) (i + 1, some id47) (by exact cov_of) ?_ (by dsimp only; omega) ⟨hil, by simp, fun j q => ?_⟩
        · dsimp only [accH]
          rw [htk, ← List.append_assoc]
          exact sub_of
        · simp only [Option.some.injEq] at q
          subst q
          exact ⟨ht47, by omega⟩
      · (first | refine au ?_ | exact au0)
        obtain rfl : i = t.its.length := by omega
        rw [List.take_length]
        refine accFz (o := some ida) (n := pre.length + t.its.length) (l := pre.map inR ++ t.its.map fun x => inR x.ty) (H := [(id1, .rows 6 [tyR t])]) (by ((try dsimp only); (try simp only [List.length_append, List.length_map, List.length_cons, List.length_nil, List.length_take, List.length_set, List.length_replicate]); (try dsimp only); first | done | omega)) (fun q => by cases q) (fun _ _ => rfl) ?_ (map_w (f := inR) (fun _ => rfl) _)
        rw [hpre]
        simp only [List.map_cons, List.map_nil, List.map_map, List.cons_append, List.nil_append]
        exact FzR.refl _ _ _
  · rw [parts_st h1 h2 h3]
    (first | refine au ?_ | exact au0)
    obtain ⟨pre, hpre⟩ : ∃ pre : List Int, pre = [] := ⟨_, rfl⟩
    have hpl : pre.length = 0 := by rw [hpre]; rfl
    refine loopM (S := Nat × Option Nat) [(1, some _)] (fun s => [(3, some (accV s.2 1 (pre.length + s.1))), (4, some (.int .i64 (s.1 : Nat)))]) (fun s => accH s.2 1 (pre.map inR ++ ((t.its.take s.1).map fun x => inR x.ty)) [(id1, .rows 6 [tyR t])]) (fun s => t.its.length - s.1) (fun s => s.1 ≤ t.its.length ∧ (s.2 = none → pre.length + s.1 = 0) ∧ ∀ id, s.2 = some id → tag id = ty_int ∧ id ≠ id1) (0, none) (by exact cov_of) (by subst hpre; exact sub_of) ⟨Nat.zero_le _, by simp [hpl], fun id q => by cases q⟩ (fun ⟨i, o⟩ hs => ?_)
    dsimp only at hs
    rcases hs with ⟨hi, ho1, ho2⟩
    have hge : ∀ h : i < t.its.length, (t.its.map itR).getD (Int.toNat (i : Nat)) [] = itR t.its[i] := fun h => row_get h
    have htk : ∀ h : i < t.its.length, ((t.its.take (i + 1)).map fun x => inR x.ty) = ((t.its.take i).map fun x => inR x.ty) ++ [inR t.its[i].ty] := fun h => take_map_succ _ _ _ h
    have htl : (t.its.take i).length = i := by rw [List.length_take]; omega
    rcases o with _ | ida
    · (first | refine au ?_ | exact au0)
      refine bsplit_dec (fun c => ?_) (fun c => ?_)
      · have hil : i < t.its.length := by omega
        replace hge := hge hil
        replace htk := htk hil
        generalize t.its[i] = x at *
        (first | refine au ?_ | exact au0)
        rw [hge]
        (first | refine au ?_ | exact au0)
        refine ⟨_, rfl, (Nat.le_of_ble_eq_true rfl), (fun q => by cases q), fun _ => ?_⟩
        intro id47 hid47 ht47; have n47 := neAll_of hid47; (try simp only [neAll, neAll_hset] at n47); have m47 := n47; (repeat (obtain ⟨_, m47⟩ := m47))
        (first | refine au ?_ | exact au0)
        have hp := ho1 rfl
        refine nextS (S := Nat × Option Nat) (i + 1, some id47) (by exact cov_of) ?_ (by dsimp only; omega) ⟨hil, by simp, fun j q => ?_⟩
        · dsimp only [accH]
          rw [htk, show pre = [] from List.eq_nil_of_length_eq_zero (by omega), show i = 0 from by omega]
          exact sub_of
        · simp only [Option.some.injEq] at q
          subst q
          exact ⟨ht47, by omega⟩
      · (first | refine au ?_ | exact au0)
        obtain rfl : i = t.its.length := by omega
        have hp := ho1 rfl
        rw [hpre] at hp ⊢
        rw [List.eq_nil_of_length_eq_zero (show t.its.length = 0 by omega)]
        first | exact Fz.nil _ | (simp at hp)
    · obtain ⟨hti, hdi⟩ := ho2 ida rfl
      dsimp only [accH, accV]
      (first | refine au ?_ | exact au0)
      refine bsplit_dec (fun c => ?_) (fun c => ?_)
      · have hil : i < t.its.length := by omega
        replace hge := hge hil
        replace htk := htk hil
        generalize t.its[i] = x at *
        (first | refine au ?_ | exact au0)
        rw [hge]
        (first | refine au ?_ | exact au0)
        refine ⟨_, _, readS_all (by exact hg_of) (by ((try dsimp only); (try simp only [List.length_append, List.length_map, List.length_cons, List.length_nil, List.length_take, List.length_set, List.length_replicate]); (try dsimp only); first | done | omega)), rfl, rfl, rfl, (hti), (by ((try dsimp only); (try simp only [List.length_append, List.length_map, List.length_cons, List.length_nil, List.length_take, List.length_set, List.length_replicate]); (try dsimp only); first | done | omega)), ?_⟩
        intro id47 hid47 ht47; have n47 := neAll_of hid47; (try simp only [neAll, neAll_hset] at n47); have m47 := n47; (repeat (obtain ⟨_, m47⟩ := m47))
        (first | refine au ?_ | exact au0)
        refine nextS (S := Nat × Option Nat) (i + 1, some id47) (by exact cov_of) ?_ (by dsimp only; omega) ⟨hil, by simp, fun j q => ?_⟩
        · dsimp only [accH]
          rw [htk, ← List.append_assoc]
          exact sub_of
        · simp only [Option.some.injEq] at q
          subst q
          exact ⟨ht47, by omega⟩
      · (first | refine au ?_ | exact au0)
        obtain rfl : i = t.its.length := by omega
        rw [List.take_length]
        refine accFz (o := some ida) (n := pre.length + t.its.length) (l := pre.map inR ++ t.its.map fun x => inR x.ty) (H := [(id1, .rows 6 [tyR t])]) (by ((try dsimp only); (try simp only [List.length_append, List.length_map, List.length_cons, List.length_nil, List.length_take, List.length_set, List.length_replicate]); (try dsimp only); first | done | omega)) (fun q => by cases q) (fun _ _ => rfl) ?_ (map_w (f := inR) (fun _ => rfl) _)
        rw [hpre]
        simp only [List.map_cons, List.map_nil, List.map_map, List.cons_append, List.nil_append]
        exact FzR.refl _ _ _
  · have h11 : t.kd ≠ 11 ∧ t.kd ≠ 12 := by simpa [kEl] using h1
    rw [parts_no h1 h2 h3 h4]
    (first | refine au ?_ | exact au0)
    refine loopL [(1, some _), (3, some _)] 4 0 0 (fun _ => True) (by exact cov_of) (Nat.zero_le _) trivial (fun i hi _ => ?_)
    obtain rfl : i = 0 := by omega
    (repeat' (first | (refine au ?_; first | refine bsplit_dec (fun _ => ?_) (fun _ => ?_) | refine bsplit_intro (fun _ => ?_) (fun _ => ?_)) | exact au0 | fail)); (all_goals try (first | refine au ?_ | fail))
    all_goals first | omega | exact Fz.nil _
theorem r6_Parts_spec (t : Ty) (ht : t.its.length ≤ 4000000000000) (H : AH) : ACalls PG broadsheetref06_Parts.n [.agg (tyR t)] H fun r H' => r = .rows 1 ((parts t).map inR) ∧ H' = H := (r6_Parts_spec0 t ht).frame H
theorem r6_more_spec (t : Ty) (hok : TyOk t) (H : AH) : ACalls PG broadsheetref06_more.n [.agg (tyR t)] H fun r H' => r = .bool (tyMore t || t.its.any (itMore t.kd)) ∧ H' = H := by
  have hlen : (t.its.map itR).length = t.its.length := by simp
  have hli := hok.its
  have h0 : (0 : Int) < (t.its.map itR).length ↔ t.its ≠ [] := by rw [hlen]; cases t.its <;> simp
  refine ACalls.fz (broadsheetref06_more.of rfl (wpF_start ?_))
  (first | refine au ?_ | exact au0)
  intro id1 hid1 ht1; have n1 := neAll_of hid1; (try simp only [neAll, neAll_hset] at n1); have m1 := n1; (repeat (obtain ⟨_, m1⟩ := m1))
  (first | refine ab ?_ | exact ab0)
  have hnm := fun H => r6_named_spec t.kd H
  refine joinP [(1, some (.ptr id1 6 0 0))] ((id1, .rows 6 [tyR t]) :: H) (¬ (kNm t.kd = false ∧ (t.nm ≠ [] ∨ t.its ≠ []))) ?_ (fun p1 => ?_)
  · cases hN : kNm t.kd
    all_goals rw [hN] at hnm
    all_goals (repeat' (first | (refine au ?_; first | refine callF_eq (hnm _) ?_ | refine bsplit_dec (fun _ => ?_) (fun _ => ?_) | refine bsplit_intro (fun _ => ?_) (fun _ => ?_)) | exact au0 | fail)); (all_goals try (first | refine au ?_ | fail))
    all_goals first
      | (refine metP (by exact cov_of) sub_of (by simp_all))
      | (rw [show tyMore t = true from decide_eq_true (.inl ⟨hN, by simp_all⟩)]; exact ⟨fz_of, sub_of⟩)
  (first | refine ab ?_ | exact ab0)
  refine joinP [(1, some (.ptr id1 6 0 0))] ((id1, .rows 6 [tyR t]) :: H) (¬ ((kBd t.kd = false ∧ t.bd ≠ 0) ∨ (kEl t.kd = false ∧ t.el ≠ 0) ∨ (kTg t.kd = false ∧ t.tg ≠ 0))) ?_ (fun p2 => ?_)
  · have eM : ((kBd t.kd = false ∧ t.bd ≠ 0) ∨ (kEl t.kd = false ∧ t.el ≠ 0) ∨ (kTg t.kd = false ∧ t.tg ≠ 0)) → tyMore t = true := fun q => decide_eq_true (.inr q)
    simp only [kBd, kEl, kTg, decide_eq_false_iff_not] at eM ⊢
    (repeat' (first | (refine au ?_; first | refine bsplit_dec (fun _ => ?_) (fun _ => ?_) | refine bsplit_intro (fun _ => ?_) (fun _ => ?_)) | exact au0 | fail)); (all_goals try (first | refine au ?_ | fail))
    all_goals first
      | (refine metP (by exact cov_of) sub_of (by omega))
      | (rw [eM (by omega)]; exact ⟨fz_of, sub_of⟩)
  have hm : tyMore t = false := decide_eq_false fun q => q.elim p1 p2
  rw [hm, Bool.false_or]
  (first | refine au ?_ | exact au0)
  refine loopL [(1, some _)] 3 0 t.its.length (none' (itMore t.kd) t.its) (by exact cov_of) (Nat.zero_le _) none'_zero (fun i hi hn => ?_)
  (first | refine au ?_ | exact au0)
  refine bsplit_dec (fun c => ?_) (fun c => ?_)
  · have hil : i < t.its.length := by omega
    have hge := row_get (f := itR) hil
    have hany : itMore t.kd t.its[i] = true → t.its.any (itMore t.kd) = true := any_hit hil
    have hnx := none'_succ hn hil
    generalize t.its[i] = x at *
    (first | refine au ?_ | exact au0)
    rw [hge]
    (first | refine au ?_ | exact au0)
    intro id9 hid9 ht9; have n9 := neAll_of hid9; (try simp only [neAll, neAll_hset] at n9); have m9 := n9; (repeat (obtain ⟨_, m9⟩ := m9))
    (repeat' (first | (refine au ?_; first | refine bsplit_dec (fun _ => ?_) (fun _ => ?_) | refine bsplit_intro (fun _ => ?_) (fun _ => ?_)) | exact au0 | fail)); (all_goals try (first | refine au ?_ | fail))
    all_goals first
      | (rw [hany (by unfold itMore; apply decide_eq_true; simp_all)]; exact ⟨fz_of, sub_of⟩)
      | (refine nextN (by exact cov_of) (by exact sub_of) (by omega) (hnx (by unfold itMore; apply decide_eq_false; simp_all)))
  · rw [none'_end hn (by omega)]
    (first | refine au ?_ | exact au0)
    exact ⟨fz_of, sub_of⟩
end Go.Proofs.YtjaigpidmngaaaaGreat

namespace Go.Proofs.YtjaigpidmngaaaaGreat
attribute [local irreducible] callA callP ACalls
abbrev ixN : Option Nat → AV
  | some n => .int .i64 (n : Nat)
  | none => .int .i64 (-1)
theorem r6_Value_spec (l : List Ty) (hl : TysOk l) (t : Int) (n : Nat) (H : AH) : ACalls PG broadsheetref06_Value.n [tysA l, .int .i64 t, .int .u64 (n : Nat)] H fun r H' => r = ixN (valIx l t n) ∧ H' = H := by
  have hlen : (l.map tyR).length = l.length := by simp
  have hll := hl.len
  refine ACalls.fz (broadsheetref06_Value.of rfl (wpF_start ?_))
  unfold valIx
  by_cases hb : 0 ≤ t ∧ t < l.length
  · have hge := tAt_get hb.1 hb.2
    have hti := (hl.all _ (tAt_mem hb.1 hb.2)).its
    generalize tAt l t = g at *
    have hlen2 : (g.its.map itR).length = g.its.length := by simp
    (first | refine au ?_ | exact au0)
    rw [hge]
    (first | refine au ?_ | exact au0)
    refine bsplit_dec (fun c => ?_) (fun c => ?_)
    · rw [if_neg (fun q => c q.2.2)]
      (first | refine au ?_ | exact au0)
      exact ⟨fz_of, sub_of⟩
    rw [if_pos ⟨hb.1, hb.2, Classical.not_not.1 c⟩]
    (first | refine au ?_ | exact au0)
    refine loopL [(0, some _), (1, some _), (2, some _)] 7 0 g.its.length (none' (fun x => x.num == n) g.its) (by exact cov_of) (Nat.zero_le _) none'_zero (fun i hi hno => ?_)
    (first | refine au ?_ | exact au0)
    rw [hge]
    (first | refine au ?_ | exact au0)
    refine bsplit_dec (fun c => ?_) (fun c => ?_)
    · have hil : i < g.its.length := by omega
      have hge2 := row_get (f := itR) hil
      have hhit : (g.its[i].num == n) = true → g.its.findIdx? (fun x => x.num == n) = some i := find_hit (p := fun x : It => x.num == n) hno hil
      have hnx := none'_succ hno hil
      generalize g.its[i] = x at *
      (first | refine au ?_ | exact au0)
      rw [hge]
      (first | refine au ?_ | exact au0)
      rw [hge2]
      (first | refine au ?_ | exact au0)
      refine bsplit_dec (fun c => ?_) (fun c => ?_)
      · (first | refine au ?_ | exact au0)
        rw [hhit (by simp; omega)]
        exact ⟨fz_of, sub_of⟩
      · (first | refine au ?_ | exact au0)
        refine nextN (by exact cov_of) (by exact sub_of) (by omega) (hnx (by simp; omega))
    · (first | refine au ?_ | exact au0)
      rw [find_none hno (by omega)]
      exact ⟨fz_of, sub_of⟩
  · rw [if_neg (fun q => hb ⟨q.1, q.2.1⟩)]
    (repeat' (first | (refine au ?_; first | refine bsplit_dec (fun _ => ?_) (fun _ => ?_) | refine bsplit_intro (fun _ => ?_) (fun _ => ?_)) | exact au0 | fail)); (all_goals try (first | refine au ?_ | fail))
    all_goals first | omega | exact ⟨fz_of, sub_of⟩
theorem r6_number_spec (l : List Ty) (hl : TysOk l) (n : Nat) (t : Ty) (hn : n ≤ l.length) (hN : kNm t.kd = true) (h13 : t.kd ≠ 13) (ho : orderE l t n = 0) (m : Nat) (hm : m < 18446744073709551616) (H : AH) : ACalls PG broadsheetref06_number.n [tysA l, .agg (tyR t), .int .u64 (m : Nat)] H fun r H' => r = .bool (mayT l t m) ∧ H' = H := by
  have hlen : (l.map tyR).length = l.length := by simp
  have hll := hl.len
  refine ACalls.fz (broadsheetref06_number.of rfl (wpF_start ?_))
  unfold mayT
  (first | refine au ?_ | exact au0)
  intro id3 hid3 ht3; have n3 := neAll_of hid3; (try simp only [neAll, neAll_hset] at n3); have m3 := n3; (repeat (obtain ⟨_, m3⟩ := m3))
  (first | refine au ?_ | exact au0)
  refine bsplit_dec (fun c => ?_) (fun c => ?_)
  · rw [if_pos c]
    (first | refine au ?_ | exact au0)
    first | refine callF_eq (r5_May_spec _ m hm _) ?_ | refine callG_eq rfl (r5_May_spec _ m hm _) ?_
    (first | refine au ?_ | exact au0)
    exact ⟨fz_of, sub_of⟩
  · rw [if_neg c]
    have h14 : t.kd = 14 := by rcases kd4 hN with h | h | h <;> omega
    have hin := orderE_in ho _ (parts_tag h14)
    have hge := tAt_get (l := l) hin.1 (by omega)
    generalize hg : tAt l t.tg = g at *
    (first | refine au ?_ | exact au0)
    rw [hge]
    (first | refine au ?_ | exact au0)
    refine bsplit_dec (fun c2 => ?_) (fun c2 => ?_)
    · rw [if_pos c2]
      have hV := fun H => r6_Value_spec l hl t.tg m H
      generalize valIx l t.tg m = o at *
      cases o with
      | some k =>
        (first | refine au ?_ | exact au0)
        first | refine callF_eq (hV _) ?_ | refine callG_eq rfl (hV _) ?_
        (first | refine au ?_ | exact au0)
        exact ⟨fz_eq (congrArg AV.bool (by simp)), sub_of⟩
      | none =>
        (first | refine au ?_ | exact au0)
        first | refine callF_eq (hV _) ?_ | refine callG_eq rfl (hV _) ?_
        (first | refine au ?_ | exact au0)
        exact ⟨fz_eq (congrArg AV.bool (by simp)), sub_of⟩
    · rw [if_neg c2]
      (first | refine au ?_ | exact au0)
      rw [hge]
      (first | refine au ?_ | exact au0)
      first | refine callF_eq (r5_May_spec _ m hm _) ?_ | refine callG_eq rfl (r5_May_spec _ m hm _) ?_
      (first | refine au ?_ | exact au0)
      exact ⟨fz_of, sub_of⟩
theorem rtw_full {p : UInt8 → Bool} : ∀ r : List UInt8, (r.takeWhile p).length = r.length ↔ r.all p = true
  | [] => by simp
  | a :: r => by
    rw [List.takeWhile_cons]
    cases h : p a
    · simp [h]
    · simp only [if_true, List.length_cons, List.all_cons, h, Bool.true_and, ← rtw_full r]; omega
theorem fmd_nl (s : List UInt8) : fmd s = (decide (s ≠ []) && decide (nl s = s.length)) := by
  cases s with
  | nil => rfl
  | cons c r =>
    unfold fmd
    rw [nl_cons]
    simp only [List.getD_cons_zero, List.all_cons, List.length_cons, ne_eq, reduceCtorEq, not_false_eq_true, decide_true, Bool.true_and]
    cases hc : ltr c
    · simp
    · simp only [if_true, Bool.true_and]
      have hn : nam c = true := by simp [nam, hc]
      rw [hn, Bool.true_and]
      have hf := rtw_full (p := nam) r
      cases ha : r.all nam
      · symm
        apply decide_eq_false
        intro q
        have := hf.1 (by omega)
        rw [ha] at this; cases this
      · symm
        apply decide_eq_true
        have := hf.2 ha
        omega
theorem r4_Name_spec (s : List UInt8) (hs : s.length ≤ 140737488351232) (H : AH) : ACalls PG broadsheetref04_Name.n [.str s] H fun r H' => r = .bool (nameOk s) ∧ H' = H := by
  refine ACalls.fz (broadsheetref04_Name.of rfl (wpF_start ?_))
  have e : nameOk s = (fmd s && decide (s.length ≤ 16) && !rsv.contains s) := by
    rw [fmd_nl]; unfold nameOk
    cases decide (s ≠ []) <;> cases decide (s.length ≤ 16) <;> cases decide (nl s = s.length) <;> cases rsv.contains s <;> rfl
  rw [e]
  have hf := fun H => ref_formed_spec s hs H
  have hw := fun H => rword_spec s H
  generalize fmd s = f at *
  generalize rsv.contains s = w at *
  cases f
  · (first | refine au ?_ | exact au0)
    first | refine callF_eq (hf _) ?_ | refine callG_eq rfl (hf _) ?_
    (first | refine au ?_ | exact au0)
    exact ⟨fz_of, sub_of⟩
  · (first | refine au ?_ | exact au0)
    first | refine callF_eq (hf _) ?_ | refine callG_eq rfl (hf _) ?_
    (first | refine au ?_ | exact au0)
    refine bsplit_dec (fun c => ?_) (fun c => ?_)
    · (first | refine au ?_ | exact au0)
      first | refine callF_eq (hw _) ?_ | refine callG_eq rfl (hw _) ?_
      (first | refine au ?_ | exact au0)
      exact ⟨fz_eq (congrArg AV.bool (by simp; omega)), sub_of⟩
    · (first | refine au ?_ | exact au0)
      exact ⟨fz_eq (congrArg AV.bool (by simp; omega)), sub_of⟩
theorem any_succ {α : Type} {p : α → Bool} {l : List α} {i : Nat} (h : i < l.length) : (l.take (i + 1)).any p = ((l.take i).any p || p l[i]) := by
  rw [List.take_add_one, List.getElem?_eq_getElem h, List.any_append]; simp
theorem none'_take {α : Type} {p : α → Bool} {l : List α} {i : Nat} (h : none' p l i) : (l.take i).any p = false := take_any_no h (Nat.le_refl _)
theorem take_hit {α : Type} {p : α → Bool} {l : List α} {i k : Nat} (hk : k < l.length) (h : k < i) (hp : p l[k] = true) : (l.take i).any p = true := any_take.2 ⟨k, hk, h, hp⟩
theorem r6_item_spec (l : List Ty) (hl : TysOk l) (n : Nat) (t : Ty) (hok : TyOk t) (hn : n ≤ l.length) (hN : kNm t.kd = true) (ho : orderE l t n = 0) (i : Nat) (hi : i < t.its.length) (H : AH) :
    ACalls PG broadsheetref06_item.n [tysA l, .agg (tyR t), .int .i64 (i : Nat)] H fun r H' => r = .int .i64 (itemE l t i) ∧ H' = H := by
  have hlen : (t.its.map itR).length = t.its.length := by simp
  have hll := hl.len
  have hli := hok.its
  have hge := row_get (f := itR) hi
  have hx := List.getElem_mem hi
  have hsn := hok.nms _ hx
  have hpt := fun h => parts_item (t := t) h hx
  have hmay := fun h13 H => r6_number_spec l hl n t hn hN h13 ho t.its[i].num (hok.nums _ hx) H
  refine ACalls.fz (broadsheetref06_item.of rfl (wpF_start ?_))
  unfold itemE
  dsimp only
  rw [getD_get hi]
  generalize t.its[i] = x at *
  (first | refine au ?_ | exact au0)
  intro id3 hid3 ht3; have n3 := neAll_of hid3; (try simp only [neAll, neAll_hset] at n3); have m3 := n3; (repeat (obtain ⟨_, m3⟩ := m3))
  (first | refine au ?_ | exact au0)
  rw [hge]
  (first | refine au ?_ | exact au0)
  intro id5 hid5 ht5; have n5 := neAll_of hid5; (try simp only [neAll, neAll_hset] at n5); have m5 := n5; (repeat (obtain ⟨_, m5⟩ := m5))
  (first | refine au ?_ | exact au0)
  first | refine callF_eq (r4_Name_spec _ hsn _) ?_ | refine callG_eq rfl (r4_Name_spec _ hsn _) ?_
  cases hO : nameOk x.nm
  · (first | refine au ?_ | exact au0)
    exact ⟨fz_of, sub_of⟩
  rw [if_pos rfl]
  (first | refine au ?_ | exact au0)
  refine loopM (S := Nat) [(0, some _), (2, some _), (4, some _), (7, some _)] (fun k => [(8, some (.bool ((t.its.take k).any (fun y => y.num == x.num)))), (9, some (.int .i64 (k : Nat)))]) (fun _ => _) (fun k => i - k) (fun k => k ≤ i ∧ none' (fun y => y.nm == x.nm) t.its k) 0 (by exact cov_of) (Sub.refl _) ⟨Nat.zero_le _, none'_zero⟩ (fun k hk => ?_)
  obtain ⟨hk, hno⟩ := hk
  (first | refine au ?_ | exact au0)
  refine bsplit_dec (fun c => ?_) (fun c => ?_)
  · have hkl : k < t.its.length := by omega
    have hge2 := row_get (f := itR) hkl
    have hany : (t.its[k].nm == x.nm) = true → (t.its.take i).any (fun y => y.nm == x.nm) = true := take_hit (p := fun y : It => y.nm == x.nm) hkl (by omega)
    have hnx := none'_succ hno hkl
    have has := any_succ (p := fun y : It => y.num == x.num) hkl
    generalize t.its[k] = y at *
    (first | refine au ?_ | exact au0)
    rw [hge2]
    (first | refine au ?_ | exact au0)
    refine bsplit_dec (fun h => ?_) (fun h => ?_)
    · (first | refine au ?_ | exact au0)
      rw [hany (by simpa using h)]
      exact ⟨fz_of, sub_of⟩
    · have hq := hnx (by simpa using h)
      generalize hb : (t.its.take k).any (fun y => y.num == x.num) = b at *
      cases b
      · (first | refine au ?_ | exact au0)
        rw [hge2]
        (first | refine au ?_ | exact au0)
        refine nextS (S := Nat) (k + 1) (by (try dsimp only); rw [has, Bool.false_or, show (y.num == x.num) = decide ((y.num : Int) = x.num) from by rw [Bool.eq_iff_iff]; simp; omega]; exact (by exact cov_of)) (Sub.refl _) (by first | omega | (dsimp only; omega)) ⟨by omega, hq⟩
      · (first | refine au ?_ | exact au0)
        refine nextS (S := Nat) (k + 1) (by (try dsimp only); rw [has, Bool.true_or]; exact (by exact cov_of)) (Sub.refl _) (by first | omega | (dsimp only; omega)) ⟨by omega, hq⟩
  obtain rfl : k = i := by omega
  rw [none'_take hno, if_neg Bool.false_ne_true]
  generalize (t.its.take k).any (fun y => y.num == x.num) = b at *
  (first | refine au ?_ | exact au0)
  refine bsplit_dec (fun h13 => ?_) (fun h13 => ?_)
  · have hin := orderE_in ho _ (hpt (.inl h13))
    have hge3 := tAt_get (l := l) hin.1 (by omega)
    rw [if_pos h13]
    generalize tAt l x.ty = g at *
    (first | refine au ?_ | exact au0)
    rw [hge3]
    (first | refine au ?_ | exact au0)
    cases hkey : x.key
    all_goals (repeat' (first | (refine au ?_; first | refine callF_eq (r5_Number_spec _ _) ?_ | refine bsplit_dec (fun _ => ?_) (fun _ => ?_) | refine bsplit_intro (fun _ => ?_) (fun _ => ?_)) | exact au0 | fail)); (all_goals try (first | refine au ?_ | fail))
    all_goals (refine ⟨fz_eq (congrArg (AV.int .i64) ?_), sub_of⟩; simp only [isNum, decide_eq_false_iff_not, true_and, Bool.false_eq_true, false_and, if_false]; first | done | (split <;> omega))
  · rw [if_neg h13]
    have hm := hmay h13
    cases hr : x.rest
    · (first | refine au ?_ | exact au0)
      first | refine callF_eq (hm _) ?_ | refine callG_eq rfl (hm _) ?_
      cases hy : mayT l t x.num
      · (first | refine au ?_ | exact au0)
        exact ⟨fz_of, sub_of⟩
      cases b
      · (first | refine au ?_ | exact au0)
        exact ⟨fz_of, sub_of⟩
      · (first | refine au ?_ | exact au0)
        exact ⟨fz_of, sub_of⟩
    · rw [if_pos (rfl : true = true)]
      (first | refine au ?_ | exact au0)
      refine bsplit_dec (fun c => ?_) (fun c => ?_)
      · (first | refine au ?_ | exact au0)
        refine ⟨fz_eq (congrArg (AV.int .i64) ?_), sub_of⟩
        rw [if_neg (by omega)]
      · (first | refine au ?_ | exact au0)
        refine ⟨fz_eq (congrArg (AV.int .i64) ?_), sub_of⟩
        rw [if_pos (by omega)]
end Go.Proofs.YtjaigpidmngaaaaGreat

namespace Go.Proofs.YtjaigpidmngaaaaGreat
attribute [local irreducible] callA callP ACalls
theorem dpT_pre (l : List Ty) : ∀ (n p : Nat), p < n → (dpT l n).getD p 0 = (dpT l (p + 1)).getD p 0
  | 0, p, h => by omega
  | n + 1, p, h => by
    by_cases e : p = n
    · rw [e]
    · rw [dpT_succ, List.getD_eq_getElem?_getD, List.getElem?_append_left (by rw [dpT_len]; omega), ← List.getD_eq_getElem?_getD]
      exact dpT_pre l n p (by omega)
theorem dpT_deep {l : List Ty} {n p : Nat} (h : p < n) (hn : n ≤ l.length) : (dpT l n).getD p 0 = deepT l p := by
  unfold deepT
  rw [if_pos (by omega), dpT_pre l n p h, Int.toNat_natCast]
theorem deepT_eq {l : List Ty} {n : Nat} (h : n < l.length) : deepT l n = (parts l[n]).foldl (dpF (dpT l n) n) 1 := by
  unfold deepT
  rw [if_pos (by omega), Int.toNat_natCast, dpT_succ, getD_get h, List.getD_eq_getElem?_getD, List.getElem?_append_right (by rw [dpT_len]; omega), dpT_len]
  simp
theorem r6_Deep_spec : ∀ (m : Nat) (l : List Ty) (_ : TysOk l) (t : Int) (_ : t < m) (H : AH), ACalls PG broadsheetref06_Deep.n [tysA l, .int .i64 t] H fun r H' => r = .int .i64 (deepT l t : Nat) ∧ H' = H := by
  intro m
  induction m with
  | zero =>
    intro l hl t ht H
    refine ACalls.fz (broadsheetref06_Deep.of rfl (wpF_start ?_))
    unfold deepT
    rw [if_neg (by omega)]
    (repeat' (first | (refine au ?_; first | refine bsplit_dec (fun _ => ?_) (fun _ => ?_) | refine bsplit_intro (fun _ => ?_) (fun _ => ?_)) | exact au0 | fail)); (all_goals try (first | refine au ?_ | fail))
    all_goals first | omega | exact ⟨fz_of, sub_of⟩
  | succ m ih =>
    intro l hl t ht H
    have hlen : (l.map tyR).length = l.length := by simp
    have hll := hl.len
    refine ACalls.fz (broadsheetref06_Deep.of rfl (wpF_start ?_))
    by_cases hb : 0 ≤ t ∧ t < l.length
    · obtain ⟨n, rfl⟩ : ∃ n : Nat, t = n := ⟨t.toNat, by omega⟩
      have hnl : n < l.length := by omega
      have hge := row_get (f := tyR) hnl
      have hdt := deepT_eq hnl
      have hti := (hl.all _ (List.getElem_mem hnl)).its
      rw [hdt]
      have hDle := dpT_le l n
      generalize l[n] = g at *
      have hpl := parts_len g
      have hplm : ((parts g).map inR).length = (parts g).length := by simp
      (first | refine au ?_ | exact au0)
      rw [hge]
      (first | refine au ?_ | exact au0)
      first | refine callF_eq (r6_Parts_spec g hti _) ?_ | refine callG_eq rfl (r6_Parts_spec g hti _) ?_
      (first | refine au ?_ | exact au0)
      refine loopM (S := Nat) [(0, some _), (1, some _), (5, some _)] (fun j => [(6, some (.int .i64 (((parts g).take j).foldl (dpF (dpT l n) n) 1 : Nat))), (7, some (.int .i64 (j : Nat)))]) (fun _ => _) (fun j => (parts g).length - j) (fun j => j ≤ (parts g).length) 0 (by exact cov_of) (Sub.refl _) (Nat.zero_le _) (fun j hj => ?_)
      have hm := dpF_le (n := n) hDle ((parts g).take j) 1 (by omega)
      (first | refine au ?_ | exact au0)
      refine bsplit_dec (fun c2 => ?_) (fun c2 => ?_)
      · have hjl : j < (parts g).length := by omega
        have hge2 := row_get (f := inR) hjl
        have hft := foldl_take (dpF (dpT l n) n) 1 (parts g) j hjl
        generalize (parts g)[j] = p at *
        generalize ((parts g).take j).foldl (dpF (dpT l n) n) 1 = q at *
        rw [show dpF (dpT l n) n q p = if 0 ≤ p ∧ p < (n : Int) then max q ((dpT l n).getD p.toNat 0 + 1) else q from rfl] at hft
        (first | refine au ?_ | exact au0)
        rw [hge2]
        (first | refine au ?_ | exact au0)
        refine bsplit_dec (fun c3 => ?_) (fun c3 => ?_)
        · (first | refine au ?_ | exact au0)
          rw [hge2]
          (first | refine au ?_ | exact au0)
          refine bsplit_dec (fun c4 => ?_) (fun c4 => ?_)
          · rw [if_pos (by omega), dpT_deep (by omega) (by omega), Int.toNat_of_nonneg c4] at hft
            have hdp : deepT l p ≤ n := by
              have := dpT_deep (l := l) (n := n) (p := p.toNat) (by omega) (by omega)
              rw [Int.toNat_of_nonneg c4] at this
              rw [← this, getD_get (by rw [dpT_len]; omega)]
              exact hDle _ (List.getElem_mem _)
            (first | refine au ?_ | exact au0)
            rw [hge2]
            (first | refine au ?_ | exact au0)
            first | refine callF_eq (ih l hl p (by omega) _) ?_ | refine callG_eq rfl (ih l hl p (by omega) _) ?_
            (first | refine au ?_ | exact au0)
            refine bsplit_dec (fun c5 => ?_) (fun c5 => ?_)
            · (first | refine au ?_ | exact au0)
              refine nextS (S := Nat) (j + 1) (by (try dsimp only); rw [hft, show max q (deepT l p + 1) = deepT l p + 1 from by omega]; exact (by exact cov_of)) (Sub.refl _) (by first | omega | (dsimp only; omega)) hjl
            · (first | refine au ?_ | exact au0)
              refine nextS (S := Nat) (j + 1) (by (try dsimp only); rw [hft, show max q (deepT l p + 1) = q from by omega]; exact (by exact cov_of)) (Sub.refl _) (by first | omega | (dsimp only; omega)) hjl
          · rw [if_neg (by omega)] at hft
            (first | refine au ?_ | exact au0)
            refine nextS (S := Nat) (j + 1) (by (try dsimp only); rw [hft]; exact (by exact cov_of)) (Sub.refl _) (by first | omega | (dsimp only; omega)) hjl
        · rw [if_neg (by omega)] at hft
          (first | refine au ?_ | exact au0)
          refine nextS (S := Nat) (j + 1) (by (try dsimp only); rw [hft]; exact (by exact cov_of)) (Sub.refl _) (by first | omega | (dsimp only; omega)) hjl
      · obtain rfl : j = (parts g).length := by omega
        rw [List.take_length]
        (first | refine au ?_ | exact au0)
        exact ⟨fz_of, sub_of⟩
    · unfold deepT
      rw [if_neg hb]
      (repeat' (first | (refine au ?_; first | refine bsplit_dec (fun _ => ?_) (fun _ => ?_) | refine bsplit_intro (fun _ => ?_) (fun _ => ?_)) | exact au0 | fail)); (all_goals try (first | refine au ?_ | fail))
      all_goals first | omega | exact ⟨fz_of, sub_of⟩
theorem formE_0 {t : Ty} (h : ¬ (t.kd < 1 ∨ 14 < t.kd)) (h2 : (tyMore t || t.its.any (itMore t.kd)) = false) : formE t = 0 := by
  simp only [Bool.or_eq_false_iff] at h2
  unfold formE; rw [if_neg h, if_neg (by simp [h2.1, h2.2])]
theorem formE_1 {t : Ty} (h : ¬ (t.kd < 1 ∨ 14 < t.kd)) (h2 : (tyMore t || t.its.any (itMore t.kd)) = true) : formE t = 1 := by
  simp only [Bool.or_eq_true] at h2
  unfold formE; rw [if_neg h, if_pos h2]
theorem tyErr_eq {l : List Ty} {n : Nat} (h : n < l.length) : tyErr l n = fst0 [formE l[n], namedE l l[n] n, boundE l[n], orderE l l[n] n, itemsE l l[n], deepE l n] := by
  unfold tyErr; rw [getD_get h]
set_option maxHeartbeats 2000000 in
theorem r6_one_spec (l : List Ty) (hl : TysOk l) (n : Nat) (hn : n < l.length) (H : AH) : ACalls PG broadsheetref06_one.n [tysA l, .int .i64 (n : Nat)] H fun r H' => r = .int .i64 (tyErr l n) ∧ H' = H := by
  have hlen : (l.map tyR).length = l.length := by simp
  have hll := hl.len
  have hge := row_get (f := tyR) hn
  have hok := hl.all _ (List.getElem_mem hn)
  have hdp := r6_Deep_spec (n + 1) l hl n (by omega)
  refine ACalls.fz (broadsheetref06_one.of rfl (wpF_start ?_))
  rw [tyErr_eq hn]
  generalize l[n] = t at *
  have hlen2 : (t.its.map itR).length = t.its.length := by simp
  have hli := hok.its
  (first | refine au ?_ | exact au0)
  rw [hge]
  (first | refine au ?_ | exact au0)
  intro id5 hid5 ht5; have n5 := neAll_of hid5; (try simp only [neAll, neAll_hset] at n5); have m5 := n5; (repeat (obtain ⟨_, m5⟩ := m5))
  by_cases hk : t.kd < 1 ∨ 14 < t.kd
  · have e : formE t = 4 := by unfold formE; rw [if_pos hk]
    (repeat' (first | (refine au ?_; first | refine bsplit_dec (fun _ => ?_) (fun _ => ?_) | refine bsplit_intro (fun _ => ?_) (fun _ => ?_)) | exact au0 | fail)); (all_goals try (first | refine au ?_ | fail))
    all_goals first | omega | (refine ⟨fz_eq (congrArg (AV.int .i64) (by simp [fst0, e])), sub_of⟩)
  (first | refine au ?_ | exact au0)
  first | refine callF_eq (r6_more_spec t hok _) ?_ | refine callG_eq rfl (r6_more_spec t hok _) ?_
  cases hm : tyMore t || t.its.any (itMore t.kd)
  rotate_left
  · have e := formE_1 hk hm
    (first | refine au ?_ | exact au0)
    refine ⟨fz_eq (congrArg (AV.int .i64) (by simp [fst0, e])), sub_of⟩
  have z0 := formE_0 hk hm
  (first | refine ab ?_ | exact ab0)
  refine joinP [(0, some (tysA l)), (1, some (.int .i64 (n : Nat))), (5, some (.ptr id5 6 0 0))] ((id5, .rows 6 [tyR t]) :: H) (namedE l t n = 0) ?_ (fun z1 => ?_)
  · have e : namedE l t n = if kNm t.kd = true then (if nameOk t.nm = true then (if (l.take n).any (fun x => x.nm == t.nm) = true then 6 else 0) else 5) else 0 := rfl
    (first | refine au ?_ | exact au0)
    first | refine callF_eq (r6_named_spec _ _) ?_ | refine callG_eq rfl (r6_named_spec _ _) ?_
    cases hN : kNm t.kd
    · rw [hN, if_neg Bool.false_ne_true] at e
      (first | refine au ?_ | exact au0)
      exact metP (by exact cov_of) sub_of e
    rw [hN, if_pos rfl] at e
    (first | refine au ?_ | exact au0)
    first | refine callF_eq (r4_Name_spec _ hok.nm _) ?_ | refine callG_eq rfl (r4_Name_spec _ hok.nm _) ?_
    cases hO : nameOk t.nm
    · rw [hO, if_neg Bool.false_ne_true] at e
      (first | refine au ?_ | exact au0)
      refine ⟨fz_eq (congrArg (AV.int .i64) (by simp [fst0, z0, e])), sub_of⟩
    rw [hO, if_pos rfl] at e
    (first | refine au ?_ | exact au0)
    refine loopL [(0, some _), (1, some _), (5, some _)] 6 0 n (none' (fun x => x.nm == t.nm) l) (by exact cov_of) (Nat.zero_le _) none'_zero (fun i hi hno => ?_)
    (first | refine au ?_ | exact au0)
    refine bsplit_dec (fun c => ?_) (fun c => ?_)
    · have hil : i < l.length := by omega
      have hge2 := row_get (f := tyR) hil
      have hany : (l[i].nm == t.nm) = true → (l.take n).any (fun x => x.nm == t.nm) = true := take_hit (p := fun x : Ty => x.nm == t.nm) hil (by omega)
      have hnx := none'_succ hno hil
      generalize l[i] = x at *
      (first | refine au ?_ | exact au0)
      rw [hge2]
      (first | refine au ?_ | exact au0)
      refine bsplit_dec (fun h => ?_) (fun h => ?_)
      · rw [hany (by simpa using h), if_pos rfl] at e
        (first | refine au ?_ | exact au0)
        refine ⟨fz_eq (congrArg (AV.int .i64) (by simp [fst0, z0, e])), sub_of⟩
      · (first | refine au ?_ | exact au0)
        refine nextN (by exact cov_of) (by exact sub_of) (by omega) (hnx (by simpa using h))
    · obtain rfl : i = n := by omega
      rw [none'_take hno, if_neg Bool.false_ne_true] at e
      (first | refine au ?_ | exact au0)
      exact metP (by exact cov_of) sub_of e
  (first | refine ab ?_ | exact ab0)
  refine joinP [(0, some (tysA l)), (1, some (.int .i64 (n : Nat))), (5, some (.ptr id5 6 0 0))] ((id5, .rows 6 [tyR t]) :: H) (boundE t = 0) ?_ (fun z2 => ?_)
  · have hbd : ¬ (t.kd = 10 ∨ t.kd = 11 ∨ t.kd = 12) → t.bd = 0 := fun q => by
      simp only [Bool.or_eq_false_iff, tyMore, decide_eq_false_iff_not] at hm
      apply Classical.byContradiction
      intro q2
      exact hm.1 (.inr (.inl ⟨decide_eq_false q, q2⟩))
    have e7 : (t.kd = 10 ∨ t.kd = 11 ∨ t.kd = 12) ∧ (64 < t.bd ∨ t.bd < 0 ∨ ((t.kd = 11 ∨ t.kd = 12) ∧ t.bd = 0)) → boundE t = 7 := fun q => by
      unfold boundE kBd kEl; rw [if_pos ⟨decide_eq_true q.1, by simpa using q.2⟩]
    have e0 : ¬ ((t.kd = 10 ∨ t.kd = 11 ∨ t.kd = 12) ∧ (64 < t.bd ∨ t.bd < 0 ∨ ((t.kd = 11 ∨ t.kd = 12) ∧ t.bd = 0))) → boundE t = 0 := fun q => by
      unfold boundE kBd kEl; rw [if_neg (by simpa using q)]
    (repeat' (first | (refine au ?_; first | refine bsplit_dec (fun _ => ?_) (fun _ => ?_) | refine bsplit_intro (fun _ => ?_) (fun _ => ?_)) | exact au0 | fail)); (all_goals try (first | refine au ?_ | fail))
    all_goals first
      | (refine metP (by exact cov_of) sub_of (e0 (by omega)))
      | (have e := e7 (by omega); refine ⟨fz_eq (congrArg (AV.int .i64) (by simp [fst0, z0, z1, e])), sub_of⟩)
  have hpl := parts_len t
  have hplm : ((parts t).map inR).length = (parts t).length := by simp
  (first | refine au ?_ | exact au0)
  first | refine callF_eq (r6_Parts_spec t hli _) ?_ | refine callG_eq rfl (r6_Parts_spec t hli _) ?_
  (first | refine au ?_ | exact au0)
  have eo : orderE l t n = if (parts t).any (fun p => decide (p < 0 ∨ (n : Int) ≤ p)) = true then 14 else if t.kd = 14 ∧ isNum (tAt l t.tg).kd = false then 8 else 0 := rfl
  refine loopL [(0, some _), (1, some _), (5, some _), (7, some _)] 8 0 (parts t).length (none' (fun p => decide (p < 0 ∨ (n : Int) ≤ p)) (parts t)) (by exact cov_of) (Nat.zero_le _) none'_zero (fun i hi hno => ?_)
  (first | refine au ?_ | exact au0)
  refine bsplit_dec (fun c => ?_) (fun c => ?_)
  · have hpi : i < (parts t).length := by omega
    have hge2 := row_get (f := inR) hpi
    have hany : decide ((parts t)[i] < 0 ∨ (n : Int) ≤ (parts t)[i]) = true → (parts t).any (fun p => decide (p < 0 ∨ (n : Int) ≤ p)) = true := any_hit (p := fun p => decide (p < 0 ∨ (n : Int) ≤ p)) hpi
    have hnx := none'_succ hno hpi
    generalize (parts t)[i] = x at *
    (first | refine au ?_ | exact au0)
    rw [hge2]
    (first | refine au ?_ | exact au0)
    refine bsplit_dec (fun c1 => ?_) (fun c1 => ?_)
    · rw [hany (decide_eq_true (by omega)), if_pos rfl] at eo
      (first | refine au ?_ | exact au0)
      refine ⟨fz_eq (congrArg (AV.int .i64) (by simp [fst0, z0, z1, z2, eo])), sub_of⟩
    (first | refine au ?_ | exact au0)
    rw [hge2]
    (first | refine au ?_ | exact au0)
    refine bsplit_dec (fun c2 => ?_) (fun c2 => ?_)
    · rw [hany (decide_eq_true (by omega)), if_pos rfl] at eo
      (first | refine au ?_ | exact au0)
      refine ⟨fz_eq (congrArg (AV.int .i64) (by simp [fst0, z0, z1, z2, eo])), sub_of⟩
    (first | refine au ?_ | exact au0)
    refine nextN (by exact cov_of) (by exact sub_of) (by omega) (hnx (decide_eq_false (by omega)))
  have hany := none'_end hno (show (parts t).length ≤ i by omega)
  rw [hany, if_neg Bool.false_ne_true] at eo
  (first | refine ab ?_ | exact ab0)
  refine joinP [(0, some (tysA l)), (1, some (.int .i64 (n : Nat))), (5, some (.ptr id5 6 0 0))] ((id5, .rows 6 [tyR t]) :: H) (orderE l t n = 0) ?_ (fun z3 => ?_)
  · (first | refine au ?_ | exact au0)
    refine bsplit_dec (fun h => ?_) (fun h => ?_)
    · have hq := List.any_eq_false.1 hany _ (parts_tag h)
      simp only [decide_eq_true_eq] at hq
      have hge3 := tAt_get (l := l) (t := t.tg) (by omega) (by omega)
      generalize tAt l t.tg = g at *
      (first | refine au ?_ | exact au0)
      rw [hge3]
      (first | refine au ?_ | exact au0)
      first | refine callF_eq (r5_Number_spec _ _) ?_ | refine callG_eq rfl (r5_Number_spec _ _) ?_
      cases hI : isNum g.kd
      · rw [hI, if_pos ⟨h, rfl⟩] at eo
        (first | refine au ?_ | exact au0)
        refine ⟨fz_eq (congrArg (AV.int .i64) (by simp [fst0, z0, z1, z2, eo])), sub_of⟩
      · rw [hI, if_neg (by simp)] at eo
        (first | refine au ?_ | exact au0)
        exact metP (by exact cov_of) sub_of eo
    · rw [if_neg (fun q => h q.1)] at eo
      (first | refine au ?_ | exact au0)
      exact metP (by exact cov_of) sub_of eo
  have ei : itemsE l t = if kNm t.kd = true then (if t.its.length = 0 then 18 else if 16 < t.its.length then 3 else fst0 ((List.range t.its.length).map (itemE l t))) else 0 := rfl
  have hno0 : kNm t.kd = false → t.its = [] := fun q => by
    simp only [Bool.or_eq_false_iff, tyMore, decide_eq_false_iff_not] at hm
    apply Classical.byContradiction
    intro q2
    exact hm.1 (.inl ⟨q, .inr q2⟩)
  (first | refine ab ?_ | exact ab0)
  refine joinP [(0, some (tysA l)), (1, some (.int .i64 (n : Nat))), (5, some (.ptr id5 6 0 0))] ((id5, .rows 6 [tyR t]) :: H) (kNm t.kd = true → t.its.length ≠ 0) ?_ (fun p4 => ?_)
  · (first | refine au ?_ | exact au0)
    first | refine callF_eq (r6_named_spec _ _) ?_ | refine callG_eq rfl (r6_named_spec _ _) ?_
    cases hN : kNm t.kd
    · (first | refine au ?_ | exact au0)
      exact metP (by exact cov_of) sub_of (fun q => by cases q)
    · rw [hN, if_pos rfl] at ei
      (first | refine au ?_ | exact au0)
      refine bsplit_dec (fun c => ?_) (fun c => ?_)
      · rw [if_pos (by omega)] at ei
        (first | refine au ?_ | exact au0)
        refine ⟨fz_eq (congrArg (AV.int .i64) (by simp [fst0, z0, z1, z2, z3, ei])), sub_of⟩
      · (first | refine au ?_ | exact au0)
        exact metP (by exact cov_of) sub_of (fun _ => by omega)
  (first | refine au ?_ | exact au0)
  refine bsplit_dec (fun c => ?_) (fun c => ?_)
  · have hN : kNm t.kd = true := by
      cases hN : kNm t.kd
      · rw [hno0 hN] at c; simp at c
      · rfl
    rw [hN, if_pos rfl, if_neg (by omega), if_pos (by omega)] at ei
    (first | refine au ?_ | exact au0)
    refine ⟨fz_eq (congrArg (AV.int .i64) (by simp [fst0, z0, z1, z2, z3, ei])), sub_of⟩
  have hgl : ∀ (k : Nat) (h : k < ((List.range t.its.length).map (itemE l t)).length), ((List.range t.its.length).map (itemE l t))[k] = itemE l t k := fun k h => by simp
  have hlm : ((List.range t.its.length).map (itemE l t)).length = t.its.length := by simp
  (first | refine au ?_ | exact au0)
  refine loopL [(0, some _), (1, some _), (5, some _)] 9 0 t.its.length (fun i => ∀ k, k < i → itemE l t k = 0) (by exact cov_of) (Nat.zero_le _) (fun k h => by omega) (fun i hi hno => ?_)
  (first | refine au ?_ | exact au0)
  refine bsplit_dec (fun c3 => ?_) (fun c3 => ?_)
  · have hil : i < t.its.length := by omega
    have hN : kNm t.kd = true := by
      cases hN : kNm t.kd
      · rw [hno0 hN] at hil; simp at hil
      · rfl
    rw [hN, if_pos rfl, if_neg (by omega), if_neg (by omega)] at ei
    (first | refine au ?_ | exact au0)
    first | refine callF_eq (r6_item_spec l hl n t hok (by omega) hN z3 i hil _) ?_ | refine callG_eq rfl (r6_item_spec l hl n t hok (by omega) hN z3 i hil _) ?_
    (first | refine au ?_ | exact au0)
    refine bsplit_dec (fun h => ?_) (fun h => ?_)
    · rw [fst0_hit (i := i) (fun k hk h3 => by rw [hgl]; exact hno k h3) (by omega) (by rw [hgl]; exact h), hgl] at ei
      (first | refine au ?_ | exact au0)
      refine ⟨fz_eq (congrArg (AV.int .i64) (by simp [fst0, z0, z1, z2, z3, ei, h])), sub_of⟩
    · (first | refine au ?_ | exact au0)
      refine nextN (by exact cov_of) (by exact sub_of) (by omega) (fun k hk => ?_)
      by_cases e : k = i
      · subst e; exact Classical.not_not.1 h
      · exact hno k (by omega)
  have z4 : itemsE l t = 0 := by
    rw [ei]
    split
    · rename_i hN
      rw [if_neg (p4 hN), if_neg (by omega), fst0_end (fun k hk => by rw [hgl]; exact hno k (by omega))]
    · rfl
  have ed : deepE l n = if 6 < deepT l n then 9 else 0 := rfl
  (first | refine au ?_ | exact au0)
  first | refine callF_eq (hdp _) ?_ | refine callG_eq rfl (hdp _) ?_
  (first | refine au ?_ | exact au0)
  refine bsplit_dec (fun c4 => ?_) (fun c4 => ?_)
  · rw [if_pos (by omega)] at ed
    (first | refine au ?_ | exact au0)
    refine ⟨fz_eq (congrArg (AV.int .i64) (by simp [fst0, z0, z1, z2, z3, z4, ed])), sub_of⟩
  · rw [if_neg (by omega)] at ed
    (first | refine au ?_ | exact au0)
    refine ⟨fz_eq (congrArg (AV.int .i64) (by simp [fst0, z0, z1, z2, z3, z4, ed])), sub_of⟩
theorem r6_Check_spec0 (l : List Ty) (hl : TysOk l) : ACalls PG broadsheetref06_Check.n [tysA l] [] fun r _ => r = .agg [.int .i64 (tyChk l).1, .int .i64 (tyChk l).2] := by
  have hlen : (l.map tyR).length = l.length := by simp
  have hll := hl.len
  refine ACalls.fzK (broadsheetref06_Check.of rfl (wpF_start ?_))
  unfold tyChk
  (first | refine au ?_ | exact au0)
  intro id2 hid2 ht2; have n2 := neAll_of hid2; (try simp only [neAll, neAll_hset] at n2); have m2 := n2; (repeat (obtain ⟨_, m2⟩ := m2))
  (first | refine au ?_ | exact au0)
  refine bsplit_dec (fun c => ?_) (fun c => ?_)
  · rw [if_pos (by omega)]
    (first | refine au ?_ | exact au0)
    exact fz_of
  rw [if_neg (by omega)]
  (first | refine au ?_ | exact au0)
  have hr : (List.range l.length).length = l.length := List.length_range
  refine loopL [(0, some _), (2, some _)] 3 0 l.length (none' (fun i => decide (tyErr l i ≠ 0)) (List.range l.length)) (by exact cov_of) (Nat.zero_le _) none'_zero (fun i hi hno => ?_)
  (first | refine au ?_ | exact au0)
  refine bsplit_dec (fun c2 => ?_) (fun c2 => ?_)
  · have hil : i < l.length := by omega
    have hhit : tyErr l i ≠ 0 → (List.range l.length).findIdx? (fun i => decide (tyErr l i ≠ 0)) = some i := fun q => find_hit hno (by omega) (by simpa using q)
    have hnx : tyErr l i = 0 → _ := fun q => none'_succ hno (by omega) (by simpa using q)
    (first | refine au ?_ | exact au0)
    first | refine callF_eq (r6_one_spec l hl i hil _) ?_ | refine callG_eq rfl (r6_one_spec l hl i hil _) ?_
    (first | refine au ?_ | exact au0)
    refine bsplit_dec (fun h => ?_) (fun h => ?_)
    · (first | refine au ?_ | exact au0)
      rw [hhit h]
      exact fz_of
    · (first | refine au ?_ | exact au0)
      exact nextN (by exact cov_of) (by exact sub_of) (by omega) (hnx (Classical.not_not.1 h))
  · (first | refine au ?_ | exact au0)
    rw [find_none hno (by omega)]
    exact fz_of
theorem r6_Check_spec (l : List Ty) (hl : TysOk l) (H : AH) : ACalls PG broadsheetref06_Check.n [tysA l] H fun r H' => r = .agg [.int .i64 (tyChk l).1, .int .i64 (tyChk l).2] ∧ H' = H := (r6_Check_spec0 l hl).frame H
theorem Check_spec (l : List Ty) (hl : TysOk l) (H : AH) : ACalls PG types_Check.n [tysA l] H fun r H' => r = .agg [.int .i64 (tyChk l).1, .int .i64 (tyChk l).2] ∧ H' = H := (Check_spec0 l hl).frame H
end Go.Proofs.YtjaigpidmngaaaaGreat

namespace Go.Proofs.YtjaigpidmngaaaaGreat
attribute [local irreducible] callA callP ACalls
def itN : List Ty → Nat
  | [] => 0
  | t :: l => t.its.length + itN l
theorem itN_take : ∀ (l : List Ty) (i : Nat) (h : i < l.length), itN (l.take (i + 1)) = itN (l.take i) + l[i].its.length
  | a :: l, 0, h => by simp [itN]
  | a :: l, i + 1, h => by
    have := itN_take l i (by simpa using h)
    simp only [List.take_succ_cons, itN, List.getElem_cons_succ] at this ⊢
    omega
def tyGreat (l : List Ty) : Bool := decide (100 < l.length) || decide (800 < itN l)
def itB (l : List Ty) (i : Nat) : Nat := min (itN (l.take i)) 1048576
theorem itB_step {l : List Ty} {i : Nat} (h : i < l.length) : itB l (i + 1) = min (itB l i + l[i].its.length) 1048576 := by
  unfold itB; rw [itN_take l i h]; omega
theorem tGreat_spec (l : List Ty) (hl : TysOk l) (H : AH) : ACalls PG broadsheetlaw06_Great.n [tysA l] H fun r H' => r = .bool (tyGreat l) ∧ H' = H := by
  have hlen : (l.map tyR).length = l.length := by simp
  have hll := hl.len
  refine ACalls.fz (broadsheetlaw06_Great.of rfl (wpF_start ?_))
  (first | refine au ?_ | exact au0)
  refine loopM (S := Nat) [(0, some _)] (fun i => [(3, some (.int .i64 (itB l i : Nat))), (4, some (.int .i64 (i : Nat)))]) (fun _ => _) (fun i => l.length - i) (fun i => i ≤ l.length) 0 (by exact cov_of) (Sub.refl _) (Nat.zero_le _) (fun i hi => ?_)
  have hb : itB l i ≤ 1048576 := by unfold itB; omega
  (first | refine au ?_ | exact au0)
  refine bsplit_dec (fun c => ?_) (fun c => ?_)
  · have hil : i < l.length := by omega
    have hge := row_get (f := tyR) hil
    have hst := itB_step hil
    have hti := (hl.all _ (List.getElem_mem hil)).its
    generalize l[i] = g at *
    have hlen2 : (g.its.map itR).length = g.its.length := by simp
    (first | refine au ?_ | exact au0)
    rw [hge]
    (first | refine au ?_ | exact au0)
    refine nextS (S := Nat) (i + 1) (by (try dsimp only); rw [hst, ← hlen2, cast_min]; exact (by exact cov_of)) (Sub.refl _) (by first | omega | (dsimp only; omega)) hil
  · have e : itB l i = min (itN l) 1048576 := by unfold itB; rw [List.take_of_length_le (by omega)]
    have eg : tyGreat l = decide (100 < l.length ∨ 800 < itN l) := by unfold tyGreat; rw [Bool.decide_or]
    rw [e, eg]
    (repeat' (first | (refine au ?_; first | refine bsplit_dec (fun _ => ?_) (fun _ => ?_) | refine bsplit_intro (fun _ => ?_) (fun _ => ?_)) | exact au0 | fail)); (all_goals try (first | refine au ?_ | fail))
    all_goals exact ⟨fz_eq (congrArg AV.bool (by first | exact (decide_eq_true (by omega)).symm | exact (decide_eq_false (by omega)).symm | exact decide_eq_decide.2 (by omega) | rfl)), sub_of⟩
end Go.Proofs.YtjaigpidmngaaaaGreat

namespace Go.Proofs.YtjaigpidmngaaaaGreat
attribute [local irreducible] callA callP ACalls
theorem TyG.parts {l : List Ty} {n : Nat} {t : Ty} (h : TyG l n t) : ∀ p ∈ parts t, 0 ≤ p ∧ p < n := orderE_in h.order
theorem TyG.kd {l : List Ty} {n : Nat} {t : Ty} (h : TyG l n t) : 1 ≤ t.kd ∧ t.kd ≤ 14 := by
  have := h.form
  unfold formE at this
  split at this
  · cases this
  · omega
theorem TyV.tAt {l : List Ty} (h : TyV l) {t : Int} (h0 : 0 ≤ t) (h1 : t < l.length) : TyG l t.toNat (tAt l t) := by
  have := h.at (i := t.toNat) (by omega)
  unfold Go.Proofs.YtjaigpidmngaaaaGreat.tAt
  rw [getD_get (by omega)]
  exact this
theorem TyG.bd {l : List Ty} {n : Nat} {t : Ty} (h : TyG l n t) (hb : kBd t.kd = true) : 0 ≤ t.bd ∧ t.bd ≤ 64 ∧ (kEl t.kd = true → 1 ≤ t.bd) := by
  have := h.bound
  unfold boundE at this
  split at this
  · cases this
  · rename_i q
    refine ⟨?_, ?_, fun e => ?_⟩
    · apply Classical.byContradiction; intro c; exact q ⟨hb, by omega⟩
    · apply Classical.byContradiction; intro c; exact q ⟨hb, by omega⟩
    · apply Classical.byContradiction; intro c
      have : ¬ t.bd < 0 := fun c2 => q ⟨hb, .inr (.inl c2)⟩
      exact q ⟨hb, .inr (.inr ⟨e, by omega⟩)⟩
section
variable {l : List Ty} {t : Int} {g : Ty} {k : Int} {n : Nat} {x : List UInt8} {vs : List Vl} {H : AH}
end
end Go.Proofs.YtjaigpidmngaaaaGreat

namespace Go.Proofs.YtjaigpidmngaaaaGreat
attribute [local irreducible] callA callP ACalls
theorem Item1_spec (k : Int) (H : AH) : ACalls PG types_Item_1.n [.int .i64 k] H fun r H' => r = .bool (kNm k) ∧ H' = H := by
  refine ACalls.fz (types_Item_1.of rfl (wpF_start ?_))
  (first | refine au ?_ | exact au0)
  first | refine callF_eq (has_spec k _) ?_ | refine callG_eq rfl (has_spec k _) ?_
  (first | refine au ?_ | exact au0)
  exact ⟨fz_of, sub_of⟩
theorem Item2_spec (x : It) (s : List UInt8) (id : Nat) : ACalls PG types_Item_2.n [.agg (itR x), .ptr id 1 0 0] [(id, .rows 1 [[.str s]])] fun r H' => r = .bool (x.nm == s) ∧ H' = [(id, .rows 1 [[.str s]])] := by
  refine ACalls.fz (types_Item_2.of' (Nat.le_of_ble_eq_true rfl) (wpF_start ?_))
  (first | refine au ?_ | exact au0)
  intro id2 hid2 ht2; have n2 := neAll_of hid2; (try simp only [neAll, neAll_hset] at n2); have m2 := n2; (repeat (obtain ⟨_, m2⟩ := m2))
  (first | refine au ?_ | exact au0)
  refine ⟨fz_eq (congrArg AV.bool ?_), sub_of⟩
  rw [Bool.eq_iff_iff]; simp
theorem fIx_item (l : List Ty) (t : Int) (s : List UInt8) : fIx l t kNm (fun x => x.nm == s) = itemIx l t s := rfl
theorem Item_spec (l : List Ty) (hl : TysOk l) (t : Int) (s : List UInt8) (H : AH) : ACalls PG types_Item.n [tysA l, .int .i64 t, .str s] H fun r H' => r = ixA (itemIx l t s) ∧ H' = H := by
  refine ACalls.fz (types_Item.of rfl (wpF_start ?_))
  rw [← fIx_item]
  (first | refine au ?_ | exact au0)
  intro id5 hid5 ht5; have n5 := neAll_of hid5; (try simp only [neAll, neAll_hset] at n5); have m5 := n5; (repeat (obtain ⟨_, m5⟩ := m5))
  (first | refine au ?_ | exact au0)
  first | refine callF_eq ((find_spec l hl t types_Item_1.n types_Item_2.n [] [.ptr id5 1 0 0] kNm (fun x => x.nm == s) _ (fun k => Item1_spec k _) (fun x => Item2_spec x s id5)).sup (by exact sub_of)) ?_ | refine callG_eq rfl ((find_spec l hl t types_Item_1.n types_Item_2.n [] [.ptr id5 1 0 0] kNm (fun x => x.nm == s) _ (fun k => Item1_spec k _) (fun x => Item2_spec x s id5)).sup (by exact sub_of)) ?_
  cases fIx l t kNm (fun x => x.nm == s) with
  | some m =>
    (first | refine au ?_ | exact au0)
    exact ⟨fz_of, sub_of⟩
  | none =>
    (first | refine au ?_ | exact au0)
    exact ⟨fz_of, sub_of⟩
theorem path_known_spec (l : List Ty) (hl : TysOk l) (t : Int) (H : AH) : ACalls PG path_known.n [tysA l, .int .i64 t] H fun r H' => r = .bool (decide (knownT l t)) ∧ H' = H := by
  have hlen : (l.map tyR).length = l.length := by simp
  have hll := hl.len
  unfold knownT
  refine ACalls.fz (path_known.of rfl (wpF_start ?_))
  (repeat' (first | (refine au ?_; first | refine callF_eq (Check_spec l hl _) ?_ | refine bsplit_dec (fun _ => ?_) (fun _ => ?_) | refine bsplit_intro (fun _ => ?_) (fun _ => ?_)) | exact au0 | fail)); (all_goals try (first | refine au ?_ | fail))
  all_goals exact ⟨fz_eq (congrArg AV.bool (by first | exact (decide_eq_true (by omega)).symm | exact (decide_eq_false (by omega)).symm | exact decide_eq_decide.2 (by omega) | rfl)), sub_of⟩
theorem elems_spec (x : Ty) (H : AH) : ACalls PG path_elems.n [.agg (tyR x)] H fun r H' => r = .bool (kEl x.kd) ∧ H' = H := by
  refine ACalls.fz (path_elems.of rfl (wpF_start ?_))
  (first | refine au ?_ | exact au0)
  intro id1 hid1 ht1; have n1 := neAll_of hid1; (try simp only [neAll, neAll_hset] at n1); have m1 := n1; (repeat (obtain ⟨_, m1⟩ := m1))
  unfold kEl
  (repeat' (first | (refine au ?_; first | refine bsplit_dec (fun _ => ?_) (fun _ => ?_) | refine bsplit_intro (fun _ => ?_) (fun _ => ?_)) | exact au0 | fail)); (all_goals try (first | refine au ?_ | fail))
  all_goals exact ⟨fz_eq (congrArg AV.bool (by first | exact (decide_eq_true (by omega)).symm | exact (decide_eq_false (by omega)).symm | exact decide_eq_decide.2 (by omega) | rfl)), sub_of⟩
theorem items_spec' (x : Ty) (H : AH) : ACalls PG path_items.n [.agg (tyR x)] H fun r H' => r = .bool (kIt x.kd) ∧ H' = H := by
  refine ACalls.fz (path_items.of rfl (wpF_start ?_))
  (first | refine au ?_ | exact au0)
  intro id1 hid1 ht1; have n1 := neAll_of hid1; (try simp only [neAll, neAll_hset] at n1); have m1 := n1; (repeat (obtain ⟨_, m1⟩ := m1))
  unfold kIt
  (repeat' (first | (refine au ?_; first | refine bsplit_dec (fun _ => ?_) (fun _ => ?_) | refine bsplit_intro (fun _ => ?_) (fun _ => ?_)) | exact au0 | fail)); (all_goals try (first | refine au ?_ | fail))
  all_goals exact ⟨fz_eq (congrArg AV.bool (by first | exact (decide_eq_true (by omega)).symm | exact (decide_eq_false (by omega)).symm | exact decide_eq_decide.2 (by omega) | rfl)), sub_of⟩
abbrev spR (x : Bool × Nat) : List AV := [.bool x.1, .int .i64 (x.2 : Nat)]
abbrev stpA (x : (Bool × Nat) × Int × Int) : AV := .tup [.agg (spR x.1), .int .i64 x.2.1, .int .i64 x.2.2]
theorem step_spec (l : List Ty) (hl : TysOk l) (t : Int) (h0 : 0 ≤ t) (h1 : t < l.length) (p : Pc) (H : AH) : ACalls PG path_step.n [tysA l, .int .i64 t, pcA p] H fun r H' => r = stpA (stepP l t p) ∧ H' = H := by
  have hlen : (l.map tyR).length = l.length := by simp
  have hll := hl.len
  have hge := tAt_get h0 h1
  have hti := (hl.all _ (tAt_mem h0 h1)).its
  obtain ⟨nm, k, okp⟩ := p
  have hix := Item_spec l hl t nm
  show ACalls PG path_step.n [tysA l, .int .i64 t, .agg [.str nm, .int .i64 (k : Nat)]] H _
  unfold stepP
  dsimp only
  have hii : ∀ n, itemIx l t nm = some n → n < (tAt l t).its.length := by
    intro n q
    unfold itemIx at q
    split at q
    · exact (List.findIdx?_eq_some_iff_getElem.1 q).1
    · cases q
  generalize itemIx l t nm = ix at *
  generalize tAt l t = g at *
  have hel := elems_spec g
  have hit := items_spec' g
  generalize hkel : kEl g.kd = be at *
  generalize hkit : kIt g.kd = bi at *
  refine ACalls.fz (path_step.of rfl (wpF_start ?_))
  (first | refine au ?_ | exact au0)
  intro id5 hid5 ht5; have n5 := neAll_of hid5; (try simp only [neAll, neAll_hset] at n5); have m5 := n5; (repeat (obtain ⟨_, m5⟩ := m5))
  (first | refine au ?_ | exact au0)
  intro id6 hid6 ht6; have n6 := neAll_of hid6; (try simp only [neAll, neAll_hset] at n6); have m6 := n6; (repeat (obtain ⟨_, m6⟩ := m6))
  (first | refine au ?_ | exact au0)
  rw [hge]
  (first | refine au ?_ | exact au0)
  intro id9 hid9 ht9; have n9 := neAll_of hid9; (try simp only [neAll, neAll_hset] at n9); have m9 := n9; (repeat (obtain ⟨_, m9⟩ := m9))
  cases nm with
  | nil =>
    (first | refine au ?_ | exact au0)
    first | refine callF_eq (hel _) ?_ | refine callG_eq rfl (hel _) ?_
    cases be
    · (first | refine au ?_ | exact au0)
      exact ⟨fz_of, sub_of⟩
    · (first | refine au ?_ | exact au0)
      refine bsplit_dec (fun c => ?_) (fun c => ?_)
      · rw [if_pos rfl, if_neg (by decide), if_pos (by omega)]
        (first | refine au ?_ | exact au0)
        exact ⟨fz_of, sub_of⟩
      · rw [if_pos rfl, if_neg (by decide), if_neg (by omega)]
        (first | refine au ?_ | exact au0)
        exact ⟨fz_of, sub_of⟩
  | cons a bs =>
    rw [if_neg (by simp)]
    (first | refine au ?_ | exact au0)
    first | refine callF_eq (hit _) ?_ | refine callG_eq rfl (hit _) ?_
    cases bi
    · (first | refine au ?_ | exact au0)
      exact ⟨fz_of, sub_of⟩
    · (first | refine au ?_ | exact au0)
      first | refine callF_eq (hix _) ?_ | refine callG_eq rfl (hix _) ?_
      cases ix with
      | none =>
        (first | refine au ?_ | exact au0)
        exact ⟨fz_of, sub_of⟩
      | some n =>
        have hil := hii n rfl
        have hge2 := row_get (f := itR) hil
        have hgd : g.its.getD n it0 = g.its[n] := by simp [List.getD, hil]
        dsimp only
        rw [hgd]
        have hlen2 : (g.its.map itR).length = g.its.length := by simp
        (first | refine au ?_ | exact au0)
        rw [hge2]
        (first | refine au ?_ | exact au0)
        exact ⟨fz_of, sub_of⟩
end Go.Proofs.YtjaigpidmngaaaaGreat

namespace Go.Proofs.YtjaigpidmngaaaaGreat
attribute [local irreducible] callA callP ACalls
theorem path_pieces_spec (s : List UInt8) (H : AH) : ACalls PG path_pieces.n [.str s] H fun r H' => ∃ id, r = .clo path_pieces_1.n [] [.ptr id 1 0 0] ∧ hget H id = none ∧ tag id = ty_string ∧ H' = (id, .rows 1 [[.str s]]) :: H := by
  refine path_pieces.of rfl (wpF_start ?_)
  (first | refine au ?_ | exact au0)
  intro id1 hid1 ht1; have n1 := neAll_of hid1; (try simp only [neAll, neAll_hset] at n1); have m1 := n1; (repeat (obtain ⟨_, m1⟩ := m1))
  (first | refine au ?_ | exact au0)
  exact ⟨id1, rfl, hid1, ht1, rfl⟩
abbrev findA (x : List (Bool × Nat) × Int × Int) : AV := .tup [.rows 2 (x.1.map spR), .int .i64 x.2.1, .int .i64 x.2.2]
theorem of_bodyG {ps : List Nat} {a b : Code} {fl : List Nat} {N lid : Nat} {L : FL} {fr : Nat → Option AV} {ca cb : C} {args : List AV} {H : AH} {K : AV → AH → Prop} (hm : PG.follows .mixedOrders = true) (ha : comp PG fl a = ca) (hb : comp PG fl b = cb) (hfr : frm L = fr)
    (hd : (dstsOk N ca && dstsOk N cb && ps.all fun p => decide (p < N)) = true) (hfa : flatC ca = true) (hfb : flatC cb = true) (hl : args.length = ps.length) (hid : hget H lid = some (.loop ⟨ps, a, b, N, fr, .ready⟩))
    (h : wpF PG ca none (assignF PG lid ⟨ps, a, b, N, fr, .ready⟩ cb K) (putsL ps args L) H) : AYields PG lid args H K := by
  subst hfr
  exact AYields.of_bodyF hm ha hb hd hfa hfb hl hid h
theorem all_ok {l : List Pc} (h : ∀ j (h : j < l.length), l[j].2.2 = true) : l.all (·.2.2) = true := by
  rw [List.all_eq_true]
  intro x hx
  obtain ⟨j, hj, rfl⟩ := List.getElem_of_mem hx
  exact h j hj
theorem Sub.swp {H : AH} {i j : Nat} {b c : Blk} (h : i ≠ j) : Sub ((i, b) :: (j, c) :: H) ((j, c) :: (i, b) :: H) := by
  intro k x q
  simp only [hget] at q ⊢
  by_cases e1 : k = i
  · subst e1
    simp_all
  · by_cases e2 : k = j <;> simp_all [Ne.symm e1]
abbrev base1 (id3 id4 id6 id7 id8 : Nat) (l : List Ty) (t : Int) : AH := [(id8, .rows 1 [[.int .i64 0]]), (id7, .rows 1 [[.int .i64 0]]), (id6, .rows 1 [[.nilS]]), (id4, .rows 1 [[.int .i64 t]]), (id3, .rows 1 [[tysA l]])]
abbrev base2 (id3 id4 id6 id7 id8 : Nat) (l : List Ty) (t e : Int) : AH := [(id8, .rows 1 [[.int .i64 e]]), (id7, .rows 1 [[.int .i64 0]]), (id6, .rows 1 [[.nilS]]), (id4, .rows 1 [[.int .i64 t]]), (id3, .rows 1 [[tysA l]])]
theorem AYields.freeze {P : Program} {id : Nat} {args : List AV} {H : AH} {K K' : AV → AH → Prop} (h : AYields P id args H K)
    (hk : ∀ r H', K r H' → ∃ r' Hc, Sub Hc H' ∧ Fz H' Hc r r' ∧ K' r' Hc) : AYields P id args H K' := by
  intro m w ρ Z xs b o hg hr hb
  obtain ⟨fn, tmps, asg, bd, h1, h2⟩ := h m w ρ Z xs b o hg hr hb
  refine ⟨fn, tmps, asg, bd, h1, h2.mono fun e w' ⟨x, r, H', ρ', Z', a, g, c, d, k⟩ => ?_⟩
  obtain ⟨r', Hc, hs, hf, hk'⟩ := hk r H' k
  refine ⟨x, r', Hc, ρ', _, a, g.freeze hs, hf.sound g x c, ?_, hk'⟩
  refine { d with zmono := fun b q => .inl (d.zmono b q), znew := fun b q => ?_, own := fun b q => d.own b (q.of_sub hs) }
  rcases q with q | q
  · exact d.znew b q
  · rcases d.own b q.own with q | q
    · exact .inr (.inl q)
    · exact .inr (.inr q)
theorem Sub.of_cons {H K : AH} {id : Nat} {b : Blk} (h : hget H id = some b) (hs : Sub K H) : Sub ((id, b) :: K) H := fun j c q => by
  simp only [hget] at q
  split at q
  · rename_i e; subst e; rw [h]; exact q
  · exact hs _ _ q
abbrev L2 (idq id11 idp id8 id7 id6 id4 id3 : Nat) (l : List Ty) (t : Int) (s : List UInt8) : FL :=
  ((27, some (AV.clo path_pieces_1.n [] [AV.ptr idq 1 0 0])) ::
      (26, some (AV.str s)) ::
        (11, some ((fun id => AV.ptr id [AV.nilS].length 0 0) id11)) ::
          (21, some (AV.clo path_pieces_1.n [] [AV.ptr idp 1 0 0])) ::
            (20, some (AV.str s)) ::
              (19, some (AV.bool !true)) ::
                (18, some (AV.bool true)) ::
                  (17, some (AV.int IntKind.i64 t)) ::
                    (16, some (tysA l)) ::
                      (8, some ((fun id => AV.ptr id [AV.int IntKind.i64 0].length 0 0) id8)) ::
                        (7, some ((fun id => AV.ptr id [AV.int IntKind.i64 0].length 0 0) id7)) ::
                          (6, some ((fun id => AV.ptr id [AV.nilS].length 0 0) id6)) ::
                            (4, some ((fun id => AV.ptr id (AV.int IntKind.i64 t).cells.length 0 0) id4)) ::
                              (3, some ((fun id => AV.ptr id (tysA l).cells.length 0 0) id3)) ::
                                argsL 0 [tysA l, AV.int IntKind.i64 t, AV.str s])
abbrev base3 (o : Option Nat) (acc : List (Bool × Nat)) (id11 id3 id4 id6 id7 id8 : Nat) (l : List Ty) (t : Int) : AH := accH o 2 (acc.map spR) [(id11, .rows 1 [[accV o 2 acc.length]]), (id8, .rows 1 [[.int .i64 0]]), (id7, .rows 1 [[.int .i64 0]]), (id6, .rows 1 [[.nilS]]), (id4, .rows 1 [[.int .i64 t]]), (id3, .rows 1 [[tysA l]])]
abbrev ca2 : C := (C.reg [{ dst := some 12, guard := none, co := CO.allc ty_path_piece [AV.str [], AV.int IntKind.i64 0] }, { dst := none, guard := none, co := CO.store 2 (X.t 12) (X.t 28) }])
abbrev cb2 : C := C.block 3
      ((C.reg
            [{ dst := some 31, guard := none, co := CO.load none (X.t 3) },
              { dst := some 32, guard := none, co := CO.load none (X.t 4) },
              { dst := some 33, guard := none, co := CO.load (some 2) (X.t 12) },
              { dst := some 34, guard := none, co := CO.call path_step.n [X.t 31, X.t 32, X.t 33] },
              { dst := some 30, guard := none, co := CO.mv (X.t 34) },
              { dst := some 35, guard := none, co := CO.extr (X.t 30) 0 },
              { dst := some 36, guard := none, co := CO.extr (X.t 30) 1 },
              { dst := some 37, guard := none, co := CO.extr (X.t 30) 2 },
              { dst := some 13, guard := none, co := CO.allc ty_api_Step [AV.bool false, AV.int IntKind.i64 0] },
              { dst := none, guard := none, co := CO.store 2 (X.t 13) (X.t 35) },
              { dst := some 14, guard := none, co := CO.mv (X.t 36) },
              { dst := some 15, guard := none, co := CO.mv (X.t 37) }]).seq
        (((C.reg
                  [{ dst := some 38, guard := none, co := CO.mv (X.t 15) },
                    { dst := some 39, guard := none,
                      co := CO.bin BinOp.neq (X.t 38) (X.c (AV.int IntKind.i64 0)) }]).seq
              (C.cond (X.t 39)
                ((C.reg
                      [{ dst := some 40, guard := none, co := CO.mv (X.t 15) },
                        { dst := none, guard := none, co := CO.store 1 (X.t 6) (X.c AV.nilS) },
                        { dst := none, guard := none, co := CO.store 1 (X.t 7) (X.c (AV.int IntKind.i64 0)) },
                        { dst := none, guard := none, co := CO.store 1 (X.t 8) (X.t 40) }]).seq
                  C.ret)
                C.skip)).seq
          (C.reg
            [{ dst := some 41, guard := none, co := CO.load none (X.t 11) },
              { dst := some 42, guard := none, co := CO.load (some 2) (X.t 13) },
              { dst := some 43, guard := none,
                co := CO.bslice ty_api_Step 2 1 [AV.bool false, AV.int IntKind.i64 0] [(0, X.t 42)] },
              { dst := some 44, guard := none, co := CO.append ty_api_Step false 2 16 (X.t 41) (X.t 43) },
              { dst := some 45, guard := none, co := CO.mv (X.t 14) },
              { dst := none, guard := none, co := CO.store 1 (X.t 11) (X.t 44) },
              { dst := none, guard := none, co := CO.store 1 (X.t 4) (X.t 45) }])))
structure J2 (lid idq : Nat) (lr : Blk) (id11 id3 id4 id6 id7 id8 : Nat) (l : List Ty) (t : Int) (ps : List Pc) (i : Nat) (H : AH) : Prop where
  mk :: out : ∃ (o : Option Nat) (acc : List (Bool × Nat)) (t' : Int), H = (lid, lr) :: base3 o acc id11 id3 id4 id6 id7 id8 l t' ∧ (o = none → acc = []) ∧
    (∀ id, o = some id → tag id = ty_api_Step ∧ id ≠ lid ∧ id ≠ idq ∧ id ≠ id11 ∧ id ≠ id8 ∧ id ≠ id7 ∧ id ≠ id6 ∧ id ≠ id4 ∧ id ≠ id3) ∧ 0 ≤ t' ∧ t' < l.length ∧ acc.length = i ∧ wayP l t ps [] = wayP l t' (ps.drop i) acc
structure X2 (lid : Nat) (lr : Blk) (id6 id7 id8 : Nat) (l : List Ty) (t : Int) (ps : List Pc) (H : AH) : Prop where
  mk :: out : ∃ e : Int, H = [(lid, lr), (id8, .rows 1 [[.int .i64 e]]), (id7, .rows 1 [[.int .i64 0]]), (id6, .rows 1 [[.nilS]])] ∧ wayP l t ps [] = ([], 0, e)
theorem step_in {l : List Ty} (hv : TyV l) {t : Int} (h0 : 0 ≤ t) (h1 : t < l.length) (p : Pc) (h : (stepP l t p).2.2 = 0) : 0 ≤ (stepP l t p).2.1 ∧ (stepP l t p).2.1 < l.length := by
  have hp := (hv.tAt h0 h1).parts
  unfold stepP at h ⊢
  split at h
  · rename_i c
    rw [if_pos c]
    split at h
    · cases h
    · rename_i c2
      rw [if_neg c2]
      split at h
      · cases h
      · rename_i c3
        rw [if_neg c3]
        have := hp (tAt l t).el (by unfold parts; rw [if_pos (by simpa using c2)]; simp)
        dsimp only
        omega
  · rename_i c
    rw [if_neg c]
    split at h
    · cases h
    · rename_i c2
      rw [if_neg c2]
      cases hi : itemIx l t p.1 with
      | none => rw [hi] at h; cases h
      | some n =>
        dsimp only
        have hil : n < (tAt l t).its.length := by
          unfold itemIx at hi
          split at hi
          · exact (List.findIdx?_eq_some_iff_getElem.1 hi).1
          · cases hi
        have hk : (tAt l t).kd = 13 ∨ (tAt l t).kd = 14 := by
          simp only [kIt, decide_eq_false_iff_not, Classical.not_not] at c2
          exact c2
        have := hp ((tAt l t).its[n]).ty (by unfold parts; rw [if_pos hk]; simp only [List.mem_append, List.mem_map]; exact .inr ⟨_, List.getElem_mem hil, rfl⟩)
        rw [show (tAt l t).its.getD n it0 = (tAt l t).its[n] from by simp [List.getD, hil]]
        omega
set_option maxHeartbeats 4000000 in
theorem round2 (ps : List Pc) (l : List Ty) (hl : TysOk l) (hv : TyV l) (t : Int) (s : List UInt8) (lid idq id11 idp id8 id7 id6 id4 id3 : Nat) (a b : Code) (fl : List Nat) (N : Nat) (ha : comp PG fl a = ca2) (hb : comp PG fl b = cb2) (fr : Nat → Option AV) (hfr : frm (L2 idq id11 idp id8 id7 id6 id4 id3 l t s) = fr)
    (hd : (dstsOk N ca2 && dstsOk N cb2 && [28, 29].all fun p => decide (p < N)) = true) (hpl : ps.length ≤ 1000001)
    (nl : lid ≠ idq ∧ lid ≠ id11 ∧ lid ≠ id8 ∧ lid ≠ id7 ∧ lid ≠ id6 ∧ lid ≠ id4 ∧ lid ≠ id3) (nq : idq ≠ id11 ∧ idq ≠ id8 ∧ idq ≠ id7 ∧ idq ≠ id6 ∧ idq ≠ id4 ∧ idq ≠ id3)
    (n11 : id11 ≠ id8 ∧ id11 ≠ id7 ∧ id11 ≠ id6 ∧ id11 ≠ id4 ∧ id11 ≠ id3) (n8 : id8 ≠ id7 ∧ id8 ≠ id6 ∧ id8 ≠ id4 ∧ id8 ≠ id3) (n7 : id7 ≠ id6 ∧ id7 ≠ id4 ∧ id7 ≠ id3) (n6 : id6 ≠ id4 ∧ id6 ≠ id3) (n4 : id4 ≠ id3)
    (t11 : tag id11 = ty_S_api_Step) (t8 : tag id8 = ty_api_Errno) (t7 : tag id7 = ty_int) (t6 : tag id6 = ty_S_api_Step) (t4 : tag id4 = ty_int) (t3 : tag id3 = ty_S_api_Type) :
    Round lid idq ps (J2 lid idq (.loop ⟨[28, 29], a, b, N, fr, .ready⟩) id11 id3 id4 id6 id7 id8 l t ps) (X2 lid (.loop ⟨[28, 29], a, b, N, fr, .done .ret⟩) id6 id7 id8 l t ps) := by
  obtain ⟨l1, l2, l3, l4, l5, l6, l7⟩ := nl
  obtain ⟨q1, q2, q3, q4, q5, q6⟩ := nq
  obtain ⟨e1, e2, e3, e4, e5⟩ := n11
  obtain ⟨g1, g2, g3, g4⟩ := n8
  obtain ⟨k1, k2, k3⟩ := n7
  obtain ⟨k4, k5⟩ := n6
  intro i hi H b0 hH hj
  obtain ⟨o, acc, t', e, ho1, ho2, ht0, ht1, hla, hw⟩ := hj.out
  subst e
  refine AYields.freeze (K := fun r H' => ∃ Hc, Sub Hc H' ∧ (∃ q, r = .bool q) ∧ ∃ H2, Hc = (idq, b0) :: H2 ∧ ((r = .bool true ∧ hget H2 idq = none ∧ J2 lid idq (.loop ⟨[28, 29], a, b, N, fr, .ready⟩) id11 id3 id4 id6 id7 id8 l t ps (i + 1) H2) ∨ (r = .bool false ∧ X2 lid (.loop ⟨[28, 29], a, b, N, fr, .done .ret⟩) id6 id7 id8 l t ps H2))) ?_ (fun r H' ⟨Hc, hs, ⟨q, hq⟩, hk⟩ => ⟨r, Hc, hs, by subst hq; exact Fz.refl _, hk⟩)
  have hid : hget ((idq, b0) :: (lid, Blk.loop ⟨[28, 29], a, b, N, fr, .ready⟩) :: base3 o acc id11 id3 id4 id6 id7 id8 l t') lid = some (.loop ⟨[28, 29], a, b, N, fr, .ready⟩) := (hget_tail l1.symm).trans hget_self
  rw [List.drop_eq_getElem_cons hi, wayP] at hw
  have hin := step_in hv ht0 ht1 (ps[i])
  have hsp := step_spec l hl t' ht0 ht1 (ps[i])
  generalize (ps[i]) = p at *
  generalize stepP l t' p = st at *
  obtain ⟨⟨eb, en⟩, to, er⟩ := st
  dsimp only at hw hin
  rcases o with _ | ida
  · have hac := ho1 rfl
    subst hac
    have hi0 : i = 0 := hla.symm
    clear hla ho1 ho2 hpl
    dsimp only [base3, accH, accV, List.map_nil, List.length_nil] at hH hid ⊢
    refine of_bodyG mixed ha hb hfr hd rfl rfl rfl hid ?_
    clear hid hH hd ha hb hfr hj
    (first | refine au ?_ | exact au0)
    intro id12 hid12 ht12; have n12 := neAll_of hid12; (try simp only [neAll, neAll_hset] at n12); have m12 := n12; (repeat (obtain ⟨_, m12⟩ := m12))
    clear hid12
    (first | refine au ?_ | exact au0)
    refine ⟨by exact hg_of, ?_⟩
    (first | refine au ?_ | exact au0)
    first | refine callF_eq (hsp _) ?_ | refine callG_eq rfl (hsp _) ?_
    (first | refine au ?_ | exact au0)
    intro id13 hid13 ht13; have n13 := neAll_of hid13; (try simp only [neAll, neAll_hset] at n13); have m13 := n13; (repeat (obtain ⟨_, m13⟩ := m13))
    clear hid13
    (first | refine au ?_ | exact au0)
    refine bsplit_dec (fun ce => ?_) (fun ce => ?_)
    · (first | refine au ?_ | exact au0)
      refine ⟨by exact hg_of, ?_⟩
      (first | refine au ?_ | exact au0)
      refine ⟨[(idq, b0), (lid, .loop ⟨[28, 29], a, b, N, fr, .done .ret⟩), (id8, .rows 1 [[.int .i64 er]]), (id7, .rows 1 [[.int .i64 0]]), (id6, .rows 1 [[.nilS]])], ?_, ⟨false, rfl⟩, _, rfl, .inr ⟨rfl, ⟨er, rfl, by rw [hw, if_neg ce]⟩⟩⟩
      (repeat (refine Sub.of_cons ?_ ?_; (next => (repeat (first | ((with_reducible refine Eq.trans hget_self ?_); exact rfl) | with_reducible refine (hget_tail (by first | with_reducible assumption | (apply Ne.symm; with_reducible assumption))).trans ?_ | with_reducible refine (hget_set_ne (by first | with_reducible assumption | (apply Ne.symm; with_reducible assumption))).trans ?_ | with_reducible refine (hget_del_ne (by first | with_reducible assumption | (apply Ne.symm; with_reducible assumption))).trans ?_ | ((with_reducible refine Eq.trans (hget_set ?_) ?_); rotate_left; exact rfl))))))
      exact Sub.nil _
    (first | refine au ?_ | exact au0)
    refine ⟨_, rfl, (Nat.le_of_ble_eq_true rfl), (fun q => by cases q), fun _ => ?_⟩
    intro id44 hid44 ht44; have n44 := neAll_of hid44; (try simp only [neAll, neAll_hset] at n44); have m44 := n44; (repeat (obtain ⟨_, m44⟩ := m44))
    clear hid44
    (first | refine au ?_ | exact au0)
    refine ⟨by exact hg_of, ?_⟩
    (first | refine au ?_ | exact au0)
    have er0 : er = 0 := by first | exact ce | exact Classical.not_not.1 ce
    refine ⟨(idq, b0) :: (lid, .loop ⟨[28, 29], a, b, N, fr, .ready⟩) :: base3 (some id44) [(eb, en)] id11 id3 id4 id6 id7 id8 l to, ?_, ⟨true, rfl⟩, _, rfl, .inl ⟨rfl, ?_, ⟨some id44, [(eb, en)], to, rfl, (fun q => by cases q), (fun id q => by cases q; exact ⟨ht44, by assumption, by assumption, by assumption, by assumption, by assumption, by assumption, by assumption, by assumption⟩), (hin er0).1, (hin er0).2, by rw [hi0]; rfl, by rw [hw, if_pos er0]; rfl⟩⟩⟩
    · dsimp only [base3, accH, accV]
      (repeat (refine Sub.of_cons ?_ ?_; (next => (repeat (first | ((with_reducible refine Eq.trans hget_self ?_); exact rfl) | with_reducible refine (hget_tail (by first | with_reducible assumption | (apply Ne.symm; with_reducible assumption))).trans ?_ | with_reducible refine (hget_set_ne (by first | with_reducible assumption | (apply Ne.symm; with_reducible assumption))).trans ?_ | with_reducible refine (hget_del_ne (by first | with_reducible assumption | (apply Ne.symm; with_reducible assumption))).trans ?_ | ((with_reducible refine Eq.trans (hget_set ?_) ?_); rotate_left; exact rfl))))))
      exact Sub.nil _
    · refine hget_none ?_
      simp only [base3, accH, neAll]
      (repeat' apply And.intro) <;> first | with_reducible assumption | (apply Ne.symm; with_reducible assumption) | trivial
  · obtain ⟨hti, a1, a2, a3, a4, a5, a6, a7, a8⟩ := ho2 ida rfl
    have hal : acc.length ≤ 1000001 := by omega
    clear ho1 ho2 hpl
    dsimp only [base3, accH, accV] at hH hid ⊢
    refine of_bodyG mixed ha hb hfr hd rfl rfl rfl hid ?_
    clear hid hH hd ha hb hfr hj
    (first | refine au ?_ | exact au0)
    intro id12 hid12 ht12; have n12 := neAll_of hid12; (try simp only [neAll, neAll_hset] at n12); have m12 := n12; (repeat (obtain ⟨_, m12⟩ := m12))
    clear hid12
    (first | refine au ?_ | exact au0)
    refine ⟨by exact hg_of, ?_⟩
    (first | refine au ?_ | exact au0)
    first | refine callF_eq (hsp _) ?_ | refine callG_eq rfl (hsp _) ?_
    (first | refine au ?_ | exact au0)
    intro id13 hid13 ht13; have n13 := neAll_of hid13; (try simp only [neAll, neAll_hset] at n13); have m13 := n13; (repeat (obtain ⟨_, m13⟩ := m13))
    clear hid13
    (first | refine au ?_ | exact au0)
    refine bsplit_dec (fun ce => ?_) (fun ce => ?_)
    · (first | refine au ?_ | exact au0)
      refine ⟨by exact hg_of, ?_⟩
      (first | refine au ?_ | exact au0)
      refine ⟨[(idq, b0), (lid, .loop ⟨[28, 29], a, b, N, fr, .done .ret⟩), (id8, .rows 1 [[.int .i64 er]]), (id7, .rows 1 [[.int .i64 0]]), (id6, .rows 1 [[.nilS]])], ?_, ⟨false, rfl⟩, _, rfl, .inr ⟨rfl, ⟨er, rfl, by rw [hw, if_neg ce]⟩⟩⟩
      (repeat (refine Sub.of_cons ?_ ?_; (next => (repeat (first | ((with_reducible refine Eq.trans hget_self ?_); exact rfl) | with_reducible refine (hget_tail (by first | with_reducible assumption | (apply Ne.symm; with_reducible assumption))).trans ?_ | with_reducible refine (hget_set_ne (by first | with_reducible assumption | (apply Ne.symm; with_reducible assumption))).trans ?_ | with_reducible refine (hget_del_ne (by first | with_reducible assumption | (apply Ne.symm; with_reducible assumption))).trans ?_ | ((with_reducible refine Eq.trans (hget_set ?_) ?_); rotate_left; exact rfl))))))
      exact Sub.nil _
    (first | refine au ?_ | exact au0)
    refine ⟨_, _, readS_all (by exact hg_of) ?_, rfl, rfl, rfl, hti, ?_, ?_⟩
    · simp
    · simp only [List.length_map, List.length_set, List.length_replicate]; omega
    (first | refine au ?_ | exact au0)
    intro id44 hid44 ht44; have n44 := neAll_of hid44; (try simp only [neAll, neAll_hset] at n44); have m44 := n44; (repeat (obtain ⟨_, m44⟩ := m44))
    clear hid44
    (first | refine au ?_ | exact au0)
    refine ⟨by exact hg_of, ?_⟩
    (first | refine au ?_ | exact au0)
    have er0 : er = 0 := by first | exact ce | exact Classical.not_not.1 ce
    refine ⟨(idq, b0) :: (lid, .loop ⟨[28, 29], a, b, N, fr, .ready⟩) :: base3 (some id44) (acc ++ [(eb, en)]) id11 id3 id4 id6 id7 id8 l to, ?_, ⟨true, rfl⟩, _, rfl, .inl ⟨rfl, ?_, ⟨some id44, acc ++ [(eb, en)], to, rfl, (fun q => by cases q), (fun id q => by cases q; exact ⟨ht44, by assumption, by assumption, by assumption, by assumption, by assumption, by assumption, by assumption, by assumption⟩), (hin er0).1, (hin er0).2, by rw [List.length_append, hla]; rfl, by rw [hw, if_pos er0]⟩⟩⟩
    · dsimp only [base3, accH, accV]
      rw [List.map_append, List.length_append, show acc.length = (acc.map spR).length from by simp]
      have b1 : id44 ≠ lid := by assumption
      have b2 : id44 ≠ id11 := by assumption
      have b3 : id44 ≠ id4 := by assumption
      have hB : ∀ T : AH, hget T lid = some (.loop ⟨[28, 29], a, b, N, fr, .busy⟩) → ∀ c, hget (hset T lid c) lid = some c := fun T h c => hget_set h
      have hC : ∀ T : AH, hget T id11 = some (.rows 1 [[.own ida 2 0 (acc.map spR).length]]) → ∀ c, hget (hset T id11 c) id11 = some c := fun T h c => hget_set h
      have hD : ∀ T : AH, hget T id4 = some (.rows 1 [[.int .i64 t']]) → ∀ c, hget (hset T id4 c) id4 = some c := fun T h c => hget_set h
      (repeat (refine Sub.of_cons ?_ ?_; (next => (repeat (first | ((with_reducible refine Eq.trans hget_self ?_); exact rfl) | with_reducible refine (hget_tail (by first | with_reducible assumption | (apply Ne.symm; with_reducible assumption))).trans ?_ | with_reducible refine (hget_set_ne (by first | with_reducible assumption | (apply Ne.symm; with_reducible assumption))).trans ?_ | with_reducible refine (hget_del_ne (by first | with_reducible assumption | (apply Ne.symm; with_reducible assumption))).trans ?_ | (with_reducible refine (hB _ ?_ _).trans rfl) | (with_reducible refine (hC _ ?_ _).trans rfl) | (with_reducible refine (hD _ ?_ _).trans rfl))))))
      exact Sub.nil _
    · refine hget_none ?_
      simp only [base3, accH, neAll]
      (repeat' apply And.intro) <;> first | with_reducible assumption | (apply Ne.symm; with_reducible assumption) | trivial
end Go.Proofs.YtjaigpidmngaaaaGreat

namespace Go.Proofs.YtjaigpidmngaaaaGreat
attribute [local irreducible] callA callP ACalls
theorem sub_del2 {T : AH} {i k : Nat} {b x : Blk} (h1 : hget T i = none) (h2 : hget T k = none) : Sub T (hdel ((i, b) :: (k, x) :: T) k) := fun j c q => by
  have e1 : i ≠ j := fun e => by subst e; rw [h1] at q; cases q
  have e2 : j ≠ k := fun e => by subst e; rw [h2] at q; cases q
  rw [hget_del_ne e2, hget_tail e1, hget_tail e2.symm]; exact q
theorem pcs_len : ∀ (n : Nat) (s : List UInt8) (f : Bool), s.length < n → (pcs s f).length ≤ s.length + 1
  | 0, s, f, h => absurd h (Nat.not_lt_zero _)
  | n + 1, s, f, h => by
    by_cases h0 : f = false ∧ s = []
    · obtain ⟨rfl, rfl⟩ := h0
      rw [pcs_end]; simp
    by_cases h1 : 0 < (numP s).2
    · rw [pcs_num h0 h1, List.length_cons]
      have := (numP_le s).1
      have := pcs_len n (s.drop (numP s).2) false (by rw [List.length_drop]; omega)
      rw [List.length_drop] at this
      omega
    cases hr : (if f = true then some s else dotP s) with
    | none =>
      cases f with
      | true => cases hr
      | false => rw [pcs_nodot (fun q => h0 ⟨rfl, q⟩) h1 hr]; simp
    | some r =>
      rw [pcs_item h0 h1 hr]
      have h4 : r.length ≤ s.length := by
        cases f with
        | true => cases hr; exact Nat.le_refl _
        | false => rw [dotP_some hr]; simp
      split
      · simp
      · have h3 := nl_le r
        have := pcs_len n (r.drop (nl r)) false (by rw [List.length_drop]; omega)
        rw [List.length_drop] at this
        rw [List.length_cons]
        omega
set_option maxHeartbeats 4000000 in
theorem Find_spec0 (l : List Ty) (hl : TysOk l) (t : Int) (s : List UInt8) (hs : s.length ≤ 1000000) : ACalls PG path_Find.n [tysA l, .int .i64 t, .str s] [] fun r _ => r = findA (findP l t s) := by
  have hlen : (l.map tyR).length = l.length := by simp
  have hll := hl.len
  refine ACalls.fzK (path_Find.of rfl (wpF_start ?_))
  unfold findP
  (first | refine au ?_ | exact au0)
  intro id3 hid3 ht3; have n3 := neAll_of hid3; (try simp only [neAll, neAll_hset] at n3); have m3 := n3; (repeat (obtain ⟨_, m3⟩ := m3))
  (first | refine au ?_ | exact au0)
  intro id4 hid4 ht4; have n4 := neAll_of hid4; (try simp only [neAll, neAll_hset] at n4); have m4 := n4; (repeat (obtain ⟨_, m4⟩ := m4))
  (first | refine au ?_ | exact au0)
  intro id6 hid6 ht6; have n6 := neAll_of hid6; (try simp only [neAll, neAll_hset] at n6); have m6 := n6; (repeat (obtain ⟨_, m6⟩ := m6))
  (first | refine au ?_ | exact au0)
  intro id7 hid7 ht7; have n7 := neAll_of hid7; (try simp only [neAll, neAll_hset] at n7); have m7 := n7; (repeat (obtain ⟨_, m7⟩ := m7))
  (first | refine au ?_ | exact au0)
  intro id8 hid8 ht8; have n8 := neAll_of hid8; (try simp only [neAll, neAll_hset] at n8); have m8 := n8; (repeat (obtain ⟨_, m8⟩ := m8))
  (first | refine au ?_ | exact au0)
  first | refine callF_eq (path_known_spec l hl t _) ?_ | refine callG_eq rfl (path_known_spec l hl t _) ?_
  by_cases hk : knownT l t
  · rw [if_pos hk, decide_eq_true hk]
    (first | refine au ?_ | exact au0)
    refine callF_of ((path_pieces_spec s _).mono fun r H1 ⟨idp, e1, hidp, htp, e2⟩ => ?_)
    subst e1; subst e2
    (first | refine au ?_ | exact au0)
    clear hid3 hid4 hid6 hid7 hid8
    have np := neAll_of hidp
    simp only [neAll] at np
    refine ⟨fun a b fl N lid ha hb hd hli => ?_⟩
    have nl := neAll_of hli
    simp only [neAll] at nl
    generalize hfr : frm _ = fr
    have hround : Round lid idp (pcs s true) (fun i H => H = (lid, .loop ⟨[22, 23], a, b, N, fr, .ready⟩) :: base1 id3 id4 id6 id7 id8 l t ∧ ∀ j (h : j < (pcs s true).length), j < i → (pcs s true)[j].2.2 = true)
        (fun H => H = (lid, .loop ⟨[22, 23], a, b, N, fr, .done .ret⟩) :: base2 id3 id4 id6 id7 id8 l t 1 ∧ (pcs s true).all (·.2.2) = false) := by
      intro i hi H b0 hH ⟨e, hok⟩
      subst e
      refine of_bodyG mixed ha hb hfr hd rfl rfl rfl (by exact hg_of) ?_
      (first | refine au ?_ | exact au0)
      refine ⟨by exact hg_of, ?_⟩
      (first | refine au ?_ | exact au0)
      refine bsplit_intro (fun c => ?_) (fun c => ?_)
      · (first | refine au ?_ | exact au0)
        refine ⟨by exact hg_of, ?_⟩
        (first | refine au ?_ | exact au0)
        exact ⟨_, rfl, .inl ⟨rfl, hH, rfl, fun j h q => by
          by_cases e : j < i
          · exact hok j h e
          · have : j = i := by omega
            subst this; exact c⟩⟩
      · (first | refine au ?_ | exact au0)
        refine ⟨by exact hg_of, ?_⟩
        (first | refine au ?_ | exact au0)
        refine ⟨_, rfl, .inr ⟨rfl, rfl, ?_⟩⟩
        rw [← Bool.not_eq_true]
        intro q
        rw [List.all_eq_true.1 q _ (List.getElem_mem hi)] at c
        cases c
    refine ((pieces_iter s (by omega) lid idp htp _ _ hround _ ?_ ⟨rfl, fun j h q => by omega⟩).perm ?_ ?_).mono fun r H' hio => ?_
    · refine hget_none ?_
      simp only [neAll]
      (repeat' apply And.intro) <;> first | omega | trivial
    · exact Sub.swp (by omega)
    · exact Sub.swp (by omega)
    obtain ⟨b', H2, rfl, ⟨rfl, hok⟩ | ⟨rfl, hno⟩⟩ := hio.out
    · refine ⟨.ready, base1 id3 id4 id6 id7 id8 l t, ?_, ?_, ?_⟩
      · exact sub_of
      · exact hg_of
      rw [if_pos (all_ok fun j h => hok j h h)]
      (first | refine au ?_ | exact au0)
      intro id11 hid11 ht11; have n11 := neAll_of hid11; (try simp only [neAll, neAll_hset] at n11); have m11 := n11; (repeat (obtain ⟨_, m11⟩ := m11))
      (first | refine au ?_ | exact au0)
      clear hid11 hli
      have hpl := pcs_len (s.length + 1) s true (Nat.lt_succ_self _)
      have hv := tyChk_v hk.2.2
      refine callF_of ((path_pieces_spec s _).mono fun r H1 ⟨idq, e1, hidq, htq, e2⟩ => ?_)
      subst e1; subst e2
      (first | refine au ?_ | exact au0)
      have nq := neAll_of hidq
      simp only [neAll] at nq
      clear hidq
      refine ⟨fun a b fl N lid ha hb hd hli => ?_⟩
      have nl2 := neAll_of hli
      simp only [neAll] at nl2
      clear hli
      have hr := round2 (pcs s true) l hl hv t s lid idq id11 idp id8 id7 id6 id4 id3 a b fl N ha hb _ rfl hd (by omega) ⟨nl2.1, nl2.2.1, nl2.2.2.1, nl2.2.2.2.1, nl2.2.2.2.2.1, nl2.2.2.2.2.2.1, nl2.2.2.2.2.2.2.1⟩ ⟨nq.1, nq.2.1, nq.2.2.1, nq.2.2.2.1, nq.2.2.2.2.1, nq.2.2.2.2.2.1⟩ ⟨n11.1, n11.2.1, n11.2.2.1, n11.2.2.2.1, n11.2.2.2.2.1⟩ ⟨n8.1, n8.2.1, n8.2.2.1, n8.2.2.2.1⟩ ⟨n7.1, n7.2.1, n7.2.2.1⟩ ⟨n6.1, n6.2.1⟩ n4.1 ht11 ht8 ht7 ht6 ht4 ht3
      refine ((pieces_iter s (by omega) lid idq htq _ _ hr ((lid, .loop ⟨[28, 29], a, b, N, _, .ready⟩) :: (id11, .rows 1 [[.nilS]]) :: base1 id3 id4 id6 id7 id8 l t) ?_ ⟨none, [], t, rfl, fun _ => rfl, (fun id q => by cases q), hk.1, hk.2.1, rfl, rfl⟩).perm ?_ ?_).mono fun r H' hio => ?_
      · refine hget_none ?_
        simp only [neAll]
        exact ⟨nl2.1.symm, nq⟩
      · exact Sub.swp nl2.1.symm
      · exact Sub.swp nl2.1
      obtain ⟨b', H2, rfl, hj | hx⟩ := hio.out
      · obtain ⟨o, acc, t', rfl, ho1, ho2, h0, h1, hla, hw⟩ := hj.out
        rw [List.drop_length, wayP] at hw
        rw [hw]
        rcases o with _ | ida
        · have hac := ho1 rfl
          subst hac
          refine ⟨.ready, base3 none [] id11 id3 id4 id6 id7 id8 l t', ?_, (hget_tail nl2.1.symm).trans hget_self, ?_⟩
          · exact sub_del2 (hget_none (by simp only [base3, accH, neAll]; exact nq)) (hget_none (by simp only [base3, accH, neAll]; exact nl2.2))
          dsimp only [base3, accH, accV]
          (first | refine au ?_ | exact au0)
          exact fz_of
        · obtain ⟨hti, a1, a2, a3, a4, a5, a6, a7, a8⟩ := ho2 ida rfl
          refine ⟨.ready, base3 (some ida) acc id11 id3 id4 id6 id7 id8 l t', ?_, (hget_tail nl2.1.symm).trans hget_self, ?_⟩
          · exact sub_del2 (hget_none (by simp only [base3, accH, neAll]; exact ⟨a2.symm, nq⟩)) (hget_none (by simp only [base3, accH, neAll]; exact ⟨a1.symm, nl2.2⟩))
          dsimp only [base3, accH, accV]
          (first | refine au ?_ | exact au0)
          have hlm : acc.length = (acc.map spR).length := (List.length_map _).symm
          rw [hlm]
          refine Fz.tupL (FzL.cons (Fz.ownL hget_self rfl (FzR.refl _ _ _) (map_w (f := spR) (fun _ => rfl) _)) (FzL.cons (Fz.refl _) (FzL.cons (Fz.refl _) (FzL.nil _ _))))
      · obtain ⟨e, rfl, hw⟩ := hx.out
        rw [hw]
        refine ⟨.done .ret, [(id8, .rows 1 [[.int .i64 e]]), (id7, .rows 1 [[.int .i64 0]]), (id6, .rows 1 [[.nilS]])], ?_, ?_, ?_⟩
        · exact sub_del2 (hget_none (by simp only [neAll]; exact ⟨nq.2.1, nq.2.2.1, nq.2.2.2.1, trivial⟩)) (hget_none (by simp only [neAll]; exact ⟨nl2.2.2.1, nl2.2.2.2.1, nl2.2.2.2.2.1, trivial⟩))
        · exact (hget_tail nl2.1.symm).trans hget_self
        (first | refine au ?_ | exact au0)
        exact fz_of
    · refine ⟨.done .ret, (idp, b') :: base2 id3 id4 id6 id7 id8 l t 1, ?_, ?_, ?_⟩
      · exact sub_of
      · exact hg_of
      rw [hno, if_neg (by decide)]
      (first | refine au ?_ | exact au0)
      exact fz_of
  · rw [if_neg hk, decide_eq_false hk]
    (first | refine au ?_ | exact au0)
    exact fz_of
theorem Find_spec (l : List Ty) (hl : TysOk l) (t : Int) (s : List UInt8) (hs : s.length ≤ 1000000) (H : AH) : ACalls PG path_Find.n [tysA l, .int .i64 t, .str s] H fun r H' => r = findA (findP l t s) ∧ H' = H := (Find_spec0 l hl t s hs).frame H
end Go.Proofs.YtjaigpidmngaaaaGreat

namespace Go.Proofs.YtjaigpidmngaaaaGreat
theorem decD_dec : ∀ (k n : Nat), n < 10 ^ k → decD k n = if k = 0 then [] else Lib.decDigits n
  | 0, n, h => by simp [decD]
  | k + 1, n, h => by
    rw [if_neg (Nat.succ_ne_zero k), decD, Lib.decDigits]
    by_cases h1 : n < 10
    · rw [if_pos h1, dif_pos h1]
    · rw [if_neg h1, dif_neg h1]
      have hk : k ≠ 0 := by intro e; subst e; simp at h; omega
      rw [decD_dec k (n / 10) (by rw [Nat.pow_succ] at h; omega), if_neg hk]
theorem dec_eq {n : Nat} (h : n < 18446744073709551616) : dec n = Lib.decDigits n := by
  have := decD_dec 20 n (by omega)
  rw [if_neg (by omega)] at this
  exact this
theorem decD_len : ∀ (k n : Nat), (decD k n).length ≤ k
  | 0, n => by simp [decD]
  | k + 1, n => by
    have := decD_len k (n / 10)
    rw [decD]
    split
    · simp
    · simp; omega
theorem dec_len (n : Nat) : (dec n).length ≤ 20 := decD_len 20 n
end Go.Proofs.YtjaigpidmngaaaaGreat

namespace Go.Proofs.YtjaigpidmngaaaaGreat
def brk (n : Nat) : List UInt8 := 91 :: (dec n ++ [93])
theorem dec_small : ∀ n, n < 100 → dec n = (if n < 10 then [UInt8.ofNat (48 + n)] else [UInt8.ofNat (48 + n / 10), UInt8.ofNat (48 + n % 10)]) := by decide +kernel
theorem brk_small : ∀ n, n < 100 → (dec n).all dig = true ∧ numV (dec n) = n ∧ Lib.indexByte (brk n) 93 = (dec n).length + 1 ∧ (dec n).length ≤ 2 ∧ 1 ≤ (dec n).length ∧ ((dec n).getD 0 0 = 48 → (dec n).length = 1) := by decide +kernel
theorem indexByte_app (c : UInt8) (b : List UInt8) : ∀ (a : List UInt8) (_ : 0 ≤ Lib.indexByte a c), Lib.indexByte (a ++ b) c = Lib.indexByte a c
  | [], h => by simp [Lib.indexByte] at h
  | x :: a, h => by
    have ih := indexByte_app c b a
    have h2 := indexByte_lt a c
    unfold Lib.indexByte at h ⊢
    simp only [List.cons_append] at h ⊢
    by_cases e : x == c
    · simp [e]
    · simp only [e] at h ⊢
      by_cases q : Lib.indexByte a c = -1
      · simp [q] at h
      · rw [ih (by omega)]
theorem numP_brk {n : Nat} (hn : n < 100) (r : List UInt8) : numP (brk n ++ r) = (n, (brk n).length) := by
  obtain ⟨h1, h2, h3, h4, h5, h6⟩ := brk_small n hn
  have hi : Lib.indexByte (brk n ++ r) 93 = (dec n).length + 1 := by rw [indexByte_app _ _ _ (by omega), h3]
  have hl : (brk n).length = (dec n).length + 2 := by simp [brk]
  have ht : ((brk n ++ r).take ((dec n).length + 1)).drop 1 = dec n := by
    simp only [brk, List.cons_append, List.append_assoc, List.take_succ_cons, List.drop_succ_cons, List.drop_zero]
    exact List.take_left' rfl
  have hg : (brk n ++ r).getD 1 0 = (dec n).getD 0 0 := by
    cases e : dec n with
    | nil => rw [e] at h5; simp at h5
    | cons a t => simp [brk, e]
  unfold numP
  rw [hi, show ((dec n).length + 1 : Int).toNat = (dec n).length + 1 from by omega, ht, hg, if_neg, if_pos h1, h2, hl]
  rintro (q | q | q | q | q)
  · rw [List.length_append] at q; omega
  · exact q (by simp [brk])
  · omega
  · omega
  · have := h6 q.1; omega
theorem numP_hit {s : List UInt8} (h : 0 < (numP s).2) : ∃ r, s = brk (numP s).1 ++ r := by
  unfold numP at h ⊢
  split at h
  · simp at h
  rename_i hc
  split at h
  rotate_left
  · simp at h
  rename_i hd
  rw [if_neg hc, if_pos hd]
  dsimp only
  have hc1 : ¬ s.length < 3 := fun q => hc (.inl q)
  have hc2 : s.getD 0 0 = 91 := Classical.byContradiction fun q => hc (.inr (.inl q))
  have hc3 : 2 ≤ Lib.indexByte s 93 := Classical.byContradiction fun q => hc (.inr (.inr (.inl (by omega))))
  have hc4 : Lib.indexByte s 93 ≤ 3 := Classical.byContradiction fun q => hc (.inr (.inr (.inr (.inl (by omega)))))
  have hc5 : ¬ (s.getD 1 0 = 48 ∧ 2 < Lib.indexByte s 93) := fun q => hc (.inr (.inr (.inr (.inr q))))
  clear hc h
  have key : ∀ n, n < 100 → ∀ r, s = 91 :: ((if n < 10 then [UInt8.ofNat (48 + n)] else [UInt8.ofNat (48 + n / 10), UInt8.ofNat (48 + n % 10)]) ++ 93 :: r) → ∃ r, s = brk n ++ r := fun n hn r e => ⟨r, by rw [e, ← dec_small n hn]; simp [brk]⟩
  match s, hc1, hc2, hc3, hc4, hc5, hd, key with
  | [], c, _, _, _, _, _, _ => simp at c
  | [_], c, _, _, _, _, _, _ => simp at c
  | [_, _], c, _, _, _, _, _, _ => simp at c
  | a :: b :: c :: t, _, q2, q3, q4, q5, hd, key =>
    simp only [List.getD_cons_zero] at q2
    subst q2
    have hb : b ≠ 93 := by
      intro e; subst e
      simp [Lib.indexByte] at q3
    by_cases hcc : c = 93
    · subst hcc
      have ei : Lib.indexByte (91 :: b :: 93 :: t) 93 = 2 := by simp [Lib.indexByte, hb]
      rw [ei] at hd ⊢
      simp only [show (2 : Int).toNat = 2 from rfl, List.take_succ_cons, List.take_zero, List.drop_succ_cons, List.drop_zero, List.all_cons, List.all_nil, Bool.and_true] at hd ⊢
      have hb2 : 48 ≤ b.toNat ∧ b.toNat ≤ 57 := by simpa [dig] using hd
      have en : numV [b] = b.toNat - 48 := by simp [numV]
      rw [en]
      refine key _ (by omega) t ?_
      rw [if_pos (by omega), show 48 + (b.toNat - 48) = b.toNat from by omega, UInt8.ofNat_toNat]
      rfl
    · have ht := indexByte_lt t 93
      have ei : Lib.indexByte (91 :: b :: c :: t) 93 = (if Lib.indexByte t 93 = -1 then -1 else Lib.indexByte t 93 + 3) := by
        simp only [Lib.indexByte, beq_iff_eq, hb, hcc, if_false, show ¬ ((91 : UInt8) = 93) from by decide]
        split <;> simp_all <;> omega
      have e0 : Lib.indexByte t 93 = 0 := by
        rw [ei] at q3 q4
        split at q3
        · omega
        · rename_i h; rw [if_neg h] at q4; omega
      rw [ei, e0] at hd q5 ⊢
      obtain ⟨r, rfl⟩ : ∃ r, t = 93 :: r := by
        cases t with
        | nil => simp [Lib.indexByte] at e0
        | cons x t =>
          refine ⟨t, ?_⟩
          have h2 := indexByte_lt t 93
          by_cases e : x = 93
          · rw [e]
          · simp only [Lib.indexByte, beq_iff_eq, e, if_false] at e0
            split at e0 <;> omega
      simp only [if_neg (show ¬ ((0 : Int) = -1) from by decide), show ((0 : Int) + 3).toNat = 3 from rfl, List.take_succ_cons, List.take_zero, List.drop_succ_cons, List.drop_zero, List.all_cons, List.all_nil, Bool.and_true, Bool.and_eq_true] at hd q5 ⊢
      have hb2 : 48 ≤ b.toNat ∧ b.toNat ≤ 57 := by simpa [dig] using hd.1
      have hc2 : 48 ≤ c.toNat ∧ c.toNat ≤ 57 := by simpa [dig] using hd.2
      have en : numV [b, c] = 10 * (b.toNat - 48) + (c.toNat - 48) := by
        simp [numV]
      have hb3 : b.toNat ≠ 48 := by
        intro e
        refine q5 ⟨?_, by decide⟩
        simp only [List.getD_cons_succ, List.getD_cons_zero]
        exact UInt8.toNat_inj.1 e
      rw [en]
      refine key _ (by omega) r ?_
      rw [if_neg (by omega), show 48 + (10 * (b.toNat - 48) + (c.toNat - 48)) / 10 = b.toNat from by omega, show 48 + (10 * (b.toNat - 48) + (c.toNat - 48)) % 10 = c.toNat from by omega, UInt8.ofNat_toNat, UInt8.ofNat_toNat]
      rfl
def hitB (s : List UInt8) (n : Nat) : Bool := decide ((brk n).length ≤ s.length) && decide (s.take (brk n).length = brk n)
theorem hit_num {s : List UInt8} {n : Nat} (hn : n < 100) (h : hitB s n = true) : numP s = (n, (brk n).length) := by
  simp only [hitB, Bool.and_eq_true, decide_eq_true_eq] at h
  have e : brk n ++ s.drop (brk n).length = s := by
    have q := List.take_append_drop (brk n).length s
    rw [h.2] at q; exact q
  have := numP_brk hn (s.drop (brk n).length)
  rw [e] at this
  exact this
theorem num_hit {s : List UInt8} (h : 0 < (numP s).2) : hitB s (numP s).1 = true := by
  obtain ⟨r, e⟩ := numP_hit h
  have hn := (numP_le s).2
  simp only [hitB, Bool.and_eq_true, decide_eq_true_eq]
  generalize (numP s).1 = n at *
  subst e
  exact ⟨by simp, List.take_left' rfl⟩
end Go.Proofs.YtjaigpidmngaaaaGreat

namespace Go.Proofs.YtjaigpidmngaaaaGreat
attribute [local irreducible] callA callP ACalls
theorem r1_Byte_spec (n : Nat) (hn : n < 256) (H : AH) : ACalls PG broadsheetref01_Byte.n [.int .i64 (n : Nat)] H fun r H' => r = .str [UInt8.ofNat n] ∧ H' = H := by
  refine ACalls.fz (broadsheetref01_Byte.of rfl (wpF_start ?_))
  (first | refine au ?_ | exact au0)
  refine ⟨[[.int .u8 (n : Nat)]], [UInt8.ofNat n], rfl, ?_, ?_⟩
  · unfold bytesA
    rw [if_pos (by omega)]
    rfl
  (first | refine au ?_ | exact au0)
  exact ⟨fz_of, sub_of⟩
theorem dec_step (n : Nat) : Lib.decDigits n = (if n < 10 then [] else Lib.decDigits (n / 10)) ++ [UInt8.ofNat (48 + n % 10)] := by
  rw [Lib.decDigits]
  by_cases h : n < 10
  · rw [dif_pos h, if_pos h, Nat.mod_eq_of_lt h]; rfl
  · rw [dif_neg h, if_neg h]
theorem Digits_spec (n : Nat) (hn : n < 18446744073709551616) (H : AH) : ACalls PG broadsheetref08_Digits.n [.int .u64 (n : Nat)] H fun r H' => r = .str (dec n) ∧ H' = H := by
  rw [dec_eq hn]
  have hdl : (Lib.decDigits n).length ≤ 20 := by rw [← dec_eq hn]; exact dec_len n
  refine ACalls.fz (broadsheetref08_Digits.of rfl (wpF_start ?_))
  (first | refine au ?_ | exact au0)
  refine loopM (S := Nat × List UInt8) [] (fun s => [(0, some (.int .u64 (s.1 : Nat))), (3, some (.str s.2))]) (fun _ => H) (fun s => s.1) (fun s => s.1 ≤ n ∧ Lib.decDigits s.1 ++ s.2 = Lib.decDigits n) (n, []) (by exact cov_of) (Sub.refl _) ⟨Nat.le_refl _, by simp⟩ (fun s hs => ?_)
  obtain ⟨m, s⟩ := s
  obtain ⟨hm, hs⟩ := hs
  dsimp only at hm hs ⊢
  have hsl : s.length ≤ 20 := by rw [← hs, List.length_append] at hdl; omega
  rw [dec_step] at hs
  (first | refine au ?_ | exact au0)
  rw [show (48 : Int) + (m : Int) % 10 = ((48 + m % 10 : Nat) : Int) from by omega]
  first | refine callF_eq (r1_Byte_spec (48 + m % 10) (by omega) _) ?_ | refine callG_eq rfl (r1_Byte_spec (48 + m % 10) (by omega) _) ?_
  (first | refine au ?_ | exact au0)
  refine bsplit_dec (fun c => ?_) (fun c => ?_)
  · rw [if_pos (by omega), List.nil_append] at hs
    (first | refine au ?_ | exact au0)
    rw [hs]
    exact ⟨fz_of, sub_of⟩
  · rw [if_neg (by omega), List.append_assoc] at hs
    (first | refine au ?_ | exact au0)
    exact nextS (S := Nat × List UInt8) (m / 10, [UInt8.ofNat (48 + m % 10)] ++ s) (by exact cov_of) (Sub.refl _) (by dsimp only; omega) ⟨by dsimp only; omega, hs⟩
end Go.Proofs.YtjaigpidmngaaaaGreat

namespace Go.Proofs.YtjaigpidmngaaaaGreat
open Go.RowKit
theorem hty_lt {h : Array Obj} {b : Nat} {t : Nat × TypeId} (q : hty h b = some t) : b < h.size := by
  unfold hty at q
  split at q
  · rename_i hx
    exact (Array.getElem?_eq_some_iff.1 hx).1
  · rename_i hx
    exact (Array.getElem?_eq_some_iff.1 hx).1
  · cases q
theorem Below.hty {w w' : World} (q : Below w.heap.size w w') (b : Nat) (t : Nat × TypeId) (h : hty w.heap b = some t) : Go.Proofs.YtjaigpidmngaaaaGreat.hty w'.heap b = some t := by
  have := q.block b (hty_lt h)
  unfold Go.Proofs.YtjaigpidmngaaaaGreat.hty at h ⊢
  rw [this]
  exact h
theorem ACalls.belowT {P : Program} {f : Nat} {args : List AV} {v : AV} (hc : callable P f = true)
    (h : ∀ (w : World) (ρ : Loc) (Z : Nat → Prop) (xs : List Value), TabG w.heap Z → (∀ b, Z b → b < w.heap.size) → RlL w.heap ρ Z args xs → Calls P f xs.toArray w fun e w' => ∃ x, e = .returned x ∧ Rl w'.heap ρ Z v x ∧ Below w.heap.size w w') :
    ACalls P f args [] fun r _ => r = v := by
  refine ⟨hc, fun w ρ Z xs g hr => (h w ρ Z xs g.tab g.zlt hr).mono fun e w' ⟨x, e1, e2, e3⟩ => ⟨x, v, [], ρ, Z, e1, ?_, e2, ?_, rfl⟩⟩
  · refine ⟨fun _ _ q => (by cases q), fun _ _ _ _ _ _ _ _ q => (by cases q), fun b ⟨_, _, _, q, _⟩ => (by cases q), fun b q => Nat.lt_of_lt_of_le (g.zlt b q) e3.size, g.ids, fun id b o q => ?_, g.tab.of (fun _ q => q) (fun b q => e3.block b (g.zlt b q))⟩
    obtain ⟨h1, m, h2⟩ := g.ty id b o q
    exact ⟨h1, m, Below.hty e3 b _ h2⟩
  · exact ⟨e3.size, fun b hb _ => e3.block b hb, fun b t q => Below.hty e3 b t q, fun _ q => q, fun _ q => .inl q, fun _ _ q => q, fun b ⟨_, _, _, q, _⟩ => (by cases q), e3.os, e3.output, e3.tape⟩
theorem ACalls.below {P : Program} {f : Nat} {args : List AV} {v : AV} (hc : callable P f = true)
    (h : ∀ (w : World) (ρ : Loc) (Z : Nat → Prop) (xs : List Value), RlL w.heap ρ Z args xs → Calls P f xs.toArray w fun e w' => ∃ x, e = .returned x ∧ Rl w'.heap ρ Z v x ∧ Below w.heap.size w w') :
    ACalls P f args [] fun r _ => r = v := ACalls.belowT hc fun w ρ Z xs _ _ => h w ρ Z xs
theorem RlL.two {h : Array Obj} {ρ : Loc} {Z : Nat → Prop} {a b : AV} {xs : List Value} (q : RlL h ρ Z [a, b] xs) : ∃ x y, xs = [x, y] ∧ Rl h ρ Z a x ∧ Rl h ρ Z b y := by
  obtain ⟨hl, hr⟩ := q
  match xs, hl with
  | [x, y], _ => exact ⟨x, y, rfl, hr 0 a x rfl rfl, hr 1 b y rfl rfl⟩
theorem RlL.one {h : Array Obj} {ρ : Loc} {Z : Nat → Prop} {a : AV} {xs : List Value} (q : RlL h ρ Z [a] xs) : ∃ x, xs = [x] ∧ Rl h ρ Z a x := by
  obtain ⟨hl, hr⟩ := q
  match xs, hl with
  | [x], _ => exact ⟨x, rfl, hr 0 a x rfl rfl⟩
theorem ACalls.sub {P : Program} {f : Nat} {args : List AV} {H H1 : AH} {v : AV} (h : ACalls P f args H fun r H' => r = v ∧ Sub H1 H') : ACalls P f args H fun r H' => r = v ∧ H' = H1 :=
  h.freeze fun r H' ⟨a, b⟩ => ⟨r, H1, b, .refl _, a, rfl⟩
theorem sub_hset {H H' : AH} {id : Nat} {b : Blk} (h1 : hget H' id = some b) (h2 : ∀ j c, j ≠ id → hget H j = some c → hget H' j = some c) : Sub (hset H id b) H' := fun j c q => by
  rw [hget_hset] at q
  split at q
  · rename_i e
    subst e
    cases hh : hget H j with
    | none => rw [hh] at q; cases q
    | some d => rw [hh] at q; simp only [Option.map_some, Option.some.injEq] at q; rw [← q]; exact h1
  · rename_i e; exact h2 j c e q
end Go.Proofs.YtjaigpidmngaaaaGreat

namespace Go.Proofs.YtjaigpidmngaaaaGreat
attribute [local irreducible] callA callP ACalls
theorem token_digit_spec (c : UInt8) (H : AH) : ACalls PG token_digit.n [u8A c] H fun r H' => r = .bool (dig c) ∧ H' = H := by
  rw [bool_iff (dig_iff c)]
  refine token_digit.of rfl (wpF_start ?_)
  (repeat' (first | (refine au ?_; first | refine bsplit_dec (fun _ => ?_) (fun _ => ?_) | refine bsplit_intro (fun _ => ?_) (fun _ => ?_)) | exact au0 | fail)); (all_goals try (first | refine au ?_ | fail))
  all_goals (conv => whnf)
  all_goals exact ⟨congrArg AV.bool (by first | exact (decide_eq_true (by omega)).symm | exact (decide_eq_false (by omega)).symm | exact decide_eq_decide.2 (by omega)), rfl⟩
theorem token_blank_spec (c : UInt8) (H : AH) : ACalls PG token_blank.n [u8A c] H fun r H' => r = .bool (blnk c) ∧ H' = H := by
  rw [bool_iff (blnk_iff c)]
  refine token_blank.of rfl (wpF_start ?_)
  (repeat' (first | (refine au ?_; first | refine bsplit_dec (fun _ => ?_) (fun _ => ?_) | refine bsplit_intro (fun _ => ?_) (fun _ => ?_)) | exact au0 | fail)); (all_goals try (first | refine au ?_ | fail))
  all_goals (conv => whnf)
  all_goals exact ⟨congrArg AV.bool (by first | exact (decide_eq_true (by omega)).symm | exact (decide_eq_false (by omega)).symm | exact decide_eq_decide.2 (by omega)), rfl⟩
def lx (s : List UInt8) (at' : Nat) : Blk := .rows 2 [[.str s, .int .i64 (at' : Nat)]]
theorem lexer_rest_spec {s : List UInt8} {at' id : Nat} {H : AH} (hg : hget H id = some (lx s at')) (ha : at' ≤ s.length) (hs : s.length ≤ 140737488351232) :
    ACalls PG token_lexer_rest.n [.ptr id 2 0 0] H fun r H' => r = .str (s.drop at') ∧ H' = H := by
  unfold lx at hg
  refine token_lexer_rest.of rfl (wpF_start ?_)
  (first | refine ah ?_ | exact ah0)
  exact ⟨by simp, rfl⟩
theorem lexer_cut_spec {s : List UInt8} {at' id n : Nat} {k : Int} {H : AH} (hg : hget H id = some (lx s at')) (ha : at' + n ≤ s.length) (hs : s.length ≤ 140737488351232) :
    ACalls PG token_lexer_cut.n [.ptr id 2 0 0, .int .i64 k, .int .i64 n] H fun r H' => r = .agg [.int .i64 k, .str ((s.drop at').take n), .int .u64 0, .int .i64 at'] ∧ H' = hset H id (lx s (at' + n)) := by
  have hg0 := hg
  unfold lx at hg0
  refine ACalls.sub (token_lexer_cut.of rfl (wpF_start ?_))
  (first | refine ah ?_ | exact ah0)
  intro id6 hid6 ht6
  have n6 : id6 ≠ id := hget_ne_of hid6 hg
  (first | refine ah ?_ | exact ah0)
  have hdl : (s.drop at').length = s.length - at' := List.length_drop
  refine callG_eq rfl (lexer_rest_spec ((hget_tail n6).trans hg) (by omega) hs) ?_
  (first | refine ah ?_ | exact ah0)
  intro id7 hid7 ht7
  have n7 : id7 ≠ id := hget_ne_of (hget_fresh hid7).2 hg
  have n76 : id7 ≠ id6 := (hget_fresh hid7).1
  (first | refine ah ?_ | exact ah0)
  exact Sub.cons (Sub.cons (Sub.refl _) ((hget_set_ne n6).trans hid6)) ((hget_tail n76.symm).trans ((hget_set_ne n7).trans (hget_fresh hid7).2))
theorem kinds1_spec (c : UInt8) (H : AH) : ACalls PG token_kinds_1.n [u8A c] H fun r H' => r = .bool (ltr c) ∧ H' = H := by
  refine token_kinds_1.of rfl (wpF_start ?_)
  (first | refine ah ?_ | exact ah0)
  refine ⟨_, _, rfl, (show bytesA [[u8A c]] = some [c] from by simp [bytesA]; have := c.toNat_lt; omega), ?_⟩
  (first | refine ah ?_ | exact ah0)
  refine callF_eq (name_Lead_spec [c] (by simp) _) ?_
  (first | refine ah ?_ | exact ah0)
  refine ⟨congrArg AV.bool ?_, rfl⟩
  rw [nl_cons]
  cases ltr c <;> simp
theorem kinds2_spec (c : UInt8) (H : AH) : ACalls PG token_kinds_2.n [u8A c] H fun r H' => r = .bool (decide (c = 39)) ∧ H' = H := by
  refine token_kinds_2.of rfl (wpF_start ?_)
  (first | refine ah ?_ | exact ah0)
  exact ⟨congrArg AV.bool (decide_eq_decide.2 (u8lit c 39 (by decide))), rfl⟩
theorem kinds3_spec (c : UInt8) (H : AH) : ACalls PG token_kinds_3.n [u8A c] H fun r H' => r = .bool (decide (c = 37)) ∧ H' = H := by
  refine token_kinds_3.of rfl (wpF_start ?_)
  (first | refine ah ?_ | exact ah0)
  exact ⟨congrArg AV.bool (decide_eq_decide.2 (u8lit c 37 (by decide))), rfl⟩
theorem kinds4_spec (c : UInt8) (H : AH) : ACalls PG token_kinds_4.n [u8A c] H fun r H' => r = .bool (sgn c) ∧ H' = H := by
  refine token_kinds_4.of rfl (wpF_start ?_)
  (first | refine ah ?_ | exact ah0)
  refine callF_eq (strings_IndexByte_spec _ c _) ?_
  (first | refine ah ?_ | exact ah0)
  exact ⟨congrArg AV.bool (bool_iff (indexByte_in _ c).symm).symm, rfl⟩
theorem stringslite_HasPrefix_spec (s p : List UInt8) (H : AH) : ACalls PG stringslite_HasPrefix.n [.str s, .str p] H fun r H' => r = .bool (decide (p.length ≤ s.length) && decide (s.take p.length = p)) ∧ H' = H := by
  refine stringslite_HasPrefix.of rfl (wpF_start ?_)
  (first | refine ah ?_ | exact ah0)
  refine bsplit_dec (fun h => ?_) (fun h => ?_)
  · (first | refine ah ?_ | exact ah0)
    exact ⟨by rw [decide_eq_true (show p.length ≤ s.length from by omega)]; simp, rfl⟩
  · (first | refine ah ?_ | exact ah0)
    exact ⟨by rw [decide_eq_false (show ¬ p.length ≤ s.length from by omega)]; simp, rfl⟩
theorem strings_HasPrefix_spec (s p : List UInt8) (H : AH) : ACalls PG strings_HasPrefix.n [.str s, .str p] H fun r H' => r = .bool (decide (p.length ≤ s.length) && decide (s.take p.length = p)) ∧ H' = H := by
  refine strings_HasPrefix.of rfl (wpF_start ?_)
  (first | refine ah ?_ | exact ah0)
  refine callF_eq (stringslite_HasPrefix_spec s p _) ?_
  (first | refine ah ?_ | exact ah0)
end Go.Proofs.YtjaigpidmngaaaaGreat

namespace Go.Proofs.YtjaigpidmngaaaaGreat
attribute [local irreducible] callA callP ACalls
theorem callF_to {P : Program} {f : Nat} {args : List AV} {H H1 : AH} {K : AV → AH → Prop} {r : AV} (h : ACalls P f args H fun r' H' => r' = r ∧ H' = H1) (k : K r H1) : callF P f args H K :=
  callF_of (h.mono fun r' H' ⟨a, b⟩ => by rw [a, b]; exact k)
abbrev tyBld : Nat := ty_strings_Builder
abbrev tyU8 : Nat := ty_uint8
def byteRow (l : List UInt8) : List (List AV) := l.map fun c => [u8A c]
theorem byteRow_len (l : List UInt8) : (byteRow l).length = l.length := by simp [byteRow]
theorem byteRow_bytes (l : List UInt8) : bytesA (byteRow l) = some l := by
  induction l with
  | nil => rfl
  | cons c l ih =>
    have hc := c.toNat_lt
    show bytesA ([u8A c] :: byteRow l) = _
    unfold bytesA
    rw [if_pos (by omega), ih]
    simp
structure Bld (H : AH) (id : Nat) (ob : Option Nat) (l : List UInt8) : Prop where
  tg : tag id = tyBld
  blk : ∃ p v, hget H id = some (.rows 2 [[p, v]]) ∧ (p = .nilP ∨ p = .ptr id 2 0 0) ∧
    ((ob = none ∧ v = .nilS ∧ l = []) ∨ ∃ idb, ob = some idb ∧ v = .own idb 1 0 l.length ∧ hget H idb = some (.rows 1 (byteRow l)) ∧ tag idb = tyU8 ∧ idb ≠ id ∧ 0 < l.length)
theorem copyCheck_spec {id : Nat} {H : AH} {p v : AV} (hg : hget H id = some (.rows 2 [[p, v]])) (hp : p = .nilP ∨ p = .ptr id 2 0 0) (ht : tag id = tyBld) :
    ACalls PG strings_Builder_copyCheck.n [.ptr id 2 0 0] H fun r H' => r = .tup [] ∧ H' = hset H id (.rows 2 [[.ptr id 2 0 0, v]]) := by
  refine ACalls.sub (strings_Builder_copyCheck.of rfl (wpF_start ?_))
  rcases hp with rfl | rfl
  · (first | refine ah ?_ | exact ah0)
    refine ⟨⟨rfl, by simp⟩, rfl, ?_⟩
    (first | refine ah ?_ | exact ah0)
    exact Sub.refl _
  · (first | refine ah ?_ | exact ah0)
    exact sub_hset hg (fun j c _ q => q)
theorem readS_own {H : AH} {id sz lo hi : Nat} {l : List (List AV)} (hg : hget H id = some (.rows sz l)) (h : hi ≤ l.length) : readS H false sz (.own id sz lo hi) = some ((l.take hi).drop lo) := by
  simp [readS, hg, h]
theorem WriteByte_spec {id : Nat} {ob : Option Nat} {l : List UInt8} {c : UInt8} {H : AH} (hb : Bld H id ob l) (hl : l.length ≤ 140737488351232) :
    ACalls PG strings_Builder_WriteByte.n [.ptr id 2 0 0, u8A c] H fun r H' => r = .nilI ∧ ∃ idb, Bld H' id (some idb) (l ++ [c]) ∧ (hget H idb = none ∨ ob = some idb) ∧ ∀ j b, j ≠ id → ob ≠ some j → hget H j = some b → hget H' j = some b := by
  obtain ⟨ht, p, v, hg, hp, hv⟩ := hb
  refine strings_Builder_WriteByte.of rfl (wpF_start ?_)
  (first | refine ah ?_ | exact ah0)
  refine callF_to (copyCheck_spec hg hp ht) ?_
  have hg1 : hget (hset H id (.rows 2 [[.ptr id 2 0 0, v]])) id = some (.rows 2 [[.ptr id 2 0 0, v]]) := hget_set hg
  have hk1 : ∀ j b, j ≠ id → hget H j = some b → hget (hset H id (.rows 2 [[.ptr id 2 0 0, v]])) j = some b := fun j b q r => (hget_set_ne q).trans r
  have hf1 : ∀ j, j ≠ id → hget (hset H id (.rows 2 [[.ptr id 2 0 0, v]])) j = none → hget H j = none := fun j q r => (hget_set_ne q).symm.trans r
  generalize hset H id (.rows 2 [[.ptr id 2 0 0, v]]) = H1 at *
  rcases hv with ⟨rfl, rfl, rfl⟩ | ⟨idb, rfl, rfl, hgb, htb, hne, hpos⟩
  · (first | refine ah ?_ | exact ah0)
    refine ⟨_, rfl, by simp, (fun e => by cases e), fun _ => ?_⟩
    intro idn hidn htn
    have nn : idn ≠ id := hget_ne_of hidn hg1
    (first | refine ah ?_ | exact ah0)
    refine ⟨idn, ⟨ht, .ptr id 2 0 0, .own idn 1 0 1, ?_, .inr rfl, .inr ⟨idn, rfl, rfl, ?_, htn, nn, by simp⟩⟩, .inl (hf1 idn nn hidn), fun j b q _ r => ?_⟩
    · exact (hget_tail nn).trans (hget_set hg1)
    · exact hget_self
    · exact (hget_tail (hget_ne_of hidn (hk1 j b q r))).trans ((hget_set_ne q).trans (hk1 j b q r))
  · have hgb1 := hk1 _ _ hne hgb
    have exs : ((byteRow l).take l.length).drop 0 = byteRow l := by rw [List.drop_zero, ← byteRow_len, List.take_length]
    (first | refine ah ?_ | exact ah0)
    refine ⟨_, _, (readS_own hgb1 (by rw [byteRow_len]; exact Nat.le_refl _)).trans (congrArg some exs), rfl, rfl, rfl, htb, by rw [byteRow_len]; simp; omega, ?_⟩
    intro idn hidn htn
    have nn : idn ≠ id := hget_ne_of hidn hg1
    have nb : idn ≠ idb := hget_ne_of hidn hgb1
    (first | refine ah ?_ | exact ah0)
    have hg2 : hget (hdel H1 idb) id = some (.rows 2 [[.ptr id 2 0 0, .own idb 1 0 l.length]]) := (hget_del_ne hne.symm).trans hg1
    refine ⟨idn, ⟨ht, .ptr id 2 0 0, .own idn 1 0 (l ++ [c]).length, ?_, .inr rfl, .inr ⟨idn, rfl, rfl, ?_, htn, nn, by simp⟩⟩, .inl (hf1 idn nn hidn), fun j b q q2 r => ?_⟩
    · refine (hget_tail nn).trans ((hget_set hg2).trans ?_)
      have : (byteRow l).length + ((List.replicate 1 [AV.int .u8 0]).set 0 (u8A c).cells).length = (l ++ [c]).length := by rw [byteRow_len, List.length_append]; rfl
      rw [← this]; rfl
    · refine hget_self.trans ?_
      simp [byteRow]
      rfl
    · have qb : j ≠ idb := fun e => q2 (by rw [e])
      exact (hget_tail (hget_ne_of hidn (hk1 j b q r))).trans ((hget_set_ne q).trans ((hget_del_ne qb).trans (hk1 j b q r)))
theorem String_spec {id : Nat} {ob : Option Nat} {l : List UInt8} {H : AH} (hb : Bld H id ob l) (hl : l.length ≤ 140737488351232) :
    ACalls PG strings_Builder_String.n [.ptr id 2 0 0] H fun r H' => r = .str l ∧ ∀ j b, ob ≠ some j → hget H j = some b → hget H' j = some b := by
  obtain ⟨ht, p, v, hg, hp, hv⟩ := hb
  refine strings_Builder_String.of rfl (wpF_start ?_)
  rcases hv with ⟨rfl, rfl, rfl⟩ | ⟨idb, rfl, rfl, hgb, htb, hne, hpos⟩
  · (first | refine ah ?_ | exact ah0)
    exact fun j b _ q => q
  · (first | refine ah ?_ | exact ah0)
    refine ⟨_, l, hgb, ?_, rfl, rfl, rfl, by omega, by rw [byteRow_len]; omega, by omega, htb, ?_⟩
    · rw [show (((l.length - 0 : Nat) : Int)).toNat = (byteRow l).length from by rw [byteRow_len]; omega, List.take_length, byteRow_bytes]
    (first | refine ah ?_ | exact ah0)
    exact fun j b q r => (hget_del_ne (fun e => q (by rw [e]))).trans r
end Go.Proofs.YtjaigpidmngaaaaGreat

namespace Go.Proofs.YtjaigpidmngaaaaGreat
attribute [local irreducible] callA callP ACalls
def tokA (k : Int) (t : List UInt8) (num : Int) (at' : Int) : AV := .agg [.int .i64 k, .str t, .int .u64 num, .int .i64 at']
abbrev fltA (e at' : Int) : AV := .agg [.int .i64 e, .int .i64 at']
abbrev tkB (k : Int) (t : List UInt8) (num : Int) (at' : Int) : Blk := .rows 4 [[.int .i64 k, .str t, .int .u64 num, .int .i64 at']]
abbrev flB (e at' : Int) : Blk := .rows 2 [[.int .i64 e, .int .i64 at']]
def Keep (id : Nat) (H H' : AH) : Prop := ∀ j b, j ≠ id → hget H j = some b → hget H' j = some b
structure TkK (s : List UInt8) (at' id : Nat) (H : AH) (R : LR) (r : AV) (H' : AH) : Prop where
  tok : ∀ k t num n, R = .tok k t num n → r = .tup [tokA k t num at', fltA 0 0] ∧ hget H' id = some (lx s (at' + n))
  bad : ∀ e off, R = .bad e off → ∃ k t num a, r = .tup [tokA k t num a, fltA e (at' + off : Nat)]
  keep : Keep id H H'
theorem TkK.of_tok {s : List UInt8} {at' id : Nat} {H : AH} {k : Int} {t : List UInt8} {num n : Nat} {r : AV} {H' : AH} (h : r = .tup [tokA k t num at', fltA 0 0]) (h1 : hget H' id = some (lx s (at' + n))) (h2 : Keep id H H') : TkK s at' id H (.tok k t num n) r H' :=
  ⟨fun k t num n e => by cases e; exact ⟨h, h1⟩, (fun e off q => by cases q), h2⟩
theorem TkK.of_bad {s : List UInt8} {at' id : Nat} {H : AH} {e : Int} {off : Nat} {k num a : Int} {t : List UInt8} {r : AV} {H' : AH} (h : r = .tup [tokA k t num a, fltA e (at' + off : Nat)]) (h2 : Keep id H H') : TkK s at' id H (.bad e off) r H' :=
  ⟨fun k t num n e => (by cases e), (fun e' off' q => by cases q; exact ⟨k, t, num, a, h⟩), h2⟩
structure Two (H H1 : AH) (id id2 id3 : Nat) : Prop where
  n2 : id2 ≠ id
  n3 : id3 ≠ id
  n32 : id3 ≠ id2
  g2 : hget H1 id2 = some (tkB 0 [] 0 0)
  g3 : hget H1 id3 = some (flB 0 0)
  keep : ∀ j b, hget H j = some b → hget H1 j = some b
  new : ∀ j b, hget H j = some b → j ≠ id2 ∧ j ≠ id3
theorem Two.mk' {H : AH} {id id2 id3 : Nat} {b : Blk} (hg : hget H id = some b) (h2 : hget H id2 = none) (h3 : hget ((id2, tkB 0 [] 0 0) :: H) id3 = none) : Two H ((id3, flB 0 0) :: (id2, tkB 0 [] 0 0) :: H) id id2 id3 := by
  obtain ⟨n32, h3'⟩ := hget_fresh h3
  have n2 := hget_ne_of h2 hg
  have n3 := hget_ne_of h3' hg
  refine ⟨n2, n3, n32, (hget_tail n32).trans hget_self, hget_self, fun j b q => ?_, fun j b q => ⟨(hget_ne_of h2 q).symm, (hget_ne_of h3' q).symm⟩⟩
  exact (hget_tail (hget_ne_of h3' q)).trans ((hget_tail (hget_ne_of h2 q)).trans q)
theorem token_word_spec {s : List UInt8} {at' id : Nat} {H : AH} (hg : hget H id = some (lx s at')) (ha : at' ≤ s.length) (hs : s.length ≤ 140737488351232) :
    ACalls PG token_word.n [.ptr id 2 0 0] H (TkK s at' id H (.tok 1 ((s.drop at').take (nl (s.drop at'))) 0 (nl (s.drop at')))) := by
  have hdl : (s.drop at').length = s.length - at' := List.length_drop
  have hnl := nl_le (s.drop at')
  refine token_word.of rfl (wpF_start ?_)
  (first | refine ah ?_ | exact ah0)
  intro id2 hid2 ht2
  (first | refine ah ?_ | exact ah0)
  intro id3 hid3 ht3
  have tw := Two.mk' hg hid2 hid3
  generalize ((id3, Blk.rows [AV.int .i64 0, AV.int .i64 0].length [[AV.int .i64 0, AV.int .i64 0]]) :: (id2, Blk.rows [AV.int .i64 0, AV.str [], AV.int .u64 0, AV.int .i64 0].length [[AV.int .i64 0, AV.str [], AV.int .u64 0, AV.int .i64 0]]) :: H) = H1 at *
  have hg1 := tw.keep _ _ hg
  have hg1' : hget H1 id = some (.rows 2 [[.str s, .int .i64 (at' : Nat)]]) := hg1
  have n2 := tw.n2
  have n3 := tw.n3
  have n32 := tw.n32
  have g2 : hget H1 id2 = some (.rows 4 [[.int .i64 0, .str [], .int .u64 0, .int .i64 0]]) := tw.g2
  have g3 : hget H1 id3 = some (.rows 2 [[.int .i64 0, .int .i64 0]]) := tw.g3
  (first | refine ah ?_ | exact ah0)
  refine callF_eq (lexer_rest_spec hg1 ha hs) ?_
  (first | refine ah ?_ | exact ah0)
  refine callF_eq (name_Lead_spec _ (by omega) _) ?_
  (first | refine ah ?_ | exact ah0)
  refine callF_to (lexer_cut_spec (n := nl (s.drop at')) hg1 (by omega) hs) ?_
  (first | refine ah ?_ | exact ah0)
  refine TkK.of_tok rfl ?_ (fun j b q r => ?_)
  · exact hg_of
  · obtain ⟨q2, q3⟩ := tw.new j b r
    have := tw.keep j b r
    exact hg_of
end Go.Proofs.YtjaigpidmngaaaaGreat

namespace Go.Proofs.YtjaigpidmngaaaaGreat
attribute [local irreducible] callA callP ACalls
theorem pre2 (s p : List UInt8) (h : p.length = 2) : (decide (p.length ≤ s.length) && decide (s.take p.length = p)) = decide (s.take 2 = p) := by
  rw [h]
  by_cases e : s.take 2 = p
  · have := congrArg List.length e
    rw [List.length_take, h] at this
    simp [e]; omega
  · simp [e]
theorem token_sign_spec {s : List UInt8} {at' id : Nat} {H : AH} (hg : hget H id = some (lx s at')) (ha : at' < s.length) (hs : s.length ≤ 140737488351232) :
    ACalls PG token_sign.n [.ptr id 2 0 0] H (TkK s at' id H (.tok 5 ((s.drop at').take (if two (s.drop at') then 2 else 1)) 0 (if two (s.drop at') then 2 else 1))) := by
  have hdl : (s.drop at').length = s.length - at' := List.length_drop
  refine token_sign.of rfl (wpF_start ?_)
  (first | refine ah ?_ | exact ah0)
  intro id2 hid2 ht2
  (first | refine ah ?_ | exact ah0)
  intro id3 hid3 ht3
  have tw := Two.mk' hg hid2 hid3
  generalize ((id3, Blk.rows [AV.int .i64 0, AV.int .i64 0].length [[AV.int .i64 0, AV.int .i64 0]]) :: (id2, Blk.rows [AV.int .i64 0, AV.str [], AV.int .u64 0, AV.int .i64 0].length [[AV.int .i64 0, AV.str [], AV.int .u64 0, AV.int .i64 0]]) :: H) = H1 at *
  have hg1 := tw.keep _ _ hg
  have hg1' : hget H1 id = some (.rows 2 [[.str s, .int .i64 (at' : Nat)]]) := hg1
  have n2 := tw.n2
  have n3 := tw.n3
  have n32 := tw.n32
  have g2 : hget H1 id2 = some (.rows 4 [[.int .i64 0, .str [], .int .u64 0, .int .i64 0]]) := tw.g2
  have g3 : hget H1 id3 = some (.rows 2 [[.int .i64 0, .int .i64 0]]) := tw.g3
  (first | refine ah ?_ | exact ah0)
  refine ⟨fun n L H' => ∃ i : Nat, n = 3 - i ∧ i ≤ 3 ∧ L = [(0, some (.ptr id 2 0 0)), (2, some (.ptr id2 4 0 0)), (3, some (.ptr id3 2 0 0)), (6, some (.rows 1 [[.str [60, 62]], [.str [60, 61]], [.str [62, 61]]])), (7, some (.int .i64 3)), (8, some (.int .i64 i))] ∧ H' = H1 ∧
    (0 < i → (s.drop at').take 2 ≠ [60, 62]) ∧ (1 < i → (s.drop at').take 2 ≠ [60, 61]) ∧ (2 < i → (s.drop at').take 2 ≠ [62, 61]), ⟨_, H1, ?_, Sub.refl _, _, 0, rfl, Nat.zero_le _, rfl, rfl, (fun h => by omega), (fun h => by omega), (fun h => by omega)⟩, ?_⟩
  · exact (by exact cov_of)
  · rintro n L H' ⟨i, rfl, hi, rfl, rfl, w1, w2, w3⟩
    rcases (show i = 0 ∨ i = 1 ∨ i = 2 ∨ i = 3 from by omega) with rfl | rfl | rfl | rfl
    · (first | refine ah ?_ | exact ah0)
      refine callF_eq (lexer_rest_spec hg1 (by omega) hs) ?_
      (first | refine ah ?_ | exact ah0)
      refine callF_eq (strings_HasPrefix_spec _ _ _) ?_
      (first | refine ah ?_ | exact ah0)
      rw [pre2 _ [60, 62] rfl]
      refine bsplit_dec (fun e => ?_) (fun e => ?_)
      · have l2 := (congrArg List.length e).symm
        rw [List.length_take, hdl] at l2
        simp only [List.length_cons, List.length_nil] at l2
        (first | refine ah ?_ | exact ah0)
        refine callF_to (lexer_cut_spec (n := 2) hg1 (by omega) hs) ?_
        (first | refine ah ?_ | exact ah0)
        rw [show two (s.drop at') = true from by simp [two, e], if_pos rfl]
        refine TkK.of_tok rfl ?_ (fun j b q r => ?_)
        · exact hg_of
        · obtain ⟨q2, q3⟩ := tw.new j b r
          have := tw.keep j b r
          exact hg_of
      · (first | refine ah ?_ | exact ah0)
        refine ⟨[(0, some (.ptr id 2 0 0)), (2, some (.ptr id2 4 0 0)), (3, some (.ptr id3 2 0 0)), (6, some (.rows 1 [[.str [60, 62]], [.str [60, 61]], [.str [62, 61]]])), (7, some (.int .i64 3)), (8, some (.int .i64 (1 : Nat)))], H', (by exact cov_of), Sub.refl _, _, ?_, 1, rfl, by omega, rfl, rfl, (fun _ => e), (fun h => by omega), (fun h => by omega)⟩
        omega
    · (first | refine ah ?_ | exact ah0)
      refine callF_eq (lexer_rest_spec hg1 (by omega) hs) ?_
      (first | refine ah ?_ | exact ah0)
      refine callF_eq (strings_HasPrefix_spec _ _ _) ?_
      (first | refine ah ?_ | exact ah0)
      rw [pre2 _ [60, 61] rfl]
      refine bsplit_dec (fun e => ?_) (fun e => ?_)
      · have l2 := (congrArg List.length e).symm
        rw [List.length_take, hdl] at l2
        simp only [List.length_cons, List.length_nil] at l2
        (first | refine ah ?_ | exact ah0)
        refine callF_to (lexer_cut_spec (n := 2) hg1 (by omega) hs) ?_
        (first | refine ah ?_ | exact ah0)
        rw [show two (s.drop at') = true from by simp [two, e], if_pos rfl]
        refine TkK.of_tok rfl ?_ (fun j b q r => ?_)
        · exact hg_of
        · obtain ⟨q2, q3⟩ := tw.new j b r
          have := tw.keep j b r
          exact hg_of
      · (first | refine ah ?_ | exact ah0)
        refine ⟨[(0, some (.ptr id 2 0 0)), (2, some (.ptr id2 4 0 0)), (3, some (.ptr id3 2 0 0)), (6, some (.rows 1 [[.str [60, 62]], [.str [60, 61]], [.str [62, 61]]])), (7, some (.int .i64 3)), (8, some (.int .i64 (2 : Nat)))], H', (by exact cov_of), Sub.refl _, _, ?_, 2, rfl, by omega, rfl, rfl, (fun _ => w1 (by omega)), (fun _ => e), (fun h => by omega)⟩
        omega
    · (first | refine ah ?_ | exact ah0)
      refine callF_eq (lexer_rest_spec hg1 (by omega) hs) ?_
      (first | refine ah ?_ | exact ah0)
      refine callF_eq (strings_HasPrefix_spec _ _ _) ?_
      (first | refine ah ?_ | exact ah0)
      rw [pre2 _ [62, 61] rfl]
      refine bsplit_dec (fun e => ?_) (fun e => ?_)
      · have l2 := (congrArg List.length e).symm
        rw [List.length_take, hdl] at l2
        simp only [List.length_cons, List.length_nil] at l2
        (first | refine ah ?_ | exact ah0)
        refine callF_to (lexer_cut_spec (n := 2) hg1 (by omega) hs) ?_
        (first | refine ah ?_ | exact ah0)
        rw [show two (s.drop at') = true from by simp [two, e], if_pos rfl]
        refine TkK.of_tok rfl ?_ (fun j b q r => ?_)
        · exact hg_of
        · obtain ⟨q2, q3⟩ := tw.new j b r
          have := tw.keep j b r
          exact hg_of
      · (first | refine ah ?_ | exact ah0)
        refine ⟨[(0, some (.ptr id 2 0 0)), (2, some (.ptr id2 4 0 0)), (3, some (.ptr id3 2 0 0)), (6, some (.rows 1 [[.str [60, 62]], [.str [60, 61]], [.str [62, 61]]])), (7, some (.int .i64 3)), (8, some (.int .i64 (3 : Nat)))], H', (by exact cov_of), Sub.refl _, _, ?_, 3, rfl, by omega, rfl, rfl, (fun _ => w1 (by omega)), (fun _ => w2 (by omega)), (fun _ => e)⟩
        omega
    · (first | refine ah ?_ | exact ah0)
      refine callF_to (lexer_cut_spec (n := 1) hg1 (by omega) hs) ?_
      (first | refine ah ?_ | exact ah0)
      rw [show two (s.drop at') = false from by simp [two, w1 (by omega), w2 (by omega), w3 (by omega)], if_neg (by decide)]
      refine TkK.of_tok rfl ?_ (fun j b q r => ?_)
      · exact hg_of
      · obtain ⟨q2, q3⟩ := tw.new j b r
        have := tw.keep j b r
        exact hg_of
theorem token_param_spec {s : List UInt8} {at' id : Nat} {H : AH} (hg : hget H id = some (lx s at')) (ha : at' < s.length) (hs : s.length ≤ 140737488351232) :
    ACalls PG token_param.n [.ptr id 2 0 0] H (TkK s at' id H (if 2 ≤ (s.drop at').length ∧ dig ((s.drop at').getD 1 0) = true then .tok 4 ((s.drop at').take 2) (((s.drop at').getD 1 0).toNat - 48) 2 else .bad 11 0)) := by
  have hdl : (s.drop at').length = s.length - at' := List.length_drop
  refine token_param.of rfl (wpF_start ?_)
  (first | refine ah ?_ | exact ah0)
  intro id2 hid2 ht2
  (first | refine ah ?_ | exact ah0)
  intro id3 hid3 ht3
  have tw := Two.mk' hg hid2 hid3
  generalize ((id3, Blk.rows [AV.int .i64 0, AV.int .i64 0].length [[AV.int .i64 0, AV.int .i64 0]]) :: (id2, Blk.rows [AV.int .i64 0, AV.str [], AV.int .u64 0, AV.int .i64 0].length [[AV.int .i64 0, AV.str [], AV.int .u64 0, AV.int .i64 0]]) :: H) = H1 at *
  have hg1 := tw.keep _ _ hg
  have hg1' : hget H1 id = some (.rows 2 [[.str s, .int .i64 (at' : Nat)]]) := hg1
  have n2 := tw.n2
  have n3 := tw.n3
  have n32 := tw.n32
  have g2 : hget H1 id2 = some (.rows 4 [[.int .i64 0, .str [], .int .u64 0, .int .i64 0]]) := tw.g2
  have g3 : hget H1 id3 = some (.rows 2 [[.int .i64 0, .int .i64 0]]) := tw.g3
  (first | refine ah ?_ | exact ah0)
  refine callF_eq (lexer_rest_spec hg1 (by omega) hs) ?_
  (first | refine ah ?_ | exact ah0)
  refine bsplit_dec (fun e => ?_) (fun e => ?_)
  · (first | refine ah ?_ | exact ah0)
    rw [if_neg (fun h => by have := h.1; omega)]
    refine TkK.of_bad rfl (fun j b q r => ?_)
    obtain ⟨q2, q3⟩ := tw.new j b r
    have := tw.keep j b r
    exact hg_of
  · (first | refine ah ?_ | exact ah0)
    refine callF_eq (lexer_rest_spec hg1 (by omega) hs) ?_
    (first | refine ah ?_ | exact ah0)
    refine callF_eq (token_digit_spec _ _) ?_
    (first | refine ah ?_ | exact ah0)
    refine bsplit_intro (fun h => ?_) (fun h => ?_)
    · (first | refine ah ?_ | exact ah0)
      refine callF_to (lexer_cut_spec (n := 2) hg1 (by omega) hs) ?_
      (first | refine ah ?_ | exact ah0)
      intro id4 hid4 ht4
      have f4 : id4 ≠ id := hget_ne_of hid4 (hget_set hg1)
      have f42 : id4 ≠ id2 := hget_ne_of hid4 ((hget_set_ne n2).trans g2)
      have f43 : id4 ≠ id3 := hget_ne_of hid4 ((hget_set_ne n3).trans g3)
      have htk : ((s.drop at').take 2).length = 2 := by rw [List.length_take]; omega
      have hgd : ((s.drop at').take 2).getD (Int.toNat 1) 0 = (s.drop at').getD (Int.toNat 1) 0 := by simp [List.getElem?_take]
      have hdg := (dig_iff _).1 h
      have hpos : 2 ≤ (List.drop at' s).length ∧ dig ((List.drop at' s).getD 1 0) = true := ⟨by omega, h⟩
      (first | refine ah ?_ | exact ah0)
      rw [hgd]
      (first | refine ah ?_ | exact ah0)
      rw [if_pos hpos]
      have hsub : (((((List.drop at' s).getD 1 0).toNat - 48 : Nat)) : Int) = (((List.drop at' s).getD 1 0).toNat : Int) - 48 := by
        have : 48 ≤ ((List.drop at' s).getD 1 0).toNat := hdg.1
        omega
      refine TkK.of_tok (by unfold tokA; rw [hsub]; rfl) ?_ (fun j b q r => ?_)
      · exact hg_of
      · obtain ⟨q2, q3⟩ := tw.new j b r
        have q4 : j ≠ id4 := (hget_ne_of hid4 ((hget_set_ne q).trans (tw.keep j b r))).symm
        have := tw.keep j b r
        exact hg_of
    · (first | refine ah ?_ | exact ah0)
      rw [if_neg (fun e2 => by have := e2.2; simp_all)]
      refine TkK.of_bad rfl (fun j b q r => ?_)
      obtain ⟨q2, q3⟩ := tw.new j b r
      have := tw.keep j b r
      exact hg_of
theorem numV_snoc (l : List UInt8) (c : UInt8) : numV (l ++ [c]) = 10 * numV l + (c.toNat - 48) := by simp [numV]
theorem numV_ge : ∀ (l : List UInt8) (a : Nat), a ≤ l.foldl (fun a c => 10 * a + (c.toNat - 48)) a
  | [], a => Nat.le_refl _
  | c :: l, a => Nat.le_trans (by omega) (numV_ge l (10 * a + (c.toNat - 48)))
theorem numV_mono (r : List UInt8) {i n : Nat} (h : i ≤ n) : numV (r.take i) ≤ numV (r.take n) := by
  rw [← List.take_append_drop i (r.take n), List.take_take, Nat.min_eq_left h]
  unfold numV
  rw [List.foldl_append]
  exact numV_ge _ _
theorem token_number_spec {s : List UInt8} {at' id : Nat} {H : AH} (hg : hget H id = some (lx s at')) (ha : at' < s.length) (hd : dig ((s.drop at').getD 0 0) = true) (hs : s.length ≤ 140737488351232) :
    ACalls PG token_number.n [.ptr id 2 0 0] H (TkK s at' id H (
      if 1 < dl (s.drop at') ∧ (s.drop at').getD 0 0 = 48 then .bad 1 0
      else if numV ((s.drop at').take (dl (s.drop at'))) < 18446744073709551616 then .tok 2 ((s.drop at').take (dl (s.drop at'))) (numV ((s.drop at').take (dl (s.drop at')))) (dl (s.drop at'))
      else .bad 7 0)) := by
  have hdl : (s.drop at').length = s.length - at' := List.length_drop
  generalize hr : s.drop at' = r at *
  have hle := dl_le r
  have h1l : 0 < dl r := (dl_step (n := 0) (Nat.zero_le _) (by omega)).2 hd
  refine token_number.of rfl (wpF_start ?_)
  (first | refine ah ?_ | exact ah0)
  intro id2 hid2 ht2
  (first | refine ah ?_ | exact ah0)
  intro id3 hid3 ht3
  have tw := Two.mk' hg hid2 hid3
  generalize ((id3, Blk.rows [AV.int .i64 0, AV.int .i64 0].length [[AV.int .i64 0, AV.int .i64 0]]) :: (id2, Blk.rows [AV.int .i64 0, AV.str [], AV.int .u64 0, AV.int .i64 0].length [[AV.int .i64 0, AV.str [], AV.int .u64 0, AV.int .i64 0]]) :: H) = H1 at *
  have hg1 := tw.keep _ _ hg
  have hg1' : hget H1 id = some (.rows 2 [[.str s, .int .i64 (at' : Nat)]]) := hg1
  have n2 := tw.n2
  have n3 := tw.n3
  have n32 := tw.n32
  have g2 : hget H1 id2 = some (.rows 4 [[.int .i64 0, .str [], .int .u64 0, .int .i64 0]]) := tw.g2
  have g3 : hget H1 id3 = some (.rows 2 [[.int .i64 0, .int .i64 0]]) := tw.g3
  (first | refine ac ?_ | exact ac0)
  refine .inr ⟨[(0, some (.ptr id 2 0 0)), (2, some (.ptr id2 4 0 0)), (3, some (.ptr id3 2 0 0)), (4, some (.int .i64 (dl r : Nat)))], H1, ?_, ?_⟩
  · (first | refine ah ?_ | exact ah0)
    refine ⟨fun n L H' => ∃ i : Nat, n = r.length - i ∧ i ≤ dl r ∧ L = [(0, some (.ptr id 2 0 0)), (2, some (.ptr id2 4 0 0)), (3, some (.ptr id3 2 0 0)), (4, some (.int .i64 i))] ∧ H' = H1, ⟨_, H1, ?_, Sub.refl _, _, 0, rfl, Nat.zero_le _, rfl, rfl⟩, ?_⟩
    · exact (by exact cov_of)
    · rintro n L H' ⟨i, rfl, hi, rfl, rfl⟩
      (first | refine ah ?_ | exact ah0)
      refine callF_eq (lexer_rest_spec hg1 (by omega) hs) ?_
      rw [hr]
      (first | refine ah ?_ | exact ah0)
      refine bsplit_dec (fun h1 => ?_) (fun h1 => ?_)
      · have hst := dl_step hi (by omega)
        (first | refine ah ?_ | exact ah0)
        refine callF_eq (lexer_rest_spec hg1 (by omega) hs) ?_
        rw [hr]
        (first | refine ah ?_ | exact ah0)
        refine callF_eq (token_digit_spec _ _) ?_
        rw [show dig (r.getD (i : Int).toNat 0) = decide (i < dl r) from bool_iff hst.symm]
        (first | refine ah ?_ | exact ah0)
        refine bsplit_dec (fun h2 => ?_) (fun h2 => ?_)
        · (first | refine ah ?_ | exact ah0)
          refine ⟨[(0, some (.ptr id 2 0 0)), (2, some (.ptr id2 4 0 0)), (3, some (.ptr id3 2 0 0)), (4, some (.int .i64 (i + 1 : Nat)))], H', (by exact cov_of), Sub.refl _, _, ?_, i + 1, rfl, by omega, rfl, rfl⟩
          omega
        · (first | refine ah ?_ | exact ah0)
          obtain rfl : i = dl r := by omega
          exact ⟨(by exact cov_of), Sub.refl _⟩
      · (first | refine ah ?_ | exact ah0)
        obtain rfl : i = dl r := by omega
        exact ⟨(by exact cov_of), Sub.refl _⟩
  · (first | refine ah ?_ | exact ah0)
    refine callF_to (lexer_cut_spec (n := dl r) hg1 (by omega) hs) ?_
    (first | refine ah ?_ | exact ah0)
    intro id5 hid5 ht5
    have f5 : id5 ≠ id := hget_ne_of hid5 (hget_set hg1)
    have f52 : id5 ≠ id2 := hget_ne_of hid5 ((hget_set_ne n2).trans g2)
    have f53 : id5 ≠ id3 := hget_ne_of hid5 ((hget_set_ne n3).trans g3)
    rw [hr]
    have i3 : hget (hset H1 id (lx s (at' + dl r))) id = some (lx s (at' + dl r)) := hget_set hg1
    have i32 : hget (hset H1 id (lx s (at' + dl r))) id2 = some (.rows 4 [[.int .i64 0, .str [], .int .u64 0, .int .i64 0]]) := (hget_set_ne n2).trans g2
    have i33 : hget (hset H1 id (lx s (at' + dl r))) id3 = some (.rows 2 [[.int .i64 0, .int .i64 0]]) := (hget_set_ne n3).trans g3
    have kp : ∀ j b, j ≠ id → hget H j = some b → hget (hset H1 id (lx s (at' + dl r))) j = some b ∧ j ≠ id2 ∧ j ≠ id3 ∧ j ≠ id5 := fun j b q r =>
      have q5 := (hget_set_ne q).trans (tw.keep j b r)
      ⟨q5, (tw.new j b r).1, (tw.new j b r).2, (hget_ne_of hid5 q5).symm⟩
    generalize hset H1 id (lx s (at' + dl r)) = H3 at *
    have htl : (r.take (dl r)).length = dl r := by rw [List.length_take]; omega
    have ht0 : (r.take (dl r)).getD (Int.toNat 0) 0 = r.getD 0 0 := by simp [List.getElem?_take, h1l]
    by_cases hz : 1 < dl r ∧ r.getD 0 0 = 48
    · have hz1 := hz.1
      rw [if_pos hz]
      (first | refine ah ?_ | exact ah0)
      rw [ht0, hz.2]
      (first | refine ah ?_ | exact ah0)
      refine TkK.of_bad rfl (fun j b q r => ?_)
      obtain ⟨q0, q2, q3, q5⟩ := kp j b q r
      exact hg_of
    · rw [if_neg hz]
      (first | refine ac ?_ | exact ac0)
      refine .inr ⟨[(0, some (.ptr id 2 0 0)), (2, some (.ptr id2 4 0 0)), (3, some (.ptr id3 2 0 0)), (4, some (.int .i64 (dl r : Nat))), (5, some (.ptr id5 4 0 0))], (id5, tkB 2 (r.take (dl r)) 0 at') :: H3, ?_, ?_⟩
      · (first | refine ah ?_ | exact ah0)
        refine bsplit_dec (fun e1 => ?_) (fun e1 => ?_)
        · (first | refine ah ?_ | exact ah0)
          rw [ht0]
          refine bsplit_dec (fun e2 => ?_) (fun e2 => ?_)
          · exact absurd ⟨by omega, (u8lit _ 48 (by decide)).1 e2⟩ hz
          · (first | refine ah ?_ | exact ah0)
            exact ⟨(by exact cov_of), Sub.refl _⟩
        · (first | refine ah ?_ | exact ah0)
          exact ⟨(by exact cov_of), Sub.refl _⟩
      · (first | refine ah ?_ | exact ah0)
        refine ⟨fun n L H' => ∃ i : Nat, n = dl r - i ∧ i ≤ dl r ∧ numV (r.take i) < 18446744073709551616 ∧ L = [(0, some (.ptr id 2 0 0)), (2, some (.ptr id2 4 0 0)), (3, some (.ptr id3 2 0 0)), (5, some (.ptr id5 4 0 0)), (37, some (.int .i64 (dl r : Nat))), (38, some (.int .i64 i))] ∧ H' = (id5, tkB 2 (r.take (dl r)) (numV (r.take i) : Nat) at') :: H3,
          ⟨_, (id5, tkB 2 (r.take (dl r)) 0 at') :: H3, ?_, Sub.refl _, _, 0, rfl, Nat.zero_le _, by simp [numV], rfl, rfl⟩, ?_⟩
        · exact (by exact cov_of)
        · rintro n L H' ⟨i, rfl, hi, hv, rfl, rfl⟩
          (first | refine ah ?_ | exact ah0)
          refine bsplit_dec (fun e1 => ?_) (fun e1 => ?_)
          · have hil : i < dl r := by omega
            have hdi := (dig_iff _).1 ((dl_step hi (by omega)).1 hil)
            have hti : (r.take (dl r)).getD (i : Int).toNat 0 = r.getD i 0 := by simp [List.getElem?_take, hil]
            have hsn : numV (r.take (i + 1)) = 10 * numV (r.take i) + ((r.getD i 0).toNat - 48) := by rw [take_at r 0 i (by omega), numV_snoc]
            (first | refine ah ?_ | exact ah0)
            rw [hti]
            (first | refine ah ?_ | exact ah0)
            refine bsplit_dec (fun e2 => ?_) (fun e2 => ?_)
            · have hm := numV_mono r (show i + 1 ≤ dl r from hil)
              (first | refine ah ?_ | exact ah0)
              rw [if_neg (by omega)]
              refine TkK.of_bad rfl (fun j b q r => ?_)
              obtain ⟨q0, q2, q3, q5⟩ := kp j b q r
              exact hg_of
            · (first | refine ah ?_ | exact ah0)
              refine ⟨[(0, some (.ptr id 2 0 0)), (2, some (.ptr id2 4 0 0)), (3, some (.ptr id3 2 0 0)), (5, some (.ptr id5 4 0 0)), (37, some (.int .i64 (dl r : Nat))), (38, some (.int .i64 (i + 1 : Nat)))], (id5, tkB 2 (r.take (dl r)) (numV (r.take (i + 1)) : Nat) at') :: H3,
                (by exact cov_of), ?_, _, ?_, i + 1, rfl, by omega, by omega, rfl, rfl⟩
              · rw [show ((numV (r.take (i + 1)) : Nat) : Int) = 10 * (numV (r.take i) : Nat) + (((r.getD i 0).toNat : Int) - 48) from by omega]
                exact Sub.refl _
              · omega
          · obtain rfl : i = dl r := by omega
            (first | refine ah ?_ | exact ah0)
            rw [if_pos hv]
            refine TkK.of_tok rfl ?_ (fun j b q r => ?_)
            · exact hg_of
            · skip
              obtain ⟨q0, q2, q3, q5⟩ := kp j b q r
              exact hg_of
end Go.Proofs.YtjaigpidmngaaaaGreat

namespace Go.Proofs.YtjaigpidmngaaaaGreat
attribute [local irreducible] callA callP ACalls
theorem Bld.hset {H : AH} {id j : Nat} {ob : Option Nat} {l : List UInt8} {X : Blk} (h : Bld H id ob l) (h1 : j ≠ id) (h2 : ob ≠ some j) : Bld (hset H j X) id ob l := by
  obtain ⟨ht, p, v, hg, hp, hv⟩ := h
  refine ⟨ht, p, v, (hget_set_ne h1.symm).trans hg, hp, ?_⟩
  rcases hv with hv | ⟨idb, q1, q2, q3, q4, q5⟩
  · exact .inl hv
  · exact .inr ⟨idb, q1, q2, (hget_set_ne (fun e => h2 (by rw [q1, e]))).trans q3, q4, q5⟩
structure TI (s : List UInt8) (at' id : Nat) (H : AH) (id2 id3 id4 id5 : Nat) (ob : Option Nat) (i : Nat) (acc : List UInt8) (H' : AH) : Prop where
  g : hget H' id = some (.rows 2 [[.str s, .int .i64 (at' + i : Nat)]])
  g2 : hget H' id2 = some (.rows 4 [[.int .i64 0, .str [], .int .u64 0, .int .i64 0]])
  g3 : hget H' id3 = some (.rows 2 [[.int .i64 0, .int .i64 0]])
  g4 : hget H' id4 = some (.rows 4 [[.int .i64 3, .str [], .int .u64 0, .int .i64 at']])
  b : Bld H' id5 ob acc
  n2 : id ≠ id2
  n3 : id ≠ id3
  n4 : id ≠ id4
  n5 : id ≠ id5
  n23 : id2 ≠ id3
  n24 : id2 ≠ id4
  n25 : id2 ≠ id5
  n34 : id3 ≠ id4
  n35 : id3 ≠ id5
  n45 : id4 ≠ id5
  o : ob ≠ some id
  o2 : ob ≠ some id2
  o3 : ob ≠ some id3
  o4 : ob ≠ some id4
  k : ∀ j b, j ≠ id → hget H j = some b → hget H' j = some b ∧ j ≠ id2 ∧ j ≠ id3 ∧ j ≠ id4 ∧ j ≠ id5 ∧ ob ≠ some j
theorem TI.step {s : List UInt8} {at' id : Nat} {H : AH} {id2 id3 id4 id5 : Nat} {ob : Option Nat} {i i' : Nat} {acc : List UInt8} {H' : AH} (h : TI s at' id H id2 id3 id4 id5 ob i acc H'):
    TI s at' id H id2 id3 id4 id5 ob i' acc (hset H' id (.rows 2 [[.str s, .int .i64 (at' + i' : Nat)]])) :=
  { h with
    g := hget_set h.g
    g2 := (hget_set_ne h.n2.symm).trans h.g2
    g3 := (hget_set_ne h.n3.symm).trans h.g3
    g4 := (hget_set_ne h.n4.symm).trans h.g4
    b := h.b.hset h.n5 h.o
    k := fun j b q r => ⟨(hget_set_ne q).trans (h.k j b q r).1, (h.k j b q r).2⟩ }
theorem TI.write {s : List UInt8} {at' id : Nat} {H : AH} {id2 id3 id4 id5 : Nat} {ob : Option Nat} {i : Nat} {acc : List UInt8} {H' H2 : AH} {c : UInt8} {idb : Nat} (h : TI s at' id H id2 id3 id4 id5 ob i acc H')
    (h1 : Bld H2 id5 (some idb) (acc ++ [c])) (h2 : hget H' idb = none ∨ ob = some idb) (h3 : ∀ j b, j ≠ id5 → ob ≠ some j → hget H' j = some b → hget H2 j = some b) : TI s at' id H id2 id3 id4 id5 (some idb) i (acc ++ [c]) H2 := by
  have ne : ∀ j b, ob ≠ some j → hget H' j = some b → (some idb : Option Nat) ≠ some j := by
    intro j b q1 q2 e
    cases e
    rcases h2 with h2 | h2
    · rw [h2] at q2; cases q2
    · exact q1 h2
  exact { h with
    g := h3 _ _ h.n5 h.o h.g
    g2 := h3 _ _ h.n25 h.o2 h.g2
    g3 := h3 _ _ h.n35 h.o3 h.g3
    g4 := h3 _ _ h.n45 h.o4 h.g4
    b := h1
    o := ne _ _ h.o h.g
    o2 := ne _ _ h.o2 h.g2
    o3 := ne _ _ h.o3 h.g3
    o4 := ne _ _ h.o4 h.g4
    k := fun j b q r => let ⟨k1, k2, k3, k4, k5, k6⟩ := h.k j b q r; ⟨h3 _ _ k5 k6 k1, k2, k3, k4, k5, ne _ _ k6 k1⟩ }
theorem qs_step (c : UInt8) (r : List UInt8) (i : Nat) (acc : List UInt8) : qs (c :: r) i acc =
    if c.toNat < 32 ∨ 126 < c.toNat then .odd i else if c = 39 then (if r.take 1 = [39] then qs (r.drop 1) (i + 2) (acc ++ [39]) else .done acc (i + 1)) else qs r (i + 1) (acc ++ [c]) := by
  cases r with
  | nil =>
    simp only [qs, List.take_nil, List.drop_nil]
    rw [if_neg (show ¬ ([] : List UInt8) = [39] from by simp)]
  | cons d r =>
    simp only [qs, List.take_succ_cons, List.take_zero, List.drop_succ_cons, List.drop_zero, List.cons.injEq, and_true]
theorem token_text_spec {s : List UInt8} {at' id : Nat} {H : AH} (hg : hget H id = some (lx s at')) (ha : at' < s.length) (hs : s.length ≤ 140737488351232) :
    ACalls PG token_text.n [.ptr id 2 0 0] H (TkK s at' id H (match qs (s.drop (at' + 1)) 1 [] with
      | .done t n => .tok 3 t 0 n
      | .odd i => .bad 10 i
      | .short => .bad 2 0)) := by
  refine token_text.of rfl (wpF_start ?_)
  (first | refine ah ?_ | exact ah0)
  intro id2 hid2 ht2
  (first | refine ah ?_ | exact ah0)
  intro id3 hid3 ht3
  have tw := Two.mk' hg hid2 hid3
  generalize ((id3, Blk.rows [AV.int .i64 0, AV.int .i64 0].length [[AV.int .i64 0, AV.int .i64 0]]) :: (id2, Blk.rows [AV.int .i64 0, AV.str [], AV.int .u64 0, AV.int .i64 0].length [[AV.int .i64 0, AV.str [], AV.int .u64 0, AV.int .i64 0]]) :: H) = H1 at *
  have hg1 := tw.keep _ _ hg
  have hg1' : hget H1 id = some (.rows 2 [[.str s, .int .i64 (at' : Nat)]]) := hg1
  have n2 := tw.n2
  have n3 := tw.n3
  have n32 := tw.n32
  have g2 : hget H1 id2 = some (.rows 4 [[.int .i64 0, .str [], .int .u64 0, .int .i64 0]]) := tw.g2
  have g3 : hget H1 id3 = some (.rows 2 [[.int .i64 0, .int .i64 0]]) := tw.g3
  (first | refine ah ?_ | exact ah0)
  intro id4 hid4 ht4
  have f4 : id4 ≠ id := hget_ne_of hid4 hg1
  have f42 : id4 ≠ id2 := hget_ne_of hid4 g2
  have f43 : id4 ≠ id3 := hget_ne_of hid4 g3
  (first | refine ah ?_ | exact ah0)
  intro id5 hid5 ht5
  have f5 : id5 ≠ id := hget_ne_of hid5 ((hget_tail f4).trans hg1)
  have f52 : id5 ≠ id2 := hget_ne_of hid5 ((hget_tail f42).trans g2)
  have f53 : id5 ≠ id3 := hget_ne_of hid5 ((hget_tail f43).trans g3)
  have f54 : id5 ≠ id4 := hget_ne_of hid5 hget_self
  (first | refine ah ?_ | exact ah0)
  have T0 : TI s at' id H id2 id3 id4 id5 none 1 [] ((id5, .rows 2 [[.nilP, .nilS]]) :: (id4, tkB 3 [] 0 at') :: hset H1 id (.rows 2 [[.str s, .int .i64 (at' + 1 : Nat)]])) :=
    { g := (hget_tail f5).trans ((hget_tail f4).trans (hget_set hg1))
      g2 := (hget_tail f52).trans ((hget_tail f42).trans ((hget_set_ne n2).trans g2))
      g3 := (hget_tail f53).trans ((hget_tail f43).trans ((hget_set_ne n3).trans g3))
      g4 := (hget_tail f54).trans hget_self
      b := ⟨ht5, .nilP, .nilS, hget_self, .inl rfl, .inl ⟨rfl, rfl, rfl⟩⟩
      n2 := n2.symm
      n3 := n3.symm
      n4 := f4.symm
      n5 := f5.symm
      n23 := n32.symm
      n24 := f42.symm
      n25 := f52.symm
      n34 := f43.symm
      n35 := f53.symm
      n45 := f54.symm
      o := fun e => by cases e
      o2 := fun e => by cases e
      o3 := fun e => by cases e
      o4 := fun e => by cases e
      k := fun j b q r => by
        have k1 := tw.keep j b r
        have k4 := hget_ne_of hid4 k1
        have k5 := hget_ne_of hid5 ((hget_tail k4).trans k1)
        exact ⟨(hget_tail k5).trans ((hget_tail k4).trans ((hget_set_ne q).trans k1)), (tw.new j b r).1, (tw.new j b r).2, k4.symm, k5.symm, fun e => by cases e⟩ }
  generalize hR : qs (s.drop (at' + 1)) 1 [] = R
  refine ⟨fun n L H' => ∃ (i : Nat) (acc : List UInt8) (ob : Option Nat), n = s.length - (at' + i) ∧ at' + i ≤ s.length ∧ acc.length ≤ i ∧ qs (s.drop (at' + i)) i acc = R ∧
    L = [(0, some (.ptr id 2 0 0)), (2, some (.ptr id2 4 0 0)), (3, some (.ptr id3 2 0 0)), (4, some (.ptr id4 4 0 0)), (5, some (.ptr id5 2 0 0))] ∧ TI s at' id H id2 id3 id4 id5 ob i acc H', ⟨_, _, ?_, ?_, _, 1, [], none, rfl, by omega, by simp, hR, rfl, T0⟩, ?_⟩
  · exact (by exact cov_of)
  · rw [show ((at' + 1 : Nat) : Int) = (at' : Int) + 1 from by omega]
    exact Sub.refl _
  · clear hid2 hid3 hid4 hid5 hg1 hg1' g2 g3 tw T0 hR
    rintro n L H' ⟨i, acc, ob, rfl, hi, hl, hq, rfl, T⟩
    have g := T.g
    have g2 := T.g2
    have g3 := T.g3
    have g4 := T.g4
    (first | refine ah ?_ | exact ah0)
    refine bsplit_dec (fun h1 => ?_) (fun h1 => ?_)
    · have hlt : at' + i < s.length := by omega
      have hdr : s.drop (at' + i) = s.getD (at' + i) 0 :: s.drop (at' + i + 1) := drop_at s 0 (at' + i) hlt
      rw [hdr, qs_step] at hq
      (first | refine ah ?_ | exact ah0)
      rw [Int.toNat_natCast]
      have gl : hget H' id = some (lx s (at' + i)) := g
      have hdl : (s.drop (at' + i + 1)).length = s.length - (at' + i + 1) := List.length_drop
      generalize s.getD (at' + i) 0 = c at *
      by_cases ho : c.toNat < 32 ∨ 126 < c.toNat
      · rw [if_pos ho] at hq
        subst hq
        refine bsplit_dec (fun e1 => ?_) (fun e1 => ?_)
        · (first | refine ah ?_ | exact ah0)
          refine TkK.of_bad rfl (fun j b q r => ?_)
          obtain ⟨k1, k2, k3, k4, k5, k6⟩ := T.k j b q r
          exact hg_of
        · (first | refine ah ?_ | exact ah0)
          refine TkK.of_bad rfl (fun j b q r => ?_)
          obtain ⟨k1, k2, k3, k4, k5, k6⟩ := T.k j b q r
          exact hg_of
      · rw [if_neg ho] at hq
        by_cases h39 : c = 39
        · subst h39
          rw [if_pos rfl] at hq
          (first | refine ah ?_ | exact ah0)
          refine callF_eq (lexer_rest_spec gl (by omega) hs) ?_
          (first | refine ah ?_ | exact ah0)
          refine callF_eq (strings_HasPrefix_spec _ _ _) ?_
          rw [pre2 _ [39, 39] rfl, hdr, show decide (List.take 2 (39 :: List.drop (at' + i + 1) s) = [39, 39]) = decide (List.take 1 (List.drop (at' + i + 1) s) = [39]) from decide_eq_decide.2 (by simp)]
          (first | refine ah ?_ | exact ah0)
          refine bsplit_dec (fun h2 => ?_) (fun h2 => ?_)
          · rw [if_pos h2] at hq
            have h2l := congrArg List.length h2
            rw [List.length_take, hdl, List.length_singleton] at h2l
            (first | refine ah ?_ | exact ah0)
            refine callF_of ((WriteByte_spec T.b (by omega)).mono fun rr H2 hh => ?_)
            obtain ⟨rfl, idb, b1, b2, b3⟩ := hh
            have T2 := T.write b1 b2 b3
            have g' := T2.g
            (first | refine ah ?_ | exact ah0)
            refine ⟨[(0, some (.ptr id 2 0 0)), (2, some (.ptr id2 4 0 0)), (3, some (.ptr id3 2 0 0)), (4, some (.ptr id4 4 0 0)), (5, some (.ptr id5 2 0 0))], _, (by exact cov_of), Sub.refl _, s.length - (at' + (i + 2)), by omega, i + 2, acc ++ [39], some idb, rfl, by omega, by simp; omega, ?_, rfl, ?_⟩
            · rw [← hq, List.drop_drop]
              rfl
            · have e1 : ((at' + i : Nat) : Int) + 1 = ((at' + (i + 1) : Nat) : Int) := by omega
              have e2 : ((at' + i : Nat) : Int) + 1 + 1 = ((at' + (i + 2) : Nat) : Int) := by omega
              have T4 := (T2.step (i' := i + 1)).step (i' := i + 2)
              rw [← e1, ← e2] at T4
              exact T4
          · rw [if_neg h2] at hq
            subst hq
            have T3 := T.step (i' := i + 1)
            rw [show ((at' + (i + 1) : Nat) : Int) = ((at' + i : Nat) : Int) + 1 from by omega] at T3
            (first | refine ah ?_ | exact ah0)
            refine callF_of ((String_spec T3.b (by omega)).mono fun rr H2 hh => ?_)
            obtain ⟨rfl, b3⟩ := hh
            have q1 := b3 _ _ T3.o T3.g
            have q2 := b3 _ _ T3.o2 T3.g2
            have q3 := b3 _ _ T3.o3 T3.g3
            have q4 := b3 _ _ T3.o4 T3.g4
            (first | refine ah ?_ | exact ah0)
            refine TkK.of_tok rfl ?_ (fun j b q r => ?_)
            · have e1 : ((at' + i : Nat) : Int) + 1 = ((at' + (i + 1) : Nat) : Int) := by omega
              have q1' : hget H2 id = some (lx s (at' + (i + 1))) := by unfold lx; rw [← e1]; exact q1
              have := T.n2
              have := T.n3
              have := T.n4
              exact hg_of
            · obtain ⟨k1, k2, k3, k4, k5, k6⟩ := T3.k j b q r
              have := b3 _ _ k6 k1
              exact hg_of
        · rw [if_neg h39] at hq
          have hne : c.toNat ≠ 39 := fun e => h39 ((nat_eq c 39 (by decide)).2 e)
          (first | refine ah ?_ | exact ah0)
          refine callF_of ((WriteByte_spec T.b (by omega)).mono fun rr H2 hh => ?_)
          obtain ⟨rfl, idb, b1, b2, b3⟩ := hh
          have T2 := T.write b1 b2 b3
          have g' := T2.g
          (first | refine ah ?_ | exact ah0)
          refine ⟨[(0, some (.ptr id 2 0 0)), (2, some (.ptr id2 4 0 0)), (3, some (.ptr id3 2 0 0)), (4, some (.ptr id4 4 0 0)), (5, some (.ptr id5 2 0 0))], _, (by exact cov_of), Sub.refl _, s.length - (at' + (i + 1)), by omega, i + 1, acc ++ [c], some idb, rfl, by omega, by simp; omega, hq, rfl, ?_⟩
          have e1 : ((at' + i : Nat) : Int) + 1 = ((at' + (i + 1) : Nat) : Int) := by omega
          have T4 := T2.step (i' := i + 1)
          rw [← e1] at T4
          exact T4
    · have hnil : s.drop (at' + i) = [] := List.drop_eq_nil_of_le (by omega)
      rw [hnil] at hq
      subst hq
      (first | refine ah ?_ | exact ah0)
      refine TkK.of_bad rfl (fun j b q r => ?_)
      obtain ⟨k1, k2, k3, k4, k5, k6⟩ := T.k j b q r
      exact hg_of
end Go.Proofs.YtjaigpidmngaaaaGreat

namespace Go.Proofs.YtjaigpidmngaaaaGreat
attribute [local irreducible] callA callP ACalls
abbrev kindsV : List (List AV) := [[.clo token_kinds_1.n [] [], .clo token_word.n [] []], [.clo token_digit.n [] [], .clo token_number.n [] []], [.clo token_kinds_2.n [] [], .clo token_text.n [] []], [.clo token_kinds_3.n [] [], .clo token_param.n [] []], [.clo token_kinds_4.n [] [], .clo token_sign.n [] []]]
theorem token_kinds_spec (H : AH) : ACalls PG token_kinds.n [] H fun r H' => r = .rows 2 kindsV ∧ H' = H := by
  refine token_kinds.of rfl (wpF_start ?_)
  (first | refine ah ?_ | exact ah0)
theorem TkK.opened {s : List UInt8} {at' id : Nat} {H : AH} {R : LR} {r : AV} {H2 : AH} (h : TkK s at' id H R r H2) : ∃ k t num a e p, r = .tup [tokA k t num a, fltA e p] ∧
    ∀ H0 H' : AH, (∀ b, hget H2 id = some b → hget H' id = some b) → Keep id H0 H' → TkK s at' id H0 R r H' := by
  cases hR : R with
  | tok k t num n =>
    obtain ⟨rfl, h2⟩ := h.tok k t num n hR
    exact ⟨k, t, num, at', 0, 0, rfl, fun H0 H' q1 q2 => .of_tok rfl (q1 _ h2) q2⟩
  | bad e off =>
    obtain ⟨k, t, num, a, rfl⟩ := h.bad e off hR
    exact ⟨k, t, num, a, e, _, rfl, fun H0 H' q1 q2 => .of_bad rfl q2⟩
theorem TkK.cong {s : List UInt8} {at' id : Nat} {H : AH} {R R' : LR} {r : AV} {H2 : AH} (h : TkK s at' id H R r H2) (e : R' = R) : TkK s at' id H R' r H2 := by rw [e]; exact h
theorem lex_word (c : UInt8) (r : List UInt8) (h : ltr c = true) : lex (c :: r) = .tok 1 ((c :: r).take (nl (c :: r))) 0 (nl (c :: r)) := by simp only [lex, h, if_true]
theorem lex_num (c : UInt8) (r : List UInt8) (h1 : ltr c = false) (h2 : dig c = true) : lex (c :: r) =
    (if 1 < dl (c :: r) ∧ (c :: r).getD 0 0 = 48 then .bad 1 0
      else if numV ((c :: r).take (dl (c :: r))) < 18446744073709551616 then .tok 2 ((c :: r).take (dl (c :: r))) (numV ((c :: r).take (dl (c :: r)))) (dl (c :: r))
      else .bad 7 0) := by
  simp only [lex, h1, h2, if_true, Bool.false_eq_true, if_false, List.getD_cons_zero]
theorem lex_text (r : List UInt8) : lex (39 :: r) = (match qs r 1 [] with
      | .done t n => .tok 3 t 0 n
      | .odd i => .bad 10 i
      | .short => .bad 2 0) := rfl
theorem lex_param (r : List UInt8) : lex (37 :: r) = (if 2 ≤ (37 :: r).length ∧ dig ((37 :: r).getD 1 0) = true then .tok 4 ((37 :: r).take 2) (((37 :: r).getD 1 0).toNat - 48) 2 else .bad 11 0) := by
  cases r with
  | nil => rfl
  | cons d r =>
    simp only [List.getD_cons_succ, List.getD_cons_zero, List.take_succ_cons, List.take_zero, List.length_cons]
    show (if dig d = true then _ else _) = _
    by_cases h : dig d = true
    · rw [if_pos h, if_pos ⟨by omega, h⟩]
    · rw [if_neg h, if_neg (fun q => h q.2)]
theorem lex_sign (c : UInt8) (r : List UInt8) (h1 : ltr c = false) (h2 : dig c = false) (h3 : c ≠ 39) (h4 : c ≠ 37) (h5 : sgn c = true) : lex (c :: r) = .tok 5 ((c :: r).take (if two (c :: r) then 2 else 1)) 0 (if two (c :: r) then 2 else 1) := by
  simp only [lex, h1, h2, h3, h4, h5, if_true, Bool.false_eq_true, if_false]
theorem lex_none (c : UInt8) (r : List UInt8) (h1 : ltr c = false) (h2 : dig c = false) (h3 : c ≠ 39) (h4 : c ≠ 37) (h5 : sgn c = false) : lex (c :: r) = .bad 11 0 := by
  simp only [lex, h1, h2, h3, h4, h5, Bool.false_eq_true, if_false]
theorem lexer_next_spec {s : List UInt8} {at' id : Nat} {H : AH} (hg : hget H id = some (lx s at')) (ha : at' < s.length) (hs : s.length ≤ 140737488351232) :
    ACalls PG token_lexer_next.n [.ptr id 2 0 0] H (TkK s at' id H (lex (s.drop at'))) := by
  have hdr : s.drop at' = s.getD at' 0 :: s.drop (at' + 1) := drop_at s 0 at' ha
  refine token_lexer_next.of rfl (wpF_start ?_)
  (first | refine ah ?_ | exact ah0)
  intro id2 hid2 ht2
  (first | refine ah ?_ | exact ah0)
  intro id3 hid3 ht3
  have tw := Two.mk' hg hid2 hid3
  generalize ((id3, Blk.rows [AV.int .i64 0, AV.int .i64 0].length [[AV.int .i64 0, AV.int .i64 0]]) :: (id2, Blk.rows [AV.int .i64 0, AV.str [], AV.int .u64 0, AV.int .i64 0].length [[AV.int .i64 0, AV.str [], AV.int .u64 0, AV.int .i64 0]]) :: H) = H1 at *
  have hg1 := tw.keep _ _ hg
  have hg1' : hget H1 id = some (.rows 2 [[.str s, .int .i64 (at' : Nat)]]) := hg1
  have n2 := tw.n2
  have n3 := tw.n3
  have n32 := tw.n32
  have g2 : hget H1 id2 = some (.rows 4 [[.int .i64 0, .str [], .int .u64 0, .int .i64 0]]) := tw.g2
  have g3 : hget H1 id3 = some (.rows 2 [[.int .i64 0, .int .i64 0]]) := tw.g3
  (first | refine ah ?_ | exact ah0)
  refine callF_eq (token_kinds_spec _) ?_
  (first | refine ah ?_ | exact ah0)
  generalize hc : s.getD at' 0 = c at *
  refine ⟨fun n L H' => ∃ i : Nat, n = 5 - i ∧ i ≤ 5 ∧ L = [(0, some (.ptr id 2 0 0)), (2, some (.ptr id2 4 0 0)), (3, some (.ptr id3 2 0 0)), (6, some (.rows 2 kindsV)), (7, some (.int .i64 5)), (8, some (.int .i64 i))] ∧ H' = H1 ∧
    (0 < i → ltr c = false) ∧ (1 < i → dig c = false) ∧ (2 < i → c ≠ 39) ∧ (3 < i → c ≠ 37) ∧ (4 < i → sgn c = false), ⟨_, H1, ?_, Sub.refl _, _, 0, rfl, Nat.zero_le _, rfl, rfl, (fun h => by omega), (fun h => by omega), (fun h => by omega), (fun h => by omega), (fun h => by omega)⟩, ?_⟩
  · exact (by exact cov_of)
  · rintro n L H' ⟨i, rfl, hi, rfl, rfl, w1, w2, w3, w4, w5⟩
    rcases (show i = 0 ∨ i = 1 ∨ i = 2 ∨ i = 3 ∨ i = 4 ∨ i = 5 from by omega) with rfl | rfl | rfl | rfl | rfl | rfl
    · (first | refine ah ?_ | exact ah0)
      intro id5 hid5 ht5
      have f5 : id5 ≠ id := hget_ne_of hid5 hg1
      have f52 : id5 ≠ id2 := hget_ne_of hid5 g2
      have f53 : id5 ≠ id3 := hget_ne_of hid5 g3
      (first | refine ah ?_ | exact ah0)
      rw [Int.toNat_natCast, hc]
      refine callF_eq (kinds1_spec c _) ?_
      (first | refine ah ?_ | exact ah0)
      refine bsplit_intro (fun e => ?_) (fun e => ?_)
      · (first | refine ah ?_ | exact ah0)
        refine callF_of ((token_word_spec (s := s) (at' := at') (by exact hg_of) (by omega) hs).mono fun rr H2 hh => ?_)
        replace hh := hh.cong (R' := lex (s.drop at')) (by rw [hdr, lex_word c _ e])
        have k2 := hh.keep id2 _ n2 ((hget_tail f52).trans g2)
        have k3 := hh.keep id3 _ n3 ((hget_tail f53).trans g3)
        obtain ⟨k, t, num, a, e', p, rfl, fin⟩ := hh.opened
        (first | refine ah ?_ | exact ah0)
        refine fin H _ (fun b q => by exact hg_of) (fun j b q r => ?_)
        have r1 := tw.keep j b r
        have q5 := hget_ne_of hid5 r1
        have r2 := hh.keep j b q ((hget_tail q5).trans r1)
        obtain ⟨q2, q3⟩ := tw.new j b r
        exact hg_of
      · (first | refine ah ?_ | exact ah0)
        refine ⟨[(0, some (.ptr id 2 0 0)), (2, some (.ptr id2 4 0 0)), (3, some (.ptr id3 2 0 0)), (6, some (.rows 2 kindsV)), (7, some (.int .i64 5)), (8, some (.int .i64 (1 : Nat)))], H', (by exact cov_of), Sub.skip (Sub.refl _) hid5, _, ?_, 1, rfl, by omega, rfl, rfl, (fun _ => e), (fun h => by omega), (fun h => by omega), (fun h => by omega), (fun h => by omega)⟩
        omega
    · (first | refine ah ?_ | exact ah0)
      intro id5 hid5 ht5
      have f5 : id5 ≠ id := hget_ne_of hid5 hg1
      have f52 : id5 ≠ id2 := hget_ne_of hid5 g2
      have f53 : id5 ≠ id3 := hget_ne_of hid5 g3
      (first | refine ah ?_ | exact ah0)
      rw [Int.toNat_natCast, hc]
      refine callF_eq (token_digit_spec c _) ?_
      (first | refine ah ?_ | exact ah0)
      refine bsplit_intro (fun e => ?_) (fun e => ?_)
      · (first | refine ah ?_ | exact ah0)
        refine callF_of ((token_number_spec (s := s) (at' := at') (by exact hg_of) (by omega) (by rw [hdr]; exact e) hs).mono fun rr H2 hh => ?_)
        replace hh := hh.cong (R' := lex (s.drop at')) (by rw [hdr, lex_num c _ (w1 (by omega)) e])
        have k2 := hh.keep id2 _ n2 ((hget_tail f52).trans g2)
        have k3 := hh.keep id3 _ n3 ((hget_tail f53).trans g3)
        obtain ⟨k, t, num, a, e', p, rfl, fin⟩ := hh.opened
        (first | refine ah ?_ | exact ah0)
        refine fin H _ (fun b q => by exact hg_of) (fun j b q r => ?_)
        have r1 := tw.keep j b r
        have q5 := hget_ne_of hid5 r1
        have r2 := hh.keep j b q ((hget_tail q5).trans r1)
        obtain ⟨q2, q3⟩ := tw.new j b r
        exact hg_of
      · (first | refine ah ?_ | exact ah0)
        refine ⟨[(0, some (.ptr id 2 0 0)), (2, some (.ptr id2 4 0 0)), (3, some (.ptr id3 2 0 0)), (6, some (.rows 2 kindsV)), (7, some (.int .i64 5)), (8, some (.int .i64 (2 : Nat)))], H', (by exact cov_of), Sub.skip (Sub.refl _) hid5, _, ?_, 2, rfl, by omega, rfl, rfl, (fun _ => w1 (by omega)), (fun _ => e), (fun h => by omega), (fun h => by omega), (fun h => by omega)⟩
        omega
    · (first | refine ah ?_ | exact ah0)
      intro id5 hid5 ht5
      have f5 : id5 ≠ id := hget_ne_of hid5 hg1
      have f52 : id5 ≠ id2 := hget_ne_of hid5 g2
      have f53 : id5 ≠ id3 := hget_ne_of hid5 g3
      (first | refine ah ?_ | exact ah0)
      rw [Int.toNat_natCast, hc]
      refine callF_eq (kinds2_spec c _) ?_
      (first | refine ah ?_ | exact ah0)
      refine bsplit_dec (fun e => ?_) (fun e => ?_)
      · (first | refine ah ?_ | exact ah0)
        refine callF_of ((token_text_spec (s := s) (at' := at') (by exact hg_of) (by omega) hs).mono fun rr H2 hh => ?_)
        replace hh := hh.cong (R' := lex (s.drop at')) (by rw [hdr, e]; exact lex_text _)
        have k2 := hh.keep id2 _ n2 ((hget_tail f52).trans g2)
        have k3 := hh.keep id3 _ n3 ((hget_tail f53).trans g3)
        obtain ⟨k, t, num, a, e', p, rfl, fin⟩ := hh.opened
        (first | refine ah ?_ | exact ah0)
        refine fin H _ (fun b q => by exact hg_of) (fun j b q r => ?_)
        have r1 := tw.keep j b r
        have q5 := hget_ne_of hid5 r1
        have r2 := hh.keep j b q ((hget_tail q5).trans r1)
        obtain ⟨q2, q3⟩ := tw.new j b r
        exact hg_of
      · (first | refine ah ?_ | exact ah0)
        refine ⟨[(0, some (.ptr id 2 0 0)), (2, some (.ptr id2 4 0 0)), (3, some (.ptr id3 2 0 0)), (6, some (.rows 2 kindsV)), (7, some (.int .i64 5)), (8, some (.int .i64 (3 : Nat)))], H', (by exact cov_of), Sub.skip (Sub.refl _) hid5, _, ?_, 3, rfl, by omega, rfl, rfl, (fun _ => w1 (by omega)), (fun _ => w2 (by omega)), (fun _ => e), (fun h => by omega), (fun h => by omega)⟩
        omega
    · (first | refine ah ?_ | exact ah0)
      intro id5 hid5 ht5
      have f5 : id5 ≠ id := hget_ne_of hid5 hg1
      have f52 : id5 ≠ id2 := hget_ne_of hid5 g2
      have f53 : id5 ≠ id3 := hget_ne_of hid5 g3
      (first | refine ah ?_ | exact ah0)
      rw [Int.toNat_natCast, hc]
      refine callF_eq (kinds3_spec c _) ?_
      (first | refine ah ?_ | exact ah0)
      refine bsplit_dec (fun e => ?_) (fun e => ?_)
      · (first | refine ah ?_ | exact ah0)
        refine callF_of ((token_param_spec (s := s) (at' := at') (by exact hg_of) (by omega) hs).mono fun rr H2 hh => ?_)
        replace hh := hh.cong (R' := lex (s.drop at')) (by rw [hdr, e]; exact lex_param _)
        have k2 := hh.keep id2 _ n2 ((hget_tail f52).trans g2)
        have k3 := hh.keep id3 _ n3 ((hget_tail f53).trans g3)
        obtain ⟨k, t, num, a, e', p, rfl, fin⟩ := hh.opened
        (first | refine ah ?_ | exact ah0)
        refine fin H _ (fun b q => by exact hg_of) (fun j b q r => ?_)
        have r1 := tw.keep j b r
        have q5 := hget_ne_of hid5 r1
        have r2 := hh.keep j b q ((hget_tail q5).trans r1)
        obtain ⟨q2, q3⟩ := tw.new j b r
        exact hg_of
      · (first | refine ah ?_ | exact ah0)
        refine ⟨[(0, some (.ptr id 2 0 0)), (2, some (.ptr id2 4 0 0)), (3, some (.ptr id3 2 0 0)), (6, some (.rows 2 kindsV)), (7, some (.int .i64 5)), (8, some (.int .i64 (4 : Nat)))], H', (by exact cov_of), Sub.skip (Sub.refl _) hid5, _, ?_, 4, rfl, by omega, rfl, rfl, (fun _ => w1 (by omega)), (fun _ => w2 (by omega)), (fun _ => w3 (by omega)), (fun _ => e), (fun h => by omega)⟩
        omega
    · (first | refine ah ?_ | exact ah0)
      intro id5 hid5 ht5
      have f5 : id5 ≠ id := hget_ne_of hid5 hg1
      have f52 : id5 ≠ id2 := hget_ne_of hid5 g2
      have f53 : id5 ≠ id3 := hget_ne_of hid5 g3
      (first | refine ah ?_ | exact ah0)
      rw [Int.toNat_natCast, hc]
      refine callF_eq (kinds4_spec c _) ?_
      (first | refine ah ?_ | exact ah0)
      refine bsplit_intro (fun e => ?_) (fun e => ?_)
      · (first | refine ah ?_ | exact ah0)
        refine callF_of ((token_sign_spec (s := s) (at' := at') (by exact hg_of) (by omega) hs).mono fun rr H2 hh => ?_)
        replace hh := hh.cong (R' := lex (s.drop at')) (by rw [hdr, lex_sign c _ (w1 (by omega)) (w2 (by omega)) (w3 (by omega)) (w4 (by omega)) e])
        have k2 := hh.keep id2 _ n2 ((hget_tail f52).trans g2)
        have k3 := hh.keep id3 _ n3 ((hget_tail f53).trans g3)
        obtain ⟨k, t, num, a, e', p, rfl, fin⟩ := hh.opened
        (first | refine ah ?_ | exact ah0)
        refine fin H _ (fun b q => by exact hg_of) (fun j b q r => ?_)
        have r1 := tw.keep j b r
        have q5 := hget_ne_of hid5 r1
        have r2 := hh.keep j b q ((hget_tail q5).trans r1)
        obtain ⟨q2, q3⟩ := tw.new j b r
        exact hg_of
      · (first | refine ah ?_ | exact ah0)
        refine ⟨[(0, some (.ptr id 2 0 0)), (2, some (.ptr id2 4 0 0)), (3, some (.ptr id3 2 0 0)), (6, some (.rows 2 kindsV)), (7, some (.int .i64 5)), (8, some (.int .i64 (5 : Nat)))], H', (by exact cov_of), Sub.skip (Sub.refl _) hid5, _, ?_, 5, rfl, by omega, rfl, rfl, (fun _ => w1 (by omega)), (fun _ => w2 (by omega)), (fun _ => w3 (by omega)), (fun _ => w4 (by omega)), (fun _ => e)⟩
        omega
    · (first | refine ah ?_ | exact ah0)
      rw [hdr, lex_none c _ (w1 (by omega)) (w2 (by omega)) (w3 (by omega)) (w4 (by omega)) (w5 (by omega))]
      refine TkK.of_bad rfl (fun j b q r => ?_)
      obtain ⟨q2, q3⟩ := tw.new j b r
      have := tw.keep j b r
      exact hg_of
end Go.Proofs.YtjaigpidmngaaaaGreat

namespace Go.Proofs.YtjaigpidmngaaaaGreat
theorem qs_bound : ∀ (m : Nat) (r : List UInt8) (i : Nat) (acc t : List UInt8) (n : Nat), r.length ≤ m → qs r i acc = .done t n → i < n ∧ n ≤ i + r.length
  | m, [], i, acc, t, n, _, h => by cases h
  | m, [c], i, acc, t, n, _, h => by
    simp only [qs] at h
    split at h
    · cases h
    · split at h
      · cases h; simp
      · cases h
  | 0, c :: d :: r, i, acc, t, n, hm, h => by simp at hm
  | m + 1, c :: d :: r, i, acc, t, n, hm, h => by
    simp only [List.length_cons] at hm ⊢
    simp only [qs] at h
    split at h
    · cases h
    · split at h
      · split at h
        · have := qs_bound m r _ _ t n (by omega) h
          omega
        · cases h; omega
      · have := qs_bound m (d :: r) _ _ t n (by simp; omega) h
        simp only [List.length_cons] at this
        omega
theorem lex_cons (c : UInt8) (r : List UInt8) : lex (c :: r) =
    if ltr c then .tok 1 ((c :: r).take (nl (c :: r))) 0 (nl (c :: r))
    else if dig c then
      if 1 < dl (c :: r) ∧ c = 48 then .bad 1 0
      else if numV ((c :: r).take (dl (c :: r))) < 18446744073709551616 then .tok 2 ((c :: r).take (dl (c :: r))) (numV ((c :: r).take (dl (c :: r)))) (dl (c :: r))
      else .bad 7 0
    else if c = 39 then match qs r 1 [] with
      | .done t n => .tok 3 t 0 n
      | .odd i => .bad 10 i
      | .short => .bad 2 0
    else if c = 37 then match r with
      | d :: _ => if dig d then .tok 4 [37, d] (d.toNat - 48) 2 else .bad 11 0
      | [] => .bad 11 0
    else if sgn c then .tok 5 ((c :: r).take (if two (c :: r) then 2 else 1)) 0 (if two (c :: r) then 2 else 1)
    else .bad 11 0 := rfl
theorem lex_bound {l : List UInt8} {k : Int} {t : List UInt8} {num n : Nat} (h : lex l = .tok k t num n) : 1 ≤ n ∧ n ≤ l.length := by
  cases l with
  | nil => cases h
  | cons c r =>
    rw [lex_cons] at h
    split at h
    · rename_i hc
      cases h
      refine ⟨?_, nl_le _⟩
      rw [nl_cons, if_pos hc]; omega
    · split at h
      · rename_i hd
        have h1 : 1 ≤ dl (c :: r) := (dl_step (s := c :: r) (n := 0) (Nat.zero_le _) (by simp)).2 hd
        split at h
        · cases h
        · split at h
          · cases h; exact ⟨h1, dl_le _⟩
          · cases h
      · split at h
        · split at h
          · rename_i e; cases h
            have := qs_bound _ _ _ _ _ _ (Nat.le_refl _) e
            simp only [List.length_cons]; omega
          · cases h
          · cases h
        · split at h
          · split at h
            · split at h
              · cases h; simp
              · cases h
            · cases h
          · split at h
            · cases h
              split
              · rename_i h2
                refine ⟨by omega, ?_⟩
                cases r with
                | nil => simp [two] at h2
                | cons d r => simp
              · simp
            · cases h
theorem lex_err {l : List UInt8} {e : Int} {off : Nat} (h : lex l = .bad e off) : 0 < e ∧ e < 100 := by
  cases l with
  | nil => cases h; decide
  | cons c r =>
    rw [lex_cons] at h
    repeat' split at h
    all_goals first | (cases h; decide) | cases h
inductive TR where
  | ok (l : List (Int × List UInt8 × Nat × Nat))
  | bad (e : Int) (p : Nat)
def TR.pre (l : List (Int × List UInt8 × Nat × Nat)) : TR → TR
  | .ok l' => .ok (l ++ l')
  | .bad e p => .bad e p
theorem TR.pre_pre (l l' : List (Int × List UInt8 × Nat × Nat)) (R : TR) : TR.pre l (TR.pre l' R) = TR.pre (l ++ l') R := by cases R <;> simp [TR.pre]
theorem TR.pre_nil (R : TR) : TR.pre [] R = R := by cases R <;> rfl
def tks (s : List UInt8) (a n : Nat) : TR :=
    if a < s.length then
      if blnk (s.getD a 0) then tks s (a + 1) n
      else match lex (s.drop a) with
        | .bad e off => .bad e (a + off)
        | .tok k t num m => if n = 64 then .bad 3 a else TR.pre [(k, t, num, a)] (tks s (a + (m - 1) + 1) (n + 1))
    else .ok [(6, [], 0, s.length)]
  termination_by s.length - a
  decreasing_by all_goals omega
theorem tks_end {s : List UInt8} {a n : Nat} (h : s.length ≤ a) : tks s a n = .ok [(6, [], 0, s.length)] := by
  rw [tks, if_neg (by omega)]
theorem tks_eq {s : List UInt8} {a n : Nat} (h : a < s.length) : tks s a n =
    if blnk (s.getD a 0) then tks s (a + 1) n
      else match lex (s.drop a) with
        | .bad e off => .bad e (a + off)
        | .tok k t num m => if n = 64 then .bad 3 a else TR.pre [(k, t, num, a)] (tks s (a + m) (n + 1)) := by
  rw [tks, if_pos h]
  split
  · rfl
  · split
    · rfl
    · rename_i k t num m e
      have := lex_bound e
      rw [show a + (m - 1) + 1 = a + m from by omega]
def tokens (s : List UInt8) : TR := if 256 < s.length then .bad 3 0 else tks s 0 0
end Go.Proofs.YtjaigpidmngaaaaGreat

namespace Go.Proofs.YtjaigpidmngaaaaGreat
attribute [local irreducible] callA callP ACalls
structure OwnS (H : AH) (T sz : Nat) (v : AV) (l : List (List AV)) : Prop where
  or : (v = .nilS ∧ l = []) ∨ ∃ id, v = .own id sz 0 l.length ∧ hget H id = some (.rows sz l) ∧ tag id = T ∧ 0 < l.length
abbrev tkR (x : Int × List UInt8 × Nat × Nat) : List AV := [.int .i64 x.1, .str x.2.1, .int .u64 (x.2.2.1 : Nat), .int .i64 (x.2.2.2 : Nat)]
theorem tkR_len (l : List (Int × List UInt8 × Nat × Nat)) : ∀ (i : Nat) r, (l.map tkR)[i]? = some r → r.length = 4 := by
  intro i r h
  rw [List.getElem?_map] at h
  cases hh : l[i]? with
  | none => rw [hh] at h; cases h
  | some x => rw [hh] at h; simp at h; rw [← h]; rfl
structure TS (s : List UInt8) (id3 id4 at' : Nat) (v : AV) (l : List (Int × List UInt8 × Nat × Nat)) (H : AH) : Prop where
  g4 : hget H id4 = some (.rows 2 [[.str s, .int .i64 (at' : Nat)]])
  g3 : hget H id3 = some (.rows 2 [[.int .i64 0, .int .i64 0]])
  n : id3 ≠ id4
  s : OwnS H ty_api_Token 4 v (l.map tkR)
  len : l.length ≤ 64
theorem TS.own {s : List UInt8} {id3 id4 at' : Nat} {v : AV} {l : List (Int × List UInt8 × Nat × Nat)} {H : AH} (h : TS s id3 id4 at' v l H) : (v = .nilS ∧ l = []) ∨ ∃ id, v = .own id 4 0 l.length ∧ hget H id = some (.rows 4 (l.map tkR)) ∧ tag id = ty_api_Token ∧ 0 < l.length ∧ id ≠ id3 ∧ id ≠ id4 := by
  rcases h.s.or with ⟨q1, q2⟩ | ⟨id, q1, q2, q3, q4⟩
  · exact .inl ⟨q1, by simpa using q2⟩
  · refine .inr ⟨id, by rw [q1, List.length_map], q2, q3, by simpa using q4, fun e => ?_, fun e => ?_⟩
    · rw [e, h.g3] at q2; cases q2
    · rw [e, h.g4] at q2; cases q2
theorem TS.step {s : List UInt8} {id3 id4 at' b' : Nat} {v : AV} {l : List (Int × List UInt8 × Nat × Nat)} {H : AH} (h : TS s id3 id4 at' v l H) : TS s id3 id4 b' v l (hset H id4 (.rows 2 [[.str s, .int .i64 (b' : Nat)]])) := by
  refine ⟨hget_set h.g4, (hget_set_ne h.n).trans h.g3, h.n, ⟨?_⟩, h.len⟩
  rcases h.own with ⟨q1, q2⟩ | ⟨id, q1, q2, q3, q4, q5, q6⟩
  · exact .inl ⟨q1, by rw [q2]; rfl⟩
  · exact .inr ⟨id, by rw [q1, List.length_map], (hget_set_ne q6).trans q2, q3, by simpa using q4⟩
structure TokO (R : TR) (r : AV) (H : AH) : Prop where
  ok : ∀ l, R = .ok l → ∃ id, r = .tup [.own id 4 0 l.length, fltA 0 0] ∧ hget H id = some (.rows 4 (l.map tkR))
  bad : ∀ e p, R = .bad e p → r = .tup [.nilS, fltA e (p : Nat)]
theorem TokO.of_bad {e : Int} {p : Nat} {r : AV} {H : AH} (h : r = .tup [.nilS, fltA e (p : Nat)]) : TokO (.bad e p) r H := ⟨(fun _ q => by cases q), fun e p q => by cases q; exact h⟩
theorem TokO.of_ok {l : List (Int × List UInt8 × Nat × Nat)} {r : AV} {H : AH} {id : Nat} (h : r = .tup [.own id 4 0 l.length, fltA 0 0]) (h2 : hget H id = some (.rows 4 (l.map tkR))) : TokO (.ok l) r H :=
  ⟨fun _ q => by cases q; exact ⟨id, h, h2⟩, fun _ _ q => by cases q⟩
def bl (s : List UInt8) (a : Nat) : Nat := ((s.drop a).takeWhile blnk).length
theorem bl_step {s : List UInt8} {a i : Nat} (hi : i ≤ bl s a) (h : a + i < s.length) : i < bl s a ↔ blnk (s.getD (a + i) 0) = true := by
  have := tw_step (f := blnk) (r := s.drop a) (n := i) hi (by rw [List.length_drop]; omega)
  rw [show (s.drop a).getD i 0 = s.getD (a + i) 0 from by simp [List.getD]] at this
  exact this
theorem bl_stop (s : List UInt8) (a : Nat) : a + bl s a < s.length → blnk (s.getD (a + bl s a) 0) = false := fun h => by
  have := bl_step (Nat.le_refl (bl s a)) h
  cases hh : blnk (s.getD (a + bl s a) 0) with
  | false => rfl
  | true => exact absurd (this.2 hh) (Nat.lt_irrefl _)
theorem tks_skip (s : List UInt8) (a n : Nat) : tks s a n = tks s (a + bl s a) n := by
  have key : ∀ i, i ≤ bl s a → tks s a n = tks s (a + i) n := by
    intro i
    induction i with
    | zero => intro _; rfl
    | succ i ih =>
      intro h
      rw [ih (by omega)]
      have hl : a + i < s.length := by
        have := (List.takeWhile_prefix (l := s.drop a) blnk).length_le
        rw [List.length_drop] at this
        unfold bl at h
        omega
      rw [tks_eq hl, if_pos ((bl_step (by omega) hl).1 (by omega))]
      rfl
  exact key _ (Nat.le_refl _)
set_option maxHeartbeats 1000000 in
theorem Tokens_spec0 {s : List UInt8} (hs : s.length ≤ 140737488351232) : ACalls PG token_Tokens.n [.str s] [] (TokO (tokens s)) := by
  refine token_Tokens.of rfl (wpF_start ?_)
  unfold tokens
  (first | refine ah ?_ | exact ah0)
  intro id3 hid3 ht3
  (first | refine ah ?_ | exact ah0)
  refine bsplit_dec (fun e1 => ?_) (fun e1 => ?_)
  · (first | refine ah ?_ | exact ah0)
    rw [if_pos (by omega)]
    exact TokO.of_bad rfl
  · rw [if_neg (by omega)]
    have hle : s.length ≤ 256 := by omega
    (first | refine ah ?_ | exact ah0)
    intro id4 hid4 ht4
    have n34 : id3 ≠ id4 := (hget_fresh hid4).1.symm
    (first | refine ah ?_ | exact ah0)
    generalize hR : tks s 0 0 = R
    refine ⟨fun n L H' => ∃ (a : Nat) (v : AV) (l : List (Int × List UInt8 × Nat × Nat)), n = s.length - a ∧ a ≤ s.length ∧ TR.pre l (tks s a l.length) = R ∧ L = [(0, some (.str s)), (3, some (.ptr id3 2 0 0)), (4, some (.ptr id4 2 0 0)), (5, some v)] ∧ TS s id3 id4 a v l H',
      ⟨_, _, ?_, Sub.refl _, _, 0, .nilS, [], rfl, Nat.zero_le _, (TR.pre_nil _).trans hR, rfl, ?_⟩, ?_⟩
    · exact (by exact cov_of)
    · exact ⟨hget_self, (hget_tail n34.symm).trans hget_self, n34, ⟨.inl ⟨rfl, rfl⟩⟩, by simp⟩
    · clear hid3 hid4 hR
      rintro n L H' ⟨a, v, l, rfl, ha, hR, rfl, T⟩
      have g4 := T.g4
      have hbl : bl s a ≤ s.length - a := by
        have := (List.takeWhile_prefix (l := s.drop a) blnk).length_le
        rw [List.length_drop] at this
        exact this
      (first | refine ac ?_ | exact ac0)
      refine .inr ⟨[(0, some (.str s)), (3, some (.ptr id3 2 0 0)), (4, some (.ptr id4 2 0 0)), (5, some v)], hset H' id4 (.rows 2 [[.str s, .int .i64 (a + bl s a : Nat)]]), ?_, ?_⟩
      · (first | refine ah ?_ | exact ah0)
        refine ⟨fun n L H'' => ∃ i, n = bl s a - i ∧ i ≤ bl s a ∧ L = [(0, some (.str s)), (3, some (.ptr id3 2 0 0)), (4, some (.ptr id4 2 0 0)), (5, some v)] ∧ H'' = hset H' id4 (.rows 2 [[.str s, .int .i64 (a + i : Nat)]]), ⟨_, hset H' id4 (.rows 2 [[.str s, .int .i64 (a + 0 : Nat)]]), ?_, sub_hset g4 (fun _ _ _ q => q), _, 0, rfl, Nat.zero_le _, rfl, rfl⟩, ?_⟩
        · exact (by exact cov_of)
        · rintro n L H'' ⟨i, rfl, hi, rfl, rfl⟩
          have g : hget (hset H' id4 (.rows 2 [[.str s, .int .i64 (a + i : Nat)]])) id4 = some (.rows 2 [[.str s, .int .i64 (a + i : Nat)]]) := hget_set g4
          have hst := bl_step (s := s) (a := a) (i := i) hi
          (first | refine ah ?_ | exact ah0)
          refine bsplit_dec (fun e2 => ?_) (fun e2 => ?_)
          · (first | refine ah ?_ | exact ah0)
            refine callF_eq (token_blank_spec _ _) ?_
            rw [Int.toNat_natCast, show blnk (s.getD (a + i) 0) = decide (i < bl s a) from bool_iff (hst (by omega)).symm]
            (first | refine ah ?_ | exact ah0)
            refine bsplit_dec (fun e3 => ?_) (fun e3 => ?_)
            · (first | refine ah ?_ | exact ah0)
              refine ⟨[(0, some (.str s)), (3, some (.ptr id3 2 0 0)), (4, some (.ptr id4 2 0 0)), (5, some v)], hset H' id4 (.rows 2 [[.str s, .int .i64 (a + (i + 1) : Nat)]]), (by exact cov_of), ?_, _, ?_, i + 1, rfl, by omega, rfl, rfl⟩
              · rw [show ((a + (i + 1) : Nat) : Int) = ((a + i : Nat) : Int) + 1 from by omega]
                exact sub_hset (hget_set g) (fun j c q1 q2 => (hget_set_ne q1).trans ((hget_set_ne q1).trans q2))
              · omega
            · (first | refine ah ?_ | exact ah0)
              obtain rfl : i = bl s a := by omega
              exact ⟨(by exact cov_of), Sub.refl _⟩
          · (first | refine ah ?_ | exact ah0)
            obtain rfl : i = bl s a := by omega
            exact ⟨(by exact cov_of), Sub.refl _⟩
      · rw [tks_skip] at hR
        have hnb := bl_stop s a
        have ha' : a + bl s a ≤ s.length := by omega
        have T1 := T.step (b' := a + bl s a)
        have hle1 : a ≤ a + bl s a := Nat.le_add_right _ _
        generalize a + bl s a = a1 at *
        generalize hset H' id4 (.rows 2 [[.str s, .int .i64 (a1 : Nat)]]) = H1 at *
        clear T g4
        have g4 := T1.g4
        have g3 := T1.g3
        (first | refine ah ?_ | exact ah0)
        refine bsplit_dec (fun e2 => ?_) (fun e2 => ?_)
        · rw [tks_end (by omega)] at hR
          subst hR
          rcases T1.own with ⟨rfl, rfl⟩ | ⟨ids, rfl, gs, ts, pos, ns3, ns4⟩
          · obtain rfl : a1 = s.length := by omega
            (first | refine ah ?_ | exact ah0)
            refine ⟨_, rfl, by simp, (fun e => by cases e), fun _ => ?_⟩
            intro idn hidn htn
            have nn3 := hget_ne_of hidn g3
            (first | refine ah ?_ | exact ah0)
            exact TokO.of_ok (l := [(6, [], 0, s.length)]) rfl hget_self
          · obtain rfl : a1 = s.length := by omega
            have len := T1.len
            have exs : (((l.map tkR).take l.length).drop 0) = l.map tkR := by rw [List.drop_zero, show l.length = (l.map tkR).length from by simp, List.take_length]
            (first | refine ah ?_ | exact ah0)
            refine ⟨_, _, (readS_own gs (by simp)).trans (congrArg some exs), rfl, rfl, rfl, ts, by simp; omega, ?_⟩
            intro idn hidn htn
            have nn3 := hget_ne_of hidn g3
            (first | refine ah ?_ | exact ah0)
            refine TokO.of_ok (l := l ++ [(6, [], 0, s.length)]) (id := idn) ?_ ?_
            · have hln : (l ++ [((6 : Int), ([] : List UInt8), 0, s.length)]).length = (l.map tkR).length + 1 := by simp
              rw [hln]
              rfl
            · rw [List.map_append]
              exact hget_self
        · have hlt : a1 < s.length := by omega
          rw [tks_eq hlt, hnb hlt, if_neg (by decide)] at hR
          (first | refine ah ?_ | exact ah0)
          refine callF_of ((lexer_next_spec (s := s) (at' := a1) g4 hlt hs).mono fun rr H2 hh => ?_)
          have k3 := hh.keep id3 _ n34 g3
          cases hx : lex (s.drop a1) with
          | bad e off =>
            obtain ⟨k, t, num, ap, rfl⟩ := hh.bad e off hx
            have := lex_err hx
            rw [hx] at hR
            subst hR
            (first | refine ah ?_ | exact ah0)
            intro id7 hid7 ht7
            (first | refine ah ?_ | exact ah0)
            intro id8 hid8 ht8
            have n73 := hget_ne_of hid7 k3
            have n83 := hget_ne_of hid8 ((hget_tail n73).trans k3)
            have n87 := (hget_fresh hid8).1
            (first | refine ah ?_ | exact ah0)
            exact TokO.of_bad rfl
          | tok k t num m =>
            obtain ⟨rfl, g4n⟩ := hh.tok k t num m hx
            have bd := lex_bound hx
            rw [List.length_drop] at bd
            rw [hx] at hR
            (first | refine ah ?_ | exact ah0)
            intro id7 hid7 ht7
            (first | refine ah ?_ | exact ah0)
            intro id8 hid8 ht8
            have n73 := hget_ne_of hid7 k3
            have n83 := hget_ne_of hid8 ((hget_tail n73).trans k3)
            have n87 := (hget_fresh hid8).1
            have n74 := hget_ne_of hid7 g4n
            have n84 := hget_ne_of hid8 ((hget_tail n74).trans g4n)
            have len := T1.len
            replace hR : TR.pre l (if l.length = 64 then TR.bad 3 a1 else TR.pre [(k, t, num, a1)] (tks s (a1 + m) (l.length + 1))) = R := hR
            by_cases h64 : l.length = 64
            · rw [if_pos h64] at hR
              subst hR
              rcases T1.own with ⟨rfl, rfl⟩ | ⟨ids, rfl, gs, ts, pos, ns3, ns4⟩
              · cases h64
              · (first | refine ah ?_ | exact ah0)
                exact TokO.of_bad rfl
            · rw [if_neg h64, TR.pre_pre] at hR
              have hln : (l ++ [(k, t, num, a1)]).length = l.length + 1 := by simp
              rw [← hln] at hR
              rcases T1.own with ⟨rfl, rfl⟩ | ⟨ids, rfl, gs, ts, pos, ns3, ns4⟩
              · (first | refine ah ?_ | exact ah0)
                refine ⟨_, rfl, by simp, (fun e => by cases e), fun _ => ?_⟩
                intro idn hidn htn
                (first | refine ah ?_ | exact ah0)
                refine ⟨[(0, some (.str s)), (3, some (.ptr id3 2 0 0)), (4, some (.ptr id4 2 0 0)), (5, some (.own idn 4 0 1))], _, (by exact cov_of), Sub.refl _, _, ?_, a1 + m, _, _, rfl, by omega, hR, rfl, ?_⟩
                · omega
                · have q8 := (hget_fresh hidn)
                  have q7 := (hget_fresh q8.2)
                  have m4 := hget_ne_of q7.2 g4n
                  have m3 := hget_ne_of q7.2 k3
                  exact ⟨by exact hg_of, by exact hg_of, n34, ⟨.inr ⟨idn, rfl, hget_self, htn, by simp⟩⟩, by simp⟩
              · have exs : (((l.map tkR).take l.length).drop 0) = l.map tkR := by rw [List.drop_zero, show l.length = (l.map tkR).length from by simp, List.take_length]
                have gs2 := hh.keep ids _ ns4 gs
                have n7s := hget_ne_of hid7 gs2
                have n8s := hget_ne_of hid8 ((hget_tail n7s).trans gs2)
                (first | refine ah ?_ | exact ah0)
                refine ⟨_, _, (readS_own (by exact hg_of) (by simp)).trans (congrArg some exs), rfl, rfl, rfl, ts, by simp; omega, ?_⟩
                intro idn hidn htn
                have q0 : ∀ j b, j ≠ ids → j ≠ id7 → j ≠ id8 → hget H2 j = some b → idn ≠ j := fun j b r1 r2 r3 r4 => hget_ne_of hidn (show hget _ j = some b by exact hg_of)
                (first | refine ah ?_ | exact ah0)
                have m4 := q0 id4 _ ns4.symm n74.symm n84.symm g4n
                have m3 := q0 id3 _ ns3.symm n73.symm n83.symm k3
                refine ⟨[(0, some (.str s)), (3, some (.ptr id3 2 0 0)), (4, some (.ptr id4 2 0 0)), (5, some (.own idn 4 0 ((l.map tkR).length + 1)))], _, (by exact cov_of), Sub.refl _, _, ?_, a1 + m, _, _, rfl, by omega, hR, rfl, ?_⟩
                · omega
                · exact ⟨by exact hg_of, by exact hg_of, n34, ⟨.inr ⟨idn, by simp, by rw [List.map_append]; exact hget_self, htn, by simp⟩⟩, by simp; omega⟩
end Go.Proofs.YtjaigpidmngaaaaGreat

namespace Go.Proofs.YtjaigpidmngaaaaGreat
theorem ltr_nam {c : UInt8} (h : ltr c = true) : nam c = true := by simp [nam, h]
theorem tw_all {f : UInt8 → Bool} : ∀ {r : List UInt8} {n : Nat}, n ≤ (r.takeWhile f).length → (r.take n).all f = true
  | [], n, _ => by simp
  | c :: r, 0, _ => rfl
  | c :: r, n + 1, h => by
    rw [List.takeWhile_cons] at h
    split at h
    · rename_i hc
      rw [List.take_succ_cons, List.all_cons, hc, tw_all (by simpa using h)]; rfl
    · simp at h
theorem fmd_take {s : List UInt8} {n : Nat} (hn : n ≤ nl s) (hl : n < s.length) : fmd (s.take (n + 1)) = decide (n < nl s) := by
  cases s with
  | nil => simp at hl
  | cons c r =>
    rw [nl_cons] at hn ⊢
    unfold fmd
    rw [List.take_succ_cons, decide_eq_true (by simp), List.getD_cons_zero, List.all_cons]
    cases hc : ltr c with
    | false => rw [decide_eq_false (by simp)]; rfl
    | true =>
      rw [hc, if_pos rfl] at hn
      rw [ltr_nam hc, if_pos rfl]
      simp only [Bool.true_and]
      have hl' : n ≤ r.length := by simpa using Nat.le_of_lt_succ (by simpa using hl)
      cases n with
      | zero => simp; omega
      | succ n =>
        have hl2 : n < r.length := hl'
        rw [all_take _ _ hl2, tw_all (show n ≤ (r.takeWhile nam).length by omega), Bool.true_and]
        have := tw_step (f := nam) (r := r) (n := n) (by omega) hl2
        exact bool_iff (by rw [← this]; omega)
def signs : List (List UInt8) := [[61], [60, 62], [60], [60, 61], [62], [62, 61], [40], [41], [46], [91], [93], [45]]
def qdr : List UInt8 → List UInt8 → Option (List UInt8)
  | [], _ => none
  | [c], acc => if c = 39 then some acc else none
  | c :: d :: r, acc => if c = 39 then (if d = 39 then qdr r (acc ++ [39]) else none) else qdr (d :: r) (acc ++ [c])
def qd (s : List UInt8) : Option (List UInt8) := if s.getD 0 0 = 39 ∧ 2 ≤ s.length then qdr (s.drop 1) [] else none
def kd (s : List UInt8) : Nat :=
  if nl s = s.length then 1 else if s ≠ [] ∧ s.all dig = true then 2 else if (qd s).isSome = true then 3
  else if s.length = 2 ∧ s.getD 0 0 = 37 ∧ dig (s.getD 1 0) = true then 4 else if signs.contains s = true then 5 else 0
def lg (s : List UInt8) : Nat → Nat → Nat → Nat → Nat × Nat
  | 0, _, best, k => if k = 3 then (0, 0) else (best, k)
  | m + 1, n, best, k =>
    if kd (s.take n) = 3 ∧ (n = s.length ∨ s.getD n 0 ≠ 39) then (n, 3)
    else if s.getD 0 0 ≠ 39 ∧ kd (s.take n) = 0 ∧ 1 < n then (best, k)
    else if 0 < kd (s.take n) then lg s m (n + 1) n (kd (s.take n)) else lg s m (n + 1) best k
def longest (s : List UInt8) : Nat × Nat := lg s s.length 1 0 0
end Go.Proofs.YtjaigpidmngaaaaGreat

namespace Go.Proofs.YtjaigpidmngaaaaGreat
attribute [local irreducible] callA callP ACalls
theorem ref_Lead_spec (s : List UInt8) (hs : s.length ≤ 140737488351230) (H : AH) : ACalls PG broadsheetref04_Lead.n [.str s] H fun r H' => r = .int .i64 (nl s : Nat) ∧ H' = H := by
  have hle := nl_le s
  refine broadsheetref04_Lead.of rfl (wpF_start ?_)
  (first | refine ah ?_ | exact ah0)
  refine ⟨fun n L H' => ∃ i : Nat, n = s.length - i ∧ i ≤ nl s ∧ L = [(0, some (.str s)), (3, some (.int .i64 i))] ∧ H' = H, ⟨_, H, ?_, Sub.refl _, _, 0, rfl, Nat.zero_le _, rfl, rfl⟩, ?_⟩
  · exact (by exact cov_of)
  · rintro n L H' ⟨i, rfl, hi, rfl, rfl⟩
    (first | refine ah ?_ | exact ah0)
    refine bsplit_dec (fun h1 => ?_) (fun h1 => ?_)
    · have htl : (s.take (i + 1)).length = i + 1 := by rw [List.length_take]; omega
      (first | refine ah ?_ | exact ah0)
      rw [show ((i : Int) + 1).toNat = i + 1 from by omega]
      rw [show List.drop (Int.toNat 0) (s.take (i + 1)) = s.take (i + 1) from rfl]
      refine callF_eq (ref_formed_spec _ (by omega) _) ?_
      rw [fmd_take hi (by omega)]
      (first | refine ah ?_ | exact ah0)
      refine bsplit_dec (fun h2 => ?_) (fun h2 => ?_)
      · (first | refine ah ?_ | exact ah0)
        refine ⟨[(0, some (.str s)), (3, some (.int .i64 (i + 1 : Nat)))], H', (by exact cov_of), Sub.refl _, _, ?_, i + 1, rfl, by omega, rfl, rfl⟩
        omega
      · (first | refine ah ?_ | exact ah0)
        exact ⟨by rw [show i = nl s from by omega], rfl⟩
    · (first | refine ah ?_ | exact ah0)
      exact ⟨by rw [show i = nl s from by omega], rfl⟩
end Go.Proofs.YtjaigpidmngaaaaGreat
