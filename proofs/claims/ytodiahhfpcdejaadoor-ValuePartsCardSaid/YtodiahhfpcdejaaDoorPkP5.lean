/- Texts of this proof, one behind the other: TypFind, TypItem, TypDeep, RTypSpec, RTypItem, RTypCheck, RTypMore, ValSpec, DatSpec, ShelfLay, FmtLay, FmtSpec, TextSpec, TextSpec2, SimRec, TypArg, ValLaw, ValAtSpec, RDatSpec, RTextSpec, ValTellLaw, ValPartLaw, TabSpec. -/
import Derived.Test.YtodiahhfpcdejaaDoorPkP4
import Derived.Test.YtodiahhfpcdejaaDoorProg
import Derived.Shelf.Strings.OnBuilder
import Derived.Shelf.Strconv.Itoa3
import Derived.KernelRfl
import Derived.WalkKit
import Derived.WalkSpells
import Derived.BigCall
import Derived.BigGuard
import Derived.Test.YtodiahhfpcdejaaDoorCards
import Derived.Test.YtodiahhfpcdejaaDoorTie
import Derived.Lib.LaidTab
import Derived.LaidMore
import Derived.Stop.LaidErr
import Derived.SevenTiedAt
/- Types, walked: an item's place. -/
namespace Go.Proofs.YtodiahhfpcdejaaDoor
set_option autoImplicit false
set_option linter.unusedSimpArgs false
set_option linter.unusedVariables false
attribute [local irreducible] callA callP ACalls
def fIx (l : List Ty) (t : Int) (kp : Int → Bool) (hp : It → Bool) : Option Nat := if 0 ≤ t ∧ t < l.length ∧ kp (tAt l t).kd = true then (tAt l t).its.findIdx? hp else none
abbrev ixA : Option Nat → AV
  | some n => .tup [.int .i64 (n : Nat), .bool true]
  | none => .tup [.int .i64 0, .bool false]
theorem tAt_get {l : List Ty} {t : Int} (h0 : 0 ≤ t) (h : t < l.length) : (l.map tyR).getD t.toNat [] = tyR (tAt l t) := by
  unfold tAt; simp [List.getD, show t.toNat < l.length from by omega]
theorem tAt_mem {l : List Ty} {t : Int} (h0 : 0 ≤ t) (h : t < l.length) : tAt l t ∈ l := by
  have : t.toNat < l.length := by omega
  unfold tAt; simp [List.getD, this]
theorem find_spec (l : List Ty) (hl : TysOk l) (t : Int) (f1 f2 : Nat) (c1 c2 : List AV) (kp : Int → Bool) (hp : It → Bool) (Hs : AH) (h1 : ∀ k, ACalls PG f1 (.int .i64 k :: c1) Hs fun r H' => r = .bool (kp k) ∧ H' = Hs)
    (h2 : ∀ x, ACalls PG f2 (.agg (itR x) :: c2) Hs fun r H' => r = .bool (hp x) ∧ H' = Hs) : ACalls PG types_find.n [tysA l, .int .i64 t, .clo f1 [] c1, .clo f2 [] c2] Hs fun r H' => r = ixA (fIx l t kp hp) ∧ H' = Hs := by
  have hlen : (l.map tyR).length = l.length := by simp
  have hll := hl.len
  refine ACalls.fz (types_find.of rfl (wpF_start ?_))
  unfold fIx
  (first | refine au ?_ | exact au0 | fail)
  by_cases hb : 0 ≤ t ∧ t < l.length
  · have hge := tAt_get hb.1 hb.2
    have hti := (hl.all _ (tAt_mem hb.1 hb.2)).its
    generalize tAt l t = g at *
    have hlen2 : (g.its.map itR).length = g.its.length := by simp
    (first | refine au ?_ | exact au0 | fail)
    rw [hge]
    (first | refine au ?_ | exact au0 | fail)
    first | refine callF_eq (h1 _) ?_ | refine callG_eq rfl (h1 _) ?_
    cases hk : kp g.kd
    · (first | refine au ?_ | exact au0 | fail)
      rw [if_neg (by simp)]
      exact ⟨fz_of, sub_of⟩
    · rw [if_pos ⟨hb.1, hb.2, rfl⟩]
      (first | refine au ?_ | exact au0 | fail)
      rw [hge]
      (first | refine au ?_ | exact au0 | fail)
      refine loopL [(3, some _), (34, some _), (35, some _)] 36 0 g.its.length (none' hp g.its) (by repeat (first | exact trivial | refine And.intro (Or.inl rfl) ?_ | refine And.intro (Or.inr (Exists.intro _ (And.intro rfl (Fz.refl _)))) ?_ | refine And.intro (Or.inr (Exists.intro _ (And.intro rfl (fz_eq (congrArg (AV.int _) (by omega)))))) ?_ | refine And.intro (Or.inr (Exists.intro _ (And.intro rfl (fz_eq (congrArg (AV.own _ _ _) (by (try dsimp only); (try simp only [List.length_append, List.length_map, List.length_cons, List.length_nil, List.length_take, List.length_set, List.length_replicate]); (try dsimp only); first | done | omega)))))) ?_)) (Nat.zero_le _) none'_zero (fun i hi hno => ?_)
      (first | refine au ?_ | exact au0 | fail)
      refine bsplit_dec (fun c => ?_) (fun c => ?_)
      · have hil : i < g.its.length := by omega
        have hge2 := row_get (f := itR) hil
        have hhit : hp g.its[i] = true → g.its.findIdx? hp = some i := find_hit hno hil
        have hnx := none'_succ hno hil
        generalize g.its[i] = x at *
        (first | refine au ?_ | exact au0 | fail)
        rw [hge2]
        (first | refine au ?_ | exact au0 | fail)
        intro id9 hid9 ht9; have n9 := neAll_of hid9; (try simp only [neAll, neAll_hset] at n9); have m9 := n9; (repeat (obtain ⟨_, m9⟩ := m9))
        (first | refine au ?_ | exact au0 | fail)
        first | refine callF_eq ((h2 x).sup (by exact sub_of)) ?_ | refine callG_eq rfl ((h2 x).sup (by exact sub_of)) ?_
        cases hx : hp x
        · (first | refine au ?_ | exact au0 | fail)
          refine nextN (by repeat (first | exact trivial | refine And.intro (Or.inl rfl) ?_ | refine And.intro (Or.inr (Exists.intro _ (And.intro rfl (Fz.refl _)))) ?_ | refine And.intro (Or.inr (Exists.intro _ (And.intro rfl (fz_eq (congrArg (AV.int _) (by omega)))))) ?_ | refine And.intro (Or.inr (Exists.intro _ (And.intro rfl (fz_eq (congrArg (AV.own _ _ _) (by (try dsimp only); (try simp only [List.length_append, List.length_map, List.length_cons, List.length_nil, List.length_take, List.length_set, List.length_replicate]); (try dsimp only); first | done | omega)))))) ?_)) (by exact sub_of) (by omega) (hnx hx)
        · (first | refine au ?_ | exact au0 | fail)
          rw [hhit hx]
          exact ⟨fz_of, sub_of⟩
      · (first | refine au ?_ | exact au0 | fail)
        rw [find_none hno (by omega)]
        exact ⟨fz_of, sub_of⟩
  · rw [if_neg (fun q => hb ⟨q.1, q.2.1⟩)]
    (repeat' (first | (refine au ?_; first | refine bsplit_dec (fun _ => ?_) (fun _ => ?_) | refine bsplit_intro (fun _ => ?_) (fun _ => ?_)) | exact au0 | fail)); (all_goals try (first | refine au ?_ | fail))
    all_goals first | omega | exact ⟨fz_of, sub_of⟩
theorem Value1_spec (k : Int) (H : AH) : ACalls PG types_Value_1.n [.int .i64 k] H fun r H' => r = .bool (decide (k = 9)) ∧ H' = H := by
  refine ACalls.fz (types_Value_1.of rfl (wpF_start ?_))
  (first | refine au ?_ | exact au0 | fail)
  exact ⟨fz_of, sub_of⟩
theorem Value2_spec (x : It) (n id : Nat) : ACalls PG types_Value_2.n [.agg (itR x), .ptr id 1 0 0] [(id, .rows 1 [[.int .u64 (n : Nat)]])] fun r H' => r = .bool (x.num == n) ∧ H' = [(id, .rows 1 [[.int .u64 (n : Nat)]])] := by
  refine ACalls.fz (types_Value_2.of' (Nat.le_of_ble_eq_true rfl) (wpF_start ?_))
  (first | refine au ?_ | exact au0 | fail)
  intro id2 hid2 ht2; have n2 := neAll_of hid2; (try simp only [neAll, neAll_hset] at n2); have m2 := n2; (repeat (obtain ⟨_, m2⟩ := m2))
  (first | refine au ?_ | exact au0 | fail)
  refine ⟨fz_eq (congrArg AV.bool ?_), sub_of⟩
  rw [Bool.eq_iff_iff]; simp; omega
theorem fIx_val (l : List Ty) (t : Int) (n : Nat) : fIx l t (fun k => decide (k = 9)) (fun x => x.num == n) = valIx l t n := by
  unfold fIx valIx; simp only [decide_eq_true_eq]
theorem Value_spec (l : List Ty) (hl : TysOk l) (t : Int) (n : Nat) (H : AH) : ACalls PG types_Value.n [tysA l, .int .i64 t, .int .u64 (n : Nat)] H fun r H' => r = ixA (valIx l t n) ∧ H' = H := by
  refine ACalls.fz (types_Value.of rfl (wpF_start ?_))
  rw [← fIx_val]
  (first | refine au ?_ | exact au0 | fail)
  intro id5 hid5 ht5; have n5 := neAll_of hid5; (try simp only [neAll, neAll_hset] at n5); have m5 := n5; (repeat (obtain ⟨_, m5⟩ := m5))
  (first | refine au ?_ | exact au0 | fail)
  first | refine callF_eq ((find_spec l hl t types_Value_1.n types_Value_2.n [] [.ptr id5 1 0 0] (fun k => decide (k = 9)) (fun x => x.num == n) _ (fun k => Value1_spec k _) (fun x => Value2_spec x n id5)).sup (by exact sub_of)) ?_ | refine callG_eq rfl ((find_spec l hl t types_Value_1.n types_Value_2.n [] [.ptr id5 1 0 0] (fun k => decide (k = 9)) (fun x => x.num == n) _ (fun k => Value1_spec k _) (fun x => Value2_spec x n id5)).sup (by exact sub_of)) ?_
  cases fIx l t (fun k => decide (k = 9)) (fun x => x.num == n) with
  | some m =>
    (first | refine au ?_ | exact au0 | fail)
    exact ⟨fz_of, sub_of⟩
  | none =>
    (first | refine au ?_ | exact au0 | fail)
    exact ⟨fz_of, sub_of⟩
theorem Branch1_spec (k : Int) (H : AH) : ACalls PG types_Branch_1.n [.int .i64 k] H fun r H' => r = .bool (decide (k = 14)) ∧ H' = H := by
  refine ACalls.fz (types_Branch_1.of rfl (wpF_start ?_))
  (first | refine au ?_ | exact au0 | fail)
  exact ⟨fz_of, sub_of⟩
theorem Branch2_spec (x : It) (n id : Nat) : ACalls PG types_Branch_2.n [.agg (itR x), .ptr id 1 0 0] [(id, .rows 1 [[.int .u64 (n : Nat)]])] fun r H' => r = .bool (x.num == n && !x.rest) ∧ H' = [(id, .rows 1 [[.int .u64 (n : Nat)]])] := by
  refine ACalls.fz (types_Branch_2.of' (Nat.le_of_ble_eq_true rfl) (wpF_start ?_))
  (first | refine au ?_ | exact au0 | fail)
  intro id2 hid2 ht2; have n2 := neAll_of hid2; (try simp only [neAll, neAll_hset] at n2); have m2 := n2; (repeat (obtain ⟨_, m2⟩ := m2))
  (first | refine au ?_ | exact au0 | fail)
  refine bsplit_dec (fun c => ?_) (fun c => ?_)
  · (first | refine au ?_ | exact au0 | fail)
    refine ⟨fz_eq (congrArg AV.bool ?_), sub_of⟩
    have : x.num = n := by omega
    simp [this]
  · (first | refine au ?_ | exact au0 | fail)
    refine ⟨fz_eq (congrArg AV.bool ?_), sub_of⟩
    have : ¬ x.num = n := by omega
    simp [this]
theorem Branch3_spec (x : It) (H : AH) : ACalls PG types_Branch_3.n [.agg (itR x)] H fun r H' => r = .bool x.rest ∧ H' = H := by
  refine ACalls.fz (types_Branch_3.of rfl (wpF_start ?_))
  (first | refine au ?_ | exact au0 | fail)
  intro id1 hid1 ht1; have n1 := neAll_of hid1; (try simp only [neAll, neAll_hset] at n1); have m1 := n1; (repeat (obtain ⟨_, m1⟩ := m1))
  (first | refine au ?_ | exact au0 | fail)
  exact ⟨fz_of, sub_of⟩
theorem fIx_br (l : List Ty) (t : Int) (n : Nat) : (fIx l t (fun k => decide (k = 14)) (fun x => x.num == n && !x.rest)).or (fIx l t (fun k => decide (k = 14)) (·.rest)) = brIx l t n := by
  unfold fIx brIx; simp only [decide_eq_true_eq]; split <;> rfl
theorem Branch_spec (l : List Ty) (hl : TysOk l) (t : Int) (n : Nat) (H : AH) : ACalls PG types_Branch.n [tysA l, .int .i64 t, .int .u64 (n : Nat)] H fun r H' => r = ixA (brIx l t n) ∧ H' = H := by
  refine ACalls.fz (types_Branch.of rfl (wpF_start ?_))
  rw [← fIx_br]
  (first | refine au ?_ | exact au0 | fail)
  intro id5 hid5 ht5; have n5 := neAll_of hid5; (try simp only [neAll, neAll_hset] at n5); have m5 := n5; (repeat (obtain ⟨_, m5⟩ := m5))
  (first | refine au ?_ | exact au0 | fail)
  first | refine callF_eq ((find_spec l hl t types_Branch_1.n types_Branch_2.n [] [.ptr id5 1 0 0] (fun k => decide (k = 14)) (fun x => x.num == n && !x.rest) _ (fun k => Branch1_spec k _) (fun x => Branch2_spec x n id5)).sup (by exact sub_of)) ?_ | refine callG_eq rfl ((find_spec l hl t types_Branch_1.n types_Branch_2.n [] [.ptr id5 1 0 0] (fun k => decide (k = 14)) (fun x => x.num == n && !x.rest) _ (fun k => Branch1_spec k _) (fun x => Branch2_spec x n id5)).sup (by exact sub_of)) ?_
  cases fIx l t (fun k => decide (k = 14)) (fun x => x.num == n && !x.rest) with
  | some m =>
    (first | refine au ?_ | exact au0 | fail)
    exact ⟨fz_of, sub_of⟩
  | none =>
    (first | refine au ?_ | exact au0 | fail)
    first | refine callF_eq (find_spec l hl t types_Branch_1.n types_Branch_3.n [] [] (fun k => decide (k = 14)) (fun x => x.rest) _ (fun k => Branch1_spec k _) (fun x => Branch3_spec x _)) ?_ | refine callG_eq rfl (find_spec l hl t types_Branch_1.n types_Branch_3.n [] [] (fun k => decide (k = 14)) (fun x => x.rest) _ (fun k => Branch1_spec k _) (fun x => Branch3_spec x _)) ?_
    cases fIx l t (fun k => decide (k = 14)) (fun x => x.rest) with
    | some m =>
      (first | refine au ?_ | exact au0 | fail)
      exact ⟨fz_of, sub_of⟩
    | none =>
      (first | refine au ?_ | exact au0 | fail)
      exact ⟨fz_of, sub_of⟩
/-- Are the parts' places ahead? -/
theorem orderE_in {l : List Ty} {t : Ty} {n : Nat} (h : orderE l t n = 0) : ∀ p ∈ parts t, 0 ≤ p ∧ p < n := by
  intro p hp
  unfold orderE at h
  split at h
  · cases h
  · rename_i hn
    have := List.any_eq_false.1 (by simpa using hn : (parts t).any (fun p => decide (p < 0 ∨ (n : Int) ≤ p)) = false) p hp
    simp only [decide_eq_true_eq] at this
    omega
theorem may_spec (l : List Ty) (hl : TysOk l) (n : Nat) (t : Ty) (hn : n ≤ l.length) (hN : kNm t.kd = true) (h13 : t.kd ≠ 13) (ho : orderE l t n = 0) (m : Nat) (id : Nat) : SW PG types_look_may.n [.ptr id 8 0 0, .int .u64 (m : Nat)] id (kB l n t) [] (.bool (mayT l t m)) (kB l n t) := by
  have hlen : (l.map tyR).length = l.length := by simp
  have hll := hl.len
  refine ACalls.fz (types_look_may.of rfl (wpF_start ?_))
  unfold mayT
  (first | refine au ?_ | exact au0 | fail)
  refine bsplit_dec (fun c => ?_) (fun c => ?_)
  · rw [if_pos c]
    (first | refine au ?_ | exact au0 | fail)
    first | refine callF_eq (prim_May_spec _ m _) ?_ | refine callG_eq rfl (prim_May_spec _ m _) ?_
    (first | refine au ?_ | exact au0 | fail)
    exact ⟨fz_of, sub_of⟩
  · rw [if_neg c]
    have h14 : t.kd = 14 := by rcases kd4 hN with h | h | h <;> omega
    have hin := orderE_in ho _ (parts_tag h14)
    have hge := tAt_get (l := l) hin.1 (by omega)
    generalize hg : tAt l t.tg = g at *
    (first | refine au ?_ | exact au0 | fail)
    rw [hge]
    (first | refine au ?_ | exact au0 | fail)
    intro id4 hid4 ht4; have n4 := neAll_of hid4; (try simp only [neAll, neAll_hset] at n4); have m4 := n4; (repeat (obtain ⟨_, m4⟩ := m4))
    (first | refine au ?_ | exact au0 | fail)
    refine bsplit_dec (fun c2 => ?_) (fun c2 => ?_)
    · rw [if_pos c2]
      have hV := fun H => Value_spec l hl t.tg m H
      generalize valIx l t.tg m = o at *
      cases o with
      | some k =>
        (first | refine au ?_ | exact au0 | fail)
        first | refine callF_eq (hV _) ?_ | refine callG_eq rfl (hV _) ?_
        (first | refine au ?_ | exact au0 | fail)
        exact ⟨fz_of, sub_of⟩
      | none =>
        (first | refine au ?_ | exact au0 | fail)
        first | refine callF_eq (hV _) ?_ | refine callG_eq rfl (hV _) ?_
        (first | refine au ?_ | exact au0 | fail)
        exact ⟨fz_of, sub_of⟩
    · rw [if_neg c2]
      (first | refine au ?_ | exact au0 | fail)
      first | refine callF_eq (prim_May_spec _ m _) ?_ | refine callG_eq rfl (prim_May_spec _ m _) ?_
      (first | refine au ?_ | exact au0 | fail)
      exact ⟨fz_of, sub_of⟩
end Go.Proofs.YtodiahhfpcdejaaDoor

/- Types, walked: a type's items. -/
namespace Go.Proofs.YtodiahhfpcdejaaDoor
set_option autoImplicit false
set_option linter.unusedSimpArgs false
set_option linter.unusedVariables false
attribute [local irreducible] callA callP ACalls
theorem getD_get {α : Type} {l : List α} {i : Nat} {d : α} (h : i < l.length) : l.getD i d = l[i] := by simp [List.getD, h]
theorem parts_item {t : Ty} (h : t.kd = 13 ∨ t.kd = 14) {x : It} (hx : x ∈ t.its) : x.ty ∈ parts t := by
  unfold parts; rw [if_pos h]; simp only [List.mem_append]; exact .inr (List.mem_map_of_mem hx)
theorem item_spec (l : List Ty) (hl : TysOk l) (n : Nat) (t : Ty) (hok : TyOk t) (hn : n ≤ l.length) (hN : kNm t.kd = true) (ho : orderE l t n = 0) (i : Nat) (hi : i < t.its.length) (id : Nat) :
    SW PG types_look_item.n [.ptr id 8 0 0, .int .i64 (i : Nat)] id (kB l n t) [] (.int .i64 (itemE l t i)) (kB l n t) := by
  have hlen : (t.its.map itR).length = t.its.length := by simp
  have hll := hl.len
  have hli := hok.its
  have hge := row_get (f := itR) hi
  have hx := List.getElem_mem hi
  have hsn := hok.nms _ hx
  have hpt := fun h => parts_item (t := t) h hx
  have hmay := fun h13 => may_spec l hl n t hn hN h13 ho t.its[i].num id
  refine ACalls.fz (types_look_item.of rfl (wpF_start ?_))
  unfold itemE
  dsimp only
  rw [getD_get hi]
  generalize t.its[i] = x at *
  (first | refine au ?_ | exact au0 | fail)
  rw [hge]
  (first | refine au ?_ | exact au0 | fail)
  intro id5 hid5 ht5; have n5 := neAll_of hid5; (try simp only [neAll, neAll_hset] at n5); have m5 := n5; (repeat (obtain ⟨_, m5⟩ := m5))
  (first | refine au ?_ | exact au0 | fail)
  first | refine callF_eq (name_Name_spec _ hsn _) ?_ | refine callG_eq rfl (name_Name_spec _ hsn _) ?_
  cases hO : nameOk x.nm
  · (first | refine au ?_ | exact au0 | fail)
    exact ⟨fz_of, sub_of⟩
  rw [if_pos rfl]
  (first | refine au ?_ | exact au0 | fail)
  have e1 : List.drop (Int.toNat 0) (List.take (Int.toNat (i : Nat)) (t.its.map itR)) = (t.its.take i).map itR := by simp
  have hl2 : (t.its.take i).length = i := by rw [List.length_take]; omega
  have hlen2 : ((t.its.take i).map itR).length = i := by simp; omega
  rw [e1]
  refine loopL [(0, some _), (1, some _), (5, some _), (29, some _), (30, some _)] 31 0 i (none' (fun y => y.nm == x.nm) (t.its.take i)) (by repeat (first | exact trivial | refine And.intro (Or.inl rfl) ?_ | refine And.intro (Or.inr (Exists.intro _ (And.intro rfl (Fz.refl _)))) ?_ | refine And.intro (Or.inr (Exists.intro _ (And.intro rfl (fz_eq (congrArg (AV.int _) (by omega)))))) ?_ | refine And.intro (Or.inr (Exists.intro _ (And.intro rfl (fz_eq (congrArg (AV.own _ _ _) (by (try dsimp only); (try simp only [List.length_append, List.length_map, List.length_cons, List.length_nil, List.length_take, List.length_set, List.length_replicate]); (try dsimp only); first | done | omega)))))) ?_)) (Nat.zero_le _) none'_zero (fun j hj hno => ?_)
  (first | refine au ?_ | exact au0 | fail)
  refine bsplit_dec (fun c => ?_) (fun c => ?_)
  · have hil : j < (t.its.take i).length := by omega
    have hge2 := row_get (f := itR) hil
    have hany : ((t.its.take i)[j].nm == x.nm) = true → (t.its.take i).any (fun y => y.nm == x.nm) = true := any_hit (p := fun y : It => y.nm == x.nm) hil
    have hnx := none'_succ hno hil
    generalize (t.its.take i)[j] = y at *
    (first | refine au ?_ | exact au0 | fail)
    rw [hge2]
    (first | refine au ?_ | exact au0 | fail)
    intro id7 hid7 ht7; have n7 := neAll_of hid7; (try simp only [neAll, neAll_hset] at n7); have m7 := n7; (repeat (obtain ⟨_, m7⟩ := m7))
    (first | refine au ?_ | exact au0 | fail)
    refine bsplit_dec (fun h => ?_) (fun h => ?_)
    · (first | refine au ?_ | exact au0 | fail)
      rw [hany (by simpa using h)]
      exact ⟨fz_of, sub_of⟩
    · (first | refine au ?_ | exact au0 | fail)
      refine nextN (by repeat (first | exact trivial | refine And.intro (Or.inl rfl) ?_ | refine And.intro (Or.inr (Exists.intro _ (And.intro rfl (Fz.refl _)))) ?_ | refine And.intro (Or.inr (Exists.intro _ (And.intro rfl (fz_eq (congrArg (AV.int _) (by omega)))))) ?_ | refine And.intro (Or.inr (Exists.intro _ (And.intro rfl (fz_eq (congrArg (AV.own _ _ _) (by (try dsimp only); (try simp only [List.length_append, List.length_map, List.length_cons, List.length_nil, List.length_take, List.length_set, List.length_replicate]); (try dsimp only); first | done | omega)))))) ?_)) (by exact sub_of) (by omega) (hnx (by simpa using h))
  rw [none'_end hno (by omega), if_neg Bool.false_ne_true]
  (first | refine au ?_ | exact au0 | fail)
  refine bsplit_dec (fun h13 => ?_) (fun h13 => ?_)
  · have hin := orderE_in ho _ (hpt (.inl h13))
    have hge3 := tAt_get (l := l) hin.1 (by omega)
    rw [if_pos h13]
    generalize tAt l x.ty = g at *
    (first | refine au ?_ | exact au0 | fail)
    rw [hge3]
    cases hkey : x.key
    all_goals (repeat' (first | (refine au ?_; first | refine callF_eq (prim_Number_spec _ _) ?_ | refine bsplit_dec (fun _ => ?_) (fun _ => ?_) | refine bsplit_intro (fun _ => ?_) (fun _ => ?_)) | exact au0 | fail)); (all_goals try (first | refine au ?_ | fail))
    all_goals (refine ⟨fz_eq (congrArg (AV.int .i64) ?_), sub_of⟩; first | (simp only [isNum, decide_eq_false_iff_not, true_and, Bool.false_eq_true, false_and, if_false]; done) | (simp only [isNum, decide_eq_false_iff_not, true_and, Bool.false_eq_true, false_and, if_false]; split <;> omega))
  · rw [if_neg h13]
    have hm := hmay h13
    cases hr : x.rest
    · (first | refine au ?_ | exact au0 | fail)
      refine hm.call (by exact hg_of) (Sub.nil _) ?_
      cases hy : mayT l t x.num
      · (first | refine au ?_ | exact au0 | fail)
        exact ⟨fz_of, sub_of⟩
      (first | refine au ?_ | exact au0 | fail)
      rw [e1]
      refine loopL [(5, some _), (97, some _), (98, some _)] 99 0 i (none' (fun y => y.num == x.num) (t.its.take i)) (by repeat (first | exact trivial | refine And.intro (Or.inl rfl) ?_ | refine And.intro (Or.inr (Exists.intro _ (And.intro rfl (Fz.refl _)))) ?_ | refine And.intro (Or.inr (Exists.intro _ (And.intro rfl (fz_eq (congrArg (AV.int _) (by omega)))))) ?_ | refine And.intro (Or.inr (Exists.intro _ (And.intro rfl (fz_eq (congrArg (AV.own _ _ _) (by (try dsimp only); (try simp only [List.length_append, List.length_map, List.length_cons, List.length_nil, List.length_take, List.length_set, List.length_replicate]); (try dsimp only); first | done | omega)))))) ?_)) (Nat.zero_le _) none'_zero (fun j hj hno => ?_)
      (first | refine au ?_ | exact au0 | fail)
      refine bsplit_dec (fun c => ?_) (fun c => ?_)
      · have hil : j < (t.its.take i).length := by omega
        have hge2 := row_get (f := itR) hil
        have hany : ((t.its.take i)[j].num == x.num) = true → (t.its.take i).any (fun y => y.num == x.num) = true := any_hit (p := fun y : It => y.num == x.num) hil
        have hnx := none'_succ hno hil
        generalize (t.its.take i)[j] = y at *
        (first | refine au ?_ | exact au0 | fail)
        rw [hge2]
        (first | refine au ?_ | exact au0 | fail)
        intro id7 hid7 ht7; have n7 := neAll_of hid7; (try simp only [neAll, neAll_hset] at n7); have m7 := n7; (repeat (obtain ⟨_, m7⟩ := m7))
        (first | refine au ?_ | exact au0 | fail)
        refine bsplit_dec (fun h => ?_) (fun h => ?_)
        · (first | refine au ?_ | exact au0 | fail)
          rw [hany (by simp; omega)]
          exact ⟨fz_of, sub_of⟩
        · (first | refine au ?_ | exact au0 | fail)
          refine nextN (by repeat (first | exact trivial | refine And.intro (Or.inl rfl) ?_ | refine And.intro (Or.inr (Exists.intro _ (And.intro rfl (Fz.refl _)))) ?_ | refine And.intro (Or.inr (Exists.intro _ (And.intro rfl (fz_eq (congrArg (AV.int _) (by omega)))))) ?_ | refine And.intro (Or.inr (Exists.intro _ (And.intro rfl (fz_eq (congrArg (AV.own _ _ _) (by (try dsimp only); (try simp only [List.length_append, List.length_map, List.length_cons, List.length_nil, List.length_take, List.length_set, List.length_replicate]); (try dsimp only); first | done | omega)))))) ?_)) (by exact sub_of) (by omega) (hnx (by simp; omega))
      · rw [none'_end hno (by omega)]
        (first | refine au ?_ | exact au0 | fail)
        exact ⟨fz_of, sub_of⟩
    · rw [if_pos (rfl : true = true)]
      (first | refine au ?_ | exact au0 | fail)
      refine bsplit_dec (fun c => ?_) (fun c => ?_)
      · (first | refine au ?_ | exact au0 | fail)
        refine ⟨fz_eq (congrArg (AV.int .i64) ?_), sub_of⟩
        rw [if_neg (by omega)]
      · (first | refine au ?_ | exact au0 | fail)
        refine ⟨fz_eq (congrArg (AV.int .i64) ?_), sub_of⟩
        rw [if_pos (by omega)]
theorem items_spec (l : List Ty) (hl : TysOk l) (n : Nat) (t : Ty) (hok : TyOk t) (hn : n ≤ l.length) (ho : orderE l t n = 0) (id : Nat) :
    SW PG types_look_items.n [.ptr id 8 0 0] id (kB l n t) [] (.int .i64 (itemsE l t)) (kB l n t) := by
  have hlen : (t.its.map itR).length = t.its.length := by simp
  have hli := hok.its
  refine ACalls.fz (types_look_items.of rfl (wpF_start ?_))
  unfold itemsE
  (first | refine au ?_ | exact au0 | fail)
  first | refine callF_eq (has_spec _ _) ?_ | refine callG_eq rfl (has_spec _ _) ?_
  cases hN : kNm t.kd
  · (first | refine au ?_ | exact au0 | fail)
    exact ⟨fz_of, sub_of⟩
  rw [if_pos rfl]
  (first | refine au ?_ | exact au0 | fail)
  refine bsplit_dec (fun c => ?_) (fun c => ?_)
  · (first | refine au ?_ | exact au0 | fail)
    exact ⟨fz_eq (congrArg (AV.int .i64) (by rw [if_pos (by omega)])), sub_of⟩
  rw [if_neg (by omega)]
  (first | refine au ?_ | exact au0 | fail)
  refine bsplit_dec (fun c2 => ?_) (fun c2 => ?_)
  · (first | refine au ?_ | exact au0 | fail)
    exact ⟨fz_eq (congrArg (AV.int .i64) (by rw [if_pos (by omega)])), sub_of⟩
  rw [if_neg (by omega)]
  (first | refine au ?_ | exact au0 | fail)
  have hgl : ∀ (k : Nat) (h : k < ((List.range t.its.length).map (itemE l t)).length), ((List.range t.its.length).map (itemE l t))[k] = itemE l t k := fun k h => by simp
  have hlm : ((List.range t.its.length).map (itemE l t)).length = t.its.length := by simp
  refine loopL [(0, some _), (40, some _)] 41 0 t.its.length (fun i => ∀ k, k < i → itemE l t k = 0) (by repeat (first | exact trivial | refine And.intro (Or.inl rfl) ?_ | refine And.intro (Or.inr (Exists.intro _ (And.intro rfl (Fz.refl _)))) ?_ | refine And.intro (Or.inr (Exists.intro _ (And.intro rfl (fz_eq (congrArg (AV.int _) (by omega)))))) ?_ | refine And.intro (Or.inr (Exists.intro _ (And.intro rfl (fz_eq (congrArg (AV.own _ _ _) (by (try dsimp only); (try simp only [List.length_append, List.length_map, List.length_cons, List.length_nil, List.length_take, List.length_set, List.length_replicate]); (try dsimp only); first | done | omega)))))) ?_)) (Nat.zero_le _) (fun k h => by omega) (fun i hi hno => ?_)
  (first | refine au ?_ | exact au0 | fail)
  refine bsplit_dec (fun c3 => ?_) (fun c3 => ?_)
  · have hil : i < t.its.length := by omega
    (first | refine au ?_ | exact au0 | fail)
    refine (item_spec l hl n t hok hn hN ho i hil id).call (by exact hg_of) (Sub.nil _) ?_
    (first | refine au ?_ | exact au0 | fail)
    refine bsplit_dec (fun h => ?_) (fun h => ?_)
    · (first | refine au ?_ | exact au0 | fail)
      rw [fst0_hit (i := i) (fun k hk h3 => by rw [hgl]; exact hno k h3) (by omega) (by rw [hgl]; exact h), hgl]
      exact ⟨fz_of, sub_of⟩
    · (first | refine au ?_ | exact au0 | fail)
      refine nextN (by repeat (first | exact trivial | refine And.intro (Or.inl rfl) ?_ | refine And.intro (Or.inr (Exists.intro _ (And.intro rfl (Fz.refl _)))) ?_ | refine And.intro (Or.inr (Exists.intro _ (And.intro rfl (fz_eq (congrArg (AV.int _) (by omega)))))) ?_ | refine And.intro (Or.inr (Exists.intro _ (And.intro rfl (fz_eq (congrArg (AV.own _ _ _) (by (try dsimp only); (try simp only [List.length_append, List.length_map, List.length_cons, List.length_nil, List.length_take, List.length_set, List.length_replicate]); (try dsimp only); first | done | omega)))))) ?_)) (by exact sub_of) (by omega) (fun k hk => ?_)
      by_cases e : k = i
      · subst e; exact Classical.not_not.1 h
      · exact hno k (by omega)
  · (first | refine au ?_ | exact au0 | fail)
    rw [fst0_end (fun k hk => by rw [hgl]; exact hno k (by omega))]
    exact ⟨fz_of, sub_of⟩
end Go.Proofs.YtodiahhfpcdejaaDoor

/- Types, walked: how deep. -/
namespace Go.Proofs.YtodiahhfpcdejaaDoor
set_option autoImplicit false
set_option linter.unusedSimpArgs false
set_option linter.unusedVariables false
attribute [local irreducible] callA callP ACalls
abbrev naR (n : Nat) : List AV := [.int .i64 (n : Nat)]
/-- A part's depth, met. -/
def dpF (D : List Nat) (n : Nat) (m : Nat) (p : Int) : Nat := if 0 ≤ p ∧ p < (n : Int) then max m (D.getD p.toNat 0 + 1) else m
theorem dpT_succ (l : List Ty) (n : Nat) : dpT l (n + 1) = dpT l n ++ [(parts (l.getD n ty0)).foldl (dpF (dpT l n) n) 1] := rfl
theorem dpT_len (l : List Ty) : ∀ n, (dpT l n).length = n
  | 0 => rfl
  | n + 1 => by rw [dpT_succ, List.length_append, dpT_len l n]; rfl
theorem foldl_take {α β : Type} (f : β → α → β) (b : β) (l : List α) (i : Nat) (h : i < l.length) : (l.take (i + 1)).foldl f b = f ((l.take i).foldl f b) l[i] := by
  rw [List.take_add_one, List.getElem?_eq_getElem h, List.foldl_append]; rfl
theorem dpF_le {D : List Nat} {n b : Nat} (hD : ∀ x ∈ D, x ≤ b) : ∀ (ps : List Int) (m : Nat), m ≤ b + 1 → ps.foldl (dpF D n) m ≤ b + 1
  | [], m, h => h
  | p :: ps, m, h => by
    refine dpF_le hD ps _ ?_
    unfold dpF
    split
    · have : D.getD p.toNat 0 ≤ b := by
        by_cases hp : p.toNat < D.length
        · rw [getD_get hp]; exact hD _ (List.getElem_mem hp)
        · simp [List.getD, hp]
      omega
    · exact h
theorem dpT_le (l : List Ty) : ∀ n, ∀ x ∈ dpT l n, x ≤ n
  | 0, x, h => by cases h
  | n + 1, x, h => by
    rw [dpT_succ, List.mem_append] at h
    rcases h with h | h
    · have := dpT_le l n x h; omega
    · simp only [List.mem_singleton] at h
      rw [h]
      exact dpF_le (dpT_le l n) _ _ (by omega)
/-- Depths in memory: the first n, one, zeros. -/
def dpR (D : List Nat) (m k : Nat) : List (List AV) := (D ++ m :: List.replicate k 0).map naR
theorem dpR_set {D : List Nat} {m m' k n : Nat} (h : D.length = n) : (dpR D m k).set n (naR m') = dpR D m' k := by
  unfold dpR
  rw [← List.map_set, List.set_append_right _ _ (by omega)]
  simp [h]
theorem dpR_at {D : List Nat} {m k n : Nat} (h : D.length = n) : (dpR D m k)[n]? = some (naR m) := by
  unfold dpR; rw [List.getElem?_map, List.getElem?_append_right (by omega)]; simp [h]
theorem dpR_lt {D : List Nat} {m k p : Nat} (h : p < D.length) : (dpR D m k)[p]? = some (naR (D.getD p 0)) := by
  unfold dpR; rw [List.getElem?_map, List.getElem?_append_left h]; simp [List.getD, h]
theorem dpR_len (D : List Nat) (m k : Nat) : (dpR D m k).length = D.length + 1 + k := by simp [dpR]; omega
theorem Deep_spec0 (l : List Ty) (hl : TysOk l) (t : Int) : ACalls PG types_Deep.n [tysA l, .int .i64 t] [] fun r _ => r = .int .i64 (deepT l t : Nat) := by
  have hlen : (l.map tyR).length = l.length := by simp
  have hll := hl.len
  refine ACalls.fzK (types_Deep.of rfl (wpF_start ?_))
  unfold deepT
  by_cases hb : 0 ≤ t ∧ t < l.length
  · rw [if_pos hb]
    obtain ⟨n, rfl⟩ : ∃ n : Nat, t = n := ⟨t.toNat, by omega⟩
    rw [show Int.toNat (n : Nat) = n from rfl]
    (first | refine au ?_ | exact au0 | fail)
    intro id5 hid5 ht5; have n5 := neAll_of hid5; (try simp only [neAll, neAll_hset] at n5); have m5 := n5; (repeat (obtain ⟨_, m5⟩ := m5))
    (first | refine au ?_ | exact au0 | fail)
    rw [show ((n : Int) + 1).toNat = n + 1 from by omega]
    refine loopM (S := Nat) [(0, some _), (1, some _), (5, some _), (21, some _)] (fun i => [(22, some (.int .i64 (i : Nat)))]) (fun i => [(id5, .rows 1 ((dpT l i ++ List.replicate (n + 1 - i) 0).map naR))]) (fun i => n + 1 - i) (fun i => i ≤ n + 1) 0 (by repeat (first | exact trivial | refine And.intro (Or.inl rfl) ?_ | refine And.intro (Or.inr (Exists.intro _ (And.intro rfl (Fz.refl _)))) ?_ | refine And.intro (Or.inr (Exists.intro _ (And.intro rfl (fz_eq (congrArg (AV.int _) (by omega)))))) ?_ | refine And.intro (Or.inr (Exists.intro _ (And.intro rfl (fz_eq (congrArg (AV.own _ _ _) (by (try dsimp only); (try simp only [List.length_append, List.length_map, List.length_cons, List.length_nil, List.length_take, List.length_set, List.length_replicate]); (try dsimp only); first | done | omega)))))) ?_)) (by simp only [dpT, List.nil_append, List.map_replicate]; exact Sub.refl _) (by omega) (fun i hi => ?_)
    have hD := dpT_len l i
    have hDle := dpT_le l i
    (first | refine au ?_ | exact au0 | fail)
    refine bsplit_dec (fun c => ?_) (fun c => ?_)
    · have hin : i ≤ n := by omega
      have hB : (dpT l i ++ List.replicate (n + 1 - i) 0).map naR = dpR (dpT l i) 0 (n - i) := by
        unfold dpR; rw [show n + 1 - i = (n - i) + 1 from by omega, List.replicate_succ]
      rw [hB]
      have hil : i < l.length := by omega
      have hge := row_get (f := tyR) hil
      have hpe : l.getD i ty0 = l[i] := getD_get hil
      have hti := (hl.all _ (List.getElem_mem hil)).its
      (first | refine au ?_ | exact au0 | fail)
      refine ⟨_, _, (by exact hg_of), (by rw [Nat.zero_add, Int.toNat_natCast]; exact dpR_at hD), rfl, rfl, (Nat.le_of_ble_eq_true rfl), hsetN_of (b' := .rows 1 (dpR (dpT l i) 1 (n - i))) (by rw [Nat.zero_add, Int.toNat_natCast]; exact congrArg (Blk.rows 1) (dpR_set (m' := 1) hD)) ?_⟩
      (first | refine au ?_ | exact au0 | fail)
      rw [hge]
      have hps := dpT_succ l i
      rw [hpe] at hps
      generalize l[i] = g at *
      have hpl := parts_len g
      have hplm : ((parts g).map inR).length = (parts g).length := by simp
      (first | refine au ?_ | exact au0 | fail)
      first | refine callF_eq (parts_spec g hti _) ?_ | refine callG_eq rfl (parts_spec g hti _) ?_
      (first | refine au ?_ | exact au0 | fail)
      refine loopM (S := Nat) [(0, some _), (1, some _), (5, some _), (6, some _), (21, some _), (22, some _), (32, some _), (33, some _)] (fun j => [(34, some (.int .i64 (j : Nat)))]) (fun j => [(id5, .rows 1 (dpR (dpT l i) (((parts g).take j).foldl (dpF (dpT l i) i) 1) (n - i)))]) (fun j => (parts g).length - j) (fun j => j ≤ (parts g).length) 0 (by repeat (first | exact trivial | refine And.intro (Or.inl rfl) ?_ | refine And.intro (Or.inr (Exists.intro _ (And.intro rfl (Fz.refl _)))) ?_ | refine And.intro (Or.inr (Exists.intro _ (And.intro rfl (fz_eq (congrArg (AV.int _) (by omega)))))) ?_ | refine And.intro (Or.inr (Exists.intro _ (And.intro rfl (fz_eq (congrArg (AV.own _ _ _) (by (try dsimp only); (try simp only [List.length_append, List.length_map, List.length_cons, List.length_nil, List.length_take, List.length_set, List.length_replicate]); (try dsimp only); first | done | omega)))))) ?_)) (Sub.refl _) (by omega) (fun j hj => ?_)
      have hm := dpF_le (n := i) hDle ((parts g).take j) 1 (by omega)
      (first | refine au ?_ | exact au0 | fail)
      refine bsplit_dec (fun c2 => ?_) (fun c2 => ?_)
      · have hjl : j < (parts g).length := by omega
        have hge2 := row_get (f := inR) hjl
        have hft := foldl_take (dpF (dpT l i) i) 1 (parts g) j hjl
        generalize (parts g)[j] = p at *
        generalize ((parts g).take j).foldl (dpF (dpT l i) i) 1 = m at *
        (first | refine au ?_ | exact au0 | fail)
        rw [hge2]
        (first | refine au ?_ | exact au0 | fail)
        rw [show dpF (dpT l i) i m p = if 0 ≤ p ∧ p < (i : Int) then max m ((dpT l i).getD p.toNat 0 + 1) else m from rfl] at hft
        refine bsplit_dec (fun c3 => ?_) (fun c3 => ?_)
        · (first | refine au ?_ | exact au0 | fail)
          refine bsplit_dec (fun c4 => ?_) (fun c4 => ?_)
          · rw [if_pos (by omega)] at hft
            (first | refine au ?_ | exact au0 | fail)
            refine ⟨_, _, (by exact hg_of), (by rw [Nat.zero_add, Int.toNat_natCast]; exact dpR_at hD), ?_⟩
            (first | refine au ?_ | exact au0 | fail)
            have hpl : p.toNat < (dpT l i).length := by omega
            have hpv : (dpT l i).getD p.toNat 0 ≤ i := by rw [getD_get hpl]; exact hDle _ (List.getElem_mem hpl)
            refine ⟨_, _, (by exact hg_of), (by rw [Nat.zero_add]; exact dpR_lt hpl), ?_⟩
            (first | refine au ?_ | exact au0 | fail)
            refine ⟨_, _, (by exact hg_of), (by rw [Nat.zero_add, Int.toNat_natCast]; exact dpR_at hD), rfl, rfl, (Nat.le_of_ble_eq_true rfl), hsetN_of (b' := .rows 1 (dpR (dpT l i) (max m ((dpT l i).getD p.toNat 0 + 1)) (n - i))) (by
              rw [Nat.zero_add, Int.toNat_natCast]
              refine Eq.trans (congrArg (fun x : List AV => Blk.rows 1 (List.set (dpR (dpT l i) m (n - i)) i x)) ?_) (congrArg (Blk.rows 1) (dpR_set (m' := max m ((dpT l i).getD p.toNat 0 + 1)) hD))
              show [AV.int .i64 (max (m : Int) (((dpT l i).getD p.toNat 0 : Nat) + 1))] = [AV.int .i64 ((max m ((dpT l i).getD p.toNat 0 + 1) : Nat) : Int)]
              rw [cast_max]; rfl) ?_⟩
            (first | refine au ?_ | exact au0 | fail)
            refine nextS (S := Nat) (j + 1) (by repeat (first | exact trivial | refine And.intro (Or.inl rfl) ?_ | refine And.intro (Or.inr (Exists.intro _ (And.intro rfl (Fz.refl _)))) ?_ | refine And.intro (Or.inr (Exists.intro _ (And.intro rfl (fz_eq (congrArg (AV.int _) (by omega)))))) ?_ | refine And.intro (Or.inr (Exists.intro _ (And.intro rfl (fz_eq (congrArg (AV.own _ _ _) (by (try dsimp only); (try simp only [List.length_append, List.length_map, List.length_cons, List.length_nil, List.length_take, List.length_set, List.length_replicate]); (try dsimp only); first | done | omega)))))) ?_)) (by (try dsimp only); rw [hft]; exact Sub.refl _) (by first | omega | (dsimp only; omega)) hjl
          · rw [if_neg (by omega)] at hft
            (first | refine au ?_ | exact au0 | fail)
            refine nextS (S := Nat) (j + 1) (by repeat (first | exact trivial | refine And.intro (Or.inl rfl) ?_ | refine And.intro (Or.inr (Exists.intro _ (And.intro rfl (Fz.refl _)))) ?_ | refine And.intro (Or.inr (Exists.intro _ (And.intro rfl (fz_eq (congrArg (AV.int _) (by omega)))))) ?_ | refine And.intro (Or.inr (Exists.intro _ (And.intro rfl (fz_eq (congrArg (AV.own _ _ _) (by (try dsimp only); (try simp only [List.length_append, List.length_map, List.length_cons, List.length_nil, List.length_take, List.length_set, List.length_replicate]); (try dsimp only); first | done | omega)))))) ?_)) (by (try dsimp only); rw [hft]; exact Sub.refl _) (by first | omega | (dsimp only; omega)) hjl
        · rw [if_neg (by omega)] at hft
          (first | refine au ?_ | exact au0 | fail)
          refine nextS (S := Nat) (j + 1) (by repeat (first | exact trivial | refine And.intro (Or.inl rfl) ?_ | refine And.intro (Or.inr (Exists.intro _ (And.intro rfl (Fz.refl _)))) ?_ | refine And.intro (Or.inr (Exists.intro _ (And.intro rfl (fz_eq (congrArg (AV.int _) (by omega)))))) ?_ | refine And.intro (Or.inr (Exists.intro _ (And.intro rfl (fz_eq (congrArg (AV.own _ _ _) (by (try dsimp only); (try simp only [List.length_append, List.length_map, List.length_cons, List.length_nil, List.length_take, List.length_set, List.length_replicate]); (try dsimp only); first | done | omega)))))) ?_)) (by (try dsimp only); rw [hft]; exact Sub.refl _) (by first | omega | (dsimp only; omega)) hjl
      · obtain rfl : j = (parts g).length := by omega
        rw [List.take_length]
        (first | refine au ?_ | exact au0 | fail)
        refine nextS (S := Nat) (i + 1) (by repeat (first | exact trivial | refine And.intro (Or.inl rfl) ?_ | refine And.intro (Or.inr (Exists.intro _ (And.intro rfl (Fz.refl _)))) ?_ | refine And.intro (Or.inr (Exists.intro _ (And.intro rfl (fz_eq (congrArg (AV.int _) (by omega)))))) ?_ | refine And.intro (Or.inr (Exists.intro _ (And.intro rfl (fz_eq (congrArg (AV.own _ _ _) (by (try dsimp only); (try simp only [List.length_append, List.length_map, List.length_cons, List.length_nil, List.length_take, List.length_set, List.length_replicate]); (try dsimp only); first | done | omega)))))) ?_)) (by
          (try dsimp only)
          rw [hps, show n + 1 - (i + 1) = n - i from by omega]
          unfold dpR
          rw [List.append_assoc]
          exact Sub.refl _) (by first | omega | (dsimp only; omega)) (by omega)
    · obtain rfl : i = n + 1 := by omega
      (first | refine au ?_ | exact au0 | fail)
      have hnl : n < (dpT l (n + 1)).length := by omega
      refine ⟨_, naR ((dpT l (n + 1)).getD n 0), (by exact hg_of), (by rw [Nat.zero_add, Int.toNat_natCast, List.getElem?_map, List.getElem?_append_left hnl, List.getElem?_eq_getElem hnl, getD_get hnl]; rfl), ?_⟩
      (first | refine au ?_ | exact au0 | fail)
      exact fz_of
  · rw [if_neg hb]
    (repeat' (first | (refine au ?_; first | refine bsplit_dec (fun _ => ?_) (fun _ => ?_) | refine bsplit_intro (fun _ => ?_) (fun _ => ?_)) | exact au0 | fail)); (all_goals try (first | refine au ?_ | fail))
    all_goals first | omega | exact fz_of
theorem Deep_tspec (l : List Ty) (hl : TysOk l) (t : Int) (H : AH) : ACalls PG types_Deep.n [tysA l, .int .i64 t] H fun r H' => r = .int .i64 (deepT l t : Nat) ∧ H' = H := (Deep_spec0 l hl t).frame H
theorem deep_spec (l : List Ty) (hl : TysOk l) (n : Nat) (t : Ty) (id : Nat) : SW PG types_look_deep.n [.ptr id 8 0 0] id (kB l n t) [] (.int .i64 (deepE l n)) (kB l n t) := by
  refine ACalls.fz (types_look_deep.of rfl (wpF_start ?_))
  unfold deepE
  (first | refine au ?_ | exact au0 | fail)
  first | refine callF_eq (Deep_tspec l hl _ _) ?_ | refine callG_eq rfl (Deep_tspec l hl _ _) ?_
  (first | refine au ?_ | exact au0 | fail)
  refine bsplit_dec (fun c => ?_) (fun c => ?_)
  · (first | refine au ?_ | exact au0 | fail)
    exact ⟨fz_eq (congrArg (AV.int .i64) (by rw [if_pos (by omega)])), sub_of⟩
  · (first | refine au ?_ | exact au0 | fail)
    exact ⟨fz_eq (congrArg (AV.int .i64) (by rw [if_neg (by omega)])), sub_of⟩
theorem Check_spec0 (l : List Ty) (hl : TysOk l) : ACalls PG types_Check.n [tysA l] [] fun r _ => r = .agg [.int .i64 (tyChk l).1, .int .i64 (tyChk l).2] := by
  have hlen : (l.map tyR).length = l.length := by simp
  have hll := hl.len
  refine ACalls.fzK (types_Check.of rfl (wpF_start ?_))
  unfold tyChk
  (first | refine au ?_ | exact au0 | fail)
  intro id2 hid2 ht2; have n2 := neAll_of hid2; (try simp only [neAll, neAll_hset] at n2); have m2 := n2; (repeat (obtain ⟨_, m2⟩ := m2))
  (first | refine au ?_ | exact au0 | fail)
  refine bsplit_dec (fun c => ?_) (fun c => ?_)
  · rw [if_pos (by omega)]
    (first | refine au ?_ | exact au0 | fail)
    exact fz_of
  rw [if_neg (by omega)]
  (first | refine au ?_ | exact au0 | fail)
  have hr : (List.range l.length).length = l.length := List.length_range
  refine loopL [(0, some _), (2, some _), (13, some _), (14, some _)] 15 0 l.length (none' (fun i => decide (tyErr l i ≠ 0)) (List.range l.length)) (by repeat (first | exact trivial | refine And.intro (Or.inl rfl) ?_ | refine And.intro (Or.inr (Exists.intro _ (And.intro rfl (Fz.refl _)))) ?_ | refine And.intro (Or.inr (Exists.intro _ (And.intro rfl (fz_eq (congrArg (AV.int _) (by omega)))))) ?_ | refine And.intro (Or.inr (Exists.intro _ (And.intro rfl (fz_eq (congrArg (AV.own _ _ _) (by (try dsimp only); (try simp only [List.length_append, List.length_map, List.length_cons, List.length_nil, List.length_take, List.length_set, List.length_replicate]); (try dsimp only); first | done | omega)))))) ?_)) (Nat.zero_le _) none'_zero (fun i hi hno => ?_)
  (first | refine au ?_ | exact au0 | fail)
  refine bsplit_dec (fun c2 => ?_) (fun c2 => ?_)
  · have hil : i < l.length := by omega
    have hge := row_get (f := tyR) hil
    have hto := hl.all _ (List.getElem_mem hil)
    have hte : tyErr l i = fst0 [formE l[i], namedE l l[i] i, boundE l[i], orderE l l[i] i, itemsE l l[i], deepE l i] := by unfold tyErr; rw [getD_get hil]
    have hhit : tyErr l i ≠ 0 → (List.range l.length).findIdx? (fun i => decide (tyErr l i ≠ 0)) = some i := fun q => find_hit hno (by omega) (by simpa using q)
    have hnx : tyErr l i = 0 → _ := fun q => none'_succ hno (by omega) (by simpa using q)
    have h0 := form_spec l i l[i] hto
    have h1 := named_spec l i l[i] hto hl hi
    have h2 := bound_spec l i l[i]
    have h3 := order_spec l i l[i] hto hl hil
    have h4 := items_spec l hl i l[i] hto hi
    have h5 := deep_spec l hl i l[i]
    generalize l[i] = g at *
    (first | refine au ?_ | exact au0 | fail)
    rw [hge]
    (first | refine au ?_ | exact au0 | fail)
    intro id4 hid4 ht4; have n4 := neAll_of hid4; (try simp only [neAll, neAll_hset] at n4); have m4 := n4; (repeat (obtain ⟨_, m4⟩ := m4))
    (first | refine au ?_ | exact au0 | fail)
    intro id24 hid24 ht24; have n24 := neAll_of hid24; (try simp only [neAll, neAll_hset] at n24); have m24 := n24; (repeat (obtain ⟨_, m24⟩ := m24))
    (first | refine au ?_ | exact au0 | fail)
    refine loopL [(0, some _), (2, some _), (3, some _), (13, some _), (14, some _), (15, some _), (37, some _), (38, some _)] 39 0 6 (fun j => (0 < j → formE g = 0) ∧ (1 < j → namedE l g i = 0) ∧ (2 < j → boundE g = 0) ∧ (3 < j → orderE l g i = 0) ∧ (4 < j → itemsE l g = 0) ∧ (5 < j → deepE l i = 0)) (by repeat (first | exact trivial | refine And.intro (Or.inl rfl) ?_ | refine And.intro (Or.inr (Exists.intro _ (And.intro rfl (Fz.refl _)))) ?_ | refine And.intro (Or.inr (Exists.intro _ (And.intro rfl (fz_eq (congrArg (AV.int _) (by omega)))))) ?_ | refine And.intro (Or.inr (Exists.intro _ (And.intro rfl (fz_eq (congrArg (AV.own _ _ _) (by (try dsimp only); (try simp only [List.length_append, List.length_map, List.length_cons, List.length_nil, List.length_take, List.length_set, List.length_replicate]); (try dsimp only); first | done | omega)))))) ?_)) (Nat.zero_le _) (by omega) (fun j hj hz => ?_)
    obtain ⟨z0, z1, z2, z3, z4, z5⟩ := hz
    (first | refine au ?_ | exact au0 | fail)
    refine bsplit_dec (fun c3 => ?_) (fun c3 => ?_)
    · have hj6 : j < 6 := by
        have : (j : Int) < 6 := by simpa using c3
        omega
      have hjj : j = 0 ∨ j = 1 ∨ j = 2 ∨ j = 3 ∨ j = 4 ∨ j = 5 := by omega
      rcases hjj with rfl | rfl | rfl | rfl | rfl | rfl
      · (first | refine au ?_ | exact au0 | fail)
        refine (h0 id24).call (by exact hg_of) (Sub.nil _) ?_
        (first | refine au ?_ | exact au0 | fail)
        refine bsplit_dec (fun hz => ?_) (fun hz => ?_)
        · (first | refine au ?_ | exact au0 | fail)
          have ht : tyErr l i = formE g := by rw [hte]; simp only [fst0]; simp only [ ne_eq, not_true_eq_false, if_false, hz, not_false_eq_true, if_true]
          rw [hhit (by rw [ht]; exact hz)]
          dsimp only
          rw [ht]
          exact fz_of
        · have hz := Classical.not_not.1 hz
          (first | refine au ?_ | exact au0 | fail)
          refine nextN (by repeat (first | exact trivial | refine And.intro (Or.inl rfl) ?_ | refine And.intro (Or.inr (Exists.intro _ (And.intro rfl (Fz.refl _)))) ?_ | refine And.intro (Or.inr (Exists.intro _ (And.intro rfl (fz_eq (congrArg (AV.int _) (by omega)))))) ?_ | refine And.intro (Or.inr (Exists.intro _ (And.intro rfl (fz_eq (congrArg (AV.own _ _ _) (by (try dsimp only); (try simp only [List.length_append, List.length_map, List.length_cons, List.length_nil, List.length_take, List.length_set, List.length_replicate]); (try dsimp only); first | done | omega)))))) ?_)) (by exact sub_of) (by omega) ⟨?_, ?_, ?_, ?_, ?_, ?_⟩ <;> intro q <;> first | exact hz | omega | exact z0 (by omega) | exact z1 (by omega) | exact z2 (by omega) | exact z3 (by omega) | exact z4 (by omega)
      · (first | refine au ?_ | exact au0 | fail)
        refine (h1 id24).call (by exact hg_of) (Sub.nil _) ?_
        (first | refine au ?_ | exact au0 | fail)
        refine bsplit_dec (fun hz => ?_) (fun hz => ?_)
        · (first | refine au ?_ | exact au0 | fail)
          have ht : tyErr l i = namedE l g i := by rw [hte]; simp only [fst0]; simp only [z0 (by omega), ne_eq, not_true_eq_false, if_false, hz, not_false_eq_true, if_true]
          rw [hhit (by rw [ht]; exact hz)]
          dsimp only
          rw [ht]
          exact fz_of
        · have hz := Classical.not_not.1 hz
          (first | refine au ?_ | exact au0 | fail)
          refine nextN (by repeat (first | exact trivial | refine And.intro (Or.inl rfl) ?_ | refine And.intro (Or.inr (Exists.intro _ (And.intro rfl (Fz.refl _)))) ?_ | refine And.intro (Or.inr (Exists.intro _ (And.intro rfl (fz_eq (congrArg (AV.int _) (by omega)))))) ?_ | refine And.intro (Or.inr (Exists.intro _ (And.intro rfl (fz_eq (congrArg (AV.own _ _ _) (by (try dsimp only); (try simp only [List.length_append, List.length_map, List.length_cons, List.length_nil, List.length_take, List.length_set, List.length_replicate]); (try dsimp only); first | done | omega)))))) ?_)) (by exact sub_of) (by omega) ⟨?_, ?_, ?_, ?_, ?_, ?_⟩ <;> intro q <;> first | exact hz | omega | exact z0 (by omega) | exact z1 (by omega) | exact z2 (by omega) | exact z3 (by omega) | exact z4 (by omega)
      · (first | refine au ?_ | exact au0 | fail)
        refine (h2 id24).call (by exact hg_of) (Sub.nil _) ?_
        (first | refine au ?_ | exact au0 | fail)
        refine bsplit_dec (fun hz => ?_) (fun hz => ?_)
        · (first | refine au ?_ | exact au0 | fail)
          have ht : tyErr l i = boundE g := by rw [hte]; simp only [fst0]; simp only [z0 (by omega), z1 (by omega), ne_eq, not_true_eq_false, if_false, hz, not_false_eq_true, if_true]
          rw [hhit (by rw [ht]; exact hz)]
          dsimp only
          rw [ht]
          exact fz_of
        · have hz := Classical.not_not.1 hz
          (first | refine au ?_ | exact au0 | fail)
          refine nextN (by repeat (first | exact trivial | refine And.intro (Or.inl rfl) ?_ | refine And.intro (Or.inr (Exists.intro _ (And.intro rfl (Fz.refl _)))) ?_ | refine And.intro (Or.inr (Exists.intro _ (And.intro rfl (fz_eq (congrArg (AV.int _) (by omega)))))) ?_ | refine And.intro (Or.inr (Exists.intro _ (And.intro rfl (fz_eq (congrArg (AV.own _ _ _) (by (try dsimp only); (try simp only [List.length_append, List.length_map, List.length_cons, List.length_nil, List.length_take, List.length_set, List.length_replicate]); (try dsimp only); first | done | omega)))))) ?_)) (by exact sub_of) (by omega) ⟨?_, ?_, ?_, ?_, ?_, ?_⟩ <;> intro q <;> first | exact hz | omega | exact z0 (by omega) | exact z1 (by omega) | exact z2 (by omega) | exact z3 (by omega) | exact z4 (by omega)
      · (first | refine au ?_ | exact au0 | fail)
        refine (h3 id24).call (by exact hg_of) (Sub.nil _) ?_
        (first | refine au ?_ | exact au0 | fail)
        refine bsplit_dec (fun hz => ?_) (fun hz => ?_)
        · (first | refine au ?_ | exact au0 | fail)
          have ht : tyErr l i = orderE l g i := by rw [hte]; simp only [fst0]; simp only [z0 (by omega), z1 (by omega), z2 (by omega), ne_eq, not_true_eq_false, if_false, hz, not_false_eq_true, if_true]
          rw [hhit (by rw [ht]; exact hz)]
          dsimp only
          rw [ht]
          exact fz_of
        · have hz := Classical.not_not.1 hz
          (first | refine au ?_ | exact au0 | fail)
          refine nextN (by repeat (first | exact trivial | refine And.intro (Or.inl rfl) ?_ | refine And.intro (Or.inr (Exists.intro _ (And.intro rfl (Fz.refl _)))) ?_ | refine And.intro (Or.inr (Exists.intro _ (And.intro rfl (fz_eq (congrArg (AV.int _) (by omega)))))) ?_ | refine And.intro (Or.inr (Exists.intro _ (And.intro rfl (fz_eq (congrArg (AV.own _ _ _) (by (try dsimp only); (try simp only [List.length_append, List.length_map, List.length_cons, List.length_nil, List.length_take, List.length_set, List.length_replicate]); (try dsimp only); first | done | omega)))))) ?_)) (by exact sub_of) (by omega) ⟨?_, ?_, ?_, ?_, ?_, ?_⟩ <;> intro q <;> first | exact hz | omega | exact z0 (by omega) | exact z1 (by omega) | exact z2 (by omega) | exact z3 (by omega) | exact z4 (by omega)
      · (first | refine au ?_ | exact au0 | fail)
        refine ((h4 (z3 (by omega))) id24).call (by exact hg_of) (Sub.nil _) ?_
        (first | refine au ?_ | exact au0 | fail)
        refine bsplit_dec (fun hz => ?_) (fun hz => ?_)
        · (first | refine au ?_ | exact au0 | fail)
          have ht : tyErr l i = itemsE l g := by rw [hte]; simp only [fst0]; simp only [z0 (by omega), z1 (by omega), z2 (by omega), z3 (by omega), ne_eq, not_true_eq_false, if_false, hz, not_false_eq_true, if_true]
          rw [hhit (by rw [ht]; exact hz)]
          dsimp only
          rw [ht]
          exact fz_of
        · have hz := Classical.not_not.1 hz
          (first | refine au ?_ | exact au0 | fail)
          refine nextN (by repeat (first | exact trivial | refine And.intro (Or.inl rfl) ?_ | refine And.intro (Or.inr (Exists.intro _ (And.intro rfl (Fz.refl _)))) ?_ | refine And.intro (Or.inr (Exists.intro _ (And.intro rfl (fz_eq (congrArg (AV.int _) (by omega)))))) ?_ | refine And.intro (Or.inr (Exists.intro _ (And.intro rfl (fz_eq (congrArg (AV.own _ _ _) (by (try dsimp only); (try simp only [List.length_append, List.length_map, List.length_cons, List.length_nil, List.length_take, List.length_set, List.length_replicate]); (try dsimp only); first | done | omega)))))) ?_)) (by exact sub_of) (by omega) ⟨?_, ?_, ?_, ?_, ?_, ?_⟩ <;> intro q <;> first | exact hz | omega | exact z0 (by omega) | exact z1 (by omega) | exact z2 (by omega) | exact z3 (by omega) | exact z4 (by omega)
      · (first | refine au ?_ | exact au0 | fail)
        refine (h5 id24).call (by exact hg_of) (Sub.nil _) ?_
        (first | refine au ?_ | exact au0 | fail)
        refine bsplit_dec (fun hz => ?_) (fun hz => ?_)
        · (first | refine au ?_ | exact au0 | fail)
          have ht : tyErr l i = deepE l i := by rw [hte]; simp only [fst0]; simp only [z0 (by omega), z1 (by omega), z2 (by omega), z3 (by omega), z4 (by omega), ne_eq, not_true_eq_false, if_false, hz, not_false_eq_true, if_true]
          rw [hhit (by rw [ht]; exact hz)]
          dsimp only
          rw [ht]
          exact fz_of
        · have hz := Classical.not_not.1 hz
          (first | refine au ?_ | exact au0 | fail)
          refine nextN (by repeat (first | exact trivial | refine And.intro (Or.inl rfl) ?_ | refine And.intro (Or.inr (Exists.intro _ (And.intro rfl (Fz.refl _)))) ?_ | refine And.intro (Or.inr (Exists.intro _ (And.intro rfl (fz_eq (congrArg (AV.int _) (by omega)))))) ?_ | refine And.intro (Or.inr (Exists.intro _ (And.intro rfl (fz_eq (congrArg (AV.own _ _ _) (by (try dsimp only); (try simp only [List.length_append, List.length_map, List.length_cons, List.length_nil, List.length_take, List.length_set, List.length_replicate]); (try dsimp only); first | done | omega)))))) ?_)) (by exact sub_of) (by omega) ⟨?_, ?_, ?_, ?_, ?_, ?_⟩ <;> intro q <;> first | exact hz | omega | exact z0 (by omega) | exact z1 (by omega) | exact z2 (by omega) | exact z3 (by omega) | exact z4 (by omega)
    · have hj6 : j = 6 := by
        have : ¬ (j : Int) < 6 := by simpa using c3
        omega
      subst hj6
      (first | refine au ?_ | exact au0 | fail)
      refine nextN (by repeat (first | exact trivial | refine And.intro (Or.inl rfl) ?_ | refine And.intro (Or.inr (Exists.intro _ (And.intro rfl (Fz.refl _)))) ?_ | refine And.intro (Or.inr (Exists.intro _ (And.intro rfl (fz_eq (congrArg (AV.int _) (by omega)))))) ?_ | refine And.intro (Or.inr (Exists.intro _ (And.intro rfl (fz_eq (congrArg (AV.own _ _ _) (by (try dsimp only); (try simp only [List.length_append, List.length_map, List.length_cons, List.length_nil, List.length_take, List.length_set, List.length_replicate]); (try dsimp only); first | done | omega)))))) ?_)) (by exact sub_of) (by omega) (hnx ?_)
      rw [hte]
      simp only [fst0, z0 (by omega), z1 (by omega), z2 (by omega), z3 (by omega), z4 (by omega), z5 (by omega), ne_eq, not_true_eq_false, if_false]
  · (first | refine au ?_ | exact au0 | fail)
    rw [find_none hno (by omega)]
    exact fz_of
end Go.Proofs.YtodiahhfpcdejaaDoor

/- Types in the reference, walked. -/
namespace Go.Proofs.YtodiahhfpcdejaaDoor
set_option autoImplicit false
set_option linter.unusedSimpArgs false
set_option linter.unusedVariables false
attribute [local irreducible] callA callP ACalls
end Go.Proofs.YtodiahhfpcdejaaDoor

/- Types in the reference, walked: items. -/
namespace Go.Proofs.YtodiahhfpcdejaaDoor
set_option autoImplicit false
set_option linter.unusedSimpArgs false
set_option linter.unusedVariables false
attribute [local irreducible] callA callP ACalls
/-- A place, or -1. -/
abbrev ixN : Option Nat → AV
  | some n => .int .i64 (n : Nat)
  | none => .int .i64 (-1)
theorem tw_full {p : UInt8 → Bool} : ∀ r : List UInt8, (r.takeWhile p).length = r.length ↔ r.all p = true
  | [] => by simp
  | a :: r => by
    rw [List.takeWhile_cons]
    cases h : p a
    · simp [h]
    · simp only [if_true, List.length_cons, List.all_cons, h, Bool.true_and, ← tw_full r]; omega
theorem fmd_nl (s : List UInt8) : fmd s = (decide (s ≠ []) && decide (nl s = s.length)) := by
  cases s with
  | nil => rfl
  | cons c r =>
    unfold fmd
    rw [nl_cons]
    simp only [List.getD_cons_zero, List.all_cons, List.length_cons, ne_eq, reduceCtorEq, not_false_eq_true, decide_true, Bool.true_and]
    cases hc : ltr c
    · simp
    · simp only [if_true, Bool.true_and]
      have hn : nam c = true := by simp [nam, hc]
      rw [hn, Bool.true_and]
      have hf := tw_full (p := nam) r
      cases ha : r.all nam
      · symm
        apply decide_eq_false
        intro q
        have := hf.1 (by omega)
        rw [ha] at this; cases this
      · symm
        apply decide_eq_true
        have := hf.2 ha
        omega
theorem any_succ {α : Type} {p : α → Bool} {l : List α} {i : Nat} (h : i < l.length) : (l.take (i + 1)).any p = ((l.take i).any p || p l[i]) := by
  rw [List.take_add_one, List.getElem?_eq_getElem h, List.any_append]; simp
theorem none'_take {α : Type} {p : α → Bool} {l : List α} {i : Nat} (h : none' p l i) : (l.take i).any p = false := take_any_no h (Nat.le_refl _)
theorem take_hit {α : Type} {p : α → Bool} {l : List α} {i k : Nat} (hk : k < l.length) (h : k < i) (hp : p l[k] = true) : (l.take i).any p = true := any_take.2 ⟨k, hk, h, hp⟩
end Go.Proofs.YtodiahhfpcdejaaDoor

/- Types in the reference, walked: which may be. -/
namespace Go.Proofs.YtodiahhfpcdejaaDoor
set_option autoImplicit false
set_option linter.unusedSimpArgs false
set_option linter.unusedVariables false
attribute [local irreducible] callA callP ACalls
theorem dpT_pre (l : List Ty) : ∀ (n p : Nat), p < n → (dpT l n).getD p 0 = (dpT l (p + 1)).getD p 0
  | 0, p, h => by omega
  | n + 1, p, h => by
    by_cases e : p = n
    · rw [e]
    · rw [dpT_succ, List.getD_eq_getElem?_getD, List.getElem?_append_left (by rw [dpT_len]; omega), ← List.getD_eq_getElem?_getD]
      exact dpT_pre l n p (by omega)
theorem dpT_deep {l : List Ty} {n p : Nat} (h : p < n) (hn : n ≤ l.length) : (dpT l n).getD p 0 = deepT l p := by
  unfold deepT
  rw [if_pos (by omega), dpT_pre l n p h, Int.toNat_natCast]
theorem deepT_eq {l : List Ty} {n : Nat} (h : n < l.length) : deepT l n = (parts l[n]).foldl (dpF (dpT l n) n) 1 := by
  unfold deepT
  rw [if_pos (by omega), Int.toNat_natCast, dpT_succ, getD_get h, List.getD_eq_getElem?_getD, List.getElem?_append_right (by rw [dpT_len]; omega), dpT_len]
  simp
theorem formE_0 {t : Ty} (h : ¬ (t.kd < 1 ∨ 14 < t.kd)) (h2 : (tyMore t || t.its.any (itMore t.kd)) = false) : formE t = 0 := by
  simp only [Bool.or_eq_false_iff] at h2
  unfold formE; rw [if_neg h, if_neg (by simp [h2.1, h2.2])]
theorem formE_1 {t : Ty} (h : ¬ (t.kd < 1 ∨ 14 < t.kd)) (h2 : (tyMore t || t.its.any (itMore t.kd)) = true) : formE t = 1 := by
  simp only [Bool.or_eq_true] at h2
  unfold formE; rw [if_neg h, if_pos h2]
theorem tyErr_eq {l : List Ty} {n : Nat} (h : n < l.length) : tyErr l n = fst0 [formE l[n], namedE l l[n] n, boundE l[n], orderE l l[n] n, itemsE l l[n], deepE l n] := by
  unfold tyErr; rw [getD_get h]
theorem Check_spec (l : List Ty) (hl : TysOk l) (H : AH) : ACalls PG types_Check.n [tysA l] H fun r H' => r = .agg [.int .i64 (tyChk l).1, .int .i64 (tyChk l).2] ∧ H' = H := (Check_spec0 l hl).frame H
end Go.Proofs.YtodiahhfpcdejaaDoor

/- Types in the reference, walked: branches; lists that are too great to be asked. -/
namespace Go.Proofs.YtodiahhfpcdejaaDoor
set_option autoImplicit false
set_option linter.unusedSimpArgs false
set_option linter.unusedVariables false
attribute [local irreducible] callA callP ACalls
/-- How many items there are. -/
def itN : List Ty → Nat
  | [] => 0
  | t :: l => t.its.length + itN l
theorem itN_take : ∀ (l : List Ty) (i : Nat) (h : i < l.length), itN (l.take (i + 1)) = itN (l.take i) + l[i].its.length
  | a :: l, 0, h => by simp [itN]
  | a :: l, i + 1, h => by
    have := itN_take l i (by simpa using h)
    simp only [List.take_succ_cons, itN, List.getElem_cons_succ] at this ⊢
    omega
theorem itN_mem : ∀ {l : List Ty} {t : Ty}, t ∈ l → t.its.length ≤ itN l
  | a :: l, t, h => by
    simp only [itN]
    rcases List.mem_cons.1 h with rfl | h
    · omega
    · have := itN_mem h; omega
def tyGreat (l : List Ty) : Bool := decide (100 < l.length) || decide (800 < itN l)
def itB (l : List Ty) (i : Nat) : Nat := min (itN (l.take i)) 1048576
theorem itB_step {l : List Ty} {i : Nat} (h : i < l.length) : itB l (i + 1) = min (itB l i + l[i].its.length) 1048576 := by
  unfold itB; rw [itN_take l i h]; omega
theorem tGreat_spec (l : List Ty) (hl : TysOk l) (H : AH) : ACalls PG broadsheetlaw06_Great.n [tysA l] H fun r H' => r = .bool (tyGreat l) ∧ H' = H := by
  have hlen : (l.map tyR).length = l.length := by simp
  have hll := hl.len
  refine ACalls.fz (broadsheetlaw06_Great.of rfl (wpF_start ?_))
  (first | refine au ?_ | exact au0 | fail)
  refine loopM (S := Nat) [(0, some _)] (fun i => [(3, some (.int .i64 (itB l i : Nat))), (4, some (.int .i64 (i : Nat)))]) (fun _ => _) (fun i => l.length - i) (fun i => i ≤ l.length) 0 (by repeat (first | exact trivial | refine And.intro (Or.inl rfl) ?_ | refine And.intro (Or.inr (Exists.intro _ (And.intro rfl (Fz.refl _)))) ?_ | refine And.intro (Or.inr (Exists.intro _ (And.intro rfl (fz_eq (congrArg (AV.int _) (by omega)))))) ?_ | refine And.intro (Or.inr (Exists.intro _ (And.intro rfl (fz_eq (congrArg (AV.own _ _ _) (by (try dsimp only); (try simp only [List.length_append, List.length_map, List.length_cons, List.length_nil, List.length_take, List.length_set, List.length_replicate]); (try dsimp only); first | done | omega)))))) ?_)) (Sub.refl _) (Nat.zero_le _) (fun i hi => ?_)
  have hb : itB l i ≤ 1048576 := by unfold itB; omega
  (first | refine au ?_ | exact au0 | fail)
  refine bsplit_dec (fun c => ?_) (fun c => ?_)
  · have hil : i < l.length := by omega
    have hge := row_get (f := tyR) hil
    have hst := itB_step hil
    have hti := (hl.all _ (List.getElem_mem hil)).its
    generalize l[i] = g at *
    have hlen2 : (g.its.map itR).length = g.its.length := by simp
    (first | refine au ?_ | exact au0 | fail)
    rw [hge]
    (first | refine au ?_ | exact au0 | fail)
    refine nextS (S := Nat) (i + 1) (by (try dsimp only); rw [hst, ← hlen2, cast_min]; exact (by repeat (first | exact trivial | refine And.intro (Or.inl rfl) ?_ | refine And.intro (Or.inr (Exists.intro _ (And.intro rfl (Fz.refl _)))) ?_ | refine And.intro (Or.inr (Exists.intro _ (And.intro rfl (fz_eq (congrArg (AV.int _) (by omega)))))) ?_ | refine And.intro (Or.inr (Exists.intro _ (And.intro rfl (fz_eq (congrArg (AV.own _ _ _) (by (try dsimp only); (try simp only [List.length_append, List.length_map, List.length_cons, List.length_nil, List.length_take, List.length_set, List.length_replicate]); (try dsimp only); first | done | omega)))))) ?_))) (Sub.refl _) (by first | omega | (dsimp only; omega)) hil
  · have e : itB l i = min (itN l) 1048576 := by unfold itB; rw [List.take_of_length_le (by omega)]
    have eg : tyGreat l = decide (100 < l.length ∨ 800 < itN l) := by unfold tyGreat; rw [Bool.decide_or]
    rw [e, eg]
    (repeat' (first | (refine au ?_; first | refine bsplit_dec (fun _ => ?_) (fun _ => ?_) | refine bsplit_intro (fun _ => ?_) (fun _ => ?_)) | exact au0 | fail)); (all_goals try (first | refine au ?_ | fail))
    all_goals exact ⟨fz_eq (congrArg AV.bool (by first | exact (decide_eq_true (by omega)).symm | exact (decide_eq_false (by omega)).symm | exact decide_eq_decide.2 (by omega) | rfl)), sub_of⟩
end Go.Proofs.YtodiahhfpcdejaaDoor

/- Values, walked. -/
namespace Go.Proofs.YtodiahhfpcdejaaDoor
set_option autoImplicit false
set_option linter.unusedSimpArgs false
set_option linter.unusedVariables false
attribute [local irreducible] callA callP ACalls
mutual
/-- A value's cells. -/
def vlR : Vl → List AV
  | .mk k n t l => [.int .i64 k, .int .u64 (n : Nat), .str t, .rows 4 (vlRs l)]
def vlRs : List Vl → List (List AV)
  | [] => []
  | a :: l => vlR a :: vlRs l
end
abbrev vlA (v : Vl) : AV := .agg (vlR v)
theorem vlRs_map : ∀ l : List Vl, vlRs l = l.map vlR
  | [] => rfl
  | k :: ks => by rw [vlRs, vlRs_map ks]; rfl
theorem vlRs_len (l : List Vl) : (vlRs l).length = l.length := by rw [vlRs_map]; simp
theorem vlR_len (v : Vl) : (vlR v).length = 4 := by cases v; rfl
theorem vlRs_geti {l : List Vl} {i : Nat} (h : i < l.length) : (vlRs l).getD (Int.toNat (i : Nat)) [] = vlR l[i] := by rw [vlRs_map]; exact row_get h
theorem vlSz {l : List Vl} {i : Nat} (h : i < l.length) : SizeOf.sizeOf l[i] < SizeOf.sizeOf l := List.sizeOf_lt_of_mem (List.getElem_mem h)
mutual
theorem vlR_cl : ∀ (x : Vl), ∀ v ∈ vlR x, Cl v
  | .mk k n t l => by
    intro v hv
    simp only [vlR, List.mem_cons, List.not_mem_nil, or_false] at hv
    rcases hv with rfl | rfl | rfl | rfl
    · exact .int _ _
    · exact .int _ _
    · exact .str _
    · exact .rows _ _ (vlRs_cl l)
theorem vlRs_cl : ∀ (l : List Vl), ∀ r ∈ vlRs l, ∀ v ∈ r, Cl v
  | [] => by simp [vlRs]
  | k :: ks => by
    intro r hr
    simp only [vlRs, List.mem_cons] at hr
    rcases hr with rfl | hr
    · exact vlR_cl k
    · exact vlRs_cl ks r hr
end
theorem vlA_no (x : Vl) : NoId (vlA x) := (Cl.agg _ (vlR_cl x)).noId
mutual
/-- Texts and lists are not longer than memory lets them be. -/
def vOk : Vl → Prop
  | .mk _ n t l => n < 18446744073709551616 ∧ t.length ≤ 140737488351232 ∧ l.length ≤ 3000000000000 ∧ vOks l
def vOks : List Vl → Prop
  | [] => True
  | a :: l => vOk a ∧ vOks l
end
theorem vOks_mem : ∀ {l : List Vl}, vOks l → ∀ x ∈ l, vOk x
  | k :: ks, h, x, hx => by
    simp only [vOks] at h
    rcases List.mem_cons.1 hx with rfl | hx
    · exact h.1
    · exact vOks_mem h.2 x hx
theorem vOks_of : ∀ {l : List Vl}, (∀ x ∈ l, vOk x) → vOks l
  | [], _ => trivial
  | k :: ks, h => ⟨h k List.mem_cons_self, vOks_of fun x hx => h x (List.mem_cons_of_mem _ hx)⟩
theorem r8_Great_spec : ∀ (n : Nat) (x : Vl), SizeOf.sizeOf x < n → vGreat x ≤ 1000000 → ACalls PG broadsheetref08_Great.n [vlA x] [] fun r _ => r = .int .i64 (vGreat x : Nat)
  | 0, x, h, _ => by omega
  | n + 1, .mk kd num tx its, hsz, hle => by
    have hkl := vlRs_len its
    have hlen := vGreats_len its
    simp only [vGreat] at hle ⊢
    refine ACalls.fzK (broadsheetref08_Great.of rfl (wpF_start ?_))
    (first | refine au ?_ | exact au0 | fail)
    intro id1 hid1 ht1; have n1 := neAll_of hid1; (try simp only [neAll, neAll_hset] at n1); have m1 := n1; (repeat (obtain ⟨_, m1⟩ := m1))
    (first | refine au ?_ | exact au0 | fail)
    have e0 : 1 + tx.length + vGreats (its.take 0) = 1 + tx.length := by simp [vGreats]
    refine loopM (S := Nat) [(1, some _)] (fun i => [(3, some (.int .i64 (1 + tx.length + vGreats (its.take i) : Nat))), (4, some (.int .i64 (i : Nat)))]) (fun _ => _) (fun i => its.length - i) (fun i => i ≤ its.length) 0 (by repeat (first | exact trivial | refine And.intro (Or.inl rfl) ?_ | refine And.intro (Or.inr (Exists.intro _ (And.intro rfl (Fz.refl _)))) ?_ | refine And.intro (Or.inr (Exists.intro _ (And.intro rfl (fz_eq (congrArg (AV.int _) (by omega)))))) ?_ | refine And.intro (Or.inr (Exists.intro _ (And.intro rfl (fz_eq (congrArg (AV.own _ _ _) (by (try dsimp only); (try simp only [List.length_append, List.length_map, List.length_cons, List.length_nil, List.length_take, List.length_set, List.length_replicate]); (try dsimp only); first | done | omega)))))) ?_)) (Sub.refl _) (Nat.zero_le _) (fun i hi => ?_)
    (first | refine au ?_ | exact au0 | fail)
    refine bsplit_dec (fun h1 => ?_) (fun h1 => ?_)
    · have hil : i < its.length := by omega
      have hg := vlRs_geti hil
      have hsz' := vlSz hil
      have hmem := List.getElem_mem hil
      have hm := vGreats_mem hmem
      have ht := vGreats_take its i hil
      have htl := vGreats_takeLe its (i + 1)
      simp only [Vl.mk.sizeOf_spec] at hsz
      have ih := r8_Great_spec n its[i] (by omega) (by omega)
      generalize its[i] = y at *
      obtain ⟨k2, n2, t2, l2⟩ := y
      (first | refine au ?_ | exact au0 | fail)
      rw [hg]
      (first | refine au ?_ | exact au0 | fail)
      first | refine callF_eq (ih.frame _) ?_ | refine callG_eq rfl (ih.frame _) ?_
      (first | refine au ?_ | exact au0 | fail)
      refine nextS ((i + 1 : Nat)) (by (try dsimp only); rw [ ht, ← Nat.add_assoc, Int.natCast_add (1 + tx.length + vGreats (its.take i))]; repeat (first | exact trivial | refine And.intro (Or.inl rfl) ?_ | refine And.intro (Or.inr (Exists.intro _ (And.intro rfl (Fz.refl _)))) ?_ | refine And.intro (Or.inr (Exists.intro _ (And.intro rfl (fz_eq (congrArg (AV.int _) (by omega)))))) ?_ | refine And.intro (Or.inr (Exists.intro _ (And.intro rfl (fz_eq (congrArg (AV.own _ _ _) (by (try dsimp only); (try simp only [List.length_append, List.length_map, List.length_cons, List.length_nil, List.length_take, List.length_set, List.length_replicate]); (try dsimp only); first | done | omega)))))) ?_)) (by exact sub_of) (by first | omega | (dsimp only; omega)) ?_; (try dsimp only)
      exact hil
    · have e1 := List.take_of_length_le (show its.length ≤ i from by omega)
      rw [e1]
      (first | refine au ?_ | exact au0 | fail)
      exact fz_of
theorem vGreat_spec : ∀ (n : Nat) (x : Vl), SizeOf.sizeOf x < n → vGreat x ≤ 1000000 → ACalls PG value_Great.n [vlA x] [] fun r _ => r = .int .i64 (vGreat x : Nat)
  | 0, x, h, _ => by omega
  | n + 1, .mk kd num tx its, hsz, hle => by
    have hkl := vlRs_len its
    have hlen := vGreats_len its
    simp only [vGreat] at hle ⊢
    refine ACalls.fzK (value_Great.of rfl (wpF_start ?_))
    (first | refine au ?_ | exact au0 | fail)
    intro id1 hid1 ht1; have n1 := neAll_of hid1; (try simp only [neAll, neAll_hset] at n1); have m1 := n1; (repeat (obtain ⟨_, m1⟩ := m1))
    (first | refine au ?_ | exact au0 | fail)
    have e0 : 1 + tx.length + vGreats (its.take 0) = 1 + tx.length := by simp [vGreats]
    refine loopM (S := Nat) [(11, some _), (12, some _)] (fun i => [(3, some (.int .i64 (1 + tx.length + vGreats (its.take i) : Nat))), (13, some (.int .i64 (i : Nat)))]) (fun _ => _) (fun i => its.length - i) (fun i => i ≤ its.length) 0 (by repeat (first | exact trivial | refine And.intro (Or.inl rfl) ?_ | refine And.intro (Or.inr (Exists.intro _ (And.intro rfl (Fz.refl _)))) ?_ | refine And.intro (Or.inr (Exists.intro _ (And.intro rfl (fz_eq (congrArg (AV.int _) (by omega)))))) ?_ | refine And.intro (Or.inr (Exists.intro _ (And.intro rfl (fz_eq (congrArg (AV.own _ _ _) (by (try dsimp only); (try simp only [List.length_append, List.length_map, List.length_cons, List.length_nil, List.length_take, List.length_set, List.length_replicate]); (try dsimp only); first | done | omega)))))) ?_)) (Sub.refl _) (Nat.zero_le _) (fun i hi => ?_)
    (first | refine au ?_ | exact au0 | fail)
    refine bsplit_dec (fun h1 => ?_) (fun h1 => ?_)
    · have hil : i < its.length := by omega
      have hg := vlRs_geti hil
      have hsz' := vlSz hil
      have hmem := List.getElem_mem hil
      have hm := vGreats_mem hmem
      have ht := vGreats_take its i hil
      have htl := vGreats_takeLe its (i + 1)
      simp only [Vl.mk.sizeOf_spec] at hsz
      have ih := vGreat_spec n its[i] (by omega) (by omega)
      generalize its[i] = y at *
      obtain ⟨k2, n2, t2, l2⟩ := y
      (first | refine au ?_ | exact au0 | fail)
      rw [hg]
      (first | refine au ?_ | exact au0 | fail)
      intro id5 hid5 ht5; have n5 := neAll_of hid5; (try simp only [neAll, neAll_hset] at n5); have m5 := n5; (repeat (obtain ⟨_, m5⟩ := m5))
      (first | refine au ?_ | exact au0 | fail)
      first | refine callF_eq (ih.frame _) ?_ | refine callG_eq rfl (ih.frame _) ?_
      (first | refine au ?_ | exact au0 | fail)
      refine nextS ((i + 1 : Nat)) (by (try dsimp only); rw [ ht, ← Nat.add_assoc, Int.natCast_add (1 + tx.length + vGreats (its.take i))]; repeat (first | exact trivial | refine And.intro (Or.inl rfl) ?_ | refine And.intro (Or.inr (Exists.intro _ (And.intro rfl (Fz.refl _)))) ?_ | refine And.intro (Or.inr (Exists.intro _ (And.intro rfl (fz_eq (congrArg (AV.int _) (by omega)))))) ?_ | refine And.intro (Or.inr (Exists.intro _ (And.intro rfl (fz_eq (congrArg (AV.own _ _ _) (by (try dsimp only); (try simp only [List.length_append, List.length_map, List.length_cons, List.length_nil, List.length_take, List.length_set, List.length_replicate]); (try dsimp only); first | done | omega)))))) ?_)) (by exact sub_of) (by first | omega | (dsimp only; omega)) ?_; (try dsimp only)
      exact hil
    · have e1 := List.take_of_length_le (show its.length ≤ i from by omega)
      rw [e1]
      (first | refine au ?_ | exact au0 | fail)
      exact fz_of
theorem vDeep_spec : ∀ (n : Nat) (x : Vl), SizeOf.sizeOf x < n → vGreat x ≤ 1000000 → ACalls PG value_Deep.n [vlA x] [] fun r _ => r = .int .i64 (vDeep x : Nat)
  | 0, x, h, _ => by omega
  | n + 1, .mk kd num tx its, hsz, hle => by
    have hkl := vlRs_len its
    have hlen := vGreats_len its
    have hdg := vDeep_great (.mk kd num tx its)
    simp only [vGreat, vDeep] at hle hdg ⊢
    refine ACalls.fzK (value_Deep.of rfl (wpF_start ?_))
    (first | refine au ?_ | exact au0 | fail)
    intro id1 hid1 ht1; have n1 := neAll_of hid1; (try simp only [neAll, neAll_hset] at n1); have m1 := n1; (repeat (obtain ⟨_, m1⟩ := m1))
    (first | refine au ?_ | exact au0 | fail)
    refine loopM (S := Nat) [(7, some _), (8, some _)] (fun i => [(3, some (.int .i64 (vDeeps (its.take i) : Nat))), (9, some (.int .i64 (i : Nat)))]) (fun _ => _) (fun i => its.length - i) (fun i => i ≤ its.length) 0 (by repeat (first | exact trivial | refine And.intro (Or.inl rfl) ?_ | refine And.intro (Or.inr (Exists.intro _ (And.intro rfl (Fz.refl _)))) ?_ | refine And.intro (Or.inr (Exists.intro _ (And.intro rfl (fz_eq (congrArg (AV.int _) (by omega)))))) ?_ | refine And.intro (Or.inr (Exists.intro _ (And.intro rfl (fz_eq (congrArg (AV.own _ _ _) (by (try dsimp only); (try simp only [List.length_append, List.length_map, List.length_cons, List.length_nil, List.length_take, List.length_set, List.length_replicate]); (try dsimp only); first | done | omega)))))) ?_)) (Sub.refl _) (Nat.zero_le _) (fun i hi => ?_)
    (first | refine au ?_ | exact au0 | fail)
    refine bsplit_dec (fun h1 => ?_) (fun h1 => ?_)
    · have hil : i < its.length := by omega
      have hg := vlRs_geti hil
      have hsz' := vlSz hil
      have hmem := List.getElem_mem hil
      have hm := vGreats_mem hmem
      have ht := vDeeps_take its i hil
      have htl := vDeeps_takeLe its (i + 1)
      simp only [Vl.mk.sizeOf_spec] at hsz
      have ih := vDeep_spec n its[i] (by omega) (by omega)
      generalize its[i] = y at *
      obtain ⟨k2, n2, t2, l2⟩ := y
      (first | refine au ?_ | exact au0 | fail)
      rw [hg]
      (first | refine au ?_ | exact au0 | fail)
      intro id5 hid5 ht5; have n5 := neAll_of hid5; (try simp only [neAll, neAll_hset] at n5); have m5 := n5; (repeat (obtain ⟨_, m5⟩ := m5))
      (first | refine au ?_ | exact au0 | fail)
      first | refine callF_eq (ih.frame _) ?_ | refine callG_eq rfl (ih.frame _) ?_
      (first | refine au ?_ | exact au0 | fail)
      refine nextS ((i + 1 : Nat)) (by (try dsimp only); rw [ ht, cast_max]; repeat (first | exact trivial | refine And.intro (Or.inl rfl) ?_ | refine And.intro (Or.inr (Exists.intro _ (And.intro rfl (Fz.refl _)))) ?_ | refine And.intro (Or.inr (Exists.intro _ (And.intro rfl (fz_eq (congrArg (AV.int _) (by omega)))))) ?_ | refine And.intro (Or.inr (Exists.intro _ (And.intro rfl (fz_eq (congrArg (AV.own _ _ _) (by (try dsimp only); (try simp only [List.length_append, List.length_map, List.length_cons, List.length_nil, List.length_take, List.length_set, List.length_replicate]); (try dsimp only); first | done | omega)))))) ?_)) (by exact sub_of) (by first | omega | (dsimp only; omega)) ?_; (try dsimp only)
      exact hil
    · have e1 := List.take_of_length_le (show its.length ≤ i from by omega)
      rw [e1]
      (first | refine au ?_ | exact au0 | fail)
      exact fz_eq (congrArg (AV.int .i64) (by omega))
def vCnt (l : List Vl) (i : Nat) : Nat := min (vGreats (l.take i)) 100000
theorem vCnt_step {l : List Vl} {i : Nat} (h : i < l.length) : vCnt l (i + 1) = min (vCnt l i + vGreat l[i]) 100000 := by
  unfold vCnt; rw [vGreats_take l i h]; omega
theorem vMuchs_none {l : List Vl} {d : Nat} (h : none' (fun x => vMuch x d) l l.length) : vMuchs l d = false := by
  have := none'_any h
  induction l with
  | nil => rfl
  | cons a l ih =>
    simp only [List.any_cons, Bool.or_eq_false_iff] at this
    simp only [vMuchs, this.1, Bool.false_or]
    exact ih (any_none' this.2 _) this.2
theorem vMuchs_any : ∀ (l : List Vl) (d : Nat), vMuchs l d = l.any fun x => vMuch x d
  | [], _ => rfl
  | a :: l, d => by simp only [vMuchs, List.any_cons, vMuchs_any l d]
theorem vMuch_spec : ∀ (n : Nat) (x : Vl) (d : Nat), SizeOf.sizeOf x < n → vOk x → d ≤ 1000 → ACalls PG broadsheetref08_Much.n [vlA x, .int .i64 (d : Nat)] [] fun r _ => r = .bool (vMuch x d)
  | 0, x, d, h, _, _ => by omega
  | n + 1, .mk kd num tx its, d, hsz, hok, hd => by
    have hkl := vlRs_len its
    simp only [vOk] at hok
    obtain ⟨hnum, htx, hlen, hks⟩ := hok
    simp only [vMuch, vMuchs_any]
    refine ACalls.fzK (broadsheetref08_Much.of rfl (wpF_start ?_))
    (first | refine au ?_ | exact au0 | fail)
    intro id2 hid2 ht2; have n2 := neAll_of hid2; (try simp only [neAll, neAll_hset] at n2); have m2 := n2; (repeat (obtain ⟨_, m2⟩ := m2))
    (first | refine au ?_ | exact au0 | fail)
    refine bsplit_dec (fun c1 => ?_) (fun c1 => ?_)
    · (first | refine au ?_ | exact au0 | fail)
      exact fz_eq (congrArg AV.bool (by simp [show 40 < d from by omega]))
    (first | refine au ?_ | exact au0 | fail)
    refine bsplit_dec (fun c2 => ?_) (fun c2 => ?_)
    · (first | refine au ?_ | exact au0 | fail)
      exact fz_eq (congrArg AV.bool (by simp [show 300 < its.length from by omega]))
    (first | refine au ?_ | exact au0 | fail)
    refine bsplit_dec (fun c3 => ?_) (fun c3 => ?_)
    · (first | refine au ?_ | exact au0 | fail)
      exact fz_eq (congrArg AV.bool (by simp [show 1000 < tx.length from by omega]))
    rw [decide_eq_false (show ¬ 40 < d from by omega), decide_eq_false (show ¬ 300 < its.length from by omega), decide_eq_false (show ¬ 1000 < tx.length from by omega), Bool.false_or, Bool.false_or, Bool.false_or]
    (first | refine au ?_ | exact au0 | fail)
    refine loopM (S := Nat) [(1, some _), (2, some _)] (fun i => [(5, some (.int .i64 (vCnt its i : Nat))), (6, some (.int .i64 (i : Nat)))]) (fun _ => _) (fun i => its.length - i) (fun i => i ≤ its.length ∧ none' (fun x => vMuch x (d + 1 + its.length / 4)) its i) 0 (by repeat (first | exact trivial | refine And.intro (Or.inl rfl) ?_ | refine And.intro (Or.inr (Exists.intro _ (And.intro rfl (Fz.refl _)))) ?_ | refine And.intro (Or.inr (Exists.intro _ (And.intro rfl (fz_eq (congrArg (AV.int _) (by omega)))))) ?_ | refine And.intro (Or.inr (Exists.intro _ (And.intro rfl (fz_eq (congrArg (AV.own _ _ _) (by (try dsimp only); (try simp only [List.length_append, List.length_map, List.length_cons, List.length_nil, List.length_take, List.length_set, List.length_replicate]); (try dsimp only); first | done | omega)))))) ?_)) (Sub.refl _) ⟨Nat.zero_le _, none'_zero⟩ (fun i hi => ?_)
    obtain ⟨hi, hno⟩ := hi
    have hb : vCnt its i ≤ 100000 := by unfold vCnt; omega
    (first | refine au ?_ | exact au0 | fail)
    refine bsplit_dec (fun h1 => ?_) (fun h1 => ?_)
    · have hil : i < its.length := by omega
      have hg := vlRs_geti hil
      have hsz' := vlSz hil
      have hmem := List.getElem_mem hil
      have hm := vGreats_mem hmem
      have ht := vCnt_step hil
      simp only [Vl.mk.sizeOf_spec] at hsz
      have ih := vMuch_spec n its[i] (d + 1 + its.length / 4) (by omega) (vOks_mem hks _ hmem) (by omega)
      have ihs := r8_Great_spec n its[i] (by omega)
      have hgr := @vMuch_great its[i] (d + 1 + its.length / 4)
      have hany : vMuch its[i] (d + 1 + its.length / 4) = true → its.any (fun x => vMuch x (d + 1 + its.length / 4)) = true := any_hit (p := fun x => vMuch x (d + 1 + its.length / 4)) hil
      have hnx := none'_succ hno hil
      generalize its[i] = y at *
      obtain ⟨k2, n2, t2, l2⟩ := y
      (first | refine au ?_ | exact au0 | fail)
      rw [hg]
      (first | refine au ?_ | exact au0 | fail)
      rw [show (d : Int) + 1 + ((vlRs its).length : Nat) / 4 = ((d + 1 + its.length / 4 : Nat) : Int) from by omega]
      first | refine callF_eq (ih.frame _) ?_ | refine callG_eq rfl (ih.frame _) ?_
      cases hM : vMuch (.mk k2 n2 t2 l2) (d + 1 + its.length / 4)
      · have hle := hgr hM
        (first | refine au ?_ | exact au0 | fail)
        rw [hg]
        (first | refine au ?_ | exact au0 | fail)
        first | refine callF_eq ((ihs (by omega)).frame _) ?_ | refine callG_eq rfl ((ihs (by omega)).frame _) ?_
        (first | refine au ?_ | exact au0 | fail)
        refine nextS ((i + 1 : Nat)) (by (try dsimp only); rw [ ht, cast_min]; repeat (first | exact trivial | refine And.intro (Or.inl rfl) ?_ | refine And.intro (Or.inr (Exists.intro _ (And.intro rfl (Fz.refl _)))) ?_ | refine And.intro (Or.inr (Exists.intro _ (And.intro rfl (fz_eq (congrArg (AV.int _) (by omega)))))) ?_ | refine And.intro (Or.inr (Exists.intro _ (And.intro rfl (fz_eq (congrArg (AV.own _ _ _) (by (try dsimp only); (try simp only [List.length_append, List.length_map, List.length_cons, List.length_nil, List.length_take, List.length_set, List.length_replicate]); (try dsimp only); first | done | omega)))))) ?_)) (by exact sub_of) (by first | omega | (dsimp only; omega)) ?_; (try dsimp only)
        exact ⟨hil, hnx hM⟩
      · (first | refine au ?_ | exact au0 | fail)
        exact fz_eq (congrArg AV.bool (by rw [hany hM]; rfl))
    · obtain rfl : i = its.length := by omega
      (first | refine au ?_ | exact au0 | fail)
      refine fz_eq (congrArg AV.bool ?_)
      rw [none'_any hno, Bool.false_or]
      have : vCnt its its.length = min (vGreats its) 100000 := by unfold vCnt; rw [List.take_length]
      rw [this]
      exact decide_eq_decide.2 (by omega)
theorem vEqs_ne {l m : List Vl} {i : Nat} (h : i < l.length) (h' : i < m.length) (hn : vEq l[i] m[i] = false) : vEqs l m = false := by
  rw [Bool.eq_false_iff, ne_eq, vEqs_iff]
  rintro rfl
  rw [vEq_refl] at hn; cases hn
theorem vEqs_all {l m : List Vl} (hl : l.length = m.length) (h : ∀ (k : Nat) (h1 : k < l.length) (h2 : k < m.length), vEq l[k] m[k] = true) : vEqs l m = true := by
  rw [vEqs_iff]
  exact List.ext_getElem hl fun k h1 h2 => (vEq_iff _ _).1 (h k h1 h2)
theorem vEqs_step {l m : List Vl} {i : Nat} (h : ∀ (k : Nat) (h1 : k < l.length) (h2 : k < m.length), k < i → vEq l[k] m[k] = true) (hi : i < l.length) (hi' : i < m.length) (q : vEq l[i] m[i] = true) : ∀ (k : Nat) (h1 : k < l.length) (h2 : k < m.length), k < i + 1 → vEq l[k] m[k] = true := fun k h1 h2 h3 => by
  by_cases e : k = i
  · subst e; exact q
  · exact h k h1 h2 (by omega)
theorem vSame_spec : ∀ (n : Nat) (x y : Vl), SizeOf.sizeOf x < n → (vOk x ∧ vOk y) → ACalls PG value_Same.n [vlA x, vlA y] [] fun r _ => r = .bool (vEq x y)
  | 0, x, y, h, _ => by omega
  | n + 1, .mk kd num tx its, .mk kd' num' tx' its', hsz, hok => by
    have hkl := vlRs_len its
    have hkl' := vlRs_len its'
    simp only [vOk] at hok
    obtain ⟨⟨_, _, hlen, hks⟩, ⟨_, _, hlen', hks'⟩⟩ := hok
    refine ACalls.fzK (value_Same.of rfl (wpF_start ?_))
    (first | refine au ?_ | exact au0 | fail)
    intro id2 hid2 ht2; have n2 := neAll_of hid2; (try simp only [neAll, neAll_hset] at n2); have m2 := n2; (repeat (obtain ⟨_, m2⟩ := m2))
    (first | refine au ?_ | exact au0 | fail)
    intro id3 hid3 ht3; have n3 := neAll_of hid3; (try simp only [neAll, neAll_hset] at n3); have m3 := n3; (repeat (obtain ⟨_, m3⟩ := m3))
    (first | refine au ?_ | exact au0 | fail)
    refine bsplit_dec (fun c1 => ?_) (fun c1 => ?_)
    · (first | refine au ?_ | exact au0 | fail)
      exact fz_eq (congrArg AV.bool (by simp [vEq, c1]))
    (first | refine au ?_ | exact au0 | fail)
    refine bsplit_dec (fun c2 => ?_) (fun c2 => ?_)
    · (first | refine au ?_ | exact au0 | fail)
      exact fz_eq (congrArg AV.bool (by simp [vEq, show ¬ num = num' from by omega]))
    (first | refine au ?_ | exact au0 | fail)
    refine bsplit_dec (fun c3 => ?_) (fun c3 => ?_)
    · (first | refine au ?_ | exact au0 | fail)
      exact fz_eq (congrArg AV.bool (by simp [vEq, c3]))
    (first | refine au ?_ | exact au0 | fail)
    refine bsplit_dec (fun c4 => ?_) (fun c4 => ?_)
    · (first | refine au ?_ | exact au0 | fail)
      exact fz_eq (congrArg AV.bool (by rw [show vEq (.mk kd num tx its) (.mk kd' num' tx' its') = false from by rw [Bool.eq_false_iff, ne_eq, vEq_iff]; intro q; injection q with _ _ _ q; rw [q] at c4; omega]))
    have hv : vEq (.mk kd num tx its) (.mk kd' num' tx' its') = vEqs its its' := by
      simp [vEq, Classical.not_not.1 c1, Classical.not_not.1 c3, show num = num' from by omega]
    rw [hv]
    have hll : its.length = its'.length := by omega
    clear c1 c2 c3 c4
    (first | refine au ?_ | exact au0 | fail)
    refine loopL [(3, some _), (36, some _), (37, some _)] 38 0 its.length (fun i => ∀ (k : Nat) (h1 : k < its.length) (h2 : k < its'.length), k < i → vEq its[k] its'[k] = true) (by repeat (first | exact trivial | refine And.intro (Or.inl rfl) ?_ | refine And.intro (Or.inr (Exists.intro _ (And.intro rfl (Fz.refl _)))) ?_ | refine And.intro (Or.inr (Exists.intro _ (And.intro rfl (fz_eq (congrArg (AV.int _) (by omega)))))) ?_ | refine And.intro (Or.inr (Exists.intro _ (And.intro rfl (fz_eq (congrArg (AV.own _ _ _) (by (try dsimp only); (try simp only [List.length_append, List.length_map, List.length_cons, List.length_nil, List.length_take, List.length_set, List.length_replicate]); (try dsimp only); first | done | omega)))))) ?_)) (Nat.zero_le _) (fun k _ _ h => by omega) (fun i hi hno => ?_)
    (first | refine au ?_ | exact au0 | fail)
    refine bsplit_dec (fun h1 => ?_) (fun h1 => ?_)
    · have hil : i < its.length := by omega
      have hil' : i < its'.length := by omega
      have hg := vlRs_geti hil
      have hg' := vlRs_geti hil'
      have hsz' := vlSz hil
      simp only [Vl.mk.sizeOf_spec] at hsz
      have ih := vSame_spec n its[i] its'[i] (by omega) ⟨vOks_mem hks _ (List.getElem_mem hil), vOks_mem hks' _ (List.getElem_mem hil')⟩
      have hst := vEqs_step hno hil hil'
      have hne := vEqs_ne hil hil'
      generalize its[i] = y at *
      generalize its'[i] = z at *
      obtain ⟨k2, n2, t2, l2⟩ := y
      obtain ⟨k3, n3, t3, l3⟩ := z
      (first | refine au ?_ | exact au0 | fail)
      rw [hg]
      (first | refine au ?_ | exact au0 | fail)
      (intro id5 hid5 ht5; have n5 := neAll_of hid5; (try simp only [neAll, neAll_hset] at n5); have m5 := n5; (repeat (obtain ⟨_, m5⟩ := m5)); (first | refine au ?_ | exact au0 | fail))
      rw [hg']
      (first | refine au ?_ | exact au0 | fail)
      first | refine callF_eq (ih.frame _) ?_ | refine callG_eq rfl (ih.frame _) ?_
      cases hM : vEq (.mk k2 n2 t2 l2) (.mk k3 n3 t3 l3)
      · (first | refine au ?_ | exact au0 | fail)
        rw [hne hM]
        exact fz_of
      · (first | refine au ?_ | exact au0 | fail)
        exact nextN (by repeat (first | exact trivial | refine And.intro (Or.inl rfl) ?_ | refine And.intro (Or.inr (Exists.intro _ (And.intro rfl (Fz.refl _)))) ?_ | refine And.intro (Or.inr (Exists.intro _ (And.intro rfl (fz_eq (congrArg (AV.int _) (by omega)))))) ?_ | refine And.intro (Or.inr (Exists.intro _ (And.intro rfl (fz_eq (congrArg (AV.own _ _ _) (by (try dsimp only); (try simp only [List.length_append, List.length_map, List.length_cons, List.length_nil, List.length_take, List.length_set, List.length_replicate]); (try dsimp only); first | done | omega)))))) ?_)) (by exact sub_of) (by omega) (hst hM)
    · (first | refine au ?_ | exact au0 | fail)
      rw [vEqs_all hll fun k h1 h2 => hno k h1 h2 (by omega)]
      exact fz_of
theorem r8_Same_spec : ∀ (n : Nat) (x y : Vl), SizeOf.sizeOf x < n → (vOk x ∧ vOk y) → ACalls PG broadsheetref08_Same.n [vlA x, vlA y] [] fun r _ => r = .bool (vEq x y)
  | 0, x, y, h, _ => by omega
  | n + 1, .mk kd num tx its, .mk kd' num' tx' its', hsz, hok => by
    have hkl := vlRs_len its
    have hkl' := vlRs_len its'
    simp only [vOk] at hok
    obtain ⟨⟨_, _, hlen, hks⟩, ⟨_, _, hlen', hks'⟩⟩ := hok
    refine ACalls.fzK (broadsheetref08_Same.of rfl (wpF_start ?_))
    (first | refine au ?_ | exact au0 | fail)
    intro id2 hid2 ht2; have n2 := neAll_of hid2; (try simp only [neAll, neAll_hset] at n2); have m2 := n2; (repeat (obtain ⟨_, m2⟩ := m2))
    (first | refine au ?_ | exact au0 | fail)
    intro id3 hid3 ht3; have n3 := neAll_of hid3; (try simp only [neAll, neAll_hset] at n3); have m3 := n3; (repeat (obtain ⟨_, m3⟩ := m3))
    (first | refine au ?_ | exact au0 | fail)
    refine bsplit_dec (fun c1 => ?_) (fun c1 => ?_)
    · (first | refine au ?_ | exact au0 | fail)
      exact fz_eq (congrArg AV.bool (by simp [vEq, c1]))
    (first | refine au ?_ | exact au0 | fail)
    refine bsplit_dec (fun c2 => ?_) (fun c2 => ?_)
    · (first | refine au ?_ | exact au0 | fail)
      exact fz_eq (congrArg AV.bool (by simp [vEq, show ¬ num = num' from by omega]))
    (first | refine au ?_ | exact au0 | fail)
    refine bsplit_dec (fun c3 => ?_) (fun c3 => ?_)
    · (first | refine au ?_ | exact au0 | fail)
      exact fz_eq (congrArg AV.bool (by simp [vEq, c3]))
    (first | refine au ?_ | exact au0 | fail)
    refine bsplit_dec (fun c4 => ?_) (fun c4 => ?_)
    · (first | refine au ?_ | exact au0 | fail)
      exact fz_eq (congrArg AV.bool (by rw [show vEq (.mk kd num tx its) (.mk kd' num' tx' its') = false from by rw [Bool.eq_false_iff, ne_eq, vEq_iff]; intro q; injection q with _ _ _ q; rw [q] at c4; omega]))
    have hv : vEq (.mk kd num tx its) (.mk kd' num' tx' its') = vEqs its its' := by
      simp [vEq, Classical.not_not.1 c1, Classical.not_not.1 c3, show num = num' from by omega]
    rw [hv]
    have hll : its.length = its'.length := by omega
    clear c1 c2 c3 c4
    (first | refine au ?_ | exact au0 | fail)
    refine loopL [(2, some _), (3, some _)] 5 0 its.length (fun i => ∀ (k : Nat) (h1 : k < its.length) (h2 : k < its'.length), k < i → vEq its[k] its'[k] = true) (by repeat (first | exact trivial | refine And.intro (Or.inl rfl) ?_ | refine And.intro (Or.inr (Exists.intro _ (And.intro rfl (Fz.refl _)))) ?_ | refine And.intro (Or.inr (Exists.intro _ (And.intro rfl (fz_eq (congrArg (AV.int _) (by omega)))))) ?_ | refine And.intro (Or.inr (Exists.intro _ (And.intro rfl (fz_eq (congrArg (AV.own _ _ _) (by (try dsimp only); (try simp only [List.length_append, List.length_map, List.length_cons, List.length_nil, List.length_take, List.length_set, List.length_replicate]); (try dsimp only); first | done | omega)))))) ?_)) (Nat.zero_le _) (fun k _ _ h => by omega) (fun i hi hno => ?_)
    (first | refine au ?_ | exact au0 | fail)
    refine bsplit_dec (fun h1 => ?_) (fun h1 => ?_)
    · have hil : i < its.length := by omega
      have hil' : i < its'.length := by omega
      have hg := vlRs_geti hil
      have hg' := vlRs_geti hil'
      have hsz' := vlSz hil
      simp only [Vl.mk.sizeOf_spec] at hsz
      have ih := r8_Same_spec n its[i] its'[i] (by omega) ⟨vOks_mem hks _ (List.getElem_mem hil), vOks_mem hks' _ (List.getElem_mem hil')⟩
      have hst := vEqs_step hno hil hil'
      have hne := vEqs_ne hil hil'
      generalize its[i] = y at *
      generalize its'[i] = z at *
      obtain ⟨k2, n2, t2, l2⟩ := y
      obtain ⟨k3, n3, t3, l3⟩ := z
      (first | refine au ?_ | exact au0 | fail)
      rw [hg]
      (first | refine au ?_ | exact au0 | fail)
      skip
      rw [hg']
      (first | refine au ?_ | exact au0 | fail)
      first | refine callF_eq (ih.frame _) ?_ | refine callG_eq rfl (ih.frame _) ?_
      cases hM : vEq (.mk k2 n2 t2 l2) (.mk k3 n3 t3 l3)
      · (first | refine au ?_ | exact au0 | fail)
        rw [hne hM]
        exact fz_of
      · (first | refine au ?_ | exact au0 | fail)
        exact nextN (by repeat (first | exact trivial | refine And.intro (Or.inl rfl) ?_ | refine And.intro (Or.inr (Exists.intro _ (And.intro rfl (Fz.refl _)))) ?_ | refine And.intro (Or.inr (Exists.intro _ (And.intro rfl (fz_eq (congrArg (AV.int _) (by omega)))))) ?_ | refine And.intro (Or.inr (Exists.intro _ (And.intro rfl (fz_eq (congrArg (AV.own _ _ _) (by (try dsimp only); (try simp only [List.length_append, List.length_map, List.length_cons, List.length_nil, List.length_take, List.length_set, List.length_replicate]); (try dsimp only); first | done | omega)))))) ?_)) (by exact sub_of) (by omega) (hst hM)
    · (first | refine au ?_ | exact au0 | fail)
      rw [vEqs_all hll fun k h1 h2 => hno k h1 h2 (by omega)]
      exact fz_of
end Go.Proofs.YtodiahhfpcdejaaDoor

/- What a number is as a datum, walked. -/
namespace Go.Proofs.YtodiahhfpcdejaaDoor
set_option autoImplicit false
set_option linter.unusedSimpArgs false
set_option linter.unusedVariables false
attribute [local irreducible] callA callP ACalls
/-- A datum: kind, sign, number, text. -/
structure Dat where
  kd : Int
  ng : Bool
  nu : Nat
  tx : List UInt8
abbrev datR (d : Dat) : List AV := [.int .i64 d.kd, .bool d.ng, .int .u64 (d.nu : Nat), .str d.tx]
abbrev datA (d : Dat) : AV := .agg (datR d)
def datK (k : Int) (n : Nat) : Dat :=
  if isNum k = false then ⟨0, false, 0, []⟩
  else if k = 1 then ⟨3, false, n % 2, []⟩
  else if sgK k = true ∧ sgnI (szK k) n < 0 then ⟨1, true, (-(sgnI (szK k) n)).toNat, []⟩
  else ⟨1, false, upK k n, []⟩
theorem upK_lt (k : Int) (n : Nat) : upK k n < 18446744073709551616 := by
  unfold upK
  split
  · unfold wide; omega
  · unfold lowK lowN
    split
    · omega
    · rename_i h
      have h2 := szK_five k
      rcases h2 with h2 | h2 | h2 | h2 | h2
      · exact absurd h2 h
      all_goals rw [h2]; omega
theorem and_one (x : Nat) (h : x < 18446744073709551616) : bitsV .and .u64 ((x : Nat) : Int) 1 = ((x % 2 : Nat) : Int) := by
  have e1 : (BitVec.ofInt 64 ((x : Nat) : Int)).toNat = x := by rw [BitVec.toNat_ofInt]; omega
  show IntKind.u64.wrap ((BitVec.ofInt 64 ((x : Nat) : Int) &&& BitVec.ofInt 64 1).toNat : Int) = _
  rw [BitVec.toNat_and, e1, show (BitVec.ofInt 64 1).toNat = 2 ^ 1 - 1 from by decide, Nat.and_two_pow_sub_one_eq_mod, wrap_u64]
  omega
theorem prim_Datum_spec (k : Int) (n : Nat) (H : AH) : ACalls PG prim_Datum.n [.int .i64 k, .int .u64 (n : Nat)] H fun r H' => r = datA (datK k n) ∧ H' = H := by
  refine ACalls.fz (prim_Datum.of rfl (wpF_start ?_))
  (first | refine au ?_ | exact au0 | fail)
  intro id4 hid4 ht4; have n4 := neAll_of hid4; (try simp only [neAll, neAll_hset] at n4); have m4 := n4; (repeat (obtain ⟨_, m4⟩ := m4))
  (first | refine au ?_ | exact au0 | fail)
  first | refine callF_eq (prim_Up_spec k n _) ?_ | refine callG_eq rfl (prim_Up_spec k n _) ?_
  (first | refine au ?_ | exact au0 | fail)
  first | refine callF_eq (prim_Number_spec _ _) ?_ | refine callG_eq rfl (prim_Number_spec _ _) ?_
  unfold datK
  cases h : isNum k with
  | false =>
    (first | refine au ?_ | exact au0 | fail)
    exact ⟨fz_of, sub_of⟩
  | true =>
    rw [if_neg (by simp)]
    by_cases h1 : k = 1
    · subst h1
      have e : bitsV .and .u64 ((upK 1 n : Nat) : Int) 1 = ((n % 2 : Nat) : Int) := by
        rw [and_one _ (upK_lt 1 n), show upK 1 n = n % 256 from rfl]; omega
      rw [if_pos rfl]
      (first | refine au ?_ | exact au0 | fail)
      rw [e]
      exact ⟨fz_of, sub_of⟩
    · rw [if_neg h1]
      (first | refine au ?_ | exact au0 | fail)
      first | refine callF_eq (prim_Signed_spec _ _) ?_ | refine callG_eq rfl (prim_Signed_spec _ _) ?_
      cases hs : sgK k with
      | false =>
        (first | refine au ?_ | exact au0 | fail)
        exact ⟨fz_of, sub_of⟩
      | true =>
        (first | refine au ?_ | exact au0 | fail)
        have hb := szK_num h
        have hr := sgnI_range hb n
        refine rng_id (show IntKind.i64.wrap ((upK k n : Nat) : Int) = sgnI (szK k) n from by rw [upK, if_pos hs, wrap_i64]; unfold wide; omega) ?_
        (first | refine au ?_ | exact au0 | fail)
        refine bsplit_dec (fun c => ?_) (fun c => ?_)
        · rw [if_pos ⟨rfl, c⟩]
          (first | refine au ?_ | exact au0 | fail)
          rw [show IntKind.u64.wrap (0 - ((upK k n : Nat) : Int)) = (((-(sgnI (szK k) n)).toNat : Nat) : Int) from by rw [upK, if_pos hs, wrap_u64]; unfold wide; omega]
          exact ⟨fz_of, sub_of⟩
        · rw [if_neg (fun q => c q.2)]
          (first | refine au ?_ | exact au0 | fail)
          exact ⟨fz_of, sub_of⟩
end Go.Proofs.YtodiahhfpcdejaaDoor

/- The library's functions at this program, as the kit's contracts ask. -/
namespace Go.Proofs.YtodiahhfpcdejaaDoor
open Go.Shelf
set_option autoImplicit false
set_option maxRecDepth 100000
def lays156_ren : Go.Shelf.Ren := ⟨fun
  | 156 => 52
  | 165 => 86
  | 166 => 40
  | 169 => 43
  | 240 => 61
  | 241 => 114
  | 276 => 101
  | 277 => 129
  | n => n, fun
  | 31 => 56
  | 9 => 9
  | 3 => 3
  | 4 => 4
  | 0 => 0
  | 20 => 20
  | 72 => 71
  | 76 => 75
  | 70 => 68
  | 37 => 69
  | 75 => 74
  | 127 => 102
  | 164 => 132
  | 5 => 5
  | 80 => 79
  | n => n, fun
  | n => n⟩
theorem lays156 : Go.Proofs.Lays.n156 Tryd.prog lays156_ren :=
  { mixed := by kernel_rfl,
    f156 := Tryd.func52.trans (congrArg some (by kernel_rfl)),
    f165 := Tryd.func86.trans (congrArg some (by kernel_rfl)),
    f166 := Tryd.func40.trans (congrArg some (by kernel_rfl)),
    f169 := Tryd.func43.trans (congrArg some (by kernel_rfl)),
    f240 := Tryd.func61.trans (congrArg some (by kernel_rfl)),
    f241 := Tryd.func114.trans (congrArg some (by kernel_rfl)),
    f276 := Tryd.func101.trans (congrArg some (by kernel_rfl)),
    f277 := Tryd.func129.trans (congrArg some (by kernel_rfl)),
    t0 := Tryd.underlying0,
    a0 := Tryd.isAgg0,
    z0 := Tryd.sizeOf0,
    v0 := Tryd.zeroValue0,
    t3 := Tryd.underlying3,
    a3 := Tryd.isAgg3,
    z3 := Tryd.sizeOf3,
    v3 := Tryd.zeroValue3,
    t4 := Tryd.underlying4,
    a4 := Tryd.isAgg4,
    z4 := Tryd.sizeOf4,
    v4 := Tryd.zeroValue4,
    t9 := Tryd.underlying9,
    a9 := Tryd.isAgg9,
    z9 := Tryd.sizeOf9,
    v9 := Tryd.zeroValue9,
    t20 := Tryd.underlying20,
    a20 := Tryd.isAgg20,
    z20 := Tryd.sizeOf20,
    v20 := Tryd.zeroValue20,
    t31 := Tryd.underlying56,
    a31 := Tryd.isAgg56,
    z31 := Tryd.sizeOf56,
    v31 := Tryd.zeroValue56,
    t37 := Tryd.underlying69,
    a37 := Tryd.isAgg69,
    z37 := Tryd.sizeOf69,
    v37 := Tryd.zeroValue69,
    t70 := Tryd.underlying68,
    a70 := Tryd.isAgg68,
    z70 := Tryd.sizeOf68,
    v70 := Tryd.zeroValue68,
    t72 := Tryd.underlying71,
    a72 := Tryd.isAgg71,
    z72 := Tryd.sizeOf71,
    v72 := Tryd.zeroValue71,
    t75 := Tryd.underlying74,
    a75 := Tryd.isAgg74,
    z75 := Tryd.sizeOf74,
    v75 := Tryd.zeroValue74,
    t76 := Tryd.underlying75,
    a76 := Tryd.isAgg75,
    z76 := Tryd.sizeOf75,
    v76 := Tryd.zeroValue75,
    t127 := Tryd.underlying102,
    a127 := Tryd.isAgg102,
    z127 := Tryd.sizeOf102,
    v127 := Tryd.zeroValue102,
    t164 := Tryd.underlying132,
    a164 := Tryd.isAgg132,
    z164 := Tryd.sizeOf132,
    v164 := Tryd.zeroValue132 }
def lays283_ren : Go.Shelf.Ren := ⟨fun
  | 283 => 87
  | n => n, fun
  | 3 => 3
  | 9 => 9
  | 4 => 4
  | n => n, fun
  | n => n⟩
theorem lays283 : Go.Proofs.Lays.n283 Tryd.prog lays283_ren :=
  { mixed := by kernel_rfl,
    f283 := Tryd.func87.trans (congrArg some (by kernel_rfl)),
    t3 := Tryd.underlying3,
    a3 := Tryd.isAgg3,
    z3 := Tryd.sizeOf3,
    v3 := Tryd.zeroValue3,
    t4 := Tryd.underlying4,
    a4 := Tryd.isAgg4,
    z4 := Tryd.sizeOf4,
    v4 := Tryd.zeroValue4,
    t9 := Tryd.underlying9,
    a9 := Tryd.isAgg9,
    z9 := Tryd.sizeOf9,
    v9 := Tryd.zeroValue9 }
def lays284_ren : Go.Shelf.Ren := ⟨fun
  | 284 => 88
  | 129 => 116
  | 317 => 115
  | 318 => 117
  | n => n, fun
  | 53 => 22
  | 3 => 3
  | 212 => 141
  | 0 => 0
  | 4 => 4
  | 46 => 94
  | 5 => 5
  | 9 => 9
  | n => n, fun
  | 17 => 0
  | n => n⟩
theorem lays284 : Go.Proofs.LaysM.n284 Tryd.prog lays284_ren :=
  { mixed := by kernel_rfl,
    f129 := Tryd.func116.trans (congrArg some (by kernel_rfl)),
    f284 := Tryd.func88.trans (congrArg some (by kernel_rfl)),
    f317 := Tryd.func115.trans (congrArg some (by kernel_rfl)),
    f318 := Tryd.func117.trans (congrArg some (by kernel_rfl)),
    t0 := Tryd.underlying0,
    a0 := Tryd.isAgg0,
    z0 := Tryd.sizeOf0,
    v0 := Tryd.zeroValue0,
    t3 := Tryd.underlying3,
    a3 := Tryd.isAgg3,
    z3 := Tryd.sizeOf3,
    v3 := Tryd.zeroValue3,
    t4 := Tryd.underlying4,
    a4 := Tryd.isAgg4,
    z4 := Tryd.sizeOf4,
    v4 := Tryd.zeroValue4,
    t5 := Tryd.underlying5,
    a5 := Tryd.isAgg5,
    z5 := Tryd.sizeOf5,
    v5 := Tryd.zeroValue5,
    t9 := Tryd.underlying9,
    a9 := Tryd.isAgg9,
    z9 := Tryd.sizeOf9,
    v9 := Tryd.zeroValue9,
    t46 := Tryd.underlying94,
    a46 := Tryd.isAgg94,
    z46 := Tryd.sizeOf94,
    v46 := Tryd.zeroValue94,
    t53 := Tryd.underlying22,
    a53 := Tryd.isAgg22,
    z53 := Tryd.sizeOf22,
    v53 := Tryd.zeroValue22,
    t212 := Tryd.underlying141,
    a212 := Tryd.isAgg141,
    z212 := Tryd.sizeOf141,
    v212 := Tryd.zeroValue141,
    g17 := by kernel_rfl,
    i0 := by kernel_rfl,
    i3 := by kernel_rfl,
    i4 := by kernel_rfl,
    i5 := by kernel_rfl,
    i9 := by kernel_rfl,
    i46 := by kernel_rfl,
    i53 := by kernel_rfl,
    i212 := by kernel_rfl,
    m17 := by kernel_rfl }
def lays285_ren : Go.Shelf.Ren := ⟨fun
  | 285 => 89
  | n => n, fun
  | 37 => 69
  | 53 => 22
  | 3 => 3
  | 4 => 4
  | 51 => 142
  | 9 => 9
  | 5 => 5
  | 0 => 0
  | n => n, fun
  | n => n⟩
theorem lays285 : Go.Proofs.Lays.n285 Tryd.prog lays285_ren :=
  { mixed := by kernel_rfl,
    f285 := Tryd.func89.trans (congrArg some (by kernel_rfl)),
    t0 := Tryd.underlying0,
    a0 := Tryd.isAgg0,
    z0 := Tryd.sizeOf0,
    v0 := Tryd.zeroValue0,
    t3 := Tryd.underlying3,
    a3 := Tryd.isAgg3,
    z3 := Tryd.sizeOf3,
    v3 := Tryd.zeroValue3,
    t4 := Tryd.underlying4,
    a4 := Tryd.isAgg4,
    z4 := Tryd.sizeOf4,
    v4 := Tryd.zeroValue4,
    t5 := Tryd.underlying5,
    a5 := Tryd.isAgg5,
    z5 := Tryd.sizeOf5,
    v5 := Tryd.zeroValue5,
    t9 := Tryd.underlying9,
    a9 := Tryd.isAgg9,
    z9 := Tryd.sizeOf9,
    v9 := Tryd.zeroValue9,
    t37 := Tryd.underlying69,
    a37 := Tryd.isAgg69,
    z37 := Tryd.sizeOf69,
    v37 := Tryd.zeroValue69,
    t51 := Tryd.underlying142,
    a51 := Tryd.isAgg142,
    z51 := Tryd.sizeOf142,
    v51 := Tryd.zeroValue142,
    t53 := Tryd.underlying22,
    a53 := Tryd.isAgg22,
    z53 := Tryd.sizeOf22,
    v53 := Tryd.zeroValue22 }
theorem laysExtra : Builder.Extra Tryd.prog lays156_ren :=
  { sizeBuilder := by kernel_rfl,
    liesBuilder := by kernel_rfl,
    t5 := Tryd.underlying5,
    a5 := Tryd.isAgg5,
    z5 := Tryd.sizeOf5,
    v5 := Tryd.zeroValue5,
    infoByte := by kernel_rfl,
    cellsByte := by kernel_rfl,
    sizeByte := by kernel_rfl,
    neB5 := by decide }
end Go.Proofs.YtodiahhfpcdejaaDoor

/- strconv.FormatUint at base 10: PRINTED (wip/tools/fmt.py). -/
namespace Go.Proofs.YtodiahhfpcdejaaDoor
open Go.Shelf Go.RowKit Go.Sort Go.Lib
set_option autoImplicit false
set_option linter.unusedSimpArgs false
set_option linter.unusedVariables false
/-- The table's number among the program's variables. -/
abbrev tabG : Nat := 0
abbrev tabT : Nat := 141
theorem zeros24_holds (w : World) (T : TypeId) (nd : Nat) (hs : nd ≤ 24) : Holds (fun (b : UInt8) => Value.int .u8 (b.toNat : Int)) (w.alloc (.cells zeros24 T)) w.heap.size 0 (Array.replicate nd (0 : UInt8)) := fun j hj => by
  have hj' : j < nd := by simpa using hj
  refine ⟨?_, World.frozen?_alloc_new _ _ _ _⟩
  rw [World.cell?_alloc_new, zeros24_at _ (by omega), getElem!_pos _ j hj]
  simp
theorem fin_zero (w : World) (o : Obj) (dk : Array UInt8) (k : Nat) : ∃ os, (putRow (fun (b : UInt8) => Value.int .u8 (b.toNat : Int)) (w.alloc o) w.heap.size 0 dk).drewN k = grow (w.drewN k) os := by
  rw [alloc_eq_grow]
  obtain ⟨os', _, e⟩ := putRow_grow_new (fun (b : UInt8) => Value.int .u8 (b.toNat : Int)) w #[o] w.heap.size 0 dk (Nat.le_refl _)
  exact ⟨os', by rw [e]; rfl⟩
set_option maxHeartbeats 6400000 in
set_option maxRecDepth 100000 in
theorem fmtU_in (u : Nat) (hu64 : u < 18446744073709551616) (w : World)
    (htab : 100 ≤ u → Lib.TabIs Tryd.prog w "internal/strconv.uint64pow10" .u64 Lib.pow10Tab) :
    Calls Tryd.prog 53 #[.int .u64 u, .int .i64 10] w fun e w' => e = .returned (.string ⟨(Lib.decDigits u).toArray⟩) ∧ ∃ k os, w' = grow (w.drewN k) os := by
  have e283 : ∀ args w, (callFunc 87 args).run Tryd.prog w = .ok (.enter 87 args) w := enters_of lays283.f283 (by kernel_rfl) rfl
  have e284 : ∀ args w, (callFunc 88 args).run Tryd.prog w = .ok (.enter 88 args) w := enters_of lays284.f284 (by kernel_rfl) rfl
  have e285 : ∀ args w, (callFunc 89 args).run Tryd.prog w = .ok (.enter 89 args) w := enters_of lays285.f285 (by kernel_rfl) rfl
  by_cases hs : u < 100
  · go_enter Tryd.func53, Tryd.ntmps53
    go_wp2_with (go_at_fn 87; refine (Any.internal_strconv_small lays283 u hs _).mono ?_; rintro e w' ⟨rfl, rfl⟩)
    go_ret
    exact ⟨rfl, 0, #[], by simp [World.drewN_zero]⟩
  · have hu1 : 1 ≤ u := by omega
    have htab := htab (by omega)
    have hnd20 : Lib.nDigits u ≤ 20 := by have := Lib.numDigits_eq u hu1 hu64; split at this <;> omega
    have hal : Tryd.prog.arrayLen 121 = 24 := by simp [Program.arrayLen, Tryd.underlying121]
    have hsl1 : ∀ W, (Instr.sliceAt 121 (.pointer (some ⟨w.heap.size, 0, none⟩)) none (some (.int .i64 (Lib.nDigits u : Int))) none).run Tryd.prog W = .ok (.slice (some ⟨w.heap.size, 0, none⟩) (Lib.nDigits u) 24) W := fun W => by
      rw [run_sliceAt_array_h W 121 ⟨w.heap.size, 0, none⟩ (by simp [Program.arrayLen, Program.elem, Tryd.underlying121]) .i64 (Lib.nDigits u : Int) (by omega) (by rw [hal]; omega)]
      go_simp
    have hH0 := zeros24_holds w 121 (Lib.nDigits u) (by omega)
    have hfmt := Any.internal_strconv_formatBase10 lays285 w.heap.size 0 24 u (Array.replicate (Lib.nDigits u) 0) (w.alloc (.cells Lib.zeros24 121)) hH0 (by rw [Array.size_replicate]; exact Lib.lt_pow_nDigits u) hu64 (by rw [Array.size_replicate]; omega)
    rw [Array.size_replicate] at hfmt
    have HH0 := Lib.hid hH0
    clear hH0 hal
    go_enter Tryd.func53, Tryd.ntmps53
    go_wp2_with (first
      | (go_at_fn 88; refine (Any.internal_strconv_numDigits lays284 u hu1 hu64 _ (Lib.tabIs_alloc htab _)).mono ?_; rintro e w' ⟨rfl, rfl⟩))
    go_at_fn 89
    refine hfmt.mono ?_
    rintro e w' ⟨rfl, k, v', dk, rfl, hF⟩
    have hcv : (convert 69 9 (.slice (some ⟨w.heap.size, 0, none⟩) (Lib.nDigits u) 24)).run Tryd.prog ((putRow (fun (b : UInt8) => Value.int .u8 (b.toNat : Int)) (w.alloc (.cells Lib.zeros24 121)) w.heap.size 0 dk).drewN k) = .ok (.string ⟨(Lib.decDigits u).toArray⟩) ((putRow (fun (b : UInt8) => Value.int .u8 (b.toNat : Int)) (w.alloc (.cells Lib.zeros24 121)) w.heap.size 0 dk).drewN k) := by
      have h := run_convert_bytes_back (P := Tryd.prog) ((putRow (fun (b : UInt8) => Value.int .u8 (b.toNat : Int)) (w.alloc (.cells Lib.zeros24 121)) w.heap.size 0 dk).drewN k) 69 9 5 ⟨w.heap.size, 0, none⟩ 24 (Lib.decDigits u) Tryd.underlying69 Tryd.underlying5 Tryd.underlying9 (fun j hj => by
        rw [Lib.row_is_numeral hF j hj, Lib.add_plain, World.cell?_drewN]
        exact cell?_putRow (fun (b : UInt8) => Value.int .u8 (b.toNat : Int)) _ w.heap.size 0 _ dk HH0.out (by rw [hF.size, Array.size_replicate]) j (by rw [hF.size]; rw [Lib.decDigits_length] at hj; exact hj))
      rw [Lib.decDigits_length] at h
      exact h
    go_wp2
    go_ret
    obtain ⟨os, eo⟩ := fin_zero w (.cells Lib.zeros24 121) dk k
    exact ⟨rfl, k, os, eo⟩
set_option maxRecDepth 100000 in
theorem fmtU (u : Nat) (hu64 : u < 18446744073709551616) (w : World)
    (htab : 100 ≤ u → Lib.TabIs Tryd.prog w "internal/strconv.uint64pow10" .u64 Lib.pow10Tab) :
    Calls Tryd.prog 32 #[.int .u64 u, .int .i64 10] w fun e w' => e = .returned (.string ⟨(Lib.decDigits u).toArray⟩) ∧ Below w.heap.size w w' := by
  have e53 : ∀ args w, (callFunc 53 args).run Tryd.prog w = .ok (.enter 53 args) w := enters_of Tryd.func53 (by kernel_rfl) rfl
  go_enter Tryd.func32, Tryd.ntmps32
  go_wp2_with (go_at_fn 53; refine (fmtU_in u hu64 _ htab).mono ?_; rintro e w' ⟨rfl, k, os, rfl⟩)
  go_ret
  exact ⟨rfl, rfl, rfl, rfl, by rw [size_grow]; exact Nat.le_add_right _ _, fun j hj => heap_grow_old _ os hj⟩
end Go.Proofs.YtodiahhfpcdejaaDoor

/- The library's functions that make texts, by the kit's contracts. -/
namespace Go.Proofs.YtodiahhfpcdejaaDoor
open Go.Shelf Go.RowKit
set_option autoImplicit false
set_option linter.unusedVariables false
theorem tab_is {w : World} {Z : Nat → Prop} (h : TabG w.heap Z) : Lib.TabIs PG w "internal/strconv.uint64pow10" .u64 Lib.pow10Tab := by
  obtain ⟨_, q⟩ := h (tabG, pow10Cells) (by simp [tabs, tabG])
  have hg : PG.globalNamed "internal/strconv.uint64pow10" = some tabG := by kernel_rfl
  unfold Lib.TabIs World.var?
  unfold hrow at q
  rw [hg, Option.bind_some]
  cases hx : w.heap[tabG]? with
  | none => rw [hx] at q; cases q
  | some o =>
    rw [hx] at q
    cases o with
    | cells c t f => exact (show some c = some pow10Cells from q)
    | _ => cases q
theorem FormatUint_spec (n : Nat) (hn : n < 18446744073709551616) (H : AH) : ACalls PG strconv_FormatUint.n [.int .u64 (n : Nat), .int .i64 10] H fun r H' => r = .str (dec n) ∧ H' = H :=
  (ACalls.belowT (P := PG) (f := strconv_FormatUint.n) (args := [.int .u64 (n : Nat), .int .i64 10]) (v := .str (dec n)) (by kernel_rfl) fun w ρ Z xs ht hz hr => by
    obtain ⟨x, y, rfl, hx, hy⟩ := hr.two
    cases hx
    cases hy
    refine (fmtU n hn w fun _ => tab_is ht).mono fun e w' ⟨h1, h2⟩ => ⟨_, h1, .str _ _ (by rw [dec_eq hn]), h2⟩).frame H
def joinRow (l : List (List UInt8)) : List (List AV) := l.map fun s => [.str s]
theorem Join_spec (l : List (List UInt8)) (s : List UInt8) (h1 : l.length ≤ 140737488355328) (h2 : (Lib.join l s).length ≤ 140737488355328) (H : AH) : ACalls PG strings_Join.n [.rows 1 (joinRow l), .str s] H fun r H' => r = .str (Lib.join l s) ∧ H' = H :=
  (ACalls.belowT (P := PG) (f := strings_Join.n) (args := [.rows 1 (joinRow l), .str s]) (v := .str (Lib.join l s)) (by kernel_rfl) fun w ρ Z xs ht hz hr => by
    obtain ⟨x, y, rfl, hx, hy⟩ := hr.two
    cases hy with
    | str _ sb hs =>
    have hlen : (joinRow l).length = l.length := by simp [joinRow]
    generalize hL : joinRow l = L at hx hlen
    cases hx with
    | rowsN =>
      have : l = [] := List.eq_nil_of_length_eq_zero (by simpa using hlen.symm)
      subst this
      exact (Any.strings_Join_none lays156 laysExtra none 0 sb w).mono fun e w' ⟨e1, e2⟩ => ⟨_, e1, .str _ _ rfl, e2 ▸ Below.refl _ _⟩
    | rowsE _ a c =>
      have : l = [] := List.eq_nil_of_length_eq_zero (by simpa using hlen.symm)
      subst this
      exact (Any.strings_Join_none lays156 laysExtra (some a) c sb w).mono fun e w' ⟨e1, e2⟩ => ⟨_, e1, .str _ _ rfl, e2 ▸ Below.refl _ _⟩
    | rows _ _ b o n c f hn hnc hzz hw hcc hm hrr =>
      rcases Nat.eq_zero_or_pos n with h0 | h0
      · have : l = [] := List.eq_nil_of_length_eq_zero (by omega)
        subst this
        subst h0
        exact (Any.strings_Join_none lays156 laysExtra _ c sb w).mono fun e w' ⟨e1, e2⟩ => ⟨_, e1, .str _ _ rfl, e2 ▸ Below.refl _ _⟩
      have hnl : n = l.length := by omega
      subst hL
      have hj : ((l.map fun s => (⟨s.toArray⟩ : ByteArray)).map (·.data.toList)) = l := by
        rw [List.map_map]
        exact List.map_id' l
      have := Any.strings_Join lays156 laysExtra b o c (l.map fun s => ⟨s.toArray⟩) sb w (fun j x hx => by
        obtain ⟨u, hu⟩ : ∃ u, l[j]? = some u ∧ x = ⟨u.toArray⟩ := by
          rw [List.getElem?_map] at hx
          cases hq : l[j]? with
          | none => rw [hq] at hx; cases hx
          | some u => rw [hq] at hx; exact ⟨u, rfl, (Option.some.inj hx).symm⟩
        have hr1 : (joinRow l)[j]? = some [.str u] := by simp [joinRow, hu.1]
        have hc := hm j _ 0 (.str u) hr1 rfl
        have hv := hrr j _ 0 (.str u) hr1 rfl
        simp only [Nat.mul_one, Nat.add_zero] at hc hv
        rw [cell?_heap, hc]
        cases hv' : f j with
        | string t => 
          rw [hv'] at hv
          cases hv with
          | str _ _ ht => rw [hu.2, ← ht]
        | _ => rw [hv'] at hv; cases hv) (hz b (hzz h0)) (by simpa using h1) (by simpa [← hnl] using hnc) (by rw [hj, hs]; exact h2)
      rw [hj, hs] at this
      rw [List.length_map, ← hnl] at this
      exact this.mono fun e w' ⟨e1, e2⟩ => ⟨_, e1, .str _ _ rfl, e2⟩).frame H
end Go.Proofs.YtodiahhfpcdejaaDoor

/- The texts of values, walked. -/
namespace Go.Proofs.YtodiahhfpcdejaaDoor
set_option autoImplicit false
set_option linter.unusedSimpArgs false
set_option linter.unusedVariables false
--HSET
attribute [local irreducible] callA callP ACalls
theorem quoC_q {c : UInt8} (h : c.toNat < 32 ∨ 126 < c.toNat ∨ c.toNat = 39 ∨ c.toNat = 92) : quoC c = [92, figH (c.toNat / 16), figH (c.toNat % 16)] := by
  unfold quoC
  rw [if_pos]
  rcases h with q | q | q | q
  · exact .inl q
  · exact .inr (.inl q)
  · exact .inr (.inr (.inl (UInt8.toNat_inj.1 q)))
  · exact .inr (.inr (.inr (UInt8.toNat_inj.1 q)))
theorem quoC_n {c : UInt8} (h : ¬ (c.toNat < 32 ∨ 126 < c.toNat ∨ c.toNat = 39 ∨ c.toNat = 92)) : quoC c = [c] := by
  unfold quoC
  rw [if_neg]
  rintro (q | q | q | q)
  · exact h (.inl q)
  · exact h (.inr (.inl q))
  · subst q; exact h (.inr (.inr (.inl rfl)))
  · subst q; exact h (.inr (.inr (.inr rfl)))
theorem quoted_spec (t : List UInt8) (ht : t.length ≤ 1000000) (H : AH) : ACalls PG value_quoted.n [.str t] H fun r H' => r = .str (quo t) ∧ H' = H := by
  refine ACalls.fz (value_quoted.of rfl (wpF_start ?_))
  (first | refine ah ?_ | exact ah0 | fail)
  intro id3 hid3 ht3; have n3 := neAll_of hid3; (try simp only [neAll, neAll_hset] at n3); have m3 := n3; (repeat (obtain ⟨_, m3⟩ := m3))
  (first | refine ah ?_ | exact ah0 | fail)
  refine loopM (S := Nat × AH × Option Nat) [(0, some _), (3, some _), (7, some _)] (fun s => [(8, some (.int .i64 (s.1 : Nat)))]) (fun s => s.2.1) (fun s => t.length - s.1) (fun s => s.1 ≤ t.length ∧ Bl s.2.1 id3 s.2.2 ((t.take s.1).flatMap quoC) ∧ Kp ((id3, .rows 2 [[.nilP, .nilS]]) :: H) id3 none s.2.1 s.2.2) (0, _, none) (by repeat (first | exact trivial | refine And.intro (Or.inl rfl) ?_ | refine And.intro (Or.inr (Exists.intro _ (And.intro rfl (Fz.refl _)))) ?_ | refine And.intro (Or.inr (Exists.intro _ (And.intro rfl (fz_eq (congrArg (AV.int _) (by omega)))))) ?_ | refine And.intro (Or.inr (Exists.intro _ (And.intro rfl (fz_eq (congrArg (AV.own _ _ _) (by (try dsimp only); (try simp only [List.length_append, List.length_map, List.length_cons, List.length_nil, List.length_take, List.length_set, List.length_replicate]); (try dsimp only); first | done | omega)))))) ?_)) (Sub.refl _) ⟨Nat.zero_le _, ⟨ht3, _, _, hget_self, .inl rfl, .inl ⟨rfl, rfl, rfl⟩⟩, ⟨fun _ e => .inr e, fun _ _ _ _ q => q⟩⟩ (fun s hs => ?_)
  obtain ⟨i, H1, ob⟩ := s
  obtain ⟨hi, hb, kk⟩ := hs
  dsimp only at hi hb kk ⊢
  (first | refine ah ?_ | exact ah0 | fail)
  refine bsplit_dec (fun h1 => ?_) (fun h1 => ?_)
  · have hil : i < t.length := by omega
    have hget : t.getD (Int.toNat (i : Nat)) 0 = t[i] := by simp [hil]
    have htk : (t.take (i + 1)).flatMap quoC = (t.take i).flatMap quoC ++ quoC t[i] := by rw [List.take_succ_eq_append_getElem hil, List.flatMap_append]; simp [List.flatMap]
    have hln := quoF_len (t.take i)
    have hlt : (t.take i).length ≤ 1000000 := by simp; omega
    have hcl := (t[i]).toNat_lt
    (first | refine ah ?_ | exact ah0 | fail)
    rw [hget]
    generalize t[i] = c at *
    have hA : Int.fdiv ((c.toNat : Nat) : Int) (2 ^ min (Int.toNat 4) IntKind.u8.bits) = ((c.toNat / 16 : Nat) : Int) := by
      rw [show ((2 : Int) ^ min (Int.toNat 4) IntKind.u8.bits) = 16 from by decide, Int.fdiv_eq_ediv_of_nonneg _ (by decide)]; omega
    have hW : ∀ n : Nat, n < 16 → IntKind.u8.wrap ((n : Nat) + 1) = ((n + 1 : Nat) : Int) := fun n h => by
      simp only [IntKind.wrap, IntKind.bits, IntKind.signed, Bool.false_and, Bool.false_eq_true, if_false]; omega
    have hB : bitsV .and .u8 ((c.toNat : Nat) : Int) 15 = ((c.toNat % 16 : Nat) : Int) := by
      have e1 : (BitVec.ofInt 8 ((c.toNat : Nat) : Int)).toNat = c.toNat := by rw [BitVec.toNat_ofInt]; omega
      show IntKind.u8.wrap ((BitVec.ofInt 8 ((c.toNat : Nat) : Int) &&& BitVec.ofInt 8 15).toNat : Int) = _
      rw [BitVec.toNat_and, e1, show (BitVec.ofInt 8 15).toNat = 2 ^ 4 - 1 from by decide, Nat.and_two_pow_sub_one_eq_mod]
      simp only [IntKind.wrap, IntKind.bits, IntKind.signed, Bool.false_and, Bool.false_eq_true, if_false]; omega
    have hF : ∀ n : Nat, n < 16 → List.drop (Int.toNat (n : Nat)) (List.take (Int.toNat ((n : Nat) + 1)) [48, 49, 50, 51, 52, 53, 54, 55, 56, 57, 97, 98, 99, 100, 101, 102]) = [figH n] := fun n h => by
      have : ∀ m : Fin 16, List.drop (Int.toNat (m.val : Nat)) (List.take (Int.toNat ((m.val : Nat) + 1)) [48, 49, 50, 51, 52, 53, 54, 55, 56, 57, 97, 98, 99, 100, 101, 102]) = [figH m.val] := by decide
      exact this ⟨n, h⟩
    by_cases hq : c.toNat < 32 ∨ 126 < c.toNat ∨ c.toNat = 39 ∨ c.toNat = 92
    · have hqc := quoC_q hq
      rcases hq with hq | hq | hq | hq
      all_goals
        (first | refine ah ?_ | exact ah0 | fail)
        rw [hA]
        try refine rng_id (hW (c.toNat / 16) (by omega)) ?_
        try rw [hF _ (by omega)]
        (first | refine ah ?_ | exact ah0 | fail)
        rw [hB]
        try refine rng_id (hW (c.toNat % 16) (by omega)) ?_
        try rw [hF _ (by omega)]
        (first | refine ah ?_ | exact ah0 | fail)
        refine callF_of ((bl_WriteString (s := [92] ++ [figH (c.toNat / 16)] ++ [figH (c.toNat % 16)]) hb (by simp only [List.length_append, List.length_cons, List.length_nil]; omega)).mono fun r H2 ⟨e, ob2, hb2, k2⟩ => ?_)
        subst e
        (first | refine ah ?_ | exact ah0 | fail)
        exact nextS (S := Nat × AH × Option Nat) (i + 1, H2, ob2) (by repeat (first | exact trivial | refine And.intro (Or.inl rfl) ?_ | refine And.intro (Or.inr (Exists.intro _ (And.intro rfl (Fz.refl _)))) ?_ | refine And.intro (Or.inr (Exists.intro _ (And.intro rfl (fz_eq (congrArg (AV.int _) (by omega)))))) ?_ | refine And.intro (Or.inr (Exists.intro _ (And.intro rfl (fz_eq (congrArg (AV.own _ _ _) (by (try dsimp only); (try simp only [List.length_append, List.length_map, List.length_cons, List.length_nil, List.length_take, List.length_set, List.length_replicate]); (try dsimp only); first | done | omega)))))) ?_)) (Sub.refl _) (by dsimp only; omega) ⟨hil, by rw [htk, hqc]; exact hb2, kk.trans k2 (by rw [hget_self]; simp) hb2.ob⟩
    · have hqc := quoC_n hq
      (first | refine ah ?_ | exact ah0 | fail)
      refine callF_of ((bl_WriteByte (c := c) hb (by omega)).mono fun r H2 ⟨e, ob2, hb2, k2⟩ => ?_)
      subst e
      (first | refine ah ?_ | exact ah0 | fail)
      exact nextS (S := Nat × AH × Option Nat) (i + 1, H2, ob2) (by repeat (first | exact trivial | refine And.intro (Or.inl rfl) ?_ | refine And.intro (Or.inr (Exists.intro _ (And.intro rfl (Fz.refl _)))) ?_ | refine And.intro (Or.inr (Exists.intro _ (And.intro rfl (fz_eq (congrArg (AV.int _) (by omega)))))) ?_ | refine And.intro (Or.inr (Exists.intro _ (And.intro rfl (fz_eq (congrArg (AV.own _ _ _) (by (try dsimp only); (try simp only [List.length_append, List.length_map, List.length_cons, List.length_nil, List.length_take, List.length_set, List.length_replicate]); (try dsimp only); first | done | omega)))))) ?_)) (Sub.refl _) (by dsimp only; omega) ⟨hil, by rw [htk, hqc]; exact hb2, kk.trans k2 (by rw [hget_self]; simp) hb2.ob⟩
  · obtain rfl : i = t.length := by omega
    rw [List.take_length] at hb
    have hln := quoF_len t
    (first | refine ah ?_ | exact ah0 | fail)
    refine callF_of ((bl_StringE hb (by omega)).mono fun r H2 ⟨e, k2⟩ => ?_)
    subst e
    (first | refine ah ?_ | exact ah0 | fail)
    refine ⟨fz_eq (congrArg AV.str (by unfold quo; rfl)), fun j b q => ?_⟩
    have hj : j ≠ id3 := fun e => by rw [e, hid3] at q; cases q
    have q1 : hget ((id3, Blk.rows 2 [[.nilP, .nilS]]) :: H) j = some b := (hget_tail (Ne.symm hj)).trans q
    exact k2 j b (kk.ne (by simp) q1) (kk.kp j b hj (by simp) q1)
theorem FormatBool_in (b : Bool) (H : AH) : ACalls PG strconv_FormatBool_81.n [.bool b] H fun r H' => r = .str (if b = true then [116, 114, 117, 101] else [102, 97, 108, 115, 101]) ∧ H' = H := by
  refine ACalls.fz (strconv_FormatBool_81.of rfl (wpF_start ?_))
  cases b
  all_goals
    (first | refine ah ?_ | exact ah0 | fail)
    exact ⟨fz_of, sub_of⟩
theorem FormatBool_spec (b : Bool) (H : AH) : ACalls PG strconv_FormatBool.n [.bool b] H fun r H' => r = .str (if b = true then [116, 114, 117, 101] else [102, 97, 108, 115, 101]) ∧ H' = H := by
  refine ACalls.fz (strconv_FormatBool.of rfl (wpF_start ?_))
  (first | refine ah ?_ | exact ah0 | fail)
  first | refine callF_eq (FormatBool_in b _) ?_ | refine callG_eq rfl (FormatBool_in b _) ?_
  (first | refine ah ?_ | exact ah0 | fail)
  exact ⟨fz_of, sub_of⟩
theorem number_spec (k : Int) (n : Nat) (hk : isNum k = true) (H : AH) : ACalls PG value_number.n [datA (datK k n)] H fun r H' => r = .str (numText k n) ∧ H' = H := by
  refine ACalls.fz (value_number.of rfl (wpF_start ?_))
  unfold datK numText
  have e0 : ¬ (isNum k = false) := by rw [hk]; decide
  by_cases h1 : k = 1
  · simp only [if_neg e0, if_pos h1]
    (first | refine ah ?_ | exact ah0 | fail)
    intro id1 hid1 ht1; have n1 := neAll_of hid1; (try simp only [neAll, neAll_hset] at n1); have m1 := n1; (repeat (obtain ⟨_, m1⟩ := m1))
    (first | refine ah ?_ | exact ah0 | fail)
    first | refine callF_eq (FormatUint_spec (n % 2) (by omega) _) ?_ | refine callG_eq rfl (FormatUint_spec (n % 2) (by omega) _) ?_
    (first | refine ah ?_ | exact ah0 | fail)
    first | refine callF_eq (FormatBool_spec _ _) ?_ | refine callG_eq rfl (FormatBool_spec _ _) ?_
    (first | refine ah ?_ | exact ah0 | fail)
    exact ⟨fz_eq (congrArg AV.str (by by_cases e : n % 2 = 1 <;> simp [e]; omega)), sub_of⟩
  · simp only [if_neg e0, if_neg h1]
    by_cases h2 : sgK k = true ∧ sgnI (szK k) n < 0
    · simp only [if_pos h2]
      have hr := sgnI_range (szK_num hk) n
      (first | refine ah ?_ | exact ah0 | fail)
      intro id1 hid1 ht1; have n1 := neAll_of hid1; (try simp only [neAll, neAll_hset] at n1); have m1 := n1; (repeat (obtain ⟨_, m1⟩ := m1))
      (first | refine ah ?_ | exact ah0 | fail)
      have hdl := dec_len (-(sgnI (szK k) n)).toNat
      first | refine callF_eq (FormatUint_spec (-(sgnI (szK k) n)).toNat (by omega) _) ?_ | refine callG_eq rfl (FormatUint_spec (-(sgnI (szK k) n)).toNat (by omega) _) ?_
      (first | refine ah ?_ | exact ah0 | fail)
      exact ⟨fz_of, sub_of⟩
    · simp only [if_neg h2]
      have hu := upK_lt k n
      (first | refine ah ?_ | exact ah0 | fail)
      intro id1 hid1 ht1; have n1 := neAll_of hid1; (try simp only [neAll, neAll_hset] at n1); have m1 := n1; (repeat (obtain ⟨_, m1⟩ := m1))
      (first | refine ah ?_ | exact ah0 | fail)
      first | refine callF_eq (FormatUint_spec _ hu _) ?_ | refine callG_eq rfl (FormatUint_spec _ hu _) ?_
      (first | refine ah ?_ | exact ah0 | fail)
      exact ⟨fz_of, sub_of⟩
theorem between_spec (a s z : List UInt8) (l : List (List UInt8)) (h1 : l.length ≤ 140737488355328) (h2 : (Lib.join l s).length ≤ 140737488355328) (h3 : a.length ≤ 1000 ∧ z.length ≤ 1000) (H : AH) :
    ACalls PG value_between.n [.str a, .str s, .str z, .rows 1 (joinRow l)] H fun r H' => r = .str (a ++ Lib.join l s ++ z) ∧ H' = H := by
  refine ACalls.fz (value_between.of rfl (wpF_start ?_))
  (first | refine ah ?_ | exact ah0 | fail)
  first | refine callF_eq (Join_spec l s h1 h2 _) ?_ | refine callG_eq rfl (Join_spec l s h1 h2 _) ?_
  (first | refine ah ?_ | exact ah0 | fail)
  exact ⟨fz_of, sub_of⟩
end Go.Proofs.YtodiahhfpcdejaaDoor

/- The texts of values, walked: the parts' and the whole. -/
namespace Go.Proofs.YtodiahhfpcdejaaDoor
set_option autoImplicit false
set_option linter.unusedSimpArgs false
set_option linter.unusedVariables false
attribute [local irreducible] callA callP ACalls
theorem texts_spec0 (l : List Vl) (ih : ∀ x ∈ l, ∀ H, ACalls PG value_Text.n [vlA x] H fun r H' => r = .str (vText x) ∧ H' = H) (hlen : l.length ≤ 1000000) :
    ACalls PG value_texts.n [.rows 4 (vlRs l)] [] fun r _ => r = .rows 1 (joinRow (l.map vText)) := by
  have hkl := vlRs_len l
  refine ACalls.fzK (value_texts.of rfl (wpF_start ?_))
  (first | refine au ?_ | exact au0 | fail)
  refine loopM (S := Nat × Option Nat) [(6, some _), (7, some _)] (fun s => [(8, some (.int .i64 (s.1 : Nat))), (3, some (accV s.2 1 s.1))]) (fun s => accH s.2 1 (joinRow ((l.take s.1).map vText)) []) (fun s => l.length - s.1) (fun s => s.1 ≤ l.length ∧ (s.2 = none → s.1 = 0) ∧ ∀ id, s.2 = some id → tag id = ty_string) (0, none) (by repeat (first | exact trivial | refine And.intro (Or.inl rfl) ?_ | refine And.intro (Or.inr (Exists.intro _ (And.intro rfl (Fz.refl _)))) ?_ | refine And.intro (Or.inr (Exists.intro _ (And.intro rfl (fz_eq (congrArg (AV.int _) (by omega)))))) ?_ | refine And.intro (Or.inr (Exists.intro _ (And.intro rfl (fz_eq (congrArg (AV.own _ _ _) (by (try dsimp only); (try simp only [List.length_append, List.length_map, List.length_cons, List.length_nil, List.length_take, List.length_set, List.length_replicate]); (try dsimp only); first | done | omega)))))) ?_)) (Sub.refl _) ⟨Nat.zero_le _, fun _ => rfl, fun id q => by cases q⟩ (fun ⟨i, o⟩ hs => ?_)
  dsimp only at hs
  obtain ⟨hi, ho1, ho2⟩ := hs
  have hjl : (joinRow ((l.take i).map vText)).length = i := by simp [joinRow]; omega
  rcases o with _ | ida
  · have hi0 := ho1 rfl
    dsimp only [accH, accV]
    (first | refine au ?_ | exact au0 | fail)
    refine bsplit_dec (fun cc => ?_) (fun cc => ?_)
    · have hil : i < l.length := by omega
      have hg := vlRs_geti hil
      have hc := ih _ (List.getElem_mem hil)
      have htm : joinRow ((l.take (i + 1)).map vText) = joinRow ((l.take i).map vText) ++ [[.str (vText l[i])]] := by rw [take_map_succ vText l i hil]; simp [joinRow]
      generalize l[i] = y at *
      obtain ⟨k2, n2, t2, l2⟩ := y
      (first | refine au ?_ | exact au0 | fail)
      rw [hg]
      (first | refine au ?_ | exact au0 | fail)
      intro id5 hid5 ht5; have n5 := neAll_of hid5; (try simp only [neAll, neAll_hset] at n5); have m5 := n5; (repeat (obtain ⟨_, m5⟩ := m5))
      (first | refine au ?_ | exact au0 | fail)
      first | refine callF_eq (hc _) ?_ | refine callG_eq rfl (hc _) ?_
      (first | refine au ?_ | exact au0 | fail)
      refine ⟨_, rfl, (Nat.le_of_ble_eq_true rfl), (fun q => by cases q), fun _ => ?_⟩
      intro id16 hid16 ht16; have n16 := neAll_of hid16; (try simp only [neAll, neAll_hset] at n16); have m16 := n16; (repeat (obtain ⟨_, m16⟩ := m16))
      (first | refine au ?_ | exact au0 | fail)
      refine nextS (S := Nat × Option Nat) (i + 1, some id16) (by repeat (first | exact trivial | refine And.intro (Or.inl rfl) ?_ | refine And.intro (Or.inr (Exists.intro _ (And.intro rfl (Fz.refl _)))) ?_ | refine And.intro (Or.inr (Exists.intro _ (And.intro rfl (fz_eq (congrArg (AV.int _) (by omega)))))) ?_ | refine And.intro (Or.inr (Exists.intro _ (And.intro rfl (fz_eq (congrArg (AV.own _ _ _) (by (try dsimp only); (try simp only [List.length_append, List.length_map, List.length_cons, List.length_nil, List.length_take, List.length_set, List.length_replicate]); (try dsimp only); first | done | omega)))))) ?_)) (by (try dsimp only [accH, accV]); rw [htm]; rw [show joinRow ((l.take i).map vText) = [] from List.eq_nil_of_length_eq_zero (by omega), List.nil_append]; exact sub_of) (by first | omega | (dsimp only; omega)) ⟨hil, (fun q => by cases q), fun j q => by cases q; exact ht16⟩
    · have e0 : l = [] := List.eq_nil_of_length_eq_zero (by omega)
      rw [e0]
      (first | refine au ?_ | exact au0 | fail)
      exact fz_of
  · have hti := ho2 ida rfl
    dsimp only [accH, accV]
    (first | refine au ?_ | exact au0 | fail)
    refine bsplit_dec (fun cc => ?_) (fun cc => ?_)
    · have hil : i < l.length := by omega
      have hg := vlRs_geti hil
      have hc := ih _ (List.getElem_mem hil)
      have htm : joinRow ((l.take (i + 1)).map vText) = joinRow ((l.take i).map vText) ++ [[.str (vText l[i])]] := by rw [take_map_succ vText l i hil]; simp [joinRow]
      generalize l[i] = y at *
      obtain ⟨k2, n2, t2, l2⟩ := y
      (first | refine au ?_ | exact au0 | fail)
      rw [hg]
      (first | refine au ?_ | exact au0 | fail)
      intro id5 hid5 ht5; have n5 := neAll_of hid5; (try simp only [neAll, neAll_hset] at n5); have m5 := n5; (repeat (obtain ⟨_, m5⟩ := m5))
      (first | refine au ?_ | exact au0 | fail)
      first | refine callF_eq (hc _) ?_ | refine callG_eq rfl (hc _) ?_
      (first | refine au ?_ | exact au0 | fail)
      refine ⟨_, _, readS_all (by exact hg_of) (by ((try dsimp only); (try simp only [List.length_append, List.length_map, List.length_cons, List.length_nil, List.length_take, List.length_set, List.length_replicate]); (try dsimp only); first | done | omega)), rfl, rfl, rfl, (hti), (by ((try dsimp only); (try simp only [List.length_append, List.length_map, List.length_cons, List.length_nil, List.length_take, List.length_set, List.length_replicate]); (try dsimp only); first | done | omega)), ?_⟩
      intro id16 hid16 ht16; have n16 := neAll_of hid16; (try simp only [neAll, neAll_hset] at n16); have m16 := n16; (repeat (obtain ⟨_, m16⟩ := m16))
      (first | refine au ?_ | exact au0 | fail)
      refine nextS (S := Nat × Option Nat) (i + 1, some id16) (by repeat (first | exact trivial | refine And.intro (Or.inl rfl) ?_ | refine And.intro (Or.inr (Exists.intro _ (And.intro rfl (Fz.refl _)))) ?_ | refine And.intro (Or.inr (Exists.intro _ (And.intro rfl (fz_eq (congrArg (AV.int _) (by omega)))))) ?_ | refine And.intro (Or.inr (Exists.intro _ (And.intro rfl (fz_eq (congrArg (AV.own _ _ _) (by (try dsimp only); (try simp only [List.length_append, List.length_map, List.length_cons, List.length_nil, List.length_take, List.length_set, List.length_replicate]); (try dsimp only); first | done | omega)))))) ?_)) (by (try dsimp only [accH, accV]); rw [htm];  exact sub_of) (by first | omega | (dsimp only; omega)) ⟨hil, (fun q => by cases q), fun j q => by cases q; exact ht16⟩
    · have e : i = l.length := by omega
      (first | refine au ?_ | exact au0 | fail)
      rw [e, List.take_length]
      exact accFz (o := some ida) (n := l.length) (l := joinRow (l.map vText)) (by simp [joinRow]) (fun q => by cases q) (fun _ _ => rfl) (FzR.refl _ _ _) (by simp [joinRow])
theorem joinRow_no (l : List (List UInt8)) : NoId (.rows 1 (joinRow l)) := (Cl.rows _ _ (fun r hr v hv => by
  obtain ⟨x, _, rfl⟩ := List.mem_map.1 hr
  rw [List.mem_singleton.1 hv]
  exact .str _)).noId
theorem text_parts (a z s : List UInt8) (l : List Vl) : a ++ Lib.join (l.map vText) s ++ z = a ++ vTexts s l ++ z := by rw [vTexts_join]
theorem vText_spec : ∀ (n : Nat) (x : Vl), SizeOf.sizeOf x < n → vOk x → vGreat x ≤ 100000 → ACalls PG value_Text.n [vlA x] [] fun r _ => r = .str (vText x)
  | 0, x, h, _, _ => by omega
  | n + 1, .mk kd num tx its, hsz, hok, hle => by
    have hkl := vlRs_len its
    have hlen := vGreats_len its
    have htl := vTexts_len [44] its (by simp)
    have htl2 := vTail_len [58] its (by simp)
    have hnl := dec_len num
    simp only [vOk] at hok
    obtain ⟨hnum, htx, hlen3, hks⟩ := hok
    simp only [vGreat] at hle
    have hts : ∀ H, ACalls PG value_texts.n [.rows 4 (vlRs its)] H fun r H' => r = .rows 1 (joinRow (its.map vText)) ∧ H' = H := fun H => (texts_spec0 its (fun x hx H => by
      have h1 := List.sizeOf_lt_of_mem hx
      have h2 := vGreats_mem hx
      simp only [Vl.mk.sizeOf_spec] at hsz
      exact (vText_spec n x (by omega) (vOks_mem hks _ hx) (by omega)).frame H) (by omega)).frame H
    simp only [vText]
    refine ACalls.fzK (value_Text.of rfl (wpF_start ?_))
    (first | refine au ?_ | exact au0 | fail)
    intro id1 hid1 ht1; have n1 := neAll_of hid1; (try simp only [neAll, neAll_hset] at n1); have m1 := n1; (repeat (obtain ⟨_, m1⟩ := m1))
    (first | refine au ?_ | exact au0 | fail)
    first | refine callF_eq (prim_Number_spec _ _) ?_ | refine callG_eq rfl (prim_Number_spec _ _) ?_
    cases hk : isNum kd with
    | true =>
      rw [if_pos rfl]
      (first | refine au ?_ | exact au0 | fail)
      first | refine callF_eq (prim_Datum_spec kd num _) ?_ | refine callG_eq rfl (prim_Datum_spec kd num _) ?_
      (first | refine au ?_ | exact au0 | fail)
      first | refine callF_eq (number_spec kd num hk _) ?_ | refine callG_eq rfl (number_spec kd num hk _) ?_
      (first | refine au ?_ | exact au0 | fail)
      exact fz_of
    | false =>
      rw [if_neg (by decide)]
      (first | refine au ?_ | exact au0 | fail)
      refine bsplit_dec (fun c1 => ?_) (fun c1 => ?_)
      · rw [if_pos c1]
        (first | refine au ?_ | exact au0 | fail)
        first | refine callF_eq (quoted_spec tx (by omega) _) ?_ | refine callG_eq rfl (quoted_spec tx (by omega) _) ?_
        (first | refine au ?_ | exact au0 | fail)
        exact fz_of
      rw [if_neg c1]
      by_cases c2 : kd = 11 ∨ kd = 12
      · rw [if_pos c2, ← text_parts]
        rcases c2 with c2 | c2
        all_goals
          (first | refine au ?_ | exact au0 | fail)
          first | refine callF_eq (hts _) ?_ | refine callG_eq rfl (hts _) ?_
          (first | refine au ?_ | exact au0 | fail)
          first | refine callF_eq (between_spec _ _ _ (its.map vText) (by simp; omega) (by rw [← vTexts_join]; omega) (by simp) _) ?_ | refine callG_eq rfl (between_spec _ _ _ (its.map vText) (by simp; omega) (by rw [← vTexts_join]; omega) (by simp) _) ?_
          (first | refine au ?_ | exact au0 | fail)
          exact fz_of
      rw [if_neg c2]
      have c2a : kd ≠ 11 := fun e => c2 (.inl e)
      have c2b : kd ≠ 12 := fun e => c2 (.inr e)
      by_cases c3 : kd = 13
      · rw [if_pos c3, ← text_parts]
        (first | refine au ?_ | exact au0 | fail)
        first | refine callF_eq (hts _) ?_ | refine callG_eq rfl (hts _) ?_
        (first | refine au ?_ | exact au0 | fail)
        first | refine callF_eq (between_spec _ _ _ (its.map vText) (by simp; omega) (by rw [← vTexts_join]; omega) (by simp) _) ?_ | refine callG_eq rfl (between_spec _ _ _ (its.map vText) (by simp; omega) (by rw [← vTexts_join]; omega) (by simp) _) ?_
        (first | refine au ?_ | exact au0 | fail)
        exact fz_of
      rw [if_neg c3]
      by_cases c4 : kd = 14
      · rw [if_pos c4]
        (first | refine au ?_ | exact au0 | fail)
        first | refine callF_eq (FormatUint_spec num hnum _) ?_ | refine callG_eq rfl (FormatUint_spec num hnum _) ?_
        (first | refine au ?_ | exact au0 | fail)
        intro id49 hid49 ht49; have n49 := neAll_of hid49; (try simp only [neAll, neAll_hset] at n49); have m49 := n49; (repeat (obtain ⟨_, m49⟩ := m49))
        (first | refine au ?_ | exact au0 | fail)
        refine callG_no (joinRow_no _) (hts _) ?_
        (first | refine au ?_ | exact au0 | fail)
        refine ⟨[[.str (dec num)]], joinRow (its.map vText), (readS_part (l := [[.str (dec num)]]) hget_self (Nat.le_refl _)).trans rfl, rfl, rfl, rfl, ht49, (by simp [joinRow]; omega), ?_⟩
        intro id53 hid53 ht53; have n53 := neAll_of hid53; (try simp only [neAll, neAll_hset] at n53); have m53 := n53; (repeat (obtain ⟨_, m53⟩ := m53))
        (first | refine au ?_ | exact au0 | fail)
        have hjl : (joinRow (its.map vText)).length = its.length := by simp [joinRow]
        have hje : dec num ++ vTail [58] its = Lib.join (dec num :: its.map vText) [58] := by rw [Lib.join_cons, vTail_join]
        refine callF_fz (r := .str ([60] ++ Lib.join (dec num :: its.map vText) [58] ++ [62])) (args' := [.str [60], .str [58], .str [62], .rows 1 (joinRow (dec num :: its.map vText))]) (.cons (.refl _) (.cons (.refl _) (.cons (.refl _) (.cons ?_ (.nil _ _))))) rfl ((between_spec [60] [58] [62] (dec num :: its.map vText) (by simp; omega) (by rw [← hje, List.length_append]; omega) (by simp) []).mono fun r H' e => e.1) ?_
        · exact accFz (o := some id53) (n := _) (l := joinRow (dec num :: its.map vText)) (by simp [joinRow]; omega) (fun q => by cases q) (fun _ _ => rfl) (FzR.refl _ _ _) (by simp [joinRow])
        (first | refine au ?_ | exact au0 | fail)
        rw [← hje, ← List.append_assoc]
        exact fz_of
      rw [if_neg c4]
      (first | refine au ?_ | exact au0 | fail)
      exact fz_of
end Go.Proofs.YtodiahhfpcdejaaDoor

/- Shapes of types, a level at a time; for types that hold themselves. -/
namespace Go.Proofs.YtodiahhfpcdejaaDoor
set_option autoImplicit false
set_option linter.unusedVariables false
section
variable {P : Program} {rc : Bool} {n : Nat} {t e : TypeId}
def flOf (P : Program) (t : TypeId) : Option (List (Nat × Nat)) := match P.underlying t with
  | some (.struct fs) => some (fs.toList.map fun f => (f.offset, f.type))
  | _ => none
def slOf (P : Program) (t : TypeId) : Option TypeId := match P.underlying t with
  | some (.slice e) => some e
  | _ => none
def inOf (P : Program) (t : TypeId) : Option IntKind := match P.underlying t with
  | some (.int k) => some k
  | _ => none
def boOf (P : Program) (t : TypeId) : Bool := match P.underlying t with
  | some .bool => true
  | _ => false
def stOf (P : Program) (t : TypeId) : Bool := match P.underlying t with
  | some .string => true
  | _ => false
/-- Fields, one behind the other: each with its offset, cells and type. -/
def fsh (sh : TypeId → Option Sh) : List (Nat × Nat × Nat) → Option Sh
  | [] => some .u
  | (_, _, t) :: r => (sh t).bind fun a => (fsh sh r).map (.p a)
def flC (P : Program) (t : TypeId) : Option (List (Nat × Nat × Nat)) := (flOf P t).map fun l => l.map fun x => (x.1, P.cellsOf x.2, x.2)
def offB : Nat → Nat → List (Nat × Nat × Nat) → Bool
  | tot, o, [] => Nat.beq o tot
  | tot, o, (a, c, _) :: r => Nat.beq a o && offB tot (o + c) r
theorem fsh_of (sh : TypeId → Option Sh) : ∀ (fs : List Field) (tot o : Nat), offB tot o (fs.map fun f => (f.offset, P.cellsOf f.type, f.type)) = true → fieldsSh P sh tot o fs = fsh sh (fs.map fun f => (f.offset, P.cellsOf f.type, f.type))
  | [], tot, o, h => by
    have : o = tot := Nat.eq_of_beq_eq_true h
    simp [fieldsSh, fsh, this]
  | f :: fs, tot, o, h => by
    simp only [List.map_cons, offB, Bool.and_eq_true] at h
    have h1 : f.offset = o := Nat.eq_of_beq_eq_true h.1
    have := fsh_of sh fs tot (o + P.cellsOf f.type) h.2
    simp only [fieldsSh, fsh, List.map_cons, if_pos h1, this]
theorem shO_struct {l : List (Nat × Nat × Nat)} (h : flC P t = some l) (ho : offB (P.cellsOf t) 0 l = true) : shO rc P (n + 1) t = fsh (shO rc P n) l := by
  unfold flC flOf at h
  split at h
  · rename_i fs hu
    simp only [Option.map_some, List.map_map, Option.some.injEq] at h
    subst h
    simp only [shO, hu]
    exact fsh_of _ _ _ _ ho
  · cases h
theorem shO_slice {c b : Nat} (h : slOf P t = some e) (hc : P.cellsOf e = c) (hb : P.bytesOf e = b) (h0 : 0 < c) : shO rc P (n + 1) t = (shO rc P n e).map (.slice c b) := by
  unfold slOf at h
  split at h
  · rename_i hu
    simp only [Option.some.injEq] at h
    subst h
    simp only [shO, hu, hc, hb, if_pos h0]
  · cases h
theorem shO_int {k : IntKind} (h : inOf P t = some k) : shO rc P (n + 1) t = some (.int k) := by
  unfold inOf at h
  split at h
  · rename_i hu
    simp only [Option.some.injEq] at h
    subst h
    simp only [shO, hu]
  · cases h
theorem shO_bool (h : boOf P t = true) : shO rc P (n + 1) t = some .bool := by
  unfold boOf at h
  split at h
  · rename_i hu
    simp only [shO, hu]
  · cases h
theorem shO_str (h : stOf P t = true) : shO rc P (n + 1) t = some .str := by
  unfold stOf at h
  split at h
  · rename_i hu
    simp only [shO, hu]
  · cases h
theorem fsh_some {sh : TypeId → Option Sh} : ∀ {l : List (Nat × Nat × Nat)}, (∀ x ∈ l, ∃ a, sh x.2.2 = some a) → ∃ a, fsh sh l = some a
  | [], _ => ⟨_, rfl⟩
  | x :: l, h => by
    obtain ⟨a, ha⟩ := h x List.mem_cons_self
    obtain ⟨b, hb⟩ := fsh_some (l := l) fun y hy => h y (List.mem_cons_of_mem _ hy)
    exact ⟨_, by simp only [fsh, ha, hb, Option.bind_some, Option.map_some]; rfl⟩
/-- A set of types that is closed has shapes at each depth. -/
def clB (P : Program) (S : List Nat) : Bool := S.all fun t => match P.underlying t with
  | some .bool => true
  | some (.int _) => true
  | some .string => true
  | some (.struct fs) => (match flC P t with
    | some l => offB (P.cellsOf t) 0 l && l.all (fun x => S.contains x.2.2)
    | none => false)
  | some (.slice e) => Nat.ble 1 (P.cellsOf e) && S.contains e
  | _ => false
theorem clB_some {S : List Nat} (h : clB P S = true) : ∀ (n : Nat) (t : Nat), t ∈ S → ∃ sh, shO true P n t = some sh
  | 0, t, _ => ⟨.no, rfl⟩
  | n + 1, t, ht => by
    have q := List.all_eq_true.1 h t ht
    have ih := clB_some h n
    split at q <;> rename_i hu
    · exact ⟨_, by simp only [shO, hu]; rfl⟩
    · exact ⟨_, by simp only [shO, hu]; rfl⟩
    · exact ⟨_, by simp only [shO, hu]; rfl⟩
    · split at q
      · rename_i l hl
        simp only [Bool.and_eq_true, List.all_eq_true, List.contains_iff_mem] at q
        rw [shO_struct hl q.1]
        exact fsh_some fun x hx => ih _ (q.2 x hx)
      · cases q
    · simp only [Bool.and_eq_true, List.contains_iff_mem] at q
      obtain ⟨a, ha⟩ := ih _ q.2
      exact ⟨_, by simp only [shO, hu, if_pos (show 0 < P.cellsOf _ from Nat.le_of_ble_eq_true q.1), ha, Option.map_some]; rfl⟩
    · cases q
end
section
variable {P : Program} {m : Nat} {t e : TypeId} {a sh : Sh} {x vs : List AV}
theorem okInt {k : IntKind} (h : inOf P t = some k) (hs : shO true P m t = some a) (ho : a.OkN x) : ∃ n, x = [.int k n] ∧ k.min ≤ n ∧ n ≤ k.max := by
  cases m with
  | zero => simp only [shO, if_true, Option.some.injEq] at hs; subst hs; exact ho.elim
  | succ m =>
    rw [shO_int h] at hs
    simp only [Option.some.injEq] at hs; subst hs
    obtain ⟨n, h1, h2⟩ := ho
    simp only [Lit.wf, Bool.and_eq_true, decide_eq_true_eq] at h2
    exact ⟨n, h1, h2⟩
theorem okU64 (h : inOf P t = some .u64) (hs : shO true P m t = some a) (ho : a.OkN x) : ∃ n : Nat, x = [.int .u64 (n : Nat)] ∧ n < 18446744073709551616 := by
  obtain ⟨n, h1, h2, h3⟩ := okInt h hs ho
  have e1 : IntKind.min .u64 = 0 := rfl
  have e2 : IntKind.max .u64 = 18446744073709551615 := rfl
  rw [e1] at h2; rw [e2] at h3
  exact ⟨n.toNat, by rw [h1, Int.toNat_of_nonneg h2], by omega⟩
theorem okI64 (h : inOf P t = some .i64) (hs : shO true P m t = some a) (ho : a.OkN x) : ∃ n : Int, x = [.int .i64 n] ∧ -9223372036854775808 ≤ n ∧ n ≤ 9223372036854775807 := okInt h hs ho
theorem okU8 (h : inOf P t = some .u8) (hs : shO true P m t = some a) (ho : a.OkN x) : ∃ n : UInt8, x = [.int .u8 (n.toNat : Nat)] := by
  obtain ⟨n, h1, h2, h3⟩ := okInt h hs ho
  have e1 : IntKind.min .u8 = 0 := rfl
  have e2 : IntKind.max .u8 = 255 := rfl
  rw [e1] at h2; rw [e2] at h3
  refine ⟨UInt8.ofNat n.toNat, ?_⟩
  rw [h1, UInt8.toNat_ofNat', show n.toNat % 2 ^ 8 = n.toNat from by omega, Int.toNat_of_nonneg h2]
theorem okBool (h : boOf P t = true) (hs : shO true P m t = some a) (ho : a.OkN x) : ∃ b, x = [.bool b] := by
  cases m with
  | zero => simp only [shO, if_true, Option.some.injEq] at hs; subst hs; exact ho.elim
  | succ m =>
    rw [shO_bool h] at hs
    simp only [Option.some.injEq] at hs; subst hs
    exact ho
theorem okStr (h : stOf P t = true) (hs : shO true P m t = some a) (ho : a.OkN x) : ∃ l : List UInt8, x = [.str l] ∧ l.length ≤ 140737488351232 := by
  cases m with
  | zero => simp only [shO, if_true, Option.some.injEq] at hs; subst hs; exact ho.elim
  | succ m =>
    rw [shO_str h] at hs
    simp only [Option.some.injEq] at hs; subst hs
    exact ho
theorem okSlice {c b : Nat} (h : slOf P t = some e) (hc : P.cellsOf e = c) (hb : P.bytesOf e = b) (h0 : 0 < c) (hs : shO true P m t = some a) (ho : a.OkN x) :
    ∃ l, x = [.rows c l] ∧ l.length * b ≤ 140737488351232 ∧ ∃ k a', m = k + 1 ∧ shO true P k e = some a' ∧ ∀ r ∈ l, a'.OkN r := by
  cases m with
  | zero => simp only [shO, if_true, Option.some.injEq] at hs; subst hs; exact ho.elim
  | succ m =>
    rw [shO_slice h hc hb h0] at hs
    simp only [Option.map_eq_some_iff] at hs
    obtain ⟨a', h1, rfl⟩ := hs
    obtain ⟨l, h2, h3, h4⟩ := ho
    exact ⟨l, h2, h3, m, a', rfl, h1, h4⟩
theorem okStruct {l : List (Nat × Nat × Nat)} (h : flC P t = some l) (ho : offB (P.cellsOf t) 0 l = true) (hs : shO true P m t = some a) (hk : a.OkN x) : ∃ k, m = k + 1 ∧ fsh (shO true P k) l = some a := by
  cases m with
  | zero => simp only [shO, if_true, Option.some.injEq] at hs; subst hs; exact hk.elim
  | succ m => exact ⟨m, rfl, by rw [← shO_struct h ho]; exact hs⟩
theorem okCons {s : TypeId → Option Sh} {o c : Nat} {r : List (Nat × Nat × Nat)} (h : fsh s ((o, c, t) :: r) = some sh) (hk : sh.OkN vs) :
    ∃ a x b y, s t = some a ∧ a.OkN x ∧ fsh s r = some b ∧ b.OkN y ∧ vs = x ++ y := by
  simp only [fsh, Option.bind_eq_some_iff, Option.map_eq_some_iff] at h
  obtain ⟨a, h1, b, h2, rfl⟩ := h
  obtain ⟨x, y, h3, h4, h5⟩ := hk
  exact ⟨a, x, b, y, h1, h4, h2, h5, h3⟩
theorem okNil {s : TypeId → Option Sh} (h : fsh s [] = some sh) (hk : sh.OkN vs) : vs = [] := by
  simp only [fsh, Option.some.injEq] at h
  subst h; exact hk
end
/-- Rows that each stand for something. -/
theorem rows_of {α : Type} {f : α → List AV} {Q : α → Prop} : ∀ {l : List (List AV)}, (∀ r ∈ l, ∃ x, r = f x ∧ Q x) → ∃ xs : List α, l = xs.map f ∧ ∀ x ∈ xs, Q x
  | [], _ => ⟨[], rfl, by simp⟩
  | r :: l, h => by
    obtain ⟨x, h1, h2⟩ := h r List.mem_cons_self
    obtain ⟨xs, h3, h4⟩ := rows_of (l := l) fun r hr => h r (List.mem_cons_of_mem _ hr)
    refine ⟨x :: xs, by rw [h1, h3]; rfl, fun y hy => ?_⟩
    rcases List.mem_cons.1 hy with rfl | hy
    · exact h2
    · exact h4 y hy
end Go.Proofs.YtodiahhfpcdejaaDoor

/- Arguments that are types, values, numbers. -/
namespace Go.Proofs.YtodiahhfpcdejaaDoor
set_option autoImplicit false
set_option linter.unusedSimpArgs false
set_option linter.unusedVariables false
theorem item_fl : flC PG ty_api_Item = some [(0, 1, ty_string), (1, 1, ty_uint64), (2, 1, ty_int), (3, 1, ty_bool), (4, 1, ty_bool)] := by kernel_rfl
theorem type_fl : flC PG ty_api_Type = some [(0, 1, ty_int), (1, 1, ty_string), (2, 1, ty_int), (3, 1, ty_int), (4, 1, ty_int), (5, 1, ty_S_api_Item)] := by kernel_rfl
theorem value_fl : flC PG ty_api_Value = some [(0, 1, ty_int), (1, 1, ty_uint64), (2, 1, ty_string), (3, 1, ty_S_api_Value)] := by kernel_rfl
theorem item_of {m : Nat} {sh : Sh} {vs : List AV} (hs : shO true PG m ty_api_Item = some sh) (hk : sh.OkN vs) : ∃ x : It, vs = itR x ∧ x.nm.length ≤ 140737488351232 ∧ x.num < 18446744073709551616 := by
  obtain ⟨k, rfl, h1⟩ := okStruct item_fl (by kernel_rfl) hs hk
  obtain ⟨_, _, _, _, a1, a2, h2, k2, rfl⟩ := okCons h1 hk
  obtain ⟨_, _, _, _, b1, b2, h3, k3, rfl⟩ := okCons h2 k2
  obtain ⟨_, _, _, _, c1, c2, h4, k4, rfl⟩ := okCons h3 k3
  obtain ⟨_, _, _, _, d1, d2, h5, k5, rfl⟩ := okCons h4 k4
  obtain ⟨_, _, _, _, e1, e2, h6, k6, rfl⟩ := okCons h5 k5
  have := okNil h6 k6; subst this
  obtain ⟨s, rfl, hs⟩ := okStr (by kernel_rfl) a1 a2
  obtain ⟨u, rfl, hu⟩ := okU64 (by kernel_rfl) b1 b2
  obtain ⟨n, rfl, _⟩ := okI64 (by kernel_rfl) c1 c2
  obtain ⟨b, rfl⟩ := okBool (by kernel_rfl) d1 d2
  obtain ⟨b', rfl⟩ := okBool (by kernel_rfl) e1 e2
  exact ⟨⟨s, u, n, b, b'⟩, rfl, hs, hu⟩
theorem type_of {m : Nat} {sh : Sh} {vs : List AV} (hs : shO true PG m ty_api_Type = some sh) (hk : sh.OkN vs) : ∃ t : Ty, vs = tyR t ∧ TyOk t := by
  obtain ⟨k, rfl, h1⟩ := okStruct type_fl (by kernel_rfl) hs hk
  obtain ⟨_, _, _, _, a1, a2, h2, k2, rfl⟩ := okCons h1 hk
  obtain ⟨_, _, _, _, b1, b2, h3, k3, rfl⟩ := okCons h2 k2
  obtain ⟨_, _, _, _, c1, c2, h4, k4, rfl⟩ := okCons h3 k3
  obtain ⟨_, _, _, _, d1, d2, h5, k5, rfl⟩ := okCons h4 k4
  obtain ⟨_, _, _, _, e1, e2, h6, k6, rfl⟩ := okCons h5 k5
  obtain ⟨_, _, _, _, f1, f2, h7, k7, rfl⟩ := okCons h6 k6
  have := okNil h7 k7; subst this
  obtain ⟨kd, rfl, _⟩ := okI64 (by kernel_rfl) a1 a2
  obtain ⟨s, rfl, hs⟩ := okStr (by kernel_rfl) b1 b2
  obtain ⟨bd, rfl, _⟩ := okI64 (by kernel_rfl) c1 c2
  obtain ⟨el, rfl, _⟩ := okI64 (by kernel_rfl) d1 d2
  obtain ⟨tg, rfl, _⟩ := okI64 (by kernel_rfl) e1 e2
  obtain ⟨l, rfl, hl, k1, s1, _, h3', h4'⟩ := okSlice (e := ty_api_Item) (c := 5) (b := 40) (by kernel_rfl) (by kernel_rfl) (by kernel_rfl) (by decide) f1 f2
  obtain ⟨its, rfl, hi⟩ := rows_of (f := itR) fun r hr => item_of h3' (h4' r hr)
  rw [List.length_map] at hl
  exact ⟨⟨kd, s, bd, el, tg, its⟩, rfl, hs, by show its.length ≤ _; omega, fun x hx => (hi x hx).1, fun x hx => (hi x hx).2⟩
theorem value_of : ∀ (m : Nat) {sh : Sh} {vs : List AV} (_ : shO true PG m ty_api_Value = some sh) (_ : sh.OkN vs), ∃ v : Vl, vs = vlR v ∧ vOk v := by
  intro m
  induction m using Nat.strongRecOn with
  | _ m ih =>
  intro sh vs hs hk
  obtain ⟨k, rfl, h1⟩ := okStruct value_fl (by kernel_rfl) hs hk
  obtain ⟨_, _, _, _, a1, a2, h2, k2, rfl⟩ := okCons h1 hk
  obtain ⟨_, _, _, _, b1, b2, h3, k3, rfl⟩ := okCons h2 k2
  obtain ⟨_, _, _, _, c1, c2, h4, k4, rfl⟩ := okCons h3 k3
  obtain ⟨_, _, _, _, d1, d2, h5, k5, rfl⟩ := okCons h4 k4
  have := okNil h5 k5; subst this
  obtain ⟨kd, rfl, _⟩ := okI64 (by kernel_rfl) a1 a2
  obtain ⟨u, rfl, hu⟩ := okU64 (by kernel_rfl) b1 b2
  obtain ⟨s, rfl, hs⟩ := okStr (by kernel_rfl) c1 c2
  obtain ⟨l, rfl, hl, k1, s1, e2, h5', h6'⟩ := okSlice (e := ty_api_Value) (c := 4) (b := 56) (by kernel_rfl) (by kernel_rfl) (by kernel_rfl) (by decide) d1 d2
  obtain ⟨its, rfl, hi⟩ := rows_of (f := vlR) fun r hr => ih k1 (by omega) h5' (h6' r hr)
  rw [List.length_map] at hl
  exact ⟨.mk kd u s its, by rw [vlR, vlRs_map]; rfl, hu, hs, by omega, vOks_of hi⟩
def Shapes.ValS : List Nat := [ty_api_Value, ty_int, ty_uint64, ty_string, ty_S_api_Value]
def Shapes.TypS : List Nat := [ty_S_api_Type, ty_api_Type, ty_int, ty_uint64, ty_string, ty_bool, ty_S_api_Item, ty_api_Item]
theorem value_sh : ∀ n, ∃ sh, shO true PG n ty_api_Value = some sh := fun n => clB_some (S := Shapes.ValS) (by kernel_rfl) n _ (by simp [Shapes.ValS])
theorem types_sh : ∀ n, ∃ sh, shO true PG n ty_S_api_Type = some sh := fun n => clB_some (S := Shapes.TypS) (by kernel_rfl) n _ (by simp [Shapes.TypS])
theorem int_sh : ∀ n, ∃ sh, shO true PG n ty_int = some sh := fun n => clB_some (S := Shapes.TypS) (by kernel_rfl) n _ (by simp [Shapes.TypS])
theorem value_arg {av : AV} (h : ∃ n sh, shO true PG n ty_api_Value = some sh ∧ ArgOk true sh av) : ∃ v : Vl, Nw av (vlA v) ∧ vOk v := by
  obtain ⟨n, sh, h1, h2⟩ := h
  obtain ⟨av', h3, h4⟩ := h2.nonil
  obtain ⟨vs, rfl, h5⟩ := h3
  obtain ⟨x, rfl, h6⟩ := value_of n h1 h5
  exact ⟨x, h4, h6⟩
theorem types_arg {av : AV} (h : ∃ n sh, shO true PG n ty_S_api_Type = some sh ∧ ArgOk false sh av) : ∃ l : List Ty, Nw av (tysA l) ∧ TysOk l := by
  obtain ⟨n, sh, h1, h2⟩ := h
  obtain ⟨av', h3, h4⟩ := h2.nonil
  obtain ⟨l, e, hl, k1, s1, e2, h5', h6'⟩ := okSlice (e := ty_api_Type) (c := 6) (b := 72) (by kernel_rfl) (by kernel_rfl) (by kernel_rfl) (by decide) h1 h3
  obtain ⟨ts, rfl, hi⟩ := rows_of (f := tyR) fun r hr => type_of h5' (h6' r hr)
  rw [List.length_map] at hl
  simp only [List.cons.injEq, and_true] at e
  subst e
  exact ⟨ts, h4, by omega, hi⟩
theorem int_arg {av : AV} (h : ∃ n sh, shO true PG n ty_int = some sh ∧ ArgOk false sh av) : ∃ n : Int, av = .int .i64 n ∧ -9223372036854775808 ≤ n ∧ n ≤ 9223372036854775807 := by
  obtain ⟨n, sh, h1, h2⟩ := h
  obtain ⟨av', h3, h4⟩ := h2.nonil
  obtain ⟨k, e, h5⟩ := okI64 (by kernel_rfl) h1 h3
  simp only [List.cons.injEq, and_true] at e
  subst e
  cases h4 with
  | refl _ => exact ⟨k, rfl, h5⟩
end Go.Proofs.YtodiahhfpcdejaaDoor

/- The laws of values, walked: 'ValueSame'. -/
namespace Go.Proofs.YtodiahhfpcdejaaDoor
set_option autoImplicit false
set_option linter.unusedSimpArgs false
set_option linter.unusedVariables false
attribute [local irreducible] callA callP ACalls
theorem Nw.rowsN (sz : Nat) : Nw (.rows sz []) (.rows sz []) := .refl _
theorem Nw.rowsC {sz : Nat} {r r' : List AV} {l l' : List (List AV)} (h : NwL r r') (k : Nw (.rows sz l) (.rows sz l')) : Nw (.rows sz (r :: l)) (.rows sz (r' :: l')) := by
  have hk : l.length = l'.length ∧ (∀ (i : Nat) r r', l[i]? = some r → l'[i]? = some r' → r.length = r'.length) ∧ ∀ (i : Nat) r r' (j : Nat) v v', l[i]? = some r → l'[i]? = some r' → r[j]? = some v → r'[j]? = some v' → Nw v v' := by
    cases k with
    | refl => exact ⟨rfl, fun i r r' a b => by rw [a] at b; cases b; rfl, fun i r r' j v v' a b c d => by rw [a] at b; cases b; rw [c] at d; cases d; exact .refl _⟩
    | rows _ _ _ a b c => exact ⟨a, b, c⟩
  obtain ⟨a, b, c⟩ := hk
  refine .rows _ _ _ (by simp [a]) (fun i => ?_) (fun i => ?_)
  · cases i with
    | zero => intro x y p q; cases p; cases q; exact h.1
    | succ i => intro x y p q; exact b i x y p q
  · cases i with
    | zero => intro x y j v v' p q; cases p; cases q; exact fun p q => h.2 j v v' p q
    | succ i => intro x y j v v' p q; exact c i x y j v v' p q
theorem nw_val (k : Int) (n : Nat) (t : List UInt8) : NwL [.int .i64 k, .int .u64 (n : Nat), .str t, .nilS] (vlR (.mk k n t [])) := .cons (.refl _) (.cons (.refl _) (.cons (.refl _) (.cons (.nil 4) (.refl _))))
def awV : Vl := .mk 13 0 [] [.mk 3 65535 [] [], .mk 10 0 [105, 116, 39, 115] []]
theorem awV_text : vText awV = [40, 45, 49, 44, 39, 105, 116, 92, 50, 55, 115, 39, 41] := by decide +kernel
theorem awV_ok : vOk awV := by simp [awV, vOk, vOks]
theorem val_awake_spec (H : AH) : ACalls PG broadsheetlaw08_awake.n [] H fun r H' => r = .bool true ∧ H' = H := by
  have h1 := fun H => (vText_spec _ awV (Nat.lt_succ_self _) awV_ok (by simp [awV, vGreat, vGreats])).frame H
  rw [awV_text] at h1
  have q : NwL [.int .i64 13, .int .u64 0, .str [], .rows 4 [[.int .i64 3, .int .u64 65535, .str [], .nilS], [.int .i64 10, .int .u64 0, .str [105, 116, 39, 115], .nilS]]] (vlR awV) := .cons (.refl _) (.cons (.refl _) (.cons (.refl _) (.cons (.rowsC (nw_val 3 65535 []) (.rowsC (nw_val 10 0 [105, 116, 39, 115]) (.rowsN _))) (.refl _))))
  have n1 := fun H => (h1 H).nw (.cons (.agg _ _ q.1 q.2) (.refl _))
  refine ACalls.fz (broadsheetlaw08_awake.of rfl (wpF_start ?_))
  (first | refine au ?_ | exact au0 | fail)
  first | refine callF_eq (n1 _) ?_ | refine callG_eq rfl (n1 _) ?_
  (first | refine au ?_ | exact au0 | fail)
  exact ⟨fz_of, sub_of⟩
theorem ValueSame_spec (a b : Vl) (ha : vOk a) (hb : vOk b) : ACalls PG broadsheetlaw08_ValueSame.n [vlA a, vlA b] [] fun r _ => r = .bool true := by
  have hma := vMuch_spec _ a 0 (Nat.lt_succ_self _) ha (by omega)
  have hmb := vMuch_spec _ b 0 (Nat.lt_succ_self _) hb (by omega)
  have h1 := vSame_spec _ a b (Nat.lt_succ_self _) ⟨ha, hb⟩
  have h2 := r8_Same_spec _ a b (Nat.lt_succ_self _) ⟨ha, hb⟩
  have h3 := vSame_spec _ a a (Nat.lt_succ_self _) ⟨ha, ha⟩
  rw [vEq_refl] at h3
  generalize vMuch a 0 = ma at *
  generalize vMuch b 0 = mb at *
  generalize vEq a b = e at *
  refine ACalls.fzK (broadsheetlaw08_ValueSame.of rfl (wpF_start ?_))
  obtain ⟨k, n, x, vs⟩ := a
  obtain ⟨k2, n2, x2, vs2⟩ := b
  (first | refine au ?_ | exact au0 | fail)
  intro id2 hid2 ht2; have n2 := neAll_of hid2; (try simp only [neAll, neAll_hset] at n2); have m2 := n2; (repeat (obtain ⟨_, m2⟩ := m2))
  (first | refine au ?_ | exact au0 | fail)
  intro id3 hid3 ht3; have n3 := neAll_of hid3; (try simp only [neAll, neAll_hset] at n3); have m3 := n3; (repeat (obtain ⟨_, m3⟩ := m3))
  (first | refine au ?_ | exact au0 | fail)
  first | refine callF_eq (hma.frame _) ?_ | refine callG_eq rfl (hma.frame _) ?_
  cases ma
  rotate_left
  · (first | refine au ?_ | exact au0 | fail)
    first | refine callF_eq (val_awake_spec _) ?_ | refine callG_eq rfl (val_awake_spec _) ?_
    (first | refine au ?_ | exact au0 | fail)
    exact fz_of
  (first | refine au ?_ | exact au0 | fail)
  first | refine callF_eq (hmb.frame _) ?_ | refine callG_eq rfl (hmb.frame _) ?_
  cases mb
  rotate_left
  · (first | refine au ?_ | exact au0 | fail)
    first | refine callF_eq (val_awake_spec _) ?_ | refine callG_eq rfl (val_awake_spec _) ?_
    (first | refine au ?_ | exact au0 | fail)
    exact fz_of
  (first | refine au ?_ | exact au0 | fail)
  first | refine callF_eq (h1.frame _) ?_ | refine callG_eq rfl (h1.frame _) ?_
  (first | refine au ?_ | exact au0 | fail)
  first | refine callF_eq (h2.frame _) ?_ | refine callG_eq rfl (h2.frame _) ?_
  (first | refine au ?_ | exact au0 | fail)
  cases e
  all_goals
    (first | refine au ?_ | exact au0 | fail)
    first | refine callF_eq (h3.frame _) ?_ | refine callG_eq rfl (h3.frame _) ?_
    (first | refine au ?_ | exact au0 | fail)
    first | refine callF_eq (val_awake_spec _) ?_ | refine callG_eq rfl (val_awake_spec _) ?_
    (first | refine au ?_ | exact au0 | fail)
    exact fz_of
theorem ValueSame_row (a0 : AV) (h0 : ∃ n sh, shO true PG n ty_api_Value = some sh ∧ ArgOk true sh a0) (a1 : AV) (h1 : ∃ n sh, shO true PG n ty_api_Value = some sh ∧ ArgOk true sh a1) : ACalls PG broadsheetlaw08_ValueSame.n [a0, a1] [] fun r _ => r = .bool true := by
  obtain ⟨a, q0, ha⟩ := value_arg h0
  obtain ⟨b, q1, hb⟩ := value_arg h1
  exact (ValueSame_spec a b ha hb).nw (.cons q0 (.cons q1 (.refl _)))
end Go.Proofs.YtodiahhfpcdejaaDoor

/- What stands at a place in a value, walked. -/
namespace Go.Proofs.YtodiahhfpcdejaaDoor
set_option autoImplicit false
set_option linter.unusedSimpArgs false
set_option linter.unusedVariables false
attribute [local irreducible] callA callP ACalls
theorem r8_Deep_spec : ∀ (n : Nat) (x : Vl), SizeOf.sizeOf x < n → vGreat x ≤ 1000000 → ACalls PG broadsheetref08_Deep.n [vlA x] [] fun r _ => r = .int .i64 (vDeep x : Nat)
  | 0, x, h, _ => by omega
  | n + 1, .mk kd num tx its, hsz, hle => by
    have hkl := vlRs_len its
    have hlen := vGreats_len its
    have hdg := vDeep_great (.mk kd num tx its)
    simp only [vGreat, vDeep] at hle hdg ⊢
    refine ACalls.fzK (broadsheetref08_Deep.of rfl (wpF_start ?_))
    (first | refine au ?_ | exact au0 | fail)
    intro id1 hid1 ht1; have n1 := neAll_of hid1; (try simp only [neAll, neAll_hset] at n1); have m1 := n1; (repeat (obtain ⟨_, m1⟩ := m1))
    (first | refine au ?_ | exact au0 | fail)
    refine loopM (S := Nat) [(1, some _)] (fun i => [(4, some (.int .i64 (i : Nat))), (3, some (.int .i64 (1 + vDeeps (its.take i) : Nat)))]) (fun _ => _) (fun i => its.length - i) (fun i => i ≤ its.length) 0 (by repeat (first | exact trivial | refine And.intro (Or.inl rfl) ?_ | refine And.intro (Or.inr (Exists.intro _ (And.intro rfl (Fz.refl _)))) ?_ | refine And.intro (Or.inr (Exists.intro _ (And.intro rfl (fz_eq (congrArg (AV.int _) (by omega)))))) ?_ | refine And.intro (Or.inr (Exists.intro _ (And.intro rfl (fz_eq (congrArg (AV.own _ _ _) (by (try dsimp only); (try simp only [List.length_append, List.length_map, List.length_cons, List.length_nil, List.length_take, List.length_set, List.length_replicate]); (try dsimp only); first | done | omega)))))) ?_)) (Sub.refl _) (Nat.zero_le _) (fun i hi => ?_)
    have htl0 := vDeeps_takeLe its i
    (first | refine au ?_ | exact au0 | fail)
    refine bsplit_dec (fun h1 => ?_) (fun h1 => ?_)
    · have hil : i < its.length := by omega
      have hg := vlRs_geti hil
      have hsz' := vlSz hil
      have hmem := List.getElem_mem hil
      have hm := vGreats_mem hmem
      have ht := vDeeps_take its i hil
      have htl := vDeeps_takeLe its (i + 1)
      simp only [Vl.mk.sizeOf_spec] at hsz
      have ih := r8_Deep_spec n its[i] (by omega) (by omega)
      generalize its[i] = y at *
      obtain ⟨k2, n2, t2, l2⟩ := y
      (first | refine au ?_ | exact au0 | fail)
      rw [hg]
      (first | refine au ?_ | exact au0 | fail)
      first | refine callF_eq (ih.frame _) ?_ | refine callG_eq rfl (ih.frame _) ?_
      (first | refine au ?_ | exact au0 | fail)
      refine bsplit_dec (fun c => ?_) (fun c => ?_)
      all_goals
        (first | refine au ?_ | exact au0 | fail)
        exact nextS (S := Nat) (i + 1) (by repeat (first | exact trivial | refine And.intro (Or.inl rfl) ?_ | refine And.intro (Or.inr (Exists.intro _ (And.intro rfl (Fz.refl _)))) ?_ | refine And.intro (Or.inr (Exists.intro _ (And.intro rfl (fz_eq (congrArg (AV.int _) (by omega)))))) ?_ | refine And.intro (Or.inr (Exists.intro _ (And.intro rfl (fz_eq (congrArg (AV.own _ _ _) (by (try dsimp only); (try simp only [List.length_append, List.length_map, List.length_cons, List.length_nil, List.length_take, List.length_set, List.length_replicate]); (try dsimp only); first | done | omega)))))) ?_)) sub_of (by omega) hil
    · have e1 := List.take_of_length_le (show its.length ≤ i from by omega)
      rw [e1]
      (first | refine au ?_ | exact au0 | fail)
      exact fz_of
abbrev intRow (l : List Int) : List (List AV) := l.map fun n => [.int .i64 n]
def atR (o : Option Vl) : AV := match o with
  | some w => .tup [vlA w, .bool true]
  | none => .tup [vlA vl0, .bool false]
theorem atR_no (o : Option Vl) : NoId (atR o) := by
  cases o with
  | none => exact (Cl.tup _ (by intro v hv; simp only [List.mem_cons, List.not_mem_nil, or_false] at hv; rcases hv with rfl | rfl <;> first | exact .agg _ (vlR_cl _) | exact .bool _)).noId
  | some w => exact (Cl.tup _ (by intro v hv; simp only [List.mem_cons, List.not_mem_nil, or_false] at hv; rcases hv with rfl | rfl <;> first | exact .agg _ (vlR_cl _) | exact .bool _)).noId
theorem vAt_cons (v : Vl) (n : Int) (l : List Int) : vAt v (n :: l) = if 0 ≤ n ∧ n < v.its.length then vAt (v.its.getD n.toNat vl0) l else none := rfl
theorem value_At_spec (v : Vl) (l : List Int) (hv : vOk v) (hl : l.length ≤ 140737488355328) : ACalls PG value_At.n [vlA v, .rows 1 (intRow l)] [] fun r _ => r = atR (vAt v l) := by
  refine ACalls.fzK (value_At.of rfl (wpF_start ?_))
  obtain ⟨k, n, x, vs⟩ := v
  (first | refine au ?_ | exact au0 | fail)
  intro id2 hid2 ht2; have n2 := neAll_of hid2; (try simp only [neAll, neAll_hset] at n2); have m2 := n2; (repeat (obtain ⟨_, m2⟩ := m2))
  (first | refine au ?_ | exact au0 | fail)
  intro id4 hid4 ht4; have n4 := neAll_of hid4; (try simp only [neAll, neAll_hset] at n4); have m4 := n4; (repeat (obtain ⟨_, m4⟩ := m4))
  (first | refine au ?_ | exact au0 | fail)
  have hil0 : (intRow l).length = l.length := by simp [intRow]
  refine loopM (S := Nat × Vl) [(2, some _), (4, some _), (8, some _), (9, some _)] (fun s => [(10, some (.int .i64 (s.1 : Nat)))]) (fun s => [(id4, .rows 4 [[.int .i64 0, .int .u64 0, .str [], .nilS]]), (id2, .rows 4 [vlR s.2])]) (fun s => l.length - s.1) (fun s => s.1 ≤ l.length ∧ vOk s.2 ∧ vAt s.2 (l.drop s.1) = vAt (.mk k n x vs) l) (0, .mk k n x vs) (by repeat (first | exact trivial | refine And.intro (Or.inl rfl) ?_ | refine And.intro (Or.inr (Exists.intro _ (And.intro rfl (Fz.refl _)))) ?_ | refine And.intro (Or.inr (Exists.intro _ (And.intro rfl (fz_eq (congrArg (AV.int _) (by omega)))))) ?_ | refine And.intro (Or.inr (Exists.intro _ (And.intro rfl (fz_eq (congrArg (AV.own _ _ _) (by (try dsimp only); (try simp only [List.length_append, List.length_map, List.length_cons, List.length_nil, List.length_take, List.length_set, List.length_replicate]); (try dsimp only); first | done | omega)))))) ?_)) (Sub.refl _) ⟨Nat.zero_le _, hv, rfl⟩ (fun s hs => ?_)
  obtain ⟨i, k2, n2, t2, l2⟩ := s
  obtain ⟨hi, hok, he⟩ := hs
  dsimp only at hi hok he ⊢
  have hkl := vlRs_len l2
  simp only [vOk] at hok
  obtain ⟨ho1, ho2, ho3, ho4⟩ := hok
  rw [← he]
  (first | refine au ?_ | exact au0 | fail)
  refine bsplit_dec (fun h1 => ?_) (fun h1 => ?_)
  · have hil : i < l.length := by omega
    have hg : (intRow l).getD (Int.toNat (i : Nat)) [] = [.int .i64 l[i]] := row_get (f := fun n => [.int .i64 n]) hil
    have hd : l.drop i = l[i] :: l.drop (i + 1) := List.drop_eq_getElem_cons hil
    rw [hd, vAt_cons] at he ⊢
    generalize l[i] = m at *
    (first | refine au ?_ | exact au0 | fail)
    rw [hg]
    (first | refine au ?_ | exact au0 | fail)
    by_cases hm : 0 ≤ m ∧ m < l2.length
    · rw [if_pos (show 0 ≤ m ∧ m < (Vl.mk k2 n2 t2 l2).its.length from hm)] at he ⊢
      obtain ⟨j, rfl⟩ : ∃ j : Nat, m = j := ⟨m.toNat, by omega⟩
      have hjl : j < l2.length := by omega
      have hgj := vlRs_geti hjl
      have hge : (Vl.mk k2 n2 t2 l2).its.getD (Int.toNat (j : Nat)) vl0 = l2[j] := getD_get hjl
      have hmem := List.getElem_mem hjl
      rw [hge] at he ⊢
      have hok := vOks_mem ho4 _ hmem
      generalize l2[j] = y at *
      obtain ⟨k3, n3, t3, l3⟩ := y
      (first | refine au ?_ | exact au0 | fail)
      rw [hgj]
      (first | refine au ?_ | exact au0 | fail)
      exact nextS (S := Nat × Vl) (i + 1, .mk k3 n3 t3 l3) (by repeat (first | exact trivial | refine And.intro (Or.inl rfl) ?_ | refine And.intro (Or.inr (Exists.intro _ (And.intro rfl (Fz.refl _)))) ?_ | refine And.intro (Or.inr (Exists.intro _ (And.intro rfl (fz_eq (congrArg (AV.int _) (by omega)))))) ?_ | refine And.intro (Or.inr (Exists.intro _ (And.intro rfl (fz_eq (congrArg (AV.own _ _ _) (by (try dsimp only); (try simp only [List.length_append, List.length_map, List.length_cons, List.length_nil, List.length_take, List.length_set, List.length_replicate]); (try dsimp only); first | done | omega)))))) ?_)) sub_of (by dsimp only; omega) ⟨hil, hok, rfl⟩
    · rw [if_neg (show ¬ (0 ≤ m ∧ m < (Vl.mk k2 n2 t2 l2).its.length) from hm)]
      (first | refine au ?_ | exact au0 | fail)
      refine bsplit_dec (fun c => ?_) (fun c => ?_)
      all_goals
        (first | refine au ?_ | exact au0 | fail)
        exact fz_of
  · have : i = l.length := by omega
    subst this
    rw [List.drop_length]
    (first | refine au ?_ | exact au0 | fail)
    exact fz_of
theorem r8_At_spec : ∀ (l : List Int) (v : Vl), vOk v → l.length ≤ 140737488355328 → ACalls PG broadsheetref08_At.n [vlA v, .rows 1 (intRow l)] [] fun r _ => r = atR (vAt v l)
  | [], v, hv, hl => by
    refine ACalls.fzK (broadsheetref08_At.of rfl (wpF_start ?_))
    obtain ⟨k, n, x, vs⟩ := v
    (first | refine au ?_ | exact au0 | fail)
    intro id2 hid2 ht2; have n2 := neAll_of hid2; (try simp only [neAll, neAll_hset] at n2); have m2 := n2; (repeat (obtain ⟨_, m2⟩ := m2))
    (first | refine au ?_ | exact au0 | fail)
    intro id4 hid4 ht4; have n4 := neAll_of hid4; (try simp only [neAll, neAll_hset] at n4); have m4 := n4; (repeat (obtain ⟨_, m4⟩ := m4))
    (first | refine au ?_ | exact au0 | fail)
    exact fz_of
  | m :: l, v, hv, hl => by
    refine ACalls.fzK (broadsheetref08_At.of rfl (wpF_start ?_))
    obtain ⟨k, n, x, vs⟩ := v
    have hil0 : (intRow l).length = l.length := by simp [intRow]
    have hkl := vlRs_len vs
    simp only [vOk] at hv
    obtain ⟨ho1, ho2, ho3, ho4⟩ := hv
    rw [vAt_cons]
    (first | refine au ?_ | exact au0 | fail)
    intro id2 hid2 ht2; have n2 := neAll_of hid2; (try simp only [neAll, neAll_hset] at n2); have m2 := n2; (repeat (obtain ⟨_, m2⟩ := m2))
    (first | refine au ?_ | exact au0 | fail)
    intro id4 hid4 ht4; have n4 := neAll_of hid4; (try simp only [neAll, neAll_hset] at n4); have m4 := n4; (repeat (obtain ⟨_, m4⟩ := m4))
    (first | refine au ?_ | exact au0 | fail)
    by_cases hm : 0 ≤ m ∧ m < vs.length
    · rw [if_pos (show 0 ≤ m ∧ m < (Vl.mk k n x vs).its.length from hm)]
      obtain ⟨j, rfl⟩ : ∃ j : Nat, m = j := ⟨m.toNat, by omega⟩
      have hjl : j < vs.length := by omega
      have hgj := vlRs_geti hjl
      have hge : (Vl.mk k n x vs).its.getD (Int.toNat (j : Nat)) vl0 = vs[j] := getD_get hjl
      have hmem := List.getElem_mem hjl
      rw [hge]
      have ih := r8_At_spec l vs[j] (vOks_mem ho4 _ hmem) (by simp at hl; omega)
      generalize vs[j] = y at *
      obtain ⟨k3, n3, t3, l3⟩ := y
      (first | refine au ?_ | exact au0 | fail)
      rw [hgj]
      (first | refine au ?_ | exact au0 | fail)
      rw [show List.drop (Int.toNat 1) (List.take (Int.toNat ((intRow ((j : Int) :: l)).length : Nat)) (intRow ((j : Int) :: l))) = intRow l from by rw [Int.toNat_natCast, List.take_length]; rfl]
      generalize vAt (.mk k3 n3 t3 l3) l = o at *
      refine callG_no (atR_no o) (ih.frame _) ?_
      rcases o with _ | ⟨k5, n5, t5, l5⟩
      all_goals
        unfold atR
        (first | refine au ?_ | exact au0 | fail)
        exact fz_of
    · rw [if_neg (show ¬ (0 ≤ m ∧ m < (Vl.mk k n x vs).its.length) from hm)]
      (first | refine au ?_ | exact au0 | fail)
      refine bsplit_dec (fun c => ?_) (fun c => ?_)
      all_goals
        (first | refine au ?_ | exact au0 | fail)
        exact fz_of
end Go.Proofs.YtodiahhfpcdejaaDoor

/- The reference's datum of a number, walked. -/
namespace Go.Proofs.YtodiahhfpcdejaaDoor
set_option autoImplicit false
set_option linter.unusedSimpArgs false
set_option linter.unusedVariables false
attribute [local irreducible] callA callP ACalls
theorem lowN_lt {b : Nat} (hb : b = 1 ∨ b = 2 ∨ b = 4 ∨ b = 8) (n : Nat) : lowN b n < 2 * hlf b := by
  unfold lowN
  rcases hlf_eq hb with ⟨rfl, e⟩ | ⟨rfl, e⟩ | ⟨rfl, e⟩ | ⟨rfl, e⟩
  all_goals rw [e]; omega
theorem sgnI_hlf {b : Nat} (hb : b = 1 ∨ b = 2 ∨ b = 4 ∨ b = 8) (n : Nat) : sgnI b n = if lowN b n < hlf b then (lowN b n : Int) else (lowN b n : Int) - 2 * hlf b := by
  unfold sgnI
  rcases hlf_eq hb with ⟨rfl, e⟩ | ⟨rfl, e⟩ | ⟨rfl, e⟩ | ⟨rfl, e⟩
  all_goals rw [e]; rfl
theorem r1_Sign_spec (b n : Nat) (hb : b = 1 ∨ b = 2 ∨ b = 4 ∨ b = 8) (hn : n < 18446744073709551616) (H : AH) : ACalls PG broadsheetref01_Sign.n [.int .u64 (n : Nat), .int .i64 (b : Nat)] H fun r H' => r = .int .i64 (sgnI b n) ∧ H' = H := by
  have hl := lowN_lt hb n
  rw [sgnI_hlf hb]
  have hh : 1 ≤ hlf b ∧ hlf b ≤ 9223372036854775808 := by rcases hlf_eq hb with ⟨rfl, e⟩ | ⟨rfl, e⟩ | ⟨rfl, e⟩ | ⟨rfl, e⟩ <;> rw [e] <;> omega
  refine ACalls.fz (broadsheetref01_Sign.of rfl (wpF_start ?_))
  (first | refine au ?_ | exact au0 | fail)
  first | refine callF_eq (r1_Sized_spec _ _) ?_ | refine callG_eq rfl (r1_Sized_spec _ _) ?_
  rw [decide_eq_true (by omega)]
  (first | refine au ?_ | exact au0 | fail)
  first | refine callF_eq (r1_Low_spec b n hb hn _) ?_ | refine callG_eq rfl (r1_Low_spec b n hb hn _) ?_
  (first | refine au ?_ | exact au0 | fail)
  first | refine callF_eq (r1_half_spec b (by omega) (by omega) _) ?_ | refine callG_eq rfl (r1_half_spec b (by omega) (by omega) _) ?_
  generalize lowN b n = m at *
  generalize hlf b = h at *
  (first | refine au ?_ | exact au0 | fail)
  refine bsplit_dec (fun c => ?_) (fun c => ?_)
  · rw [if_pos (by omega)]
    (first | refine au ?_ | exact au0 | fail)
    exact ⟨fz_of, sub_of⟩
  · rw [if_neg (by omega)]
    (first | refine au ?_ | exact au0 | fail)
    refine ⟨fz_eq (congrArg (AV.int .i64) (by omega)), sub_of⟩
theorem r5_Datum_spec (k : Int) (n : Nat) (hn : n < 18446744073709551616) (H : AH) : ACalls PG broadsheetref05_Datum.n [.int .i64 k, .int .u64 (n : Nat)] H fun r H' => r = datA (datK k n) ∧ H' = H := by
  refine ACalls.fz (broadsheetref05_Datum.of rfl (wpF_start ?_))
  (first | refine au ?_ | exact au0 | fail)
  intro id4 hid4 ht4; have n4 := neAll_of hid4; (try simp only [neAll, neAll_hset] at n4); have m4 := n4; (repeat (obtain ⟨_, m4⟩ := m4))
  (first | refine au ?_ | exact au0 | fail)
  first | refine callF_eq (r5_Number_spec _ _) ?_ | refine callG_eq rfl (r5_Number_spec _ _) ?_
  unfold datK
  cases h : isNum k with
  | false =>
    (first | refine au ?_ | exact au0 | fail)
    exact ⟨fz_of, sub_of⟩
  | true =>
    have e0 : ¬ (true = false) := by decide
    by_cases h1 : k = 1
    · subst h1
      simp only [if_neg e0, if_pos rfl]
      (first | refine au ?_ | exact au0 | fail)
      exact ⟨fz_of, sub_of⟩
    · simp only [if_neg e0, if_neg h1]
      (first | refine au ?_ | exact au0 | fail)
      first | refine callF_eq (r5_Signed_spec _ _) ?_ | refine callG_eq rfl (r5_Signed_spec _ _) ?_
      have hu : upK k n = if sgK k = true then wide (sgnI (szK k) n) else lowK k n := rfl
      cases hs : sgK k with
      | false =>
        rw [hs, if_neg (by decide)] at hu
        rw [if_neg (fun q => by cases q.1), hu]
        (first | refine au ?_ | exact au0 | fail)
        first | refine callF_eq (r5_Low_spec k n hn _) ?_ | refine callG_eq rfl (r5_Low_spec k n hn _) ?_
        (first | refine au ?_ | exact au0 | fail)
        exact ⟨fz_of, sub_of⟩
      | true =>
        rw [hs, if_pos rfl] at hu
        have hb := szK_num h
        have hr := sgnI_range hb n
        (first | refine au ?_ | exact au0 | fail)
        first | refine callF_eq (r5_Size_spec _ _) ?_ | refine callG_eq rfl (r5_Size_spec _ _) ?_
        (first | refine au ?_ | exact au0 | fail)
        first | refine callF_eq (r1_Sign_spec (szK k) n hb hn _) ?_ | refine callG_eq rfl (r1_Sign_spec (szK k) n hb hn _) ?_
        unfold wide at hu
        generalize sgnI (szK k) n = m at *
        (first | refine au ?_ | exact au0 | fail)
        refine bsplit_dec (fun c => ?_) (fun c => ?_)
        · rw [if_pos ⟨rfl, c⟩]
          (first | refine au ?_ | exact au0 | fail)
          refine rng_id (n := -(m + 1)) (by rw [show IntKind.i64.wrap (0 - (m + 1)) = -(m + 1) from (wrap_id (by omega) (by omega)).trans (by omega), wrap_u64]; omega) ?_
          (first | refine au ?_ | exact au0 | fail)
          refine ⟨fz_eq ?_, sub_of⟩
          have : -(m + 1) + 1 = (((-m).toNat : Nat) : Int) := by omega
          simp only [datA, datR, ← this]
          rfl
        · rw [if_neg (fun q => c q.2), hu]
          (first | refine au ?_ | exact au0 | fail)
          refine ⟨fz_eq ?_, sub_of⟩
          have : (((m % 18446744073709551616).toNat : Nat) : Int) = m := by omega
          simp only [datA, datR, this]
          rfl
end Go.Proofs.YtodiahhfpcdejaaDoor

/- The reference's texts of values, walked. -/
namespace Go.Proofs.YtodiahhfpcdejaaDoor
set_option autoImplicit false
set_option linter.unusedSimpArgs false
set_option linter.unusedVariables false
attribute [local irreducible] callA callP ACalls
theorem r1_Byte_spec (n : Nat) (hn : n < 256) (H : AH) : ACalls PG broadsheetref01_Byte.n [.int .i64 (n : Nat)] H fun r H' => r = .str [UInt8.ofNat n] ∧ H' = H := by
  refine ACalls.fz (broadsheetref01_Byte.of rfl (wpF_start ?_))
  (first | refine au ?_ | exact au0 | fail)
  refine ⟨[[.int .u8 (n : Nat)]], [UInt8.ofNat n], rfl, ?_, ?_⟩
  · unfold bytesA
    rw [if_pos (by omega)]
    rfl
  (first | refine au ?_ | exact au0 | fail)
  exact ⟨fz_of, sub_of⟩
theorem dec_step (n : Nat) : Lib.decDigits n = (if n < 10 then [] else Lib.decDigits (n / 10)) ++ [UInt8.ofNat (48 + n % 10)] := by
  rw [Lib.decDigits]
  by_cases h : n < 10
  · rw [dif_pos h, if_pos h, Nat.mod_eq_of_lt h]; rfl
  · rw [dif_neg h, if_neg h]
theorem Digits_spec (n : Nat) (hn : n < 18446744073709551616) (H : AH) : ACalls PG broadsheetref08_Digits.n [.int .u64 (n : Nat)] H fun r H' => r = .str (dec n) ∧ H' = H := by
  rw [dec_eq hn]
  have hdl : (Lib.decDigits n).length ≤ 20 := by rw [← dec_eq hn]; exact dec_len n
  refine ACalls.fz (broadsheetref08_Digits.of rfl (wpF_start ?_))
  (first | refine au ?_ | exact au0 | fail)
  refine loopM (S := Nat × List UInt8) [] (fun s => [(0, some (.int .u64 (s.1 : Nat))), (3, some (.str s.2))]) (fun _ => H) (fun s => s.1) (fun s => s.1 ≤ n ∧ Lib.decDigits s.1 ++ s.2 = Lib.decDigits n) (n, []) (by repeat (first | exact trivial | refine And.intro (Or.inl rfl) ?_ | refine And.intro (Or.inr (Exists.intro _ (And.intro rfl (Fz.refl _)))) ?_ | refine And.intro (Or.inr (Exists.intro _ (And.intro rfl (fz_eq (congrArg (AV.int _) (by omega)))))) ?_ | refine And.intro (Or.inr (Exists.intro _ (And.intro rfl (fz_eq (congrArg (AV.own _ _ _) (by (try dsimp only); (try simp only [List.length_append, List.length_map, List.length_cons, List.length_nil, List.length_take, List.length_set, List.length_replicate]); (try dsimp only); first | done | omega)))))) ?_)) (Sub.refl _) ⟨Nat.le_refl _, by simp⟩ (fun s hs => ?_)
  obtain ⟨m, s⟩ := s
  obtain ⟨hm, hs⟩ := hs
  dsimp only at hm hs ⊢
  have hsl : s.length ≤ 20 := by rw [← hs, List.length_append] at hdl; omega
  rw [dec_step] at hs
  (first | refine au ?_ | exact au0 | fail)
  rw [show (48 : Int) + (m : Int) % 10 = ((48 + m % 10 : Nat) : Int) from by omega]
  first | refine callF_eq (r1_Byte_spec (48 + m % 10) (by omega) _) ?_ | refine callG_eq rfl (r1_Byte_spec (48 + m % 10) (by omega) _) ?_
  (first | refine au ?_ | exact au0 | fail)
  refine bsplit_dec (fun c => ?_) (fun c => ?_)
  · rw [if_pos (by omega), List.nil_append] at hs
    (first | refine au ?_ | exact au0 | fail)
    rw [hs]
    exact ⟨fz_of, sub_of⟩
  · rw [if_neg (by omega), List.append_assoc] at hs
    (first | refine au ?_ | exact au0 | fail)
    exact nextS (S := Nat × List UInt8) (m / 10, [UInt8.ofNat (48 + m % 10)] ++ s) (by repeat (first | exact trivial | refine And.intro (Or.inl rfl) ?_ | refine And.intro (Or.inr (Exists.intro _ (And.intro rfl (Fz.refl _)))) ?_ | refine And.intro (Or.inr (Exists.intro _ (And.intro rfl (fz_eq (congrArg (AV.int _) (by omega)))))) ?_ | refine And.intro (Or.inr (Exists.intro _ (And.intro rfl (fz_eq (congrArg (AV.own _ _ _) (by (try dsimp only); (try simp only [List.length_append, List.length_map, List.length_cons, List.length_nil, List.length_take, List.length_set, List.length_replicate]); (try dsimp only); first | done | omega)))))) ?_)) (Sub.refl _) (by dsimp only; omega) ⟨by dsimp only; omega, hs⟩
theorem figure_spec (n : Nat) (hn : n < 16) (H : AH) : ACalls PG broadsheetref08_figure.n [.int .i64 (n : Nat)] H fun r H' => r = .str [figH n] ∧ H' = H := by
  refine ACalls.fz (broadsheetref08_figure.of rfl (wpF_start ?_))
  unfold figH
  (first | refine au ?_ | exact au0 | fail)
  refine bsplit_dec (fun c => ?_) (fun c => ?_)
  · rw [if_pos (by omega)]
    (first | refine au ?_ | exact au0 | fail)
    rw [show (48 : Int) + (n : Int) = ((48 + n : Nat) : Int) from by omega]
    first | refine callF_eq (r1_Byte_spec (48 + n) (by omega) _) ?_ | refine callG_eq rfl (r1_Byte_spec (48 + n) (by omega) _) ?_
    (first | refine au ?_ | exact au0 | fail)
    exact ⟨fz_of, sub_of⟩
  · rw [if_neg (by omega)]
    (first | refine au ?_ | exact au0 | fail)
    rw [show (97 : Int) + (n : Int) - 10 = ((87 + n : Nat) : Int) from by omega]
    first | refine callF_eq (r1_Byte_spec (87 + n) (by omega) _) ?_ | refine callG_eq rfl (r1_Byte_spec (87 + n) (by omega) _) ?_
    (first | refine au ?_ | exact au0 | fail)
    exact ⟨fz_of, sub_of⟩
theorem Hex_spec (c : UInt8) (H : AH) : ACalls PG broadsheetref08_Hex.n [.int .u8 (c.toNat : Int)] H fun r H' => r = .str [figH (c.toNat / 16), figH (c.toNat % 16)] ∧ H' = H := by
  have hc := c.toNat_lt
  refine ACalls.fz (broadsheetref08_Hex.of rfl (wpF_start ?_))
  (first | refine au ?_ | exact au0 | fail)
  rw [show ((c.toNat : Nat) : Int) / 16 = ((c.toNat / 16 : Nat) : Int) from by omega]
  first | refine callF_eq (figure_spec (c.toNat / 16) (by omega) _) ?_ | refine callG_eq rfl (figure_spec (c.toNat / 16) (by omega) _) ?_
  (first | refine au ?_ | exact au0 | fail)
  rw [show Int.tmod ((c.toNat : Nat) : Int) 16 = ((c.toNat % 16 : Nat) : Int) from rfl]
  first | refine callF_eq (figure_spec (c.toNat % 16) (by omega) _) ?_ | refine callG_eq rfl (figure_spec (c.toNat % 16) (by omega) _) ?_
  (first | refine au ?_ | exact au0 | fail)
  exact ⟨fz_of, sub_of⟩
theorem rquoted_spec (t : List UInt8) (ht : t.length ≤ 1000000) (H : AH) : ACalls PG broadsheetref08_quoted.n [.str t] H fun r H' => r = .str (quo t) ∧ H' = H := by
  have hlq := quoF_len t
  refine ACalls.fz (broadsheetref08_quoted.of rfl (wpF_start ?_))
  (first | refine au ?_ | exact au0 | fail)
  refine loopM (S := Nat) [(0, some _)] (fun i => [(4, some (.int .i64 (i : Nat))), (3, some (.str (39 :: (t.take i).flatMap quoC)))]) (fun _ => H) (fun i => t.length - i) (fun i => i ≤ t.length) 0 (by repeat (first | exact trivial | refine And.intro (Or.inl rfl) ?_ | refine And.intro (Or.inr (Exists.intro _ (And.intro rfl (Fz.refl _)))) ?_ | refine And.intro (Or.inr (Exists.intro _ (And.intro rfl (fz_eq (congrArg (AV.int _) (by omega)))))) ?_ | refine And.intro (Or.inr (Exists.intro _ (And.intro rfl (fz_eq (congrArg (AV.own _ _ _) (by (try dsimp only); (try simp only [List.length_append, List.length_map, List.length_cons, List.length_nil, List.length_take, List.length_set, List.length_replicate]); (try dsimp only); first | done | omega)))))) ?_)) (Sub.refl _) (Nat.zero_le _) (fun i hi => ?_)
  (first | refine au ?_ | exact au0 | fail)
  refine bsplit_dec (fun h1 => ?_) (fun h1 => ?_)
  · have hil : i < t.length := by omega
    have hget : t.getD (Int.toNat (i : Nat)) 0 = t[i] := by simp [hil]
    have htk : (t.take (i + 1)).flatMap quoC = (t.take i).flatMap quoC ++ quoC t[i] := by rw [List.take_succ_eq_append_getElem hil, List.flatMap_append]; simp [List.flatMap]
    have hsl : List.drop (Int.toNat (i : Nat)) (List.take (Int.toNat ((i : Nat) + 1)) t) = [t[i]] := by
      rw [show Int.toNat ((i : Nat) + 1) = i + 1 from by omega, show Int.toNat (i : Nat) = i from rfl, List.take_succ_eq_append_getElem hil, List.drop_append_of_le_length (by simp; omega)]
      simp
    have hln := quoF_len (t.take i)
    have hlt : (t.take i).length ≤ 1000000 := by simp; omega
    have hcl := (t[i]).toNat_lt
    generalize t[i] = c at *
    have hget2 : (t.getD (Int.toNat (i : Nat)) 0).toNat = c.toNat := by rw [hget]
    by_cases hq : c.toNat < 32 ∨ 126 < c.toNat ∨ c.toNat = 39 ∨ c.toNat = 92
    · have hqc := quoC_q hq
      rcases hq with hq | hq | hq | hq
      all_goals
        (first | refine au ?_ | exact au0 | fail)
        first | refine callF_eq (r1_Byte_spec 92 (by omega) _) ?_ | refine callG_eq rfl (r1_Byte_spec 92 (by omega) _) ?_
        (first | refine au ?_ | exact au0 | fail)
        rw [hget]
        first | refine callF_eq (Hex_spec c _) ?_ | refine callG_eq rfl (Hex_spec c _) ?_
        (first | refine au ?_ | exact au0 | fail)
        exact nextS (S := Nat) (i + 1) (by rw [htk, hqc]; exact (by repeat (first | exact trivial | refine And.intro (Or.inl rfl) ?_ | refine And.intro (Or.inr (Exists.intro _ (And.intro rfl (Fz.refl _)))) ?_ | refine And.intro (Or.inr (Exists.intro _ (And.intro rfl (fz_eq (congrArg (AV.int _) (by omega)))))) ?_ | refine And.intro (Or.inr (Exists.intro _ (And.intro rfl (fz_eq (congrArg (AV.own _ _ _) (by (try dsimp only); (try simp only [List.length_append, List.length_map, List.length_cons, List.length_nil, List.length_take, List.length_set, List.length_replicate]); (try dsimp only); first | done | omega)))))) ?_))) (Sub.refl _) (by omega) hil
    · have hqc := quoC_n hq
      (first | refine au ?_ | exact au0 | fail)
      rw [hsl]
      (first | refine au ?_ | exact au0 | fail)
      exact nextS (S := Nat) (i + 1) (by rw [htk, hqc]; exact (by repeat (first | exact trivial | refine And.intro (Or.inl rfl) ?_ | refine And.intro (Or.inr (Exists.intro _ (And.intro rfl (Fz.refl _)))) ?_ | refine And.intro (Or.inr (Exists.intro _ (And.intro rfl (fz_eq (congrArg (AV.int _) (by omega)))))) ?_ | refine And.intro (Or.inr (Exists.intro _ (And.intro rfl (fz_eq (congrArg (AV.own _ _ _) (by (try dsimp only); (try simp only [List.length_append, List.length_map, List.length_cons, List.length_nil, List.length_take, List.length_set, List.length_replicate]); (try dsimp only); first | done | omega)))))) ?_))) (Sub.refl _) (by omega) hil
  · obtain rfl : i = t.length := by omega
    rw [List.take_length]
    (first | refine au ?_ | exact au0 | fail)
    refine ⟨fz_eq (congrArg AV.str (by unfold quo; rfl)), sub_of⟩
theorem r8_Text_spec : ∀ (n : Nat) (x : Vl), SizeOf.sizeOf x < n → vOk x → vGreat x ≤ 100000 → ACalls PG broadsheetref08_Text.n [vlA x] [] fun r _ => r = .str (vText x)
  | 0, x, h, _, _ => by omega
  | n + 1, .mk kd num tx its, hsz, hok, hle => by
    have hkl := vlRs_len its
    have hlen := vGreats_len its
    have hnl := dec_len num
    simp only [vOk] at hok
    obtain ⟨hnum, htx, hlen3, hks⟩ := hok
    simp only [vGreat] at hle
    simp only [vText]
    refine ACalls.fzK (broadsheetref08_Text.of rfl (wpF_start ?_))
    (first | refine au ?_ | exact au0 | fail)
    intro id1 hid1 ht1; have n1 := neAll_of hid1; (try simp only [neAll, neAll_hset] at n1); have m1 := n1; (repeat (obtain ⟨_, m1⟩ := m1))
    (first | refine au ?_ | exact au0 | fail)
    first | refine callF_eq (r5_Number_spec _ _) ?_ | refine callG_eq rfl (r5_Number_spec _ _) ?_
    cases hk : isNum kd with
    | true =>
      rw [if_pos rfl]
      unfold numText
      (first | refine au ?_ | exact au0 | fail)
      first | refine callF_eq (r5_Datum_spec kd num hnum _) ?_ | refine callG_eq rfl (r5_Datum_spec kd num hnum _) ?_
      unfold datK
      have e0 : ¬ (isNum kd = false) := by rw [hk]; decide
      by_cases h1 : kd = 1
      · simp only [if_neg e0, if_pos h1]
        (first | refine au ?_ | exact au0 | fail)
        intro id3 hid3 ht3; have n3 := neAll_of hid3; (try simp only [neAll, neAll_hset] at n3); have m3 := n3; (repeat (obtain ⟨_, m3⟩ := m3))
        (first | refine au ?_ | exact au0 | fail)
        refine bsplit_dec (fun c => ?_) (fun c => ?_)
        · dsimp only at c
          rw [if_pos (by omega)]
          (first | refine au ?_ | exact au0 | fail)
          exact fz_of
        · dsimp only at c
          rw [if_neg (by omega)]
          (first | refine au ?_ | exact au0 | fail)
          exact fz_of
      · simp only [if_neg e0, if_neg h1]
        by_cases h2 : sgK kd = true ∧ sgnI (szK kd) num < 0
        · simp only [if_pos h2]
          have hr := sgnI_range (szK_num hk) num
          have hdl := dec_len (-(sgnI (szK kd) num)).toNat
          (first | refine au ?_ | exact au0 | fail)
          intro id3 hid3 ht3; have n3 := neAll_of hid3; (try simp only [neAll, neAll_hset] at n3); have m3 := n3; (repeat (obtain ⟨_, m3⟩ := m3))
          (first | refine au ?_ | exact au0 | fail)
          first | refine callF_eq (Digits_spec (-(sgnI (szK kd) num)).toNat (by omega) _) ?_ | refine callG_eq rfl (Digits_spec (-(sgnI (szK kd) num)).toNat (by omega) _) ?_
          (first | refine au ?_ | exact au0 | fail)
          exact fz_of
        · simp only [if_neg h2]
          have hu := upK_lt kd num
          (first | refine au ?_ | exact au0 | fail)
          intro id3 hid3 ht3; have n3 := neAll_of hid3; (try simp only [neAll, neAll_hset] at n3); have m3 := n3; (repeat (obtain ⟨_, m3⟩ := m3))
          (first | refine au ?_ | exact au0 | fail)
          first | refine callF_eq (Digits_spec _ hu _) ?_ | refine callG_eq rfl (Digits_spec _ hu _) ?_
          (first | refine au ?_ | exact au0 | fail)
          exact fz_of
    | false =>
      rw [if_neg (by decide)]
      (first | refine au ?_ | exact au0 | fail)
      refine loopM (S := Nat) [(1, some _)] (fun i => [(5, some (.int .i64 (i : Nat))), (4, some (.str (accT kd (its.take i))))]) (fun _ => _) (fun i => its.length - i) (fun i => i ≤ its.length) 0 (by simp only [List.take_zero, show accT kd [] = [] from by unfold accT; split <;> rfl]; exact (by repeat (first | exact trivial | refine And.intro (Or.inl rfl) ?_ | refine And.intro (Or.inr (Exists.intro _ (And.intro rfl (Fz.refl _)))) ?_ | refine And.intro (Or.inr (Exists.intro _ (And.intro rfl (fz_eq (congrArg (AV.int _) (by omega)))))) ?_ | refine And.intro (Or.inr (Exists.intro _ (And.intro rfl (fz_eq (congrArg (AV.own _ _ _) (by (try dsimp only); (try simp only [List.length_append, List.length_map, List.length_cons, List.length_nil, List.length_take, List.length_set, List.length_replicate]); (try dsimp only); first | done | omega)))))) ?_))) (Sub.refl _) (Nat.zero_le _) (fun i hi => ?_)
      have hal := accT_len kd (its.take i)
      have htl := vGreats_takeLe its i
      (first | refine au ?_ | exact au0 | fail)
      refine bsplit_dec (fun h1 => ?_) (fun h1 => ?_)
      · have hil : i < its.length := by omega
        have hg := vlRs_geti hil
        have hsz' := vlSz hil
        have hmem := List.getElem_mem hil
        have ht := accT_step kd its i hil
        have hyl := vText_len its[i]
        have hgm := vGreats_mem hmem
        simp only [Vl.mk.sizeOf_spec] at hsz
        have ih := r8_Text_spec n its[i] (by omega) (vOks_mem hks _ hmem) (by omega)
        generalize its[i] = y at *
        obtain ⟨k2, n2, t2, l2⟩ := y
        by_cases c14 : kd = 14
        · rw [if_pos c14] at ht
          (first | refine au ?_ | exact au0 | fail)
          rw [hg]
          (first | refine au ?_ | exact au0 | fail)
          first | refine callF_eq (ih.frame _) ?_ | refine callG_eq rfl (ih.frame _) ?_
          (first | refine au ?_ | exact au0 | fail)
          exact nextS (S := Nat) (i + 1) (by rw [ht, ← List.append_assoc]; exact (by repeat (first | exact trivial | refine And.intro (Or.inl rfl) ?_ | refine And.intro (Or.inr (Exists.intro _ (And.intro rfl (Fz.refl _)))) ?_ | refine And.intro (Or.inr (Exists.intro _ (And.intro rfl (fz_eq (congrArg (AV.int _) (by omega)))))) ?_ | refine And.intro (Or.inr (Exists.intro _ (And.intro rfl (fz_eq (congrArg (AV.own _ _ _) (by (try dsimp only); (try simp only [List.length_append, List.length_map, List.length_cons, List.length_nil, List.length_take, List.length_set, List.length_replicate]); (try dsimp only); first | done | omega)))))) ?_))) sub_of (by omega) hil
        · rw [if_neg c14] at ht
          by_cases ci : 0 < i
          · rw [if_pos ci] at ht
            (first | refine au ?_ | exact au0 | fail)
            rw [hg]
            (first | refine au ?_ | exact au0 | fail)
            first | refine callF_eq (ih.frame _) ?_ | refine callG_eq rfl (ih.frame _) ?_
            (first | refine au ?_ | exact au0 | fail)
            exact nextS (S := Nat) (i + 1) (by rw [ht, ← List.append_assoc]; exact (by repeat (first | exact trivial | refine And.intro (Or.inl rfl) ?_ | refine And.intro (Or.inr (Exists.intro _ (And.intro rfl (Fz.refl _)))) ?_ | refine And.intro (Or.inr (Exists.intro _ (And.intro rfl (fz_eq (congrArg (AV.int _) (by omega)))))) ?_ | refine And.intro (Or.inr (Exists.intro _ (And.intro rfl (fz_eq (congrArg (AV.own _ _ _) (by (try dsimp only); (try simp only [List.length_append, List.length_map, List.length_cons, List.length_nil, List.length_take, List.length_set, List.length_replicate]); (try dsimp only); first | done | omega)))))) ?_))) sub_of (by omega) hil
          · rw [if_neg ci] at ht
            (first | refine au ?_ | exact au0 | fail)
            rw [hg]
            (first | refine au ?_ | exact au0 | fail)
            first | refine callF_eq (ih.frame _) ?_ | refine callG_eq rfl (ih.frame _) ?_
            (first | refine au ?_ | exact au0 | fail)
            exact nextS (S := Nat) (i + 1) (by rw [ht, List.nil_append]; exact (by repeat (first | exact trivial | refine And.intro (Or.inl rfl) ?_ | refine And.intro (Or.inr (Exists.intro _ (And.intro rfl (Fz.refl _)))) ?_ | refine And.intro (Or.inr (Exists.intro _ (And.intro rfl (fz_eq (congrArg (AV.int _) (by omega)))))) ?_ | refine And.intro (Or.inr (Exists.intro _ (And.intro rfl (fz_eq (congrArg (AV.own _ _ _) (by (try dsimp only); (try simp only [List.length_append, List.length_map, List.length_cons, List.length_nil, List.length_take, List.length_set, List.length_replicate]); (try dsimp only); first | done | omega)))))) ?_))) sub_of (by omega) hil
      · rw [List.take_of_length_le (show its.length ≤ i from by omega)] at hal ⊢
        unfold accT at hal ⊢
        by_cases c1 : kd = 10
        · rw [if_pos c1]
          (first | refine au ?_ | exact au0 | fail)
          first | refine callF_eq (rquoted_spec tx (by omega) _) ?_ | refine callG_eq rfl (rquoted_spec tx (by omega) _) ?_
          (first | refine au ?_ | exact au0 | fail)
          exact fz_of
        rw [if_neg c1]
        by_cases c2 : kd = 11 ∨ kd = 12
        · rw [if_pos c2]
          rw [if_neg (show kd ≠ 14 by omega)] at hal ⊢
          rcases c2 with c2 | c2
          all_goals
            (first | refine au ?_ | exact au0 | fail)
            exact fz_of
        rw [if_neg c2]
        have c2a : kd ≠ 11 := fun e => c2 (.inl e)
        have c2b : kd ≠ 12 := fun e => c2 (.inr e)
        by_cases c3 : kd = 13
        · rw [if_pos c3]
          rw [if_neg (show kd ≠ 14 by omega)] at hal ⊢
          (first | refine au ?_ | exact au0 | fail)
          exact fz_of
        rw [if_neg c3]
        by_cases c4 : kd = 14
        · rw [if_pos c4]
          rw [if_pos c4] at hal ⊢
          (first | refine au ?_ | exact au0 | fail)
          first | refine callF_eq (Digits_spec num hnum _) ?_ | refine callG_eq rfl (Digits_spec num hnum _) ?_
          (first | refine au ?_ | exact au0 | fail)
          exact fz_of
        rw [if_neg c4]
        (first | refine au ?_ | exact au0 | fail)
        exact fz_of
end Go.Proofs.YtodiahhfpcdejaaDoor

/- The law 'ValueTells', walked. -/
namespace Go.Proofs.YtodiahhfpcdejaaDoor
set_option autoImplicit false
set_option linter.unusedSimpArgs false
set_option linter.unusedVariables false
attribute [local irreducible] callA callP ACalls
theorem vAt_ok : ∀ (l : List Int) (v w : Vl), vOk v → vAt v l = some w → vOk w
  | [], v, w, hv, h => by simp only [vAt, Option.some.injEq] at h; subst h; exact hv
  | n :: l, v, w, hv, h => by
    rw [vAt_cons] at h
    split at h
    · rename_i hn
      obtain ⟨k, m, t, its⟩ := v
      simp only [vOk] at hv
      obtain ⟨_, _, _, hks⟩ := hv
      have hnl : n.toNat < its.length := by have := hn.2; simp only [Vl.its] at this; omega
      refine vAt_ok l _ w ?_ h
      show vOk (its.getD n.toNat vl0)
      rw [getD_get hnl]
      exact vOks_mem hks _ (List.getElem_mem hnl)
    · cases h
def vAtV (o : Option Vl) : Vl := o.getD vl0
def vAtB (o : Option Vl) : Bool := o.isSome
theorem atR_eq (o : Option Vl) : atR o = .tup [vlA (vAtV o), .bool (vAtB o)] := by cases o <;> rfl
theorem ValueTells_spec (v : Vl) (l : List Int) (hv : vOk v) (hl : l.length ≤ 140737488355328) : ACalls PG broadsheetlaw08_ValueTells.n [vlA v, .rows 1 (intRow l)] [] fun r _ => r = .bool true := by
  have hm := vMuch_spec _ v 0 (Nat.lt_succ_self _) hv (by omega)
  have hgr := @vMuch_great v 0
  have a1 := value_At_spec v l hv hl
  have a2 := r8_At_spec l v hv hl
  have hok := vAt_ok l v
  rw [atR_eq] at a1 a2
  have hox : vOk (vAtV (vAt v l)) := by
    cases h : vAt v l with
    | none => simp [vAtV, vOk, vOks]
    | some w => exact hok w hv h
  have hs := r8_Same_spec _ (vAtV (vAt v l)) (vAtV (vAt v l)) (Nat.lt_succ_self _) ⟨hox, hox⟩
  rw [vEq_refl] at hs
  have hd := vDeep_spec _ v (Nat.lt_succ_self _)
  have hd2 := r8_Deep_spec _ v (Nat.lt_succ_self _)
  have hg := vGreat_spec _ v (Nat.lt_succ_self _)
  have hg2 := r8_Great_spec _ v (Nat.lt_succ_self _)
  have ht := vText_spec _ v (Nat.lt_succ_self _) hv
  have hu2 := r8_Text_spec _ v (Nat.lt_succ_self _) hv
  generalize vAtV (vAt v l) = w at *
  generalize vAtB (vAt v l) = b at *
  generalize vMuch v 0 = mu at *
  generalize vText v = tx at *
  generalize vDeep v = dp at *
  generalize vGreat v = gr at *
  refine ACalls.fzK (broadsheetlaw08_ValueTells.of rfl (wpF_start ?_))
  obtain ⟨k, n, x, vs⟩ := v
  obtain ⟨kw, nw, xw, vw⟩ := w
  (first | refine au ?_ | exact au0 | fail)
  intro id2 hid2 ht2; have n2 := neAll_of hid2; (try simp only [neAll, neAll_hset] at n2); have m2 := n2; (repeat (obtain ⟨_, m2⟩ := m2))
  (first | refine au ?_ | exact au0 | fail)
  first | refine callF_eq (hm.frame _) ?_ | refine callG_eq rfl (hm.frame _) ?_
  cases mu
  rotate_left
  · (first | refine au ?_ | exact au0 | fail)
    first | refine callF_eq (val_awake_spec _) ?_ | refine callG_eq rfl (val_awake_spec _) ?_
    (first | refine au ?_ | exact au0 | fail)
    exact fz_of
  have hgl := hgr rfl
  have hd := hd (by omega)
  have hd2 := hd2 (by omega)
  have hg := hg (by omega)
  have hg2 := hg2 (by omega)
  have ht := ht (by omega)
  have hu2 := hu2 (by omega)
  have hno : NoId (.tup [vlA (.mk kw nw xw vw), .bool b]) := (Cl.tup _ (by intro v hv; simp only [List.mem_cons, List.not_mem_nil, or_false] at hv; rcases hv with rfl | rfl <;> first | exact .agg _ (vlR_cl _) | exact .bool _)).noId
  (first | refine au ?_ | exact au0 | fail)
  first | refine callF_eq (a1.frame _) ?_ | refine callG_eq rfl (a1.frame _) ?_
  (first | refine au ?_ | exact au0 | fail)
  intro id5 hid5 ht5; have n5 := neAll_of hid5; (try simp only [neAll, neAll_hset] at n5); have m5 := n5; (repeat (obtain ⟨_, m5⟩ := m5))
  (first | refine au ?_ | exact au0 | fail)
  first | refine callF_eq (a2.frame _) ?_ | refine callG_eq rfl (a2.frame _) ?_
  (first | refine au ?_ | exact au0 | fail)
  intro id7 hid7 ht7; have n7 := neAll_of hid7; (try simp only [neAll, neAll_hset] at n7); have m7 := n7; (repeat (obtain ⟨_, m7⟩ := m7))
  (first | refine au ?_ | exact au0 | fail)
  first | refine callF_eq (hd.frame _) ?_ | refine callG_eq rfl (hd.frame _) ?_
  (first | refine au ?_ | exact au0 | fail)
  first | refine callF_eq (hd2.frame _) ?_ | refine callG_eq rfl (hd2.frame _) ?_
  (first | refine au ?_ | exact au0 | fail)
  first | refine callF_eq (hg.frame _) ?_ | refine callG_eq rfl (hg.frame _) ?_
  (first | refine au ?_ | exact au0 | fail)
  first | refine callF_eq (hg2.frame _) ?_ | refine callG_eq rfl (hg2.frame _) ?_
  (first | refine au ?_ | exact au0 | fail)
  first | refine callF_eq (ht.frame _) ?_ | refine callG_eq rfl (ht.frame _) ?_
  (first | refine au ?_ | exact au0 | fail)
  first | refine callF_eq (hu2.frame _) ?_ | refine callG_eq rfl (hu2.frame _) ?_
  (first | refine au ?_ | exact au0 | fail)
  rw [decide_eq_true (rfl : tx = tx)]
  (first | refine au ?_ | exact au0 | fail)
  first | refine callF_eq (hs.frame _) ?_ | refine callG_eq rfl (hs.frame _) ?_
  (first | refine au ?_ | exact au0 | fail)
  cases b
  all_goals
    (first | refine au ?_ | exact au0 | fail)
    first | refine callF_eq (val_awake_spec _) ?_ | refine callG_eq rfl (val_awake_spec _) ?_
    (first | refine au ?_ | exact au0 | fail)
    exact fz_of
theorem ints_sh : ∀ n, ∃ sh, shO true PG n ty_S_int = some sh := fun n => clB_some (S := [ty_S_int, ty_int]) (by kernel_rfl) n _ (by simp)
theorem ints_arg {av : AV} (h : ∃ n sh, shO true PG n ty_S_int = some sh ∧ ArgOk false sh av) : ∃ l : List Int, Nw av (.rows 1 (intRow l)) ∧ l.length ≤ 140737488355328 := by
  obtain ⟨n, sh, h1, h2⟩ := h
  obtain ⟨av', h3, h4⟩ := h2.nonil
  obtain ⟨l, e, hl, k1, s1, e2, h5', h6'⟩ := okSlice (e := ty_int) (c := 1) (b := 8) (by kernel_rfl) (by kernel_rfl) (by kernel_rfl) (by decide) h1 h3
  obtain ⟨ts, rfl, hi⟩ := rows_of (f := fun n : Int => [AV.int .i64 n]) (Q := fun _ => True) fun r hr => by
    obtain ⟨k, e, _⟩ := okI64 (by kernel_rfl) h5' (h6' r hr)
    exact ⟨k, e, trivial⟩
  rw [List.length_map] at hl
  simp only [List.cons.injEq, and_true] at e
  subst e
  exact ⟨ts, h4, by omega⟩
theorem ValueTells_row (a0 : AV) (h0 : ∃ n sh, shO true PG n ty_api_Value = some sh ∧ ArgOk true sh a0) (a1 : AV) (h1 : ∃ n sh, shO true PG n ty_S_int = some sh ∧ ArgOk false sh a1) : ACalls PG broadsheetlaw08_ValueTells.n [a0, a1] [] fun r _ => r = .bool true := by
  obtain ⟨a, q0, ha⟩ := value_arg h0
  obtain ⟨l, q1, hl⟩ := ints_arg h1
  exact (ValueTells_spec a l ha hl).nw (.cons q0 (.cons q1 (.refl _)))
end Go.Proofs.YtodiahhfpcdejaaDoor

/- The law 'ValueParts', walked. -/
namespace Go.Proofs.YtodiahhfpcdejaaDoor
set_option autoImplicit false
set_option linter.unusedSimpArgs false
set_option linter.unusedVariables false
attribute [local irreducible] callA callP ACalls
theorem vEq_symm (a b : Vl) : vEq b a = vEq a b := by
  cases h : vEq a b with
  | true => rw [(vEq_iff a b).1 h]; exact vEq_refl b
  | false =>
    cases h2 : vEq b a with
    | false => rfl
    | true => rw [(vEq_iff b a).1 h2, vEq_refl] at h; cases h
theorem vDeep_item {k : Int} {n : Nat} {x : List UInt8} {vs : List Vl} {y : Vl} (h : y ∈ vs) : vDeep y < vDeep (.mk k n x vs) := by
  have := vDeeps_mem h
  simp only [vDeep]; omega
theorem vGreat_item {k : Int} {n : Nat} {x : List UInt8} {vs : List Vl} {y : Vl} (h : y ∈ vs) : vGreat y < vGreat (.mk k n x vs) := by
  have := vGreats_mem h
  simp only [vGreat]; omega
theorem ValueParts_spec (a b : Vl) (ha : vOk a) (hb : vOk b) : ACalls PG broadsheetlaw08_ValueParts.n [vlA a, vlA b] [] fun r _ => r = .bool true := by
  have hma := vMuch_spec _ a 0 (Nat.lt_succ_self _) ha (by omega)
  have hmb := vMuch_spec _ b 0 (Nat.lt_succ_self _) hb (by omega)
  have hga := @vMuch_great a 0
  have hgb := @vMuch_great b 0
  have hab := vSame_spec _ a b (Nat.lt_succ_self _) ⟨ha, hb⟩
  have hba := vSame_spec _ b a (Nat.lt_succ_self _) ⟨hb, ha⟩
  have haa := vSame_spec _ a a (Nat.lt_succ_self _) ⟨ha, ha⟩
  rw [vEq_refl] at haa
  rw [vEq_symm] at hba
  have hta := vText_spec _ a (Nat.lt_succ_self _) ha
  have htb := vText_spec _ b (Nat.lt_succ_self _) hb
  have hda := vDeep_spec _ a (Nat.lt_succ_self _)
  have hdb := vDeep_spec _ b (Nat.lt_succ_self _)
  have hra := vGreat_spec _ a (Nat.lt_succ_self _)
  have hrb := vGreat_spec _ b (Nat.lt_succ_self _)
  have hat := fun l => value_At_spec a l ha
  have hdg := vDeep_great a
  generalize hMa : vMuch a 0 = ma at *
  generalize hMb : vMuch b 0 = mb at *
  refine ACalls.fzK (broadsheetlaw08_ValueParts.of rfl (wpF_start ?_))
  obtain ⟨k, n, x, vs⟩ := a
  obtain ⟨kb, nb, xb, vb⟩ := b
  have hkl := vlRs_len vs
  have hks : vOks vs := by simp only [vOk] at ha; exact ha.2.2.2
  have hvl := vGreats_len vs
  (first | refine au ?_ | exact au0 | fail)
  intro id2 hid2 ht2; have n2 := neAll_of hid2; (try simp only [neAll, neAll_hset] at n2); have m2 := n2; (repeat (obtain ⟨_, m2⟩ := m2))
  (first | refine au ?_ | exact au0 | fail)
  intro id3 hid3 ht3; have n3 := neAll_of hid3; (try simp only [neAll, neAll_hset] at n3); have m3 := n3; (repeat (obtain ⟨_, m3⟩ := m3))
  (first | refine au ?_ | exact au0 | fail)
  first | refine callF_eq (hma.frame _) ?_ | refine callG_eq rfl (hma.frame _) ?_
  cases ma
  rotate_left
  · (first | refine au ?_ | exact au0 | fail)
    first | refine callF_eq (val_awake_spec _) ?_ | refine callG_eq rfl (val_awake_spec _) ?_
    (first | refine au ?_ | exact au0 | fail)
    exact fz_of
  (first | refine au ?_ | exact au0 | fail)
  first | refine callF_eq (hmb.frame _) ?_ | refine callG_eq rfl (hmb.frame _) ?_
  cases mb
  rotate_left
  · (first | refine au ?_ | exact au0 | fail)
    first | refine callF_eq (val_awake_spec _) ?_ | refine callG_eq rfl (val_awake_spec _) ?_
    (first | refine au ?_ | exact au0 | fail)
    exact fz_of
  have hga := hga rfl
  have hgb := hgb rfl
  have hvl2 : vs.length ≤ 11001 := by simp only [vGreat] at hga; omega
  have hta := hta (by omega)
  have htb := htb (by omega)
  have hda := hda (by omega)
  have hdb := hdb (by omega)
  have hra := hra (by omega)
  have hrb := hrb (by omega)
  (first | refine au ?_ | exact au0 | fail)
  first | refine callF_eq (hab.frame _) ?_ | refine callG_eq rfl (hab.frame _) ?_
  (first | refine au ?_ | exact au0 | fail)
  first | refine callF_eq (hba.frame _) ?_ | refine callG_eq rfl (hba.frame _) ?_
  cases hE : vEq (.mk k n x vs) (.mk kb nb xb vb) with
  | false =>
    (first | refine au ?_ | exact au0 | fail)
    refine loopM (S := Nat) [(2, some _)] (fun i => [(6, some (.int .i64 (i : Nat)))]) (fun _ => _) (fun i => vs.length - i) (fun i => i ≤ vs.length) 0 (by repeat (first | exact trivial | refine And.intro (Or.inl rfl) ?_ | refine And.intro (Or.inr (Exists.intro _ (And.intro rfl (Fz.refl _)))) ?_ | refine And.intro (Or.inr (Exists.intro _ (And.intro rfl (fz_eq (congrArg (AV.int _) (by omega)))))) ?_ | refine And.intro (Or.inr (Exists.intro _ (And.intro rfl (fz_eq (congrArg (AV.own _ _ _) (by (try dsimp only); (try simp only [List.length_append, List.length_map, List.length_cons, List.length_nil, List.length_take, List.length_set, List.length_replicate]); (try dsimp only); first | done | omega)))))) ?_)) (Sub.refl _) (Nat.zero_le _) (fun i hi => ?_)
    (first | refine au ?_ | exact au0 | fail)
    refine bsplit_dec (fun h1 => ?_) (fun h1 => ?_)
    · have hil : i < vs.length := by omega
      have hg := vlRs_geti hil
      have hmem := List.getElem_mem hil
      have hge : (Vl.mk k n x vs).its.getD (Int.toNat (i : Nat)) vl0 = vs[i] := getD_get hil
      have hok := vOks_mem hks _ hmem
      have hai := hat [(i : Int)] (by simp)
      rw [vAt_cons, if_pos (show 0 ≤ (i : Int) ∧ (i : Int) < (Vl.mk k n x vs).its.length from ⟨by omega, by simp only [Vl.its]; omega⟩), hge] at hai
      have hdl := vDeep_item (k := k) (n := n) (x := x) hmem
      have hgl := vGreat_item (k := k) (n := n) (x := x) hmem
      have hdy := vDeep_great vs[i]
      have hys := vSame_spec _ vs[i] vs[i] (Nat.lt_succ_self _) ⟨hok, hok⟩
      rw [vEq_refl] at hys
      have hyd := vDeep_spec _ vs[i] (Nat.lt_succ_self _) (by omega)
      have hyg := vGreat_spec _ vs[i] (Nat.lt_succ_self _) (by omega)
      generalize vs[i] = y at *
      obtain ⟨ky, ny, xy, vy⟩ := y
      (first | refine au ?_ | exact au0 | fail)
      first | refine callF_eq (hai.frame _) ?_ | refine callG_eq rfl (hai.frame _) ?_
      (first | refine au ?_ | exact au0 | fail)
      intro id7 hid7 ht7; have n7 := neAll_of hid7; (try simp only [neAll, neAll_hset] at n7); have m7 := n7; (repeat (obtain ⟨_, m7⟩ := m7))
      (first | refine au ?_ | exact au0 | fail)
      rw [hg]
      (first | refine au ?_ | exact au0 | fail)
      first | refine callF_eq (hys.frame _) ?_ | refine callG_eq rfl (hys.frame _) ?_
      (first | refine au ?_ | exact au0 | fail)
      first | refine callF_eq (hyd.frame _) ?_ | refine callG_eq rfl (hyd.frame _) ?_
      (first | refine au ?_ | exact au0 | fail)
      first | refine callF_eq (hda.frame _) ?_ | refine callG_eq rfl (hda.frame _) ?_
      (first | refine au ?_ | exact au0 | fail)
      first | refine callF_eq (hyg.frame _) ?_ | refine callG_eq rfl (hyg.frame _) ?_
      (first | refine au ?_ | exact au0 | fail)
      first | refine callF_eq (hra.frame _) ?_ | refine callG_eq rfl (hra.frame _) ?_
      (first | refine au ?_ | exact au0 | fail)
      exact nextS (S := Nat) (i + 1) (by repeat (first | exact trivial | refine And.intro (Or.inl rfl) ?_ | refine And.intro (Or.inr (Exists.intro _ (And.intro rfl (Fz.refl _)))) ?_ | refine And.intro (Or.inr (Exists.intro _ (And.intro rfl (fz_eq (congrArg (AV.int _) (by omega)))))) ?_ | refine And.intro (Or.inr (Exists.intro _ (And.intro rfl (fz_eq (congrArg (AV.own _ _ _) (by (try dsimp only); (try simp only [List.length_append, List.length_map, List.length_cons, List.length_nil, List.length_take, List.length_set, List.length_replicate]); (try dsimp only); first | done | omega)))))) ?_)) sub_of (by omega) hil
    · have han := (hat [] (by simp)).nw (.cons (.refl _) (.cons (.nil 1) (.refl _)))
      have hal := hat [((vlRs vs).length : Int)] (by simp)
      rw [vAt_cons, if_neg (show ¬ (0 ≤ ((vlRs vs).length : Int) ∧ ((vlRs vs).length : Int) < (Vl.mk k n x vs).its.length) from by simp only [Vl.its]; omega)] at hal
      (first | refine au ?_ | exact au0 | fail)
      first | refine callF_eq (han.frame _) ?_ | refine callG_eq rfl (han.frame _) ?_
      (first | refine au ?_ | exact au0 | fail)
      intro id9 hid9 ht9; have n9 := neAll_of hid9; (try simp only [neAll, neAll_hset] at n9); have m9 := n9; (repeat (obtain ⟨_, m9⟩ := m9))
      (first | refine au ?_ | exact au0 | fail)
      first | refine callF_eq (hal.frame _) ?_ | refine callG_eq rfl (hal.frame _) ?_
      (first | refine au ?_ | exact au0 | fail)
      intro id11 hid11 ht11; have n11 := neAll_of hid11; (try simp only [neAll, neAll_hset] at n11); have m11 := n11; (repeat (obtain ⟨_, m11⟩ := m11))
      (first | refine au ?_ | exact au0 | fail)
      first | refine callF_eq (haa.frame _) ?_ | refine callG_eq rfl (haa.frame _) ?_
      (first | refine au ?_ | exact au0 | fail)
      first | refine callF_eq (val_awake_spec _) ?_ | refine callG_eq rfl (val_awake_spec _) ?_
      (first | refine au ?_ | exact au0 | fail)
      exact fz_of
  | true =>
    have hab' := (vEq_iff _ _).1 hE
    simp only [Vl.mk.injEq] at hab'
    obtain ⟨rfl, rfl, rfl, rfl⟩ := hab'
    (first | refine au ?_ | exact au0 | fail)
    first | refine callF_eq (hta.frame _) ?_ | refine callG_eq rfl (hta.frame _) ?_
    (first | refine au ?_ | exact au0 | fail)
    first | refine callF_eq (htb.frame _) ?_ | refine callG_eq rfl (htb.frame _) ?_
    (first | refine au ?_ | exact au0 | fail)
    rw [show decide (vText (.mk k n x vs) ≠ vText (.mk k n x vs)) = false from decide_eq_false (fun q => q rfl)]
    (first | refine au ?_ | exact au0 | fail)
    first | refine callF_eq (hda.frame _) ?_ | refine callG_eq rfl (hda.frame _) ?_
    (first | refine au ?_ | exact au0 | fail)
    first | refine callF_eq (hdb.frame _) ?_ | refine callG_eq rfl (hdb.frame _) ?_
    (first | refine au ?_ | exact au0 | fail)
    first | refine callF_eq (hra.frame _) ?_ | refine callG_eq rfl (hra.frame _) ?_
    (first | refine au ?_ | exact au0 | fail)
    first | refine callF_eq (hrb.frame _) ?_ | refine callG_eq rfl (hrb.frame _) ?_
    (first | refine au ?_ | exact au0 | fail)
    refine loopM (S := Nat) [(2, some _)] (fun i => [(6, some (.int .i64 (i : Nat)))]) (fun _ => _) (fun i => vs.length - i) (fun i => i ≤ vs.length) 0 (by repeat (first | exact trivial | refine And.intro (Or.inl rfl) ?_ | refine And.intro (Or.inr (Exists.intro _ (And.intro rfl (Fz.refl _)))) ?_ | refine And.intro (Or.inr (Exists.intro _ (And.intro rfl (fz_eq (congrArg (AV.int _) (by omega)))))) ?_ | refine And.intro (Or.inr (Exists.intro _ (And.intro rfl (fz_eq (congrArg (AV.own _ _ _) (by (try dsimp only); (try simp only [List.length_append, List.length_map, List.length_cons, List.length_nil, List.length_take, List.length_set, List.length_replicate]); (try dsimp only); first | done | omega)))))) ?_)) (Sub.refl _) (Nat.zero_le _) (fun i hi => ?_)
    (first | refine au ?_ | exact au0 | fail)
    refine bsplit_dec (fun h1 => ?_) (fun h1 => ?_)
    · have hil : i < vs.length := by omega
      have hg := vlRs_geti hil
      have hmem := List.getElem_mem hil
      have hge : (Vl.mk k n x vs).its.getD (Int.toNat (i : Nat)) vl0 = vs[i] := getD_get hil
      have hok := vOks_mem hks _ hmem
      have hai := hat [(i : Int)] (by simp)
      rw [vAt_cons, if_pos (show 0 ≤ (i : Int) ∧ (i : Int) < (Vl.mk k n x vs).its.length from ⟨by omega, by simp only [Vl.its]; omega⟩), hge] at hai
      have hdl := vDeep_item (k := k) (n := n) (x := x) hmem
      have hgl := vGreat_item (k := k) (n := n) (x := x) hmem
      have hdy := vDeep_great vs[i]
      have hys := vSame_spec _ vs[i] vs[i] (Nat.lt_succ_self _) ⟨hok, hok⟩
      rw [vEq_refl] at hys
      have hyd := vDeep_spec _ vs[i] (Nat.lt_succ_self _) (by omega)
      have hyg := vGreat_spec _ vs[i] (Nat.lt_succ_self _) (by omega)
      generalize vs[i] = y at *
      obtain ⟨ky, ny, xy, vy⟩ := y
      (first | refine au ?_ | exact au0 | fail)
      first | refine callF_eq (hai.frame _) ?_ | refine callG_eq rfl (hai.frame _) ?_
      (first | refine au ?_ | exact au0 | fail)
      intro id7 hid7 ht7; have n7 := neAll_of hid7; (try simp only [neAll, neAll_hset] at n7); have m7 := n7; (repeat (obtain ⟨_, m7⟩ := m7))
      (first | refine au ?_ | exact au0 | fail)
      rw [hg]
      (first | refine au ?_ | exact au0 | fail)
      first | refine callF_eq (hys.frame _) ?_ | refine callG_eq rfl (hys.frame _) ?_
      (first | refine au ?_ | exact au0 | fail)
      first | refine callF_eq (hyd.frame _) ?_ | refine callG_eq rfl (hyd.frame _) ?_
      (first | refine au ?_ | exact au0 | fail)
      first | refine callF_eq (hda.frame _) ?_ | refine callG_eq rfl (hda.frame _) ?_
      (first | refine au ?_ | exact au0 | fail)
      first | refine callF_eq (hyg.frame _) ?_ | refine callG_eq rfl (hyg.frame _) ?_
      (first | refine au ?_ | exact au0 | fail)
      first | refine callF_eq (hra.frame _) ?_ | refine callG_eq rfl (hra.frame _) ?_
      (first | refine au ?_ | exact au0 | fail)
      exact nextS (S := Nat) (i + 1) (by repeat (first | exact trivial | refine And.intro (Or.inl rfl) ?_ | refine And.intro (Or.inr (Exists.intro _ (And.intro rfl (Fz.refl _)))) ?_ | refine And.intro (Or.inr (Exists.intro _ (And.intro rfl (fz_eq (congrArg (AV.int _) (by omega)))))) ?_ | refine And.intro (Or.inr (Exists.intro _ (And.intro rfl (fz_eq (congrArg (AV.own _ _ _) (by (try dsimp only); (try simp only [List.length_append, List.length_map, List.length_cons, List.length_nil, List.length_take, List.length_set, List.length_replicate]); (try dsimp only); first | done | omega)))))) ?_)) sub_of (by omega) hil
    · have han := (hat [] (by simp)).nw (.cons (.refl _) (.cons (.nil 1) (.refl _)))
      have hal := hat [((vlRs vs).length : Int)] (by simp)
      rw [vAt_cons, if_neg (show ¬ (0 ≤ ((vlRs vs).length : Int) ∧ ((vlRs vs).length : Int) < (Vl.mk k n x vs).its.length) from by simp only [Vl.its]; omega)] at hal
      (first | refine au ?_ | exact au0 | fail)
      first | refine callF_eq (han.frame _) ?_ | refine callG_eq rfl (han.frame _) ?_
      (first | refine au ?_ | exact au0 | fail)
      intro id9 hid9 ht9; have n9 := neAll_of hid9; (try simp only [neAll, neAll_hset] at n9); have m9 := n9; (repeat (obtain ⟨_, m9⟩ := m9))
      (first | refine au ?_ | exact au0 | fail)
      first | refine callF_eq (hal.frame _) ?_ | refine callG_eq rfl (hal.frame _) ?_
      (first | refine au ?_ | exact au0 | fail)
      intro id11 hid11 ht11; have n11 := neAll_of hid11; (try simp only [neAll, neAll_hset] at n11); have m11 := n11; (repeat (obtain ⟨_, m11⟩ := m11))
      (first | refine au ?_ | exact au0 | fail)
      first | refine callF_eq (haa.frame _) ?_ | refine callG_eq rfl (haa.frame _) ?_
      (first | refine au ?_ | exact au0 | fail)
      first | refine callF_eq (val_awake_spec _) ?_ | refine callG_eq rfl (val_awake_spec _) ?_
      (first | refine au ?_ | exact au0 | fail)
      exact fz_of
theorem ValueParts_row (a0 : AV) (h0 : ∃ n sh, shO true PG n ty_api_Value = some sh ∧ ArgOk true sh a0) (a1 : AV) (h1 : ∃ n sh, shO true PG n ty_api_Value = some sh ∧ ArgOk true sh a1) : ACalls PG broadsheetlaw08_ValueParts.n [a0, a1] [] fun r _ => r = .bool true := by
  obtain ⟨a, q0, ha⟩ := value_arg h0
  obtain ⟨b, q1, hb⟩ := value_arg h1
  exact (ValueParts_spec a b ha hb).nw (.cons q0 (.cons q1 (.refl _)))
end Go.Proofs.YtodiahhfpcdejaaDoor

/- The table that the program's text lays, at the door and behind the row's condition. -/
namespace Go.Proofs.YtodiahhfpcdejaaDoor
open Go.RowKit
set_option autoImplicit false
set_option linter.unusedVariables false
set_option maxRecDepth 100000
def laid3 : List (String × DataW Unit) := [("math/bits.deBruijn32tab", Rows.laid_math_bits_deBruijn32tab), ("math/bits.deBruijn64tab", Rows.laid_math_bits_deBruijn64tab), ("internal/strconv.uint64pow10", Rows.laid_internal_strconv_uint64pow10)]
theorem tab_of {W : World} (h : Lib.TabIs PG W "internal/strconv.uint64pow10" .u64 Lib.pow10Tab) : TabG W.heap fun b => b < W.heap.size := by
  have hg : PG.globalNamed "internal/strconv.uint64pow10" = some tabG := by kernel_rfl
  unfold Lib.TabIs World.var? at h
  rw [hg, Option.bind_some] at h
  intro x hx
  simp only [tabs, List.mem_singleton] at hx
  subst hx
  cases hh : W.heap[tabG]? with
  | none => rw [hh] at h; cases h
  | some o =>
    refine ⟨(Array.getElem?_eq_some_iff.1 hh).1, ?_⟩
    unfold hrow
    show (match W.heap[tabG]? with | some (.cells c _ _) => some c | _ => none) = some pow10Cells
    rw [hh] at h ⊢
    cases o with
    | cells c t f => exact h
    | _ => cases h
theorem tab_of_laid {W : World} (h : laidMetH PG laid3 W) : TabG W.heap fun b => b < W.heap.size := by
  rw [MakeChecks.laidMetH_plain _ _ _ (by kernel_rfl)] at h
  have h3 := laidMet.tail (laidMet.tail h)
  rw [show Rows.laid_internal_strconv_uint64pow10 = Lib.tabData .u64 Lib.pow10Tab from by kernel_rfl] at h3
  exact tab_of (Lib.tabIs_of_head (P := PG) (g := tabG) (t := tabT) (e := ty_uint64) (n := 20) (by kernel_rfl) (by kernel_rfl) (by kernel_rfl) (by kernel_rfl) (by kernel_rfl) (by kernel_rfl) h3)
/-- The door's own heap meets the condition. -/
theorem door_met (os : Os) (args : Array Value) : laidMetH PG laid3 ((World.doorLaid PG 400 os).forCall (fun _ _ => 0) ⟨#[], args, []⟩).memory :=
  laidMetH_of_parts3 (fuel := 8) (laidMet_of_run' 8 (by kernel_rfl) (by kernel_rfl)) (by kernel_rfl) (by kernel_rfl)
end Go.Proofs.YtodiahhfpcdejaaDoor
