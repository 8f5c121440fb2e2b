/- Texts of this proof, one behind the other: PutSpec, PutSpec2, PutRSpec3, SimRec, TypArg, FitLaw, CodeL, SimRec2, TypArg2, PutLaw, PutTellLaw. -/
import Derived.Test.YtmjdkeonjflanaaGreatPkT6
import Derived.KernelRfl
/- Values put as bytes, walked. -/
namespace Go.Proofs.YtmjdkeonjflanaaGreat
set_option autoImplicit false
set_option linter.unusedSimpArgs false
set_option linter.unusedVariables false
--HSET
attribute [local irreducible] callA callP ACalls
theorem clo_no (f : Nat) : NoId (.clo f [] []) := fun h ρ ρ' Z x hr => by
  cases hr with
  | clo _ _ us _ vs hf hl hq hr => exact .clo f [] us [] vs hf hl (fun i v x q => by simp at q) (fun i v x q => by simp at q)
theorem encVs_take {l : List Ty} : ∀ (ps : List Int) (vs : List Vl) (i a : Nat) (h1 : i < ps.length) (h2 : i < vs.length), encVs l (ps.take (i + 1)) (vs.take (i + 1)) a = encVs l (ps.take i) (vs.take i) a ++ encV l ps[i] vs[i] (a + (encVs l (ps.take i) (vs.take i) a).length)
  | p :: ps, v :: vs, 0, a, _, _ => by simp [encVs]
  | p :: ps, v :: vs, i + 1, a, h1, h2 => by
    have := encVs_take (l := l) ps vs i (a + (encV l p v a).length) (by simpa using h1) (by simpa using h2)
    simp only [List.take_succ_cons, encVs, this, List.getElem_cons_succ, List.append_assoc, List.length_append, Nat.add_assoc]
/-- The rest stands last. -/
theorem TyG.rest {l : List Ty} {j : Nat} {t : Ty} (h : TyG l j t) (hk : t.kd = 14) (i : Nat) (hi : i < t.its.length) (hr : t.its[i].rest = true) : i + 1 = t.its.length := by
  have h1 := h.items
  unfold itemsE at h1
  rw [if_pos (by simp [kNm, hk])] at h1
  split at h1
  · cases h1
  split at h1
  · cases h1
  have h2 := fst0_all h1 (itemE l t i) (List.mem_map.2 ⟨i, List.mem_range.2 hi, rfl⟩)
  unfold itemE at h2
  rw [getD_get hi] at h2
  simp only at h2
  split at h2
  rotate_left
  · cases h2
  split at h2
  · cases h2
  rw [if_neg (by omega)] at h2
  apply Classical.byContradiction
  intro q
  simp [q] at h2
def brQ (n : Nat) (x : It) : Bool := (x.num == n && !x.rest) || x.rest
theorem brIx_q {l : List Ty} {j : Nat} {t : Int} (h : TyG l j (tAt l t)) (h0 : 0 ≤ t) (h1 : t < l.length) (hk : (tAt l t).kd = 14) (n k : Nat) (hb : brIx l t n = some k) : none' (brQ n) (tAt l t).its k ∧ ∀ hk2 : k < (tAt l t).its.length, brQ n (tAt l t).its[k] = true := by
  unfold brIx at hb
  rw [if_pos ⟨h0, h1, hk⟩] at hb
  cases e : (tAt l t).its.findIdx? (fun x => x.num == n && !x.rest) with
  | some m =>
    rw [e] at hb
    simp only [Option.some_or, Option.some.injEq] at hb
    subst hb
    obtain ⟨hn, q1, q2⟩ := find_some e
    refine ⟨fun i hi hik => ?_, fun _ => by unfold brQ; rw [q1]; rfl⟩
    have q5 : ((tAt l t).its[i].num == n && !(tAt l t).its[i].rest) = false := q2 i hi hik
    unfold brQ
    rw [q5]
    cases q3 : (tAt l t).its[i].rest
    · rfl
    · have := h.rest hk i hi q3; omega
  | none =>
    rw [e] at hb
    simp only [Option.none_or] at hb
    obtain ⟨hn, q1, q2⟩ := find_some hb
    rw [List.findIdx?_eq_none_iff] at e
    refine ⟨fun i hi hik => ?_, fun _ => by unfold brQ; rw [q1]; simp⟩
    unfold brQ
    have q3 : (tAt l t).its[i].rest = false := q2 i hi hik
    have := e _ (List.getElem_mem hi)
    rw [q3] at this ⊢
    simpa using this

theorem Bf.fresh {H : AH} {id : Nat} {ob : Option Nat} {a : Int} {l : List UInt8} {i : Nat} (h : Bf H id ob a l) (q : hget H i = none) : i ≠ id ∧ ob ≠ some i := by
  refine ⟨fun e => h.has (by rw [← e]; exact q), fun e => ?_⟩
  obtain ⟨_, p, v, _, _, hv⟩ := h
  rcases hv with ⟨q1, _⟩ | ⟨j, q1, _, q2, _⟩
  · rw [q1] at e; cases e
  · rw [q1] at e
    cases e
    rw [q2] at q; cases q
theorem Kp.refl (H : AH) (id : Nat) (ob : Option Nat) : Kp H id ob H ob := ⟨fun i e => .inr e, fun j b _ _ h => h⟩
/-- The putter: where its types and its bytes are. -/
structure PI (l : List Ty) (H : AH) (idp idb : Nat) (ob : Option Nat) (bs : List UInt8) : Prop where
  g : hget H idp = some (.rows 2 [[tysA l, .ptr idb 3 0 0]])
  ne : idp ≠ idb
  no : ob ≠ some idp
  b : Bf H idb ob (bs.length : Nat) bs
theorem Bf.sub {H H1 : AH} {id : Nat} {ob : Option Nat} {a : Int} {l : List UInt8} (h : Bf H id ob a l) (s : Sub H H1) : Bf H1 id ob a l := by
  obtain ⟨ht, p, v, hg, hp, hv⟩ := h
  refine ⟨ht, p, v, s _ _ hg, hp, ?_⟩
  rcases hv with hv | ⟨idb, q1, q2, q3, q4⟩
  · exact .inl hv
  · exact .inr ⟨idb, q1, q2, s _ _ q3, q4⟩
theorem Kp.sub {H H1 : AH} {id : Nat} {ob : Option Nat} {H' : AH} {ob' : Option Nat} (s : Sub H H1) (k : Kp H1 id ob H' ob') : Kp H id ob H' ob' :=
  ⟨fun i e => by
    rcases k.nw i e with q | q
    · left
      cases e2 : hget H i with
      | none => rfl
      | some b => rw [s _ _ e2] at q; cases q
    · exact .inr q, fun j b h1 h2 h3 => k.kp j b h1 h2 (s _ _ h3)⟩
theorem PI.sub {l : List Ty} {H H1 : AH} {idp idb : Nat} {ob : Option Nat} {bs : List UInt8} (h : PI l H idp idb ob bs) (s : Sub H H1) : PI l H1 idp idb ob bs := ⟨s _ _ h.g, h.ne, h.no, h.b.sub s⟩
theorem PI.next {l : List Ty} {H H' : AH} {idp idb : Nat} {ob ob' : Option Nat} {bs bs' : List UInt8} (h : PI l H idp idb ob bs) (b : Bf H' idb ob' (bs'.length : Nat) bs') (k : Kp H idb ob H' ob') : PI l H' idp idb ob' bs' :=
  ⟨k.kp _ _ h.ne h.no h.g, h.ne, k.ne h.no h.g, b⟩
/-- Bytes e are put behind. -/
def PR (idb : Nat) (ob : Option Nat) (bs e : List UInt8) (H : AH) (r : AV) (H' : AH) : Prop := r = .tup [] ∧ ∃ ob', Bf H' idb ob' ((bs ++ e).length : Nat) (bs ++ e) ∧ Kp H idb ob H' ob'
def PutC (l : List Ty) (v : Vl) : Prop := ∀ (t : Int), 0 ≤ t → t < l.length → fitE l t v = 0 → ∀ (H : AH) (idp idb : Nat) (ob : Option Nat) (bs : List UInt8), PI l H idp idb ob bs → bs.length + 16 * vGreat v ≤ 500000 →
  ACalls PG put_putter_put.n [.ptr idp 2 0 0, .int .i64 t, vlA v] H (PR idb ob bs (encV l t v bs.length) H)
section
variable {l : List Ty} {H : AH} {idp idb : Nat} {ob : Option Nat} {bs : List UInt8}
theorem pnumber_spec (hl : TysOk l) (hp : PI l H idp idb ob bs) {t : Int} (h0 : 0 ≤ t) (h1 : t < l.length) (hn : isNum (tAt l t).kd = true) (v : Vl) (hv : vOk v) (hb : bs.length ≤ 500000) :
    ACalls PG put_putter_number.n [.ptr idp 2 0 0, .int .i64 t, vlA v] H (PR idb ob bs (numB bs.length (szK (tAt l t).kd) (lowK (tAt l t).kd v.num)) H) := by
  have hge := tAt_get h0 h1
  have hlen : (l.map tyR).length = l.length := by simp
  have hll := hl.len
  have hlo := lowK_lt hn v.num
  have hsz := szK_pos hn
  obtain ⟨k, n, x, vs⟩ := v
  refine put_putter_number.of rfl (wpF_start ?_)
  obtain ⟨pg, pne, pno, pb⟩ := hp
  (first | refine ah ?_ | exact ah0 | fail)
  intro id5 hid5 ht5; have n5 := neAll_of hid5; (try simp only [neAll, neAll_hset] at n5); have m5 := n5; (repeat (obtain ⟨_, m5⟩ := m5))
  have s5 : Sub H ((id5, Blk.rows 4 [vlR (.mk k n x vs)]) :: H) := Sub.skip (Sub.refl _) hid5
  have np5 : id5 ≠ idp := hget_ne_of hid5 pg
  (first | refine ah ?_ | exact ah0 | fail)
  rw [hge]
  (first | refine ah ?_ | exact ah0 | fail)
  first | refine callF_eq (prim_Low_spec (tAt l t).kd n _) ?_ | refine callG_eq rfl (prim_Low_spec (tAt l t).kd n _) ?_
  (first | refine ah ?_ | exact ah0 | fail)
  first | refine callF_eq (prim_Size_spec (tAt l t).kd _) ?_ | refine callG_eq rfl (prim_Size_spec (tAt l t).kd _) ?_
  (first | refine ah ?_ | exact ah0 | fail)
  refine callF_of ((Put_spec (pb.sub s5) hsz hlo (by omega)).mono fun r H1 ⟨e, ob1, hb1, k1⟩ => ?_)
  subst e
  (first | refine ah ?_ | exact ah0 | fail)
  exact k1.sub s5
theorem ptext_spec (hp : PI l H idp idb ob bs) (t : Int) (k : Int) (n : Nat) (x : List UInt8) (vs : List Vl) (hx : x.length ≤ 64) (hb : bs.length ≤ 500000) :
    ACalls PG put_putter_text.n [.ptr idp 2 0 0, .int .i64 t, vlA (.mk k n x vs)] H (PR idb ob bs (numB bs.length 4 (x.length + 1) ++ (x ++ [0])) H) := by
  refine put_putter_text.of rfl (wpF_start ?_)
  obtain ⟨pg, pne, pno, pb⟩ := hp
  have hid := pb.has
  (first | refine ah ?_ | exact ah0 | fail)
  intro id5 hid5 ht5; have n5 := neAll_of hid5; (try simp only [neAll, neAll_hset] at n5); have m5 := n5; (repeat (obtain ⟨_, m5⟩ := m5))
  have s5 : Sub H ((id5, Blk.rows 4 [vlR (.mk k n x vs)]) :: H) := Sub.skip (Sub.refl _) hid5
  have np5 : id5 ≠ idp := hget_ne_of hid5 pg
  (first | refine ah ?_ | exact ah0 | fail)
  refine callF_of ((Put_spec (n := x.length + 1) (pb.sub s5) (sz := 4) (by omega) (by omega) (by omega)).mono fun r H1 ⟨e, ob1, hb1, k1⟩ => ?_)
  subst e
  have pg1 := k1.kp _ _ pne pno (s5 _ _ pg)
  have fr5 := pb.fresh hid5
  have hg51 := k1.kp id5 _ fr5.1 fr5.2 hget_self
  (first | refine ah ?_ | exact ah0 | fail)
  refine callF_of ((Text_spec (s := x ++ [0]) hb1 (by rw [List.length_append, List.length_append, numB_len]; have := gapN_le bs.length 4 (by omega); simp; omega)).mono fun r H2 ⟨e, ob2, hb2, k2⟩ => ?_)
  subst e
  (first | refine ah ?_ | exact ah0 | fail)
  refine ⟨ob2, ?_, (k1.sub s5).trans k2 hid hb2.ob⟩
  rw [← List.append_assoc]
  exact hb2
theorem parray_spec (hl : TysOk l) (hp : PI l H idp idb ob bs) {t : Int} (h0 : 0 ≤ t) (h1 : t < l.length) (he0 : 0 ≤ (tAt l t).el) (he1 : (tAt l t).el < l.length) (k : Int) (n : Nat) (x : List UInt8) (vs : List Vl) (hvl : vs.length ≤ 500000)
    (hf : ∀ w ∈ vs, fitE l (tAt l t).el w = 0) (ih : ∀ w ∈ vs, PutC l w) (hb : bs.length + 16 * vGreats vs ≤ 500000) :
    ACalls PG put_putter_array.n [.ptr idp 2 0 0, .int .i64 t, vlA (.mk k n x vs)] H (PR idb ob bs (encVs l (List.replicate vs.length (tAt l t).el) vs bs.length) H) := by
  have hge := tAt_get h0 h1
  have hlen : (l.map tyR).length = l.length := by simp
  have hll := hl.len
  have hkl := vlRs_len vs
  refine put_putter_array.of rfl (wpF_start ?_)
  have hid := hp.b.has
  have pg := hp.g
  (first | refine ah ?_ | exact ah0 | fail)
  intro id5 hid5 ht5; have n5 := neAll_of hid5; (try simp only [neAll, neAll_hset] at n5); have m5 := n5; (repeat (obtain ⟨_, m5⟩ := m5))
  have s5 : Sub H ((id5, Blk.rows 4 [vlR (.mk k n x vs)]) :: H) := Sub.skip (Sub.refl _) hid5
  have np5 : id5 ≠ idp := hget_ne_of hid5 pg
  (first | refine ah ?_ | exact ah0 | fail)
  refine loopM (S := Nat × AH × Option Nat) [(0, some _), (1, some _), (9, some _), (10, some _)] (fun s => [(11, some (.int .i64 (s.1 : Nat)))]) (fun s => s.2.1) (fun s => vs.length - s.1)
    (fun s => s.1 ≤ vs.length ∧ PI l s.2.1 idp idb s.2.2 (bs ++ encVs l ((List.replicate vs.length (tAt l t).el).take s.1) (vs.take s.1) bs.length) ∧ Kp H idb ob s.2.1 s.2.2) (0, (id5, Blk.rows 4 [vlR (.mk k n x vs)]) :: H, ob) (by repeat (first | exact trivial | refine And.intro (Or.inl rfl) ?_ | refine And.intro (Or.inr (Exists.intro _ (And.intro rfl (Fz.refl _)))) ?_ | refine And.intro (Or.inr (Exists.intro _ (And.intro rfl (fz_eq (congrArg (AV.int _) (by omega)))))) ?_ | refine And.intro (Or.inr (Exists.intro _ (And.intro rfl (fz_eq (congrArg (AV.own _ _ _) (by (try dsimp only); (try simp only [List.length_append, List.length_map, List.length_cons, List.length_nil, List.length_take, List.length_set, List.length_replicate]); (try dsimp only); first | done | omega)))))) ?_)) (Sub.refl _)
    ⟨Nat.zero_le _, by simp only [List.take_zero, encVs_nil, List.append_nil]; exact hp.sub s5, (Kp.refl _ _ _).sub s5⟩ (fun s hs => ?_)
  obtain ⟨i, H1, ob1⟩ := s
  obtain ⟨hi, hp1, hk1⟩ := hs
  dsimp only at hi hp1 hk1
  have pg1 := hp1.g
  (first | refine ah ?_ | exact ah0 | fail)
  refine bsplit_dec (fun c => ?_) (fun c => ?_)
  · have hil : i < vs.length := by omega
    have hg := vlRs_geti hil
    have hfi := hf vs[i] (List.getElem_mem hil)
    have ihi := ih vs[i] (List.getElem_mem hil)
    have htk := encVs_take (l := l) (List.replicate vs.length (tAt l t).el) vs i bs.length (by simpa using hil) hil
    rw [List.getElem_replicate] at htk
    have hlc := encVs_len l ((List.replicate vs.length (tAt l t).el).take i) (vs.take i) bs.length
    have hgt := vGreats_take vs i hil
    have hgl := vGreats_takeLe vs (i + 1)
    generalize vs[i] = y at *
    obtain ⟨k2, n2, x2, vs2⟩ := y
    (first | refine ah ?_ | exact ah0 | fail)
    rw [hg]
    (first | refine ah ?_ | exact ah0 | fail)
    intro id7 hid7 ht7; have n7 := neAll_of hid7; (try simp only [neAll, neAll_hset] at n7); have m7 := n7; (repeat (obtain ⟨_, m7⟩ := m7))
    have s7 : Sub H1 ((id7, Blk.rows 4 [vlR (.mk k2 n2 x2 vs2)]) :: H1) := Sub.skip (Sub.refl _) hid7
    have np7 : id7 ≠ idp := hget_ne_of hid7 pg1
    (first | refine ah ?_ | exact ah0 | fail)
    rw [hge]
    (first | refine ah ?_ | exact ah0 | fail)
    refine callF_of ((ihi _ he0 he1 hfi _ idp idb ob1 _ (hp1.sub s7) (by rw [List.length_append]; omega)).mono fun r H2 ⟨e, ob2, hb2, k2⟩ => ?_)
    subst e
    (first | refine ah ?_ | exact ah0 | fail)
    refine nextS (S := Nat × AH × Option Nat) (i + 1, H2, ob2) (by repeat (first | exact trivial | refine And.intro (Or.inl rfl) ?_ | refine And.intro (Or.inr (Exists.intro _ (And.intro rfl (Fz.refl _)))) ?_ | refine And.intro (Or.inr (Exists.intro _ (And.intro rfl (fz_eq (congrArg (AV.int _) (by omega)))))) ?_ | refine And.intro (Or.inr (Exists.intro _ (And.intro rfl (fz_eq (congrArg (AV.own _ _ _) (by (try dsimp only); (try simp only [List.length_append, List.length_map, List.length_cons, List.length_nil, List.length_take, List.length_set, List.length_replicate]); (try dsimp only); first | done | omega)))))) ?_)) (Sub.refl _) (by dsimp only; omega) ⟨by dsimp only; omega, ?_, hk1.trans (k2.sub s7) hid hb2.ob⟩
    dsimp only
    rw [htk, ← List.append_assoc, ← List.length_append]
    exact (hp1.sub s7).next hb2 k2
  · have hi' : i = vs.length := by omega
    subst hi'
    (first | refine ah ?_ | exact ah0 | fail)
    rw [List.take_of_length_le (by simp), List.take_length] at hp1
    exact ⟨ob1, hp1.b, hk1⟩
theorem pseq_spec (hl : TysOk l) (hp : PI l H idp idb ob bs) {t : Int} (h0 : 0 ≤ t) (h1 : t < l.length) (he0 : 0 ≤ (tAt l t).el) (he1 : (tAt l t).el < l.length) (k : Int) (n : Nat) (x : List UInt8) (vs : List Vl) (hvl : vs.length ≤ 64)
    (hf : ∀ w ∈ vs, fitE l (tAt l t).el w = 0) (ih : ∀ w ∈ vs, PutC l w) (hb : bs.length + 16 + 16 * vGreats vs ≤ 500000) :
    ACalls PG put_putter_seq.n [.ptr idp 2 0 0, .int .i64 t, vlA (.mk k n x vs)] H (PR idb ob bs (numB bs.length 4 vs.length ++ encVs l (List.replicate vs.length (tAt l t).el) vs (bs.length + (numB bs.length 4 vs.length).length)) H) := by
  have hkl := vlRs_len vs
  have hid := hp.b.has
  have pg := hp.g
  have hgl := gapN_le bs.length 4 (by omega)
  have hnl := numB_len bs.length 4 vs.length
  refine put_putter_seq.of rfl (wpF_start ?_)
  (first | refine ah ?_ | exact ah0 | fail)
  intro id5 hid5 ht5; have n5 := neAll_of hid5; (try simp only [neAll, neAll_hset] at n5); have m5 := n5; (repeat (obtain ⟨_, m5⟩ := m5))
  have s5 : Sub H ((id5, Blk.rows 4 [vlR (.mk k n x vs)]) :: H) := Sub.skip (Sub.refl _) hid5
  have np5 : id5 ≠ idp := hget_ne_of hid5 pg
  have fr5 := hp.b.fresh hid5
  (first | refine ah ?_ | exact ah0 | fail)
  rw [hkl]
  refine callF_of ((Put_spec (n := vs.length) (hp.b.sub s5) (sz := 4) (by omega) (by omega) (by omega)).mono fun r H1 ⟨e, ob1, hb1, k1⟩ => ?_)
  subst e
  have hp1 : PI l H1 idp idb ob1 (bs ++ numB bs.length 4 vs.length) := (hp.sub s5).next hb1 k1
  have hg51 := k1.kp id5 _ fr5.1 fr5.2 hget_self
  (first | refine ah ?_ | exact ah0 | fail)
  refine callF_of ((parray_spec hl hp1 h0 h1 he0 he1 k n x vs (by omega) hf ih (by rw [List.length_append]; omega)).mono fun r H2 ⟨e, ob2, hb2, k2⟩ => ?_)
  subst e
  (first | refine ah ?_ | exact ah0 | fail)
  refine ⟨ob2, ?_, (k1.sub s5).trans k2 hid hb2.ob⟩
  rw [← List.append_assoc, ← List.length_append]
  exact hb2
theorem pfields_spec (hl : TysOk l) (hp : PI l H idp idb ob bs) {t : Int} (h0 : 0 ≤ t) (h1 : t < l.length) (hin : ∀ x ∈ (tAt l t).its, 0 ≤ x.ty ∧ x.ty < l.length) (k : Int) (n : Nat) (x : List UInt8) (vs : List Vl) (hvl : vs.length ≤ 500000) (hlen2 : (tAt l t).its.length = vs.length)
    (hf : ∀ (i : Nat) (q1 : i < (tAt l t).its.length) (q2 : i < vs.length), fitE l (tAt l t).its[i].ty vs[i] = 0) (ih : ∀ w ∈ vs, PutC l w) (hb : bs.length + 16 * vGreats vs ≤ 500000) :
    ACalls PG put_putter_fields.n [.ptr idp 2 0 0, .int .i64 t, vlA (.mk k n x vs)] H (PR idb ob bs (encVs l ((tAt l t).its.map (·.ty)) vs bs.length) H) := by
  have hge := tAt_get h0 h1
  have hlen : (l.map tyR).length = l.length := by simp
  have hll := hl.len
  have hkl := vlRs_len vs
  have hil2 : ((tAt l t).its.map itR).length = (tAt l t).its.length := by simp
  refine put_putter_fields.of rfl (wpF_start ?_)
  have hid := hp.b.has
  have pg := hp.g
  (first | refine ah ?_ | exact ah0 | fail)
  intro id5 hid5 ht5; have n5 := neAll_of hid5; (try simp only [neAll, neAll_hset] at n5); have m5 := n5; (repeat (obtain ⟨_, m5⟩ := m5))
  have s5 : Sub H ((id5, Blk.rows 4 [vlR (.mk k n x vs)]) :: H) := Sub.skip (Sub.refl _) hid5
  have np5 : id5 ≠ idp := hget_ne_of hid5 pg
  (first | refine ah ?_ | exact ah0 | fail)
  refine loopM (S := Nat × AH × Option Nat) [(0, some _), (1, some _), (9, some _), (10, some _)] (fun s => [(11, some (.int .i64 (s.1 : Nat)))]) (fun s => s.2.1) (fun s => vs.length - s.1)
    (fun s => s.1 ≤ vs.length ∧ PI l s.2.1 idp idb s.2.2 (bs ++ encVs l (((tAt l t).its.map (·.ty)).take s.1) (vs.take s.1) bs.length) ∧ Kp H idb ob s.2.1 s.2.2) (0, (id5, Blk.rows 4 [vlR (.mk k n x vs)]) :: H, ob) (by repeat (first | exact trivial | refine And.intro (Or.inl rfl) ?_ | refine And.intro (Or.inr (Exists.intro _ (And.intro rfl (Fz.refl _)))) ?_ | refine And.intro (Or.inr (Exists.intro _ (And.intro rfl (fz_eq (congrArg (AV.int _) (by omega)))))) ?_ | refine And.intro (Or.inr (Exists.intro _ (And.intro rfl (fz_eq (congrArg (AV.own _ _ _) (by (try dsimp only); (try simp only [List.length_append, List.length_map, List.length_cons, List.length_nil, List.length_take, List.length_set, List.length_replicate]); (try dsimp only); first | done | omega)))))) ?_)) (Sub.refl _)
    ⟨Nat.zero_le _, by simp only [List.take_zero, encVs_nil, List.append_nil]; exact hp.sub s5, (Kp.refl _ _ _).sub s5⟩ (fun s hs => ?_)
  obtain ⟨i, H1, ob1⟩ := s
  obtain ⟨hi, hp1, hk1⟩ := hs
  dsimp only at hi hp1 hk1
  have pg1 := hp1.g
  (first | refine ah ?_ | exact ah0 | fail)
  refine bsplit_dec (fun c => ?_) (fun c => ?_)
  · have hil : i < vs.length := by omega
    have hii : i < (tAt l t).its.length := by omega
    have hg := vlRs_geti hil
    have hg2 := row_get (f := itR) hii
    have hfi := hf i hii hil
    have hii2 := hin _ (List.getElem_mem hii)
    have ihi := ih vs[i] (List.getElem_mem hil)
    have htk := encVs_take (l := l) ((tAt l t).its.map (·.ty)) vs i bs.length (by simpa using hii) hil
    rw [List.getElem_map] at htk
    have hlc := encVs_len l (((tAt l t).its.map (·.ty)).take i) (vs.take i) bs.length
    have hgt := vGreats_take vs i hil
    have hgl := vGreats_takeLe vs (i + 1)
    generalize vs[i] = y at *
    generalize (tAt l t).its[i] = z at *
    obtain ⟨k2, n2, x2, vs2⟩ := y
    (first | refine ah ?_ | exact ah0 | fail)
    rw [hg]
    (first | refine ah ?_ | exact ah0 | fail)
    intro id7 hid7 ht7; have n7 := neAll_of hid7; (try simp only [neAll, neAll_hset] at n7); have m7 := n7; (repeat (obtain ⟨_, m7⟩ := m7))
    have s7 : Sub H1 ((id7, Blk.rows 4 [vlR (.mk k2 n2 x2 vs2)]) :: H1) := Sub.skip (Sub.refl _) hid7
    have np7 : id7 ≠ idp := hget_ne_of hid7 pg1
    (first | refine ah ?_ | exact ah0 | fail)
    rw [hge]
    (first | refine ah ?_ | exact ah0 | fail)
    rw [hg2]
    (first | refine ah ?_ | exact ah0 | fail)
    refine callF_of ((ihi _ hii2.1 hii2.2 hfi _ idp idb ob1 _ (hp1.sub s7) (by rw [List.length_append]; omega)).mono fun r H2 ⟨e, ob2, hb2, k2⟩ => ?_)
    subst e
    (first | refine ah ?_ | exact ah0 | fail)
    refine nextS (S := Nat × AH × Option Nat) (i + 1, H2, ob2) (by repeat (first | exact trivial | refine And.intro (Or.inl rfl) ?_ | refine And.intro (Or.inr (Exists.intro _ (And.intro rfl (Fz.refl _)))) ?_ | refine And.intro (Or.inr (Exists.intro _ (And.intro rfl (fz_eq (congrArg (AV.int _) (by omega)))))) ?_ | refine And.intro (Or.inr (Exists.intro _ (And.intro rfl (fz_eq (congrArg (AV.own _ _ _) (by (try dsimp only); (try simp only [List.length_append, List.length_map, List.length_cons, List.length_nil, List.length_take, List.length_set, List.length_replicate]); (try dsimp only); first | done | omega)))))) ?_)) (Sub.refl _) (by dsimp only; omega) ⟨by dsimp only; omega, ?_, hk1.trans (k2.sub s7) hid hb2.ob⟩
    dsimp only
    rw [htk, ← List.append_assoc, ← List.length_append]
    exact (hp1.sub s7).next hb2 k2
  · have hi' : i = vs.length := by omega
    subst hi'
    (first | refine ah ?_ | exact ah0 | fail)
    rw [List.take_of_length_le (by rw [List.length_map]; omega), List.take_length] at hp1
    exact ⟨ob1, hp1.b, hk1⟩
/-- How a kind's values are put. -/
def wayN (k : Int) : Nat := if k = 10 then put_putter_text.n else if k = 11 then put_putter_seq.n else if k = 12 then put_putter_array.n else if k = 13 then put_putter_fields.n else if k = 14 then put_putter_union.n else put_putter_number.n
theorem ways_spec (k : Int) (H : AH) : ACalls PG put_ways.n [.int .i64 k] H fun r H' => r = .clo (wayN k) [] [] ∧ H' = H := by
  refine ACalls.fz (put_ways.of rfl (wpF_start ?_))
  unfold wayN
  (repeat' (first | (refine au ?_; first | refine bsplit_dec (fun _ => ?_) (fun _ => ?_) | refine bsplit_intro (fun _ => ?_) (fun _ => ?_)) | exact au0 | fail)); (all_goals try (first | refine au ?_ | fail))
  all_goals
    refine ⟨fz_eq (congrArg (fun f => AV.clo f [] []) ?_), sub_of⟩
    repeat' split
    all_goals first
      | rfl
      | omega
theorem brQ_no {n : Nat} {z : It} (h : brQ n z = false) : z.rest = false ∧ z.num ≠ n := by
  unfold brQ at h
  rw [Bool.or_eq_false_iff] at h
  refine ⟨h.2, fun e => ?_⟩
  have := h.1
  rw [h.2, e] at this
  simp at this
theorem brQ_yes {n : Nat} {z : It} (h : brQ n z = true) : z.rest = true ∨ z.num = n := by
  unfold brQ at h
  rw [Bool.or_eq_true] at h
  rcases h with h | h
  · rw [Bool.and_eq_true] at h
    right; simpa using h.1
  · exact .inl h
theorem punion_spec (hl : TysOk l) (hv : TyV l) (hp : PI l H idp idb ob bs) {t : Int} (h0 : 0 ≤ t) (h1 : t < l.length) (k : Int) (hk : k = 14) (n : Nat) (x : List UInt8) (vs : List Vl) (F : Fit0 l t k n x vs) (hok : vOk (.mk k n x vs)) (ih : ∀ w ∈ vs, PutC l w) (hb : bs.length + 16 + 16 * vGreats vs ≤ 500000) :
    ACalls PG put_putter_union.n [.ptr idp 2 0 0, .int .i64 t, vlA (.mk k n x vs)] H (PR idb ob bs (encV l t (.mk k n x vs) bs.length) H) := by
  have hG := hv.tAt h0 h1
  have hge := tAt_get h0 h1
  have hlen : (l.map tyR).length = l.length := by simp
  have hll := hl.len
  have hkl := vlRs_len vs
  have hid := hp.b.has
  have pg := hp.g
  have h14 : (tAt l t).kd = 14 := by rw [← F.kd]; exact hk
  have htg := hG.parts _ (parts_tag h14)
  have hnum := hG.tag h14
  have hnl := numB_len bs.length (szK (tAt l (tAt l t).tg).kd) (lowK (tAt l (tAt l t).tg).kd n)
  have hgl := gapN_le bs.length _ (szK_pos hnum)
  have hszp := szK_pos hnum
  have hpt : partT l t n vs.length = (match brIx l t n with | some k => [((tAt l t).its.getD k it0).ty] | none => []) := by
    unfold partT
    rw [if_neg (by omega), if_neg (by omega), if_neg (by omega), if_pos h14]
    cases brIx l t n <;> rfl
  have henc : encV l t (.mk k n x vs) bs.length = numB bs.length (szK (tAt l (tAt l t).tg).kd) (lowK (tAt l (tAt l t).tg).kd n) ++ encVs l (partT l t n vs.length) vs (bs.length + (numB bs.length (szK (tAt l (tAt l t).tg).kd) (lowK (tAt l (tAt l t).tg).kd n)).length) := by
    rw [encV, encH, if_neg (by omega), if_neg (by omega), if_neg (by omega), if_pos hk]
  generalize encV l t (.mk k n x vs) bs.length = E at *
  have hlenv := F.len
  have hits := F.its
  refine put_putter_union.of rfl (wpF_start ?_)
  (first | refine ah ?_ | exact ah0 | fail)
  intro id5 hid5 ht5; have n5 := neAll_of hid5; (try simp only [neAll, neAll_hset] at n5); have m5 := n5; (repeat (obtain ⟨_, m5⟩ := m5))
  have s5 : Sub H ((id5, Blk.rows 4 [vlR (.mk k n x vs)]) :: H) := Sub.skip (Sub.refl _) hid5
  have np5 : id5 ≠ idp := hget_ne_of hid5 pg
  have fr5 := hp.b.fresh hid5
  (first | refine ah ?_ | exact ah0 | fail)
  rw [hge]
  (first | refine ah ?_ | exact ah0 | fail)
  refine callF_of ((pnumber_spec hl (hp.sub s5) htg.1 (by omega) hnum (.mk k n x vs) hok (by omega)).mono fun r H1 ⟨e, ob1, hb1, k1⟩ => ?_)
  subst e
  replace hb1 : Bf H1 idb ob1 ((bs ++ numB bs.length (szK (tAt l (tAt l t).tg).kd) (lowK (tAt l (tAt l t).tg).kd n)).length : Nat) (bs ++ numB bs.length (szK (tAt l (tAt l t).tg).kd) (lowK (tAt l (tAt l t).tg).kd n)) := hb1
  have hp1 : PI l H1 idp idb ob1 (bs ++ numB bs.length (szK (tAt l (tAt l t).tg).kd) (lowK (tAt l (tAt l t).tg).kd n)) := (hp.sub s5).next hb1 k1
  have hg51 := k1.kp id5 _ fr5.1 fr5.2 hget_self
  have kk1 := k1.sub s5
  generalize hbs1 : bs ++ numB bs.length (szK (tAt l (tAt l t).tg).kd) (lowK (tAt l (tAt l t).tg).kd n) = bs1 at *
  have hbl : bs.length + (numB bs.length (szK (tAt l (tAt l t).tg).kd) (lowK (tAt l (tAt l t).tg).kd n)).length = bs1.length := by rw [← hbs1, List.length_append]
  have hE : bs ++ E = bs1 ++ encVs l (partT l t n vs.length) vs bs1.length := by rw [henc, ← List.append_assoc, hbs1, hbl]
  (first | refine ah ?_ | exact ah0 | fail)
  cases hbr : brIx l t n with
  | none =>
    rw [hbr] at hpt
    simp only at hpt
    rw [hpt] at hlenv hE
    have hvs : vs = [] := List.eq_nil_of_length_eq_zero hlenv.symm
    subst hvs
    refine loopM (S := Unit) [(0, some _), (1, some _), (5, some _), (22, some _), (23, some _)] (fun _ => [(24, some (.int .i64 0))]) (fun _ => H1) (fun _ => 0) (fun _ => True) () (by repeat (first | exact trivial | refine And.intro (Or.inl rfl) ?_ | refine And.intro (Or.inr (Exists.intro _ (And.intro rfl (Fz.refl _)))) ?_ | refine And.intro (Or.inr (Exists.intro _ (And.intro rfl (fz_eq (congrArg (AV.int _) (by omega)))))) ?_ | refine And.intro (Or.inr (Exists.intro _ (And.intro rfl (fz_eq (congrArg (AV.own _ _ _) (by (try dsimp only); (try simp only [List.length_append, List.length_map, List.length_cons, List.length_nil, List.length_take, List.length_set, List.length_replicate]); (try dsimp only); first | done | omega)))))) ?_)) (Sub.refl _) trivial (fun _ _ => ?_)
    (first | refine ah ?_ | exact ah0 | fail)
    rw [encVs_nil, List.append_nil] at hE
    rw [hE]
    exact ⟨ob1, hb1, kk1⟩
  | some j =>
    have hj := brIx_lt hbr
    obtain ⟨hq1, hq2⟩ := brIx_q hG h0 h1 h14 n j hbr
    rw [hbr] at hpt
    simp only [getD_get hj] at hpt
    rw [hpt] at hlenv hits hE
    obtain ⟨y, rfl⟩ : ∃ y, vs = [y] := by
      match vs, hlenv with
      | [y], _ => exact ⟨y, rfl⟩
    have ihy := ih y List.mem_cons_self
    have hfy : fitE l (tAt l t).its[j].ty y = 0 := fitEs_0 hits 0 (by simp) (by simp)
    have hty := hG.parts _ (parts_item (.inr h14) (List.getElem_mem hj))
    have hgy : vGreats [y] = vGreat y := by simp [vGreats]
    have hev : encVs l [(tAt l t).its[j].ty] [y] bs1.length = encV l (tAt l t).its[j].ty y bs1.length := by simp [encVs]
    have hil2 : ((tAt l t).its.map itR).length = (tAt l t).its.length := by simp
    have hitl := (hl.all _ (tAt_mem h0 h1)).its
    rw [hev] at hE
    clear hits hev hpt hb1 k1 ih henc hbr F hok
    simp only [List.length_cons, List.length_nil] at hkl
    obtain ⟨k2, n2, x2, vs2⟩ := y
    refine loopM (S := Nat × AH × Option Nat) [(0, some _), (1, some _), (5, some _), (22, some _), (23, some _)] (fun s => [(24, some (.int .i64 (s.1 : Nat)))]) (fun s => s.2.1) (fun s => 1 - s.1)
      (fun s => (s.1 = 0 ∧ s.2 = (H1, ob1)) ∨ (s.1 = 1 ∧ Bf s.2.1 idb s.2.2 ((bs1 ++ encV l (tAt l t).its[j].ty (.mk k2 n2 x2 vs2) bs1.length).length : Nat) (bs1 ++ encV l (tAt l t).its[j].ty (.mk k2 n2 x2 vs2) bs1.length) ∧ Kp H1 idb ob1 s.2.1 s.2.2)) (0, H1, ob1) (by repeat (first | exact trivial | refine And.intro (Or.inl rfl) ?_ | refine And.intro (Or.inr (Exists.intro _ (And.intro rfl (Fz.refl _)))) ?_ | refine And.intro (Or.inr (Exists.intro _ (And.intro rfl (fz_eq (congrArg (AV.int _) (by omega)))))) ?_ | refine And.intro (Or.inr (Exists.intro _ (And.intro rfl (fz_eq (congrArg (AV.own _ _ _) (by (try dsimp only); (try simp only [List.length_append, List.length_map, List.length_cons, List.length_nil, List.length_take, List.length_set, List.length_replicate]); (try dsimp only); first | done | omega)))))) ?_)) (Sub.refl _)
      (.inl ⟨rfl, rfl⟩) (fun s hs => ?_)
    obtain ⟨i, H2, ob2⟩ := s
    rcases hs with ⟨hi, e⟩ | ⟨hi, hb2, k2⟩
    rotate_left
    · dsimp only at hi hb2 k2
      (first | refine ah ?_ | exact ah0 | fail)
      rw [hE]
      exact ⟨ob2, hb2, kk1.trans k2 hid hb2.ob⟩
    · dsimp only at hi e
      simp only [Prod.mk.injEq] at e
      obtain ⟨rfl, rfl⟩ := e
      have pg2 := hp1.g
      have hg : (vlRs [.mk k2 n2 x2 vs2]).getD (Int.toNat (i : Nat)) [] = vlR (.mk k2 n2 x2 vs2) := by rw [hi]; rfl
      (first | refine ah ?_ | exact ah0 | fail)
      rw [hg]
      (first | refine ah ?_ | exact ah0 | fail)
      intro id7 hid7 ht7; have n7 := neAll_of hid7; (try simp only [neAll, neAll_hset] at n7); have m7 := n7; (repeat (obtain ⟨_, m7⟩ := m7))
      have s7 : Sub H2 ((id7, Blk.rows 4 [vlR (.mk k2 n2 x2 vs2)]) :: H2) := Sub.skip (Sub.refl _) hid7
      have np7 : id7 ≠ idp := hget_ne_of hid7 pg2
      have np75 : id7 ≠ id5 := hget_ne_of hid7 hg51
      (first | refine ah ?_ | exact ah0 | fail)
      rw [hge]
      (first | refine ah ?_ | exact ah0 | fail)
      refine loopL [(0, some _), (1, some _), (5, some _), (7, some _), (22, some _), (23, some _), (24, some _), (35, some _), (36, some _)] 37 0 j (fun _ => True) (by repeat (first | exact trivial | refine And.intro (Or.inl rfl) ?_ | refine And.intro (Or.inr (Exists.intro _ (And.intro rfl (Fz.refl _)))) ?_ | refine And.intro (Or.inr (Exists.intro _ (And.intro rfl (fz_eq (congrArg (AV.int _) (by omega)))))) ?_ | refine And.intro (Or.inr (Exists.intro _ (And.intro rfl (fz_eq (congrArg (AV.own _ _ _) (by (try dsimp only); (try simp only [List.length_append, List.length_map, List.length_cons, List.length_nil, List.length_take, List.length_set, List.length_replicate]); (try dsimp only); first | done | omega)))))) ?_)) (Nat.zero_le _) trivial (fun m hm _ => ?_)
      have hmi : m < (tAt l t).its.length := by omega
      have hg2 := row_get (f := itR) hmi
      (first | refine ah ?_ | exact ah0 | fail)
      rw [hg2]
      by_cases hmj : m = j
      · subst hmj
        have hq := brQ_yes (hq2 hmi)
        have hgen := ihy _ hty.1 (by omega) hfy
        clear hfy hq2 hg2 hq1
        generalize (tAt l t).its[m] = z at *
        obtain ⟨znm, znum, zty, zkey, zrest⟩ := z
        (first | refine ah ?_ | exact ah0 | fail)
        intro id9 hid9 ht9; have n9 := neAll_of hid9; (try simp only [neAll, neAll_hset] at n9); have m9 := n9; (repeat (obtain ⟨_, m9⟩ := m9))
        have np9 : id9 ≠ idp := hget_ne_of hid9 ((hget_tail np7).trans pg2)
        have np95 : id9 ≠ id5 := hget_ne_of hid9 ((hget_tail np75).trans hg51)
        have s9 : Sub ((id7, Blk.rows 4 [vlR (.mk k2 n2 x2 vs2)]) :: H2) ((id9, Blk.rows 5 [itR ⟨znm, znum, zty, zkey, zrest⟩]) :: (id7, Blk.rows 4 [vlR (.mk k2 n2 x2 vs2)]) :: H2) := Sub.skip (Sub.refl _) hid9
        dsimp only at hq hgen
        by_cases hnum2 : znum = n
        · cases zrest
          · (first | refine ah ?_ | exact ah0 | fail)
            refine callF_of ((hgen _ idp idb ob2 bs1 ((hp1.sub s7).sub s9) (by omega)).mono fun r H3 ⟨e, ob3, hb3, k3⟩ => ?_)
            subst e
            (first | refine ah ?_ | exact ah0 | fail)
            exact nextS (S := Nat × AH × Option Nat) (1, H3, ob3) (by repeat (first | exact trivial | refine And.intro (Or.inl rfl) ?_ | refine And.intro (Or.inr (Exists.intro _ (And.intro rfl (Fz.refl _)))) ?_ | refine And.intro (Or.inr (Exists.intro _ (And.intro rfl (fz_eq (congrArg (AV.int _) (by omega)))))) ?_ | refine And.intro (Or.inr (Exists.intro _ (And.intro rfl (fz_eq (congrArg (AV.own _ _ _) (by (try dsimp only); (try simp only [List.length_append, List.length_map, List.length_cons, List.length_nil, List.length_take, List.length_set, List.length_replicate]); (try dsimp only); first | done | omega)))))) ?_)) (Sub.refl _) (by dsimp only; omega) (.inr ⟨rfl, hb3, (k3.sub s9).sub s7⟩)
          · (first | refine ah ?_ | exact ah0 | fail)
            refine callF_of ((hgen _ idp idb ob2 bs1 ((hp1.sub s7).sub s9) (by omega)).mono fun r H3 ⟨e, ob3, hb3, k3⟩ => ?_)
            subst e
            (first | refine ah ?_ | exact ah0 | fail)
            exact nextS (S := Nat × AH × Option Nat) (1, H3, ob3) (by repeat (first | exact trivial | refine And.intro (Or.inl rfl) ?_ | refine And.intro (Or.inr (Exists.intro _ (And.intro rfl (Fz.refl _)))) ?_ | refine And.intro (Or.inr (Exists.intro _ (And.intro rfl (fz_eq (congrArg (AV.int _) (by omega)))))) ?_ | refine And.intro (Or.inr (Exists.intro _ (And.intro rfl (fz_eq (congrArg (AV.own _ _ _) (by (try dsimp only); (try simp only [List.length_append, List.length_map, List.length_cons, List.length_nil, List.length_take, List.length_set, List.length_replicate]); (try dsimp only); first | done | omega)))))) ?_)) (Sub.refl _) (by dsimp only; omega) (.inr ⟨rfl, hb3, (k3.sub s9).sub s7⟩)
        · cases zrest
          · exact absurd hq (by simp [hnum2])
          · (first | refine ah ?_ | exact ah0 | fail)
            refine callF_of ((hgen _ idp idb ob2 bs1 ((hp1.sub s7).sub s9) (by omega)).mono fun r H3 ⟨e, ob3, hb3, k3⟩ => ?_)
            subst e
            (first | refine ah ?_ | exact ah0 | fail)
            exact nextS (S := Nat × AH × Option Nat) (1, H3, ob3) (by repeat (first | exact trivial | refine And.intro (Or.inl rfl) ?_ | refine And.intro (Or.inr (Exists.intro _ (And.intro rfl (Fz.refl _)))) ?_ | refine And.intro (Or.inr (Exists.intro _ (And.intro rfl (fz_eq (congrArg (AV.int _) (by omega)))))) ?_ | refine And.intro (Or.inr (Exists.intro _ (And.intro rfl (fz_eq (congrArg (AV.own _ _ _) (by (try dsimp only); (try simp only [List.length_append, List.length_map, List.length_cons, List.length_nil, List.length_take, List.length_set, List.length_replicate]); (try dsimp only); first | done | omega)))))) ?_)) (Sub.refl _) (by dsimp only; omega) (.inr ⟨rfl, hb3, (k3.sub s9).sub s7⟩)
      · have hq := brQ_no (hq1 m hmi (by omega))
        clear hfy hq2 hg2 hq1
        generalize (tAt l t).its[m] = z at *
        obtain ⟨znm, znum, zty, zkey, zrest⟩ := z
        dsimp only at hq
        obtain ⟨rfl, hq⟩ := hq
        (first | refine ah ?_ | exact ah0 | fail)
        intro id9 hid9 ht9; have n9 := neAll_of hid9; (try simp only [neAll, neAll_hset] at n9); have m9 := n9; (repeat (obtain ⟨_, m9⟩ := m9))
        have np95 : id9 ≠ id5 := hget_ne_of hid9 ((hget_tail np75).trans hg51)
        (first | refine ah ?_ | exact ah0 | fail)
        exact nextN (by repeat (first | exact trivial | refine And.intro (Or.inl rfl) ?_ | refine And.intro (Or.inr (Exists.intro _ (And.intro rfl (Fz.refl _)))) ?_ | refine And.intro (Or.inr (Exists.intro _ (And.intro rfl (fz_eq (congrArg (AV.int _) (by omega)))))) ?_ | refine And.intro (Or.inr (Exists.intro _ (And.intro rfl (fz_eq (congrArg (AV.own _ _ _) (by (try dsimp only); (try simp only [List.length_append, List.length_map, List.length_cons, List.length_nil, List.length_take, List.length_set, List.length_replicate]); (try dsimp only); first | done | omega)))))) ?_)) (by exact sub_of) (by omega) trivial
end
end Go.Proofs.YtmjdkeonjflanaaGreat

/- Values put as bytes, walked: all. -/
namespace Go.Proofs.YtmjdkeonjflanaaGreat
set_option autoImplicit false
set_option linter.unusedSimpArgs false
set_option linter.unusedVariables false
--HSET
attribute [local irreducible] callA callP ACalls
theorem put_spec (l : List Ty) (hl : TysOk l) (hv : TyV l) : ∀ (m : Nat) (v : Vl), SizeOf.sizeOf v < m → vOk v → PutC l v
  | 0, v, h, _ => by omega
  | m + 1, .mk k n x vs, hsz, hok => by
    intro t h0 h1 hf H idp idb ob bs hp hb
    have F := fitE_0 hf
    have hG := hv.tAt h0 h1
    have hkd := hG.kd
    have hk := F.kd
    rw [← hk] at hkd
    have Z := F.kinds
    have hks : vOks vs := by simp only [vOk] at hok; exact hok.2.2.2
    have hvl : vs.length ≤ 500000 := by
      have := vGreats_len vs
      simp only [vGreat] at hb; omega
    have ih : ∀ w ∈ vs, PutC l w := fun w hw => put_spec l hl hv m w (by
      have := List.sizeOf_lt_of_mem hw
      simp only [Vl.mk.sizeOf_spec] at hsz
      omega) (vOks_mem hks w hw)
    have hin := partT_in hG n vs.length
    have hlen := F.len
    have hits := F.its
    have pg := hp.g
    simp only [vGreat] at hb
    have e10 : k = 10 → encV l t (.mk k n x vs) bs.length = numB bs.length 4 (x.length + 1) ++ (x ++ [0]) := fun c => by
      rw [encV, encH, if_pos c, Z.2.2 (by omega), encVs_nil', List.append_nil]
    have e11 : k = 11 → encV l t (.mk k n x vs) bs.length = numB bs.length 4 vs.length ++ encVs l (List.replicate vs.length (tAt l t).el) vs (bs.length + (numB bs.length 4 vs.length).length) := fun c => by
      rw [encV, encH, if_neg (by omega), if_pos c, partT_el rfl (by omega)]
    have e12 : k = 12 → encV l t (.mk k n x vs) bs.length = encVs l (List.replicate vs.length (tAt l t).el) vs bs.length := fun c => by
      have := hlen
      rw [partT_ar rfl (by omega), List.length_replicate] at this
      rw [encV, encH, if_neg (by omega), if_neg (by omega), if_pos (.inl c), partT_ar rfl (by omega), this, List.length_nil, Nat.add_zero, List.nil_append]
    have e13 : k = 13 → encV l t (.mk k n x vs) bs.length = encVs l ((tAt l t).its.map (·.ty)) vs bs.length := fun c => by
      rw [encV, encH, if_neg (by omega), if_neg (by omega), if_pos (.inr c), partT_st rfl (by omega), List.length_nil, Nat.add_zero, List.nil_append]
    have e9 : k ≤ 9 → encV l t (.mk k n x vs) bs.length = numB bs.length (szK (tAt l t).kd) (lowK (tAt l t).kd n) := fun c => by
      rw [encV, encH, if_neg (by omega), if_neg (by omega), if_neg (by omega), if_neg (by omega), Z.2.2 (by omega), encVs_nil', List.append_nil]
    have hE14 : k = 14 → ∀ H1, PI l H1 idp idb ob bs → ACalls PG put_putter_union.n [.ptr idp 2 0 0, .int .i64 t, vlA (.mk k n x vs)] H1 (PR idb ob bs (encV l t (.mk k n x vs) bs.length) H1) := fun c H1 q => punion_spec hl hv q h0 h1 k c n x vs F hok ih (by omega)
    generalize encV l t (.mk k n x vs) bs.length = E at *
    have hx64 : k = 10 → x.length ≤ 64 := fun c => by
      have := F.tx
      have := (hG.bd (by simp [kBd, ← hk, c])).2.1
      omega
    have hv64 : k = 11 → vs.length ≤ 64 := fun c => by
      have := F.sq
      have := (hG.bd (by simp [kBd, ← hk, c])).2.1
      omega
    have hel : k = 11 ∨ k = 12 → 0 ≤ (tAt l t).el ∧ (tAt l t).el < l.length := fun c => by
      have := hG.parts (tAt l t).el (by unfold parts; rw [show kEl (tAt l t).kd = true from by rcases c with c | c <;> simp [kEl, ← hk, c]]; simp)
      omega
    have hfe : k = 11 ∨ k = 12 → ∀ w ∈ vs, fitE l (tAt l t).el w = 0 := fun c w hw => by
      obtain ⟨i, hi, rfl⟩ := List.getElem_of_mem hw
      have hip : i < (partT l t n vs.length).length := by omega
      have q1 := fitEs_0 hits i hip hi
      rcases c with c | c
      · have e := partT_el (l := l) (t := t) rfl (by omega) n vs.length
        simp only [e, List.getElem_replicate] at q1
        exact q1
      · have e := partT_ar (l := l) (t := t) rfl (by omega) n vs.length
        simp only [e, List.getElem_replicate] at q1
        exact q1
    have hst : k = 13 → (tAt l t).its.length = vs.length ∧ ∀ (i : Nat) (q1 : i < (tAt l t).its.length) (q2 : i < vs.length), fitE l (tAt l t).its[i].ty vs[i] = 0 := fun c => by
      have e := partT_st (l := l) (t := t) rfl (by omega) n vs.length
      refine ⟨by rw [e, List.length_map] at hlen; exact hlen, fun i q1 q2 => ?_⟩
      have q3 := fitEs_0 hits i (by omega) q2
      simp only [e, List.getElem_map] at q3
      exact q3
    have hitin : k = 13 → ∀ y ∈ (tAt l t).its, 0 ≤ y.ty ∧ y.ty < l.length := fun c y hy => by
      have := hG.parts _ (parts_item (.inl (by omega)) hy)
      omega
    have hnum : k ≤ 9 → isNum (tAt l t).kd = true := fun c => by rw [← hk]; simp only [isNum, decide_eq_true_eq]; omega
    clear F hits hlen hin Z hf
    refine put_putter_put.of rfl (wpF_start ?_)
    (first | refine ah ?_ | exact ah0 | fail)
    intro id5 hid5 ht5; have n5 := neAll_of hid5; (try simp only [neAll, neAll_hset] at n5); have m5 := n5; (repeat (obtain ⟨_, m5⟩ := m5))
    have s5 : Sub H ((id5, Blk.rows 4 [vlR (.mk k n x vs)]) :: H) := Sub.skip (Sub.refl _) hid5
    have np5 : id5 ≠ idp := hget_ne_of hid5 pg
    have hp5 := hp.sub s5
    (first | refine ah ?_ | exact ah0 | fail)
    refine callG_no (clo_no _) (ways_spec k _) ?_
    (first | refine ah ?_ | exact ah0 | fail)
    by_cases c10 : k = 10
    · rw [show wayN k = put_putter_text.n from by unfold wayN; rw [if_pos c10]]
      rw [e10 c10]
      refine callF_of ((ptext_spec hp5 t k n x vs (hx64 c10) (by omega)).mono fun r H1 ⟨e, ob1, hb1, k1⟩ => ?_)
      subst e
      (first | refine ah ?_ | exact ah0 | fail)
      first | exact k1.sub s5 | exact ⟨ob1, hb1, k1.sub s5⟩
    by_cases c11 : k = 11
    · rw [show wayN k = put_putter_seq.n from by unfold wayN; rw [if_neg c10, if_pos c11]]
      rw [e11 c11]
      refine callF_of ((pseq_spec hl hp5 h0 h1 (hel (.inl c11)).1 (hel (.inl c11)).2 k n x vs (hv64 c11) (hfe (.inl c11)) ih (by omega)).mono fun r H1 ⟨e, ob1, hb1, k1⟩ => ?_)
      subst e
      (first | refine ah ?_ | exact ah0 | fail)
      first | exact k1.sub s5 | exact ⟨ob1, hb1, k1.sub s5⟩
    by_cases c12 : k = 12
    · rw [show wayN k = put_putter_array.n from by unfold wayN; rw [if_neg c10, if_neg c11, if_pos c12]]
      rw [e12 c12]
      refine callF_of ((parray_spec hl hp5 h0 h1 (hel (.inr c12)).1 (hel (.inr c12)).2 k n x vs (by omega) (hfe (.inr c12)) ih (by omega)).mono fun r H1 ⟨e, ob1, hb1, k1⟩ => ?_)
      subst e
      (first | refine ah ?_ | exact ah0 | fail)
      first | exact k1.sub s5 | exact ⟨ob1, hb1, k1.sub s5⟩
    by_cases c13 : k = 13
    · rw [show wayN k = put_putter_fields.n from by unfold wayN; rw [if_neg c10, if_neg c11, if_neg c12, if_pos c13]]
      rw [e13 c13]
      refine callF_of ((pfields_spec hl hp5 h0 h1 (hitin c13) k n x vs (by omega) (hst c13).1 (hst c13).2 ih (by omega)).mono fun r H1 ⟨e, ob1, hb1, k1⟩ => ?_)
      subst e
      (first | refine ah ?_ | exact ah0 | fail)
      first | exact k1.sub s5 | exact ⟨ob1, hb1, k1.sub s5⟩
    by_cases c14 : k = 14
    · rw [show wayN k = put_putter_union.n from by unfold wayN; rw [if_neg c10, if_neg c11, if_neg c12, if_neg c13, if_pos c14]]
      refine callF_of ((hE14 c14 _ hp5).mono fun r H1 ⟨e, ob1, hb1, k1⟩ => ?_)
      subst e
      (first | refine ah ?_ | exact ah0 | fail)
      first | exact k1.sub s5 | exact ⟨ob1, hb1, k1.sub s5⟩
    · rw [show wayN k = put_putter_number.n from by unfold wayN; rw [if_neg c10, if_neg c11, if_neg c12, if_neg c13, if_neg c14]]
      rw [e9 (by omega)]
      refine callF_of ((pnumber_spec hl hp5 h0 h1 (hnum (by omega)) (.mk k n x vs) hok (by omega)).mono fun r H1 ⟨e, ob1, hb1, k1⟩ => ?_)
      subst e
      (first | refine ah ?_ | exact ah0 | fail)
      first | exact k1.sub s5 | exact ⟨ob1, hb1, k1.sub s5⟩
theorem behind_spec (l : List Ty) (hl : TysOk l) (hv : TyV l) (t : Int) (h0 : 0 ≤ t) (h1 : t < l.length) (v : Vl) (hok : vOk v) (hf : fitE l t v = 0) (a : Nat) (ha : a ≤ 512) (hg : vGreat v ≤ 20000) (H : AH) :
    ACalls PG put_behind.n [tysA l, .int .i64 t, vlA v, .int .i64 (a : Nat)] H fun r H' => ∃ idb ob, r = .ptr idb 3 0 0 ∧ Bf H' idb ob ((List.replicate a 0 ++ encV l t v a).length : Nat) (List.replicate a 0 ++ encV l t v a) := by
  have hput := put_spec l hl hv _ v (Nat.lt_succ_self _) hok t h0 h1 hf
  have hea : (List.replicate a (0 : UInt8)).length = a := List.length_replicate
  obtain ⟨k, n, x, vs⟩ := v
  refine put_behind.of rfl (wpF_start ?_)
  (first | refine ah ?_ | exact ah0 | fail)
  intro id6 hid6 ht6; have n6 := neAll_of hid6; (try simp only [neAll, neAll_hset] at n6); have m6 := n6; (repeat (obtain ⟨_, m6⟩ := m6))
  (first | refine ah ?_ | exact ah0 | fail)
  refine callF_of ((New_spec _).mono fun r H1 ⟨idb, e, hidb, hb1, s1⟩ => ?_)
  subst e
  have hg61 := s1 _ _ (hget_self (id := id6) (b := .rows 4 [vlR (.mk k n x vs)]))
  have n6b : id6 ≠ idb := fun e => by rw [← e] at hidb; rw [hget_self] at hidb; cases hidb
  (first | refine ah ?_ | exact ah0 | fail)
  first | refine callF_eq (Repeat_spec [0] a (by simp; omega) (by omega) _) ?_ | refine callG_eq rfl (Repeat_spec [0] a (by simp; omega) (by omega) _) ?_
  rw [repeat0]
  (first | refine ah ?_ | exact ah0 | fail)
  refine callF_of ((Text_spec (l := []) (s := List.replicate a 0) hb1 (by rw [hea, List.length_nil]; omega)).mono fun r H2 ⟨e, ob2, hb2, k2⟩ => ?_)
  subst e
  rw [List.nil_append] at hb2
  have hg62 := k2.kp _ _ n6b (by simp) hg61
  (first | refine ah ?_ | exact ah0 | fail)
  intro id10 hid10 ht10; have n10 := neAll_of hid10; (try simp only [neAll, neAll_hset] at n10); have m10 := n10; (repeat (obtain ⟨_, m10⟩ := m10))
  have m10 : id10 ≠ idb := fun e => hb2.has (by rw [← e]; exact hid10)
  have s10 : Sub H2 ((id10, Blk.rows 2 [[tysA l, .ptr idb 3 0 0]]) :: H2) := Sub.skip (Sub.refl _) hid10
  have hp : PI l ((id10, Blk.rows 2 [[tysA l, .ptr idb 3 0 0]]) :: H2) id10 idb ob2 (List.replicate a 0) := ⟨hget_self, m10, (hb2.fresh hid10).2, hb2.sub s10⟩
  have m106 : id10 ≠ id6 := hget_ne_of hid10 hg62
  (first | refine ah ?_ | exact ah0 | fail)
  refine callF_of ((hput _ id10 idb ob2 _ hp (by rw [hea]; omega)).mono fun r H3 ⟨e, ob3, hb3, k3⟩ => ?_)
  subst e
  rw [hea] at hb3
  (first | refine ah ?_ | exact ah0 | fail)
  exact ⟨idb, ob3, rfl, hb3⟩
def fitQ (l : List Ty) (t : Int) (v : Vl) : Int := if 0 ≤ t ∧ t < l.length ∧ (tyChk l).1 = 0 then fitE l t v else 8
theorem Fits_specQ (l : List Ty) (hl : TysOk l) (t : Int) (v : Vl) (hok : vOk v) (H : AH) : ACalls PG fits_Fits.n [tysA l, .int .i64 t, vlA v] H fun r H' => r = .int .i64 (fitQ l t v) ∧ H' = H := Fits_spec l hl t v hok H
theorem fitQ_0 {l : List Ty} {t : Int} {v : Vl} (h : fitQ l t v = 0) : (0 ≤ t ∧ t < l.length ∧ TyV l) ∧ fitE l t v = 0 := by
  unfold fitQ at h
  split at h
  · rename_i c; exact ⟨⟨c.1, c.2.1, tyChk_v c.2.2⟩, h⟩
  · cases h
/-- What is put, or why nothing. -/
def putQ (l : List Ty) (t : Int) (v : Vl) : List UInt8 × Int := if fitQ l t v ≠ 0 then ([], fitQ l t v) else if 512 < (encV l t v 0).length then ([], 3) else (encV l t v 0, 0)
def endQ (l : List Ty) (t : Int) (v : Vl) (a : Int) : Int × Int := if a < 0 ∨ 512 < a then (0, 7) else if fitQ l t v ≠ 0 then (0, fitQ l t v) else (a + (encV l t v a.toNat).length, 0)
theorem put_Put_spec (l : List Ty) (hl : TysOk l) (t : Int) (v : Vl) (hok : vOk v) (hg : vGreat v ≤ 20000) (H : AH) : ACalls PG put_Put.n [tysA l, .int .i64 t, vlA v] H fun r H' => r = .tup [.str (putQ l t v).1, .int .i64 (putQ l t v).2] ∧ H' = H := by
  refine ACalls.frame (ACalls.fzK (put_Put.of rfl (wpF_start ?_))) H
  have hfs := fun H => Fits_specQ l hl t v hok H
  have hb := fun (h : fitQ l t v = 0) H => behind_spec l hl (fitQ_0 h).1.2.2 t (fitQ_0 h).1.1 (fitQ_0 h).1.2.1 v hok (fitQ_0 h).2 0 (by omega) hg H
  have hpos := fun (h : fitQ l t v = 0) => encV_pos (fitQ_0 h).1.2.2 _ v (Nat.lt_succ_self _) t 0 (fitQ_0 h).1.1 (fitQ_0 h).1.2.1 (fitQ_0 h).2
  have hle := encV_len l t v 0
  unfold putQ
  simp only [List.replicate_zero, List.nil_append] at hb
  generalize encV l t v 0 = E at *
  generalize fitQ l t v = q at *
  obtain ⟨k, n, x, vs⟩ := v
  (first | refine ah ?_ | exact ah0 | fail)
  intro id5 hid5 ht5; have n5 := neAll_of hid5; (try simp only [neAll, neAll_hset] at n5); have m5 := n5; (repeat (obtain ⟨_, m5⟩ := m5))
  (first | refine ah ?_ | exact ah0 | fail)
  first | refine callF_eq (hfs _) ?_ | refine callG_eq rfl (hfs _) ?_
  (first | refine ah ?_ | exact ah0 | fail)
  refine bsplit_dec (fun c => ?_) (fun c => ?_)
  · rw [if_pos c]
    (first | refine ah ?_ | exact ah0 | fail)
    exact fz_of
  · have c := Classical.not_not.1 c
    rw [if_neg (by simp [c])]
    (first | refine ah ?_ | exact ah0 | fail)
    refine callF_of ((hb c _).mono fun r H1 ⟨idb, ob, e, hb1⟩ => ?_)
    subst e
    (first | refine ah ?_ | exact ah0 | fail)
    refine callF_of ((Bytes_spec hb1 (hpos c) (by omega)).mono fun r H2 e => ?_)
    subst e
    (first | refine ah ?_ | exact ah0 | fail)
    refine bsplit_dec (fun c2 => ?_) (fun c2 => ?_)
    · rw [if_pos (by omega)]
      (first | refine ah ?_ | exact ah0 | fail)
      exact fz_of
    · rw [if_neg (by omega)]
      (first | refine ah ?_ | exact ah0 | fail)
      exact fz_of
theorem put_End_spec (l : List Ty) (hl : TysOk l) (t : Int) (v : Vl) (hok : vOk v) (hg : vGreat v ≤ 20000) (a : Int) (H : AH) : ACalls PG put_End.n [tysA l, .int .i64 t, vlA v, .int .i64 a] H fun r H' => r = .tup [.int .i64 (endQ l t v a).1, .int .i64 (endQ l t v a).2] ∧ H' = H := by
  refine ACalls.frame (ACalls.fzK (put_End.of rfl (wpF_start ?_))) H
  have hfs := fun H => Fits_specQ l hl t v hok H
  unfold endQ
  by_cases ha : a < 0 ∨ 512 < a
  · rw [if_pos ha]
    obtain ⟨k, n, x, vs⟩ := v
    (first | refine ah ?_ | exact ah0 | fail)
    intro id6 hid6 ht6; have n6 := neAll_of hid6; (try simp only [neAll, neAll_hset] at n6); have m6 := n6; (repeat (obtain ⟨_, m6⟩ := m6))
    rcases ha with ha | ha
    · (first | refine ah ?_ | exact ah0 | fail)
      exact fz_of
    · (first | refine ah ?_ | exact ah0 | fail)
      exact fz_of
  rw [if_neg ha]
  obtain ⟨m, rfl⟩ : ∃ m : Nat, a = m := ⟨a.toNat, by omega⟩
  have hb := fun (h : fitQ l t v = 0) H => behind_spec l hl (fitQ_0 h).1.2.2 t (fitQ_0 h).1.1 (fitQ_0 h).1.2.1 v hok (fitQ_0 h).2 m (by omega) hg H
  simp only [List.length_append, List.length_replicate] at hb
  simp only [Int.toNat_natCast]
  generalize encV l t v m = E at *
  generalize fitQ l t v = q at *
  obtain ⟨k, n, x, vs⟩ := v
  (first | refine ah ?_ | exact ah0 | fail)
  intro id6 hid6 ht6; have n6 := neAll_of hid6; (try simp only [neAll, neAll_hset] at n6); have m6 := n6; (repeat (obtain ⟨_, m6⟩ := m6))
  (first | refine ah ?_ | exact ah0 | fail)
  first | refine callF_eq (hfs _) ?_ | refine callG_eq rfl (hfs _) ?_
  (first | refine ah ?_ | exact ah0 | fail)
  refine bsplit_dec (fun c => ?_) (fun c => ?_)
  · rw [if_pos c]
    (first | refine ah ?_ | exact ah0 | fail)
    exact fz_of
  · have c := Classical.not_not.1 c
    rw [if_neg (by simp [c])]
    (first | refine ah ?_ | exact ah0 | fail)
    refine callF_of ((hb c _).mono fun r H1 ⟨idb, ob, e, hb1⟩ => ?_)
    subst e
    (first | refine ah ?_ | exact ah0 | fail)
    refine callF_of ((Len_spec hb1).mono fun r H2 e => ?_)
    subst e
    (first | refine ah ?_ | exact ah0 | fail)
    exact fz_eq (by rw [Int.natCast_add])
end Go.Proofs.YtmjdkeonjflanaaGreat

/- Values put as bytes, in the reference, walked: ends, bytes, all. -/
namespace Go.Proofs.YtmjdkeonjflanaaGreat
set_option autoImplicit false
set_option linter.unusedSimpArgs false
set_option linter.unusedVariables false
attribute [local irreducible] callA callP ACalls
theorem ptB_len {p : Pt} (h : PtOk p) (a : Nat) : (ptB a p).length ≤ 100 := by
  unfold ptB
  split
  · have h1 := h.1
    rcases h1 with h1 | ⟨h1, _⟩
    · omega
    · rw [numB_len]
      have := gapN_le a p.sz h1
      omega
  · have := h.2; omega
theorem ptsB_len : ∀ (ps : List Pt) (a : Nat), (∀ p ∈ ps, PtOk p) → (ptsB a ps).length ≤ 100 * ps.length
  | [], a, _ => by simp [ptsB]
  | p :: ps, a, h => by
    have h1 := ptB_len (h p List.mem_cons_self) a
    have h2 := ptsB_len ps (a + (ptB a p).length) (fun q hq => h q (List.mem_cons_of_mem _ hq))
    simp only [ptsB, List.length_append, List.length_cons]
    omega
theorem r10_End_spec (ps : List Pt) (hok : ∀ p ∈ ps, PtOk p) (hl : ps.length ≤ 100000) (a : Nat) (ha : a ≤ 1000) (H : AH) : ACalls PG broadsheetref10_End.n [.rows 3 (ps.map ptR), .int .i64 (a : Nat)] H fun r H' => r = .int .i64 (a + (ptsB a ps).length : Nat) ∧ H' = H := by
  have hlm : (ps.map ptR).length = ps.length := by simp
  refine ACalls.fz (broadsheetref10_End.of rfl (wpF_start ?_))
  (first | refine au ?_ | exact au0 | fail)
  refine loopM (S := Nat) [(0, some _)] (fun i => [(5, some (.int .i64 (i : Nat))), (1, some (.int .i64 (a + (ptsB a (ps.take i)).length : Nat)))]) (fun _ => H) (fun i => ps.length - i) (fun i => i ≤ ps.length) 0 (by repeat (first | exact trivial | refine And.intro (Or.inl rfl) ?_ | refine And.intro (Or.inr (Exists.intro _ (And.intro rfl (Fz.refl _)))) ?_ | refine And.intro (Or.inr (Exists.intro _ (And.intro rfl (fz_eq (congrArg (AV.int _) (by omega)))))) ?_ | refine And.intro (Or.inr (Exists.intro _ (And.intro rfl (fz_eq (congrArg (AV.own _ _ _) (by (try dsimp only); (try simp only [List.length_append, List.length_map, List.length_cons, List.length_nil, List.length_take, List.length_set, List.length_replicate]); (try dsimp only); first | done | omega)))))) ?_)) (Sub.refl _) (by omega) (fun i hi => ?_)
  have hb := ptsB_len (ps.take i) a (fun p hp => hok p (List.mem_of_mem_take hp))
  rw [List.length_take] at hb
  (first | refine au ?_ | exact au0 | fail)
  refine bsplit_dec (fun c => ?_) (fun c => ?_)
  · have hil : i < ps.length := by omega
    have hg := row_get (f := ptR) hil
    have htk := ptsB_take (a := a) hil
    have hpk := hok _ (List.getElem_mem hil)
    generalize ps[i] = p at *
    obtain ⟨sz, num, tx⟩ := p
    obtain ⟨hp1, hp2⟩ := hpk
    dsimp only at hp1 hp2
    unfold ptB at htk
    dsimp only at htk
    (first | refine au ?_ | exact au0 | fail)
    rw [hg]
    (first | refine au ?_ | exact au0 | fail)
    rcases hp1 with hz | ⟨hz, _⟩
    · rw [if_neg (by omega)] at htk
      (first | refine au ?_ | exact au0 | fail)
      rw [hg]
      (first | refine au ?_ | exact au0 | fail)
      exact nextS (S := Nat) (i + 1) (by (try dsimp only); rw [htk, List.length_append, ← Nat.add_assoc]; exact (by repeat (first | exact trivial | refine And.intro (Or.inl rfl) ?_ | refine And.intro (Or.inr (Exists.intro _ (And.intro rfl (Fz.refl _)))) ?_ | refine And.intro (Or.inr (Exists.intro _ (And.intro rfl (fz_eq (congrArg (AV.int _) (by omega)))))) ?_ | refine And.intro (Or.inr (Exists.intro _ (And.intro rfl (fz_eq (congrArg (AV.own _ _ _) (by (try dsimp only); (try simp only [List.length_append, List.length_map, List.length_cons, List.length_nil, List.length_take, List.length_set, List.length_replicate]); (try dsimp only); first | done | omega)))))) ?_))) (Sub.refl _) (by omega) (by omega)
    · rw [if_pos (by omega)] at htk
      have hgl := gapN_le (a + (ptsB a (ps.take i)).length) sz hz
      (first | refine au ?_ | exact au0 | fail)
      rw [hg]
      (first | refine au ?_ | exact au0 | fail)
      first | refine callF_eq (r2_Gap_spec (a + (ptsB a (ps.take i)).length) sz hz (by omega) _) ?_ | refine callG_eq rfl (r2_Gap_spec (a + (ptsB a (ps.take i)).length) sz hz (by omega) _) ?_
      (first | refine au ?_ | exact au0 | fail)
      rw [hg]
      (first | refine au ?_ | exact au0 | fail)
      exact nextS (S := Nat) (i + 1) (by (try dsimp only); rw [htk, List.length_append, numB_len, ← Nat.add_assoc]; exact (by repeat (first | exact trivial | refine And.intro (Or.inl rfl) ?_ | refine And.intro (Or.inr (Exists.intro _ (And.intro rfl (Fz.refl _)))) ?_ | refine And.intro (Or.inr (Exists.intro _ (And.intro rfl (fz_eq (congrArg (AV.int _) (by omega)))))) ?_ | refine And.intro (Or.inr (Exists.intro _ (And.intro rfl (fz_eq (congrArg (AV.own _ _ _) (by (try dsimp only); (try simp only [List.length_append, List.length_map, List.length_cons, List.length_nil, List.length_take, List.length_set, List.length_replicate]); (try dsimp only); first | done | omega)))))) ?_))) (Sub.refl _) (by omega) (by omega)
  · rw [List.take_of_length_le (by omega)]
    (first | refine au ?_ | exact au0 | fail)
    exact ⟨fz_of, sub_of⟩
theorem r10_Bytes_spec (ps : List Pt) (hok : ∀ p ∈ ps, PtOk p) (hl : ps.length ≤ 100000) (H : AH) : ACalls PG broadsheetref10_Bytes.n [.rows 3 (ps.map ptR)] H fun r H' => r = .str (ptsB 0 ps) ∧ H' = H := by
  have hlm : (ps.map ptR).length = ps.length := by simp
  refine ACalls.fz (broadsheetref10_Bytes.of rfl (wpF_start ?_))
  (first | refine au ?_ | exact au0 | fail)
  refine loopM (S := Nat) [(0, some _)] (fun i => [(4, some (.int .i64 (i : Nat))), (3, some (.str (ptsB 0 (ps.take i))))]) (fun _ => H) (fun i => ps.length - i) (fun i => i ≤ ps.length) 0 (by simp only [List.take_zero, ptsB]; exact (by repeat (first | exact trivial | refine And.intro (Or.inl rfl) ?_ | refine And.intro (Or.inr (Exists.intro _ (And.intro rfl (Fz.refl _)))) ?_ | refine And.intro (Or.inr (Exists.intro _ (And.intro rfl (fz_eq (congrArg (AV.int _) (by omega)))))) ?_ | refine And.intro (Or.inr (Exists.intro _ (And.intro rfl (fz_eq (congrArg (AV.own _ _ _) (by (try dsimp only); (try simp only [List.length_append, List.length_map, List.length_cons, List.length_nil, List.length_take, List.length_set, List.length_replicate]); (try dsimp only); first | done | omega)))))) ?_))) (Sub.refl _) (by omega) (fun i hi => ?_)
  have hb := ptsB_len (ps.take i) 0 (fun p hp => hok p (List.mem_of_mem_take hp))
  rw [List.length_take] at hb
  (first | refine au ?_ | exact au0 | fail)
  refine bsplit_dec (fun c => ?_) (fun c => ?_)
  · have hil : i < ps.length := by omega
    have hg := row_get (f := ptR) hil
    have htk := ptsB_take (a := 0) hil
    have hpk := hok _ (List.getElem_mem hil)
    generalize ps[i] = p at *
    obtain ⟨sz, num, tx⟩ := p
    obtain ⟨hp1, hp2⟩ := hpk
    dsimp only at hp1 hp2
    unfold ptB at htk
    dsimp only at htk
    (first | refine au ?_ | exact au0 | fail)
    rw [hg]
    (first | refine au ?_ | exact au0 | fail)
    rcases hp1 with hz | ⟨hz, hnz⟩
    · rw [if_neg (by omega)] at htk
      (first | refine au ?_ | exact au0 | fail)
      rw [hg]
      (first | refine au ?_ | exact au0 | fail)
      exact nextS (S := Nat) (i + 1) (by (try dsimp only); rw [htk]; exact (by repeat (first | exact trivial | refine And.intro (Or.inl rfl) ?_ | refine And.intro (Or.inr (Exists.intro _ (And.intro rfl (Fz.refl _)))) ?_ | refine And.intro (Or.inr (Exists.intro _ (And.intro rfl (fz_eq (congrArg (AV.int _) (by omega)))))) ?_ | refine And.intro (Or.inr (Exists.intro _ (And.intro rfl (fz_eq (congrArg (AV.own _ _ _) (by (try dsimp only); (try simp only [List.length_append, List.length_map, List.length_cons, List.length_nil, List.length_take, List.length_set, List.length_replicate]); (try dsimp only); first | done | omega)))))) ?_))) (Sub.refl _) (by omega) (by omega)
    · rw [if_pos (by omega), Nat.zero_add] at htk
      have hpn : num < 18446744073709551616 := by rcases hz with rfl | rfl | rfl | rfl <;> omega
      (first | refine au ?_ | exact au0 | fail)
      rw [hg]
      (first | refine au ?_ | exact au0 | fail)
      rw [hg]
      (first | refine au ?_ | exact au0 | fail)
      refine callG_no ?_ (r2_Put_spec (ptsB 0 (ps.take i)) num sz hz hnz hpn (by omega) _) ?_
      · exact (Cl.tup _ fun v hv => by
          simp only [List.mem_cons, List.not_mem_nil, or_false] at hv
          rcases hv with rfl | rfl
          · exact .str _
          · exact .int _ _).noId
      (first | refine au ?_ | exact au0 | fail)
      exact nextS (S := Nat) (i + 1) (by (try dsimp only); rw [htk]; exact (by repeat (first | exact trivial | refine And.intro (Or.inl rfl) ?_ | refine And.intro (Or.inr (Exists.intro _ (And.intro rfl (Fz.refl _)))) ?_ | refine And.intro (Or.inr (Exists.intro _ (And.intro rfl (fz_eq (congrArg (AV.int _) (by omega)))))) ?_ | refine And.intro (Or.inr (Exists.intro _ (And.intro rfl (fz_eq (congrArg (AV.own _ _ _) (by (try dsimp only); (try simp only [List.length_append, List.length_map, List.length_cons, List.length_nil, List.length_take, List.length_set, List.length_replicate]); (try dsimp only); first | done | omega)))))) ?_))) (Sub.refl _) (by omega) (by omega)
  · rw [List.take_of_length_le (by omega)]
    (first | refine au ?_ | exact au0 | fail)
    exact ⟨fz_of, sub_of⟩
theorem r10_row (l : List Ty) (hl : TysOk l) (t : Int) (v : Vl) (hok : vOk v) (hg : vGreat v ≤ 20000) (h : fitQ l t v = 0) :
    (ACalls PG broadsheetref10_Row.n [tysA l, .int .i64 t, vlA v] [] fun r _ => r = .rows 3 ((rowV l t v).map ptR)) ∧ (∀ p ∈ rowV l t v, PtOk p) ∧ (rowV l t v).length ≤ 40000 ∧ ∀ a, ptsB a (rowV l t v) = encV l t v a := by
  obtain ⟨⟨t0, t1, hv⟩, hf⟩ := fitQ_0 h
  have he := rowV_enc hv _ v (Nat.lt_succ_self _) t t0 t1 hf
  exact ⟨Row_spec l hl hv _ v (Nat.lt_succ_self _) hok hg t t0 t1 hf, (he 0).2, by have := rowV_len l t v; omega, fun a => (he a).1⟩
theorem r9_Fits_specQ (l : List Ty) (hl : TysOk l) (t : Int) (v : Vl) (hok : vOk v) (H : AH) : ACalls PG broadsheetref09_Fits.n [tysA l, .int .i64 t, vlA v] H fun r H' => r = .int .i64 (fitQ l t v) ∧ H' = H := r9_Fits_spec l hl t v hok H
theorem r10_Put_spec (l : List Ty) (hl : TysOk l) (t : Int) (v : Vl) (hok : vOk v) (hg : vGreat v ≤ 20000) (H : AH) : ACalls PG broadsheetref10_Put.n [tysA l, .int .i64 t, vlA v] H fun r H' => r = .tup [.str (putQ l t v).1, .int .i64 (putQ l t v).2] ∧ H' = H := by
  refine ACalls.frame (ACalls.fzK (broadsheetref10_Put.of rfl (wpF_start ?_))) H
  have hfs := fun H => r9_Fits_specQ l hl t v hok H
  have hr := fun (h : fitQ l t v = 0) => r10_row l hl t v hok hg h
  unfold putQ
  generalize encV l t v = E at *
  generalize rowV l t v = R at *
  generalize fitQ l t v = q at *
  obtain ⟨k, n, x, vs⟩ := v
  (first | refine au ?_ | exact au0 | fail)
  intro id5 hid5 ht5; have n5 := neAll_of hid5; (try simp only [neAll, neAll_hset] at n5); have m5 := n5; (repeat (obtain ⟨_, m5⟩ := m5))
  (first | refine au ?_ | exact au0 | fail)
  first | refine callF_eq (hfs _) ?_ | refine callG_eq rfl (hfs _) ?_
  (first | refine au ?_ | exact au0 | fail)
  refine bsplit_dec (fun c => ?_) (fun c => ?_)
  · rw [if_pos c]
    (first | refine au ?_ | exact au0 | fail)
    exact fz_of
  · have c := Classical.not_not.1 c
    rw [if_neg (by simp [c])]
    obtain ⟨h1, h2, h3, h4⟩ := hr c
    have he := fun H => r10_End_spec R h2 (by omega) 0 (by omega) H
    rw [h4, Nat.zero_add] at he
    (first | refine au ?_ | exact au0 | fail)
    first | refine callF_eq (h1.frame _) ?_ | refine callG_eq rfl (h1.frame _) ?_
    (first | refine au ?_ | exact au0 | fail)
    first | refine callF_eq (he _) ?_ | refine callG_eq rfl (he _) ?_
    (first | refine au ?_ | exact au0 | fail)
    refine bsplit_dec (fun c2 => ?_) (fun c2 => ?_)
    · rw [if_pos (by omega)]
      (first | refine au ?_ | exact au0 | fail)
      exact fz_of
    · rw [if_neg (by omega)]
      have hb := fun H => r10_Bytes_spec R h2 (by omega) H
      rw [h4] at hb
      (first | refine au ?_ | exact au0 | fail)
      first | refine callF_eq (hb _) ?_ | refine callG_eq rfl (hb _) ?_
      (first | refine au ?_ | exact au0 | fail)
      exact fz_of
end Go.Proofs.YtmjdkeonjflanaaGreat

/- Shapes of types, a level at a time; for types that hold themselves. -/
namespace Go.Proofs.YtmjdkeonjflanaaGreat
set_option autoImplicit false
set_option linter.unusedVariables false
section
variable {P : Program} {rc : Bool} {n : Nat} {t e : TypeId}
def flOf (P : Program) (t : TypeId) : Option (List (Nat × Nat)) := match P.underlying t with
  | some (.struct fs) => some (fs.toList.map fun f => (f.offset, f.type))
  | _ => none
def slOf (P : Program) (t : TypeId) : Option TypeId := match P.underlying t with
  | some (.slice e) => some e
  | _ => none
def inOf (P : Program) (t : TypeId) : Option IntKind := match P.underlying t with
  | some (.int k) => some k
  | _ => none
def boOf (P : Program) (t : TypeId) : Bool := match P.underlying t with
  | some .bool => true
  | _ => false
def stOf (P : Program) (t : TypeId) : Bool := match P.underlying t with
  | some .string => true
  | _ => false
/-- Fields, one behind the other: each with its offset, cells and type. -/
def fsh (sh : TypeId → Option Sh) : List (Nat × Nat × Nat) → Option Sh
  | [] => some .u
  | (_, _, t) :: r => (sh t).bind fun a => (fsh sh r).map (.p a)
def flC (P : Program) (t : TypeId) : Option (List (Nat × Nat × Nat)) := (flOf P t).map fun l => l.map fun x => (x.1, P.cellsOf x.2, x.2)
def offB : Nat → Nat → List (Nat × Nat × Nat) → Bool
  | tot, o, [] => Nat.beq o tot
  | tot, o, (a, c, _) :: r => Nat.beq a o && offB tot (o + c) r
theorem fsh_of (sh : TypeId → Option Sh) : ∀ (fs : List Field) (tot o : Nat), offB tot o (fs.map fun f => (f.offset, P.cellsOf f.type, f.type)) = true → fieldsSh P sh tot o fs = fsh sh (fs.map fun f => (f.offset, P.cellsOf f.type, f.type))
  | [], tot, o, h => by
    have : o = tot := Nat.eq_of_beq_eq_true h
    simp [fieldsSh, fsh, this]
  | f :: fs, tot, o, h => by
    simp only [List.map_cons, offB, Bool.and_eq_true] at h
    have h1 : f.offset = o := Nat.eq_of_beq_eq_true h.1
    have := fsh_of sh fs tot (o + P.cellsOf f.type) h.2
    simp only [fieldsSh, fsh, List.map_cons, if_pos h1, this]
theorem shO_struct {l : List (Nat × Nat × Nat)} (h : flC P t = some l) (ho : offB (P.cellsOf t) 0 l = true) : shO rc P (n + 1) t = fsh (shO rc P n) l := by
  unfold flC flOf at h
  split at h
  · rename_i fs hu
    simp only [Option.map_some, List.map_map, Option.some.injEq] at h
    subst h
    simp only [shO, hu]
    exact fsh_of _ _ _ _ ho
  · cases h
theorem shO_slice {c b : Nat} (h : slOf P t = some e) (hc : P.cellsOf e = c) (hb : P.bytesOf e = b) (h0 : 0 < c) : shO rc P (n + 1) t = (shO rc P n e).map (.slice c b) := by
  unfold slOf at h
  split at h
  · rename_i hu
    simp only [Option.some.injEq] at h
    subst h
    simp only [shO, hu, hc, hb, if_pos h0]
  · cases h
theorem shO_int {k : IntKind} (h : inOf P t = some k) : shO rc P (n + 1) t = some (.int k) := by
  unfold inOf at h
  split at h
  · rename_i hu
    simp only [Option.some.injEq] at h
    subst h
    simp only [shO, hu]
  · cases h
theorem shO_bool (h : boOf P t = true) : shO rc P (n + 1) t = some .bool := by
  unfold boOf at h
  split at h
  · rename_i hu
    simp only [shO, hu]
  · cases h
theorem shO_str (h : stOf P t = true) : shO rc P (n + 1) t = some .str := by
  unfold stOf at h
  split at h
  · rename_i hu
    simp only [shO, hu]
  · cases h
theorem fsh_some {sh : TypeId → Option Sh} : ∀ {l : List (Nat × Nat × Nat)}, (∀ x ∈ l, ∃ a, sh x.2.2 = some a) → ∃ a, fsh sh l = some a
  | [], _ => ⟨_, rfl⟩
  | x :: l, h => by
    obtain ⟨a, ha⟩ := h x List.mem_cons_self
    obtain ⟨b, hb⟩ := fsh_some (l := l) fun y hy => h y (List.mem_cons_of_mem _ hy)
    exact ⟨_, by simp only [fsh, ha, hb, Option.bind_some, Option.map_some]; rfl⟩
/-- A set of types that is closed has shapes at each depth. -/
def clB (P : Program) (S : List Nat) : Bool := S.all fun t => match P.underlying t with
  | some .bool => true
  | some (.int _) => true
  | some .string => true
  | some (.struct fs) => (match flC P t with
    | some l => offB (P.cellsOf t) 0 l && l.all (fun x => S.contains x.2.2)
    | none => false)
  | some (.slice e) => Nat.ble 1 (P.cellsOf e) && S.contains e
  | _ => false
theorem clB_some {S : List Nat} (h : clB P S = true) : ∀ (n : Nat) (t : Nat), t ∈ S → ∃ sh, shO true P n t = some sh
  | 0, t, _ => ⟨.no, rfl⟩
  | n + 1, t, ht => by
    have q := List.all_eq_true.1 h t ht
    have ih := clB_some h n
    split at q <;> rename_i hu
    · exact ⟨_, by simp only [shO, hu]; rfl⟩
    · exact ⟨_, by simp only [shO, hu]; rfl⟩
    · exact ⟨_, by simp only [shO, hu]; rfl⟩
    · split at q
      · rename_i l hl
        simp only [Bool.and_eq_true, List.all_eq_true, List.contains_iff_mem] at q
        rw [shO_struct hl q.1]
        exact fsh_some fun x hx => ih _ (q.2 x hx)
      · cases q
    · simp only [Bool.and_eq_true, List.contains_iff_mem] at q
      obtain ⟨a, ha⟩ := ih _ q.2
      exact ⟨_, by simp only [shO, hu, if_pos (show 0 < P.cellsOf _ from Nat.le_of_ble_eq_true q.1), ha, Option.map_some]; rfl⟩
    · cases q
end
section
variable {P : Program} {m : Nat} {t e : TypeId} {a sh : Sh} {x vs : List AV}
theorem okInt {k : IntKind} (h : inOf P t = some k) (hs : shO true P m t = some a) (ho : a.OkN x) : ∃ n, x = [.int k n] ∧ k.min ≤ n ∧ n ≤ k.max := by
  cases m with
  | zero => simp only [shO, if_true, Option.some.injEq] at hs; subst hs; exact ho.elim
  | succ m =>
    rw [shO_int h] at hs
    simp only [Option.some.injEq] at hs; subst hs
    obtain ⟨n, h1, h2⟩ := ho
    simp only [Lit.wf, Bool.and_eq_true, decide_eq_true_eq] at h2
    exact ⟨n, h1, h2⟩
theorem okU64 (h : inOf P t = some .u64) (hs : shO true P m t = some a) (ho : a.OkN x) : ∃ n : Nat, x = [.int .u64 (n : Nat)] ∧ n < 18446744073709551616 := by
  obtain ⟨n, h1, h2, h3⟩ := okInt h hs ho
  have e1 : IntKind.min .u64 = 0 := rfl
  have e2 : IntKind.max .u64 = 18446744073709551615 := rfl
  rw [e1] at h2; rw [e2] at h3
  exact ⟨n.toNat, by rw [h1, Int.toNat_of_nonneg h2], by omega⟩
theorem okI64 (h : inOf P t = some .i64) (hs : shO true P m t = some a) (ho : a.OkN x) : ∃ n : Int, x = [.int .i64 n] ∧ -9223372036854775808 ≤ n ∧ n ≤ 9223372036854775807 := okInt h hs ho
theorem okU8 (h : inOf P t = some .u8) (hs : shO true P m t = some a) (ho : a.OkN x) : ∃ n : UInt8, x = [.int .u8 (n.toNat : Nat)] := by
  obtain ⟨n, h1, h2, h3⟩ := okInt h hs ho
  have e1 : IntKind.min .u8 = 0 := rfl
  have e2 : IntKind.max .u8 = 255 := rfl
  rw [e1] at h2; rw [e2] at h3
  refine ⟨UInt8.ofNat n.toNat, ?_⟩
  rw [h1, UInt8.toNat_ofNat', show n.toNat % 2 ^ 8 = n.toNat from by omega, Int.toNat_of_nonneg h2]
theorem okBool (h : boOf P t = true) (hs : shO true P m t = some a) (ho : a.OkN x) : ∃ b, x = [.bool b] := by
  cases m with
  | zero => simp only [shO, if_true, Option.some.injEq] at hs; subst hs; exact ho.elim
  | succ m =>
    rw [shO_bool h] at hs
    simp only [Option.some.injEq] at hs; subst hs
    exact ho
theorem okStr (h : stOf P t = true) (hs : shO true P m t = some a) (ho : a.OkN x) : ∃ l : List UInt8, x = [.str l] ∧ l.length ≤ 140737488351232 := by
  cases m with
  | zero => simp only [shO, if_true, Option.some.injEq] at hs; subst hs; exact ho.elim
  | succ m =>
    rw [shO_str h] at hs
    simp only [Option.some.injEq] at hs; subst hs
    exact ho
theorem okSlice {c b : Nat} (h : slOf P t = some e) (hc : P.cellsOf e = c) (hb : P.bytesOf e = b) (h0 : 0 < c) (hs : shO true P m t = some a) (ho : a.OkN x) :
    ∃ l, x = [.rows c l] ∧ l.length * b ≤ 140737488351232 ∧ ∃ k a', m = k + 1 ∧ shO true P k e = some a' ∧ ∀ r ∈ l, a'.OkN r := by
  cases m with
  | zero => simp only [shO, if_true, Option.some.injEq] at hs; subst hs; exact ho.elim
  | succ m =>
    rw [shO_slice h hc hb h0] at hs
    simp only [Option.map_eq_some_iff] at hs
    obtain ⟨a', h1, rfl⟩ := hs
    obtain ⟨l, h2, h3, h4⟩ := ho
    exact ⟨l, h2, h3, m, a', rfl, h1, h4⟩
theorem okStruct {l : List (Nat × Nat × Nat)} (h : flC P t = some l) (ho : offB (P.cellsOf t) 0 l = true) (hs : shO true P m t = some a) (hk : a.OkN x) : ∃ k, m = k + 1 ∧ fsh (shO true P k) l = some a := by
  cases m with
  | zero => simp only [shO, if_true, Option.some.injEq] at hs; subst hs; exact hk.elim
  | succ m => exact ⟨m, rfl, by rw [← shO_struct h ho]; exact hs⟩
theorem okCons {s : TypeId → Option Sh} {o c : Nat} {r : List (Nat × Nat × Nat)} (h : fsh s ((o, c, t) :: r) = some sh) (hk : sh.OkN vs) :
    ∃ a x b y, s t = some a ∧ a.OkN x ∧ fsh s r = some b ∧ b.OkN y ∧ vs = x ++ y := by
  simp only [fsh, Option.bind_eq_some_iff, Option.map_eq_some_iff] at h
  obtain ⟨a, h1, b, h2, rfl⟩ := h
  obtain ⟨x, y, h3, h4, h5⟩ := hk
  exact ⟨a, x, b, y, h1, h4, h2, h5, h3⟩
theorem okNil {s : TypeId → Option Sh} (h : fsh s [] = some sh) (hk : sh.OkN vs) : vs = [] := by
  simp only [fsh, Option.some.injEq] at h
  subst h; exact hk
end
/-- Rows that each stand for something. -/
theorem rows_of {α : Type} {f : α → List AV} {Q : α → Prop} : ∀ {l : List (List AV)}, (∀ r ∈ l, ∃ x, r = f x ∧ Q x) → ∃ xs : List α, l = xs.map f ∧ ∀ x ∈ xs, Q x
  | [], _ => ⟨[], rfl, by simp⟩
  | r :: l, h => by
    obtain ⟨x, h1, h2⟩ := h r List.mem_cons_self
    obtain ⟨xs, h3, h4⟩ := rows_of (l := l) fun r hr => h r (List.mem_cons_of_mem _ hr)
    refine ⟨x :: xs, by rw [h1, h3]; rfl, fun y hy => ?_⟩
    rcases List.mem_cons.1 hy with rfl | hy
    · exact h2
    · exact h4 y hy
end Go.Proofs.YtmjdkeonjflanaaGreat

/- Arguments that are types, values, numbers. -/
namespace Go.Proofs.YtmjdkeonjflanaaGreat
set_option autoImplicit false
set_option linter.unusedSimpArgs false
set_option linter.unusedVariables false
theorem item_fl : flC PG ty_api_Item = some [(0, 1, ty_string), (1, 1, ty_uint64), (2, 1, ty_int), (3, 1, ty_bool), (4, 1, ty_bool)] := by kernel_rfl
theorem type_fl : flC PG ty_api_Type = some [(0, 1, ty_int), (1, 1, ty_string), (2, 1, ty_int), (3, 1, ty_int), (4, 1, ty_int), (5, 1, ty_S_api_Item)] := by kernel_rfl
theorem value_fl : flC PG ty_api_Value = some [(0, 1, ty_int), (1, 1, ty_uint64), (2, 1, ty_string), (3, 1, ty_S_api_Value)] := by kernel_rfl
theorem item_of {m : Nat} {sh : Sh} {vs : List AV} (hs : shO true PG m ty_api_Item = some sh) (hk : sh.OkN vs) : ∃ x : It, vs = itR x ∧ x.nm.length ≤ 140737488351232 ∧ x.num < 18446744073709551616 := by
  obtain ⟨k, rfl, h1⟩ := okStruct item_fl (by kernel_rfl) hs hk
  obtain ⟨_, _, _, _, a1, a2, h2, k2, rfl⟩ := okCons h1 hk
  obtain ⟨_, _, _, _, b1, b2, h3, k3, rfl⟩ := okCons h2 k2
  obtain ⟨_, _, _, _, c1, c2, h4, k4, rfl⟩ := okCons h3 k3
  obtain ⟨_, _, _, _, d1, d2, h5, k5, rfl⟩ := okCons h4 k4
  obtain ⟨_, _, _, _, e1, e2, h6, k6, rfl⟩ := okCons h5 k5
  have := okNil h6 k6; subst this
  obtain ⟨s, rfl, hs⟩ := okStr (by kernel_rfl) a1 a2
  obtain ⟨u, rfl, hu⟩ := okU64 (by kernel_rfl) b1 b2
  obtain ⟨n, rfl, _⟩ := okI64 (by kernel_rfl) c1 c2
  obtain ⟨b, rfl⟩ := okBool (by kernel_rfl) d1 d2
  obtain ⟨b', rfl⟩ := okBool (by kernel_rfl) e1 e2
  exact ⟨⟨s, u, n, b, b'⟩, rfl, hs, hu⟩
theorem type_of {m : Nat} {sh : Sh} {vs : List AV} (hs : shO true PG m ty_api_Type = some sh) (hk : sh.OkN vs) : ∃ t : Ty, vs = tyR t ∧ TyOk t := by
  obtain ⟨k, rfl, h1⟩ := okStruct type_fl (by kernel_rfl) hs hk
  obtain ⟨_, _, _, _, a1, a2, h2, k2, rfl⟩ := okCons h1 hk
  obtain ⟨_, _, _, _, b1, b2, h3, k3, rfl⟩ := okCons h2 k2
  obtain ⟨_, _, _, _, c1, c2, h4, k4, rfl⟩ := okCons h3 k3
  obtain ⟨_, _, _, _, d1, d2, h5, k5, rfl⟩ := okCons h4 k4
  obtain ⟨_, _, _, _, e1, e2, h6, k6, rfl⟩ := okCons h5 k5
  obtain ⟨_, _, _, _, f1, f2, h7, k7, rfl⟩ := okCons h6 k6
  have := okNil h7 k7; subst this
  obtain ⟨kd, rfl, _⟩ := okI64 (by kernel_rfl) a1 a2
  obtain ⟨s, rfl, hs⟩ := okStr (by kernel_rfl) b1 b2
  obtain ⟨bd, rfl, _⟩ := okI64 (by kernel_rfl) c1 c2
  obtain ⟨el, rfl, _⟩ := okI64 (by kernel_rfl) d1 d2
  obtain ⟨tg, rfl, _⟩ := okI64 (by kernel_rfl) e1 e2
  obtain ⟨l, rfl, hl, k1, s1, _, h3', h4'⟩ := okSlice (e := ty_api_Item) (c := 5) (b := 40) (by kernel_rfl) (by kernel_rfl) (by kernel_rfl) (by decide) f1 f2
  obtain ⟨its, rfl, hi⟩ := rows_of (f := itR) fun r hr => item_of h3' (h4' r hr)
  rw [List.length_map] at hl
  exact ⟨⟨kd, s, bd, el, tg, its⟩, rfl, hs, by show its.length ≤ _; omega, fun x hx => (hi x hx).1, fun x hx => (hi x hx).2⟩
theorem value_of : ∀ (m : Nat) {sh : Sh} {vs : List AV} (_ : shO true PG m ty_api_Value = some sh) (_ : sh.OkN vs), ∃ v : Vl, vs = vlR v ∧ vOk v := by
  intro m
  induction m using Nat.strongRecOn with
  | _ m ih =>
  intro sh vs hs hk
  obtain ⟨k, rfl, h1⟩ := okStruct value_fl (by kernel_rfl) hs hk
  obtain ⟨_, _, _, _, a1, a2, h2, k2, rfl⟩ := okCons h1 hk
  obtain ⟨_, _, _, _, b1, b2, h3, k3, rfl⟩ := okCons h2 k2
  obtain ⟨_, _, _, _, c1, c2, h4, k4, rfl⟩ := okCons h3 k3
  obtain ⟨_, _, _, _, d1, d2, h5, k5, rfl⟩ := okCons h4 k4
  have := okNil h5 k5; subst this
  obtain ⟨kd, rfl, _⟩ := okI64 (by kernel_rfl) a1 a2
  obtain ⟨u, rfl, hu⟩ := okU64 (by kernel_rfl) b1 b2
  obtain ⟨s, rfl, hs⟩ := okStr (by kernel_rfl) c1 c2
  obtain ⟨l, rfl, hl, k1, s1, e2, h5', h6'⟩ := okSlice (e := ty_api_Value) (c := 4) (b := 56) (by kernel_rfl) (by kernel_rfl) (by kernel_rfl) (by decide) d1 d2
  obtain ⟨its, rfl, hi⟩ := rows_of (f := vlR) fun r hr => ih k1 (by omega) h5' (h6' r hr)
  rw [List.length_map] at hl
  exact ⟨.mk kd u s its, by rw [vlR, vlRs_map]; rfl, hu, hs, by omega, vOks_of hi⟩
def Shapes.ValS : List Nat := [ty_api_Value, ty_int, ty_uint64, ty_string, ty_S_api_Value]
def Shapes.TypS : List Nat := [ty_S_api_Type, ty_api_Type, ty_int, ty_uint64, ty_string, ty_bool, ty_S_api_Item, ty_api_Item]
theorem value_sh : ∀ n, ∃ sh, shO true PG n ty_api_Value = some sh := fun n => clB_some (S := Shapes.ValS) (by kernel_rfl) n _ (by simp [Shapes.ValS])
theorem types_sh : ∀ n, ∃ sh, shO true PG n ty_S_api_Type = some sh := fun n => clB_some (S := Shapes.TypS) (by kernel_rfl) n _ (by simp [Shapes.TypS])
theorem int_sh : ∀ n, ∃ sh, shO true PG n ty_int = some sh := fun n => clB_some (S := Shapes.TypS) (by kernel_rfl) n _ (by simp [Shapes.TypS])
theorem value_arg {av : AV} (h : ∃ n sh, shO true PG n ty_api_Value = some sh ∧ ArgOk true sh av) : ∃ v : Vl, Nw av (vlA v) ∧ vOk v := by
  obtain ⟨n, sh, h1, h2⟩ := h
  obtain ⟨av', h3, h4⟩ := h2.nonil
  obtain ⟨vs, rfl, h5⟩ := h3
  obtain ⟨x, rfl, h6⟩ := value_of n h1 h5
  exact ⟨x, h4, h6⟩
theorem types_arg {av : AV} (h : ∃ n sh, shO true PG n ty_S_api_Type = some sh ∧ ArgOk false sh av) : ∃ l : List Ty, Nw av (tysA l) ∧ TysOk l := by
  obtain ⟨n, sh, h1, h2⟩ := h
  obtain ⟨av', h3, h4⟩ := h2.nonil
  obtain ⟨l, e, hl, k1, s1, e2, h5', h6'⟩ := okSlice (e := ty_api_Type) (c := 6) (b := 72) (by kernel_rfl) (by kernel_rfl) (by kernel_rfl) (by decide) h1 h3
  obtain ⟨ts, rfl, hi⟩ := rows_of (f := tyR) fun r hr => type_of h5' (h6' r hr)
  rw [List.length_map] at hl
  simp only [List.cons.injEq, and_true] at e
  subst e
  exact ⟨ts, h4, by omega, hi⟩
theorem int_arg {av : AV} (h : ∃ n sh, shO true PG n ty_int = some sh ∧ ArgOk false sh av) : ∃ n : Int, av = .int .i64 n ∧ -9223372036854775808 ≤ n ∧ n ≤ 9223372036854775807 := by
  obtain ⟨n, sh, h1, h2⟩ := h
  obtain ⟨av', h3, h4⟩ := h2.nonil
  obtain ⟨k, e, h5⟩ := okI64 (by kernel_rfl) h1 h3
  simp only [List.cons.injEq, and_true] at e
  subst e
  cases h4 with
  | refl _ => exact ⟨k, rfl, h5⟩
end Go.Proofs.YtmjdkeonjflanaaGreat

/- The law 'FitsTells', walked. -/
namespace Go.Proofs.YtmjdkeonjflanaaGreat
set_option autoImplicit false
set_option linter.unusedSimpArgs false
set_option linter.unusedVariables false
attribute [local irreducible] callA callP ACalls
theorem nw_leaf (k : Int) (n : Nat) (t : List UInt8) : Nw (.agg [.int .i64 k, .int .u64 (n : Nat), .str t, .nilS]) (vlA (.mk k n t [])) := by
  have q : NwL [.int .i64 k, .int .u64 (n : Nat), .str t, .nilS] (vlR (.mk k n t [])) := .cons (.refl _) (.cons (.refl _) (.cons (.refl _) (.cons (.nil 4) (.refl _))))
  exact .agg _ _ q.1 q.2
/-- The example's types. -/
def awL : List Ty := [⟨9, [69], 0, 0, 0, [⟨[97], 0, 0, false, false⟩, ⟨[98], 1, 0, false, false⟩]⟩]
theorem awL_ok : TysOk awL := ⟨by decide, by
  intro t ht
  simp only [awL, List.mem_singleton] at ht
  subst ht
  exact ⟨by decide, by decide, by simp, by simp⟩⟩
theorem aw2 : (if 0 ≤ (0 : Int) ∧ (0 : Int) < awL.length ∧ (tyChk awL).1 = 0 then fitE awL 0 (.mk 9 2 [] []) else 8) = 7 := by kernel_rfl
theorem aw1 : (if 0 ≤ (0 : Int) ∧ (0 : Int) < awL.length ∧ (tyChk awL).1 = 0 then fitE awL 0 (.mk 9 1 [] []) else 8) = 0 := by kernel_rfl
end Go.Proofs.YtmjdkeonjflanaaGreat

/- Each function's translation is, by reckoning, the abstract code that is written out here; its contract follows from the predicate transformer over that code. -/
namespace Go.Proofs.YtmjdkeonjflanaaGreat
set_option autoImplicit false
set_option maxRecDepth 100000
abbrev ty_A2_int : Nat := 27
abbrev ty_A17_uint8 : Nat := 92
abbrev ty_A10_prim_row : Nat := 232
abbrev ty_A0_P_runtime_PanicNilError : Nat := 268
def broadsheetlaw10_PutTells.n : Nat := 3
noncomputable def broadsheetlaw10_PutTells.c : C := (.seq (.reg [⟨(some 4), none, (.box 26 (.t 1))⟩, ⟨(some 5), none, (.box 27 (.t 2))⟩, ⟨(some 6), none, (.mv (.c (.bool false)))⟩]) (.seq (.seq (.reg [⟨(some 15), none, (.mv (.t 0))⟩, ⟨(some 16), none, (.call 6 [(.t 15)])⟩, ⟨(some 17), none, (.mv (.t 16))⟩, ⟨(some 18), (some (17, false)), (.load (some 4) (.t 4))⟩, ⟨(some 19), (some (17, false)), (.call 7 [(.t 18), (.c (.int .i64 0))])⟩, ⟨(some 20), none, (.pick (.t 17) (.c (.bool true)) (.t 19))⟩]) (.cond (.t 20) (.seq (.reg [⟨(some 21), none, (.call 8 [])⟩, ⟨(some 6), none, (.mv (.t 21))⟩]) .ret) .skip)) (.seq (.dreg [⟨(some 22), none, (.iarr 2 1 (.t 5) (.c (.int .i64 0)))⟩, ⟨(some 23), none, (.load none (.t 22))⟩, ⟨(some 24), none, (.iarr 2 1 (.t 5) (.c (.int .i64 1)))⟩, ⟨(some 25), none, (.load none (.t 24))⟩, ⟨(some 7), none, (.mv (.t 23))⟩] [⟨(some 8), none, (.mv (.t 25))⟩]) (.seq (.reg [⟨(some 27), none, (.mv (.t 0))⟩, ⟨(some 28), none, (.mv (.t 7))⟩, ⟨(some 29), none, (.load (some 4) (.t 4))⟩, ⟨(some 30), none, (.call 9 [(.t 27), (.t 28), (.t 29)])⟩, ⟨(some 26), none, (.mv (.t 30))⟩, ⟨(some 31), none, (.extr (.t 26) 0)⟩, ⟨(some 32), none, (.extr (.t 26) 1)⟩, ⟨(some 9), none, (.mv (.t 31))⟩, ⟨(some 10), none, (.mv (.t 32))⟩]) (.seq (.reg [⟨(some 34), none, (.mv (.t 0))⟩, ⟨(some 35), none, (.mv (.t 7))⟩, ⟨(some 36), none, (.load (some 4) (.t 4))⟩, ⟨(some 37), none, (.call 10 [(.t 34), (.t 35), (.t 36)])⟩, ⟨(some 33), none, (.mv (.t 37))⟩, ⟨(some 38), none, (.extr (.t 33) 0)⟩, ⟨(some 39), none, (.extr (.t 33) 1)⟩, ⟨(some 11), none, (.mv (.t 38))⟩, ⟨(some 12), none, (.mv (.t 39))⟩]) (.seq (.reg [⟨(some 41), none, (.mv (.t 0))⟩, ⟨(some 42), none, (.mv (.t 7))⟩, ⟨(some 43), none, (.load (some 4) (.t 4))⟩, ⟨(some 44), none, (.mv (.t 8))⟩, ⟨(some 45), none, (.call 11 [(.t 41), (.t 42), (.t 43), (.t 44)])⟩, ⟨(some 40), none, (.mv (.t 45))⟩, ⟨(some 46), none, (.extr (.t 40) 0)⟩, ⟨(some 47), none, (.extr (.t 40) 1)⟩, ⟨(some 13), none, (.mv (.t 46))⟩, ⟨(some 14), none, (.mv (.t 47))⟩]) (.seq (.seq (.reg [⟨(some 48), none, (.mv (.t 9))⟩, ⟨(some 49), none, (.mv (.t 11))⟩, ⟨(some 50), none, (.bin .neq (.t 48) (.t 49))⟩, ⟨(some 51), none, (.mv (.t 50))⟩, ⟨(some 52), (some (51, false)), (.mv (.t 10))⟩, ⟨(some 53), (some (51, false)), (.mv (.t 12))⟩, ⟨(some 54), (some (51, false)), (.bin .neq (.t 52) (.t 53))⟩, ⟨(some 55), none, (.pick (.t 51) (.c (.bool true)) (.t 54))⟩]) (.cond (.t 55) (.seq (.reg [⟨(some 6), none, (.mv (.c (.bool false)))⟩]) .ret) .skip)) (.seq (.seq (.reg [⟨(some 56), none, (.mv (.t 8))⟩, ⟨(some 57), none, (.bin .lss (.t 56) (.c (.int .i64 0)))⟩, ⟨(some 58), none, (.mv (.t 57))⟩, ⟨(some 59), (some (58, false)), (.mv (.t 8))⟩, ⟨(some 60), (some (58, false)), (.bin .gtr (.t 59) (.c (.int .i64 512)))⟩, ⟨(some 61), none, (.pick (.t 58) (.c (.bool true)) (.t 60))⟩]) (.cond (.t 61) (.seq (.reg [⟨(some 62), none, (.mv (.t 13))⟩, ⟨(some 63), none, (.bin .eql (.t 62) (.c (.int .i64 0)))⟩, ⟨(some 64), none, (.mv (.t 63))⟩, ⟨(some 65), (some (64, true)), (.mv (.t 14))⟩, ⟨(some 66), (some (64, true)), (.bin .eql (.t 65) (.c (.int .i64 7)))⟩, ⟨(some 67), none, (.pick (.t 64) (.t 66) (.c (.bool false)))⟩, ⟨(some 68), none, (.mv (.t 67))⟩, ⟨(some 69), (some (68, true)), (.call 8 [])⟩, ⟨(some 70), none, (.pick (.t 68) (.t 69) (.c (.bool false)))⟩, ⟨(some 6), none, (.mv (.t 70))⟩]) .ret) .skip)) (.seq (.seq (.reg [⟨(some 71), none, (.mv (.t 12))⟩, ⟨(some 72), none, (.bin .neq (.t 71) (.c (.int .i64 0)))⟩, ⟨(some 73), none, (.mv (.t 72))⟩, ⟨(some 74), (some (73, true)), (.mv (.t 12))⟩, ⟨(some 75), (some (73, true)), (.bin .neq (.t 74) (.c (.int .i64 3)))⟩, ⟨(some 76), none, (.pick (.t 73) (.t 75) (.c (.bool false)))⟩, ⟨(some 77), none, (.mv (.t 76))⟩, ⟨(some 78), (some (77, false)), (.mv (.t 0))⟩, ⟨(some 79), (some (77, false)), (.mv (.t 7))⟩, ⟨(some 80), (some (77, false)), (.load (some 4) (.t 4))⟩, ⟨(some 81), (some (77, false)), (.call 12 [(.t 78), (.t 79), (.t 80)])⟩, ⟨(some 82), (some (77, false)), (.bin .neq (.t 81) (.c (.int .i64 0)))⟩, ⟨(some 83), none, (.pick (.t 77) (.c (.bool true)) (.t 82))⟩]) (.cond (.t 83) (.seq (.reg [⟨(some 84), none, (.mv (.t 13))⟩, ⟨(some 85), none, (.bin .eql (.t 84) (.c (.int .i64 0)))⟩, ⟨(some 86), none, (.mv (.t 85))⟩, ⟨(some 87), (some (86, true)), (.mv (.t 14))⟩, ⟨(some 88), (some (86, true)), (.mv (.t 12))⟩, ⟨(some 89), (some (86, true)), (.bin .eql (.t 87) (.t 88))⟩, ⟨(some 90), none, (.pick (.t 86) (.t 89) (.c (.bool false)))⟩, ⟨(some 91), none, (.mv (.t 90))⟩, ⟨(some 92), (some (91, true)), (.call 8 [])⟩, ⟨(some 93), none, (.pick (.t 91) (.t 92) (.c (.bool false)))⟩, ⟨(some 6), none, (.mv (.t 93))⟩]) .ret) .skip)) (.seq (.reg [⟨(some 94), none, (.mv (.t 13))⟩, ⟨(some 95), none, (.mv (.t 0))⟩, ⟨(some 96), none, (.mv (.t 7))⟩, ⟨(some 97), none, (.load (some 4) (.t 4))⟩, ⟨(some 98), none, (.call 14 [(.t 95), (.t 96), (.t 97)])⟩, ⟨(some 99), none, (.mv (.t 8))⟩, ⟨(some 100), none, (.call 13 [(.t 98), (.t 99)])⟩, ⟨(some 101), none, (.bin .eql (.t 94) (.t 100))⟩, ⟨(some 102), none, (.mv (.t 101))⟩, ⟨(some 103), (some (102, true)), (.mv (.t 14))⟩, ⟨(some 104), (some (102, true)), (.bin .eql (.t 103) (.c (.int .i64 0)))⟩, ⟨(some 105), none, (.pick (.t 102) (.t 104) (.c (.bool false)))⟩, ⟨(some 106), none, (.mv (.t 105))⟩, ⟨(some 107), (some (106, true)), (.call 8 [])⟩, ⟨(some 108), none, (.pick (.t 106) (.t 107) (.c (.bool false)))⟩, ⟨(some 6), none, (.mv (.t 108))⟩]) .ret))))))))))
theorem broadsheetlaw10_PutTells.code : comp PG [] (Tryz.f3.body.getD .skip) = broadsheetlaw10_PutTells.c := by kernel_rfl
theorem broadsheetlaw10_PutTells.of {args : List AV} {H : AH} {K : AV → AH → Prop} (hl : args.length = 3) (h : wpA PG broadsheetlaw10_PutTells.c none (endA [(.t 6)] K) (initFr args) H) : ACalls PG 3 args H K :=
  ACalls.of_code (fl := []) mixed Tryz.func3 (c := Tryz.f3.body.getD .skip) (by kernel_rfl) (by kernel_rfl) (by rw [hl]; exact of_decide_eq_true (by kernel_rfl)) (by rw [broadsheetlaw10_PutTells.code]; kernel_rfl)
    (by rw [broadsheetlaw10_PutTells.code, show compRes PG Tryz.f3.results.toList = [(.t 6)] from by kernel_rfl]; exact h)
def broadsheetlaw10_awake.n : Nat := 8
noncomputable def broadsheetlaw10_awake.c : C := (.seq (.reg [⟨(some 0), none, (.mv (.c (.bool false)))⟩]) (.seq (.reg [⟨(some 4), none, (.build [(.int .i64 0), (.str []), (.int .i64 0), (.int .i64 0), (.int .i64 0), .nilS] [(0, (1, (.c (.int .i64 10)))), (2, (1, (.c (.int .i64 2))))])⟩, ⟨(some 5), none, (.bslice 69 6 1 [(.int .i64 0), (.str []), (.int .i64 0), (.int .i64 0), (.int .i64 0), .nilS] [(0, (.t 4))])⟩, ⟨(some 6), none, (.build [(.int .i64 0), (.int .u64 0), (.str []), .nilS] [(0, (1, (.c (.int .i64 10)))), (2, (1, (.c (.str [97, 98]))))])⟩, ⟨(some 7), none, (.call 9 [(.t 5), (.c (.int .i64 0)), (.t 6)])⟩, ⟨(some 3), none, (.mv (.t 7))⟩, ⟨(some 8), none, (.extr (.t 3) 0)⟩, ⟨(some 9), none, (.extr (.t 3) 1)⟩, ⟨(some 1), none, (.mv (.t 8))⟩, ⟨(some 2), none, (.mv (.t 9))⟩]) (.seq (.reg [⟨(some 10), none, (.mv (.t 1))⟩, ⟨(some 11), none, (.bin .eql (.t 10) (.c (.str [3, 0, 0, 0, 97, 98, 0])))⟩, ⟨(some 12), none, (.mv (.t 11))⟩, ⟨(some 13), (some (12, true)), (.mv (.t 2))⟩, ⟨(some 14), (some (12, true)), (.bin .eql (.t 13) (.c (.int .i64 0)))⟩, ⟨(some 15), none, (.pick (.t 12) (.t 14) (.c (.bool false)))⟩, ⟨(some 0), none, (.mv (.t 15))⟩]) .ret)))
theorem broadsheetlaw10_awake.code : comp PG [] (Tryz.f8.body.getD .skip) = broadsheetlaw10_awake.c := by kernel_rfl
theorem broadsheetlaw10_awake.of {args : List AV} {H : AH} {K : AV → AH → Prop} (hl : args.length = 0) (h : wpA PG broadsheetlaw10_awake.c none (endA [(.t 0)] K) (initFr args) H) : ACalls PG 8 args H K :=
  ACalls.of_code (fl := []) mixed Tryz.func8 (c := Tryz.f8.body.getD .skip) (by kernel_rfl) (by kernel_rfl) (by rw [hl]; exact of_decide_eq_true (by kernel_rfl)) (by rw [broadsheetlaw10_awake.code]; kernel_rfl)
    (by rw [broadsheetlaw10_awake.code, show compRes PG Tryz.f8.results.toList = [(.t 0)] from by kernel_rfl]; exact h)
end Go.Proofs.YtmjdkeonjflanaaGreat

/- Shapes of arrays of what has a shape. -/
namespace Go.Proofs.YtmjdkeonjflanaaGreat
set_option autoImplicit false
section
variable {P : Program} {t e m : Nat} {a : Sh} {x : List AV}
def arOf (P : Program) (t : TypeId) : Option (Nat × Nat) := match P.underlying t with
  | some (.array m e) => some (m, e)
  | _ => none
theorem arr_some {S : List Nat} (h : clB P S = true) (ha : arOf P t = some (m, e)) (hc : P.cellsOf t = m * P.cellsOf e) (he : e ∈ S) : ∀ n, ∃ sh, shO true P n t = some sh
  | 0 => ⟨.no, rfl⟩
  | n + 1 => by
    unfold arOf at ha
    split at ha
    · rename_i hu
      simp only [Option.some.injEq, Prod.mk.injEq] at ha
      obtain ⟨rfl, rfl⟩ := ha
      obtain ⟨b, hb⟩ := clB_some h n _ he
      exact ⟨_, by simp only [shO, hu, if_pos hc, hb, Option.map_some]; rfl⟩
    · cases ha
theorem okArr2 (ha : arOf P t = some (2, e)) (hc : P.cellsOf t = 2 * P.cellsOf e) (hs : shO true P m t = some a) (ho : a.OkN x) :
    ∃ k b x1 x2, m = k + 1 ∧ shO true P k e = some b ∧ b.OkN x1 ∧ b.OkN x2 ∧ x = x1 ++ x2 := by
  cases m with
  | zero => simp only [shO, if_true, Option.some.injEq] at hs; subst hs; exact ho.elim
  | succ k =>
    unfold arOf at ha
    split at ha
    · rename_i hu
      simp only [Option.some.injEq, Prod.mk.injEq] at ha
      obtain ⟨rfl, rfl⟩ := ha
      simp only [shO, hu, if_pos hc, Option.map_eq_some_iff] at hs
      obtain ⟨b, hb, rfl⟩ := hs
      obtain ⟨x1, y, e1, h1, h2⟩ := ho
      obtain ⟨x2, z, e2, h3, h4⟩ := h2
      have h4 : z = [] := h4
      subst h4
      exact ⟨k, b, x1, x2, rfl, hb, h1, h3, by rw [e1, e2, List.append_nil]⟩
    · cases ha
end
end Go.Proofs.YtmjdkeonjflanaaGreat

/- Arguments that are pairs of values, of numbers. -/
namespace Go.Proofs.YtmjdkeonjflanaaGreat
set_option autoImplicit false
theorem ints2_sh : ∀ n, ∃ sh, shO true PG n ty_A2_int = some sh := arr_some (S := Shapes.TypS) (e := ty_int) (m := 2) (by kernel_rfl) (by kernel_rfl) (by kernel_rfl) (by simp [Shapes.TypS])
theorem ints2_arg {av : AV} (h : ∃ n sh, shO true PG n ty_A2_int = some sh ∧ ArgOk true sh av) : ∃ a b : Int, Nw av (.agg [.int .i64 a, .int .i64 b]) ∧ (-9223372036854775808 ≤ a ∧ a ≤ 9223372036854775807) ∧ -9223372036854775808 ≤ b ∧ b ≤ 9223372036854775807 := by
  obtain ⟨n, sh, h1, h2⟩ := h
  obtain ⟨av', h3, h4⟩ := h2.nonil
  obtain ⟨vs, rfl, h5⟩ := h3
  obtain ⟨k, b, x1, x2, rfl, q1, q2, q3, rfl⟩ := okArr2 (e := ty_int) (by kernel_rfl) (by kernel_rfl) h1 h5
  obtain ⟨a, rfl, ha⟩ := okI64 (by kernel_rfl) q1 q2
  obtain ⟨c, rfl, hc⟩ := okI64 (by kernel_rfl) q1 q3
  exact ⟨a, c, h4, ha, hc⟩
end Go.Proofs.YtmjdkeonjflanaaGreat

/- The law 'PutApart', walked. -/
namespace Go.Proofs.YtmjdkeonjflanaaGreat
set_option autoImplicit false
set_option linter.unusedSimpArgs false
set_option linter.unusedVariables false
--HSET
attribute [local irreducible] callA callP ACalls
theorem putQ_err {l : List Ty} {t : Int} {v : Vl} (h : (putQ l t v).2 ≠ 0) : (putQ l t v).1 = [] := by
  unfold putQ at h ⊢
  split
  · rfl
  · rename_i c
    rw [if_neg c] at h
    split
    · rfl
    · rename_i c2
      rw [if_neg c2] at h
      exact absurd rfl h
theorem putQ_ok {l : List Ty} {t : Int} {v : Vl} (h : (putQ l t v).2 = 0) : fitQ l t v = 0 ∧ (putQ l t v).1 = encV l t v 0 ∧ (encV l t v 0).length ≤ 512 := by
  unfold putQ at h ⊢
  split
  · rename_i c
    rw [if_pos c] at h
    exact absurd h c
  · rename_i c
    rw [if_neg c] at h
    split
    · rename_i c2
      rw [if_pos c2] at h
      cases h
    · exact ⟨Classical.not_not.1 c, rfl, by omega⟩
theorem apart {l : List Ty} {t : Int} {v w : Vl} (h1 : (putQ l t v).2 = 0) (h2 : (putQ l t w).2 = 0) :
    vEq v w = decide ((putQ l t v).1 = (putQ l t w).1) ∧ 0 < (putQ l t v).1.length ∧ ((putQ l t v).1 ≠ (putQ l t w).1 → (putQ l t v).1.length < (putQ l t w).1.length → (putQ l t w).1.take (putQ l t v).1.length ≠ (putQ l t v).1) := by
  obtain ⟨f1, e1, _⟩ := putQ_ok h1
  obtain ⟨f2, e2, _⟩ := putQ_ok h2
  obtain ⟨⟨t0, t1, hv⟩, g1⟩ := fitQ_0 f1
  obtain ⟨_, g2⟩ := fitQ_0 f2
  rw [e1, e2]
  have rd := fun r s q => encV_read hv _ v (Nat.lt_succ_self _) w t 0 r s t0 t1 g1 g2 q
  refine ⟨?_, encV_pos hv _ v (Nat.lt_succ_self _) t 0 t0 t1 g1, fun hne hlt e => ?_⟩
  · rw [Bool.eq_iff_iff, vEq_iff, decide_eq_true_eq]
    exact ⟨fun q => by rw [q], fun q => (rd [] [] (by rw [q])).1⟩
  · have := rd ((encV l t w 0).drop (encV l t v 0).length) [] (by
      rw [List.append_nil]
      conv => rhs; rw [← List.take_append_drop (encV l t v 0).length (encV l t w 0)]
      rw [e])
    exact hne (by rw [this.1])
/-- The example's types. -/
def awP : List Ty := [⟨10, [], 2, 0, 0, []⟩]
theorem awP_ok : TysOk awP := ⟨by decide, by
  intro t ht
  simp only [awP, List.mem_singleton] at ht
  subst ht
  exact ⟨by decide, by decide, by simp, by simp⟩⟩
theorem awP1 : putQ awP 0 (.mk 10 0 [97, 98] []) = ([3, 0, 0, 0, 97, 98, 0], 0) := by kernel_rfl
theorem nw_awP : Nw (.rows 6 [[.int .i64 10, .str [], .int .i64 2, .int .i64 0, .int .i64 0, .nilS]]) (tysA awP) := by
  refine .rows 6 _ _ rfl (fun i r r' h1 h2 => ?_) (fun i r r' j v v' h1 h2 h3 h4 => ?_)
  · cases i with
    | zero => simp [awP] at h1 h2; subst h1; subst h2; rfl
    | succ i => simp at h1
  · cases i with
    | succ i => simp at h1
    | zero =>
      simp [awP] at h1 h2
      subst h1; subst h2
      exact (NwL.cons (.refl _) (.cons (.refl _) (.cons (.refl _) (.cons (.refl _) (.cons (.refl _) (.cons (.nil 5) (.refl _)))))) : NwL [.int .i64 10, .str [], .int .i64 2, .int .i64 0, .int .i64 0, .nilS] [.int .i64 10, .str [], .int .i64 2, .int .i64 0, .int .i64 0, .rows 5 []]).2 j v v' h3 h4
theorem put_awake_spec (H : AH) : ACalls PG broadsheetlaw10_awake.n [] H fun r H' => r = .bool true ∧ H' = H := by
  have h1 := fun H => put_Put_spec awP awP_ok 0 (.mk 10 0 [97, 98] []) (by simp [vOk, vOks]) (by simp [vGreat, vGreats]) H
  rw [awP1] at h1
  have n1 := fun H => (h1 H).nw (.cons nw_awP (.cons (.refl _) (.cons (nw_leaf 10 0 [97, 98]) (.refl _))))
  refine ACalls.fz (broadsheetlaw10_awake.of rfl (wpF_start ?_))
  (first | refine ah ?_ | exact ah0 | fail)
  first | refine callF_eq (n1 _) ?_ | refine callG_eq rfl (n1 _) ?_
  (first | refine ah ?_ | exact ah0 | fail)
  exact ⟨fz_of, sub_of⟩
end Go.Proofs.YtmjdkeonjflanaaGreat

/- The law 'PutTells', walked. -/
namespace Go.Proofs.YtmjdkeonjflanaaGreat
set_option autoImplicit false
set_option linter.unusedSimpArgs false
set_option linter.unusedVariables false
--HSET
attribute [local irreducible] callA callP ACalls
theorem PutTells_spec (l : List Ty) (hl : TysOk l) (v : Vl) (t k1 : Int) (hok : vOk v) : ACalls PG broadsheetlaw10_PutTells.n [tysA l, vlA v, .agg [.int .i64 t, .int .i64 k1]] [] fun r _ => r = .bool true := by
  have hg := fun H => tGreat_spec l hl H
  have hm := vMuch_spec _ v 0 (Nat.lt_succ_self _) hok (by omega)
  have h1 := fun (q : vGreat v ≤ 20000) H => put_Put_spec l hl t v hok q H
  have h2 := fun (q : vGreat v ≤ 20000) H => put_End_spec l hl t v hok q k1 H
  have h3 := fun (q : vGreat v ≤ 20000) H => r10_Put_spec l hl t v hok q H
  have hfs := fun H => Fits_specQ l hl t v hok H
  have hmg := @vMuch_great v 0
  have hro := fun (q : vGreat v ≤ 20000) (h : fitQ l t v = 0) => r10_row l hl t v hok q h
  have hle := fun a => encV_len l t v a
  unfold endQ at h2
  unfold putQ at h1 h3
  generalize encV l t v = E at *
  generalize rowV l t v = R at *
  generalize fitQ l t v = q at *
  generalize tyGreat l = a at *
  generalize vMuch v 0 = b at *
  refine ACalls.fzK (broadsheetlaw10_PutTells.of rfl (wpF_start ?_))
  obtain ⟨k, n, x, vs⟩ := v
  (first | refine ah ?_ | exact ah0 | fail)
  intro id4 hid4 ht4; have n4 := neAll_of hid4; (try simp only [neAll, neAll_hset] at n4); have m4 := n4; (repeat (obtain ⟨_, m4⟩ := m4))
  (first | refine ah ?_ | exact ah0 | fail)
  intro id5 hid5 ht5; have n5 := neAll_of hid5; (try simp only [neAll, neAll_hset] at n5); have m5 := n5; (repeat (obtain ⟨_, m5⟩ := m5))
  (first | refine ah ?_ | exact ah0 | fail)
  first | refine callF_eq (hg _) ?_ | refine callG_eq rfl (hg _) ?_
  cases a
  rotate_left
  · (first | refine ah ?_ | exact ah0 | fail)
    first | refine callF_eq (put_awake_spec _) ?_ | refine callG_eq rfl (put_awake_spec _) ?_
    (first | refine ah ?_ | exact ah0 | fail)
    exact fz_of
  (first | refine ah ?_ | exact ah0 | fail)
  first | refine callF_eq (hm.frame _) ?_ | refine callG_eq rfl (hm.frame _) ?_
  cases b
  rotate_left
  · (first | refine ah ?_ | exact ah0 | fail)
    first | refine callF_eq (put_awake_spec _) ?_ | refine callG_eq rfl (put_awake_spec _) ?_
    (first | refine ah ?_ | exact ah0 | fail)
    exact fz_of
  have hgr := hmg rfl
  have h1 := h1 (by omega)
  have h2 := h2 (by omega)
  have h3 := h3 (by omega)
  have hro := hro (by omega)
  clear hg hm hmg
  by_cases c : q = 0
  rotate_left
  · rw [if_pos c] at h1 h2 h3
    dsimp only at h1 h2 h3
    by_cases c2 : k1 < 0 ∨ 512 < k1
    · rw [if_pos c2] at h2
      dsimp only at h2
      (first | refine ah ?_ | exact ah0 | fail)
      first | refine callF_eq (h1 _) ?_ | refine callG_eq rfl (h1 _) ?_
      (first | refine ah ?_ | exact ah0 | fail)
      first | refine callF_eq (h3 _) ?_ | refine callG_eq rfl (h3 _) ?_
      (first | refine ah ?_ | exact ah0 | fail)
      first | refine callF_eq (h2 _) ?_ | refine callG_eq rfl (h2 _) ?_
      (first | refine ah ?_ | exact ah0 | fail)
      refine bsplit_dec (fun c3 => ?_) (fun c3 => ?_)
      · (first | refine ah ?_ | exact ah0 | fail)
        first | refine callF_eq (put_awake_spec _) ?_ | refine callG_eq rfl (put_awake_spec _) ?_
        (first | refine ah ?_ | exact ah0 | fail)
        exact fz_of
      · (first | refine ah ?_ | exact ah0 | fail)
        first | refine callF_eq (put_awake_spec _) ?_ | refine callG_eq rfl (put_awake_spec _) ?_
        (first | refine ah ?_ | exact ah0 | fail)
        exact fz_of
    · rw [if_neg c2] at h2
      dsimp only at h2
      (first | refine ah ?_ | exact ah0 | fail)
      first | refine callF_eq (h1 _) ?_ | refine callG_eq rfl (h1 _) ?_
      (first | refine ah ?_ | exact ah0 | fail)
      first | refine callF_eq (h3 _) ?_ | refine callG_eq rfl (h3 _) ?_
      (first | refine ah ?_ | exact ah0 | fail)
      first | refine callF_eq (h2 _) ?_ | refine callG_eq rfl (h2 _) ?_
      (first | refine ah ?_ | exact ah0 | fail)
      by_cases c3 : q = 3
      · (first | refine ah ?_ | exact ah0 | fail)
        first | refine callF_eq (hfs _) ?_ | refine callG_eq rfl (hfs _) ?_
        (first | refine ah ?_ | exact ah0 | fail)
        first | refine callF_eq (put_awake_spec _) ?_ | refine callG_eq rfl (put_awake_spec _) ?_
        (first | refine ah ?_ | exact ah0 | fail)
        exact fz_of
      · (first | refine ah ?_ | exact ah0 | fail)
        first | refine callF_eq (put_awake_spec _) ?_ | refine callG_eq rfl (put_awake_spec _) ?_
        (first | refine ah ?_ | exact ah0 | fail)
        exact fz_of
  · obtain ⟨r1, r2, r3, r4⟩ := hro c
    rw [if_neg (by simp [c])] at h1 h3
    have hl0 := hle 0
    by_cases c2 : k1 < 0 ∨ 512 < k1
    · rw [if_pos c2] at h2
      dsimp only at h2
      by_cases c5 : 512 < (E 0).length
      · rw [if_pos c5] at h1 h3
        dsimp only at h1 h3
        (first | refine ah ?_ | exact ah0 | fail)
        first | refine callF_eq (h1 _) ?_ | refine callG_eq rfl (h1 _) ?_
        (first | refine ah ?_ | exact ah0 | fail)
        first | refine callF_eq (h3 _) ?_ | refine callG_eq rfl (h3 _) ?_
        (first | refine ah ?_ | exact ah0 | fail)
        first | refine callF_eq (h2 _) ?_ | refine callG_eq rfl (h2 _) ?_
        (first | refine ah ?_ | exact ah0 | fail)
        refine bsplit_dec (fun c3 => ?_) (fun c3 => ?_)
        · (first | refine ah ?_ | exact ah0 | fail)
          first | refine callF_eq (put_awake_spec _) ?_ | refine callG_eq rfl (put_awake_spec _) ?_
          (first | refine ah ?_ | exact ah0 | fail)
          exact fz_of
        · (first | refine ah ?_ | exact ah0 | fail)
          first | refine callF_eq (put_awake_spec _) ?_ | refine callG_eq rfl (put_awake_spec _) ?_
          (first | refine ah ?_ | exact ah0 | fail)
          exact fz_of
      · rw [if_neg c5] at h1 h3
        dsimp only at h1 h3
        (first | refine ah ?_ | exact ah0 | fail)
        first | refine callF_eq (h1 _) ?_ | refine callG_eq rfl (h1 _) ?_
        (first | refine ah ?_ | exact ah0 | fail)
        first | refine callF_eq (h3 _) ?_ | refine callG_eq rfl (h3 _) ?_
        (first | refine ah ?_ | exact ah0 | fail)
        first | refine callF_eq (h2 _) ?_ | refine callG_eq rfl (h2 _) ?_
        (first | refine ah ?_ | exact ah0 | fail)
        rw [show decide (E 0 ≠ E 0) = false from decide_eq_false (fun q => q rfl)]
        (first | refine ah ?_ | exact ah0 | fail)
        refine bsplit_dec (fun c3 => ?_) (fun c3 => ?_)
        · (first | refine ah ?_ | exact ah0 | fail)
          first | refine callF_eq (put_awake_spec _) ?_ | refine callG_eq rfl (put_awake_spec _) ?_
          (first | refine ah ?_ | exact ah0 | fail)
          exact fz_of
        · (first | refine ah ?_ | exact ah0 | fail)
          first | refine callF_eq (put_awake_spec _) ?_ | refine callG_eq rfl (put_awake_spec _) ?_
          (first | refine ah ?_ | exact ah0 | fail)
          exact fz_of
    · rw [if_neg c2, if_neg (by simp [c])] at h2
      dsimp only at h2
      obtain ⟨m, rfl⟩ : ∃ m : Nat, k1 = m := ⟨k1.toNat, by omega⟩
      rw [Int.toNat_natCast] at h2
      have he := fun H => r10_End_spec R r2 (by omega) m (by omega) H
      rw [r4, Int.natCast_add] at he
      have hlm := hle m
      by_cases c5 : 512 < (E 0).length
      · rw [if_pos c5] at h1 h3
        dsimp only at h1 h3
        (first | refine ah ?_ | exact ah0 | fail)
        first | refine callF_eq (h1 _) ?_ | refine callG_eq rfl (h1 _) ?_
        (first | refine ah ?_ | exact ah0 | fail)
        first | refine callF_eq (h3 _) ?_ | refine callG_eq rfl (h3 _) ?_
        (first | refine ah ?_ | exact ah0 | fail)
        first | refine callF_eq (h2 _) ?_ | refine callG_eq rfl (h2 _) ?_
        (first | refine ah ?_ | exact ah0 | fail)
        first | refine callF_eq (hfs _) ?_ | refine callG_eq rfl (hfs _) ?_
        (first | refine ah ?_ | exact ah0 | fail)
        first | refine callF_eq (r1.frame _) ?_ | refine callG_eq rfl (r1.frame _) ?_
        (first | refine ah ?_ | exact ah0 | fail)
        first | refine callF_eq (he _) ?_ | refine callG_eq rfl (he _) ?_
        (first | refine ah ?_ | exact ah0 | fail)
        first | refine callF_eq (put_awake_spec _) ?_ | refine callG_eq rfl (put_awake_spec _) ?_
        (first | refine ah ?_ | exact ah0 | fail)
        exact fz_of
      · rw [if_neg c5] at h1 h3
        dsimp only at h1 h3
        (first | refine ah ?_ | exact ah0 | fail)
        first | refine callF_eq (h1 _) ?_ | refine callG_eq rfl (h1 _) ?_
        (first | refine ah ?_ | exact ah0 | fail)
        first | refine callF_eq (h3 _) ?_ | refine callG_eq rfl (h3 _) ?_
        (first | refine ah ?_ | exact ah0 | fail)
        first | refine callF_eq (h2 _) ?_ | refine callG_eq rfl (h2 _) ?_
        (first | refine ah ?_ | exact ah0 | fail)
        rw [show decide (E 0 ≠ E 0) = false from decide_eq_false (fun q => q rfl)]
        (first | refine ah ?_ | exact ah0 | fail)
        first | refine callF_eq (hfs _) ?_ | refine callG_eq rfl (hfs _) ?_
        (first | refine ah ?_ | exact ah0 | fail)
        first | refine callF_eq (r1.frame _) ?_ | refine callG_eq rfl (r1.frame _) ?_
        (first | refine ah ?_ | exact ah0 | fail)
        first | refine callF_eq (he _) ?_ | refine callG_eq rfl (he _) ?_
        (first | refine ah ?_ | exact ah0 | fail)
        first | refine callF_eq (put_awake_spec _) ?_ | refine callG_eq rfl (put_awake_spec _) ?_
        (first | refine ah ?_ | exact ah0 | fail)
        exact fz_of
theorem PutTells_row (a0 : AV) (h0 : ∃ n sh, shO true PG n ty_S_api_Type = some sh ∧ ArgOk false sh a0) (a1 : AV) (h1 : ∃ n sh, shO true PG n ty_api_Value = some sh ∧ ArgOk true sh a1) (a2 : AV) (h2 : ∃ n sh, shO true PG n ty_A2_int = some sh ∧ ArgOk true sh a2) : ACalls PG broadsheetlaw10_PutTells.n [a0, a1, a2] [] fun r _ => r = .bool true := by
  obtain ⟨l, q0, hl⟩ := types_arg h0
  obtain ⟨v, q1, hv⟩ := value_arg h1
  obtain ⟨t, k, q2, _, _⟩ := ints2_arg h2
  exact (PutTells_spec l hl v t k hv).nw (.cons q0 (.cons q1 (.cons q2 (.refl _))))
end Go.Proofs.YtmjdkeonjflanaaGreat
