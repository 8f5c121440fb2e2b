/- A builder of strings. -/
import Derived.Test.YtlmplofpclaokaaTokSpec
namespace Go.Proofs.Ytlmplofpclaokaa
set_option autoImplicit false
set_option linter.unusedSimpArgs false
set_option linter.unusedVariables false
attribute [local irreducible] callA callP ACalls

theorem callF_to {P : Program} {f : Nat} {args : List AV} {H H1 : AH} {K : AV → AH → Prop} {r : AV} (h : ACalls P f args H fun r' H' => r' = r ∧ H' = H1) (k : K r H1) : callF P f args H K :=
  callF_of (h.mono fun r' H' ⟨a, b⟩ => by rw [a, b]; exact k)
/-- The numbers of the types. -/
abbrev tyBld : Nat := 92
abbrev tyU8 : Nat := 5
def byteRow (l : List UInt8) : List (List AV) := l.map fun c => [u8A c]
theorem byteRow_len (l : List UInt8) : (byteRow l).length = l.length := by simp [byteRow]
theorem byteRow_bytes (l : List UInt8) : bytesA (byteRow l) = some l := by
  induction l with
  | nil => rfl
  | cons c l ih =>
    have hc := c.toNat_lt
    show bytesA ([u8A c] :: byteRow l) = _
    unfold bytesA
    rw [if_pos (by omega), ih]
    simp

/-- A builder: what it holds, and where its bytes lie. -/
structure Bld (H : AH) (id : Nat) (ob : Option Nat) (l : List UInt8) : Prop where
  tg : tag id = tyBld
  blk : ∃ p v, hget H id = some (.rows 2 [[p, v]]) ∧ (p = .nilP ∨ p = .ptr id 2 0 0) ∧
    ((ob = none ∧ v = .nilS ∧ l = []) ∨ ∃ idb, ob = some idb ∧ v = .own idb 1 0 l.length ∧ hget H idb = some (.rows 1 (byteRow l)) ∧ tag idb = tyU8 ∧ idb ≠ id ∧ 0 < l.length)

theorem copyCheck_spec {id : Nat} {H : AH} {p v : AV} (hg : hget H id = some (.rows 2 [[p, v]])) (hp : p = .nilP ∨ p = .ptr id 2 0 0) (ht : tag id = tyBld) :
    ACalls PG strings_Builder_copyCheck.n [.ptr id 2 0 0] H fun r H' => r = .tup [] ∧ H' = hset H id (.rows 2 [[.ptr id 2 0 0, v]]) := by
  refine ACalls.sub (strings_Builder_copyCheck.of rfl (wpF_start ?_))
  rcases hp with rfl | rfl
  · (first | refine au ?_ | exact au0 | fail)
    exact Sub.refl _
  · (first | refine au ?_ | exact au0 | fail)
    exact sub_hset hg (fun j c _ q => q)

theorem readS_own {H : AH} {id sz lo hi : Nat} {l : List (List AV)} (hg : hget H id = some (.rows sz l)) (h : hi ≤ l.length) : readS H false sz (.own id sz lo hi) = some ((l.take hi).drop lo) := by
  simp [readS, hg, h]
theorem WriteByte_spec {id : Nat} {ob : Option Nat} {l : List UInt8} {c : UInt8} {H : AH} (hb : Bld H id ob l) (hl : l.length ≤ 140737488351232) :
    ACalls PG strings_Builder_WriteByte.n [.ptr id 2 0 0, u8A c] H fun r H' => r = .nilI ∧ ∃ idb, Bld H' id (some idb) (l ++ [c]) ∧ (hget H idb = none ∨ ob = some idb) ∧ ∀ j b, j ≠ id → ob ≠ some j → hget H j = some b → hget H' j = some b := by
  obtain ⟨ht, p, v, hg, hp, hv⟩ := hb
  refine strings_Builder_WriteByte.of rfl (wpF_start ?_)
  (first | refine au ?_ | exact au0 | fail)
  refine callF_to (copyCheck_spec hg hp ht) ?_
  have hg1 : hget (hset H id (.rows 2 [[.ptr id 2 0 0, v]])) id = some (.rows 2 [[.ptr id 2 0 0, v]]) := hget_set hg
  have hk1 : ∀ j b, j ≠ id → hget H j = some b → hget (hset H id (.rows 2 [[.ptr id 2 0 0, v]])) j = some b := fun j b q r => (hget_set_ne q).trans r
  have hf1 : ∀ j, j ≠ id → hget (hset H id (.rows 2 [[.ptr id 2 0 0, v]])) j = none → hget H j = none := fun j q r => (hget_set_ne q).symm.trans r
  generalize hset H id (.rows 2 [[.ptr id 2 0 0, v]]) = H1 at *
  rcases hv with ⟨rfl, rfl, rfl⟩ | ⟨idb, rfl, rfl, hgb, htb, hne, hpos⟩
  · (first | refine au ?_ | exact au0 | fail)
    refine ⟨_, rfl, by simp, (fun e => by cases e), fun _ => ?_⟩
    intro idn hidn htn
    have nn : idn ≠ id := hget_ne_of hidn hg1
    (first | refine au ?_ | exact au0 | fail)
    refine ⟨idn, ⟨ht, .ptr id 2 0 0, .own idn 1 0 1, ?_, .inr rfl, .inr ⟨idn, rfl, rfl, ?_, htn, nn, by simp⟩⟩, .inl (hf1 idn nn hidn), fun j b q _ r => ?_⟩
    · exact (hget_tail nn).trans (hget_set hg1)
    · exact hget_self
    · exact (hget_tail (hget_ne_of hidn (hk1 j b q r))).trans ((hget_set_ne q).trans (hk1 j b q r))
  · have hgb1 := hk1 _ _ hne hgb
    have exs : ((byteRow l).take l.length).drop 0 = byteRow l := by rw [List.drop_zero, ← byteRow_len, List.take_length]
    (first | refine au ?_ | exact au0 | fail)
    refine ⟨_, _, (readS_own hgb1 (by rw [byteRow_len]; exact Nat.le_refl _)).trans (congrArg some exs), rfl, rfl, rfl, htb, by rw [byteRow_len]; simp; omega, ?_⟩
    intro idn hidn htn
    have nn : idn ≠ id := hget_ne_of hidn hg1
    have nb : idn ≠ idb := hget_ne_of hidn hgb1
    (first | refine au ?_ | exact au0 | fail)
    have hg2 : hget (hdel H1 idb) id = some (.rows 2 [[.ptr id 2 0 0, .own idb 1 0 l.length]]) := (hget_del_ne hne.symm).trans hg1
    refine ⟨idn, ⟨ht, .ptr id 2 0 0, .own idn 1 0 (l ++ [c]).length, ?_, .inr rfl, .inr ⟨idn, rfl, rfl, ?_, htn, nn, by simp⟩⟩, .inl (hf1 idn nn hidn), fun j b q q2 r => ?_⟩
    · refine (hget_tail nn).trans ((hget_set hg2).trans ?_)
      have : (byteRow l).length + ((List.replicate 1 [AV.int .u8 0]).set 0 (u8A c).cells).length = (l ++ [c]).length := by rw [byteRow_len, List.length_append]; rfl
      rw [← this]; rfl
    · refine hget_self.trans ?_
      simp [byteRow]
      rfl
    · have qb : j ≠ idb := fun e => q2 (by rw [e])
      exact (hget_tail (hget_ne_of hidn (hk1 j b q r))).trans ((hget_set_ne q).trans ((hget_del_ne qb).trans (hk1 j b q r)))

theorem String_spec {id : Nat} {ob : Option Nat} {l : List UInt8} {H : AH} (hb : Bld H id ob l) (hl : l.length ≤ 140737488351232) :
    ACalls PG strings_Builder_String.n [.ptr id 2 0 0] H fun r H' => r = .str l ∧ ∀ j b, ob ≠ some j → hget H j = some b → hget H' j = some b := by
  obtain ⟨ht, p, v, hg, hp, hv⟩ := hb
  refine strings_Builder_String.of rfl (wpF_start ?_)
  rcases hv with ⟨rfl, rfl, rfl⟩ | ⟨idb, rfl, rfl, hgb, htb, hne, hpos⟩
  · (first | refine au ?_ | exact au0 | fail)
    exact fun j b _ q => q
  · (first | refine au ?_ | exact au0 | fail)
    refine ⟨_, l, hgb, ?_, rfl, rfl, rfl, by omega, by rw [byteRow_len]; omega, by omega, htb, ?_⟩
    · rw [show (((l.length - 0 : Nat) : Int)).toNat = (byteRow l).length from by rw [byteRow_len]; omega, List.take_length, byteRow_bytes]
    (first | refine au ?_ | exact au0 | fail)
    exact fun j b q r => (hget_del_ne (fun e => q (by rw [e]))).trans r
end Go.Proofs.Ytlmplofpclaokaa
