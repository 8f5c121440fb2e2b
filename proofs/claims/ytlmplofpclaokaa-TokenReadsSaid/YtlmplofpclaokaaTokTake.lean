/- How tokens are taken. -/
import Derived.Test.YtlmplofpclaokaaTokBld
namespace Go.Proofs.Ytlmplofpclaokaa
set_option autoImplicit false
set_option linter.unusedSimpArgs false
set_option linter.unusedVariables false
attribute [local irreducible] callA callP ACalls

def tokA (k : Int) (t : List UInt8) (num : Int) (at' : Int) : AV := .agg [.int .i64 k, .str t, .int .u64 num, .int .i64 at']
def fltA (e at' : Int) : AV := .agg [.int .i64 e, .int .i64 at']
abbrev tkB (k : Int) (t : List UInt8) (num : Int) (at' : Int) : Blk := .rows 4 [[.int .i64 k, .str t, .int .u64 num, .int .i64 at']]
abbrev flB (e at' : Int) : Blk := .rows 2 [[.int .i64 e, .int .i64 at']]
/-- What was there is there, but for one block. -/
def Keep (id : Nat) (H H' : AH) : Prop := ∀ j b, j ≠ id → hget H j = some b → hget H' j = some b
/-- What is handed back by what takes a token. -/
structure TkK (s : List UInt8) (at' id : Nat) (H : AH) (R : LR) (r : AV) (H' : AH) : Prop where
  tok : ∀ k t num n, R = .tok k t num n → r = .tup [tokA k t num at', fltA 0 0] ∧ hget H' id = some (lx s (at' + n))
  bad : ∀ e off, R = .bad e off → ∃ k t num a, r = .tup [tokA k t num a, fltA e (at' + off : Nat)]
  keep : Keep id H H'
theorem TkK.of_tok {s : List UInt8} {at' id : Nat} {H : AH} {k : Int} {t : List UInt8} {num n : Nat} {r : AV} {H' : AH} (h : r = .tup [tokA k t num at', fltA 0 0]) (h1 : hget H' id = some (lx s (at' + n))) (h2 : Keep id H H') : TkK s at' id H (.tok k t num n) r H' :=
  ⟨fun k t num n e => by cases e; exact ⟨h, h1⟩, (fun e off q => by cases q), h2⟩
theorem TkK.of_bad {s : List UInt8} {at' id : Nat} {H : AH} {e : Int} {off : Nat} {k num a : Int} {t : List UInt8} {r : AV} {H' : AH} (h : r = .tup [tokA k t num a, fltA e (at' + off : Nat)]) (h2 : Keep id H H') : TkK s at' id H (.bad e off) r H' :=
  ⟨fun k t num n e => (by cases e), (fun e' off' q => by cases q; exact ⟨k, t, num, a, h⟩), h2⟩

/-- Two new blocks, for what is handed back. -/
structure Two (H H1 : AH) (id id2 id3 : Nat) : Prop where
  n2 : id2 ≠ id
  n3 : id3 ≠ id
  n32 : id3 ≠ id2
  g2 : hget H1 id2 = some (tkB 0 [] 0 0)
  g3 : hget H1 id3 = some (flB 0 0)
  keep : ∀ j b, hget H j = some b → hget H1 j = some b
  new : ∀ j b, hget H j = some b → j ≠ id2 ∧ j ≠ id3
theorem Two.mk' {H : AH} {id id2 id3 : Nat} {b : Blk} (hg : hget H id = some b) (h2 : hget H id2 = none) (h3 : hget ((id2, tkB 0 [] 0 0) :: H) id3 = none) : Two H ((id3, flB 0 0) :: (id2, tkB 0 [] 0 0) :: H) id id2 id3 := by
  obtain ⟨n32, h3'⟩ := hget_fresh h3
  have n2 := hget_ne_of h2 hg
  have n3 := hget_ne_of h3' hg
  refine ⟨n2, n3, n32, (hget_tail n32).trans hget_self, hget_self, fun j b q => ?_, fun j b q => ⟨(hget_ne_of h2 q).symm, (hget_ne_of h3' q).symm⟩⟩
  exact (hget_tail (hget_ne_of h3' q)).trans ((hget_tail (hget_ne_of h2 q)).trans q)
theorem Two.three {H H1 : AH} {id id2 id3 id4 : Nat} (h : Two H H1 id id2 id3) {b : Blk} (h4 : hget H1 id4 = none) (hg : hget H id = some b) : id4 ≠ id ∧ id4 ≠ id2 ∧ id4 ≠ id3 :=
  ⟨hget_ne_of h4 (h.keep _ _ hg), hget_ne_of h4 h.g2, hget_ne_of h4 h.g3⟩

theorem token_word_spec {s : List UInt8} {at' id : Nat} {H : AH} (hg : hget H id = some (lx s at')) (ha : at' ≤ s.length) (hs : s.length ≤ 140737488351232) :
    ACalls PG token_word.n [.ptr id 2 0 0] H (TkK s at' id H (.tok 1 ((s.drop at').take (nl (s.drop at'))) 0 (nl (s.drop at')))) := by
  have hdl : (s.drop at').length = s.length - at' := List.length_drop
  have hnl := nl_le (s.drop at')
  refine token_word.of rfl (wpF_start ?_)
  (first | refine au ?_ | exact au0 | fail)
  intro id2 hid2 ht2
  (first | refine au ?_ | exact au0 | fail)
  intro id3 hid3 ht3
  have tw := Two.mk' hg hid2 hid3
  generalize ((id3, Blk.rows [AV.int .i64 0, AV.int .i64 0].length [[AV.int .i64 0, AV.int .i64 0]]) :: (id2, Blk.rows [AV.int .i64 0, AV.str [], AV.int .u64 0, AV.int .i64 0].length [[AV.int .i64 0, AV.str [], AV.int .u64 0, AV.int .i64 0]]) :: H) = H1 at *
  have hg1 := tw.keep _ _ hg
  have hg1' : hget H1 id = some (.rows 2 [[.str s, .int .i64 (at' : Nat)]]) := hg1
  have n2 := tw.n2
  have n3 := tw.n3
  have n32 := tw.n32
  have g2 : hget H1 id2 = some (.rows 4 [[.int .i64 0, .str [], .int .u64 0, .int .i64 0]]) := tw.g2
  have g3 : hget H1 id3 = some (.rows 2 [[.int .i64 0, .int .i64 0]]) := tw.g3
  (first | refine au ?_ | exact au0 | fail)
  refine callF_eq (lexer_rest_spec hg1 ha hs) ?_
  (first | refine au ?_ | exact au0 | fail)
  refine callF_eq (name_Lead_spec _ (by omega) _) ?_
  (first | refine au ?_ | exact au0 | fail)
  refine callF_to (lexer_cut_spec (n := nl (s.drop at')) hg1 (by omega) hs) ?_
  (first | refine au ?_ | exact au0 | fail)
  refine TkK.of_tok rfl ?_ (fun j b q r => ?_)
  · exact hg_of
  · obtain ⟨q2, q3⟩ := tw.new j b r
    have := tw.keep j b r
    exact hg_of

end Go.Proofs.Ytlmplofpclaokaa
