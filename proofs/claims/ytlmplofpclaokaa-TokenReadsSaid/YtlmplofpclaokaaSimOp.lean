/- All operations together. -/
import Derived.Test.YtlmplofpclaokaaSimEq
import Derived.Test.YtlmplofpclaokaaSimOps7
namespace Go.Proofs.Ytlmplofpclaokaa
set_option autoImplicit false
set_option linter.unusedSimpArgs false
set_option linter.unusedVariables false

section
variable {P : Program} {w : World} {ρ : Loc} {Z : Nat → Prop} {H : AH} {s : Fr} {a : Act} {rs : Rs} {lit : Bool}

theorem bad_out {o : Oper} (h : evalOp s H .bad = some rs) : OpOut P w ρ Z H rs ((execOp a.eval o).run P w) := by simp [evalOp] at h

theorem compBin_out {o : Oper} {op : BinOp} {t t' : TypeId} {x y : Operand} (ho : o.op = .binOp op t x y t') (g : Good w.heap ρ Z H) (hF : FR w.heap ρ Z s a) (h : evalOp s H (compBin P op t x y) = some rs) :
    OpOut P w ρ Z H rs ((execOp a.eval o).run P w) := by
  unfold compBin at h
  cases hu : P.underlying t with
  | none => rw [hu] at h; exact bad_out h
  | some d =>
    rw [hu] at h
    have gen : ∀ (h : evalOp s H (match eqNeg op, shapeOf P 8 t with
      | some n, some sh => if isAggD d && !(P.eqGuardType P.depth t) && ((P.info? t).any fun i => i.size == sh.length) then .aeq n sh (cx x) (cx y) else .bad
      | _, _ => .bad) = some rs), OpOut P w ρ Z H rs ((execOp a.eval o).run P w) := by
      intro h
      split at h
      · rename_i n sh hn hsh
        split at h
        · rename_i hc
          simp only [Bool.and_eq_true, Bool.not_eq_true'] at hc
          obtain ⟨⟨h1, h2⟩, h3⟩ := hc
          cases hi : P.info? t with
          | none => simp [hi] at h3
          | some i =>
            rw [hi] at h3
            exact aeq_out hu hn hsh h1 h2 hi (by simpa using h3) ho g hF h
        · exact bad_out h
      · exact bad_out h
    cases d with
    | int k => exact bin_out ho g hF h
    | string => exact bin_out ho g hF h
    | bool =>
      simp only at h
      cases hn : eqNeg op with
      | none => rw [hn] at h; exact bad_out h
      | some n => rw [hn] at h; exact beq_out hu hn ho g hF h
    | slice e =>
      simp only at h
      cases hn : eqNeg op with
      | none => rw [hn] at h; exact bad_out h
      | some n =>
        rw [hn] at h
        simp only at h
        split at h
        · rename_i hy; exact ncmpS_out hu hn hy ho g hF h
        · exact bad_out h
    | pointer e =>
      simp only at h
      cases hn : eqNeg op with
      | none => rw [hn] at h; exact bad_out h
      | some n =>
        rw [hn] at h
        simp only at h
        split at h
        · rename_i hy; exact ncmpP_out hu hn hy ho g hF h
        · split at h
          · rename_i j he; exact peq_out hu he hn ho g hF h
          · exact bad_out h
    | _ => exact gen h

theorem compCall_out {o : Oper} {c : Call} (ho : o.op = .call c) (g : Good w.heap ρ Z H) (hF : FR w.heap ρ Z s a) (h : evalOp s H (compCall P c) = some rs) :
    OpOut P w ρ Z H rs ((execOp a.eval o).run P w) := by
  unfold compCall at h
  split at h
  · rename_i f hc
    split at h
    · rename_i k hk; exact ext_out hk ho hc g hF h
    · exact call_out ho hc g hF h
  · rename_i t hc; exact callv_out ho hc g hF h
  · rename_i hc
    split at h
    · rename_i x t hx ht
      have hx' : c.args = #[x] := by rw [← Array.toArray_toList (xs := c.args), hx]
      have ht' : c.argTypes = #[t] := by rw [← Array.toArray_toList (xs := c.argTypes), ht]
      split at h
      · rename_i hu; exact len_out (str := true) (by simpa using hu) ho hc hx' ht' g hF h
      · rename_i e hu; exact len_out (str := false) (by simpa using ⟨e, hu⟩) ho hc hx' ht' g hF h
      · exact bad_out h
    · exact bad_out h
  · rename_i hc
    split at h
    · rename_i x y t u hx ht
      have hx' : c.args = #[x, y] := by rw [← Array.toArray_toList (xs := c.args), hx]
      have ht' : c.argTypes = #[t, u] := by rw [← Array.toArray_toList (xs := c.argTypes), ht]
      split at h
      · rename_i e e' hu hu'
        split at h
        · rename_i i hi
          split at h
          · rename_i z hz
            split at h
            · rename_i zs hzs
              split at h
              · rename_i hcd
                exact append_out (str := false) ⟨hu, by simpa using ⟨e', hu'⟩, hi, hz, hzs, hcd.1, hcd.2⟩ ho hc hx' ht' g hF h
              · exact bad_out h
            · exact bad_out h
          · exact bad_out h
        · exact bad_out h
      · rename_i e hu hu'
        split at h
        · rename_i i hi
          split at h
          · rename_i z hz
            split at h
            · rename_i zs hzs
              split at h
              · rename_i hcd
                exact append_out (str := true) ⟨hu, by simpa using hu', hi, hz, hzs, hcd.1, hcd.2.2⟩ ho hc hx' ht' g hF h
              · exact bad_out h
            · exact bad_out h
          · exact bad_out h
        · exact bad_out h
      · exact bad_out h
    · exact bad_out h
  · rename_i hc
    split at h
    · rename_i x hx
      have hx' : c.args = #[x] := by rw [← Array.toArray_toList (xs := c.args), hx]
      exact sdata_out ho hc hx' g hF h
    · exact bad_out h
  · rename_i hc
    split at h
    · rename_i x y t t2 hx ht
      have hx' : c.args = #[x, y] := by rw [← Array.toArray_toList (xs := c.args), hx]
      have ht' : c.argTypes = #[t, t2] := by rw [← Array.toArray_toList (xs := c.argTypes), ht]
      split at h
      · rename_i e hu
        split at h
        · rename_i h1; exact ustr_out hu h1 ho hc hx' ht' g hF h
        · exact bad_out h
      · exact bad_out h
    · exact bad_out h
  · rename_i hc; exact mm_out (mx := true) ho (by simpa using hc) g hF h
  · rename_i hc; exact mm_out (mx := false) ho (by simpa using hc) g hF h
  · exact bad_out h

theorem op_out {o : Oper} (g : Good w.heap ρ Z H) (hF : FR w.heap ρ Z s a) (h : evalOp s H (compOp P lit o.op) = some rs) : OpOut P w ρ Z H rs ((execOp a.eval o).run P w) := by
  obtain ⟨op, hop⟩ : ∃ op, o.op = op := ⟨_, rfl⟩
  have h0 := h
  rw [hop] at h
  cases op with
  | move x => exact move_out (.inl hop) g hF h
  | assign x => exact move_out (.inr hop) g hF h
  | pick c x y => exact pick_out hop g hF h
  | alloc t =>
    simp only [compOp] at h
    split at h
    · rename_i i hi
      split at h
      · rename_i z hz
        split at h
        · rename_i zs hzs
          split at h
          · exact allc_out hi hz hzs hop g h
          · exact bad_out h
        · exact bad_out h
      · exact bad_out h
    · exact bad_out h
  | box t x => exact box_out hop g hF h
  | build t ps =>
    simp only [compOp] at h
    split at h
    · rename_i i hi
      split at h
      · rename_i z hz
        split at h
        · rename_i zs hzs
          split at h
          · rename_i fs hu
            split at h
            · rename_i hall
              split at h
              · rename_i l hl; exact build_out hi hz hzs hop g hF (.inl ⟨fs, hu, hall, hl⟩) h
              · exact bad_out h
            · exact bad_out h
          · rename_i n e hu
            split at h
            · rename_i k hk
              split at h
              · rename_i l hl; exact build_out hi hz hzs hop g hF (.inr ⟨n, e, k, hu, hk, hl⟩) h
              · exact bad_out h
            · exact bad_out h
          · exact bad_out h
        · exact bad_out h
      · exact bad_out h
    · exact bad_out h
  | buildSlice t n ps =>
    simp only [compOp] at h
    split at h
    · rename_i e hu
      split at h
      · rename_i i hi
        split at h
        · rename_i z hz
          split at h
          · rename_i zs hzs
            split at h
            · rename_i hc
              split at h
              · exact bsliceO_out hu hi hz hzs hc.1 hc.2.1 hc.2.2 hop g hF h
              · exact bslice_out hu hi hz hzs hc.1 hc.2.1 hc.2.2 hop g hF h
            · exact bad_out h
          · exact bad_out h
        · exact bad_out h
      · exact bad_out h
    · exact bad_out h
  | load t x => exact load_out hop g hF h0
  | store t x y =>
    simp only [compOp] at h
    split at h
    · rename_i i hi; exact store_out hi hop g hF h
    · exact bad_out h
  | nilCheck x => exact nilck_out hop g hF h
  | binOp op t x y t' => exact compBin_out hop g hF h
  | unOp op t x => exact un_out hop g hF h
  | convert src dst x =>
    simp only [compOp] at h
    split at h
    · rename_i k k' hs hd; exact conv_out hs hd hop g hF h
    · rename_i hs hd; exact convS_out hs hd hop g hF h
    · rename_i e hs hd
      split at h
      · rename_i he; exact bytesS_out hs hd he hop g hF h
      · exact bad_out h
    · rename_i t hs hd
      split at h
      · rename_i j hj
        split at h
        · rename_i h0; exact idu_out hs hd hj h0 hop g hF h
        · exact bad_out h
      · exact bad_out h
    · rename_i u hs hd
      split at h
      · rename_i j hj
        split at h
        · rename_i h0; exact idf_out hs hd hj h0.1 h0.2 hop g hF h
        · exact bad_out h
      · exact bad_out h
    · exact bad_out h
  | makeFunc fn first caps =>
    cases fn with
    | func f =>
      exact mkfn_out hop g hF h
    | _ => exact bad_out h
  | makeSlice t l c =>
    simp only [compOp] at h
    split at h
    · rename_i hs
      split at h
      · rename_i e hu
        split at h
        · rename_i i hi
          split at h
          · rename_i z hz
            split at h
            · rename_i zs hzs
              split at h
              · rename_i hc; exact mks_out hs hu hi hz hzs hc.1 hc.2.1 hc.2.2.1 hc.2.2.2 hop g hF h
              · exact bad_out h
            · exact bad_out h
          · exact bad_out h
        · exact bad_out h
      · exact bad_out h
    · exact bad_out h
  | slice t x lo hi mx =>
    cases mx with
    | some m => exact bad_out h
    | none =>
      simp only [compOp] at h
      split at h
      · rename_i hu; exact sliceStr_out hu hop g hF h
      · rename_i e hu
        split at h
        · rename_i i hi; exact sliceSl_out hu hi hop g hF h
        · exact bad_out h
      · exact bad_out h
  | fieldAddr t x f => exact faddr_out hop g hF h0
  | field t x f => exact field_out hop g hF h0
  | indexAddr t x i => exact iaddr_out hop g hF h0
  | index t x i => exact index_out hop g hF h0
  | extract x i => exact extr_out hop g hF h
  | call c => exact compCall_out hop g hF h
  | _ => exact bad_out h

end
end Go.Proofs.Ytlmplofpclaokaa
