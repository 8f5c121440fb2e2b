/- Each operation of the model does what the abstract operation says: bytes to a string, and functions of the model's own. -/
import Derived.Test.YtlmplofpclaokaaSimOps6
import Derived.Laws.BytesString
import Derived.Laws.IdiomStrings
import Derived.Lib.Builder
import Derived.Lib.UnsafeStr
namespace Go.Proofs.Ytlmplofpclaokaa
set_option autoImplicit false
set_option linter.unusedSimpArgs false
set_option linter.unusedVariables false

section
variable {P : Program} {w : World} {ρ : Loc} {Z : Nat → Prop} {H : AH} {s : Fr} {a : Act} {rs : Rs}

theorem bytes_news : ∀ {ys : List (List AV)} {l : List UInt8} {news : List Value}, bytesA ys = some l → CellsRl w.heap ρ Z ys.flatten news →
    ys.length = l.length ∧ ∃ ns : List Int, news = ns.map (Value.int .u8) ∧ ns.map (fun n => UInt8.ofNat n.toNat) = l
  | [], l, news, h, hc => by
    simp only [bytesA, Option.some.injEq] at h
    subst h
    refine ⟨rfl, [], ?_, rfl⟩
    cases news with
    | nil => rfl
    | cons x r => have := hc.1; simp at this
  | y :: ys, l, news, h, hc => by
    unfold bytesA at h
    split at h
    · rename_i he; cases he
    · rename_i n r he
      simp only [List.cons.injEq] at he
      obtain ⟨rfl, rfl⟩ := he
      split at h <;> simp only [Option.bind_eq_some_iff, Option.some.injEq, reduceCtorEq] at h
      obtain ⟨l', h1, rfl⟩ := h
      cases news with
      | nil => have := hc.1; simp at this
      | cons x r =>
        have h0 := (hc.2 0 _ _ rfl rfl).2
        cases h0
        obtain ⟨e0, ns, e1, e2⟩ := bytes_news (news := r) h1 ⟨by have := hc.1; simp at this ⊢; omega, fun i c x p q => hc.2 (i + 1) c x (by simpa using p) (by simpa using q)⟩
        exact ⟨by simp [e0], n :: ns, by simp [e1], by simp [e2]⟩
    · cases h

theorem foldl_push_num : ∀ (ns : List Int) (r : ByteArray), (ns.foldl (fun r n => r.push (UInt8.ofNat n.toNat)) r).data.toList = r.data.toList ++ ns.map (fun n => UInt8.ofNat n.toNat)
  | [], r => by simp
  | n :: ns, r => by
    rw [List.foldl_cons, foldl_push_num ns]
    simp [ByteArray.push]

theorem bytesS_out {o : Oper} {src dst e : TypeId} {x : Operand} (hs : P.underlying src = some (.slice e)) (hd : P.underlying dst = some .string) (he : P.underlying e = some (.int .u8)) (ho : o.op = .convert src dst x)
    (g : Good w.heap ρ Z H) (hF : FR w.heap ρ Z s a) (h : evalOp s H (.bytesS (cx x)) = some rs) : OpOut P w ρ Z H rs ((execOp a.eval o).run P w) := by
  simp only [evalOp, Option.bind_eq_some_iff] at h
  obtain ⟨v, h1, ys, h2, l, h3, h4⟩ := h
  simp only [Option.some.injEq] at h4
  subst h4
  have hx := ev_rl hF h1
  obtain ⟨_, _, news, hc, hf, hl⟩ := readS_rl (P := P) g hx h2
  obtain ⟨e0, ns, rfl, e2⟩ := bytes_news h3 hc
  have hf := hf w rfl
  generalize ex : a.eval x = xv at hx hf hl
  have done : ∀ (r : ByteArray) l0 c0 a0, xv = .slice a0 l0 c0 → (Conv.bytesToString (.slice a0 l0 c0)).run P w = .ok (.string r) w → r.data.toList = l →
      OpOut P w ρ Z H (.val (.str l)) ((execOp a.eval o).run P w) := by
    intro r l0 c0 a0 e hr hd'
    refine OpOut.pure g (x := .string r) ?_ (.str _ _ hd')
    subst e
    simp only [execOp, ho, ex, Sem.run_bind, run_convert_bytes_string w src dst e _ _ _ hs he hd, hr, Result.andThen_ok, Sem.run_pure]
  have hslice : (∃ l0 c0, xv = .slice none l0 c0) ∨ ∃ a0 l0 c0, xv = .slice (some a0) l0 c0 := by
    cases hx <;> first
      | exact .inl ⟨_, _, rfl⟩
      | exact .inr ⟨_, _, _, rfl⟩
      | (simp [readS] at h2; done)
  rcases hslice with ⟨l0, c0, rfl⟩ | ⟨a0, l0, c0, rfl⟩
  · refine done ByteArray.empty l0 c0 none rfl (by simp [Conv.bytesToString]) ?_
    have hns : ns = [] := by
      simp only [Builtin.firstCells, Sem.run_pure] at hf
      simp at hf
      exact hf
    subst hns
    rw [← e2]; rfl
  · have hl0 : l0 = ys.length := by
      have := congrArg (fun m => Sem.run P m w) hl
      simp [Builtin.lenOf] at this
      exact this
    subst hl0
    refine done _ _ c0 _ rfl (run_bytesToString w a0 _ c0 ns (by simpa [Builtin.firstCells] using hf)) ?_
    rw [foldl_push_num, e2]
    rfl

def extSem : EK → Array Value → Sem Value
  | .cnt => Extern.BytealgCount.count
  | .ixb => Extern.BytealgIndexByte.indexByte
  | .cmp => Extern.BytealgCompare.compare
  | .same => Extern.AbiNoEscape.same

theorem extern_find {fn : Func} {k : EK} (h : extName fn.name = some k) : Extern.find fn = some (extSem k) ∧ (fn.name == "runtime.NumGoroutine") = false := by
  unfold extName at h
  split at h
  · rename_i e
    simp only [Option.some.injEq] at h
    subst h
    cases fn
    simp only at e
    subst e
    exact ⟨rfl, rfl⟩
  · split at h
    · rename_i e
      simp only [Option.some.injEq] at h
      subst h
      cases fn
      simp only at e
      subst e
      exact ⟨rfl, rfl⟩
    · split at h
      · rename_i e
        simp only [Option.some.injEq] at h
        subst h
        cases fn
        simp only at e
        subst e
        exact ⟨rfl, rfl⟩
      · split at h
        · rename_i e
          simp only [Option.some.injEq] at h
          subst h
          cases fn
          simp only at e
          subst e
          exact ⟨rfl, rfl⟩
        · cases h

theorem ext_out {o : Oper} {c : Call} {f : Nat} {k : EK} (hk : extOf P f = some k) (ho : o.op = .call c) (hc : c.callee = .value (.func f)) (g : Good w.heap ρ Z H) (hF : FR w.heap ρ Z s a)
    (h : evalOp s H (.ext k (cxL c.args.toList)) = some rs) : OpOut P w ρ Z H rs ((execOp a.eval o).run P w) := by
  simp only [evalOp, Option.bind_eq_some_iff] at h
  obtain ⟨vs, h1, v, h2, h3⟩ := h
  simp only [Option.some.injEq] at h3
  subst h3
  have hl := evL_rl hF h1
  unfold extOf at hk
  split at hk
  · rename_i fn hfn
    split at hk
    · rename_i hb
      simp only [Bool.and_eq_true] at hb
      obtain ⟨he, hn⟩ := extern_find hk
      have key : ∃ x, (extSem k (c.args.toList.map a.eval).toArray).run P w = .ok x w ∧ Rl w.heap ρ Z v x := by
        unfold extA at h2
        split at h2
        · rename_i l n
          simp only [Option.some.injEq] at h2
          subst h2
          match hm : c.args.toList.map a.eval, hl with
          | [x, y], hl =>
            have q1 := hl.2 0 _ x rfl rfl
            have q2 := hl.2 1 _ y rfl rfl
            cases q1 with
            | str _ b hb =>
              cases q2
              subst hb
              exact ⟨_, Lib.run_countString (P := P) b n w, .int _ _⟩
          | [], hl => have := hl.1; simp at this
          | [x], hl => have := hl.1; simp at this
          | _ :: _ :: _ :: _, hl => have := hl.1; simp at this
        · rename_i l n
          simp only [Option.some.injEq] at h2
          subst h2
          match hm : c.args.toList.map a.eval, hl with
          | [x, y], hl =>
            have q1 := hl.2 0 _ x rfl rfl
            have q2 := hl.2 1 _ y rfl rfl
            cases q1 with
            | str _ b hb =>
              cases q2
              subst hb
              exact ⟨_, Lib.run_indexByteString (P := P) b n w, .int _ _⟩
          | [], hl => have := hl.1; simp at this
          | [x], hl => have := hl.1; simp at this
          | _ :: _ :: _ :: _, hl => have := hl.1; simp at this
        · rename_i l n
          simp only [Option.some.injEq] at h2
          subst h2
          match hm : c.args.toList.map a.eval, hl with
          | [x, y], hl =>
            have q1 := hl.2 0 _ x rfl rfl
            have q2 := hl.2 1 _ y rfl rfl
            cases q1 with
            | str _ b hb =>
              cases q2 with
              | str _ b2 hb2 => subst hb; subst hb2; exact ⟨_, Lib.run_compareString (P := P) b b2 w, .int _ _⟩
          | [], hl => have := hl.1; simp at this
          | [x], hl => have := hl.1; simp at this
          | _ :: _ :: _ :: _, hl => have := hl.1; simp at this
        · simp only [Option.some.injEq] at h2
          subst h2
          match hm : c.args.toList.map a.eval, hl with
          | [x], hl => exact ⟨x, rfl, hl.2 0 _ x rfl rfl⟩
          | [], hl => have := hl.1; simp at this
          | _ :: _ :: _, hl => have := hl.1; simp at this
        · cases h2
      obtain ⟨x, hr, hv⟩ := key
      refine OpOut.pure g (x := x) ?_ hv
      have harr : c.args.map a.eval = (c.args.toList.map a.eval).toArray := by apply Array.ext'; simp
      simp only [execOp, ho, resolve, hc, Act.eval, Deferred.ofValue, Sem.run_bind, Sem.run_pure, Result.andThen_ok, invoke, harr]
      have hfr := run_callFunc_extern (P := P) hfn hn hb.1 (by simpa using hb.2) he (c.args.toList.map a.eval).toArray w
      rw [hr] at hfr
      simp only [Result.andThen_ok] at hfr
      simpa using hfr
    · cases hk
  · cases hk

/-! ### Pointers without a type -/
theorem lies_self {e : TypeId} (hc : P.cellsOf e ≠ 0) (count n : Nat) (hn : n ≤ count) : liesAt P P.depth e count 0 e n = true := by
  have hd : P.depth = (2 * (P.types.size + Made.depth) + 1) + 1 := rfl
  rw [hd]
  simp only [liesAt, Bool.or_eq_true]
  left
  rw [hd]
  simp [rowAt, hc, hn, sameLayout]

theorem shape_of {w : World} {b : Nat} {cs : Array Value} {e : TypeId} {fz : Nat × Nat} (hb : w.heap[b]? = some (.cells cs e fz)) : w.shape? b = some (e, cs.size) := by
  simp [World.shape?, hb]

theorem idu_out {o : Oper} {src dst t : TypeId} {j : TypeInfo} {x : Operand} (hs : P.underlying src = some (.pointer t)) (hd : P.underlying dst = some .unsafePointer) (ht : P.info? t = some j) (hj : j.size ≠ 0) (ho : o.op = .convert src dst x)
    (g : Good w.heap ρ Z H) (hF : FR w.heap ρ Z s a) (h : evalOp s H (.idu (cx x)) = some rs) : OpOut P w ρ Z H rs ((execOp a.eval o).run P w) := by
  simp only [evalOp, Option.bind_eq_some_iff] at h
  obtain ⟨v, h1, h2⟩ := h
  have hx := ev_rl hF h1
  generalize ex : a.eval x = xv at hx
  cases hx with
  | nilP =>
    simp only [Option.some.injEq] at h2
    subst h2
    refine OpOut.pure g (x := .pointer none) ?_ .nilP
    simp [execOp, ho, ex, convert, run_underlying hs, run_underlying hd, Conv.unsafePointer]
  | ptr id sz i j' b o0 hρ =>
    simp only at h2
    cases hg : hget H id with
    | none => simp [hg] at h2
    | some blk =>
      cases blk with
      | rows sz' l =>
        simp only [hg] at h2
        split at h2 <;> simp only [Option.some.injEq, reduceCtorEq] at h2
        rename_i hc
        obtain ⟨rfl, hi, hj'⟩ := hc
        subst h2
        obtain ⟨b', o', hρ', cs, e, hb, hbsz, _, _⟩ := g.blk id _ hg
        rw [hρ] at hρ'
        obtain ⟨rfl, rfl⟩ : b = b' ∧ o0 = o' := by simpa using hρ'
        have hk : (i + 1) * sz' ≤ l.length * sz' := Nat.mul_le_mul_right _ hi
        rw [Nat.add_mul, Nat.one_mul] at hk
        refine OpOut.pure g (x := .pointer (some ⟨b, o0 + (i * sz' + j'), none⟩)) ?_ (.ptr _ _ _ _ _ _ hρ)
        have hr := Lib.run_to_unsafe (P := P) (w := w) (src := src) (dst := dst) ⟨b, o0 + (i * sz' + j'), none⟩ hs hd ht hj (shape_of hb) (by simp; omega)
        simp only [execOp, ho, ex, Sem.run_bind, hr, Result.andThen_ok, Sem.run_pure]
  | _ => simp at h2

theorem idf_out {o : Oper} {src dst u : TypeId} {j : TypeInfo} {x : Operand} (hs : P.underlying src = some .unsafePointer) (hd : P.underlying dst = some (.pointer u)) (hu : P.info? u = some j) (hc0 : P.cellsOf u ≠ 0) (hj : j.size ≠ 0) (ho : o.op = .convert src dst x)
    (g : Good w.heap ρ Z H) (hF : FR w.heap ρ Z s a) (h : evalOp s H (.idf u (P.cellsOf u) (cx x)) = some rs) : OpOut P w ρ Z H rs ((execOp a.eval o).run P w) := by
  simp only [evalOp, Option.bind_eq_some_iff] at h
  obtain ⟨v, h1, h2⟩ := h
  have hx := ev_rl hF h1
  generalize ex : a.eval x = xv at hx
  cases hx with
  | nilP =>
    simp only [Option.some.injEq] at h2
    subst h2
    refine OpOut.pure g (x := .pointer none) ?_ .nilP
    simp [execOp, ho, ex, convert, run_underlying hs, run_underlying hd, Conv.unsafePointer]
  | ptr id sz i j' b o0 hρ =>
    simp only at h2
    cases hg : hget H id with
    | none => simp [hg] at h2
    | some blk =>
      cases blk with
      | rows sz' l =>
        simp only [hg] at h2
        split at h2 <;> simp only [Option.some.injEq, reduceCtorEq] at h2
        rename_i hc
        obtain ⟨rfl, hn, rfl, rfl, hl, htag⟩ := hc
        subst h2
        obtain ⟨b', o', hρ', cs, e, hb, hbsz, _, _⟩ := g.blk id _ hg
        rw [hρ] at hρ'
        obtain ⟨rfl, rfl⟩ : b = b' ∧ o0 = o' := by simpa using hρ'
        obtain ⟨rfl, m, hty'⟩ := g.ty id b o0 hρ
        have he : e = u := by
          unfold hty at hty'
          rw [hb] at hty'
          simp only [Option.some.injEq, Prod.mk.injEq] at hty'
          rw [hty'.2, htag]
        subst he
        have hk : 1 * sz' ≤ l.length * sz' := Nat.mul_le_mul_right _ hl
        have hpos : 0 < P.cellsOf e := Nat.pos_of_ne_zero hc0
        have hcnt : 1 ≤ cs.size / P.cellsOf e := (Nat.le_div_iff_mul_le hpos).2 (by omega)
        refine OpOut.pure g (x := .pointer (some ⟨b, 0 + (0 * sz' + 0), none⟩)) ?_ (.ptr _ _ _ _ _ _ hρ)
        have hr := Lib.run_from_unsafe (P := P) (w := w) (src := src) (dst := dst) ⟨b, 0 + (0 * sz' + 0), none⟩ hs hd hu (shape_of hb) (by simpa using lies_self (P := P) hc0 _ _ hcnt)
        simp only [execOp, ho, ex, Sem.run_bind, hr, Result.andThen_ok, Sem.run_pure]
  | _ => simp at h2

theorem run_eql_ptr_same {tp te : TypeId} {j : TypeInfo} (a : Addr) (hp : P.underlying tp = some (.pointer te)) (hte : P.info? te = some j) :
    (binOp .eql tp (.pointer (some a)) (.pointer (some a))).run P w = .ok (.bool true) w := by
  have h : ∀ d : Nat, (Op.equalIn (d + 1) tp (.pointer (some a)) (.pointer (some a))).run P w = .ok true w := fun d => by
    simp [Op.equalIn, run_underlying hp, sizeOf, typeInfo, hte, run_sameAddr_same]
  simp only [binOp]
  simp [Op.equal, Op.maxDepth, h 9999]

theorem peq_out {o : Oper} {op : BinOp} {n : Bool} {t t' e : TypeId} {j : TypeInfo} {x y : Operand} (hu : P.underlying t = some (.pointer e)) (he : P.info? e = some j) (hn : eqNeg op = some n) (ho : o.op = .binOp op t x y t')
    (g : Good w.heap ρ Z H) (hF : FR w.heap ρ Z s a) (h : evalOp s H (.peq n (cx x) (cx y)) = some rs) : OpOut P w ρ Z H rs ((execOp a.eval o).run P w) := by
  simp only [evalOp, Option.bind_eq_some_iff] at h
  obtain ⟨u, h1, v, h2, h3⟩ := h
  have hx := ev_rl hF h1
  have hy := ev_rl hF h2
  generalize ex : a.eval x = xv at hx
  generalize ey : a.eval y = yv at hy
  cases hx with
  | ptr id sz i j' b o0 hρ =>
    cases hy with
    | ptr id' sz2 i' j2 b2 o2 hρ2 =>
      simp only at h3
      split at h3 <;> simp only [Option.some.injEq, reduceCtorEq] at h3
      rename_i hc
      obtain ⟨rfl, rfl, rfl, rfl⟩ := hc
      subst h3
      rw [hρ] at hρ2
      obtain ⟨rfl, rfl⟩ : b = b2 ∧ o0 = o2 := by simpa using hρ2
      refine OpOut.pure g (x := .bool (!n)) ?_ (.bool _)
      rcases eqNeg_spec hn with ⟨rfl, rfl⟩ | ⟨rfl, rfl⟩
      · simp [execOp, ho, ex, ey, eqGuard_at_pointer, run_eql_ptr_same _ hu he]
      · simp [execOp, ho, ex, ey, eqGuard_at_pointer, Lib.run_neq_ptr_same _ _ hu he]
    | _ => simp at h3
  | _ => simp at h3

theorem sdata_out {o : Oper} {c : Call} {x : Operand} (ho : o.op = .call c) (hc : c.callee = .builtin .unsafeSliceData) (hx : c.args = #[x]) (g : Good w.heap ρ Z H) (hF : FR w.heap ρ Z s a)
    (h : evalOp s H (.sdata (cx x)) = some rs) : OpOut P w ρ Z H rs ((execOp a.eval o).run P w) := by
  simp only [evalOp, Option.bind_eq_some_iff] at h
  obtain ⟨v, h1, h2⟩ := h
  have hr := ev_rl hF h1
  generalize ex : a.eval x = xv at hr
  have run0 : ∀ r, (Builtin.unsafeSliceData_ c.argTypes o.type #[xv]).run P w = .ok r w → (execOp a.eval o).run P w = .ok (.value r) w := by
    intro r q
    simp [execOp, ho, resolve, hc, hx, ex, invoke, builtin, q]
  cases hr with
  | nilS =>
    simp only [Option.some.injEq] at h2
    subst h2
    exact OpOut.pure g (run0 _ (Lib.run_unsafeSliceData_nil w _ _ _ _)) .nilP
  | own id sz lo hi b o0 o' n cp m hρ hlo hn hnc ho' hm hcap =>
    simp only at h2
    split at h2 <;> simp only [Option.some.injEq, reduceCtorEq] at h2
    rename_i hlt
    subst h2
    have hcp : cp ≠ 0 := by omega
    have hoo : o' = o0 + (lo * sz + 0) := by
      rcases ho' with q | q
      · exact absurd q hcp
      · rw [q]; rfl
    subst hoo
    exact OpOut.pure g (run0 _ (Lib.run_unsafeSliceData_row w _ _ _ _ _ hcp)) (.ptr _ _ _ _ _ _ hρ)
  | _ => simp at h2

theorem hty_freeze {h : Array Obj} {b : Nat} {cs : Array Value} {e : TypeId} {f f' : Nat × Nat} (hb : h[b]? = some (.cells cs e f)) {h' : Array Obj} (hh : ∀ k, h'[k]? = if k = b then some (.cells cs e f') else h[k]?) :
    (∀ k t, hty h k = some t → hty h' k = some t) ∧ ∀ k q u, hcell h k q = some u → hcell h' k q = some u := by
  refine ⟨fun k t q => ?_, fun k q u r => ?_⟩
  · unfold hty at *
    rw [hh]
    by_cases e1 : k = b
    · subst e1; rw [if_pos rfl]; rw [hb] at q; exact q
    · rw [if_neg e1]; exact q
  · unfold hcell at *
    rw [hh]
    by_cases e1 : k = b
    · subst e1; rw [if_pos rfl]; rw [hb] at r; exact r
    · rw [if_neg e1]; exact r

theorem bytes_cells : ∀ {ys : List (List AV)} {l : List UInt8}, bytesA ys = some l → ys.length = l.length ∧ ∀ (i : Nat) x, l[i]? = some x → ys[i]? = some [.int .u8 (x.toNat : Int)]
  | [], l, h => by simp only [bytesA, Option.some.injEq] at h; subst h; exact ⟨rfl, by simp⟩
  | y :: ys, l, h => by
    unfold bytesA at h
    split at h
    · rename_i he; cases he
    · rename_i n r he
      simp only [List.cons.injEq] at he
      obtain ⟨rfl, rfl⟩ := he
      split at h <;> simp only [Option.bind_eq_some_iff, Option.some.injEq, reduceCtorEq] at h
      rename_i hn
      obtain ⟨l', h1, rfl⟩ := h
      obtain ⟨e1, e2⟩ := bytes_cells h1
      refine ⟨by simp [e1], fun i x q => ?_⟩
      cases i with
      | zero =>
        simp at q
        subst q
        simp
        omega
      | succ i => simpa using e2 i x (by simpa using q)
    · cases h

theorem ustr_out {o : Oper} {c : Call} {t t2 e : TypeId} {x y : Operand} (hu : P.underlying t = some (.pointer e)) (hc1 : P.cellsOf e = 1) (ho : o.op = .call c) (hc : c.callee = .builtin .unsafeString) (hx : c.args = #[x, y]) (ht : c.argTypes = #[t, t2])
    (g : Good w.heap ρ Z H) (hF : FR w.heap ρ Z s a) (h : evalOp s H (.ustr e (cx x) (cx y)) = some rs) : OpOut P w ρ Z H rs ((execOp a.eval o).run P w) := by
  simp only [evalOp, Option.bind_eq_some_iff] at h
  obtain ⟨v, h1, u, h2, h3⟩ := h
  have hrx := ev_rl hF h1
  have hry := ev_rl hF h2
  generalize ex : a.eval x = xv at hrx
  generalize ey : a.eval y = yv at hry
  have run0 : ∀ r w', (Builtin.unsafeString_ #[t, t2] o.type #[xv, yv]).run P w = .ok r w' → (execOp a.eval o).run P w = .ok (.value r) w' := by
    intro r w' q
    simp [execOp, ho, resolve, hc, hx, ht, ex, ey, invoke, builtin, q]
  cases hrx with
  | nilP =>
    cases hry with
    | int k n =>
      cases k <;> simp only at h3 <;> try (cases h3; done)
      split at h3 <;> simp only [Option.some.injEq, reduceCtorEq] at h3
      rename_i hn
      subst hn; subst h3
      exact OpOut.pure g (run0 _ _ (Lib.run_unsafeString_none w _ _ _ _)) (.str [] _ rfl)
    | _ => simp at h3
  | ptr id sz i j b o0 hρ =>
    cases hry with
    | int k n =>
      cases k <;> simp only at h3 <;> try (cases h3; done)
      cases hg : hget H id with
      | none => simp [hg] at h3
      | some blk =>
        cases blk with
        | rows sz' l =>
          simp only [hg, Option.bind_eq_some_iff] at h3
          obtain ⟨bs, h4, h5⟩ := h3
          split at h5 <;> simp only [Option.some.injEq, reduceCtorEq] at h5
          rename_i hcd
          obtain ⟨rfl, rfl, rfl, rfl, hn0, hnl, hn63, htag⟩ := hcd
          subst h5
          obtain ⟨b', o', hρ', cs, et, hb, hbsz, hws, hvs⟩ := g.blk id _ hg
          have hρ'' := hρ'
          rw [hρ] at hρ'
          obtain ⟨rfl, rfl⟩ : b = b' ∧ o0 = o' := by simpa using hρ'
          obtain ⟨rfl, m, hty'⟩ := g.ty id b o0 hρ
          have he : et = e := by
            unfold hty at hty'
            rw [hb] at hty'
            simp only [Option.some.injEq, Prod.mk.injEq] at hty'
            rw [hty'.2, htag]
          subst he
          obtain ⟨e1, e2⟩ := bytes_cells h4
          have hbl : (bs.length : Int) = n := by rw [← e1, List.length_take]; omega
          have hcell : ∀ (q : Nat) z, bs[q]? = some z → w.cell? ((⟨b, 0, none⟩ : Addr).add q) = some (.int .u8 z.toNat) := by
            intro q z hq
            have hr := e2 q z hq
            have hlt := (List.getElem?_eq_some_iff.1 hq).1
            rw [List.getElem?_take, if_pos (by omega)] at hr
            obtain ⟨_, y', hy, hyr⟩ := hvs q _ 0 _ hr rfl
            cases hyr
            rw [addr_add, cell?_heap]
            unfold hcell
            rw [hb]
            simpa using hy
          have hrun := Lib.run_unsafeString_row (P := P) w t t2 o.type et hu hc1 b cs.size (shape_of hb) bs (fun q => by rw [q] at hbl; simp at hbl; omega) (by omega) (by omega) hcell
          rw [hbl] at hrun
          have hlt := (Array.getElem?_eq_some_iff.1 hb).1
          have hown : Own ρ H b := ⟨id, _, 0, hg, hρ⟩
          have hZ : ¬ Z b := g.notZ b hown
          have hfr : ∃ f', ∀ k, (w.freeze ⟨b, 0, none⟩ bs.length).heap[k]? = if k = b then some (.cells cs et f') else w.heap[k]? := by
            unfold World.freeze
            rw [if_neg (by omega)]
            refine ⟨(0, 0 + bs.length), fun k => ?_⟩
            simp only [Array.getElem?_modify]
            by_cases e3 : b = k
            · subst e3; rw [if_pos rfl, if_pos rfl, hb]; rfl
            · rw [if_neg e3, if_neg (fun q => e3 q.symm)]
          obtain ⟨f', hheap⟩ := hfr
          obtain ⟨ht1, ht2⟩ := hty_freeze hb hheap
          have hsz : (w.freeze ⟨b, 0, none⟩ bs.length).heap.size = w.heap.size := by
            unfold World.freeze
            rw [if_neg (by omega)]
            simp
          have up : ∀ v x, Rl w.heap ρ Z v x → Rl (w.freeze ⟨b, 0, none⟩ bs.length).heap ρ Z v x := fun v x q => q.mono (fun _ _ r => r) (fun _ r => r) (fun k o u _ r => ht2 k o u r) ht1
          have hdl : ∀ j bl, hget (hdel H id) j = some bl → j ≠ id ∧ hget H j = some bl := by
            intro j bl hj
            rw [hget_hdel] at hj
            split at hj
            · cases hj
            · rename_i e3; exact ⟨e3, hj⟩
          have hox : ∀ k, Own ρ (hdel H id) k → Own ρ H k := fun k ⟨j, bl, o, q1, q2⟩ => ⟨j, bl, o, (hdl j bl q1).2, q2⟩
          have hos : (w.freeze ⟨b, 0, none⟩ bs.length).os = w.os ∧ (w.freeze ⟨b, 0, none⟩ bs.length).output = w.output ∧ (w.freeze ⟨b, 0, none⟩ bs.length).tape = w.tape := by
            unfold World.freeze
            rw [if_neg (by omega)]
            exact ⟨rfl, rfl, rfl⟩
          have hrun2 := run0 (.string ⟨bs.toArray⟩) (w.freeze ⟨b, 0, none⟩ bs.length) hrun
          refine ⟨_, _, Z, hrun2, ⟨fun j bl hj => ?_, fun p q a' b' u v o1 o2 f1 f2 f3 f4 hne => ?_, fun k q => g.notZ k (hox k q), fun k q => by rw [hsz]; exact g.zlt k q, g.ids, fun j k o q => ?_⟩, .str bs _ (by simp), ?_⟩
          · obtain ⟨q1, q2⟩ := hdl j bl hj
            obtain ⟨b2, o2, q3, q4⟩ := g.blk j bl q2
            refine ⟨b2, o2, q3, q4.mono ?_ up⟩
            rw [hheap, if_neg (g.inj j id _ _ _ _ _ _ q2 hg q3 hρ q1)]
          · exact g.inj p q _ _ _ _ _ _ (hdl p a' f1).2 (hdl q b' f2).2 f3 f4 hne
          · obtain ⟨q1, m', q2⟩ := g.ty j k o q
            exact ⟨q1, m', ht1 _ _ q2⟩
          · refine ⟨by rw [hsz]; exact Nat.le_refl _, fun k hk hO => ?_, ht1, fun _ q => q, fun _ q => .inl q, fun _ _ q => q, fun k q => .inl (hox k q), hos.1, hos.2.1, hos.2.2⟩
            rw [hheap, if_neg (fun q => hO (by rw [q]; exact hown))]
    | _ => simp at h3
  | _ => simp at h3

end
end Go.Proofs.Ytlmplofpclaokaa
