/- Each operation of the model does what the abstract operation says: bytes to a string, and functions of the model's own. -/
import Derived.Test.YtehkmfmahgabmaaSimOps6
import Derived.Laws.BytesString
import Derived.Laws.IdiomStrings
namespace Go.Proofs.Ytehkmfmahgabmaa
set_option autoImplicit false
set_option linter.unusedSimpArgs false
set_option linter.unusedVariables false

section
variable {P : Program} {w : World} {ρ : Loc} {Z : Nat → Prop} {H : AH} {s : Fr} {a : Act} {rs : Rs}

theorem bytes_news : ∀ {ys : List (List AV)} {l : List UInt8} {news : List Value}, bytesA ys = some l → CellsRl w.heap ρ Z ys.flatten news →
    ys.length = l.length ∧ ∃ ns : List Int, news = ns.map (Value.int .u8) ∧ ns.map (fun n => UInt8.ofNat n.toNat) = l
  | [], l, news, h, hc => by
    simp only [bytesA, Option.some.injEq] at h
    subst h
    refine ⟨rfl, [], ?_, rfl⟩
    cases news with
    | nil => rfl
    | cons x r => have := hc.1; simp at this
  | y :: ys, l, news, h, hc => by
    unfold bytesA at h
    split at h
    · rename_i he; cases he
    · rename_i n r he
      simp only [List.cons.injEq] at he
      obtain ⟨rfl, rfl⟩ := he
      simp only [Option.bind_eq_some_iff, Option.some.injEq] at h
      obtain ⟨l', h1, rfl⟩ := h
      cases news with
      | nil => have := hc.1; simp at this
      | cons x r =>
        have h0 := (hc.2 0 _ _ rfl rfl).2
        cases h0
        obtain ⟨e0, ns, e1, e2⟩ := bytes_news (news := r) h1 ⟨by have := hc.1; simp at this ⊢; omega, fun i c x p q => hc.2 (i + 1) c x (by simpa using p) (by simpa using q)⟩
        exact ⟨by simp [e0], n :: ns, by simp [e1], by simp [e2]⟩
    · cases h

theorem foldl_push_num : ∀ (ns : List Int) (r : ByteArray), (ns.foldl (fun r n => r.push (UInt8.ofNat n.toNat)) r).data.toList = r.data.toList ++ ns.map (fun n => UInt8.ofNat n.toNat)
  | [], r => by simp
  | n :: ns, r => by
    rw [List.foldl_cons, foldl_push_num ns]
    simp [ByteArray.push]

theorem bytesS_out {o : Oper} {src dst e : TypeId} {x : Operand} (hs : P.underlying src = some (.slice e)) (hd : P.underlying dst = some .string) (he : P.underlying e = some (.int .u8)) (ho : o.op = .convert src dst x)
    (g : Good w.heap ρ Z H) (hF : FR w.heap ρ Z s a) (h : evalOp s H (.bytesS (cx x)) = some rs) : OpOut P w ρ Z H rs ((execOp a.eval o).run P w) := by
  simp only [evalOp, Option.bind_eq_some_iff] at h
  obtain ⟨v, h1, ys, h2, l, h3, h4⟩ := h
  simp only [Option.some.injEq] at h4
  subst h4
  have hx := ev_rl hF h1
  obtain ⟨_, _, news, hc, hf, hl⟩ := readS_rl (P := P) g hx h2
  obtain ⟨e0, ns, rfl, e2⟩ := bytes_news h3 hc
  have hf := hf w rfl
  generalize ex : a.eval x = xv at hx hf hl
  have done : ∀ (r : ByteArray) l0 c0 a0, xv = .slice a0 l0 c0 → (Conv.bytesToString (.slice a0 l0 c0)).run P w = .ok (.string r) w → r.data.toList = l →
      OpOut P w ρ Z H (.val (.str l)) ((execOp a.eval o).run P w) := by
    intro r l0 c0 a0 e hr hd'
    refine OpOut.pure g (x := .string r) ?_ (.str _ _ hd')
    subst e
    simp only [execOp, ho, ex, Sem.run_bind, run_convert_bytes_string w src dst e _ _ _ hs he hd, hr, Result.andThen_ok, Sem.run_pure]
  have hslice : (∃ l0 c0, xv = .slice none l0 c0) ∨ ∃ a0 l0 c0, xv = .slice (some a0) l0 c0 := by
    cases hx <;> first
      | exact .inl ⟨_, _, rfl⟩
      | exact .inr ⟨_, _, _, rfl⟩
      | (simp [readS] at h2; done)
  rcases hslice with ⟨l0, c0, rfl⟩ | ⟨a0, l0, c0, rfl⟩
  · refine done ByteArray.empty l0 c0 none rfl (by simp [Conv.bytesToString]) ?_
    have hns : ns = [] := by
      simp only [Builtin.firstCells, Sem.run_pure] at hf
      simp at hf
      exact hf
    subst hns
    rw [← e2]; rfl
  · have hl0 : l0 = ys.length := by
      have := congrArg (fun m => Sem.run P m w) hl
      simp [Builtin.lenOf] at this
      exact this
    subst hl0
    refine done _ _ c0 _ rfl (run_bytesToString w a0 _ c0 ns (by simpa [Builtin.firstCells] using hf)) ?_
    rw [foldl_push_num, e2]
    rfl

def extSem : EK → Array Value → Sem Value
  | .cnt => Extern.BytealgCount.count
  | .ixb => Extern.BytealgIndexByte.indexByte
  | .cmp => Extern.BytealgCompare.compare

theorem extern_find {fn : Func} {k : EK} (h : extName fn.name = some k) : Extern.find fn = some (extSem k) ∧ (fn.name == "runtime.NumGoroutine") = false := by
  unfold extName at h
  split at h
  · rename_i e
    simp only [Option.some.injEq] at h
    subst h
    cases fn
    simp only at e
    subst e
    exact ⟨rfl, rfl⟩
  · split at h
    · rename_i e
      simp only [Option.some.injEq] at h
      subst h
      cases fn
      simp only at e
      subst e
      exact ⟨rfl, rfl⟩
    · split at h
      · rename_i e
        simp only [Option.some.injEq] at h
        subst h
        cases fn
        simp only at e
        subst e
        exact ⟨rfl, rfl⟩
      · cases h

theorem ext_out {o : Oper} {c : Call} {f : Nat} {k : EK} (hk : extOf P f = some k) (ho : o.op = .call c) (hc : c.callee = .value (.func f)) (g : Good w.heap ρ Z H) (hF : FR w.heap ρ Z s a)
    (h : evalOp s H (.ext k (cxL c.args.toList)) = some rs) : OpOut P w ρ Z H rs ((execOp a.eval o).run P w) := by
  simp only [evalOp, Option.bind_eq_some_iff] at h
  obtain ⟨vs, h1, v, h2, h3⟩ := h
  simp only [Option.some.injEq] at h3
  subst h3
  have hl := evL_rl hF h1
  unfold extOf at hk
  split at hk
  · rename_i fn hfn
    split at hk
    · rename_i hb
      simp only [Bool.and_eq_true] at hb
      obtain ⟨he, hn⟩ := extern_find hk
      have key : ∃ x, (extSem k (c.args.toList.map a.eval).toArray).run P w = .ok x w ∧ Rl w.heap ρ Z v x := by
        unfold extA at h2
        split at h2
        · rename_i l n
          simp only [Option.some.injEq] at h2
          subst h2
          match hm : c.args.toList.map a.eval, hl with
          | [x, y], hl =>
            have q1 := hl.2 0 _ x rfl rfl
            have q2 := hl.2 1 _ y rfl rfl
            cases q1 with
            | str _ b hb =>
              cases q2
              subst hb
              exact ⟨_, Lib.run_countString (P := P) b n w, .int _ _⟩
          | [], hl => have := hl.1; simp at this
          | [x], hl => have := hl.1; simp at this
          | _ :: _ :: _ :: _, hl => have := hl.1; simp at this
        · rename_i l n
          simp only [Option.some.injEq] at h2
          subst h2
          match hm : c.args.toList.map a.eval, hl with
          | [x, y], hl =>
            have q1 := hl.2 0 _ x rfl rfl
            have q2 := hl.2 1 _ y rfl rfl
            cases q1 with
            | str _ b hb =>
              cases q2
              subst hb
              exact ⟨_, Lib.run_indexByteString (P := P) b n w, .int _ _⟩
          | [], hl => have := hl.1; simp at this
          | [x], hl => have := hl.1; simp at this
          | _ :: _ :: _ :: _, hl => have := hl.1; simp at this
        · rename_i l n
          simp only [Option.some.injEq] at h2
          subst h2
          match hm : c.args.toList.map a.eval, hl with
          | [x, y], hl =>
            have q1 := hl.2 0 _ x rfl rfl
            have q2 := hl.2 1 _ y rfl rfl
            cases q1 with
            | str _ b hb =>
              cases q2 with
              | str _ b2 hb2 => subst hb; subst hb2; exact ⟨_, Lib.run_compareString (P := P) b b2 w, .int _ _⟩
          | [], hl => have := hl.1; simp at this
          | [x], hl => have := hl.1; simp at this
          | _ :: _ :: _ :: _, hl => have := hl.1; simp at this
        · cases h2
      obtain ⟨x, hr, hv⟩ := key
      refine OpOut.pure g (x := x) ?_ hv
      have harr : c.args.map a.eval = (c.args.toList.map a.eval).toArray := by apply Array.ext'; simp
      simp only [execOp, ho, resolve, hc, Act.eval, Deferred.ofValue, Sem.run_bind, Sem.run_pure, Result.andThen_ok, invoke, harr]
      have hfr := run_callFunc_extern (P := P) hfn hn hb.1 (by simpa using hb.2) he (c.args.toList.map a.eval).toArray w
      rw [hr] at hfr
      simp only [Result.andThen_ok] at hfr
      simpa using hfr
    · cases hk
  · cases hk

end
end Go.Proofs.Ytehkmfmahgabmaa
