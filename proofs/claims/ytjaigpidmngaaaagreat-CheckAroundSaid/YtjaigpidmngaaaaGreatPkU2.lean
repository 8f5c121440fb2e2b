/- Texts of this proof, one behind the other: SimOps7, SimOp, SimCall, SimReg, SimDraw, SimAny, SimAny2, SimAny3, SimRng, SimSound, CodeA. -/
import Derived.Test.YtjaigpidmngaaaaGreatPkU1
import Derived.Laws.BytesString
import Derived.Laws.IdiomStrings
import Derived.Lib.Builder
import Derived.Lib.UnsafeStr
import Derived.Test.YtjaigpidmngaaaaGreatProg
import Derived.KernelRfl
set_option autoImplicit false
set_option linter.unusedSimpArgs false
set_option linter.unusedVariables false
namespace Go.Proofs.YtjaigpidmngaaaaGreat
section
variable {P : Program} {w : World} {ρ : Loc} {Z : Nat → Prop} {H : AH} {s : Fr} {a : Act} {rs : Rs}
theorem bytes_news : ∀ {ys : List (List AV)} {l : List UInt8} {news : List Value}, bytesA ys = some l → CellsRl w.heap ρ Z ys.flatten news →
    ys.length = l.length ∧ ∃ ns : List Int, news = ns.map (Value.int .u8) ∧ ns.map (fun n => UInt8.ofNat n.toNat) = l
  | [], l, news, h, hc => by
    simp only [bytesA, Option.some.injEq] at h
    subst h
    refine ⟨rfl, [], ?_, rfl⟩
    cases news with
    | nil => rfl
    | cons x r => have := hc.1; simp at this
  | y :: ys, l, news, h, hc => by
    unfold bytesA at h
    split at h
    · rename_i he; cases he
    · rename_i n r he
      simp only [List.cons.injEq] at he
      obtain ⟨rfl, rfl⟩ := he
      split at h <;> simp only [Option.bind_eq_some_iff, Option.some.injEq, reduceCtorEq] at h
      obtain ⟨l', h1, rfl⟩ := h
      cases news with
      | nil => have := hc.1; simp at this
      | cons x r =>
        have h0 := (hc.2 0 _ _ rfl rfl).2
        cases h0
        obtain ⟨e0, ns, e1, e2⟩ := bytes_news (news := r) h1 ⟨by have := hc.1; simp at this ⊢; omega, fun i c x p q => hc.2 (i + 1) c x (by simpa using p) (by simpa using q)⟩
        exact ⟨by simp [e0], n :: ns, by simp [e1], by simp [e2]⟩
    · cases h
theorem foldl_push_num : ∀ (ns : List Int) (r : ByteArray), (ns.foldl (fun r n => r.push (UInt8.ofNat n.toNat)) r).data.toList = r.data.toList ++ ns.map (fun n => UInt8.ofNat n.toNat)
  | [], r => by simp
  | n :: ns, r => by
    rw [List.foldl_cons, foldl_push_num ns]
    simp [ByteArray.push]
theorem lit_outG {w' : World} {x : Value} {r : Result Next} {v : AV} (g : Good w.heap ρ Z H) (hr : r = .ok (.value x) w') (hn : w'.heap.size = w.heap.size + 1) (hold : ∀ j, j < w.heap.size → w'.heap[j]? = w.heap[j]?)
    (ho : w'.os = w.os) (hu : w'.output = w.output) (ht : w'.tape = w.tape) (hx : Rl w'.heap ρ (fun b => Z b ∨ b = w.heap.size) v x) : OpOut P w ρ Z H (.val v) r := by
  have hty2 : ∀ k t, hty w.heap k = some t → hty w'.heap k = some t := fun k t q => by
    have hk : k < w.heap.size := by
      unfold hty at q
      cases hh : w.heap[k]? with
      | none => simp [hh] at q
      | some y => exact (Array.getElem?_eq_some_iff.1 hh).1
    unfold hty at q ⊢
    rw [hold k hk]; exact q
  have hrl : ∀ v y, Rl w.heap ρ Z v y → Rl w'.heap ρ (fun b => Z b ∨ b = w.heap.size) v y := fun v y q =>
    q.mono (fun _ _ h => h) (fun _ h => .inl h) (fun b o u hz hu => by
      unfold hcell at hu ⊢
      rw [hold b (g.zlt b hz)]; exact hu) hty2
  refine ⟨x, w', fun b => Z b ∨ b = w.heap.size, hr, ?_, hx, ?_⟩
  · refine ⟨fun j blk hj => ?_, g.inj, fun b hb hz => ?_, fun b hz => ?_, g.ids, fun j b o hj => let ⟨h1, m, h2⟩ := g.ty j b o hj; ⟨h1, m, hty2 _ _ h2⟩, g.tab.of (fun _ q => .inl q) (fun b q => hold b (g.zlt b q))⟩
    · obtain ⟨b, o, h1, h2⟩ := g.blk j blk hj
      exact ⟨b, o, h1, h2.mono (hold b h2.lt) hrl⟩
    · rcases hz with hz | hz
      · exact g.notZ b hb hz
      · have := g.own_lt hb; omega
    · rcases hz with hz | hz
      · have := g.zlt b hz; omega
      · omega
  · refine ⟨by omega, fun b hb _ => hold b hb, hty2, fun _ h => .inl h, fun b h => ?_, fun _ _ h => h, fun _ h => .inl h, ho, hu, ht⟩
    rcases h with h | h
    · exact .inl h
    · exact .inr (.inr (by omega))
theorem strB_out {o : Oper} {src dst e : TypeId} {x : Operand} (hs : P.underlying src = some .string) (hd : P.underlying dst = some (.slice e)) (he : P.underlying e = some (.int .u8)) (ho : o.op = .convert src dst x)
    (g : Good w.heap ρ Z H) (hF : FR w.heap ρ Z s a) (h : evalOp s H (.strB (cx x)) = some rs) : OpOut P w ρ Z H rs ((execOp a.eval o).run P w) := by
  simp only [evalOp, Option.bind_eq_some_iff] at h
  obtain ⟨v, h1, h2⟩ := h
  have hx := ev_rl hF h1
  generalize ex : a.eval x = xv at hx
  cases hx with
  | str l sb hsb =>
    simp only [Option.some.injEq] at h2
    subst h2
    have hsz : sb.size = l.length := by rw [← hsb]; simp
    have hnew := Lib.bytesWorld_at_new w e sb
    have hcell : ∀ (i : Nat) (c : UInt8), l[i]? = some c → hcell (Lib.bytesWorld w e sb).heap w.heap.size i = some (.int .u8 (c.toNat : Int)) := fun i c q => by
      unfold Go.Proofs.YtjaigpidmngaaaaGreat.hcell
      rw [hnew]
      have hi : i < sb.data.size := by
        have := (List.getElem?_eq_some_iff.1 q).1
        rw [← hsb] at this
        simpa using this
      show (Lib.bytesCells w e sb)[i]? = _
      unfold Lib.bytesCells
      rw [Array.getElem?_append_left (by simpa using hi), Array.getElem?_map]
      have q2 : sb.data[i]? = some c := by rw [← hsb] at q; simpa using q
      rw [q2]; rfl
    refine lit_outG (x := .slice (some ⟨w.heap.size, 0, none⟩) sb.size (grownCap w sb.size 0 e)) (w' := Lib.bytesWorld w e sb) g ?_ ?_ (Lib.bytesWorld_at_old w e sb) rfl rfl rfl ?_
    · simp only [execOp, ho, ex, Sem.run_bind, Lib.run_convert_string_bytes w src dst e sb hs hd he, Result.andThen_ok, Sem.run_pure]
    · simp [Lib.bytesWorld, World.freeze, World.alloc, World.drew, -World.alloc_eq, -World.drew_eq]
    · have at' : ∀ (i : Nat) r (j : Nat) v, (l.map fun c => [AV.int .u8 (c.toNat : Int)])[i]? = some r → r[j]? = some v → ∃ c, l[i]? = some c ∧ j = 0 ∧ v = .int .u8 (c.toNat : Int) := fun i r j v q1 q2 => by
        rw [List.getElem?_map] at q1
        cases hc : l[i]? with
        | none => rw [hc] at q1; cases q1
        | some c =>
          rw [hc] at q1
          simp only [Option.map_some, Option.some.injEq] at q1
          subst q1
          cases j with
          | zero => simp at q2; exact ⟨c, rfl, rfl, q2.symm⟩
          | succ j => simp at q2
      refine .rows 1 _ w.heap.size 0 _ _ (fun k => .int .u8 (((l.getD k 0).toNat : Nat) : Int)) (by rw [hsz]; simp) (grownCap_ge _ _ _ _) (fun _ => .inr rfl) (fun i r q => ?_) (fun i r j v q1 q2 => ?_) (fun i r j v q1 q2 => ?_) (fun i r j v q1 q2 => ?_)
      · rw [List.getElem?_map] at q
        cases hc : l[i]? with
        | none => rw [hc] at q; cases q
        | some c => rw [hc] at q; simp only [Option.map_some, Option.some.injEq] at q; subst q; rfl
      · obtain ⟨c, _, _, rfl⟩ := at' i r j v q1 q2; rfl
      · obtain ⟨c, hc, rfl, rfl⟩ := at' i r j v q1 q2
        rw [Nat.zero_add, Nat.mul_one, Nat.add_zero, hcell i c hc]
        simp [List.getD, hc]
      · obtain ⟨c, hc, rfl, rfl⟩ := at' i r j v q1 q2
        rw [Nat.mul_one, Nat.add_zero]
        simp only [List.getD, hc, Option.getD_some]
        exact .int _ _
  | _ => simp at h2
theorem bytesS_out {o : Oper} {src dst e : TypeId} {x : Operand} (hs : P.underlying src = some (.slice e)) (hd : P.underlying dst = some .string) (he : P.underlying e = some (.int .u8)) (ho : o.op = .convert src dst x)
    (g : Good w.heap ρ Z H) (hF : FR w.heap ρ Z s a) (h : evalOp s H (.bytesS (cx x)) = some rs) : OpOut P w ρ Z H rs ((execOp a.eval o).run P w) := by
  simp only [evalOp, Option.bind_eq_some_iff] at h
  obtain ⟨v, h1, ys, h2, l, h3, h4⟩ := h
  simp only [Option.some.injEq] at h4
  subst h4
  have hx := ev_rl hF h1
  obtain ⟨_, _, news, hc, hf, hl⟩ := readS_rl (P := P) g hx h2
  obtain ⟨e0, ns, rfl, e2⟩ := bytes_news h3 hc
  have hf := hf w rfl
  generalize ex : a.eval x = xv at hx hf hl
  have done : ∀ (r : ByteArray) l0 c0 a0, xv = .slice a0 l0 c0 → (Conv.bytesToString (.slice a0 l0 c0)).run P w = .ok (.string r) w → r.data.toList = l →
      OpOut P w ρ Z H (.val (.str l)) ((execOp a.eval o).run P w) := by
    intro r l0 c0 a0 e hr hd'
    refine OpOut.pure g (x := .string r) ?_ (.str _ _ hd')
    subst e
    simp only [execOp, ho, ex, Sem.run_bind, run_convert_bytes_string w src dst e _ _ _ hs he hd, hr, Result.andThen_ok, Sem.run_pure]
  have hslice : (∃ l0 c0, xv = .slice none l0 c0) ∨ ∃ a0 l0 c0, xv = .slice (some a0) l0 c0 := by
    cases hx <;> first
      | exact .inl ⟨_, _, rfl⟩
      | exact .inr ⟨_, _, _, rfl⟩
      | (simp [readS] at h2; done)
  rcases hslice with ⟨l0, c0, rfl⟩ | ⟨a0, l0, c0, rfl⟩
  · refine done ByteArray.empty l0 c0 none rfl (by simp [Conv.bytesToString]) ?_
    have hns : ns = [] := by
      simp only [Builtin.firstCells, Sem.run_pure] at hf
      simp at hf
      exact hf
    subst hns
    rw [← e2]; rfl
  · have hl0 : l0 = ys.length := by
      have := congrArg (fun m => Sem.run P m w) hl
      simp [Builtin.lenOf] at this
      exact this
    subst hl0
    refine done _ _ c0 _ rfl (run_bytesToString w a0 _ c0 ns (by simpa [Builtin.firstCells] using hf)) ?_
    rw [foldl_push_num, e2]
    rfl
def extSem : EK → Array Value → Sem Value
  | .cnt => Extern.BytealgCount.count
  | .ixb => Extern.BytealgIndexByte.indexByte
  | .cmp => Extern.BytealgCompare.compare
  | .same => Extern.AbiNoEscape.same
theorem extern_find {fn : Func} {k : EK} (h : extName fn.name = some k) : Extern.find fn = some (extSem k) ∧ (fn.name == "runtime.NumGoroutine") = false := by
  unfold extName at h
  split at h
  · rename_i e
    simp only [Option.some.injEq] at h
    subst h
    cases fn
    simp only at e
    subst e
    exact ⟨rfl, rfl⟩
  · split at h
    · rename_i e
      simp only [Option.some.injEq] at h
      subst h
      cases fn
      simp only at e
      subst e
      exact ⟨rfl, rfl⟩
    · split at h
      · rename_i e
        simp only [Option.some.injEq] at h
        subst h
        cases fn
        simp only at e
        subst e
        exact ⟨rfl, rfl⟩
      · split at h
        · rename_i e
          simp only [Option.some.injEq] at h
          subst h
          cases fn
          simp only at e
          subst e
          exact ⟨rfl, rfl⟩
        · cases h
theorem ext_out {o : Oper} {c : Call} {f : Nat} {k : EK} (hk : extOf P f = some k) (ho : o.op = .call c) (hc : c.callee = .value (.func f)) (g : Good w.heap ρ Z H) (hF : FR w.heap ρ Z s a)
    (h : evalOp s H (.ext k (cxL c.args.toList)) = some rs) : OpOut P w ρ Z H rs ((execOp a.eval o).run P w) := by
  simp only [evalOp, Option.bind_eq_some_iff] at h
  obtain ⟨vs, h1, v, h2, h3⟩ := h
  simp only [Option.some.injEq] at h3
  subst h3
  have hl := evL_rl hF h1
  unfold extOf at hk
  split at hk
  · rename_i fn hfn
    split at hk
    · rename_i hb
      simp only [Bool.and_eq_true] at hb
      obtain ⟨he, hn⟩ := extern_find hk
      have key : ∃ x, (extSem k (c.args.toList.map a.eval).toArray).run P w = .ok x w ∧ Rl w.heap ρ Z v x := by
        unfold extA at h2
        split at h2
        · rename_i l n
          simp only [Option.some.injEq] at h2
          subst h2
          match hm : c.args.toList.map a.eval, hl with
          | [x, y], hl =>
            have q1 := hl.2 0 _ x rfl rfl
            have q2 := hl.2 1 _ y rfl rfl
            cases q1 with
            | str _ b hb =>
              cases q2
              subst hb
              exact ⟨_, Lib.run_countString (P := P) b n w, .int _ _⟩
          | [], hl => have := hl.1; simp at this
          | [x], hl => have := hl.1; simp at this
          | _ :: _ :: _ :: _, hl => have := hl.1; simp at this
        · rename_i l n
          simp only [Option.some.injEq] at h2
          subst h2
          match hm : c.args.toList.map a.eval, hl with
          | [x, y], hl =>
            have q1 := hl.2 0 _ x rfl rfl
            have q2 := hl.2 1 _ y rfl rfl
            cases q1 with
            | str _ b hb =>
              cases q2
              subst hb
              exact ⟨_, Lib.run_indexByteString (P := P) b n w, .int _ _⟩
          | [], hl => have := hl.1; simp at this
          | [x], hl => have := hl.1; simp at this
          | _ :: _ :: _ :: _, hl => have := hl.1; simp at this
        · rename_i l n
          simp only [Option.some.injEq] at h2
          subst h2
          match hm : c.args.toList.map a.eval, hl with
          | [x, y], hl =>
            have q1 := hl.2 0 _ x rfl rfl
            have q2 := hl.2 1 _ y rfl rfl
            cases q1 with
            | str _ b hb =>
              cases q2 with
              | str _ b2 hb2 => subst hb; subst hb2; exact ⟨_, Lib.run_compareString (P := P) b b2 w, .int _ _⟩
          | [], hl => have := hl.1; simp at this
          | [x], hl => have := hl.1; simp at this
          | _ :: _ :: _ :: _, hl => have := hl.1; simp at this
        · simp only [Option.some.injEq] at h2
          subst h2
          match hm : c.args.toList.map a.eval, hl with
          | [x], hl => exact ⟨x, rfl, hl.2 0 _ x rfl rfl⟩
          | [], hl => have := hl.1; simp at this
          | _ :: _ :: _, hl => have := hl.1; simp at this
        · cases h2
      obtain ⟨x, hr, hv⟩ := key
      refine OpOut.pure g (x := x) ?_ hv
      have harr : c.args.map a.eval = (c.args.toList.map a.eval).toArray := by apply Array.ext'; simp
      simp only [execOp, ho, resolve, hc, Act.eval, Deferred.ofValue, Sem.run_bind, Sem.run_pure, Result.andThen_ok, invoke, harr]
      have hfr := run_callFunc_extern (P := P) hfn hn hb.1 (by simpa using hb.2) he (c.args.toList.map a.eval).toArray w
      rw [hr] at hfr
      simp only [Result.andThen_ok] at hfr
      simpa using hfr
    · cases hk
  · cases hk
/-! ### Pointers without a type -/
theorem lies_self {e : TypeId} (hc : P.cellsOf e ≠ 0) (count n : Nat) (hn : n ≤ count) : liesAt P P.depth e count 0 e n = true := by
  have hd : P.depth = (2 * (P.types.size + Made.depth) + 1) + 1 := rfl
  rw [hd]
  simp only [liesAt, Bool.or_eq_true]
  left
  rw [hd]
  simp [rowAt, hc, hn, sameLayout]
theorem shape_of {w : World} {b : Nat} {cs : Array Value} {e : TypeId} {fz : Nat × Nat} (hb : w.heap[b]? = some (.cells cs e fz)) : w.shape? b = some (e, cs.size) := by
  simp [World.shape?, hb]
theorem idu_out {o : Oper} {src dst t : TypeId} {j : TypeInfo} {x : Operand} (hs : P.underlying src = some (.pointer t)) (hd : P.underlying dst = some .unsafePointer) (ht : P.info? t = some j) (hj : j.size ≠ 0) (ho : o.op = .convert src dst x)
    (g : Good w.heap ρ Z H) (hF : FR w.heap ρ Z s a) (h : evalOp s H (.idu (cx x)) = some rs) : OpOut P w ρ Z H rs ((execOp a.eval o).run P w) := by
  simp only [evalOp, Option.bind_eq_some_iff] at h
  obtain ⟨v, h1, h2⟩ := h
  have hx := ev_rl hF h1
  generalize ex : a.eval x = xv at hx
  cases hx with
  | nilP =>
    simp only [Option.some.injEq] at h2
    subst h2
    refine OpOut.pure g (x := .pointer none) ?_ .nilP
    simp [execOp, ho, ex, convert, run_underlying hs, run_underlying hd, Conv.unsafePointer]
  | ptr id sz i j' b o0 hρ =>
    simp only at h2
    cases hg : hget H id with
    | none => simp [hg] at h2
    | some blk =>
      cases blk with
      | loop L => simp [hg] at h2
      | rows sz' l =>
        simp only [hg] at h2
        split at h2 <;> simp only [Option.some.injEq, reduceCtorEq] at h2
        rename_i hc
        obtain ⟨rfl, hi, hj'⟩ := hc
        subst h2
        obtain ⟨b', o', hρ', cs, e, hb, hbsz, _, _⟩ := g.blk id _ hg
        rw [hρ] at hρ'
        obtain ⟨rfl, rfl⟩ : b = b' ∧ o0 = o' := by simpa using hρ'
        have hk : (i + 1) * sz' ≤ l.length * sz' := Nat.mul_le_mul_right _ hi
        rw [Nat.add_mul, Nat.one_mul] at hk
        refine OpOut.pure g (x := .pointer (some ⟨b, o0 + (i * sz' + j'), none⟩)) ?_ (.ptr _ _ _ _ _ _ hρ)
        have hr := Lib.run_to_unsafe (P := P) (w := w) (src := src) (dst := dst) ⟨b, o0 + (i * sz' + j'), none⟩ hs hd ht hj (shape_of hb) (by simp; omega)
        simp only [execOp, ho, ex, Sem.run_bind, hr, Result.andThen_ok, Sem.run_pure]
  | _ => simp at h2
theorem rowAt_more {fits : TypeId → Bool} {d : Nat} {e : TypeId} {c off : Nat} (h : rowAt P fits d e 1 off 1 = true) (hc : 1 ≤ c) : rowAt P fits d e c off 1 = true := by
  cases d with
  | zero => simp [rowAt] at h
  | succ d =>
    simp only [rowAt] at h ⊢
    split at h
    · cases h
    · rename_i h0
      rw [if_neg h0]
      rw [Bool.or_eq_true] at h ⊢
      rcases h with h | h
      · left
        simp only [Bool.and_eq_true, decide_eq_true_eq, beq_iff_eq] at h ⊢
        exact ⟨⟨h.1.1, by omega⟩, h.2⟩
      · right
        rw [Bool.and_eq_true] at h ⊢
        exact ⟨by have := h.1; simp only [decide_eq_true_eq] at this ⊢; omega, h.2⟩
theorem liesAt_row' {d : Nat} {e : TypeId} {c off : Nat} {u : TypeId} (h : rowAt P (sameLayout P P.depth · u) P.depth e 1 off 1 = true) (hc : 1 ≤ c) : liesAt P (d + 1) e c off u 1 = true := by
  unfold liesAt
  rw [Bool.or_eq_true]
  exact .inl (rowAt_more h hc)
theorem liesAt_row {e : TypeId} {c off : Nat} {u : TypeId} (h : rowAt P (sameLayout P P.depth · u) P.depth e 1 off 1 = true) (hc : 1 ≤ c) : liesAt P P.depth e c off u 1 = true :=
  liesAt_row' (d := 2 * (P.types.size + Made.depth) + 1) h hc
theorem liesIn_mem {u : TypeId} {t sz j : Nat} (hc0 : P.cellsOf u ≠ 0) (h : (liesIn P u).contains (t, sz, j) = true) : sz = P.cellsOf t ∧ P.cellsOf t ≠ 0 ∧ ∀ c, 1 ≤ c → liesAt P P.depth t c j u 1 = true := by
  rw [List.contains_iff_mem] at h
  unfold liesIn at h
  rcases List.mem_cons.1 h with h | h
  · simp only [Prod.mk.injEq] at h
    obtain ⟨rfl, rfl, rfl⟩ := h
    exact ⟨rfl, hc0, fun c hc => lies_self hc0 c 1 hc⟩
  · obtain ⟨t', _, h⟩ := List.mem_flatMap.1 h
    split at h
    · obtain ⟨f, _, h⟩ := List.mem_filterMap.1 h
      split at h
      · rename_i hf
        simp only [Option.some.injEq, Prod.mk.injEq] at h
        obtain ⟨rfl, rfl, rfl⟩ := h
        simp only [Bool.and_eq_true, Bool.not_eq_true', decide_eq_true_eq, beq_eq_false_iff_ne] at hf
        refine ⟨rfl, by omega, fun c hc => ?_⟩
        exact liesAt_row hf.2 hc
      · cases h
    · cases h
theorem idf_out {o : Oper} {src dst u : TypeId} {j : TypeInfo} {x : Operand} (hs : P.underlying src = some .unsafePointer) (hd : P.underlying dst = some (.pointer u)) (hu : P.info? u = some j) (hc0 : P.cellsOf u ≠ 0) (hj : j.size ≠ 0) (ho : o.op = .convert src dst x)
    (g : Good w.heap ρ Z H) (hF : FR w.heap ρ Z s a) (h : evalOp s H (.idf (liesIn P u) (cx x)) = some rs) : OpOut P w ρ Z H rs ((execOp a.eval o).run P w) := by
  simp only [evalOp, Option.bind_eq_some_iff] at h
  obtain ⟨v, h1, h2⟩ := h
  have hx := ev_rl hF h1
  generalize ex : a.eval x = xv at hx
  cases hx with
  | nilP =>
    simp only [Option.some.injEq] at h2
    subst h2
    refine OpOut.pure g (x := .pointer none) ?_ .nilP
    simp [execOp, ho, ex, convert, run_underlying hs, run_underlying hd, Conv.unsafePointer]
  | ptr id sz i j' b o0 hρ =>
    simp only at h2
    cases hg : hget H id with
    | none => simp [hg] at h2
    | some blk =>
      cases blk with
      | loop L => simp [hg] at h2
      | rows sz' l =>
        simp only [hg] at h2
        split at h2 <;> simp only [Option.some.injEq, reduceCtorEq] at h2
        rename_i hc
        obtain ⟨rfl, rfl, hl, hmem⟩ := hc
        subst h2
        obtain ⟨b', o', hρ', cs, e, hb, hbsz, _, _⟩ := g.blk id _ hg
        rw [hρ] at hρ'
        obtain ⟨rfl, rfl⟩ : b = b' ∧ o0 = o' := by simpa using hρ'
        obtain ⟨rfl, m, hty'⟩ := g.ty id b o0 hρ
        have he : e = tag id := by
          unfold hty at hty'
          rw [hb] at hty'
          simp only [Option.some.injEq, Prod.mk.injEq] at hty'
          rw [hty'.2]
        rw [← he] at hmem
        obtain ⟨hsz, hce, hlies⟩ := liesIn_mem hc0 hmem
        have hk : 1 * sz' ≤ l.length * sz' := Nat.mul_le_mul_right _ hl
        have hpos : 0 < P.cellsOf e := Nat.pos_of_ne_zero hce
        have hcnt : 1 ≤ cs.size / P.cellsOf e := (Nat.le_div_iff_mul_le hpos).2 (by omega)
        refine OpOut.pure g (x := .pointer (some ⟨b, 0 + (0 * sz' + j'), none⟩)) ?_ (.ptr _ _ _ _ _ _ hρ)
        have hr := Lib.run_from_unsafe (P := P) (w := w) (src := src) (dst := dst) ⟨b, 0 + (0 * sz' + j'), none⟩ hs hd hu (shape_of hb) (by simpa using hlies _ hcnt)
        simp only [execOp, ho, ex, Sem.run_bind, hr, Result.andThen_ok, Sem.run_pure]
  | _ => simp at h2
theorem run_eql_ptr_same {tp te : TypeId} {j : TypeInfo} (a : Addr) (hp : P.underlying tp = some (.pointer te)) (hte : P.info? te = some j) :
    (binOp .eql tp (.pointer (some a)) (.pointer (some a))).run P w = .ok (.bool true) w := by
  have h : ∀ d : Nat, (Op.equalIn (d + 1) tp (.pointer (some a)) (.pointer (some a))).run P w = .ok true w := fun d => by
    simp [Op.equalIn, run_underlying hp, sizeOf, typeInfo, hte, run_sameAddr_same]
  simp only [binOp]
  simp [Op.equal, Op.maxDepth, h 9999]
theorem peq_out {o : Oper} {op : BinOp} {n : Bool} {t t' e : TypeId} {j : TypeInfo} {x y : Operand} (hu : P.underlying t = some (.pointer e)) (he : P.info? e = some j) (hn : eqNeg op = some n) (ho : o.op = .binOp op t x y t')
    (g : Good w.heap ρ Z H) (hF : FR w.heap ρ Z s a) (h : evalOp s H (.peq n (cx x) (cx y)) = some rs) : OpOut P w ρ Z H rs ((execOp a.eval o).run P w) := by
  simp only [evalOp, Option.bind_eq_some_iff] at h
  obtain ⟨u, h1, v, h2, h3⟩ := h
  have hx := ev_rl hF h1
  have hy := ev_rl hF h2
  generalize ex : a.eval x = xv at hx
  generalize ey : a.eval y = yv at hy
  cases hx with
  | ptr id sz i j' b o0 hρ =>
    cases hy with
    | ptr id' sz2 i' j2 b2 o2 hρ2 =>
      simp only at h3
      split at h3 <;> simp only [Option.some.injEq, reduceCtorEq] at h3
      rename_i hc
      obtain ⟨rfl, rfl, rfl, rfl⟩ := hc
      subst h3
      rw [hρ] at hρ2
      obtain ⟨rfl, rfl⟩ : b = b2 ∧ o0 = o2 := by simpa using hρ2
      refine OpOut.pure g (x := .bool (!n)) ?_ (.bool _)
      rcases eqNeg_spec hn with ⟨rfl, rfl⟩ | ⟨rfl, rfl⟩
      · simp [execOp, ho, ex, ey, eqGuard_at_pointer, run_eql_ptr_same _ hu he]
      · simp [execOp, ho, ex, ey, eqGuard_at_pointer, Lib.run_neq_ptr_same _ _ hu he]
    | _ => simp at h3
  | _ => simp at h3
theorem sdata_out {o : Oper} {c : Call} {x : Operand} (ho : o.op = .call c) (hc : c.callee = .builtin .unsafeSliceData) (hx : c.args = #[x]) (g : Good w.heap ρ Z H) (hF : FR w.heap ρ Z s a)
    (h : evalOp s H (.sdata (cx x)) = some rs) : OpOut P w ρ Z H rs ((execOp a.eval o).run P w) := by
  simp only [evalOp, Option.bind_eq_some_iff] at h
  obtain ⟨v, h1, h2⟩ := h
  have hr := ev_rl hF h1
  generalize ex : a.eval x = xv at hr
  have run0 : ∀ r, (Builtin.unsafeSliceData_ c.argTypes o.type #[xv]).run P w = .ok r w → (execOp a.eval o).run P w = .ok (.value r) w := by
    intro r q
    simp [execOp, ho, resolve, hc, hx, ex, invoke, builtin, q]
  cases hr with
  | nilS =>
    simp only [Option.some.injEq] at h2
    subst h2
    exact OpOut.pure g (run0 _ (Lib.run_unsafeSliceData_nil w _ _ _ _)) .nilP
  | own id sz lo hi b o0 o' n cp m hρ hlo hn hnc ho' hm hcap =>
    simp only at h2
    split at h2 <;> simp only [Option.some.injEq, reduceCtorEq] at h2
    rename_i hlt
    subst h2
    have hcp : cp ≠ 0 := by omega
    have hoo : o' = o0 + (lo * sz + 0) := by
      rcases ho' with q | q
      · exact absurd q hcp
      · rw [q]; rfl
    subst hoo
    exact OpOut.pure g (run0 _ (Lib.run_unsafeSliceData_row w _ _ _ _ _ hcp)) (.ptr _ _ _ _ _ _ hρ)
  | _ => simp at h2
theorem hty_freeze {h : Array Obj} {b : Nat} {cs : Array Value} {e : TypeId} {f f' : Nat × Nat} (hb : h[b]? = some (.cells cs e f)) {h' : Array Obj} (hh : ∀ k, h'[k]? = if k = b then some (.cells cs e f') else h[k]?) :
    (∀ k t, hty h k = some t → hty h' k = some t) ∧ ∀ k q u, hcell h k q = some u → hcell h' k q = some u := by
  refine ⟨fun k t q => ?_, fun k q u r => ?_⟩
  · unfold hty at *
    rw [hh]
    by_cases e1 : k = b
    · subst e1; rw [if_pos rfl]; rw [hb] at q; exact q
    · rw [if_neg e1]; exact q
  · unfold hcell at *
    rw [hh]
    by_cases e1 : k = b
    · subst e1; rw [if_pos rfl]; rw [hb] at r; exact r
    · rw [if_neg e1]; exact r
theorem bytes_cells : ∀ {ys : List (List AV)} {l : List UInt8}, bytesA ys = some l → ys.length = l.length ∧ ∀ (i : Nat) x, l[i]? = some x → ys[i]? = some [.int .u8 (x.toNat : Int)]
  | [], l, h => by simp only [bytesA, Option.some.injEq] at h; subst h; exact ⟨rfl, by simp⟩
  | y :: ys, l, h => by
    unfold bytesA at h
    split at h
    · rename_i he; cases he
    · rename_i n r he
      simp only [List.cons.injEq] at he
      obtain ⟨rfl, rfl⟩ := he
      split at h <;> simp only [Option.bind_eq_some_iff, Option.some.injEq, reduceCtorEq] at h
      rename_i hn
      obtain ⟨l', h1, rfl⟩ := h
      obtain ⟨e1, e2⟩ := bytes_cells h1
      refine ⟨by simp [e1], fun i x q => ?_⟩
      cases i with
      | zero =>
        simp at q
        subst q
        simp
        omega
      | succ i => simpa using e2 i x (by simpa using q)
    · cases h
theorem ustr_out {o : Oper} {c : Call} {t t2 e : TypeId} {x y : Operand} (hu : P.underlying t = some (.pointer e)) (hc1 : P.cellsOf e = 1) (ho : o.op = .call c) (hc : c.callee = .builtin .unsafeString) (hx : c.args = #[x, y]) (ht : c.argTypes = #[t, t2])
    (g : Good w.heap ρ Z H) (hF : FR w.heap ρ Z s a) (h : evalOp s H (.ustr e (cx x) (cx y)) = some rs) : OpOut P w ρ Z H rs ((execOp a.eval o).run P w) := by
  simp only [evalOp, Option.bind_eq_some_iff] at h
  obtain ⟨v, h1, u, h2, h3⟩ := h
  have hrx := ev_rl hF h1
  have hry := ev_rl hF h2
  generalize ex : a.eval x = xv at hrx
  generalize ey : a.eval y = yv at hry
  have run0 : ∀ r w', (Builtin.unsafeString_ #[t, t2] o.type #[xv, yv]).run P w = .ok r w' → (execOp a.eval o).run P w = .ok (.value r) w' := by
    intro r w' q
    simp [execOp, ho, resolve, hc, hx, ht, ex, ey, invoke, builtin, q]
  cases hrx with
  | nilP =>
    cases hry with
    | int k n =>
      cases k <;> simp only at h3 <;> try (cases h3; done)
      split at h3 <;> simp only [Option.some.injEq, reduceCtorEq] at h3
      rename_i hn
      subst hn; subst h3
      exact OpOut.pure g (run0 _ _ (Lib.run_unsafeString_none w _ _ _ _)) (.str [] _ rfl)
    | _ => simp at h3
  | ptr id sz i j b o0 hρ =>
    cases hry with
    | int k n =>
      cases k <;> simp only at h3 <;> try (cases h3; done)
      cases hg : hget H id with
      | none => simp [hg] at h3
      | some blk =>
        cases blk with
        | loop L => simp [hg] at h3
        | rows sz' l =>
          simp only [hg, Option.bind_eq_some_iff] at h3
          obtain ⟨bs, h4, h5⟩ := h3
          split at h5 <;> simp only [Option.some.injEq, reduceCtorEq] at h5
          rename_i hcd
          obtain ⟨rfl, rfl, rfl, rfl, hn0, hnl, hn63, htag⟩ := hcd
          subst h5
          obtain ⟨b', o', hρ', cs, et, hb, hbsz, hws, hvs⟩ := g.blk id _ hg
          have hρ'' := hρ'
          rw [hρ] at hρ'
          obtain ⟨rfl, rfl⟩ : b = b' ∧ o0 = o' := by simpa using hρ'
          obtain ⟨rfl, m, hty'⟩ := g.ty id b o0 hρ
          have he : et = e := by
            unfold hty at hty'
            rw [hb] at hty'
            simp only [Option.some.injEq, Prod.mk.injEq] at hty'
            rw [hty'.2, htag]
          subst he
          obtain ⟨e1, e2⟩ := bytes_cells h4
          have hbl : (bs.length : Int) = n := by rw [← e1, List.length_take]; omega
          have hcell : ∀ (q : Nat) z, bs[q]? = some z → w.cell? ((⟨b, 0, none⟩ : Addr).add q) = some (.int .u8 z.toNat) := by
            intro q z hq
            have hr := e2 q z hq
            have hlt := (List.getElem?_eq_some_iff.1 hq).1
            rw [List.getElem?_take, if_pos (by omega)] at hr
            obtain ⟨_, y', hy, hyr⟩ := hvs q _ 0 _ hr rfl
            cases hyr
            rw [addr_add, cell?_heap]
            unfold hcell
            rw [hb]
            simpa using hy
          have hrun := Lib.run_unsafeString_row (P := P) w t t2 o.type et hu hc1 b cs.size (shape_of hb) bs (fun q => by rw [q] at hbl; simp at hbl; omega) (by omega) (by omega) hcell
          rw [hbl] at hrun
          have hlt := (Array.getElem?_eq_some_iff.1 hb).1
          have hown : Own ρ H b := ⟨id, _, 0, hg, hρ⟩
          have hZ : ¬ Z b := g.notZ b hown
          have hfr : ∃ f', ∀ k, (w.freeze ⟨b, 0, none⟩ bs.length).heap[k]? = if k = b then some (.cells cs et f') else w.heap[k]? := by
            unfold World.freeze
            rw [if_neg (by omega)]
            refine ⟨(0, 0 + bs.length), fun k => ?_⟩
            simp only [Array.getElem?_modify]
            by_cases e3 : b = k
            · subst e3; rw [if_pos rfl, if_pos rfl, hb]; rfl
            · rw [if_neg e3, if_neg (fun q => e3 q.symm)]
          obtain ⟨f', hheap⟩ := hfr
          obtain ⟨ht1, ht2⟩ := hty_freeze hb hheap
          have hsz : (w.freeze ⟨b, 0, none⟩ bs.length).heap.size = w.heap.size := by
            unfold World.freeze
            rw [if_neg (by omega)]
            simp
          have up : ∀ v x, Rl w.heap ρ Z v x → Rl (w.freeze ⟨b, 0, none⟩ bs.length).heap ρ Z v x := fun v x q => q.mono (fun _ _ r => r) (fun _ r => r) (fun k o u _ r => ht2 k o u r) ht1
          have hdl : ∀ j bl, hget (hdel H id) j = some bl → j ≠ id ∧ hget H j = some bl := by
            intro j bl hj
            rw [hget_hdel] at hj
            split at hj
            · cases hj
            · rename_i e3; exact ⟨e3, hj⟩
          have hox : ∀ k, Own ρ (hdel H id) k → Own ρ H k := fun k ⟨j, bl, o, q1, q2⟩ => ⟨j, bl, o, (hdl j bl q1).2, q2⟩
          have hos : (w.freeze ⟨b, 0, none⟩ bs.length).os = w.os ∧ (w.freeze ⟨b, 0, none⟩ bs.length).output = w.output ∧ (w.freeze ⟨b, 0, none⟩ bs.length).tape = w.tape := by
            unfold World.freeze
            rw [if_neg (by omega)]
            exact ⟨rfl, rfl, rfl⟩
          have hrun2 := run0 (.string ⟨bs.toArray⟩) (w.freeze ⟨b, 0, none⟩ bs.length) hrun
          refine ⟨_, _, Z, hrun2, ⟨fun j bl hj => ?_, fun p q a' b' u v o1 o2 f1 f2 f3 f4 hne => ?_, fun k q => g.notZ k (hox k q), fun k q => by rw [hsz]; exact g.zlt k q, g.ids, fun j k o q => ?_, g.tab.of (fun _ q => q) (fun b' q => by rw [hheap, if_neg (fun e => g.notZ b hown (by rw [← e]; exact q))])⟩, .str bs _ (by simp), ?_⟩
          · obtain ⟨q1, q2⟩ := hdl j bl hj
            obtain ⟨b2, o2, q3, q4⟩ := g.blk j bl q2
            refine ⟨b2, o2, q3, q4.mono ?_ up⟩
            rw [hheap, if_neg (g.inj j id _ _ _ _ _ _ q2 hg q3 hρ q1)]
          · exact g.inj p q _ _ _ _ _ _ (hdl p a' f1).2 (hdl q b' f2).2 f3 f4 hne
          · obtain ⟨q1, m', q2⟩ := g.ty j k o q
            exact ⟨q1, m', ht1 _ _ q2⟩
          · refine ⟨by rw [hsz]; exact Nat.le_refl _, fun k hk hO => ?_, ht1, fun _ q => q, fun _ q => .inl q, fun _ _ q => q, fun k q => .inl (hox k q), hos.1, hos.2.1, hos.2.2⟩
            rw [hheap, if_neg (fun q => hO (by rw [q]; exact hown))]
    | _ => simp at h3
  | _ => simp at h3
end
end Go.Proofs.YtjaigpidmngaaaaGreat

namespace Go.Proofs.YtjaigpidmngaaaaGreat
section
variable {P : Program} {w : World} {ρ : Loc} {Z : Nat → Prop} {H : AH} {s : Fr} {a : Act} {rs : Rs} {lit : Bool}
theorem bad_out {o : Oper} (h : evalOp s H .bad = some rs) : OpOut P w ρ Z H rs ((execOp a.eval o).run P w) := by simp [evalOp] at h
theorem compBin_out {o : Oper} {op : BinOp} {t t' : TypeId} {x y : Operand} (ho : o.op = .binOp op t x y t') (g : Good w.heap ρ Z H) (hF : FR w.heap ρ Z s a) (h : evalOp s H (compBin P op t x y) = some rs) :
    OpOut P w ρ Z H rs ((execOp a.eval o).run P w) := by
  unfold compBin at h
  cases hu : P.underlying t with
  | none => rw [hu] at h; exact bad_out h
  | some d =>
    rw [hu] at h
    have gen : ∀ (h : evalOp s H (match eqNeg op, shapeOf P 8 t with
      | some n, some sh => if isAggD d && !(P.eqGuardType P.depth t) && ((P.info? t).any fun i => i.size == sh.length) then .aeq n sh (cx x) (cx y) else .bad
      | _, _ => .bad) = some rs), OpOut P w ρ Z H rs ((execOp a.eval o).run P w) := by
      intro h
      split at h
      · rename_i n sh hn hsh
        split at h
        · rename_i hc
          simp only [Bool.and_eq_true, Bool.not_eq_true'] at hc
          obtain ⟨⟨h1, h2⟩, h3⟩ := hc
          cases hi : P.info? t with
          | none => simp [hi] at h3
          | some i =>
            rw [hi] at h3
            exact aeq_out hu hn hsh h1 h2 hi (by simpa using h3) ho g hF h
        · exact bad_out h
      · exact bad_out h
    cases d with
    | int k => exact bin_out ho g hF h
    | string => exact bin_out ho g hF h
    | bool =>
      simp only at h
      cases hn : eqNeg op with
      | none => rw [hn] at h; exact bad_out h
      | some n => rw [hn] at h; exact beq_out hu hn ho g hF h
    | slice e =>
      simp only at h
      cases hn : eqNeg op with
      | none => rw [hn] at h; exact bad_out h
      | some n =>
        rw [hn] at h
        simp only at h
        split at h
        · rename_i hy; exact ncmpS_out hu hn hy ho g hF h
        · exact bad_out h
    | pointer e =>
      simp only at h
      cases hn : eqNeg op with
      | none => rw [hn] at h; exact bad_out h
      | some n =>
        rw [hn] at h
        simp only at h
        split at h
        · rename_i hy; exact ncmpP_out hu hn hy ho g hF h
        · split at h
          · rename_i j he; exact peq_out hu he hn ho g hF h
          · exact bad_out h
    | _ => exact gen h
theorem compCall_out {o : Oper} {c : Call} (ho : o.op = .call c) (g : Good w.heap ρ Z H) (hF : FR w.heap ρ Z s a) (h : evalOp s H (compCall P c) = some rs) :
    OpOut P w ρ Z H rs ((execOp a.eval o).run P w) := by
  unfold compCall at h
  split at h
  · rename_i f hc
    split at h
    · rename_i k hk; exact ext_out hk ho hc g hF h
    · exact call_out ho hc g hF h
  · rename_i t hc; exact callv_out ho hc g hF h
  · rename_i hc
    split at h
    · rename_i x t hx ht
      have hx' : c.args = #[x] := by rw [← Array.toArray_toList (xs := c.args), hx]
      have ht' : c.argTypes = #[t] := by rw [← Array.toArray_toList (xs := c.argTypes), ht]
      split at h
      · rename_i hu; exact len_out (str := true) (by simpa using hu) ho hc hx' ht' g hF h
      · rename_i e hu; exact len_out (str := false) (by simpa using ⟨e, hu⟩) ho hc hx' ht' g hF h
      · exact bad_out h
    · exact bad_out h
  · rename_i hc
    split at h
    · rename_i x y t u hx ht
      have hx' : c.args = #[x, y] := by rw [← Array.toArray_toList (xs := c.args), hx]
      have ht' : c.argTypes = #[t, u] := by rw [← Array.toArray_toList (xs := c.argTypes), ht]
      split at h
      · rename_i e e' hu hu'
        split at h
        · rename_i i hi
          split at h
          · rename_i z hz
            split at h
            · rename_i zs hzs
              split at h
              · rename_i hcd
                exact append_out (str := false) ⟨hu, by simpa using ⟨e', hu'⟩, hi, hz, hzs, hcd.1, hcd.2⟩ ho hc hx' ht' g hF h
              · exact bad_out h
            · exact bad_out h
          · exact bad_out h
        · exact bad_out h
      · rename_i e hu hu'
        split at h
        · rename_i i hi
          split at h
          · rename_i z hz
            split at h
            · rename_i zs hzs
              split at h
              · rename_i hcd
                exact append_out (str := true) ⟨hu, by simpa using hu', hi, hz, hzs, hcd.1, hcd.2.2⟩ ho hc hx' ht' g hF h
              · exact bad_out h
            · exact bad_out h
          · exact bad_out h
        · exact bad_out h
      · exact bad_out h
    · exact bad_out h
  · rename_i hc
    split at h
    · rename_i x hx
      have hx' : c.args = #[x] := by rw [← Array.toArray_toList (xs := c.args), hx]
      exact sdata_out ho hc hx' g hF h
    · exact bad_out h
  · rename_i hc
    split at h
    · rename_i x y t t2 hx ht
      have hx' : c.args = #[x, y] := by rw [← Array.toArray_toList (xs := c.args), hx]
      have ht' : c.argTypes = #[t, t2] := by rw [← Array.toArray_toList (xs := c.argTypes), ht]
      split at h
      · rename_i e hu
        split at h
        · rename_i h1; exact ustr_out hu h1 ho hc hx' ht' g hF h
        · exact bad_out h
      · exact bad_out h
    · exact bad_out h
  · rename_i hc; exact mm_out (mx := true) ho (by simpa using hc) g hF h
  · rename_i hc; exact mm_out (mx := false) ho (by simpa using hc) g hF h
  · exact bad_out h
theorem op_out {o : Oper} (g : Good w.heap ρ Z H) (hF : FR w.heap ρ Z s a) (h : evalOp s H (compOp P lit o.op) = some rs) : OpOut P w ρ Z H rs ((execOp a.eval o).run P w) := by
  obtain ⟨op, hop⟩ : ∃ op, o.op = op := ⟨_, rfl⟩
  have h0 := h
  rw [hop] at h
  cases op with
  | move x => exact move_out (.inl hop) g hF h
  | assign x => exact move_out (.inr hop) g hF h
  | pick c x y => exact pick_out hop g hF h
  | alloc t =>
    simp only [compOp] at h
    split at h
    · rename_i i hi
      split at h
      · rename_i z hz
        split at h
        · rename_i zs hzs
          split at h
          · exact allc_out hi hz hzs hop g h
          · exact bad_out h
        · exact bad_out h
      · exact bad_out h
    · exact bad_out h
  | box t x => exact box_out hop g hF h
  | build t ps =>
    simp only [compOp] at h
    split at h
    · rename_i i hi
      split at h
      · rename_i z hz
        split at h
        · rename_i zs hzs
          split at h
          · rename_i fs hu
            split at h
            · rename_i hall
              split at h
              · rename_i l hl; exact build_out hi hz hzs hop g hF (.inl ⟨fs, hu, hall, hl⟩) h
              · exact bad_out h
            · exact bad_out h
          · rename_i n e hu
            split at h
            · rename_i k hk
              split at h
              · rename_i l hl; exact build_out hi hz hzs hop g hF (.inr ⟨n, e, k, hu, hk, hl⟩) h
              · exact bad_out h
            · exact bad_out h
          · exact bad_out h
        · exact bad_out h
      · exact bad_out h
    · exact bad_out h
  | buildSlice t n ps =>
    simp only [compOp] at h
    split at h
    · rename_i e hu
      split at h
      · rename_i i hi
        split at h
        · rename_i z hz
          split at h
          · rename_i zs hzs
            split at h
            · rename_i hc
              split at h
              · split at h
                · rename_i hn
                  exact emp_out hu hi hn hop g h
                · exact bsliceO_out hu hi hz hzs hc.1 hc.2.1 hc.2.2 hop g hF h
              · exact bslice_out hu hi hz hzs hc.1 hc.2.1 hc.2.2 hop g hF h
            · exact bad_out h
          · exact bad_out h
        · exact bad_out h
      · exact bad_out h
    · exact bad_out h
  | load t x => exact load_out hop g hF h0
  | store t x y =>
    simp only [compOp] at h
    split at h
    · rename_i i hi; exact store_out hi hop g hF h
    · exact bad_out h
  | nilCheck x => exact nilck_out hop g hF h
  | binOp op t x y t' => exact compBin_out hop g hF h
  | unOp op t x => exact un_out hop g hF h
  | convert src dst x =>
    simp only [compOp] at h
    split at h
    · rename_i k k' hs hd; exact conv_out hs hd hop g hF h
    · rename_i hs hd; exact convS_out hs hd hop g hF h
    · rename_i e hs hd
      split at h
      · rename_i he; exact strB_out hs hd he hop g hF h
      · exact bad_out h
    · rename_i e hs hd
      split at h
      · rename_i he; exact bytesS_out hs hd he hop g hF h
      · exact bad_out h
    · rename_i t hs hd
      split at h
      · rename_i j hj
        split at h
        · rename_i h0; exact idu_out hs hd hj h0 hop g hF h
        · exact bad_out h
      · exact bad_out h
    · rename_i u hs hd
      split at h
      · rename_i j hj
        split at h
        · rename_i h0; exact idf_out hs hd hj h0.1 h0.2 hop g hF h
        · exact bad_out h
      · exact bad_out h
    · exact bad_out h
  | makeFunc fn first caps =>
    cases fn with
    | func f =>
      exact mkfn_out hop g hF h
    | _ => exact bad_out h
  | makeSlice t l c =>
    simp only [compOp] at h
    split at h
    · rename_i hs
      split at h
      · rename_i e hu
        split at h
        · rename_i i hi
          split at h
          · rename_i z hz
            split at h
            · rename_i zs hzs
              split at h
              · rename_i hc; exact mks_out hs hu hi hz hzs hc.1 hc.2.1 hc.2.2.1 hc.2.2.2 hop g hF h
              · exact bad_out h
            · exact bad_out h
          · exact bad_out h
        · exact bad_out h
      · exact bad_out h
    · exact bad_out h
  | slice t x lo hi mx =>
    cases mx with
    | some m => exact bad_out h
    | none =>
      simp only [compOp] at h
      split at h
      · rename_i hu; exact sliceStr_out hu hop g hF h
      · rename_i e hu
        split at h
        · rename_i i hi; exact sliceSl_out hu hi hop g hF h
        · exact bad_out h
      · exact bad_out h
  | fieldAddr t x f => exact faddr_out hop g hF h0
  | field t x f => exact field_out hop g hF h0
  | indexAddr t x i => exact iaddr_out hop g hF h0
  | index t x i => exact index_out hop g hF h0
  | extract x i => exact extr_out hop g hF h
  | call c => exact compCall_out hop g hF h
  | _ => exact bad_out h
end
end Go.Proofs.YtjaigpidmngaaaaGreat

namespace Go.Proofs.YtjaigpidmngaaaaGreat
section
variable {P : Program} {w : World} {ρ : Loc} {Z : Nat → Prop} {H : AH}
theorem Rl.plain0 {h h' : Array Obj} {ρ' : Loc} {Z' : Nat → Prop} {v : AV} {x : Value} (hr : Rl h ρ Z v x) (hp : v.plain0 = true) : Rl h' ρ' Z' v x := by
  cases hr <;> first | (simp [AV.plain0] at hp; done) | constructor
  assumption
theorem Rl.plain1 {h h' : Array Obj} {ρ' : Loc} {Z' : Nat → Prop} {v : AV} {x : Value} (hr : Rl h ρ Z v x) (hp : v.plain1 = true) : Rl h' ρ' Z' v x := by
  have hr' := hr
  cases hr with
  | agg cs vs hl hc hr =>
    refine .agg cs vs hl hc fun i v x h1 h2 => (hr i v x h1 h2).plain0 ?_
    exact (List.all_eq_true.1 (by simpa [AV.plain1] using hp)) v (List.mem_of_getElem? h1)
  | _ => exact hr'.plain0 hp
theorem Rl.plain {h h' : Array Obj} {ρ' : Loc} {Z' : Nat → Prop} {v : AV} {x : Value} (hr : Rl h ρ Z v x) (hp : v.plain = true) : Rl h' ρ' Z' v x := by
  have hr' := hr
  cases hr with
  | tup cs vs hl hr =>
    refine .tup cs vs hl fun i v x h1 h2 => (hr i v x h1 h2).plain1 ?_
    exact (List.all_eq_true.1 (by simpa [AV.plain] using hp)) v (List.mem_of_getElem? h1)
  | _ => exact hr'.plain1 hp
theorem Good.frame {w' : World} {ρ' : Loc} {Z' : Nat → Prop} {H0 H0' HS HS' : AH} (g : Good w.heap ρ Z HS) (hs : Sub H0 HS) (e : Ext w ρ Z (Own ρ H0) w' ρ' Z' (Own ρ' H0')) (g' : Good w'.heap ρ' Z' H0')
    (h1 : ∀ id b, hget HS' id = some b → hget H0' id = some b ∨ (hget HS id = some b ∧ hget H0 id = none)) :
    Good w'.heap ρ' Z' HS' ∧ Ext w ρ Z (Own ρ HS) w' ρ' Z' (Own ρ' HS') := by
  have notO : ∀ id b k o, hget HS id = some b → hget H0 id = none → ρ id = some (k, o) → ¬ Own ρ H0 k := by
    rintro id b k o q1 q2 q3 ⟨j, bl, o', q4, q5⟩
    have hne : id ≠ j := fun e1 => by rw [e1, q4] at q2; cases q2
    exact g.inj id j _ _ _ _ _ _ q1 (hs _ _ q4) q3 q5 hne rfl
  have old : ∀ id b, hget HS id = some b → hget H0 id = none → ∃ k o, ρ' id = some (k, o) ∧ ρ id = some (k, o) ∧ k < w.heap.size ∧ ¬ Own ρ H0 k ∧ ¬ Z k ∧ BlkR w'.heap ρ' Z' k o b := by
    intro id b q1 q2
    obtain ⟨k, o, q3, q4⟩ := g.blk id b q1
    have q5 := notO id b k o q1 q2 q3
    have q6 := q4.lt
    refine ⟨k, o, e.loc _ _ q3, q3, q6, q5, g.notZ k ⟨id, b, o, q1, q3⟩, q4.mono (e.keep k q6 q5) fun v x r => r.ext e (fun b q => g.notZ b (q.of_sub hs)) g.zlt⟩
  refine ⟨⟨fun id b q => ?_, fun i j a b p q o o' q1 q2 q3 q4 hne => ?_, fun k q hz => ?_, g'.zlt, g'.ids, g'.ty, g'.tab⟩, ?_⟩
  · rcases h1 id b q with q | ⟨q1, q2⟩
    · exact g'.blk id b q
    · obtain ⟨k, o, q3, _, _, _, _, q4⟩ := old id b q1 q2
      exact ⟨k, o, q3, q4⟩
  · rcases h1 i a q1 with r1 | ⟨r1, r2⟩ <;> rcases h1 j b q2 with s1 | ⟨s1, s2⟩
    · exact g'.inj i j a b p q o o' r1 s1 q3 q4 hne
    · obtain ⟨k, o2, t1, t2, t3, t4, _, _⟩ := old j b s1 s2
      rw [q4] at t1
      simp only [Option.some.injEq, Prod.mk.injEq] at t1
      obtain ⟨rfl, rfl⟩ := t1
      rintro rfl
      rcases e.own p ⟨i, a, o, r1, q3⟩ with u | u
      · exact t4 u
      · omega
    · obtain ⟨k, o2, t1, t2, t3, t4, _, _⟩ := old i a r1 r2
      rw [q3] at t1
      simp only [Option.some.injEq, Prod.mk.injEq] at t1
      obtain ⟨rfl, rfl⟩ := t1
      rintro rfl
      rcases e.own p ⟨j, b, o', s1, q4⟩ with u | u
      · exact t4 u
      · omega
    · obtain ⟨k, o2, t1, t2, _⟩ := old i a r1 r2
      obtain ⟨k', o2', t1', t2', _⟩ := old j b s1 s2
      rw [q3] at t1
      rw [q4] at t1'
      simp only [Option.some.injEq, Prod.mk.injEq] at t1 t1'
      obtain ⟨rfl, rfl⟩ := t1
      obtain ⟨rfl, rfl⟩ := t1'
      exact g.inj i j a b _ _ _ _ r1 s1 t2 t2' hne
  · obtain ⟨id, b, o, q1, q2⟩ := q
    rcases h1 id b q1 with q1 | ⟨q1, q3⟩
    · exact g'.notZ k ⟨id, b, o, q1, q2⟩ hz
    · obtain ⟨k', o2, t1, t2, t3, t4, t5, _⟩ := old id b q1 q3
      rw [q2] at t1
      simp only [Option.some.injEq, Prod.mk.injEq] at t1
      obtain ⟨rfl, rfl⟩ := t1
      rcases e.znew k hz with u | u | u
      · exact t5 u
      · exact t4 u
      · omega
  · refine { e with keep := fun k hk hO => e.keep k hk fun q => hO (q.of_sub hs), znew := fun k q => ?_, own := fun k q => ?_ }
    · rcases e.znew k q with u | u | u
      · exact .inl u
      · exact .inr (.inl (u.of_sub hs))
      · exact .inr (.inr u)
    · obtain ⟨id, b, o, q1, q2⟩ := q
      rcases h1 id b q1 with q1 | ⟨q1, q3⟩
      · rcases e.own k ⟨id, b, o, q1, q2⟩ with u | u
        · exact .inl (u.of_sub hs)
        · exact .inr u
      · obtain ⟨k', o2, t1, t2, _⟩ := old id b q1 q3
        rw [q2] at t1
        simp only [Option.some.injEq, Prod.mk.injEq] at t1
        obtain ⟨rfl, rfl⟩ := t1
        exact .inl ⟨id, b, o, q1, t2⟩
theorem ext_back {w' : World} {ρ' : Loc} {Zc Z' : Nat → Prop} {H' : AH} (g : Good w.heap ρ Z H) (hz : ∀ b, Z b → Zc b) (e : Ext w ρ Zc (Own ρ []) w' ρ' Z' (Own ρ' H')) (g' : Good w'.heap ρ' Z' H') :
    Good w'.heap ρ' Z H ∧ Ext w ρ Z (Own ρ H) w' ρ' Z (Own ρ' H) := by
  have no : ∀ b, ¬ Own ρ [] b := by rintro b ⟨id, bl, o, q, _⟩; cases q
  have e1 : Ext w ρ Z (Own ρ []) w' ρ' Z (Own ρ' []) :=
    { e with zmono := fun _ q => q, znew := fun _ q => .inl q, own := by rintro b ⟨id, bl, o, q, _⟩; cases q }
  have g1 : Good w'.heap ρ' Z [] :=
    { blk := by intro id b q; cases q
      inj := by intro i j a b p q o o' q1; cases q1
      notZ := by rintro b ⟨id, bl, o, q, _⟩; cases q
      zlt := fun b q => Nat.lt_of_lt_of_le (g.zlt b q) e.size
      ids := g'.ids
      ty := g'.ty
      tab := g.tab.of (fun _ q => q) (fun b q => e.keep b (g.zlt b q) (no b)) }
  exact g.frame (H0 := []) (H0' := []) (by intro id b q; cases q) e1 g1 (fun id b q => .inr ⟨q, rfl⟩)
theorem callA_calls {f : Nat} {args : List AV} {xs : List Value} {K : AV → AH → Prop} (h : callA P f args H K) (g : Good w.heap ρ Z H) (hr : RlL w.heap ρ Z args xs) :
    Calls P f xs.toArray w fun e w' => ∃ x r H' ρ' Z', e = .returned x ∧ Good w'.heap ρ' Z' H' ∧ Rl w'.heap ρ' Z' r x ∧ Ext w ρ Z (Own ρ H) w' ρ' Z' (Own ρ' H') ∧ K r H' := by
  obtain ⟨args', Hc, hs, hf, h | h⟩ := h
  · have gc := g.freeze hs
    refine (h.2 w ρ _ xs gc (hr.freeze g hf)).mono fun e w' ⟨x, r, H', ρ', Z', a, b, c, d, k⟩ => ⟨x, r, H', ρ', Z', a, b, c, ?_, k⟩
    refine { d with keep := fun k hk hO => d.keep k hk fun q => hO (q.of_sub hs), zmono := fun k q => d.zmono k (.inl q), znew := fun k q => ?_, own := fun k q => ?_ }
    · rcases d.znew k q with u | u | u
      · rcases u with u | u
        · exact .inl u
        · exact .inr (.inl u.own)
      · exact .inr (.inl (u.of_sub hs))
      · exact .inr (.inr u)
    · rcases d.own k q with u | u
      · exact .inl (u.of_sub hs)
      · exact .inr u
  · have gc : Good w.heap ρ (fun b => Z b ∨ Drop ρ H Hc b) [] := (g.freeze hs).forget (by intro id b q; cases q)
    refine (h.2 w ρ _ xs gc (hr.freeze g hf)).mono fun e w' ⟨x, r, H', ρ', Z', a, b, c, d, k⟩ => ?_
    obtain ⟨q1, q2⟩ := ext_back g (fun _ q => .inl q) d b
    exact ⟨x, r, H, ρ', Z, a, q1, c.plain k.1, q2, k.2⟩
theorem Rl.back {h h0 : Array Obj} {ρ' : Loc} {Z' Z0 : Nat → Prop} {v : AV} {x : Value} (hr : Rl h ρ' Z' v x) (hρ : ∀ id p, ρ id = some p → ρ' id = some p) : ∀ x0, Rl h0 ρ Z0 v x0 → Rl h ρ Z' v x := by
  have same : ∀ id p q, ρ' id = some p → ρ id = some q → ρ id = some p := fun id p q h1 h2 => by
    rw [hρ id q h2] at h1
    simp only [Option.some.injEq] at h1
    rw [← h1]; exact h2
  have part : ∀ {cs : List AV} {vs : List Value} {i : Nat} {v : AV}, cs.length = vs.length → cs[i]? = some v → ∃ x, vs[i]? = some x := fun hl h1 => by
    have := (List.getElem?_eq_some_iff.1 h1).1
    exact ⟨_, List.getElem?_eq_getElem (by omega)⟩
  induction hr with
  | int k n => exact fun _ _ => .int k n
  | bool b => exact fun _ _ => .bool b
  | str l s e => exact fun _ _ => .str l s e
  | agg cs vs hl hc hr ih =>
    intro x0 h0
    cases h0 with
    | agg _ vs0 hl0 hc0 hr0 =>
      refine .agg cs vs hl hc fun i v x h1 h2 => ?_
      obtain ⟨y, hy⟩ := part hl0 h1
      exact ih i v x h1 h2 y (hr0 i v y h1 hy)
  | tup cs vs hl hr ih =>
    intro x0 h0
    cases h0 with
    | tup _ vs0 hl0 hr0 =>
      refine .tup cs vs hl fun i v x h1 h2 => ?_
      obtain ⟨y, hy⟩ := part hl0 h1
      exact ih i v x h1 h2 y (hr0 i v y h1 hy)
  | rows sz l b o n c f hn hnc hz hw hcc hm hr ih =>
    intro x0 h0
    cases h0 with
    | rows _ _ b0 o0 n0 c0 f0 hn0 hnc0 hz0 hw0 hcc0 hm0 hr0 => exact .rows sz l b o n c f hn hnc hz hw hcc hm fun i r j v h1 h2 => ih i r j v h1 h2 _ (hr0 i r j v h1 h2)
    | rowsN _ => exact .rows sz [] b o n c f hn hnc hz hw hcc hm fun i r j v h1 h2 => by simp at h1
    | rowsE _ _ _ => exact .rows sz [] b o n c f hn hnc hz hw hcc hm fun i r j v h1 h2 => by simp at h1
  | rowsN sz => exact fun _ _ => .rowsN sz
  | rowsE sz a c => exact fun _ _ => .rowsE sz a c
  | nilS => exact fun _ _ => .nilS
  | own id sz lo hi b o0 o n c m hq hlo hn hnc ho hm hcap =>
    intro x0 h0
    cases h0 with
    | own _ _ _ _ b' o0' _ _ _ _ hq' => exact .own id sz lo hi b o0 o n c m (same _ _ _ hq hq') hlo hn hnc ho hm hcap
  | ptr id sz i j b o0 hq =>
    intro x0 h0
    cases h0 with
    | ptr _ _ _ _ b' o0' hq' => exact .ptr id sz i j b o0 (same _ _ _ hq hq')
  | fp cs b o f hz hcc hm hr ih =>
    intro x0 h0
    cases h0 with
    | fp _ b0 o0 f0 hz0 hcc0 hm0 hr0 => exact .fp cs b o f hz hcc hm fun i v h1 => ih i v h1 _ (hr0 i v h1)
  | nilP => exact fun _ _ => .nilP
  | clo f fs us cs vs hf hl hq hr ihq ih =>
    intro x0 h0
    cases h0 with
    | clo _ _ us0 _ vs0 hf0 hl0 hq0 hr0 =>
      refine .clo f fs us cs vs hf hl (fun i v x h1 h2 => ?_) fun i v x h1 h2 => ?_
      · obtain ⟨y, hy⟩ := part hf0 h1
        exact ihq i v x h1 h2 y (hq0 i v y h1 hy)
      · obtain ⟨y, hy⟩ := part hl0 h1
        exact ih i v x h1 h2 y (hr0 i v y h1 hy)
  | nilI => exact fun _ _ => .nilI
  | nilF => exact fun _ _ => .nilF
  | emp b o => exact fun _ _ => .emp b o
  | yld id b o0 hq =>
    intro x0 h0
    cases h0 with
    | yld _ b' o0' hq' => exact .yld id b o0 (same _ _ _ hq hq')
theorem Good.back {w' : World} {ρ' : Loc} {Z' : Nat → Prop} (g : Good w.heap ρ Z H) (g' : Good w'.heap ρ' Z' H) (e : Ext w ρ Z (Own ρ H) w' ρ' Z' (Own ρ' H)) :
    Good w'.heap ρ Z' H ∧ Ext w ρ Z (Own ρ H) w' ρ Z' (Own ρ H) := by
  have at_ : ∀ id blk, hget H id = some blk → ∃ p, ρ id = some p ∧ ρ' id = some p := fun id blk q => by
    obtain ⟨b, o, q1, _⟩ := g.blk id blk q
    exact ⟨_, q1, e.loc _ _ q1⟩
  have own : Own ρ' H = Own ρ H := by
    funext b
    apply propext
    constructor
    · rintro ⟨id, bl, o, q, r⟩
      obtain ⟨p, q1, q2⟩ := at_ id bl q
      rw [r] at q2
      exact ⟨id, bl, o, q, by rw [q1, q2]⟩
    · rintro ⟨id, bl, o, q, r⟩
      exact ⟨id, bl, o, q, e.loc _ _ r⟩
  refine ⟨⟨fun id blk q => ?_, fun i j a b p q o o' q1 q2 q3 q4 => g'.inj i j a b p q o o' q1 q2 (e.loc _ _ q3) (e.loc _ _ q4), fun b q => g'.notZ b (by rw [own]; exact q), g'.zlt, g.ids, fun id b o q => g'.ty id b o (e.loc _ _ q), g'.tab⟩, ?_⟩
  · obtain ⟨b, o, q1, q2⟩ := g.blk id blk q
    obtain ⟨b', o', q1', q2'⟩ := g'.blk id blk q
    rw [e.loc _ _ q1] at q1'
    simp only [Option.some.injEq, Prod.mk.injEq] at q1'
    obtain ⟨rfl, rfl⟩ := q1'
    refine ⟨b, o, q1, ?_⟩
    cases blk with
    | loop L =>
      obtain ⟨r, r1, r2, r3, r4, r5, r6, r7⟩ := q2
      obtain ⟨r', r1', r2', r3', r4', r5', r6', r7'⟩ := q2'
      exact ⟨r', r1', r2', r3', r4', r5', r6', fun t v e1 => (r7' t v e1).back e.loc _ (r7 t v e1)⟩
    | rows sz l =>
      obtain ⟨cs, et, r1, r2, r3, r4⟩ := q2
      obtain ⟨cs', et', r1', r2', r3', r4'⟩ := q2'
      refine ⟨cs', et', r1', r2', r3', fun i r j v h1 h2 => ?_⟩
      obtain ⟨c, y, c1, c2⟩ := r4' i r j v h1 h2
      obtain ⟨_, y0, _, c20⟩ := r4 i r j v h1 h2
      exact ⟨c, y, c1, c2.back e.loc y0 c20⟩
  · rw [own] at e
    exact { e with loc := fun _ _ q => q }
theorem callP_calls {f : Nat} {args : List AV} {xs : List Value} {r : AV} {HS : AH} (h : callP P f args H r) (g : Good w.heap ρ Z HS) (hsub : Sub H HS) (hr : RlL w.heap ρ Z args xs) :
    Calls P f xs.toArray w fun e w' => ∃ x Z', e = .returned x ∧ Good w'.heap ρ Z' HS ∧ Rl w'.heap ρ Z' r x ∧ Ext w ρ Z (Own ρ HS) w' ρ Z' (Own ρ HS) := by
  rcases h with ⟨hno, h⟩ | ⟨args', Hc, hs, hf, hp, h⟩
  · refine (h.2 w ρ Z xs (g.forget hsub) hr).mono fun e w' ⟨x, r', H', ρ', Z', a, b, c, d, k1, k2⟩ => ?_
    subst k1
    subst k2
    obtain ⟨q1, q2⟩ := g.frame hsub d b (HS' := HS) fun id bl q => by
      cases hh : hget H' id with
      | none => exact .inr ⟨q, rfl⟩
      | some b' => have := hsub _ _ hh; rw [q] at this; exact .inl this.symm
    obtain ⟨q3, q4⟩ := g.back q1 q2
    exact ⟨x, Z', a, q3, hno _ _ _ _ _ c, q4⟩
  · have g0 := g.forget hsub
    have gc : Good w.heap ρ (fun b => Z b ∨ Drop ρ H Hc b) [] := (g0.freeze hs).forget (by intro id b q; cases q)
    refine (h.2 w ρ _ xs gc (hr.freeze g0 hf)).mono fun e w' ⟨x, r', H', ρ', Z', a, b, c, d, k⟩ => ?_
    subst k
    obtain ⟨q1, q2⟩ := ext_back g (fun _ q => .inl q) d b
    obtain ⟨q3, q4⟩ := g.back q1 q2
    exact ⟨x, Z, a, q3, c.plain hp, q4⟩
theorem Good.backW {w' : World} {ρ' : Loc} {Z' : Nat → Prop} {id : Nat} {b b' : Blk} (g : Good w.heap ρ Z H) (hid : hget H id = some b) (hb : BlkN b b') (g' : Good w'.heap ρ' Z' (hset H id b')) (e : Ext w ρ Z (Own ρ H) w' ρ' Z' (Own ρ' (hset H id b'))) :
    Good w'.heap ρ Z' (hset H id b') ∧ Ext w ρ Z (Own ρ H) w' ρ Z' (Own ρ (hset H id b')) := by
  have at_ : ∀ j blk, hget (hset H id b') j = some blk → ∃ blk0 p, hget H j = some blk0 ∧ ρ j = some p ∧ ρ' j = some p := fun j blk q => by
    rw [hget_hset] at q
    split at q
    · rename_i e1
      subst e1
      obtain ⟨k, o, q1, _⟩ := g.blk _ _ hid
      exact ⟨_, _, hid, q1, e.loc _ _ q1⟩
    · obtain ⟨k, o, q1, _⟩ := g.blk j blk q
      exact ⟨_, _, q, q1, e.loc _ _ q1⟩
  have own : Own ρ' (hset H id b') = Own ρ (hset H id b') := by
    funext k
    apply propext
    constructor
    · rintro ⟨j, bl, o, q, r⟩
      obtain ⟨_, p, _, q1, q2⟩ := at_ j bl q
      rw [r] at q2
      exact ⟨j, bl, o, q, by rw [q1, q2]⟩
    · rintro ⟨j, bl, o, q, r⟩
      exact ⟨j, bl, o, q, e.loc _ _ r⟩
  refine ⟨⟨fun j blk q => ?_, fun i j a b p q o o' q1 q2 q3 q4 => g'.inj i j a b p q o o' q1 q2 (e.loc _ _ q3) (e.loc _ _ q4), fun b q => g'.notZ b (by rw [own]; exact q), g'.zlt, g.ids, fun id b o q => g'.ty id b o (e.loc _ _ q), g'.tab⟩, ?_⟩
  · obtain ⟨blk0, ⟨k, o⟩, h0, q1, q1'⟩ := at_ j blk q
    obtain ⟨k', o', q2', q3⟩ := g'.blk j blk q
    rw [q1'] at q2'
    simp only [Option.some.injEq, Prod.mk.injEq] at q2'
    obtain ⟨rfl, rfl⟩ := q2'
    obtain ⟨k', o', q2', q4⟩ := g.blk j blk0 h0
    rw [q1] at q2'
    simp only [Option.some.injEq, Prod.mk.injEq] at q2'
    obtain ⟨rfl, rfl⟩ := q2'
    refine ⟨k, o, q1, ?_⟩
    rw [hget_hset] at q
    split at q
    · rename_i e1
      subst e1
      rw [hid] at q h0
      simp only [Option.map_some, Option.some.injEq] at q h0
      subst q
      subst h0
      cases b with
      | loop L => cases b' <;> exact hb.elim
      | rows sz l =>
        cases b' with
        | loop L => exact hb.elim
        | rows sz' l' =>
          obtain ⟨cs, et, r1, r2, r3, r4⟩ := q4
          obtain ⟨cs', et', r1', r2', r3', r4'⟩ := q3
          refine ⟨cs', et', r1', r2', r3', fun i r j v h1 h2 => ?_⟩
          obtain ⟨c, y, c1, c2⟩ := r4' i r j v h1 h2
          rcases hb r (List.mem_of_getElem? h1) v (List.mem_of_getElem? h2) with hn | ⟨r0, hr0, hv0⟩
          · exact ⟨c, y, c1, hn _ _ _ _ _ c2⟩
          · obtain ⟨i0, hi0⟩ := List.getElem?_of_mem hr0
            obtain ⟨j0, hj0⟩ := List.getElem?_of_mem hv0
            obtain ⟨_, y0, _, c20⟩ := r4 i0 r0 j0 v hi0 hj0
            exact ⟨c, y, c1, c2.back e.loc y0 c20⟩
    · rw [q] at h0
      cases h0
      cases blk with
      | loop L =>
        obtain ⟨r, r1, r2, r3, r4, r5, r6, r7⟩ := q4
        obtain ⟨r', r1', r2', r3', r4', r5', r6', r7'⟩ := q3
        exact ⟨r', r1', r2', r3', r4', r5', r6', fun t v e1 => (r7' t v e1).back e.loc _ (r7 t v e1)⟩
      | rows sz l =>
        obtain ⟨cs, et, r1, r2, r3, r4⟩ := q4
        obtain ⟨cs', et', r1', r2', r3', r4'⟩ := q3
        refine ⟨cs', et', r1', r2', r3', fun i r j v h1 h2 => ?_⟩
        obtain ⟨c, y, c1, c2⟩ := r4' i r j v h1 h2
        obtain ⟨_, y0, _, c20⟩ := r4 i r j v h1 h2
        exact ⟨c, y, c1, c2.back e.loc y0 c20⟩
  · rw [own] at e
    exact { e with loc := fun _ _ q => q }
theorem callW_calls {f : Nat} {args : List AV} {xs : List Value} {r : AV} {HS : AH} {id : Nat} {b b' : Blk} (h : callW P f args H id b r b') (g : Good w.heap ρ Z HS) (hsub : Sub H HS) (hid : hget HS id = some b) (hno : hget H id = none)
    (hr : RlL w.heap ρ Z args xs) :
    Calls P f xs.toArray w fun e w' => ∃ x Z', e = .returned x ∧ Good w'.heap ρ Z' (hset HS id b') ∧ Rl w'.heap ρ Z' r x ∧ Ext w ρ Z (Own ρ HS) w' ρ Z' (Own ρ (hset HS id b')) := by
  obtain ⟨hn, hb, Hs, hs, h⟩ := h
  have s1 : Sub ((id, b) :: Hs) HS := fun j c q => by
    simp only [hget] at q
    split at q
    · rename_i e1; subst e1; rw [← q]; exact hid
    · exact hsub _ _ (hs _ _ q)
  refine (h.2 w ρ Z xs (g.forget s1) hr).mono fun e w' ⟨x, r', H', ρ', Z', a, g1, c, d, k1, k2⟩ => ?_
  subst k1
  subst k2
  obtain ⟨q1, q2⟩ := g.frame s1 d g1 (HS' := hset HS id b') fun j c q => by
    rw [hget_hset] at q
    split at q
    · rename_i e1
      rw [hid] at q
      left
      simp only [hget]
      rw [if_pos e1, ← q]
      rfl
    · rename_i e1
      simp only [hget]
      rw [if_neg e1, if_neg e1]
      cases hh : hget Hs j with
      | none => exact .inr ⟨q, rfl⟩
      | some c' => have := hsub _ _ (hs _ _ hh); rw [q] at this; exact .inl this.symm
  obtain ⟨q3, q4⟩ := g.backW hid hb q1 q2
  exact ⟨x, Z', a, q3, hn _ _ _ _ _ c, q4⟩
end
end Go.Proofs.YtjaigpidmngaaaaGreat

namespace Go.Proofs.YtjaigpidmngaaaaGreat
structure Beg where
  w : World
  ρ : Loc
  Z : Nat → Prop
  O : Nat → Prop
  N : Nat
structure Marks (B : Beg) (w : World) (ds : List Deferred) : Prop where
  one : ∀ d ∈ ds, ∃ D, d = { target := .collected D, args := #[] } ∧ w.heap[D]? = some (.deferred (some [])) ∧ B.w.heap.size ≤ D
  nd : ds.Pairwise fun d e => ∀ D, d = { target := .collected D, args := #[] } → e ≠ { target := .collected D, args := #[] }
theorem Marks.nil (B : Beg) (w : World) : Marks B w [] := ⟨(by simp), .nil⟩
theorem Marks.ext {B : Beg} {w w' : World} {ρ ρ' : Loc} {Z Z' O' : Nat → Prop} {H : AH} {ds : List Deferred} (m : Marks B w ds) (g : Good w.heap ρ Z H) (e : Ext w ρ Z (Own ρ H) w' ρ' Z' O') : Marks B w' ds := by
  refine ⟨fun d hd => ?_, m.nd⟩
  obtain ⟨D, h1, h2, h3⟩ := m.one d hd
  refine ⟨D, h1, ?_, h3⟩
  rw [e.keep D (Array.getElem?_eq_some_iff.1 h2).1 ?_]
  · exact h2
  · rintro ⟨id, blk, o0, q1, q2⟩
    obtain ⟨b, o, q3, q4⟩ := g.blk id blk q1
    rw [q2] at q3
    obtain ⟨rfl, rfl⟩ : D = b ∧ o0 = o := by simpa using q3
    exact q4.noDefer h2
structure Inv (B : Beg) (w : World) (ρ : Loc) (Z : Nat → Prop) (H : AH) (s : Fr) (a : Act) : Prop where
  good : Good w.heap ρ Z H
  fr : FR w.heap ρ Z s a
  ext : Ext B.w B.ρ B.Z B.O w ρ Z (Own ρ H)
  size : a.tmps.size = B.N
  defers : Marks B w a.defers
def LQ (B : Beg) (Q : Exit → Fr → AH → Prop) : Exit → Act → World → Prop := fun e a w => ∃ s H ρ Z, Inv B w ρ Z H s a ∧ Q e s H
abbrev FnR (rd : Option Nat) : Fence := { Fence.wide with round := rd }
theorem callsIn_ff {rd : Option Nat} {n : Nat} {P : Program} {f : FuncId} {args : Array Value} {w : World} {R : Ending → World → Prop} (h : Calls P f args w R) : CallsIn (FnR rd) n P f args w R := (callsIn_wide (n := n)).2 h
theorem not_defer {P : Program} {s : Fr} {H : AH} {lit : Bool} {op : Op} {rs : Rs} (h : evalOp s H (compOp P lit op) = some rs) : ∀ c, op ≠ .defer c := by
  intro c e
  rw [e] at h
  simp [compOp, evalOp] at h
section
variable {rd : Option Nat} {nn : Nat} {P : Program} {w : World} {ρ : Loc} {Z : Nat → Prop} {H : AH} {s : Fr} {a : Act} {B : Beg} {fl : List Nat}
theorem FR.ext {w' : World} {ρ' : Loc} {Z' O' : Nat → Prop} (g : Good w.heap ρ Z H) (h : FR w.heap ρ Z s a) (e : Ext w ρ Z (Own ρ H) w' ρ' Z' O') : FR w'.heap ρ' Z' s a :=
  fun t v q => (h t v q).ext e g.notZ g.zlt
theorem getD_put {d t : Nat} {x : Value} (hd : d < a.tmps.size) : (a.put (some d) x).tmps.getD t undef = if t = d then x else a.tmps.getD t undef := by
  simp only [Act.put, Array.getD_eq_getD_getElem?, Array.getElem?_setIfInBounds]
  by_cases e : d = t
  · subst e; simp [hd]
  · rw [if_neg e, if_neg (fun q => e q.symm)]
theorem FR.put {dst : Option Nat} {v : AV} {x : Value} (h : FR w.heap ρ Z s a) (hd : ∀ d, dst = some d → d < a.tmps.size) (hr : Rl w.heap ρ Z v x) : FR w.heap ρ Z (s.put dst v) (a.put dst x) := by
  cases dst with
  | none => exact h
  | some d =>
    intro t u q
    rw [getD_put (hd d rfl)]
    simp only [Fr.put, Fr.set] at q
    split at q
    · rename_i e; rw [if_pos e]; simp only [Option.some.injEq] at q; rw [← q]; exact hr
    · rename_i e; rw [if_neg e]; exact h t u q
theorem FR.del {dst : Option Nat} {x : Value} (h : FR w.heap ρ Z s a) (hd : ∀ d, dst = some d → d < a.tmps.size) : FR w.heap ρ Z (s.del dst) (a.put dst x) := by
  cases dst with
  | none => exact h
  | some d =>
    intro t u q
    rw [getD_put (hd d rfl)]
    simp only [Fr.del, Fr.clr] at q
    split at q
    · cases q
    · rename_i e; rw [if_neg e]; exact h t u q
theorem size_put (dst : Option Nat) (x : Value) : (a.put dst x).tmps.size = a.tmps.size := by cases dst <;> simp [Act.put]
theorem defers_put (dst : Option Nat) (x : Value) : (a.put dst x).defers = a.defers := by cases dst <;> rfl
theorem step_out {o : Oper} {rs : Rs} {K : Fr → AH → Prop} {next : Act → World → Prop} {Q : Exit → Act → World → Prop} (hi : Inv B w ρ Z H s a) (hd : ∀ d, o.dst = some d → d < B.N) (he : evalOp s H (compOp P (litOf fl o.dst) o.op) = some rs)
    (hk : applyRs P rs o.dst s H K) (hn : ∀ a' w' ρ' Z' H' s', Inv B w' ρ' Z' H' s' a' → K s' H' → next a' w') : o.wpIn (FnR rd) nn P a w next Q := by
  have ho := op_out hi.good hi.fr he
  have hd' : ∀ d, o.dst = some d → d < a.tmps.size := fun d q => by rw [hi.size]; exact hd d q
  refine ⟨fun _ _ => trivial, ?_⟩
  rw [Oper.semAt_eq _ _ _ (not_defer he)]
  cases rs with
  | val v =>
    obtain ⟨x, w', Z', hr, g, hv, e⟩ := ho
    rw [hr, Oper.uponIn_value]
    exact hn _ _ ρ Z' H _ ⟨g, (hi.fr.ext hi.good e).put hd' hv, hi.ext.trans e, by rw [size_put]; exact hi.size, by rw [defers_put]; exact hi.defers.ext hi.good e⟩ hk
  | upd H' =>
    obtain ⟨w', hr, g, e⟩ := ho
    rw [hr, Oper.uponIn_skip]
    exact hn _ _ ρ Z H' _ ⟨g, (hi.fr.ext hi.good e).del hd', hi.ext.trans e, by rw [size_put]; exact hi.size, by rw [defers_put]; exact hi.defers.ext hi.good e⟩ hk
  | valH v H' =>
    obtain ⟨x, w', Z', hr, g, hv, e⟩ := ho
    rw [hr, Oper.uponIn_value]
    exact hn _ _ ρ Z' H' _ ⟨g, (hi.fr.ext hi.good e).put hd' hv, hi.ext.trans e, by rw [size_put]; exact hi.size, by rw [defers_put]; exact hi.defers.ext hi.good e⟩ hk
  | fresh T blk vf H' =>
    obtain ⟨N0, hN0⟩ := hi.good.ids
    obtain ⟨N, hle, htg⟩ := exists_tag N0 T
    have hN : ρ N = none := hN0 N hle
    obtain ⟨x, w', ρ', hr, _, g, hv, e⟩ := ho N hN htg
    have hfresh : hget H N = none := by
      cases hh : hget H N with
      | none => rfl
      | some b =>
        obtain ⟨k, o, q, _⟩ := hi.good.blk N b hh
        rw [hN] at q
        cases q
    rw [hr, Oper.uponIn_value]
    exact hn _ _ ρ' Z _ _ ⟨g, (hi.fr.ext hi.good e).put hd' hv, hi.ext.trans e, by rw [size_put]; exact hi.size, by rw [defers_put]; exact hi.defers.ext hi.good e⟩ (hk N hfresh htg)
  | call f args =>
    have hcl : callable P f = true := by
      obtain ⟨_, _, _, _, h | h⟩ := hk
      · exact h.1
      · exact h.1
    obtain ⟨xs, hr, hl⟩ := ho hcl
    rw [hr, Oper.uponIn_enter]
    refine ⟨fun q => (by cases q), callsIn_ff ((callA_calls hk hi.good hl).mono fun e w' ⟨x, r, H', ρ', Z', q1, g, hv, ex, k⟩ => ?_)⟩
    subst q1
    exact hn _ _ ρ' Z' H' _ ⟨g, (hi.fr.ext hi.good ex).put hd' hv, hi.ext.trans ex, by rw [size_put]; exact hi.size, by rw [defers_put]; exact hi.defers.ext hi.good ex⟩ k
  | yield id args =>
    obtain ⟨b, o, xs, hρ, hr, hl⟩ := ho
    obtain ⟨Hs, hs, hy⟩ := hk
    obtain ⟨fn, tmps, asg, bd, hrun, hround⟩ := hy (nn - 1) w ρ Z xs b o (hi.good.forget hs) hl hρ
    rw [hr, hrun, Oper.uponIn_round]
    refine ⟨fun q => (by cases q), RoundIn.mono (show RoundIn (FnR rd) (nn - 1) P b fn tmps asg bd w _ from hround) fun e w' ⟨x, r, H', ρ', Z', q1, g, hv, ex, Hf, hf1, hf2⟩ => ?_⟩
    subst q1
    obtain ⟨g2, e2⟩ := hi.good.frame hs ex g hf1
    exact hn _ _ ρ' Z' Hf _ ⟨g2, (hi.fr.ext hi.good e2).put hd' hv, hi.ext.trans e2, by rw [size_put]; exact hi.size, by rw [defers_put]; exact hi.defers.ext hi.good e2⟩ hf2
theorem yielded_of {ops : Array Oper} {o oj : Oper} {j d : Nat} {want q : Bool} (hF : FR w.heap ρ Z s a) (hg : o.guard = some (j, want)) (hj : ops[j]? = some oj) (hdst : oj.dst = some d) (hs : s d = some (.bool q)) :
    Region.wanted o (yielded ops a.tmps) = (q == want) := by
  have hr := hF d _ hs
  have hb : a.tmps[d]? = some (.bool q) := by
    generalize hx : a.tmps.getD d undef = x at hr
    cases hr
    rw [Array.getD_eq_getD_getElem?] at hx
    cases hh : a.tmps[d]? with
    | none => rw [hh] at hx; simp [undef] at hx
    | some y => rw [hh] at hx; simpa using hx
  simp only [Region.wanted, hg, yielded, hj, Option.bind_some, hdst, hb]
  cases q <;> cases want <;> rfl
theorem yielded_un {ops : Array Oper} {o oj : Oper} {j d : Nat} {want : Bool} (hF : FR w.heap ρ Z s a) (hg : o.guard = some (j, want)) (hj : ops[j]? = some oj) (hdst : oj.dst = some d) (hs : s d = some (.tup [])) :
    Region.wanted o (yielded ops a.tmps) = false := by
  have hr := hF d _ hs
  generalize hx : a.tmps.getD d undef = x at hr
  cases hr with
  | tup cs vs hl hq =>
    rw [Array.getD_eq_getD_getElem?] at hx
    simp only [Region.wanted, hg, yielded, hj, Option.bind_some, hdst]
    cases hh : a.tmps[d]? with
    | none => cases want <;> rfl
    | some y => rw [hh] at hx; simp only [Option.getD_some] at hx; rw [hx]; cases want <;> rfl
theorem Rl_un (h : Array Obj) (ρ : Loc) (Z : Nat → Prop) : Rl h ρ Z (.tup []) undef := .tup [] [] rfl (by simp)
theorem compOper_guard {ops : Array Oper} {o : Oper} {g : Option (Nat × Bool)} (h : guardOf ops o.guard = some g) : compOper P fl ops o = { dst := o.dst, guard := g, co := compOp P (litOf fl o.dst) o.op } := by
  unfold compOper; rw [h]
theorem guardOf_some {ops : Array Oper} {gd : Option (Nat × Bool)} {d : Nat} {q : Bool} (h : guardOf ops gd = some (some (d, q))) : ∃ j oj, gd = some (j, q) ∧ ops[j]? = some oj ∧ oj.dst = some d := by
  cases gd with
  | none => simp [guardOf] at h
  | some p =>
    obtain ⟨j, q'⟩ := p
    simp only [guardOf] at h
    cases hj : ops[j]? with
    | none => simp [hj] at h
    | some oj =>
      simp only [hj] at h
      cases hd : oj.dst with
      | none => simp [hd] at h
      | some d' =>
        simp only [hd, Option.some.injEq, Prod.mk.injEq] at h
        obtain ⟨rfl, rfl⟩ := h
        exact ⟨j, oj, rfl, hj, hd⟩
theorem guardOf_none {ops : Array Oper} {gd : Option (Nat × Bool)} (h : guardOf ops gd = some none) : gd = none := by
  cases gd with
  | none => rfl
  | some p =>
    obtain ⟨j, q'⟩ := p
    simp only [guardOf] at h
    cases hj : ops[j]? with
    | none => simp [hj] at h
    | some oj =>
      simp only [hj] at h
      cases hd : oj.dst <;> simp [hd] at h
theorem oper_out {ops : Array Oper} {o : Oper} {os : List COp} {K : Fr → AH → Prop} {next : Act → World → Prop} {Q : Exit → Act → World → Prop} (hi : Inv B w ρ Z H s a) (hd : ∀ d, o.dst = some d → d < B.N)
    (h : wpOps P (compOper P fl ops o :: os) K s H) (hn : ∀ a' w' ρ' Z' H' s', Inv B w' ρ' Z' H' s' a' → wpOps P os K s' H' → next a' w') :
    if Region.wanted o (yielded ops a.tmps) then o.wpIn (FnR rd) nn P a w next Q else next (a.put o.dst undef) w := by
  have hd' : ∀ d, o.dst = some d → d < a.tmps.size := fun d q => by rw [hi.size]; exact hd d q
  cases hg : guardOf ops o.guard with
  | none =>
    unfold compOper at h
    rw [hg] at h
    simp [wpOps, evalOp, OA] at h
  | some gd =>
    rw [compOper_guard hg] at h
    cases gd with
    | none =>
      have hgn := guardOf_none hg
      simp only [wpOps, OA_iff] at h
      obtain ⟨rs, he, hk⟩ := h
      rw [if_pos (by simp [Region.wanted, hgn])]
      exact step_out hi hd he hk hn
    | some p =>
      obtain ⟨d, want⟩ := p
      obtain ⟨j, oj, hgj, hj, hdst⟩ := guardOf_some hg
      simp only [wpOps, OA_iff] at h
      rcases h with ⟨q, hs, h1, h2⟩ | ⟨hs, h2⟩
      rotate_left
      · rw [if_neg (by rw [yielded_un hi.fr hgj hj hdst hs]; simp)]
        exact hn _ _ ρ Z H _ ⟨hi.good, hi.fr.put hd' (Rl_un _ _ _), hi.ext, by rw [size_put]; exact hi.size, by rw [defers_put]; exact hi.defers⟩ h2
      have hw := yielded_of hi.fr hgj hj hdst hs
      by_cases hq : q = want
      · rw [if_pos (by rw [hw]; simp [hq])]
        obtain ⟨rs, he, hk⟩ := h1 hq
        exact step_out hi hd he hk hn
      · rw [if_neg (by rw [hw]; simpa using hq)]
        have hq' : q = !want := by cases q <;> cases want <;> simp_all
        exact hn _ _ ρ Z H _ ⟨hi.good, hi.fr.put hd' (Rl_un _ _ _), hi.ext, by rw [size_put]; exact hi.size, by rw [defers_put]; exact hi.defers⟩ (h2 hq')
theorem compOper_dst {fl : List Nat} (ops : Array Oper) (o : Oper) : (compOper P fl ops o).dst = o.dst := by unfold compOper; split <;> rfl
theorem dstOk_spec {ops : Array Oper} {o : Oper} {N : Nat} (h : dstOk N (compOper P fl ops o) = true) : ∀ d, o.dst = some d → d < N := by
  intro d hd
  unfold dstOk at h
  rw [compOper_dst, hd] at h
  simpa using h
theorem wpOps_list {ops : Array Oper} {K : Fr → AH → Prop} {Q : Exit → Act → World → Prop} (hQ : ∀ a' w' ρ' Z' H' s', Inv B w' ρ' Z' H' s' a' → K s' H' → Q .normal a' w') :
    ∀ (l : List Oper) (w : World) (ρ : Loc) (Z : Nat → Prop) (H : AH) (s : Fr) (a : Act), (compOps P fl ops l).all (dstOk B.N) = true → Inv B w ρ Z H s a → wpOps P (compOps P fl ops l) K s H → wpListIn (FnR rd) nn P ops Q l a w
  | [], w, ρ, Z, H, s, a, _, hi, h => by
    simp only [compOps, wpOps] at h
    exact hQ _ _ _ _ _ _ hi h
  | o :: l, w, ρ, Z, H, s, a, hd, hi, h => by
    simp only [compOps, List.all_cons, Bool.and_eq_true] at hd h
    have := oper_out (Q := Q) (rd := rd) (nn := nn) (next := wpListIn (FnR rd) nn P ops Q l) hi (dstOk_spec hd.1) h fun a' w' ρ' Z' H' s' hi' hk' => wpOps_list hQ l w' ρ' Z' H' s' a' hd.2 hi' hk'
    unfold wpListIn
    split
    · rename_i hw; rw [if_pos hw] at this; exact this
    · rename_i hw; rw [if_neg hw] at this; exact ⟨fun _ _ => trivial, this⟩
/-! ### What an operation looks at -/
theorem ev_congr {s s' : Fr} {x : X} (h : ∀ t ∈ x.looks, s t = s' t) : ev s x = ev s' x := by
  cases x with
  | t n => exact h n (by simp [X.looks])
  | _ => rfl
theorem evL_congr {s s' : Fr} : ∀ {xs : List X}, (∀ t ∈ looksL xs, s t = s' t) → evL s xs = evL s' xs
  | [], _ => rfl
  | x :: xs, h => by
    simp only [evL, ev_congr (x := x) (fun t ht => h t (by simp [looksL, ht])), evL_congr (xs := xs) (fun t ht => h t (by simp [looksL, ht]))]
theorem ev3_congr {s s' : Fr} : ∀ {xs : List (Nat × Nat × X)}, (∀ t ∈ looks3 xs, s t = s' t) → evParts3 s xs = evParts3 s' xs
  | [], _ => rfl
  | (o, z, x) :: xs, h => by
    simp only [evParts3, ev_congr (x := x) (fun t ht => h t (by simp [looks3, ht])), ev3_congr (xs := xs) (fun t ht => h t (by simp [looks3, ht]))]
theorem ev2_congr {s s' : Fr} : ∀ {xs : List (Nat × X)}, (∀ t ∈ looks2 xs, s t = s' t) → evParts2 s xs = evParts2 s' xs
  | [], _ => rfl
  | (i, x) :: xs, h => by
    simp only [evParts2, ev_congr (x := x) (fun t ht => h t (by simp [looks2, ht])), ev2_congr (xs := xs) (fun t ht => h t (by simp [looks2, ht]))]
theorem evO_congr {s s' : Fr} {d : Int} {x : Option X} (h : ∀ t ∈ looksO x, s t = s' t) : evO s d x = evO s' d x := by
  cases x with
  | none => rfl
  | some x => simp only [evO, ev_congr (x := x) (fun t ht => h t (by simp [looksO, ht]))]
theorem evalOp_congr {s s' : Fr} {co : CO} (h : ∀ t ∈ co.looks, s t = s' t) : evalOp s H co = evalOp s' H co := by
  cases co <;> simp only [CO.looks] at h <;> simp only [evalOp]
  case pick c x y => rw [ev_congr (x := c) (fun t ht => h t (by simp [ht])), ev_congr (x := x) (fun t ht => h t (by simp [ht])), ev_congr (x := y) (fun t ht => h t (by simp [ht]))]
  case build zs ps => rw [ev3_congr h]
  case bslice T sz n zs ps => rw [ev2_congr h]
  case bsliceO T sz n zs ps => rw [ev2_congr h]
  case slice k x lo hi =>
    rw [ev_congr (x := x) (fun t ht => h t (by simp [ht]))]
    simp only [sliceA, evO_congr (x := lo) (fun t ht => h t (by simp [ht])), evO_congr (x := hi) (fun t ht => h t (by simp [ht]))]
  case mm mx xs => rw [evL_congr h]
  case ext k xs => rw [evL_congr h]
  case call f xs => rw [evL_congr h]
  case mkfn f us xs => rw [evL_congr (xs := us) (fun t ht => h t (by simp [ht])), evL_congr (xs := xs) (fun t ht => h t (by simp [ht]))]
  case callv f xs => rw [ev_congr (x := f) (fun t ht => h t (by simp [ht])), evL_congr (xs := xs) (fun t ht => h t (by simp [ht]))]
  all_goals first
    | rfl
    | (rw [ev_congr h]; done)
    | (rename_i x y; rw [ev_congr (x := x) (fun t ht => h t (by simp [ht])), ev_congr (x := y) (fun t ht => h t (by simp [ht]))]; done)
    | (rename_i n x y; rw [ev_congr (x := x) (fun t ht => h t (by simp [ht])), ev_congr (x := y) (fun t ht => h t (by simp [ht]))]; done)
end
end Go.Proofs.YtjaigpidmngaaaaGreat

namespace Go.Proofs.YtjaigpidmngaaaaGreat
inductive Ef where
  | no
  | v (x : AV)
  | nb (x : AV) (id : Nat) (b : Blk)
  | st (id : Nat) (b : Blk × Option AV) (b' : Blk)
def Ef.fr (e : Ef) (d : Option Nat) (s : Fr) : Fr :=
  match e with
  | .no => s.put d (.tup [])
  | .v x => s.put d x
  | .nb x _ _ => s.put d x
  | .st _ b _ => match b.2 with | some x => s.put d x | none => s.del d
def Ef.hp (e : Ef) (H : AH) : AH :=
  match e with
  | .nb _ id b => (id, b) :: H
  | .st id _ b' => hset H id b'
  | _ => H
def CO.ty : CO → Nat
  | .box T _ => T
  | .allc T _ => T
  | .bslice T _ _ _ _ => T
  | .bsliceO T _ _ _ _ => T
  | .mks T _ _ _ _ => T
  | .append T _ _ _ _ _ => T
  | _ => 0
theorem evalOp_ty {s : Fr} {H : AH} {co : CO} {T : Nat} {blk : Blk} {vf : Nat → AV} {H' : AH} (h : evalOp s H co = some (.fresh T blk vf H')) : T = co.ty := by
  cases co <;> simp only [evalOp, Option.bind_eq_some_iff, Option.some.injEq, reduceCtorEq, and_false, exists_false] at h
  case box =>
    obtain ⟨v, _, h⟩ := h
    split at h <;> simp only [Option.some.injEq, Rs.fresh.injEq, reduceCtorEq] at h
    exact h.1.symm
  case allc => simp only [Rs.fresh.injEq] at h; exact h.1.symm
  case bslice =>
    obtain ⟨_, _, _, _, h⟩ := h
    split at h
    · split at h <;> simp only [Option.some.injEq, Rs.fresh.injEq, reduceCtorEq] at h
      exact h.1.symm
    · cases h
  case bsliceO =>
    obtain ⟨_, _, _, _, h⟩ := h
    split at h <;> simp only [Option.some.injEq, Rs.fresh.injEq, reduceCtorEq] at h
    exact h.1.symm
  case mks =>
    obtain ⟨_, _, h⟩ := h
    split at h
    · split at h <;> simp only [Option.some.injEq, Rs.fresh.injEq, reduceCtorEq] at h
      exact h.1.symm
    · cases h
  case append =>
    obtain ⟨_, _, _, _, _, _, h⟩ := h
    split at h
    · split at h
      · simp at h
      · split at h <;> simp only [Option.some.injEq, Rs.fresh.injEq, reduceCtorEq] at h
        exact h.1.symm
    · simp only [Option.bind_eq_some_iff] at h
      obtain ⟨_, _, h⟩ := h
      split at h <;> simp only [Option.some.injEq, Rs.fresh.injEq, reduceCtorEq] at h
      exact h.1.symm
    · split at h
      · simp at h
      · split at h <;> simp only [Option.some.injEq, Rs.fresh.injEq, reduceCtorEq] at h
        exact h.1.symm
    · cases h
  all_goals (exfalso; repeat' (first | (cases h; done) | (obtain ⟨_, h⟩ := h) | split at h | (simp [Option.bind_eq_some_iff] at h; done) | (simp only [Option.bind_eq_some_iff] at h)))
def EfOk (P : Program) (H0 D : AH) (idf : Nat → Nat) (i : Nat) (o : COp) (s : Fr) (e : Ef) : Prop :=
  (∃ g want, o.guard = some (g, want) ∧ (s g = some (.bool (!want)) ∨ s g = some (.tup [])) ∧ e = .no) ∨
  ((o.guard = none ∨ ∃ g want, o.guard = some (g, want) ∧ s g = some (.bool want)) ∧
    ((∃ v, evalOp s H0 o.co = some (.val v) ∧ e = .v v) ∨ (∃ T blk vf, evalOp s H0 o.co = some (.fresh T blk vf H0) ∧ tag (idf i) = T ∧ e = .nb (vf (idf i)) (idf i) blk) ∨
      (∃ f args r, evalOp s H0 o.co = some (.call f args) ∧ callP P f args H0 r ∧ e = .v r) ∨
      (∃ id b H' b', hget D id = some b ∧ evalOp s [(id, b)] o.co = some (.upd H') ∧ hget H' id = some b' ∧ e = .st id (b, none) b') ∨
      (∃ f args id b r b', evalOp s H0 o.co = some (.call f args) ∧ hget D id = some b ∧ callW P f args H0 id b r b' ∧ e = .st id (b, some r) b') ∨
      ∃ id b H' b' t n i j, s t = some (.ptr id n i j) ∧ t ∈ o.looks ∧ evalOp s [(id, b)] o.co = some (.upd H') ∧ hget H' id = some b' ∧ e = .st id (b, none) b'))
theorem EfOk.mono {P : Program} {H0 D D' : AH} {idf : Nat → Nat} {i : Nat} {o : COp} {s : Fr} {e : Ef} (hs : Sub D D') : EfOk P H0 D idf i o s e → EfOk P H0 D' idf i o s e
  | .inl h => .inl h
  | .inr ⟨g, h⟩ => .inr ⟨g, match h with
    | .inl h => .inl h
    | .inr (.inl h) => .inr (.inl h)
    | .inr (.inr (.inl h)) => .inr (.inr (.inl h))
    | .inr (.inr (.inr (.inl ⟨id, b, H', b', h1, h2⟩))) => .inr (.inr (.inr (.inl ⟨id, b, H', b', hs _ _ h1, h2⟩)))
    | .inr (.inr (.inr (.inr (.inl ⟨f, args, id, b, r, b', h1, h2, h3⟩)))) => .inr (.inr (.inr (.inr (.inl ⟨f, args, id, b, r, b', h1, hs _ _ h2, h3⟩))))
    | .inr (.inr (.inr (.inr (.inr h)))) => .inr (.inr (.inr (.inr (.inr h))))⟩
def frAt (s : Fr) : List COp → List Ef → Fr
  | o :: os, e :: es => frAt (e.fr o.dst s) os es
  | _, _ => s
def hpAt (H : AH) : List Ef → AH
  | [] => H
  | e :: es => hpAt (e.hp H) es
section
variable {P : Program} {w : World} {ρ : Loc} {Z : Nat → Prop} {H : AH} {s : Fr} {a : Act} {B : Beg}
theorem hdel_sub (D : AH) (id : Nat) : Sub (hdel D id) D := by
  intro j b q
  rw [hget_hdel] at q
  split at q
  · cases q
  · exact q
theorem EfOk.nb {H0 D : AH} {idf : Nat → Nat} {i : Nat} {o : COp} {s : Fr} {x : AV} {id : Nat} {b : Blk} (h : EfOk P H0 D idf i o s (.nb x id b)) : id = idf i := by
  rcases h with ⟨g, want, _, _, h⟩ | ⟨_, ⟨v, _, h⟩ | ⟨T, blk, vf, _, _, h⟩ | ⟨f, args, r, _, _, h⟩ | ⟨id', b0, H', b', _, _, _, h⟩ | ⟨f, args, id', b0, r, b', _, _, _, h⟩ | ⟨id', b0, H', b', t, n, i', j', _, _, _, _, h⟩⟩
  all_goals first
    | (cases h; done)
    | (simp only [Ef.nb.injEq] at h; exact h.2.1)
structure Efs (P : Program) (H0 D F : AH) (idf : Nat → Nat) (k : Nat) (s : Fr) (os : List COp) (es : List Ef) : Prop where
  ok : ∀ (i : Nat) o e, os[i]? = some o → es[i]? = some e → EfOk P H0 D idf (k + i) o (frAt s (os.take i) (es.take i)) e
  st : ∀ (i : Nat) id b b', es[i]? = some (.st id b b') → hget D id = some b.1 ∨ hget F id = some b.1 ∨ ∃ (j : Nat) (x : AV), j < i ∧ es[j]? = some (.nb x id b.1)
  un : ∀ (i j : Nat) id b b' c c', es[i]? = some (.st id b b') → es[j]? = some (.st id c c') → i = j
set_option maxHeartbeats 1000000 in
theorem wpDraw_effects {H0 : AH} {idf : Nat → Nat} {K : Fr → AH → Prop} (hinj : ∀ i j, idf i = idf j → i = j) (os : List COp) : ∀ (k : Nat) (s : Fr) (D F H : AH), (∀ (i : Nat) o, os[i]? = some o → tag (idf (k + i)) = o.co.ty) → wpDraw P os K s H0 D F H → (∀ j, k ≤ j → hget H (idf j) = none) →
    (∀ j, k ≤ j → hget D (idf j) = none) → (∀ j, k ≤ j → hget F (idf j) = none) → (∀ id b, hget D id = some b → hget F id = none) →
    ∃ es : List Ef, es.length = os.length ∧ K (frAt s os es) (hpAt H es) ∧ Efs P H0 D F idf k s os es := by
  induction os with
  | nil => exact fun k s D F H _ h _ _ _ _ => ⟨[], rfl, h, by simp, by simp, by simp⟩
  | cons o os ih =>
    intro k s D F H htg h hid hD0 hF0 hDF
    have htg1 : ∀ (i : Nat) o, os[i]? = some o → tag (idf (k + 1 + i)) = o.co.ty := fun i o' q => by
      rw [show k + 1 + i = k + (i + 1) from by omega]; exact htg (i + 1) o' (by simpa using q)
    have next : ∀ (e : Ef) (D' F' : AH), EfOk P H0 D idf k o s e → Sub D' D → (∀ id b b', e = .st id b b' → (hget D id = some b.1 ∨ hget F id = some b.1) ∧ hget D' id = none ∧ hget F' id = none) →
        (∀ id b, hget F' id = some b → hget F id = some b ∨ ∃ x, e = .nb x id b) → wpDraw P os K (e.fr o.dst s) H0 D' F' (e.hp H) → (∀ j, k + 1 ≤ j → hget (e.hp H) (idf j) = none) →
        ∃ es : List Ef, es.length = (o :: os).length ∧ K (frAt s (o :: os) es) (hpAt H es) ∧ Efs P H0 D F idf k s (o :: os) es := by
      intro e D' F' he hD hst hF hw hid'
      have hD1 : ∀ j, k + 1 ≤ j → hget D' (idf j) = none := fun j hj => by
        cases q : hget D' (idf j) with
        | none => rfl
        | some b => have := hD _ _ q; rw [hD0 j (by omega)] at this; cases this
      have hF1 : ∀ j, k + 1 ≤ j → hget F' (idf j) = none := fun j hj => by
        cases q : hget F' (idf j) with
        | none => rfl
        | some b =>
          rcases hF _ _ q with q2 | ⟨x, q2⟩
          · rw [hF0 j (by omega)] at q2; cases q2
          · subst q2
            have := hinj _ _ he.nb; omega
      have hDF1 : ∀ id b, hget D' id = some b → hget F' id = none := fun id b q => by
        cases q1 : hget F' id with
        | none => rfl
        | some b1 =>
          rcases hF _ _ q1 with q2 | ⟨x, q2⟩
          · rw [hDF id b (hD _ _ q)] at q2; cases q2
          · subst q2
            have q3 := hD _ _ q
            rw [he.nb, hD0 k (Nat.le_refl _)] at q3; cases q3
      obtain ⟨es, h1, h2, h3⟩ := ih (k + 1) _ D' F' _ htg1 hw hid' hD1 hF1 hDF1
      have hnb : ∀ (i : Nat) x id b, es[i]? = some (.nb x id b) → id = idf (k + 1 + i) := fun i x id b q => by
        have hi := (List.getElem?_eq_some_iff.1 q).1
        exact (h3.ok i _ _ (List.getElem?_eq_getElem (by omega)) q).nb
      have cross : ∀ (i : Nat) id b b' c c', e = .st id b b' → es[i]? = some (.st id c c') → False := fun i id b b' c c' q1 q2 => by
        obtain ⟨q3, q4, q5⟩ := hst id b b' q1
        rcases h3.st i id c c' q2 with q | q | ⟨j, x, _, q⟩
        · rw [q4] at q; cases q
        · rw [q5] at q; cases q
        · have := hnb j x id _ q
          rw [this, hD0 _ (by omega), hF0 _ (by omega)] at q3
          rcases q3 with q3 | q3 <;> cases q3
      refine ⟨e :: es, by simp [h1], h2, fun i o' e' q1 q2 => ?_, fun i id b b' q => ?_, fun i j id b b' c c' q1 q2 => ?_⟩
      · cases i with
        | zero => simp at q1 q2; subst q1; subst q2; simp only [Nat.add_zero, List.take_zero, frAt]; exact he
        | succ i =>
          simp at q1 q2
          have := (h3.ok i o' e' q1 q2).mono hD
          rw [show k + (i + 1) = k + 1 + i from by omega]
          simpa [frAt] using this
      · cases i with
        | zero =>
          simp at q
          rcases (hst id b b' q).1 with q | q
          · exact .inl q
          · exact .inr (.inl q)
        | succ i =>
          simp at q
          rcases h3.st i id b b' q with q | q | ⟨j, x, q1, q2⟩
          · exact .inl (hD _ _ q)
          · rcases hF _ _ q with q | ⟨x, q⟩
            · exact .inr (.inl q)
            · exact .inr (.inr ⟨0, x, by omega, by rw [q]; rfl⟩)
          · exact .inr (.inr ⟨j + 1, x, by omega, by simpa using q2⟩)
      · cases i with
        | zero =>
          cases j with
          | zero => rfl
          | succ j => simp at q1 q2; exact (cross j id b b' c c' q1 q2).elim
        | succ i =>
          cases j with
          | zero => simp at q1 q2; exact (cross i id c c' b b' q2 q1).elim
          | succ j => simp at q1 q2; rw [h3.un i j id b b' c c' q1 q2]
    have sameF : ∀ (e : Ef) id b, hget F id = some b → hget F id = some b ∨ ∃ x, e = .nb x id b := fun e id b q => .inl q
    have setH : ∀ (id : Nat) (b' : Blk) j, k + 1 ≤ j → hget (hset H id b') (idf j) = none := fun id b' j hj => by
      rw [hget_hset]
      split
      · rename_i e1; rw [← e1, hid j (by omega)]; rfl
      · exact hid j (by omega)
    have run : (o.guard = none ∨ ∃ g want, o.guard = some (g, want) ∧ s g = some (.bool want)) → (drawSt P o s H0 D F H fun s' D' F' H' => wpDraw P os K s' H0 D' F' H') →
        ∃ es : List Ef, es.length = (o :: os).length ∧ K (frAt s (o :: os) es) (hpAt H es) ∧ Efs P H0 D F idf k s (o :: os) es := by
      rintro hgd (hh | ⟨id, b, H', b', hb, he, hb', hd⟩ | ⟨f, args, id, b, r, b', he, hb, hc, hd⟩ | ⟨id, b, H', b', t, n, i, j, ht, hl, hb, he, hb', hd⟩)
      · simp only [OA_iff] at hh
        obtain ⟨rs, he, hd⟩ := hh
        cases rs with
        | val v => exact next (.v v) D F (.inr ⟨hgd, .inl ⟨v, he, rfl⟩⟩) (fun _ _ q => q) (fun _ _ _ q => by cases q) (sameF _) hd (fun j hj => hid j (by omega))
        | upd H' => exact hd.elim
        | valH v H' => exact hd.elim
        | yield _ _ => exact hd.elim
        | fresh T blk vf H' =>
          obtain ⟨rfl, hd⟩ := hd
          have htT : tag (idf k) = T := by rw [evalOp_ty he]; exact htg 0 o rfl
          refine next (.nb (vf (idf k)) (idf k) blk) D ((idf k, blk) :: F) (.inr ⟨hgd, .inr (.inl ⟨T, blk, vf, he, htT, rfl⟩)⟩) (fun _ _ q => q) (fun _ _ _ q => by cases q) (fun id b q => ?_) (hd (idf k) (hid k (Nat.le_refl _)) htT) fun j hj => ?_
          · simp only [hget] at q
            split at q
            · rename_i e1
              simp only [Option.some.injEq] at q
              subst q; subst e1
              exact .inr ⟨_, rfl⟩
            · exact .inl q
          · simp only [Ef.hp, hget]
            rw [if_neg (fun q => by have := hinj _ _ q; omega)]
            exact hid j (by omega)
        | call f args =>
          obtain ⟨r, hr, hd⟩ := hd
          exact next (.v r) D F (.inr ⟨hgd, .inr (.inr (.inl ⟨f, args, r, he, hr, rfl⟩))⟩) (fun _ _ q => q) (fun _ _ _ q => by cases q) (sameF _) hd (fun j hj => hid j (by omega))
      · refine next (.st id (b, none) b') (hdel D id) F (.inr ⟨hgd, .inr (.inr (.inr (.inl ⟨id, b, H', b', hb, he, hb', rfl⟩)))⟩) (hdel_sub D id) (fun id2 b2 b2' q => ?_) (sameF _) hd (setH id b')
        cases q
        exact ⟨.inl hb, by rw [hget_hdel, if_pos rfl], hDF _ _ hb⟩
      · refine next (.st id (b, some r) b') (hdel D id) F (.inr ⟨hgd, .inr (.inr (.inr (.inr (.inl ⟨f, args, id, b, r, b', he, hb, hc, rfl⟩))))⟩) (hdel_sub D id) (fun id2 b2 b2' q => ?_) (sameF _) hd (setH id b')
        cases q
        exact ⟨.inl hb, by rw [hget_hdel, if_pos rfl], hDF _ _ hb⟩
      · refine next (.st id (b, none) b') D (hdel F id) (.inr ⟨hgd, .inr (.inr (.inr (.inr (.inr ⟨id, b, H', b', t, n, i, j, ht, hl, he, hb', rfl⟩))))⟩) (fun _ _ q => q) (fun id2 b2 b2' q => ?_) (fun id2 b2 q => .inl (hdel_sub F id _ _ q)) hd (setH id b')
        cases q
        refine ⟨.inr hb, ?_, by rw [hget_hdel, if_pos rfl]⟩
        cases q2 : hget D id with
        | none => rfl
        | some b2 => rw [hDF _ _ q2] at hb; cases hb
    simp only [wpDraw] at h
    split at h
    · rename_i hg; exact run (.inl hg) h
    · rename_i g want hg
      rcases h with ⟨q, hs, h1, h2⟩ | ⟨hs, h2⟩
      rotate_left
      · exact next .no D F (.inl ⟨g, want, hg, .inr hs, rfl⟩) (fun _ _ q => q) (fun _ _ _ q => by cases q) (sameF _) h2 (fun j hj => hid j (by omega))
      by_cases hq : q = want
      · exact run (.inr ⟨g, want, hg, by rw [hs, hq]⟩) (h1 hq)
      · have hq' : q = !want := by cases q <;> cases want <;> simp_all
        exact next .no D F (.inl ⟨g, want, hg, .inl (by rw [hs, hq']), rfl⟩) (fun _ _ q => q) (fun _ _ _ q => by cases q) (sameF _) (h2 hq') (fun j hj => hid j (by omega))
/-! ### The Bools over a region -/
theorem before_spec {ops : Array Oper} (hb : edgesBack ops = true) (S : Nat → Prop) (hS : ∀ j o, S j → ops[j]? = some o → ∀ e ∈ o.after, Region.binds .any e = true → S e.on) :
    ∀ j o, ops[j]? = some o → (∀ e ∈ o.after, Region.binds .any e = true → S e.on) → ∀ i, bitOf (Region.before ops) j i = true → S i := by
  have back : ∀ j o, ops[j]? = some o → ∀ e ∈ o.after, Region.binds .any e = true → e.on < j := by
    intro j o hj e he hbd
    unfold edgesBack at hb
    rw [List.all_eq_true] at hb
    have hm : (o, j) ∈ ops.toList.zipIdx := by
      rw [List.mem_zipIdx_iff_getElem?]
      simpa using hj
    have h1 := hb _ hm
    rw [List.all_eq_true] at h1
    have h2 := h1 e (by simpa using he)
    simpa [hbd] using h2
  have key : ∀ (l : List Oper) (acc : Array Nat), (∀ j, l[j]? = ops[acc.size + j]?) →
      (∀ j i, j < acc.size → (acc.getD j 0).testBit i = true → ∀ o, ops[j]? = some o → (∀ e ∈ o.after, Region.binds .any e = true → S e.on) → S i) →
      ∀ j i, ((l.foldl (fun (acc : Array Nat) (o : Oper) => acc.push (o.after.foldl (fun s e => if Region.binds .any e then s ||| 2 ^ e.on ||| acc.getD e.on 0 else s) 0)) acc).getD j 0).testBit i = true →
        ∀ o, ops[j]? = some o → (∀ e ∈ o.after, Region.binds .any e = true → S e.on) → S i := by
    intro l
    induction l with
    | nil =>
      intro acc _ hacc j i hbit o ho hpre
      by_cases hj : j < acc.size
      · exact hacc j i hj hbit o ho hpre
      · simp only [List.foldl_nil] at hbit
        rw [Array.getD_eq_getD_getElem?, Array.getElem?_eq_none (by omega)] at hbit
        simp at hbit
    | cons q l ih =>
      intro acc hl hacc
      simp only [List.foldl_cons]
      refine ih _ (fun j => ?_) fun j i hj hbit o ho hpre => ?_
      · have := hl (j + 1)
        simp only [List.getElem?_cons_succ] at this
        rw [this]
        simp only [Array.size_push]
        congr 1
        omega
      · simp only [Array.size_push] at hj
        by_cases hjs : j < acc.size
        · refine hacc j i hjs ?_ o ho hpre
          rw [Array.getD_eq_getD_getElem?, Array.getElem?_push, if_neg (by omega)] at hbit
          rw [Array.getD_eq_getD_getElem?]
          exact hbit
        · have hje : j = acc.size := by omega
          subst hje
          have hqo : q = o := by
            have := hl 0
            simp only [List.getElem?_cons_zero, Nat.add_zero] at this
            rw [ho] at this
            simpa using this
          subst hqo
          rw [Array.getD_eq_getD_getElem?, Array.getElem?_push, if_pos rfl, Option.getD_some, ← Array.foldl_toList] at hbit
          have edge : ∀ (es : List Edge) (m : Nat), (∀ e ∈ es, e ∈ q.after.toList) →
              (es.foldl (fun s e => if Region.binds .any e then s ||| 2 ^ e.on ||| acc.getD e.on 0 else s) m).testBit i = true → m.testBit i = true ∨ S i := by
            intro es
            induction es with
            | nil => intro m _ h; exact .inl h
            | cons e es ihe =>
              intro m hes h
              simp only [List.foldl_cons] at h
              rcases ihe _ (fun e' he' => hes e' (List.mem_cons_of_mem _ he')) h with h | h
              · split at h
                · rename_i hbd
                  simp only [Nat.testBit_or, Bool.or_eq_true] at h
                  have hein : e ∈ q.after := by simpa using hes e List.mem_cons_self
                  rcases h with (h | h) | h
                  · exact .inl h
                  · rw [Nat.testBit_two_pow] at h
                    right
                    have : e.on = i := by simpa using h
                    rw [← this]
                    exact hpre e hein hbd
                  · right
                    have hlt := back _ _ ho e hein hbd
                    obtain ⟨oe, hoe⟩ : ∃ oe, ops[e.on]? = some oe := ⟨_, Array.getElem?_eq_getElem (by have := (Array.getElem?_eq_some_iff.1 ho).1; omega)⟩
                    exact hacc e.on i hlt h oe hoe (fun e' he' hb' => hS e.on oe (hpre e hein hbd) hoe e' he' hb')
                · exact .inl h
              · exact .inr h
          rcases edge q.after.toList 0 (fun _ h => h) hbit with h | h
          · simp at h
          · exact h
  intro j o ho hpre i hbit
  refine key ops.toList #[] (fun j => by simp) (fun j i hj => by simp at hj) j i ?_ o ho hpre
  unfold bitOf Region.before at hbit
  rw [← Array.foldl_toList] at hbit
  exact hbit
end
end Go.Proofs.YtjaigpidmngaaaaGreat

namespace Go.Proofs.YtjaigpidmngaaaaGreat
def Ef.val : Ef → Option AV
  | .no => some (.tup [])
  | .v x => some x
  | .nb x _ _ => some x
  | .st _ b _ => b.2
section
variable {P : Program} {w : World} {ρ : Loc} {Z : Nat → Prop} {H : AH} {s : Fr} {a : Act} {B : Beg} {fl : List Nat}
theorem Ef.fr_get (e : Ef) (d : Option Nat) (s : Fr) (t : Nat) : e.fr d s t = if d = some t then e.val else s t := by
  rcases e with _ | x | ⟨x, id, b⟩ | ⟨id, ⟨b, _ | x⟩, b'⟩ <;> cases d <;> simp only [Ef.fr, Ef.val, Fr.put, Fr.del, Fr.set, Fr.clr]
  all_goals first
    | (simp; done)
    | (rename_i d; by_cases q : t = d
       · subst q; simp
       · rw [if_neg q, if_neg (by simpa using fun e1 => q e1.symm)])
theorem frAt_none (t : Nat) : ∀ (os : List COp) (es : List Ef) (s : Fr), (∀ (j : Nat) o, os[j]? = some o → o.dst ≠ some t) → frAt s os es t = s t
  | [], es, s, _ => by simp [frAt]
  | o :: os, [], s, _ => by simp [frAt]
  | o :: os, e :: es, s, h => by
    simp only [frAt]
    rw [frAt_none t os es _ (fun j o' q => h (j + 1) o' (by simpa using q)), Ef.fr_get, if_neg (h 0 o rfl)]
theorem frAt_some (t : Nat) : ∀ (os : List COp) (es : List Ef) (s : Fr) (j : Nat) (o : COp) (e : Ef), os[j]? = some o → es[j]? = some e → o.dst = some t →
    (∀ (j' : Nat) o', os[j']? = some o' → j' ≠ j → o'.dst ≠ some t) → frAt s os es t = e.val
  | [], es, s, j, o, e, h, _, _, _ => by simp at h
  | o' :: os, [], s, j, o, e, _, h, _, _ => by simp at h
  | o' :: os, e' :: es, s, j, o, e, h1, h2, h3, h4 => by
    simp only [frAt]
    cases j with
    | zero =>
      simp at h1 h2
      subst h1
      subst h2
      rw [frAt_none t os es _ (fun j o2 q => h4 (j + 1) o2 (by simpa using q) (by omega)), Ef.fr_get, if_pos h3]
    | succ j =>
      simp at h1 h2
      exact frAt_some t os es _ j o e h1 h2 h3 fun j' o2 q hne => h4 (j' + 1) o2 (by simpa using q) (by omega)
def Once (es : List Ef) : Prop := es.Pairwise fun e e' => ∀ id b b' c c', e = .st id b b' → e' ≠ .st id c c'
theorem hpAt_get {idf : Nat → Nat} (hinj : ∀ i j, idf i = idf j → i = j) : ∀ (es : List Ef) (k : Nat) (H : AH), (∀ (i : Nat) x id b, es[i]? = some (.nb x id b) → id = idf (k + i)) → (∀ j, k ≤ j → hget H (idf j) = none) →
    (∀ (i : Nat) id b b', es[i]? = some (Ef.st id b b') → (∃ c, hget H id = some c) ∨ ∃ (j : Nat) (x : AV) (c : Blk), j < i ∧ es[j]? = some (.nb x id c)) → Once es →
    ∀ id b, hget (hpAt H es) id = some b ↔ (∃ b0, Ef.st id b0 b ∈ es) ∨ ((hget H id = some b ∨ ∃ x, Ef.nb x id b ∈ es) ∧ ∀ b0 b1, Ef.st id b0 b1 ∉ es)
  | [], k, H, _, _, _, _, id, b => by simp [hpAt]
  | e :: es, k, H, h1, h2, h3, h4, id, b => by
    have h4' := List.pairwise_cons.1 h4
    have h1t : ∀ (i : Nat) x id b, es[i]? = some (.nb x id b) → id = idf (k + 1 + i) := fun i x id b q => by rw [show k + 1 + i = k + (i + 1) from by omega]; exact h1 (i + 1) x id b (by simpa using q)
    have rest : ∀ H', (∀ j, k + 1 ≤ j → hget H' (idf j) = none) → (∀ id c, hget H id = some c → ∃ c, hget H' id = some c) → (∀ x id c, e = .nb x id c → ∃ c, hget H' id = some c) →
        (hget (hpAt H' es) id = some b ↔ (∃ b0, Ef.st id b0 b ∈ es) ∨ ((hget H' id = some b ∨ ∃ x, Ef.nb x id b ∈ es) ∧ ∀ b0 b1, Ef.st id b0 b1 ∉ es)) := fun H' hH' q1 q2 =>
      hpAt_get hinj es (k + 1) H' h1t hH' (fun i id b b' q => by
        rcases h3 (i + 1) id b b' (by simpa using q) with ⟨c, hc⟩ | ⟨j, x, c, hj, hc⟩
        · exact .inl (q1 id c hc)
        · cases j with
          | zero => simp at hc; exact .inl (q2 x id c hc)
          | succ j => exact .inr ⟨j, x, c, by omega, by simpa using hc⟩) h4'.2 id b
    simp only [hpAt]
    cases e with
    | no =>
      rw [show (Ef.no).hp H = H from rfl, rest H (fun j hj => h2 j (by omega)) (fun _ c q => ⟨c, q⟩) (fun _ _ _ q => by cases q)]
      simp
    | v y =>
      rw [show (Ef.v y).hp H = H from rfl, rest H (fun j hj => h2 j (by omega)) (fun _ c q => ⟨c, q⟩) (fun _ _ _ q => by cases q)]
      simp
    | nb y id' b' =>
      have hid := h1 0 y id' b' rfl
      simp only [Nat.add_zero] at hid
      have hno : hget H id' = none := by rw [hid]; exact h2 k (Nat.le_refl _)
      rw [show (Ef.nb y id' b').hp H = (id', b') :: H from rfl, rest ((id', b') :: H) (fun j hj => by
        simp only [hget]
        rw [if_neg (fun q => by rw [hid] at q; have := hinj _ _ q; omega)]
        exact h2 j (by omega)) (fun id c hc => by
        simp only [hget]
        split
        · exact ⟨_, rfl⟩
        · exact ⟨c, hc⟩) (fun x id c q => by cases q; exact ⟨b', by simp [hget]⟩)]
      simp only [List.mem_cons, Ef.nb.injEq, reduceCtorEq, false_or, hget]
      constructor
      · rintro (q | ⟨q, q2⟩)
        · exact .inl q
        · refine .inr ⟨?_, q2⟩
          rcases q with q | ⟨x, q⟩
          · split at q
            · rename_i e1
              simp only [Option.some.injEq] at q
              exact .inr ⟨y, .inl ⟨rfl, e1, q.symm⟩⟩
            · exact .inl q
          · exact .inr ⟨x, .inr q⟩
      · rintro (q | ⟨q, q2⟩)
        · exact .inl q
        · refine .inr ⟨?_, q2⟩
          rcases q with q | ⟨x, ⟨_, rfl, rfl⟩ | q⟩
          · left
            rw [if_neg (fun e1 => by rw [e1, hno] at q; cases q)]
            exact q
          · left; rw [if_pos rfl]
          · exact .inr ⟨x, q⟩
    | st id' b0' b' =>
      obtain ⟨c', hc'⟩ : ∃ c, hget H id' = some c := by
        rcases h3 0 id' b0' b' rfl with q | ⟨j, x, c, hj, _⟩
        · exact q
        · omega
      have nost : ∀ b0 b1, Ef.st id' b0 b1 ∉ es := fun b0 b1 q => h4'.1 _ q id' b0' b' b0 b1 rfl rfl
      have nonb : ∀ x c, Ef.nb x id' c ∉ es := fun x c q => by
        obtain ⟨i, hi⟩ := List.mem_iff_getElem?.1 q
        rw [h1t i x id' c hi, h2 _ (by omega)] at hc'
        cases hc'
      rw [show (Ef.st id' b0' b').hp H = hset H id' b' from rfl, rest (hset H id' b') (fun j hj => by
        rw [hget_hset]
        split
        · rename_i e1; rw [← e1, h2 j (by omega)]; rfl
        · exact h2 j (by omega)) (fun id c hc => by
        rw [hget_hset]
        split
        · rename_i e1; rw [← e1, hc]; exact ⟨_, rfl⟩
        · exact ⟨c, hc⟩) (fun _ _ _ q => by cases q)]
      simp only [List.mem_cons, Ef.st.injEq, reduceCtorEq, false_or, hget_hset]
      constructor
      · rintro (⟨b0, q⟩ | ⟨q, q2⟩)
        · exact .inl ⟨b0, .inr q⟩
        · by_cases e1 : id = id'
          · subst e1
            rcases q with q | ⟨x, q⟩
            · rw [if_pos rfl, hc'] at q
              simp only [Option.map_some, Option.some.injEq] at q
              exact .inl ⟨b0', .inl ⟨rfl, rfl, q.symm⟩⟩
            · exact (nonb x b q).elim
          · rw [if_neg e1] at q
            refine .inr ⟨q, fun b0 b1 q3 => ?_⟩
            rcases q3 with ⟨q3, _⟩ | q3
            · exact e1 q3
            · exact q2 b0 b1 q3
      · rintro (⟨b0, ⟨rfl, rfl, rfl⟩ | q⟩ | ⟨q, q2⟩)
        · refine .inr ⟨.inl ?_, nost⟩
          rw [if_pos rfl, hc']
          rfl
        · exact .inl ⟨b0, q⟩
        · refine .inr ⟨?_, fun b0 b1 q3 => q2 b0 b1 (.inr q3)⟩
          rw [if_neg (fun e1 => q2 b0' b' (.inl ⟨e1, rfl, rfl⟩))]
          exact q
theorem Own.congr {H H' : AH} (h : ∀ id b, hget H id = some b ↔ hget H' id = some b) : Own ρ H' = Own ρ H := by
  funext b
  apply propext
  constructor
  · rintro ⟨id, bl, o, q, r⟩; exact ⟨id, bl, o, (h id bl).2 q, r⟩
  · rintro ⟨id, bl, o, q, r⟩; exact ⟨id, bl, o, (h id bl).1 q, r⟩
theorem Good.congr {H H' : AH} (g : Good w.heap ρ Z H) (h : ∀ id b, hget H id = some b ↔ hget H' id = some b) : Good w.heap ρ Z H' := g.forget fun id b q => (h id b).2 q
theorem nodup_len : ∀ (k : Nat) (S : List Nat), S.Nodup → (∀ x ∈ S, x < k) → S.length ≤ k
  | 0, S, _, h => by
    cases S with
    | nil => simp
    | cons x S => exact absurd (h x List.mem_cons_self) (by omega)
  | k + 1, S, hn, h => by
    have := nodup_len k (S.erase k) (hn.erase k) fun x hx => by
      have h1 := h x (List.mem_of_mem_erase hx)
      have h2 : x ≠ k := fun e => by rw [e] at hx; exact hn.not_mem_erase hx
      omega
    rw [List.length_erase] at this
    split at this <;> omega
theorem drawOk_spec {ops : Array Oper} {cs : List COp} {k : Nat} (h : drawOk ops cs k = true) : edgesBack ops = true ∧
    ∀ (i j : Nat) p o, cs[i]? = some p → cs[j]? = some o → i ≠ j →
      (∀ d, p.dst = some d → o.dst ≠ some d) ∧ (∀ d, p.dst = some d → d ∈ o.looks → if i < j then bitOf (Region.before ops) j i = true else bitOf (Region.before ops) i j = true) ∧
      (k ≤ j → i < j → bitOf (Region.before ops) j i = true) := by
  simp only [drawOk, Bool.and_eq_true] at h
  refine ⟨h.1, fun i j p o hi hj hne => ?_⟩
  have h2 := h.2
  rw [List.all_eq_true] at h2
  have h3 := h2 (o, j) (by rw [List.mem_zipIdx_iff_getElem?]; simpa using hj)
  rw [List.all_eq_true] at h3
  have h4 := h3 (p, i) (by rw [List.mem_zipIdx_iff_getElem?]; simpa using hi)
  simp only [Bool.or_eq_true, decide_eq_true_eq, hne, false_or, Bool.and_eq_true] at h4
  obtain ⟨h5, h6⟩ := h4
  refine ⟨fun d hd => ?_, fun d hd hl => ?_, fun h7 h8 => ?_⟩
  · rw [hd] at h5
    simp only [Bool.and_eq_true, Bool.not_eq_true'] at h5
    have := h5.1
    simpa using this
  · rw [hd] at h5
    simp only [Bool.and_eq_true, Bool.not_eq_true', Bool.or_eq_true] at h5
    rcases h5.2 with h7 | h7
    · rw [List.contains_iff_mem.2 hl] at h7; cases h7
    · split at h7 <;> rename_i h8
      · rw [if_pos (by simpa using h8)]; exact h7
      · rw [if_neg (by simpa using h8)]; exact h7
  · rcases h6 with (h6 | h6) | h6
    · omega
    · omega
    · exact h6
theorem compOps_get {fl : List Nat} (ops : Array Oper) : ∀ (l : List Oper) (i : Nat), (compOps P fl ops l)[i]? = (l[i]?).map (compOper P fl ops)
  | [], i => by simp [compOps]
  | o :: l, i => by
    cases i with
    | zero => simp [compOps]
    | succ i => simp only [compOps, List.getElem?_cons_succ]; exact compOps_get ops l i
end
end Go.Proofs.YtjaigpidmngaaaaGreat

namespace Go.Proofs.YtjaigpidmngaaaaGreat
section
variable {rd : Option Nat} {nn : Nat} {P : Program} {w : World} {ρ : Loc} {Z : Nat → Prop} {H : AH} {s : Fr} {a : Act} {B : Beg} {fl : List Nat}
theorem setIf_getD (listed : Array Bool) (i j : Nat) (hi : i < listed.size) : (listed.setIfInBounds i true).getD j false = (decide (j = i) || listed.getD j false) := by
  by_cases e : i = j
  · subst e; simp [hi]
  · have e' : j ≠ i := fun q => e q.symm
    rw [getD_set_ne false e]; simp [e']
theorem compOps_len {fl : List Nat} (ops : Array Oper) : ∀ l : List Oper, (compOps P fl ops l).length = l.length
  | [] => rfl
  | o :: l => by simp only [compOps, List.length_cons, compOps_len ops l]
theorem getD_tf {listed : Array Bool} {i : Nat} (hi : i < listed.size) : listed.getD i true = listed.getD i false := by simp [hi]
theorem late_any {ops : Array Oper} {k : Nat} {K : Fr → AH → Prop} {Q : Exit → Act → World → Prop} (hok : drawOk ops (compOps P fl ops ops.toList) k = true) (hd : (compOps P fl ops ops.toList).all (dstOk B.N) = true)
    (hQ : ∀ a' w' ρ' Z' H' s', Inv B w' ρ' Z' H' s' a' → K s' H' → Q .normal a' w') :
    ∀ (fuel m : Nat) (listed : Array Bool) (w : World) (ρ : Loc) (Z : Nat → Prop) (H : AH) (s : Fr) (a : Act), k ≤ m → m ≤ ops.size → ops.size - m ≤ fuel → listed.size = ops.size → (∀ i, listed.getD i false = true ↔ i < m) →
      Inv B w ρ Z H s a → wpOps P ((compOps P fl ops ops.toList).drop m) K s H → wpAnyIn (FnR rd) nn P .any ops Q fuel listed a w := by
  obtain ⟨hback, hspec⟩ := drawOk_spec hok
  have hlen : (compOps P fl ops ops.toList).length = ops.size := by rw [compOps_len]; simp
  intro fuel
  induction fuel with
  | zero =>
    intro m listed w ρ Z H s a hk hm hf hls hl hi h
    have hm' : m = ops.size := by omega
    subst hm'
    refine ⟨?_, ?_⟩
    · cases hr : Region.ready .any ops listed with
      | nil => rfl
      | cons x xs =>
        have hx : x ∈ Region.ready .any ops listed := by rw [hr]; simp
        obtain ⟨h1, o, ho, _⟩ := mem_ready.1 hx
        have hlt := (Array.getElem?_eq_some_iff.1 ho).1
        rw [getD_tf (by omega), (hl x).2 hlt] at h1
        cases h1
    · rw [List.drop_of_length_le (by omega)] at h
      exact hQ _ _ _ _ _ _ hi h
  | succ fuel ih =>
    intro m listed w ρ Z H s a hk hm hf hls hl hi h
    refine ⟨fun hr => ?_, fun i hir => ?_⟩
    · rcases Nat.lt_or_ge m ops.size with hlt | hge
      · have : m ∈ Region.ready .any ops listed := by
          rw [mem_ready]
          refine ⟨by rw [getD_tf (by omega)]; cases hh : listed.getD m false with | false => rfl | true => exact absurd ((hl m).1 hh) (by omega), ops[m], Array.getElem?_eq_getElem hlt, fun e he hb => (hl _).2 ?_⟩
          unfold edgesBack at hback
          rw [List.all_eq_true] at hback
          have h1 := hback (ops[m], m) (by rw [List.mem_zipIdx_iff_getElem?]; simp [hlt])
          rw [List.all_eq_true] at h1
          have h2 := h1 e (by simpa using he)
          simpa [hb] using h2
        rw [hr] at this
        cases this
      · rw [List.drop_of_length_le (by omega)] at h
        exact hQ _ _ _ _ _ _ hi h
    · obtain ⟨h1, o, ho, hpre⟩ := mem_ready.1 hir
      have hlt := (Array.getElem?_eq_some_iff.1 ho).1
      rw [getD_tf (by omega)] at h1
      have him : ¬ i < m := fun q => by rw [(hl i).2 q] at h1; cases h1
      have hie : i = m := by
        rcases Nat.lt_or_ge m i with hmi | hmi
        · have hm2 : m < ops.size := by omega
          have hcm : (compOps P fl ops ops.toList)[m]? = some (compOper P fl ops ops[m]) := by rw [compOps_get]; simp [hm2]
          have hci : (compOps P fl ops ops.toList)[i]? = some (compOper P fl ops o) := by
            rw [compOps_get]
            have : ops.toList[i]? = some o := by simpa using ho
            rw [this]; rfl
          have hbit := (hspec m i _ _ hcm hci (by omega)).2.2 (by omega) hmi
          have := before_spec hback (fun j => listed.getD j false = true) (fun j oj hj hoj e he hb => by
            refine (hl _).2 ?_
            have hjm := (hl j).1 hj
            unfold edgesBack at hback
            rw [List.all_eq_true] at hback
            have h1 := hback (oj, j) (by rw [List.mem_zipIdx_iff_getElem?]; simpa using hoj)
            rw [List.all_eq_true] at h1
            have h2 := h1 e (by simpa using he)
            have h3 : e.on < j := by simpa [hb] using h2
            omega) i o ho hpre m hbit
          exact absurd ((hl m).1 this) (by omega)
        · omega
      subst hie
      have hci : (compOps P fl ops ops.toList)[i]? = some (compOper P fl ops o) := by
        rw [compOps_get]
        have : ops.toList[i]? = some o := by simpa using ho
        rw [this]; rfl
      have hdrop : (compOps P fl ops ops.toList).drop i = compOper P fl ops o :: (compOps P fl ops ops.toList).drop (i + 1) := by
        rw [List.drop_eq_getElem_cons (by omega)]
        congr 1
        have : (compOps P fl ops ops.toList)[i]? = some ((compOps P fl ops ops.toList)[i]'(by omega)) := List.getElem?_eq_getElem (by omega)
        rw [hci] at this
        simpa using this.symm
      rw [hdrop] at h
      have hdo : dstOk B.N (compOper P fl ops o) = true := (List.all_eq_true.1 hd) _ (List.mem_of_getElem? hci)
      have := oper_out (Q := Q) (rd := rd) (nn := nn) (next := wpAnyIn (FnR rd) nn P .any ops Q fuel (listed.setIfInBounds i true)) hi (dstOk_spec hdo) h fun a' w' ρ' Z' H' s' hi' hk' =>
        ih (i + 1) _ w' ρ' Z' H' s' a' (by omega) (by omega) (by omega) (by simpa using hls) (fun j => by
          rw [setIf_getD _ _ _ (by omega)]
          simp only [Bool.or_eq_true, decide_eq_true_eq, hl]
          omega) hi' hk'
      unfold wpOpIn
      rw [ho]
      simp only
      split
      · rename_i hw; rw [if_pos hw] at this; exact this
      · rename_i hw; rw [if_neg hw] at this; exact ⟨fun _ _ => trivial, this⟩
structure Mid (B : Beg) (ops : Array Oper) (cs : List COp) (k : Nat) (s : Fr) (H0 H : AH) (idf : Nat → Nat) (es : List Ef) (S : List Nat) (listed : Array Bool) (w : World) (ρ : Loc) (Z : Nat → Prop) (HS : AH) (a : Act) : Prop where
  good : Good w.heap ρ Z HS
  ext : Ext B.w B.ρ B.Z B.O w ρ Z (Own ρ HS)
  size : a.tmps.size = B.N
  defers : Marks B w a.defers
  hsub : Sub H0 HS
  hs : ∀ id b, hget HS id = some b → (∃ i b0, i ∈ S ∧ es[i]? = some (Ef.st id b0 b)) ∨ ((hget H id = some b ∨ ∃ i x, i ∈ S ∧ es[i]? = some (Ef.nb x id b)) ∧ ∀ i b0 b1, i ∈ S → es[i]? ≠ some (Ef.st id b0 b1))
  hs2 : ∀ i x id b, i ∈ S → es[i]? = some (Ef.nb x id b) → (∀ i b0 b1, i ∈ S → es[i]? ≠ some (Ef.st id b0 b1)) → hget HS id = some b
  stf : ∀ i id b b', i ∈ S → es[i]? = some (Ef.st id b b') → hget H id = some b.1 ∨ ∃ j x, j ∈ S ∧ es[j]? = some (Ef.nb x id b.1)
  hs3 : ∀ i b0 id b, i ∈ S → es[i]? = some (Ef.st id b0 b) → hget HS id = some b
  hs4 : ∀ id b, hget H id = some b → (∀ i b0 b1, i ∈ S → es[i]? ≠ some (Ef.st id b0 b1)) → hget HS id = some b
  free : ∀ i, i ∉ S → ρ (idf i) = none
  slots : ∀ i o e t v, i ∈ S → cs[i]? = some o → es[i]? = some e → o.dst = some t → e.val = some v → Rl w.heap ρ Z v (a.tmps.getD t undef)
  base : ∀ t v, s t = some v → (∀ i o, i ∈ S → cs[i]? = some o → o.dst ≠ some t) → Rl w.heap ρ Z v (a.tmps.getD t undef)
  closed : ∀ j o, j ∈ S → ops[j]? = some o → ∀ e ∈ o.after, Region.binds .any e = true → e.on ∈ S
  below : ∀ i ∈ S, i < k
  nodup : S.Nodup
  lst : ∀ i, listed.getD i false = true ↔ i ∈ S
  lsz : listed.size = ops.size
def Chg (e : Ef) (HS HS' : AH) : Prop := ∀ id b, hget HS' id = some b ↔ (∃ x, e = .nb x id b) ∨ (∃ b0, e = .st id b0 b) ∨ (hget HS id = some b ∧ ∀ b0 b1, e ≠ .st id b0 b1)
theorem Mid.ext_step {ops : Array Oper} {cs : List COp} {k : Nat} {H0 H : AH} {idf : Nat → Nat} {es : List Ef} {S : List Nat} {listed : Array Bool} {HS HS' : AH} {w' : World} {ρ' : Loc} {Z' : Nat → Prop} {i : Nat} {o : Oper} {e : Ef} {x : Value}
    (m : Mid B ops cs k s H0 H idf es S listed w ρ Z HS a) (hcs : cs = compOps P fl ops ops.toList) (hd : cs.all (dstOk B.N) = true) (hspec : ∀ (i j : Nat) p o, cs[i]? = some p → cs[j]? = some o → i ≠ j → ∀ d, p.dst = some d → o.dst ≠ some d)
    (ho : ops[i]? = some o) (hik : i < k) (hiS : i ∉ S) (hes : es[i]? = some e) (hpre : ∀ ed ∈ o.after, Region.binds .any ed = true → listed.getD ed.on false = true)
    (g : Good w'.heap ρ' Z' HS') (ex : Ext w ρ Z (Own ρ HS) w' ρ' Z' (Own ρ' HS')) (hchg : Chg e HS HS')
    (hst : ∀ (i : Nat) id b b', es[i]? = some (.st id b b') → hget H0 id = none) (hstS : ∀ id b b', e = .st id b b' → hget H id = some b.1 ∨ ∃ j x, j ∈ S ∧ es[j]? = some (Ef.nb x id b.1)) (huni : ∀ (i j : Nat) id b b' c c', es[i]? = some (.st id b b') → es[j]? = some (.st id c c') → i = j)
    (hnb : ∀ (i : Nat) x id b, es[i]? = some (Ef.nb x id b) → id = idf i) (hid0 : ∀ j, hget H (idf j) = none) (hfree : ∀ j, j ≠ idf i → ρ' j = ρ j) (hinj : ∀ i j, idf i = idf j → i = j)
    (hv : ∀ v, e.val = some v → Rl w'.heap ρ' Z' v x) : Mid B ops cs k s H0 H idf es (i :: S) (listed.setIfInBounds i true) w' ρ' Z' HS' (a.put o.dst x) := by
  have hco : cs[i]? = some (compOper P fl ops o) := by
    rw [hcs, compOps_get]
    have : ops.toList[i]? = some o := by simpa using ho
    rw [this]; rfl
  have hdst : (compOper P fl ops o).dst = o.dst := compOper_dst ops o
  have hd' : ∀ d, o.dst = some d → d < a.tmps.size := by
    rw [m.size]
    exact dstOk_spec ((List.all_eq_true.1 hd) _ (List.mem_of_getElem? hco))
  have hlt := (Array.getElem?_eq_some_iff.1 ho).1
  have put_ne : ∀ t, o.dst ≠ some t → (a.put o.dst x).tmps.getD t undef = a.tmps.getD t undef := by
    intro t ht
    cases hdd : o.dst with
    | none => rfl
    | some d =>
      rw [getD_put (hd' d hdd), if_neg (fun q => ht (by rw [hdd, q]))]
  have put_eq : ∀ t, o.dst = some t → (a.put o.dst x).tmps.getD t undef = x := by
    intro t ht
    rw [ht, getD_put (hd' t ht), if_pos rfl]
  refine ⟨g, m.ext.trans ex, by rw [size_put]; exact m.size, by rw [defers_put]; exact m.defers.ext m.good ex, fun id b q => (hchg id b).2 (.inr (.inr ⟨m.hsub _ _ q, fun b0 b1 q2 => ?_⟩)), fun id b q => ?_, fun j y id b hj hy hno => ?_, fun j id b b' hj hy => ?_, fun j b0 id b hj hy => ?_, fun id b hb hno => ?_, fun j hj => ?_,
    fun j oj ej t v hj hoj hej hdt hval => ?_, fun t v hst hno => ?_, fun j oj hj hoj ed hed hb => ?_, fun j hj => ?_, ?_, fun j => ?_, by simpa using m.lsz⟩
  · rw [q2] at hes
    rw [hst i id b0 b1 hes] at q
    cases q
  · rcases (hchg id b).1 q with ⟨y, q⟩ | ⟨b0, q⟩ | ⟨q, q3⟩
    · refine .inr ⟨.inr ⟨i, y, List.mem_cons_self, by rw [hes, q]⟩, fun j b0 b1 hj q4 => ?_⟩
      rcases List.mem_cons.1 hj with rfl | hj
      · rw [hes, q] at q4; cases q4
      · have hi := hnb i y id b (by rw [hes, q])
        rcases m.stf j id b0 b1 hj q4 with q5 | ⟨l, z, hl, q5⟩
        · rw [hi, hid0] at q5; cases q5
        · have h2 := hnb l z id _ q5
          have := hinj _ _ (hi.symm.trans h2)
          exact hiS (by rw [this]; exact hl)
    · exact .inl ⟨i, b0, List.mem_cons_self, by rw [hes, q]⟩
    · rcases m.hs id b q with ⟨j, b0, q1, q2⟩ | ⟨q1, q2⟩
      · exact .inl ⟨j, b0, List.mem_cons_of_mem _ q1, q2⟩
      · refine .inr ⟨?_, fun j b0 b1 hj q4 => ?_⟩
        · rcases q1 with q1 | ⟨j, y, q1, q5⟩
          · exact .inl q1
          · exact .inr ⟨j, y, List.mem_cons_of_mem _ q1, q5⟩
        · rcases List.mem_cons.1 hj with rfl | hj
          · rw [hes] at q4
            simp only [Option.some.injEq] at q4
            exact q3 b0 b1 q4
          · exact q2 j b0 b1 hj q4
  · rcases List.mem_cons.1 hj with rfl | hj
    · rw [hes] at hy
      simp only [Option.some.injEq] at hy
      exact (hchg id b).2 (.inl ⟨y, hy⟩)
    · refine (hchg id b).2 (.inr (.inr ⟨m.hs2 j y id b hj hy (fun l b0 b1 hl => hno l b0 b1 (List.mem_cons_of_mem _ hl)), fun b0 b1 q => ?_⟩))
      exact hno i b0 b1 List.mem_cons_self (by rw [hes, q])
  · have up : (hget H id = some b.1 ∨ ∃ l x, l ∈ S ∧ es[l]? = some (Ef.nb x id b.1)) → hget H id = some b.1 ∨ ∃ l x, l ∈ i :: S ∧ es[l]? = some (Ef.nb x id b.1) := by
      rintro (q | ⟨l, z, q1, q2⟩)
      · exact .inl q
      · exact .inr ⟨l, z, List.mem_cons_of_mem _ q1, q2⟩
    rcases List.mem_cons.1 hj with rfl | hj
    · rw [hes] at hy
      simp only [Option.some.injEq] at hy
      exact up (hstS id b b' hy)
    · exact up (m.stf j id b b' hj hy)
  · rcases List.mem_cons.1 hj with rfl | hj
    · rw [hes] at hy
      simp only [Option.some.injEq] at hy
      exact (hchg id b).2 (.inr (.inl ⟨b0, hy⟩))
    · refine (hchg id b).2 (.inr (.inr ⟨m.hs3 j b0 id b hj hy, fun c0 c1 q => ?_⟩))
      rw [q] at hes
      have := huni i j id _ _ _ _ hes hy
      exact hiS (by rw [this]; exact hj)
  · refine (hchg id b).2 (.inr (.inr ⟨m.hs4 id b hb fun j b0 b1 hj => hno j b0 b1 (List.mem_cons_of_mem _ hj), fun b0 b1 q => ?_⟩))
    exact hno i b0 b1 List.mem_cons_self (by rw [hes, q])
  · rw [hfree _ (fun q => by have := hinj _ _ q; exact hj (by rw [this]; exact List.mem_cons_self))]
    exact m.free j fun q => hj (List.mem_cons_of_mem _ q)
  · rcases List.mem_cons.1 hj with rfl | hj
    · rw [hes] at hej
      simp only [Option.some.injEq] at hej
      subst hej
      rw [hco] at hoj
      simp only [Option.some.injEq] at hoj
      subst hoj
      rw [hdst] at hdt
      rw [put_eq t hdt]
      exact hv v hval
    · have hne : j ≠ i := fun q => hiS (by rw [← q]; exact hj)
      have hnt : o.dst ≠ some t := by
        rw [← hdst]
        exact hspec j i _ _ hoj hco hne t hdt
      rw [put_ne t hnt]
      exact (m.slots j oj ej t v hj hoj hej hdt hval).ext ex m.good.notZ m.good.zlt
  · have hnt : o.dst ≠ some t := by
      have := hno i _ List.mem_cons_self hco
      rwa [hdst] at this
    rw [put_ne t hnt]
    exact (m.base t v hst fun j oj hj hoj => hno j oj (List.mem_cons_of_mem _ hj) hoj).ext ex m.good.notZ m.good.zlt
  · rcases List.mem_cons.1 hj with rfl | hj
    · rw [ho] at hoj
      simp only [Option.some.injEq] at hoj
      subst hoj
      exact List.mem_cons_of_mem _ ((m.lst _).1 (hpre ed hed hb))
    · exact List.mem_cons_of_mem _ (m.closed j oj hj hoj ed hed hb)
  · rcases List.mem_cons.1 hj with rfl | hj
    · exact hik
    · exact m.below j hj
  · exact List.nodup_cons.2 ⟨hiS, m.nodup⟩
  · rw [setIf_getD _ _ _ (by rw [m.lsz]; exact hlt)]
    simp only [Bool.or_eq_true, decide_eq_true_eq, m.lst, List.mem_cons]
end
end Go.Proofs.YtjaigpidmngaaaaGreat

namespace Go.Proofs.YtjaigpidmngaaaaGreat
theorem least_out (S : List Nat) : ∀ i, i ∉ S → ∃ j, j ≤ i ∧ j ∉ S ∧ ∀ l, l < j → l ∈ S := by
  intro i
  induction i using Nat.strongRecOn with
  | _ i ih =>
    intro hi
    by_cases h : ∀ l, l < i → l ∈ S
    · exact ⟨i, Nat.le_refl _, hi, h⟩
    · have : ∃ l, l < i ∧ l ∉ S := Classical.byContradiction fun q => h fun l hl => Classical.byContradiction fun q2 => q ⟨l, hl, q2⟩
      obtain ⟨l, hl, hs⟩ := this
      obtain ⟨j, h1, h2, h3⟩ := ih l hl hs
      exact ⟨j, by omega, h2, h3⟩
section
variable {rd : Option Nat} {nn : Nat} {P : Program} {w : World} {ρ : Loc} {Z : Nat → Prop} {H : AH} {s : Fr} {a : Act} {B : Beg} {fl : List Nat}
theorem take_get {α : Type} {l : List α} {k i : Nat} (h : i < k) : (l.take k)[i]? = l[i]? := by rw [List.getElem?_take, if_pos h]
theorem early_any {ops : Array Oper} {k : Nat} {K : Fr → AH → Prop} {Q : Exit → Act → World → Prop} {H0 D H : AH} {idf : Nat → Nat} {es : List Ef} (hinj : ∀ i j, idf i = idf j → i = j) (hkn : k ≤ ops.size)
    (hok : drawOk ops (compOps P fl ops ops.toList) k = true) (hd : (compOps P fl ops ops.toList).all (dstOk B.N) = true) (hQ : ∀ a' w' ρ' Z' H' s', Inv B w' ρ' Z' H' s' a' → K s' H' → Q .normal a' w')
    (hel : es.length = k) (hid0 : ∀ j, hget H (idf j) = none) (hH0 : Sub H0 H) (hDH : Sub D H) (hdis : ∀ id b, hget D id = some b → hget H0 id = none)
    (hst0 : ∀ (i : Nat) id b b', es[i]? = some (.st id b b') → hget D id = some b.1 ∨ ∃ (j : Nat) (x : AV), j < i ∧ es[j]? = some (.nb x id b.1)) (huni : ∀ (i j : Nat) id b b' c c', es[i]? = some (.st id b b') → es[j]? = some (.st id c c') → i = j)
    (hef : ∀ (i : Nat) o e, ((compOps P fl ops ops.toList).take k)[i]? = some o → es[i]? = some e → EfOk P H0 D idf (0 + i) o (frAt s (((compOps P fl ops ops.toList).take k).take i) (es.take i)) e)
    (hfin : wpOps P ((compOps P fl ops ops.toList).drop k) K (frAt s ((compOps P fl ops ops.toList).take k) es) (hpAt H es)) :
    ∀ (fuel : Nat) (S : List Nat) (listed : Array Bool) (w : World) (ρ : Loc) (Z : Nat → Prop) (HS : AH) (a : Act), fuel + S.length = ops.size →
      Mid B ops (compOps P fl ops ops.toList) k s H0 H idf es S listed w ρ Z HS a → wpAnyIn (FnR rd) nn P .any ops Q fuel listed a w := by
  obtain ⟨hback, hspec⟩ := drawOk_spec hok
  have hlen : (compOps P fl ops ops.toList).length = ops.size := by rw [compOps_len]; simp
  have getc : ∀ i o, ops[i]? = some o → (compOps P fl ops ops.toList)[i]? = some (compOper P fl ops o) := fun i o ho => by
    rw [compOps_get]
    have : ops.toList[i]? = some o := by simpa using ho
    rw [this]; rfl
  have hnb0 : ∀ (i : Nat) x id b, es[i]? = some (Ef.nb x id b) → id = idf (0 + i) := by
    intro i x id b hi
    have hlt : i < k := by rw [← hel]; exact (List.getElem?_eq_some_iff.1 hi).1
    have hc : ((compOps P fl ops ops.toList).take k)[i]? = some ((compOps P fl ops ops.toList)[i]'(by omega)) := by rw [take_get hlt]; exact List.getElem?_eq_getElem (by omega)
    exact (hef i _ _ hc hi).nb
  have hnb : ∀ (i : Nat) x id b, es[i]? = some (Ef.nb x id b) → id = idf i := fun i x id b q => by have := hnb0 i x id b q; rwa [Nat.zero_add] at this
  have hst : ∀ (i : Nat) id b b', es[i]? = some (.st id b b') → hget H0 id = none := fun i id b b' q => by
    rcases hst0 i id b b' q with q | ⟨j, x, _, q⟩
    · exact hdis _ _ q
    · rw [hnb j x id _ q]
      cases q2 : hget H0 (idf j) with
      | none => rfl
      | some b2 => have := hH0 _ _ q2; rw [hid0] at this; cases this
  have hone : Once es := by
    refine List.pairwise_iff_getElem.2 fun i j hi hj hij id b b' c c' q1 q2 => ?_
    have := huni i j id b b' c c' (by rw [← q1]; exact List.getElem?_eq_getElem hi) (by rw [← q2]; exact List.getElem?_eq_getElem hj)
    omega
  have edge_lt : ∀ j o, ops[j]? = some o → ∀ e ∈ o.after, Region.binds .any e = true → e.on < j := by
    intro j o hj e he hb
    unfold edgesBack at hback
    rw [List.all_eq_true] at hback
    have h1 := hback (o, j) (by rw [List.mem_zipIdx_iff_getElem?]; simpa using hj)
    rw [List.all_eq_true] at h1
    have h2 := h1 e (by simpa using he)
    simpa [hb] using h2
  have switch : ∀ (fuel : Nat) (S : List Nat) (listed : Array Bool) (w : World) (ρ : Loc) (Z : Nat → Prop) (HS : AH) (a : Act), fuel + S.length = ops.size → (∀ i, i < k → i ∈ S) →
      Mid B ops (compOps P fl ops ops.toList) k s H0 H idf es S listed w ρ Z HS a → wpAnyIn (FnR rd) nn P .any ops Q fuel listed a w := by
    intro fuel S listed w ρ Z HS a hf hall m
    have hS := nodup_len k S m.nodup m.below
    have hiff : ∀ id b, hget HS id = some b ↔ hget (hpAt H es) id = some b := by
      intro id b
      have inS : ∀ (i : Nat) e, es[i]? = some e → i ∈ S := fun i e q => hall i (by rw [← hel]; exact (List.getElem?_eq_some_iff.1 q).1)
      rw [hpAt_get hinj es 0 H hnb0 (fun j _ => hid0 j) (fun i id b b' q => by
        rcases hst0 i id b b' q with q | ⟨j, x, q1, q⟩
        · exact .inl ⟨b.1, hDH _ _ q⟩
        · exact .inr ⟨j, x, b.1, q1, q⟩) hone]
      constructor
      · intro q
        rcases m.hs id b q with ⟨i, b0, _, q⟩ | ⟨q, q2⟩
        · exact .inl ⟨b0, List.mem_of_getElem? q⟩
        · refine .inr ⟨?_, fun b0 b1 q3 => ?_⟩
          · rcases q with q | ⟨i, x, _, q⟩
            · exact .inl q
            · exact .inr ⟨x, List.mem_of_getElem? q⟩
          · obtain ⟨i, hi⟩ := List.mem_iff_getElem?.1 q3
            exact q2 i b0 b1 (inS i _ hi) hi
      · rintro (⟨b0, q⟩ | ⟨q, q2⟩)
        · obtain ⟨i, hi⟩ := List.mem_iff_getElem?.1 q
          exact m.hs3 i b0 id b (inS i _ hi) hi
        · rcases q with q | ⟨x, q⟩
          · exact m.hs4 id b q fun i b0 b1 _ q3 => q2 b0 b1 (List.mem_of_getElem? q3)
          · obtain ⟨i, hi⟩ := List.mem_iff_getElem?.1 q
            exact m.hs2 i x id b (inS i _ hi) hi fun i b0 b1 _ q3 => q2 b0 b1 (List.mem_of_getElem? q3)
    refine late_any hok hd hQ fuel k listed w ρ Z (hpAt H es) (frAt s ((compOps P fl ops ops.toList).take k) es) a (Nat.le_refl _) hkn (by omega) m.lsz (fun i => ⟨fun h => m.below i ((m.lst i).1 h), fun h => (m.lst i).2 (hall i h)⟩) ?_ hfin
    refine ⟨m.good.congr hiff, fun t v hv => ?_, by rw [Own.congr hiff]; exact m.ext, m.size, m.defers⟩
    by_cases hw : ∃ (j : Nat) (oj : COp), ((compOps P fl ops ops.toList).take k)[j]? = some oj ∧ oj.dst = some t
    · obtain ⟨j, oj, hj, hdt⟩ := hw
      have hjk : j < k := by
        have := (List.getElem?_eq_some_iff.1 hj).1
        simp at this
        omega
      rw [take_get hjk] at hj
      have hej : es[j]? = some (es[j]'(by omega)) := List.getElem?_eq_getElem (by omega)
      rw [frAt_some t _ es s j oj _ (by rw [take_get hjk]; exact hj) hej hdt (fun j' o' q hne q2 => by
        have hj'k : j' < k := by
          have := (List.getElem?_eq_some_iff.1 q).1
          simp at this
          omega
        rw [take_get hj'k] at q
        exact (hspec j' j o' oj q hj hne).1 t q2 hdt)] at hv
      exact m.slots j oj _ t v (hall j hjk) hj hej hdt hv
    · rw [frAt_none t _ es s (fun j oj hj hdt => hw ⟨j, oj, hj, hdt⟩)] at hv
      refine m.base t v hv fun i oi hi hoi hdt => hw ⟨i, oi, ?_, hdt⟩
      rw [take_get (m.below i hi)]
      exact hoi
  intro fuel
  induction fuel with
  | zero =>
    intro S listed w ρ Z HS a hf m
    by_cases hall : ∀ i, i < k → i ∈ S
    · exact switch 0 S listed w ρ Z HS a hf hall m
    · exfalso
      have : ∃ i, i < k ∧ i ∉ S := Classical.byContradiction fun q => hall fun i hi => Classical.byContradiction fun q2 => q ⟨i, hi, q2⟩
      obtain ⟨i, hi, his⟩ := this
      have := nodup_len k (i :: S) (List.nodup_cons.2 ⟨his, m.nodup⟩) (fun x hx => by
        rcases List.mem_cons.1 hx with rfl | hx
        · exact hi
        · exact m.below x hx)
      simp at this
      omega
  | succ fuel ih =>
    intro S listed w ρ Z HS a hf m
    by_cases hall : ∀ i, i < k → i ∈ S
    · exact switch (fuel + 1) S listed w ρ Z HS a hf hall m
    have hex : ∃ i, i < k ∧ i ∉ S := Classical.byContradiction fun q => hall fun i hi => Classical.byContradiction fun q2 => q ⟨i, hi, q2⟩
    obtain ⟨i0, hi0, hi0S⟩ := hex
    have inS : ∀ j o, ops[j]? = some o → (∀ e ∈ o.after, Region.binds .any e = true → e.on ∈ S) → ∀ i, bitOf (Region.before ops) j i = true → i ∈ S :=
      before_spec hback (fun i => i ∈ S) (fun j o hj ho e he hb => m.closed j o hj ho e he hb)
    refine ⟨fun hr => ?_, fun i hir => ?_⟩
    · exfalso
      obtain ⟨j, hj, hjS, hmin⟩ := least_out S i0 hi0S
      have hjn : j < ops.size := by omega
      have : j ∈ Region.ready .any ops listed := by
        rw [mem_ready]
        refine ⟨by rw [getD_tf (by rw [m.lsz]; exact hjn)]; cases hh : listed.getD j false with | false => rfl | true => exact absurd ((m.lst j).1 hh) hjS, ops[j], Array.getElem?_eq_getElem hjn, fun e he hb => (m.lst _).2 (hmin _ ?_)⟩
        exact edge_lt j _ (Array.getElem?_eq_getElem hjn) e he hb
      rw [hr] at this
      cases this
    · obtain ⟨h1, o, ho, hpre⟩ := mem_ready.1 hir
      have hlt := (Array.getElem?_eq_some_iff.1 ho).1
      rw [getD_tf (by rw [m.lsz]; exact hlt)] at h1
      have hiS : i ∉ S := fun q => by rw [(m.lst i).2 q] at h1; cases h1
      have hpreS : ∀ e ∈ o.after, Region.binds .any e = true → e.on ∈ S := fun e he hb => (m.lst _).1 (hpre e he hb)
      have hci := getc i o ho
      have hik : i < k := by
        rcases Nat.lt_or_ge i k with h | h
        · exact h
        · exfalso
          have hc0 := getc i0 _ (Array.getElem?_eq_getElem (show i0 < ops.size by omega))
          exact hi0S (inS i o ho hpreS i0 ((hspec i0 i _ _ hc0 hci (by omega)).2.2 h (by omega)))
      have hei : es[i]? = some (es[i]'(by omega)) := List.getElem?_eq_getElem (by omega)
      generalize es[i]'(by omega) = e at hei
      have hfact := hef i _ e (by rw [take_get hik]; exact hci) hei
      rw [Nat.zero_add] at hfact
      generalize hsi : frAt s (((compOps P fl ops ops.toList).take k).take i) (es.take i) = si at hfact
      have look : ∀ t, t ∈ (compOper P fl ops o).looks → ∀ v, si t = some v → Rl w.heap ρ Z v (a.tmps.getD t undef) := by
        intro t ht v hv
        rw [← hsi] at hv
        have take2 : ∀ (j : Nat) (oj : COp), (((compOps P fl ops ops.toList).take k).take i)[j]? = some oj → j < i ∧ (compOps P fl ops ops.toList)[j]? = some oj := by
          intro j oj hj
          have hji : j < i := by
            have := (List.getElem?_eq_some_iff.1 hj).1
            simp at this
            omega
          rw [take_get hji, take_get (by omega)] at hj
          exact ⟨hji, hj⟩
        by_cases hw : ∃ (j : Nat) (oj : COp), (compOps P fl ops ops.toList)[j]? = some oj ∧ oj.dst = some t
        · obtain ⟨j, oj, hj, hdt⟩ := hw
          have uniq : ∀ (j' : Nat) o', (compOps P fl ops ops.toList)[j']? = some o' → j' ≠ j → o'.dst ≠ some t := fun j' o' q hne q2 => (hspec j' j o' oj q hj hne).1 t q2 hdt
          have hjn : j < ops.size := by rw [← hlen]; exact (List.getElem?_eq_some_iff.1 hj).1
          rcases Nat.lt_trichotomy j i with hlt2 | heq | hgt
          · have hbit := (hspec j i oj _ hj hci (by omega)).2.1 t hdt ht
            rw [if_pos hlt2] at hbit
            have hjS := inS i o ho hpreS j hbit
            have hej : es[j]? = some (es[j]'(by omega)) := List.getElem?_eq_getElem (by omega)
            rw [frAt_some t _ (es.take i) s j oj _ (by rw [take_get hlt2, take_get (by omega)]; exact hj) (by rw [take_get hlt2]; exact hej) hdt (fun j' o' q hne => uniq j' o' (take2 j' o' q).2 hne)] at hv
            exact m.slots j oj _ t v hjS hj hej hdt hv
          · subst heq
            rw [frAt_none t _ _ s (fun j' o' q q2 => by
              obtain ⟨q3, q4⟩ := take2 j' o' q
              exact uniq j' o' q4 (by omega) q2)] at hv
            refine m.base t v hv fun j' o' hj' q => uniq j' o' q (fun q2 => hiS (by rw [← q2]; exact hj'))
          · have hbit := (hspec j i oj _ hj hci (by omega)).2.1 t hdt ht
            rw [if_neg (by omega)] at hbit
            have hjS : j ∉ S := by
              intro q
              have hoj : ops[j]? = some ops[j] := Array.getElem?_eq_getElem hjn
              exact hiS (inS j _ hoj (fun e he hb => m.closed j _ q hoj e he hb) i hbit)
            rw [frAt_none t _ _ s (fun j' o' q q2 => by
              obtain ⟨q3, q4⟩ := take2 j' o' q
              exact uniq j' o' q4 (by omega) q2)] at hv
            refine m.base t v hv fun j' o' hj' q => uniq j' o' q (fun q2 => hjS (by rw [← q2]; exact hj'))
        · rw [frAt_none t _ _ s (fun j' o' q q2 => hw ⟨j', o', (take2 j' o' q).2, q2⟩)] at hv
          exact m.base t v hv fun j' o' _ q q2 => hw ⟨j', o', q, q2⟩
      obtain ⟨sr, hsr⟩ : ∃ sr : Fr, sr = fun t => if t ∈ (compOper P fl ops o).looks then si t else none := ⟨_, rfl⟩
      have hFR : FR w.heap ρ Z sr a := by
        intro t v hv
        rw [hsr] at hv
        simp only at hv
        split at hv
        · rename_i hin; exact look t hin v hv
        · cases hv
      have srl : ∀ t, t ∈ (compOper P fl ops o).looks → sr t = si t := by
        intro t ht
        rw [hsr]
        simp only [if_pos ht]
      have hev : evalOp sr H0 (compOper P fl ops o).co = evalOp si H0 (compOper P fl ops o).co := evalOp_congr fun t ht => srl t (by simp [COp.looks, ht])
      have hspec' : ∀ (i j : Nat) p o', (compOps P fl ops ops.toList)[i]? = some p → (compOps P fl ops ops.toList)[j]? = some o' → i ≠ j → ∀ d, p.dst = some d → o'.dst ≠ some d := fun i j p o' q1 q2 q3 => (hspec i j p o' q1 q2 q3).1
      have goS : ∀ (x : Value) (w' : World) (ρ' : Loc) (Z' : Nat → Prop) (HS' : AH), Good w'.heap ρ' Z' HS' → Ext w ρ Z (Own ρ HS) w' ρ' Z' (Own ρ' HS') → Chg e HS HS' → (∀ id b b', e = .st id b b' → hget H id = some b.1 ∨ ∃ j x, j ∈ S ∧ es[j]? = some (Ef.nb x id b.1)) → (∀ j, j ≠ idf i → ρ' j = ρ j) → (∀ v, e.val = some v → Rl w'.heap ρ' Z' v x) →
          wpAnyIn (FnR rd) nn P .any ops Q fuel (listed.setIfInBounds i true) (a.put o.dst x) w' :=
        fun x w' ρ' Z' HS' q1 q2 q3 qs q6 q7 => ih (i :: S) _ w' ρ' Z' HS' _ (by simp; omega) (m.ext_step rfl hd hspec' ho hik hiS hei hpre q1 q2 q3 hst qs huni hnb hid0 q6 hinj q7)
      have chg0 : (∀ x id b, e ≠ .nb x id b) → (∀ id b b', e ≠ .st id b b') → Chg e HS HS := fun n1 n2 id b => ⟨fun q => .inr (.inr ⟨q, n2 id⟩), fun q => by
        rcases q with ⟨x, q⟩ | ⟨b0, q⟩ | ⟨q, _⟩
        · exact (n1 x id b q).elim
        · exact (n2 id b0 b q).elim
        · exact q⟩
      unfold wpOpIn
      rw [ho]
      simp only
      cases hgd : guardOf ops o.guard with
      | none =>
        exfalso
        have hco : compOper P fl ops o = { dst := o.dst, guard := none, co := .bad } := by unfold compOper; rw [hgd]
        rw [hco] at hfact
        rcases hfact with ⟨g, want, h, _⟩ | ⟨_, ⟨v, h, _⟩ | ⟨T, blk, vf, h, _⟩ | ⟨f, args, r, h, _⟩ | ⟨id, b, H', b', _, h, _⟩ | ⟨f, args, id, b, r, b', h, _⟩ | ⟨id, b, H', b', t, n, i', j', _, _, h, _⟩⟩
        · cases h
        all_goals simp [evalOp] at h
      | some gd =>
        have hco := compOper_guard (P := P) (fl := fl) hgd
        rw [hco] at hfact hev
        have hlk : ∀ g want, gd = some (g, want) → sr g = si g := by
          intro g want hg
          exact srl g (by rw [hco, hg]; simp [COp.looks])
        have run : Region.wanted o (yielded ops a.tmps) = true → ((∃ v, evalOp si H0 (compOp P (litOf fl o.dst) o.op) = some (.val v) ∧ e = .v v) ∨ (∃ T blk vf, evalOp si H0 (compOp P (litOf fl o.dst) o.op) = some (.fresh T blk vf H0) ∧ tag (idf i) = T ∧ e = .nb (vf (idf i)) (idf i) blk) ∨
            (∃ f args r, evalOp si H0 (compOp P (litOf fl o.dst) o.op) = some (.call f args) ∧ callP P f args H0 r ∧ e = .v r) ∨
            (∃ id b H' b', hget D id = some b ∧ evalOp si [(id, b)] (compOp P (litOf fl o.dst) o.op) = some (.upd H') ∧ hget H' id = some b' ∧ e = .st id (b, none) b') ∨
            (∃ f args id b r b', evalOp si H0 (compOp P (litOf fl o.dst) o.op) = some (.call f args) ∧ hget D id = some b ∧ callW P f args H0 id b r b' ∧ e = .st id (b, some r) b') ∨
            ∃ id b H' b' t n i' j', si t = some (.ptr id n i' j') ∧ t ∈ ({ dst := o.dst, guard := gd, co := compOp P (litOf fl o.dst) o.op } : COp).looks ∧ evalOp si [(id, b)] (compOp P (litOf fl o.dst) o.op) = some (.upd H') ∧ hget H' id = some b' ∧ e = .st id (b, none) b') → o.wpIn (FnR rd) nn P a w (wpAnyIn (FnR rd) nn P .any ops Q fuel (listed.setIfInBounds i true)) Q := by
          intro _ hk
          have g0 := m.good.forget m.hsub
          have stored : ∀ (id : Nat) (b : Blk) (H' : AH) (b' : Blk), hget HS id = some b → (∀ id b b', e = .st id b b' → hget H id = some b.1 ∨ ∃ j x, j ∈ S ∧ es[j]? = some (Ef.nb x id b.1)) → evalOp si [(id, b)] (compOp P (litOf fl o.dst) o.op) = some (.upd H') → hget H' id = some b' → e = .st id (b, none) b' → o.wpIn (FnR rd) nn P a w (wpAnyIn (FnR rd) nn P .any ops Q fuel (listed.setIfInBounds i true)) Q := by
            intro id b H' b' hHS qst h hb' he
            refine ⟨fun _ _ => trivial, ?_⟩
            rw [Oper.semAt_eq _ _ _ (not_defer h)]
            have s1 : Sub [(id, b)] HS := fun j c q => by
              simp only [hget] at q
              split at q
              · rename_i e1; subst e1; rw [← q]; exact hHS
              · cases q
            have g1 := m.good.forget s1
            have hev1 : evalOp sr [(id, b)] (compOp P (litOf fl o.dst) o.op) = evalOp si [(id, b)] (compOp P (litOf fl o.dst) o.op) := evalOp_congr fun t ht => srl t (by rw [hco]; simp [COp.looks, ht])
            rw [← hev1] at h
            obtain ⟨w', hr, g', ex⟩ := op_out g1 hFR h
            obtain ⟨q1, q2⟩ := m.good.frame s1 ex g' (HS' := hset HS id b') fun j c q => by
              rw [hget_hset] at q
              split at q
              · rename_i e1
                rw [hHS] at q
                left
                rw [e1, ← q]
                exact hb'
              · rename_i e1
                right
                refine ⟨q, ?_⟩
                simp only [hget]
                rw [if_neg e1]
            rw [hr, Oper.uponIn_skip]
            refine goS undef w' ρ Z (hset HS id b') q1 q2 (fun j c => ?_) qst (fun _ _ => rfl) (fun u q => by rw [he] at q; cases q)
            rw [he]
            constructor
            · intro q
              rw [hget_hset] at q
              split at q
              · rename_i e1
                subst e1
                rw [hHS] at q
                simp only [Option.map_some, Option.some.injEq] at q
                subst q
                exact .inr (.inl ⟨(b, none), rfl⟩)
              · rename_i e1
                exact .inr (.inr ⟨q, fun b0 b1 q3 => by cases q3; exact e1 rfl⟩)
            · rintro (⟨x, q⟩ | ⟨b0, q⟩ | ⟨q, q3⟩)
              · cases q
              · cases q; rw [hget_hset, if_pos rfl, hHS]; rfl
              · rw [hget_hset, if_neg (fun e1 => q3 (b, none) b' (by rw [e1]))]; exact q
          rcases hk with ⟨v, h, he⟩ | ⟨T, blk, vf, h, htg, he⟩ | ⟨f, args, r, h, hc, he⟩ | ⟨id, b, H', b', hb, h, hb', he⟩ | ⟨f, args, id, b, r, b', h, hb, hc, he⟩ | ⟨id, b, H', b', t, n, i', j', ht, hlo, h, hb', he⟩
          · rw [← hev] at h
            obtain ⟨x, w', Z', hr, g', hv, ex⟩ := op_out g0 hFR h
            obtain ⟨q1, q2⟩ := m.good.frame m.hsub ex g' (HS' := HS) fun id b q => by
              cases hh : hget H0 id with
              | none => exact .inr ⟨q, rfl⟩
              | some b' => have := m.hsub _ _ hh; rw [q] at this; exact .inl this.symm
            refine ⟨fun _ _ => trivial, ?_⟩
            rw [Oper.semAt_eq _ _ _ (not_defer h), hr, Oper.uponIn_value]
            exact goS x w' ρ Z' HS q1 q2 (chg0 (fun x id b q => by rw [he] at q; cases q) (fun id b b' q => by rw [he] at q; cases q)) (fun id b b' q => by rw [he] at q; cases q) (fun _ _ => rfl) (fun u q => by rw [he] at q; simp only [Ef.val, Option.some.injEq] at q; rw [← q]; exact hv)
          · rw [← hev] at h
            obtain ⟨x, w', ρ', hr, hrho, g', hv, ex⟩ := op_out g0 hFR h (idf i) (m.free i hiS) htg
            have hfr : hget HS (idf i) = none := by
              cases hh : hget HS (idf i) with
              | none => rfl
              | some b => obtain ⟨p, q, r, _⟩ := m.good.blk _ b hh; rw [m.free i hiS] at r; cases r
            obtain ⟨q1, q2⟩ := m.good.frame m.hsub ex g' (HS' := (idf i, blk) :: HS) fun id b q => by
              simp only [hget] at q ⊢
              split at q
              · rename_i e1; left; rw [if_pos e1]; exact q
              · rename_i e1
                rw [if_neg e1]
                cases hh : hget H0 id with
                | none => exact .inr ⟨q, rfl⟩
                | some b' => have := m.hsub _ _ hh; rw [q] at this; exact .inl this.symm
            refine ⟨fun _ _ => trivial, ?_⟩
            rw [Oper.semAt_eq _ _ _ (not_defer h), hr, Oper.uponIn_value]
            refine goS x w' ρ' Z ((idf i, blk) :: HS) q1 q2 (fun id b => ?_) (fun id b b' q => by rw [he] at q; cases q) hrho (fun u q => ?_)
            · rw [he]
              simp only [Ef.nb.injEq, reduceCtorEq, hget, exists_false, false_or]
              constructor
              · intro q
                split at q
                · rename_i e1
                  simp only [Option.some.injEq] at q
                  exact .inl ⟨_, rfl, e1.symm, q⟩
                · exact .inr ⟨q, fun _ _ q => by cases q⟩
              · rintro (⟨_, _, rfl, rfl⟩ | ⟨q, _⟩)
                · rw [if_pos rfl]
                · rw [if_neg (fun e1 => by rw [e1, hfr] at q; cases q)]
                  exact q
            · rw [he] at q
              simp only [Ef.val, Option.some.injEq] at q
              rw [← q]
              exact hv
          · rw [← hev] at h
            have hcl : callable P f = true := by
              rcases hc with ⟨_, hc⟩ | ⟨_, _, _, _, _, hc⟩
              · exact hc.1
              · exact hc.1
            obtain ⟨xs, hr, hl⟩ := op_out g0 hFR h hcl
            refine ⟨fun _ _ => trivial, ?_⟩
            rw [Oper.semAt_eq _ _ _ (not_defer h), hr, Oper.uponIn_enter]
            refine ⟨fun q => (by cases q), callsIn_ff ((callP_calls hc m.good m.hsub hl).mono fun en w' ⟨x, Z', q1, g', hv, ex⟩ => ?_)⟩
            subst q1
            exact goS x w' ρ Z' HS g' ex (chg0 (fun x id b q => by rw [he] at q; cases q) (fun id b b' q => by rw [he] at q; cases q)) (fun id b b' q => by rw [he] at q; cases q) (fun _ _ => rfl) (fun u q => by rw [he] at q; simp only [Ef.val, Option.some.injEq] at q; rw [← q]; exact hv)
          · have hHS : hget HS id = some b := m.hs4 id b (hDH _ _ hb) fun j b0 b1 hj q => by
              have := huni i j id _ _ _ _ (by rw [hei, he]) q
              exact hiS (by rw [this]; exact hj)
            exact stored id b H' b' hHS (fun id2 b2 b2' q => by rw [he] at q; cases q; exact .inl (hDH _ _ hb)) h hb' he
          · have hHS : hget HS id = some b := m.hs4 id b (hDH _ _ hb) fun j b0 b1 hj q => by
              have := huni i j id _ _ _ _ (by rw [hei, he]) q
              exact hiS (by rw [this]; exact hj)
            rw [← hev] at h
            have hcl : callable P f = true := by
              obtain ⟨_, _, _, _, hc⟩ := hc
              exact hc.1
            obtain ⟨xs, hr, hl⟩ := op_out g0 hFR h hcl
            refine ⟨fun _ _ => trivial, ?_⟩
            rw [Oper.semAt_eq _ _ _ (not_defer h), hr, Oper.uponIn_enter]
            refine ⟨fun q => (by cases q), callsIn_ff ((callW_calls hc m.good m.hsub hHS (hdis _ _ hb) hl).mono fun en w' ⟨x, Z', q1, g', hv, ex⟩ => ?_)⟩
            subst q1
            refine goS x w' ρ Z' (hset HS id b') g' ex (fun j c => ?_) (fun id2 b2 b2' q => by rw [he] at q; cases q; exact .inl (hDH _ _ hb)) (fun _ _ => rfl) (fun u q => by rw [he] at q; simp only [Ef.val, Option.some.injEq] at q; rw [← q]; exact hv)
            rw [he]
            constructor
            · intro q
              rw [hget_hset] at q
              split at q
              · rename_i e1
                subst e1
                rw [hHS] at q
                simp only [Option.map_some, Option.some.injEq] at q
                subst q
                exact .inr (.inl ⟨(b, some r), rfl⟩)
              · rename_i e1
                exact .inr (.inr ⟨q, fun b0 b1 q3 => by cases q3; exact e1 rfl⟩)
            · rintro (⟨x, q⟩ | ⟨b0, q⟩ | ⟨q, q3⟩)
              · cases q
              · cases q; rw [hget_hset, if_pos rfl, hHS]; rfl
              · rw [hget_hset, if_neg (fun e1 => q3 (b, some r) b' (by rw [e1]))]; exact q
          · have hsr0 : si t = some (.ptr id n i' j') := ht
            have hrho := look t (by rw [hco]; exact hlo) _ hsr0
            have hjS : ∀ j, id = idf j → j ∈ S := fun j q => Classical.byContradiction fun q2 => by
              have := m.free j q2
              rw [← q] at this
              generalize a.tmps.getD t undef = y at hrho
              cases hrho with
              | ptr _ _ _ _ b0 o0 q3 => rw [this] at q3; cases q3
            rcases hst0 i id (b, none) b' (by rw [hei, he]) with hb | ⟨j, x, hji, hj⟩
            · have hHS : hget HS id = some b := m.hs4 id b (hDH _ _ hb) fun j b0 b1 hj q => by
                have := huni i j id _ _ _ _ (by rw [hei, he]) q
                exact hiS (by rw [this]; exact hj)
              exact stored id b H' b' hHS (fun id2 b2 b2' q => by rw [he] at q; cases q; exact .inl (hDH _ _ hb)) h hb' he
            · have hjS := hjS j (hnb j x id _ hj)
              have hHS : hget HS id = some b := m.hs2 j x id b hjS hj fun l b0 b1 hl q => by
                have := huni i l id _ _ _ _ (by rw [hei, he]) q
                exact hiS (by rw [this]; exact hl)
              exact stored id b H' b' hHS (fun id2 b2 b2' q => by rw [he] at q; cases q; exact .inr ⟨j, x, hjS, hj⟩) h hb' he
        cases gd with
        | none =>
          have hgn := guardOf_none hgd
          have hw : Region.wanted o (yielded ops a.tmps) = true := by simp [Region.wanted, hgn]
          rw [if_pos hw]
          rcases hfact with ⟨g, want, h, _⟩ | ⟨_, h⟩
          · cases h
          · exact run hw h
        | some p =>
          obtain ⟨d, want⟩ := p
          obtain ⟨j, oj, hgj, hj, hdst⟩ := guardOf_some hgd
          rcases hfact with ⟨g, want', h, hs, he⟩ | ⟨h, hk⟩
          · simp only [Option.some.injEq, Prod.mk.injEq] at h
            obtain ⟨rfl, rfl⟩ := h
            have hw : Region.wanted o (yielded ops a.tmps) = false := by
              rcases hs with hs | hs
              · rw [yielded_of (q := !want) hFR hgj hj hdst (by rw [hlk d want rfl]; exact hs)]; cases want <;> rfl
              · exact yielded_un hFR hgj hj hdst (by rw [hlk d want rfl]; exact hs)
            rw [if_neg (by rw [hw]; simp)]
            exact ⟨fun _ _ => trivial, goS undef w ρ Z HS m.good (Ext.refl _ _ _ _) (chg0 (fun x id b q => by rw [he] at q; cases q) (fun id b b' q => by rw [he] at q; cases q)) (fun id b b' q => by rw [he] at q; cases q) (fun _ _ => rfl) (fun u q => by rw [he] at q; simp only [Ef.val, Option.some.injEq] at q; rw [← q]; exact Rl_un _ _ _)⟩
          · rcases h with h | ⟨g, want', h, hs⟩
            · cases h
            · simp only [Option.some.injEq, Prod.mk.injEq] at h
              obtain ⟨rfl, rfl⟩ := h
              have hw : Region.wanted o (yielded ops a.tmps) = true := by
                rw [yielded_of (q := want) hFR hgj hj hdst (by rw [hlk d want rfl]; exact hs)]
                simp
              rw [if_pos hw]
              exact run hw hk
end
end Go.Proofs.YtjaigpidmngaaaaGreat

namespace Go.Proofs.YtjaigpidmngaaaaGreat
section
variable {P : Program} {w : World} {ρ : Loc} {Z : Nat → Prop} {H : AH} {s : Fr} {a : Act} {B : Beg}
theorem Rl.dead {h h' : Array Obj} {v : AV} {x : Value} (hr : Rl h ρ Z v x) {b : Nat} (h0 : ∀ c t f, h[b]? ≠ some (.cells c t f)) (hk : ∀ k, k ≠ b → h'[k]? = h[k]?) (ht : ∀ t, hty h b = some t → hty h' b = some t) : Rl h' ρ Z v x := by
  refine hr.mono (fun _ _ q => q) (fun _ q => q) (fun k o u _ q => ?_) (fun k t q => ?_)
  · by_cases e : k = b
    · subst e
      unfold hcell at q
      cases hx : h[k]? with
      | none => rw [hx] at q; cases q
      | some ob =>
        rw [hx] at q
        cases ob with
        | cells c t f => exact absurd hx (h0 c t f)
        | _ => cases q
    · unfold hcell at q ⊢
      rw [hk k e]; exact q
  · by_cases e : k = b
    · subst e; exact ht t q
    · unfold hty at q ⊢
      rw [hk k e]; exact q
theorem TabG.dead {h h' : Array Obj} (q : TabG h Z) {b : Nat} (h0 : ∀ c t f, h[b]? ≠ some (.cells c t f)) (hk : ∀ k, k ≠ b → h'[k]? = h[k]?) : TabG h' Z := fun x hx => by
  obtain ⟨p1, c, p2, p3⟩ := q x hx
  refine ⟨p1, c, ?_, p3⟩
  have hne : x.1 ≠ b := by
    intro e
    unfold hrow at p2
    rw [e] at p2
    cases hx : h[b]? with
    | none => rw [hx] at p2; cases p2
    | some ob =>
      rw [hx] at p2
      cases ob with
      | cells c t f => exact h0 c t f hx
      | _ => cases p2
  unfold hrow at p2 ⊢
  rw [hk _ hne]; exact p2
theorem loop_put {L L' : LoopB} {lid b o : Nat} {r r' : Loop} (g : Good w.heap ρ Z H) (hid : hget H lid = some (.loop L)) (hρ : ρ lid = some (b, o)) (hb : w.heap[b]? = some (.loop r))
    (hr : ∀ h', (∀ v x, Rl w.heap ρ Z v x → Rl h' ρ Z v x) → h'[b]? = some (.loop r') → BlkR h' ρ Z b o (.loop L')) :
    Good (w.putObj b (.loop r')).heap ρ Z (hset H lid (.loop L')) ∧ Ext w ρ Z (Own ρ H) (w.putObj b (.loop r')) ρ Z (Own ρ (hset H lid (.loop L'))) ∧ ∀ v x, Rl w.heap ρ Z v x → Rl (w.putObj b (.loop r')).heap ρ Z v x := by
  have hlt := (Array.getElem?_eq_some_iff.1 hb).1
  have hsame : (w.putObj b (.loop r')).heap[b]? = some (.loop r') := World.putObj_heap_same hlt
  have hoth : ∀ k, k ≠ b → (w.putObj b (.loop r')).heap[k]? = w.heap[k]? := fun k hk => World.putObj_heap_other hk
  have hty1 : ∀ t, hty w.heap b = some t → hty (w.putObj b (.loop r')).heap b = some t := fun t q => by
    unfold hty at q ⊢
    rw [hb] at q
    rw [hsame]; exact q
  have hty2 : ∀ k t, hty w.heap k = some t → hty (w.putObj b (.loop r')).heap k = some t := fun k t q => by
    by_cases e : k = b
    · subst e; exact hty1 t q
    · unfold hty at q ⊢
      rw [hoth k e]; exact q
  have hnc : ∀ c t f, w.heap[b]? ≠ some (.cells c t f) := fun c t f q => by rw [hb] at q; cases q
  have hrl : ∀ v x, Rl w.heap ρ Z v x → Rl (w.putObj b (.loop r')).heap ρ Z v x := fun v x q => q.dead hnc hoth hty1
  have hown : ∀ k, Own ρ (hset H lid (.loop L')) k ↔ Own ρ H k := by
    intro k
    constructor
    · exact Own.set
    · rintro ⟨j, bl, q, h1, h2⟩
      by_cases e : j = lid
      · subst e
        exact ⟨j, .loop L', q, by rw [hget_hset, if_pos rfl, hid]; rfl, h2⟩
      · exact ⟨j, bl, q, by rw [hget_hset, if_neg e]; exact h1, h2⟩
  have hob : Own ρ H b := ⟨lid, _, o, hid, hρ⟩
  refine ⟨⟨fun j blk q => ?_, fun i j p q p1 p2 o1 o2 h1 h2 h3 h4 hne => ?_, fun k q hz => g.notZ k ((hown k).1 q) hz, fun k q => by rw [World.putObj_size]; exact g.zlt k q, g.ids, fun j k o q => ?_, g.tab.dead hnc hoth⟩, ?_, hrl⟩
  · rw [hget_hset] at q
    split at q
    · rename_i e
      subst e
      rw [hid] at q
      simp only [Option.map_some, Option.some.injEq] at q
      subst q
      exact ⟨b, o, hρ, hr _ hrl hsame⟩
    · rename_i e
      obtain ⟨k, o2, q1, q2⟩ := g.blk j blk q
      exact ⟨k, o2, q1, q2.mono (hoth k (g.inj j lid _ _ _ _ _ _ q hid q1 hρ e)) hrl⟩
  · have back : ∀ i p, hget (hset H lid (.loop L')) i = some p → ∃ p', hget H i = some p' := fun i p q => by
      rw [hget_hset] at q
      split at q
      · rename_i e; rw [e]; exact ⟨_, hid⟩
      · exact ⟨_, q⟩
    obtain ⟨p', h1'⟩ := back i p h1
    obtain ⟨q', h2'⟩ := back j q h2
    exact g.inj i j _ _ _ _ _ _ h1' h2' h3 h4 hne
  · obtain ⟨e1, m, e2⟩ := g.ty j k o q
    exact ⟨e1, m, hty2 _ _ e2⟩
  · exact ⟨by rw [World.putObj_size]; exact Nat.le_refl _, fun k hk hO => hoth k (fun e => hO (by rw [e]; exact hob)), hty2, fun _ q => q, fun _ q => .inl q, fun _ _ q => q, fun k q => .inl ((hown k).1 q), rfl, rfl, rfl⟩
theorem loop_new {L : LoopB} {lid : Nat} {r : Loop} {D : Obj} (g : Good w.heap ρ Z H) (hl : ρ lid = none) (htag : tag lid = loopT)
    (hr : ∀ h' ρ', (∀ v x, Rl w.heap ρ Z v x → Rl h' ρ' Z v x) → h'[w.heap.size + 1]? = some (.loop r) → BlkR h' ρ' Z (w.heap.size + 1) 0 (.loop L)) :
    Good ((w.alloc D).alloc (.loop r)).heap (upd ρ lid (w.heap.size + 1, 0)) Z ((lid, .loop L) :: H) ∧
    Ext w ρ Z (Own ρ H) ((w.alloc D).alloc (.loop r)) (upd ρ lid (w.heap.size + 1, 0)) Z (Own (upd ρ lid (w.heap.size + 1, 0)) ((lid, .loop L) :: H)) ∧
    ∀ v x, Rl w.heap ρ Z v x → Rl ((w.alloc D).alloc (.loop r)).heap (upd ρ lid (w.heap.size + 1, 0)) Z v x := by
  have hheap : ((w.alloc D).alloc (.loop r)).heap = (w.heap.push D).push (.loop r) := rfl
  have hup := upd_mono (ρ := ρ) (p := (w.heap.size + 1, 0)) hl
  have hnew : ((w.heap.push D).push (.loop r))[w.heap.size + 1]? = some (.loop r) := by
    have := Array.getElem?_push_size (xs := w.heap.push D) (x := Obj.loop r)
    rw [Array.size_push] at this
    exact this
  have hold : ∀ k, k < w.heap.size → ((w.heap.push D).push (.loop r))[k]? = w.heap[k]? := fun k hk => by
    rw [Array.getElem?_push, if_neg (by rw [Array.size_push]; omega), Array.getElem?_push, if_neg (by omega)]
  have hty2 : ∀ k t, hty w.heap k = some t → hty ((w.heap.push D).push (.loop r)) k = some t := fun k t q => hty_push _ _ _ _ (hty_push _ _ _ _ q)
  have hrl : ∀ v x, Rl w.heap ρ Z v x → Rl ((w.heap.push D).push (.loop r)) (upd ρ lid (w.heap.size + 1, 0)) Z v x := fun v x q => by
    have q1 := q.push D (ρ' := ρ) (Z' := Z) (fun _ _ h => h) (fun _ h => h)
    exact q1.push _ hup (fun _ h => h)
  have hownO : ∀ k, Own (upd ρ lid (w.heap.size + 1, 0)) ((lid, .loop L) :: H) k → Own ρ H k ∨ k = w.heap.size + 1 := fun k q => q.upd (fun _ _ q => q) hl g
  rw [hheap]
  refine ⟨⟨fun j blk q => ?_, fun i j p q p1 p2 o1 o2 h1 h2 h3 h4 hne => ?_, fun k q hz => ?_, fun k q => ?_, ?_, fun j k o q => ?_, g.tab.of (fun _ q => q) (fun k q => hold k (g.zlt k q))⟩, ?_, hrl⟩
  · simp only [hget] at q
    split at q
    · rename_i e
      subst e
      simp only [Option.some.injEq] at q
      subst q
      exact ⟨_, 0, by simp [upd], hr _ _ hrl hnew⟩
    · obtain ⟨k, o, q1, q2⟩ := g.blk j blk q
      exact ⟨k, o, hup _ _ q1, q2.mono (hold k q2.lt) hrl⟩
  · simp only [hget] at h1 h2
    unfold upd at h3 h4
    split at h1 <;> split at h2
    · rename_i e1 e2; exact absurd (e1.trans e2.symm) hne
    · rename_i e1 e2
      rw [if_pos e1] at h3
      rw [if_neg e2] at h4
      simp only [Option.some.injEq, Prod.mk.injEq] at h3
      have := g.own_lt (b := p2) ⟨j, q, o2, h2, h4⟩
      omega
    · rename_i e1 e2
      rw [if_neg e1] at h3
      rw [if_pos e2] at h4
      simp only [Option.some.injEq, Prod.mk.injEq] at h4
      have := g.own_lt (b := p1) ⟨i, p, o1, h1, h3⟩
      omega
    · rename_i e1 e2
      rw [if_neg e1] at h3
      rw [if_neg e2] at h4
      exact g.inj i j p q p1 p2 o1 o2 h1 h2 h3 h4 hne
  · rcases hownO k q with q | q
    · exact g.notZ k q hz
    · have := g.zlt k hz; omega
  · have := g.zlt k q
    rw [Array.size_push, Array.size_push]; omega
  · obtain ⟨N, hN⟩ := g.ids
    refine ⟨max N (lid + 1), fun j hj => ?_⟩
    unfold upd
    rw [if_neg (by omega)]
    exact hN j (by omega)
  · unfold upd at q
    split at q
    · rename_i e
      subst e
      simp only [Option.some.injEq, Prod.mk.injEq] at q
      obtain ⟨rfl, rfl⟩ := q
      exact ⟨rfl, 0, by unfold hty; rw [hnew, htag]⟩
    · obtain ⟨e1, m, e2⟩ := g.ty j k o q
      exact ⟨e1, m, hty2 _ _ e2⟩
  · refine ⟨by rw [hheap, Array.size_push, Array.size_push]; omega, fun k hk _ => by rw [hheap]; exact hold k hk, fun k t q => by rw [hheap]; exact hty2 k t q, fun _ q => q, fun _ q => .inl q, hup, fun k q => ?_, rfl, rfl, rfl⟩
    rcases hownO k q with q | q
    · exact .inl q
    · exact .inr (by omega)
theorem dead_put {b : Nat} {ob ob' : Obj} (g : Good w.heap ρ Z H) (hb : w.heap[b]? = some ob) (hc : ∀ c t f, ob ≠ .cells c t f) (hno : ¬ Own ρ H b) (hty1 : ∀ t, hty w.heap b = some t → hty (w.putObj b ob').heap b = some t) (hB : B.w.heap.size ≤ b) (e : Ext B.w B.ρ B.Z B.O w ρ Z (Own ρ H)) :
    Good (w.putObj b ob').heap ρ Z H ∧ Ext B.w B.ρ B.Z B.O (w.putObj b ob') ρ Z (Own ρ H) ∧ (∀ v x, Rl w.heap ρ Z v x → Rl (w.putObj b ob').heap ρ Z v x) ∧
      ∀ k, k ≠ b → (w.putObj b ob').heap[k]? = w.heap[k]? := by
  have hlt := (Array.getElem?_eq_some_iff.1 hb).1
  have hoth : ∀ k, k ≠ b → (w.putObj b ob').heap[k]? = w.heap[k]? := fun k hk => World.putObj_heap_other hk
  have hnc : ∀ c t f, w.heap[b]? ≠ some (.cells c t f) := fun c t f q => by rw [hb] at q; exact hc c t f (Option.some.inj q)
  have hty2 : ∀ k t, hty w.heap k = some t → hty (w.putObj b ob').heap k = some t := fun k t q => by
    by_cases e : k = b
    · subst e; exact hty1 t q
    · unfold hty at q ⊢
      rw [hoth k e]; exact q
  have hrl : ∀ v x, Rl w.heap ρ Z v x → Rl (w.putObj b ob').heap ρ Z v x := fun v x q => q.dead hnc hoth hty1
  refine ⟨⟨fun j blk q => ?_, g.inj, g.notZ, fun k q => by rw [World.putObj_size]; exact g.zlt k q, g.ids, fun j k o q => ?_, g.tab.dead hnc hoth⟩, ?_, hrl, hoth⟩
  · obtain ⟨k, o, q1, q2⟩ := g.blk j blk q
    refine ⟨k, o, q1, q2.mono (hoth k ?_) hrl⟩
    rintro rfl
    exact hno ⟨j, blk, o, q, q1⟩
  · obtain ⟨e1, m, e2⟩ := g.ty j k o q
    exact ⟨e1, m, hty2 _ _ e2⟩
  · exact { e with
      size := by rw [World.putObj_size]; exact e.size
      keep := fun k hk hO => by rw [hoth k (by omega)]; exact e.keep k hk hO
      shape := fun k t q => hty2 k t (e.shape k t q) }
theorem mark_put {D : Nat} {ds : List Deferred} (g : Good w.heap ρ Z H) (hD : w.heap[D]? = some (.deferred (some ds))) (hB : B.w.heap.size ≤ D) (e : Ext B.w B.ρ B.Z B.O w ρ Z (Own ρ H)) :
    Good (w.putObj D (.deferred none)).heap ρ Z H ∧ Ext B.w B.ρ B.Z B.O (w.putObj D (.deferred none)) ρ Z (Own ρ H) ∧ (∀ v x, Rl w.heap ρ Z v x → Rl (w.putObj D (.deferred none)).heap ρ Z v x) ∧
      ∀ k, k ≠ D → (w.putObj D (.deferred none)).heap[k]? = w.heap[k]? := by
  refine dead_put g hD (fun c t f q => by cases q) ?_ (fun t q => ?_) hB e
  · rintro ⟨id, blk, o0, q1, q2⟩
    obtain ⟨b, o, q3, q4⟩ := g.blk id blk q1
    rw [q2] at q3
    obtain ⟨rfl, rfl⟩ : D = b ∧ o0 = o := by simpa using q3
    exact q4.noDefer hD
  · unfold hty at q
    rw [hD] at q; cases q
theorem marks_out {F : Fence} {n : Nat} {fn : Func} {tmps : Array Value} {R : Ending → World → Prop} : ∀ (ds : List Deferred) (w : World), Good w.heap ρ Z H → Ext B.w B.ρ B.Z B.O w ρ Z (Own ρ H) → Marks B w ds →
    (∀ w', Good w'.heap ρ Z H → Ext B.w B.ρ B.Z B.O w' ρ Z (Own ρ H) → (∀ v x, Rl w.heap ρ Z v x → Rl w'.heap ρ Z v x) → ∃ v, (results fn tmps).run P w' = .ok v w' ∧ R (.returned v) w') → LeavesInM F n P fn tmps R ds .returning w
  | [], w, g, e, _, k => by
    obtain ⟨v, h1, h2⟩ := k w g e (fun _ _ q => q)
    exact ⟨v, h1, h2⟩
  | d :: ds, w, g, e, m, k => by
    obtain ⟨D, rfl, hD, hB⟩ := m.one d List.mem_cons_self
    obtain ⟨g1, e1, r1, o1⟩ := mark_put g hD hB e
    refine ⟨by simp, .inl ⟨D, _, rfl, run_takeDeferred hD, ?_⟩⟩
    have hnd := List.pairwise_cons.1 m.nd
    refine marks_out ds _ g1 e1 ⟨fun d' hd' => ?_, hnd.2⟩ fun w' g' e' r' => k w' g' e' fun v x q => r' v x (r1 v x q)
    obtain ⟨D', h1, h2, h3⟩ := m.one d' (List.mem_cons_of_mem _ hd')
    refine ⟨D', h1, ?_, h3⟩
    rw [o1 D' (fun e => hnd.1 d' hd' D rfl (by rw [h1, e]))]
    exact h2
end
end Go.Proofs.YtjaigpidmngaaaaGreat

namespace Go.Proofs.YtjaigpidmngaaaaGreat
theorem least_of {p : Nat → Prop} (h : ∃ n, p n) : ∃ n, p n ∧ ∀ m, p m → n ≤ m := by
  obtain ⟨n, hn⟩ := h
  induction n using Nat.strongRecOn with
  | _ n ih =>
    by_cases q : ∃ m, m < n ∧ p m
    · obtain ⟨m, hm, hp⟩ := q; exact ih m hm hp
    · exact ⟨n, hn, fun m hm => Classical.byContradiction fun r => q ⟨m, by omega, hm⟩⟩
noncomputable def leastN (p : Nat → Prop) : Nat := open Classical in if h : ∃ n, p n then Classical.choose (least_of h) else 0
theorem leastN_spec {p : Nat → Prop} (h : ∃ n, p n) : p (leastN p) ∧ ∀ m, p m → leastN p ≤ m := by
  unfold leastN
  rw [dif_pos h]
  exact Classical.choose_spec (least_of h)
section
variable {rd : Option Nat} {nn : Nat} {P : Program} {w : World} {ρ : Loc} {Z : Nat → Prop} {H : AH} {s : Fr} {a : Act} {B : Beg} {fl : List Nat}
theorem wp_loop_n {c : Code} {Q : Exit → Act → World → Prop} (I : Nat → Act → World → Prop) (h0 : ∃ n, I n a w) (round : ∀ n a w, I n a w → c.wpIn (FnR rd) nn P (Exit.then (fun a' w' => ∃ m, m < n ∧ I m a' w') Q) a w) : (Code.loop c).wpIn (FnR rd) nn P Q a w := by
  refine wpIn_loop (fun a w => ∃ n, I n a w) (fun a w => leastN fun n => I n a w) h0 fun a w hi => ?_
  obtain ⟨h1, _⟩ := leastN_spec hi
  refine wpIn_mono (round _ a w h1) fun e a' w' q => ?_
  cases e with
  | normal =>
    obtain ⟨m, hm, hI⟩ := q
    exact ⟨⟨m, hI⟩, Nat.lt_of_le_of_lt ((leastN_spec ⟨m, hI⟩).2 m hI) hm⟩
  | _ => exact q
theorem wp_scope_n {c rest : Code} {Q : Exit → Act → World → Prop} (l : Nat) (I : Nat → Act → World → Prop) (hf : findLabel c l = some rest) (first : c.wp P (Exit.jump l (fun a w => ∃ n, I n a w) Q) a w)
    (pass : ∀ n a w, I n a w → rest.wp P (Exit.jump l (fun a' w' => ∃ m, m < n ∧ I m a' w') Q) a w) : (Code.scope c).wp P Q a w := by
  refine wp_scope_jumps l (fun a w => ∃ n, I n a w) (fun a w => leastN fun n => I n a w) hf first fun a w hi => ?_
  obtain ⟨h1, _⟩ := leastN_spec hi
  refine wp_mono (pass _ a w h1) fun e a' w' q => ?_
  cases e with
  | goto l' =>
    obtain ⟨hl, m, hm, hI⟩ := q
    exact ⟨hl, ⟨m, hI⟩, Nat.lt_of_le_of_lt ((leastN_spec ⟨m, hI⟩).2 m hI) hm⟩
  | _ => exact q
theorem Inv.drew (hi : Inv B w ρ Z H s a) : Inv B { w with drawn := w.drawn + 1 } ρ Z H s a :=
  ⟨hi.good, hi.fr, hi.ext.trans ⟨Nat.le_refl _, fun _ _ _ => rfl, fun _ _ q => q, fun _ q => q, fun _ q => .inl q, fun _ _ q => q, fun _ q => .inl q, rfl, rfl, rfl⟩, hi.size, ⟨fun d hd => hi.defers.one d hd, hi.defers.nd⟩⟩
theorem Inv.sub {Hc : AH} (hi : Inv B w ρ Z H s a) (hs : Sub Hc H) : Inv B w ρ Z Hc s a :=
  ⟨hi.good.forget hs, hi.fr, { hi.ext with own := fun b q => hi.ext.own b (q.of_sub hs) }, hi.size, hi.defers⟩
theorem Inv.forget {J : Fr → AH → Prop} (hi : Inv B w ρ Z H s a) (h : Weak J s H) : ∃ s' H' Z', Inv B w ρ Z' H' s' a ∧ J s' H' := by
  obtain ⟨s', H', h1, h2, h3⟩ := h
  refine ⟨s', H', fun b => Z b ∨ Drop ρ H H' b, ⟨hi.good.freeze h2, fun t v' h => ?_, ?_, hi.size, hi.defers⟩, h3⟩
  · obtain ⟨v, q1, q2⟩ := h1 t v' h
    exact q2.sound hi.good _ (hi.fr t v q1)
  · refine { hi.ext with zmono := fun b q => .inl (hi.ext.zmono b q), znew := fun b q => ?_, own := fun b q => hi.ext.own b (q.of_sub h2) }
    rcases q with q | q
    · exact hi.ext.znew b q
    · rcases hi.ext.own b q.own with q | q
      · exact .inr (.inl q)
      · exact .inr (.inr q)
def tyAt (os : List COp) (i : Nat) : Nat := match os[i]? with
  | some o => o.co.ty
  | none => 0
theorem tys_bound : ∀ os : List COp, ∃ K, ∀ i, tyAt os i ≤ K
  | [] => ⟨0, fun i => by simp [tyAt]⟩
  | o :: os => by
    obtain ⟨K, h⟩ := tys_bound os
    refine ⟨K + o.co.ty, fun i => ?_⟩
    cases i with
    | zero => simp [tyAt]
    | succ i => have := h i; simp [tyAt] at this ⊢; omega
theorem wp_dreg {id : Nat} {ops : Array Oper} {k : Nat} {K : Fr → AH → Prop} {Q : Exit → Act → World → Prop} (hm : P.follows .mixedOrders = true) (hkn : k ≤ ops.size) (hok : drawOk ops (compOps P fl ops ops.toList) k = true)
    (hd : (compOps P fl ops ops.toList).all (dstOk B.N) = true) (hQ : ∀ a' w' ρ' Z' H' s', Inv B w' ρ' Z' H' s' a' → K s' H' → Q .normal a' w') (hi : Inv B w ρ Z H s a)
    {H0 D : AH} (hsub : Sub H0 H) (hDH : Sub D H) (hdis : ∀ id b, hget D id = some b → hget H0 id = none)
    (h : wpDraw P ((compOps P fl ops ops.toList).take k) (fun s' H' => wpOps P ((compOps P fl ops ops.toList).drop k) K s' H') s H0 D [] H) : (Code.region id ops true).wpIn (FnR rd) nn P Q a w := by
  refine wpIn_region_any hm ?_
  obtain ⟨N, hN⟩ := hi.good.ids
  obtain ⟨K0, hK0⟩ := tys_bound ((compOps P fl ops ops.toList).take k)
  obtain ⟨idf, hidf⟩ : ∃ idf : Nat → Nat, ∀ i, idf i = 2 ^ (N + K0 + i) + tyAt ((compOps P fl ops ops.toList).take k) i := ⟨_, fun _ => rfl⟩
  have hlt : ∀ i, tyAt ((compOps P fl ops ops.toList).take k) i < 2 ^ (N + K0 + i) := fun i =>
    Nat.lt_of_lt_of_le (Nat.lt_of_le_of_lt (hK0 i) (lt_pow K0)) (Nat.pow_le_pow_right (by omega) (by omega))
  have htag : ∀ i, tag (idf i) = tyAt ((compOps P fl ops ops.toList).take k) i := fun i => by rw [hidf]; exact tag_mk (hlt i)
  have hge : ∀ i, N ≤ idf i := fun i => by
    rw [hidf]
    have := lt_pow (N + K0 + i)
    omega
  have hinj : ∀ i j, idf i = idf j → i = j := by
    have key : ∀ i j, i < j → idf i < idf j := fun i j hij => by
      have h1 := hlt i
      have h2 : 2 ^ (N + K0 + i + 1) ≤ 2 ^ (N + K0 + j) := Nat.pow_le_pow_right (by omega) (by omega)
      rw [Nat.pow_succ] at h2
      rw [hidf, hidf]
      omega
    intro i j q
    rcases Nat.lt_trichotomy i j with r | r | r
    · have := key i j r; omega
    · exact r
    · have := key j i r; omega
  have hid0 : ∀ j, hget H (idf j) = none := by
    intro j
    cases hh : hget H (idf j) with
    | none => rfl
    | some b => obtain ⟨p, q, r, _⟩ := hi.good.blk _ b hh; rw [hN _ (hge j)] at r; cases r
  obtain ⟨es, h1, h2, h3⟩ := wpDraw_effects (idf := idf) hinj _ 0 s D [] H (fun i o q => by rw [Nat.zero_add, htag]; unfold tyAt; rw [q]) h (fun j _ => hid0 j) (fun j _ => by
    cases q : hget D (idf j) with
    | none => rfl
    | some b => have := hDH _ _ q; rw [hid0] at this; cases this) (fun _ _ => rfl) (fun _ _ _ => rfl)
  have h4 : ∀ (i : Nat) id b b', es[i]? = some (.st id b b') → hget D id = some b.1 ∨ ∃ (j : Nat) (x : AV), j < i ∧ es[j]? = some (.nb x id b.1) := fun i id b b' q => by
    rcases h3.st i id b b' q with q | q | q
    · exact .inl q
    · cases q
    · exact .inr q
  have hlen : (compOps P fl ops ops.toList).length = ops.size := by rw [compOps_len]; simp
  have hel : es.length = k := by rw [h1, List.length_take, hlen]; omega
  have hi' := hi.drew
  refine early_any (s := s) (H0 := H0) (D := D) (H := H) (idf := idf) (es := es) hinj hkn hok hd hQ hel hid0 hsub hDH hdis h4 h3.un h3.ok h2 ops.size [] _ _ ρ Z H a (by simp) ?_
  exact ⟨hi'.good, hi'.ext, hi'.size, hi'.defers, hsub, fun _ _ q => .inr ⟨.inl q, fun _ _ _ q2 => by cases q2⟩, fun _ _ _ _ q => (by cases q), fun _ _ _ _ q => (by cases q), fun _ _ _ _ q => (by cases q), fun _ _ q _ => q, fun i _ => hN _ (hge i), fun _ _ _ _ _ q => (by cases q), fun t v hv _ => hi'.fr t v hv, fun _ _ q => (by cases q), fun _ q => (by cases q),
    List.nodup_nil, fun i => by
      have : (Array.replicate ops.size false).getD i false = false := by rw [Array.getD_eq_getD_getElem?, Array.getElem?_replicate]; split <;> rfl
      rw [this]; simp, by simp⟩
theorem hasL_spec : ∀ (c : Code) (l : Nat), hasL (comp P fl c) l = true ↔ ∃ rest, findLabel c l = some rest
  | .seq a b, l => by
    simp only [comp, hasL, Bool.or_eq_true, findLabel]
    rw [hasL_spec a l, hasL_spec b l]
    cases findLabel a l <;> simp
  | .label l', l => by
    simp only [comp, hasL, findLabel]
    by_cases h : l' = l <;> simp [h]
  | .region id ops d, l => by
    cases d with
    | false => simp [comp, hasL, findLabel]
    | true => simp only [comp, findLabel]; split <;> simp [hasL]
  | .skip, l | .cond _ _ _, l | .block _ _, l | .loop _, l | .rangeFunc _ _ _ _, l | .exit _, l | .scope _, l | .goto _, l | .ret, l | .refuse _, l => by simp [comp, hasL, findLabel]
theorem wpA_noL : ∀ (c : C) (l : Nat) (Q : Exit → Fr → AH → Prop) (s : Fr) (H : AH), hasL c l = false → ¬ wpA P c (some l) Q s H
  | .seq a b, l, Q, s, H, h => by
    simp only [hasL, Bool.or_eq_false_iff] at h
    simp only [wpA, h.1, Bool.false_eq_true, if_false]
    exact wpA_noL b l Q s H h.2
  | .label l', l, Q, s, H, h => by
    simp only [hasL, beq_eq_false_iff_ne] at h
    simp [wpA, h]
  | .skip, l, Q, s, H, _ | .reg _, l, Q, s, H, _ | .dreg _ _, l, Q, s, H, _ | .cond _ _ _, l, Q, s, H, _ | .block _ _, l, Q, s, H, _ | .loop _, l, Q, s, H, _ | .exit _, l, Q, s, H, _ | .scope _, l, Q, s, H, _ | .goto _, l, Q, s, H, _ | .rangeF _ _ _ _, l, Q, s, H, _
  | .ret, l, Q, s, H, _ | .bad, l, Q, s, H, _ => by simp [wpA]
theorem LQ.then {Q : Exit → Fr → AH → Prop} {K : Fr → AH → Prop} {e : Exit} {K' : Act → World → Prop} (h : LQ B (thenA K Q) e a w) (hk : ∀ s H ρ Z, Inv B w ρ Z H s a → K s H → K' a w) : Exit.then K' (LQ B Q) e a w := by
  obtain ⟨s, H, ρ, Z, hi, q⟩ := h
  cases e with
  | normal =>
    obtain ⟨s', H', Z', hi', q'⟩ := hi.forget q
    exact hk s' H' ρ Z' hi' q'
  | _ => exact ⟨s, H, ρ, Z, hi, q⟩
theorem wpA_sound (hm : P.follows .mixedOrders = true) (c : Code) (hrd : rd = none ∨ flatC (comp P fl c) = true) : dstsOk B.N (comp P fl c) = true → ∀ (Q : Exit → Fr → AH → Prop) (s : Fr) (H : AH) (w : World) (ρ : Loc) (Z : Nat → Prop) (a : Act), Inv B w ρ Z H s a →
    (wpA P (comp P fl c) none Q s H → c.wpIn (FnR rd) nn P (LQ B Q) a w) ∧ ∀ l rest, findLabel c l = some rest → wpA P (comp P fl c) (some l) Q s H → rest.wpIn (FnR rd) nn P (LQ B Q) a w := by
  induction c with
  | skip => exact fun _ Q s H w ρ Z a hi => ⟨fun h => wpIn_skip ⟨s, H, ρ, Z, hi, h⟩, fun l rest h => by simp [findLabel] at h⟩
  | region id ops d =>
    intro hd Q s H w ρ Z a hi
    refine ⟨fun h => ?_, fun l rest h => by simp [findLabel] at h⟩
    cases d with
    | false =>
      simp only [comp, dstsOk] at hd
      simp only [comp, wpA] at h
      exact wpIn_region_list (wpOps_list (K := Q .normal) (Q := LQ B Q) (fun a' w' ρ' Z' H' s' hi' k => ⟨s', H', ρ', Z', hi', k⟩) _ w ρ Z H s a hd hi h)
    | true =>
      simp only [comp] at hd h
      by_cases hok : drawOk ops (compOps P fl ops ops.toList) (min (lateFrom ops ops.size) ops.size) = true
      · rw [if_pos hok] at hd h
        simp only [dstsOk, Bool.and_eq_true] at hd
        simp only [wpA] at h
        obtain ⟨H0, D, hs1, hs2, hs3, h⟩ := h
        refine wp_dreg (K := Q .normal) hm (Nat.min_le_right _ _) hok ?_ (fun a' w' ρ' Z' H' s' hi' k => ⟨s', H', ρ', Z', hi', k⟩) hi hs1 hs2 hs3 h
        rw [← List.take_append_drop (min (lateFrom ops ops.size) ops.size) (compOps P fl ops ops.toList), List.all_append, hd.1, hd.2]
        rfl
      · rw [if_neg hok] at h
        simp [wpA] at h
  | seq x y ihx ihy =>
    intro hd Q s H w ρ Z a hi
    have ihx := ihx (hrd.imp (fun q => q) fun q => by simp only [comp, flatC, Bool.and_eq_true] at q; exact q.1)
    have ihy := ihy (hrd.imp (fun q => q) fun q => by simp only [comp, flatC, Bool.and_eq_true] at q; exact q.2)
    simp only [comp, dstsOk, Bool.and_eq_true] at hd
    refine ⟨fun h => ?_, fun l rest hl h => ?_⟩
    · simp only [comp, wpA] at h
      refine wpIn_seq (wpIn_mono ((ihx hd.1 _ s H w ρ Z a hi).1 h) fun e a' w' q => q.then fun s' H' ρ' Z' hi' k => (ihy hd.2 Q s' H' w' ρ' Z' a' hi').1 k)
    · simp only [comp, wpA] at h
      simp only [findLabel] at hl
      cases hx : findLabel x l with
      | some r =>
        rw [hx] at hl
        simp only [Option.some.injEq] at hl
        subst hl
        rw [if_pos ((hasL_spec x l).2 ⟨r, hx⟩)] at h
        exact wpIn_seq (wpIn_mono ((ihx hd.1 _ s H w ρ Z a hi).2 l r hx h) fun e a' w' q => q.then fun s' H' ρ' Z' hi' k => (ihy hd.2 Q s' H' w' ρ' Z' a' hi').1 k)
      | none =>
        rw [hx] at hl
        rw [if_neg (fun q => by obtain ⟨r, hr⟩ := (hasL_spec x l).1 q; rw [hx] at hr; cases hr)] at h
        exact (ihy hd.2 Q s H w ρ Z a hi).2 l rest hl h
  | cond x p q ihp ihq =>
    intro hd Q s H w ρ Z a hi
    have ihp := ihp (hrd.imp (fun q => q) fun q => by simp only [comp, flatC, Bool.and_eq_true] at q; exact q.1)
    have ihq := ihq (hrd.imp (fun q => q) fun q => by simp only [comp, flatC, Bool.and_eq_true] at q; exact q.2)
    simp only [comp, dstsOk, Bool.and_eq_true] at hd
    refine ⟨fun h => ?_, fun l rest hl => by simp [findLabel] at hl⟩
    simp only [comp, wpA] at h
    obtain ⟨b, h1, h2, h3⟩ := h
    have hr := ev_rl hi.fr h1
    have hb : a.eval x = .bool b := by
      generalize a.eval x = y at hr
      cases hr
      rfl
    exact wpIn_cond_split hb (fun e => (ihp hd.1 Q s H w ρ Z a hi).1 (h2 e)) (fun e => (ihq hd.2 Q s H w ρ Z a hi).1 (h3 e))
  | block id c ih =>
    intro hd Q s H w ρ Z a hi
    have ih := ih (hrd.imp (fun q => q) fun q => by simpa only [comp, flatC] using q)
    simp only [comp, dstsOk] at hd
    refine ⟨fun h => ?_, fun l rest hl => by simp [findLabel] at hl⟩
    simp only [comp, wpA] at h
    refine wpIn_block (wpIn_mono ((ih hd _ s H w ρ Z a hi).1 h) fun e a' w' q => ?_)
    obtain ⟨s', H', ρ', Z', hi', k⟩ := q
    cases e with
    | exit id' =>
      simp only [blockA] at k
      simp only [Exit.inBlock]
      split
      · rename_i e1; rw [if_pos e1] at k; exact ⟨s', H', ρ', Z', hi', k⟩
      · rename_i e1; rw [if_neg e1] at k; exact ⟨s', H', ρ', Z', hi', k⟩
    | _ => exact ⟨s', H', ρ', Z', hi', k⟩
  | loop c ih =>
    intro hd Q s H w ρ Z a hi
    have ih := ih (hrd.imp (fun q => q) fun q => by simpa only [comp, flatC] using q)
    simp only [comp, dstsOk] at hd
    refine ⟨fun h => ?_, fun l rest hl => by simp [findLabel] at hl⟩
    simp only [comp, wpA] at h
    obtain ⟨I, h0, hround⟩ := h
    obtain ⟨s0, H0, Z0, hi0, n0, h0⟩ := hi.forget h0
    refine wp_loop_n (fun n a w => ∃ s H ρ Z, Inv B w ρ Z H s a ∧ I n s H) ⟨n0, s0, H0, ρ, Z0, hi0, h0⟩ fun n a' w' ⟨s', H', ρ', Z', hi', k⟩ => ?_
    refine wpIn_mono ((ih hd _ s' H' w' ρ' Z' a' hi').1 (hround n s' H' k)) fun e a2 w2 q => q.then fun s2 H2 ρ2 Z2 hi2 ⟨m, hmn, hI⟩ => ⟨m, hmn, s2, H2, ρ2, Z2, hi2, hI⟩
  | rangeFunc g ps x y _ _ =>
    intro hd Q s H w ρ Z a hi
    refine ⟨fun h => ?_, fun l rest hl => by simp [findLabel] at hl⟩
    rcases hrd with hrd | hrd
    rotate_left
    · simp [comp, flatC] at hrd
    subst hrd
    simp only [comp, dstsOk] at hd
    simp only [comp, wpA] at h
    obtain ⟨f, first, caps, h1, h2⟩ := h
    have hx := ev_rl hi.fr h1
    generalize ex : a.eval g = xv at hx
    cases hx with
    | clo _ _ us _ vs hf hl hq hr =>
    obtain ⟨N0, hN0⟩ := hi.good.ids
    obtain ⟨lid, hle, htg⟩ := exists_tag N0 loopT
    have hlid : ρ lid = none := hN0 lid hle
    have hfresh : hget H lid = none := by
      cases hh : hget H lid with
      | none => rfl
      | some b =>
        obtain ⟨k, o, q, _⟩ := hi.good.blk lid b hh
        rw [hlid] at q
        cases q
    have hK := h2 x y fl B.N lid rfl rfl hd hfresh
    refine wpIn_rangeFunc (F := FnR none) fun fn _ => ?_
    obtain ⟨r0, hr0⟩ : ∃ r0 : Loop, r0 = { state := .ready, pending := none, fn, tmps := a.tmps, params := ps, assign := x, body := y, defers := w.heap.size } := ⟨_, rfl⟩
    obtain ⟨g1, e1, rl1⟩ := loop_new (L := ⟨ps.toList, x, y, B.N, s, .ready⟩) (r := r0) (D := .deferred (some [])) hi.good hlid htg (fun h' ρ' q1 q2 =>
      ⟨r0, q2, by rw [hr0]; exact ⟨rfl, rfl⟩, by rw [hr0], by rw [hr0], by rw [hr0], by rw [hr0]; exact hi.size, fun t v e => by rw [hr0]; exact q1 _ _ (hi.fr t v e)⟩)
    refine ⟨w.heap.size + 1, [{ target := .collected w.heap.size, args := #[] }], (w.alloc (.deferred (some []))).alloc (.loop r0), { target := .fn (.func f) vs.toArray, args := us.toArray ++ #[Value.func (.yield (w.heap.size + 1)) #[] #[]] }, (w.alloc (.deferred (some []))).alloc (.loop r0), f,
      (us ++ [Value.func (.yield (w.heap.size + 1)) #[] #[]] ++ vs).toArray, (w.alloc (.deferred (some []))).alloc (.loop r0), by rw [hr0]; exact run_enterLoop_outer _ _ _ _ _, ?_, fun _ _ => trivial, ?_, (fun q => by cases q), ?_⟩
    · simp only [resolve, rangeCall, Deferred.ofValue, ex]
      first | rfl | simp [Act.eval, Sem.run_pure]
    · simp only [invoke]
      rw [callFunc_run hK.1]
      congr 2
      simp
    have hargs : RlL ((w.alloc (.deferred (some []))).alloc (.loop r0)).heap (upd ρ lid (w.heap.size + 1, 0)) Z (first ++ [.yld lid] ++ caps) (us ++ [Value.func (.yield (w.heap.size + 1)) #[] #[]] ++ vs) :=
      (RlL.append ⟨hf, fun i v y q1 q2 => rl1 _ _ (hq i v y q1 q2)⟩ (RlL.cons (.yld lid _ 0 (by simp [upd])) .nil)).append ⟨hl, fun i v y q1 q2 => rl1 _ _ (hr i v y q1 q2)⟩
    refine callsIn_ff ((hK.2 _ _ _ _ g1 hargs).mono fun e w' ⟨xv, r, H', ρ', Z', q1, g', hv, ex', st, H1, hs1, hst, k⟩ => ?_)
    subst q1
    obtain ⟨b, o, hb1, r', hr1, hr2, _⟩ := g'.blk lid _ hst
    have hb0 : b = w.heap.size + 1 := by
      have := ex'.loc lid (w.heap.size + 1, 0) (by simp [upd])
      rw [hb1] at this
      simpa using congrArg (fun q => q.1) (Option.some.inj this)
    have sub1 : Sub H1 H' := fun j c q => by
      have := hs1 j c q
      rw [hget_hdel] at this
      split at this
      · cases this
      · exact this
    have nol : hget H1 lid = none := by
      cases hh : hget H1 lid with
      | none => rfl
      | some c =>
        have := hs1 _ _ hh
        rw [hget_hdel, if_pos rfl] at this
        cases this
    have hno : ¬ Own ρ' H1 b := by
      rintro ⟨j, bl, o2, q1, q2⟩
      have hne : j ≠ lid := fun e => by rw [e, nol] at q1; cases q1
      exact g'.inj j lid _ _ _ _ _ _ (sub1 _ _ q1) hst q2 hb1 hne rfl
    have hE : Ext B.w B.ρ B.Z B.O w' ρ' Z' (Own ρ' H1) := by
      have q := (hi.ext.trans e1).trans ex'
      exact { q with own := fun k h => q.own k (h.of_sub sub1) }
    have hBs : B.w.heap.size ≤ w.heap.size := hi.ext.size
    obtain ⟨g2, e2, rl2, oth2⟩ := dead_put (B := B) (ob' := .loop { r' with state := .exhausted }) (g'.forget sub1) hr1 (fun c t f q => by cases q) hno (fun t q => by
      unfold hty at q ⊢
      rw [hr1] at q
      rw [World.putObj_heap_same (Array.getElem?_eq_some_iff.1 hr1).1]; exact q) (by omega) hE
    have hD0 : ((w.alloc (.deferred (some []))).alloc (.loop r0)).heap[w.heap.size]? = some (.deferred (some [])) := by
      show ((w.heap.push _).push _)[w.heap.size]? = _
      rw [Array.getElem?_push, if_neg (by rw [Array.size_push]; omega), Array.getElem?_push, if_pos rfl]
    have hm1 : Marks B ((w.alloc (.deferred (some []))).alloc (.loop r0)) ({ target := .collected w.heap.size, args := #[] } :: a.defers) := by
      have q := hi.defers.ext hi.good e1
      refine ⟨fun d hd => ?_, List.pairwise_cons.2 ⟨fun d hd D q1 q2 => ?_, q.nd⟩⟩
      · rcases List.mem_cons.1 hd with rfl | hd
        · exact ⟨w.heap.size, rfl, hD0, hBs⟩
        · exact q.one d hd
      · obtain ⟨D', q3, q4, _⟩ := hi.defers.one d hd
        have : D' < w.heap.size := (Array.getElem?_eq_some_iff.1 q4).1
        rw [q2] at q3
        simp at q1 q3
        omega
    have hm2 := hm1.ext g1 ex'
    have inv : Inv B (w'.putObj b (.loop { r' with state := .exhausted })) ρ' Z' H1 s { a with defers := [{ target := .collected w.heap.size, args := #[] }] ++ a.defers } :=
      ⟨g2, fun t v q => rl2 _ _ ((rl1 _ _ (hi.fr t v q)).ext ex' g1.notZ g1.zlt), e2, hi.size, ⟨fun d hd => by
        obtain ⟨D, q1, q2, q3⟩ := hm2.one d hd
        refine ⟨D, q1, ?_, q3⟩
        rw [oth2 D (fun e => by rw [e, hr1] at q2; cases q2)]
        exact q2, hm2.nd⟩⟩
    cases st with
    | ready =>
      refine ⟨none, w'.putObj b (.loop { r' with state := .exhausted }), ?_, s, H1, ρ', Z', inv, k⟩
      have q := run_endLoop (P := P) hr1 (by rw [hr2.1]; simp)
      rw [← hb0]
      exact q.trans (congrArg (fun p => Result.ok p _) hr2.2)
    | busy => exact k.elim
    | done c =>
      refine ⟨some c, w'.putObj b (.loop { r' with state := .exhausted }), ?_, ?_⟩
      · have q := run_endLoop (P := P) hr1 (by rw [hr2.1]; simp)
        rw [← hb0]
        exact q.trans (congrArg (fun p => Result.ok p _) hr2.2)
      · cases c with
        | ret => exact wpIn_ret ⟨s, H1, ρ', Z', inv, k⟩
        | exit id => exact wpIn_exit ⟨s, H1, ρ', Z', inv, k⟩
        | _ => exact k.elim
  | exit id => exact fun _ Q s H w ρ Z a hi => ⟨fun h => wpIn_exit ⟨s, H, ρ, Z, hi, h⟩, fun l rest hl => by simp [findLabel] at hl⟩
  | scope c ih =>
    intro hd Q s H w ρ Z a hi
    rcases hrd with hrd | hrd
    rotate_left
    · simp [comp, flatC] at hrd
    subst hrd
    have ih := ih (.inl rfl)
    simp only [comp, dstsOk] at hd
    refine ⟨fun h => ?_, fun l rest hl => by simp [findLabel] at hl⟩
    simp only [comp, wpA] at h
    obtain ⟨l, I, h0, hround⟩ := h
    have jump : ∀ {n : Nat} {J : Fr → AH → Prop} {J' : Act → World → Prop} {e : Exit} {a : Act} {w : World}, LQ B (jumpA l (Weak J) Q) e a w → (∀ s H ρ Z, Inv B w ρ Z H s a → J s H → J' a w) → Exit.jump l J' (LQ B Q) e a w := by
      intro n J J' e a w q hk
      obtain ⟨s, H, ρ, Z, hi, q⟩ := q
      cases e with
      | goto l' =>
        obtain ⟨s', H', Z', hi', q'⟩ := hi.forget q.2
        exact ⟨q.1, hk s' H' ρ Z' hi' q'⟩
      | _ => exact ⟨s, H, ρ, Z, hi, q⟩
    by_cases hL : hasL (comp P fl c) l = true
    · obtain ⟨rest, hrest⟩ := (hasL_spec c l).1 hL
      refine wpIn_wide.2 (wp_scope_n l (fun n a w => ∃ s H ρ Z, Inv B w ρ Z H s a ∧ I n s H) hrest ((wpIn_wide (n := nn)).1 ?_) fun n a' w' ⟨s', H', ρ', Z', hi', k⟩ => (wpIn_wide (n := nn)).1 ?_)
      · exact wpIn_mono ((ih hd _ s H w ρ Z a hi).1 h0) fun e a2 w2 q => jump (n := 0) q fun s2 H2 ρ2 Z2 hi2 ⟨m, hI⟩ => ⟨m, s2, H2, ρ2, Z2, hi2, hI⟩
      · exact wpIn_mono ((ih hd _ s' H' w' ρ' Z' a' hi').2 l rest hrest (hround n s' H' k)) fun e a2 w2 q => jump (n := 0) q fun s2 H2 ρ2 Z2 hi2 ⟨m, hmn, hI⟩ => ⟨m, hmn, s2, H2, ρ2, Z2, hi2, hI⟩
    · have hno : ∀ n s H, ¬ I n s H := fun n s H q => wpA_noL (comp P fl c) l _ s H (by simpa using hL) (hround n s H q)
      refine wpIn_wide.2 (wp_scope_straight ((wpIn_wide (n := nn)).1 (wpIn_mono ((ih hd _ s H w ρ Z a hi).1 h0) fun e a2 w2 q => ?_)))
      obtain ⟨s2, H2, ρ2, Z2, hi2, q⟩ := q
      cases e with
      | goto l' => obtain ⟨_, _, _, _, _, m, hI⟩ := q; exact hno _ _ _ hI
      | _ => exact ⟨s2, H2, ρ2, Z2, hi2, q⟩
  | label l' =>
    refine fun _ Q s H w ρ Z a hi => ⟨fun h => wpIn_label ⟨s, H, ρ, Z, hi, h⟩, fun l rest hl h => ?_⟩
    simp only [findLabel] at hl
    split at hl
    · simp only [Option.some.injEq] at hl
      subst hl
      exact wpIn_skip ⟨s, H, ρ, Z, hi, h.2⟩
    · cases hl
  | goto l' => exact fun _ Q s H w ρ Z a hi => ⟨fun h => wpIn_goto ⟨s, H, ρ, Z, hi, h⟩, fun l rest hl => by simp [findLabel] at hl⟩
  | ret => exact fun _ Q s H w ρ Z a hi => ⟨fun h => wpIn_ret ⟨s, H, ρ, Z, hi, h⟩, fun l rest hl => by simp [findLabel] at hl⟩
  | refuse why => exact fun _ Q s H w ρ Z a hi => ⟨fun h => by simp [comp, wpA] at h, fun l rest hl => by simp [findLabel] at hl⟩
/-! ### Results -/
theorem results_run (hi : Inv B w ρ Z H s a) : ∀ (rs : List ResultVar) (vs : List AV), resL s H (compRes P rs) = some vs →
    ∃ xs : List Value, (rs.mapM fun r => (match r with
      | .tmp t => pure (a.tmps.getD t undef)
      | .cell b t => do loadVar t (← asAddr (a.tmps.getD b undef)) : Sem Value)).run P w = .ok xs w ∧ RlL w.heap ρ Z vs xs
  | [], vs, h => by
    simp only [compRes, resL, Option.some.injEq] at h
    subst h
    exact ⟨[], rfl, .nil⟩
  | .tmp t :: rs, vs, h => by
    simp only [compRes, resL, Option.bind_eq_some_iff, Option.some.injEq] at h
    obtain ⟨v, h1, us, h2, rfl⟩ := h
    obtain ⟨xs, h3, h4⟩ := results_run hi rs us h2
    refine ⟨a.tmps.getD t undef :: xs, ?_, .cons (hi.fr t v h1) h4⟩
    rw [List.mapM_cons]
    simp only [Sem.run_bind, Sem.run_pure, Result.andThen_ok]
    rw [h3]
    rfl
  | .cell b t :: rs, vs, h => by
    simp only [compRes, resL, Option.bind_eq_some_iff, Option.some.injEq] at h
    obtain ⟨v, h1, us, h2, rfl⟩ := h
    obtain ⟨xs, h3, h4⟩ := results_run hi rs us h2
    cases hn : aggSize P t with
    | none => simp [hn, resOne] at h1
    | some n =>
      simp only [hn, resOne, Option.bind_eq_some_iff] at h1
      obtain ⟨p, h5, cs, h6, h7⟩ := h1
      have hr := hi.fr b p h5
      obtain ⟨k, o, hx, hc⟩ := readA_rl hi.good hr h6
      obtain ⟨y, hy, hry⟩ := run_loadVar hn h7 hc
      refine ⟨y :: xs, ?_, .cons hry h4⟩
      have hadr : asAddr (a.tmps.getD b undef) = pure ⟨k, o, none⟩ := by rw [hx]; rfl
      rw [List.mapM_cons]
      simp only [hadr, Sem.run_bind, Sem.run_pure, Result.andThen_ok, hy, h3]
theorem resA_run {fn : Func} (hi : Inv B w ρ Z H s a) {r : AV} (h : resA s H (compRes P fn.results.toList) = some r) : ∃ x, (results fn a.tmps).run P w = .ok x w ∧ Rl w.heap ρ Z r x := by
  simp only [resA, Option.bind_eq_some_iff] at h
  obtain ⟨vs, h1, h2⟩ := h
  obtain ⟨xs, h3, h4⟩ := results_run hi _ _ h1
  have hm : (fn.results.mapM fun r => (match r with
      | .tmp t => pure (a.tmps.getD t undef)
      | .cell b t => do loadVar t (← asAddr (a.tmps.getD b undef)) : Sem Value)).run P w = .ok xs.toArray w := by
    rw [Array.mapM_eq_mapM_toList, Sem.run_map, h3]
    rfl
  have he : (results fn a.tmps).run P w = (Result.ok xs.toArray w).andThen (fun vs w' => .ok (if h : vs.size = 1 then vs[0] else .tuple vs) w') := by
    unfold results
    rw [Sem.run_bind]
    exact congrArg (fun r => Result.andThen r fun (vs : Array Value) w' => Result.ok (if h : vs.size = 1 then vs[0] else Value.tuple vs) w') hm
  refine ⟨_, he, ?_⟩
  split at h2
  · rename_i v
    simp only [Option.some.injEq] at h2
    subst h2
    have hl := h4.1
    obtain ⟨x, rfl⟩ : ∃ x, xs = [x] := by
      match xs, hl with
      | [x], _ => exact ⟨x, rfl⟩
    simpa using h4.2 0 v x rfl rfl
  · rename_i hne
    simp only [Option.some.injEq] at h2
    subst h2
    have hl := h4.1
    have hs : ¬ (xs.toArray.size = 1) := by
      intro q
      have : vs.length = 1 := by simpa [← hl] using q
      match vs, this with
      | [v], _ => exact hne v rfl
    rw [dif_neg hs]
    exact .tup vs xs hl h4.2
theorem ACalls.of_code {f : Nat} {fn : Func} {c : Code} {args : List AV} {K : AV → AH → Prop} (hm : P.follows .mixedOrders = true) (hf : P.funcs[f]? = some fn) (hb : fn.body = some c) (hn : (fn.name == "runtime.NumGoroutine") = false)
    (hl : args.length ≤ fn.ntmps) (hd : dstsOk fn.ntmps (comp P fl c) = true) (h : wpA P (comp P fl c) none (endA (compRes P fn.results.toList) K) (initFr args) H) : ACalls P f args H K := by
  refine ⟨by unfold callable; rw [hf]; simp [hb, hn], fun w ρ Z xs g hr => ?_⟩
  refine callsIn_wide.1 (callsIn_of_wp_marks (n := 0) hf hb trivial ?_)
  let B : Beg := ⟨w, ρ, Z, Own ρ H, fn.ntmps⟩
  have hxl := hr.1
  have hi : Inv B w ρ Z H (initFr args) { tmps := xs.toArray ++ Array.replicate (fn.ntmps - xs.toArray.size) undef, defers := [] } := by
    refine ⟨g, fun t v hv => ?_, Ext.refl _ _ _ _, by simp [B]; omega, Marks.nil _ _⟩
    have hv' : args[t]? = some v := hv
    have hlt := (List.getElem?_eq_some_iff.1 hv').1
    have hx : xs[t]? = some (xs[t]'(by omega)) := List.getElem?_eq_getElem (by omega)
    have := hr.2 t v _ hv' hx
    have e : (xs.toArray ++ Array.replicate (fn.ntmps - xs.toArray.size) undef).getD t undef = xs[t]'(by omega) := by
      rw [Array.getD_eq_getD_getElem?, Array.getElem?_append_left (by simp; omega)]
      simp [show t < xs.length by omega]
    simp only
    rw [e]
    exact this
  refine wpIn_mono ((wpA_sound (rd := none) (nn := 0) hm c (.inl rfl) hd _ _ H w ρ Z _ hi).1 h) fun e a' w' ⟨s', H', ρ', Z', hi', q⟩ => ?_
  have fin : OA (resA s' H' (compRes P fn.results.toList)) (fun r => K r H') → LeavesInM Fence.wide 0 P fn a'.tmps (fun e w' => ∃ x r H' ρ' Z', e = .returned x ∧ Good w'.heap ρ' Z' H' ∧ Rl w'.heap ρ' Z' r x ∧ Ext w ρ Z (Own ρ H) w' ρ' Z' (Own ρ' H') ∧ K r H') a'.defers .returning w' := by
    intro q
    rw [OA_iff] at q
    obtain ⟨r, h1, h2⟩ := q
    refine marks_out (B := B) a'.defers w' hi'.good hi'.ext hi'.defers fun w2 g2 e2 rl2 => ?_
    have hi2 : Inv B w2 ρ' Z' H' s' { a' with defers := [] } := ⟨g2, fun t v q => rl2 _ _ (hi'.fr t v q), e2, hi'.size, Marks.nil _ _⟩
    obtain ⟨x, h3, h4⟩ := resA_run hi2 h1
    exact ⟨x, h3, x, r, H', ρ', Z', rfl, g2, h4, e2, h2⟩
  cases e with
  | normal => exact fin q
  | ret => exact fin q
  | _ => exact q.elim
/-! ### Rounds -/
def setPs : Fr → List Nat → List AV → Fr
  | s, p :: ps, v :: vs => setPs (s.set p v) ps vs
  | s, _, _ => s
def roundA (lid : Nat) (L : LoopB) (K : AV → AH → Prop) : Exit → Fr → AH → Prop
  | .normal, _, H => hget H lid = some (.loop { L with st := .busy }) ∧ K (.bool true) (hset H lid (.loop { L with st := .ready }))
  | .ret, _, H => hget H lid = some (.loop { L with st := .busy }) ∧ K (.bool false) (hset H lid (.loop { L with st := .done .ret }))
  | .exit id, _, H => hget H lid = some (.loop { L with st := .busy }) ∧ K (.bool false) (hset H lid (.loop { L with st := .done (.exit id) }))
  | _, _, _ => False
theorem setPs_fr {h : Array Obj} : ∀ (ps : List Nat) (args : List AV) (xs : List Value) (s : Fr) (tmps : Array Value), RlL h ρ Z args xs → args.length = ps.length → (∀ p ∈ ps, p < tmps.size) → (∀ t v, s t = some v → Rl h ρ Z v (tmps.getD t undef)) →
    ((ps.zip xs).foldl (fun (t : Array Value) (q : Nat × Value) => t.setIfInBounds q.1 q.2) tmps).size = tmps.size ∧
    ∀ t v, setPs s ps args t = some v → Rl h ρ Z v (((ps.zip xs).foldl (fun (t : Array Value) (q : Nat × Value) => t.setIfInBounds q.1 q.2) tmps).getD t undef)
  | [], args, xs, s, tmps, hr, hl, hp, hf => by
    refine ⟨rfl, fun t v q => ?_⟩
    have e : args = [] := List.eq_nil_of_length_eq_zero hl
    subst e
    exact hf t v q
  | p :: ps, args, xs, s, tmps, hr, hl, hp, hf => by
    match args, xs, hl, hr with
    | v :: args, [], hl, hr => exact absurd hr.1 (by simp)
    | v :: args, x :: xs, hl, hr =>
      have hpl := hp p List.mem_cons_self
      have hv : Rl h ρ Z v x := hr.2 0 v x rfl rfl
      have hr' : RlL h ρ Z args xs := ⟨by simpa using hr.1, fun i a b q1 q2 => hr.2 (i + 1) a b (by simpa using q1) (by simpa using q2)⟩
      have ih := setPs_fr ps args xs (s.set p v) (tmps.setIfInBounds p x) hr' (by simpa using hl) (fun q hq => by rw [Array.size_setIfInBounds]; exact hp q (List.mem_cons_of_mem _ hq)) (fun t u q => by
        rw [Array.getD_eq_getD_getElem?, Array.getElem?_setIfInBounds]
        simp only [Fr.set] at q
        split at q
        · rename_i e
          cases q
          rw [if_pos e.symm, if_pos hpl]
          exact hv
        · rename_i e
          rw [if_neg (fun e2 => e e2.symm), ← Array.getD_eq_getD_getElem?]
          exact hf t u q)
      rw [Array.size_setIfInBounds] at ih
      exact ih
theorem AYields.of_body {ps : List Nat} {a b : Code} {fl : List Nat} {N lid : Nat} {s : Fr} {ca cb : C} {args : List AV} {H : AH} {K : AV → AH → Prop} (hm : P.follows .mixedOrders = true) (ha : comp P fl a = ca) (hb : comp P fl b = cb)
    (hd : (dstsOk N ca && dstsOk N cb && ps.all fun p => decide (p < N)) = true) (hfa : flatC ca = true) (hfb : flatC cb = true) (hl : args.length = ps.length) (hid : hget H lid = some (.loop ⟨ps, a, b, N, s, .ready⟩))
    (h : wpA P ca none (thenA (fun s' H' => hget H' lid = some (.loop ⟨ps, a, b, N, s, .ready⟩) ∧ wpA P cb none (roundA lid ⟨ps, a, b, N, s, .ready⟩ K) s' (hset H' lid (.loop ⟨ps, a, b, N, s, .busy⟩))) (fun _ _ _ => False)) (setPs s ps args) H) : AYields P lid args H K := by
  intro m w ρ Z xs b0 o g hr hρ
  simp only [Bool.and_eq_true, List.all_eq_true, decide_eq_true_eq] at hd
  obtain ⟨⟨hda, hdb⟩, hdp⟩ := hd
  obtain ⟨b1, o1, hb1, r, hr1, ⟨hst, hpd⟩, hps, hra, hrb, hsz, hfr⟩ := g.blk lid _ hid
  rw [hρ] at hb1
  obtain ⟨rfl, rfl⟩ : b0 = b1 ∧ o = o1 := by simpa using hb1
  dsimp only at hps hra hrb hsz hfr
  have hxl : xs.length = ps.length := by rw [← hr.1, hl]
  have hy := run_yield (P := P) (args := xs.toArray) hr1 (by rw [hps]; simpa using hxl)
  refine ⟨r.fn, _, r.assign, r.body, hy, ?_⟩
  rw [hra, hrb]
  obtain ⟨z1, z2⟩ := setPs_fr ps args xs s r.tmps hr hl (fun p hp => by rw [hsz]; exact hdp p hp) hfr
  have hz : (r.params.zip xs.toArray).foldl (fun (t : Array Value) (q : Nat × Value) => t.setIfInBounds q.1 q.2) r.tmps = (ps.zip xs).foldl (fun (t : Array Value) (q : Nat × Value) => t.setIfInBounds q.1 q.2) r.tmps := by
    rw [hps]; simp
  have hz' : (r.params.zip xs.toArray).foldl (fun tmps (t, a) => tmps.setIfInBounds t a) r.tmps = (ps.zip xs).foldl (fun (t : Array Value) (q : Nat × Value) => t.setIfInBounds q.1 q.2) r.tmps := hz
  rw [hz']
  let B : Beg := ⟨w, ρ, Z, Own ρ H, N⟩
  have hi : Inv B w ρ Z H (setPs s ps args) { tmps := (ps.zip xs).foldl (fun (t : Array Value) (q : Nat × Value) => t.setIfInBounds q.1 q.2) r.tmps, defers := [] } := ⟨g, z2, Ext.refl _ _ _ _, by rw [z1]; exact hsz, Marks.nil _ _⟩
  refine roundIn_of_wpIn (F := Fence.wide) trivial ?_
  rw [← ha] at h
  have qa := (wpA_sound (rd := some b0) (nn := m) (fl := fl) (B := B) hm a (.inr (by rw [ha]; exact hfa)) (by rw [ha]; exact hda) _ _ H w ρ Z _ hi).1 h
  refine wpIn_mono qa fun e a1 w1 ⟨s1, H1, ρ1, Z1, hi1, k⟩ => ?_
  cases e with
  | normal =>
    obtain ⟨s', H', Z', hi', q1, q2⟩ := hi1.forget k
    obtain ⟨b2, o2, hb2, r2, hr2, ⟨hst2, hpd2⟩, hps2, hra2, hrb2, hsz2, hfr2⟩ := hi'.good.blk lid _ q1
    have hb3 := hi'.ext.loc lid _ hρ
    rw [hb2] at hb3
    obtain ⟨rfl, rfl⟩ : b2 = b0 ∧ o2 = o := by simpa using hb3
    refine ⟨_, run_beginRound hr2 hst2, ?_⟩
    obtain ⟨g3, e3, rl3⟩ := loop_put (L' := ⟨ps, a, b, N, s, .busy⟩) (r' := { r2 with state := .busy }) hi'.good q1 hb2 hr2 (fun h' f hh => ⟨_, hh, rfl, hps2, hra2, hrb2, hsz2, fun t v q => f _ _ (hfr2 t v q)⟩)
    have hi3 : Inv B _ ρ1 Z' (hset H' lid (.loop ⟨ps, a, b, N, s, .busy⟩)) s' a1 := ⟨g3, fun t v q => rl3 _ _ (hi'.fr t v q), hi'.ext.trans e3, hi'.size, hi'.defers.ext hi'.good e3⟩
    rw [← hb] at q2
    have qb := (wpA_sound (rd := some b2) (nn := m) (fl := fl) (B := B) hm b (.inr (by rw [hb]; exact hfb)) (by rw [hb]; exact hdb) _ _ _ _ ρ1 Z' _ hi3).1 q2
    refine wpIn_mono qb fun e a4 w4 ⟨s4, H4, ρ4, Z4, hi4, k4⟩ => ?_
    have fin : ∀ (jump : Option Code) (st : LSt), (match st with | .ready => jump = none | .busy => False | .done c => jump = some c) → hget H4 lid = some (.loop ⟨ps, a, b, N, s, .busy⟩) → K (.bool jump.isNone) (hset H4 lid (.loop ⟨ps, a, b, N, s, st⟩)) →
        ∃ v w', (Instr.endRound b2 jump).run P w4 = .ok v w' ∧ ∃ x r H' ρ' Z', Ending.returned v = .returned x ∧ Good w'.heap ρ' Z' H' ∧ Rl w'.heap ρ' Z' r x ∧ Ext w ρ Z (Own ρ H) w' ρ' Z' (Own ρ' H') ∧ K r H' := by
      intro jump st hj h1 h2
      obtain ⟨b5, o5, hb5, r5, hr5, hst5, hps5, hra5, hrb5, hsz5, hfr5⟩ := hi4.good.blk lid _ h1
      have hb6 := hi4.ext.loc lid _ hρ
      rw [hb5] at hb6
      obtain ⟨rfl, rfl⟩ : b5 = b2 ∧ o5 = o2 := by simpa using hb6
      obtain ⟨g6, e6, _⟩ := loop_put (L' := ⟨ps, a, b, N, s, st⟩) (r' := { r5 with state := if jump.isNone then .ready else .done, pending := jump }) hi4.good h1 hb5 hr5 (fun h' f hh => ⟨_, hh, by
        cases st with
        | ready => simp only at hj; subst hj; exact ⟨rfl, rfl⟩
        | busy => exact hj.elim
        | done c => simp only at hj; subst hj; exact ⟨rfl, rfl⟩, hps5, hra5, hrb5, hsz5, fun t v q => f _ _ (hfr5 t v q)⟩)
      exact ⟨_, _, run_endRound jump hr5, _, .bool jump.isNone, _, ρ4, Z4, rfl, g6, .bool _, hi4.ext.trans e6, h2⟩
    cases e with
    | normal => exact fin none .ready rfl k4.1 k4.2
    | ret => exact fin (some .ret) (.done .ret) rfl k4.1 k4.2
    | exit id => exact fin (some (.exit id)) (.done (.exit id)) rfl k4.1 k4.2
    | _ => exact k4.elim
  | _ => exact k.elim
end
abbrev OfE (P : Program) (f np : Nat) (c : C) (rs : List CRes) : Prop := ∀ {args : List AV} {H : AH} {K : AV → AH → Prop}, args.length = np → wpA P c none (endA rs K) (initFr args) H → ACalls P f args H K
abbrev OfL (P : Program) (f nt : Nat) (c : C) (rs : List CRes) : Prop := ∀ {args : List AV} {H : AH} {K : AV → AH → Prop}, args.length ≤ nt → wpA P c none (endA rs K) (initFr args) H → ACalls P f args H K
theorem fnL {P : Program} {f nt : Nat} {fn : Func} {c0 : Code} {fl : List Nat} {c : C} {rs : List CRes} (hm : P.follows .mixedOrders = true) (hf : P.funcs[f]? = some fn) (hc : comp P fl c0 = c) (hb : fn.body = some c0) (hn : (fn.name == "runtime.NumGoroutine") = false)
    (hk : fn.ntmps = nt) (hd : dstsOk nt c = true) (hr : compRes P fn.results.toList = rs) : OfL P f nt c rs := by
  subst hc; subst hk; subst hr
  intro args H K hl h
  exact ACalls.of_code (fl := fl) hm hf hb hn hl hd h
theorem fnE {P : Program} {f np nt : Nat} {fn : Func} {c0 : Code} {fl : List Nat} {c : C} {rs : List CRes} (hm : P.follows .mixedOrders = true) (hf : P.funcs[f]? = some fn) (hc : comp P fl c0 = c) (hb : fn.body = some c0) (hn : (fn.name == "runtime.NumGoroutine") = false)
    (hk : fn.ntmps = nt) (hd : dstsOk nt c = true) (hr : compRes P fn.results.toList = rs) (hp : Nat.ble np nt = true) : OfE P f np c rs := fun hl h => fnL hm hf hc hb hn hk hd hr (by rw [hl]; exact Nat.le_of_ble_eq_true hp) h
end Go.Proofs.YtjaigpidmngaaaaGreat

namespace Go.Proofs.YtjaigpidmngaaaaGreat
set_option maxRecDepth 100000
noncomputable abbrev PG : Program := Tryz.prog
theorem mixed : PG.follows .mixedOrders = true := by kernel_rfl
abbrev ty_int : Nat := 3
abbrev ty_bool : Nat := 4
abbrev ty_uint8 : Nat := 5
abbrev ty_string : Nat := 9
abbrev ty_S_api_Type : Nat := 22
abbrev ty_S_api_Operand : Nat := 23
abbrev ty_S_api_Expr : Nat := 24
abbrev ty_api_Expr : Nat := 26
abbrev ty_api_Errno : Nat := 30
abbrev ty_uint64 : Nat := 33
abbrev ty_api_Operand : Nat := 35
abbrev ty_S_string : Nat := 41
abbrev ty_broadsheetlaw18_Bound : Nat := 47
abbrev ty_S_api_Item : Nat := 65
abbrev ty_api_Type : Nat := 67
abbrev ty_api_Item : Nat := 70
abbrev ty_S_api_Step : Nat := 96
abbrev ty_api_Token : Nat := 111
abbrev ty_path_piece : Nat := 145
abbrev ty_api_Step : Nat := 147
abbrev ty_strings_Builder : Nat := 236
def token_Tokens.n : Nat := 61
noncomputable def token_Tokens.c : C := (.seq (.reg [oo_ 2 (.mv (.c .nilS)), oo_ 3 (.allc 72 [(.int .i64 0), (.int .i64 0)])]) (.seq (.seq (.reg [om_ 9 0, oo_ 10 (.len true (.t 9)), oo_ 11 (.bin .gtr (.t 10) (.c (.int .i64 256)))]) (.cond (.t 11) (.seq (.reg [oo_ 12 (.build [(.int .i64 0), (.int .i64 0)] [(0, (1, (.c (.int .i64 3))))]), oo_ 2 (.mv (.c .nilS)), os_ (.store 2 (.t 3) (.t 12))]) .ret) .skip)) (.seq (.reg [om_ 13 0, oo_ 14 (.build [(.str []), (.int .i64 0)] [(0, (1, (.t 13)))]), oo_ 15 (.box 166 (.t 14)), om_ 4 15]) (.seq (.reg [oo_ 5 (.mv (.c .nilS))]) (.block 0 (.loop (.block 1 (.seq (.block 2 (.loop (.seq (.seq (.reg [om_ 16 4, oo_ 17 (.nilck (.t 16)), of_ 18 1 17, ol_ 19 18, om_ 20 0, oo_ 21 (.len true (.t 20)), oo_ 22 (.bin .lss (.t 19) (.t 21)), om_ 23 22, og_ 24 23 true (.mv (.t 0)), og_ 25 23 true (.mv (.t 4)), og_ 26 23 true (.nilck (.t 25)), og_ 27 23 true (.faddr 1 (.t 26)), og_ 28 23 true (.load none (.t 27)), og_ 29 23 true (.idx (.t 24) (.t 28)), og_ 30 23 true (.call 114 [(.t 29)]), oo_ 31 (.pick (.t 23) (.t 30) (.c (.bool false)))]) (.cond (.t 31) .skip (.exit 2))) (.block 3 (.reg [om_ 32 4, oo_ 33 (.nilck (.t 32)), of_ 34 1 33, ol_ 35 34, oo_ 36 (.bin .add (.t 35) (.c (.int .i64 1))), oo_ 37 (.nilck (.t 32)), of_ 38 1 37, os_ (.store 1 (.t 38) (.t 36))]))))) (.seq (.seq (.reg [om_ 39 4, oo_ 40 (.nilck (.t 39)), of_ 41 1 40, ol_ 42 41, om_ 43 0, oo_ 44 (.len true (.t 43)), oo_ 45 (.bin .eql (.t 42) (.t 44))]) (.cond (.t 45) (.seq (.reg [om_ 46 5, om_ 47 4, oo_ 48 (.nilck (.t 47)), of_ 49 1 48, ol_ 50 49, oo_ 51 (.build [(.int .i64 0), (.str []), (.int .u64 0), (.int .i64 0)] [(0, (1, (.c (.int .i64 6)))), (3, (1, (.t 50)))]), oo_ 52 (.bslice 111 4 1 [(.int .i64 0), (.str []), (.int .u64 0), (.int .i64 0)] [(0, (.t 51))]), oo_ 53 (.append 111 false 4 40 (.t 46) (.t 52)), oo_ 54 (.build [(.int .i64 0), (.int .i64 0)] []), om_ 2 53, os_ (.store 2 (.t 3) (.t 54))]) .ret) .skip)) (.seq (.reg [om_ 55 4, oo_ 56 (.nilck (.t 55)), of_ 57 1 56, ol_ 58 57, om_ 6 58]) (.seq (.reg [om_ 60 4, oo_ 61 (.call 115 [(.t 60)]), om_ 59 61, oo_ 62 (.extr (.t 59) 0), oo_ 63 (.extr (.t 59) 1), oo_ 7 (.allc 111 [(.int .i64 0), (.str []), (.int .u64 0), (.int .i64 0)]), oo_ 8 (.allc 72 [(.int .i64 0), (.int .i64 0)]), os_ (.store 4 (.t 7) (.t 62)), os_ (.store 2 (.t 8) (.t 63))]) (.seq (.seq (.reg [of_ 64 0 8, ol_ 65 64, oo_ 66 (.bin .eql (.t 65) (.c (.int .i64 0))), om_ 67 66, og_ 68 67 true (.mv (.t 5)), og_ 69 67 true (.len false (.t 68)), og_ 70 67 true (.bin .eql (.t 69) (.c (.int .i64 64))), oo_ 71 (.pick (.t 67) (.t 70) (.c (.bool false)))]) (.cond (.t 71) (.reg [om_ 72 6, oo_ 73 (.build [(.int .i64 0), (.int .i64 0)] [(0, (1, (.c (.int .i64 3)))), (1, (1, (.t 72)))]), os_ (.store 2 (.t 8) (.t 73))]) .skip)) (.seq (.seq (.reg [of_ 74 0 8, ol_ 75 74, oo_ 76 (.bin .neq (.t 75) (.c (.int .i64 0)))]) (.cond (.t 76) (.seq (.dreg [oo_ 77 (.load (some 2) (.t 8)), oo_ 2 (.mv (.c .nilS))] [os_ (.store 2 (.t 3) (.t 77))]) .ret) .skip)) (.reg [om_ 78 5, oo_ 79 (.load (some 4) (.t 7)), oo_ 80 (.bslice 111 4 1 [(.int .i64 0), (.str []), (.int .u64 0), (.int .i64 0)] [(0, (.t 79))]), oo_ 81 (.append 111 false 4 40 (.t 78) (.t 80)), om_ 5 81]))))))))))))))
theorem token_Tokens.code : comp PG [] (Tryz.f61.body.getD .skip) = token_Tokens.c := by kernel_rfl
theorem token_Tokens.of : OfE PG 61 1 token_Tokens.c [(.t 2), (.cell 3 (some 2))] := fnE (nt := 82) mixed Tryz.func61 token_Tokens.code (by kernel_rfl) (by kernel_rfl) (by kernel_rfl) (by kernel_rfl) (by kernel_rfl) (by kernel_rfl)
def token_blank.n : Nat := 114
noncomputable def token_blank.c : C := (.seq (.reg [oo_ 2 (.mv (.c (.bool false)))]) (.seq (.reg [om_ 3 0, oo_ 4 (.bin .eql (.t 3) (.c (.int .u8 32))), om_ 5 4, og_ 6 5 false (.mv (.t 0)), og_ 7 5 false (.bin .eql (.t 6) (.c (.int .u8 9))), oo_ 8 (.pick (.t 5) (.c (.bool true)) (.t 7)), om_ 9 8, og_ 10 9 false (.mv (.t 0)), og_ 11 9 false (.bin .eql (.t 10) (.c (.int .u8 10))), oo_ 12 (.pick (.t 9) (.c (.bool true)) (.t 11)), om_ 13 12, og_ 14 13 false (.mv (.t 0)), og_ 15 13 false (.bin .eql (.t 14) (.c (.int .u8 13))), oo_ 16 (.pick (.t 13) (.c (.bool true)) (.t 15)), om_ 2 16]) .ret))
theorem token_blank.code : comp PG [] (Tryz.f114.body.getD .skip) = token_blank.c := by kernel_rfl
theorem token_blank.of : OfE PG 114 1 token_blank.c [(.t 2)] := fnE (nt := 17) mixed Tryz.func114 token_blank.code (by kernel_rfl) (by kernel_rfl) (by kernel_rfl) (by kernel_rfl) (by kernel_rfl) (by kernel_rfl)
def token_lexer_next.n : Nat := 115
noncomputable def token_lexer_next.c : C := (.seq (.reg [oo_ 2 (.allc 111 [(.int .i64 0), (.str []), (.int .u64 0), (.int .i64 0)]), oo_ 3 (.allc 72 [(.int .i64 0), (.int .i64 0)])]) (.seq (.seq (.reg [oo_ 6 (.call 157 []), oo_ 7 (.len false (.t 6)), oo_ 8 (.mv (.c (.int .i64 0)))]) (.block 0 (.loop (.seq (.reg [oo_ 9 (.bin .lss (.t 8) (.t 7))]) (.seq (.cond (.t 9) .skip (.exit 0)) (.seq (.block 1 (.seq (.reg [oo_ 10 (.iaddr 2 (.t 6) (.t 8)), oo_ 11 (.load (some 2) (.t 10)), oo_ 5 (.allc 208 [.nilF, .nilF]), os_ (.store 2 (.t 5) (.t 11))]) (.seq (.dreg [of_ 12 0 5, ol_ 13 12, om_ 14 0, oo_ 15 (.nilck (.t 14)), of_ 16 0 15, ol_ 17 16, om_ 18 0, oo_ 19 (.nilck (.t 18)), of_ 20 1 19, ol_ 21 20, oo_ 22 (.idx (.t 17) (.t 21))] [oo_ 23 (.callv (.t 13) [(.t 22)])]) (.cond (.t 23) (.seq (.reg [of_ 24 1 5, ol_ 25 24, om_ 26 0, oo_ 27 (.callv (.t 25) [(.t 26)]), oo_ 28 (.extr (.t 27) 0), oo_ 29 (.extr (.t 27) 1), os_ (.store 4 (.t 2) (.t 28)), os_ (.store 2 (.t 3) (.t 29))]) .ret) .skip)))) (.reg [oo_ 30 (.bin .add (.t 8) (.c (.int .i64 1))), om_ 8 30]))))))) (.seq (.dreg [oo_ 31 (.build [(.int .i64 0), (.str []), (.int .u64 0), (.int .i64 0)] []), om_ 32 0, oo_ 33 (.nilck (.t 32)), of_ 34 1 33, ol_ 35 34, oo_ 36 (.build [(.int .i64 0), (.int .i64 0)] [(0, (1, (.c (.int .i64 11)))), (1, (1, (.t 35)))]), os_ (.store 4 (.t 2) (.t 31))] [os_ (.store 2 (.t 3) (.t 36))]) .ret)))
theorem token_lexer_next.code : comp PG [] (Tryz.f115.body.getD .skip) = token_lexer_next.c := by kernel_rfl
theorem token_lexer_next.of : OfE PG 115 1 token_lexer_next.c [(.cell 2 (some 4)), (.cell 3 (some 2))] := fnE (nt := 37) mixed Tryz.func115 token_lexer_next.code (by kernel_rfl) (by kernel_rfl) (by kernel_rfl) (by kernel_rfl) (by kernel_rfl) (by kernel_rfl)
def strings_CutPrefix.n : Nat := 147
noncomputable def strings_CutPrefix.c : C := (.seq (.reg [oo_ 4 (.mv (.c (.str []))), oo_ 5 (.mv (.c (.bool false)))]) (.seq (.reg [om_ 6 0, om_ 7 1, oo_ 8 (.call 176 [(.t 6), (.t 7)]), oo_ 9 (.extr (.t 8) 0), oo_ 10 (.extr (.t 8) 1), om_ 4 9, om_ 5 10]) .ret))
theorem strings_CutPrefix.code : comp PG [] (Tryz.f147.body.getD .skip) = strings_CutPrefix.c := by kernel_rfl
theorem strings_CutPrefix.of : OfE PG 147 2 strings_CutPrefix.c [(.t 4), (.t 5)] := fnE (nt := 11) mixed Tryz.func147 strings_CutPrefix.code (by kernel_rfl) (by kernel_rfl) (by kernel_rfl) (by kernel_rfl) (by kernel_rfl) (by kernel_rfl)
def name_Lead.n : Nat := 148
noncomputable def name_Lead.c : C := (.seq (.reg [oo_ 2 (.mv (.c (.int .i64 0)))]) (.seq (.reg [oo_ 3 (.mv (.c (.int .i64 0)))]) (.seq (.block 0 (.loop (.seq (.seq (.reg [om_ 4 3, om_ 5 0, oo_ 6 (.len true (.t 5)), oo_ 7 (.bin .lss (.t 4) (.t 6)), om_ 8 7, og_ 9 8 true (.mv (.t 0)), og_ 10 8 true (.mv (.t 3)), og_ 11 8 true (.idx (.t 9) (.t 10)), og_ 12 8 true (.mv (.t 3)), og_ 13 8 true (.bin .eql (.t 12) (.c (.int .i64 0))), og_ 14 8 true (.call 177 [(.t 11), (.t 13)]), oo_ 15 (.pick (.t 8) (.t 14) (.c (.bool false)))]) (.cond (.t 15) .skip (.exit 0))) (.block 1 (.reg [om_ 16 3, oo_ 17 (.bin .add (.t 16) (.c (.int .i64 1))), om_ 3 17]))))) (.seq (.reg [om_ 18 3, om_ 2 18]) .ret))))
theorem name_Lead.code : comp PG [] (Tryz.f148.body.getD .skip) = name_Lead.c := by kernel_rfl
theorem name_Lead.of : OfE PG 148 1 name_Lead.c [(.t 2)] := fnE (nt := 19) mixed Tryz.func148 name_Lead.code (by kernel_rfl) (by kernel_rfl) (by kernel_rfl) (by kernel_rfl) (by kernel_rfl) (by kernel_rfl)
def token_kinds.n : Nat := 157
noncomputable def token_kinds.c : C := (.seq (.reg [oo_ 0 (.mv (.c .nilS))]) (.seq (.reg [oo_ 1 (.build [.nilF, .nilF] [(0, (1, (.c (.clo 180 [] [])))), (1, (1, (.c (.clo 181 [] []))))]), oo_ 2 (.build [.nilF, .nilF] [(0, (1, (.c (.clo 182 [] [])))), (1, (1, (.c (.clo 183 [] []))))]), oo_ 3 (.build [.nilF, .nilF] [(0, (1, (.c (.clo 184 [] [])))), (1, (1, (.c (.clo 185 [] []))))]), oo_ 4 (.build [.nilF, .nilF] [(0, (1, (.c (.clo 186 [] [])))), (1, (1, (.c (.clo 187 [] []))))]), oo_ 5 (.build [.nilF, .nilF] [(0, (1, (.c (.clo 188 [] [])))), (1, (1, (.c (.clo 189 [] []))))]), oo_ 6 (.bslice 208 2 5 [.nilF, .nilF] [(0, (.t 1)), (1, (.t 2)), (2, (.t 3)), (3, (.t 4)), (4, (.t 5))]), om_ 0 6]) .ret))
theorem token_kinds.code : comp PG [] (Tryz.f157.body.getD .skip) = token_kinds.c := by kernel_rfl
theorem token_kinds.of : OfE PG 157 0 token_kinds.c [(.t 0)] := fnE (nt := 7) mixed Tryz.func157 token_kinds.code (by kernel_rfl) (by kernel_rfl) (by kernel_rfl) (by kernel_rfl) (by kernel_rfl) (by kernel_rfl)
def name_Word.n : Nat := 160
noncomputable def name_Word.c : C := (.seq (.reg [oo_ 2 (.mv (.c (.bool false)))]) (.seq (.seq (.reg [om_ 3 0]) (.block 0 (.seq (.seq (.reg [oo_ 5 (.bin .eql (.t 3) (.c (.str [65, 78, 68]))), om_ 4 5]) (.cond (.t 4) .skip (.seq (.reg [oo_ 6 (.bin .eql (.t 3) (.c (.str [79, 82]))), om_ 4 6]) (.cond (.t 4) .skip (.seq (.reg [oo_ 7 (.bin .eql (.t 3) (.c (.str [78, 79, 84]))), om_ 4 7]) (.cond (.t 4) .skip (.seq (.reg [oo_ 8 (.bin .eql (.t 3) (.c (.str [66, 69, 84, 87, 69, 69, 78]))), om_ 4 8]) (.cond (.t 4) .skip (.seq (.reg [oo_ 9 (.bin .eql (.t 3) (.c (.str [76, 73, 75, 69]))), om_ 4 9]) (.cond (.t 4) .skip (.seq (.reg [oo_ 10 (.bin .eql (.t 3) (.c (.str [84, 82, 85, 69]))), om_ 4 10]) (.cond (.t 4) .skip (.reg [oo_ 11 (.bin .eql (.t 3) (.c (.str [70, 65, 76, 83, 69]))), om_ 4 11]))))))))))))) (.cond (.t 4) (.seq (.reg [oo_ 2 (.mv (.c (.bool true)))]) .ret) .skip)))) (.seq (.reg [oo_ 2 (.mv (.c (.bool false)))]) .ret)))
theorem name_Word.code : comp PG [] (Tryz.f160.body.getD .skip) = name_Word.c := by kernel_rfl
theorem name_Word.of : OfE PG 160 1 name_Word.c [(.t 2)] := fnE (nt := 12) mixed Tryz.func160 name_Word.code (by kernel_rfl) (by kernel_rfl) (by kernel_rfl) (by kernel_rfl) (by kernel_rfl) (by kernel_rfl)
def strings_IndexByte.n : Nat := 175
noncomputable def strings_IndexByte.c : C := (.seq (.reg [oo_ 4 (.mv (.c (.int .i64 0)))]) (.seq (.reg [om_ 5 0, om_ 6 1, oo_ 7 (.call 205 [(.t 5), (.t 6)]), om_ 4 7]) .ret))
theorem strings_IndexByte.code : comp PG [] (Tryz.f175.body.getD .skip) = strings_IndexByte.c := by kernel_rfl
theorem strings_IndexByte.of : OfE PG 175 2 strings_IndexByte.c [(.t 4)] := fnE (nt := 8) mixed Tryz.func175 strings_IndexByte.code (by kernel_rfl) (by kernel_rfl) (by kernel_rfl) (by kernel_rfl) (by kernel_rfl) (by kernel_rfl)
def stringslite_CutPrefix.n : Nat := 176
noncomputable def stringslite_CutPrefix.c : C := (.seq (.reg [oo_ 4 (.mv (.c (.str []))), oo_ 5 (.mv (.c (.bool false)))]) (.seq (.seq (.reg [om_ 6 0, om_ 7 1, oo_ 8 (.call 206 [(.t 6), (.t 7)]), oo_ 9 (.un .not (.t 8))]) (.cond (.t 9) (.seq (.reg [om_ 10 0, om_ 4 10, oo_ 5 (.mv (.c (.bool false)))]) .ret) .skip)) (.seq (.reg [om_ 11 0, om_ 12 1, oo_ 13 (.len true (.t 12)), oo_ 14 (.slice none (.t 11) (some (.t 13)) none), om_ 4 14, oo_ 5 (.mv (.c (.bool true)))]) .ret)))
theorem stringslite_CutPrefix.code : comp PG [] (Tryz.f176.body.getD .skip) = stringslite_CutPrefix.c := by kernel_rfl
theorem stringslite_CutPrefix.of : OfE PG 176 2 stringslite_CutPrefix.c [(.t 4), (.t 5)] := fnE (nt := 15) mixed Tryz.func176 stringslite_CutPrefix.code (by kernel_rfl) (by kernel_rfl) (by kernel_rfl) (by kernel_rfl) (by kernel_rfl) (by kernel_rfl)
def name_may.n : Nat := 177
noncomputable def name_may.c : C := (.seq (.reg [oo_ 4 (.mv (.c (.bool false)))]) (.seq (.block 0 (.seq (.block 2 (.seq (.block 1 (.seq (.seq (.seq (.seq (.reg [om_ 6 0, oo_ 7 (.bin .geq (.t 6) (.c (.int .u8 48))), om_ 8 7, og_ 9 8 true (.mv (.t 0)), og_ 10 8 true (.bin .leq (.t 9) (.c (.int .u8 57))), oo_ 11 (.pick (.t 8) (.t 10) (.c (.bool false))), om_ 5 11]) (.cond (.t 5) .skip (.reg [om_ 12 0, oo_ 13 (.bin .eql (.t 12) (.c (.int .u8 95))), om_ 5 13]))) (.cond (.t 5) (.exit 1) .skip)) (.seq (.seq (.reg [om_ 15 0, oo_ 16 (.bin .geq (.t 15) (.c (.int .u8 97))), om_ 17 16, og_ 18 17 true (.mv (.t 0)), og_ 19 17 true (.bin .leq (.t 18) (.c (.int .u8 122))), oo_ 20 (.pick (.t 17) (.t 19) (.c (.bool false))), om_ 14 20]) (.cond (.t 14) .skip (.reg [om_ 21 0, oo_ 22 (.bin .geq (.t 21) (.c (.int .u8 65))), om_ 23 22, og_ 24 23 true (.mv (.t 0)), og_ 25 23 true (.bin .leq (.t 24) (.c (.int .u8 90))), oo_ 26 (.pick (.t 23) (.t 25) (.c (.bool false))), om_ 14 26]))) (.cond (.t 14) (.exit 2) .skip))) (.exit 0))) (.seq (.reg [om_ 27 1]) (.cond (.t 27) (.seq (.reg [oo_ 4 (.mv (.c (.bool false)))]) .ret) .skip)))) (.seq (.seq (.reg [oo_ 4 (.mv (.c (.bool true)))]) .ret) (.exit 0)))) (.seq (.reg [oo_ 4 (.mv (.c (.bool false)))]) .ret)))
theorem name_may.code : comp PG [] (Tryz.f177.body.getD .skip) = name_may.c := by kernel_rfl
theorem name_may.of : OfE PG 177 2 name_may.c [(.t 4)] := fnE (nt := 28) mixed Tryz.func177 name_may.code (by kernel_rfl) (by kernel_rfl) (by kernel_rfl) (by kernel_rfl) (by kernel_rfl) (by kernel_rfl)
def token_kinds_1.n : Nat := 180
noncomputable def token_kinds_1.c : C := (.seq (.reg [oo_ 2 (.mv (.c (.bool false)))]) (.seq (.reg [om_ 3 0, oo_ 4 (.bslice 5 1 1 [(.int .u8 0)] [(0, (.t 3))]), oo_ 5 (.bytesS (.t 4)), oo_ 6 (.call 148 [(.t 5)]), oo_ 7 (.bin .eql (.t 6) (.c (.int .i64 1))), om_ 2 7]) .ret))
theorem token_kinds_1.code : comp PG [] (Tryz.f180.body.getD .skip) = token_kinds_1.c := by kernel_rfl
theorem token_kinds_1.of : OfE PG 180 1 token_kinds_1.c [(.t 2)] := fnE (nt := 8) mixed Tryz.func180 token_kinds_1.code (by kernel_rfl) (by kernel_rfl) (by kernel_rfl) (by kernel_rfl) (by kernel_rfl) (by kernel_rfl)
def token_word.n : Nat := 181
noncomputable def token_word.c : C := (.seq (.reg [oo_ 2 (.allc 111 [(.int .i64 0), (.str []), (.int .u64 0), (.int .i64 0)]), oo_ 3 (.allc 72 [(.int .i64 0), (.int .i64 0)])]) (.seq (.reg [om_ 4 0, om_ 5 0, oo_ 6 (.call 209 [(.t 5)]), oo_ 7 (.call 148 [(.t 6)]), oo_ 8 (.call 208 [(.t 4), (.c (.int .i64 1)), (.t 7)]), oo_ 9 (.build [(.int .i64 0), (.int .i64 0)] []), os_ (.store 4 (.t 2) (.t 8)), os_ (.store 2 (.t 3) (.t 9))]) .ret))
theorem token_word.code : comp PG [] (Tryz.f181.body.getD .skip) = token_word.c := by kernel_rfl
theorem token_word.of : OfE PG 181 1 token_word.c [(.cell 2 (some 4)), (.cell 3 (some 2))] := fnE (nt := 10) mixed Tryz.func181 token_word.code (by kernel_rfl) (by kernel_rfl) (by kernel_rfl) (by kernel_rfl) (by kernel_rfl) (by kernel_rfl)
def token_digit.n : Nat := 182
noncomputable def token_digit.c : C := (.seq (.reg [oo_ 2 (.mv (.c (.bool false)))]) (.seq (.reg [om_ 3 0, oo_ 4 (.bin .geq (.t 3) (.c (.int .u8 48))), om_ 5 4, og_ 6 5 true (.mv (.t 0)), og_ 7 5 true (.bin .leq (.t 6) (.c (.int .u8 57))), oo_ 8 (.pick (.t 5) (.t 7) (.c (.bool false))), om_ 2 8]) .ret))
theorem token_digit.code : comp PG [] (Tryz.f182.body.getD .skip) = token_digit.c := by kernel_rfl
theorem token_digit.of : OfE PG 182 1 token_digit.c [(.t 2)] := fnE (nt := 9) mixed Tryz.func182 token_digit.code (by kernel_rfl) (by kernel_rfl) (by kernel_rfl) (by kernel_rfl) (by kernel_rfl) (by kernel_rfl)
def token_number.n : Nat := 183
noncomputable def token_number.c : C := (.seq (.reg [oo_ 2 (.allc 111 [(.int .i64 0), (.str []), (.int .u64 0), (.int .i64 0)]), oo_ 3 (.allc 72 [(.int .i64 0), (.int .i64 0)])]) (.seq (.reg [oo_ 4 (.mv (.c (.int .i64 0)))]) (.seq (.block 0 (.loop (.seq (.seq (.reg [om_ 8 4, om_ 9 0, oo_ 10 (.call 209 [(.t 9)]), oo_ 11 (.len true (.t 10)), oo_ 12 (.bin .lss (.t 8) (.t 11)), om_ 13 12, og_ 14 13 true (.mv (.t 0)), og_ 15 13 true (.call 209 [(.t 14)]), og_ 16 13 true (.mv (.t 4)), og_ 17 13 true (.idx (.t 15) (.t 16)), og_ 18 13 true (.call 182 [(.t 17)]), oo_ 19 (.pick (.t 13) (.t 18) (.c (.bool false)))]) (.cond (.t 19) .skip (.exit 0))) (.block 1 (.reg [om_ 20 4, oo_ 21 (.bin .add (.t 20) (.c (.int .i64 1))), om_ 4 21]))))) (.seq (.reg [om_ 22 0, om_ 23 4, oo_ 24 (.call 208 [(.t 22), (.c (.int .i64 2)), (.t 23)]), oo_ 5 (.allc 111 [(.int .i64 0), (.str []), (.int .u64 0), (.int .i64 0)]), os_ (.store 4 (.t 5) (.t 24))]) (.seq (.seq (.reg [om_ 25 4, oo_ 26 (.bin .gtr (.t 25) (.c (.int .i64 1))), om_ 27 26, og_ 28 27 true (.faddr 1 (.t 5)), og_ 29 27 true (.load none (.t 28)), og_ 30 27 true (.idx (.t 29) (.c (.int .i64 0))), og_ 31 27 true (.bin .eql (.t 30) (.c (.int .u8 48))), oo_ 32 (.pick (.t 27) (.t 31) (.c (.bool false)))]) (.cond (.t 32) (.seq (.dreg [oo_ 33 (.load (some 4) (.t 5)), of_ 34 3 5, ol_ 35 34, oo_ 36 (.build [(.int .i64 0), (.int .i64 0)] [(0, (1, (.c (.int .i64 1)))), (1, (1, (.t 35)))]), os_ (.store 4 (.t 2) (.t 33))] [os_ (.store 2 (.t 3) (.t 36))]) .ret) .skip)) (.seq (.seq (.reg [om_ 37 4, oo_ 38 (.mv (.c (.int .i64 0)))]) (.block 2 (.loop (.seq (.reg [oo_ 39 (.bin .lss (.t 38) (.t 37))]) (.seq (.cond (.t 39) .skip (.exit 2)) (.seq (.block 3 (.seq (.reg [om_ 40 38, om_ 6 40]) (.seq (.reg [of_ 41 1 5, ol_ 42 41, om_ 43 6, oo_ 44 (.idx (.t 42) (.t 43)), oo_ 45 (.bin .sub (.t 44) (.c (.int .u8 48))), oo_ 46 (.conv .u64 (.t 45)), om_ 7 46]) (.seq (.seq (.reg [of_ 47 2 5, ol_ 48 47, om_ 49 7, oo_ 50 (.bin .sub (.c (.int .u64 18446744073709551615)) (.t 49)), oo_ 51 (.bin .quo (.t 50) (.c (.int .u64 10))), oo_ 52 (.bin .gtr (.t 48) (.t 51))]) (.cond (.t 52) (.seq (.dreg [oo_ 53 (.load (some 4) (.t 5)), of_ 54 3 5, ol_ 55 54, oo_ 56 (.build [(.int .i64 0), (.int .i64 0)] [(0, (1, (.c (.int .i64 7)))), (1, (1, (.t 55)))]), os_ (.store 4 (.t 2) (.t 53))] [os_ (.store 2 (.t 3) (.t 56))]) .ret) .skip)) (.reg [of_ 57 2 5, ol_ 58 57, oo_ 59 (.bin .mul (.c (.int .u64 10)) (.t 58)), om_ 60 7, oo_ 61 (.bin .add (.t 59) (.t 60)), of_ 62 2 5, os_ (.store 1 (.t 62) (.t 61))]))))) (.reg [oo_ 63 (.bin .add (.t 38) (.c (.int .i64 1))), om_ 38 63]))))))) (.seq (.reg [oo_ 64 (.load (some 4) (.t 5)), oo_ 65 (.build [(.int .i64 0), (.int .i64 0)] []), os_ (.store 4 (.t 2) (.t 64)), os_ (.store 2 (.t 3) (.t 65))]) .ret)))))))
theorem token_number.code : comp PG [] (Tryz.f183.body.getD .skip) = token_number.c := by kernel_rfl
theorem token_number.of : OfE PG 183 1 token_number.c [(.cell 2 (some 4)), (.cell 3 (some 2))] := fnE (nt := 66) mixed Tryz.func183 token_number.code (by kernel_rfl) (by kernel_rfl) (by kernel_rfl) (by kernel_rfl) (by kernel_rfl) (by kernel_rfl)
def token_kinds_2.n : Nat := 184
noncomputable def token_kinds_2.c : C := (.seq (.reg [oo_ 2 (.mv (.c (.bool false)))]) (.seq (.reg [om_ 3 0, oo_ 4 (.bin .eql (.t 3) (.c (.int .u8 39))), om_ 2 4]) .ret))
theorem token_kinds_2.code : comp PG [] (Tryz.f184.body.getD .skip) = token_kinds_2.c := by kernel_rfl
theorem token_kinds_2.of : OfE PG 184 1 token_kinds_2.c [(.t 2)] := fnE (nt := 5) mixed Tryz.func184 token_kinds_2.code (by kernel_rfl) (by kernel_rfl) (by kernel_rfl) (by kernel_rfl) (by kernel_rfl) (by kernel_rfl)
def token_text.n : Nat := 185
noncomputable def token_text.c : C := (.seq (.reg [oo_ 2 (.allc 111 [(.int .i64 0), (.str []), (.int .u64 0), (.int .i64 0)]), oo_ 3 (.allc 72 [(.int .i64 0), (.int .i64 0)])]) (.seq (.reg [om_ 7 0, oo_ 8 (.nilck (.t 7)), of_ 9 1 8, ol_ 10 9, oo_ 11 (.build [(.int .i64 0), (.str []), (.int .u64 0), (.int .i64 0)] [(0, (1, (.c (.int .i64 3)))), (3, (1, (.t 10)))]), oo_ 4 (.allc 111 [(.int .i64 0), (.str []), (.int .u64 0), (.int .i64 0)]), os_ (.store 4 (.t 4) (.t 11))]) (.seq (.reg [oo_ 5 (.allc 236 [.nilP, .nilS])]) (.seq (.seq (.reg [om_ 12 0, oo_ 13 (.nilck (.t 12)), of_ 14 1 13, ol_ 15 14, oo_ 16 (.bin .add (.t 15) (.c (.int .i64 1))), oo_ 17 (.nilck (.t 12)), of_ 18 1 17, os_ (.store 1 (.t 18) (.t 16))]) (.block 0 (.loop (.seq (.seq (.dreg [om_ 19 0, oo_ 20 (.nilck (.t 19)), of_ 21 1 20, ol_ 22 21, om_ 23 0, oo_ 24 (.nilck (.t 23)), of_ 25 0 24, ol_ 26 25, oo_ 27 (.len true (.t 26))] [oo_ 28 (.bin .lss (.t 22) (.t 27))]) (.cond (.t 28) .skip (.exit 0))) (.seq (.block 1 (.seq (.dreg [om_ 36 0, oo_ 37 (.nilck (.t 36)), of_ 38 0 37, ol_ 39 38, om_ 40 0, oo_ 41 (.nilck (.t 40)), of_ 42 1 41, ol_ 43 42] [oo_ 44 (.idx (.t 39) (.t 43)), om_ 6 44]) (.block 2 (.seq (.reg [om_ 57 6, oo_ 58 (.bin .lss (.t 57) (.c (.int .u8 32))), om_ 59 58, og_ 60 59 false (.mv (.t 6)), og_ 61 59 false (.bin .gtr (.t 60) (.c (.int .u8 126))), oo_ 62 (.pick (.t 59) (.c (.bool true)) (.t 61)), om_ 56 62]) (.cond (.t 56) (.seq (.dreg [oo_ 63 (.load (some 4) (.t 4)), om_ 64 0, oo_ 65 (.nilck (.t 64)), of_ 66 1 65, ol_ 67 66, oo_ 68 (.build [(.int .i64 0), (.int .i64 0)] [(0, (1, (.c (.int .i64 10)))), (1, (1, (.t 67)))]), os_ (.store 4 (.t 2) (.t 63))] [os_ (.store 2 (.t 3) (.t 68))]) .ret) (.seq (.reg [om_ 70 6, oo_ 71 (.bin .neq (.t 70) (.c (.int .u8 39))), om_ 69 71]) (.cond (.t 69) (.reg [om_ 72 6, oo_ 73 (.call 210 [(.t 5), (.t 72)])]) (.seq (.reg [om_ 75 0, oo_ 76 (.call 209 [(.t 75)]), oo_ 77 (.call 211 [(.t 76), (.c (.str [39, 39]))]), om_ 74 77]) (.cond (.t 74) (.seq (.reg [om_ 78 6, oo_ 79 (.call 210 [(.t 5), (.t 78)])]) (.reg [om_ 80 0, oo_ 81 (.nilck (.t 80)), of_ 82 1 81, ol_ 83 82, oo_ 84 (.bin .add (.t 83) (.c (.int .i64 1))), oo_ 85 (.nilck (.t 80)), of_ 86 1 85, os_ (.store 1 (.t 86) (.t 84))])) (.seq (.reg [om_ 45 0, oo_ 46 (.nilck (.t 45)), of_ 47 1 46, ol_ 48 47, oo_ 49 (.bin .add (.t 48) (.c (.int .i64 1))), oo_ 50 (.nilck (.t 45)), of_ 51 1 50, os_ (.store 1 (.t 51) (.t 49))]) (.seq (.reg [oo_ 52 (.call 212 [(.t 5)]), of_ 53 1 4, os_ (.store 1 (.t 53) (.t 52))]) (.seq (.reg [oo_ 54 (.load (some 4) (.t 4)), oo_ 55 (.build [(.int .i64 0), (.int .i64 0)] []), os_ (.store 4 (.t 2) (.t 54)), os_ (.store 2 (.t 3) (.t 55))]) .ret)))))))))))) (.reg [om_ 29 0, oo_ 30 (.nilck (.t 29)), of_ 31 1 30, ol_ 32 31, oo_ 33 (.bin .add (.t 32) (.c (.int .i64 1))), oo_ 34 (.nilck (.t 29)), of_ 35 1 34, os_ (.store 1 (.t 35) (.t 33))])))))) (.seq (.dreg [oo_ 87 (.load (some 4) (.t 4)), of_ 88 3 4, ol_ 89 88, oo_ 90 (.build [(.int .i64 0), (.int .i64 0)] [(0, (1, (.c (.int .i64 2)))), (1, (1, (.t 89)))]), os_ (.store 4 (.t 2) (.t 87))] [os_ (.store 2 (.t 3) (.t 90))]) .ret)))))
theorem token_text.code : comp PG [] (Tryz.f185.body.getD .skip) = token_text.c := by kernel_rfl
theorem token_text.of : OfE PG 185 1 token_text.c [(.cell 2 (some 4)), (.cell 3 (some 2))] := fnE (nt := 91) mixed Tryz.func185 token_text.code (by kernel_rfl) (by kernel_rfl) (by kernel_rfl) (by kernel_rfl) (by kernel_rfl) (by kernel_rfl)
def token_kinds_3.n : Nat := 186
noncomputable def token_kinds_3.c : C := (.seq (.reg [oo_ 2 (.mv (.c (.bool false)))]) (.seq (.reg [om_ 3 0, oo_ 4 (.bin .eql (.t 3) (.c (.int .u8 37))), om_ 2 4]) .ret))
theorem token_kinds_3.code : comp PG [] (Tryz.f186.body.getD .skip) = token_kinds_3.c := by kernel_rfl
theorem token_kinds_3.of : OfE PG 186 1 token_kinds_3.c [(.t 2)] := fnE (nt := 5) mixed Tryz.func186 token_kinds_3.code (by kernel_rfl) (by kernel_rfl) (by kernel_rfl) (by kernel_rfl) (by kernel_rfl) (by kernel_rfl)
def token_param.n : Nat := 187
noncomputable def token_param.c : C := (.seq (.reg [oo_ 2 (.allc 111 [(.int .i64 0), (.str []), (.int .u64 0), (.int .i64 0)]), oo_ 3 (.allc 72 [(.int .i64 0), (.int .i64 0)])]) (.seq (.seq (.reg [om_ 5 0, oo_ 6 (.call 209 [(.t 5)]), oo_ 7 (.len true (.t 6)), oo_ 8 (.bin .lss (.t 7) (.c (.int .i64 2))), om_ 9 8, og_ 10 9 false (.mv (.t 0)), og_ 11 9 false (.call 209 [(.t 10)]), og_ 12 9 false (.idx (.t 11) (.c (.int .i64 1))), og_ 13 9 false (.call 182 [(.t 12)]), og_ 14 9 false (.un .not (.t 13)), oo_ 15 (.pick (.t 9) (.c (.bool true)) (.t 14))]) (.cond (.t 15) (.seq (.dreg [oo_ 16 (.build [(.int .i64 0), (.str []), (.int .u64 0), (.int .i64 0)] []), om_ 17 0, oo_ 18 (.nilck (.t 17)), of_ 19 1 18, ol_ 20 19, oo_ 21 (.build [(.int .i64 0), (.int .i64 0)] [(0, (1, (.c (.int .i64 11)))), (1, (1, (.t 20)))]), os_ (.store 4 (.t 2) (.t 16))] [os_ (.store 2 (.t 3) (.t 21))]) .ret) .skip)) (.seq (.reg [om_ 22 0, oo_ 23 (.call 208 [(.t 22), (.c (.int .i64 4)), (.c (.int .i64 2))]), oo_ 4 (.allc 111 [(.int .i64 0), (.str []), (.int .u64 0), (.int .i64 0)]), os_ (.store 4 (.t 4) (.t 23))]) (.seq (.reg [of_ 24 1 4, ol_ 25 24, oo_ 26 (.idx (.t 25) (.c (.int .i64 1))), oo_ 27 (.bin .sub (.t 26) (.c (.int .u8 48))), oo_ 28 (.conv .u64 (.t 27)), of_ 29 2 4, os_ (.store 1 (.t 29) (.t 28))]) (.seq (.reg [oo_ 30 (.load (some 4) (.t 4)), oo_ 31 (.build [(.int .i64 0), (.int .i64 0)] []), os_ (.store 4 (.t 2) (.t 30)), os_ (.store 2 (.t 3) (.t 31))]) .ret)))))
theorem token_param.code : comp PG [] (Tryz.f187.body.getD .skip) = token_param.c := by kernel_rfl
theorem token_param.of : OfE PG 187 1 token_param.c [(.cell 2 (some 4)), (.cell 3 (some 2))] := fnE (nt := 32) mixed Tryz.func187 token_param.code (by kernel_rfl) (by kernel_rfl) (by kernel_rfl) (by kernel_rfl) (by kernel_rfl) (by kernel_rfl)
def token_kinds_4.n : Nat := 188
noncomputable def token_kinds_4.c : C := (.seq (.reg [oo_ 2 (.mv (.c (.bool false)))]) (.seq (.reg [om_ 3 0, oo_ 4 (.call 175 [(.c (.str [61, 60, 62, 40, 41, 46, 91, 93, 45])), (.t 3)]), oo_ 5 (.bin .geq (.t 4) (.c (.int .i64 0))), om_ 2 5]) .ret))
theorem token_kinds_4.code : comp PG [] (Tryz.f188.body.getD .skip) = token_kinds_4.c := by kernel_rfl
theorem token_kinds_4.of : OfE PG 188 1 token_kinds_4.c [(.t 2)] := fnE (nt := 6) mixed Tryz.func188 token_kinds_4.code (by kernel_rfl) (by kernel_rfl) (by kernel_rfl) (by kernel_rfl) (by kernel_rfl) (by kernel_rfl)
def token_sign.n : Nat := 189
noncomputable def token_sign.c : C := (.seq (.reg [oo_ 2 (.allc 111 [(.int .i64 0), (.str []), (.int .u64 0), (.int .i64 0)]), oo_ 3 (.allc 72 [(.int .i64 0), (.int .i64 0)])]) (.seq (.seq (.reg [oo_ 6 (.bslice 9 1 3 [(.str [])] [(0, (.c (.str [60, 62]))), (1, (.c (.str [60, 61]))), (2, (.c (.str [62, 61])))]), oo_ 7 (.len false (.t 6)), oo_ 8 (.mv (.c (.int .i64 0)))]) (.block 0 (.loop (.seq (.reg [oo_ 9 (.bin .lss (.t 8) (.t 7))]) (.seq (.cond (.t 9) .skip (.exit 0)) (.seq (.block 1 (.seq (.reg [oo_ 10 (.iaddr 1 (.t 6) (.t 8)), ol_ 11 10, om_ 5 11]) (.seq (.reg [om_ 12 0, oo_ 13 (.call 209 [(.t 12)]), om_ 14 5, oo_ 15 (.call 211 [(.t 13), (.t 14)])]) (.cond (.t 15) (.seq (.reg [om_ 16 0, oo_ 17 (.call 208 [(.t 16), (.c (.int .i64 5)), (.c (.int .i64 2))]), oo_ 18 (.build [(.int .i64 0), (.int .i64 0)] []), os_ (.store 4 (.t 2) (.t 17)), os_ (.store 2 (.t 3) (.t 18))]) .ret) .skip)))) (.reg [oo_ 19 (.bin .add (.t 8) (.c (.int .i64 1))), om_ 8 19]))))))) (.seq (.reg [om_ 20 0, oo_ 21 (.call 208 [(.t 20), (.c (.int .i64 5)), (.c (.int .i64 1))]), oo_ 22 (.build [(.int .i64 0), (.int .i64 0)] []), os_ (.store 4 (.t 2) (.t 21)), os_ (.store 2 (.t 3) (.t 22))]) .ret)))
theorem token_sign.code : comp PG [] (Tryz.f189.body.getD .skip) = token_sign.c := by kernel_rfl
theorem token_sign.of : OfE PG 189 1 token_sign.c [(.cell 2 (some 4)), (.cell 3 (some 2))] := fnE (nt := 23) mixed Tryz.func189 token_sign.code (by kernel_rfl) (by kernel_rfl) (by kernel_rfl) (by kernel_rfl) (by kernel_rfl) (by kernel_rfl)
def stringslite_IndexByte.n : Nat := 205
noncomputable def stringslite_IndexByte.c : C := (.seq (.reg [oo_ 4 (.mv (.c (.int .i64 0)))]) (.seq (.reg [om_ 5 0, om_ 6 1, oo_ 7 (.ext .ixb [(.t 5), (.t 6)]), om_ 4 7]) .ret))
theorem stringslite_IndexByte.code : comp PG [] (Tryz.f205.body.getD .skip) = stringslite_IndexByte.c := by kernel_rfl
theorem stringslite_IndexByte.of : OfE PG 205 2 stringslite_IndexByte.c [(.t 4)] := fnE (nt := 8) mixed Tryz.func205 stringslite_IndexByte.code (by kernel_rfl) (by kernel_rfl) (by kernel_rfl) (by kernel_rfl) (by kernel_rfl) (by kernel_rfl)
def stringslite_HasPrefix.n : Nat := 206
noncomputable def stringslite_HasPrefix.c : C := (.seq (.reg [oo_ 4 (.mv (.c (.bool false)))]) (.seq (.reg [om_ 5 0, oo_ 6 (.len true (.t 5)), om_ 7 1, oo_ 8 (.len true (.t 7)), oo_ 9 (.bin .geq (.t 6) (.t 8)), om_ 10 9, og_ 11 10 true (.mv (.t 0)), og_ 12 10 true (.mv (.t 1)), og_ 13 10 true (.len true (.t 12)), og_ 14 10 true (.slice none (.t 11) none (some (.t 13))), og_ 15 10 true (.mv (.t 1)), og_ 16 10 true (.bin .eql (.t 14) (.t 15)), oo_ 17 (.pick (.t 10) (.t 16) (.c (.bool false))), om_ 4 17]) .ret))
theorem stringslite_HasPrefix.code : comp PG [] (Tryz.f206.body.getD .skip) = stringslite_HasPrefix.c := by kernel_rfl
theorem stringslite_HasPrefix.of : OfE PG 206 2 stringslite_HasPrefix.c [(.t 4)] := fnE (nt := 18) mixed Tryz.func206 stringslite_HasPrefix.code (by kernel_rfl) (by kernel_rfl) (by kernel_rfl) (by kernel_rfl) (by kernel_rfl) (by kernel_rfl)
def token_lexer_cut.n : Nat := 208
noncomputable def token_lexer_cut.c : C := (.seq (.reg [oo_ 6 (.allc 111 [(.int .i64 0), (.str []), (.int .u64 0), (.int .i64 0)])]) (.seq (.dreg [om_ 8 1, om_ 9 0, oo_ 10 (.call 209 [(.t 9)]), om_ 11 2, oo_ 12 (.slice none (.t 10) none (some (.t 11))), om_ 13 0, oo_ 14 (.nilck (.t 13)), of_ 15 1 14, ol_ 16 15, oo_ 17 (.build [(.int .i64 0), (.str []), (.int .u64 0), (.int .i64 0)] [(0, (1, (.t 8))), (1, (1, (.t 12))), (3, (1, (.t 16)))]), oo_ 7 (.allc 111 [(.int .i64 0), (.str []), (.int .u64 0), (.int .i64 0)])] [os_ (.store 4 (.t 7) (.t 17))]) (.seq (.reg [om_ 18 0, oo_ 19 (.nilck (.t 18)), of_ 20 1 19, ol_ 21 20, om_ 22 2, oo_ 23 (.bin .add (.t 21) (.t 22)), oo_ 24 (.nilck (.t 18)), of_ 25 1 24, os_ (.store 1 (.t 25) (.t 23))]) (.seq (.reg [oo_ 26 (.load (some 4) (.t 7)), os_ (.store 4 (.t 6) (.t 26))]) .ret))))
theorem token_lexer_cut.code : comp PG [] (Tryz.f208.body.getD .skip) = token_lexer_cut.c := by kernel_rfl
theorem token_lexer_cut.of : OfE PG 208 3 token_lexer_cut.c [(.cell 6 (some 4))] := fnE (nt := 27) mixed Tryz.func208 token_lexer_cut.code (by kernel_rfl) (by kernel_rfl) (by kernel_rfl) (by kernel_rfl) (by kernel_rfl) (by kernel_rfl)
def token_lexer_rest.n : Nat := 209
noncomputable def token_lexer_rest.c : C := (.seq (.reg [oo_ 2 (.mv (.c (.str [])))]) (.seq (.dreg [om_ 3 0, oo_ 4 (.nilck (.t 3)), of_ 5 0 4, ol_ 6 5, om_ 7 0, oo_ 8 (.nilck (.t 7)), of_ 9 1 8, ol_ 10 9] [oo_ 11 (.slice none (.t 6) (some (.t 10)) none), om_ 2 11]) .ret))
theorem token_lexer_rest.code : comp PG [] (Tryz.f209.body.getD .skip) = token_lexer_rest.c := by kernel_rfl
theorem token_lexer_rest.of : OfE PG 209 1 token_lexer_rest.c [(.t 2)] := fnE (nt := 12) mixed Tryz.func209 token_lexer_rest.code (by kernel_rfl) (by kernel_rfl) (by kernel_rfl) (by kernel_rfl) (by kernel_rfl) (by kernel_rfl)
def strings_Builder_WriteByte.n : Nat := 210
noncomputable def strings_Builder_WriteByte.c : C := (.seq (.reg [oo_ 4 (.mv (.c .nilI))]) (.seq (.reg [om_ 5 0, oo_ 6 (.call 220 [(.t 5)])]) (.seq (.reg [om_ 7 0, om_ 8 0, oo_ 9 (.nilck (.t 8)), of_ 10 1 9, ol_ 11 10, om_ 12 1, oo_ 13 (.bslice 5 1 1 [(.int .u8 0)] [(0, (.t 12))]), oo_ 14 (.append 5 false 1 1 (.t 11) (.t 13)), oo_ 15 (.nilck (.t 7)), of_ 16 1 15, os_ (.store 1 (.t 16) (.t 14))]) (.seq (.reg [oo_ 4 (.mv (.c .nilI))]) .ret))))
theorem strings_Builder_WriteByte.code : comp PG [] (Tryz.f210.body.getD .skip) = strings_Builder_WriteByte.c := by kernel_rfl
theorem strings_Builder_WriteByte.of : OfE PG 210 2 strings_Builder_WriteByte.c [(.t 4)] := fnE (nt := 17) mixed Tryz.func210 strings_Builder_WriteByte.code (by kernel_rfl) (by kernel_rfl) (by kernel_rfl) (by kernel_rfl) (by kernel_rfl) (by kernel_rfl)
def strings_HasPrefix.n : Nat := 211
noncomputable def strings_HasPrefix.c : C := (.seq (.reg [oo_ 4 (.mv (.c (.bool false)))]) (.seq (.reg [om_ 5 0, om_ 6 1, oo_ 7 (.call 206 [(.t 5), (.t 6)]), om_ 4 7]) .ret))
theorem strings_HasPrefix.code : comp PG [] (Tryz.f211.body.getD .skip) = strings_HasPrefix.c := by kernel_rfl
theorem strings_HasPrefix.of : OfE PG 211 2 strings_HasPrefix.c [(.t 4)] := fnE (nt := 8) mixed Tryz.func211 strings_HasPrefix.code (by kernel_rfl) (by kernel_rfl) (by kernel_rfl) (by kernel_rfl) (by kernel_rfl) (by kernel_rfl)
def strings_Builder_String.n : Nat := 212
noncomputable def strings_Builder_String.c : C := (.seq (.reg [oo_ 2 (.mv (.c (.str [])))]) (.seq (.dreg [om_ 3 0, oo_ 4 (.nilck (.t 3)), of_ 5 1 4, ol_ 6 5, oo_ 7 (.sdata (.t 6)), om_ 8 0, oo_ 9 (.nilck (.t 8)), of_ 10 1 9, ol_ 11 10, oo_ 12 (.len false (.t 11))] [oo_ 13 (.ustr 5 (.t 7) (.t 12)), om_ 2 13]) .ret))
theorem strings_Builder_String.code : comp PG [] (Tryz.f212.body.getD .skip) = strings_Builder_String.c := by kernel_rfl
theorem strings_Builder_String.of : OfE PG 212 1 strings_Builder_String.c [(.t 2)] := fnE (nt := 14) mixed Tryz.func212 strings_Builder_String.code (by kernel_rfl) (by kernel_rfl) (by kernel_rfl) (by kernel_rfl) (by kernel_rfl) (by kernel_rfl)
def strings_Builder_copyCheck.n : Nat := 220
noncomputable def strings_Builder_copyCheck.c : C := (.seq (.reg [om_ 2 0, oo_ 3 (.nilck (.t 2)), of_ 4 0 3, ol_ 5 4, oo_ 6 (.ncmpP false (.t 5))]) (.cond (.t 6) (.reg [om_ 7 0, om_ 8 0, oo_ 9 (.idu (.t 8)), oo_ 10 (.ext .same [(.t 9)]), oo_ 11 (.idf [(236, (2, 0))] (.t 10)), oo_ 12 (.nilck (.t 7)), of_ 13 0 12, os_ (.store 1 (.t 13) (.t 11))]) (.seq (.reg [om_ 14 0, oo_ 15 (.nilck (.t 14)), of_ 16 0 15, ol_ 17 16, om_ 18 0, oo_ 19 (.peq true (.t 17) (.t 18))]) (.cond (.t 19) .bad .skip))))
theorem strings_Builder_copyCheck.code : comp PG [] (Tryz.f220.body.getD .skip) = strings_Builder_copyCheck.c := by kernel_rfl
theorem strings_Builder_copyCheck.of : OfE PG 220 1 strings_Builder_copyCheck.c [] := fnE (nt := 20) mixed Tryz.func220 strings_Builder_copyCheck.code (by kernel_rfl) (by kernel_rfl) (by kernel_rfl) (by kernel_rfl) (by kernel_rfl) (by kernel_rfl)
end Go.Proofs.YtjaigpidmngaaaaGreat
