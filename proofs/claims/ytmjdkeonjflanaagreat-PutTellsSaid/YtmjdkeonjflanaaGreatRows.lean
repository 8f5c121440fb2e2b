/-
  NARROWER THAN 'FOR EVERY INPUT', by the rows' own cells (each row's printed sentence says how): PutTells: loops.
  DERIVED. THE GIVEN ROWS OF THIS SEAT. 3 by the template 'for every input the law returns true; each argument reads behind the call as it read before'; 0 by the template 'total and deterministic' (their statements: YtmjdkeonjflanaaGreatTotals.lean).
  GIVEN WITH THE SEED: the statements are not yours to turn. If you find one false, say at which input.
  Laid BY PROGRAM, IN A SANDBOX (cutbox-rows.mjs): the forced cells as the released guide's own fill.sh prints them over the translation 635d501fbe6c14bf… (all of the seat's roots in one cut). By AI agents, Wed Nov 11 2026. No macro, syntax, notation, axiom, sorry.
-/
import Derived.Test.YtmjdkeonjflanaaGreatChecked
import GoSem.Claim
import GoSem.ClaimJoined
import GoSem.ClaimMapViews
import Derived.JoinedTies
import Derived.KernelRfl
namespace Go.Proofs.YtmjdkeonjflanaaGreat
/- THE CELL 'sum', in the pinned program and in every row, IS THE sha256 OF THE DUMP (.gsa) THAT YtmjdkeonjflanaaGreatProg.lean LOADS. Nothing in Lean hashes anything: it is a label: what it is worth is what the hold of that sum in a sandbox is worth. -/
noncomputable def Tryz.pinned : Pinned := { name := "ytmjdkeonjflanaagreat", sum := "635d501fbe6c14bf906f5a11f4aedc2aba01a8c2b4aaa852ee5209343a1efc88", checked := Tryz.checked }
namespace Rows
def none {H : Type} : Left H := { results := [], args := [] }

/-- 'broadsheetlaw10.PutTells': WHATEVER THE INPUT: true; the input reads as it did. -/
def putTellsSpec : ChangeSpec := { name := "putTells", fn := fun _ => fun
  | [d1, d2, d3] => { results := [.lit (.bool true)], args := [d1, d2, d3] }
  | _ => none }
def putTellsRow : OpenClaim := { program := "ytmjdkeonjflanaagreat", sum := "635d501fbe6c14bf906f5a11f4aedc2aba01a8c2b4aaa852ee5209343a1efc88", func := "broadsheet/broadsheetlaw10.PutTells", spec := "putTells", inPlace := ["internal/bytealg.IndexByteString", "internal/abi.NoEscape", "internal/bytealg.MakeNoZero"], unfollowed := true, recurses := true, loops := true, plainKeys := false, apart := false }
def PutTellsSaid : Prop := putTellsRow.holds Tryz.pinned (OpenSpec.ofChange putTellsSpec)

/-- ITS FALSE NEIGHBOUR: 'it returns false'. Refute it at one input. -/
def putTellsWrong : ChangeSpec := { name := "putTells", fn := fun _ => fun
  | [d1, d2, d3] => { results := [.lit (.bool false)], args := [d1, d2, d3] }
  | _ => none }
def PutTellsWrongFalsely : Prop := putTellsRow.holds Tryz.pinned (OpenSpec.ofChange putTellsWrong)

/-- 'broadsheetlaw41.WriterRefuses': WHATEVER THE INPUT: true; the input reads as it did. -/
def writerRefusesSpec : ChangeSpec := { name := "writerRefuses", fn := fun _ => fun
  | [d1, d2, d3] => { results := [.lit (.bool true)], args := [d1, d2, d3] }
  | _ => none }
def writerRefusesRow : OpenClaim := { program := "ytmjdkeonjflanaagreat", sum := "635d501fbe6c14bf906f5a11f4aedc2aba01a8c2b4aaa852ee5209343a1efc88", func := "broadsheet/broadsheetlaw41.WriterRefuses", spec := "writerRefuses", inPlace := ["internal/bytealg.IndexByteString", "internal/abi.NoEscape"], unfollowed := true, recurses := true, plainKeys := false, apart := false }
def WriterRefusesSaid : Prop := writerRefusesRow.holds Tryz.pinned (OpenSpec.ofChange writerRefusesSpec)

/-- ITS FALSE NEIGHBOUR: 'it returns false'. Refute it at one input. -/
def writerRefusesWrong : ChangeSpec := { name := "writerRefuses", fn := fun _ => fun
  | [d1, d2, d3] => { results := [.lit (.bool false)], args := [d1, d2, d3] }
  | _ => none }
def WriterRefusesWrongFalsely : Prop := writerRefusesRow.holds Tryz.pinned (OpenSpec.ofChange writerRefusesWrong)

/-- 'broadsheetlaw41.WriterNone': WHATEVER THE INPUT: true; the input reads as it did. -/
def writerNoneSpec : ChangeSpec := { name := "writerNone", fn := fun _ => fun
  | [d1, d2, d3] => { results := [.lit (.bool true)], args := [d1, d2, d3] }
  | _ => none }
def writerNoneRow : OpenClaim := { program := "ytmjdkeonjflanaagreat", sum := "635d501fbe6c14bf906f5a11f4aedc2aba01a8c2b4aaa852ee5209343a1efc88", func := "broadsheet/broadsheetlaw41.WriterNone", spec := "writerNone", inPlace := ["internal/bytealg.IndexByteString", "internal/abi.NoEscape"], unfollowed := true, recurses := true, plainKeys := false, apart := false }
def WriterNoneSaid : Prop := writerNoneRow.holds Tryz.pinned (OpenSpec.ofChange writerNoneSpec)

/-- ITS FALSE NEIGHBOUR: 'it returns false'. Refute it at one input. -/
def writerNoneWrong : ChangeSpec := { name := "writerNone", fn := fun _ => fun
  | [d1, d2, d3] => { results := [.lit (.bool false)], args := [d1, d2, d3] }
  | _ => none }
def WriterNoneWrongFalsely : Prop := writerNoneRow.holds Tryz.pinned (OpenSpec.ofChange writerNoneWrong)

/- THE SECOND FORM. 'bulk': how many values and letters a reading holds, each counted each time it is reached (what is shared counts as often as it is met; a slice's spare places count too). A statement '..UptoSaid' is the law's where the arguments, and the package variables that the reading takes, are together of bulk at most 1048576: NARROWER than '..Said'. Prove '..Said' where nothing that the law and all that it calls make is longer than what came in: it says more and counts as full. Else prove '..UptoSaid'. A law counts once. -/
mutual
def uptoBulk {H : Type} : DataW H → Nat
  | .lit (.string bytes) => bytes.length + 1
  | .lit _ => 1
  | .nil => 1
  | .ptr d => uptoBulk d + 1
  | .slice elems spare => uptoBulkAll elems + uptoBulkAll spare + 1
  | .agg parts => uptoBulkAll parts + 1
  | .iface _ d => uptoBulk d + 1
  | .map entries => uptoBulkEntries entries + 1
  | .held _ => 1
def uptoBulkAll {H : Type} : List (DataW H) → Nat
  | [] => 0
  | d :: r => uptoBulk d + uptoBulkAll r
def uptoBulkEntries {H : Type} : List (Lit × DataW H) → Nat
  | [] => 0
  | x :: r => uptoBulkEntry x + uptoBulkEntries r
def uptoBulkEntry {H : Type} : Lit × DataW H → Nat
  | (.string bytes, d) => bytes.length + uptoBulk d + 1
  | (_, d) => uptoBulk d + 1
 end
def uptoSmall : (H : Type) → List (DataW H) → Bool := fun _ ds => decide (uptoBulkAll ds ≤ 1048576)
def OpenSpec.upto (s : _root_.Go.ChangeSpec) : _root_.Go.OpenSpec := { _root_.Go.OpenSpec.ofChange s with cond := some uptoSmall }

/-- 'broadsheetlaw10.PutTells', WHERE WHAT IT READS IS OF BULK AT MOST 1048576: true; the input reads as it did. -/
def putTellsUptoRow : OpenClaim := { program := "ytmjdkeonjflanaagreat", sum := "635d501fbe6c14bf906f5a11f4aedc2aba01a8c2b4aaa852ee5209343a1efc88", func := "broadsheet/broadsheetlaw10.PutTells", spec := "putTells", inPlace := ["internal/bytealg.IndexByteString", "internal/abi.NoEscape", "internal/bytealg.MakeNoZero"], unfollowed := true, recurses := true, loops := true, plainKeys := false, apart := false, narrowed := true }
def PutTellsUptoSaid : Prop := putTellsUptoRow.holds Tryz.pinned (OpenSpec.upto putTellsSpec)

/-- 'broadsheetlaw41.WriterRefuses', WHERE WHAT IT READS IS OF BULK AT MOST 1048576: true; the input reads as it did. -/
def writerRefusesUptoRow : OpenClaim := { program := "ytmjdkeonjflanaagreat", sum := "635d501fbe6c14bf906f5a11f4aedc2aba01a8c2b4aaa852ee5209343a1efc88", func := "broadsheet/broadsheetlaw41.WriterRefuses", spec := "writerRefuses", inPlace := ["internal/bytealg.IndexByteString", "internal/abi.NoEscape"], unfollowed := true, recurses := true, plainKeys := false, apart := false, narrowed := true }
def WriterRefusesUptoSaid : Prop := writerRefusesUptoRow.holds Tryz.pinned (OpenSpec.upto writerRefusesSpec)

/-- 'broadsheetlaw41.WriterNone', WHERE WHAT IT READS IS OF BULK AT MOST 1048576: true; the input reads as it did. -/
def writerNoneUptoRow : OpenClaim := { program := "ytmjdkeonjflanaagreat", sum := "635d501fbe6c14bf906f5a11f4aedc2aba01a8c2b4aaa852ee5209343a1efc88", func := "broadsheet/broadsheetlaw41.WriterNone", spec := "writerNone", inPlace := ["internal/bytealg.IndexByteString", "internal/abi.NoEscape"], unfollowed := true, recurses := true, plainKeys := false, apart := false, narrowed := true }
def WriterNoneUptoSaid : Prop := writerNoneUptoRow.holds Tryz.pinned (OpenSpec.upto writerNoneSpec)

end Rows
end Go.Proofs.YtmjdkeonjflanaaGreat
