/-
  No cell of these rows narrows 'for every input' (looked for: loops, veiled, ifaces, maps, wideKeys, modest, calm, conditions, laid).
  DERIVED. THE GIVEN ROWS OF THIS SEAT. 4 by the template 'for every input the law returns true; each argument reads behind the call as it read before'; 0 by the template 'total and deterministic' (their statements: YtehkmfmahgabmaaTotals.lean).
  GIVEN WITH THE SEED: the statements are not yours to turn. If you find one false, say at which input.
  Laid BY PROGRAM, IN A SANDBOX (cutbox-rows.mjs): the forced cells as the released guide's own fill.sh prints them over the translation c797dab9fb93299e… (all of the seat's roots in one cut). By AI agents, Wed Nov 11 2026. No macro, syntax, notation, axiom, sorry.
-/
import Derived.Test.YtehkmfmahgabmaaChecked
import GoSem.Claim
import GoSem.ClaimJoined
import GoSem.ClaimMapViews
import Derived.JoinedTies
import Derived.KernelRfl
namespace Go.Proofs.Ytehkmfmahgabmaa
/- THE CELL 'sum', in the pinned program and in every row, IS THE sha256 OF THE DUMP (.gsa) THAT YtehkmfmahgabmaaProg.lean LOADS. Nothing in Lean hashes anything: it is a label: what it is worth is what the hold of that sum in a sandbox is worth. -/
noncomputable def Try.pinned : Pinned := { name := "ytehkmfmahgabmaa", sum := "c797dab9fb93299e2d4012ce0f12257382fcc892b6cb93df7acce5f51f3a153c", checked := Try.checked }
namespace Rows
def none {H : Type} : Left H := { results := [], args := [] }

/-- 'broadsheetlaw17.LikeJoins': WHATEVER THE INPUT: true; the input reads as it did. -/
def likeJoinsSpec : ChangeSpec := { name := "likeJoins", fn := fun _ => fun
  | [d1, d2, d3] => { results := [.lit (.bool true)], args := [d1, d2, d3] }
  | _ => none }
def likeJoinsRow : OpenClaim := { program := "ytehkmfmahgabmaa", sum := "c797dab9fb93299e2d4012ce0f12257382fcc892b6cb93df7acce5f51f3a153c", func := "broadsheet/broadsheetlaw17.LikeJoins", spec := "likeJoins", apart := false }
def LikeJoinsSaid : Prop := likeJoinsRow.holds Try.pinned (OpenSpec.ofChange likeJoinsSpec)

/-- ITS FALSE NEIGHBOUR: 'it returns false'. Refute it at one input. -/
def likeJoinsWrong : ChangeSpec := { name := "likeJoins", fn := fun _ => fun
  | [d1, d2, d3] => { results := [.lit (.bool false)], args := [d1, d2, d3] }
  | _ => none }
def LikeJoinsWrongFalsely : Prop := likeJoinsRow.holds Try.pinned (OpenSpec.ofChange likeJoinsWrong)

/-- 'broadsheetlaw21.VmChecks': WHATEVER THE INPUT: true; the input reads as it did. -/
def vmChecksSpec : ChangeSpec := { name := "vmChecks", fn := fun _ => fun
  | [d] => { results := [.lit (.bool true)], args := [d] }
  | _ => none }
def vmChecksRow : OpenClaim := { program := "ytehkmfmahgabmaa", sum := "c797dab9fb93299e2d4012ce0f12257382fcc892b6cb93df7acce5f51f3a153c", func := "broadsheet/broadsheetlaw21.VmChecks", spec := "vmChecks", apart := false }
def VmChecksSaid : Prop := vmChecksRow.holds Try.pinned (OpenSpec.ofChange vmChecksSpec)

/-- ITS FALSE NEIGHBOUR: 'it returns false'. Refute it at one input. -/
def vmChecksWrong : ChangeSpec := { name := "vmChecks", fn := fun _ => fun
  | [d] => { results := [.lit (.bool false)], args := [d] }
  | _ => none }
def VmChecksWrongFalsely : Prop := vmChecksRow.holds Try.pinned (OpenSpec.ofChange vmChecksWrong)

/-- 'broadsheetlaw17.LikeTells': WHATEVER THE INPUT: true; the input reads as it did. -/
def likeTellsSpec : ChangeSpec := { name := "likeTells", fn := fun _ => fun
  | [d1, d2] => { results := [.lit (.bool true)], args := [d1, d2] }
  | _ => none }
def likeTellsRow : OpenClaim := { program := "ytehkmfmahgabmaa", sum := "c797dab9fb93299e2d4012ce0f12257382fcc892b6cb93df7acce5f51f3a153c", func := "broadsheet/broadsheetlaw17.LikeTells", spec := "likeTells", inPlace := ["internal/bytealg.CountString", "internal/bytealg.IndexByteString", "internal/bytealg.IndexString"], named := ["internal/bytealg.MaxLen"], apart := false }
def LikeTellsSaid : Prop := likeTellsRow.holds Try.pinned (OpenSpec.ofChange likeTellsSpec)

/-- ITS FALSE NEIGHBOUR: 'it returns false'. Refute it at one input. -/
def likeTellsWrong : ChangeSpec := { name := "likeTells", fn := fun _ => fun
  | [d1, d2] => { results := [.lit (.bool false)], args := [d1, d2] }
  | _ => none }
def LikeTellsWrongFalsely : Prop := likeTellsRow.holds Try.pinned (OpenSpec.ofChange likeTellsWrong)

/-- 'broadsheetlaw17.LikeLeads': WHATEVER THE INPUT: true; the input reads as it did. -/
def likeLeadsSpec : ChangeSpec := { name := "likeLeads", fn := fun _ => fun
  | [d1, d2] => { results := [.lit (.bool true)], args := [d1, d2] }
  | _ => none }
def likeLeadsRow : OpenClaim := { program := "ytehkmfmahgabmaa", sum := "c797dab9fb93299e2d4012ce0f12257382fcc892b6cb93df7acce5f51f3a153c", func := "broadsheet/broadsheetlaw17.LikeLeads", spec := "likeLeads", inPlace := ["internal/bytealg.CountString", "internal/bytealg.IndexByteString", "internal/bytealg.IndexString"], named := ["internal/bytealg.MaxLen"], apart := false }
def LikeLeadsSaid : Prop := likeLeadsRow.holds Try.pinned (OpenSpec.ofChange likeLeadsSpec)

/-- ITS FALSE NEIGHBOUR: 'it returns false'. Refute it at one input. -/
def likeLeadsWrong : ChangeSpec := { name := "likeLeads", fn := fun _ => fun
  | [d1, d2] => { results := [.lit (.bool false)], args := [d1, d2] }
  | _ => none }
def LikeLeadsWrongFalsely : Prop := likeLeadsRow.holds Try.pinned (OpenSpec.ofChange likeLeadsWrong)

/- THE SECOND FORM. 'bulk': how many values and letters a reading holds, each counted each time it is reached (what is shared counts as often as it is met; a slice's spare places count too). A statement '..UptoSaid' is the law's where the arguments, and the package variables that the reading takes, are together of bulk at most 1048576: NARROWER than '..Said'. Prove '..Said' where nothing that the law and all that it calls make is longer than what came in: it says more and counts as full. Else prove '..UptoSaid'. A law counts once. -/
mutual
def uptoBulk {H : Type} : DataW H → Nat
  | .lit (.string bytes) => bytes.length + 1
  | .lit _ => 1
  | .nil => 1
  | .ptr d => uptoBulk d + 1
  | .slice elems spare => uptoBulkAll elems + uptoBulkAll spare + 1
  | .agg parts => uptoBulkAll parts + 1
  | .iface _ d => uptoBulk d + 1
  | .map entries => uptoBulkEntries entries + 1
  | .held _ => 1
def uptoBulkAll {H : Type} : List (DataW H) → Nat
  | [] => 0
  | d :: r => uptoBulk d + uptoBulkAll r
def uptoBulkEntries {H : Type} : List (Lit × DataW H) → Nat
  | [] => 0
  | x :: r => uptoBulkEntry x + uptoBulkEntries r
def uptoBulkEntry {H : Type} : Lit × DataW H → Nat
  | (.string bytes, d) => bytes.length + uptoBulk d + 1
  | (_, d) => uptoBulk d + 1
 end
def uptoSmall : (H : Type) → List (DataW H) → Bool := fun _ ds => decide (uptoBulkAll ds ≤ 1048576)
def OpenSpec.upto (s : _root_.Go.ChangeSpec) : _root_.Go.OpenSpec := { _root_.Go.OpenSpec.ofChange s with cond := some uptoSmall }

/-- 'broadsheetlaw17.LikeJoins', WHERE WHAT IT READS IS OF BULK AT MOST 1048576: true; the input reads as it did. -/
def likeJoinsUptoRow : OpenClaim := { program := "ytehkmfmahgabmaa", sum := "c797dab9fb93299e2d4012ce0f12257382fcc892b6cb93df7acce5f51f3a153c", func := "broadsheet/broadsheetlaw17.LikeJoins", spec := "likeJoins", apart := false, narrowed := true }
def LikeJoinsUptoSaid : Prop := likeJoinsUptoRow.holds Try.pinned (OpenSpec.upto likeJoinsSpec)

/-- 'broadsheetlaw21.VmChecks', WHERE WHAT IT READS IS OF BULK AT MOST 1048576: true; the input reads as it did. -/
def vmChecksUptoRow : OpenClaim := { program := "ytehkmfmahgabmaa", sum := "c797dab9fb93299e2d4012ce0f12257382fcc892b6cb93df7acce5f51f3a153c", func := "broadsheet/broadsheetlaw21.VmChecks", spec := "vmChecks", apart := false, narrowed := true }
def VmChecksUptoSaid : Prop := vmChecksUptoRow.holds Try.pinned (OpenSpec.upto vmChecksSpec)

/-- 'broadsheetlaw17.LikeTells', WHERE WHAT IT READS IS OF BULK AT MOST 1048576: true; the input reads as it did. -/
def likeTellsUptoRow : OpenClaim := { program := "ytehkmfmahgabmaa", sum := "c797dab9fb93299e2d4012ce0f12257382fcc892b6cb93df7acce5f51f3a153c", func := "broadsheet/broadsheetlaw17.LikeTells", spec := "likeTells", inPlace := ["internal/bytealg.CountString", "internal/bytealg.IndexByteString", "internal/bytealg.IndexString"], named := ["internal/bytealg.MaxLen"], apart := false, narrowed := true }
def LikeTellsUptoSaid : Prop := likeTellsUptoRow.holds Try.pinned (OpenSpec.upto likeTellsSpec)

/-- 'broadsheetlaw17.LikeLeads', WHERE WHAT IT READS IS OF BULK AT MOST 1048576: true; the input reads as it did. -/
def likeLeadsUptoRow : OpenClaim := { program := "ytehkmfmahgabmaa", sum := "c797dab9fb93299e2d4012ce0f12257382fcc892b6cb93df7acce5f51f3a153c", func := "broadsheet/broadsheetlaw17.LikeLeads", spec := "likeLeads", inPlace := ["internal/bytealg.CountString", "internal/bytealg.IndexByteString", "internal/bytealg.IndexString"], named := ["internal/bytealg.MaxLen"], apart := false, narrowed := true }
def LikeLeadsUptoSaid : Prop := likeLeadsUptoRow.holds Try.pinned (OpenSpec.upto likeLeadsSpec)

end Rows
end Go.Proofs.Ytehkmfmahgabmaa
