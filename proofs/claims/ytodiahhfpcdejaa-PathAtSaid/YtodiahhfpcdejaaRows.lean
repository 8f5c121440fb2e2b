/-
  NARROWER THAN 'FOR EVERY INPUT', by the rows' own cells (each row's printed sentence says how): FitsTells: loops · FitsParts: loops · PathAt: loops · KeyApart: loops.
  DERIVED. THE GIVEN ROWS OF THIS SEAT. 6 by the template 'for every input the law returns true; each argument reads behind the call as it read before'; 0 by the template 'total and deterministic' (their statements: YtodiahhfpcdejaaTotals.lean).
  GIVEN WITH THE SEED: the statements are not yours to turn. If you find one false, say at which input.
  Laid BY PROGRAM, IN A SANDBOX (cutbox-rows.mjs): the forced cells as the released guide's own fill.sh prints them over the translation bbfefa0a9d51825e… (all of the seat's roots in one cut). By AI agents, Wed Nov 11 2026. No macro, syntax, notation, axiom, sorry.
-/
import Derived.Test.YtodiahhfpcdejaaChecked
import GoSem.Claim
import GoSem.ClaimJoined
import GoSem.ClaimMapViews
import Derived.JoinedTies
import Derived.KernelRfl
namespace Go.Proofs.Ytodiahhfpcdejaa
/- THE CELL 'sum', in the pinned program and in every row, IS THE sha256 OF THE DUMP (.gsa) THAT YtodiahhfpcdejaaProg.lean LOADS. Nothing in Lean hashes anything: it is a label: what it is worth is what the hold of that sum in a sandbox is worth. -/
noncomputable def Try.pinned : Pinned := { name := "ytodiahhfpcdejaa", sum := "bbfefa0a9d51825e013da60e564e5f5db05185d12ca7677a334e21b2202e3285", checked := Try.checked }
namespace Rows
def none {H : Type} : Left H := { results := [], args := [] }

/-- 'broadsheetlaw09.FitsTells': WHATEVER THE INPUT: true; the input reads as it did. -/
def fitsTellsSpec : ChangeSpec := { name := "fitsTells", fn := fun _ => fun
  | [d1, d2, d3] => { results := [.lit (.bool true)], args := [d1, d2, d3] }
  | _ => none }
def fitsTellsRow : OpenClaim := { program := "ytodiahhfpcdejaa", sum := "bbfefa0a9d51825e013da60e564e5f5db05185d12ca7677a334e21b2202e3285", func := "broadsheet/broadsheetlaw09.FitsTells", spec := "fitsTells", inPlace := ["internal/bytealg.IndexByteString"], unfollowed := true, recurses := true, loops := true, plainKeys := false, apart := false }
def FitsTellsSaid : Prop := fitsTellsRow.holds Try.pinned (OpenSpec.ofChange fitsTellsSpec)

/-- ITS FALSE NEIGHBOUR: 'it returns false'. Refute it at one input. -/
def fitsTellsWrong : ChangeSpec := { name := "fitsTells", fn := fun _ => fun
  | [d1, d2, d3] => { results := [.lit (.bool false)], args := [d1, d2, d3] }
  | _ => none }
def FitsTellsWrongFalsely : Prop := fitsTellsRow.holds Try.pinned (OpenSpec.ofChange fitsTellsWrong)

/-- 'broadsheetlaw09.FitsParts': WHATEVER THE INPUT: true; the input reads as it did. -/
def fitsPartsSpec : ChangeSpec := { name := "fitsParts", fn := fun _ => fun
  | [d1, d2, d3] => { results := [.lit (.bool true)], args := [d1, d2, d3] }
  | _ => none }
def fitsPartsRow : OpenClaim := { program := "ytodiahhfpcdejaa", sum := "bbfefa0a9d51825e013da60e564e5f5db05185d12ca7677a334e21b2202e3285", func := "broadsheet/broadsheetlaw09.FitsParts", spec := "fitsParts", inPlace := ["internal/bytealg.IndexByteString"], unfollowed := true, recurses := true, loops := true, plainKeys := false, apart := false }
def FitsPartsSaid : Prop := fitsPartsRow.holds Try.pinned (OpenSpec.ofChange fitsPartsSpec)

/-- ITS FALSE NEIGHBOUR: 'it returns false'. Refute it at one input. -/
def fitsPartsWrong : ChangeSpec := { name := "fitsParts", fn := fun _ => fun
  | [d1, d2, d3] => { results := [.lit (.bool false)], args := [d1, d2, d3] }
  | _ => none }
def FitsPartsWrongFalsely : Prop := fitsPartsRow.holds Try.pinned (OpenSpec.ofChange fitsPartsWrong)

/-- 'broadsheetlaw09.FitsBlank': WHATEVER THE INPUT: true; the input reads as it did. -/
def fitsBlankSpec : ChangeSpec := { name := "fitsBlank", fn := fun _ => fun
  | [d1, d2] => { results := [.lit (.bool true)], args := [d1, d2] }
  | _ => none }
def fitsBlankRow : OpenClaim := { program := "ytodiahhfpcdejaa", sum := "bbfefa0a9d51825e013da60e564e5f5db05185d12ca7677a334e21b2202e3285", func := "broadsheet/broadsheetlaw09.FitsBlank", spec := "fitsBlank", inPlace := ["internal/bytealg.IndexByteString"], unfollowed := true, recurses := true, plainKeys := false, apart := false }
def FitsBlankSaid : Prop := fitsBlankRow.holds Try.pinned (OpenSpec.ofChange fitsBlankSpec)

/-- ITS FALSE NEIGHBOUR: 'it returns false'. Refute it at one input. -/
def fitsBlankWrong : ChangeSpec := { name := "fitsBlank", fn := fun _ => fun
  | [d1, d2] => { results := [.lit (.bool false)], args := [d1, d2] }
  | _ => none }
def FitsBlankWrongFalsely : Prop := fitsBlankRow.holds Try.pinned (OpenSpec.ofChange fitsBlankWrong)

/-- 'broadsheetlaw12.PathAt': WHATEVER THE INPUT: true; the input reads as it did. -/
def pathAtSpec : ChangeSpec := { name := "pathAt", fn := fun _ => fun
  | [d1, d2, d3] => { results := [.lit (.bool true)], args := [d1, d2, d3] }
  | _ => none }
def pathAtRow : OpenClaim := { program := "ytodiahhfpcdejaa", sum := "bbfefa0a9d51825e013da60e564e5f5db05185d12ca7677a334e21b2202e3285", func := "broadsheet/broadsheetlaw12.PathAt", spec := "pathAt", inPlace := ["internal/bytealg.IndexByteString"], unfollowed := true, recurses := true, loops := true, plainKeys := false, apart := false }
def PathAtSaid : Prop := pathAtRow.holds Try.pinned (OpenSpec.ofChange pathAtSpec)

/-- ITS FALSE NEIGHBOUR: 'it returns false'. Refute it at one input. -/
def pathAtWrong : ChangeSpec := { name := "pathAt", fn := fun _ => fun
  | [d1, d2, d3] => { results := [.lit (.bool false)], args := [d1, d2, d3] }
  | _ => none }
def PathAtWrongFalsely : Prop := pathAtRow.holds Try.pinned (OpenSpec.ofChange pathAtWrong)

/-- 'broadsheetlaw13.KeyApart': WHATEVER THE INPUT: true; the input reads as it did. -/
def keyApartSpec : ChangeSpec := { name := "keyApart", fn := fun _ => fun
  | [d1, d2, d3] => { results := [.lit (.bool true)], args := [d1, d2, d3] }
  | _ => none }
def keyApartRow : OpenClaim := { program := "ytodiahhfpcdejaa", sum := "bbfefa0a9d51825e013da60e564e5f5db05185d12ca7677a334e21b2202e3285", func := "broadsheet/broadsheetlaw13.KeyApart", spec := "keyApart", inPlace := ["internal/bytealg.IndexByteString", "internal/abi.NoEscape"], unfollowed := true, recurses := true, loops := true, plainKeys := false, apart := false }
def KeyApartSaid : Prop := keyApartRow.holds Try.pinned (OpenSpec.ofChange keyApartSpec)

/-- ITS FALSE NEIGHBOUR: 'it returns false'. Refute it at one input. -/
def keyApartWrong : ChangeSpec := { name := "keyApart", fn := fun _ => fun
  | [d1, d2, d3] => { results := [.lit (.bool false)], args := [d1, d2, d3] }
  | _ => none }
def KeyApartWrongFalsely : Prop := keyApartRow.holds Try.pinned (OpenSpec.ofChange keyApartWrong)

/-- 'broadsheetlaw13.KeyTells': WHATEVER THE INPUT: true; the input reads as it did. -/
def keyTellsSpec : ChangeSpec := { name := "keyTells", fn := fun _ => fun
  | [d] => { results := [.lit (.bool true)], args := [d] }
  | _ => none }
def keyTellsRow : OpenClaim := { program := "ytodiahhfpcdejaa", sum := "bbfefa0a9d51825e013da60e564e5f5db05185d12ca7677a334e21b2202e3285", func := "broadsheet/broadsheetlaw13.KeyTells", spec := "keyTells", inPlace := ["internal/bytealg.IndexByteString", "internal/abi.NoEscape"], unfollowed := true, recurses := true, plainKeys := false, apart := false }
def KeyTellsSaid : Prop := keyTellsRow.holds Try.pinned (OpenSpec.ofChange keyTellsSpec)

/-- ITS FALSE NEIGHBOUR: 'it returns false'. Refute it at one input. -/
def keyTellsWrong : ChangeSpec := { name := "keyTells", fn := fun _ => fun
  | [d] => { results := [.lit (.bool false)], args := [d] }
  | _ => none }
def KeyTellsWrongFalsely : Prop := keyTellsRow.holds Try.pinned (OpenSpec.ofChange keyTellsWrong)

/- THE SECOND FORM. 'bulk': how many values and letters a reading holds, each counted each time it is reached (what is shared counts as often as it is met; a slice's spare places count too). A statement '..UptoSaid' is the law's where the arguments, and the package variables that the reading takes, are together of bulk at most 1048576: NARROWER than '..Said'. Prove '..Said' where nothing that the law and all that it calls make is longer than what came in: it says more and counts as full. Else prove '..UptoSaid'. A law counts once. -/
mutual
def uptoBulk {H : Type} : DataW H → Nat
  | .lit (.string bytes) => bytes.length + 1
  | .lit _ => 1
  | .nil => 1
  | .ptr d => uptoBulk d + 1
  | .slice elems spare => uptoBulkAll elems + uptoBulkAll spare + 1
  | .agg parts => uptoBulkAll parts + 1
  | .iface _ d => uptoBulk d + 1
  | .map entries => uptoBulkEntries entries + 1
  | .held _ => 1
def uptoBulkAll {H : Type} : List (DataW H) → Nat
  | [] => 0
  | d :: r => uptoBulk d + uptoBulkAll r
def uptoBulkEntries {H : Type} : List (Lit × DataW H) → Nat
  | [] => 0
  | x :: r => uptoBulkEntry x + uptoBulkEntries r
def uptoBulkEntry {H : Type} : Lit × DataW H → Nat
  | (.string bytes, d) => bytes.length + uptoBulk d + 1
  | (_, d) => uptoBulk d + 1
 end
def uptoSmall : (H : Type) → List (DataW H) → Bool := fun _ ds => decide (uptoBulkAll ds ≤ 1048576)
def OpenSpec.upto (s : _root_.Go.ChangeSpec) : _root_.Go.OpenSpec := { _root_.Go.OpenSpec.ofChange s with cond := some uptoSmall }

/-- 'broadsheetlaw09.FitsTells', WHERE WHAT IT READS IS OF BULK AT MOST 1048576: true; the input reads as it did. -/
def fitsTellsUptoRow : OpenClaim := { program := "ytodiahhfpcdejaa", sum := "bbfefa0a9d51825e013da60e564e5f5db05185d12ca7677a334e21b2202e3285", func := "broadsheet/broadsheetlaw09.FitsTells", spec := "fitsTells", inPlace := ["internal/bytealg.IndexByteString"], unfollowed := true, recurses := true, loops := true, plainKeys := false, apart := false, narrowed := true }
def FitsTellsUptoSaid : Prop := fitsTellsUptoRow.holds Try.pinned (OpenSpec.upto fitsTellsSpec)

/-- 'broadsheetlaw09.FitsParts', WHERE WHAT IT READS IS OF BULK AT MOST 1048576: true; the input reads as it did. -/
def fitsPartsUptoRow : OpenClaim := { program := "ytodiahhfpcdejaa", sum := "bbfefa0a9d51825e013da60e564e5f5db05185d12ca7677a334e21b2202e3285", func := "broadsheet/broadsheetlaw09.FitsParts", spec := "fitsParts", inPlace := ["internal/bytealg.IndexByteString"], unfollowed := true, recurses := true, loops := true, plainKeys := false, apart := false, narrowed := true }
def FitsPartsUptoSaid : Prop := fitsPartsUptoRow.holds Try.pinned (OpenSpec.upto fitsPartsSpec)

/-- 'broadsheetlaw09.FitsBlank', WHERE WHAT IT READS IS OF BULK AT MOST 1048576: true; the input reads as it did. -/
def fitsBlankUptoRow : OpenClaim := { program := "ytodiahhfpcdejaa", sum := "bbfefa0a9d51825e013da60e564e5f5db05185d12ca7677a334e21b2202e3285", func := "broadsheet/broadsheetlaw09.FitsBlank", spec := "fitsBlank", inPlace := ["internal/bytealg.IndexByteString"], unfollowed := true, recurses := true, plainKeys := false, apart := false, narrowed := true }
def FitsBlankUptoSaid : Prop := fitsBlankUptoRow.holds Try.pinned (OpenSpec.upto fitsBlankSpec)

/-- 'broadsheetlaw12.PathAt', WHERE WHAT IT READS IS OF BULK AT MOST 1048576: true; the input reads as it did. -/
def pathAtUptoRow : OpenClaim := { program := "ytodiahhfpcdejaa", sum := "bbfefa0a9d51825e013da60e564e5f5db05185d12ca7677a334e21b2202e3285", func := "broadsheet/broadsheetlaw12.PathAt", spec := "pathAt", inPlace := ["internal/bytealg.IndexByteString"], unfollowed := true, recurses := true, loops := true, plainKeys := false, apart := false, narrowed := true }
def PathAtUptoSaid : Prop := pathAtUptoRow.holds Try.pinned (OpenSpec.upto pathAtSpec)

/-- 'broadsheetlaw13.KeyApart', WHERE WHAT IT READS IS OF BULK AT MOST 1048576: true; the input reads as it did. -/
def keyApartUptoRow : OpenClaim := { program := "ytodiahhfpcdejaa", sum := "bbfefa0a9d51825e013da60e564e5f5db05185d12ca7677a334e21b2202e3285", func := "broadsheet/broadsheetlaw13.KeyApart", spec := "keyApart", inPlace := ["internal/bytealg.IndexByteString", "internal/abi.NoEscape"], unfollowed := true, recurses := true, loops := true, plainKeys := false, apart := false, narrowed := true }
def KeyApartUptoSaid : Prop := keyApartUptoRow.holds Try.pinned (OpenSpec.upto keyApartSpec)

/-- 'broadsheetlaw13.KeyTells', WHERE WHAT IT READS IS OF BULK AT MOST 1048576: true; the input reads as it did. -/
def keyTellsUptoRow : OpenClaim := { program := "ytodiahhfpcdejaa", sum := "bbfefa0a9d51825e013da60e564e5f5db05185d12ca7677a334e21b2202e3285", func := "broadsheet/broadsheetlaw13.KeyTells", spec := "keyTells", inPlace := ["internal/bytealg.IndexByteString", "internal/abi.NoEscape"], unfollowed := true, recurses := true, plainKeys := false, apart := false, narrowed := true }
def KeyTellsUptoSaid : Prop := keyTellsUptoRow.holds Try.pinned (OpenSpec.upto keyTellsSpec)

end Rows
end Go.Proofs.Ytodiahhfpcdejaa
