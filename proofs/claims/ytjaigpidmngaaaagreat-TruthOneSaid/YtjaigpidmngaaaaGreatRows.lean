/-
  NARROWER THAN 'FOR EVERY INPUT', by the rows' own cells (each row's printed sentence says how): CheckTells: loops · CheckBinds: loops · CheckAround: loops · TruthHolds: loops · TruthLaws: loops.
  DERIVED. THE GIVEN ROWS OF THIS SEAT. 8 by the template 'for every input the law returns true; each argument reads behind the call as it read before'; 0 by the template 'total and deterministic' (their statements: YtjaigpidmngaaaaGreatTotals.lean).
  GIVEN WITH THE SEED: the statements are not yours to turn. If you find one false, say at which input.
  Laid BY PROGRAM, IN A SANDBOX (cutbox-rows.mjs): the forced cells as the released guide's own fill.sh prints them over the translation a9e478231f36f1b2… (all of the seat's roots in one cut). By AI agents, Wed Nov 11 2026. No macro, syntax, notation, axiom, sorry.
-/
import Derived.Test.YtjaigpidmngaaaaGreatChecked
import GoSem.Claim
import GoSem.ClaimJoined
import GoSem.ClaimMapViews
import Derived.JoinedTies
import Derived.KernelRfl
namespace Go.Proofs.YtjaigpidmngaaaaGreat
/- THE CELL 'sum', in the pinned program and in every row, IS THE sha256 OF THE DUMP (.gsa) THAT YtjaigpidmngaaaaGreatProg.lean LOADS. Nothing in Lean hashes anything: it is a label: what it is worth is what the hold of that sum in a sandbox is worth. -/
noncomputable def Tryz.pinned : Pinned := { name := "ytjaigpidmngaaaagreat", sum := "a9e478231f36f1b2df7bce2448f1abf582d67564416c5b4feb3e9d43fdc57f35", checked := Tryz.checked }
namespace Rows
def none {H : Type} : Left H := { results := [], args := [] }

/-- 'broadsheetlaw18.CheckTells': WHATEVER THE INPUT: true; the input reads as it did. -/
def checkTellsSpec : ChangeSpec := { name := "checkTells", fn := fun _ => fun
  | [d1, d2, d3] => { results := [.lit (.bool true)], args := [d1, d2, d3] }
  | _ => none }
def checkTellsRow : OpenClaim := { program := "ytjaigpidmngaaaagreat", sum := "a9e478231f36f1b2df7bce2448f1abf582d67564416c5b4feb3e9d43fdc57f35", func := "broadsheet/broadsheetlaw18.CheckTells", spec := "checkTells", inPlace := ["internal/abi.NoEscape", "internal/bytealg.IndexByteString"], unfollowed := true, recurses := true, loops := true, apart := false }
def CheckTellsSaid : Prop := checkTellsRow.holds Tryz.pinned (OpenSpec.ofChange checkTellsSpec)

/-- ITS FALSE NEIGHBOUR: 'it returns false'. Refute it at one input. -/
def checkTellsWrong : ChangeSpec := { name := "checkTells", fn := fun _ => fun
  | [d1, d2, d3] => { results := [.lit (.bool false)], args := [d1, d2, d3] }
  | _ => none }
def CheckTellsWrongFalsely : Prop := checkTellsRow.holds Tryz.pinned (OpenSpec.ofChange checkTellsWrong)

/-- 'broadsheetlaw18.CheckData': WHATEVER THE INPUT: true; the input reads as it did. -/
def checkDataSpec : ChangeSpec := { name := "checkData", fn := fun _ => fun
  | [d1, d2, d3] => { results := [.lit (.bool true)], args := [d1, d2, d3] }
  | _ => none }
def checkDataRow : OpenClaim := { program := "ytjaigpidmngaaaagreat", sum := "a9e478231f36f1b2df7bce2448f1abf582d67564416c5b4feb3e9d43fdc57f35", func := "broadsheet/broadsheetlaw18.CheckData", spec := "checkData", inPlace := ["internal/abi.NoEscape", "internal/bytealg.IndexByteString"], unfollowed := true, recurses := true, apart := false }
def CheckDataSaid : Prop := checkDataRow.holds Tryz.pinned (OpenSpec.ofChange checkDataSpec)

/-- ITS FALSE NEIGHBOUR: 'it returns false'. Refute it at one input. -/
def checkDataWrong : ChangeSpec := { name := "checkData", fn := fun _ => fun
  | [d1, d2, d3] => { results := [.lit (.bool false)], args := [d1, d2, d3] }
  | _ => none }
def CheckDataWrongFalsely : Prop := checkDataRow.holds Tryz.pinned (OpenSpec.ofChange checkDataWrong)

/-- 'broadsheetlaw18.CheckBinds': WHATEVER THE INPUT: true; the input reads as it did. -/
def checkBindsSpec : ChangeSpec := { name := "checkBinds", fn := fun _ => fun
  | [d1, d2] => { results := [.lit (.bool true)], args := [d1, d2] }
  | _ => none }
def checkBindsRow : OpenClaim := { program := "ytjaigpidmngaaaagreat", sum := "a9e478231f36f1b2df7bce2448f1abf582d67564416c5b4feb3e9d43fdc57f35", func := "broadsheet/broadsheetlaw18.CheckBinds", spec := "checkBinds", inPlace := ["internal/abi.NoEscape", "internal/bytealg.IndexByteString"], unfollowed := true, recurses := true, loops := true, apart := false }
def CheckBindsSaid : Prop := checkBindsRow.holds Tryz.pinned (OpenSpec.ofChange checkBindsSpec)

/-- ITS FALSE NEIGHBOUR: 'it returns false'. Refute it at one input. -/
def checkBindsWrong : ChangeSpec := { name := "checkBinds", fn := fun _ => fun
  | [d1, d2] => { results := [.lit (.bool false)], args := [d1, d2] }
  | _ => none }
def CheckBindsWrongFalsely : Prop := checkBindsRow.holds Tryz.pinned (OpenSpec.ofChange checkBindsWrong)

/-- 'broadsheetlaw18.CheckAround': WHATEVER THE INPUT: true; the input reads as it did. -/
def checkAroundSpec : ChangeSpec := { name := "checkAround", fn := fun _ => fun
  | [d1, d2, d3] => { results := [.lit (.bool true)], args := [d1, d2, d3] }
  | _ => none }
def checkAroundRow : OpenClaim := { program := "ytjaigpidmngaaaagreat", sum := "a9e478231f36f1b2df7bce2448f1abf582d67564416c5b4feb3e9d43fdc57f35", func := "broadsheet/broadsheetlaw18.CheckAround", spec := "checkAround", inPlace := ["internal/abi.NoEscape", "internal/bytealg.IndexByteString"], unfollowed := true, recurses := true, loops := true, apart := false }
def CheckAroundSaid : Prop := checkAroundRow.holds Tryz.pinned (OpenSpec.ofChange checkAroundSpec)

/-- ITS FALSE NEIGHBOUR: 'it returns false'. Refute it at one input. -/
def checkAroundWrong : ChangeSpec := { name := "checkAround", fn := fun _ => fun
  | [d1, d2, d3] => { results := [.lit (.bool false)], args := [d1, d2, d3] }
  | _ => none }
def CheckAroundWrongFalsely : Prop := checkAroundRow.holds Tryz.pinned (OpenSpec.ofChange checkAroundWrong)

/-- 'broadsheetlaw19.TruthHolds': WHATEVER THE INPUT: true; the input reads as it did. -/
def truthHoldsSpec : ChangeSpec := { name := "truthHolds", fn := fun _ => fun
  | [d1, d2, d3] => { results := [.lit (.bool true)], args := [d1, d2, d3] }
  | _ => none }
def truthHoldsRow : OpenClaim := { program := "ytjaigpidmngaaaagreat", sum := "a9e478231f36f1b2df7bce2448f1abf582d67564416c5b4feb3e9d43fdc57f35", func := "broadsheet/broadsheetlaw19.TruthHolds", spec := "truthHolds", inPlace := ["internal/abi.NoEscape", "internal/bytealg.IndexByteString", "internal/bytealg.abigen_runtime_cmpstring"], unfollowed := true, recurses := true, loops := true, apart := false }
def TruthHoldsSaid : Prop := truthHoldsRow.holds Tryz.pinned (OpenSpec.ofChange truthHoldsSpec)

/-- ITS FALSE NEIGHBOUR: 'it returns false'. Refute it at one input. -/
def truthHoldsWrong : ChangeSpec := { name := "truthHolds", fn := fun _ => fun
  | [d1, d2, d3] => { results := [.lit (.bool false)], args := [d1, d2, d3] }
  | _ => none }
def TruthHoldsWrongFalsely : Prop := truthHoldsRow.holds Tryz.pinned (OpenSpec.ofChange truthHoldsWrong)

/-- 'broadsheetlaw19.TruthRel': WHATEVER THE INPUT: true; the input reads as it did. -/
def truthRelSpec : ChangeSpec := { name := "truthRel", fn := fun _ => fun
  | [d1, d2, d3] => { results := [.lit (.bool true)], args := [d1, d2, d3] }
  | _ => none }
def truthRelRow : OpenClaim := { program := "ytjaigpidmngaaaagreat", sum := "a9e478231f36f1b2df7bce2448f1abf582d67564416c5b4feb3e9d43fdc57f35", func := "broadsheet/broadsheetlaw19.TruthRel", spec := "truthRel", inPlace := ["internal/bytealg.abigen_runtime_cmpstring", "internal/abi.NoEscape", "internal/bytealg.IndexByteString"], unfollowed := true, recurses := true, apart := false }
def TruthRelSaid : Prop := truthRelRow.holds Tryz.pinned (OpenSpec.ofChange truthRelSpec)

/-- ITS FALSE NEIGHBOUR: 'it returns false'. Refute it at one input. -/
def truthRelWrong : ChangeSpec := { name := "truthRel", fn := fun _ => fun
  | [d1, d2, d3] => { results := [.lit (.bool false)], args := [d1, d2, d3] }
  | _ => none }
def TruthRelWrongFalsely : Prop := truthRelRow.holds Tryz.pinned (OpenSpec.ofChange truthRelWrong)

/-- 'broadsheetlaw19.TruthOne': WHATEVER THE INPUT: true; the input reads as it did. -/
def truthOneSpec : ChangeSpec := { name := "truthOne", fn := fun _ => fun
  | [d1, d2] => { results := [.lit (.bool true)], args := [d1, d2] }
  | _ => none }
def truthOneRow : OpenClaim := { program := "ytjaigpidmngaaaagreat", sum := "a9e478231f36f1b2df7bce2448f1abf582d67564416c5b4feb3e9d43fdc57f35", func := "broadsheet/broadsheetlaw19.TruthOne", spec := "truthOne", inPlace := ["internal/bytealg.abigen_runtime_cmpstring", "internal/abi.NoEscape", "internal/bytealg.IndexByteString"], unfollowed := true, recurses := true, apart := false }
def TruthOneSaid : Prop := truthOneRow.holds Tryz.pinned (OpenSpec.ofChange truthOneSpec)

/-- ITS FALSE NEIGHBOUR: 'it returns false'. Refute it at one input. -/
def truthOneWrong : ChangeSpec := { name := "truthOne", fn := fun _ => fun
  | [d1, d2] => { results := [.lit (.bool false)], args := [d1, d2] }
  | _ => none }
def TruthOneWrongFalsely : Prop := truthOneRow.holds Tryz.pinned (OpenSpec.ofChange truthOneWrong)

/-- 'broadsheetlaw19.TruthLaws': WHATEVER THE INPUT: true; the input reads as it did. -/
def truthLawsSpec : ChangeSpec := { name := "truthLaws", fn := fun _ => fun
  | [d1, d2, d3] => { results := [.lit (.bool true)], args := [d1, d2, d3] }
  | _ => none }
def truthLawsRow : OpenClaim := { program := "ytjaigpidmngaaaagreat", sum := "a9e478231f36f1b2df7bce2448f1abf582d67564416c5b4feb3e9d43fdc57f35", func := "broadsheet/broadsheetlaw19.TruthLaws", spec := "truthLaws", inPlace := ["internal/abi.NoEscape", "internal/bytealg.IndexByteString", "internal/bytealg.abigen_runtime_cmpstring"], unfollowed := true, recurses := true, loops := true, apart := false }
def TruthLawsSaid : Prop := truthLawsRow.holds Tryz.pinned (OpenSpec.ofChange truthLawsSpec)

/-- ITS FALSE NEIGHBOUR: 'it returns false'. Refute it at one input. -/
def truthLawsWrong : ChangeSpec := { name := "truthLaws", fn := fun _ => fun
  | [d1, d2, d3] => { results := [.lit (.bool false)], args := [d1, d2, d3] }
  | _ => none }
def TruthLawsWrongFalsely : Prop := truthLawsRow.holds Tryz.pinned (OpenSpec.ofChange truthLawsWrong)

/- THE SECOND FORM. 'bulk': how many values and letters a reading holds, each counted each time it is reached (what is shared counts as often as it is met; a slice's spare places count too). A statement '..UptoSaid' is the law's where the arguments, and the package variables that the reading takes, are together of bulk at most 1048576: NARROWER than '..Said'. Prove '..Said' where nothing that the law and all that it calls make is longer than what came in: it says more and counts as full. Else prove '..UptoSaid'. A law counts once. -/
mutual
def uptoBulk {H : Type} : DataW H → Nat
  | .lit (.string bytes) => bytes.length + 1
  | .lit _ => 1
  | .nil => 1
  | .ptr d => uptoBulk d + 1
  | .slice elems spare => uptoBulkAll elems + uptoBulkAll spare + 1
  | .agg parts => uptoBulkAll parts + 1
  | .iface _ d => uptoBulk d + 1
  | .map entries => uptoBulkEntries entries + 1
  | .held _ => 1
def uptoBulkAll {H : Type} : List (DataW H) → Nat
  | [] => 0
  | d :: r => uptoBulk d + uptoBulkAll r
def uptoBulkEntries {H : Type} : List (Lit × DataW H) → Nat
  | [] => 0
  | x :: r => uptoBulkEntry x + uptoBulkEntries r
def uptoBulkEntry {H : Type} : Lit × DataW H → Nat
  | (.string bytes, d) => bytes.length + uptoBulk d + 1
  | (_, d) => uptoBulk d + 1
 end
def uptoSmall : (H : Type) → List (DataW H) → Bool := fun _ ds => decide (uptoBulkAll ds ≤ 1048576)
def OpenSpec.upto (s : _root_.Go.ChangeSpec) : _root_.Go.OpenSpec := { _root_.Go.OpenSpec.ofChange s with cond := some uptoSmall }

/-- 'broadsheetlaw18.CheckTells', WHERE WHAT IT READS IS OF BULK AT MOST 1048576: true; the input reads as it did. -/
def checkTellsUptoRow : OpenClaim := { program := "ytjaigpidmngaaaagreat", sum := "a9e478231f36f1b2df7bce2448f1abf582d67564416c5b4feb3e9d43fdc57f35", func := "broadsheet/broadsheetlaw18.CheckTells", spec := "checkTells", inPlace := ["internal/abi.NoEscape", "internal/bytealg.IndexByteString"], unfollowed := true, recurses := true, loops := true, apart := false, narrowed := true }
def CheckTellsUptoSaid : Prop := checkTellsUptoRow.holds Tryz.pinned (OpenSpec.upto checkTellsSpec)

/-- 'broadsheetlaw18.CheckData', WHERE WHAT IT READS IS OF BULK AT MOST 1048576: true; the input reads as it did. -/
def checkDataUptoRow : OpenClaim := { program := "ytjaigpidmngaaaagreat", sum := "a9e478231f36f1b2df7bce2448f1abf582d67564416c5b4feb3e9d43fdc57f35", func := "broadsheet/broadsheetlaw18.CheckData", spec := "checkData", inPlace := ["internal/abi.NoEscape", "internal/bytealg.IndexByteString"], unfollowed := true, recurses := true, apart := false, narrowed := true }
def CheckDataUptoSaid : Prop := checkDataUptoRow.holds Tryz.pinned (OpenSpec.upto checkDataSpec)

/-- 'broadsheetlaw18.CheckBinds', WHERE WHAT IT READS IS OF BULK AT MOST 1048576: true; the input reads as it did. -/
def checkBindsUptoRow : OpenClaim := { program := "ytjaigpidmngaaaagreat", sum := "a9e478231f36f1b2df7bce2448f1abf582d67564416c5b4feb3e9d43fdc57f35", func := "broadsheet/broadsheetlaw18.CheckBinds", spec := "checkBinds", inPlace := ["internal/abi.NoEscape", "internal/bytealg.IndexByteString"], unfollowed := true, recurses := true, loops := true, apart := false, narrowed := true }
def CheckBindsUptoSaid : Prop := checkBindsUptoRow.holds Tryz.pinned (OpenSpec.upto checkBindsSpec)

/-- 'broadsheetlaw18.CheckAround', WHERE WHAT IT READS IS OF BULK AT MOST 1048576: true; the input reads as it did. -/
def checkAroundUptoRow : OpenClaim := { program := "ytjaigpidmngaaaagreat", sum := "a9e478231f36f1b2df7bce2448f1abf582d67564416c5b4feb3e9d43fdc57f35", func := "broadsheet/broadsheetlaw18.CheckAround", spec := "checkAround", inPlace := ["internal/abi.NoEscape", "internal/bytealg.IndexByteString"], unfollowed := true, recurses := true, loops := true, apart := false, narrowed := true }
def CheckAroundUptoSaid : Prop := checkAroundUptoRow.holds Tryz.pinned (OpenSpec.upto checkAroundSpec)

/-- 'broadsheetlaw19.TruthHolds', WHERE WHAT IT READS IS OF BULK AT MOST 1048576: true; the input reads as it did. -/
def truthHoldsUptoRow : OpenClaim := { program := "ytjaigpidmngaaaagreat", sum := "a9e478231f36f1b2df7bce2448f1abf582d67564416c5b4feb3e9d43fdc57f35", func := "broadsheet/broadsheetlaw19.TruthHolds", spec := "truthHolds", inPlace := ["internal/abi.NoEscape", "internal/bytealg.IndexByteString", "internal/bytealg.abigen_runtime_cmpstring"], unfollowed := true, recurses := true, loops := true, apart := false, narrowed := true }
def TruthHoldsUptoSaid : Prop := truthHoldsUptoRow.holds Tryz.pinned (OpenSpec.upto truthHoldsSpec)

/-- 'broadsheetlaw19.TruthRel', WHERE WHAT IT READS IS OF BULK AT MOST 1048576: true; the input reads as it did. -/
def truthRelUptoRow : OpenClaim := { program := "ytjaigpidmngaaaagreat", sum := "a9e478231f36f1b2df7bce2448f1abf582d67564416c5b4feb3e9d43fdc57f35", func := "broadsheet/broadsheetlaw19.TruthRel", spec := "truthRel", inPlace := ["internal/bytealg.abigen_runtime_cmpstring", "internal/abi.NoEscape", "internal/bytealg.IndexByteString"], unfollowed := true, recurses := true, apart := false, narrowed := true }
def TruthRelUptoSaid : Prop := truthRelUptoRow.holds Tryz.pinned (OpenSpec.upto truthRelSpec)

/-- 'broadsheetlaw19.TruthOne', WHERE WHAT IT READS IS OF BULK AT MOST 1048576: true; the input reads as it did. -/
def truthOneUptoRow : OpenClaim := { program := "ytjaigpidmngaaaagreat", sum := "a9e478231f36f1b2df7bce2448f1abf582d67564416c5b4feb3e9d43fdc57f35", func := "broadsheet/broadsheetlaw19.TruthOne", spec := "truthOne", inPlace := ["internal/bytealg.abigen_runtime_cmpstring", "internal/abi.NoEscape", "internal/bytealg.IndexByteString"], unfollowed := true, recurses := true, apart := false, narrowed := true }
def TruthOneUptoSaid : Prop := truthOneUptoRow.holds Tryz.pinned (OpenSpec.upto truthOneSpec)

/-- 'broadsheetlaw19.TruthLaws', WHERE WHAT IT READS IS OF BULK AT MOST 1048576: true; the input reads as it did. -/
def truthLawsUptoRow : OpenClaim := { program := "ytjaigpidmngaaaagreat", sum := "a9e478231f36f1b2df7bce2448f1abf582d67564416c5b4feb3e9d43fdc57f35", func := "broadsheet/broadsheetlaw19.TruthLaws", spec := "truthLaws", inPlace := ["internal/abi.NoEscape", "internal/bytealg.IndexByteString", "internal/bytealg.abigen_runtime_cmpstring"], unfollowed := true, recurses := true, loops := true, apart := false, narrowed := true }
def TruthLawsUptoSaid : Prop := truthLawsUptoRow.holds Tryz.pinned (OpenSpec.upto truthLawsSpec)

end Rows
end Go.Proofs.YtjaigpidmngaaaaGreat
