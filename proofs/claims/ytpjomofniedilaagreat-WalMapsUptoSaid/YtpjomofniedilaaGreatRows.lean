/-
  No cell of these rows narrows 'for every input' (looked for: loops, veiled, ifaces, maps, wideKeys, modest, calm, conditions, laid).
  DERIVED. THE GIVEN ROWS OF THIS SEAT. 3 by the template 'for every input the law returns true; each argument reads behind the call as it read before'; 0 by the template 'total and deterministic' (their statements: YtpjomofniedilaaGreatTotals.lean).
  GIVEN WITH THE SEED: the statements are not yours to turn. If you find one false, say at which input.
  Laid BY PROGRAM, IN A SANDBOX (cutbox-rows.mjs): the forced cells as the released guide's own fill.sh prints them over the translation 432502e67effc852… (all of the seat's roots in one cut). By AI agents, Wed Nov 11 2026. No macro, syntax, notation, axiom, sorry.
-/
import Derived.Test.YtpjomofniedilaaGreatChecked
import GoSem.Claim
import GoSem.ClaimJoined
import GoSem.ClaimMapViews
import Derived.JoinedTies
import Derived.KernelRfl
namespace Go.Proofs.YtpjomofniedilaaGreat
/- THE CELL 'sum', in the pinned program and in every row, IS THE sha256 OF THE DUMP (.gsa) THAT YtpjomofniedilaaGreatProg.lean LOADS. Nothing in Lean hashes anything: it is a label: what it is worth is what the hold of that sum in a sandbox is worth. -/
noncomputable def Tryz.pinned : Pinned := { name := "ytpjomofniedilaagreat", sum := "432502e67effc852c7015a6130a6f1130855974b02a219fdc75fc0097806d381", checked := Tryz.checked }
namespace Rows
def none {H : Type} : Left H := { results := [], args := [] }

/-- 'quorumlaw19.WalOpens': WHATEVER THE INPUT: true; the input reads as it did. -/
def walOpensSpec : ChangeSpec := { name := "walOpens", fn := fun _ => fun
  | [d] => { results := [.lit (.bool true)], args := [d] }
  | _ => none }
def walOpensRow : OpenClaim := { program := "ytpjomofniedilaagreat", sum := "432502e67effc852c7015a6130a6f1130855974b02a219fdc75fc0097806d381", func := "quorum/quorumlaw19.WalOpens", spec := "walOpens", inPlace := ["internal/abi.NoEscape", "internal/bytealg.MakeNoZero"], unfollowed := true, recurses := true, apart := false }
def WalOpensSaid : Prop := walOpensRow.holds Tryz.pinned (OpenSpec.ofChange walOpensSpec)

/-- ITS FALSE NEIGHBOUR: 'it returns false'. Refute it at one input. -/
def walOpensWrong : ChangeSpec := { name := "walOpens", fn := fun _ => fun
  | [d] => { results := [.lit (.bool false)], args := [d] }
  | _ => none }
def WalOpensWrongFalsely : Prop := walOpensRow.holds Tryz.pinned (OpenSpec.ofChange walOpensWrong)

/-- 'quorumlaw19.WalPower': WHATEVER THE INPUT: true; the input reads as it did. -/
def walPowerSpec : ChangeSpec := { name := "walPower", fn := fun _ => fun
  | [d] => { results := [.lit (.bool true)], args := [d] }
  | _ => none }
def walPowerRow : OpenClaim := { program := "ytpjomofniedilaagreat", sum := "432502e67effc852c7015a6130a6f1130855974b02a219fdc75fc0097806d381", func := "quorum/quorumlaw19.WalPower", spec := "walPower", inPlace := ["internal/abi.NoEscape", "internal/bytealg.MakeNoZero"], unfollowed := true, recurses := true, apart := false }
def WalPowerSaid : Prop := walPowerRow.holds Tryz.pinned (OpenSpec.ofChange walPowerSpec)

/-- ITS FALSE NEIGHBOUR: 'it returns false'. Refute it at one input. -/
def walPowerWrong : ChangeSpec := { name := "walPower", fn := fun _ => fun
  | [d] => { results := [.lit (.bool false)], args := [d] }
  | _ => none }
def WalPowerWrongFalsely : Prop := walPowerRow.holds Tryz.pinned (OpenSpec.ofChange walPowerWrong)

/-- 'quorumlaw19.WalMaps': WHATEVER THE INPUT: true; the input reads as it did. -/
def walMapsSpec : ChangeSpec := { name := "walMaps", fn := fun _ => fun
  | [d] => { results := [.lit (.bool true)], args := [d] }
  | _ => none }
def walMapsRow : OpenClaim := { program := "ytpjomofniedilaagreat", sum := "432502e67effc852c7015a6130a6f1130855974b02a219fdc75fc0097806d381", func := "quorum/quorumlaw19.WalMaps", spec := "walMaps", inPlace := ["internal/bytealg.abigen_runtime_cmpstring", "slices.overlaps[quorum/api.Row]", "internal/abi.NoEscape", "internal/bytealg.MakeNoZero"], unfollowed := true, recurses := true, apart := false }
def WalMapsSaid : Prop := walMapsRow.holds Tryz.pinned (OpenSpec.ofChange walMapsSpec)

/-- ITS FALSE NEIGHBOUR: 'it returns false'. Refute it at one input. -/
def walMapsWrong : ChangeSpec := { name := "walMaps", fn := fun _ => fun
  | [d] => { results := [.lit (.bool false)], args := [d] }
  | _ => none }
def WalMapsWrongFalsely : Prop := walMapsRow.holds Tryz.pinned (OpenSpec.ofChange walMapsWrong)

/- THE SECOND FORM. 'bulk': how many values and letters a reading holds, each counted each time it is reached (what is shared counts as often as it is met; a slice's spare places count too). A statement '..UptoSaid' is the law's where the arguments, and the package variables that the reading takes, are together of bulk at most 1048576: NARROWER than '..Said'. Prove '..Said' where nothing that the law and all that it calls make is longer than what came in: it says more and counts as full. Else prove '..UptoSaid'. A law counts once. -/
mutual
def uptoBulk {H : Type} : DataW H → Nat
  | .lit (.string bytes) => bytes.length + 1
  | .lit _ => 1
  | .nil => 1
  | .ptr d => uptoBulk d + 1
  | .slice elems spare => uptoBulkAll elems + uptoBulkAll spare + 1
  | .agg parts => uptoBulkAll parts + 1
  | .iface _ d => uptoBulk d + 1
  | .map entries => uptoBulkEntries entries + 1
  | .held _ => 1
def uptoBulkAll {H : Type} : List (DataW H) → Nat
  | [] => 0
  | d :: r => uptoBulk d + uptoBulkAll r
def uptoBulkEntries {H : Type} : List (Lit × DataW H) → Nat
  | [] => 0
  | x :: r => uptoBulkEntry x + uptoBulkEntries r
def uptoBulkEntry {H : Type} : Lit × DataW H → Nat
  | (.string bytes, d) => bytes.length + uptoBulk d + 1
  | (_, d) => uptoBulk d + 1
 end
def uptoSmall : (H : Type) → List (DataW H) → Bool := fun _ ds => decide (uptoBulkAll ds ≤ 1048576)
def OpenSpec.upto (s : _root_.Go.ChangeSpec) : _root_.Go.OpenSpec := { _root_.Go.OpenSpec.ofChange s with cond := some uptoSmall }

/-- 'quorumlaw19.WalOpens', WHERE WHAT IT READS IS OF BULK AT MOST 1048576: true; the input reads as it did. -/
def walOpensUptoRow : OpenClaim := { program := "ytpjomofniedilaagreat", sum := "432502e67effc852c7015a6130a6f1130855974b02a219fdc75fc0097806d381", func := "quorum/quorumlaw19.WalOpens", spec := "walOpens", inPlace := ["internal/abi.NoEscape", "internal/bytealg.MakeNoZero"], unfollowed := true, recurses := true, apart := false, narrowed := true }
def WalOpensUptoSaid : Prop := walOpensUptoRow.holds Tryz.pinned (OpenSpec.upto walOpensSpec)

/-- 'quorumlaw19.WalPower', WHERE WHAT IT READS IS OF BULK AT MOST 1048576: true; the input reads as it did. -/
def walPowerUptoRow : OpenClaim := { program := "ytpjomofniedilaagreat", sum := "432502e67effc852c7015a6130a6f1130855974b02a219fdc75fc0097806d381", func := "quorum/quorumlaw19.WalPower", spec := "walPower", inPlace := ["internal/abi.NoEscape", "internal/bytealg.MakeNoZero"], unfollowed := true, recurses := true, apart := false, narrowed := true }
def WalPowerUptoSaid : Prop := walPowerUptoRow.holds Tryz.pinned (OpenSpec.upto walPowerSpec)

/-- 'quorumlaw19.WalMaps', WHERE WHAT IT READS IS OF BULK AT MOST 1048576: true; the input reads as it did. -/
def walMapsUptoRow : OpenClaim := { program := "ytpjomofniedilaagreat", sum := "432502e67effc852c7015a6130a6f1130855974b02a219fdc75fc0097806d381", func := "quorum/quorumlaw19.WalMaps", spec := "walMaps", inPlace := ["internal/bytealg.abigen_runtime_cmpstring", "slices.overlaps[quorum/api.Row]", "internal/abi.NoEscape", "internal/bytealg.MakeNoZero"], unfollowed := true, recurses := true, apart := false, narrowed := true }
def WalMapsUptoSaid : Prop := walMapsUptoRow.holds Tryz.pinned (OpenSpec.upto walMapsSpec)

end Rows
end Go.Proofs.YtpjomofniedilaaGreat
