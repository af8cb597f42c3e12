/-
  No cell of these rows narrows 'for every input' (looked for: loops, veiled, ifaces, maps, wideKeys, modest, calm, conditions, laid).
  DERIVED. THE GIVEN ROWS OF THIS SEAT. 4 by the template 'for every input the law returns true; each argument reads behind the call as it read before'; 0 by the template 'total and deterministic' (their statements: YtkgdpmeheakdcaaGreatTotals.lean).
  GIVEN WITH THE SEED: the statements are not yours to turn. If you find one false, say at which input.
  Laid BY PROGRAM, IN A SANDBOX (cutbox-rows.mjs): the forced cells as the released guide's own fill.sh prints them over the translation c57c80e7e27a67a4… (all of the seat's roots in one cut). By AI agents, Wed Nov 11 2026. No macro, syntax, notation, axiom, sorry.
-/
import Derived.Test.YtkgdpmeheakdcaaGreatChecked
import GoSem.Claim
import GoSem.ClaimJoined
import GoSem.ClaimMapViews
import Derived.JoinedTies
import Derived.KernelRfl
namespace Go.Proofs.YtkgdpmeheakdcaaGreat
/- THE CELL 'sum', in the pinned program and in every row, IS THE sha256 OF THE DUMP (.gsa) THAT YtkgdpmeheakdcaaGreatProg.lean LOADS. Nothing in Lean hashes anything: it is a label: what it is worth is what the hold of that sum in a sandbox is worth. -/
noncomputable def Tryz.pinned : Pinned := { name := "ytkgdpmeheakdcaagreat", sum := "c57c80e7e27a67a464b95f5e9cfc263325e61221c07b123ac81f97593ba3ec00", checked := Tryz.checked }
namespace Rows
def none {H : Type} : Left H := { results := [], args := [] }

/-- 'commonslaw10.BlockRefuses': WHATEVER THE INPUT: true; the input reads as it did. -/
def blockRefusesSpec : ChangeSpec := { name := "blockRefuses", fn := fun _ => fun
  | [d1, d2, d3, d4] => { results := [.lit (.bool true)], args := [d1, d2, d3, d4] }
  | _ => none }
def blockRefusesRow : OpenClaim := { program := "ytkgdpmeheakdcaagreat", sum := "c57c80e7e27a67a464b95f5e9cfc263325e61221c07b123ac81f97593ba3ec00", func := "commons/commonslaw10.BlockRefuses", spec := "blockRefuses", inPlace := ["internal/abi.NoEscape", "internal/bytealg.MakeNoZero"], apart := false }
def BlockRefusesSaid : Prop := blockRefusesRow.holds Tryz.pinned (OpenSpec.ofChange blockRefusesSpec)

/-- ITS FALSE NEIGHBOUR: 'it returns false'. Refute it at one input. -/
def blockRefusesWrong : ChangeSpec := { name := "blockRefuses", fn := fun _ => fun
  | [d1, d2, d3, d4] => { results := [.lit (.bool false)], args := [d1, d2, d3, d4] }
  | _ => none }
def BlockRefusesWrongFalsely : Prop := blockRefusesRow.holds Tryz.pinned (OpenSpec.ofChange blockRefusesWrong)

/-- 'commonslaw12.LogRefuses': WHATEVER THE INPUT: true; the input reads as it did. -/
def logRefusesSpec : ChangeSpec := { name := "logRefuses", fn := fun _ => fun
  | [d1, d2] => { results := [.lit (.bool true)], args := [d1, d2] }
  | _ => none }
def logRefusesRow : OpenClaim := { program := "ytkgdpmeheakdcaagreat", sum := "c57c80e7e27a67a464b95f5e9cfc263325e61221c07b123ac81f97593ba3ec00", func := "commons/commonslaw12.LogRefuses", spec := "logRefuses", inPlace := ["internal/abi.NoEscape", "internal/bytealg.MakeNoZero"], apart := false }
def LogRefusesSaid : Prop := logRefusesRow.holds Tryz.pinned (OpenSpec.ofChange logRefusesSpec)

/-- ITS FALSE NEIGHBOUR: 'it returns false'. Refute it at one input. -/
def logRefusesWrong : ChangeSpec := { name := "logRefuses", fn := fun _ => fun
  | [d1, d2] => { results := [.lit (.bool false)], args := [d1, d2] }
  | _ => none }
def LogRefusesWrongFalsely : Prop := logRefusesRow.holds Tryz.pinned (OpenSpec.ofChange logRefusesWrong)

/-- 'commonslaw12.LogRound': WHATEVER THE INPUT: true; the input reads as it did. -/
def logRoundSpec : ChangeSpec := { name := "logRound", fn := fun _ => fun
  | [d1, d2] => { results := [.lit (.bool true)], args := [d1, d2] }
  | _ => none }
def logRoundRow : OpenClaim := { program := "ytkgdpmeheakdcaagreat", sum := "c57c80e7e27a67a464b95f5e9cfc263325e61221c07b123ac81f97593ba3ec00", func := "commons/commonslaw12.LogRound", spec := "logRound", inPlace := ["internal/abi.NoEscape", "internal/bytealg.MakeNoZero"], apart := false }
def LogRoundSaid : Prop := logRoundRow.holds Tryz.pinned (OpenSpec.ofChange logRoundSpec)

/-- ITS FALSE NEIGHBOUR: 'it returns false'. Refute it at one input. -/
def logRoundWrong : ChangeSpec := { name := "logRound", fn := fun _ => fun
  | [d1, d2] => { results := [.lit (.bool false)], args := [d1, d2] }
  | _ => none }
def LogRoundWrongFalsely : Prop := logRoundRow.holds Tryz.pinned (OpenSpec.ofChange logRoundWrong)

/-- 'commonslaw12.LogNone': WHATEVER THE INPUT: true; the input reads as it did. -/
def logNoneSpec : ChangeSpec := { name := "logNone", fn := fun _ => fun
  | [d1, d2] => { results := [.lit (.bool true)], args := [d1, d2] }
  | _ => none }
def logNoneRow : OpenClaim := { program := "ytkgdpmeheakdcaagreat", sum := "c57c80e7e27a67a464b95f5e9cfc263325e61221c07b123ac81f97593ba3ec00", func := "commons/commonslaw12.LogNone", spec := "logNone", inPlace := ["internal/abi.NoEscape", "internal/bytealg.MakeNoZero"], apart := false }
def LogNoneSaid : Prop := logNoneRow.holds Tryz.pinned (OpenSpec.ofChange logNoneSpec)

/-- ITS FALSE NEIGHBOUR: 'it returns false'. Refute it at one input. -/
def logNoneWrong : ChangeSpec := { name := "logNone", fn := fun _ => fun
  | [d1, d2] => { results := [.lit (.bool false)], args := [d1, d2] }
  | _ => none }
def LogNoneWrongFalsely : Prop := logNoneRow.holds Tryz.pinned (OpenSpec.ofChange logNoneWrong)

/- THE SECOND FORM. 'bulk': how many values and letters a reading holds, each counted each time it is reached (what is shared counts as often as it is met; a slice's spare places count too). A statement '..UptoSaid' is the law's where the arguments, and the package variables that the reading takes, are together of bulk at most 1048576: NARROWER than '..Said'. Prove '..Said' where nothing that the law and all that it calls make is longer than what came in: it says more and counts as full. Else prove '..UptoSaid'. A law counts once. -/
mutual
def uptoBulk {H : Type} : DataW H → Nat
  | .lit (.string bytes) => bytes.length + 1
  | .lit _ => 1
  | .nil => 1
  | .ptr d => uptoBulk d + 1
  | .slice elems spare => uptoBulkAll elems + uptoBulkAll spare + 1
  | .agg parts => uptoBulkAll parts + 1
  | .iface _ d => uptoBulk d + 1
  | .map entries => uptoBulkEntries entries + 1
  | .held _ => 1
def uptoBulkAll {H : Type} : List (DataW H) → Nat
  | [] => 0
  | d :: r => uptoBulk d + uptoBulkAll r
def uptoBulkEntries {H : Type} : List (Lit × DataW H) → Nat
  | [] => 0
  | x :: r => uptoBulkEntry x + uptoBulkEntries r
def uptoBulkEntry {H : Type} : Lit × DataW H → Nat
  | (.string bytes, d) => bytes.length + uptoBulk d + 1
  | (_, d) => uptoBulk d + 1
 end
def uptoSmall : (H : Type) → List (DataW H) → Bool := fun _ ds => decide (uptoBulkAll ds ≤ 1048576)
def OpenSpec.upto (s : _root_.Go.ChangeSpec) : _root_.Go.OpenSpec := { _root_.Go.OpenSpec.ofChange s with cond := some uptoSmall }

/-- 'commonslaw10.BlockRefuses', WHERE WHAT IT READS IS OF BULK AT MOST 1048576: true; the input reads as it did. -/
def blockRefusesUptoRow : OpenClaim := { program := "ytkgdpmeheakdcaagreat", sum := "c57c80e7e27a67a464b95f5e9cfc263325e61221c07b123ac81f97593ba3ec00", func := "commons/commonslaw10.BlockRefuses", spec := "blockRefuses", inPlace := ["internal/abi.NoEscape", "internal/bytealg.MakeNoZero"], apart := false, narrowed := true }
def BlockRefusesUptoSaid : Prop := blockRefusesUptoRow.holds Tryz.pinned (OpenSpec.upto blockRefusesSpec)

/-- 'commonslaw12.LogRefuses', WHERE WHAT IT READS IS OF BULK AT MOST 1048576: true; the input reads as it did. -/
def logRefusesUptoRow : OpenClaim := { program := "ytkgdpmeheakdcaagreat", sum := "c57c80e7e27a67a464b95f5e9cfc263325e61221c07b123ac81f97593ba3ec00", func := "commons/commonslaw12.LogRefuses", spec := "logRefuses", inPlace := ["internal/abi.NoEscape", "internal/bytealg.MakeNoZero"], apart := false, narrowed := true }
def LogRefusesUptoSaid : Prop := logRefusesUptoRow.holds Tryz.pinned (OpenSpec.upto logRefusesSpec)

/-- 'commonslaw12.LogRound', WHERE WHAT IT READS IS OF BULK AT MOST 1048576: true; the input reads as it did. -/
def logRoundUptoRow : OpenClaim := { program := "ytkgdpmeheakdcaagreat", sum := "c57c80e7e27a67a464b95f5e9cfc263325e61221c07b123ac81f97593ba3ec00", func := "commons/commonslaw12.LogRound", spec := "logRound", inPlace := ["internal/abi.NoEscape", "internal/bytealg.MakeNoZero"], apart := false, narrowed := true }
def LogRoundUptoSaid : Prop := logRoundUptoRow.holds Tryz.pinned (OpenSpec.upto logRoundSpec)

/-- 'commonslaw12.LogNone', WHERE WHAT IT READS IS OF BULK AT MOST 1048576: true; the input reads as it did. -/
def logNoneUptoRow : OpenClaim := { program := "ytkgdpmeheakdcaagreat", sum := "c57c80e7e27a67a464b95f5e9cfc263325e61221c07b123ac81f97593ba3ec00", func := "commons/commonslaw12.LogNone", spec := "logNone", inPlace := ["internal/abi.NoEscape", "internal/bytealg.MakeNoZero"], apart := false, narrowed := true }
def LogNoneUptoSaid : Prop := logNoneUptoRow.holds Tryz.pinned (OpenSpec.upto logNoneSpec)

end Rows
end Go.Proofs.YtkgdpmeheakdcaaGreat
