/-
  No cell of these rows narrows 'for every input' (looked for: loops, veiled, ifaces, maps, wideKeys, modest, calm, conditions, laid).
  DERIVED. THE GIVEN ROWS OF THIS SEAT. 5 by the template 'for every input the law returns true; each argument reads behind the call as it read before'; 0 by the template 'total and deterministic' (their statements: YtfoebjicglgklaaTotals.lean).
  GIVEN WITH THE SEED: the statements are not yours to turn. If you find one false, say at which input.
  Laid BY PROGRAM, IN A SANDBOX (cutbox-rows.mjs): the forced cells as the released guide's own fill.sh prints them over the translation 160c793a273cdf1c… (all of the seat's roots in one cut). By AI agents, Wed Nov 11 2026. No macro, syntax, notation, axiom, sorry.
-/
import Derived.Test.YtfoebjicglgklaaChecked
import GoSem.Claim
import GoSem.ClaimJoined
import GoSem.ClaimMapViews
import Derived.JoinedTies
import Derived.KernelRfl
namespace Go.Proofs.Ytfoebjicglgklaa
/- THE CELL 'sum', in the pinned program and in every row, IS THE sha256 OF THE DUMP (.gsa) THAT YtfoebjicglgklaaProg.lean LOADS. Nothing in Lean hashes anything: it is a label: what it is worth is what the hold of that sum in a sandbox is worth. -/
noncomputable def Try.pinned : Pinned := { name := "ytfoebjicglgklaa", sum := "160c793a273cdf1ca64f3bc18febfcfbfdd95b2d562cca3d4ff9e8f96cf9beb2", checked := Try.checked }
namespace Rows
def none {H : Type} : Left H := { results := [], args := [] }

/-- 'acequialaw22.QueryFull': WHATEVER THE INPUT: true; the input reads as it did. -/
def queryFullSpec : ChangeSpec := { name := "queryFull", fn := fun _ => fun
  | [d1, d2] => { results := [.lit (.bool true)], args := [d1, d2] }
  | _ => none }
def queryFullRow : OpenClaim := { program := "ytfoebjicglgklaa", sum := "160c793a273cdf1ca64f3bc18febfcfbfdd95b2d562cca3d4ff9e8f96cf9beb2", func := "acequia/acequialaw22.QueryFull", spec := "queryFull", inPlace := ["internal/bytealg.abigen_runtime_cmpstring"], unfollowed := true, recurses := true, plainKeys := false, apart := false }
def QueryFullSaid : Prop := queryFullRow.holds Try.pinned (OpenSpec.ofChange queryFullSpec)

/-- ITS FALSE NEIGHBOUR: 'it returns false'. Refute it at one input. -/
def queryFullWrong : ChangeSpec := { name := "queryFull", fn := fun _ => fun
  | [d1, d2] => { results := [.lit (.bool false)], args := [d1, d2] }
  | _ => none }
def QueryFullWrongFalsely : Prop := queryFullRow.holds Try.pinned (OpenSpec.ofChange queryFullWrong)

/-- 'acequialaw22.QueryCounts': WHATEVER THE INPUT: true; the input reads as it did. -/
def queryCountsSpec : ChangeSpec := { name := "queryCounts", fn := fun _ => fun
  | [d1, d2] => { results := [.lit (.bool true)], args := [d1, d2] }
  | _ => none }
def queryCountsRow : OpenClaim := { program := "ytfoebjicglgklaa", sum := "160c793a273cdf1ca64f3bc18febfcfbfdd95b2d562cca3d4ff9e8f96cf9beb2", func := "acequia/acequialaw22.QueryCounts", spec := "queryCounts", inPlace := ["internal/bytealg.abigen_runtime_cmpstring"], unfollowed := true, recurses := true, plainKeys := false, apart := false }
def QueryCountsSaid : Prop := queryCountsRow.holds Try.pinned (OpenSpec.ofChange queryCountsSpec)

/-- ITS FALSE NEIGHBOUR: 'it returns false'. Refute it at one input. -/
def queryCountsWrong : ChangeSpec := { name := "queryCounts", fn := fun _ => fun
  | [d1, d2] => { results := [.lit (.bool false)], args := [d1, d2] }
  | _ => none }
def QueryCountsWrongFalsely : Prop := queryCountsRow.holds Try.pinned (OpenSpec.ofChange queryCountsWrong)

/-- 'acequialaw20.HostFull': WHATEVER THE INPUT: true; the input reads as it did. -/
def hostFullSpec : ChangeSpec := { name := "hostFull", fn := fun _ => fun
  | [d1, d2] => { results := [.lit (.bool true)], args := [d1, d2] }
  | _ => none }
def hostFullRow : OpenClaim := { program := "ytfoebjicglgklaa", sum := "160c793a273cdf1ca64f3bc18febfcfbfdd95b2d562cca3d4ff9e8f96cf9beb2", func := "acequia/acequialaw20.HostFull", spec := "hostFull", inPlace := ["internal/bytealg.abigen_runtime_cmpstring"], unfollowed := true, recurses := true, plainKeys := false, apart := false }
def HostFullSaid : Prop := hostFullRow.holds Try.pinned (OpenSpec.ofChange hostFullSpec)

/-- ITS FALSE NEIGHBOUR: 'it returns false'. Refute it at one input. -/
def hostFullWrong : ChangeSpec := { name := "hostFull", fn := fun _ => fun
  | [d1, d2] => { results := [.lit (.bool false)], args := [d1, d2] }
  | _ => none }
def HostFullWrongFalsely : Prop := hostFullRow.holds Try.pinned (OpenSpec.ofChange hostFullWrong)

/-- 'acequialaw20.HostNil': WHATEVER THE INPUT: true; the input reads as it did. -/
def hostNilSpec : ChangeSpec := { name := "hostNil", fn := fun _ => fun
  | [d1, d2, d3] => { results := [.lit (.bool true)], args := [d1, d2, d3] }
  | _ => none }
def hostNilRow : OpenClaim := { program := "ytfoebjicglgklaa", sum := "160c793a273cdf1ca64f3bc18febfcfbfdd95b2d562cca3d4ff9e8f96cf9beb2", func := "acequia/acequialaw20.HostNil", spec := "hostNil", inPlace := ["internal/bytealg.abigen_runtime_cmpstring"], unfollowed := true, recurses := true, plainKeys := false, apart := false }
def HostNilSaid : Prop := hostNilRow.holds Try.pinned (OpenSpec.ofChange hostNilSpec)

/-- ITS FALSE NEIGHBOUR: 'it returns false'. Refute it at one input. -/
def hostNilWrong : ChangeSpec := { name := "hostNil", fn := fun _ => fun
  | [d1, d2, d3] => { results := [.lit (.bool false)], args := [d1, d2, d3] }
  | _ => none }
def HostNilWrongFalsely : Prop := hostNilRow.holds Try.pinned (OpenSpec.ofChange hostNilWrong)

/-- 'acequialaw22.QueryNil': WHATEVER THE INPUT: true; the input reads as it did. -/
def queryNilSpec : ChangeSpec := { name := "queryNil", fn := fun _ => fun
  | [d1, d2] => { results := [.lit (.bool true)], args := [d1, d2] }
  | _ => none }
def queryNilRow : OpenClaim := { program := "ytfoebjicglgklaa", sum := "160c793a273cdf1ca64f3bc18febfcfbfdd95b2d562cca3d4ff9e8f96cf9beb2", func := "acequia/acequialaw22.QueryNil", spec := "queryNil", inPlace := ["internal/bytealg.abigen_runtime_cmpstring"], unfollowed := true, recurses := true, plainKeys := false, apart := false }
def QueryNilSaid : Prop := queryNilRow.holds Try.pinned (OpenSpec.ofChange queryNilSpec)

/-- ITS FALSE NEIGHBOUR: 'it returns false'. Refute it at one input. -/
def queryNilWrong : ChangeSpec := { name := "queryNil", fn := fun _ => fun
  | [d1, d2] => { results := [.lit (.bool false)], args := [d1, d2] }
  | _ => none }
def QueryNilWrongFalsely : Prop := queryNilRow.holds Try.pinned (OpenSpec.ofChange queryNilWrong)

/- THE SECOND FORM. 'bulk': how many values and letters a reading holds, each counted each time it is reached (what is shared counts as often as it is met; a slice's spare places count too). A statement '..UptoSaid' is the law's where the arguments, and the package variables that the reading takes, are together of bulk at most 1048576: NARROWER than '..Said'. Prove '..Said' where nothing that the law and all that it calls make is longer than what came in: it says more and counts as full. Else prove '..UptoSaid'. A law counts once. -/
mutual
def uptoBulk {H : Type} : DataW H → Nat
  | .lit (.string bytes) => bytes.length + 1
  | .lit _ => 1
  | .nil => 1
  | .ptr d => uptoBulk d + 1
  | .slice elems spare => uptoBulkAll elems + uptoBulkAll spare + 1
  | .agg parts => uptoBulkAll parts + 1
  | .iface _ d => uptoBulk d + 1
  | .map entries => uptoBulkEntries entries + 1
  | .held _ => 1
def uptoBulkAll {H : Type} : List (DataW H) → Nat
  | [] => 0
  | d :: r => uptoBulk d + uptoBulkAll r
def uptoBulkEntries {H : Type} : List (Lit × DataW H) → Nat
  | [] => 0
  | x :: r => uptoBulkEntry x + uptoBulkEntries r
def uptoBulkEntry {H : Type} : Lit × DataW H → Nat
  | (.string bytes, d) => bytes.length + uptoBulk d + 1
  | (_, d) => uptoBulk d + 1
 end
def uptoSmall : (H : Type) → List (DataW H) → Bool := fun _ ds => decide (uptoBulkAll ds ≤ 1048576)
def OpenSpec.upto (s : _root_.Go.ChangeSpec) : _root_.Go.OpenSpec := { _root_.Go.OpenSpec.ofChange s with cond := some uptoSmall }

/-- 'acequialaw22.QueryFull', WHERE WHAT IT READS IS OF BULK AT MOST 1048576: true; the input reads as it did. -/
def queryFullUptoRow : OpenClaim := { program := "ytfoebjicglgklaa", sum := "160c793a273cdf1ca64f3bc18febfcfbfdd95b2d562cca3d4ff9e8f96cf9beb2", func := "acequia/acequialaw22.QueryFull", spec := "queryFull", inPlace := ["internal/bytealg.abigen_runtime_cmpstring"], unfollowed := true, recurses := true, plainKeys := false, apart := false, narrowed := true }
def QueryFullUptoSaid : Prop := queryFullUptoRow.holds Try.pinned (OpenSpec.upto queryFullSpec)

/-- 'acequialaw22.QueryCounts', WHERE WHAT IT READS IS OF BULK AT MOST 1048576: true; the input reads as it did. -/
def queryCountsUptoRow : OpenClaim := { program := "ytfoebjicglgklaa", sum := "160c793a273cdf1ca64f3bc18febfcfbfdd95b2d562cca3d4ff9e8f96cf9beb2", func := "acequia/acequialaw22.QueryCounts", spec := "queryCounts", inPlace := ["internal/bytealg.abigen_runtime_cmpstring"], unfollowed := true, recurses := true, plainKeys := false, apart := false, narrowed := true }
def QueryCountsUptoSaid : Prop := queryCountsUptoRow.holds Try.pinned (OpenSpec.upto queryCountsSpec)

/-- 'acequialaw20.HostFull', WHERE WHAT IT READS IS OF BULK AT MOST 1048576: true; the input reads as it did. -/
def hostFullUptoRow : OpenClaim := { program := "ytfoebjicglgklaa", sum := "160c793a273cdf1ca64f3bc18febfcfbfdd95b2d562cca3d4ff9e8f96cf9beb2", func := "acequia/acequialaw20.HostFull", spec := "hostFull", inPlace := ["internal/bytealg.abigen_runtime_cmpstring"], unfollowed := true, recurses := true, plainKeys := false, apart := false, narrowed := true }
def HostFullUptoSaid : Prop := hostFullUptoRow.holds Try.pinned (OpenSpec.upto hostFullSpec)

/-- 'acequialaw20.HostNil', WHERE WHAT IT READS IS OF BULK AT MOST 1048576: true; the input reads as it did. -/
def hostNilUptoRow : OpenClaim := { program := "ytfoebjicglgklaa", sum := "160c793a273cdf1ca64f3bc18febfcfbfdd95b2d562cca3d4ff9e8f96cf9beb2", func := "acequia/acequialaw20.HostNil", spec := "hostNil", inPlace := ["internal/bytealg.abigen_runtime_cmpstring"], unfollowed := true, recurses := true, plainKeys := false, apart := false, narrowed := true }
def HostNilUptoSaid : Prop := hostNilUptoRow.holds Try.pinned (OpenSpec.upto hostNilSpec)

/-- 'acequialaw22.QueryNil', WHERE WHAT IT READS IS OF BULK AT MOST 1048576: true; the input reads as it did. -/
def queryNilUptoRow : OpenClaim := { program := "ytfoebjicglgklaa", sum := "160c793a273cdf1ca64f3bc18febfcfbfdd95b2d562cca3d4ff9e8f96cf9beb2", func := "acequia/acequialaw22.QueryNil", spec := "queryNil", inPlace := ["internal/bytealg.abigen_runtime_cmpstring"], unfollowed := true, recurses := true, plainKeys := false, apart := false, narrowed := true }
def QueryNilUptoSaid : Prop := queryNilUptoRow.holds Try.pinned (OpenSpec.upto queryNilSpec)

end Rows
end Go.Proofs.Ytfoebjicglgklaa
