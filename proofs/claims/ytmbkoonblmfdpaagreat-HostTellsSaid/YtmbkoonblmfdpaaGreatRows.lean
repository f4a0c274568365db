/-
  No cell of these rows narrows 'for every input' (looked for: loops, veiled, ifaces, maps, wideKeys, modest, calm, conditions, laid).
  DERIVED. THE GIVEN ROWS OF THIS SEAT. 4 by the template 'for every input the law returns true; each argument reads behind the call as it read before'; 0 by the template 'total and deterministic' (their statements: YtmbkoonblmfdpaaGreatTotals.lean).
  GIVEN WITH THE SEED: the statements are not yours to turn. If you find one false, say at which input.
  Laid BY PROGRAM, IN A SANDBOX (cutbox-rows.mjs): the forced cells as the released guide's own fill.sh prints them over the translation 1797c23765b3d188… (all of the seat's roots in one cut). By AI agents, Wed Nov 11 2026. No macro, syntax, notation, axiom, sorry.
-/
import Derived.Test.YtmbkoonblmfdpaaGreatChecked
import GoSem.Claim
import GoSem.ClaimJoined
import GoSem.ClaimMapViews
import Derived.JoinedTies
import Derived.KernelRfl
namespace Go.Proofs.YtmbkoonblmfdpaaGreat
/- THE CELL 'sum', in the pinned program and in every row, IS THE sha256 OF THE DUMP (.gsa) THAT YtmbkoonblmfdpaaGreatProg.lean LOADS. Nothing in Lean hashes anything: it is a label: what it is worth is what the hold of that sum in a sandbox is worth. -/
noncomputable def Tryz.pinned : Pinned := { name := "ytmbkoonblmfdpaagreat", sum := "1797c23765b3d188843a7a2120bb9bf38957ac71fce98a4dce7b01a528c71233", checked := Tryz.checked }
namespace Rows
def none {H : Type} : Left H := { results := [], args := [] }

/-- 'acequialaw20.HostPacks': WHATEVER THE INPUT: true; the input reads as it did. -/
def hostPacksSpec : ChangeSpec := { name := "hostPacks", fn := fun _ => fun
  | [d1, d2, d3] => { results := [.lit (.bool true)], args := [d1, d2, d3] }
  | _ => none }
def hostPacksRow : OpenClaim := { program := "ytmbkoonblmfdpaagreat", sum := "1797c23765b3d188843a7a2120bb9bf38957ac71fce98a4dce7b01a528c71233", func := "acequia/acequialaw20.HostPacks", spec := "hostPacks", inPlace := ["internal/bytealg.abigen_runtime_cmpstring"], unfollowed := true, recurses := true, plainKeys := false, apart := false }
def HostPacksSaid : Prop := hostPacksRow.holds Tryz.pinned (OpenSpec.ofChange hostPacksSpec)

/-- ITS FALSE NEIGHBOUR: 'it returns false'. Refute it at one input. -/
def hostPacksWrong : ChangeSpec := { name := "hostPacks", fn := fun _ => fun
  | [d1, d2, d3] => { results := [.lit (.bool false)], args := [d1, d2, d3] }
  | _ => none }
def HostPacksWrongFalsely : Prop := hostPacksRow.holds Tryz.pinned (OpenSpec.ofChange hostPacksWrong)

/-- 'acequialaw20.HostTells': WHATEVER THE INPUT: true; the input reads as it did. -/
def hostTellsSpec : ChangeSpec := { name := "hostTells", fn := fun _ => fun
  | [d] => { results := [.lit (.bool true)], args := [d] }
  | _ => none }
def hostTellsRow : OpenClaim := { program := "ytmbkoonblmfdpaagreat", sum := "1797c23765b3d188843a7a2120bb9bf38957ac71fce98a4dce7b01a528c71233", func := "acequia/acequialaw20.HostTells", spec := "hostTells", inPlace := ["internal/bytealg.abigen_runtime_cmpstring"], unfollowed := true, recurses := true, plainKeys := false, apart := false }
def HostTellsSaid : Prop := hostTellsRow.holds Tryz.pinned (OpenSpec.ofChange hostTellsSpec)

/-- ITS FALSE NEIGHBOUR: 'it returns false'. Refute it at one input. -/
def hostTellsWrong : ChangeSpec := { name := "hostTells", fn := fun _ => fun
  | [d] => { results := [.lit (.bool false)], args := [d] }
  | _ => none }
def HostTellsWrongFalsely : Prop := hostTellsRow.holds Tryz.pinned (OpenSpec.ofChange hostTellsWrong)

/-- 'acequialaw24.ProxyGathers': WHATEVER THE INPUT: true; the input reads as it did. -/
def proxyGathersSpec : ChangeSpec := { name := "proxyGathers", fn := fun _ => fun
  | [d1, d2, d3] => { results := [.lit (.bool true)], args := [d1, d2, d3] }
  | _ => none }
def proxyGathersRow : OpenClaim := { program := "ytmbkoonblmfdpaagreat", sum := "1797c23765b3d188843a7a2120bb9bf38957ac71fce98a4dce7b01a528c71233", func := "acequia/acequialaw24.ProxyGathers", spec := "proxyGathers", inPlace := ["internal/bytealg.abigen_runtime_cmpstring"], unfollowed := true, recurses := true, plainKeys := false, apart := false }
def ProxyGathersSaid : Prop := proxyGathersRow.holds Tryz.pinned (OpenSpec.ofChange proxyGathersSpec)

/-- ITS FALSE NEIGHBOUR: 'it returns false'. Refute it at one input. -/
def proxyGathersWrong : ChangeSpec := { name := "proxyGathers", fn := fun _ => fun
  | [d1, d2, d3] => { results := [.lit (.bool false)], args := [d1, d2, d3] }
  | _ => none }
def ProxyGathersWrongFalsely : Prop := proxyGathersRow.holds Tryz.pinned (OpenSpec.ofChange proxyGathersWrong)

/-- 'acequialaw24.ProxyNil': WHATEVER THE INPUT: true; the input reads as it did. -/
def proxyNilSpec : ChangeSpec := { name := "proxyNil", fn := fun _ => fun
  | [d1, d2, d3] => { results := [.lit (.bool true)], args := [d1, d2, d3] }
  | _ => none }
def proxyNilRow : OpenClaim := { program := "ytmbkoonblmfdpaagreat", sum := "1797c23765b3d188843a7a2120bb9bf38957ac71fce98a4dce7b01a528c71233", func := "acequia/acequialaw24.ProxyNil", spec := "proxyNil", inPlace := ["internal/bytealg.abigen_runtime_cmpstring"], unfollowed := true, recurses := true, plainKeys := false, apart := false }
def ProxyNilSaid : Prop := proxyNilRow.holds Tryz.pinned (OpenSpec.ofChange proxyNilSpec)

/-- ITS FALSE NEIGHBOUR: 'it returns false'. Refute it at one input. -/
def proxyNilWrong : ChangeSpec := { name := "proxyNil", fn := fun _ => fun
  | [d1, d2, d3] => { results := [.lit (.bool false)], args := [d1, d2, d3] }
  | _ => none }
def ProxyNilWrongFalsely : Prop := proxyNilRow.holds Tryz.pinned (OpenSpec.ofChange proxyNilWrong)

/- THE SECOND FORM. 'bulk': how many values and letters a reading holds, each counted each time it is reached (what is shared counts as often as it is met; a slice's spare places count too). A statement '..UptoSaid' is the law's where the arguments, and the package variables that the reading takes, are together of bulk at most 1048576: NARROWER than '..Said'. Prove '..Said' where nothing that the law and all that it calls make is longer than what came in: it says more and counts as full. Else prove '..UptoSaid'. A law counts once. -/
mutual
def uptoBulk {H : Type} : DataW H → Nat
  | .lit (.string bytes) => bytes.length + 1
  | .lit _ => 1
  | .nil => 1
  | .ptr d => uptoBulk d + 1
  | .slice elems spare => uptoBulkAll elems + uptoBulkAll spare + 1
  | .agg parts => uptoBulkAll parts + 1
  | .iface _ d => uptoBulk d + 1
  | .map entries => uptoBulkEntries entries + 1
  | .held _ => 1
def uptoBulkAll {H : Type} : List (DataW H) → Nat
  | [] => 0
  | d :: r => uptoBulk d + uptoBulkAll r
def uptoBulkEntries {H : Type} : List (Lit × DataW H) → Nat
  | [] => 0
  | x :: r => uptoBulkEntry x + uptoBulkEntries r
def uptoBulkEntry {H : Type} : Lit × DataW H → Nat
  | (.string bytes, d) => bytes.length + uptoBulk d + 1
  | (_, d) => uptoBulk d + 1
 end
def uptoSmall : (H : Type) → List (DataW H) → Bool := fun _ ds => decide (uptoBulkAll ds ≤ 1048576)
def OpenSpec.upto (s : _root_.Go.ChangeSpec) : _root_.Go.OpenSpec := { _root_.Go.OpenSpec.ofChange s with cond := some uptoSmall }

/-- 'acequialaw20.HostPacks', WHERE WHAT IT READS IS OF BULK AT MOST 1048576: true; the input reads as it did. -/
def hostPacksUptoRow : OpenClaim := { program := "ytmbkoonblmfdpaagreat", sum := "1797c23765b3d188843a7a2120bb9bf38957ac71fce98a4dce7b01a528c71233", func := "acequia/acequialaw20.HostPacks", spec := "hostPacks", inPlace := ["internal/bytealg.abigen_runtime_cmpstring"], unfollowed := true, recurses := true, plainKeys := false, apart := false, narrowed := true }
def HostPacksUptoSaid : Prop := hostPacksUptoRow.holds Tryz.pinned (OpenSpec.upto hostPacksSpec)

/-- 'acequialaw20.HostTells', WHERE WHAT IT READS IS OF BULK AT MOST 1048576: true; the input reads as it did. -/
def hostTellsUptoRow : OpenClaim := { program := "ytmbkoonblmfdpaagreat", sum := "1797c23765b3d188843a7a2120bb9bf38957ac71fce98a4dce7b01a528c71233", func := "acequia/acequialaw20.HostTells", spec := "hostTells", inPlace := ["internal/bytealg.abigen_runtime_cmpstring"], unfollowed := true, recurses := true, plainKeys := false, apart := false, narrowed := true }
def HostTellsUptoSaid : Prop := hostTellsUptoRow.holds Tryz.pinned (OpenSpec.upto hostTellsSpec)

/-- 'acequialaw24.ProxyGathers', WHERE WHAT IT READS IS OF BULK AT MOST 1048576: true; the input reads as it did. -/
def proxyGathersUptoRow : OpenClaim := { program := "ytmbkoonblmfdpaagreat", sum := "1797c23765b3d188843a7a2120bb9bf38957ac71fce98a4dce7b01a528c71233", func := "acequia/acequialaw24.ProxyGathers", spec := "proxyGathers", inPlace := ["internal/bytealg.abigen_runtime_cmpstring"], unfollowed := true, recurses := true, plainKeys := false, apart := false, narrowed := true }
def ProxyGathersUptoSaid : Prop := proxyGathersUptoRow.holds Tryz.pinned (OpenSpec.upto proxyGathersSpec)

/-- 'acequialaw24.ProxyNil', WHERE WHAT IT READS IS OF BULK AT MOST 1048576: true; the input reads as it did. -/
def proxyNilUptoRow : OpenClaim := { program := "ytmbkoonblmfdpaagreat", sum := "1797c23765b3d188843a7a2120bb9bf38957ac71fce98a4dce7b01a528c71233", func := "acequia/acequialaw24.ProxyNil", spec := "proxyNil", inPlace := ["internal/bytealg.abigen_runtime_cmpstring"], unfollowed := true, recurses := true, plainKeys := false, apart := false, narrowed := true }
def ProxyNilUptoSaid : Prop := proxyNilUptoRow.holds Tryz.pinned (OpenSpec.upto proxyNilSpec)

end Rows
end Go.Proofs.YtmbkoonblmfdpaaGreat
