/-
  No cell of these rows narrows 'for every input' (looked for: loops, veiled, ifaces, maps, wideKeys, modest, calm, conditions, laid).
  DERIVED. THE GIVEN ROWS OF THIS SEAT. 12 by the template 'for every input the law returns true; each argument reads behind the call as it read before'; 0 by the template 'total and deterministic' (their statements: YtnemfpgfgblpbaaTotals.lean).
  GIVEN WITH THE SEED: the statements are not yours to turn. If you find one false, say at which input.
  Laid BY PROGRAM, IN A SANDBOX (cutbox-rows.mjs): the forced cells as the released guide's own fill.sh prints them over the translation 97f28d5314f5b610… (all of the seat's roots in one cut). By AI agents, Wed Nov 11 2026. No macro, syntax, notation, axiom, sorry.
-/
import Derived.Test.YtnemfpgfgblpbaaChecked
import GoSem.Claim
import GoSem.ClaimJoined
import GoSem.ClaimMapViews
import Derived.JoinedTies
import Derived.KernelRfl
namespace Go.Proofs.Ytnemfpgfgblpbaa
/- THE CELL 'sum', in the pinned program and in every row, IS THE sha256 OF THE DUMP (.gsa) THAT YtnemfpgfgblpbaaProg.lean LOADS. Nothing in Lean hashes anything: it is a label: what it is worth is what the hold of that sum in a sandbox is worth. -/
noncomputable def Try.pinned : Pinned := { name := "ytnemfpgfgblpbaa", sum := "97f28d5314f5b610c3937f666ef5bf7c4542ac5824e84ea118957cc59f0776eb", checked := Try.checked }
namespace Rows
def none {H : Type} : Left H := { results := [], args := [] }

/-- 'acequialaw31.AliveStays': WHATEVER THE INPUT: true; the input reads as it did. -/
def aliveStaysSpec : ChangeSpec := { name := "aliveStays", fn := fun _ => fun
  | [d1, d2, d3] => { results := [.lit (.bool true)], args := [d1, d2, d3] }
  | _ => none }
def aliveStaysRow : OpenClaim := { program := "ytnemfpgfgblpbaa", sum := "97f28d5314f5b610c3937f666ef5bf7c4542ac5824e84ea118957cc59f0776eb", func := "acequia/acequialaw31.AliveStays", spec := "aliveStays", unfollowed := true, recurses := true, plainKeys := false, apart := false }
def AliveStaysSaid : Prop := aliveStaysRow.holds Try.pinned (OpenSpec.ofChange aliveStaysSpec)

/-- ITS FALSE NEIGHBOUR: 'it returns false'. Refute it at one input. -/
def aliveStaysWrong : ChangeSpec := { name := "aliveStays", fn := fun _ => fun
  | [d1, d2, d3] => { results := [.lit (.bool false)], args := [d1, d2, d3] }
  | _ => none }
def AliveStaysWrongFalsely : Prop := aliveStaysRow.holds Try.pinned (OpenSpec.ofChange aliveStaysWrong)

/-- 'acequialaw31.AlivePlays': WHATEVER THE INPUT: true; the input reads as it did. -/
def alivePlaysSpec : ChangeSpec := { name := "alivePlays", fn := fun _ => fun
  | [d1, d2, d3] => { results := [.lit (.bool true)], args := [d1, d2, d3] }
  | _ => none }
def alivePlaysRow : OpenClaim := { program := "ytnemfpgfgblpbaa", sum := "97f28d5314f5b610c3937f666ef5bf7c4542ac5824e84ea118957cc59f0776eb", func := "acequia/acequialaw31.AlivePlays", spec := "alivePlays", unfollowed := true, recurses := true, plainKeys := false, apart := false }
def AlivePlaysSaid : Prop := alivePlaysRow.holds Try.pinned (OpenSpec.ofChange alivePlaysSpec)

/-- ITS FALSE NEIGHBOUR: 'it returns false'. Refute it at one input. -/
def alivePlaysWrong : ChangeSpec := { name := "alivePlays", fn := fun _ => fun
  | [d1, d2, d3] => { results := [.lit (.bool false)], args := [d1, d2, d3] }
  | _ => none }
def AlivePlaysWrongFalsely : Prop := alivePlaysRow.holds Try.pinned (OpenSpec.ofChange alivePlaysWrong)

/-- 'acequialaw31.AliveNil': WHATEVER THE INPUT: true; the input reads as it did. -/
def aliveNilSpec : ChangeSpec := { name := "aliveNil", fn := fun _ => fun
  | [d] => { results := [.lit (.bool true)], args := [d] }
  | _ => none }
def aliveNilRow : OpenClaim := { program := "ytnemfpgfgblpbaa", sum := "97f28d5314f5b610c3937f666ef5bf7c4542ac5824e84ea118957cc59f0776eb", func := "acequia/acequialaw31.AliveNil", spec := "aliveNil", unfollowed := true, recurses := true, plainKeys := false, apart := false }
def AliveNilSaid : Prop := aliveNilRow.holds Try.pinned (OpenSpec.ofChange aliveNilSpec)

/-- ITS FALSE NEIGHBOUR: 'it returns false'. Refute it at one input. -/
def aliveNilWrong : ChangeSpec := { name := "aliveNil", fn := fun _ => fun
  | [d] => { results := [.lit (.bool false)], args := [d] }
  | _ => none }
def AliveNilWrongFalsely : Prop := aliveNilRow.holds Try.pinned (OpenSpec.ofChange aliveNilWrong)

/-- 'acequialaw12.ClockPlays': WHATEVER THE INPUT: true; the input reads as it did. -/
def clockPlaysSpec : ChangeSpec := { name := "clockPlays", fn := fun _ => fun
  | [d1, d2] => { results := [.lit (.bool true)], args := [d1, d2] }
  | _ => none }
def clockPlaysRow : OpenClaim := { program := "ytnemfpgfgblpbaa", sum := "97f28d5314f5b610c3937f666ef5bf7c4542ac5824e84ea118957cc59f0776eb", func := "acequia/acequialaw12.ClockPlays", spec := "clockPlays", unfollowed := true, recurses := true, plainKeys := false, apart := false }
def ClockPlaysSaid : Prop := clockPlaysRow.holds Try.pinned (OpenSpec.ofChange clockPlaysSpec)

/-- ITS FALSE NEIGHBOUR: 'it returns false'. Refute it at one input. -/
def clockPlaysWrong : ChangeSpec := { name := "clockPlays", fn := fun _ => fun
  | [d1, d2] => { results := [.lit (.bool false)], args := [d1, d2] }
  | _ => none }
def ClockPlaysWrongFalsely : Prop := clockPlaysRow.holds Try.pinned (OpenSpec.ofChange clockPlaysWrong)

/-- 'acequialaw12.ClockCopies': WHATEVER THE INPUT: true; the input reads as it did. -/
def clockCopiesSpec : ChangeSpec := { name := "clockCopies", fn := fun _ => fun
  | [d1, d2, d3] => { results := [.lit (.bool true)], args := [d1, d2, d3] }
  | _ => none }
def clockCopiesRow : OpenClaim := { program := "ytnemfpgfgblpbaa", sum := "97f28d5314f5b610c3937f666ef5bf7c4542ac5824e84ea118957cc59f0776eb", func := "acequia/acequialaw12.ClockCopies", spec := "clockCopies", unfollowed := true, recurses := true, plainKeys := false, apart := false }
def ClockCopiesSaid : Prop := clockCopiesRow.holds Try.pinned (OpenSpec.ofChange clockCopiesSpec)

/-- ITS FALSE NEIGHBOUR: 'it returns false'. Refute it at one input. -/
def clockCopiesWrong : ChangeSpec := { name := "clockCopies", fn := fun _ => fun
  | [d1, d2, d3] => { results := [.lit (.bool false)], args := [d1, d2, d3] }
  | _ => none }
def ClockCopiesWrongFalsely : Prop := clockCopiesRow.holds Try.pinned (OpenSpec.ofChange clockCopiesWrong)

/-- 'acequialaw12.ClockNil': WHATEVER THE INPUT: true; the input reads as it did. -/
def clockNilSpec : ChangeSpec := { name := "clockNil", fn := fun _ => fun
  | [d1, d2] => { results := [.lit (.bool true)], args := [d1, d2] }
  | _ => none }
def clockNilRow : OpenClaim := { program := "ytnemfpgfgblpbaa", sum := "97f28d5314f5b610c3937f666ef5bf7c4542ac5824e84ea118957cc59f0776eb", func := "acequia/acequialaw12.ClockNil", spec := "clockNil", unfollowed := true, recurses := true, plainKeys := false, apart := false }
def ClockNilSaid : Prop := clockNilRow.holds Try.pinned (OpenSpec.ofChange clockNilSpec)

/-- ITS FALSE NEIGHBOUR: 'it returns false'. Refute it at one input. -/
def clockNilWrong : ChangeSpec := { name := "clockNil", fn := fun _ => fun
  | [d1, d2] => { results := [.lit (.bool false)], args := [d1, d2] }
  | _ => none }
def ClockNilWrongFalsely : Prop := clockNilRow.holds Try.pinned (OpenSpec.ofChange clockNilWrong)

/-- 'acequialaw23.RouteStays': WHATEVER THE INPUT: true; the input reads as it did. -/
def routeStaysSpec : ChangeSpec := { name := "routeStays", fn := fun _ => fun
  | [d1, d2, d3] => { results := [.lit (.bool true)], args := [d1, d2, d3] }
  | _ => none }
def routeStaysRow : OpenClaim := { program := "ytnemfpgfgblpbaa", sum := "97f28d5314f5b610c3937f666ef5bf7c4542ac5824e84ea118957cc59f0776eb", func := "acequia/acequialaw23.RouteStays", spec := "routeStays", unfollowed := true, recurses := true, plainKeys := false, apart := false }
def RouteStaysSaid : Prop := routeStaysRow.holds Try.pinned (OpenSpec.ofChange routeStaysSpec)

/-- ITS FALSE NEIGHBOUR: 'it returns false'. Refute it at one input. -/
def routeStaysWrong : ChangeSpec := { name := "routeStays", fn := fun _ => fun
  | [d1, d2, d3] => { results := [.lit (.bool false)], args := [d1, d2, d3] }
  | _ => none }
def RouteStaysWrongFalsely : Prop := routeStaysRow.holds Try.pinned (OpenSpec.ofChange routeStaysWrong)

/-- 'acequialaw23.RoutePlays': WHATEVER THE INPUT: true; the input reads as it did. -/
def routePlaysSpec : ChangeSpec := { name := "routePlays", fn := fun _ => fun
  | [d1, d2, d3] => { results := [.lit (.bool true)], args := [d1, d2, d3] }
  | _ => none }
def routePlaysRow : OpenClaim := { program := "ytnemfpgfgblpbaa", sum := "97f28d5314f5b610c3937f666ef5bf7c4542ac5824e84ea118957cc59f0776eb", func := "acequia/acequialaw23.RoutePlays", spec := "routePlays", unfollowed := true, recurses := true, plainKeys := false, apart := false }
def RoutePlaysSaid : Prop := routePlaysRow.holds Try.pinned (OpenSpec.ofChange routePlaysSpec)

/-- ITS FALSE NEIGHBOUR: 'it returns false'. Refute it at one input. -/
def routePlaysWrong : ChangeSpec := { name := "routePlays", fn := fun _ => fun
  | [d1, d2, d3] => { results := [.lit (.bool false)], args := [d1, d2, d3] }
  | _ => none }
def RoutePlaysWrongFalsely : Prop := routePlaysRow.holds Try.pinned (OpenSpec.ofChange routePlaysWrong)

/-- 'acequialaw23.RouteNil': WHATEVER THE INPUT: true; the input reads as it did. -/
def routeNilSpec : ChangeSpec := { name := "routeNil", fn := fun _ => fun
  | [d1, d2] => { results := [.lit (.bool true)], args := [d1, d2] }
  | _ => none }
def routeNilRow : OpenClaim := { program := "ytnemfpgfgblpbaa", sum := "97f28d5314f5b610c3937f666ef5bf7c4542ac5824e84ea118957cc59f0776eb", func := "acequia/acequialaw23.RouteNil", spec := "routeNil", unfollowed := true, recurses := true, plainKeys := false, apart := false }
def RouteNilSaid : Prop := routeNilRow.holds Try.pinned (OpenSpec.ofChange routeNilSpec)

/-- ITS FALSE NEIGHBOUR: 'it returns false'. Refute it at one input. -/
def routeNilWrong : ChangeSpec := { name := "routeNil", fn := fun _ => fun
  | [d1, d2] => { results := [.lit (.bool false)], args := [d1, d2] }
  | _ => none }
def RouteNilWrongFalsely : Prop := routeNilRow.holds Try.pinned (OpenSpec.ofChange routeNilWrong)

/-- 'acequialaw44.AuditHolds': WHATEVER THE INPUT: true; the input reads as it did. -/
def auditHoldsSpec : ChangeSpec := { name := "auditHolds", fn := fun _ => fun
  | [d1, d2] => { results := [.lit (.bool true)], args := [d1, d2] }
  | _ => none }
def auditHoldsRow : OpenClaim := { program := "ytnemfpgfgblpbaa", sum := "97f28d5314f5b610c3937f666ef5bf7c4542ac5824e84ea118957cc59f0776eb", func := "acequia/acequialaw44.AuditHolds", spec := "auditHolds", unfollowed := true, recurses := true, plainKeys := false, apart := false }
def AuditHoldsSaid : Prop := auditHoldsRow.holds Try.pinned (OpenSpec.ofChange auditHoldsSpec)

/-- ITS FALSE NEIGHBOUR: 'it returns false'. Refute it at one input. -/
def auditHoldsWrong : ChangeSpec := { name := "auditHolds", fn := fun _ => fun
  | [d1, d2] => { results := [.lit (.bool false)], args := [d1, d2] }
  | _ => none }
def AuditHoldsWrongFalsely : Prop := auditHoldsRow.holds Try.pinned (OpenSpec.ofChange auditHoldsWrong)

/-- 'acequialaw44.AuditTells': WHATEVER THE INPUT: true; the input reads as it did. -/
def auditTellsSpec : ChangeSpec := { name := "auditTells", fn := fun _ => fun
  | [d1, d2, d3] => { results := [.lit (.bool true)], args := [d1, d2, d3] }
  | _ => none }
def auditTellsRow : OpenClaim := { program := "ytnemfpgfgblpbaa", sum := "97f28d5314f5b610c3937f666ef5bf7c4542ac5824e84ea118957cc59f0776eb", func := "acequia/acequialaw44.AuditTells", spec := "auditTells", unfollowed := true, recurses := true, plainKeys := false, apart := false }
def AuditTellsSaid : Prop := auditTellsRow.holds Try.pinned (OpenSpec.ofChange auditTellsSpec)

/-- ITS FALSE NEIGHBOUR: 'it returns false'. Refute it at one input. -/
def auditTellsWrong : ChangeSpec := { name := "auditTells", fn := fun _ => fun
  | [d1, d2, d3] => { results := [.lit (.bool false)], args := [d1, d2, d3] }
  | _ => none }
def AuditTellsWrongFalsely : Prop := auditTellsRow.holds Try.pinned (OpenSpec.ofChange auditTellsWrong)

/-- 'acequialaw44.AuditNil': WHATEVER THE INPUT: true; the input reads as it did. -/
def auditNilSpec : ChangeSpec := { name := "auditNil", fn := fun _ => fun
  | [d1, d2] => { results := [.lit (.bool true)], args := [d1, d2] }
  | _ => none }
def auditNilRow : OpenClaim := { program := "ytnemfpgfgblpbaa", sum := "97f28d5314f5b610c3937f666ef5bf7c4542ac5824e84ea118957cc59f0776eb", func := "acequia/acequialaw44.AuditNil", spec := "auditNil", unfollowed := true, recurses := true, plainKeys := false, apart := false }
def AuditNilSaid : Prop := auditNilRow.holds Try.pinned (OpenSpec.ofChange auditNilSpec)

/-- ITS FALSE NEIGHBOUR: 'it returns false'. Refute it at one input. -/
def auditNilWrong : ChangeSpec := { name := "auditNil", fn := fun _ => fun
  | [d1, d2] => { results := [.lit (.bool false)], args := [d1, d2] }
  | _ => none }
def AuditNilWrongFalsely : Prop := auditNilRow.holds Try.pinned (OpenSpec.ofChange auditNilWrong)

/- THE SECOND FORM. 'bulk': how many values and letters a reading holds, each counted each time it is reached (what is shared counts as often as it is met; a slice's spare places count too). A statement '..UptoSaid' is the law's where the arguments, and the package variables that the reading takes, are together of bulk at most 1048576: NARROWER than '..Said'. Prove '..Said' where nothing that the law and all that it calls make is longer than what came in: it says more and counts as full. Else prove '..UptoSaid'. A law counts once. -/
mutual
def uptoBulk {H : Type} : DataW H → Nat
  | .lit (.string bytes) => bytes.length + 1
  | .lit _ => 1
  | .nil => 1
  | .ptr d => uptoBulk d + 1
  | .slice elems spare => uptoBulkAll elems + uptoBulkAll spare + 1
  | .agg parts => uptoBulkAll parts + 1
  | .iface _ d => uptoBulk d + 1
  | .map entries => uptoBulkEntries entries + 1
  | .held _ => 1
def uptoBulkAll {H : Type} : List (DataW H) → Nat
  | [] => 0
  | d :: r => uptoBulk d + uptoBulkAll r
def uptoBulkEntries {H : Type} : List (Lit × DataW H) → Nat
  | [] => 0
  | x :: r => uptoBulkEntry x + uptoBulkEntries r
def uptoBulkEntry {H : Type} : Lit × DataW H → Nat
  | (.string bytes, d) => bytes.length + uptoBulk d + 1
  | (_, d) => uptoBulk d + 1
 end
def uptoSmall : (H : Type) → List (DataW H) → Bool := fun _ ds => decide (uptoBulkAll ds ≤ 1048576)
def OpenSpec.upto (s : _root_.Go.ChangeSpec) : _root_.Go.OpenSpec := { _root_.Go.OpenSpec.ofChange s with cond := some uptoSmall }

/-- 'acequialaw31.AliveStays', WHERE WHAT IT READS IS OF BULK AT MOST 1048576: true; the input reads as it did. -/
def aliveStaysUptoRow : OpenClaim := { program := "ytnemfpgfgblpbaa", sum := "97f28d5314f5b610c3937f666ef5bf7c4542ac5824e84ea118957cc59f0776eb", func := "acequia/acequialaw31.AliveStays", spec := "aliveStays", unfollowed := true, recurses := true, plainKeys := false, apart := false, narrowed := true }
def AliveStaysUptoSaid : Prop := aliveStaysUptoRow.holds Try.pinned (OpenSpec.upto aliveStaysSpec)

/-- 'acequialaw31.AlivePlays', WHERE WHAT IT READS IS OF BULK AT MOST 1048576: true; the input reads as it did. -/
def alivePlaysUptoRow : OpenClaim := { program := "ytnemfpgfgblpbaa", sum := "97f28d5314f5b610c3937f666ef5bf7c4542ac5824e84ea118957cc59f0776eb", func := "acequia/acequialaw31.AlivePlays", spec := "alivePlays", unfollowed := true, recurses := true, plainKeys := false, apart := false, narrowed := true }
def AlivePlaysUptoSaid : Prop := alivePlaysUptoRow.holds Try.pinned (OpenSpec.upto alivePlaysSpec)

/-- 'acequialaw31.AliveNil', WHERE WHAT IT READS IS OF BULK AT MOST 1048576: true; the input reads as it did. -/
def aliveNilUptoRow : OpenClaim := { program := "ytnemfpgfgblpbaa", sum := "97f28d5314f5b610c3937f666ef5bf7c4542ac5824e84ea118957cc59f0776eb", func := "acequia/acequialaw31.AliveNil", spec := "aliveNil", unfollowed := true, recurses := true, plainKeys := false, apart := false, narrowed := true }
def AliveNilUptoSaid : Prop := aliveNilUptoRow.holds Try.pinned (OpenSpec.upto aliveNilSpec)

/-- 'acequialaw12.ClockPlays', WHERE WHAT IT READS IS OF BULK AT MOST 1048576: true; the input reads as it did. -/
def clockPlaysUptoRow : OpenClaim := { program := "ytnemfpgfgblpbaa", sum := "97f28d5314f5b610c3937f666ef5bf7c4542ac5824e84ea118957cc59f0776eb", func := "acequia/acequialaw12.ClockPlays", spec := "clockPlays", unfollowed := true, recurses := true, plainKeys := false, apart := false, narrowed := true }
def ClockPlaysUptoSaid : Prop := clockPlaysUptoRow.holds Try.pinned (OpenSpec.upto clockPlaysSpec)

/-- 'acequialaw12.ClockCopies', WHERE WHAT IT READS IS OF BULK AT MOST 1048576: true; the input reads as it did. -/
def clockCopiesUptoRow : OpenClaim := { program := "ytnemfpgfgblpbaa", sum := "97f28d5314f5b610c3937f666ef5bf7c4542ac5824e84ea118957cc59f0776eb", func := "acequia/acequialaw12.ClockCopies", spec := "clockCopies", unfollowed := true, recurses := true, plainKeys := false, apart := false, narrowed := true }
def ClockCopiesUptoSaid : Prop := clockCopiesUptoRow.holds Try.pinned (OpenSpec.upto clockCopiesSpec)

/-- 'acequialaw12.ClockNil', WHERE WHAT IT READS IS OF BULK AT MOST 1048576: true; the input reads as it did. -/
def clockNilUptoRow : OpenClaim := { program := "ytnemfpgfgblpbaa", sum := "97f28d5314f5b610c3937f666ef5bf7c4542ac5824e84ea118957cc59f0776eb", func := "acequia/acequialaw12.ClockNil", spec := "clockNil", unfollowed := true, recurses := true, plainKeys := false, apart := false, narrowed := true }
def ClockNilUptoSaid : Prop := clockNilUptoRow.holds Try.pinned (OpenSpec.upto clockNilSpec)

/-- 'acequialaw23.RouteStays', WHERE WHAT IT READS IS OF BULK AT MOST 1048576: true; the input reads as it did. -/
def routeStaysUptoRow : OpenClaim := { program := "ytnemfpgfgblpbaa", sum := "97f28d5314f5b610c3937f666ef5bf7c4542ac5824e84ea118957cc59f0776eb", func := "acequia/acequialaw23.RouteStays", spec := "routeStays", unfollowed := true, recurses := true, plainKeys := false, apart := false, narrowed := true }
def RouteStaysUptoSaid : Prop := routeStaysUptoRow.holds Try.pinned (OpenSpec.upto routeStaysSpec)

/-- 'acequialaw23.RoutePlays', WHERE WHAT IT READS IS OF BULK AT MOST 1048576: true; the input reads as it did. -/
def routePlaysUptoRow : OpenClaim := { program := "ytnemfpgfgblpbaa", sum := "97f28d5314f5b610c3937f666ef5bf7c4542ac5824e84ea118957cc59f0776eb", func := "acequia/acequialaw23.RoutePlays", spec := "routePlays", unfollowed := true, recurses := true, plainKeys := false, apart := false, narrowed := true }
def RoutePlaysUptoSaid : Prop := routePlaysUptoRow.holds Try.pinned (OpenSpec.upto routePlaysSpec)

/-- 'acequialaw23.RouteNil', WHERE WHAT IT READS IS OF BULK AT MOST 1048576: true; the input reads as it did. -/
def routeNilUptoRow : OpenClaim := { program := "ytnemfpgfgblpbaa", sum := "97f28d5314f5b610c3937f666ef5bf7c4542ac5824e84ea118957cc59f0776eb", func := "acequia/acequialaw23.RouteNil", spec := "routeNil", unfollowed := true, recurses := true, plainKeys := false, apart := false, narrowed := true }
def RouteNilUptoSaid : Prop := routeNilUptoRow.holds Try.pinned (OpenSpec.upto routeNilSpec)

/-- 'acequialaw44.AuditHolds', WHERE WHAT IT READS IS OF BULK AT MOST 1048576: true; the input reads as it did. -/
def auditHoldsUptoRow : OpenClaim := { program := "ytnemfpgfgblpbaa", sum := "97f28d5314f5b610c3937f666ef5bf7c4542ac5824e84ea118957cc59f0776eb", func := "acequia/acequialaw44.AuditHolds", spec := "auditHolds", unfollowed := true, recurses := true, plainKeys := false, apart := false, narrowed := true }
def AuditHoldsUptoSaid : Prop := auditHoldsUptoRow.holds Try.pinned (OpenSpec.upto auditHoldsSpec)

/-- 'acequialaw44.AuditTells', WHERE WHAT IT READS IS OF BULK AT MOST 1048576: true; the input reads as it did. -/
def auditTellsUptoRow : OpenClaim := { program := "ytnemfpgfgblpbaa", sum := "97f28d5314f5b610c3937f666ef5bf7c4542ac5824e84ea118957cc59f0776eb", func := "acequia/acequialaw44.AuditTells", spec := "auditTells", unfollowed := true, recurses := true, plainKeys := false, apart := false, narrowed := true }
def AuditTellsUptoSaid : Prop := auditTellsUptoRow.holds Try.pinned (OpenSpec.upto auditTellsSpec)

/-- 'acequialaw44.AuditNil', WHERE WHAT IT READS IS OF BULK AT MOST 1048576: true; the input reads as it did. -/
def auditNilUptoRow : OpenClaim := { program := "ytnemfpgfgblpbaa", sum := "97f28d5314f5b610c3937f666ef5bf7c4542ac5824e84ea118957cc59f0776eb", func := "acequia/acequialaw44.AuditNil", spec := "auditNil", unfollowed := true, recurses := true, plainKeys := false, apart := false, narrowed := true }
def AuditNilUptoSaid : Prop := auditNilUptoRow.holds Try.pinned (OpenSpec.upto auditNilSpec)

end Rows
end Go.Proofs.Ytnemfpgfgblpbaa
