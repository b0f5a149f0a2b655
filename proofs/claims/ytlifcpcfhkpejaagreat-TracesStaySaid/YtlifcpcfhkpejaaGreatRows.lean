/-
  No cell of these rows narrows 'for every input' (looked for: loops, veiled, ifaces, maps, wideKeys, modest, calm, conditions, laid).
  DERIVED. THE GIVEN ROWS OF THIS SEAT. 3 by the template 'for every input the law returns true; each argument reads behind the call as it read before'; 0 by the template 'total and deterministic' (their statements: YtlifcpcfhkpejaaGreatTotals.lean).
  GIVEN WITH THE SEED: the statements are not yours to turn. If you find one false, say at which input.
  Laid BY PROGRAM, IN A SANDBOX (cutbox-rows.mjs): the forced cells as the released guide's own fill.sh prints them over the translation 9c288f4b2e889e0a… (all of the seat's roots in one cut). By AI agents, Wed Nov 11 2026. No macro, syntax, notation, axiom, sorry.
-/
import Derived.Test.YtlifcpcfhkpejaaGreatChecked
import GoSem.Claim
import GoSem.ClaimJoined
import GoSem.ClaimMapViews
import Derived.JoinedTies
import Derived.KernelRfl
namespace Go.Proofs.YtlifcpcfhkpejaaGreat
/- THE CELL 'sum', in the pinned program and in every row, IS THE sha256 OF THE DUMP (.gsa) THAT YtlifcpcfhkpejaaGreatProg.lean LOADS. Nothing in Lean hashes anything: it is a label: what it is worth is what the hold of that sum in a sandbox is worth. -/
noncomputable def Tryz.pinned : Pinned := { name := "ytlifcpcfhkpejaagreat", sum := "9c288f4b2e889e0a50d1d3a1b06db8998d81cc23817dd3044be5eae1321e1435", checked := Tryz.checked }
namespace Rows
def none {H : Type} : Left H := { results := [], args := [] }

/-- 'spkeep2.EventsAreSteps': WHATEVER THE INPUT: true; the input reads as it did. -/
def eventsAreStepsSpec : ChangeSpec := { name := "eventsAreSteps", fn := fun _ => fun
  | [d] => { results := [.lit (.bool true)], args := [d] }
  | _ => none }
def eventsAreStepsRow : OpenClaim := { program := "ytlifcpcfhkpejaagreat", sum := "9c288f4b2e889e0a50d1d3a1b06db8998d81cc23817dd3044be5eae1321e1435", func := "splicetray/spkeep2.EventsAreSteps", spec := "eventsAreSteps", inPlace := ["internal/bytealg.abigen_runtime_cmpstring"], unfollowed := true, recurses := true, plainKeys := false, apart := false }
def EventsAreStepsSaid : Prop := eventsAreStepsRow.holds Tryz.pinned (OpenSpec.ofChange eventsAreStepsSpec)

/-- ITS FALSE NEIGHBOUR: 'it returns false'. Refute it at one input. -/
def eventsAreStepsWrong : ChangeSpec := { name := "eventsAreSteps", fn := fun _ => fun
  | [d] => { results := [.lit (.bool false)], args := [d] }
  | _ => none }
def EventsAreStepsWrongFalsely : Prop := eventsAreStepsRow.holds Tryz.pinned (OpenSpec.ofChange eventsAreStepsWrong)

/-- 'spkeep2.MatchedAreNear': WHATEVER THE INPUT: true; the input reads as it did. -/
def matchedAreNearSpec : ChangeSpec := { name := "matchedAreNear", fn := fun _ => fun
  | [d] => { results := [.lit (.bool true)], args := [d] }
  | _ => none }
def matchedAreNearRow : OpenClaim := { program := "ytlifcpcfhkpejaagreat", sum := "9c288f4b2e889e0a50d1d3a1b06db8998d81cc23817dd3044be5eae1321e1435", func := "splicetray/spkeep2.MatchedAreNear", spec := "matchedAreNear", inPlace := ["internal/bytealg.abigen_runtime_cmpstring"], unfollowed := true, recurses := true, plainKeys := false, apart := false }
def MatchedAreNearSaid : Prop := matchedAreNearRow.holds Tryz.pinned (OpenSpec.ofChange matchedAreNearSpec)

/-- ITS FALSE NEIGHBOUR: 'it returns false'. Refute it at one input. -/
def matchedAreNearWrong : ChangeSpec := { name := "matchedAreNear", fn := fun _ => fun
  | [d] => { results := [.lit (.bool false)], args := [d] }
  | _ => none }
def MatchedAreNearWrongFalsely : Prop := matchedAreNearRow.holds Tryz.pinned (OpenSpec.ofChange matchedAreNearWrong)

/-- 'spkeep2.TracesStay': WHATEVER THE INPUT: true; the input reads as it did. -/
def tracesStaySpec : ChangeSpec := { name := "tracesStay", fn := fun _ => fun
  | [d] => { results := [.lit (.bool true)], args := [d] }
  | _ => none }
def tracesStayRow : OpenClaim := { program := "ytlifcpcfhkpejaagreat", sum := "9c288f4b2e889e0a50d1d3a1b06db8998d81cc23817dd3044be5eae1321e1435", func := "splicetray/spkeep2.TracesStay", spec := "tracesStay", inPlace := ["internal/bytealg.abigen_runtime_cmpstring"], unfollowed := true, recurses := true, plainKeys := false, apart := false }
def TracesStaySaid : Prop := tracesStayRow.holds Tryz.pinned (OpenSpec.ofChange tracesStaySpec)

/-- ITS FALSE NEIGHBOUR: 'it returns false'. Refute it at one input. -/
def tracesStayWrong : ChangeSpec := { name := "tracesStay", fn := fun _ => fun
  | [d] => { results := [.lit (.bool false)], args := [d] }
  | _ => none }
def TracesStayWrongFalsely : Prop := tracesStayRow.holds Tryz.pinned (OpenSpec.ofChange tracesStayWrong)

/- THE SECOND FORM. 'bulk': how many values and letters a reading holds, each counted each time it is reached (what is shared counts as often as it is met; a slice's spare places count too). A statement '..UptoSaid' is the law's where the arguments, and the package variables that the reading takes, are together of bulk at most 1048576: NARROWER than '..Said'. Prove '..Said' where nothing that the law and all that it calls make is longer than what came in: it says more and counts as full. Else prove '..UptoSaid'. A law counts once. -/
mutual
def uptoBulk {H : Type} : DataW H → Nat
  | .lit (.string bytes) => bytes.length + 1
  | .lit _ => 1
  | .nil => 1
  | .ptr d => uptoBulk d + 1
  | .slice elems spare => uptoBulkAll elems + uptoBulkAll spare + 1
  | .agg parts => uptoBulkAll parts + 1
  | .iface _ d => uptoBulk d + 1
  | .map entries => uptoBulkEntries entries + 1
  | .held _ => 1
def uptoBulkAll {H : Type} : List (DataW H) → Nat
  | [] => 0
  | d :: r => uptoBulk d + uptoBulkAll r
def uptoBulkEntries {H : Type} : List (Lit × DataW H) → Nat
  | [] => 0
  | x :: r => uptoBulkEntry x + uptoBulkEntries r
def uptoBulkEntry {H : Type} : Lit × DataW H → Nat
  | (.string bytes, d) => bytes.length + uptoBulk d + 1
  | (_, d) => uptoBulk d + 1
 end
def uptoSmall : (H : Type) → List (DataW H) → Bool := fun _ ds => decide (uptoBulkAll ds ≤ 1048576)
def OpenSpec.upto (s : _root_.Go.ChangeSpec) : _root_.Go.OpenSpec := { _root_.Go.OpenSpec.ofChange s with cond := some uptoSmall }

/-- 'spkeep2.EventsAreSteps', WHERE WHAT IT READS IS OF BULK AT MOST 1048576: true; the input reads as it did. -/
def eventsAreStepsUptoRow : OpenClaim := { program := "ytlifcpcfhkpejaagreat", sum := "9c288f4b2e889e0a50d1d3a1b06db8998d81cc23817dd3044be5eae1321e1435", func := "splicetray/spkeep2.EventsAreSteps", spec := "eventsAreSteps", inPlace := ["internal/bytealg.abigen_runtime_cmpstring"], unfollowed := true, recurses := true, plainKeys := false, apart := false, narrowed := true }
def EventsAreStepsUptoSaid : Prop := eventsAreStepsUptoRow.holds Tryz.pinned (OpenSpec.upto eventsAreStepsSpec)

/-- 'spkeep2.MatchedAreNear', WHERE WHAT IT READS IS OF BULK AT MOST 1048576: true; the input reads as it did. -/
def matchedAreNearUptoRow : OpenClaim := { program := "ytlifcpcfhkpejaagreat", sum := "9c288f4b2e889e0a50d1d3a1b06db8998d81cc23817dd3044be5eae1321e1435", func := "splicetray/spkeep2.MatchedAreNear", spec := "matchedAreNear", inPlace := ["internal/bytealg.abigen_runtime_cmpstring"], unfollowed := true, recurses := true, plainKeys := false, apart := false, narrowed := true }
def MatchedAreNearUptoSaid : Prop := matchedAreNearUptoRow.holds Tryz.pinned (OpenSpec.upto matchedAreNearSpec)

/-- 'spkeep2.TracesStay', WHERE WHAT IT READS IS OF BULK AT MOST 1048576: true; the input reads as it did. -/
def tracesStayUptoRow : OpenClaim := { program := "ytlifcpcfhkpejaagreat", sum := "9c288f4b2e889e0a50d1d3a1b06db8998d81cc23817dd3044be5eae1321e1435", func := "splicetray/spkeep2.TracesStay", spec := "tracesStay", inPlace := ["internal/bytealg.abigen_runtime_cmpstring"], unfollowed := true, recurses := true, plainKeys := false, apart := false, narrowed := true }
def TracesStayUptoSaid : Prop := tracesStayUptoRow.holds Tryz.pinned (OpenSpec.upto tracesStaySpec)

end Rows
end Go.Proofs.YtlifcpcfhkpejaaGreat
