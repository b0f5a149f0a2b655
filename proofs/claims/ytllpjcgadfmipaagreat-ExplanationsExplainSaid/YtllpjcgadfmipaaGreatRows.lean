/-
  No cell of these rows narrows 'for every input' (looked for: loops, veiled, ifaces, maps, wideKeys, modest, calm, conditions, laid).
  DERIVED. THE GIVEN ROWS OF THIS SEAT. 4 by the template 'for every input the law returns true; each argument reads behind the call as it read before'; 0 by the template 'total and deterministic' (their statements: YtllpjcgadfmipaaGreatTotals.lean).
  GIVEN WITH THE SEED: the statements are not yours to turn. If you find one false, say at which input.
  Laid BY PROGRAM, IN A SANDBOX (cutbox-rows.mjs): the forced cells as the released guide's own fill.sh prints them over the translation e7bc97007a575260… (all of the seat's roots in one cut). By AI agents, Wed Nov 11 2026. No macro, syntax, notation, axiom, sorry.
-/
import Derived.Test.YtllpjcgadfmipaaGreatChecked
import GoSem.Claim
import GoSem.ClaimJoined
import GoSem.ClaimMapViews
import Derived.JoinedTies
import Derived.KernelRfl
namespace Go.Proofs.YtllpjcgadfmipaaGreat
/- THE CELL 'sum', in the pinned program and in every row, IS THE sha256 OF THE DUMP (.gsa) THAT YtllpjcgadfmipaaGreatProg.lean LOADS. Nothing in Lean hashes anything: it is a label: what it is worth is what the hold of that sum in a sandbox is worth. -/
noncomputable def Tryz.pinned : Pinned := { name := "ytllpjcgadfmipaagreat", sum := "e7bc97007a575260eaad1caeb8df5115838f6bf196154ca0152c3e2a143c7bae", checked := Tryz.checked }
namespace Rows
def none {H : Type} : Left H := { results := [], args := [] }

/-- 'spkeep2.BreaksAreSuspects': WHATEVER THE INPUT: true; the input reads as it did. -/
def breaksAreSuspectsSpec : ChangeSpec := { name := "breaksAreSuspects", fn := fun _ => fun
  | [d] => { results := [.lit (.bool true)], args := [d] }
  | _ => none }
def breaksAreSuspectsRow : OpenClaim := { program := "ytllpjcgadfmipaagreat", sum := "e7bc97007a575260eaad1caeb8df5115838f6bf196154ca0152c3e2a143c7bae", func := "splicetray/spkeep2.BreaksAreSuspects", spec := "breaksAreSuspects", inPlace := ["internal/bytealg.IndexByteString", "internal/bytealg.abigen_runtime_cmpstring"], unfollowed := true, recurses := true, plainKeys := false, apart := false }
def BreaksAreSuspectsSaid : Prop := breaksAreSuspectsRow.holds Tryz.pinned (OpenSpec.ofChange breaksAreSuspectsSpec)

/-- ITS FALSE NEIGHBOUR: 'it returns false'. Refute it at one input. -/
def breaksAreSuspectsWrong : ChangeSpec := { name := "breaksAreSuspects", fn := fun _ => fun
  | [d] => { results := [.lit (.bool false)], args := [d] }
  | _ => none }
def BreaksAreSuspectsWrongFalsely : Prop := breaksAreSuspectsRow.holds Tryz.pinned (OpenSpec.ofChange breaksAreSuspectsWrong)

/-- 'spkeep2.ExplanationsExplain': WHATEVER THE INPUT: true; the input reads as it did. -/
def explanationsExplainSpec : ChangeSpec := { name := "explanationsExplain", fn := fun _ => fun
  | [d] => { results := [.lit (.bool true)], args := [d] }
  | _ => none }
def explanationsExplainRow : OpenClaim := { program := "ytllpjcgadfmipaagreat", sum := "e7bc97007a575260eaad1caeb8df5115838f6bf196154ca0152c3e2a143c7bae", func := "splicetray/spkeep2.ExplanationsExplain", spec := "explanationsExplain", inPlace := ["internal/bytealg.IndexByteString", "internal/bytealg.abigen_runtime_cmpstring"], unfollowed := true, recurses := true, plainKeys := false, apart := false }
def ExplanationsExplainSaid : Prop := explanationsExplainRow.holds Tryz.pinned (OpenSpec.ofChange explanationsExplainSpec)

/-- ITS FALSE NEIGHBOUR: 'it returns false'. Refute it at one input. -/
def explanationsExplainWrong : ChangeSpec := { name := "explanationsExplain", fn := fun _ => fun
  | [d] => { results := [.lit (.bool false)], args := [d] }
  | _ => none }
def ExplanationsExplainWrongFalsely : Prop := explanationsExplainRow.holds Tryz.pinned (OpenSpec.ofChange explanationsExplainWrong)

/-- 'spkeep2.LowestIsReached': WHATEVER THE INPUT: true; the input reads as it did. -/
def lowestIsReachedSpec : ChangeSpec := { name := "lowestIsReached", fn := fun _ => fun
  | [d] => { results := [.lit (.bool true)], args := [d] }
  | _ => none }
def lowestIsReachedRow : OpenClaim := { program := "ytllpjcgadfmipaagreat", sum := "e7bc97007a575260eaad1caeb8df5115838f6bf196154ca0152c3e2a143c7bae", func := "splicetray/spkeep2.LowestIsReached", spec := "lowestIsReached", inPlace := ["internal/bytealg.abigen_runtime_cmpstring", "internal/bytealg.IndexByteString"], unfollowed := true, recurses := true, plainKeys := false, apart := false }
def LowestIsReachedSaid : Prop := lowestIsReachedRow.holds Tryz.pinned (OpenSpec.ofChange lowestIsReachedSpec)

/-- ITS FALSE NEIGHBOUR: 'it returns false'. Refute it at one input. -/
def lowestIsReachedWrong : ChangeSpec := { name := "lowestIsReached", fn := fun _ => fun
  | [d] => { results := [.lit (.bool false)], args := [d] }
  | _ => none }
def LowestIsReachedWrongFalsely : Prop := lowestIsReachedRow.holds Tryz.pinned (OpenSpec.ofChange lowestIsReachedWrong)

/-- 'spkeep2.FullDuctsAreSo': WHATEVER THE INPUT: true; the input reads as it did. -/
def fullDuctsAreSoSpec : ChangeSpec := { name := "fullDuctsAreSo", fn := fun _ => fun
  | [d] => { results := [.lit (.bool true)], args := [d] }
  | _ => none }
def fullDuctsAreSoRow : OpenClaim := { program := "ytllpjcgadfmipaagreat", sum := "e7bc97007a575260eaad1caeb8df5115838f6bf196154ca0152c3e2a143c7bae", func := "splicetray/spkeep2.FullDuctsAreSo", spec := "fullDuctsAreSo", inPlace := ["internal/bytealg.IndexByteString", "internal/bytealg.abigen_runtime_cmpstring"], unfollowed := true, recurses := true, plainKeys := false, apart := false }
def FullDuctsAreSoSaid : Prop := fullDuctsAreSoRow.holds Tryz.pinned (OpenSpec.ofChange fullDuctsAreSoSpec)

/-- ITS FALSE NEIGHBOUR: 'it returns false'. Refute it at one input. -/
def fullDuctsAreSoWrong : ChangeSpec := { name := "fullDuctsAreSo", fn := fun _ => fun
  | [d] => { results := [.lit (.bool false)], args := [d] }
  | _ => none }
def FullDuctsAreSoWrongFalsely : Prop := fullDuctsAreSoRow.holds Tryz.pinned (OpenSpec.ofChange fullDuctsAreSoWrong)

/- THE SECOND FORM. 'bulk': how many values and letters a reading holds, each counted each time it is reached (what is shared counts as often as it is met; a slice's spare places count too). A statement '..UptoSaid' is the law's where the arguments, and the package variables that the reading takes, are together of bulk at most 1048576: NARROWER than '..Said'. Prove '..Said' where nothing that the law and all that it calls make is longer than what came in: it says more and counts as full. Else prove '..UptoSaid'. A law counts once. -/
mutual
def uptoBulk {H : Type} : DataW H → Nat
  | .lit (.string bytes) => bytes.length + 1
  | .lit _ => 1
  | .nil => 1
  | .ptr d => uptoBulk d + 1
  | .slice elems spare => uptoBulkAll elems + uptoBulkAll spare + 1
  | .agg parts => uptoBulkAll parts + 1
  | .iface _ d => uptoBulk d + 1
  | .map entries => uptoBulkEntries entries + 1
  | .held _ => 1
def uptoBulkAll {H : Type} : List (DataW H) → Nat
  | [] => 0
  | d :: r => uptoBulk d + uptoBulkAll r
def uptoBulkEntries {H : Type} : List (Lit × DataW H) → Nat
  | [] => 0
  | x :: r => uptoBulkEntry x + uptoBulkEntries r
def uptoBulkEntry {H : Type} : Lit × DataW H → Nat
  | (.string bytes, d) => bytes.length + uptoBulk d + 1
  | (_, d) => uptoBulk d + 1
 end
def uptoSmall : (H : Type) → List (DataW H) → Bool := fun _ ds => decide (uptoBulkAll ds ≤ 1048576)
def OpenSpec.upto (s : _root_.Go.ChangeSpec) : _root_.Go.OpenSpec := { _root_.Go.OpenSpec.ofChange s with cond := some uptoSmall }

/-- 'spkeep2.BreaksAreSuspects', WHERE WHAT IT READS IS OF BULK AT MOST 1048576: true; the input reads as it did. -/
def breaksAreSuspectsUptoRow : OpenClaim := { program := "ytllpjcgadfmipaagreat", sum := "e7bc97007a575260eaad1caeb8df5115838f6bf196154ca0152c3e2a143c7bae", func := "splicetray/spkeep2.BreaksAreSuspects", spec := "breaksAreSuspects", inPlace := ["internal/bytealg.IndexByteString", "internal/bytealg.abigen_runtime_cmpstring"], unfollowed := true, recurses := true, plainKeys := false, apart := false, narrowed := true }
def BreaksAreSuspectsUptoSaid : Prop := breaksAreSuspectsUptoRow.holds Tryz.pinned (OpenSpec.upto breaksAreSuspectsSpec)

/-- 'spkeep2.ExplanationsExplain', WHERE WHAT IT READS IS OF BULK AT MOST 1048576: true; the input reads as it did. -/
def explanationsExplainUptoRow : OpenClaim := { program := "ytllpjcgadfmipaagreat", sum := "e7bc97007a575260eaad1caeb8df5115838f6bf196154ca0152c3e2a143c7bae", func := "splicetray/spkeep2.ExplanationsExplain", spec := "explanationsExplain", inPlace := ["internal/bytealg.IndexByteString", "internal/bytealg.abigen_runtime_cmpstring"], unfollowed := true, recurses := true, plainKeys := false, apart := false, narrowed := true }
def ExplanationsExplainUptoSaid : Prop := explanationsExplainUptoRow.holds Tryz.pinned (OpenSpec.upto explanationsExplainSpec)

/-- 'spkeep2.LowestIsReached', WHERE WHAT IT READS IS OF BULK AT MOST 1048576: true; the input reads as it did. -/
def lowestIsReachedUptoRow : OpenClaim := { program := "ytllpjcgadfmipaagreat", sum := "e7bc97007a575260eaad1caeb8df5115838f6bf196154ca0152c3e2a143c7bae", func := "splicetray/spkeep2.LowestIsReached", spec := "lowestIsReached", inPlace := ["internal/bytealg.abigen_runtime_cmpstring", "internal/bytealg.IndexByteString"], unfollowed := true, recurses := true, plainKeys := false, apart := false, narrowed := true }
def LowestIsReachedUptoSaid : Prop := lowestIsReachedUptoRow.holds Tryz.pinned (OpenSpec.upto lowestIsReachedSpec)

/-- 'spkeep2.FullDuctsAreSo', WHERE WHAT IT READS IS OF BULK AT MOST 1048576: true; the input reads as it did. -/
def fullDuctsAreSoUptoRow : OpenClaim := { program := "ytllpjcgadfmipaagreat", sum := "e7bc97007a575260eaad1caeb8df5115838f6bf196154ca0152c3e2a143c7bae", func := "splicetray/spkeep2.FullDuctsAreSo", spec := "fullDuctsAreSo", inPlace := ["internal/bytealg.IndexByteString", "internal/bytealg.abigen_runtime_cmpstring"], unfollowed := true, recurses := true, plainKeys := false, apart := false, narrowed := true }
def FullDuctsAreSoUptoSaid : Prop := fullDuctsAreSoUptoRow.holds Tryz.pinned (OpenSpec.upto fullDuctsAreSoSpec)

end Rows
end Go.Proofs.YtllpjcgadfmipaaGreat
