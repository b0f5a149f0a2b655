/-
  No cell of these rows narrows 'for every input' (looked for: loops, veiled, ifaces, maps, wideKeys, modest, calm, conditions, laid).
  DERIVED. THE GIVEN ROWS OF THIS SEAT. 3 by the template 'for every input the law returns true; each argument reads behind the call as it read before'; 0 by the template 'total and deterministic' (their statements: YtjkammhjpjaekaaTotals.lean).
  GIVEN WITH THE SEED: the statements are not yours to turn. If you find one false, say at which input.
  Laid BY PROGRAM, IN A SANDBOX (cutbox-rows.mjs): the forced cells as the released guide's own fill.sh prints them over the translation 616088514ffdd159… (all of the seat's roots in one cut). By AI agents, Wed Nov 11 2026. No macro, syntax, notation, axiom, sorry.
-/
import Derived.Test.YtjkammhjpjaekaaChecked
import GoSem.Claim
import GoSem.ClaimJoined
import GoSem.ClaimMapViews
import Derived.JoinedTies
import Derived.KernelRfl
namespace Go.Proofs.Ytjkammhjpjaekaa
/- THE CELL 'sum', in the pinned program and in every row, IS THE sha256 OF THE DUMP (.gsa) THAT YtjkammhjpjaekaaProg.lean LOADS. Nothing in Lean hashes anything: it is a label: what it is worth is what the hold of that sum in a sandbox is worth. -/
noncomputable def Try.pinned : Pinned := { name := "ytjkammhjpjaekaa", sum := "616088514ffdd1594742f860efaa0c82a3e2f60e53801bca50cf8534f08a1200", checked := Try.checked }
namespace Rows
def none {H : Type} : Left H := { results := [], args := [] }

/-- 'splaw2.DuctsFilled': WHATEVER THE INPUT: true; the input reads as it did. -/
def ductsFilledSpec : ChangeSpec := { name := "ductsFilled", fn := fun _ => fun
  | [d] => { results := [.lit (.bool true)], args := [d] }
  | _ => none }
def ductsFilledRow : OpenClaim := { program := "ytjkammhjpjaekaa", sum := "616088514ffdd1594742f860efaa0c82a3e2f60e53801bca50cf8534f08a1200", func := "splicetray/splaw2.DuctsFilled", spec := "ductsFilled", inPlace := ["internal/bytealg.abigen_runtime_cmpstring", "internal/bytealg.IndexByteString"], unfollowed := true, recurses := true, apart := false }
def DuctsFilledSaid : Prop := ductsFilledRow.holds Try.pinned (OpenSpec.ofChange ductsFilledSpec)

/-- ITS FALSE NEIGHBOUR: 'it returns false'. Refute it at one input. -/
def ductsFilledWrong : ChangeSpec := { name := "ductsFilled", fn := fun _ => fun
  | [d] => { results := [.lit (.bool false)], args := [d] }
  | _ => none }
def DuctsFilledWrongFalsely : Prop := ductsFilledRow.holds Try.pinned (OpenSpec.ofChange ductsFilledWrong)

/-- 'splaw2.PlansWeighed': WHATEVER THE INPUT: true; the input reads as it did. -/
def plansWeighedSpec : ChangeSpec := { name := "plansWeighed", fn := fun _ => fun
  | [d] => { results := [.lit (.bool true)], args := [d] }
  | _ => none }
def plansWeighedRow : OpenClaim := { program := "ytjkammhjpjaekaa", sum := "616088514ffdd1594742f860efaa0c82a3e2f60e53801bca50cf8534f08a1200", func := "splicetray/splaw2.PlansWeighed", spec := "plansWeighed", inPlace := ["internal/bytealg.IndexByteString", "internal/bytealg.abigen_runtime_cmpstring"], unfollowed := true, recurses := true, apart := false }
def PlansWeighedSaid : Prop := plansWeighedRow.holds Try.pinned (OpenSpec.ofChange plansWeighedSpec)

/-- ITS FALSE NEIGHBOUR: 'it returns false'. Refute it at one input. -/
def plansWeighedWrong : ChangeSpec := { name := "plansWeighed", fn := fun _ => fun
  | [d] => { results := [.lit (.bool false)], args := [d] }
  | _ => none }
def PlansWeighedWrongFalsely : Prop := plansWeighedRow.holds Try.pinned (OpenSpec.ofChange plansWeighedWrong)

/-- 'splaw2.MetresUsed': WHATEVER THE INPUT: true; the input reads as it did. -/
def metresUsedSpec : ChangeSpec := { name := "metresUsed", fn := fun _ => fun
  | [d] => { results := [.lit (.bool true)], args := [d] }
  | _ => none }
def metresUsedRow : OpenClaim := { program := "ytjkammhjpjaekaa", sum := "616088514ffdd1594742f860efaa0c82a3e2f60e53801bca50cf8534f08a1200", func := "splicetray/splaw2.MetresUsed", spec := "metresUsed", inPlace := ["internal/bytealg.abigen_runtime_cmpstring", "internal/bytealg.IndexByteString"], unfollowed := true, recurses := true, apart := false }
def MetresUsedSaid : Prop := metresUsedRow.holds Try.pinned (OpenSpec.ofChange metresUsedSpec)

/-- ITS FALSE NEIGHBOUR: 'it returns false'. Refute it at one input. -/
def metresUsedWrong : ChangeSpec := { name := "metresUsed", fn := fun _ => fun
  | [d] => { results := [.lit (.bool false)], args := [d] }
  | _ => none }
def MetresUsedWrongFalsely : Prop := metresUsedRow.holds Try.pinned (OpenSpec.ofChange metresUsedWrong)

/- THE SECOND FORM. 'bulk': how many values and letters a reading holds, each counted each time it is reached (what is shared counts as often as it is met; a slice's spare places count too). A statement '..UptoSaid' is the law's where the arguments, and the package variables that the reading takes, are together of bulk at most 1048576: NARROWER than '..Said'. Prove '..Said' where nothing that the law and all that it calls make is longer than what came in: it says more and counts as full. Else prove '..UptoSaid'. A law counts once. -/
mutual
def uptoBulk {H : Type} : DataW H → Nat
  | .lit (.string bytes) => bytes.length + 1
  | .lit _ => 1
  | .nil => 1
  | .ptr d => uptoBulk d + 1
  | .slice elems spare => uptoBulkAll elems + uptoBulkAll spare + 1
  | .agg parts => uptoBulkAll parts + 1
  | .iface _ d => uptoBulk d + 1
  | .map entries => uptoBulkEntries entries + 1
  | .held _ => 1
def uptoBulkAll {H : Type} : List (DataW H) → Nat
  | [] => 0
  | d :: r => uptoBulk d + uptoBulkAll r
def uptoBulkEntries {H : Type} : List (Lit × DataW H) → Nat
  | [] => 0
  | x :: r => uptoBulkEntry x + uptoBulkEntries r
def uptoBulkEntry {H : Type} : Lit × DataW H → Nat
  | (.string bytes, d) => bytes.length + uptoBulk d + 1
  | (_, d) => uptoBulk d + 1
 end
def uptoSmall : (H : Type) → List (DataW H) → Bool := fun _ ds => decide (uptoBulkAll ds ≤ 1048576)
def OpenSpec.upto (s : _root_.Go.ChangeSpec) : _root_.Go.OpenSpec := { _root_.Go.OpenSpec.ofChange s with cond := some uptoSmall }

/-- 'splaw2.DuctsFilled', WHERE WHAT IT READS IS OF BULK AT MOST 1048576: true; the input reads as it did. -/
def ductsFilledUptoRow : OpenClaim := { program := "ytjkammhjpjaekaa", sum := "616088514ffdd1594742f860efaa0c82a3e2f60e53801bca50cf8534f08a1200", func := "splicetray/splaw2.DuctsFilled", spec := "ductsFilled", inPlace := ["internal/bytealg.abigen_runtime_cmpstring", "internal/bytealg.IndexByteString"], unfollowed := true, recurses := true, apart := false, narrowed := true }
def DuctsFilledUptoSaid : Prop := ductsFilledUptoRow.holds Try.pinned (OpenSpec.upto ductsFilledSpec)

/-- 'splaw2.PlansWeighed', WHERE WHAT IT READS IS OF BULK AT MOST 1048576: true; the input reads as it did. -/
def plansWeighedUptoRow : OpenClaim := { program := "ytjkammhjpjaekaa", sum := "616088514ffdd1594742f860efaa0c82a3e2f60e53801bca50cf8534f08a1200", func := "splicetray/splaw2.PlansWeighed", spec := "plansWeighed", inPlace := ["internal/bytealg.IndexByteString", "internal/bytealg.abigen_runtime_cmpstring"], unfollowed := true, recurses := true, apart := false, narrowed := true }
def PlansWeighedUptoSaid : Prop := plansWeighedUptoRow.holds Try.pinned (OpenSpec.upto plansWeighedSpec)

/-- 'splaw2.MetresUsed', WHERE WHAT IT READS IS OF BULK AT MOST 1048576: true; the input reads as it did. -/
def metresUsedUptoRow : OpenClaim := { program := "ytjkammhjpjaekaa", sum := "616088514ffdd1594742f860efaa0c82a3e2f60e53801bca50cf8534f08a1200", func := "splicetray/splaw2.MetresUsed", spec := "metresUsed", inPlace := ["internal/bytealg.abigen_runtime_cmpstring", "internal/bytealg.IndexByteString"], unfollowed := true, recurses := true, apart := false, narrowed := true }
def MetresUsedUptoSaid : Prop := metresUsedUptoRow.holds Try.pinned (OpenSpec.upto metresUsedSpec)

end Rows
end Go.Proofs.Ytjkammhjpjaekaa
