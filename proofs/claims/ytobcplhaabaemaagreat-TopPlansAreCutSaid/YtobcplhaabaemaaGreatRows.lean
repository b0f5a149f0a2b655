/-
  No cell of these rows narrows 'for every input' (looked for: loops, veiled, ifaces, maps, wideKeys, modest, calm, conditions, laid).
  DERIVED. THE GIVEN ROWS OF THIS SEAT. 3 by the template 'for every input the law returns true; each argument reads behind the call as it read before'; 0 by the template 'total and deterministic' (their statements: YtobcplhaabaemaaGreatTotals.lean).
  GIVEN WITH THE SEED: the statements are not yours to turn. If you find one false, say at which input.
  Laid BY PROGRAM, IN A SANDBOX (cutbox-rows.mjs): the forced cells as the released guide's own fill.sh prints them over the translation c093c7423bba15d1… (all of the seat's roots in one cut). By AI agents, Wed Nov 11 2026. No macro, syntax, notation, axiom, sorry.
-/
import Derived.Test.YtobcplhaabaemaaGreatChecked
import GoSem.Claim
import GoSem.ClaimJoined
import GoSem.ClaimMapViews
import Derived.JoinedTies
import Derived.KernelRfl
namespace Go.Proofs.YtobcplhaabaemaaGreat
/- THE CELL 'sum', in the pinned program and in every row, IS THE sha256 OF THE DUMP (.gsa) THAT YtobcplhaabaemaaGreatProg.lean LOADS. Nothing in Lean hashes anything: it is a label: what it is worth is what the hold of that sum in a sandbox is worth. -/
noncomputable def Tryz.pinned : Pinned := { name := "ytobcplhaabaemaagreat", sum := "c093c7423bba15d10674a8c4bab360988beea554a9c0c99b8bfa4b7334804b24", checked := Tryz.checked }
namespace Rows
def none {H : Type} : Left H := { results := [], args := [] }

/-- 'spkeep2.DrumsStay': WHATEVER THE INPUT: true; the input reads as it did. -/
def drumsStaySpec : ChangeSpec := { name := "drumsStay", fn := fun _ => fun
  | [d] => { results := [.lit (.bool true)], args := [d] }
  | _ => none }
def drumsStayRow : OpenClaim := { program := "ytobcplhaabaemaagreat", sum := "c093c7423bba15d10674a8c4bab360988beea554a9c0c99b8bfa4b7334804b24", func := "splicetray/spkeep2.DrumsStay", spec := "drumsStay", inPlace := ["internal/bytealg.abigen_runtime_cmpstring", "internal/bytealg.IndexByteString"], unfollowed := true, recurses := true, plainKeys := false, apart := false }
def DrumsStaySaid : Prop := drumsStayRow.holds Tryz.pinned (OpenSpec.ofChange drumsStaySpec)

/-- ITS FALSE NEIGHBOUR: 'it returns false'. Refute it at one input. -/
def drumsStayWrong : ChangeSpec := { name := "drumsStay", fn := fun _ => fun
  | [d] => { results := [.lit (.bool false)], args := [d] }
  | _ => none }
def DrumsStayWrongFalsely : Prop := drumsStayRow.holds Tryz.pinned (OpenSpec.ofChange drumsStayWrong)

/-- 'spkeep2.PlansAreLeast': WHATEVER THE INPUT: true; the input reads as it did. -/
def plansAreLeastSpec : ChangeSpec := { name := "plansAreLeast", fn := fun _ => fun
  | [d] => { results := [.lit (.bool true)], args := [d] }
  | _ => none }
def plansAreLeastRow : OpenClaim := { program := "ytobcplhaabaemaagreat", sum := "c093c7423bba15d10674a8c4bab360988beea554a9c0c99b8bfa4b7334804b24", func := "splicetray/spkeep2.PlansAreLeast", spec := "plansAreLeast", inPlace := ["internal/bytealg.abigen_runtime_cmpstring", "internal/bytealg.IndexByteString"], unfollowed := true, recurses := true, plainKeys := false, apart := false }
def PlansAreLeastSaid : Prop := plansAreLeastRow.holds Tryz.pinned (OpenSpec.ofChange plansAreLeastSpec)

/-- ITS FALSE NEIGHBOUR: 'it returns false'. Refute it at one input. -/
def plansAreLeastWrong : ChangeSpec := { name := "plansAreLeast", fn := fun _ => fun
  | [d] => { results := [.lit (.bool false)], args := [d] }
  | _ => none }
def PlansAreLeastWrongFalsely : Prop := plansAreLeastRow.holds Tryz.pinned (OpenSpec.ofChange plansAreLeastWrong)

/-- 'sptop.TopPlansAreCut': WHATEVER THE INPUT: true; the input reads as it did. -/
def topPlansAreCutSpec : ChangeSpec := { name := "topPlansAreCut", fn := fun _ => fun
  | [d] => { results := [.lit (.bool true)], args := [d] }
  | _ => none }
def topPlansAreCutRow : OpenClaim := { program := "ytobcplhaabaemaagreat", sum := "c093c7423bba15d10674a8c4bab360988beea554a9c0c99b8bfa4b7334804b24", func := "splicetray/sptop.TopPlansAreCut", spec := "topPlansAreCut", inPlace := ["internal/bytealg.IndexByteString", "internal/bytealg.abigen_runtime_cmpstring"], unfollowed := true, recurses := true, plainKeys := false, apart := false }
def TopPlansAreCutSaid : Prop := topPlansAreCutRow.holds Tryz.pinned (OpenSpec.ofChange topPlansAreCutSpec)

/-- ITS FALSE NEIGHBOUR: 'it returns false'. Refute it at one input. -/
def topPlansAreCutWrong : ChangeSpec := { name := "topPlansAreCut", fn := fun _ => fun
  | [d] => { results := [.lit (.bool false)], args := [d] }
  | _ => none }
def TopPlansAreCutWrongFalsely : Prop := topPlansAreCutRow.holds Tryz.pinned (OpenSpec.ofChange topPlansAreCutWrong)

/- THE SECOND FORM. 'bulk': how many values and letters a reading holds, each counted each time it is reached (what is shared counts as often as it is met; a slice's spare places count too). A statement '..UptoSaid' is the law's where the arguments, and the package variables that the reading takes, are together of bulk at most 1048576: NARROWER than '..Said'. Prove '..Said' where nothing that the law and all that it calls make is longer than what came in: it says more and counts as full. Else prove '..UptoSaid'. A law counts once. -/
mutual
def uptoBulk {H : Type} : DataW H → Nat
  | .lit (.string bytes) => bytes.length + 1
  | .lit _ => 1
  | .nil => 1
  | .ptr d => uptoBulk d + 1
  | .slice elems spare => uptoBulkAll elems + uptoBulkAll spare + 1
  | .agg parts => uptoBulkAll parts + 1
  | .iface _ d => uptoBulk d + 1
  | .map entries => uptoBulkEntries entries + 1
  | .held _ => 1
def uptoBulkAll {H : Type} : List (DataW H) → Nat
  | [] => 0
  | d :: r => uptoBulk d + uptoBulkAll r
def uptoBulkEntries {H : Type} : List (Lit × DataW H) → Nat
  | [] => 0
  | x :: r => uptoBulkEntry x + uptoBulkEntries r
def uptoBulkEntry {H : Type} : Lit × DataW H → Nat
  | (.string bytes, d) => bytes.length + uptoBulk d + 1
  | (_, d) => uptoBulk d + 1
 end
def uptoSmall : (H : Type) → List (DataW H) → Bool := fun _ ds => decide (uptoBulkAll ds ≤ 1048576)
def OpenSpec.upto (s : _root_.Go.ChangeSpec) : _root_.Go.OpenSpec := { _root_.Go.OpenSpec.ofChange s with cond := some uptoSmall }

/-- 'spkeep2.DrumsStay', WHERE WHAT IT READS IS OF BULK AT MOST 1048576: true; the input reads as it did. -/
def drumsStayUptoRow : OpenClaim := { program := "ytobcplhaabaemaagreat", sum := "c093c7423bba15d10674a8c4bab360988beea554a9c0c99b8bfa4b7334804b24", func := "splicetray/spkeep2.DrumsStay", spec := "drumsStay", inPlace := ["internal/bytealg.abigen_runtime_cmpstring", "internal/bytealg.IndexByteString"], unfollowed := true, recurses := true, plainKeys := false, apart := false, narrowed := true }
def DrumsStayUptoSaid : Prop := drumsStayUptoRow.holds Tryz.pinned (OpenSpec.upto drumsStaySpec)

/-- 'spkeep2.PlansAreLeast', WHERE WHAT IT READS IS OF BULK AT MOST 1048576: true; the input reads as it did. -/
def plansAreLeastUptoRow : OpenClaim := { program := "ytobcplhaabaemaagreat", sum := "c093c7423bba15d10674a8c4bab360988beea554a9c0c99b8bfa4b7334804b24", func := "splicetray/spkeep2.PlansAreLeast", spec := "plansAreLeast", inPlace := ["internal/bytealg.abigen_runtime_cmpstring", "internal/bytealg.IndexByteString"], unfollowed := true, recurses := true, plainKeys := false, apart := false, narrowed := true }
def PlansAreLeastUptoSaid : Prop := plansAreLeastUptoRow.holds Tryz.pinned (OpenSpec.upto plansAreLeastSpec)

/-- 'sptop.TopPlansAreCut', WHERE WHAT IT READS IS OF BULK AT MOST 1048576: true; the input reads as it did. -/
def topPlansAreCutUptoRow : OpenClaim := { program := "ytobcplhaabaemaagreat", sum := "c093c7423bba15d10674a8c4bab360988beea554a9c0c99b8bfa4b7334804b24", func := "splicetray/sptop.TopPlansAreCut", spec := "topPlansAreCut", inPlace := ["internal/bytealg.IndexByteString", "internal/bytealg.abigen_runtime_cmpstring"], unfollowed := true, recurses := true, plainKeys := false, apart := false, narrowed := true }
def TopPlansAreCutUptoSaid : Prop := topPlansAreCutUptoRow.holds Tryz.pinned (OpenSpec.upto topPlansAreCutSpec)

end Rows
end Go.Proofs.YtobcplhaabaemaaGreat
