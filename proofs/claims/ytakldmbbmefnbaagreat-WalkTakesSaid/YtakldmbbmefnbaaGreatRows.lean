/-
  No cell of these rows narrows 'for every input' (looked for: loops, veiled, ifaces, maps, wideKeys, modest, calm, conditions, laid).
  DERIVED. THE GIVEN ROWS OF THIS SEAT. 6 by the template 'for every input the law returns true; each argument reads behind the call as it read before'; 0 by the template 'total and deterministic' (their statements: YtakldmbbmefnbaaGreatTotals.lean).
  GIVEN WITH THE SEED: the statements are not yours to turn. If you find one false, say at which input.
  Laid BY PROGRAM, IN A SANDBOX (cutbox-rows.mjs): the forced cells as the released guide's own fill.sh prints them over the translation 87facf73e67360aa… (all of the seat's roots in one cut). By AI agents, Wed Nov 11 2026. No macro, syntax, notation, axiom, sorry.
-/
import Derived.Test.YtakldmbbmefnbaaGreatChecked
import GoSem.Claim
import GoSem.ClaimJoined
import GoSem.ClaimMapViews
import Derived.JoinedTies
import Derived.KernelRfl
namespace Go.Proofs.YtakldmbbmefnbaaGreat
/- THE CELL 'sum', in the pinned program and in every row, IS THE sha256 OF THE DUMP (.gsa) THAT YtakldmbbmefnbaaGreatProg.lean LOADS. Nothing in Lean hashes anything: it is a label: what it is worth is what the hold of that sum in a sandbox is worth. -/
noncomputable def Tryz.pinned : Pinned := { name := "ytakldmbbmefnbaagreat", sum := "87facf73e67360aa227079cde577d766b3a8047c69f8457997aaa4776222c8fe", checked := Tryz.checked }
namespace Rows
def none {H : Type} : Left H := { results := [], args := [] }

/-- 'cornicelaw17.WalkGoes': WHATEVER THE INPUT: true; the input reads as it did. -/
def walkGoesSpec : ChangeSpec := { name := "walkGoes", fn := fun _ => fun
  | [d1, d2, d3] => { results := [.lit (.bool true)], args := [d1, d2, d3] }
  | _ => none }
def walkGoesRow : OpenClaim := { program := "ytakldmbbmefnbaagreat", sum := "87facf73e67360aa227079cde577d766b3a8047c69f8457997aaa4776222c8fe", func := "cornice/cornicelaw17.WalkGoes", spec := "walkGoes", unfollowed := true, recurses := true, plainKeys := false, apart := false }
def WalkGoesSaid : Prop := walkGoesRow.holds Tryz.pinned (OpenSpec.ofChange walkGoesSpec)

/-- ITS FALSE NEIGHBOUR: 'it returns false'. Refute it at one input. -/
def walkGoesWrong : ChangeSpec := { name := "walkGoes", fn := fun _ => fun
  | [d1, d2, d3] => { results := [.lit (.bool false)], args := [d1, d2, d3] }
  | _ => none }
def WalkGoesWrongFalsely : Prop := walkGoesRow.holds Tryz.pinned (OpenSpec.ofChange walkGoesWrong)

/-- 'cornicelaw17.WalkTakes': WHATEVER THE INPUT: true; the input reads as it did. -/
def walkTakesSpec : ChangeSpec := { name := "walkTakes", fn := fun _ => fun
  | [d1, d2] => { results := [.lit (.bool true)], args := [d1, d2] }
  | _ => none }
def walkTakesRow : OpenClaim := { program := "ytakldmbbmefnbaagreat", sum := "87facf73e67360aa227079cde577d766b3a8047c69f8457997aaa4776222c8fe", func := "cornice/cornicelaw17.WalkTakes", spec := "walkTakes", unfollowed := true, recurses := true, plainKeys := false, apart := false }
def WalkTakesSaid : Prop := walkTakesRow.holds Tryz.pinned (OpenSpec.ofChange walkTakesSpec)

/-- ITS FALSE NEIGHBOUR: 'it returns false'. Refute it at one input. -/
def walkTakesWrong : ChangeSpec := { name := "walkTakes", fn := fun _ => fun
  | [d1, d2] => { results := [.lit (.bool false)], args := [d1, d2] }
  | _ => none }
def WalkTakesWrongFalsely : Prop := walkTakesRow.holds Tryz.pinned (OpenSpec.ofChange walkTakesWrong)

/-- 'cornicelaw16.FaNorms': WHATEVER THE INPUT: true; the input reads as it did. -/
def faNormsSpec : ChangeSpec := { name := "faNorms", fn := fun _ => fun
  | [d1, d2] => { results := [.lit (.bool true)], args := [d1, d2] }
  | _ => none }
def faNormsRow : OpenClaim := { program := "ytakldmbbmefnbaagreat", sum := "87facf73e67360aa227079cde577d766b3a8047c69f8457997aaa4776222c8fe", func := "cornice/cornicelaw16.FaNorms", spec := "faNorms", unfollowed := true, recurses := true, plainKeys := false, apart := false }
def FaNormsSaid : Prop := faNormsRow.holds Tryz.pinned (OpenSpec.ofChange faNormsSpec)

/-- ITS FALSE NEIGHBOUR: 'it returns false'. Refute it at one input. -/
def faNormsWrong : ChangeSpec := { name := "faNorms", fn := fun _ => fun
  | [d1, d2] => { results := [.lit (.bool false)], args := [d1, d2] }
  | _ => none }
def FaNormsWrongFalsely : Prop := faNormsRow.holds Tryz.pinned (OpenSpec.ofChange faNormsWrong)

/-- 'cornicelaw16.FaKinds': WHATEVER THE INPUT: true; the input reads as it did. -/
def faKindsSpec : ChangeSpec := { name := "faKinds", fn := fun _ => fun
  | [d] => { results := [.lit (.bool true)], args := [d] }
  | _ => none }
def faKindsRow : OpenClaim := { program := "ytakldmbbmefnbaagreat", sum := "87facf73e67360aa227079cde577d766b3a8047c69f8457997aaa4776222c8fe", func := "cornice/cornicelaw16.FaKinds", spec := "faKinds", unfollowed := true, recurses := true, plainKeys := false, apart := false }
def FaKindsSaid : Prop := faKindsRow.holds Tryz.pinned (OpenSpec.ofChange faKindsSpec)

/-- ITS FALSE NEIGHBOUR: 'it returns false'. Refute it at one input. -/
def faKindsWrong : ChangeSpec := { name := "faKinds", fn := fun _ => fun
  | [d] => { results := [.lit (.bool false)], args := [d] }
  | _ => none }
def FaKindsWrongFalsely : Prop := faKindsRow.holds Tryz.pinned (OpenSpec.ofChange faKindsWrong)

/-- 'cornicelaw16.FaEdges': WHATEVER THE INPUT: true; the input reads as it did. -/
def faEdgesSpec : ChangeSpec := { name := "faEdges", fn := fun _ => fun
  | [d1, d2, d3] => { results := [.lit (.bool true)], args := [d1, d2, d3] }
  | _ => none }
def faEdgesRow : OpenClaim := { program := "ytakldmbbmefnbaagreat", sum := "87facf73e67360aa227079cde577d766b3a8047c69f8457997aaa4776222c8fe", func := "cornice/cornicelaw16.FaEdges", spec := "faEdges", unfollowed := true, recurses := true, plainKeys := false, apart := false }
def FaEdgesSaid : Prop := faEdgesRow.holds Tryz.pinned (OpenSpec.ofChange faEdgesSpec)

/-- ITS FALSE NEIGHBOUR: 'it returns false'. Refute it at one input. -/
def faEdgesWrong : ChangeSpec := { name := "faEdges", fn := fun _ => fun
  | [d1, d2, d3] => { results := [.lit (.bool false)], args := [d1, d2, d3] }
  | _ => none }
def FaEdgesWrongFalsely : Prop := faEdgesRow.holds Tryz.pinned (OpenSpec.ofChange faEdgesWrong)

/-- 'cornicelaw17.WalkUnions': WHATEVER THE INPUT: true; the input reads as it did. -/
def walkUnionsSpec : ChangeSpec := { name := "walkUnions", fn := fun _ => fun
  | [d1, d2, d3] => { results := [.lit (.bool true)], args := [d1, d2, d3] }
  | _ => none }
def walkUnionsRow : OpenClaim := { program := "ytakldmbbmefnbaagreat", sum := "87facf73e67360aa227079cde577d766b3a8047c69f8457997aaa4776222c8fe", func := "cornice/cornicelaw17.WalkUnions", spec := "walkUnions", unfollowed := true, recurses := true, plainKeys := false, apart := false }
def WalkUnionsSaid : Prop := walkUnionsRow.holds Tryz.pinned (OpenSpec.ofChange walkUnionsSpec)

/-- ITS FALSE NEIGHBOUR: 'it returns false'. Refute it at one input. -/
def walkUnionsWrong : ChangeSpec := { name := "walkUnions", fn := fun _ => fun
  | [d1, d2, d3] => { results := [.lit (.bool false)], args := [d1, d2, d3] }
  | _ => none }
def WalkUnionsWrongFalsely : Prop := walkUnionsRow.holds Tryz.pinned (OpenSpec.ofChange walkUnionsWrong)

/- THE SECOND FORM. 'bulk': how many values and letters a reading holds, each counted each time it is reached (what is shared counts as often as it is met; a slice's spare places count too). A statement '..UptoSaid' is the law's where the arguments, and the package variables that the reading takes, are together of bulk at most 1048576: NARROWER than '..Said'. Prove '..Said' where nothing that the law and all that it calls make is longer than what came in: it says more and counts as full. Else prove '..UptoSaid'. A law counts once. -/
mutual
def uptoBulk {H : Type} : DataW H → Nat
  | .lit (.string bytes) => bytes.length + 1
  | .lit _ => 1
  | .nil => 1
  | .ptr d => uptoBulk d + 1
  | .slice elems spare => uptoBulkAll elems + uptoBulkAll spare + 1
  | .agg parts => uptoBulkAll parts + 1
  | .iface _ d => uptoBulk d + 1
  | .map entries => uptoBulkEntries entries + 1
  | .held _ => 1
def uptoBulkAll {H : Type} : List (DataW H) → Nat
  | [] => 0
  | d :: r => uptoBulk d + uptoBulkAll r
def uptoBulkEntries {H : Type} : List (Lit × DataW H) → Nat
  | [] => 0
  | x :: r => uptoBulkEntry x + uptoBulkEntries r
def uptoBulkEntry {H : Type} : Lit × DataW H → Nat
  | (.string bytes, d) => bytes.length + uptoBulk d + 1
  | (_, d) => uptoBulk d + 1
 end
def uptoSmall : (H : Type) → List (DataW H) → Bool := fun _ ds => decide (uptoBulkAll ds ≤ 1048576)
def OpenSpec.upto (s : _root_.Go.ChangeSpec) : _root_.Go.OpenSpec := { _root_.Go.OpenSpec.ofChange s with cond := some uptoSmall }

/-- 'cornicelaw17.WalkGoes', WHERE WHAT IT READS IS OF BULK AT MOST 1048576: true; the input reads as it did. -/
def walkGoesUptoRow : OpenClaim := { program := "ytakldmbbmefnbaagreat", sum := "87facf73e67360aa227079cde577d766b3a8047c69f8457997aaa4776222c8fe", func := "cornice/cornicelaw17.WalkGoes", spec := "walkGoes", unfollowed := true, recurses := true, plainKeys := false, apart := false, narrowed := true }
def WalkGoesUptoSaid : Prop := walkGoesUptoRow.holds Tryz.pinned (OpenSpec.upto walkGoesSpec)

/-- 'cornicelaw17.WalkTakes', WHERE WHAT IT READS IS OF BULK AT MOST 1048576: true; the input reads as it did. -/
def walkTakesUptoRow : OpenClaim := { program := "ytakldmbbmefnbaagreat", sum := "87facf73e67360aa227079cde577d766b3a8047c69f8457997aaa4776222c8fe", func := "cornice/cornicelaw17.WalkTakes", spec := "walkTakes", unfollowed := true, recurses := true, plainKeys := false, apart := false, narrowed := true }
def WalkTakesUptoSaid : Prop := walkTakesUptoRow.holds Tryz.pinned (OpenSpec.upto walkTakesSpec)

/-- 'cornicelaw16.FaNorms', WHERE WHAT IT READS IS OF BULK AT MOST 1048576: true; the input reads as it did. -/
def faNormsUptoRow : OpenClaim := { program := "ytakldmbbmefnbaagreat", sum := "87facf73e67360aa227079cde577d766b3a8047c69f8457997aaa4776222c8fe", func := "cornice/cornicelaw16.FaNorms", spec := "faNorms", unfollowed := true, recurses := true, plainKeys := false, apart := false, narrowed := true }
def FaNormsUptoSaid : Prop := faNormsUptoRow.holds Tryz.pinned (OpenSpec.upto faNormsSpec)

/-- 'cornicelaw16.FaKinds', WHERE WHAT IT READS IS OF BULK AT MOST 1048576: true; the input reads as it did. -/
def faKindsUptoRow : OpenClaim := { program := "ytakldmbbmefnbaagreat", sum := "87facf73e67360aa227079cde577d766b3a8047c69f8457997aaa4776222c8fe", func := "cornice/cornicelaw16.FaKinds", spec := "faKinds", unfollowed := true, recurses := true, plainKeys := false, apart := false, narrowed := true }
def FaKindsUptoSaid : Prop := faKindsUptoRow.holds Tryz.pinned (OpenSpec.upto faKindsSpec)

/-- 'cornicelaw16.FaEdges', WHERE WHAT IT READS IS OF BULK AT MOST 1048576: true; the input reads as it did. -/
def faEdgesUptoRow : OpenClaim := { program := "ytakldmbbmefnbaagreat", sum := "87facf73e67360aa227079cde577d766b3a8047c69f8457997aaa4776222c8fe", func := "cornice/cornicelaw16.FaEdges", spec := "faEdges", unfollowed := true, recurses := true, plainKeys := false, apart := false, narrowed := true }
def FaEdgesUptoSaid : Prop := faEdgesUptoRow.holds Tryz.pinned (OpenSpec.upto faEdgesSpec)

/-- 'cornicelaw17.WalkUnions', WHERE WHAT IT READS IS OF BULK AT MOST 1048576: true; the input reads as it did. -/
def walkUnionsUptoRow : OpenClaim := { program := "ytakldmbbmefnbaagreat", sum := "87facf73e67360aa227079cde577d766b3a8047c69f8457997aaa4776222c8fe", func := "cornice/cornicelaw17.WalkUnions", spec := "walkUnions", unfollowed := true, recurses := true, plainKeys := false, apart := false, narrowed := true }
def WalkUnionsUptoSaid : Prop := walkUnionsUptoRow.holds Tryz.pinned (OpenSpec.upto walkUnionsSpec)

end Rows
end Go.Proofs.YtakldmbbmefnbaaGreat
