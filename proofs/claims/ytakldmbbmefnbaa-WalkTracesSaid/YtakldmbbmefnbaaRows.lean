/-
  No cell of these rows narrows 'for every input' (looked for: loops, veiled, ifaces, maps, wideKeys, modest, calm, conditions, laid).
  DERIVED. THE GIVEN ROWS OF THIS SEAT. 4 by the template 'for every input the law returns true; each argument reads behind the call as it read before'; 0 by the template 'total and deterministic' (their statements: YtakldmbbmefnbaaTotals.lean).
  GIVEN WITH THE SEED: the statements are not yours to turn. If you find one false, say at which input.
  Laid BY PROGRAM, IN A SANDBOX (cutbox-rows.mjs): the forced cells as the released guide's own fill.sh prints them over the translation 2c7e3b2b2b14dd0c… (all of the seat's roots in one cut). By AI agents, Wed Nov 11 2026. No macro, syntax, notation, axiom, sorry.
-/
import Derived.Test.YtakldmbbmefnbaaChecked
import GoSem.Claim
import GoSem.ClaimJoined
import GoSem.ClaimMapViews
import Derived.JoinedTies
import Derived.KernelRfl
namespace Go.Proofs.Ytakldmbbmefnbaa
/- THE CELL 'sum', in the pinned program and in every row, IS THE sha256 OF THE DUMP (.gsa) THAT YtakldmbbmefnbaaProg.lean LOADS. Nothing in Lean hashes anything: it is a label: what it is worth is what the hold of that sum in a sandbox is worth. -/
noncomputable def Try.pinned : Pinned := { name := "ytakldmbbmefnbaa", sum := "2c7e3b2b2b14dd0c3b6869727ce818a80a686c0671aa3789c7d910bcf21bc501", checked := Try.checked }
namespace Rows
def none {H : Type} : Left H := { results := [], args := [] }

/-- 'cornicelaw17.WalkFirst': WHATEVER THE INPUT: true; the input reads as it did. -/
def walkFirstSpec : ChangeSpec := { name := "walkFirst", fn := fun _ => fun
  | [d1, d2] => { results := [.lit (.bool true)], args := [d1, d2] }
  | _ => none }
def walkFirstRow : OpenClaim := { program := "ytakldmbbmefnbaa", sum := "2c7e3b2b2b14dd0c3b6869727ce818a80a686c0671aa3789c7d910bcf21bc501", func := "cornice/cornicelaw17.WalkFirst", spec := "walkFirst", unfollowed := true, recurses := true, plainKeys := false, apart := false }
def WalkFirstSaid : Prop := walkFirstRow.holds Try.pinned (OpenSpec.ofChange walkFirstSpec)

/-- ITS FALSE NEIGHBOUR: 'it returns false'. Refute it at one input. -/
def walkFirstWrong : ChangeSpec := { name := "walkFirst", fn := fun _ => fun
  | [d1, d2] => { results := [.lit (.bool false)], args := [d1, d2] }
  | _ => none }
def WalkFirstWrongFalsely : Prop := walkFirstRow.holds Try.pinned (OpenSpec.ofChange walkFirstWrong)

/-- 'cornicelaw17.WalkTraces': WHATEVER THE INPUT: true; the input reads as it did. -/
def walkTracesSpec : ChangeSpec := { name := "walkTraces", fn := fun _ => fun
  | [d1, d2, d3] => { results := [.lit (.bool true)], args := [d1, d2, d3] }
  | _ => none }
def walkTracesRow : OpenClaim := { program := "ytakldmbbmefnbaa", sum := "2c7e3b2b2b14dd0c3b6869727ce818a80a686c0671aa3789c7d910bcf21bc501", func := "cornice/cornicelaw17.WalkTraces", spec := "walkTraces", unfollowed := true, recurses := true, plainKeys := false, apart := false }
def WalkTracesSaid : Prop := walkTracesRow.holds Try.pinned (OpenSpec.ofChange walkTracesSpec)

/-- ITS FALSE NEIGHBOUR: 'it returns false'. Refute it at one input. -/
def walkTracesWrong : ChangeSpec := { name := "walkTraces", fn := fun _ => fun
  | [d1, d2, d3] => { results := [.lit (.bool false)], args := [d1, d2, d3] }
  | _ => none }
def WalkTracesWrongFalsely : Prop := walkTracesRow.holds Try.pinned (OpenSpec.ofChange walkTracesWrong)

/-- 'cornicelaw16.FaWith': WHATEVER THE INPUT: true; the input reads as it did. -/
def faWithSpec : ChangeSpec := { name := "faWith", fn := fun _ => fun
  | [d] => { results := [.lit (.bool true)], args := [d] }
  | _ => none }
def faWithRow : OpenClaim := { program := "ytakldmbbmefnbaa", sum := "2c7e3b2b2b14dd0c3b6869727ce818a80a686c0671aa3789c7d910bcf21bc501", func := "cornice/cornicelaw16.FaWith", spec := "faWith", unfollowed := true, recurses := true, plainKeys := false, apart := false }
def FaWithSaid : Prop := faWithRow.holds Try.pinned (OpenSpec.ofChange faWithSpec)

/-- ITS FALSE NEIGHBOUR: 'it returns false'. Refute it at one input. -/
def faWithWrong : ChangeSpec := { name := "faWith", fn := fun _ => fun
  | [d] => { results := [.lit (.bool false)], args := [d] }
  | _ => none }
def FaWithWrongFalsely : Prop := faWithRow.holds Try.pinned (OpenSpec.ofChange faWithWrong)

/-- 'cornicelaw16.FaComplete': WHATEVER THE INPUT: true; the input reads as it did. -/
def faCompleteSpec : ChangeSpec := { name := "faComplete", fn := fun _ => fun
  | [d1, d2] => { results := [.lit (.bool true)], args := [d1, d2] }
  | _ => none }
def faCompleteRow : OpenClaim := { program := "ytakldmbbmefnbaa", sum := "2c7e3b2b2b14dd0c3b6869727ce818a80a686c0671aa3789c7d910bcf21bc501", func := "cornice/cornicelaw16.FaComplete", spec := "faComplete", unfollowed := true, recurses := true, plainKeys := false, apart := false }
def FaCompleteSaid : Prop := faCompleteRow.holds Try.pinned (OpenSpec.ofChange faCompleteSpec)

/-- ITS FALSE NEIGHBOUR: 'it returns false'. Refute it at one input. -/
def faCompleteWrong : ChangeSpec := { name := "faComplete", fn := fun _ => fun
  | [d1, d2] => { results := [.lit (.bool false)], args := [d1, d2] }
  | _ => none }
def FaCompleteWrongFalsely : Prop := faCompleteRow.holds Try.pinned (OpenSpec.ofChange faCompleteWrong)

/- THE SECOND FORM. 'bulk': how many values and letters a reading holds, each counted each time it is reached (what is shared counts as often as it is met; a slice's spare places count too). A statement '..UptoSaid' is the law's where the arguments, and the package variables that the reading takes, are together of bulk at most 1048576: NARROWER than '..Said'. Prove '..Said' where nothing that the law and all that it calls make is longer than what came in: it says more and counts as full. Else prove '..UptoSaid'. A law counts once. -/
mutual
def uptoBulk {H : Type} : DataW H → Nat
  | .lit (.string bytes) => bytes.length + 1
  | .lit _ => 1
  | .nil => 1
  | .ptr d => uptoBulk d + 1
  | .slice elems spare => uptoBulkAll elems + uptoBulkAll spare + 1
  | .agg parts => uptoBulkAll parts + 1
  | .iface _ d => uptoBulk d + 1
  | .map entries => uptoBulkEntries entries + 1
  | .held _ => 1
def uptoBulkAll {H : Type} : List (DataW H) → Nat
  | [] => 0
  | d :: r => uptoBulk d + uptoBulkAll r
def uptoBulkEntries {H : Type} : List (Lit × DataW H) → Nat
  | [] => 0
  | x :: r => uptoBulkEntry x + uptoBulkEntries r
def uptoBulkEntry {H : Type} : Lit × DataW H → Nat
  | (.string bytes, d) => bytes.length + uptoBulk d + 1
  | (_, d) => uptoBulk d + 1
 end
def uptoSmall : (H : Type) → List (DataW H) → Bool := fun _ ds => decide (uptoBulkAll ds ≤ 1048576)
def OpenSpec.upto (s : _root_.Go.ChangeSpec) : _root_.Go.OpenSpec := { _root_.Go.OpenSpec.ofChange s with cond := some uptoSmall }

/-- 'cornicelaw17.WalkFirst', WHERE WHAT IT READS IS OF BULK AT MOST 1048576: true; the input reads as it did. -/
def walkFirstUptoRow : OpenClaim := { program := "ytakldmbbmefnbaa", sum := "2c7e3b2b2b14dd0c3b6869727ce818a80a686c0671aa3789c7d910bcf21bc501", func := "cornice/cornicelaw17.WalkFirst", spec := "walkFirst", unfollowed := true, recurses := true, plainKeys := false, apart := false, narrowed := true }
def WalkFirstUptoSaid : Prop := walkFirstUptoRow.holds Try.pinned (OpenSpec.upto walkFirstSpec)

/-- 'cornicelaw17.WalkTraces', WHERE WHAT IT READS IS OF BULK AT MOST 1048576: true; the input reads as it did. -/
def walkTracesUptoRow : OpenClaim := { program := "ytakldmbbmefnbaa", sum := "2c7e3b2b2b14dd0c3b6869727ce818a80a686c0671aa3789c7d910bcf21bc501", func := "cornice/cornicelaw17.WalkTraces", spec := "walkTraces", unfollowed := true, recurses := true, plainKeys := false, apart := false, narrowed := true }
def WalkTracesUptoSaid : Prop := walkTracesUptoRow.holds Try.pinned (OpenSpec.upto walkTracesSpec)

/-- 'cornicelaw16.FaWith', WHERE WHAT IT READS IS OF BULK AT MOST 1048576: true; the input reads as it did. -/
def faWithUptoRow : OpenClaim := { program := "ytakldmbbmefnbaa", sum := "2c7e3b2b2b14dd0c3b6869727ce818a80a686c0671aa3789c7d910bcf21bc501", func := "cornice/cornicelaw16.FaWith", spec := "faWith", unfollowed := true, recurses := true, plainKeys := false, apart := false, narrowed := true }
def FaWithUptoSaid : Prop := faWithUptoRow.holds Try.pinned (OpenSpec.upto faWithSpec)

/-- 'cornicelaw16.FaComplete', WHERE WHAT IT READS IS OF BULK AT MOST 1048576: true; the input reads as it did. -/
def faCompleteUptoRow : OpenClaim := { program := "ytakldmbbmefnbaa", sum := "2c7e3b2b2b14dd0c3b6869727ce818a80a686c0671aa3789c7d910bcf21bc501", func := "cornice/cornicelaw16.FaComplete", spec := "faComplete", unfollowed := true, recurses := true, plainKeys := false, apart := false, narrowed := true }
def FaCompleteUptoSaid : Prop := faCompleteUptoRow.holds Try.pinned (OpenSpec.upto faCompleteSpec)

end Rows
end Go.Proofs.Ytakldmbbmefnbaa
