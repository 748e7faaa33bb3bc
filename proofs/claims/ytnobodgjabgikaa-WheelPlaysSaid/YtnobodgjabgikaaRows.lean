/-
  No cell of these rows narrows 'for every input' (looked for: loops, veiled, ifaces, maps, wideKeys, modest, calm, conditions, laid).
  DERIVED. THE GIVEN ROWS OF THIS SEAT. 6 by the template 'for every input the law returns true; each argument reads behind the call as it read before'; 0 by the template 'total and deterministic' (their statements: YtnobodgjabgikaaTotals.lean).
  GIVEN WITH THE SEED: the statements are not yours to turn. If you find one false, say at which input.
  Laid BY PROGRAM, IN A SANDBOX (cutbox-rows.mjs): the forced cells as the released guide's own fill.sh prints them over the translation 532cf75429221248… (all of the seat's roots in one cut). By AI agents, Wed Nov 11 2026. No macro, syntax, notation, axiom, sorry.
-/
import Derived.Test.YtnobodgjabgikaaChecked
import GoSem.Claim
import GoSem.ClaimJoined
import GoSem.ClaimMapViews
import Derived.JoinedTies
import Derived.KernelRfl
namespace Go.Proofs.Ytnobodgjabgikaa
/- THE CELL 'sum', in the pinned program and in every row, IS THE sha256 OF THE DUMP (.gsa) THAT YtnobodgjabgikaaProg.lean LOADS. Nothing in Lean hashes anything: it is a label: what it is worth is what the hold of that sum in a sandbox is worth. -/
noncomputable def Try.pinned : Pinned := { name := "ytnobodgjabgikaa", sum := "532cf754292212489e7837e79c347cf418362947f8edcce39d2a65b146a807e8", checked := Try.checked }
namespace Rows
def none {H : Type} : Left H := { results := [], args := [] }

/-- 'vergerlaw12.WheelCuts': WHATEVER THE INPUT: true; the input reads as it did. -/
def wheelCutsSpec : ChangeSpec := { name := "wheelCuts", fn := fun _ => fun
  | [d1, d2] => { results := [.lit (.bool true)], args := [d1, d2] }
  | _ => none }
def wheelCutsRow : OpenClaim := { program := "ytnobodgjabgikaa", sum := "532cf754292212489e7837e79c347cf418362947f8edcce39d2a65b146a807e8", func := "verger/vergerlaw12.WheelCuts", spec := "wheelCuts", inPlace := ["slices.overlaps[verger/api.Timer]"], unfollowed := true, recurses := true, plainKeys := false, apart := false }
def WheelCutsSaid : Prop := wheelCutsRow.holds Try.pinned (OpenSpec.ofChange wheelCutsSpec)

/-- ITS FALSE NEIGHBOUR: 'it returns false'. Refute it at one input. -/
def wheelCutsWrong : ChangeSpec := { name := "wheelCuts", fn := fun _ => fun
  | [d1, d2] => { results := [.lit (.bool false)], args := [d1, d2] }
  | _ => none }
def WheelCutsWrongFalsely : Prop := wheelCutsRow.holds Try.pinned (OpenSpec.ofChange wheelCutsWrong)

/-- 'vergerlaw12.WheelOnce': WHATEVER THE INPUT: true; the input reads as it did. -/
def wheelOnceSpec : ChangeSpec := { name := "wheelOnce", fn := fun _ => fun
  | [d1, d2] => { results := [.lit (.bool true)], args := [d1, d2] }
  | _ => none }
def wheelOnceRow : OpenClaim := { program := "ytnobodgjabgikaa", sum := "532cf754292212489e7837e79c347cf418362947f8edcce39d2a65b146a807e8", func := "verger/vergerlaw12.WheelOnce", spec := "wheelOnce", inPlace := ["slices.overlaps[verger/api.Timer]"], unfollowed := true, recurses := true, plainKeys := false, apart := false }
def WheelOnceSaid : Prop := wheelOnceRow.holds Try.pinned (OpenSpec.ofChange wheelOnceSpec)

/-- ITS FALSE NEIGHBOUR: 'it returns false'. Refute it at one input. -/
def wheelOnceWrong : ChangeSpec := { name := "wheelOnce", fn := fun _ => fun
  | [d1, d2] => { results := [.lit (.bool false)], args := [d1, d2] }
  | _ => none }
def WheelOnceWrongFalsely : Prop := wheelOnceRow.holds Try.pinned (OpenSpec.ofChange wheelOnceWrong)

/-- 'vergerlaw12.WheelFar': WHATEVER THE INPUT: true; the input reads as it did. -/
def wheelFarSpec : ChangeSpec := { name := "wheelFar", fn := fun _ => fun
  | [d1, d2] => { results := [.lit (.bool true)], args := [d1, d2] }
  | _ => none }
def wheelFarRow : OpenClaim := { program := "ytnobodgjabgikaa", sum := "532cf754292212489e7837e79c347cf418362947f8edcce39d2a65b146a807e8", func := "verger/vergerlaw12.WheelFar", spec := "wheelFar", inPlace := ["slices.overlaps[verger/api.Timer]"], unfollowed := true, recurses := true, plainKeys := false, apart := false }
def WheelFarSaid : Prop := wheelFarRow.holds Try.pinned (OpenSpec.ofChange wheelFarSpec)

/-- ITS FALSE NEIGHBOUR: 'it returns false'. Refute it at one input. -/
def wheelFarWrong : ChangeSpec := { name := "wheelFar", fn := fun _ => fun
  | [d1, d2] => { results := [.lit (.bool false)], args := [d1, d2] }
  | _ => none }
def WheelFarWrongFalsely : Prop := wheelFarRow.holds Try.pinned (OpenSpec.ofChange wheelFarWrong)

/-- 'vergerlaw12.WheelStops': WHATEVER THE INPUT: true; the input reads as it did. -/
def wheelStopsSpec : ChangeSpec := { name := "wheelStops", fn := fun _ => fun
  | [d1, d2] => { results := [.lit (.bool true)], args := [d1, d2] }
  | _ => none }
def wheelStopsRow : OpenClaim := { program := "ytnobodgjabgikaa", sum := "532cf754292212489e7837e79c347cf418362947f8edcce39d2a65b146a807e8", func := "verger/vergerlaw12.WheelStops", spec := "wheelStops", inPlace := ["slices.overlaps[verger/api.Timer]"], unfollowed := true, recurses := true, plainKeys := false, apart := false }
def WheelStopsSaid : Prop := wheelStopsRow.holds Try.pinned (OpenSpec.ofChange wheelStopsSpec)

/-- ITS FALSE NEIGHBOUR: 'it returns false'. Refute it at one input. -/
def wheelStopsWrong : ChangeSpec := { name := "wheelStops", fn := fun _ => fun
  | [d1, d2] => { results := [.lit (.bool false)], args := [d1, d2] }
  | _ => none }
def WheelStopsWrongFalsely : Prop := wheelStopsRow.holds Try.pinned (OpenSpec.ofChange wheelStopsWrong)

/-- 'vergerlaw12.WheelFills': WHATEVER THE INPUT: true; the input reads as it did. -/
def wheelFillsSpec : ChangeSpec := { name := "wheelFills", fn := fun _ => fun
  | [d1, d2] => { results := [.lit (.bool true)], args := [d1, d2] }
  | _ => none }
def wheelFillsRow : OpenClaim := { program := "ytnobodgjabgikaa", sum := "532cf754292212489e7837e79c347cf418362947f8edcce39d2a65b146a807e8", func := "verger/vergerlaw12.WheelFills", spec := "wheelFills", inPlace := ["slices.overlaps[verger/api.Timer]"], unfollowed := true, recurses := true, plainKeys := false, apart := false }
def WheelFillsSaid : Prop := wheelFillsRow.holds Try.pinned (OpenSpec.ofChange wheelFillsSpec)

/-- ITS FALSE NEIGHBOUR: 'it returns false'. Refute it at one input. -/
def wheelFillsWrong : ChangeSpec := { name := "wheelFills", fn := fun _ => fun
  | [d1, d2] => { results := [.lit (.bool false)], args := [d1, d2] }
  | _ => none }
def WheelFillsWrongFalsely : Prop := wheelFillsRow.holds Try.pinned (OpenSpec.ofChange wheelFillsWrong)

/-- 'vergerlaw12.WheelPlays': WHATEVER THE INPUT: true; the input reads as it did. -/
def wheelPlaysSpec : ChangeSpec := { name := "wheelPlays", fn := fun _ => fun
  | [d1, d2] => { results := [.lit (.bool true)], args := [d1, d2] }
  | _ => none }
def wheelPlaysRow : OpenClaim := { program := "ytnobodgjabgikaa", sum := "532cf754292212489e7837e79c347cf418362947f8edcce39d2a65b146a807e8", func := "verger/vergerlaw12.WheelPlays", spec := "wheelPlays", inPlace := ["slices.overlaps[verger/api.Timer]"], unfollowed := true, recurses := true, plainKeys := false, apart := false }
def WheelPlaysSaid : Prop := wheelPlaysRow.holds Try.pinned (OpenSpec.ofChange wheelPlaysSpec)

/-- ITS FALSE NEIGHBOUR: 'it returns false'. Refute it at one input. -/
def wheelPlaysWrong : ChangeSpec := { name := "wheelPlays", fn := fun _ => fun
  | [d1, d2] => { results := [.lit (.bool false)], args := [d1, d2] }
  | _ => none }
def WheelPlaysWrongFalsely : Prop := wheelPlaysRow.holds Try.pinned (OpenSpec.ofChange wheelPlaysWrong)

/- THE SECOND FORM. 'bulk': how many values and letters a reading holds, each counted each time it is reached (what is shared counts as often as it is met; a slice's spare places count too). A statement '..UptoSaid' is the law's where the arguments, and the package variables that the reading takes, are together of bulk at most 1048576: NARROWER than '..Said'. Prove '..Said' where nothing that the law and all that it calls make is longer than what came in: it says more and counts as full. Else prove '..UptoSaid'. A law counts once. -/
mutual
def uptoBulk {H : Type} : DataW H → Nat
  | .lit (.string bytes) => bytes.length + 1
  | .lit _ => 1
  | .nil => 1
  | .ptr d => uptoBulk d + 1
  | .slice elems spare => uptoBulkAll elems + uptoBulkAll spare + 1
  | .agg parts => uptoBulkAll parts + 1
  | .iface _ d => uptoBulk d + 1
  | .map entries => uptoBulkEntries entries + 1
  | .held _ => 1
def uptoBulkAll {H : Type} : List (DataW H) → Nat
  | [] => 0
  | d :: r => uptoBulk d + uptoBulkAll r
def uptoBulkEntries {H : Type} : List (Lit × DataW H) → Nat
  | [] => 0
  | x :: r => uptoBulkEntry x + uptoBulkEntries r
def uptoBulkEntry {H : Type} : Lit × DataW H → Nat
  | (.string bytes, d) => bytes.length + uptoBulk d + 1
  | (_, d) => uptoBulk d + 1
 end
def uptoSmall : (H : Type) → List (DataW H) → Bool := fun _ ds => decide (uptoBulkAll ds ≤ 1048576)
def OpenSpec.upto (s : _root_.Go.ChangeSpec) : _root_.Go.OpenSpec := { _root_.Go.OpenSpec.ofChange s with cond := some uptoSmall }

/-- 'vergerlaw12.WheelCuts', WHERE WHAT IT READS IS OF BULK AT MOST 1048576: true; the input reads as it did. -/
def wheelCutsUptoRow : OpenClaim := { program := "ytnobodgjabgikaa", sum := "532cf754292212489e7837e79c347cf418362947f8edcce39d2a65b146a807e8", func := "verger/vergerlaw12.WheelCuts", spec := "wheelCuts", inPlace := ["slices.overlaps[verger/api.Timer]"], unfollowed := true, recurses := true, plainKeys := false, apart := false, narrowed := true }
def WheelCutsUptoSaid : Prop := wheelCutsUptoRow.holds Try.pinned (OpenSpec.upto wheelCutsSpec)

/-- 'vergerlaw12.WheelOnce', WHERE WHAT IT READS IS OF BULK AT MOST 1048576: true; the input reads as it did. -/
def wheelOnceUptoRow : OpenClaim := { program := "ytnobodgjabgikaa", sum := "532cf754292212489e7837e79c347cf418362947f8edcce39d2a65b146a807e8", func := "verger/vergerlaw12.WheelOnce", spec := "wheelOnce", inPlace := ["slices.overlaps[verger/api.Timer]"], unfollowed := true, recurses := true, plainKeys := false, apart := false, narrowed := true }
def WheelOnceUptoSaid : Prop := wheelOnceUptoRow.holds Try.pinned (OpenSpec.upto wheelOnceSpec)

/-- 'vergerlaw12.WheelFar', WHERE WHAT IT READS IS OF BULK AT MOST 1048576: true; the input reads as it did. -/
def wheelFarUptoRow : OpenClaim := { program := "ytnobodgjabgikaa", sum := "532cf754292212489e7837e79c347cf418362947f8edcce39d2a65b146a807e8", func := "verger/vergerlaw12.WheelFar", spec := "wheelFar", inPlace := ["slices.overlaps[verger/api.Timer]"], unfollowed := true, recurses := true, plainKeys := false, apart := false, narrowed := true }
def WheelFarUptoSaid : Prop := wheelFarUptoRow.holds Try.pinned (OpenSpec.upto wheelFarSpec)

/-- 'vergerlaw12.WheelStops', WHERE WHAT IT READS IS OF BULK AT MOST 1048576: true; the input reads as it did. -/
def wheelStopsUptoRow : OpenClaim := { program := "ytnobodgjabgikaa", sum := "532cf754292212489e7837e79c347cf418362947f8edcce39d2a65b146a807e8", func := "verger/vergerlaw12.WheelStops", spec := "wheelStops", inPlace := ["slices.overlaps[verger/api.Timer]"], unfollowed := true, recurses := true, plainKeys := false, apart := false, narrowed := true }
def WheelStopsUptoSaid : Prop := wheelStopsUptoRow.holds Try.pinned (OpenSpec.upto wheelStopsSpec)

/-- 'vergerlaw12.WheelFills', WHERE WHAT IT READS IS OF BULK AT MOST 1048576: true; the input reads as it did. -/
def wheelFillsUptoRow : OpenClaim := { program := "ytnobodgjabgikaa", sum := "532cf754292212489e7837e79c347cf418362947f8edcce39d2a65b146a807e8", func := "verger/vergerlaw12.WheelFills", spec := "wheelFills", inPlace := ["slices.overlaps[verger/api.Timer]"], unfollowed := true, recurses := true, plainKeys := false, apart := false, narrowed := true }
def WheelFillsUptoSaid : Prop := wheelFillsUptoRow.holds Try.pinned (OpenSpec.upto wheelFillsSpec)

/-- 'vergerlaw12.WheelPlays', WHERE WHAT IT READS IS OF BULK AT MOST 1048576: true; the input reads as it did. -/
def wheelPlaysUptoRow : OpenClaim := { program := "ytnobodgjabgikaa", sum := "532cf754292212489e7837e79c347cf418362947f8edcce39d2a65b146a807e8", func := "verger/vergerlaw12.WheelPlays", spec := "wheelPlays", inPlace := ["slices.overlaps[verger/api.Timer]"], unfollowed := true, recurses := true, plainKeys := false, apart := false, narrowed := true }
def WheelPlaysUptoSaid : Prop := wheelPlaysUptoRow.holds Try.pinned (OpenSpec.upto wheelPlaysSpec)

end Rows
end Go.Proofs.Ytnobodgjabgikaa
