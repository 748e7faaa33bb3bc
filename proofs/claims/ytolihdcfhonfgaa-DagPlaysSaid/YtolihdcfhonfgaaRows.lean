/-
  No cell of these rows narrows 'for every input' (looked for: loops, veiled, ifaces, maps, wideKeys, modest, calm, conditions, laid).
  DERIVED. THE GIVEN ROWS OF THIS SEAT. 5 by the template 'for every input the law returns true; each argument reads behind the call as it read before'; 0 by the template 'total and deterministic' (their statements: YtolihdcfhonfgaaTotals.lean).
  GIVEN WITH THE SEED: the statements are not yours to turn. If you find one false, say at which input.
  Laid BY PROGRAM, IN A SANDBOX (cutbox-rows.mjs): the forced cells as the released guide's own fill.sh prints them over the translation 4d273f7859448941… (all of the seat's roots in one cut). By AI agents, Wed Nov 11 2026. No macro, syntax, notation, axiom, sorry.
-/
import Derived.Test.YtolihdcfhonfgaaChecked
import GoSem.Claim
import GoSem.ClaimJoined
import GoSem.ClaimMapViews
import Derived.JoinedTies
import Derived.KernelRfl
namespace Go.Proofs.Ytolihdcfhonfgaa
/- THE CELL 'sum', in the pinned program and in every row, IS THE sha256 OF THE DUMP (.gsa) THAT YtolihdcfhonfgaaProg.lean LOADS. Nothing in Lean hashes anything: it is a label: what it is worth is what the hold of that sum in a sandbox is worth. -/
noncomputable def Try.pinned : Pinned := { name := "ytolihdcfhonfgaa", sum := "4d273f785944894191bd295996f4b7bfe31bf9726510ace63dfd26fb364a772b", checked := Try.checked }
namespace Rows
def none {H : Type} : Left H := { results := [], args := [] }

/-- 'vergerlaw14.DagFans': WHATEVER THE INPUT: true; the input reads as it did. -/
def dagFansSpec : ChangeSpec := { name := "dagFans", fn := fun _ => fun
  | [d1, d2] => { results := [.lit (.bool true)], args := [d1, d2] }
  | _ => none }
def dagFansRow : OpenClaim := { program := "ytolihdcfhonfgaa", sum := "4d273f785944894191bd295996f4b7bfe31bf9726510ace63dfd26fb364a772b", func := "verger/vergerlaw14.DagFans", spec := "dagFans", unfollowed := true, recurses := true, plainKeys := false, apart := false }
def DagFansSaid : Prop := dagFansRow.holds Try.pinned (OpenSpec.ofChange dagFansSpec)

/-- ITS FALSE NEIGHBOUR: 'it returns false'. Refute it at one input. -/
def dagFansWrong : ChangeSpec := { name := "dagFans", fn := fun _ => fun
  | [d1, d2] => { results := [.lit (.bool false)], args := [d1, d2] }
  | _ => none }
def DagFansWrongFalsely : Prop := dagFansRow.holds Try.pinned (OpenSpec.ofChange dagFansWrong)

/-- 'vergerlaw14.DagApart': WHATEVER THE INPUT: true; the input reads as it did. -/
def dagApartSpec : ChangeSpec := { name := "dagApart", fn := fun _ => fun
  | [d1, d2] => { results := [.lit (.bool true)], args := [d1, d2] }
  | _ => none }
def dagApartRow : OpenClaim := { program := "ytolihdcfhonfgaa", sum := "4d273f785944894191bd295996f4b7bfe31bf9726510ace63dfd26fb364a772b", func := "verger/vergerlaw14.DagApart", spec := "dagApart", unfollowed := true, recurses := true, plainKeys := false, apart := false }
def DagApartSaid : Prop := dagApartRow.holds Try.pinned (OpenSpec.ofChange dagApartSpec)

/-- ITS FALSE NEIGHBOUR: 'it returns false'. Refute it at one input. -/
def dagApartWrong : ChangeSpec := { name := "dagApart", fn := fun _ => fun
  | [d1, d2] => { results := [.lit (.bool false)], args := [d1, d2] }
  | _ => none }
def DagApartWrongFalsely : Prop := dagApartRow.holds Try.pinned (OpenSpec.ofChange dagApartWrong)

/-- 'vergerlaw14.DagOnce': WHATEVER THE INPUT: true; the input reads as it did. -/
def dagOnceSpec : ChangeSpec := { name := "dagOnce", fn := fun _ => fun
  | [d1, d2] => { results := [.lit (.bool true)], args := [d1, d2] }
  | _ => none }
def dagOnceRow : OpenClaim := { program := "ytolihdcfhonfgaa", sum := "4d273f785944894191bd295996f4b7bfe31bf9726510ace63dfd26fb364a772b", func := "verger/vergerlaw14.DagOnce", spec := "dagOnce", unfollowed := true, recurses := true, plainKeys := false, apart := false }
def DagOnceSaid : Prop := dagOnceRow.holds Try.pinned (OpenSpec.ofChange dagOnceSpec)

/-- ITS FALSE NEIGHBOUR: 'it returns false'. Refute it at one input. -/
def dagOnceWrong : ChangeSpec := { name := "dagOnce", fn := fun _ => fun
  | [d1, d2] => { results := [.lit (.bool false)], args := [d1, d2] }
  | _ => none }
def DagOnceWrongFalsely : Prop := dagOnceRow.holds Try.pinned (OpenSpec.ofChange dagOnceWrong)

/-- 'vergerlaw14.DagChains': WHATEVER THE INPUT: true; the input reads as it did. -/
def dagChainsSpec : ChangeSpec := { name := "dagChains", fn := fun _ => fun
  | [d1, d2] => { results := [.lit (.bool true)], args := [d1, d2] }
  | _ => none }
def dagChainsRow : OpenClaim := { program := "ytolihdcfhonfgaa", sum := "4d273f785944894191bd295996f4b7bfe31bf9726510ace63dfd26fb364a772b", func := "verger/vergerlaw14.DagChains", spec := "dagChains", unfollowed := true, recurses := true, plainKeys := false, apart := false }
def DagChainsSaid : Prop := dagChainsRow.holds Try.pinned (OpenSpec.ofChange dagChainsSpec)

/-- ITS FALSE NEIGHBOUR: 'it returns false'. Refute it at one input. -/
def dagChainsWrong : ChangeSpec := { name := "dagChains", fn := fun _ => fun
  | [d1, d2] => { results := [.lit (.bool false)], args := [d1, d2] }
  | _ => none }
def DagChainsWrongFalsely : Prop := dagChainsRow.holds Try.pinned (OpenSpec.ofChange dagChainsWrong)

/-- 'vergerlaw14.DagPlays': WHATEVER THE INPUT: true; the input reads as it did. -/
def dagPlaysSpec : ChangeSpec := { name := "dagPlays", fn := fun _ => fun
  | [d] => { results := [.lit (.bool true)], args := [d] }
  | _ => none }
def dagPlaysRow : OpenClaim := { program := "ytolihdcfhonfgaa", sum := "4d273f785944894191bd295996f4b7bfe31bf9726510ace63dfd26fb364a772b", func := "verger/vergerlaw14.DagPlays", spec := "dagPlays", unfollowed := true, recurses := true, plainKeys := false, apart := false }
def DagPlaysSaid : Prop := dagPlaysRow.holds Try.pinned (OpenSpec.ofChange dagPlaysSpec)

/-- ITS FALSE NEIGHBOUR: 'it returns false'. Refute it at one input. -/
def dagPlaysWrong : ChangeSpec := { name := "dagPlays", fn := fun _ => fun
  | [d] => { results := [.lit (.bool false)], args := [d] }
  | _ => none }
def DagPlaysWrongFalsely : Prop := dagPlaysRow.holds Try.pinned (OpenSpec.ofChange dagPlaysWrong)

/- THE SECOND FORM. 'bulk': how many values and letters a reading holds, each counted each time it is reached (what is shared counts as often as it is met; a slice's spare places count too). A statement '..UptoSaid' is the law's where the arguments, and the package variables that the reading takes, are together of bulk at most 1048576: NARROWER than '..Said'. Prove '..Said' where nothing that the law and all that it calls make is longer than what came in: it says more and counts as full. Else prove '..UptoSaid'. A law counts once. -/
mutual
def uptoBulk {H : Type} : DataW H → Nat
  | .lit (.string bytes) => bytes.length + 1
  | .lit _ => 1
  | .nil => 1
  | .ptr d => uptoBulk d + 1
  | .slice elems spare => uptoBulkAll elems + uptoBulkAll spare + 1
  | .agg parts => uptoBulkAll parts + 1
  | .iface _ d => uptoBulk d + 1
  | .map entries => uptoBulkEntries entries + 1
  | .held _ => 1
def uptoBulkAll {H : Type} : List (DataW H) → Nat
  | [] => 0
  | d :: r => uptoBulk d + uptoBulkAll r
def uptoBulkEntries {H : Type} : List (Lit × DataW H) → Nat
  | [] => 0
  | x :: r => uptoBulkEntry x + uptoBulkEntries r
def uptoBulkEntry {H : Type} : Lit × DataW H → Nat
  | (.string bytes, d) => bytes.length + uptoBulk d + 1
  | (_, d) => uptoBulk d + 1
 end
def uptoSmall : (H : Type) → List (DataW H) → Bool := fun _ ds => decide (uptoBulkAll ds ≤ 1048576)
def OpenSpec.upto (s : _root_.Go.ChangeSpec) : _root_.Go.OpenSpec := { _root_.Go.OpenSpec.ofChange s with cond := some uptoSmall }

/-- 'vergerlaw14.DagFans', WHERE WHAT IT READS IS OF BULK AT MOST 1048576: true; the input reads as it did. -/
def dagFansUptoRow : OpenClaim := { program := "ytolihdcfhonfgaa", sum := "4d273f785944894191bd295996f4b7bfe31bf9726510ace63dfd26fb364a772b", func := "verger/vergerlaw14.DagFans", spec := "dagFans", unfollowed := true, recurses := true, plainKeys := false, apart := false, narrowed := true }
def DagFansUptoSaid : Prop := dagFansUptoRow.holds Try.pinned (OpenSpec.upto dagFansSpec)

/-- 'vergerlaw14.DagApart', WHERE WHAT IT READS IS OF BULK AT MOST 1048576: true; the input reads as it did. -/
def dagApartUptoRow : OpenClaim := { program := "ytolihdcfhonfgaa", sum := "4d273f785944894191bd295996f4b7bfe31bf9726510ace63dfd26fb364a772b", func := "verger/vergerlaw14.DagApart", spec := "dagApart", unfollowed := true, recurses := true, plainKeys := false, apart := false, narrowed := true }
def DagApartUptoSaid : Prop := dagApartUptoRow.holds Try.pinned (OpenSpec.upto dagApartSpec)

/-- 'vergerlaw14.DagOnce', WHERE WHAT IT READS IS OF BULK AT MOST 1048576: true; the input reads as it did. -/
def dagOnceUptoRow : OpenClaim := { program := "ytolihdcfhonfgaa", sum := "4d273f785944894191bd295996f4b7bfe31bf9726510ace63dfd26fb364a772b", func := "verger/vergerlaw14.DagOnce", spec := "dagOnce", unfollowed := true, recurses := true, plainKeys := false, apart := false, narrowed := true }
def DagOnceUptoSaid : Prop := dagOnceUptoRow.holds Try.pinned (OpenSpec.upto dagOnceSpec)

/-- 'vergerlaw14.DagChains', WHERE WHAT IT READS IS OF BULK AT MOST 1048576: true; the input reads as it did. -/
def dagChainsUptoRow : OpenClaim := { program := "ytolihdcfhonfgaa", sum := "4d273f785944894191bd295996f4b7bfe31bf9726510ace63dfd26fb364a772b", func := "verger/vergerlaw14.DagChains", spec := "dagChains", unfollowed := true, recurses := true, plainKeys := false, apart := false, narrowed := true }
def DagChainsUptoSaid : Prop := dagChainsUptoRow.holds Try.pinned (OpenSpec.upto dagChainsSpec)

/-- 'vergerlaw14.DagPlays', WHERE WHAT IT READS IS OF BULK AT MOST 1048576: true; the input reads as it did. -/
def dagPlaysUptoRow : OpenClaim := { program := "ytolihdcfhonfgaa", sum := "4d273f785944894191bd295996f4b7bfe31bf9726510ace63dfd26fb364a772b", func := "verger/vergerlaw14.DagPlays", spec := "dagPlays", unfollowed := true, recurses := true, plainKeys := false, apart := false, narrowed := true }
def DagPlaysUptoSaid : Prop := dagPlaysUptoRow.holds Try.pinned (OpenSpec.upto dagPlaysSpec)

end Rows
end Go.Proofs.Ytolihdcfhonfgaa
