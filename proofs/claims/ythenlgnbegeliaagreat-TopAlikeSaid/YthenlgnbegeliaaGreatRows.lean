/-
  No cell of these rows narrows 'for every input' (looked for: loops, veiled, ifaces, maps, wideKeys, modest, calm, conditions, laid).
  DERIVED. THE GIVEN ROWS OF THIS SEAT. 5 by the template 'for every input the law returns true; each argument reads behind the call as it read before'; 0 by the template 'total and deterministic' (their statements: YthenlgnbegeliaaGreatTotals.lean).
  GIVEN WITH THE SEED: the statements are not yours to turn. If you find one false, say at which input.
  Laid BY PROGRAM, IN A SANDBOX (cutbox-rows.mjs): the forced cells as the released guide's own fill.sh prints them over the translation 7fcd53df33e18165… (all of the seat's roots in one cut). By AI agents, Wed Nov 11 2026. No macro, syntax, notation, axiom, sorry.
-/
import Derived.Test.YthenlgnbegeliaaGreatChecked
import GoSem.Claim
import GoSem.ClaimJoined
import GoSem.ClaimMapViews
import Derived.JoinedTies
import Derived.KernelRfl
namespace Go.Proofs.YthenlgnbegeliaaGreat
/- THE CELL 'sum', in the pinned program and in every row, IS THE sha256 OF THE DUMP (.gsa) THAT YthenlgnbegeliaaGreatProg.lean LOADS. Nothing in Lean hashes anything: it is a label: what it is worth is what the hold of that sum in a sandbox is worth. -/
noncomputable def Tryz.pinned : Pinned := { name := "ythenlgnbegeliaagreat", sum := "7fcd53df33e181652c8ca4d34e7cfa618263a7304951f66332d09bf9bdd56de5", checked := Tryz.checked }
namespace Rows
def none {H : Type} : Left H := { results := [], args := [] }

/-- 'backstitchtop.TopStreams': WHATEVER THE INPUT: true; the input reads as it did. -/
def topStreamsSpec : ChangeSpec := { name := "topStreams", fn := fun _ => fun
  | [d1, d2, d3] => { results := [.lit (.bool true)], args := [d1, d2, d3] }
  | _ => none }
def topStreamsRow : OpenClaim := { program := "ythenlgnbegeliaagreat", sum := "7fcd53df33e181652c8ca4d34e7cfa618263a7304951f66332d09bf9bdd56de5", func := "backstitch/backstitchtop.TopStreams", spec := "topStreams", unfollowed := true, recurses := true, named := ["math/bits.divideError", "math/bits.overflowError"], plainKeys := false, apart := false }
def TopStreamsSaid : Prop := topStreamsRow.holds Tryz.pinned (OpenSpec.ofChange topStreamsSpec)

/-- ITS FALSE NEIGHBOUR: 'it returns false'. Refute it at one input. -/
def topStreamsWrong : ChangeSpec := { name := "topStreams", fn := fun _ => fun
  | [d1, d2, d3] => { results := [.lit (.bool false)], args := [d1, d2, d3] }
  | _ => none }
def TopStreamsWrongFalsely : Prop := topStreamsRow.holds Tryz.pinned (OpenSpec.ofChange topStreamsWrong)

/-- 'backstitchtop.TopLeast': WHATEVER THE INPUT: true; the input reads as it did. -/
def topLeastSpec : ChangeSpec := { name := "topLeast", fn := fun _ => fun
  | [d1, d2] => { results := [.lit (.bool true)], args := [d1, d2] }
  | _ => none }
def topLeastRow : OpenClaim := { program := "ythenlgnbegeliaagreat", sum := "7fcd53df33e181652c8ca4d34e7cfa618263a7304951f66332d09bf9bdd56de5", func := "backstitch/backstitchtop.TopLeast", spec := "topLeast", unfollowed := true, recurses := true, named := ["math/bits.divideError", "math/bits.overflowError"], plainKeys := false, apart := false }
def TopLeastSaid : Prop := topLeastRow.holds Tryz.pinned (OpenSpec.ofChange topLeastSpec)

/-- ITS FALSE NEIGHBOUR: 'it returns false'. Refute it at one input. -/
def topLeastWrong : ChangeSpec := { name := "topLeast", fn := fun _ => fun
  | [d1, d2] => { results := [.lit (.bool false)], args := [d1, d2] }
  | _ => none }
def TopLeastWrongFalsely : Prop := topLeastRow.holds Tryz.pinned (OpenSpec.ofChange topLeastWrong)

/-- 'backstitchtop.TopAlike': WHATEVER THE INPUT: true; the input reads as it did. -/
def topAlikeSpec : ChangeSpec := { name := "topAlike", fn := fun _ => fun
  | [d1, d2, d3] => { results := [.lit (.bool true)], args := [d1, d2, d3] }
  | _ => none }
def topAlikeRow : OpenClaim := { program := "ythenlgnbegeliaagreat", sum := "7fcd53df33e181652c8ca4d34e7cfa618263a7304951f66332d09bf9bdd56de5", func := "backstitch/backstitchtop.TopAlike", spec := "topAlike", unfollowed := true, recurses := true, named := ["math/bits.divideError", "math/bits.overflowError"], plainKeys := false, apart := false }
def TopAlikeSaid : Prop := topAlikeRow.holds Tryz.pinned (OpenSpec.ofChange topAlikeSpec)

/-- ITS FALSE NEIGHBOUR: 'it returns false'. Refute it at one input. -/
def topAlikeWrong : ChangeSpec := { name := "topAlike", fn := fun _ => fun
  | [d1, d2, d3] => { results := [.lit (.bool false)], args := [d1, d2, d3] }
  | _ => none }
def TopAlikeWrongFalsely : Prop := topAlikeRow.holds Tryz.pinned (OpenSpec.ofChange topAlikeWrong)

/-- 'backstitchtop.TopEngines': WHATEVER THE INPUT: true; the input reads as it did. -/
def topEnginesSpec : ChangeSpec := { name := "topEngines", fn := fun _ => fun
  | [d1, d2, d3] => { results := [.lit (.bool true)], args := [d1, d2, d3] }
  | _ => none }
def topEnginesRow : OpenClaim := { program := "ythenlgnbegeliaagreat", sum := "7fcd53df33e181652c8ca4d34e7cfa618263a7304951f66332d09bf9bdd56de5", func := "backstitch/backstitchtop.TopEngines", spec := "topEngines", unfollowed := true, recurses := true, named := ["math/bits.divideError", "math/bits.overflowError"], plainKeys := false, apart := false }
def TopEnginesSaid : Prop := topEnginesRow.holds Tryz.pinned (OpenSpec.ofChange topEnginesSpec)

/-- ITS FALSE NEIGHBOUR: 'it returns false'. Refute it at one input. -/
def topEnginesWrong : ChangeSpec := { name := "topEngines", fn := fun _ => fun
  | [d1, d2, d3] => { results := [.lit (.bool false)], args := [d1, d2, d3] }
  | _ => none }
def TopEnginesWrongFalsely : Prop := topEnginesRow.holds Tryz.pinned (OpenSpec.ofChange topEnginesWrong)

/-- 'backstitchtop.TopFormals': WHATEVER THE INPUT: true; the input reads as it did. -/
def topFormalsSpec : ChangeSpec := { name := "topFormals", fn := fun _ => fun
  | [d1, d2] => { results := [.lit (.bool true)], args := [d1, d2] }
  | _ => none }
def topFormalsRow : OpenClaim := { program := "ythenlgnbegeliaagreat", sum := "7fcd53df33e181652c8ca4d34e7cfa618263a7304951f66332d09bf9bdd56de5", func := "backstitch/backstitchtop.TopFormals", spec := "topFormals", unfollowed := true, recurses := true, named := ["math/bits.divideError", "math/bits.overflowError"], plainKeys := false, apart := false }
def TopFormalsSaid : Prop := topFormalsRow.holds Tryz.pinned (OpenSpec.ofChange topFormalsSpec)

/-- ITS FALSE NEIGHBOUR: 'it returns false'. Refute it at one input. -/
def topFormalsWrong : ChangeSpec := { name := "topFormals", fn := fun _ => fun
  | [d1, d2] => { results := [.lit (.bool false)], args := [d1, d2] }
  | _ => none }
def TopFormalsWrongFalsely : Prop := topFormalsRow.holds Tryz.pinned (OpenSpec.ofChange topFormalsWrong)

/- THE SECOND FORM. 'bulk': how many values and letters a reading holds, each counted each time it is reached (what is shared counts as often as it is met; a slice's spare places count too). A statement '..UptoSaid' is the law's where the arguments, and the package variables that the reading takes, are together of bulk at most 1048576: NARROWER than '..Said'. Prove '..Said' where nothing that the law and all that it calls make is longer than what came in: it says more and counts as full. Else prove '..UptoSaid'. A law counts once. -/
mutual
def uptoBulk {H : Type} : DataW H → Nat
  | .lit (.string bytes) => bytes.length + 1
  | .lit _ => 1
  | .nil => 1
  | .ptr d => uptoBulk d + 1
  | .slice elems spare => uptoBulkAll elems + uptoBulkAll spare + 1
  | .agg parts => uptoBulkAll parts + 1
  | .iface _ d => uptoBulk d + 1
  | .map entries => uptoBulkEntries entries + 1
  | .held _ => 1
def uptoBulkAll {H : Type} : List (DataW H) → Nat
  | [] => 0
  | d :: r => uptoBulk d + uptoBulkAll r
def uptoBulkEntries {H : Type} : List (Lit × DataW H) → Nat
  | [] => 0
  | x :: r => uptoBulkEntry x + uptoBulkEntries r
def uptoBulkEntry {H : Type} : Lit × DataW H → Nat
  | (.string bytes, d) => bytes.length + uptoBulk d + 1
  | (_, d) => uptoBulk d + 1
 end
def uptoSmall : (H : Type) → List (DataW H) → Bool := fun _ ds => decide (uptoBulkAll ds ≤ 1048576)
def OpenSpec.upto (s : _root_.Go.ChangeSpec) : _root_.Go.OpenSpec := { _root_.Go.OpenSpec.ofChange s with cond := some uptoSmall }

/-- 'backstitchtop.TopStreams', WHERE WHAT IT READS IS OF BULK AT MOST 1048576: true; the input reads as it did. -/
def topStreamsUptoRow : OpenClaim := { program := "ythenlgnbegeliaagreat", sum := "7fcd53df33e181652c8ca4d34e7cfa618263a7304951f66332d09bf9bdd56de5", func := "backstitch/backstitchtop.TopStreams", spec := "topStreams", unfollowed := true, recurses := true, named := ["math/bits.divideError", "math/bits.overflowError"], plainKeys := false, apart := false, narrowed := true }
def TopStreamsUptoSaid : Prop := topStreamsUptoRow.holds Tryz.pinned (OpenSpec.upto topStreamsSpec)

/-- 'backstitchtop.TopLeast', WHERE WHAT IT READS IS OF BULK AT MOST 1048576: true; the input reads as it did. -/
def topLeastUptoRow : OpenClaim := { program := "ythenlgnbegeliaagreat", sum := "7fcd53df33e181652c8ca4d34e7cfa618263a7304951f66332d09bf9bdd56de5", func := "backstitch/backstitchtop.TopLeast", spec := "topLeast", unfollowed := true, recurses := true, named := ["math/bits.divideError", "math/bits.overflowError"], plainKeys := false, apart := false, narrowed := true }
def TopLeastUptoSaid : Prop := topLeastUptoRow.holds Tryz.pinned (OpenSpec.upto topLeastSpec)

/-- 'backstitchtop.TopAlike', WHERE WHAT IT READS IS OF BULK AT MOST 1048576: true; the input reads as it did. -/
def topAlikeUptoRow : OpenClaim := { program := "ythenlgnbegeliaagreat", sum := "7fcd53df33e181652c8ca4d34e7cfa618263a7304951f66332d09bf9bdd56de5", func := "backstitch/backstitchtop.TopAlike", spec := "topAlike", unfollowed := true, recurses := true, named := ["math/bits.divideError", "math/bits.overflowError"], plainKeys := false, apart := false, narrowed := true }
def TopAlikeUptoSaid : Prop := topAlikeUptoRow.holds Tryz.pinned (OpenSpec.upto topAlikeSpec)

/-- 'backstitchtop.TopEngines', WHERE WHAT IT READS IS OF BULK AT MOST 1048576: true; the input reads as it did. -/
def topEnginesUptoRow : OpenClaim := { program := "ythenlgnbegeliaagreat", sum := "7fcd53df33e181652c8ca4d34e7cfa618263a7304951f66332d09bf9bdd56de5", func := "backstitch/backstitchtop.TopEngines", spec := "topEngines", unfollowed := true, recurses := true, named := ["math/bits.divideError", "math/bits.overflowError"], plainKeys := false, apart := false, narrowed := true }
def TopEnginesUptoSaid : Prop := topEnginesUptoRow.holds Tryz.pinned (OpenSpec.upto topEnginesSpec)

/-- 'backstitchtop.TopFormals', WHERE WHAT IT READS IS OF BULK AT MOST 1048576: true; the input reads as it did. -/
def topFormalsUptoRow : OpenClaim := { program := "ythenlgnbegeliaagreat", sum := "7fcd53df33e181652c8ca4d34e7cfa618263a7304951f66332d09bf9bdd56de5", func := "backstitch/backstitchtop.TopFormals", spec := "topFormals", unfollowed := true, recurses := true, named := ["math/bits.divideError", "math/bits.overflowError"], plainKeys := false, apart := false, narrowed := true }
def TopFormalsUptoSaid : Prop := topFormalsUptoRow.holds Tryz.pinned (OpenSpec.upto topFormalsSpec)

end Rows
end Go.Proofs.YthenlgnbegeliaaGreat
