/-
  No cell of these rows narrows 'for every input' (looked for: loops, veiled, ifaces, maps, wideKeys, modest, calm, conditions, laid).
  DERIVED. THE GIVEN ROWS OF THIS SEAT. 4 by the template 'for every input the law returns true; each argument reads behind the call as it read before'; 0 by the template 'total and deterministic' (their statements: YtijnojaneheaeaaTotals.lean).
  GIVEN WITH THE SEED: the statements are not yours to turn. If you find one false, say at which input.
  Laid BY PROGRAM, IN A SANDBOX (cutbox-rows.mjs): the forced cells as the released guide's own fill.sh prints them over the translation d8fe4b8e82290dc0… (all of the seat's roots in one cut). By AI agents, Wed Nov 11 2026. No macro, syntax, notation, axiom, sorry.
-/
import Derived.Test.YtijnojaneheaeaaChecked
import GoSem.Claim
import GoSem.ClaimJoined
import GoSem.ClaimMapViews
import Derived.JoinedTies
import Derived.KernelRfl
namespace Go.Proofs.Ytijnojaneheaeaa
/- THE CELL 'sum', in the pinned program and in every row, IS THE sha256 OF THE DUMP (.gsa) THAT YtijnojaneheaeaaProg.lean LOADS. Nothing in Lean hashes anything: it is a label: what it is worth is what the hold of that sum in a sandbox is worth. -/
noncomputable def Try.pinned : Pinned := { name := "ytijnojaneheaeaa", sum := "d8fe4b8e82290dc0c65c648be5341389c51a19d90c550a8f4a64ec5df3f04bf4", checked := Try.checked }
namespace Rows
def none {H : Type} : Left H := { results := [], args := [] }

/-- 'quotalaw16.PointsNames': WHATEVER THE INPUT: true; the input reads as it did. -/
def pointsNamesSpec : ChangeSpec := { name := "pointsNames", fn := fun _ => fun
  | [] => { results := [.lit (.bool true)], args := [] }
  | _ => none }
def pointsNamesRow : OpenClaim := { program := "ytijnojaneheaeaa", sum := "d8fe4b8e82290dc0c65c648be5341389c51a19d90c550a8f4a64ec5df3f04bf4", func := "quota/quotalaw16.PointsNames", spec := "pointsNames", unfollowed := true, recurses := true, apart := false }
def PointsNamesSaid : Prop := pointsNamesRow.holds Try.pinned (OpenSpec.ofChange pointsNamesSpec)

/-- ITS FALSE NEIGHBOUR: 'it returns false'. Refute it at one input. -/
def pointsNamesWrong : ChangeSpec := { name := "pointsNames", fn := fun _ => fun
  | [] => { results := [.lit (.bool false)], args := [] }
  | _ => none }
def PointsNamesWrongFalsely : Prop := pointsNamesRow.holds Try.pinned (OpenSpec.ofChange pointsNamesWrong)

/-- 'quotalaw16.PointsExact': WHATEVER THE INPUT: true; the input reads as it did. -/
def pointsExactSpec : ChangeSpec := { name := "pointsExact", fn := fun _ => fun
  | [d1, d2, d3] => { results := [.lit (.bool true)], args := [d1, d2, d3] }
  | _ => none }
def pointsExactRow : OpenClaim := { program := "ytijnojaneheaeaa", sum := "d8fe4b8e82290dc0c65c648be5341389c51a19d90c550a8f4a64ec5df3f04bf4", func := "quota/quotalaw16.PointsExact", spec := "pointsExact", unfollowed := true, recurses := true, apart := false }
def PointsExactSaid : Prop := pointsExactRow.holds Try.pinned (OpenSpec.ofChange pointsExactSpec)

/-- ITS FALSE NEIGHBOUR: 'it returns false'. Refute it at one input. -/
def pointsExactWrong : ChangeSpec := { name := "pointsExact", fn := fun _ => fun
  | [d1, d2, d3] => { results := [.lit (.bool false)], args := [d1, d2, d3] }
  | _ => none }
def PointsExactWrongFalsely : Prop := pointsExactRow.holds Try.pinned (OpenSpec.ofChange pointsExactWrong)

/-- 'quotalaw16.PointsMerge': WHATEVER THE INPUT: true; the input reads as it did. -/
def pointsMergeSpec : ChangeSpec := { name := "pointsMerge", fn := fun _ => fun
  | [d1, d2, d3] => { results := [.lit (.bool true)], args := [d1, d2, d3] }
  | _ => none }
def pointsMergeRow : OpenClaim := { program := "ytijnojaneheaeaa", sum := "d8fe4b8e82290dc0c65c648be5341389c51a19d90c550a8f4a64ec5df3f04bf4", func := "quota/quotalaw16.PointsMerge", spec := "pointsMerge", unfollowed := true, recurses := true, apart := false }
def PointsMergeSaid : Prop := pointsMergeRow.holds Try.pinned (OpenSpec.ofChange pointsMergeSpec)

/-- ITS FALSE NEIGHBOUR: 'it returns false'. Refute it at one input. -/
def pointsMergeWrong : ChangeSpec := { name := "pointsMerge", fn := fun _ => fun
  | [d1, d2, d3] => { results := [.lit (.bool false)], args := [d1, d2, d3] }
  | _ => none }
def PointsMergeWrongFalsely : Prop := pointsMergeRow.holds Try.pinned (OpenSpec.ofChange pointsMergeWrong)

/-- 'quotalaw16.PointsNewMemory': WHATEVER THE INPUT: true; the input reads as it did. -/
def pointsNewMemorySpec : ChangeSpec := { name := "pointsNewMemory", fn := fun _ => fun
  | [d1, d2] => { results := [.lit (.bool true)], args := [d1, d2] }
  | _ => none }
def pointsNewMemoryRow : OpenClaim := { program := "ytijnojaneheaeaa", sum := "d8fe4b8e82290dc0c65c648be5341389c51a19d90c550a8f4a64ec5df3f04bf4", func := "quota/quotalaw16.PointsNewMemory", spec := "pointsNewMemory", unfollowed := true, recurses := true, apart := false }
def PointsNewMemorySaid : Prop := pointsNewMemoryRow.holds Try.pinned (OpenSpec.ofChange pointsNewMemorySpec)

/-- ITS FALSE NEIGHBOUR: 'it returns false'. Refute it at one input. -/
def pointsNewMemoryWrong : ChangeSpec := { name := "pointsNewMemory", fn := fun _ => fun
  | [d1, d2] => { results := [.lit (.bool false)], args := [d1, d2] }
  | _ => none }
def PointsNewMemoryWrongFalsely : Prop := pointsNewMemoryRow.holds Try.pinned (OpenSpec.ofChange pointsNewMemoryWrong)

/- THE SECOND FORM. 'bulk': how many values and letters a reading holds, each counted each time it is reached (what is shared counts as often as it is met; a slice's spare places count too). A statement '..UptoSaid' is the law's where the arguments, and the package variables that the reading takes, are together of bulk at most 1048576: NARROWER than '..Said'. Prove '..Said' where nothing that the law and all that it calls make is longer than what came in: it says more and counts as full. Else prove '..UptoSaid'. A law counts once. -/
mutual
def uptoBulk {H : Type} : DataW H → Nat
  | .lit (.string bytes) => bytes.length + 1
  | .lit _ => 1
  | .nil => 1
  | .ptr d => uptoBulk d + 1
  | .slice elems spare => uptoBulkAll elems + uptoBulkAll spare + 1
  | .agg parts => uptoBulkAll parts + 1
  | .iface _ d => uptoBulk d + 1
  | .map entries => uptoBulkEntries entries + 1
  | .held _ => 1
def uptoBulkAll {H : Type} : List (DataW H) → Nat
  | [] => 0
  | d :: r => uptoBulk d + uptoBulkAll r
def uptoBulkEntries {H : Type} : List (Lit × DataW H) → Nat
  | [] => 0
  | x :: r => uptoBulkEntry x + uptoBulkEntries r
def uptoBulkEntry {H : Type} : Lit × DataW H → Nat
  | (.string bytes, d) => bytes.length + uptoBulk d + 1
  | (_, d) => uptoBulk d + 1
 end
def uptoSmall : (H : Type) → List (DataW H) → Bool := fun _ ds => decide (uptoBulkAll ds ≤ 1048576)
def OpenSpec.upto (s : _root_.Go.ChangeSpec) : _root_.Go.OpenSpec := { _root_.Go.OpenSpec.ofChange s with cond := some uptoSmall }

/-- 'quotalaw16.PointsNames', WHERE WHAT IT READS IS OF BULK AT MOST 1048576: true; the input reads as it did. -/
def pointsNamesUptoRow : OpenClaim := { program := "ytijnojaneheaeaa", sum := "d8fe4b8e82290dc0c65c648be5341389c51a19d90c550a8f4a64ec5df3f04bf4", func := "quota/quotalaw16.PointsNames", spec := "pointsNames", unfollowed := true, recurses := true, apart := false, narrowed := true }
def PointsNamesUptoSaid : Prop := pointsNamesUptoRow.holds Try.pinned (OpenSpec.upto pointsNamesSpec)

/-- 'quotalaw16.PointsExact', WHERE WHAT IT READS IS OF BULK AT MOST 1048576: true; the input reads as it did. -/
def pointsExactUptoRow : OpenClaim := { program := "ytijnojaneheaeaa", sum := "d8fe4b8e82290dc0c65c648be5341389c51a19d90c550a8f4a64ec5df3f04bf4", func := "quota/quotalaw16.PointsExact", spec := "pointsExact", unfollowed := true, recurses := true, apart := false, narrowed := true }
def PointsExactUptoSaid : Prop := pointsExactUptoRow.holds Try.pinned (OpenSpec.upto pointsExactSpec)

/-- 'quotalaw16.PointsMerge', WHERE WHAT IT READS IS OF BULK AT MOST 1048576: true; the input reads as it did. -/
def pointsMergeUptoRow : OpenClaim := { program := "ytijnojaneheaeaa", sum := "d8fe4b8e82290dc0c65c648be5341389c51a19d90c550a8f4a64ec5df3f04bf4", func := "quota/quotalaw16.PointsMerge", spec := "pointsMerge", unfollowed := true, recurses := true, apart := false, narrowed := true }
def PointsMergeUptoSaid : Prop := pointsMergeUptoRow.holds Try.pinned (OpenSpec.upto pointsMergeSpec)

/-- 'quotalaw16.PointsNewMemory', WHERE WHAT IT READS IS OF BULK AT MOST 1048576: true; the input reads as it did. -/
def pointsNewMemoryUptoRow : OpenClaim := { program := "ytijnojaneheaeaa", sum := "d8fe4b8e82290dc0c65c648be5341389c51a19d90c550a8f4a64ec5df3f04bf4", func := "quota/quotalaw16.PointsNewMemory", spec := "pointsNewMemory", unfollowed := true, recurses := true, apart := false, narrowed := true }
def PointsNewMemoryUptoSaid : Prop := pointsNewMemoryUptoRow.holds Try.pinned (OpenSpec.upto pointsNewMemorySpec)

end Rows
end Go.Proofs.Ytijnojaneheaeaa
