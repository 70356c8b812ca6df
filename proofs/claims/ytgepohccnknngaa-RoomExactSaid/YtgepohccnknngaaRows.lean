/-
  No cell of these rows narrows 'for every input' (looked for: loops, veiled, ifaces, maps, wideKeys, modest, calm, conditions, laid).
  DERIVED. THE GIVEN ROWS OF THIS SEAT. 6 by the template 'for every input the law returns true; each argument reads behind the call as it read before'; 0 by the template 'total and deterministic' (their statements: YtgepohccnknngaaTotals.lean).
  GIVEN WITH THE SEED: the statements are not yours to turn. If you find one false, say at which input.
  Laid BY PROGRAM, IN A SANDBOX (cutbox-rows.mjs): the forced cells as the released guide's own fill.sh prints them over the translation 1ed91eb5525c5ea9… (all of the seat's roots in one cut). By AI agents, Wed Nov 11 2026. No macro, syntax, notation, axiom, sorry.
-/
import Derived.Test.YtgepohccnknngaaChecked
import GoSem.Claim
import GoSem.ClaimJoined
import GoSem.ClaimMapViews
import Derived.JoinedTies
import Derived.KernelRfl
namespace Go.Proofs.Ytgepohccnknngaa
/- THE CELL 'sum', in the pinned program and in every row, IS THE sha256 OF THE DUMP (.gsa) THAT YtgepohccnknngaaProg.lean LOADS. Nothing in Lean hashes anything: it is a label: what it is worth is what the hold of that sum in a sandbox is worth. -/
noncomputable def Try.pinned : Pinned := { name := "ytgepohccnknngaa", sum := "1ed91eb5525c5ea98a2072c0dfa6ad1bdf3090f683525142796e326afe544860", checked := Try.checked }
namespace Rows
def none {H : Type} : Left H := { results := [], args := [] }

/-- 'quotalaw15.RoomNames': WHATEVER THE INPUT: true; the input reads as it did. -/
def roomNamesSpec : ChangeSpec := { name := "roomNames", fn := fun _ => fun
  | [] => { results := [.lit (.bool true)], args := [] }
  | _ => none }
def roomNamesRow : OpenClaim := { program := "ytgepohccnknngaa", sum := "1ed91eb5525c5ea98a2072c0dfa6ad1bdf3090f683525142796e326afe544860", func := "quota/quotalaw15.RoomNames", spec := "roomNames", apart := false }
def RoomNamesSaid : Prop := roomNamesRow.holds Try.pinned (OpenSpec.ofChange roomNamesSpec)

/-- ITS FALSE NEIGHBOUR: 'it returns false'. Refute it at one input. -/
def roomNamesWrong : ChangeSpec := { name := "roomNames", fn := fun _ => fun
  | [] => { results := [.lit (.bool false)], args := [] }
  | _ => none }
def RoomNamesWrongFalsely : Prop := roomNamesRow.holds Try.pinned (OpenSpec.ofChange roomNamesWrong)

/-- 'quotalaw15.RoomExact': WHATEVER THE INPUT: true; the input reads as it did. -/
def roomExactSpec : ChangeSpec := { name := "roomExact", fn := fun _ => fun
  | [d] => { results := [.lit (.bool true)], args := [d] }
  | _ => none }
def roomExactRow : OpenClaim := { program := "ytgepohccnknngaa", sum := "1ed91eb5525c5ea98a2072c0dfa6ad1bdf3090f683525142796e326afe544860", func := "quota/quotalaw15.RoomExact", spec := "roomExact", apart := false }
def RoomExactSaid : Prop := roomExactRow.holds Try.pinned (OpenSpec.ofChange roomExactSpec)

/-- ITS FALSE NEIGHBOUR: 'it returns false'. Refute it at one input. -/
def roomExactWrong : ChangeSpec := { name := "roomExact", fn := fun _ => fun
  | [d] => { results := [.lit (.bool false)], args := [d] }
  | _ => none }
def RoomExactWrongFalsely : Prop := roomExactRow.holds Try.pinned (OpenSpec.ofChange roomExactWrong)

/-- 'quotalaw15.RoomSuffices': WHATEVER THE INPUT: true; the input reads as it did. -/
def roomSufficesSpec : ChangeSpec := { name := "roomSuffices", fn := fun _ => fun
  | [d1, d2] => { results := [.lit (.bool true)], args := [d1, d2] }
  | _ => none }
def roomSufficesRow : OpenClaim := { program := "ytgepohccnknngaa", sum := "1ed91eb5525c5ea98a2072c0dfa6ad1bdf3090f683525142796e326afe544860", func := "quota/quotalaw15.RoomSuffices", spec := "roomSuffices", apart := false }
def RoomSufficesSaid : Prop := roomSufficesRow.holds Try.pinned (OpenSpec.ofChange roomSufficesSpec)

/-- ITS FALSE NEIGHBOUR: 'it returns false'. Refute it at one input. -/
def roomSufficesWrong : ChangeSpec := { name := "roomSuffices", fn := fun _ => fun
  | [d1, d2] => { results := [.lit (.bool false)], args := [d1, d2] }
  | _ => none }
def RoomSufficesWrongFalsely : Prop := roomSufficesRow.holds Try.pinned (OpenSpec.ofChange roomSufficesWrong)

/-- 'quotalaw15.RoomLeast': WHATEVER THE INPUT: true; the input reads as it did. -/
def roomLeastSpec : ChangeSpec := { name := "roomLeast", fn := fun _ => fun
  | [d] => { results := [.lit (.bool true)], args := [d] }
  | _ => none }
def roomLeastRow : OpenClaim := { program := "ytgepohccnknngaa", sum := "1ed91eb5525c5ea98a2072c0dfa6ad1bdf3090f683525142796e326afe544860", func := "quota/quotalaw15.RoomLeast", spec := "roomLeast", apart := false }
def RoomLeastSaid : Prop := roomLeastRow.holds Try.pinned (OpenSpec.ofChange roomLeastSpec)

/-- ITS FALSE NEIGHBOUR: 'it returns false'. Refute it at one input. -/
def roomLeastWrong : ChangeSpec := { name := "roomLeast", fn := fun _ => fun
  | [d] => { results := [.lit (.bool false)], args := [d] }
  | _ => none }
def RoomLeastWrongFalsely : Prop := roomLeastRow.holds Try.pinned (OpenSpec.ofChange roomLeastWrong)

/-- 'quotalaw15.RoomMay': WHATEVER THE INPUT: true; the input reads as it did. -/
def roomMaySpec : ChangeSpec := { name := "roomMay", fn := fun _ => fun
  | [d1, d2, d3, d4] => { results := [.lit (.bool true)], args := [d1, d2, d3, d4] }
  | _ => none }
def roomMayRow : OpenClaim := { program := "ytgepohccnknngaa", sum := "1ed91eb5525c5ea98a2072c0dfa6ad1bdf3090f683525142796e326afe544860", func := "quota/quotalaw15.RoomMay", spec := "roomMay", apart := false }
def RoomMaySaid : Prop := roomMayRow.holds Try.pinned (OpenSpec.ofChange roomMaySpec)

/-- ITS FALSE NEIGHBOUR: 'it returns false'. Refute it at one input. -/
def roomMayWrong : ChangeSpec := { name := "roomMay", fn := fun _ => fun
  | [d1, d2, d3, d4] => { results := [.lit (.bool false)], args := [d1, d2, d3, d4] }
  | _ => none }
def RoomMayWrongFalsely : Prop := roomMayRow.holds Try.pinned (OpenSpec.ofChange roomMayWrong)

/-- 'quotalaw15.RoomSteady': WHATEVER THE INPUT: true; the input reads as it did. -/
def roomSteadySpec : ChangeSpec := { name := "roomSteady", fn := fun _ => fun
  | [d1, d2] => { results := [.lit (.bool true)], args := [d1, d2] }
  | _ => none }
def roomSteadyRow : OpenClaim := { program := "ytgepohccnknngaa", sum := "1ed91eb5525c5ea98a2072c0dfa6ad1bdf3090f683525142796e326afe544860", func := "quota/quotalaw15.RoomSteady", spec := "roomSteady", apart := false }
def RoomSteadySaid : Prop := roomSteadyRow.holds Try.pinned (OpenSpec.ofChange roomSteadySpec)

/-- ITS FALSE NEIGHBOUR: 'it returns false'. Refute it at one input. -/
def roomSteadyWrong : ChangeSpec := { name := "roomSteady", fn := fun _ => fun
  | [d1, d2] => { results := [.lit (.bool false)], args := [d1, d2] }
  | _ => none }
def RoomSteadyWrongFalsely : Prop := roomSteadyRow.holds Try.pinned (OpenSpec.ofChange roomSteadyWrong)

/- THE SECOND FORM. 'bulk': how many values and letters a reading holds, each counted each time it is reached (what is shared counts as often as it is met; a slice's spare places count too). A statement '..UptoSaid' is the law's where the arguments, and the package variables that the reading takes, are together of bulk at most 1048576: NARROWER than '..Said'. Prove '..Said' where nothing that the law and all that it calls make is longer than what came in: it says more and counts as full. Else prove '..UptoSaid'. A law counts once. -/
mutual
def uptoBulk {H : Type} : DataW H → Nat
  | .lit (.string bytes) => bytes.length + 1
  | .lit _ => 1
  | .nil => 1
  | .ptr d => uptoBulk d + 1
  | .slice elems spare => uptoBulkAll elems + uptoBulkAll spare + 1
  | .agg parts => uptoBulkAll parts + 1
  | .iface _ d => uptoBulk d + 1
  | .map entries => uptoBulkEntries entries + 1
  | .held _ => 1
def uptoBulkAll {H : Type} : List (DataW H) → Nat
  | [] => 0
  | d :: r => uptoBulk d + uptoBulkAll r
def uptoBulkEntries {H : Type} : List (Lit × DataW H) → Nat
  | [] => 0
  | x :: r => uptoBulkEntry x + uptoBulkEntries r
def uptoBulkEntry {H : Type} : Lit × DataW H → Nat
  | (.string bytes, d) => bytes.length + uptoBulk d + 1
  | (_, d) => uptoBulk d + 1
 end
def uptoSmall : (H : Type) → List (DataW H) → Bool := fun _ ds => decide (uptoBulkAll ds ≤ 1048576)
def OpenSpec.upto (s : _root_.Go.ChangeSpec) : _root_.Go.OpenSpec := { _root_.Go.OpenSpec.ofChange s with cond := some uptoSmall }

/-- 'quotalaw15.RoomNames', WHERE WHAT IT READS IS OF BULK AT MOST 1048576: true; the input reads as it did. -/
def roomNamesUptoRow : OpenClaim := { program := "ytgepohccnknngaa", sum := "1ed91eb5525c5ea98a2072c0dfa6ad1bdf3090f683525142796e326afe544860", func := "quota/quotalaw15.RoomNames", spec := "roomNames", apart := false, narrowed := true }
def RoomNamesUptoSaid : Prop := roomNamesUptoRow.holds Try.pinned (OpenSpec.upto roomNamesSpec)

/-- 'quotalaw15.RoomExact', WHERE WHAT IT READS IS OF BULK AT MOST 1048576: true; the input reads as it did. -/
def roomExactUptoRow : OpenClaim := { program := "ytgepohccnknngaa", sum := "1ed91eb5525c5ea98a2072c0dfa6ad1bdf3090f683525142796e326afe544860", func := "quota/quotalaw15.RoomExact", spec := "roomExact", apart := false, narrowed := true }
def RoomExactUptoSaid : Prop := roomExactUptoRow.holds Try.pinned (OpenSpec.upto roomExactSpec)

/-- 'quotalaw15.RoomSuffices', WHERE WHAT IT READS IS OF BULK AT MOST 1048576: true; the input reads as it did. -/
def roomSufficesUptoRow : OpenClaim := { program := "ytgepohccnknngaa", sum := "1ed91eb5525c5ea98a2072c0dfa6ad1bdf3090f683525142796e326afe544860", func := "quota/quotalaw15.RoomSuffices", spec := "roomSuffices", apart := false, narrowed := true }
def RoomSufficesUptoSaid : Prop := roomSufficesUptoRow.holds Try.pinned (OpenSpec.upto roomSufficesSpec)

/-- 'quotalaw15.RoomLeast', WHERE WHAT IT READS IS OF BULK AT MOST 1048576: true; the input reads as it did. -/
def roomLeastUptoRow : OpenClaim := { program := "ytgepohccnknngaa", sum := "1ed91eb5525c5ea98a2072c0dfa6ad1bdf3090f683525142796e326afe544860", func := "quota/quotalaw15.RoomLeast", spec := "roomLeast", apart := false, narrowed := true }
def RoomLeastUptoSaid : Prop := roomLeastUptoRow.holds Try.pinned (OpenSpec.upto roomLeastSpec)

/-- 'quotalaw15.RoomMay', WHERE WHAT IT READS IS OF BULK AT MOST 1048576: true; the input reads as it did. -/
def roomMayUptoRow : OpenClaim := { program := "ytgepohccnknngaa", sum := "1ed91eb5525c5ea98a2072c0dfa6ad1bdf3090f683525142796e326afe544860", func := "quota/quotalaw15.RoomMay", spec := "roomMay", apart := false, narrowed := true }
def RoomMayUptoSaid : Prop := roomMayUptoRow.holds Try.pinned (OpenSpec.upto roomMaySpec)

/-- 'quotalaw15.RoomSteady', WHERE WHAT IT READS IS OF BULK AT MOST 1048576: true; the input reads as it did. -/
def roomSteadyUptoRow : OpenClaim := { program := "ytgepohccnknngaa", sum := "1ed91eb5525c5ea98a2072c0dfa6ad1bdf3090f683525142796e326afe544860", func := "quota/quotalaw15.RoomSteady", spec := "roomSteady", apart := false, narrowed := true }
def RoomSteadyUptoSaid : Prop := roomSteadyUptoRow.holds Try.pinned (OpenSpec.upto roomSteadySpec)

end Rows
end Go.Proofs.Ytgepohccnknngaa
