/-
  No cell of these rows narrows 'for every input' (looked for: loops, veiled, ifaces, maps, wideKeys, modest, calm, conditions, laid).
  DERIVED. THE GIVEN ROWS OF THIS SEAT. 8 by the template 'for every input the law returns true; each argument reads behind the call as it read before'; 0 by the template 'total and deterministic' (their statements: YtjkbmnhpbncdcaaTotals.lean).
  GIVEN WITH THE SEED: the statements are not yours to turn. If you find one false, say at which input.
  Laid BY PROGRAM, IN A SANDBOX (cutbox-rows.mjs): the forced cells as the released guide's own fill.sh prints them over the translation d9a9ac7d70b63c11… (all of the seat's roots in one cut). By AI agents, Wed Nov 11 2026. No macro, syntax, notation, axiom, sorry.
-/
import Derived.Test.YtjkbmnhpbncdcaaChecked
import GoSem.Claim
import GoSem.ClaimJoined
import GoSem.ClaimMapViews
import Derived.JoinedTies
import Derived.KernelRfl
namespace Go.Proofs.Ytjkbmnhpbncdcaa
/- THE CELL 'sum', in the pinned program and in every row, IS THE sha256 OF THE DUMP (.gsa) THAT YtjkbmnhpbncdcaaProg.lean LOADS. Nothing in Lean hashes anything: it is a label: what it is worth is what the hold of that sum in a sandbox is worth. -/
noncomputable def Try.pinned : Pinned := { name := "ytjkbmnhpbncdcaa", sum := "d9a9ac7d70b63c118b1baab24465cdeef9ec43e75bd15bebe7487fa8d35f3f48", checked := Try.checked }
namespace Rows
def none {H : Type} : Left H := { results := [], args := [] }

/-- 'icehalllaw09.ClockWhole': WHATEVER THE INPUT: true; the input reads as it did. -/
def clockWholeSpec : ChangeSpec := { name := "clockWhole", fn := fun _ => fun
  | [d1, d2] => { results := [.lit (.bool true)], args := [d1, d2] }
  | _ => none }
def clockWholeRow : OpenClaim := { program := "ytjkbmnhpbncdcaa", sum := "d9a9ac7d70b63c118b1baab24465cdeef9ec43e75bd15bebe7487fa8d35f3f48", func := "icehall/icehalllaw09.ClockWhole", spec := "clockWhole", unfollowed := true, recurses := true, apart := false }
def ClockWholeSaid : Prop := clockWholeRow.holds Try.pinned (OpenSpec.ofChange clockWholeSpec)

/-- ITS FALSE NEIGHBOUR: 'it returns false'. Refute it at one input. -/
def clockWholeWrong : ChangeSpec := { name := "clockWhole", fn := fun _ => fun
  | [d1, d2] => { results := [.lit (.bool false)], args := [d1, d2] }
  | _ => none }
def ClockWholeWrongFalsely : Prop := clockWholeRow.holds Try.pinned (OpenSpec.ofChange clockWholeWrong)

/-- 'icehalllaw09.ClockShows': WHATEVER THE INPUT: true; the input reads as it did. -/
def clockShowsSpec : ChangeSpec := { name := "clockShows", fn := fun _ => fun
  | [d1, d2, d3, d4] => { results := [.lit (.bool true)], args := [d1, d2, d3, d4] }
  | _ => none }
def clockShowsRow : OpenClaim := { program := "ytjkbmnhpbncdcaa", sum := "d9a9ac7d70b63c118b1baab24465cdeef9ec43e75bd15bebe7487fa8d35f3f48", func := "icehall/icehalllaw09.ClockShows", spec := "clockShows", unfollowed := true, recurses := true, apart := false }
def ClockShowsSaid : Prop := clockShowsRow.holds Try.pinned (OpenSpec.ofChange clockShowsSpec)

/-- ITS FALSE NEIGHBOUR: 'it returns false'. Refute it at one input. -/
def clockShowsWrong : ChangeSpec := { name := "clockShows", fn := fun _ => fun
  | [d1, d2, d3, d4] => { results := [.lit (.bool false)], args := [d1, d2, d3, d4] }
  | _ => none }
def ClockShowsWrongFalsely : Prop := clockShowsRow.holds Try.pinned (OpenSpec.ofChange clockShowsWrong)

/-- 'icehalllaw09.ClockSeconds': WHATEVER THE INPUT: true; the input reads as it did. -/
def clockSecondsSpec : ChangeSpec := { name := "clockSeconds", fn := fun _ => fun
  | [d1, d2] => { results := [.lit (.bool true)], args := [d1, d2] }
  | _ => none }
def clockSecondsRow : OpenClaim := { program := "ytjkbmnhpbncdcaa", sum := "d9a9ac7d70b63c118b1baab24465cdeef9ec43e75bd15bebe7487fa8d35f3f48", func := "icehall/icehalllaw09.ClockSeconds", spec := "clockSeconds", unfollowed := true, recurses := true, apart := false }
def ClockSecondsSaid : Prop := clockSecondsRow.holds Try.pinned (OpenSpec.ofChange clockSecondsSpec)

/-- ITS FALSE NEIGHBOUR: 'it returns false'. Refute it at one input. -/
def clockSecondsWrong : ChangeSpec := { name := "clockSeconds", fn := fun _ => fun
  | [d1, d2] => { results := [.lit (.bool false)], args := [d1, d2] }
  | _ => none }
def ClockSecondsWrongFalsely : Prop := clockSecondsRow.holds Try.pinned (OpenSpec.ofChange clockSecondsWrong)

/-- 'icehalllaw09.ClockOrder': WHATEVER THE INPUT: true; the input reads as it did. -/
def clockOrderSpec : ChangeSpec := { name := "clockOrder", fn := fun _ => fun
  | [d1, d2] => { results := [.lit (.bool true)], args := [d1, d2] }
  | _ => none }
def clockOrderRow : OpenClaim := { program := "ytjkbmnhpbncdcaa", sum := "d9a9ac7d70b63c118b1baab24465cdeef9ec43e75bd15bebe7487fa8d35f3f48", func := "icehall/icehalllaw09.ClockOrder", spec := "clockOrder", unfollowed := true, recurses := true, apart := false }
def ClockOrderSaid : Prop := clockOrderRow.holds Try.pinned (OpenSpec.ofChange clockOrderSpec)

/-- ITS FALSE NEIGHBOUR: 'it returns false'. Refute it at one input. -/
def clockOrderWrong : ChangeSpec := { name := "clockOrder", fn := fun _ => fun
  | [d1, d2] => { results := [.lit (.bool false)], args := [d1, d2] }
  | _ => none }
def ClockOrderWrongFalsely : Prop := clockOrderRow.holds Try.pinned (OpenSpec.ofChange clockOrderWrong)

/-- 'icehalllaw09.ClockPlays': WHATEVER THE INPUT: true; the input reads as it did. -/
def clockPlaysSpec : ChangeSpec := { name := "clockPlays", fn := fun _ => fun
  | [d1, d2, d3] => { results := [.lit (.bool true)], args := [d1, d2, d3] }
  | _ => none }
def clockPlaysRow : OpenClaim := { program := "ytjkbmnhpbncdcaa", sum := "d9a9ac7d70b63c118b1baab24465cdeef9ec43e75bd15bebe7487fa8d35f3f48", func := "icehall/icehalllaw09.ClockPlays", spec := "clockPlays", unfollowed := true, recurses := true, apart := false }
def ClockPlaysSaid : Prop := clockPlaysRow.holds Try.pinned (OpenSpec.ofChange clockPlaysSpec)

/-- ITS FALSE NEIGHBOUR: 'it returns false'. Refute it at one input. -/
def clockPlaysWrong : ChangeSpec := { name := "clockPlays", fn := fun _ => fun
  | [d1, d2, d3] => { results := [.lit (.bool false)], args := [d1, d2, d3] }
  | _ => none }
def ClockPlaysWrongFalsely : Prop := clockPlaysRow.holds Try.pinned (OpenSpec.ofChange clockPlaysWrong)

/-- 'icehalllaw09.ClockGoals': WHATEVER THE INPUT: true; the input reads as it did. -/
def clockGoalsSpec : ChangeSpec := { name := "clockGoals", fn := fun _ => fun
  | [d] => { results := [.lit (.bool true)], args := [d] }
  | _ => none }
def clockGoalsRow : OpenClaim := { program := "ytjkbmnhpbncdcaa", sum := "d9a9ac7d70b63c118b1baab24465cdeef9ec43e75bd15bebe7487fa8d35f3f48", func := "icehall/icehalllaw09.ClockGoals", spec := "clockGoals", unfollowed := true, recurses := true, apart := false }
def ClockGoalsSaid : Prop := clockGoalsRow.holds Try.pinned (OpenSpec.ofChange clockGoalsSpec)

/-- ITS FALSE NEIGHBOUR: 'it returns false'. Refute it at one input. -/
def clockGoalsWrong : ChangeSpec := { name := "clockGoals", fn := fun _ => fun
  | [d] => { results := [.lit (.bool false)], args := [d] }
  | _ => none }
def ClockGoalsWrongFalsely : Prop := clockGoalsRow.holds Try.pinned (OpenSpec.ofChange clockGoalsWrong)

/-- 'icehalllaw09.ClockOwns': WHATEVER THE INPUT: true; the input reads as it did. -/
def clockOwnsSpec : ChangeSpec := { name := "clockOwns", fn := fun _ => fun
  | [d1, d2, d3, d4] => { results := [.lit (.bool true)], args := [d1, d2, d3, d4] }
  | _ => none }
def clockOwnsRow : OpenClaim := { program := "ytjkbmnhpbncdcaa", sum := "d9a9ac7d70b63c118b1baab24465cdeef9ec43e75bd15bebe7487fa8d35f3f48", func := "icehall/icehalllaw09.ClockOwns", spec := "clockOwns", unfollowed := true, recurses := true, apart := false }
def ClockOwnsSaid : Prop := clockOwnsRow.holds Try.pinned (OpenSpec.ofChange clockOwnsSpec)

/-- ITS FALSE NEIGHBOUR: 'it returns false'. Refute it at one input. -/
def clockOwnsWrong : ChangeSpec := { name := "clockOwns", fn := fun _ => fun
  | [d1, d2, d3, d4] => { results := [.lit (.bool false)], args := [d1, d2, d3, d4] }
  | _ => none }
def ClockOwnsWrongFalsely : Prop := clockOwnsRow.holds Try.pinned (OpenSpec.ofChange clockOwnsWrong)

/-- 'icehalllaw09.ClockNames': WHATEVER THE INPUT: true; the input reads as it did. -/
def clockNamesSpec : ChangeSpec := { name := "clockNames", fn := fun _ => fun
  | [] => { results := [.lit (.bool true)], args := [] }
  | _ => none }
def clockNamesRow : OpenClaim := { program := "ytjkbmnhpbncdcaa", sum := "d9a9ac7d70b63c118b1baab24465cdeef9ec43e75bd15bebe7487fa8d35f3f48", func := "icehall/icehalllaw09.ClockNames", spec := "clockNames", unfollowed := true, recurses := true, apart := false }
def ClockNamesSaid : Prop := clockNamesRow.holds Try.pinned (OpenSpec.ofChange clockNamesSpec)

/-- ITS FALSE NEIGHBOUR: 'it returns false'. Refute it at one input. -/
def clockNamesWrong : ChangeSpec := { name := "clockNames", fn := fun _ => fun
  | [] => { results := [.lit (.bool false)], args := [] }
  | _ => none }
def ClockNamesWrongFalsely : Prop := clockNamesRow.holds Try.pinned (OpenSpec.ofChange clockNamesWrong)

/- THE SECOND FORM. 'bulk': how many values and letters a reading holds, each counted each time it is reached (what is shared counts as often as it is met; a slice's spare places count too). A statement '..UptoSaid' is the law's where the arguments, and the package variables that the reading takes, are together of bulk at most 1048576: NARROWER than '..Said'. Prove '..Said' where nothing that the law and all that it calls make is longer than what came in: it says more and counts as full. Else prove '..UptoSaid'. A law counts once. -/
mutual
def uptoBulk {H : Type} : DataW H → Nat
  | .lit (.string bytes) => bytes.length + 1
  | .lit _ => 1
  | .nil => 1
  | .ptr d => uptoBulk d + 1
  | .slice elems spare => uptoBulkAll elems + uptoBulkAll spare + 1
  | .agg parts => uptoBulkAll parts + 1
  | .iface _ d => uptoBulk d + 1
  | .map entries => uptoBulkEntries entries + 1
  | .held _ => 1
def uptoBulkAll {H : Type} : List (DataW H) → Nat
  | [] => 0
  | d :: r => uptoBulk d + uptoBulkAll r
def uptoBulkEntries {H : Type} : List (Lit × DataW H) → Nat
  | [] => 0
  | x :: r => uptoBulkEntry x + uptoBulkEntries r
def uptoBulkEntry {H : Type} : Lit × DataW H → Nat
  | (.string bytes, d) => bytes.length + uptoBulk d + 1
  | (_, d) => uptoBulk d + 1
 end
def uptoSmall : (H : Type) → List (DataW H) → Bool := fun _ ds => decide (uptoBulkAll ds ≤ 1048576)
def OpenSpec.upto (s : _root_.Go.ChangeSpec) : _root_.Go.OpenSpec := { _root_.Go.OpenSpec.ofChange s with cond := some uptoSmall }

/-- 'icehalllaw09.ClockWhole', WHERE WHAT IT READS IS OF BULK AT MOST 1048576: true; the input reads as it did. -/
def clockWholeUptoRow : OpenClaim := { program := "ytjkbmnhpbncdcaa", sum := "d9a9ac7d70b63c118b1baab24465cdeef9ec43e75bd15bebe7487fa8d35f3f48", func := "icehall/icehalllaw09.ClockWhole", spec := "clockWhole", unfollowed := true, recurses := true, apart := false, narrowed := true }
def ClockWholeUptoSaid : Prop := clockWholeUptoRow.holds Try.pinned (OpenSpec.upto clockWholeSpec)

/-- 'icehalllaw09.ClockShows', WHERE WHAT IT READS IS OF BULK AT MOST 1048576: true; the input reads as it did. -/
def clockShowsUptoRow : OpenClaim := { program := "ytjkbmnhpbncdcaa", sum := "d9a9ac7d70b63c118b1baab24465cdeef9ec43e75bd15bebe7487fa8d35f3f48", func := "icehall/icehalllaw09.ClockShows", spec := "clockShows", unfollowed := true, recurses := true, apart := false, narrowed := true }
def ClockShowsUptoSaid : Prop := clockShowsUptoRow.holds Try.pinned (OpenSpec.upto clockShowsSpec)

/-- 'icehalllaw09.ClockSeconds', WHERE WHAT IT READS IS OF BULK AT MOST 1048576: true; the input reads as it did. -/
def clockSecondsUptoRow : OpenClaim := { program := "ytjkbmnhpbncdcaa", sum := "d9a9ac7d70b63c118b1baab24465cdeef9ec43e75bd15bebe7487fa8d35f3f48", func := "icehall/icehalllaw09.ClockSeconds", spec := "clockSeconds", unfollowed := true, recurses := true, apart := false, narrowed := true }
def ClockSecondsUptoSaid : Prop := clockSecondsUptoRow.holds Try.pinned (OpenSpec.upto clockSecondsSpec)

/-- 'icehalllaw09.ClockOrder', WHERE WHAT IT READS IS OF BULK AT MOST 1048576: true; the input reads as it did. -/
def clockOrderUptoRow : OpenClaim := { program := "ytjkbmnhpbncdcaa", sum := "d9a9ac7d70b63c118b1baab24465cdeef9ec43e75bd15bebe7487fa8d35f3f48", func := "icehall/icehalllaw09.ClockOrder", spec := "clockOrder", unfollowed := true, recurses := true, apart := false, narrowed := true }
def ClockOrderUptoSaid : Prop := clockOrderUptoRow.holds Try.pinned (OpenSpec.upto clockOrderSpec)

/-- 'icehalllaw09.ClockPlays', WHERE WHAT IT READS IS OF BULK AT MOST 1048576: true; the input reads as it did. -/
def clockPlaysUptoRow : OpenClaim := { program := "ytjkbmnhpbncdcaa", sum := "d9a9ac7d70b63c118b1baab24465cdeef9ec43e75bd15bebe7487fa8d35f3f48", func := "icehall/icehalllaw09.ClockPlays", spec := "clockPlays", unfollowed := true, recurses := true, apart := false, narrowed := true }
def ClockPlaysUptoSaid : Prop := clockPlaysUptoRow.holds Try.pinned (OpenSpec.upto clockPlaysSpec)

/-- 'icehalllaw09.ClockGoals', WHERE WHAT IT READS IS OF BULK AT MOST 1048576: true; the input reads as it did. -/
def clockGoalsUptoRow : OpenClaim := { program := "ytjkbmnhpbncdcaa", sum := "d9a9ac7d70b63c118b1baab24465cdeef9ec43e75bd15bebe7487fa8d35f3f48", func := "icehall/icehalllaw09.ClockGoals", spec := "clockGoals", unfollowed := true, recurses := true, apart := false, narrowed := true }
def ClockGoalsUptoSaid : Prop := clockGoalsUptoRow.holds Try.pinned (OpenSpec.upto clockGoalsSpec)

/-- 'icehalllaw09.ClockOwns', WHERE WHAT IT READS IS OF BULK AT MOST 1048576: true; the input reads as it did. -/
def clockOwnsUptoRow : OpenClaim := { program := "ytjkbmnhpbncdcaa", sum := "d9a9ac7d70b63c118b1baab24465cdeef9ec43e75bd15bebe7487fa8d35f3f48", func := "icehall/icehalllaw09.ClockOwns", spec := "clockOwns", unfollowed := true, recurses := true, apart := false, narrowed := true }
def ClockOwnsUptoSaid : Prop := clockOwnsUptoRow.holds Try.pinned (OpenSpec.upto clockOwnsSpec)

/-- 'icehalllaw09.ClockNames', WHERE WHAT IT READS IS OF BULK AT MOST 1048576: true; the input reads as it did. -/
def clockNamesUptoRow : OpenClaim := { program := "ytjkbmnhpbncdcaa", sum := "d9a9ac7d70b63c118b1baab24465cdeef9ec43e75bd15bebe7487fa8d35f3f48", func := "icehall/icehalllaw09.ClockNames", spec := "clockNames", unfollowed := true, recurses := true, apart := false, narrowed := true }
def ClockNamesUptoSaid : Prop := clockNamesUptoRow.holds Try.pinned (OpenSpec.upto clockNamesSpec)

end Rows
end Go.Proofs.Ytjkbmnhpbncdcaa
