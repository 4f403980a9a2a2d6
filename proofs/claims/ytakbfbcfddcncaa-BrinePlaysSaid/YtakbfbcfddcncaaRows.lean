/-
  No cell of these rows narrows 'for every input' (looked for: loops, veiled, ifaces, maps, wideKeys, modest, calm, conditions, laid).
  DERIVED. THE GIVEN ROWS OF THIS SEAT. 9 by the template 'for every input the law returns true; each argument reads behind the call as it read before'; 0 by the template 'total and deterministic' (their statements: YtakbfbcfddcncaaTotals.lean).
  GIVEN WITH THE SEED: the statements are not yours to turn. If you find one false, say at which input.
  Laid BY PROGRAM, IN A SANDBOX (cutbox-rows.mjs): the forced cells as the released guide's own fill.sh prints them over the translation 12336535f938de93… (all of the seat's roots in one cut). By AI agents, Wed Nov 11 2026. No macro, syntax, notation, axiom, sorry.
-/
import Derived.Test.YtakbfbcfddcncaaChecked
import GoSem.Claim
import GoSem.ClaimJoined
import GoSem.ClaimMapViews
import Derived.JoinedTies
import Derived.KernelRfl
namespace Go.Proofs.Ytakbfbcfddcncaa
/- THE CELL 'sum', in the pinned program and in every row, IS THE sha256 OF THE DUMP (.gsa) THAT YtakbfbcfddcncaaProg.lean LOADS. Nothing in Lean hashes anything: it is a label: what it is worth is what the hold of that sum in a sandbox is worth. -/
noncomputable def Try.pinned : Pinned := { name := "ytakbfbcfddcncaa", sum := "12336535f938de93057824db9edbaceb19653683696c932ad5ce8bed7fd0a792", checked := Try.checked }
namespace Rows
def none {H : Type} : Left H := { results := [], args := [] }

/-- 'icehalllaw02.BrineSplit': WHATEVER THE INPUT: true; the input reads as it did. -/
def brineSplitSpec : ChangeSpec := { name := "brineSplit", fn := fun _ => fun
  | [d1, d2, d3] => { results := [.lit (.bool true)], args := [d1, d2, d3] }
  | _ => none }
def brineSplitRow : OpenClaim := { program := "ytakbfbcfddcncaa", sum := "12336535f938de93057824db9edbaceb19653683696c932ad5ce8bed7fd0a792", func := "icehall/icehalllaw02.BrineSplit", spec := "brineSplit", unfollowed := true, recurses := true, apart := false }
def BrineSplitSaid : Prop := brineSplitRow.holds Try.pinned (OpenSpec.ofChange brineSplitSpec)

/-- ITS FALSE NEIGHBOUR: 'it returns false'. Refute it at one input. -/
def brineSplitWrong : ChangeSpec := { name := "brineSplit", fn := fun _ => fun
  | [d1, d2, d3] => { results := [.lit (.bool false)], args := [d1, d2, d3] }
  | _ => none }
def BrineSplitWrongFalsely : Prop := brineSplitRow.holds Try.pinned (OpenSpec.ofChange brineSplitWrong)

/-- 'icehalllaw02.BrineWhere': WHATEVER THE INPUT: true; the input reads as it did. -/
def brineWhereSpec : ChangeSpec := { name := "brineWhere", fn := fun _ => fun
  | [d1, d2] => { results := [.lit (.bool true)], args := [d1, d2] }
  | _ => none }
def brineWhereRow : OpenClaim := { program := "ytakbfbcfddcncaa", sum := "12336535f938de93057824db9edbaceb19653683696c932ad5ce8bed7fd0a792", func := "icehall/icehalllaw02.BrineWhere", spec := "brineWhere", unfollowed := true, recurses := true, apart := false }
def BrineWhereSaid : Prop := brineWhereRow.holds Try.pinned (OpenSpec.ofChange brineWhereSpec)

/-- ITS FALSE NEIGHBOUR: 'it returns false'. Refute it at one input. -/
def brineWhereWrong : ChangeSpec := { name := "brineWhere", fn := fun _ => fun
  | [d1, d2] => { results := [.lit (.bool false)], args := [d1, d2] }
  | _ => none }
def BrineWhereWrongFalsely : Prop := brineWhereRow.holds Try.pinned (OpenSpec.ofChange brineWhereWrong)

/-- 'icehalllaw02.BrineLeast': WHATEVER THE INPUT: true; the input reads as it did. -/
def brineLeastSpec : ChangeSpec := { name := "brineLeast", fn := fun _ => fun
  | [d1, d2, d3, d4, d5] => { results := [.lit (.bool true)], args := [d1, d2, d3, d4, d5] }
  | _ => none }
def brineLeastRow : OpenClaim := { program := "ytakbfbcfddcncaa", sum := "12336535f938de93057824db9edbaceb19653683696c932ad5ce8bed7fd0a792", func := "icehall/icehalllaw02.BrineLeast", spec := "brineLeast", unfollowed := true, recurses := true, apart := false }
def BrineLeastSaid : Prop := brineLeastRow.holds Try.pinned (OpenSpec.ofChange brineLeastSpec)

/-- ITS FALSE NEIGHBOUR: 'it returns false'. Refute it at one input. -/
def brineLeastWrong : ChangeSpec := { name := "brineLeast", fn := fun _ => fun
  | [d1, d2, d3, d4, d5] => { results := [.lit (.bool false)], args := [d1, d2, d3, d4, d5] }
  | _ => none }
def BrineLeastWrongFalsely : Prop := brineLeastRow.holds Try.pinned (OpenSpec.ofChange brineLeastWrong)

/-- 'icehalllaw02.BrineOwns': WHATEVER THE INPUT: true; the input reads as it did. -/
def brineOwnsSpec : ChangeSpec := { name := "brineOwns", fn := fun _ => fun
  | [d1, d2] => { results := [.lit (.bool true)], args := [d1, d2] }
  | _ => none }
def brineOwnsRow : OpenClaim := { program := "ytakbfbcfddcncaa", sum := "12336535f938de93057824db9edbaceb19653683696c932ad5ce8bed7fd0a792", func := "icehall/icehalllaw02.BrineOwns", spec := "brineOwns", unfollowed := true, recurses := true, apart := false }
def BrineOwnsSaid : Prop := brineOwnsRow.holds Try.pinned (OpenSpec.ofChange brineOwnsSpec)

/-- ITS FALSE NEIGHBOUR: 'it returns false'. Refute it at one input. -/
def brineOwnsWrong : ChangeSpec := { name := "brineOwns", fn := fun _ => fun
  | [d1, d2] => { results := [.lit (.bool false)], args := [d1, d2] }
  | _ => none }
def BrineOwnsWrongFalsely : Prop := brineOwnsRow.holds Try.pinned (OpenSpec.ofChange brineOwnsWrong)

/-- 'icehalllaw02.BrinePlays': WHATEVER THE INPUT: true; the input reads as it did. -/
def brinePlaysSpec : ChangeSpec := { name := "brinePlays", fn := fun _ => fun
  | [d1, d2] => { results := [.lit (.bool true)], args := [d1, d2] }
  | _ => none }
def brinePlaysRow : OpenClaim := { program := "ytakbfbcfddcncaa", sum := "12336535f938de93057824db9edbaceb19653683696c932ad5ce8bed7fd0a792", func := "icehall/icehalllaw02.BrinePlays", spec := "brinePlays", unfollowed := true, recurses := true, apart := false }
def BrinePlaysSaid : Prop := brinePlaysRow.holds Try.pinned (OpenSpec.ofChange brinePlaysSpec)

/-- ITS FALSE NEIGHBOUR: 'it returns false'. Refute it at one input. -/
def brinePlaysWrong : ChangeSpec := { name := "brinePlays", fn := fun _ => fun
  | [d1, d2] => { results := [.lit (.bool false)], args := [d1, d2] }
  | _ => none }
def BrinePlaysWrongFalsely : Prop := brinePlaysRow.holds Try.pinned (OpenSpec.ofChange brinePlaysWrong)

/-- 'icehalllaw02.BrineKeeps': WHATEVER THE INPUT: true; the input reads as it did. -/
def brineKeepsSpec : ChangeSpec := { name := "brineKeeps", fn := fun _ => fun
  | [d1, d2] => { results := [.lit (.bool true)], args := [d1, d2] }
  | _ => none }
def brineKeepsRow : OpenClaim := { program := "ytakbfbcfddcncaa", sum := "12336535f938de93057824db9edbaceb19653683696c932ad5ce8bed7fd0a792", func := "icehall/icehalllaw02.BrineKeeps", spec := "brineKeeps", unfollowed := true, recurses := true, apart := false }
def BrineKeepsSaid : Prop := brineKeepsRow.holds Try.pinned (OpenSpec.ofChange brineKeepsSpec)

/-- ITS FALSE NEIGHBOUR: 'it returns false'. Refute it at one input. -/
def brineKeepsWrong : ChangeSpec := { name := "brineKeeps", fn := fun _ => fun
  | [d1, d2] => { results := [.lit (.bool false)], args := [d1, d2] }
  | _ => none }
def BrineKeepsWrongFalsely : Prop := brineKeepsRow.holds Try.pinned (OpenSpec.ofChange brineKeepsWrong)

/-- 'icehalllaw02.BrineReuses': WHATEVER THE INPUT: true; the input reads as it did. -/
def brineReusesSpec : ChangeSpec := { name := "brineReuses", fn := fun _ => fun
  | [d1, d2, d3, d4, d5] => { results := [.lit (.bool true)], args := [d1, d2, d3, d4, d5] }
  | _ => none }
def brineReusesRow : OpenClaim := { program := "ytakbfbcfddcncaa", sum := "12336535f938de93057824db9edbaceb19653683696c932ad5ce8bed7fd0a792", func := "icehall/icehalllaw02.BrineReuses", spec := "brineReuses", unfollowed := true, recurses := true, apart := false }
def BrineReusesSaid : Prop := brineReusesRow.holds Try.pinned (OpenSpec.ofChange brineReusesSpec)

/-- ITS FALSE NEIGHBOUR: 'it returns false'. Refute it at one input. -/
def brineReusesWrong : ChangeSpec := { name := "brineReuses", fn := fun _ => fun
  | [d1, d2, d3, d4, d5] => { results := [.lit (.bool false)], args := [d1, d2, d3, d4, d5] }
  | _ => none }
def BrineReusesWrongFalsely : Prop := brineReusesRow.holds Try.pinned (OpenSpec.ofChange brineReusesWrong)

/-- 'icehalllaw02.BrineRoom': WHATEVER THE INPUT: true; the input reads as it did. -/
def brineRoomSpec : ChangeSpec := { name := "brineRoom", fn := fun _ => fun
  | [d1, d2, d3, d4, d5] => { results := [.lit (.bool true)], args := [d1, d2, d3, d4, d5] }
  | _ => none }
def brineRoomRow : OpenClaim := { program := "ytakbfbcfddcncaa", sum := "12336535f938de93057824db9edbaceb19653683696c932ad5ce8bed7fd0a792", func := "icehall/icehalllaw02.BrineRoom", spec := "brineRoom", unfollowed := true, recurses := true, apart := false }
def BrineRoomSaid : Prop := brineRoomRow.holds Try.pinned (OpenSpec.ofChange brineRoomSpec)

/-- ITS FALSE NEIGHBOUR: 'it returns false'. Refute it at one input. -/
def brineRoomWrong : ChangeSpec := { name := "brineRoom", fn := fun _ => fun
  | [d1, d2, d3, d4, d5] => { results := [.lit (.bool false)], args := [d1, d2, d3, d4, d5] }
  | _ => none }
def BrineRoomWrongFalsely : Prop := brineRoomRow.holds Try.pinned (OpenSpec.ofChange brineRoomWrong)

/-- 'icehalllaw02.BrineNames': WHATEVER THE INPUT: true; the input reads as it did. -/
def brineNamesSpec : ChangeSpec := { name := "brineNames", fn := fun _ => fun
  | [] => { results := [.lit (.bool true)], args := [] }
  | _ => none }
def brineNamesRow : OpenClaim := { program := "ytakbfbcfddcncaa", sum := "12336535f938de93057824db9edbaceb19653683696c932ad5ce8bed7fd0a792", func := "icehall/icehalllaw02.BrineNames", spec := "brineNames", unfollowed := true, recurses := true, apart := false }
def BrineNamesSaid : Prop := brineNamesRow.holds Try.pinned (OpenSpec.ofChange brineNamesSpec)

/-- ITS FALSE NEIGHBOUR: 'it returns false'. Refute it at one input. -/
def brineNamesWrong : ChangeSpec := { name := "brineNames", fn := fun _ => fun
  | [] => { results := [.lit (.bool false)], args := [] }
  | _ => none }
def BrineNamesWrongFalsely : Prop := brineNamesRow.holds Try.pinned (OpenSpec.ofChange brineNamesWrong)

/- THE SECOND FORM. 'bulk': how many values and letters a reading holds, each counted each time it is reached (what is shared counts as often as it is met; a slice's spare places count too). A statement '..UptoSaid' is the law's where the arguments, and the package variables that the reading takes, are together of bulk at most 1048576: NARROWER than '..Said'. Prove '..Said' where nothing that the law and all that it calls make is longer than what came in: it says more and counts as full. Else prove '..UptoSaid'. A law counts once. -/
mutual
def uptoBulk {H : Type} : DataW H → Nat
  | .lit (.string bytes) => bytes.length + 1
  | .lit _ => 1
  | .nil => 1
  | .ptr d => uptoBulk d + 1
  | .slice elems spare => uptoBulkAll elems + uptoBulkAll spare + 1
  | .agg parts => uptoBulkAll parts + 1
  | .iface _ d => uptoBulk d + 1
  | .map entries => uptoBulkEntries entries + 1
  | .held _ => 1
def uptoBulkAll {H : Type} : List (DataW H) → Nat
  | [] => 0
  | d :: r => uptoBulk d + uptoBulkAll r
def uptoBulkEntries {H : Type} : List (Lit × DataW H) → Nat
  | [] => 0
  | x :: r => uptoBulkEntry x + uptoBulkEntries r
def uptoBulkEntry {H : Type} : Lit × DataW H → Nat
  | (.string bytes, d) => bytes.length + uptoBulk d + 1
  | (_, d) => uptoBulk d + 1
 end
def uptoSmall : (H : Type) → List (DataW H) → Bool := fun _ ds => decide (uptoBulkAll ds ≤ 1048576)
def OpenSpec.upto (s : _root_.Go.ChangeSpec) : _root_.Go.OpenSpec := { _root_.Go.OpenSpec.ofChange s with cond := some uptoSmall }

/-- 'icehalllaw02.BrineSplit', WHERE WHAT IT READS IS OF BULK AT MOST 1048576: true; the input reads as it did. -/
def brineSplitUptoRow : OpenClaim := { program := "ytakbfbcfddcncaa", sum := "12336535f938de93057824db9edbaceb19653683696c932ad5ce8bed7fd0a792", func := "icehall/icehalllaw02.BrineSplit", spec := "brineSplit", unfollowed := true, recurses := true, apart := false, narrowed := true }
def BrineSplitUptoSaid : Prop := brineSplitUptoRow.holds Try.pinned (OpenSpec.upto brineSplitSpec)

/-- 'icehalllaw02.BrineWhere', WHERE WHAT IT READS IS OF BULK AT MOST 1048576: true; the input reads as it did. -/
def brineWhereUptoRow : OpenClaim := { program := "ytakbfbcfddcncaa", sum := "12336535f938de93057824db9edbaceb19653683696c932ad5ce8bed7fd0a792", func := "icehall/icehalllaw02.BrineWhere", spec := "brineWhere", unfollowed := true, recurses := true, apart := false, narrowed := true }
def BrineWhereUptoSaid : Prop := brineWhereUptoRow.holds Try.pinned (OpenSpec.upto brineWhereSpec)

/-- 'icehalllaw02.BrineLeast', WHERE WHAT IT READS IS OF BULK AT MOST 1048576: true; the input reads as it did. -/
def brineLeastUptoRow : OpenClaim := { program := "ytakbfbcfddcncaa", sum := "12336535f938de93057824db9edbaceb19653683696c932ad5ce8bed7fd0a792", func := "icehall/icehalllaw02.BrineLeast", spec := "brineLeast", unfollowed := true, recurses := true, apart := false, narrowed := true }
def BrineLeastUptoSaid : Prop := brineLeastUptoRow.holds Try.pinned (OpenSpec.upto brineLeastSpec)

/-- 'icehalllaw02.BrineOwns', WHERE WHAT IT READS IS OF BULK AT MOST 1048576: true; the input reads as it did. -/
def brineOwnsUptoRow : OpenClaim := { program := "ytakbfbcfddcncaa", sum := "12336535f938de93057824db9edbaceb19653683696c932ad5ce8bed7fd0a792", func := "icehall/icehalllaw02.BrineOwns", spec := "brineOwns", unfollowed := true, recurses := true, apart := false, narrowed := true }
def BrineOwnsUptoSaid : Prop := brineOwnsUptoRow.holds Try.pinned (OpenSpec.upto brineOwnsSpec)

/-- 'icehalllaw02.BrinePlays', WHERE WHAT IT READS IS OF BULK AT MOST 1048576: true; the input reads as it did. -/
def brinePlaysUptoRow : OpenClaim := { program := "ytakbfbcfddcncaa", sum := "12336535f938de93057824db9edbaceb19653683696c932ad5ce8bed7fd0a792", func := "icehall/icehalllaw02.BrinePlays", spec := "brinePlays", unfollowed := true, recurses := true, apart := false, narrowed := true }
def BrinePlaysUptoSaid : Prop := brinePlaysUptoRow.holds Try.pinned (OpenSpec.upto brinePlaysSpec)

/-- 'icehalllaw02.BrineKeeps', WHERE WHAT IT READS IS OF BULK AT MOST 1048576: true; the input reads as it did. -/
def brineKeepsUptoRow : OpenClaim := { program := "ytakbfbcfddcncaa", sum := "12336535f938de93057824db9edbaceb19653683696c932ad5ce8bed7fd0a792", func := "icehall/icehalllaw02.BrineKeeps", spec := "brineKeeps", unfollowed := true, recurses := true, apart := false, narrowed := true }
def BrineKeepsUptoSaid : Prop := brineKeepsUptoRow.holds Try.pinned (OpenSpec.upto brineKeepsSpec)

/-- 'icehalllaw02.BrineReuses', WHERE WHAT IT READS IS OF BULK AT MOST 1048576: true; the input reads as it did. -/
def brineReusesUptoRow : OpenClaim := { program := "ytakbfbcfddcncaa", sum := "12336535f938de93057824db9edbaceb19653683696c932ad5ce8bed7fd0a792", func := "icehall/icehalllaw02.BrineReuses", spec := "brineReuses", unfollowed := true, recurses := true, apart := false, narrowed := true }
def BrineReusesUptoSaid : Prop := brineReusesUptoRow.holds Try.pinned (OpenSpec.upto brineReusesSpec)

/-- 'icehalllaw02.BrineRoom', WHERE WHAT IT READS IS OF BULK AT MOST 1048576: true; the input reads as it did. -/
def brineRoomUptoRow : OpenClaim := { program := "ytakbfbcfddcncaa", sum := "12336535f938de93057824db9edbaceb19653683696c932ad5ce8bed7fd0a792", func := "icehall/icehalllaw02.BrineRoom", spec := "brineRoom", unfollowed := true, recurses := true, apart := false, narrowed := true }
def BrineRoomUptoSaid : Prop := brineRoomUptoRow.holds Try.pinned (OpenSpec.upto brineRoomSpec)

/-- 'icehalllaw02.BrineNames', WHERE WHAT IT READS IS OF BULK AT MOST 1048576: true; the input reads as it did. -/
def brineNamesUptoRow : OpenClaim := { program := "ytakbfbcfddcncaa", sum := "12336535f938de93057824db9edbaceb19653683696c932ad5ce8bed7fd0a792", func := "icehall/icehalllaw02.BrineNames", spec := "brineNames", unfollowed := true, recurses := true, apart := false, narrowed := true }
def BrineNamesUptoSaid : Prop := brineNamesUptoRow.holds Try.pinned (OpenSpec.upto brineNamesSpec)

end Rows
end Go.Proofs.Ytakbfbcfddcncaa
