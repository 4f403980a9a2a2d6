/-
  No cell of these rows narrows 'for every input' (looked for: loops, veiled, ifaces, maps, wideKeys, modest, calm, conditions, laid).
  DERIVED. THE GIVEN ROWS OF THIS SEAT. 6 by the template 'for every input the law returns true; each argument reads behind the call as it read before'; 0 by the template 'total and deterministic' (their statements: YtnomakoomapdbaaTotals.lean).
  GIVEN WITH THE SEED: the statements are not yours to turn. If you find one false, say at which input.
  Laid BY PROGRAM, IN A SANDBOX (cutbox-rows.mjs): the forced cells as the released guide's own fill.sh prints them over the translation b58b84660eab50c7… (all of the seat's roots in one cut). By AI agents, Wed Nov 11 2026. No macro, syntax, notation, axiom, sorry.
-/
import Derived.Test.YtnomakoomapdbaaChecked
import GoSem.Claim
import GoSem.ClaimJoined
import GoSem.ClaimMapViews
import Derived.JoinedTies
import Derived.KernelRfl
namespace Go.Proofs.Ytnomakoomapdbaa
/- THE CELL 'sum', in the pinned program and in every row, IS THE sha256 OF THE DUMP (.gsa) THAT YtnomakoomapdbaaProg.lean LOADS. Nothing in Lean hashes anything: it is a label: what it is worth is what the hold of that sum in a sandbox is worth. -/
noncomputable def Try.pinned : Pinned := { name := "ytnomakoomapdbaa", sum := "b58b84660eab50c72d702d5defa2d5bb868100081f455953eba8a0fd04a86fef", checked := Try.checked }
namespace Rows
def none {H : Type} : Left H := { results := [], args := [] }

/-- 'icehalllaw05.AirRuns': WHATEVER THE INPUT: true; the input reads as it did. -/
def airRunsSpec : ChangeSpec := { name := "airRuns", fn := fun _ => fun
  | [d1, d2, d3, d4, d5] => { results := [.lit (.bool true)], args := [d1, d2, d3, d4, d5] }
  | _ => none }
def airRunsRow : OpenClaim := { program := "ytnomakoomapdbaa", sum := "b58b84660eab50c72d702d5defa2d5bb868100081f455953eba8a0fd04a86fef", func := "icehall/icehalllaw05.AirRuns", spec := "airRuns", unfollowed := true, recurses := true, apart := false }
def AirRunsSaid : Prop := airRunsRow.holds Try.pinned (OpenSpec.ofChange airRunsSpec)

/-- ITS FALSE NEIGHBOUR: 'it returns false'. Refute it at one input. -/
def airRunsWrong : ChangeSpec := { name := "airRuns", fn := fun _ => fun
  | [d1, d2, d3, d4, d5] => { results := [.lit (.bool false)], args := [d1, d2, d3, d4, d5] }
  | _ => none }
def AirRunsWrongFalsely : Prop := airRunsRow.holds Try.pinned (OpenSpec.ofChange airRunsWrong)

/-- 'icehalllaw05.AirDryers': WHATEVER THE INPUT: true; the input reads as it did. -/
def airDryersSpec : ChangeSpec := { name := "airDryers", fn := fun _ => fun
  | [d1, d2, d3] => { results := [.lit (.bool true)], args := [d1, d2, d3] }
  | _ => none }
def airDryersRow : OpenClaim := { program := "ytnomakoomapdbaa", sum := "b58b84660eab50c72d702d5defa2d5bb868100081f455953eba8a0fd04a86fef", func := "icehall/icehalllaw05.AirDryers", spec := "airDryers", unfollowed := true, recurses := true, apart := false }
def AirDryersSaid : Prop := airDryersRow.holds Try.pinned (OpenSpec.ofChange airDryersSpec)

/-- ITS FALSE NEIGHBOUR: 'it returns false'. Refute it at one input. -/
def airDryersWrong : ChangeSpec := { name := "airDryers", fn := fun _ => fun
  | [d1, d2, d3] => { results := [.lit (.bool false)], args := [d1, d2, d3] }
  | _ => none }
def AirDryersWrongFalsely : Prop := airDryersRow.holds Try.pinned (OpenSpec.ofChange airDryersWrong)

/-- 'icehalllaw05.AirTrue': WHATEVER THE INPUT: true; the input reads as it did. -/
def airTrueSpec : ChangeSpec := { name := "airTrue", fn := fun _ => fun
  | [d1, d2, d3, d4, d5] => { results := [.lit (.bool true)], args := [d1, d2, d3, d4, d5] }
  | _ => none }
def airTrueRow : OpenClaim := { program := "ytnomakoomapdbaa", sum := "b58b84660eab50c72d702d5defa2d5bb868100081f455953eba8a0fd04a86fef", func := "icehall/icehalllaw05.AirTrue", spec := "airTrue", unfollowed := true, recurses := true, apart := false }
def AirTrueSaid : Prop := airTrueRow.holds Try.pinned (OpenSpec.ofChange airTrueSpec)

/-- ITS FALSE NEIGHBOUR: 'it returns false'. Refute it at one input. -/
def airTrueWrong : ChangeSpec := { name := "airTrue", fn := fun _ => fun
  | [d1, d2, d3, d4, d5] => { results := [.lit (.bool false)], args := [d1, d2, d3, d4, d5] }
  | _ => none }
def AirTrueWrongFalsely : Prop := airTrueRow.holds Try.pinned (OpenSpec.ofChange airTrueWrong)

/-- 'icehalllaw05.AirParts': WHATEVER THE INPUT: true; the input reads as it did. -/
def airPartsSpec : ChangeSpec := { name := "airParts", fn := fun _ => fun
  | [d1, d2, d3, d4, d5] => { results := [.lit (.bool true)], args := [d1, d2, d3, d4, d5] }
  | _ => none }
def airPartsRow : OpenClaim := { program := "ytnomakoomapdbaa", sum := "b58b84660eab50c72d702d5defa2d5bb868100081f455953eba8a0fd04a86fef", func := "icehall/icehalllaw05.AirParts", spec := "airParts", unfollowed := true, recurses := true, apart := false }
def AirPartsSaid : Prop := airPartsRow.holds Try.pinned (OpenSpec.ofChange airPartsSpec)

/-- ITS FALSE NEIGHBOUR: 'it returns false'. Refute it at one input. -/
def airPartsWrong : ChangeSpec := { name := "airParts", fn := fun _ => fun
  | [d1, d2, d3, d4, d5] => { results := [.lit (.bool false)], args := [d1, d2, d3, d4, d5] }
  | _ => none }
def AirPartsWrongFalsely : Prop := airPartsRow.holds Try.pinned (OpenSpec.ofChange airPartsWrong)

/-- 'icehalllaw05.AirDrier': WHATEVER THE INPUT: true; the input reads as it did. -/
def airDrierSpec : ChangeSpec := { name := "airDrier", fn := fun _ => fun
  | [d1, d2, d3, d4, d5] => { results := [.lit (.bool true)], args := [d1, d2, d3, d4, d5] }
  | _ => none }
def airDrierRow : OpenClaim := { program := "ytnomakoomapdbaa", sum := "b58b84660eab50c72d702d5defa2d5bb868100081f455953eba8a0fd04a86fef", func := "icehall/icehalllaw05.AirDrier", spec := "airDrier", unfollowed := true, recurses := true, apart := false }
def AirDrierSaid : Prop := airDrierRow.holds Try.pinned (OpenSpec.ofChange airDrierSpec)

/-- ITS FALSE NEIGHBOUR: 'it returns false'. Refute it at one input. -/
def airDrierWrong : ChangeSpec := { name := "airDrier", fn := fun _ => fun
  | [d1, d2, d3, d4, d5] => { results := [.lit (.bool false)], args := [d1, d2, d3, d4, d5] }
  | _ => none }
def AirDrierWrongFalsely : Prop := airDrierRow.holds Try.pinned (OpenSpec.ofChange airDrierWrong)

/-- 'icehalllaw05.AirHolds': WHATEVER THE INPUT: true; the input reads as it did. -/
def airHoldsSpec : ChangeSpec := { name := "airHolds", fn := fun _ => fun
  | [d1, d2, d3] => { results := [.lit (.bool true)], args := [d1, d2, d3] }
  | _ => none }
def airHoldsRow : OpenClaim := { program := "ytnomakoomapdbaa", sum := "b58b84660eab50c72d702d5defa2d5bb868100081f455953eba8a0fd04a86fef", func := "icehall/icehalllaw05.AirHolds", spec := "airHolds", unfollowed := true, recurses := true, apart := false }
def AirHoldsSaid : Prop := airHoldsRow.holds Try.pinned (OpenSpec.ofChange airHoldsSpec)

/-- ITS FALSE NEIGHBOUR: 'it returns false'. Refute it at one input. -/
def airHoldsWrong : ChangeSpec := { name := "airHolds", fn := fun _ => fun
  | [d1, d2, d3] => { results := [.lit (.bool false)], args := [d1, d2, d3] }
  | _ => none }
def AirHoldsWrongFalsely : Prop := airHoldsRow.holds Try.pinned (OpenSpec.ofChange airHoldsWrong)

/- THE SECOND FORM. 'bulk': how many values and letters a reading holds, each counted each time it is reached (what is shared counts as often as it is met; a slice's spare places count too). A statement '..UptoSaid' is the law's where the arguments, and the package variables that the reading takes, are together of bulk at most 1048576: NARROWER than '..Said'. Prove '..Said' where nothing that the law and all that it calls make is longer than what came in: it says more and counts as full. Else prove '..UptoSaid'. A law counts once. -/
mutual
def uptoBulk {H : Type} : DataW H → Nat
  | .lit (.string bytes) => bytes.length + 1
  | .lit _ => 1
  | .nil => 1
  | .ptr d => uptoBulk d + 1
  | .slice elems spare => uptoBulkAll elems + uptoBulkAll spare + 1
  | .agg parts => uptoBulkAll parts + 1
  | .iface _ d => uptoBulk d + 1
  | .map entries => uptoBulkEntries entries + 1
  | .held _ => 1
def uptoBulkAll {H : Type} : List (DataW H) → Nat
  | [] => 0
  | d :: r => uptoBulk d + uptoBulkAll r
def uptoBulkEntries {H : Type} : List (Lit × DataW H) → Nat
  | [] => 0
  | x :: r => uptoBulkEntry x + uptoBulkEntries r
def uptoBulkEntry {H : Type} : Lit × DataW H → Nat
  | (.string bytes, d) => bytes.length + uptoBulk d + 1
  | (_, d) => uptoBulk d + 1
 end
def uptoSmall : (H : Type) → List (DataW H) → Bool := fun _ ds => decide (uptoBulkAll ds ≤ 1048576)
def OpenSpec.upto (s : _root_.Go.ChangeSpec) : _root_.Go.OpenSpec := { _root_.Go.OpenSpec.ofChange s with cond := some uptoSmall }

/-- 'icehalllaw05.AirRuns', WHERE WHAT IT READS IS OF BULK AT MOST 1048576: true; the input reads as it did. -/
def airRunsUptoRow : OpenClaim := { program := "ytnomakoomapdbaa", sum := "b58b84660eab50c72d702d5defa2d5bb868100081f455953eba8a0fd04a86fef", func := "icehall/icehalllaw05.AirRuns", spec := "airRuns", unfollowed := true, recurses := true, apart := false, narrowed := true }
def AirRunsUptoSaid : Prop := airRunsUptoRow.holds Try.pinned (OpenSpec.upto airRunsSpec)

/-- 'icehalllaw05.AirDryers', WHERE WHAT IT READS IS OF BULK AT MOST 1048576: true; the input reads as it did. -/
def airDryersUptoRow : OpenClaim := { program := "ytnomakoomapdbaa", sum := "b58b84660eab50c72d702d5defa2d5bb868100081f455953eba8a0fd04a86fef", func := "icehall/icehalllaw05.AirDryers", spec := "airDryers", unfollowed := true, recurses := true, apart := false, narrowed := true }
def AirDryersUptoSaid : Prop := airDryersUptoRow.holds Try.pinned (OpenSpec.upto airDryersSpec)

/-- 'icehalllaw05.AirTrue', WHERE WHAT IT READS IS OF BULK AT MOST 1048576: true; the input reads as it did. -/
def airTrueUptoRow : OpenClaim := { program := "ytnomakoomapdbaa", sum := "b58b84660eab50c72d702d5defa2d5bb868100081f455953eba8a0fd04a86fef", func := "icehall/icehalllaw05.AirTrue", spec := "airTrue", unfollowed := true, recurses := true, apart := false, narrowed := true }
def AirTrueUptoSaid : Prop := airTrueUptoRow.holds Try.pinned (OpenSpec.upto airTrueSpec)

/-- 'icehalllaw05.AirParts', WHERE WHAT IT READS IS OF BULK AT MOST 1048576: true; the input reads as it did. -/
def airPartsUptoRow : OpenClaim := { program := "ytnomakoomapdbaa", sum := "b58b84660eab50c72d702d5defa2d5bb868100081f455953eba8a0fd04a86fef", func := "icehall/icehalllaw05.AirParts", spec := "airParts", unfollowed := true, recurses := true, apart := false, narrowed := true }
def AirPartsUptoSaid : Prop := airPartsUptoRow.holds Try.pinned (OpenSpec.upto airPartsSpec)

/-- 'icehalllaw05.AirDrier', WHERE WHAT IT READS IS OF BULK AT MOST 1048576: true; the input reads as it did. -/
def airDrierUptoRow : OpenClaim := { program := "ytnomakoomapdbaa", sum := "b58b84660eab50c72d702d5defa2d5bb868100081f455953eba8a0fd04a86fef", func := "icehall/icehalllaw05.AirDrier", spec := "airDrier", unfollowed := true, recurses := true, apart := false, narrowed := true }
def AirDrierUptoSaid : Prop := airDrierUptoRow.holds Try.pinned (OpenSpec.upto airDrierSpec)

/-- 'icehalllaw05.AirHolds', WHERE WHAT IT READS IS OF BULK AT MOST 1048576: true; the input reads as it did. -/
def airHoldsUptoRow : OpenClaim := { program := "ytnomakoomapdbaa", sum := "b58b84660eab50c72d702d5defa2d5bb868100081f455953eba8a0fd04a86fef", func := "icehall/icehalllaw05.AirHolds", spec := "airHolds", unfollowed := true, recurses := true, apart := false, narrowed := true }
def AirHoldsUptoSaid : Prop := airHoldsUptoRow.holds Try.pinned (OpenSpec.upto airHoldsSpec)

end Rows
end Go.Proofs.Ytnomakoomapdbaa
