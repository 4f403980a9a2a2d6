/-
  No cell of these rows narrows 'for every input' (looked for: loops, veiled, ifaces, maps, wideKeys, modest, calm, conditions, laid).
  DERIVED. THE GIVEN ROWS OF THIS SEAT. 3 by the template 'for every input the law returns true; each argument reads behind the call as it read before'; 0 by the template 'total and deterministic' (their statements: YthidhbamcmgloaaTotals.lean).
  GIVEN WITH THE SEED: the statements are not yours to turn. If you find one false, say at which input.
  Laid BY PROGRAM, IN A SANDBOX (cutbox-rows.mjs): the forced cells as the released guide's own fill.sh prints them over the translation 14ead6188d5b8aca… (all of the seat's roots in one cut). By AI agents, Wed Nov 11 2026. No macro, syntax, notation, axiom, sorry.
-/
import Derived.Test.YthidhbamcmgloaaChecked
import GoSem.Claim
import GoSem.ClaimJoined
import GoSem.ClaimMapViews
import Derived.JoinedTies
import Derived.KernelRfl
namespace Go.Proofs.Ythidhbamcmgloaa
/- THE CELL 'sum', in the pinned program and in every row, IS THE sha256 OF THE DUMP (.gsa) THAT YthidhbamcmgloaaProg.lean LOADS. Nothing in Lean hashes anything: it is a label: what it is worth is what the hold of that sum in a sandbox is worth. -/
noncomputable def Try.pinned : Pinned := { name := "ythidhbamcmgloaa", sum := "14ead6188d5b8aca5ce291dc02359ed9cadac1904ddbff6993e0402c40e7104c", checked := Try.checked }
namespace Rows
def none {H : Type} : Left H := { results := [], args := [] }

/-- 'icehalltop.TopRent': WHATEVER THE INPUT: true; the input reads as it did. -/
def topRentSpec : ChangeSpec := { name := "topRent", fn := fun _ => fun
  | [d1, d2] => { results := [.lit (.bool true)], args := [d1, d2] }
  | _ => none }
def topRentRow : OpenClaim := { program := "ythidhbamcmgloaa", sum := "14ead6188d5b8aca5ce291dc02359ed9cadac1904ddbff6993e0402c40e7104c", func := "icehall/icehalltop.TopRent", spec := "topRent", unfollowed := true, recurses := true, plainKeys := false, apart := false }
def TopRentSaid : Prop := topRentRow.holds Try.pinned (OpenSpec.ofChange topRentSpec)

/-- ITS FALSE NEIGHBOUR: 'it returns false'. Refute it at one input. -/
def topRentWrong : ChangeSpec := { name := "topRent", fn := fun _ => fun
  | [d1, d2] => { results := [.lit (.bool false)], args := [d1, d2] }
  | _ => none }
def TopRentWrongFalsely : Prop := topRentRow.holds Try.pinned (OpenSpec.ofChange topRentWrong)

/-- 'icehalltop.TopCold': WHATEVER THE INPUT: true; the input reads as it did. -/
def topColdSpec : ChangeSpec := { name := "topCold", fn := fun _ => fun
  | [d1, d2, d3] => { results := [.lit (.bool true)], args := [d1, d2, d3] }
  | _ => none }
def topColdRow : OpenClaim := { program := "ythidhbamcmgloaa", sum := "14ead6188d5b8aca5ce291dc02359ed9cadac1904ddbff6993e0402c40e7104c", func := "icehall/icehalltop.TopCold", spec := "topCold", unfollowed := true, recurses := true, plainKeys := false, apart := false }
def TopColdSaid : Prop := topColdRow.holds Try.pinned (OpenSpec.ofChange topColdSpec)

/-- ITS FALSE NEIGHBOUR: 'it returns false'. Refute it at one input. -/
def topColdWrong : ChangeSpec := { name := "topCold", fn := fun _ => fun
  | [d1, d2, d3] => { results := [.lit (.bool false)], args := [d1, d2, d3] }
  | _ => none }
def TopColdWrongFalsely : Prop := topColdRow.holds Try.pinned (OpenSpec.ofChange topColdWrong)

/-- 'icehalltop.TopLog': WHATEVER THE INPUT: true; the input reads as it did. -/
def topLogSpec : ChangeSpec := { name := "topLog", fn := fun _ => fun
  | [d1, d2, d3, d4, d5, d6, d7] => { results := [.lit (.bool true)], args := [d1, d2, d3, d4, d5, d6, d7] }
  | _ => none }
def topLogRow : OpenClaim := { program := "ythidhbamcmgloaa", sum := "14ead6188d5b8aca5ce291dc02359ed9cadac1904ddbff6993e0402c40e7104c", func := "icehall/icehalltop.TopLog", spec := "topLog", unfollowed := true, recurses := true, plainKeys := false, apart := false }
def TopLogSaid : Prop := topLogRow.holds Try.pinned (OpenSpec.ofChange topLogSpec)

/-- ITS FALSE NEIGHBOUR: 'it returns false'. Refute it at one input. -/
def topLogWrong : ChangeSpec := { name := "topLog", fn := fun _ => fun
  | [d1, d2, d3, d4, d5, d6, d7] => { results := [.lit (.bool false)], args := [d1, d2, d3, d4, d5, d6, d7] }
  | _ => none }
def TopLogWrongFalsely : Prop := topLogRow.holds Try.pinned (OpenSpec.ofChange topLogWrong)

/- THE SECOND FORM. 'bulk': how many values and letters a reading holds, each counted each time it is reached (what is shared counts as often as it is met; a slice's spare places count too). A statement '..UptoSaid' is the law's where the arguments, and the package variables that the reading takes, are together of bulk at most 1048576: NARROWER than '..Said'. Prove '..Said' where nothing that the law and all that it calls make is longer than what came in: it says more and counts as full. Else prove '..UptoSaid'. A law counts once. -/
mutual
def uptoBulk {H : Type} : DataW H → Nat
  | .lit (.string bytes) => bytes.length + 1
  | .lit _ => 1
  | .nil => 1
  | .ptr d => uptoBulk d + 1
  | .slice elems spare => uptoBulkAll elems + uptoBulkAll spare + 1
  | .agg parts => uptoBulkAll parts + 1
  | .iface _ d => uptoBulk d + 1
  | .map entries => uptoBulkEntries entries + 1
  | .held _ => 1
def uptoBulkAll {H : Type} : List (DataW H) → Nat
  | [] => 0
  | d :: r => uptoBulk d + uptoBulkAll r
def uptoBulkEntries {H : Type} : List (Lit × DataW H) → Nat
  | [] => 0
  | x :: r => uptoBulkEntry x + uptoBulkEntries r
def uptoBulkEntry {H : Type} : Lit × DataW H → Nat
  | (.string bytes, d) => bytes.length + uptoBulk d + 1
  | (_, d) => uptoBulk d + 1
 end
def uptoSmall : (H : Type) → List (DataW H) → Bool := fun _ ds => decide (uptoBulkAll ds ≤ 1048576)
def OpenSpec.upto (s : _root_.Go.ChangeSpec) : _root_.Go.OpenSpec := { _root_.Go.OpenSpec.ofChange s with cond := some uptoSmall }

/-- 'icehalltop.TopRent', WHERE WHAT IT READS IS OF BULK AT MOST 1048576: true; the input reads as it did. -/
def topRentUptoRow : OpenClaim := { program := "ythidhbamcmgloaa", sum := "14ead6188d5b8aca5ce291dc02359ed9cadac1904ddbff6993e0402c40e7104c", func := "icehall/icehalltop.TopRent", spec := "topRent", unfollowed := true, recurses := true, plainKeys := false, apart := false, narrowed := true }
def TopRentUptoSaid : Prop := topRentUptoRow.holds Try.pinned (OpenSpec.upto topRentSpec)

/-- 'icehalltop.TopCold', WHERE WHAT IT READS IS OF BULK AT MOST 1048576: true; the input reads as it did. -/
def topColdUptoRow : OpenClaim := { program := "ythidhbamcmgloaa", sum := "14ead6188d5b8aca5ce291dc02359ed9cadac1904ddbff6993e0402c40e7104c", func := "icehall/icehalltop.TopCold", spec := "topCold", unfollowed := true, recurses := true, plainKeys := false, apart := false, narrowed := true }
def TopColdUptoSaid : Prop := topColdUptoRow.holds Try.pinned (OpenSpec.upto topColdSpec)

/-- 'icehalltop.TopLog', WHERE WHAT IT READS IS OF BULK AT MOST 1048576: true; the input reads as it did. -/
def topLogUptoRow : OpenClaim := { program := "ythidhbamcmgloaa", sum := "14ead6188d5b8aca5ce291dc02359ed9cadac1904ddbff6993e0402c40e7104c", func := "icehall/icehalltop.TopLog", spec := "topLog", unfollowed := true, recurses := true, plainKeys := false, apart := false, narrowed := true }
def TopLogUptoSaid : Prop := topLogUptoRow.holds Try.pinned (OpenSpec.upto topLogSpec)

end Rows
end Go.Proofs.Ythidhbamcmgloaa
