/-
  No cell of these rows narrows 'for every input' (looked for: loops, veiled, ifaces, maps, wideKeys, modest, calm, conditions, laid).
  DERIVED. THE GIVEN ROWS OF THIS SEAT. 8 by the template 'for every input the law returns true; each argument reads behind the call as it read before'; 0 by the template 'total and deterministic' (their statements: YtnccjojfpkjihaaTotals.lean).
  GIVEN WITH THE SEED: the statements are not yours to turn. If you find one false, say at which input.
  Laid BY PROGRAM, IN A SANDBOX (cutbox-rows.mjs): the forced cells as the released guide's own fill.sh prints them over the translation 79e2460a8dc4af1e… (all of the seat's roots in one cut). By AI agents, Wed Nov 11 2026. No macro, syntax, notation, axiom, sorry.
-/
import Derived.Test.YtnccjojfpkjihaaChecked
import GoSem.Claim
import GoSem.ClaimJoined
import GoSem.ClaimMapViews
import Derived.JoinedTies
import Derived.KernelRfl
namespace Go.Proofs.Ytnccjojfpkjihaa
/- THE CELL 'sum', in the pinned program and in every row, IS THE sha256 OF THE DUMP (.gsa) THAT YtnccjojfpkjihaaProg.lean LOADS. Nothing in Lean hashes anything: it is a label: what it is worth is what the hold of that sum in a sandbox is worth. -/
noncomputable def Try.pinned : Pinned := { name := "ytnccjojfpkjihaa", sum := "79e2460a8dc4af1e39a81a21755d51cbbe20a4c5aa9e077fd2f120eb0baef2fe", checked := Try.checked }
namespace Rows
def none {H : Type} : Left H := { results := [], args := [] }

/-- 'icehalllaw08.PanelSeats': WHATEVER THE INPUT: true; the input reads as it did. -/
def panelSeatsSpec : ChangeSpec := { name := "panelSeats", fn := fun _ => fun
  | [d1, d2] => { results := [.lit (.bool true)], args := [d1, d2] }
  | _ => none }
def panelSeatsRow : OpenClaim := { program := "ytnccjojfpkjihaa", sum := "79e2460a8dc4af1e39a81a21755d51cbbe20a4c5aa9e077fd2f120eb0baef2fe", func := "icehall/icehalllaw08.PanelSeats", spec := "panelSeats", unfollowed := true, recurses := true, apart := false }
def PanelSeatsSaid : Prop := panelSeatsRow.holds Try.pinned (OpenSpec.ofChange panelSeatsSpec)

/-- ITS FALSE NEIGHBOUR: 'it returns false'. Refute it at one input. -/
def panelSeatsWrong : ChangeSpec := { name := "panelSeats", fn := fun _ => fun
  | [d1, d2] => { results := [.lit (.bool false)], args := [d1, d2] }
  | _ => none }
def PanelSeatsWrongFalsely : Prop := panelSeatsRow.holds Try.pinned (OpenSpec.ofChange panelSeatsWrong)

/-- 'icehalllaw08.PanelCalls': WHATEVER THE INPUT: true; the input reads as it did. -/
def panelCallsSpec : ChangeSpec := { name := "panelCalls", fn := fun _ => fun
  | [d1, d2, d3, d4, d5] => { results := [.lit (.bool true)], args := [d1, d2, d3, d4, d5] }
  | _ => none }
def panelCallsRow : OpenClaim := { program := "ytnccjojfpkjihaa", sum := "79e2460a8dc4af1e39a81a21755d51cbbe20a4c5aa9e077fd2f120eb0baef2fe", func := "icehall/icehalllaw08.PanelCalls", spec := "panelCalls", unfollowed := true, recurses := true, apart := false }
def PanelCallsSaid : Prop := panelCallsRow.holds Try.pinned (OpenSpec.ofChange panelCallsSpec)

/-- ITS FALSE NEIGHBOUR: 'it returns false'. Refute it at one input. -/
def panelCallsWrong : ChangeSpec := { name := "panelCalls", fn := fun _ => fun
  | [d1, d2, d3, d4, d5] => { results := [.lit (.bool false)], args := [d1, d2, d3, d4, d5] }
  | _ => none }
def PanelCallsWrongFalsely : Prop := panelCallsRow.holds Try.pinned (OpenSpec.ofChange panelCallsWrong)

/-- 'icehalllaw08.PanelOwn': WHATEVER THE INPUT: true; the input reads as it did. -/
def panelOwnSpec : ChangeSpec := { name := "panelOwn", fn := fun _ => fun
  | [d1, d2, d3] => { results := [.lit (.bool true)], args := [d1, d2, d3] }
  | _ => none }
def panelOwnRow : OpenClaim := { program := "ytnccjojfpkjihaa", sum := "79e2460a8dc4af1e39a81a21755d51cbbe20a4c5aa9e077fd2f120eb0baef2fe", func := "icehall/icehalllaw08.PanelOwn", spec := "panelOwn", unfollowed := true, recurses := true, apart := false }
def PanelOwnSaid : Prop := panelOwnRow.holds Try.pinned (OpenSpec.ofChange panelOwnSpec)

/-- ITS FALSE NEIGHBOUR: 'it returns false'. Refute it at one input. -/
def panelOwnWrong : ChangeSpec := { name := "panelOwn", fn := fun _ => fun
  | [d1, d2, d3] => { results := [.lit (.bool false)], args := [d1, d2, d3] }
  | _ => none }
def PanelOwnWrongFalsely : Prop := panelOwnRow.holds Try.pinned (OpenSpec.ofChange panelOwnWrong)

/-- 'icehalllaw08.PanelMore': WHATEVER THE INPUT: true; the input reads as it did. -/
def panelMoreSpec : ChangeSpec := { name := "panelMore", fn := fun _ => fun
  | [d1, d2, d3, d4] => { results := [.lit (.bool true)], args := [d1, d2, d3, d4] }
  | _ => none }
def panelMoreRow : OpenClaim := { program := "ytnccjojfpkjihaa", sum := "79e2460a8dc4af1e39a81a21755d51cbbe20a4c5aa9e077fd2f120eb0baef2fe", func := "icehall/icehalllaw08.PanelMore", spec := "panelMore", unfollowed := true, recurses := true, apart := false }
def PanelMoreSaid : Prop := panelMoreRow.holds Try.pinned (OpenSpec.ofChange panelMoreSpec)

/-- ITS FALSE NEIGHBOUR: 'it returns false'. Refute it at one input. -/
def panelMoreWrong : ChangeSpec := { name := "panelMore", fn := fun _ => fun
  | [d1, d2, d3, d4] => { results := [.lit (.bool false)], args := [d1, d2, d3, d4] }
  | _ => none }
def PanelMoreWrongFalsely : Prop := panelMoreRow.holds Try.pinned (OpenSpec.ofChange panelMoreWrong)

/-- 'icehalllaw08.PanelExact': WHATEVER THE INPUT: true; the input reads as it did. -/
def panelExactSpec : ChangeSpec := { name := "panelExact", fn := fun _ => fun
  | [d1, d2, d3, d4] => { results := [.lit (.bool true)], args := [d1, d2, d3, d4] }
  | _ => none }
def panelExactRow : OpenClaim := { program := "ytnccjojfpkjihaa", sum := "79e2460a8dc4af1e39a81a21755d51cbbe20a4c5aa9e077fd2f120eb0baef2fe", func := "icehall/icehalllaw08.PanelExact", spec := "panelExact", unfollowed := true, recurses := true, apart := false }
def PanelExactSaid : Prop := panelExactRow.holds Try.pinned (OpenSpec.ofChange panelExactSpec)

/-- ITS FALSE NEIGHBOUR: 'it returns false'. Refute it at one input. -/
def panelExactWrong : ChangeSpec := { name := "panelExact", fn := fun _ => fun
  | [d1, d2, d3, d4] => { results := [.lit (.bool false)], args := [d1, d2, d3, d4] }
  | _ => none }
def PanelExactWrongFalsely : Prop := panelExactRow.holds Try.pinned (OpenSpec.ofChange panelExactWrong)

/-- 'icehalllaw08.PanelVotes': WHATEVER THE INPUT: true; the input reads as it did. -/
def panelVotesSpec : ChangeSpec := { name := "panelVotes", fn := fun _ => fun
  | [d1, d2, d3, d4, d5, d6] => { results := [.lit (.bool true)], args := [d1, d2, d3, d4, d5, d6] }
  | _ => none }
def panelVotesRow : OpenClaim := { program := "ytnccjojfpkjihaa", sum := "79e2460a8dc4af1e39a81a21755d51cbbe20a4c5aa9e077fd2f120eb0baef2fe", func := "icehall/icehalllaw08.PanelVotes", spec := "panelVotes", unfollowed := true, recurses := true, apart := false }
def PanelVotesSaid : Prop := panelVotesRow.holds Try.pinned (OpenSpec.ofChange panelVotesSpec)

/-- ITS FALSE NEIGHBOUR: 'it returns false'. Refute it at one input. -/
def panelVotesWrong : ChangeSpec := { name := "panelVotes", fn := fun _ => fun
  | [d1, d2, d3, d4, d5, d6] => { results := [.lit (.bool false)], args := [d1, d2, d3, d4, d5, d6] }
  | _ => none }
def PanelVotesWrongFalsely : Prop := panelVotesRow.holds Try.pinned (OpenSpec.ofChange panelVotesWrong)

/-- 'icehalllaw08.PanelBias': WHATEVER THE INPUT: true; the input reads as it did. -/
def panelBiasSpec : ChangeSpec := { name := "panelBias", fn := fun _ => fun
  | [d1, d2, d3] => { results := [.lit (.bool true)], args := [d1, d2, d3] }
  | _ => none }
def panelBiasRow : OpenClaim := { program := "ytnccjojfpkjihaa", sum := "79e2460a8dc4af1e39a81a21755d51cbbe20a4c5aa9e077fd2f120eb0baef2fe", func := "icehall/icehalllaw08.PanelBias", spec := "panelBias", unfollowed := true, recurses := true, apart := false }
def PanelBiasSaid : Prop := panelBiasRow.holds Try.pinned (OpenSpec.ofChange panelBiasSpec)

/-- ITS FALSE NEIGHBOUR: 'it returns false'. Refute it at one input. -/
def panelBiasWrong : ChangeSpec := { name := "panelBias", fn := fun _ => fun
  | [d1, d2, d3] => { results := [.lit (.bool false)], args := [d1, d2, d3] }
  | _ => none }
def PanelBiasWrongFalsely : Prop := panelBiasRow.holds Try.pinned (OpenSpec.ofChange panelBiasWrong)

/-- 'icehalllaw08.PanelBiased': WHATEVER THE INPUT: true; the input reads as it did. -/
def panelBiasedSpec : ChangeSpec := { name := "panelBiased", fn := fun _ => fun
  | [d1, d2, d3] => { results := [.lit (.bool true)], args := [d1, d2, d3] }
  | _ => none }
def panelBiasedRow : OpenClaim := { program := "ytnccjojfpkjihaa", sum := "79e2460a8dc4af1e39a81a21755d51cbbe20a4c5aa9e077fd2f120eb0baef2fe", func := "icehall/icehalllaw08.PanelBiased", spec := "panelBiased", unfollowed := true, recurses := true, apart := false }
def PanelBiasedSaid : Prop := panelBiasedRow.holds Try.pinned (OpenSpec.ofChange panelBiasedSpec)

/-- ITS FALSE NEIGHBOUR: 'it returns false'. Refute it at one input. -/
def panelBiasedWrong : ChangeSpec := { name := "panelBiased", fn := fun _ => fun
  | [d1, d2, d3] => { results := [.lit (.bool false)], args := [d1, d2, d3] }
  | _ => none }
def PanelBiasedWrongFalsely : Prop := panelBiasedRow.holds Try.pinned (OpenSpec.ofChange panelBiasedWrong)

/- THE SECOND FORM. 'bulk': how many values and letters a reading holds, each counted each time it is reached (what is shared counts as often as it is met; a slice's spare places count too). A statement '..UptoSaid' is the law's where the arguments, and the package variables that the reading takes, are together of bulk at most 1048576: NARROWER than '..Said'. Prove '..Said' where nothing that the law and all that it calls make is longer than what came in: it says more and counts as full. Else prove '..UptoSaid'. A law counts once. -/
mutual
def uptoBulk {H : Type} : DataW H → Nat
  | .lit (.string bytes) => bytes.length + 1
  | .lit _ => 1
  | .nil => 1
  | .ptr d => uptoBulk d + 1
  | .slice elems spare => uptoBulkAll elems + uptoBulkAll spare + 1
  | .agg parts => uptoBulkAll parts + 1
  | .iface _ d => uptoBulk d + 1
  | .map entries => uptoBulkEntries entries + 1
  | .held _ => 1
def uptoBulkAll {H : Type} : List (DataW H) → Nat
  | [] => 0
  | d :: r => uptoBulk d + uptoBulkAll r
def uptoBulkEntries {H : Type} : List (Lit × DataW H) → Nat
  | [] => 0
  | x :: r => uptoBulkEntry x + uptoBulkEntries r
def uptoBulkEntry {H : Type} : Lit × DataW H → Nat
  | (.string bytes, d) => bytes.length + uptoBulk d + 1
  | (_, d) => uptoBulk d + 1
 end
def uptoSmall : (H : Type) → List (DataW H) → Bool := fun _ ds => decide (uptoBulkAll ds ≤ 1048576)
def OpenSpec.upto (s : _root_.Go.ChangeSpec) : _root_.Go.OpenSpec := { _root_.Go.OpenSpec.ofChange s with cond := some uptoSmall }

/-- 'icehalllaw08.PanelSeats', WHERE WHAT IT READS IS OF BULK AT MOST 1048576: true; the input reads as it did. -/
def panelSeatsUptoRow : OpenClaim := { program := "ytnccjojfpkjihaa", sum := "79e2460a8dc4af1e39a81a21755d51cbbe20a4c5aa9e077fd2f120eb0baef2fe", func := "icehall/icehalllaw08.PanelSeats", spec := "panelSeats", unfollowed := true, recurses := true, apart := false, narrowed := true }
def PanelSeatsUptoSaid : Prop := panelSeatsUptoRow.holds Try.pinned (OpenSpec.upto panelSeatsSpec)

/-- 'icehalllaw08.PanelCalls', WHERE WHAT IT READS IS OF BULK AT MOST 1048576: true; the input reads as it did. -/
def panelCallsUptoRow : OpenClaim := { program := "ytnccjojfpkjihaa", sum := "79e2460a8dc4af1e39a81a21755d51cbbe20a4c5aa9e077fd2f120eb0baef2fe", func := "icehall/icehalllaw08.PanelCalls", spec := "panelCalls", unfollowed := true, recurses := true, apart := false, narrowed := true }
def PanelCallsUptoSaid : Prop := panelCallsUptoRow.holds Try.pinned (OpenSpec.upto panelCallsSpec)

/-- 'icehalllaw08.PanelOwn', WHERE WHAT IT READS IS OF BULK AT MOST 1048576: true; the input reads as it did. -/
def panelOwnUptoRow : OpenClaim := { program := "ytnccjojfpkjihaa", sum := "79e2460a8dc4af1e39a81a21755d51cbbe20a4c5aa9e077fd2f120eb0baef2fe", func := "icehall/icehalllaw08.PanelOwn", spec := "panelOwn", unfollowed := true, recurses := true, apart := false, narrowed := true }
def PanelOwnUptoSaid : Prop := panelOwnUptoRow.holds Try.pinned (OpenSpec.upto panelOwnSpec)

/-- 'icehalllaw08.PanelMore', WHERE WHAT IT READS IS OF BULK AT MOST 1048576: true; the input reads as it did. -/
def panelMoreUptoRow : OpenClaim := { program := "ytnccjojfpkjihaa", sum := "79e2460a8dc4af1e39a81a21755d51cbbe20a4c5aa9e077fd2f120eb0baef2fe", func := "icehall/icehalllaw08.PanelMore", spec := "panelMore", unfollowed := true, recurses := true, apart := false, narrowed := true }
def PanelMoreUptoSaid : Prop := panelMoreUptoRow.holds Try.pinned (OpenSpec.upto panelMoreSpec)

/-- 'icehalllaw08.PanelExact', WHERE WHAT IT READS IS OF BULK AT MOST 1048576: true; the input reads as it did. -/
def panelExactUptoRow : OpenClaim := { program := "ytnccjojfpkjihaa", sum := "79e2460a8dc4af1e39a81a21755d51cbbe20a4c5aa9e077fd2f120eb0baef2fe", func := "icehall/icehalllaw08.PanelExact", spec := "panelExact", unfollowed := true, recurses := true, apart := false, narrowed := true }
def PanelExactUptoSaid : Prop := panelExactUptoRow.holds Try.pinned (OpenSpec.upto panelExactSpec)

/-- 'icehalllaw08.PanelVotes', WHERE WHAT IT READS IS OF BULK AT MOST 1048576: true; the input reads as it did. -/
def panelVotesUptoRow : OpenClaim := { program := "ytnccjojfpkjihaa", sum := "79e2460a8dc4af1e39a81a21755d51cbbe20a4c5aa9e077fd2f120eb0baef2fe", func := "icehall/icehalllaw08.PanelVotes", spec := "panelVotes", unfollowed := true, recurses := true, apart := false, narrowed := true }
def PanelVotesUptoSaid : Prop := panelVotesUptoRow.holds Try.pinned (OpenSpec.upto panelVotesSpec)

/-- 'icehalllaw08.PanelBias', WHERE WHAT IT READS IS OF BULK AT MOST 1048576: true; the input reads as it did. -/
def panelBiasUptoRow : OpenClaim := { program := "ytnccjojfpkjihaa", sum := "79e2460a8dc4af1e39a81a21755d51cbbe20a4c5aa9e077fd2f120eb0baef2fe", func := "icehall/icehalllaw08.PanelBias", spec := "panelBias", unfollowed := true, recurses := true, apart := false, narrowed := true }
def PanelBiasUptoSaid : Prop := panelBiasUptoRow.holds Try.pinned (OpenSpec.upto panelBiasSpec)

/-- 'icehalllaw08.PanelBiased', WHERE WHAT IT READS IS OF BULK AT MOST 1048576: true; the input reads as it did. -/
def panelBiasedUptoRow : OpenClaim := { program := "ytnccjojfpkjihaa", sum := "79e2460a8dc4af1e39a81a21755d51cbbe20a4c5aa9e077fd2f120eb0baef2fe", func := "icehall/icehalllaw08.PanelBiased", spec := "panelBiased", unfollowed := true, recurses := true, apart := false, narrowed := true }
def PanelBiasedUptoSaid : Prop := panelBiasedUptoRow.holds Try.pinned (OpenSpec.upto panelBiasedSpec)

end Rows
end Go.Proofs.Ytnccjojfpkjihaa
