/-
  No cell of these rows narrows 'for every input' (looked for: loops, veiled, ifaces, maps, wideKeys, modest, calm, conditions, laid).
  DERIVED. THE GIVEN ROWS OF THIS SEAT. 8 by the template 'for every input the law returns true; each argument reads behind the call as it read before'; 0 by the template 'total and deterministic' (their statements: YtdecicbgjkeefaaTotals.lean).
  GIVEN WITH THE SEED: the statements are not yours to turn. If you find one false, say at which input.
  Laid BY PROGRAM, IN A SANDBOX (cutbox-rows.mjs): the forced cells as the released guide's own fill.sh prints them over the translation 1109ead96cf2d68e… (all of the seat's roots in one cut). By AI agents, Wed Nov 11 2026. No macro, syntax, notation, axiom, sorry.
-/
import Derived.Test.YtdecicbgjkeefaaChecked
import GoSem.Claim
import GoSem.ClaimJoined
import GoSem.ClaimMapViews
import Derived.JoinedTies
import Derived.KernelRfl
namespace Go.Proofs.Ytdecicbgjkeefaa
/- THE CELL 'sum', in the pinned program and in every row, IS THE sha256 OF THE DUMP (.gsa) THAT YtdecicbgjkeefaaProg.lean LOADS. Nothing in Lean hashes anything: it is a label: what it is worth is what the hold of that sum in a sandbox is worth. -/
noncomputable def Try.pinned : Pinned := { name := "ytdecicbgjkeefaa", sum := "1109ead96cf2d68eabb3d77353c780062cd8b44f95b44a73b4f118d7f705a833", checked := Try.checked }
namespace Rows
def none {H : Type} : Left H := { results := [], args := [] }

/-- 'icehalllaw03.PressCheapest': WHATEVER THE INPUT: true; the input reads as it did. -/
def pressCheapestSpec : ChangeSpec := { name := "pressCheapest", fn := fun _ => fun
  | [d] => { results := [.lit (.bool true)], args := [d] }
  | _ => none }
def pressCheapestRow : OpenClaim := { program := "ytdecicbgjkeefaa", sum := "1109ead96cf2d68eabb3d77353c780062cd8b44f95b44a73b4f118d7f705a833", func := "icehall/icehalllaw03.PressCheapest", spec := "pressCheapest", unfollowed := true, recurses := true, plainKeys := false, apart := false }
def PressCheapestSaid : Prop := pressCheapestRow.holds Try.pinned (OpenSpec.ofChange pressCheapestSpec)

/-- ITS FALSE NEIGHBOUR: 'it returns false'. Refute it at one input. -/
def pressCheapestWrong : ChangeSpec := { name := "pressCheapest", fn := fun _ => fun
  | [d] => { results := [.lit (.bool false)], args := [d] }
  | _ => none }
def PressCheapestWrongFalsely : Prop := pressCheapestRow.holds Try.pinned (OpenSpec.ofChange pressCheapestWrong)

/-- 'icehalllaw03.PressLeast': WHATEVER THE INPUT: true; the input reads as it did. -/
def pressLeastSpec : ChangeSpec := { name := "pressLeast", fn := fun _ => fun
  | [d1, d2] => { results := [.lit (.bool true)], args := [d1, d2] }
  | _ => none }
def pressLeastRow : OpenClaim := { program := "ytdecicbgjkeefaa", sum := "1109ead96cf2d68eabb3d77353c780062cd8b44f95b44a73b4f118d7f705a833", func := "icehall/icehalllaw03.PressLeast", spec := "pressLeast", unfollowed := true, recurses := true, plainKeys := false, apart := false }
def PressLeastSaid : Prop := pressLeastRow.holds Try.pinned (OpenSpec.ofChange pressLeastSpec)

/-- ITS FALSE NEIGHBOUR: 'it returns false'. Refute it at one input. -/
def pressLeastWrong : ChangeSpec := { name := "pressLeast", fn := fun _ => fun
  | [d1, d2] => { results := [.lit (.bool false)], args := [d1, d2] }
  | _ => none }
def PressLeastWrongFalsely : Prop := pressLeastRow.holds Try.pinned (OpenSpec.ofChange pressLeastWrong)

/-- 'icehalllaw03.PressLess': WHATEVER THE INPUT: true; the input reads as it did. -/
def pressLessSpec : ChangeSpec := { name := "pressLess", fn := fun _ => fun
  | [d1, d2, d3] => { results := [.lit (.bool true)], args := [d1, d2, d3] }
  | _ => none }
def pressLessRow : OpenClaim := { program := "ytdecicbgjkeefaa", sum := "1109ead96cf2d68eabb3d77353c780062cd8b44f95b44a73b4f118d7f705a833", func := "icehall/icehalllaw03.PressLess", spec := "pressLess", unfollowed := true, recurses := true, plainKeys := false, apart := false }
def PressLessSaid : Prop := pressLessRow.holds Try.pinned (OpenSpec.ofChange pressLessSpec)

/-- ITS FALSE NEIGHBOUR: 'it returns false'. Refute it at one input. -/
def pressLessWrong : ChangeSpec := { name := "pressLess", fn := fun _ => fun
  | [d1, d2, d3] => { results := [.lit (.bool false)], args := [d1, d2, d3] }
  | _ => none }
def PressLessWrongFalsely : Prop := pressLessRow.holds Try.pinned (OpenSpec.ofChange pressLessWrong)

/-- 'icehalllaw03.PressChecks': WHATEVER THE INPUT: true; the input reads as it did. -/
def pressChecksSpec : ChangeSpec := { name := "pressChecks", fn := fun _ => fun
  | [d1, d2] => { results := [.lit (.bool true)], args := [d1, d2] }
  | _ => none }
def pressChecksRow : OpenClaim := { program := "ytdecicbgjkeefaa", sum := "1109ead96cf2d68eabb3d77353c780062cd8b44f95b44a73b4f118d7f705a833", func := "icehall/icehalllaw03.PressChecks", spec := "pressChecks", unfollowed := true, recurses := true, plainKeys := false, apart := false }
def PressChecksSaid : Prop := pressChecksRow.holds Try.pinned (OpenSpec.ofChange pressChecksSpec)

/-- ITS FALSE NEIGHBOUR: 'it returns false'. Refute it at one input. -/
def pressChecksWrong : ChangeSpec := { name := "pressChecks", fn := fun _ => fun
  | [d1, d2] => { results := [.lit (.bool false)], args := [d1, d2] }
  | _ => none }
def PressChecksWrongFalsely : Prop := pressChecksRow.holds Try.pinned (OpenSpec.ofChange pressChecksWrong)

/-- 'icehalllaw03.PressNames': WHATEVER THE INPUT: true; the input reads as it did. -/
def pressNamesSpec : ChangeSpec := { name := "pressNames", fn := fun _ => fun
  | [] => { results := [.lit (.bool true)], args := [] }
  | _ => none }
def pressNamesRow : OpenClaim := { program := "ytdecicbgjkeefaa", sum := "1109ead96cf2d68eabb3d77353c780062cd8b44f95b44a73b4f118d7f705a833", func := "icehall/icehalllaw03.PressNames", spec := "pressNames", unfollowed := true, recurses := true, plainKeys := false, apart := false }
def PressNamesSaid : Prop := pressNamesRow.holds Try.pinned (OpenSpec.ofChange pressNamesSpec)

/-- ITS FALSE NEIGHBOUR: 'it returns false'. Refute it at one input. -/
def pressNamesWrong : ChangeSpec := { name := "pressNames", fn := fun _ => fun
  | [] => { results := [.lit (.bool false)], args := [] }
  | _ => none }
def PressNamesWrongFalsely : Prop := pressNamesRow.holds Try.pinned (OpenSpec.ofChange pressNamesWrong)

/-- 'icehalllaw03.PressCold': WHATEVER THE INPUT: true; the input reads as it did. -/
def pressColdSpec : ChangeSpec := { name := "pressCold", fn := fun _ => fun
  | [d1, d2] => { results := [.lit (.bool true)], args := [d1, d2] }
  | _ => none }
def pressColdRow : OpenClaim := { program := "ytdecicbgjkeefaa", sum := "1109ead96cf2d68eabb3d77353c780062cd8b44f95b44a73b4f118d7f705a833", func := "icehall/icehalllaw03.PressCold", spec := "pressCold", unfollowed := true, recurses := true, plainKeys := false, apart := false }
def PressColdSaid : Prop := pressColdRow.holds Try.pinned (OpenSpec.ofChange pressColdSpec)

/-- ITS FALSE NEIGHBOUR: 'it returns false'. Refute it at one input. -/
def pressColdWrong : ChangeSpec := { name := "pressCold", fn := fun _ => fun
  | [d1, d2] => { results := [.lit (.bool false)], args := [d1, d2] }
  | _ => none }
def PressColdWrongFalsely : Prop := pressColdRow.holds Try.pinned (OpenSpec.ofChange pressColdWrong)

/-- 'icehalllaw03.PressRest': WHATEVER THE INPUT: true; the input reads as it did. -/
def pressRestSpec : ChangeSpec := { name := "pressRest", fn := fun _ => fun
  | [d1, d2] => { results := [.lit (.bool true)], args := [d1, d2] }
  | _ => none }
def pressRestRow : OpenClaim := { program := "ytdecicbgjkeefaa", sum := "1109ead96cf2d68eabb3d77353c780062cd8b44f95b44a73b4f118d7f705a833", func := "icehall/icehalllaw03.PressRest", spec := "pressRest", unfollowed := true, recurses := true, plainKeys := false, apart := false }
def PressRestSaid : Prop := pressRestRow.holds Try.pinned (OpenSpec.ofChange pressRestSpec)

/-- ITS FALSE NEIGHBOUR: 'it returns false'. Refute it at one input. -/
def pressRestWrong : ChangeSpec := { name := "pressRest", fn := fun _ => fun
  | [d1, d2] => { results := [.lit (.bool false)], args := [d1, d2] }
  | _ => none }
def PressRestWrongFalsely : Prop := pressRestRow.holds Try.pinned (OpenSpec.ofChange pressRestWrong)

/-- 'icehalllaw03.PressOwns': WHATEVER THE INPUT: true; the input reads as it did. -/
def pressOwnsSpec : ChangeSpec := { name := "pressOwns", fn := fun _ => fun
  | [d1, d2] => { results := [.lit (.bool true)], args := [d1, d2] }
  | _ => none }
def pressOwnsRow : OpenClaim := { program := "ytdecicbgjkeefaa", sum := "1109ead96cf2d68eabb3d77353c780062cd8b44f95b44a73b4f118d7f705a833", func := "icehall/icehalllaw03.PressOwns", spec := "pressOwns", unfollowed := true, recurses := true, plainKeys := false, apart := false }
def PressOwnsSaid : Prop := pressOwnsRow.holds Try.pinned (OpenSpec.ofChange pressOwnsSpec)

/-- ITS FALSE NEIGHBOUR: 'it returns false'. Refute it at one input. -/
def pressOwnsWrong : ChangeSpec := { name := "pressOwns", fn := fun _ => fun
  | [d1, d2] => { results := [.lit (.bool false)], args := [d1, d2] }
  | _ => none }
def PressOwnsWrongFalsely : Prop := pressOwnsRow.holds Try.pinned (OpenSpec.ofChange pressOwnsWrong)

/- THE SECOND FORM. 'bulk': how many values and letters a reading holds, each counted each time it is reached (what is shared counts as often as it is met; a slice's spare places count too). A statement '..UptoSaid' is the law's where the arguments, and the package variables that the reading takes, are together of bulk at most 1048576: NARROWER than '..Said'. Prove '..Said' where nothing that the law and all that it calls make is longer than what came in: it says more and counts as full. Else prove '..UptoSaid'. A law counts once. -/
mutual
def uptoBulk {H : Type} : DataW H → Nat
  | .lit (.string bytes) => bytes.length + 1
  | .lit _ => 1
  | .nil => 1
  | .ptr d => uptoBulk d + 1
  | .slice elems spare => uptoBulkAll elems + uptoBulkAll spare + 1
  | .agg parts => uptoBulkAll parts + 1
  | .iface _ d => uptoBulk d + 1
  | .map entries => uptoBulkEntries entries + 1
  | .held _ => 1
def uptoBulkAll {H : Type} : List (DataW H) → Nat
  | [] => 0
  | d :: r => uptoBulk d + uptoBulkAll r
def uptoBulkEntries {H : Type} : List (Lit × DataW H) → Nat
  | [] => 0
  | x :: r => uptoBulkEntry x + uptoBulkEntries r
def uptoBulkEntry {H : Type} : Lit × DataW H → Nat
  | (.string bytes, d) => bytes.length + uptoBulk d + 1
  | (_, d) => uptoBulk d + 1
 end
def uptoSmall : (H : Type) → List (DataW H) → Bool := fun _ ds => decide (uptoBulkAll ds ≤ 1048576)
def OpenSpec.upto (s : _root_.Go.ChangeSpec) : _root_.Go.OpenSpec := { _root_.Go.OpenSpec.ofChange s with cond := some uptoSmall }

/-- 'icehalllaw03.PressCheapest', WHERE WHAT IT READS IS OF BULK AT MOST 1048576: true; the input reads as it did. -/
def pressCheapestUptoRow : OpenClaim := { program := "ytdecicbgjkeefaa", sum := "1109ead96cf2d68eabb3d77353c780062cd8b44f95b44a73b4f118d7f705a833", func := "icehall/icehalllaw03.PressCheapest", spec := "pressCheapest", unfollowed := true, recurses := true, plainKeys := false, apart := false, narrowed := true }
def PressCheapestUptoSaid : Prop := pressCheapestUptoRow.holds Try.pinned (OpenSpec.upto pressCheapestSpec)

/-- 'icehalllaw03.PressLeast', WHERE WHAT IT READS IS OF BULK AT MOST 1048576: true; the input reads as it did. -/
def pressLeastUptoRow : OpenClaim := { program := "ytdecicbgjkeefaa", sum := "1109ead96cf2d68eabb3d77353c780062cd8b44f95b44a73b4f118d7f705a833", func := "icehall/icehalllaw03.PressLeast", spec := "pressLeast", unfollowed := true, recurses := true, plainKeys := false, apart := false, narrowed := true }
def PressLeastUptoSaid : Prop := pressLeastUptoRow.holds Try.pinned (OpenSpec.upto pressLeastSpec)

/-- 'icehalllaw03.PressLess', WHERE WHAT IT READS IS OF BULK AT MOST 1048576: true; the input reads as it did. -/
def pressLessUptoRow : OpenClaim := { program := "ytdecicbgjkeefaa", sum := "1109ead96cf2d68eabb3d77353c780062cd8b44f95b44a73b4f118d7f705a833", func := "icehall/icehalllaw03.PressLess", spec := "pressLess", unfollowed := true, recurses := true, plainKeys := false, apart := false, narrowed := true }
def PressLessUptoSaid : Prop := pressLessUptoRow.holds Try.pinned (OpenSpec.upto pressLessSpec)

/-- 'icehalllaw03.PressChecks', WHERE WHAT IT READS IS OF BULK AT MOST 1048576: true; the input reads as it did. -/
def pressChecksUptoRow : OpenClaim := { program := "ytdecicbgjkeefaa", sum := "1109ead96cf2d68eabb3d77353c780062cd8b44f95b44a73b4f118d7f705a833", func := "icehall/icehalllaw03.PressChecks", spec := "pressChecks", unfollowed := true, recurses := true, plainKeys := false, apart := false, narrowed := true }
def PressChecksUptoSaid : Prop := pressChecksUptoRow.holds Try.pinned (OpenSpec.upto pressChecksSpec)

/-- 'icehalllaw03.PressNames', WHERE WHAT IT READS IS OF BULK AT MOST 1048576: true; the input reads as it did. -/
def pressNamesUptoRow : OpenClaim := { program := "ytdecicbgjkeefaa", sum := "1109ead96cf2d68eabb3d77353c780062cd8b44f95b44a73b4f118d7f705a833", func := "icehall/icehalllaw03.PressNames", spec := "pressNames", unfollowed := true, recurses := true, plainKeys := false, apart := false, narrowed := true }
def PressNamesUptoSaid : Prop := pressNamesUptoRow.holds Try.pinned (OpenSpec.upto pressNamesSpec)

/-- 'icehalllaw03.PressCold', WHERE WHAT IT READS IS OF BULK AT MOST 1048576: true; the input reads as it did. -/
def pressColdUptoRow : OpenClaim := { program := "ytdecicbgjkeefaa", sum := "1109ead96cf2d68eabb3d77353c780062cd8b44f95b44a73b4f118d7f705a833", func := "icehall/icehalllaw03.PressCold", spec := "pressCold", unfollowed := true, recurses := true, plainKeys := false, apart := false, narrowed := true }
def PressColdUptoSaid : Prop := pressColdUptoRow.holds Try.pinned (OpenSpec.upto pressColdSpec)

/-- 'icehalllaw03.PressRest', WHERE WHAT IT READS IS OF BULK AT MOST 1048576: true; the input reads as it did. -/
def pressRestUptoRow : OpenClaim := { program := "ytdecicbgjkeefaa", sum := "1109ead96cf2d68eabb3d77353c780062cd8b44f95b44a73b4f118d7f705a833", func := "icehall/icehalllaw03.PressRest", spec := "pressRest", unfollowed := true, recurses := true, plainKeys := false, apart := false, narrowed := true }
def PressRestUptoSaid : Prop := pressRestUptoRow.holds Try.pinned (OpenSpec.upto pressRestSpec)

/-- 'icehalllaw03.PressOwns', WHERE WHAT IT READS IS OF BULK AT MOST 1048576: true; the input reads as it did. -/
def pressOwnsUptoRow : OpenClaim := { program := "ytdecicbgjkeefaa", sum := "1109ead96cf2d68eabb3d77353c780062cd8b44f95b44a73b4f118d7f705a833", func := "icehall/icehalllaw03.PressOwns", spec := "pressOwns", unfollowed := true, recurses := true, plainKeys := false, apart := false, narrowed := true }
def PressOwnsUptoSaid : Prop := pressOwnsUptoRow.holds Try.pinned (OpenSpec.upto pressOwnsSpec)

end Rows
end Go.Proofs.Ytdecicbgjkeefaa
