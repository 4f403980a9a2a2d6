/-
  No cell of these rows narrows 'for every input' (looked for: loops, veiled, ifaces, maps, wideKeys, modest, calm, conditions, laid).
  DERIVED. THE GIVEN ROWS OF THIS SEAT. 10 by the template 'for every input the law returns true; each argument reads behind the call as it read before'; 0 by the template 'total and deterministic' (their statements: YtmpcdcphgepeiaaTotals.lean).
  GIVEN WITH THE SEED: the statements are not yours to turn. If you find one false, say at which input.
  Laid BY PROGRAM, IN A SANDBOX (cutbox-rows.mjs): the forced cells as the released guide's own fill.sh prints them over the translation 8d31d73cb023dd98… (all of the seat's roots in one cut). By AI agents, Wed Nov 11 2026. No macro, syntax, notation, axiom, sorry.
-/
import Derived.Test.YtmpcdcphgepeiaaChecked
import GoSem.Claim
import GoSem.ClaimJoined
import GoSem.ClaimMapViews
import Derived.JoinedTies
import Derived.KernelRfl
namespace Go.Proofs.Ytmpcdcphgepeiaa
/- THE CELL 'sum', in the pinned program and in every row, IS THE sha256 OF THE DUMP (.gsa) THAT YtmpcdcphgepeiaaProg.lean LOADS. Nothing in Lean hashes anything: it is a label: what it is worth is what the hold of that sum in a sandbox is worth. -/
noncomputable def Try.pinned : Pinned := { name := "ytmpcdcphgepeiaa", sum := "8d31d73cb023dd983bcc2bdf6e4af1d0958fabbe0cd4e5444e7fd77b774a976b", checked := Try.checked }
namespace Rows
def none {H : Type} : Left H := { results := [], args := [] }

/-- 'icehalllaw01.IceWaters': WHATEVER THE INPUT: true; the input reads as it did. -/
def iceWatersSpec : ChangeSpec := { name := "iceWaters", fn := fun _ => fun
  | [d1, d2, d3, d4, d5, d6] => { results := [.lit (.bool true)], args := [d1, d2, d3, d4, d5, d6] }
  | _ => none }
def iceWatersRow : OpenClaim := { program := "ytmpcdcphgepeiaa", sum := "8d31d73cb023dd983bcc2bdf6e4af1d0958fabbe0cd4e5444e7fd77b774a976b", func := "icehall/icehalllaw01.IceWaters", spec := "iceWaters", unfollowed := true, recurses := true, apart := false }
def IceWatersSaid : Prop := iceWatersRow.holds Try.pinned (OpenSpec.ofChange iceWatersSpec)

/-- ITS FALSE NEIGHBOUR: 'it returns false'. Refute it at one input. -/
def iceWatersWrong : ChangeSpec := { name := "iceWaters", fn := fun _ => fun
  | [d1, d2, d3, d4, d5, d6] => { results := [.lit (.bool false)], args := [d1, d2, d3, d4, d5, d6] }
  | _ => none }
def IceWatersWrongFalsely : Prop := iceWatersRow.holds Try.pinned (OpenSpec.ofChange iceWatersWrong)

/-- 'icehalllaw01.IceTrue': WHATEVER THE INPUT: true; the input reads as it did. -/
def iceTrueSpec : ChangeSpec := { name := "iceTrue", fn := fun _ => fun
  | [d1, d2, d3] => { results := [.lit (.bool true)], args := [d1, d2, d3] }
  | _ => none }
def iceTrueRow : OpenClaim := { program := "ytmpcdcphgepeiaa", sum := "8d31d73cb023dd983bcc2bdf6e4af1d0958fabbe0cd4e5444e7fd77b774a976b", func := "icehall/icehalllaw01.IceTrue", spec := "iceTrue", unfollowed := true, recurses := true, apart := false }
def IceTrueSaid : Prop := iceTrueRow.holds Try.pinned (OpenSpec.ofChange iceTrueSpec)

/-- ITS FALSE NEIGHBOUR: 'it returns false'. Refute it at one input. -/
def iceTrueWrong : ChangeSpec := { name := "iceTrue", fn := fun _ => fun
  | [d1, d2, d3] => { results := [.lit (.bool false)], args := [d1, d2, d3] }
  | _ => none }
def IceTrueWrongFalsely : Prop := iceTrueRow.holds Try.pinned (OpenSpec.ofChange iceTrueWrong)

/-- 'icehalllaw01.IceEnds': WHATEVER THE INPUT: true; the input reads as it did. -/
def iceEndsSpec : ChangeSpec := { name := "iceEnds", fn := fun _ => fun
  | [d1, d2] => { results := [.lit (.bool true)], args := [d1, d2] }
  | _ => none }
def iceEndsRow : OpenClaim := { program := "ytmpcdcphgepeiaa", sum := "8d31d73cb023dd983bcc2bdf6e4af1d0958fabbe0cd4e5444e7fd77b774a976b", func := "icehall/icehalllaw01.IceEnds", spec := "iceEnds", unfollowed := true, recurses := true, apart := false }
def IceEndsSaid : Prop := iceEndsRow.holds Try.pinned (OpenSpec.ofChange iceEndsSpec)

/-- ITS FALSE NEIGHBOUR: 'it returns false'. Refute it at one input. -/
def iceEndsWrong : ChangeSpec := { name := "iceEnds", fn := fun _ => fun
  | [d1, d2] => { results := [.lit (.bool false)], args := [d1, d2] }
  | _ => none }
def IceEndsWrongFalsely : Prop := iceEndsRow.holds Try.pinned (OpenSpec.ofChange iceEndsWrong)

/-- 'icehalllaw01.IceApart': WHATEVER THE INPUT: true; the input reads as it did. -/
def iceApartSpec : ChangeSpec := { name := "iceApart", fn := fun _ => fun
  | [d1, d2, d3, d4] => { results := [.lit (.bool true)], args := [d1, d2, d3, d4] }
  | _ => none }
def iceApartRow : OpenClaim := { program := "ytmpcdcphgepeiaa", sum := "8d31d73cb023dd983bcc2bdf6e4af1d0958fabbe0cd4e5444e7fd77b774a976b", func := "icehall/icehalllaw01.IceApart", spec := "iceApart", unfollowed := true, recurses := true, apart := false }
def IceApartSaid : Prop := iceApartRow.holds Try.pinned (OpenSpec.ofChange iceApartSpec)

/-- ITS FALSE NEIGHBOUR: 'it returns false'. Refute it at one input. -/
def iceApartWrong : ChangeSpec := { name := "iceApart", fn := fun _ => fun
  | [d1, d2, d3, d4] => { results := [.lit (.bool false)], args := [d1, d2, d3, d4] }
  | _ => none }
def IceApartWrongFalsely : Prop := iceApartRow.holds Try.pinned (OpenSpec.ofChange iceApartWrong)

/-- 'icehalllaw01.IceWater': WHATEVER THE INPUT: true; the input reads as it did. -/
def iceWaterSpec : ChangeSpec := { name := "iceWater", fn := fun _ => fun
  | [d1, d2, d3, d4, d5, d6, d7] => { results := [.lit (.bool true)], args := [d1, d2, d3, d4, d5, d6, d7] }
  | _ => none }
def iceWaterRow : OpenClaim := { program := "ytmpcdcphgepeiaa", sum := "8d31d73cb023dd983bcc2bdf6e4af1d0958fabbe0cd4e5444e7fd77b774a976b", func := "icehall/icehalllaw01.IceWater", spec := "iceWater", unfollowed := true, recurses := true, apart := false }
def IceWaterSaid : Prop := iceWaterRow.holds Try.pinned (OpenSpec.ofChange iceWaterSpec)

/-- ITS FALSE NEIGHBOUR: 'it returns false'. Refute it at one input. -/
def iceWaterWrong : ChangeSpec := { name := "iceWater", fn := fun _ => fun
  | [d1, d2, d3, d4, d5, d6, d7] => { results := [.lit (.bool false)], args := [d1, d2, d3, d4, d5, d6, d7] }
  | _ => none }
def IceWaterWrongFalsely : Prop := iceWaterRow.holds Try.pinned (OpenSpec.ofChange iceWaterWrong)

/-- 'icehalllaw01.IcePlays': WHATEVER THE INPUT: true; the input reads as it did. -/
def icePlaysSpec : ChangeSpec := { name := "icePlays", fn := fun _ => fun
  | [d1, d2, d3] => { results := [.lit (.bool true)], args := [d1, d2, d3] }
  | _ => none }
def icePlaysRow : OpenClaim := { program := "ytmpcdcphgepeiaa", sum := "8d31d73cb023dd983bcc2bdf6e4af1d0958fabbe0cd4e5444e7fd77b774a976b", func := "icehall/icehalllaw01.IcePlays", spec := "icePlays", unfollowed := true, recurses := true, apart := false }
def IcePlaysSaid : Prop := icePlaysRow.holds Try.pinned (OpenSpec.ofChange icePlaysSpec)

/-- ITS FALSE NEIGHBOUR: 'it returns false'. Refute it at one input. -/
def icePlaysWrong : ChangeSpec := { name := "icePlays", fn := fun _ => fun
  | [d1, d2, d3] => { results := [.lit (.bool false)], args := [d1, d2, d3] }
  | _ => none }
def IcePlaysWrongFalsely : Prop := icePlaysRow.holds Try.pinned (OpenSpec.ofChange icePlaysWrong)

/-- 'icehalllaw01.IceOwns': WHATEVER THE INPUT: true; the input reads as it did. -/
def iceOwnsSpec : ChangeSpec := { name := "iceOwns", fn := fun _ => fun
  | [d1, d2, d3, d4, d5] => { results := [.lit (.bool true)], args := [d1, d2, d3, d4, d5] }
  | _ => none }
def iceOwnsRow : OpenClaim := { program := "ytmpcdcphgepeiaa", sum := "8d31d73cb023dd983bcc2bdf6e4af1d0958fabbe0cd4e5444e7fd77b774a976b", func := "icehall/icehalllaw01.IceOwns", spec := "iceOwns", unfollowed := true, recurses := true, apart := false }
def IceOwnsSaid : Prop := iceOwnsRow.holds Try.pinned (OpenSpec.ofChange iceOwnsSpec)

/-- ITS FALSE NEIGHBOUR: 'it returns false'. Refute it at one input. -/
def iceOwnsWrong : ChangeSpec := { name := "iceOwns", fn := fun _ => fun
  | [d1, d2, d3, d4, d5] => { results := [.lit (.bool false)], args := [d1, d2, d3, d4, d5] }
  | _ => none }
def IceOwnsWrongFalsely : Prop := iceOwnsRow.holds Try.pinned (OpenSpec.ofChange iceOwnsWrong)

/-- 'icehalllaw01.IceKeeps': WHATEVER THE INPUT: true; the input reads as it did. -/
def iceKeepsSpec : ChangeSpec := { name := "iceKeeps", fn := fun _ => fun
  | [d1, d2, d3, d4, d5, d6, d7, d8] => { results := [.lit (.bool true)], args := [d1, d2, d3, d4, d5, d6, d7, d8] }
  | _ => none }
def iceKeepsRow : OpenClaim := { program := "ytmpcdcphgepeiaa", sum := "8d31d73cb023dd983bcc2bdf6e4af1d0958fabbe0cd4e5444e7fd77b774a976b", func := "icehall/icehalllaw01.IceKeeps", spec := "iceKeeps", unfollowed := true, recurses := true, apart := false }
def IceKeepsSaid : Prop := iceKeepsRow.holds Try.pinned (OpenSpec.ofChange iceKeepsSpec)

/-- ITS FALSE NEIGHBOUR: 'it returns false'. Refute it at one input. -/
def iceKeepsWrong : ChangeSpec := { name := "iceKeeps", fn := fun _ => fun
  | [d1, d2, d3, d4, d5, d6, d7, d8] => { results := [.lit (.bool false)], args := [d1, d2, d3, d4, d5, d6, d7, d8] }
  | _ => none }
def IceKeepsWrongFalsely : Prop := iceKeepsRow.holds Try.pinned (OpenSpec.ofChange iceKeepsWrong)

/-- 'icehalllaw01.IceHolds': WHATEVER THE INPUT: true; the input reads as it did. -/
def iceHoldsSpec : ChangeSpec := { name := "iceHolds", fn := fun _ => fun
  | [d1, d2, d3, d4, d5, d6, d7, d8, d9] => { results := [.lit (.bool true)], args := [d1, d2, d3, d4, d5, d6, d7, d8, d9] }
  | _ => none }
def iceHoldsRow : OpenClaim := { program := "ytmpcdcphgepeiaa", sum := "8d31d73cb023dd983bcc2bdf6e4af1d0958fabbe0cd4e5444e7fd77b774a976b", func := "icehall/icehalllaw01.IceHolds", spec := "iceHolds", unfollowed := true, recurses := true, apart := false }
def IceHoldsSaid : Prop := iceHoldsRow.holds Try.pinned (OpenSpec.ofChange iceHoldsSpec)

/-- ITS FALSE NEIGHBOUR: 'it returns false'. Refute it at one input. -/
def iceHoldsWrong : ChangeSpec := { name := "iceHolds", fn := fun _ => fun
  | [d1, d2, d3, d4, d5, d6, d7, d8, d9] => { results := [.lit (.bool false)], args := [d1, d2, d3, d4, d5, d6, d7, d8, d9] }
  | _ => none }
def IceHoldsWrongFalsely : Prop := iceHoldsRow.holds Try.pinned (OpenSpec.ofChange iceHoldsWrong)

/-- 'icehalllaw01.IceNames': WHATEVER THE INPUT: true; the input reads as it did. -/
def iceNamesSpec : ChangeSpec := { name := "iceNames", fn := fun _ => fun
  | [] => { results := [.lit (.bool true)], args := [] }
  | _ => none }
def iceNamesRow : OpenClaim := { program := "ytmpcdcphgepeiaa", sum := "8d31d73cb023dd983bcc2bdf6e4af1d0958fabbe0cd4e5444e7fd77b774a976b", func := "icehall/icehalllaw01.IceNames", spec := "iceNames", unfollowed := true, recurses := true, apart := false }
def IceNamesSaid : Prop := iceNamesRow.holds Try.pinned (OpenSpec.ofChange iceNamesSpec)

/-- ITS FALSE NEIGHBOUR: 'it returns false'. Refute it at one input. -/
def iceNamesWrong : ChangeSpec := { name := "iceNames", fn := fun _ => fun
  | [] => { results := [.lit (.bool false)], args := [] }
  | _ => none }
def IceNamesWrongFalsely : Prop := iceNamesRow.holds Try.pinned (OpenSpec.ofChange iceNamesWrong)

/- THE SECOND FORM. 'bulk': how many values and letters a reading holds, each counted each time it is reached (what is shared counts as often as it is met; a slice's spare places count too). A statement '..UptoSaid' is the law's where the arguments, and the package variables that the reading takes, are together of bulk at most 1048576: NARROWER than '..Said'. Prove '..Said' where nothing that the law and all that it calls make is longer than what came in: it says more and counts as full. Else prove '..UptoSaid'. A law counts once. -/
mutual
def uptoBulk {H : Type} : DataW H → Nat
  | .lit (.string bytes) => bytes.length + 1
  | .lit _ => 1
  | .nil => 1
  | .ptr d => uptoBulk d + 1
  | .slice elems spare => uptoBulkAll elems + uptoBulkAll spare + 1
  | .agg parts => uptoBulkAll parts + 1
  | .iface _ d => uptoBulk d + 1
  | .map entries => uptoBulkEntries entries + 1
  | .held _ => 1
def uptoBulkAll {H : Type} : List (DataW H) → Nat
  | [] => 0
  | d :: r => uptoBulk d + uptoBulkAll r
def uptoBulkEntries {H : Type} : List (Lit × DataW H) → Nat
  | [] => 0
  | x :: r => uptoBulkEntry x + uptoBulkEntries r
def uptoBulkEntry {H : Type} : Lit × DataW H → Nat
  | (.string bytes, d) => bytes.length + uptoBulk d + 1
  | (_, d) => uptoBulk d + 1
 end
def uptoSmall : (H : Type) → List (DataW H) → Bool := fun _ ds => decide (uptoBulkAll ds ≤ 1048576)
def OpenSpec.upto (s : _root_.Go.ChangeSpec) : _root_.Go.OpenSpec := { _root_.Go.OpenSpec.ofChange s with cond := some uptoSmall }

/-- 'icehalllaw01.IceWaters', WHERE WHAT IT READS IS OF BULK AT MOST 1048576: true; the input reads as it did. -/
def iceWatersUptoRow : OpenClaim := { program := "ytmpcdcphgepeiaa", sum := "8d31d73cb023dd983bcc2bdf6e4af1d0958fabbe0cd4e5444e7fd77b774a976b", func := "icehall/icehalllaw01.IceWaters", spec := "iceWaters", unfollowed := true, recurses := true, apart := false, narrowed := true }
def IceWatersUptoSaid : Prop := iceWatersUptoRow.holds Try.pinned (OpenSpec.upto iceWatersSpec)

/-- 'icehalllaw01.IceTrue', WHERE WHAT IT READS IS OF BULK AT MOST 1048576: true; the input reads as it did. -/
def iceTrueUptoRow : OpenClaim := { program := "ytmpcdcphgepeiaa", sum := "8d31d73cb023dd983bcc2bdf6e4af1d0958fabbe0cd4e5444e7fd77b774a976b", func := "icehall/icehalllaw01.IceTrue", spec := "iceTrue", unfollowed := true, recurses := true, apart := false, narrowed := true }
def IceTrueUptoSaid : Prop := iceTrueUptoRow.holds Try.pinned (OpenSpec.upto iceTrueSpec)

/-- 'icehalllaw01.IceEnds', WHERE WHAT IT READS IS OF BULK AT MOST 1048576: true; the input reads as it did. -/
def iceEndsUptoRow : OpenClaim := { program := "ytmpcdcphgepeiaa", sum := "8d31d73cb023dd983bcc2bdf6e4af1d0958fabbe0cd4e5444e7fd77b774a976b", func := "icehall/icehalllaw01.IceEnds", spec := "iceEnds", unfollowed := true, recurses := true, apart := false, narrowed := true }
def IceEndsUptoSaid : Prop := iceEndsUptoRow.holds Try.pinned (OpenSpec.upto iceEndsSpec)

/-- 'icehalllaw01.IceApart', WHERE WHAT IT READS IS OF BULK AT MOST 1048576: true; the input reads as it did. -/
def iceApartUptoRow : OpenClaim := { program := "ytmpcdcphgepeiaa", sum := "8d31d73cb023dd983bcc2bdf6e4af1d0958fabbe0cd4e5444e7fd77b774a976b", func := "icehall/icehalllaw01.IceApart", spec := "iceApart", unfollowed := true, recurses := true, apart := false, narrowed := true }
def IceApartUptoSaid : Prop := iceApartUptoRow.holds Try.pinned (OpenSpec.upto iceApartSpec)

/-- 'icehalllaw01.IceWater', WHERE WHAT IT READS IS OF BULK AT MOST 1048576: true; the input reads as it did. -/
def iceWaterUptoRow : OpenClaim := { program := "ytmpcdcphgepeiaa", sum := "8d31d73cb023dd983bcc2bdf6e4af1d0958fabbe0cd4e5444e7fd77b774a976b", func := "icehall/icehalllaw01.IceWater", spec := "iceWater", unfollowed := true, recurses := true, apart := false, narrowed := true }
def IceWaterUptoSaid : Prop := iceWaterUptoRow.holds Try.pinned (OpenSpec.upto iceWaterSpec)

/-- 'icehalllaw01.IcePlays', WHERE WHAT IT READS IS OF BULK AT MOST 1048576: true; the input reads as it did. -/
def icePlaysUptoRow : OpenClaim := { program := "ytmpcdcphgepeiaa", sum := "8d31d73cb023dd983bcc2bdf6e4af1d0958fabbe0cd4e5444e7fd77b774a976b", func := "icehall/icehalllaw01.IcePlays", spec := "icePlays", unfollowed := true, recurses := true, apart := false, narrowed := true }
def IcePlaysUptoSaid : Prop := icePlaysUptoRow.holds Try.pinned (OpenSpec.upto icePlaysSpec)

/-- 'icehalllaw01.IceOwns', WHERE WHAT IT READS IS OF BULK AT MOST 1048576: true; the input reads as it did. -/
def iceOwnsUptoRow : OpenClaim := { program := "ytmpcdcphgepeiaa", sum := "8d31d73cb023dd983bcc2bdf6e4af1d0958fabbe0cd4e5444e7fd77b774a976b", func := "icehall/icehalllaw01.IceOwns", spec := "iceOwns", unfollowed := true, recurses := true, apart := false, narrowed := true }
def IceOwnsUptoSaid : Prop := iceOwnsUptoRow.holds Try.pinned (OpenSpec.upto iceOwnsSpec)

/-- 'icehalllaw01.IceKeeps', WHERE WHAT IT READS IS OF BULK AT MOST 1048576: true; the input reads as it did. -/
def iceKeepsUptoRow : OpenClaim := { program := "ytmpcdcphgepeiaa", sum := "8d31d73cb023dd983bcc2bdf6e4af1d0958fabbe0cd4e5444e7fd77b774a976b", func := "icehall/icehalllaw01.IceKeeps", spec := "iceKeeps", unfollowed := true, recurses := true, apart := false, narrowed := true }
def IceKeepsUptoSaid : Prop := iceKeepsUptoRow.holds Try.pinned (OpenSpec.upto iceKeepsSpec)

/-- 'icehalllaw01.IceHolds', WHERE WHAT IT READS IS OF BULK AT MOST 1048576: true; the input reads as it did. -/
def iceHoldsUptoRow : OpenClaim := { program := "ytmpcdcphgepeiaa", sum := "8d31d73cb023dd983bcc2bdf6e4af1d0958fabbe0cd4e5444e7fd77b774a976b", func := "icehall/icehalllaw01.IceHolds", spec := "iceHolds", unfollowed := true, recurses := true, apart := false, narrowed := true }
def IceHoldsUptoSaid : Prop := iceHoldsUptoRow.holds Try.pinned (OpenSpec.upto iceHoldsSpec)

/-- 'icehalllaw01.IceNames', WHERE WHAT IT READS IS OF BULK AT MOST 1048576: true; the input reads as it did. -/
def iceNamesUptoRow : OpenClaim := { program := "ytmpcdcphgepeiaa", sum := "8d31d73cb023dd983bcc2bdf6e4af1d0958fabbe0cd4e5444e7fd77b774a976b", func := "icehall/icehalllaw01.IceNames", spec := "iceNames", unfollowed := true, recurses := true, apart := false, narrowed := true }
def IceNamesUptoSaid : Prop := iceNamesUptoRow.holds Try.pinned (OpenSpec.upto iceNamesSpec)

end Rows
end Go.Proofs.Ytmpcdcphgepeiaa
