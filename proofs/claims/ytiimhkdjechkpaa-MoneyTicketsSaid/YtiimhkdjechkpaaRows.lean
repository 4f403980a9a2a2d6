/-
  No cell of these rows narrows 'for every input' (looked for: loops, veiled, ifaces, maps, wideKeys, modest, calm, conditions, laid).
  DERIVED. THE GIVEN ROWS OF THIS SEAT. 7 by the template 'for every input the law returns true; each argument reads behind the call as it read before'; 0 by the template 'total and deterministic' (their statements: YtiimhkdjechkpaaTotals.lean).
  GIVEN WITH THE SEED: the statements are not yours to turn. If you find one false, say at which input.
  Laid BY PROGRAM, IN A SANDBOX (cutbox-rows.mjs): the forced cells as the released guide's own fill.sh prints them over the translation 0dabd374cbef98bf… (all of the seat's roots in one cut). By AI agents, Wed Nov 11 2026. No macro, syntax, notation, axiom, sorry.
-/
import Derived.Test.YtiimhkdjechkpaaChecked
import GoSem.Claim
import GoSem.ClaimJoined
import GoSem.ClaimMapViews
import Derived.JoinedTies
import Derived.KernelRfl
namespace Go.Proofs.Ytiimhkdjechkpaa
/- THE CELL 'sum', in the pinned program and in every row, IS THE sha256 OF THE DUMP (.gsa) THAT YtiimhkdjechkpaaProg.lean LOADS. Nothing in Lean hashes anything: it is a label: what it is worth is what the hold of that sum in a sandbox is worth. -/
noncomputable def Try.pinned : Pinned := { name := "ytiimhkdjechkpaa", sum := "0dabd374cbef98bfa94dad727e76f5fa42c9e32bde02356d9836d79bd1b311db", checked := Try.checked }
namespace Rows
def none {H : Type} : Left H := { results := [], args := [] }

/-- 'icehalllaw13.MoneyTickets': WHATEVER THE INPUT: true; the input reads as it did. -/
def moneyTicketsSpec : ChangeSpec := { name := "moneyTickets", fn := fun _ => fun
  | [d1, d2, d3] => { results := [.lit (.bool true)], args := [d1, d2, d3] }
  | _ => none }
def moneyTicketsRow : OpenClaim := { program := "ytiimhkdjechkpaa", sum := "0dabd374cbef98bfa94dad727e76f5fa42c9e32bde02356d9836d79bd1b311db", func := "icehall/icehalllaw13.MoneyTickets", spec := "moneyTickets", unfollowed := true, recurses := true, plainKeys := false, apart := false }
def MoneyTicketsSaid : Prop := moneyTicketsRow.holds Try.pinned (OpenSpec.ofChange moneyTicketsSpec)

/-- ITS FALSE NEIGHBOUR: 'it returns false'. Refute it at one input. -/
def moneyTicketsWrong : ChangeSpec := { name := "moneyTickets", fn := fun _ => fun
  | [d1, d2, d3] => { results := [.lit (.bool false)], args := [d1, d2, d3] }
  | _ => none }
def MoneyTicketsWrongFalsely : Prop := moneyTicketsRow.holds Try.pinned (OpenSpec.ofChange moneyTicketsWrong)

/-- 'icehalllaw13.MoneyPlays': WHATEVER THE INPUT: true; the input reads as it did. -/
def moneyPlaysSpec : ChangeSpec := { name := "moneyPlays", fn := fun _ => fun
  | [d1, d2, d3, d4, d5, d6] => { results := [.lit (.bool true)], args := [d1, d2, d3, d4, d5, d6] }
  | _ => none }
def moneyPlaysRow : OpenClaim := { program := "ytiimhkdjechkpaa", sum := "0dabd374cbef98bfa94dad727e76f5fa42c9e32bde02356d9836d79bd1b311db", func := "icehall/icehalllaw13.MoneyPlays", spec := "moneyPlays", unfollowed := true, recurses := true, plainKeys := false, apart := false }
def MoneyPlaysSaid : Prop := moneyPlaysRow.holds Try.pinned (OpenSpec.ofChange moneyPlaysSpec)

/-- ITS FALSE NEIGHBOUR: 'it returns false'. Refute it at one input. -/
def moneyPlaysWrong : ChangeSpec := { name := "moneyPlays", fn := fun _ => fun
  | [d1, d2, d3, d4, d5, d6] => { results := [.lit (.bool false)], args := [d1, d2, d3, d4, d5, d6] }
  | _ => none }
def MoneyPlaysWrongFalsely : Prop := moneyPlaysRow.holds Try.pinned (OpenSpec.ofChange moneyPlaysWrong)

/-- 'icehalllaw13.MoneyCheapest': WHATEVER THE INPUT: true; the input reads as it did. -/
def moneyCheapestSpec : ChangeSpec := { name := "moneyCheapest", fn := fun _ => fun
  | [d1, d2, d3, d4] => { results := [.lit (.bool true)], args := [d1, d2, d3, d4] }
  | _ => none }
def moneyCheapestRow : OpenClaim := { program := "ytiimhkdjechkpaa", sum := "0dabd374cbef98bfa94dad727e76f5fa42c9e32bde02356d9836d79bd1b311db", func := "icehall/icehalllaw13.MoneyCheapest", spec := "moneyCheapest", unfollowed := true, recurses := true, plainKeys := false, apart := false }
def MoneyCheapestSaid : Prop := moneyCheapestRow.holds Try.pinned (OpenSpec.ofChange moneyCheapestSpec)

/-- ITS FALSE NEIGHBOUR: 'it returns false'. Refute it at one input. -/
def moneyCheapestWrong : ChangeSpec := { name := "moneyCheapest", fn := fun _ => fun
  | [d1, d2, d3, d4] => { results := [.lit (.bool false)], args := [d1, d2, d3, d4] }
  | _ => none }
def MoneyCheapestWrongFalsely : Prop := moneyCheapestRow.holds Try.pinned (OpenSpec.ofChange moneyCheapestWrong)

/-- 'icehalllaw13.MoneyGroups': WHATEVER THE INPUT: true; the input reads as it did. -/
def moneyGroupsSpec : ChangeSpec := { name := "moneyGroups", fn := fun _ => fun
  | [d1, d2, d3, d4, d5] => { results := [.lit (.bool true)], args := [d1, d2, d3, d4, d5] }
  | _ => none }
def moneyGroupsRow : OpenClaim := { program := "ytiimhkdjechkpaa", sum := "0dabd374cbef98bfa94dad727e76f5fa42c9e32bde02356d9836d79bd1b311db", func := "icehall/icehalllaw13.MoneyGroups", spec := "moneyGroups", unfollowed := true, recurses := true, plainKeys := false, apart := false }
def MoneyGroupsSaid : Prop := moneyGroupsRow.holds Try.pinned (OpenSpec.ofChange moneyGroupsSpec)

/-- ITS FALSE NEIGHBOUR: 'it returns false'. Refute it at one input. -/
def moneyGroupsWrong : ChangeSpec := { name := "moneyGroups", fn := fun _ => fun
  | [d1, d2, d3, d4, d5] => { results := [.lit (.bool false)], args := [d1, d2, d3, d4, d5] }
  | _ => none }
def MoneyGroupsWrongFalsely : Prop := moneyGroupsRow.holds Try.pinned (OpenSpec.ofChange moneyGroupsWrong)

/-- 'icehalllaw13.MoneyCents': WHATEVER THE INPUT: true; the input reads as it did. -/
def moneyCentsSpec : ChangeSpec := { name := "moneyCents", fn := fun _ => fun
  | [d1, d2, d3] => { results := [.lit (.bool true)], args := [d1, d2, d3] }
  | _ => none }
def moneyCentsRow : OpenClaim := { program := "ytiimhkdjechkpaa", sum := "0dabd374cbef98bfa94dad727e76f5fa42c9e32bde02356d9836d79bd1b311db", func := "icehall/icehalllaw13.MoneyCents", spec := "moneyCents", unfollowed := true, recurses := true, plainKeys := false, apart := false }
def MoneyCentsSaid : Prop := moneyCentsRow.holds Try.pinned (OpenSpec.ofChange moneyCentsSpec)

/-- ITS FALSE NEIGHBOUR: 'it returns false'. Refute it at one input. -/
def moneyCentsWrong : ChangeSpec := { name := "moneyCents", fn := fun _ => fun
  | [d1, d2, d3] => { results := [.lit (.bool false)], args := [d1, d2, d3] }
  | _ => none }
def MoneyCentsWrongFalsely : Prop := moneyCentsRow.holds Try.pinned (OpenSpec.ofChange moneyCentsWrong)

/-- 'icehalllaw13.MoneyAccounts': WHATEVER THE INPUT: true; the input reads as it did. -/
def moneyAccountsSpec : ChangeSpec := { name := "moneyAccounts", fn := fun _ => fun
  | [d1, d2, d3, d4] => { results := [.lit (.bool true)], args := [d1, d2, d3, d4] }
  | _ => none }
def moneyAccountsRow : OpenClaim := { program := "ytiimhkdjechkpaa", sum := "0dabd374cbef98bfa94dad727e76f5fa42c9e32bde02356d9836d79bd1b311db", func := "icehall/icehalllaw13.MoneyAccounts", spec := "moneyAccounts", unfollowed := true, recurses := true, plainKeys := false, apart := false }
def MoneyAccountsSaid : Prop := moneyAccountsRow.holds Try.pinned (OpenSpec.ofChange moneyAccountsSpec)

/-- ITS FALSE NEIGHBOUR: 'it returns false'. Refute it at one input. -/
def moneyAccountsWrong : ChangeSpec := { name := "moneyAccounts", fn := fun _ => fun
  | [d1, d2, d3, d4] => { results := [.lit (.bool false)], args := [d1, d2, d3, d4] }
  | _ => none }
def MoneyAccountsWrongFalsely : Prop := moneyAccountsRow.holds Try.pinned (OpenSpec.ofChange moneyAccountsWrong)

/-- 'icehalllaw13.MoneyTrue': WHATEVER THE INPUT: true; the input reads as it did. -/
def moneyTrueSpec : ChangeSpec := { name := "moneyTrue", fn := fun _ => fun
  | [d1, d2, d3] => { results := [.lit (.bool true)], args := [d1, d2, d3] }
  | _ => none }
def moneyTrueRow : OpenClaim := { program := "ytiimhkdjechkpaa", sum := "0dabd374cbef98bfa94dad727e76f5fa42c9e32bde02356d9836d79bd1b311db", func := "icehall/icehalllaw13.MoneyTrue", spec := "moneyTrue", unfollowed := true, recurses := true, plainKeys := false, apart := false }
def MoneyTrueSaid : Prop := moneyTrueRow.holds Try.pinned (OpenSpec.ofChange moneyTrueSpec)

/-- ITS FALSE NEIGHBOUR: 'it returns false'. Refute it at one input. -/
def moneyTrueWrong : ChangeSpec := { name := "moneyTrue", fn := fun _ => fun
  | [d1, d2, d3] => { results := [.lit (.bool false)], args := [d1, d2, d3] }
  | _ => none }
def MoneyTrueWrongFalsely : Prop := moneyTrueRow.holds Try.pinned (OpenSpec.ofChange moneyTrueWrong)

/- THE SECOND FORM. 'bulk': how many values and letters a reading holds, each counted each time it is reached (what is shared counts as often as it is met; a slice's spare places count too). A statement '..UptoSaid' is the law's where the arguments, and the package variables that the reading takes, are together of bulk at most 1048576: NARROWER than '..Said'. Prove '..Said' where nothing that the law and all that it calls make is longer than what came in: it says more and counts as full. Else prove '..UptoSaid'. A law counts once. -/
mutual
def uptoBulk {H : Type} : DataW H → Nat
  | .lit (.string bytes) => bytes.length + 1
  | .lit _ => 1
  | .nil => 1
  | .ptr d => uptoBulk d + 1
  | .slice elems spare => uptoBulkAll elems + uptoBulkAll spare + 1
  | .agg parts => uptoBulkAll parts + 1
  | .iface _ d => uptoBulk d + 1
  | .map entries => uptoBulkEntries entries + 1
  | .held _ => 1
def uptoBulkAll {H : Type} : List (DataW H) → Nat
  | [] => 0
  | d :: r => uptoBulk d + uptoBulkAll r
def uptoBulkEntries {H : Type} : List (Lit × DataW H) → Nat
  | [] => 0
  | x :: r => uptoBulkEntry x + uptoBulkEntries r
def uptoBulkEntry {H : Type} : Lit × DataW H → Nat
  | (.string bytes, d) => bytes.length + uptoBulk d + 1
  | (_, d) => uptoBulk d + 1
 end
def uptoSmall : (H : Type) → List (DataW H) → Bool := fun _ ds => decide (uptoBulkAll ds ≤ 1048576)
def OpenSpec.upto (s : _root_.Go.ChangeSpec) : _root_.Go.OpenSpec := { _root_.Go.OpenSpec.ofChange s with cond := some uptoSmall }

/-- 'icehalllaw13.MoneyTickets', WHERE WHAT IT READS IS OF BULK AT MOST 1048576: true; the input reads as it did. -/
def moneyTicketsUptoRow : OpenClaim := { program := "ytiimhkdjechkpaa", sum := "0dabd374cbef98bfa94dad727e76f5fa42c9e32bde02356d9836d79bd1b311db", func := "icehall/icehalllaw13.MoneyTickets", spec := "moneyTickets", unfollowed := true, recurses := true, plainKeys := false, apart := false, narrowed := true }
def MoneyTicketsUptoSaid : Prop := moneyTicketsUptoRow.holds Try.pinned (OpenSpec.upto moneyTicketsSpec)

/-- 'icehalllaw13.MoneyPlays', WHERE WHAT IT READS IS OF BULK AT MOST 1048576: true; the input reads as it did. -/
def moneyPlaysUptoRow : OpenClaim := { program := "ytiimhkdjechkpaa", sum := "0dabd374cbef98bfa94dad727e76f5fa42c9e32bde02356d9836d79bd1b311db", func := "icehall/icehalllaw13.MoneyPlays", spec := "moneyPlays", unfollowed := true, recurses := true, plainKeys := false, apart := false, narrowed := true }
def MoneyPlaysUptoSaid : Prop := moneyPlaysUptoRow.holds Try.pinned (OpenSpec.upto moneyPlaysSpec)

/-- 'icehalllaw13.MoneyCheapest', WHERE WHAT IT READS IS OF BULK AT MOST 1048576: true; the input reads as it did. -/
def moneyCheapestUptoRow : OpenClaim := { program := "ytiimhkdjechkpaa", sum := "0dabd374cbef98bfa94dad727e76f5fa42c9e32bde02356d9836d79bd1b311db", func := "icehall/icehalllaw13.MoneyCheapest", spec := "moneyCheapest", unfollowed := true, recurses := true, plainKeys := false, apart := false, narrowed := true }
def MoneyCheapestUptoSaid : Prop := moneyCheapestUptoRow.holds Try.pinned (OpenSpec.upto moneyCheapestSpec)

/-- 'icehalllaw13.MoneyGroups', WHERE WHAT IT READS IS OF BULK AT MOST 1048576: true; the input reads as it did. -/
def moneyGroupsUptoRow : OpenClaim := { program := "ytiimhkdjechkpaa", sum := "0dabd374cbef98bfa94dad727e76f5fa42c9e32bde02356d9836d79bd1b311db", func := "icehall/icehalllaw13.MoneyGroups", spec := "moneyGroups", unfollowed := true, recurses := true, plainKeys := false, apart := false, narrowed := true }
def MoneyGroupsUptoSaid : Prop := moneyGroupsUptoRow.holds Try.pinned (OpenSpec.upto moneyGroupsSpec)

/-- 'icehalllaw13.MoneyCents', WHERE WHAT IT READS IS OF BULK AT MOST 1048576: true; the input reads as it did. -/
def moneyCentsUptoRow : OpenClaim := { program := "ytiimhkdjechkpaa", sum := "0dabd374cbef98bfa94dad727e76f5fa42c9e32bde02356d9836d79bd1b311db", func := "icehall/icehalllaw13.MoneyCents", spec := "moneyCents", unfollowed := true, recurses := true, plainKeys := false, apart := false, narrowed := true }
def MoneyCentsUptoSaid : Prop := moneyCentsUptoRow.holds Try.pinned (OpenSpec.upto moneyCentsSpec)

/-- 'icehalllaw13.MoneyAccounts', WHERE WHAT IT READS IS OF BULK AT MOST 1048576: true; the input reads as it did. -/
def moneyAccountsUptoRow : OpenClaim := { program := "ytiimhkdjechkpaa", sum := "0dabd374cbef98bfa94dad727e76f5fa42c9e32bde02356d9836d79bd1b311db", func := "icehall/icehalllaw13.MoneyAccounts", spec := "moneyAccounts", unfollowed := true, recurses := true, plainKeys := false, apart := false, narrowed := true }
def MoneyAccountsUptoSaid : Prop := moneyAccountsUptoRow.holds Try.pinned (OpenSpec.upto moneyAccountsSpec)

/-- 'icehalllaw13.MoneyTrue', WHERE WHAT IT READS IS OF BULK AT MOST 1048576: true; the input reads as it did. -/
def moneyTrueUptoRow : OpenClaim := { program := "ytiimhkdjechkpaa", sum := "0dabd374cbef98bfa94dad727e76f5fa42c9e32bde02356d9836d79bd1b311db", func := "icehall/icehalllaw13.MoneyTrue", spec := "moneyTrue", unfollowed := true, recurses := true, plainKeys := false, apart := false, narrowed := true }
def MoneyTrueUptoSaid : Prop := moneyTrueUptoRow.holds Try.pinned (OpenSpec.upto moneyTrueSpec)

end Rows
end Go.Proofs.Ytiimhkdjechkpaa
