/-
  No cell of these rows narrows 'for every input' (looked for: loops, veiled, ifaces, maps, wideKeys, modest, calm, conditions, laid).
  DERIVED. THE GIVEN ROWS OF THIS SEAT. 8 by the template 'for every input the law returns true; each argument reads behind the call as it read before'; 0 by the template 'total and deterministic' (their statements: YtcpdfgckfefboaaTotals.lean).
  GIVEN WITH THE SEED: the statements are not yours to turn. If you find one false, say at which input.
  Laid BY PROGRAM, IN A SANDBOX (cutbox-rows.mjs): the forced cells as the released guide's own fill.sh prints them over the translation 7357bf9726f74c23… (all of the seat's roots in one cut). By AI agents, Wed Nov 11 2026. No macro, syntax, notation, axiom, sorry.
-/
import Derived.Test.YtcpdfgckfefboaaChecked
import GoSem.Claim
import GoSem.ClaimJoined
import GoSem.ClaimMapViews
import Derived.JoinedTies
import Derived.KernelRfl
namespace Go.Proofs.Ytcpdfgckfefboaa
/- THE CELL 'sum', in the pinned program and in every row, IS THE sha256 OF THE DUMP (.gsa) THAT YtcpdfgckfefboaaProg.lean LOADS. Nothing in Lean hashes anything: it is a label: what it is worth is what the hold of that sum in a sandbox is worth. -/
noncomputable def Try.pinned : Pinned := { name := "ytcpdfgckfefboaa", sum := "7357bf9726f74c232a256504fb74ff8dec667c404c17bc143c428c77a8dd094b", checked := Try.checked }
namespace Rows
def none {H : Type} : Left H := { results := [], args := [] }

/-- 'recyclinglaw58.JournalFollows': WHATEVER THE INPUT: true; the input reads as it did. -/
def journalFollowsSpec : ChangeSpec := { name := "journalFollows", fn := fun _ => fun
  | [d1, d2] => { results := [.lit (.bool true)], args := [d1, d2] }
  | _ => none }
def journalFollowsRow : OpenClaim := { program := "ytcpdfgckfefboaa", sum := "7357bf9726f74c232a256504fb74ff8dec667c404c17bc143c428c77a8dd094b", func := "recycling/recyclinglaw58.JournalFollows", spec := "journalFollows", unfollowed := true, recurses := true, apart := false }
def JournalFollowsSaid : Prop := journalFollowsRow.holds Try.pinned (OpenSpec.ofChange journalFollowsSpec)

/-- ITS FALSE NEIGHBOUR: 'it returns false'. Refute it at one input. -/
def journalFollowsWrong : ChangeSpec := { name := "journalFollows", fn := fun _ => fun
  | [d1, d2] => { results := [.lit (.bool false)], args := [d1, d2] }
  | _ => none }
def JournalFollowsWrongFalsely : Prop := journalFollowsRow.holds Try.pinned (OpenSpec.ofChange journalFollowsWrong)

/-- 'recyclinglaw58.JournalGrows': WHATEVER THE INPUT: true; the input reads as it did. -/
def journalGrowsSpec : ChangeSpec := { name := "journalGrows", fn := fun _ => fun
  | [d1, d2] => { results := [.lit (.bool true)], args := [d1, d2] }
  | _ => none }
def journalGrowsRow : OpenClaim := { program := "ytcpdfgckfefboaa", sum := "7357bf9726f74c232a256504fb74ff8dec667c404c17bc143c428c77a8dd094b", func := "recycling/recyclinglaw58.JournalGrows", spec := "journalGrows", unfollowed := true, recurses := true, apart := false }
def JournalGrowsSaid : Prop := journalGrowsRow.holds Try.pinned (OpenSpec.ofChange journalGrowsSpec)

/-- ITS FALSE NEIGHBOUR: 'it returns false'. Refute it at one input. -/
def journalGrowsWrong : ChangeSpec := { name := "journalGrows", fn := fun _ => fun
  | [d1, d2] => { results := [.lit (.bool false)], args := [d1, d2] }
  | _ => none }
def JournalGrowsWrongFalsely : Prop := journalGrowsRow.holds Try.pinned (OpenSpec.ofChange journalGrowsWrong)

/-- 'recyclinglaw58.JournalChecks': WHATEVER THE INPUT: true; the input reads as it did. -/
def journalChecksSpec : ChangeSpec := { name := "journalChecks", fn := fun _ => fun
  | [d] => { results := [.lit (.bool true)], args := [d] }
  | _ => none }
def journalChecksRow : OpenClaim := { program := "ytcpdfgckfefboaa", sum := "7357bf9726f74c232a256504fb74ff8dec667c404c17bc143c428c77a8dd094b", func := "recycling/recyclinglaw58.JournalChecks", spec := "journalChecks", unfollowed := true, recurses := true, apart := false }
def JournalChecksSaid : Prop := journalChecksRow.holds Try.pinned (OpenSpec.ofChange journalChecksSpec)

/-- ITS FALSE NEIGHBOUR: 'it returns false'. Refute it at one input. -/
def journalChecksWrong : ChangeSpec := { name := "journalChecks", fn := fun _ => fun
  | [d] => { results := [.lit (.bool false)], args := [d] }
  | _ => none }
def JournalChecksWrongFalsely : Prop := journalChecksRow.holds Try.pinned (OpenSpec.ofChange journalChecksWrong)

/-- 'recyclinglaw58.JournalPuts': WHATEVER THE INPUT: true; the input reads as it did. -/
def journalPutsSpec : ChangeSpec := { name := "journalPuts", fn := fun _ => fun
  | [d1, d2] => { results := [.lit (.bool true)], args := [d1, d2] }
  | _ => none }
def journalPutsRow : OpenClaim := { program := "ytcpdfgckfefboaa", sum := "7357bf9726f74c232a256504fb74ff8dec667c404c17bc143c428c77a8dd094b", func := "recycling/recyclinglaw58.JournalPuts", spec := "journalPuts", unfollowed := true, recurses := true, apart := false }
def JournalPutsSaid : Prop := journalPutsRow.holds Try.pinned (OpenSpec.ofChange journalPutsSpec)

/-- ITS FALSE NEIGHBOUR: 'it returns false'. Refute it at one input. -/
def journalPutsWrong : ChangeSpec := { name := "journalPuts", fn := fun _ => fun
  | [d1, d2] => { results := [.lit (.bool false)], args := [d1, d2] }
  | _ => none }
def JournalPutsWrongFalsely : Prop := journalPutsRow.holds Try.pinned (OpenSpec.ofChange journalPutsWrong)

/-- 'recyclinglaw58.JournalGets': WHATEVER THE INPUT: true; the input reads as it did. -/
def journalGetsSpec : ChangeSpec := { name := "journalGets", fn := fun _ => fun
  | [d] => { results := [.lit (.bool true)], args := [d] }
  | _ => none }
def journalGetsRow : OpenClaim := { program := "ytcpdfgckfefboaa", sum := "7357bf9726f74c232a256504fb74ff8dec667c404c17bc143c428c77a8dd094b", func := "recycling/recyclinglaw58.JournalGets", spec := "journalGets", unfollowed := true, recurses := true, apart := false }
def JournalGetsSaid : Prop := journalGetsRow.holds Try.pinned (OpenSpec.ofChange journalGetsSpec)

/-- ITS FALSE NEIGHBOUR: 'it returns false'. Refute it at one input. -/
def journalGetsWrong : ChangeSpec := { name := "journalGets", fn := fun _ => fun
  | [d] => { results := [.lit (.bool false)], args := [d] }
  | _ => none }
def JournalGetsWrongFalsely : Prop := journalGetsRow.holds Try.pinned (OpenSpec.ofChange journalGetsWrong)

/-- 'recyclinglaw58.JournalRecovers': WHATEVER THE INPUT: true; the input reads as it did. -/
def journalRecoversSpec : ChangeSpec := { name := "journalRecovers", fn := fun _ => fun
  | [d] => { results := [.lit (.bool true)], args := [d] }
  | _ => none }
def journalRecoversRow : OpenClaim := { program := "ytcpdfgckfefboaa", sum := "7357bf9726f74c232a256504fb74ff8dec667c404c17bc143c428c77a8dd094b", func := "recycling/recyclinglaw58.JournalRecovers", spec := "journalRecovers", unfollowed := true, recurses := true, apart := false }
def JournalRecoversSaid : Prop := journalRecoversRow.holds Try.pinned (OpenSpec.ofChange journalRecoversSpec)

/-- ITS FALSE NEIGHBOUR: 'it returns false'. Refute it at one input. -/
def journalRecoversWrong : ChangeSpec := { name := "journalRecovers", fn := fun _ => fun
  | [d] => { results := [.lit (.bool false)], args := [d] }
  | _ => none }
def JournalRecoversWrongFalsely : Prop := journalRecoversRow.holds Try.pinned (OpenSpec.ofChange journalRecoversWrong)

/-- 'recyclinglaw58.JournalRoundTrip': WHATEVER THE INPUT: true; the input reads as it did. -/
def journalRoundTripSpec : ChangeSpec := { name := "journalRoundTrip", fn := fun _ => fun
  | [d1, d2] => { results := [.lit (.bool true)], args := [d1, d2] }
  | _ => none }
def journalRoundTripRow : OpenClaim := { program := "ytcpdfgckfefboaa", sum := "7357bf9726f74c232a256504fb74ff8dec667c404c17bc143c428c77a8dd094b", func := "recycling/recyclinglaw58.JournalRoundTrip", spec := "journalRoundTrip", unfollowed := true, recurses := true, apart := false }
def JournalRoundTripSaid : Prop := journalRoundTripRow.holds Try.pinned (OpenSpec.ofChange journalRoundTripSpec)

/-- ITS FALSE NEIGHBOUR: 'it returns false'. Refute it at one input. -/
def journalRoundTripWrong : ChangeSpec := { name := "journalRoundTrip", fn := fun _ => fun
  | [d1, d2] => { results := [.lit (.bool false)], args := [d1, d2] }
  | _ => none }
def JournalRoundTripWrongFalsely : Prop := journalRoundTripRow.holds Try.pinned (OpenSpec.ofChange journalRoundTripWrong)

/-- 'recyclinglaw58.JournalPrefix': WHATEVER THE INPUT: true; the input reads as it did. -/
def journalPrefixSpec : ChangeSpec := { name := "journalPrefix", fn := fun _ => fun
  | [d1, d2] => { results := [.lit (.bool true)], args := [d1, d2] }
  | _ => none }
def journalPrefixRow : OpenClaim := { program := "ytcpdfgckfefboaa", sum := "7357bf9726f74c232a256504fb74ff8dec667c404c17bc143c428c77a8dd094b", func := "recycling/recyclinglaw58.JournalPrefix", spec := "journalPrefix", unfollowed := true, recurses := true, apart := false }
def JournalPrefixSaid : Prop := journalPrefixRow.holds Try.pinned (OpenSpec.ofChange journalPrefixSpec)

/-- ITS FALSE NEIGHBOUR: 'it returns false'. Refute it at one input. -/
def journalPrefixWrong : ChangeSpec := { name := "journalPrefix", fn := fun _ => fun
  | [d1, d2] => { results := [.lit (.bool false)], args := [d1, d2] }
  | _ => none }
def JournalPrefixWrongFalsely : Prop := journalPrefixRow.holds Try.pinned (OpenSpec.ofChange journalPrefixWrong)

/- THE SECOND FORM. 'bulk': how many values and letters a reading holds, each counted each time it is reached (what is shared counts as often as it is met; a slice's spare places count too). A statement '..UptoSaid' is the law's where the arguments, and the package variables that the reading takes, are together of bulk at most 1048576: NARROWER than '..Said'. Prove '..Said' where nothing that the law and all that it calls make is longer than what came in: it says more and counts as full. Else prove '..UptoSaid'. A law counts once. -/
mutual
def uptoBulk {H : Type} : DataW H → Nat
  | .lit (.string bytes) => bytes.length + 1
  | .lit _ => 1
  | .nil => 1
  | .ptr d => uptoBulk d + 1
  | .slice elems spare => uptoBulkAll elems + uptoBulkAll spare + 1
  | .agg parts => uptoBulkAll parts + 1
  | .iface _ d => uptoBulk d + 1
  | .map entries => uptoBulkEntries entries + 1
  | .held _ => 1
def uptoBulkAll {H : Type} : List (DataW H) → Nat
  | [] => 0
  | d :: r => uptoBulk d + uptoBulkAll r
def uptoBulkEntries {H : Type} : List (Lit × DataW H) → Nat
  | [] => 0
  | x :: r => uptoBulkEntry x + uptoBulkEntries r
def uptoBulkEntry {H : Type} : Lit × DataW H → Nat
  | (.string bytes, d) => bytes.length + uptoBulk d + 1
  | (_, d) => uptoBulk d + 1
 end
def uptoSmall : (H : Type) → List (DataW H) → Bool := fun _ ds => decide (uptoBulkAll ds ≤ 1048576)
def OpenSpec.upto (s : _root_.Go.ChangeSpec) : _root_.Go.OpenSpec := { _root_.Go.OpenSpec.ofChange s with cond := some uptoSmall }

/-- 'recyclinglaw58.JournalFollows', WHERE WHAT IT READS IS OF BULK AT MOST 1048576: true; the input reads as it did. -/
def journalFollowsUptoRow : OpenClaim := { program := "ytcpdfgckfefboaa", sum := "7357bf9726f74c232a256504fb74ff8dec667c404c17bc143c428c77a8dd094b", func := "recycling/recyclinglaw58.JournalFollows", spec := "journalFollows", unfollowed := true, recurses := true, apart := false, narrowed := true }
def JournalFollowsUptoSaid : Prop := journalFollowsUptoRow.holds Try.pinned (OpenSpec.upto journalFollowsSpec)

/-- 'recyclinglaw58.JournalGrows', WHERE WHAT IT READS IS OF BULK AT MOST 1048576: true; the input reads as it did. -/
def journalGrowsUptoRow : OpenClaim := { program := "ytcpdfgckfefboaa", sum := "7357bf9726f74c232a256504fb74ff8dec667c404c17bc143c428c77a8dd094b", func := "recycling/recyclinglaw58.JournalGrows", spec := "journalGrows", unfollowed := true, recurses := true, apart := false, narrowed := true }
def JournalGrowsUptoSaid : Prop := journalGrowsUptoRow.holds Try.pinned (OpenSpec.upto journalGrowsSpec)

/-- 'recyclinglaw58.JournalChecks', WHERE WHAT IT READS IS OF BULK AT MOST 1048576: true; the input reads as it did. -/
def journalChecksUptoRow : OpenClaim := { program := "ytcpdfgckfefboaa", sum := "7357bf9726f74c232a256504fb74ff8dec667c404c17bc143c428c77a8dd094b", func := "recycling/recyclinglaw58.JournalChecks", spec := "journalChecks", unfollowed := true, recurses := true, apart := false, narrowed := true }
def JournalChecksUptoSaid : Prop := journalChecksUptoRow.holds Try.pinned (OpenSpec.upto journalChecksSpec)

/-- 'recyclinglaw58.JournalPuts', WHERE WHAT IT READS IS OF BULK AT MOST 1048576: true; the input reads as it did. -/
def journalPutsUptoRow : OpenClaim := { program := "ytcpdfgckfefboaa", sum := "7357bf9726f74c232a256504fb74ff8dec667c404c17bc143c428c77a8dd094b", func := "recycling/recyclinglaw58.JournalPuts", spec := "journalPuts", unfollowed := true, recurses := true, apart := false, narrowed := true }
def JournalPutsUptoSaid : Prop := journalPutsUptoRow.holds Try.pinned (OpenSpec.upto journalPutsSpec)

/-- 'recyclinglaw58.JournalGets', WHERE WHAT IT READS IS OF BULK AT MOST 1048576: true; the input reads as it did. -/
def journalGetsUptoRow : OpenClaim := { program := "ytcpdfgckfefboaa", sum := "7357bf9726f74c232a256504fb74ff8dec667c404c17bc143c428c77a8dd094b", func := "recycling/recyclinglaw58.JournalGets", spec := "journalGets", unfollowed := true, recurses := true, apart := false, narrowed := true }
def JournalGetsUptoSaid : Prop := journalGetsUptoRow.holds Try.pinned (OpenSpec.upto journalGetsSpec)

/-- 'recyclinglaw58.JournalRecovers', WHERE WHAT IT READS IS OF BULK AT MOST 1048576: true; the input reads as it did. -/
def journalRecoversUptoRow : OpenClaim := { program := "ytcpdfgckfefboaa", sum := "7357bf9726f74c232a256504fb74ff8dec667c404c17bc143c428c77a8dd094b", func := "recycling/recyclinglaw58.JournalRecovers", spec := "journalRecovers", unfollowed := true, recurses := true, apart := false, narrowed := true }
def JournalRecoversUptoSaid : Prop := journalRecoversUptoRow.holds Try.pinned (OpenSpec.upto journalRecoversSpec)

/-- 'recyclinglaw58.JournalRoundTrip', WHERE WHAT IT READS IS OF BULK AT MOST 1048576: true; the input reads as it did. -/
def journalRoundTripUptoRow : OpenClaim := { program := "ytcpdfgckfefboaa", sum := "7357bf9726f74c232a256504fb74ff8dec667c404c17bc143c428c77a8dd094b", func := "recycling/recyclinglaw58.JournalRoundTrip", spec := "journalRoundTrip", unfollowed := true, recurses := true, apart := false, narrowed := true }
def JournalRoundTripUptoSaid : Prop := journalRoundTripUptoRow.holds Try.pinned (OpenSpec.upto journalRoundTripSpec)

/-- 'recyclinglaw58.JournalPrefix', WHERE WHAT IT READS IS OF BULK AT MOST 1048576: true; the input reads as it did. -/
def journalPrefixUptoRow : OpenClaim := { program := "ytcpdfgckfefboaa", sum := "7357bf9726f74c232a256504fb74ff8dec667c404c17bc143c428c77a8dd094b", func := "recycling/recyclinglaw58.JournalPrefix", spec := "journalPrefix", unfollowed := true, recurses := true, apart := false, narrowed := true }
def JournalPrefixUptoSaid : Prop := journalPrefixUptoRow.holds Try.pinned (OpenSpec.upto journalPrefixSpec)

end Rows
end Go.Proofs.Ytcpdfgckfefboaa
