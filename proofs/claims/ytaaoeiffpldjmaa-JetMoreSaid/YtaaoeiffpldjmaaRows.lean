/-
  No cell of these rows narrows 'for every input' (looked for: loops, veiled, ifaces, maps, wideKeys, modest, calm, conditions, laid).
  DERIVED. THE GIVEN ROWS OF THIS SEAT. 7 by the template 'for every input the law returns true; each argument reads behind the call as it read before'; 0 by the template 'total and deterministic' (their statements: YtaaoeiffpldjmaaTotals.lean).
  GIVEN WITH THE SEED: the statements are not yours to turn. If you find one false, say at which input.
  Laid BY PROGRAM, IN A SANDBOX (cutbox-rows.mjs): the forced cells as the released guide's own fill.sh prints them over the translation 93a6c183f46ab439… (all of the seat's roots in one cut). By AI agents, Wed Nov 11 2026. No macro, syntax, notation, axiom, sorry.
-/
import Derived.Test.YtaaoeiffpldjmaaChecked
import GoSem.Claim
import GoSem.ClaimJoined
import GoSem.ClaimMapViews
import Derived.JoinedTies
import Derived.KernelRfl
namespace Go.Proofs.Ytaaoeiffpldjmaa
/- THE CELL 'sum', in the pinned program and in every row, IS THE sha256 OF THE DUMP (.gsa) THAT YtaaoeiffpldjmaaProg.lean LOADS. Nothing in Lean hashes anything: it is a label: what it is worth is what the hold of that sum in a sandbox is worth. -/
noncomputable def Try.pinned : Pinned := { name := "ytaaoeiffpldjmaa", sum := "93a6c183f46ab4391225f7a84e29c3c99b02196af8c478c5f625e2c9dc0eb318", checked := Try.checked }
namespace Rows
def none {H : Type} : Left H := { results := [], args := [] }

/-- 'recyclinglaw32.JetPlans': WHATEVER THE INPUT: true; the input reads as it did. -/
def jetPlansSpec : ChangeSpec := { name := "jetPlans", fn := fun _ => fun
  | [d1, d2] => { results := [.lit (.bool true)], args := [d1, d2] }
  | _ => none }
def jetPlansRow : OpenClaim := { program := "ytaaoeiffpldjmaa", sum := "93a6c183f46ab4391225f7a84e29c3c99b02196af8c478c5f625e2c9dc0eb318", func := "recycling/recyclinglaw32.JetPlans", spec := "jetPlans", unfollowed := true, recurses := true, apart := false }
def JetPlansSaid : Prop := jetPlansRow.holds Try.pinned (OpenSpec.ofChange jetPlansSpec)

/-- ITS FALSE NEIGHBOUR: 'it returns false'. Refute it at one input. -/
def jetPlansWrong : ChangeSpec := { name := "jetPlans", fn := fun _ => fun
  | [d1, d2] => { results := [.lit (.bool false)], args := [d1, d2] }
  | _ => none }
def JetPlansWrongFalsely : Prop := jetPlansRow.holds Try.pinned (OpenSpec.ofChange jetPlansWrong)

/-- 'recyclinglaw32.JetTells': WHATEVER THE INPUT: true; the input reads as it did. -/
def jetTellsSpec : ChangeSpec := { name := "jetTells", fn := fun _ => fun
  | [d1, d2, d3] => { results := [.lit (.bool true)], args := [d1, d2, d3] }
  | _ => none }
def jetTellsRow : OpenClaim := { program := "ytaaoeiffpldjmaa", sum := "93a6c183f46ab4391225f7a84e29c3c99b02196af8c478c5f625e2c9dc0eb318", func := "recycling/recyclinglaw32.JetTells", spec := "jetTells", unfollowed := true, recurses := true, apart := false }
def JetTellsSaid : Prop := jetTellsRow.holds Try.pinned (OpenSpec.ofChange jetTellsSpec)

/-- ITS FALSE NEIGHBOUR: 'it returns false'. Refute it at one input. -/
def jetTellsWrong : ChangeSpec := { name := "jetTells", fn := fun _ => fun
  | [d1, d2, d3] => { results := [.lit (.bool false)], args := [d1, d2, d3] }
  | _ => none }
def JetTellsWrongFalsely : Prop := jetTellsRow.holds Try.pinned (OpenSpec.ofChange jetTellsWrong)

/-- 'recyclinglaw32.JetSteps': WHATEVER THE INPUT: true; the input reads as it did. -/
def jetStepsSpec : ChangeSpec := { name := "jetSteps", fn := fun _ => fun
  | [d] => { results := [.lit (.bool true)], args := [d] }
  | _ => none }
def jetStepsRow : OpenClaim := { program := "ytaaoeiffpldjmaa", sum := "93a6c183f46ab4391225f7a84e29c3c99b02196af8c478c5f625e2c9dc0eb318", func := "recycling/recyclinglaw32.JetSteps", spec := "jetSteps", unfollowed := true, recurses := true, apart := false }
def JetStepsSaid : Prop := jetStepsRow.holds Try.pinned (OpenSpec.ofChange jetStepsSpec)

/-- ITS FALSE NEIGHBOUR: 'it returns false'. Refute it at one input. -/
def jetStepsWrong : ChangeSpec := { name := "jetSteps", fn := fun _ => fun
  | [d] => { results := [.lit (.bool false)], args := [d] }
  | _ => none }
def JetStepsWrongFalsely : Prop := jetStepsRow.holds Try.pinned (OpenSpec.ofChange jetStepsWrong)

/-- 'recyclinglaw32.JetHits': WHATEVER THE INPUT: true; the input reads as it did. -/
def jetHitsSpec : ChangeSpec := { name := "jetHits", fn := fun _ => fun
  | [d1, d2, d3] => { results := [.lit (.bool true)], args := [d1, d2, d3] }
  | _ => none }
def jetHitsRow : OpenClaim := { program := "ytaaoeiffpldjmaa", sum := "93a6c183f46ab4391225f7a84e29c3c99b02196af8c478c5f625e2c9dc0eb318", func := "recycling/recyclinglaw32.JetHits", spec := "jetHits", unfollowed := true, recurses := true, apart := false }
def JetHitsSaid : Prop := jetHitsRow.holds Try.pinned (OpenSpec.ofChange jetHitsSpec)

/-- ITS FALSE NEIGHBOUR: 'it returns false'. Refute it at one input. -/
def jetHitsWrong : ChangeSpec := { name := "jetHits", fn := fun _ => fun
  | [d1, d2, d3] => { results := [.lit (.bool false)], args := [d1, d2, d3] }
  | _ => none }
def JetHitsWrongFalsely : Prop := jetHitsRow.holds Try.pinned (OpenSpec.ofChange jetHitsWrong)

/-- 'recyclinglaw32.JetCovers': WHATEVER THE INPUT: true; the input reads as it did. -/
def jetCoversSpec : ChangeSpec := { name := "jetCovers", fn := fun _ => fun
  | [d1, d2, d3] => { results := [.lit (.bool true)], args := [d1, d2, d3] }
  | _ => none }
def jetCoversRow : OpenClaim := { program := "ytaaoeiffpldjmaa", sum := "93a6c183f46ab4391225f7a84e29c3c99b02196af8c478c5f625e2c9dc0eb318", func := "recycling/recyclinglaw32.JetCovers", spec := "jetCovers", unfollowed := true, recurses := true, apart := false }
def JetCoversSaid : Prop := jetCoversRow.holds Try.pinned (OpenSpec.ofChange jetCoversSpec)

/-- ITS FALSE NEIGHBOUR: 'it returns false'. Refute it at one input. -/
def jetCoversWrong : ChangeSpec := { name := "jetCovers", fn := fun _ => fun
  | [d1, d2, d3] => { results := [.lit (.bool false)], args := [d1, d2, d3] }
  | _ => none }
def JetCoversWrongFalsely : Prop := jetCoversRow.holds Try.pinned (OpenSpec.ofChange jetCoversWrong)

/-- 'recyclinglaw32.JetSeen': WHATEVER THE INPUT: true; the input reads as it did. -/
def jetSeenSpec : ChangeSpec := { name := "jetSeen", fn := fun _ => fun
  | [d1, d2] => { results := [.lit (.bool true)], args := [d1, d2] }
  | _ => none }
def jetSeenRow : OpenClaim := { program := "ytaaoeiffpldjmaa", sum := "93a6c183f46ab4391225f7a84e29c3c99b02196af8c478c5f625e2c9dc0eb318", func := "recycling/recyclinglaw32.JetSeen", spec := "jetSeen", unfollowed := true, recurses := true, apart := false }
def JetSeenSaid : Prop := jetSeenRow.holds Try.pinned (OpenSpec.ofChange jetSeenSpec)

/-- ITS FALSE NEIGHBOUR: 'it returns false'. Refute it at one input. -/
def jetSeenWrong : ChangeSpec := { name := "jetSeen", fn := fun _ => fun
  | [d1, d2] => { results := [.lit (.bool false)], args := [d1, d2] }
  | _ => none }
def JetSeenWrongFalsely : Prop := jetSeenRow.holds Try.pinned (OpenSpec.ofChange jetSeenWrong)

/-- 'recyclinglaw32.JetMore': WHATEVER THE INPUT: true; the input reads as it did. -/
def jetMoreSpec : ChangeSpec := { name := "jetMore", fn := fun _ => fun
  | [d1, d2, d3] => { results := [.lit (.bool true)], args := [d1, d2, d3] }
  | _ => none }
def jetMoreRow : OpenClaim := { program := "ytaaoeiffpldjmaa", sum := "93a6c183f46ab4391225f7a84e29c3c99b02196af8c478c5f625e2c9dc0eb318", func := "recycling/recyclinglaw32.JetMore", spec := "jetMore", unfollowed := true, recurses := true, apart := false }
def JetMoreSaid : Prop := jetMoreRow.holds Try.pinned (OpenSpec.ofChange jetMoreSpec)

/-- ITS FALSE NEIGHBOUR: 'it returns false'. Refute it at one input. -/
def jetMoreWrong : ChangeSpec := { name := "jetMore", fn := fun _ => fun
  | [d1, d2, d3] => { results := [.lit (.bool false)], args := [d1, d2, d3] }
  | _ => none }
def JetMoreWrongFalsely : Prop := jetMoreRow.holds Try.pinned (OpenSpec.ofChange jetMoreWrong)

/- THE SECOND FORM. 'bulk': how many values and letters a reading holds, each counted each time it is reached (what is shared counts as often as it is met; a slice's spare places count too). A statement '..UptoSaid' is the law's where the arguments, and the package variables that the reading takes, are together of bulk at most 1048576: NARROWER than '..Said'. Prove '..Said' where nothing that the law and all that it calls make is longer than what came in: it says more and counts as full. Else prove '..UptoSaid'. A law counts once. -/
mutual
def uptoBulk {H : Type} : DataW H → Nat
  | .lit (.string bytes) => bytes.length + 1
  | .lit _ => 1
  | .nil => 1
  | .ptr d => uptoBulk d + 1
  | .slice elems spare => uptoBulkAll elems + uptoBulkAll spare + 1
  | .agg parts => uptoBulkAll parts + 1
  | .iface _ d => uptoBulk d + 1
  | .map entries => uptoBulkEntries entries + 1
  | .held _ => 1
def uptoBulkAll {H : Type} : List (DataW H) → Nat
  | [] => 0
  | d :: r => uptoBulk d + uptoBulkAll r
def uptoBulkEntries {H : Type} : List (Lit × DataW H) → Nat
  | [] => 0
  | x :: r => uptoBulkEntry x + uptoBulkEntries r
def uptoBulkEntry {H : Type} : Lit × DataW H → Nat
  | (.string bytes, d) => bytes.length + uptoBulk d + 1
  | (_, d) => uptoBulk d + 1
 end
def uptoSmall : (H : Type) → List (DataW H) → Bool := fun _ ds => decide (uptoBulkAll ds ≤ 1048576)
def OpenSpec.upto (s : _root_.Go.ChangeSpec) : _root_.Go.OpenSpec := { _root_.Go.OpenSpec.ofChange s with cond := some uptoSmall }

/-- 'recyclinglaw32.JetPlans', WHERE WHAT IT READS IS OF BULK AT MOST 1048576: true; the input reads as it did. -/
def jetPlansUptoRow : OpenClaim := { program := "ytaaoeiffpldjmaa", sum := "93a6c183f46ab4391225f7a84e29c3c99b02196af8c478c5f625e2c9dc0eb318", func := "recycling/recyclinglaw32.JetPlans", spec := "jetPlans", unfollowed := true, recurses := true, apart := false, narrowed := true }
def JetPlansUptoSaid : Prop := jetPlansUptoRow.holds Try.pinned (OpenSpec.upto jetPlansSpec)

/-- 'recyclinglaw32.JetTells', WHERE WHAT IT READS IS OF BULK AT MOST 1048576: true; the input reads as it did. -/
def jetTellsUptoRow : OpenClaim := { program := "ytaaoeiffpldjmaa", sum := "93a6c183f46ab4391225f7a84e29c3c99b02196af8c478c5f625e2c9dc0eb318", func := "recycling/recyclinglaw32.JetTells", spec := "jetTells", unfollowed := true, recurses := true, apart := false, narrowed := true }
def JetTellsUptoSaid : Prop := jetTellsUptoRow.holds Try.pinned (OpenSpec.upto jetTellsSpec)

/-- 'recyclinglaw32.JetSteps', WHERE WHAT IT READS IS OF BULK AT MOST 1048576: true; the input reads as it did. -/
def jetStepsUptoRow : OpenClaim := { program := "ytaaoeiffpldjmaa", sum := "93a6c183f46ab4391225f7a84e29c3c99b02196af8c478c5f625e2c9dc0eb318", func := "recycling/recyclinglaw32.JetSteps", spec := "jetSteps", unfollowed := true, recurses := true, apart := false, narrowed := true }
def JetStepsUptoSaid : Prop := jetStepsUptoRow.holds Try.pinned (OpenSpec.upto jetStepsSpec)

/-- 'recyclinglaw32.JetHits', WHERE WHAT IT READS IS OF BULK AT MOST 1048576: true; the input reads as it did. -/
def jetHitsUptoRow : OpenClaim := { program := "ytaaoeiffpldjmaa", sum := "93a6c183f46ab4391225f7a84e29c3c99b02196af8c478c5f625e2c9dc0eb318", func := "recycling/recyclinglaw32.JetHits", spec := "jetHits", unfollowed := true, recurses := true, apart := false, narrowed := true }
def JetHitsUptoSaid : Prop := jetHitsUptoRow.holds Try.pinned (OpenSpec.upto jetHitsSpec)

/-- 'recyclinglaw32.JetCovers', WHERE WHAT IT READS IS OF BULK AT MOST 1048576: true; the input reads as it did. -/
def jetCoversUptoRow : OpenClaim := { program := "ytaaoeiffpldjmaa", sum := "93a6c183f46ab4391225f7a84e29c3c99b02196af8c478c5f625e2c9dc0eb318", func := "recycling/recyclinglaw32.JetCovers", spec := "jetCovers", unfollowed := true, recurses := true, apart := false, narrowed := true }
def JetCoversUptoSaid : Prop := jetCoversUptoRow.holds Try.pinned (OpenSpec.upto jetCoversSpec)

/-- 'recyclinglaw32.JetSeen', WHERE WHAT IT READS IS OF BULK AT MOST 1048576: true; the input reads as it did. -/
def jetSeenUptoRow : OpenClaim := { program := "ytaaoeiffpldjmaa", sum := "93a6c183f46ab4391225f7a84e29c3c99b02196af8c478c5f625e2c9dc0eb318", func := "recycling/recyclinglaw32.JetSeen", spec := "jetSeen", unfollowed := true, recurses := true, apart := false, narrowed := true }
def JetSeenUptoSaid : Prop := jetSeenUptoRow.holds Try.pinned (OpenSpec.upto jetSeenSpec)

/-- 'recyclinglaw32.JetMore', WHERE WHAT IT READS IS OF BULK AT MOST 1048576: true; the input reads as it did. -/
def jetMoreUptoRow : OpenClaim := { program := "ytaaoeiffpldjmaa", sum := "93a6c183f46ab4391225f7a84e29c3c99b02196af8c478c5f625e2c9dc0eb318", func := "recycling/recyclinglaw32.JetMore", spec := "jetMore", unfollowed := true, recurses := true, apart := false, narrowed := true }
def JetMoreUptoSaid : Prop := jetMoreUptoRow.holds Try.pinned (OpenSpec.upto jetMoreSpec)

end Rows
end Go.Proofs.Ytaaoeiffpldjmaa
