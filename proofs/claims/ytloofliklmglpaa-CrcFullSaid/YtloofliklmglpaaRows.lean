/-
  No cell of these rows narrows 'for every input' (looked for: loops, veiled, ifaces, maps, wideKeys, modest, calm, conditions, laid).
  DERIVED. THE GIVEN ROWS OF THIS SEAT. 9 by the template 'for every input the law returns true; each argument reads behind the call as it read before'; 0 by the template 'total and deterministic' (their statements: YtloofliklmglpaaTotals.lean).
  GIVEN WITH THE SEED: the statements are not yours to turn. If you find one false, say at which input.
  Laid BY PROGRAM, IN A SANDBOX (cutbox-rows.mjs): the forced cells as the released guide's own fill.sh prints them over the translation 4f485bf2046c9bcc… (all of the seat's roots in one cut). By AI agents, Wed Nov 11 2026. No macro, syntax, notation, axiom, sorry.
-/
import Derived.Test.YtloofliklmglpaaChecked
import GoSem.Claim
import GoSem.ClaimJoined
import GoSem.ClaimMapViews
import Derived.JoinedTies
import Derived.KernelRfl
namespace Go.Proofs.Ytloofliklmglpaa
/- THE CELL 'sum', in the pinned program and in every row, IS THE sha256 OF THE DUMP (.gsa) THAT YtloofliklmglpaaProg.lean LOADS. Nothing in Lean hashes anything: it is a label: what it is worth is what the hold of that sum in a sandbox is worth. -/
noncomputable def Try.pinned : Pinned := { name := "ytloofliklmglpaa", sum := "4f485bf2046c9bcc8924b6135ce0b1f9ec34bf98548d09b38cd76632f8ac0ab3", checked := Try.checked }
namespace Rows
def none {H : Type} : Left H := { results := [], args := [] }

/-- 'recyclinglaw07.CrcSums': WHATEVER THE INPUT: true; the input reads as it did. -/
def crcSumsSpec : ChangeSpec := { name := "crcSums", fn := fun _ => fun
  | [d] => { results := [.lit (.bool true)], args := [d] }
  | _ => none }
def crcSumsRow : OpenClaim := { program := "ytloofliklmglpaa", sum := "4f485bf2046c9bcc8924b6135ce0b1f9ec34bf98548d09b38cd76632f8ac0ab3", func := "recycling/recyclinglaw07.CrcSums", spec := "crcSums", apart := false }
def CrcSumsSaid : Prop := crcSumsRow.holds Try.pinned (OpenSpec.ofChange crcSumsSpec)

/-- ITS FALSE NEIGHBOUR: 'it returns false'. Refute it at one input. -/
def crcSumsWrong : ChangeSpec := { name := "crcSums", fn := fun _ => fun
  | [d] => { results := [.lit (.bool false)], args := [d] }
  | _ => none }
def CrcSumsWrongFalsely : Prop := crcSumsRow.holds Try.pinned (OpenSpec.ofChange crcSumsWrong)

/-- 'recyclinglaw07.CrcExtends': WHATEVER THE INPUT: true; the input reads as it did. -/
def crcExtendsSpec : ChangeSpec := { name := "crcExtends", fn := fun _ => fun
  | [d1, d2, d3] => { results := [.lit (.bool true)], args := [d1, d2, d3] }
  | _ => none }
def crcExtendsRow : OpenClaim := { program := "ytloofliklmglpaa", sum := "4f485bf2046c9bcc8924b6135ce0b1f9ec34bf98548d09b38cd76632f8ac0ab3", func := "recycling/recyclinglaw07.CrcExtends", spec := "crcExtends", apart := false }
def CrcExtendsSaid : Prop := crcExtendsRow.holds Try.pinned (OpenSpec.ofChange crcExtendsSpec)

/-- ITS FALSE NEIGHBOUR: 'it returns false'. Refute it at one input. -/
def crcExtendsWrong : ChangeSpec := { name := "crcExtends", fn := fun _ => fun
  | [d1, d2, d3] => { results := [.lit (.bool false)], args := [d1, d2, d3] }
  | _ => none }
def CrcExtendsWrongFalsely : Prop := crcExtendsRow.holds Try.pinned (OpenSpec.ofChange crcExtendsWrong)

/-- 'recyclinglaw07.CrcFrames': WHATEVER THE INPUT: true; the input reads as it did. -/
def crcFramesSpec : ChangeSpec := { name := "crcFrames", fn := fun _ => fun
  | [d] => { results := [.lit (.bool true)], args := [d] }
  | _ => none }
def crcFramesRow : OpenClaim := { program := "ytloofliklmglpaa", sum := "4f485bf2046c9bcc8924b6135ce0b1f9ec34bf98548d09b38cd76632f8ac0ab3", func := "recycling/recyclinglaw07.CrcFrames", spec := "crcFrames", apart := false }
def CrcFramesSaid : Prop := crcFramesRow.holds Try.pinned (OpenSpec.ofChange crcFramesSpec)

/-- ITS FALSE NEIGHBOUR: 'it returns false'. Refute it at one input. -/
def crcFramesWrong : ChangeSpec := { name := "crcFrames", fn := fun _ => fun
  | [d] => { results := [.lit (.bool false)], args := [d] }
  | _ => none }
def CrcFramesWrongFalsely : Prop := crcFramesRow.holds Try.pinned (OpenSpec.ofChange crcFramesWrong)

/-- 'recyclinglaw07.CrcFull': WHATEVER THE INPUT: true; the input reads as it did. -/
def crcFullSpec : ChangeSpec := { name := "crcFull", fn := fun _ => fun
  | [d1, d2] => { results := [.lit (.bool true)], args := [d1, d2] }
  | _ => none }
def crcFullRow : OpenClaim := { program := "ytloofliklmglpaa", sum := "4f485bf2046c9bcc8924b6135ce0b1f9ec34bf98548d09b38cd76632f8ac0ab3", func := "recycling/recyclinglaw07.CrcFull", spec := "crcFull", apart := false }
def CrcFullSaid : Prop := crcFullRow.holds Try.pinned (OpenSpec.ofChange crcFullSpec)

/-- ITS FALSE NEIGHBOUR: 'it returns false'. Refute it at one input. -/
def crcFullWrong : ChangeSpec := { name := "crcFull", fn := fun _ => fun
  | [d1, d2] => { results := [.lit (.bool false)], args := [d1, d2] }
  | _ => none }
def CrcFullWrongFalsely : Prop := crcFullRow.holds Try.pinned (OpenSpec.ofChange crcFullWrong)

/-- 'recyclinglaw07.CrcOpens': WHATEVER THE INPUT: true; the input reads as it did. -/
def crcOpensSpec : ChangeSpec := { name := "crcOpens", fn := fun _ => fun
  | [d] => { results := [.lit (.bool true)], args := [d] }
  | _ => none }
def crcOpensRow : OpenClaim := { program := "ytloofliklmglpaa", sum := "4f485bf2046c9bcc8924b6135ce0b1f9ec34bf98548d09b38cd76632f8ac0ab3", func := "recycling/recyclinglaw07.CrcOpens", spec := "crcOpens", apart := false }
def CrcOpensSaid : Prop := crcOpensRow.holds Try.pinned (OpenSpec.ofChange crcOpensSpec)

/-- ITS FALSE NEIGHBOUR: 'it returns false'. Refute it at one input. -/
def crcOpensWrong : ChangeSpec := { name := "crcOpens", fn := fun _ => fun
  | [d] => { results := [.lit (.bool false)], args := [d] }
  | _ => none }
def CrcOpensWrongFalsely : Prop := crcOpensRow.holds Try.pinned (OpenSpec.ofChange crcOpensWrong)

/-- 'recyclinglaw07.CrcAlls': WHATEVER THE INPUT: true; the input reads as it did. -/
def crcAllsSpec : ChangeSpec := { name := "crcAlls", fn := fun _ => fun
  | [d] => { results := [.lit (.bool true)], args := [d] }
  | _ => none }
def crcAllsRow : OpenClaim := { program := "ytloofliklmglpaa", sum := "4f485bf2046c9bcc8924b6135ce0b1f9ec34bf98548d09b38cd76632f8ac0ab3", func := "recycling/recyclinglaw07.CrcAlls", spec := "crcAlls", apart := false }
def CrcAllsSaid : Prop := crcAllsRow.holds Try.pinned (OpenSpec.ofChange crcAllsSpec)

/-- ITS FALSE NEIGHBOUR: 'it returns false'. Refute it at one input. -/
def crcAllsWrong : ChangeSpec := { name := "crcAlls", fn := fun _ => fun
  | [d] => { results := [.lit (.bool false)], args := [d] }
  | _ => none }
def CrcAllsWrongFalsely : Prop := crcAllsRow.holds Try.pinned (OpenSpec.ofChange crcAllsWrong)

/-- 'recyclinglaw07.CrcRoundTrip': WHATEVER THE INPUT: true; the input reads as it did. -/
def crcRoundTripSpec : ChangeSpec := { name := "crcRoundTrip", fn := fun _ => fun
  | [d1, d2, d3] => { results := [.lit (.bool true)], args := [d1, d2, d3] }
  | _ => none }
def crcRoundTripRow : OpenClaim := { program := "ytloofliklmglpaa", sum := "4f485bf2046c9bcc8924b6135ce0b1f9ec34bf98548d09b38cd76632f8ac0ab3", func := "recycling/recyclinglaw07.CrcRoundTrip", spec := "crcRoundTrip", apart := false }
def CrcRoundTripSaid : Prop := crcRoundTripRow.holds Try.pinned (OpenSpec.ofChange crcRoundTripSpec)

/-- ITS FALSE NEIGHBOUR: 'it returns false'. Refute it at one input. -/
def crcRoundTripWrong : ChangeSpec := { name := "crcRoundTrip", fn := fun _ => fun
  | [d1, d2, d3] => { results := [.lit (.bool false)], args := [d1, d2, d3] }
  | _ => none }
def CrcRoundTripWrongFalsely : Prop := crcRoundTripRow.holds Try.pinned (OpenSpec.ofChange crcRoundTripWrong)

/-- 'recyclinglaw07.CrcDamaged': WHATEVER THE INPUT: true; the input reads as it did. -/
def crcDamagedSpec : ChangeSpec := { name := "crcDamaged", fn := fun _ => fun
  | [d1, d2, d3] => { results := [.lit (.bool true)], args := [d1, d2, d3] }
  | _ => none }
def crcDamagedRow : OpenClaim := { program := "ytloofliklmglpaa", sum := "4f485bf2046c9bcc8924b6135ce0b1f9ec34bf98548d09b38cd76632f8ac0ab3", func := "recycling/recyclinglaw07.CrcDamaged", spec := "crcDamaged", apart := false }
def CrcDamagedSaid : Prop := crcDamagedRow.holds Try.pinned (OpenSpec.ofChange crcDamagedSpec)

/-- ITS FALSE NEIGHBOUR: 'it returns false'. Refute it at one input. -/
def crcDamagedWrong : ChangeSpec := { name := "crcDamaged", fn := fun _ => fun
  | [d1, d2, d3] => { results := [.lit (.bool false)], args := [d1, d2, d3] }
  | _ => none }
def CrcDamagedWrongFalsely : Prop := crcDamagedRow.holds Try.pinned (OpenSpec.ofChange crcDamagedWrong)

/-- 'recyclinglaw07.CrcPrefix': WHATEVER THE INPUT: true; the input reads as it did. -/
def crcPrefixSpec : ChangeSpec := { name := "crcPrefix", fn := fun _ => fun
  | [d1, d2] => { results := [.lit (.bool true)], args := [d1, d2] }
  | _ => none }
def crcPrefixRow : OpenClaim := { program := "ytloofliklmglpaa", sum := "4f485bf2046c9bcc8924b6135ce0b1f9ec34bf98548d09b38cd76632f8ac0ab3", func := "recycling/recyclinglaw07.CrcPrefix", spec := "crcPrefix", apart := false }
def CrcPrefixSaid : Prop := crcPrefixRow.holds Try.pinned (OpenSpec.ofChange crcPrefixSpec)

/-- ITS FALSE NEIGHBOUR: 'it returns false'. Refute it at one input. -/
def crcPrefixWrong : ChangeSpec := { name := "crcPrefix", fn := fun _ => fun
  | [d1, d2] => { results := [.lit (.bool false)], args := [d1, d2] }
  | _ => none }
def CrcPrefixWrongFalsely : Prop := crcPrefixRow.holds Try.pinned (OpenSpec.ofChange crcPrefixWrong)

/- THE SECOND FORM. 'bulk': how many values and letters a reading holds, each counted each time it is reached (what is shared counts as often as it is met; a slice's spare places count too). A statement '..UptoSaid' is the law's where the arguments, and the package variables that the reading takes, are together of bulk at most 1048576: NARROWER than '..Said'. Prove '..Said' where nothing that the law and all that it calls make is longer than what came in: it says more and counts as full. Else prove '..UptoSaid'. A law counts once. -/
mutual
def uptoBulk {H : Type} : DataW H → Nat
  | .lit (.string bytes) => bytes.length + 1
  | .lit _ => 1
  | .nil => 1
  | .ptr d => uptoBulk d + 1
  | .slice elems spare => uptoBulkAll elems + uptoBulkAll spare + 1
  | .agg parts => uptoBulkAll parts + 1
  | .iface _ d => uptoBulk d + 1
  | .map entries => uptoBulkEntries entries + 1
  | .held _ => 1
def uptoBulkAll {H : Type} : List (DataW H) → Nat
  | [] => 0
  | d :: r => uptoBulk d + uptoBulkAll r
def uptoBulkEntries {H : Type} : List (Lit × DataW H) → Nat
  | [] => 0
  | x :: r => uptoBulkEntry x + uptoBulkEntries r
def uptoBulkEntry {H : Type} : Lit × DataW H → Nat
  | (.string bytes, d) => bytes.length + uptoBulk d + 1
  | (_, d) => uptoBulk d + 1
 end
def uptoSmall : (H : Type) → List (DataW H) → Bool := fun _ ds => decide (uptoBulkAll ds ≤ 1048576)
def OpenSpec.upto (s : _root_.Go.ChangeSpec) : _root_.Go.OpenSpec := { _root_.Go.OpenSpec.ofChange s with cond := some uptoSmall }

/-- 'recyclinglaw07.CrcSums', WHERE WHAT IT READS IS OF BULK AT MOST 1048576: true; the input reads as it did. -/
def crcSumsUptoRow : OpenClaim := { program := "ytloofliklmglpaa", sum := "4f485bf2046c9bcc8924b6135ce0b1f9ec34bf98548d09b38cd76632f8ac0ab3", func := "recycling/recyclinglaw07.CrcSums", spec := "crcSums", apart := false, narrowed := true }
def CrcSumsUptoSaid : Prop := crcSumsUptoRow.holds Try.pinned (OpenSpec.upto crcSumsSpec)

/-- 'recyclinglaw07.CrcExtends', WHERE WHAT IT READS IS OF BULK AT MOST 1048576: true; the input reads as it did. -/
def crcExtendsUptoRow : OpenClaim := { program := "ytloofliklmglpaa", sum := "4f485bf2046c9bcc8924b6135ce0b1f9ec34bf98548d09b38cd76632f8ac0ab3", func := "recycling/recyclinglaw07.CrcExtends", spec := "crcExtends", apart := false, narrowed := true }
def CrcExtendsUptoSaid : Prop := crcExtendsUptoRow.holds Try.pinned (OpenSpec.upto crcExtendsSpec)

/-- 'recyclinglaw07.CrcFrames', WHERE WHAT IT READS IS OF BULK AT MOST 1048576: true; the input reads as it did. -/
def crcFramesUptoRow : OpenClaim := { program := "ytloofliklmglpaa", sum := "4f485bf2046c9bcc8924b6135ce0b1f9ec34bf98548d09b38cd76632f8ac0ab3", func := "recycling/recyclinglaw07.CrcFrames", spec := "crcFrames", apart := false, narrowed := true }
def CrcFramesUptoSaid : Prop := crcFramesUptoRow.holds Try.pinned (OpenSpec.upto crcFramesSpec)

/-- 'recyclinglaw07.CrcFull', WHERE WHAT IT READS IS OF BULK AT MOST 1048576: true; the input reads as it did. -/
def crcFullUptoRow : OpenClaim := { program := "ytloofliklmglpaa", sum := "4f485bf2046c9bcc8924b6135ce0b1f9ec34bf98548d09b38cd76632f8ac0ab3", func := "recycling/recyclinglaw07.CrcFull", spec := "crcFull", apart := false, narrowed := true }
def CrcFullUptoSaid : Prop := crcFullUptoRow.holds Try.pinned (OpenSpec.upto crcFullSpec)

/-- 'recyclinglaw07.CrcOpens', WHERE WHAT IT READS IS OF BULK AT MOST 1048576: true; the input reads as it did. -/
def crcOpensUptoRow : OpenClaim := { program := "ytloofliklmglpaa", sum := "4f485bf2046c9bcc8924b6135ce0b1f9ec34bf98548d09b38cd76632f8ac0ab3", func := "recycling/recyclinglaw07.CrcOpens", spec := "crcOpens", apart := false, narrowed := true }
def CrcOpensUptoSaid : Prop := crcOpensUptoRow.holds Try.pinned (OpenSpec.upto crcOpensSpec)

/-- 'recyclinglaw07.CrcAlls', WHERE WHAT IT READS IS OF BULK AT MOST 1048576: true; the input reads as it did. -/
def crcAllsUptoRow : OpenClaim := { program := "ytloofliklmglpaa", sum := "4f485bf2046c9bcc8924b6135ce0b1f9ec34bf98548d09b38cd76632f8ac0ab3", func := "recycling/recyclinglaw07.CrcAlls", spec := "crcAlls", apart := false, narrowed := true }
def CrcAllsUptoSaid : Prop := crcAllsUptoRow.holds Try.pinned (OpenSpec.upto crcAllsSpec)

/-- 'recyclinglaw07.CrcRoundTrip', WHERE WHAT IT READS IS OF BULK AT MOST 1048576: true; the input reads as it did. -/
def crcRoundTripUptoRow : OpenClaim := { program := "ytloofliklmglpaa", sum := "4f485bf2046c9bcc8924b6135ce0b1f9ec34bf98548d09b38cd76632f8ac0ab3", func := "recycling/recyclinglaw07.CrcRoundTrip", spec := "crcRoundTrip", apart := false, narrowed := true }
def CrcRoundTripUptoSaid : Prop := crcRoundTripUptoRow.holds Try.pinned (OpenSpec.upto crcRoundTripSpec)

/-- 'recyclinglaw07.CrcDamaged', WHERE WHAT IT READS IS OF BULK AT MOST 1048576: true; the input reads as it did. -/
def crcDamagedUptoRow : OpenClaim := { program := "ytloofliklmglpaa", sum := "4f485bf2046c9bcc8924b6135ce0b1f9ec34bf98548d09b38cd76632f8ac0ab3", func := "recycling/recyclinglaw07.CrcDamaged", spec := "crcDamaged", apart := false, narrowed := true }
def CrcDamagedUptoSaid : Prop := crcDamagedUptoRow.holds Try.pinned (OpenSpec.upto crcDamagedSpec)

/-- 'recyclinglaw07.CrcPrefix', WHERE WHAT IT READS IS OF BULK AT MOST 1048576: true; the input reads as it did. -/
def crcPrefixUptoRow : OpenClaim := { program := "ytloofliklmglpaa", sum := "4f485bf2046c9bcc8924b6135ce0b1f9ec34bf98548d09b38cd76632f8ac0ab3", func := "recycling/recyclinglaw07.CrcPrefix", spec := "crcPrefix", apart := false, narrowed := true }
def CrcPrefixUptoSaid : Prop := crcPrefixUptoRow.holds Try.pinned (OpenSpec.upto crcPrefixSpec)

end Rows
end Go.Proofs.Ytloofliklmglpaa
