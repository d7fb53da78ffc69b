/-
  No cell of these rows narrows 'for every input' (looked for: loops, veiled, ifaces, maps, wideKeys, modest, calm, conditions, laid).
  DERIVED. THE GIVEN ROWS OF THIS SEAT. 7 by the template 'for every input the law returns true; each argument reads behind the call as it read before'; 0 by the template 'total and deterministic' (their statements: YtcplgplcmgbglaaTotals.lean).
  GIVEN WITH THE SEED: the statements are not yours to turn. If you find one false, say at which input.
  Laid BY PROGRAM, IN A SANDBOX (cutbox-rows.mjs): the forced cells as the released guide's own fill.sh prints them over the translation 6b43336d37af8d8e… (all of the seat's roots in one cut). By AI agents, Wed Nov 11 2026. No macro, syntax, notation, axiom, sorry.
-/
import Derived.Test.YtcplgplcmgbglaaChecked
import GoSem.Claim
import GoSem.ClaimJoined
import GoSem.ClaimMapViews
import Derived.JoinedTies
import Derived.KernelRfl
namespace Go.Proofs.Ytcplgplcmgbglaa
/- THE CELL 'sum', in the pinned program and in every row, IS THE sha256 OF THE DUMP (.gsa) THAT YtcplgplcmgbglaaProg.lean LOADS. Nothing in Lean hashes anything: it is a label: what it is worth is what the hold of that sum in a sandbox is worth. -/
noncomputable def Try.pinned : Pinned := { name := "ytcplgplcmgbglaa", sum := "6b43336d37af8d8ef8079ced50995e0bdad42bc5dc1f4eb5f1af081bf56ab359", checked := Try.checked }
namespace Rows
def none {H : Type} : Left H := { results := [], args := [] }

/-- 'recyclinglaw39.ProductCodes': WHATEVER THE INPUT: true; the input reads as it did. -/
def productCodesSpec : ChangeSpec := { name := "productCodes", fn := fun _ => fun
  | [d] => { results := [.lit (.bool true)], args := [d] }
  | _ => none }
def productCodesRow : OpenClaim := { program := "ytcplgplcmgbglaa", sum := "6b43336d37af8d8ef8079ced50995e0bdad42bc5dc1f4eb5f1af081bf56ab359", func := "recycling/recyclinglaw39.ProductCodes", spec := "productCodes", unfollowed := true, recurses := true, apart := false }
def ProductCodesSaid : Prop := productCodesRow.holds Try.pinned (OpenSpec.ofChange productCodesSpec)

/-- ITS FALSE NEIGHBOUR: 'it returns false'. Refute it at one input. -/
def productCodesWrong : ChangeSpec := { name := "productCodes", fn := fun _ => fun
  | [d] => { results := [.lit (.bool false)], args := [d] }
  | _ => none }
def ProductCodesWrongFalsely : Prop := productCodesRow.holds Try.pinned (OpenSpec.ofChange productCodesWrong)

/-- 'recyclinglaw39.ProductChecks': WHATEVER THE INPUT: true; the input reads as it did. -/
def productChecksSpec : ChangeSpec := { name := "productChecks", fn := fun _ => fun
  | [d1, d2, d3] => { results := [.lit (.bool true)], args := [d1, d2, d3] }
  | _ => none }
def productChecksRow : OpenClaim := { program := "ytcplgplcmgbglaa", sum := "6b43336d37af8d8ef8079ced50995e0bdad42bc5dc1f4eb5f1af081bf56ab359", func := "recycling/recyclinglaw39.ProductChecks", spec := "productChecks", unfollowed := true, recurses := true, apart := false }
def ProductChecksSaid : Prop := productChecksRow.holds Try.pinned (OpenSpec.ofChange productChecksSpec)

/-- ITS FALSE NEIGHBOUR: 'it returns false'. Refute it at one input. -/
def productChecksWrong : ChangeSpec := { name := "productChecks", fn := fun _ => fun
  | [d1, d2, d3] => { results := [.lit (.bool false)], args := [d1, d2, d3] }
  | _ => none }
def ProductChecksWrongFalsely : Prop := productChecksRow.holds Try.pinned (OpenSpec.ofChange productChecksWrong)

/-- 'recyclinglaw39.ProductFinds': WHATEVER THE INPUT: true; the input reads as it did. -/
def productFindsSpec : ChangeSpec := { name := "productFinds", fn := fun _ => fun
  | [d1, d2] => { results := [.lit (.bool true)], args := [d1, d2] }
  | _ => none }
def productFindsRow : OpenClaim := { program := "ytcplgplcmgbglaa", sum := "6b43336d37af8d8ef8079ced50995e0bdad42bc5dc1f4eb5f1af081bf56ab359", func := "recycling/recyclinglaw39.ProductFinds", spec := "productFinds", unfollowed := true, recurses := true, apart := false }
def ProductFindsSaid : Prop := productFindsRow.holds Try.pinned (OpenSpec.ofChange productFindsSpec)

/-- ITS FALSE NEIGHBOUR: 'it returns false'. Refute it at one input. -/
def productFindsWrong : ChangeSpec := { name := "productFinds", fn := fun _ => fun
  | [d1, d2] => { results := [.lit (.bool false)], args := [d1, d2] }
  | _ => none }
def ProductFindsWrongFalsely : Prop := productFindsRow.holds Try.pinned (OpenSpec.ofChange productFindsWrong)

/-- 'recyclinglaw39.ProductFits': WHATEVER THE INPUT: true; the input reads as it did. -/
def productFitsSpec : ChangeSpec := { name := "productFits", fn := fun _ => fun
  | [d1, d2] => { results := [.lit (.bool true)], args := [d1, d2] }
  | _ => none }
def productFitsRow : OpenClaim := { program := "ytcplgplcmgbglaa", sum := "6b43336d37af8d8ef8079ced50995e0bdad42bc5dc1f4eb5f1af081bf56ab359", func := "recycling/recyclinglaw39.ProductFits", spec := "productFits", unfollowed := true, recurses := true, apart := false }
def ProductFitsSaid : Prop := productFitsRow.holds Try.pinned (OpenSpec.ofChange productFitsSpec)

/-- ITS FALSE NEIGHBOUR: 'it returns false'. Refute it at one input. -/
def productFitsWrong : ChangeSpec := { name := "productFits", fn := fun _ => fun
  | [d1, d2] => { results := [.lit (.bool false)], args := [d1, d2] }
  | _ => none }
def ProductFitsWrongFalsely : Prop := productFitsRow.holds Try.pinned (OpenSpec.ofChange productFitsWrong)

/-- 'recyclinglaw39.ProductDigit': WHATEVER THE INPUT: true; the input reads as it did. -/
def productDigitSpec : ChangeSpec := { name := "productDigit", fn := fun _ => fun
  | [d1, d2, d3] => { results := [.lit (.bool true)], args := [d1, d2, d3] }
  | _ => none }
def productDigitRow : OpenClaim := { program := "ytcplgplcmgbglaa", sum := "6b43336d37af8d8ef8079ced50995e0bdad42bc5dc1f4eb5f1af081bf56ab359", func := "recycling/recyclinglaw39.ProductDigit", spec := "productDigit", unfollowed := true, recurses := true, apart := false }
def ProductDigitSaid : Prop := productDigitRow.holds Try.pinned (OpenSpec.ofChange productDigitSpec)

/-- ITS FALSE NEIGHBOUR: 'it returns false'. Refute it at one input. -/
def productDigitWrong : ChangeSpec := { name := "productDigit", fn := fun _ => fun
  | [d1, d2, d3] => { results := [.lit (.bool false)], args := [d1, d2, d3] }
  | _ => none }
def ProductDigitWrongFalsely : Prop := productDigitRow.holds Try.pinned (OpenSpec.ofChange productDigitWrong)

/-- 'recyclinglaw39.ProductSwap': WHATEVER THE INPUT: true; the input reads as it did. -/
def productSwapSpec : ChangeSpec := { name := "productSwap", fn := fun _ => fun
  | [d1, d2] => { results := [.lit (.bool true)], args := [d1, d2] }
  | _ => none }
def productSwapRow : OpenClaim := { program := "ytcplgplcmgbglaa", sum := "6b43336d37af8d8ef8079ced50995e0bdad42bc5dc1f4eb5f1af081bf56ab359", func := "recycling/recyclinglaw39.ProductSwap", spec := "productSwap", unfollowed := true, recurses := true, apart := false }
def ProductSwapSaid : Prop := productSwapRow.holds Try.pinned (OpenSpec.ofChange productSwapSpec)

/-- ITS FALSE NEIGHBOUR: 'it returns false'. Refute it at one input. -/
def productSwapWrong : ChangeSpec := { name := "productSwap", fn := fun _ => fun
  | [d1, d2] => { results := [.lit (.bool false)], args := [d1, d2] }
  | _ => none }
def ProductSwapWrongFalsely : Prop := productSwapRow.holds Try.pinned (OpenSpec.ofChange productSwapWrong)

/-- 'recyclinglaw39.ProductOne': WHATEVER THE INPUT: true; the input reads as it did. -/
def productOneSpec : ChangeSpec := { name := "productOne", fn := fun _ => fun
  | [d] => { results := [.lit (.bool true)], args := [d] }
  | _ => none }
def productOneRow : OpenClaim := { program := "ytcplgplcmgbglaa", sum := "6b43336d37af8d8ef8079ced50995e0bdad42bc5dc1f4eb5f1af081bf56ab359", func := "recycling/recyclinglaw39.ProductOne", spec := "productOne", unfollowed := true, recurses := true, apart := false }
def ProductOneSaid : Prop := productOneRow.holds Try.pinned (OpenSpec.ofChange productOneSpec)

/-- ITS FALSE NEIGHBOUR: 'it returns false'. Refute it at one input. -/
def productOneWrong : ChangeSpec := { name := "productOne", fn := fun _ => fun
  | [d] => { results := [.lit (.bool false)], args := [d] }
  | _ => none }
def ProductOneWrongFalsely : Prop := productOneRow.holds Try.pinned (OpenSpec.ofChange productOneWrong)

/- THE SECOND FORM. 'bulk': how many values and letters a reading holds, each counted each time it is reached (what is shared counts as often as it is met; a slice's spare places count too). A statement '..UptoSaid' is the law's where the arguments, and the package variables that the reading takes, are together of bulk at most 1048576: NARROWER than '..Said'. Prove '..Said' where nothing that the law and all that it calls make is longer than what came in: it says more and counts as full. Else prove '..UptoSaid'. A law counts once. -/
mutual
def uptoBulk {H : Type} : DataW H → Nat
  | .lit (.string bytes) => bytes.length + 1
  | .lit _ => 1
  | .nil => 1
  | .ptr d => uptoBulk d + 1
  | .slice elems spare => uptoBulkAll elems + uptoBulkAll spare + 1
  | .agg parts => uptoBulkAll parts + 1
  | .iface _ d => uptoBulk d + 1
  | .map entries => uptoBulkEntries entries + 1
  | .held _ => 1
def uptoBulkAll {H : Type} : List (DataW H) → Nat
  | [] => 0
  | d :: r => uptoBulk d + uptoBulkAll r
def uptoBulkEntries {H : Type} : List (Lit × DataW H) → Nat
  | [] => 0
  | x :: r => uptoBulkEntry x + uptoBulkEntries r
def uptoBulkEntry {H : Type} : Lit × DataW H → Nat
  | (.string bytes, d) => bytes.length + uptoBulk d + 1
  | (_, d) => uptoBulk d + 1
 end
def uptoSmall : (H : Type) → List (DataW H) → Bool := fun _ ds => decide (uptoBulkAll ds ≤ 1048576)
def OpenSpec.upto (s : _root_.Go.ChangeSpec) : _root_.Go.OpenSpec := { _root_.Go.OpenSpec.ofChange s with cond := some uptoSmall }

/-- 'recyclinglaw39.ProductCodes', WHERE WHAT IT READS IS OF BULK AT MOST 1048576: true; the input reads as it did. -/
def productCodesUptoRow : OpenClaim := { program := "ytcplgplcmgbglaa", sum := "6b43336d37af8d8ef8079ced50995e0bdad42bc5dc1f4eb5f1af081bf56ab359", func := "recycling/recyclinglaw39.ProductCodes", spec := "productCodes", unfollowed := true, recurses := true, apart := false, narrowed := true }
def ProductCodesUptoSaid : Prop := productCodesUptoRow.holds Try.pinned (OpenSpec.upto productCodesSpec)

/-- 'recyclinglaw39.ProductChecks', WHERE WHAT IT READS IS OF BULK AT MOST 1048576: true; the input reads as it did. -/
def productChecksUptoRow : OpenClaim := { program := "ytcplgplcmgbglaa", sum := "6b43336d37af8d8ef8079ced50995e0bdad42bc5dc1f4eb5f1af081bf56ab359", func := "recycling/recyclinglaw39.ProductChecks", spec := "productChecks", unfollowed := true, recurses := true, apart := false, narrowed := true }
def ProductChecksUptoSaid : Prop := productChecksUptoRow.holds Try.pinned (OpenSpec.upto productChecksSpec)

/-- 'recyclinglaw39.ProductFinds', WHERE WHAT IT READS IS OF BULK AT MOST 1048576: true; the input reads as it did. -/
def productFindsUptoRow : OpenClaim := { program := "ytcplgplcmgbglaa", sum := "6b43336d37af8d8ef8079ced50995e0bdad42bc5dc1f4eb5f1af081bf56ab359", func := "recycling/recyclinglaw39.ProductFinds", spec := "productFinds", unfollowed := true, recurses := true, apart := false, narrowed := true }
def ProductFindsUptoSaid : Prop := productFindsUptoRow.holds Try.pinned (OpenSpec.upto productFindsSpec)

/-- 'recyclinglaw39.ProductFits', WHERE WHAT IT READS IS OF BULK AT MOST 1048576: true; the input reads as it did. -/
def productFitsUptoRow : OpenClaim := { program := "ytcplgplcmgbglaa", sum := "6b43336d37af8d8ef8079ced50995e0bdad42bc5dc1f4eb5f1af081bf56ab359", func := "recycling/recyclinglaw39.ProductFits", spec := "productFits", unfollowed := true, recurses := true, apart := false, narrowed := true }
def ProductFitsUptoSaid : Prop := productFitsUptoRow.holds Try.pinned (OpenSpec.upto productFitsSpec)

/-- 'recyclinglaw39.ProductDigit', WHERE WHAT IT READS IS OF BULK AT MOST 1048576: true; the input reads as it did. -/
def productDigitUptoRow : OpenClaim := { program := "ytcplgplcmgbglaa", sum := "6b43336d37af8d8ef8079ced50995e0bdad42bc5dc1f4eb5f1af081bf56ab359", func := "recycling/recyclinglaw39.ProductDigit", spec := "productDigit", unfollowed := true, recurses := true, apart := false, narrowed := true }
def ProductDigitUptoSaid : Prop := productDigitUptoRow.holds Try.pinned (OpenSpec.upto productDigitSpec)

/-- 'recyclinglaw39.ProductSwap', WHERE WHAT IT READS IS OF BULK AT MOST 1048576: true; the input reads as it did. -/
def productSwapUptoRow : OpenClaim := { program := "ytcplgplcmgbglaa", sum := "6b43336d37af8d8ef8079ced50995e0bdad42bc5dc1f4eb5f1af081bf56ab359", func := "recycling/recyclinglaw39.ProductSwap", spec := "productSwap", unfollowed := true, recurses := true, apart := false, narrowed := true }
def ProductSwapUptoSaid : Prop := productSwapUptoRow.holds Try.pinned (OpenSpec.upto productSwapSpec)

/-- 'recyclinglaw39.ProductOne', WHERE WHAT IT READS IS OF BULK AT MOST 1048576: true; the input reads as it did. -/
def productOneUptoRow : OpenClaim := { program := "ytcplgplcmgbglaa", sum := "6b43336d37af8d8ef8079ced50995e0bdad42bc5dc1f4eb5f1af081bf56ab359", func := "recycling/recyclinglaw39.ProductOne", spec := "productOne", unfollowed := true, recurses := true, apart := false, narrowed := true }
def ProductOneUptoSaid : Prop := productOneUptoRow.holds Try.pinned (OpenSpec.upto productOneSpec)

end Rows
end Go.Proofs.Ytcplgplcmgbglaa
