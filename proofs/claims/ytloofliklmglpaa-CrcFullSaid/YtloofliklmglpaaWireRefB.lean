/- The walks of the reference's PutInt, TakeInt, PutText, length, TakeText, PutList, TakeList, Same. -/
import Derived.Test.YtloofliklmglpaaWireRef
namespace Go.Proofs.Ytloofliklmglpaa
open Go.RowKit

theorem own_none {w : World} {B : Nat} {e : TypeId} {A : Option Addr} {n cap : Nat} {xs : List Value} (h : w.ownsRow B e 1 (.slice A n cap) n xs) (hA : A = none) : cap = 0 := by
  rcases h.2 with ⟨hv, _⟩ | ⟨g, cap', cur, hv, _⟩
  · injection hv
  · injection hv with h1
    rw [hA] at h1
    cases h1

end Go.Proofs.Ytloofliklmglpaa
