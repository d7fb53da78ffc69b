/- The walks of the reference's length, TakeText, TakeList. -/
import Derived.Test.YtloofliklmglpaaWireRefB
namespace Go.Proofs.Ytloofliklmglpaa
open Go.RowKit

end Go.Proofs.Ytloofliklmglpaa
