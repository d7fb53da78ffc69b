/- The chapter's examples, plain. -/
import Derived.Test.YtcpdfgckfefboaaJnPlain
namespace Go.Proofs.Ytcpdfgckfefboaa
namespace Jn
def e0 : Ev := ⟨3, 100, 7, 0, 0, 0, []⟩
def j0 : List UInt8 := [8, 6, 200, 1, 14, 0, 0, 0, 0] ++ Cr.four (Cr.sum [6, 200, 1, 14, 0, 0, 0, 0])
theorem ex_check : check e0 = 0 := by decide +kernel
theorem ex_put : put e0 = ([6, 200, 1, 14, 0, 0, 0, 0], 0) := by decide +kernel
theorem ex_get : get [6, 200, 1, 14, 0, 0, 0, 0] = (e0, 0) := by decide +kernel
theorem ex_app : app [] e0 = (j0, 0) := by decide +kernel
theorem ex_len : j0.length = 13 := by decide +kernel
theorem ex_app2 : app j0 e0 = (j0 ++ j0, 0) := by decide +kernel
theorem ex_rec : recover ((j0 ++ j0).take 25) = ([e0], 13) := by decide +kernel
theorem ex_short : get [6, 200, 1, 14, 0, 0, 0] = (zero, 4) := by decide +kernel
theorem ex_long : get [6, 200, 1, 14, 0, 0, 0, 0, 0] = (zero, 3) := by decide +kernel
theorem ex_kind : get [36, 0, 0, 0, 0, 0, 0] = (zero, 21) := by decide +kernel
end Jn
end Go.Proofs.Ytcpdfgckfefboaa
