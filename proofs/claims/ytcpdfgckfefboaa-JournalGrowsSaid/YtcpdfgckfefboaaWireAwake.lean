/- The walks of small and awake. -/
import Derived.Test.YtcpdfgckfefboaaWireRefC
namespace Go.Proofs.Ytcpdfgckfefboaa
open Go.RowKit

/-- A slice literal, as a slice that reads. -/
theorem lit_rd (w : World) (n : Nat) (hn : n = w.heap.size) (xs : List Value) (t : TypeId) : Rd (w.alloc (.cells xs.toArray t)) (some ⟨n, 0, none⟩) xs := by
  subst hn
  intro k u hk
  refine ⟨w.heap.size, 0, rfl, by simp, ?_⟩
  unfold World.cell?
  simp only
  rw [heap_alloc_new]
  simpa using hk

theorem conv_b {w : World} (A : Option Addr) (n cap : Nat) (l : List UInt8) (h : Rd w A (bv l)) (hn : n = l.length) : (convert 23 9 (.slice A n cap)).run Try.prog w = .ok (.string ⟨l.toArray⟩) w :=
  conv_rd 23 9 5 A cap l Try.underlying23 Try.underlying5 Try.underlying9 h n hn

theorem toList_mk (l : List UInt8) : (ByteArray.mk l.toArray).data.toList = l := rfl

end Go.Proofs.Ytcpdfgckfefboaa
