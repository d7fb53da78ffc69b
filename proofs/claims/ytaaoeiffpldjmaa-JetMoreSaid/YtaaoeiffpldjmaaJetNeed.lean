/- The walks of need, and of the reference's. -/
import Derived.Test.YtaaoeiffpldjmaaJetChk
namespace Go.Proofs.Ytaaoeiffpldjmaa
open Go.RowKit

theorem below_new2 (w : World) (o o2 : Obj) : Below w.heap.size (w.alloc o) ((w.alloc o).alloc o2) := (below_new (w.alloc o) o2).mono (by simp)
set_option maxRecDepth 100000 in
set_option maxHeartbeats 1600000 in
theorem need_any (d h r : Int) (p : Int) (w : World) (hd : 0 ≤ d ∧ d ≤ 1000) (hh : 1 ≤ h ∧ h ≤ 100) (hp : 0 ≤ p ∧ p ≤ 1048576) :
    Calls Try.prog 27 #[.agg #[.int .i64 d, .int .i64 h, .int .i64 r], .int .i64 p] w fun e w' => e = .returned (.agg #[.int .i64 (p + d), .int .i64 (p + d + h)]) ∧ Below w.heap.size w w' := by
  go_enter Try.func27, Try.ntmps27
  go_wp2
  refine bodyPost_ret (v := .agg #[.int .i64 (p + d), .int .i64 (p + d + h)]) (by simp [results, Try.results27, go_sem]) rfl ?_
  exact ⟨rfl, (below_new w _).trans (below_new2 w _ _)⟩
set_option maxRecDepth 100000 in
set_option maxHeartbeats 1600000 in
theorem rneed_any (d h r : Int) (p : Int) (w : World) (hd : 0 ≤ d ∧ d ≤ 1000) (hh : 1 ≤ h ∧ h ≤ 100) (hp : 0 ≤ p ∧ p ≤ 1048576) :
    Calls Try.prog 29 #[.agg #[.int .i64 d, .int .i64 h, .int .i64 r], .int .i64 p] w fun e w' => e = .returned (.agg #[.int .i64 (p + d), .int .i64 (p + d + h)]) ∧ Below w.heap.size w w' := by
  go_enter Try.func29, Try.ntmps29
  go_wp2
  refine bodyPost_ret (v := .agg #[.int .i64 (p + d), .int .i64 (p + d + h)]) (by simp [results, Try.results29, go_sem]) rfl ?_
  exact ⟨rfl, (below_new w _).trans (below_new2 w _ _)⟩
end Go.Proofs.Ytaaoeiffpldjmaa
