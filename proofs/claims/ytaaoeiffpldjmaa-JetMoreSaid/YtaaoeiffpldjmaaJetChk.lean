/- The walks of Check, and of the reference's. -/
import Derived.Test.YtaaoeiffpldjmaaJetPlain
namespace Go.Proofs.Ytaaoeiffpldjmaa
open Go.RowKit
theorem ret64 {a b : Int} (h : a = b) : Ending.returned (.int .i64 a) = .returned (.int .i64 b) := by rw [h]

set_option maxRecDepth 100000 in
set_option maxHeartbeats 3200000 in
theorem chk_any (d h r : Int) (w : World) :
    Calls Try.prog 14 #[.agg #[.int .i64 d, .int .i64 h, .int .i64 r]] w fun e w' => e = .returned (.int .i64 (Jt.chk ⟨d, h, r⟩)) ∧ Below w.heap.size w w' := by
  have hcase : (d < 0) ∨ (¬ d < 0 ∧ 1000 < d) ∨ (¬ d < 0 ∧ ¬ 1000 < d ∧ h < 1) ∨ (¬ d < 0 ∧ ¬ 1000 < d ∧ ¬ h < 1 ∧ 100 < h) ∨ (¬ d < 0 ∧ ¬ 1000 < d ∧ ¬ h < 1 ∧ ¬ 100 < h ∧ r < 0) ∨ (¬ d < 0 ∧ ¬ 1000 < d ∧ ¬ h < 1 ∧ ¬ 100 < h ∧ ¬ r < 0 ∧ 100 < r) ∨ (¬ d < 0 ∧ ¬ 1000 < d ∧ ¬ h < 1 ∧ ¬ 100 < h ∧ ¬ r < 0 ∧ ¬ 100 < r) := by omega
  rcases hcase with h1 | ⟨h1, h2⟩ | ⟨h1, h2, h3⟩ | ⟨h1, h2, h3, h4⟩ | ⟨h1, h2, h3, h4, h5⟩ | ⟨h1, h2, h3, h4, h5, h6⟩ | ⟨h1, h2, h3, h4, h5, h6⟩
  · have HF := Lib.hid (show (1 : Int) = Jt.chk ⟨d, h, r⟩ by unfold Jt.chk; rw [if_pos (by simp only; omega)])
    go_enter Try.func14, Try.ntmps14
    go_wp2
    go_ret
    exact ⟨ret64 HF.out, below_new w _⟩
  · have HF := Lib.hid (show (1 : Int) = Jt.chk ⟨d, h, r⟩ by unfold Jt.chk; rw [if_pos (by simp only; omega)])
    go_enter Try.func14, Try.ntmps14
    go_wp2
    go_ret
    exact ⟨ret64 HF.out, below_new w _⟩
  · have HF := Lib.hid (show (1 : Int) = Jt.chk ⟨d, h, r⟩ by unfold Jt.chk; rw [if_pos (by simp only; omega)])
    go_enter Try.func14, Try.ntmps14
    go_wp2
    go_ret
    exact ⟨ret64 HF.out, below_new w _⟩
  · have HF := Lib.hid (show (1 : Int) = Jt.chk ⟨d, h, r⟩ by unfold Jt.chk; rw [if_pos (by simp only; omega)])
    go_enter Try.func14, Try.ntmps14
    go_wp2
    go_ret
    exact ⟨ret64 HF.out, below_new w _⟩
  · have HF := Lib.hid (show (1 : Int) = Jt.chk ⟨d, h, r⟩ by unfold Jt.chk; rw [if_pos (by simp only; omega)])
    go_enter Try.func14, Try.ntmps14
    go_wp2
    go_ret
    exact ⟨ret64 HF.out, below_new w _⟩
  · have HF := Lib.hid (show (1 : Int) = Jt.chk ⟨d, h, r⟩ by unfold Jt.chk; rw [if_pos (by simp only; omega)])
    go_enter Try.func14, Try.ntmps14
    go_wp2
    go_ret
    exact ⟨ret64 HF.out, below_new w _⟩
  · have HF := Lib.hid (show (0 : Int) = Jt.chk ⟨d, h, r⟩ by unfold Jt.chk; rw [if_neg (by simp only; omega)])
    go_enter Try.func14, Try.ntmps14
    go_wp2
    go_ret
    exact ⟨ret64 HF.out, below_new w _⟩

set_option maxRecDepth 100000 in
set_option maxHeartbeats 3200000 in
theorem rchk_any (d h r : Int) (w : World) :
    Calls Try.prog 15 #[.agg #[.int .i64 d, .int .i64 h, .int .i64 r]] w fun e w' => e = .returned (.int .i64 (Jt.chk ⟨d, h, r⟩)) ∧ Below w.heap.size w w' := by
  have hcase : (d < 0) ∨ (¬ d < 0 ∧ 1000 < d) ∨ (¬ d < 0 ∧ ¬ 1000 < d ∧ h < 1) ∨ (¬ d < 0 ∧ ¬ 1000 < d ∧ ¬ h < 1 ∧ 100 < h) ∨ (¬ d < 0 ∧ ¬ 1000 < d ∧ ¬ h < 1 ∧ ¬ 100 < h ∧ r < 0) ∨ (¬ d < 0 ∧ ¬ 1000 < d ∧ ¬ h < 1 ∧ ¬ 100 < h ∧ ¬ r < 0 ∧ 100 < r) ∨ (¬ d < 0 ∧ ¬ 1000 < d ∧ ¬ h < 1 ∧ ¬ 100 < h ∧ ¬ r < 0 ∧ ¬ 100 < r) := by omega
  rcases hcase with h1 | ⟨h1, h2⟩ | ⟨h1, h2, h3⟩ | ⟨h1, h2, h3, h4⟩ | ⟨h1, h2, h3, h4, h5⟩ | ⟨h1, h2, h3, h4, h5, h6⟩ | ⟨h1, h2, h3, h4, h5, h6⟩
  · have HF := Lib.hid (show (1 : Int) = Jt.chk ⟨d, h, r⟩ by unfold Jt.chk; rw [if_pos (by simp only; omega)])
    go_enter Try.func15, Try.ntmps15
    go_wp2
    go_ret
    exact ⟨ret64 HF.out, below_new w _⟩
  · have HF := Lib.hid (show (1 : Int) = Jt.chk ⟨d, h, r⟩ by unfold Jt.chk; rw [if_pos (by simp only; omega)])
    go_enter Try.func15, Try.ntmps15
    go_wp2
    go_ret
    exact ⟨ret64 HF.out, below_new w _⟩
  · have HF := Lib.hid (show (1 : Int) = Jt.chk ⟨d, h, r⟩ by unfold Jt.chk; rw [if_pos (by simp only; omega)])
    go_enter Try.func15, Try.ntmps15
    go_wp2
    go_ret
    exact ⟨ret64 HF.out, below_new w _⟩
  · have HF := Lib.hid (show (1 : Int) = Jt.chk ⟨d, h, r⟩ by unfold Jt.chk; rw [if_pos (by simp only; omega)])
    go_enter Try.func15, Try.ntmps15
    go_wp2
    go_ret
    exact ⟨ret64 HF.out, below_new w _⟩
  · have HF := Lib.hid (show (1 : Int) = Jt.chk ⟨d, h, r⟩ by unfold Jt.chk; rw [if_pos (by simp only; omega)])
    go_enter Try.func15, Try.ntmps15
    go_wp2
    go_ret
    exact ⟨ret64 HF.out, below_new w _⟩
  · have HF := Lib.hid (show (1 : Int) = Jt.chk ⟨d, h, r⟩ by unfold Jt.chk; rw [if_pos (by simp only; omega)])
    go_enter Try.func15, Try.ntmps15
    go_wp2
    go_ret
    exact ⟨ret64 HF.out, below_new w _⟩
  · have HF := Lib.hid (show (0 : Int) = Jt.chk ⟨d, h, r⟩ by unfold Jt.chk; rw [if_neg (by simp only; omega)])
    go_enter Try.func15, Try.ntmps15
    go_wp2
    go_ret
    exact ⟨ret64 HF.out, below_new w _⟩
end Go.Proofs.Ytaaoeiffpldjmaa
