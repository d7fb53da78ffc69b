/- The walks of Fits, of the program and of the reference. -/
import Derived.Test.YtcplgplcmgbglaaProdRef
namespace Go.Proofs.Ytcplgplcmgbglaa
open Go.RowKit

/-- A product, as data. -/
structure Pd.Prod where
  code : ByteArray
  producer : Int
  deposit : Int
  material : Int
  grams : Int

namespace Pd
def Prod.val (p : Prod) : Value := .agg #[.string p.code, .int .i64 p.producer, .int .i64 p.deposit, .int .i64 p.material, .int .i64 p.grams]
def Prod.obj (p : Prod) : Obj := .cells #[.string p.code, .int .i64 p.producer, .int .i64 p.deposit, .int .i64 p.material, .int .i64 p.grams] 36
def Prod.fit (p : Prod) : Prop := p.code.size ≤ maxLen ∧ (Lit.int .i64 p.producer).wf = true ∧ (Lit.int .i64 p.deposit).wf = true ∧ (Lit.int .i64 p.material).wf = true ∧ (Lit.int .i64 p.grams).wf = true
def fits (x g : Int) : Bool := if x < 0 ∨ g < 0 then false else decide (max g x - min g x ≤ x / 8)
end Pd

set_option maxHeartbeats 400000 in
theorem fits_any (p : Pd.Prod) (g : Int) (h1 : -9223372036854775808 ≤ g) (h2 : g ≤ 9223372036854775807) (h3 : -9223372036854775808 ≤ p.grams) (h4 : p.grams ≤ 9223372036854775807) (w : World) :
    Calls Try.prog 20 #[p.val, .int .i64 g] w fun e w' => e = .returned (.bool (Pd.fits p.grams g)) ∧ w.alloc p.obj = w' := by
  obtain ⟨code, producer, deposit, material, x⟩ := p
  simp only at h3 h4
  unfold Pd.Prod.val Pd.Prod.obj
  simp only
  by_cases hx : x < 0
  · have HF := Lib.hid (show Pd.fits x g = false by simp [Pd.fits, hx])
    go_enter Try.func20, Try.ntmps20
    go_wp2
    go_ret
    exact ⟨ret_bool HF.out.symm, rfl⟩
  · by_cases hg : g < 0
    · have HF := Lib.hid (show Pd.fits x g = false by simp [Pd.fits, hg])
      go_enter Try.func20, Try.ntmps20
      go_wp2
      go_ret
      exact ⟨ret_bool HF.out.symm, rfl⟩
    · have HF := Lib.hid (show Pd.fits x g = decide (max g x - min g x ≤ x / 8) by simp [Pd.fits, hg, hx])
      go_enter Try.func20, Try.ntmps20
      go_wp2
      all_goals
        go_ret
        exact ⟨ret_bool (by rw [HF.out]; exact decide_eq_decide.2 (by omega)), rfl⟩

set_option maxHeartbeats 400000 in
theorem rfits_any (p : Pd.Prod) (g : Int) (h1 : -9223372036854775808 ≤ g) (h2 : g ≤ 9223372036854775807) (h3 : -9223372036854775808 ≤ p.grams) (h4 : p.grams ≤ 9223372036854775807) (w : World) :
    Calls Try.prog 21 #[p.val, .int .i64 g] w fun e w' => e = .returned (.bool (Pd.fits p.grams g)) ∧ Below w.heap.size w w' := by
  obtain ⟨code, producer, deposit, material, x⟩ := p
  simp only at h3 h4
  unfold Pd.Prod.val
  simp only
  by_cases hx : x < 0
  · have HF := Lib.hid (show Pd.fits x g = false by simp [Pd.fits, hx])
    go_enter Try.func21, Try.ntmps21
    go_wp2
    go_ret
    exact ⟨ret_bool HF.out.symm, (Below.refl _ _).alloc (Nat.le_refl _) _⟩
  · by_cases hg : g < 0
    · have HF := Lib.hid (show Pd.fits x g = false by simp [Pd.fits, hg])
      go_enter Try.func21, Try.ntmps21
      go_wp2
      go_ret
      exact ⟨ret_bool HF.out.symm, (Below.refl _ _).alloc (Nat.le_refl _) _⟩
    · have HF := Lib.hid (show Pd.fits x g = decide (max g x - min g x ≤ x / 8) by simp [Pd.fits, hg, hx])
      rcases Int.lt_trichotomy x g with hlt | heq | hlt
      · go_enter Try.func21, Try.ntmps21
        go_wp2
        go_quiet (fail)
        go_wp2
        go_ret
        exact ⟨ret_bool (by rw [HF.out]; exact decide_eq_decide.2 (by omega)), below_drewN (below_new _ _) _⟩
      · subst heq
        go_enter Try.func21, Try.ntmps21
        go_wp2
        go_quiet (fail)
        go_wp2
        go_ret
        exact ⟨ret_bool (by rw [HF.out]; exact decide_eq_decide.2 (by omega)), below_drewN (below_new _ _) _⟩
      · go_enter Try.func21, Try.ntmps21
        go_wp2
        go_quiet (fail)
        go_wp2
        go_ret
        exact ⟨ret_bool (by rw [HF.out]; exact decide_eq_decide.2 (by omega)), below_drewN (below_new _ _) _⟩

end Go.Proofs.Ytcplgplcmgbglaa
