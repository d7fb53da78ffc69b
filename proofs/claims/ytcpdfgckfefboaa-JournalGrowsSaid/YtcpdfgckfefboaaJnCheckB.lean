/- The walk of Check. -/
import Derived.Test.YtcpdfgckfefboaaJnCheck
namespace Go.Proofs.Ytcpdfgckfefboaa
open Go.RowKit

set_option maxRecDepth 100000 in
set_option maxHeartbeats 6400000 in
theorem check_any (E : Jn.Ev) (A : Option Addr) (n cap : Nat) (hn : n = E.mix.length) (w : World) (hr : Rd w A (iv E.mix)) (hm : E.mix.length ≤ 1000000000000) :
    Calls Try.prog 17 #[E.val A n cap] w fun e w' => e = .returned (.int .i64 (Jn.check E)) ∧ Below w.heap.size w w' := by
  unfold Jn.Ev.val
  obtain ⟨K, T, a, b, c, d, mix⟩ := E
  simp only at hn hr hm ⊢
  subst hn
  have HR := Lib.hid hr
  clear hr
  obtain ⟨res, hres⟩ : ∃ res, res = Jn.check ⟨K, T, a, b, c, d, mix⟩ := ⟨_, rfl⟩
  rw [← hres]
  unfold Jn.check at hres
  simp only at hres
  have HS := Lib.hid hres
  clear hres
  have hk : K < 1 ∨ (¬ K < 1 ∧ 17 < K) ∨ (¬ K < 1 ∧ ¬ 17 < K) := by omega
  rcases hk with k1 | ⟨k1, k2⟩ | ⟨k1, k2⟩
  · have HF := Lib.hid (show 21 = res by rw [HS.out]; rw [if_pos (show Jn.badK K from .inl k1)])
    go_enter Try.func17, Try.ntmps17
    go_wp2
    go_ret
    exact ⟨retk HF.out, below_new w _⟩
  · have HF := Lib.hid (show 21 = res by rw [HS.out]; rw [if_pos (show Jn.badK K from .inr k2)])
    go_enter Try.func17, Try.ntmps17
    go_wp2
    go_ret
    exact ⟨retk HF.out, below_new w _⟩
  have HS1 := Lib.hid (show res = if Jn.badT T then 1 else if Jn.badN a ∨ Jn.badN b ∨ Jn.badN c ∨ Jn.badN d then 1 else if 16 < mix.length then 18 else if mix.any (fun n => decide (Jn.badM n)) then 1 else 0 by
    rw [HS.out, if_neg (show ¬ Jn.badK K from fun h => h.elim k1 k2)])
  clear HS
  have ht : T < 0 ∨ (¬ T < 0 ∧ 3155759999 < T) ∨ (¬ T < 0 ∧ ¬ 3155759999 < T) := by omega
  rcases ht with t1 | ⟨t1, t2⟩ | ⟨t1, t2⟩
  · have HF := Lib.hid (show 1 = res by rw [HS1.out]; rw [if_pos (show Jn.badT T from .inl t1)])
    go_enter Try.func17, Try.ntmps17
    go_wp2
    go_ret
    exact ⟨retk HF.out, below_new w _⟩
  · have HF := Lib.hid (show 1 = res by rw [HS1.out]; rw [if_pos (show Jn.badT T from .inr t2)])
    go_enter Try.func17, Try.ntmps17
    go_wp2
    go_ret
    exact ⟨retk HF.out, below_new w _⟩
  have HS2 := Lib.hid (show res = if Jn.badN a ∨ Jn.badN b ∨ Jn.badN c ∨ Jn.badN d then 1 else if 16 < mix.length then 18 else if mix.any (fun n => decide (Jn.badM n)) then 1 else 0 by
    rw [HS1.out, if_neg (show ¬ Jn.badT T from fun h => h.elim t1 t2)])
  clear HS1
  have HM := Lib.hid (HR.out.to (below_new w (.cells #[.int .i64 K, .int .i64 T, .int .i64 a, .int .i64 b, .int .i64 c, .int .i64 d, .slice A mix.length cap] 35)))
  have HC := Lib.hid (mcontains_any A cap mix (w.alloc (.cells #[.int .i64 K, .int .i64 T, .int .i64 a, .int .i64 b, .int .i64 c, .int .i64 d, .slice A mix.length cap] 35)) HM.out (by omega))
  obtain ⟨mm, hmm⟩ : ∃ mm, mm = mix.any Jn.mb := ⟨_, rfl⟩
  rw [← hmm] at HC
  have HMM := Lib.hid hmm
  clear hmm
  have i0 : ∀ w, (Instr.index 55 (.agg #[.int .i64 a, .int .i64 b, .int .i64 c, .int .i64 d]) (.int .i64 0)).run Try.prog w = .ok (.int .i64 a) w := fun _ => by kernel_rfl
  have i1 : ∀ w, (Instr.index 55 (.agg #[.int .i64 a, .int .i64 b, .int .i64 c, .int .i64 d]) (.int .i64 1)).run Try.prog w = .ok (.int .i64 b) w := fun _ => by kernel_rfl
  have i2 : ∀ w, (Instr.index 55 (.agg #[.int .i64 a, .int .i64 b, .int .i64 c, .int .i64 d]) (.int .i64 2)).run Try.prog w = .ok (.int .i64 c) w := fun _ => by kernel_rfl
  have i3 : ∀ w, (Instr.index 55 (.agg #[.int .i64 a, .int .i64 b, .int .i64 c, .int .i64 d]) (.int .i64 3)).run Try.prog w = .ok (.int .i64 d) w := fun _ => by kernel_rfl
  go_enter Try.func17, Try.ntmps17
  go_wp2
  go_loop [30] (fun i => ∃ k : Nat, k ≤ 4 ∧ i = .int .i64 (k : Int) ∧ Hid (∀ j, j < k → ¬ Jn.badN ([a, b, c, d].getD j 0))) (fun i => 4 - (intOf i).toNat)
  case atStart => exact ⟨0, by omega, rfl, Lib.hid (fun j hj => absurd hj (by omega))⟩
  case round =>
    obtain ⟨k, hk, rfl, HG⟩ := hrel
    have hk5 : k = 0 ∨ k = 1 ∨ k = 2 ∨ k = 3 ∨ k = 4 := by omega
    rcases hk5 with rfl | rfl | rfl | rfl | rfl
    · have hv : a < -1000000000000 ∨ (¬ a < -1000000000000 ∧ 1000000000000 < a) ∨ (¬ a < -1000000000000 ∧ ¬ 1000000000000 < a) := by omega
      rcases hv with v1 | ⟨v1, v2⟩ | ⟨v1, v2⟩
      · have HF := Lib.hid (show 1 = res by rw [HS2.out]; have x : Jn.badN a := .inl v1; rw [if_pos (.inl x)])
        go_wp2
        go_ret
        exact ⟨retk HF.out, below_new w _⟩
      · have HF := Lib.hid (show 1 = res by rw [HS2.out]; have x : Jn.badN a := .inr v2; rw [if_pos (.inl x)])
        go_wp2
        go_ret
        exact ⟨retk HF.out, below_new w _⟩
      · have HN := Lib.hid (show ∀ j, j < 1 → ¬ Jn.badN ([a, b, c, d].getD j 0) from fun j hj => by
          rcases Nat.lt_or_ge j 0 with h1 | h1
          · exact HG.out j h1
          · have : j = 0 := by omega
            subst this
            exact fun h => h.elim v1 v2)
        go_wp2
        go_round
        case rel => exact ⟨1, by omega, by go_num, HN⟩
        case measure => simp [intOf]
    · have hv : b < -1000000000000 ∨ (¬ b < -1000000000000 ∧ 1000000000000 < b) ∨ (¬ b < -1000000000000 ∧ ¬ 1000000000000 < b) := by omega
      rcases hv with v1 | ⟨v1, v2⟩ | ⟨v1, v2⟩
      · have HF := Lib.hid (show 1 = res by rw [HS2.out]; have x : Jn.badN b := .inl v1; rw [if_pos (.inr (.inl x))])
        go_wp2
        go_ret
        exact ⟨retk HF.out, below_new w _⟩
      · have HF := Lib.hid (show 1 = res by rw [HS2.out]; have x : Jn.badN b := .inr v2; rw [if_pos (.inr (.inl x))])
        go_wp2
        go_ret
        exact ⟨retk HF.out, below_new w _⟩
      · have HN := Lib.hid (show ∀ j, j < 2 → ¬ Jn.badN ([a, b, c, d].getD j 0) from fun j hj => by
          rcases Nat.lt_or_ge j 1 with h1 | h1
          · exact HG.out j h1
          · have : j = 1 := by omega
            subst this
            exact fun h => h.elim v1 v2)
        go_wp2
        go_round
        case rel => exact ⟨2, by omega, by go_num, HN⟩
        case measure => simp [intOf]
    · have hv : c < -1000000000000 ∨ (¬ c < -1000000000000 ∧ 1000000000000 < c) ∨ (¬ c < -1000000000000 ∧ ¬ 1000000000000 < c) := by omega
      rcases hv with v1 | ⟨v1, v2⟩ | ⟨v1, v2⟩
      · have HF := Lib.hid (show 1 = res by rw [HS2.out]; have x : Jn.badN c := .inl v1; rw [if_pos (.inr (.inr (.inl x)))])
        go_wp2
        go_ret
        exact ⟨retk HF.out, below_new w _⟩
      · have HF := Lib.hid (show 1 = res by rw [HS2.out]; have x : Jn.badN c := .inr v2; rw [if_pos (.inr (.inr (.inl x)))])
        go_wp2
        go_ret
        exact ⟨retk HF.out, below_new w _⟩
      · have HN := Lib.hid (show ∀ j, j < 3 → ¬ Jn.badN ([a, b, c, d].getD j 0) from fun j hj => by
          rcases Nat.lt_or_ge j 2 with h1 | h1
          · exact HG.out j h1
          · have : j = 2 := by omega
            subst this
            exact fun h => h.elim v1 v2)
        go_wp2
        go_round
        case rel => exact ⟨3, by omega, by go_num, HN⟩
        case measure => simp [intOf]
    · have hv : d < -1000000000000 ∨ (¬ d < -1000000000000 ∧ 1000000000000 < d) ∨ (¬ d < -1000000000000 ∧ ¬ 1000000000000 < d) := by omega
      rcases hv with v1 | ⟨v1, v2⟩ | ⟨v1, v2⟩
      · have HF := Lib.hid (show 1 = res by rw [HS2.out]; have x : Jn.badN d := .inl v1; rw [if_pos (.inr (.inr (.inr x)))])
        go_wp2
        go_ret
        exact ⟨retk HF.out, below_new w _⟩
      · have HF := Lib.hid (show 1 = res by rw [HS2.out]; have x : Jn.badN d := .inr v2; rw [if_pos (.inr (.inr (.inr x)))])
        go_wp2
        go_ret
        exact ⟨retk HF.out, below_new w _⟩
      · have HN := Lib.hid (show ∀ j, j < 4 → ¬ Jn.badN ([a, b, c, d].getD j 0) from fun j hj => by
          rcases Nat.lt_or_ge j 3 with h1 | h1
          · exact HG.out j h1
          · have : j = 3 := by omega
            subst this
            exact fun h => h.elim v1 v2)
        go_wp2
        go_round
        case rel => exact ⟨4, by omega, by go_num, HN⟩
        case measure => simp [intOf]
    · have g0 := HG.out 0 (by omega)
      have g1 := HG.out 1 (by omega)
      have g2 := HG.out 2 (by omega)
      have g3 := HG.out 3 (by omega)
      have HS3 := Lib.hid (show res = if 16 < mix.length then 18 else if mix.any (fun n => decide (Jn.badM n)) then 1 else 0 by
        rw [HS2.out, if_neg (fun h => by
          rcases h with h | h | h | h
          · exact g0 h
          · exact g1 h
          · exact g2 h
          · exact g3 h)])
      clear g0 g1 g2 g3 HS2
      by_cases hl : 16 < mix.length
      · have HF := Lib.hid (show 18 = res by rw [HS3.out, if_pos hl])
        have hl' : (16 : Int) < (mix.length : Int) := by omega
        go_wp2
        go_ret
        exact ⟨retk HF.out, below_new w _⟩
      · have HS4 := Lib.hid (show res = if mm then 1 else 0 by rw [HS3.out, if_neg hl, HMM.out]; rfl)
        have hl' : ¬ (16 : Int) < (mix.length : Int) := by omega
        clear HS3 hl
        go_wp2_with fail
        refine (HC.out).mono ?_
        rintro e w' ⟨rfl, rfl⟩
        cases mm with
        | true =>
          go_wp2
          go_ret
          exact ⟨retk HS4.out.symm, below_new w _⟩
        | false =>
          go_wp2
          go_ret
          exact ⟨retk HS4.out.symm, below_new w _⟩
end Go.Proofs.Ytcpdfgckfefboaa
