/- The walk of the reference's Check. -/
import Derived.Test.YtcpdfgckfefboaaJnCheckB
namespace Go.Proofs.Ytcpdfgckfefboaa
open Go.RowKit

set_option maxRecDepth 100000 in
set_option maxHeartbeats 6400000 in
theorem rcheck_any (E : Jn.Ev) (A : Option Addr) (n cap : Nat) (hn : n = E.mix.length) (w : World) (hr : Rd w A (iv E.mix)) (hm : E.mix.length ≤ 1000000000000) :
    Calls Try.prog 18 #[E.val A n cap] w fun e w' => e = .returned (.int .i64 (Jn.check E)) ∧ Below w.heap.size w w' := by
  unfold Jn.Ev.val
  obtain ⟨K, T, a, b, c, d, mix⟩ := E
  simp only at hn hr hm ⊢
  subst hn
  have HR := Lib.hid hr
  clear hr
  obtain ⟨res, hres⟩ : ∃ res, res = Jn.check ⟨K, T, a, b, c, d, mix⟩ := ⟨_, rfl⟩
  rw [← hres]
  unfold Jn.check at hres
  simp only at hres
  have HS := Lib.hid hres
  clear hres
  have hk : K < 1 ∨ (¬ K < 1 ∧ 17 < K) ∨ (¬ K < 1 ∧ ¬ 17 < K) := by omega
  rcases hk with k1 | ⟨k1, k2⟩ | ⟨k1, k2⟩
  · have HF := Lib.hid (show 21 = res by rw [HS.out]; rw [if_pos (show Jn.badK K from .inl k1)])
    go_enter Try.func18, Try.ntmps18
    go_wp2
    go_ret
    exact ⟨retk HF.out, below_new w _⟩
  · have HF := Lib.hid (show 21 = res by rw [HS.out]; rw [if_pos (show Jn.badK K from .inr k2)])
    go_enter Try.func18, Try.ntmps18
    go_wp2
    go_ret
    exact ⟨retk HF.out, below_new w _⟩
  have HS1 := Lib.hid (show res = if Jn.badT T then 1 else if Jn.badN a ∨ Jn.badN b ∨ Jn.badN c ∨ Jn.badN d then 1 else if 16 < mix.length then 18 else if mix.any (fun n => decide (Jn.badM n)) then 1 else 0 by
    rw [HS.out, if_neg (show ¬ Jn.badK K from fun h => h.elim k1 k2)])
  clear HS
  have ht : T < 0 ∨ (¬ T < 0 ∧ 3155759999 < T) ∨ (¬ T < 0 ∧ ¬ 3155759999 < T) := by omega
  rcases ht with t1 | ⟨t1, t2⟩ | ⟨t1, t2⟩
  · have HF := Lib.hid (show 1 = res by rw [HS1.out]; rw [if_pos (show Jn.badT T from .inl t1)])
    go_enter Try.func18, Try.ntmps18
    go_wp2
    go_ret
    exact ⟨retk HF.out, below_new w _⟩
  · have HF := Lib.hid (show 1 = res by rw [HS1.out]; rw [if_pos (show Jn.badT T from .inr t2)])
    go_enter Try.func18, Try.ntmps18
    go_wp2
    go_ret
    exact ⟨retk HF.out, below_new w _⟩
  have HS2 := Lib.hid (show res = if Jn.badN a ∨ Jn.badN b ∨ Jn.badN c ∨ Jn.badN d then 1 else if 16 < mix.length then 18 else if mix.any (fun n => decide (Jn.badM n)) then 1 else 0 by
    rw [HS1.out, if_neg (show ¬ Jn.badT T from fun h => h.elim t1 t2)])
  clear HS1
  have HBL := Lib.hid (on (below_new w (.cells #[.int .i64 K, .int .i64 T, .int .i64 a, .int .i64 b, .int .i64 c, .int .i64 d, .slice A mix.length cap] 35)) (below_new (w.alloc (.cells #[.int .i64 K, .int .i64 T, .int .i64 a, .int .i64 b, .int .i64 c, .int .i64 d, .slice A mix.length cap] 35)) (.cells #[.int .i64 a, .int .i64 b, .int .i64 c, .int .i64 d] 3)))
  have HM := Lib.hid (HR.out.to HBL.out)
  obtain ⟨mm, hmm⟩ : ∃ mm, mm = mix.any Jn.mb := ⟨_, rfl⟩
  have HMM : Bx (mm = mix.any Jn.mb) := ⟨hmm⟩
  clear hmm
  go_enter Try.func18, Try.ntmps18
  go_wp2
  go_loop [4] (fun i => ∃ k : Nat, k ≤ 4 ∧ i = .int .i64 (k : Int) ∧ Hid (∀ j, j < k → ¬ Jn.badN ([a, b, c, d].getD j 0))) (fun i => 4 - (intOf i).toNat)
  case atStart => exact ⟨0, by omega, rfl, Lib.hid (fun j hj => absurd hj (by omega))⟩
  case round =>
    obtain ⟨k, hk, rfl, HG⟩ := hrel
    have hk5 : k = 0 ∨ k = 1 ∨ k = 2 ∨ k = 3 ∨ k = 4 := by omega
    rcases hk5 with rfl | rfl | rfl | rfl | rfl
    · have hv : a < -1000000000000 ∨ (¬ a < -1000000000000 ∧ 1000000000000 < a) ∨ (¬ a < -1000000000000 ∧ ¬ 1000000000000 < a) := by omega
      rcases hv with v1 | ⟨v1, v2⟩ | ⟨v1, v2⟩
      · have HF := Lib.hid (show 1 = res by rw [HS2.out]; have x : Jn.badN a := .inl v1; rw [if_pos (.inl x)])
        go_wp2
        go_ret
        exact ⟨retk HF.out, HBL.out⟩
      · have HF := Lib.hid (show 1 = res by rw [HS2.out]; have x : Jn.badN a := .inr v2; rw [if_pos (.inl x)])
        go_wp2
        go_ret
        exact ⟨retk HF.out, HBL.out⟩
      · have HN := Lib.hid (show ∀ j, j < 1 → ¬ Jn.badN ([a, b, c, d].getD j 0) from fun j hj => by
          rcases Nat.lt_or_ge j 0 with h1 | h1
          · exact HG.out j h1
          · have : j = 0 := by omega
            subst this
            exact fun h => h.elim v1 v2)
        go_wp2
        go_round
        case rel => exact ⟨1, by omega, by go_num, HN⟩
        case measure => simp [intOf]
    · have hv : b < -1000000000000 ∨ (¬ b < -1000000000000 ∧ 1000000000000 < b) ∨ (¬ b < -1000000000000 ∧ ¬ 1000000000000 < b) := by omega
      rcases hv with v1 | ⟨v1, v2⟩ | ⟨v1, v2⟩
      · have HF := Lib.hid (show 1 = res by rw [HS2.out]; have x : Jn.badN b := .inl v1; rw [if_pos (.inr (.inl x))])
        go_wp2
        go_ret
        exact ⟨retk HF.out, HBL.out⟩
      · have HF := Lib.hid (show 1 = res by rw [HS2.out]; have x : Jn.badN b := .inr v2; rw [if_pos (.inr (.inl x))])
        go_wp2
        go_ret
        exact ⟨retk HF.out, HBL.out⟩
      · have HN := Lib.hid (show ∀ j, j < 2 → ¬ Jn.badN ([a, b, c, d].getD j 0) from fun j hj => by
          rcases Nat.lt_or_ge j 1 with h1 | h1
          · exact HG.out j h1
          · have : j = 1 := by omega
            subst this
            exact fun h => h.elim v1 v2)
        go_wp2
        go_round
        case rel => exact ⟨2, by omega, by go_num, HN⟩
        case measure => simp [intOf]
    · have hv : c < -1000000000000 ∨ (¬ c < -1000000000000 ∧ 1000000000000 < c) ∨ (¬ c < -1000000000000 ∧ ¬ 1000000000000 < c) := by omega
      rcases hv with v1 | ⟨v1, v2⟩ | ⟨v1, v2⟩
      · have HF := Lib.hid (show 1 = res by rw [HS2.out]; have x : Jn.badN c := .inl v1; rw [if_pos (.inr (.inr (.inl x)))])
        go_wp2
        go_ret
        exact ⟨retk HF.out, HBL.out⟩
      · have HF := Lib.hid (show 1 = res by rw [HS2.out]; have x : Jn.badN c := .inr v2; rw [if_pos (.inr (.inr (.inl x)))])
        go_wp2
        go_ret
        exact ⟨retk HF.out, HBL.out⟩
      · have HN := Lib.hid (show ∀ j, j < 3 → ¬ Jn.badN ([a, b, c, d].getD j 0) from fun j hj => by
          rcases Nat.lt_or_ge j 2 with h1 | h1
          · exact HG.out j h1
          · have : j = 2 := by omega
            subst this
            exact fun h => h.elim v1 v2)
        go_wp2
        go_round
        case rel => exact ⟨3, by omega, by go_num, HN⟩
        case measure => simp [intOf]
    · have hv : d < -1000000000000 ∨ (¬ d < -1000000000000 ∧ 1000000000000 < d) ∨ (¬ d < -1000000000000 ∧ ¬ 1000000000000 < d) := by omega
      rcases hv with v1 | ⟨v1, v2⟩ | ⟨v1, v2⟩
      · have HF := Lib.hid (show 1 = res by rw [HS2.out]; have x : Jn.badN d := .inl v1; rw [if_pos (.inr (.inr (.inr x)))])
        go_wp2
        go_ret
        exact ⟨retk HF.out, HBL.out⟩
      · have HF := Lib.hid (show 1 = res by rw [HS2.out]; have x : Jn.badN d := .inr v2; rw [if_pos (.inr (.inr (.inr x)))])
        go_wp2
        go_ret
        exact ⟨retk HF.out, HBL.out⟩
      · have HN := Lib.hid (show ∀ j, j < 4 → ¬ Jn.badN ([a, b, c, d].getD j 0) from fun j hj => by
          rcases Nat.lt_or_ge j 3 with h1 | h1
          · exact HG.out j h1
          · have : j = 3 := by omega
            subst this
            exact fun h => h.elim v1 v2)
        go_wp2
        go_round
        case rel => exact ⟨4, by omega, by go_num, HN⟩
        case measure => simp [intOf]
    · have g0 := HG.out 0 (by omega)
      have g1 := HG.out 1 (by omega)
      have g2 := HG.out 2 (by omega)
      have g3 := HG.out 3 (by omega)
      have HS3 : Bx (res = if 16 < mix.length then 18 else if mix.any (fun n => decide (Jn.badM n)) then 1 else 0) := ⟨by
        rw [HS2.out, if_neg (fun h => by
          rcases h with h | h | h | h
          · exact g0 h
          · exact g1 h
          · exact g2 h
          · exact g3 h)]⟩
      clear g0 g1 g2 g3 HS2 HG
      by_cases hl : 16 < mix.length
      · have HF := Lib.hid (show 18 = res by rw [HS3.out, if_pos hl])
        have hl' : (16 : Int) < (mix.length : Int) := by omega
        go_wp2
        go_ret
        exact ⟨retk HF.out, HBL.out⟩
      · have HS4 : Bx (res = if mm then 1 else 0) := ⟨by rw [HS3.out, if_neg hl, HMM.out]; rfl⟩
        have hl' : ¬ (16 : Int) < (mix.length : Int) := by omega
        clear HS3 hl
        go_wp2
        go_loop [5] (fun i => ∃ k : Nat, k ≤ mix.length ∧ i = .int .i64 (k : Int) ∧ Bx ((mix.take k).any Jn.mb = false)) (fun i => mix.length - (intOf i).toNat)
        case atStart => exact ⟨0, by omega, rfl, ⟨rfl⟩⟩
        case round =>
          obtain ⟨k, hk, rfl, HN⟩ := hrel
          by_cases hlt : k < mix.length
          · obtain ⟨b2, off, hA, hlt2, c0⟩ := HM.out.ati hlt
            subst hA
            have hp := List.getElem?_eq_getElem hlt
            generalize mix[k] = p at c0 hp
            have HK : Bx (mix[k]? = some p) := ⟨hp⟩
            clear hp
            have hpc : p < 0 ∨ (¬ p < 0 ∧ 1073741824 < p) ∨ (¬ p < 0 ∧ ¬ 1073741824 < p) := by omega
            have HBAD : Bx (Jn.mb p = true → 1 = res) := ⟨fun h => by
              have h1 := Jn.any_snoc mix Jn.mb k p HK.out
              have h2 : mm = true := by
                rw [HMM.out, List.any_eq_true]
                exact ⟨p, List.mem_of_getElem? HK.out, h⟩
              rw [HS4.out, h2]
              rfl⟩
            rcases hpc with p1 | ⟨p1, p2⟩ | ⟨p1, p2⟩
            · have HF : Bx (1 = res) := ⟨HBAD.out (by simp [Jn.mb, Jn.badM, p1])⟩
              go_wp2
              go_ret
              exact ⟨retk HF.out, HBL.out⟩
            · have HF : Bx (1 = res) := ⟨HBAD.out (by simp [Jn.mb, Jn.badM, p2])⟩
              go_wp2
              go_ret
              exact ⟨retk HF.out, HBL.out⟩
            · have HN2 : Bx ((mix.take (k + 1)).any Jn.mb = false) := ⟨by
                rw [Jn.any_snoc _ _ _ _ HK.out, HN.out, show Jn.mb p = false from decide_eq_false (fun h : Jn.badM p => h.elim p1 p2)]
                rfl⟩
              clear HBAD
              go_wp2
              go_round
              case rel => exact ⟨k + 1, by omega, by go_num, HN2⟩
              case measure => simp [intOf]; omega
          · have hke : k = mix.length := by omega
            subst hke
            have HF : Bx (0 = res) := ⟨by
              have h1 := HN.out
              rw [List.take_length, ← HMM.out] at h1
              rw [HS4.out, h1]
              rfl⟩
            go_wp2
            go_ret
            exact ⟨retk HF.out, HBL.out⟩
end Go.Proofs.Ytcpdfgckfefboaa
