/- The walks of check, and of the reference's sorted. -/
import Derived.Test.YtaaoeiffpldjmaaJetNeed
namespace Go.Proofs.Ytaaoeiffpldjmaa
open Go.RowKit
namespace Jt
theorem srt_range (p : Option Int) (h : Int) (r : List Int) (hh : h < 0 ∨ 1048576 < h) : srt p (h :: r) = 1 := by simp [srt, hh]
theorem srt_order (q h : Int) (r : List Int) (h0 : ¬ h < 0) (h1 : ¬ 1048576 < h) (hq : h < q) : srt (some q) (h :: r) = 9 := by simp [srt, h0, h1, hq]
theorem srt_next (p : Option Int) (h : Int) (r : List Int) (h0 : ¬ h < 0) (h1 : ¬ 1048576 < h) (hq : ∀ q, p = some q → ¬ h < q) : srt p (h :: r) = srt (some h) r := by
  cases p with
  | none => simp [srt, h0, h1]
  | some q => simp [srt, h0, h1, hq q rfl]
/-- The step before number k. -/
def prev (l : List Int) : Nat → Option Int
  | 0 => none
  | k + 1 => l[k]?
end Jt

set_option maxRecDepth 100000 in
set_option maxHeartbeats 3200000 in
theorem sorted_any (A : Option Addr) (n cap : Nat) (l : List Int) (hn : n = l.length) (w : World) (hr : Rd w A (iv l)) :
    Calls Try.prog 28 #[.slice A n cap] w fun e w' => e = .returned (.int .i64 (if 512 < l.length then 8 else Jt.srt none l)) ∧ w = w' := by
  subst hn
  have HR := Lib.hid hr
  clear hr
  by_cases hbig : 512 < l.length
  · have hb : (512 : Int) < (l.length : Int) := by omega
    rw [if_pos hbig]
    go_enter Try.func28, Try.ntmps28
    go_wp2
    go_ret
    exact ⟨rfl, rfl⟩
  · have hb : ¬ (512 : Int) < (l.length : Int) := by omega
    rw [if_neg hbig]
    obtain ⟨res, hres⟩ : ∃ res, res = Jt.srt none l := ⟨_, rfl⟩
    rw [← hres]
    have HS := Lib.hid hres
    clear hres
    go_enter Try.func28, Try.ntmps28
    go_wp2
    go_loop [10] (fun i => ∃ k : Nat, k ≤ l.length ∧ i = .int .i64 (k : Int) ∧ Hid (res = Jt.srt (Jt.prev l k) (l.drop k))) (fun i => l.length - (intOf i).toNat)
    case atStart => exact ⟨0, by omega, rfl, HS⟩
    case round =>
      obtain ⟨k, hk, rfl, HG⟩ := hrel
      by_cases hlt : k < l.length
      · obtain ⟨b, off, hA, hlt2, hc⟩ := HR.out.ati hlt
        subst hA
        have hd : l.drop k = l[k] :: l.drop (k + 1) := List.drop_eq_getElem_cons hlt
        have hnext : Jt.prev l (k + 1) = some l[k] := List.getElem?_eq_getElem hlt
        obtain ⟨h, hh⟩ : ∃ h, h = l[k] := ⟨_, rfl⟩
        rw [← hh] at hc hd hnext
        have hki : (k : Int) < (l.length : Int) := by omega
        by_cases hrg : h < 0 ∨ 1048576 < h
        · have HF := Lib.hid (show res = 1 by rw [HG.out, hd, Jt.srt_range _ _ _ hrg])
          clear hd hnext hh
          rcases hrg with h1 | h1
          · go_wp2
            go_ret
            exact ⟨ret64 HF.out.symm, rfl⟩
          · have h0 : ¬ h < 0 := by omega
            go_wp2
            go_ret
            exact ⟨ret64 HF.out.symm, rfl⟩
        · have h0 : ¬ h < 0 := fun x => hrg (.inl x)
          have h1 : ¬ 1048576 < h := fun x => hrg (.inr x)
          cases k with
          | zero =>
            have HF := Lib.hid (show res = Jt.srt (Jt.prev l 1) (l.drop 1) by rw [HG.out, hd, hnext]; exact Jt.srt_next _ _ _ h0 h1 (fun q hq => by cases hq))
            clear hd hnext hh hrg
            rw [Nat.add_zero] at hc
            go_wp2
            go_round
            case rel => exact ⟨1, by omega, by go_num, HF⟩
            case measure => simp [intOf]; omega
          | succ j =>
            have hj : j < l.length := by omega
            obtain ⟨b2, off2, hA2, _, hc2⟩ := HR.out.ati hj
            cases hA2
            have hprev : Jt.prev l (j + 1) = some l[j] := List.getElem?_eq_getElem hj
            obtain ⟨q, hq⟩ : ∃ q, q = l[j] := ⟨_, rfl⟩
            rw [← hq] at hc2 hprev
            have hjx : ((j + 1 : Nat) : Int) - 1 = (j : Int) := by omega
            have hjp : (0 : Int) < ((j + 1 : Nat) : Int) := by omega
            have hjl : (j : Int) < (l.length : Int) := by omega
            by_cases hlq : h < q
            · have HF := Lib.hid (show res = 9 by rw [HG.out, hd, hprev]; exact Jt.srt_order _ _ _ h0 h1 hlq)
              clear hd hnext hh hrg hprev hq
              go_wp2
              go_ret
              exact ⟨ret64 HF.out.symm, rfl⟩
            · have HF := Lib.hid (show res = Jt.srt (Jt.prev l (j + 1 + 1)) (l.drop (j + 1 + 1)) by rw [HG.out, hd, hprev, hnext]; exact Jt.srt_next _ _ _ h0 h1 (fun q' hq' => by cases hq'; exact hlq))
              clear hd hnext hh hrg hprev hq
              go_wp2
              go_round
              case rel => exact ⟨j + 1 + 1, by omega, by go_num, HF⟩
              case measure => simp [intOf]; omega
      · have hkl : k = l.length := by omega
        have HF := Lib.hid (show res = 0 by rw [HG.out, hkl, List.drop_length]; cases Jt.prev l l.length <;> rfl)
        have hki : ¬ (k : Int) < (l.length : Int) := by omega
        go_wp2
        go_ret
        exact ⟨ret64 HF.out.symm, rfl⟩
end Go.Proofs.Ytaaoeiffpldjmaa
