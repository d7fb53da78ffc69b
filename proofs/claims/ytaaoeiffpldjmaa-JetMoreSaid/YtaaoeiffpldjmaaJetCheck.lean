/- The walk of check. -/
import Derived.Test.YtaaoeiffpldjmaaJetSrt
namespace Go.Proofs.Ytaaoeiffpldjmaa
open Go.RowKit

set_option maxRecDepth 100000 in
set_option maxHeartbeats 3200000 in
theorem check_any (d h0 r : Int) (A : Option Addr) (n cap : Nat) (l : List Int) (hn : n = l.length) (w : World) (hr : Rd w A (iv l)) :
    Calls Try.prog 26 #[.agg #[.int .i64 d, .int .i64 h0, .int .i64 r], .slice A n cap] w fun e w' => e = .returned (.int .i64 (Jt.check ⟨d, h0, r⟩ l)) ∧ Below w.heap.size w w' := by
  subst hn
  have HR1 := Lib.hid hr
  clear hr
  have HC := Lib.hid (chk_any d h0 r (w.alloc (.cells #[.int .i64 d, .int .i64 h0, .int .i64 r] 23)))
  obtain ⟨c, hc⟩ : ∃ c, c = Jt.chk ⟨d, h0, r⟩ := ⟨_, rfl⟩
  unfold Jt.check
  rw [← hc] at HC ⊢
  clear hc
  by_cases hc0 : c ≠ 0
  · rw [if_pos hc0]
    have hcf : (c == 0) = false := beq_f hc0
    go_enter Try.func26, Try.ntmps26
    go_wp2_with fail
    refine (HC.out).mono ?_
    rintro e w0 ⟨rfl, hb⟩
    have HB0 := Lib.hid ((below_new w _).trans (hb.mono (by simp)) : Below w.heap.size w w0)
    clear hb hc0
    go_wp2
    go_ret
    exact ⟨rfl, HB0.out⟩
  have hc1 : c = 0 := by omega
  subst hc1
  rw [if_neg (by simp)]
  clear hc0
  by_cases hbig : 512 < l.length
  · have hb2 : (512 : Int) < (l.length : Int) := by omega
    rw [if_pos hbig]
    go_enter Try.func26, Try.ntmps26
    go_wp2_with fail
    refine (HC.out).mono ?_
    rintro e w0 ⟨rfl, hb⟩
    have HB0 := Lib.hid ((below_new w _).trans (hb.mono (by simp)) : Below w.heap.size w w0)
    clear hb
    go_wp2
    go_ret
    exact ⟨rfl, HB0.out⟩
  · have hb3 : ¬ (512 : Int) < (l.length : Int) := by omega
    rw [if_neg hbig]
    obtain ⟨res, hres⟩ : ∃ res, res = Jt.srt none l := ⟨_, rfl⟩
    rw [← hres]
    have HS := Lib.hid hres
    clear hres
    go_enter Try.func26, Try.ntmps26
    go_wp2_with fail
    refine (HC.out).mono ?_
    rintro e w0 ⟨rfl, hb⟩
    have HB0 := Lib.hid ((below_new w _).trans (hb.mono (by simp)) : Below w.heap.size w w0)
    have HR := Lib.hid (HR1.out.to HB0.out)
    clear hb
    go_wp2
    go_loop [18] (fun i => ∃ k : Nat, k ≤ l.length ∧ i = .int .i64 (k : Int) ∧ Hid (res = Jt.srt (Jt.prev l k) (l.drop k))) (fun i => l.length - (intOf i).toNat)
    case atStart => exact ⟨0, by omega, rfl, HS⟩
    case round =>
      obtain ⟨k, hk, rfl, HG⟩ := hrel
      by_cases hlt : k < l.length
      · obtain ⟨b, off, hA, hlt2, hc⟩ := HR.out.ati hlt
        subst hA
        have hd : l.drop k = l[k] :: l.drop (k + 1) := List.drop_eq_getElem_cons hlt
        have hnext : Jt.prev l (k + 1) = some l[k] := List.getElem?_eq_getElem hlt
        obtain ⟨h, hh⟩ : ∃ h, h = l[k] := ⟨_, rfl⟩
        rw [← hh] at hc hd hnext
        have hki : (k : Int) < (l.length : Int) := by omega
        by_cases hrg : h < 0 ∨ 1048576 < h
        · have HF := Lib.hid (show res = 1 by rw [HG.out, hd, Jt.srt_range _ _ _ hrg])
          clear hd hnext hh
          rcases hrg with h1 | h1
          · go_wp2
            go_ret
            exact ⟨ret64 HF.out.symm, HB0.out⟩
          · have h0 : ¬ h < 0 := by omega
            go_wp2
            go_ret
            exact ⟨ret64 HF.out.symm, HB0.out⟩
        · have h0 : ¬ h < 0 := fun x => hrg (.inl x)
          have h1 : ¬ 1048576 < h := fun x => hrg (.inr x)
          cases k with
          | zero =>
            have HF := Lib.hid (show res = Jt.srt (Jt.prev l 1) (l.drop 1) by rw [HG.out, hd, hnext]; exact Jt.srt_next _ _ _ h0 h1 (fun q hq => by cases hq))
            clear hd hnext hh hrg
            rw [Nat.add_zero] at hc
            go_wp2
            go_round
            case rel => exact ⟨1, by omega, by go_num, HF⟩
            case measure => simp [intOf]; omega
          | succ j =>
            have hj : j < l.length := by omega
            obtain ⟨b2, off2, hA2, _, hc2⟩ := HR.out.ati hj
            cases hA2
            have hprev : Jt.prev l (j + 1) = some l[j] := List.getElem?_eq_getElem hj
            obtain ⟨q, hq⟩ : ∃ q, q = l[j] := ⟨_, rfl⟩
            rw [← hq] at hc2 hprev
            have hjx : ((j + 1 : Nat) : Int) - 1 = (j : Int) := by omega
            have hjp : (0 : Int) < ((j + 1 : Nat) : Int) := by omega
            have hjl : (j : Int) < (l.length : Int) := by omega
            by_cases hlq : h < q
            · have HF := Lib.hid (show res = 9 by rw [HG.out, hd, hprev]; exact Jt.srt_order _ _ _ h0 h1 hlq)
              clear hd hnext hh hrg hprev hq
              go_wp2
              go_ret
              exact ⟨ret64 HF.out.symm, HB0.out⟩
            · have HF := Lib.hid (show res = Jt.srt (Jt.prev l (j + 1 + 1)) (l.drop (j + 1 + 1)) by rw [HG.out, hd, hprev, hnext]; exact Jt.srt_next _ _ _ h0 h1 (fun q' hq' => by cases hq'; exact hlq))
              clear hd hnext hh hrg hprev hq
              go_wp2
              go_round
              case rel => exact ⟨j + 1 + 1, by omega, by go_num, HF⟩
              case measure => simp [intOf]; omega
      · have hkl : k = l.length := by omega
        have HF := Lib.hid (show res = 0 by rw [HG.out, hkl, List.drop_length]; cases Jt.prev l l.length <;> rfl)
        have hki : ¬ (k : Int) < (l.length : Int) := by omega
        go_wp2
        go_ret
        exact ⟨ret64 HF.out.symm, HB0.out⟩
end Go.Proofs.Ytaaoeiffpldjmaa
