/- The walk of the reference's Check. -/
import Derived.Test.YtcplgplcmgbglaaProdCheck
namespace Go.Proofs.Ytcplgplcmgbglaa
open Go.RowKit

set_option maxHeartbeats 1600000 in
theorem rcheckl_any (A : Option Addr) (cap : Nat) (l : List Pd.Prod) (pa ma : Int) (w : World) (hP : Pd.Prods w A l) :
    Calls Try.prog 17 #[.slice A l.length cap, .int .i64 pa, .int .i64 ma] w fun e w' => e = .returned (.int .i64 (Pd.chkL l pa ma)) ∧ Below w.heap.size w w' := by
  have HP := Lib.hid hP
  clear hP
  by_cases hl : l.length ≤ 64
  · go_enter Try.func17, Try.ntmps17
    go_wp2
    go_loopw [17] (fun i wr => ∃ k : Nat, k ≤ l.length ∧ i = .int .i64 k ∧ (l.take k).any (Pd.bad pa ma) = false ∧ Below w.heap.size w wr) (fun i _ => l.length - (intOf i).toNat)
    case atStart => exact ⟨0, by omega, rfl, rfl, Below.refl _ _⟩
    case round =>
      obtain ⟨k, hk, rfl, hn, hb⟩ := hrel
      have HN := Lib.hid hn
      have HB := Lib.hid hb
      have hsz := hb.size
      clear hn
      by_cases hlt : k < l.length
      · obtain ⟨p, hp⟩ := get_of_lt hlt
        obtain ⟨b, off, rfl, hlt2, hf, c0, c1, c2, c3, c4⟩ := (HP.out.below (Nat.le_refl _) hb) k p hp
        have HK := Lib.hid hp
        have HC := Lib.hid (rcode_any p.code)
        clear hb hp hf
        by_cases hz : Pd.cod p.code.data.toList = 0
        · have HF := Lib.hid (Pd.chkP_ok p pa ma hz)
          rw [hz] at HC
          clear hz
          have HB2 := Lib.hid (HB.out.alloc hsz p.obj)
          unfold Pd.Prod.obj at HB2
          go_wp2_with (go_at_call 14; refine (HC.out _).mono ?_; rintro e w' ⟨rfl, rfl⟩)
          all_goals first
            | (go_roundw
               case rel => exact ⟨k + 1, by omega, by go_num, by rw [Pd.any_snoc _ _ _ _ HK.out, HN.out, Pd.bad, HF.out]; (repeat' split) <;> first | rfl | omega, HB2.out⟩
               case measure => simp [intOf]; omega)
            | (go_ret
               exact ⟨ret_int1 (by
                 have hv := Pd.chkL_bad l pa ma k p HK.out hl HN.out (by rw [HF.out]; (repeat' split) <;> omega)
                 rw [hv, HF.out]; (repeat' split) <;> first | rfl | omega), HB2.out⟩)
        · have hz' := beq_f hz
          have HF := Lib.hid (Pd.chkL_bad l pa ma k p HK.out hl HN.out (by rw [Pd.chkP_code p pa ma hz]; exact hz))
          have HG := Lib.hid (Pd.chkP_code p pa ma hz)
          obtain ⟨c, hc⟩ : ∃ c, c = Pd.cod p.code.data.toList := ⟨_, rfl⟩
          rw [← hc] at HC hz' HG
          clear hc hz
          go_wp2_with (go_at_call 14; refine (HC.out _).mono ?_; rintro e w' ⟨rfl, rfl⟩)
          go_ret
          exact ⟨ret_int1 (by rw [HF.out, HG.out]), HB.out.alloc hsz _⟩
      · have hke : k = l.length := by omega
        subst hke
        have HA := Lib.hid (show l.any (Pd.bad pa ma) = false by have := HN.out; rwa [List.take_length] at this)
        obtain ⟨wo, rfl⟩ : ∃ wo : World, wo = wr := ⟨_, rfl⟩
        clear hb
        go_wp2
        go_loopw [64] (fun i wr => ∃ k : Nat, k ≤ l.length ∧ i = .int .i64 k ∧ Pd.dupUpto l k = false ∧ Below w.heap.size w wr) (fun i _ => l.length - (intOf i).toNat)
        case atStart => exact ⟨0, by omega, rfl, rfl, HB.out⟩
        case round =>
          obtain ⟨k, hk, rfl, hn, hb⟩ := hrel
          have HN2 := Lib.hid hn
          have HB2 := Lib.hid hb
          have hsz2 := hb.size
          clear hn
          by_cases hlt : k < l.length
          · obtain ⟨p, hp⟩ := get_of_lt hlt
            have HK := Lib.hid hp
            obtain ⟨wo, rfl⟩ : ∃ wo : World, wo = wr := ⟨_, rfl⟩
            clear hb hp
            go_wp2
            go_loopw [11] (fun i wr => ∃ j : Nat, j ≤ k ∧ i = .int .i64 j ∧ (l.take j).any (Pd.same p.code) = false ∧ Below w.heap.size w wr) (fun i _ => k - (intOf i).toNat)
            case atStart => exact ⟨0, by omega, rfl, rfl, HB2.out⟩
            case round =>
              obtain ⟨j, hj, rfl, hn, hb⟩ := hrel
              have HN3 := Lib.hid hn
              have HB3 := Lib.hid hb
              clear hn
              by_cases hjk : j < k
              · obtain ⟨q, hq⟩ := get_of_lt (show j < l.length by omega)
                have hPr := HP.out.below (Nat.le_refl _) hb
                obtain ⟨b, off, rfl, _, _, c0, _⟩ := hPr k p HK.out
                obtain ⟨b', off', hA, _, _, d0, _⟩ := hPr j q hq
                obtain ⟨rfl, rfl⟩ : b' = b ∧ off' = off := by
                  simp only [Option.some.injEq, Addr.mk.injEq, and_true] at hA
                  exact ⟨hA.1.symm, hA.2.symm⟩
                have HQ := Lib.hid hq
                have i1 : (0 : Int) ≤ (j : Int) := by omega
                have i2 : (j : Int) < (l.length : Int) := by omega
                have i3 : (k : Int) < (l.length : Int) := by omega
                clear hb hPr hA hq
                by_cases hs : Pd.same p.code q = true
                · have HF := Lib.hid (Pd.chkL_dup l pa ma k hlt hl HA.out (by rw [Pd.dupAt_some l k p HK.out]; exact Pd.any_of _ _ j q (by rw [List.getElem?_take_of_lt hjk]; exact HQ.out) hs))
                  unfold Pd.same at hs
                  go_wp2
                  go_quiet (fail)
                  go_wp2
                  go_ret
                  exact ⟨ret_int1 HF.out.symm, below_drewN HB3.out _⟩
                · have hs' : Pd.same p.code q = false := by simpa using hs
                  have HS := Lib.hid (show (l.take (j + 1)).any (Pd.same p.code) = false by rw [Pd.any_snoc _ _ _ _ HQ.out, HN3.out, hs']; rfl)
                  unfold Pd.same at hs'
                  clear hs
                  go_wp2
                  go_quiet (fail)
                  go_wp2
                  go_roundw
                  case rel => exact ⟨j + 1, by omega, by go_num, HS.out, below_drewN HB3.out _⟩
                  case measure => simp [intOf]; omega
              · have hje : j = k := by omega
                subst hje
                have HS := Lib.hid (show Pd.dupUpto l (j + 1) = false by rw [Pd.dupUpto, HN2.out, Pd.dupAt_some l j p HK.out, HN3.out]; rfl)
                clear hb
                go_wp2
                go_roundw
                case rel => exact ⟨j + 1, by omega, by go_num, HS.out, HB3.out⟩
                case measure => simp [intOf]; omega
          · have hke : k = l.length := by omega
            subst hke
            have HF := Lib.hid (Pd.chkL_ok l pa ma hl HA.out HN2.out)
            clear hb
            go_wp2
            go_ret
            exact ⟨ret_int1 HF.out.symm, HB2.out⟩
  · have HF := Lib.hid (Pd.chkL_full l pa ma (by omega))
    go_enter Try.func17, Try.ntmps17
    go_wp2
    go_ret
    exact ⟨ret_int1 HF.out.symm, Below.refl _ _⟩
end Go.Proofs.Ytcplgplcmgbglaa
