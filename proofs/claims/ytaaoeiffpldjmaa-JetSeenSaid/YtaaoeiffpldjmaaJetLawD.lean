/- The walk of the law JetSeen. -/
import Derived.Test.YtaaoeiffpldjmaaJetLawA
import Derived.Test.YtaaoeiffpldjmaaJetLaws
namespace Go.Proofs.Ytaaoeiffpldjmaa
open Go.RowKit

set_option maxRecDepth 100000 in
set_option maxHeartbeats 6400000 in
theorem seen_walk (x y z : Int) (A2 : Option Addr) (n2 cap2 : Nat) (l2 : List Int) (w : World) (h2 : IntsIn w A2 n2 cap2 l2) :
    Calls Try.prog 8 #[.agg #[.int .i64 x, .int .i64 y, .int .i64 z], .slice A2 n2 cap2] w fun e w' => e = .returned (.bool true) ∧ Below w.heap.size w w' := by
  have HB0 := Lib.hid (below_new w (.cells #[.int .i64 x, .int .i64 y, .int .i64 z] 23))
  have HV0 := Lib.hid (VAt.new w x y z 23)
  by_cases hn : 0 ≤ 200 ∧ n2 ≤ 600
  · have HFW := Lib.hid (fun w => few_yes none 0 0 A2 n2 cap2 w hn)
    have hl2 : l2.length ≤ 600 := by rw [← h2.len]; exact hn.2
    have hn600 : n2 ≤ 600 := hn.2
    have H1 := Lib.hid (fun w' (hb : Below w.heap.size w w') => plan_any x y z A2 n2 cap2 l2 h2.len w' (h2.reads.to hb))
    have hplen : (Jt.plan ⟨x, y, z⟩ l2).1.length ≤ 1000000000000 := by
      have := Jt.plan_len ⟨x, y, z⟩ l2
      omega
    have HPH := Lib.hid (fun A' n' cap' (hn' : n' = (Jt.plan ⟨x, y, z⟩ l2).1.length) w' (hb : Below w.heap.size w w') (hw' : Jt.Wins w' A' (Jt.plan ⟨x, y, z⟩ l2).1) => hits_any x y z A' n' cap' _ hn' A2 n2 cap2 l2 h2.len w' hw' (h2.reads.to hb) hplen)
    have HL2 := Lib.hid h2.len
    by_cases hc : Jt.check ⟨x, y, z⟩ l2 = 0
    · rw [Jt.plan_seen hc] at HPH
      have b1 := (Jt.plan_best hc).1
      clear hplen
      generalize Jt.plan ⟨x, y, z⟩ l2 = p at H1 HPH b1
      obtain ⟨p1, p2⟩ := p
      simp only at b1
      subst b1
      clear h2 hn hl2 hc
      go_enter Try.func8, Try.ntmps8
      go_wp2_with fail
      refine (HFW.out _).mono ?_
      rintro e w' ⟨rfl, rfl⟩
      go_wp2_with fail
      refine (H1.out _ HB0.out).mono ?_
      rintro e w1 ⟨A3, n3, cap3, rfl, hn3, hr3, hb1⟩
      simp only at hn3 hr3
      have HB1 := Lib.hid (on HB0.out hb1)
      have HV1 := Lib.hid (HV0.out.below hb1 (by simp))
      have HN3 := Lib.hid hn3
      have HR3 := Lib.hid hr3
      clear hb1 hn3 hr3
      obtain ⟨c0, c1, c2⟩ := HV1.out
      go_wp2_with fail
      refine (HPH.out A3 n3 cap3 HN3.out w1 HB1.out HR3.out).mono ?_
      rintro e w2 ⟨A4, n4, cap4, rfl, hn4, hr4, hb2⟩
      simp only at hn4 hr4
      have hn4' : n4 = n2 := by rw [HL2.out, hn4]; simp
      subst hn4'
      have HB2 := Lib.hid (on HB1.out hb2)
      have HR4 := Lib.hid hr4
      clear hb2 hn4 hr4 c0 c1 c2
      go_wp2
      go_loop [46] (fun i => ∃ k : Nat, k ≤ n4 ∧ i = .int .i64 (k : Int)) (fun i => n4 - (intOf i).toNat)
      case atStart => exact ⟨0, by omega, rfl⟩
      case round =>
        obtain ⟨k, hk, rfl⟩ := hrel
        by_cases hlt : k < n4
        · have hki : (k : Int) < (n4 : Int) := by omega
          have hk2 : k < ((List.range l2.length).map fun i : Nat => (i : Int)).length := by rw [List.length_map, List.length_range, ← HL2.out]; exact hlt
          obtain ⟨b, off, hA, _, hcx⟩ := HR4.out.ati hk2
          subst hA
          rw [List.getElem_map, List.getElem_range] at hcx
          clear hk2
          go_wp2
          go_round
          case rel => exact ⟨k + 1, by omega, by go_num⟩
          case measure => simp [intOf]; omega
        · have hki : ¬ (k : Int) < (n4 : Int) := by omega
          go_wp2_with fail
          refine (awake_any w2).mono ?_
          rintro e w3 ⟨rfl, hb3⟩
          have HB3 := Lib.hid (on HB2.out hb3)
          clear hb3
          go_wp2
          go_ret
          exact ⟨rfl, HB3.out⟩
    · rw [(Jt.plan_fail hc []).1] at H1 HPH
      have HPH2 := Lib.hid HPH.out
      simp only at HPH2
      rw [(Jt.plan_fail hc []).2] at HPH2
      generalize Jt.check ⟨x, y, z⟩ l2 = c at H1 HPH2 hc
      have hcf : (c == 0) = false := beq_f hc
      have hcn : (c != 0) = true := by simp [hc]
      clear h2 hn hl2 hc hplen HPH
      go_enter Try.func8, Try.ntmps8
      go_wp2_with fail
      refine (HFW.out _).mono ?_
      rintro e w' ⟨rfl, rfl⟩
      go_wp2_with fail
      refine (H1.out _ HB0.out).mono ?_
      rintro e w1 ⟨A3, n3, cap3, rfl, hn3, hr3, hb1⟩
      simp only at hn3 hr3
      have HB1 := Lib.hid (on HB0.out hb1)
      have HV1 := Lib.hid (HV0.out.below hb1 (by simp))
      have HN3 := Lib.hid hn3
      have HR3 := Lib.hid hr3
      clear hb1 hn3 hr3
      obtain ⟨c0, c1, c2⟩ := HV1.out
      go_wp2_with fail
      refine (HPH2.out A3 n3 cap3 HN3.out w1 HB1.out HR3.out).mono ?_
      rintro e w2 ⟨A4, n4, cap4, rfl, hn4, hr4, hb2⟩
      have HB2 := Lib.hid (on HB1.out hb2)
      clear hb2 hn4 hr4 c0 c1 c2
      go_wp2_with fail
      refine (awake_any w2).mono ?_
      rintro e w3 ⟨rfl, hb3⟩
      have HB3 := Lib.hid (on HB2.out hb3)
      clear hb3
      go_wp2
      go_ret
      exact ⟨rfl, HB3.out⟩
  · have HFW := Lib.hid (fun w => few_no none 0 0 A2 n2 cap2 w hn)
    clear h2 hn
    go_enter Try.func8, Try.ntmps8
    go_wp2_with fail
    refine (HFW.out _).mono ?_
    rintro e w' ⟨rfl, rfl⟩
    go_wp2_with fail
    refine (awake_any _).mono ?_
    rintro e w4 ⟨rfl, hb4⟩
    have HB4 := Lib.hid (on HB0.out hb4)
    clear hb4
    go_wp2
    go_ret
    exact ⟨rfl, HB4.out⟩
end Go.Proofs.Ytaaoeiffpldjmaa
