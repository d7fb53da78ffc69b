/- The walks of the laws JetSteps, JetHits, JetPlans. -/
import Derived.Test.YtaaoeiffpldjmaaJetArgs
import Derived.Deep.RegionHeld
namespace Go.Proofs.Ytaaoeiffpldjmaa
open Go.RowKit

set_option maxRecDepth 100000 in
set_option maxHeartbeats 3200000 in
theorem steps_walk (A : Option Addr) (n cap : Nat) (l : List Jt.Win) (w : World) (h : WinsIn w A n l) :
    Calls Try.prog 5 #[.slice A n cap] w fun e w' => e = .returned (.bool true) ∧ Below w.heap.size w w' := by
  by_cases hn : n ≤ 600
  · have hn' : ¬ (600 : Int) < (n : Int) := by omega
    have H1 := Lib.hid (steps_any A n cap l h.len w h.reads)
    have H2 := Lib.hid (fun w' (hb : Below w.heap.size w w') => rsteps_any A n cap l h.len w' (h.reads.to hb))
    generalize Jt.steps l = p at H1 H2
    obtain ⟨p1, p2⟩ := p
    simp only at H1 H2
    clear h hn
    go_enter Try.func5, Try.ntmps5
    go_wp2_with fail
    refine H1.out.mono ?_
    rintro e w1 ⟨rfl, hb1⟩
    have HB1 := Lib.hid hb1
    clear hb1
    go_wp2_with fail
    refine (H2.out w1 HB1.out).mono ?_
    rintro e w2 ⟨rfl, hb2⟩
    have HB2 := Lib.hid (on HB1.out hb2)
    clear hb2
    go_wp2_with fail
    refine (awake_any w2).mono ?_
    rintro e w3 ⟨rfl, hb3⟩
    have HB3 := Lib.hid (on HB2.out hb3)
    clear hb3
    go_wp2
    go_ret
    exact ⟨rfl, HB3.out⟩
  · have hn' : (600 : Int) < (n : Int) := by omega
    clear h hn
    go_enter Try.func5, Try.ntmps5
    go_wp2_with fail
    refine (awake_any w).mono ?_
    rintro e w3 ⟨rfl, hb3⟩
    go_wp2
    go_ret
    exact ⟨rfl, hb3⟩

theorem few_no (A : Option Addr) (n cap : Nat) (A2 : Option Addr) (n2 cap2 : Nat) (w : World) (h : ¬ (n ≤ 200 ∧ n2 ≤ 600)) :
    Calls Try.prog 10 #[.slice A n cap, .slice A2 n2 cap2] w fun e w' => e = .returned (.bool false) ∧ w = w' := by
  have := few_any A n cap A2 n2 cap2 w
  rwa [show decide (n ≤ 200 ∧ n2 ≤ 600) = false by simpa using h] at this
theorem few_yes (A : Option Addr) (n cap : Nat) (A2 : Option Addr) (n2 cap2 : Nat) (w : World) (h : n ≤ 200 ∧ n2 ≤ 600) :
    Calls Try.prog 10 #[.slice A n cap, .slice A2 n2 cap2] w fun e w' => e = .returned (.bool true) ∧ w = w' := by
  have := few_any A n cap A2 n2 cap2 w
  rwa [show decide (n ≤ 200 ∧ n2 ≤ 600) = true by simpa using h] at this

set_option maxRecDepth 100000 in
set_option maxHeartbeats 3200000 in
theorem hits_walk (A : Option Addr) (n cap : Nat) (l : List Jt.Win) (x y z : Int) (A2 : Option Addr) (n2 cap2 : Nat) (l2 : List Int) (w : World) (h : WinsIn w A n l) (h2 : IntsIn w A2 n2 cap2 l2) :
    Calls Try.prog 6 #[.slice A n cap, .agg #[.int .i64 x, .int .i64 y, .int .i64 z], .slice A2 n2 cap2] w fun e w' => e = .returned (.bool true) ∧ Below w.heap.size w w' := by
  by_cases hn : n ≤ 200 ∧ n2 ≤ 600
  · have HFW := Lib.hid (fun w => few_yes A n cap A2 n2 cap2 w hn)
    have hl : l.length ≤ 200 := by rw [← h.len]; exact hn.1
    have hl2 : l2.length ≤ 600 := by rw [← h2.len]; exact hn.2
    have H1 := Lib.hid (fun w' (hb : Below w.heap.size w w') => hits_any x y z A n cap l h.len A2 n2 cap2 l2 h2.len w' (h.reads.to hb) (h2.reads.to hb) (by omega))
    have H2 := Lib.hid (fun w' (hb : Below w.heap.size w w') => rhits_any x y z A n cap l h.len A2 n2 cap2 l2 h2.len w' (h.reads.to hb) (h2.reads.to hb) (by omega))
    have hlen : (Jt.hits l ⟨x, y, z⟩ l2).1.length ≤ 1000000000000 := by
      have := Jt.hits_len l ⟨x, y, z⟩ l2
      omega
    generalize Jt.hits l ⟨x, y, z⟩ l2 = p at H1 H2 hlen
    obtain ⟨p1, p2⟩ := p
    simp only at hlen
    have HLN := Lib.hid hlen
    have HB0 := Lib.hid (below_new w (.cells #[.int .i64 x, .int .i64 y, .int .i64 z] 23))
    have HV0 := Lib.hid (VAt.new w x y z 23)
    clear h h2 hn hl hl2 hlen
    go_enter Try.func6, Try.ntmps6
    go_wp2_with fail
    refine (HFW.out _).mono ?_
    rintro e w' ⟨rfl, rfl⟩
    go_wp2_with fail
    refine (H1.out _ HB0.out).mono ?_
    rintro e w1 ⟨A3, n3, cap3, rfl, hn3, hr3, hb1⟩
    simp only at hn3 hr3
    have HB1 := Lib.hid (on HB0.out hb1)
    obtain ⟨c0, c1, c2⟩ := HV0.out.below hb1 (by simp)
    have HN3 := Lib.hid hn3
    have HR3 := Lib.hid hr3
    clear hb1 hn3 hr3
    go_wp2_with fail
    refine (H2.out _ HB1.out).mono ?_
    rintro e w2 ⟨A4, n4, cap4, rfl, hn4, hr4, hb2⟩
    simp only at hn4 hr4
    have HB2 := Lib.hid (on HB1.out hb2)
    have HS := Lib.hid (ints_any A3 n3 cap3 p1 HN3.out A4 n4 cap4 p1 hn4 w2 (HR3.out.to hb2) hr4 HLN.out)
    rw [show decide (p1 = p1) = true by simp] at HS
    clear hb2 hn4 hr4 c0 c1 c2
    go_wp2_with fail
    refine HS.out.mono ?_
    rintro e w3 ⟨rfl, hb3⟩
    have HB3 := Lib.hid (on HB2.out hb3)
    clear hb3
    go_wp2_with fail
    refine (awake_any w3).mono ?_
    rintro e w4 ⟨rfl, hb4⟩
    have HB4 := Lib.hid (on HB3.out hb4)
    clear hb4
    go_wp2
    go_ret
    exact ⟨rfl, HB4.out⟩
  · have HFW := Lib.hid (fun w => few_no A n cap A2 n2 cap2 w hn)
    have HB0 := Lib.hid (below_new w (.cells #[.int .i64 x, .int .i64 y, .int .i64 z] 23))
    clear h h2 hn
    go_enter Try.func6, Try.ntmps6
    go_wp2_with fail
    refine (HFW.out _).mono ?_
    rintro e w' ⟨rfl, rfl⟩
    go_wp2_with fail
    refine (awake_any _).mono ?_
    rintro e w4 ⟨rfl, hb4⟩
    have HB4 := Lib.hid (on HB0.out hb4)
    clear hb4
    go_wp2
    go_ret
    exact ⟨rfl, HB4.out⟩

set_option maxRecDepth 100000 in
set_option maxHeartbeats 3200000 in
theorem plans_walk (x y z : Int) (A2 : Option Addr) (n2 cap2 : Nat) (l2 : List Int) (w : World) (h2 : IntsIn w A2 n2 cap2 l2) :
    Calls Try.prog 3 #[.agg #[.int .i64 x, .int .i64 y, .int .i64 z], .slice A2 n2 cap2] w fun e w' => e = .returned (.bool true) ∧ Below w.heap.size w w' := by
  by_cases hn : 0 ≤ 200 ∧ n2 ≤ 600
  · have HFW := Lib.hid (fun w => few_yes none 0 0 A2 n2 cap2 w hn)
    have hl2 : l2.length ≤ 600 := by rw [← h2.len]; exact hn.2
    have H1 := Lib.hid (fun w' (hb : Below w.heap.size w w') => plan_any x y z A2 n2 cap2 l2 h2.len w' (h2.reads.to hb))
    have H2 := Lib.hid (fun w' (hb : Below w.heap.size w w') => rplan_any x y z A2 n2 cap2 l2 h2.len w' (h2.reads.to hb))
    have H3 := Lib.hid (fun w => chk_any x y z w)
    have H4 := Lib.hid (fun w => rchk_any x y z w)
    generalize Jt.chk ⟨x, y, z⟩ = c at H3 H4
    have hlen : (Jt.plan ⟨x, y, z⟩ l2).1.length ≤ 1000000000000 := by
      have := Jt.plan_len ⟨x, y, z⟩ l2
      omega
    generalize Jt.plan ⟨x, y, z⟩ l2 = p at H1 H2 hlen
    obtain ⟨p1, p2⟩ := p
    simp only at hlen
    have HLN := Lib.hid hlen
    have HB0 := Lib.hid (below_new w (.cells #[.int .i64 x, .int .i64 y, .int .i64 z] 23))
    have HV0 := Lib.hid (VAt.new w x y z 23)
    clear h2 hn hl2 hlen
    go_enter Try.func3, Try.ntmps3
    go_wp2_with fail
    refine (HFW.out _).mono ?_
    rintro e w' ⟨rfl, rfl⟩
    go_wp2_with fail
    refine (H1.out _ HB0.out).mono ?_
    rintro e w1 ⟨A3, n3, cap3, rfl, hn3, hr3, hb1⟩
    simp only at hn3 hr3
    have HB1 := Lib.hid (on HB0.out hb1)
    have HV1 := Lib.hid (HV0.out.below hb1 (by simp))
    have hs1 : w.heap.size < w1.heap.size := by have := hb1.size; simp at this; omega
    obtain ⟨c0, c1, c2⟩ := HV1.out
    have HN3 := Lib.hid hn3
    have HR3 := Lib.hid hr3
    clear hb1 hn3 hr3
    go_wp2_with fail
    refine (H2.out _ HB1.out).mono ?_
    rintro e w2 ⟨A4, n4, cap4, rfl, hn4, hr4, hb2⟩
    simp only at hn4 hr4
    have HB2 := Lib.hid (on HB1.out hb2)
    have hs2 : w.heap.size < w2.heap.size := by have := hb2.size; omega
    have HK := Lib.hid (fun w' (hb : Below w2.heap.size w2 w') => (HV1.out.below hb2 hs1).below hb hs2)
    have HS := Lib.hid (fun w' (hb : Below w2.heap.size w2 w') => same_any A3 n3 cap3 p1 HN3.out A4 n4 cap4 p1 hn4 w' ((HR3.out.to hb2).to hb) (hr4.to hb) HLN.out)
    rw [show decide (p1 = p1) = true by simp] at HS
    have HBD := Lib.hid (show Below w2.heap.size w2 w2.drew from (Below.refl _ _).drew)
    clear hb2 hn4 hr4 c0 c1 c2
    go_upto_region 5 with fail
    go_region_held (fun wx => wx.cell? ⟨w.heap.size, 0, none⟩ = some (.int .i64 x) ∧ wx.cell? ⟨w.heap.size, 1, none⟩ = some (.int .i64 y) ∧ wx.cell? ⟨w.heap.size, 2, none⟩ = some (.int .i64 z))
      (first | exact HK.out _ HBD.out | exact HK.out _ HBA.out | exact HK.out _ HBB.out | exact HK.out _ HBC.out | exact HK.out _ HBE.out) (first
      | (go_at_call 14; refine (H3.out w2.drew).mono ?_; rintro e wa ⟨rfl, hba⟩; have HBA := Lib.hid (on HBD.out hba); clear hba)
      | (go_at_call 15; refine (H4.out wa).mono ?_; rintro e wb ⟨rfl, hbb⟩; have HBB := Lib.hid (on HBA.out hbb); clear hbb)
      | (go_at_call 16; refine (HS.out wb HBB.out).mono ?_; rintro e wc ⟨rfl, hbc⟩; have HBC := Lib.hid (on HBB.out hbc); clear hbc)
      | (go_at_call 11; refine (awake_any wc).mono ?_; rintro e we ⟨rfl, hbe⟩; have HBE := Lib.hid (on HBC.out hbe); clear hbe))
    all_goals
      go_wp2
      go_ret
      exact ⟨rfl, on HB2.out HBE.out⟩
  · have HFW := Lib.hid (fun w => few_no none 0 0 A2 n2 cap2 w hn)
    have HB0 := Lib.hid (below_new w (.cells #[.int .i64 x, .int .i64 y, .int .i64 z] 23))
    clear h2 hn
    go_enter Try.func3, Try.ntmps3
    go_wp2_with fail
    refine (HFW.out _).mono ?_
    rintro e w' ⟨rfl, rfl⟩
    go_wp2_with fail
    refine (awake_any _).mono ?_
    rintro e w4 ⟨rfl, hb4⟩
    have HB4 := Lib.hid (on HB0.out hb4)
    clear hb4
    go_wp2
    go_ret
    exact ⟨rfl, HB4.out⟩
end Go.Proofs.Ytaaoeiffpldjmaa
