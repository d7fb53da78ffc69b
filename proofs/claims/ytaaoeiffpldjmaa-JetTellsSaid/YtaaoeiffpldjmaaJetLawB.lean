/- The walk of the law JetTells. -/
import Derived.Test.YtaaoeiffpldjmaaJetLawA
namespace Go.Proofs.Ytaaoeiffpldjmaa
open Go.RowKit

set_option maxRecDepth 100000 in
set_option maxHeartbeats 3200000 in
theorem tells_walk (A : Option Addr) (n cap : Nat) (l : List Jt.Win) (x y z : Int) (A2 : Option Addr) (n2 cap2 : Nat) (l2 : List Int) (w : World) (h : WinsIn w A n l) (h2 : IntsIn w A2 n2 cap2 l2) :
    Calls Try.prog 4 #[.slice A n cap, .agg #[.int .i64 x, .int .i64 y, .int .i64 z], .slice A2 n2 cap2] w fun e w' => e = .returned (.bool true) ∧ Below w.heap.size w w' := by
  by_cases hn : n ≤ 200 ∧ n2 ≤ 600
  · have HFW := Lib.hid (fun w => few_yes A n cap A2 n2 cap2 w hn)
    have hl : l.length ≤ 200 := by rw [← h.len]; exact hn.1
    have hl2 : l2.length ≤ 600 := by rw [← h2.len]; exact hn.2
    have H1 := Lib.hid (fun w' (hb : Below w.heap.size w w') => covers_any x y z A n cap l h.len A2 n2 cap2 l2 h2.len w' (h.reads.to hb) (h2.reads.to hb) (by omega) (by omega))
    have H2 := Lib.hid (fun w' (hb : Below w.heap.size w w') => rcovers_any x y z A n cap l h.len A2 n2 cap2 l2 h2.len w' (h.reads.to hb) (h2.reads.to hb) (by omega) (by omega))
    have H3 := Lib.hid (fun w' (hb : Below w.heap.size w w') => rests_any x y z A n cap l h.len w' (h.reads.to hb) (by omega))
    have H4 := Lib.hid (fun w' (hb : Below w.heap.size w w') => rrests_any x y z A n cap l h.len w' (h.reads.to hb) (by omega))
    generalize Jt.covers l ⟨x, y, z⟩ l2 = p at H1 H2
    generalize Jt.rests l ⟨x, y, z⟩ = q at H3 H4
    have HB0 := Lib.hid (below_new w (.cells #[.int .i64 x, .int .i64 y, .int .i64 z] 23))
    have HV0 := Lib.hid (VAt.new w x y z 23)
    clear h h2 hn hl hl2
    go_enter Try.func4, Try.ntmps4
    go_wp2_with fail
    refine (HFW.out _).mono ?_
    rintro e w' ⟨rfl, rfl⟩
    obtain ⟨wz, hwz⟩ : ∃ wz, wz = w.alloc (.cells #[.int .i64 x, .int .i64 y, .int .i64 z] 23) := ⟨_, rfl⟩
    rw [← hwz] at HB0 HV0 ⊢
    have hsz : w.heap.size < wz.heap.size := by rw [hwz]; simp
    have HK := Lib.hid (fun w' (hb : Below wz.heap.size wz w') => HV0.out.below hb hsz)
    have HBD := Lib.hid (show Below wz.heap.size wz wz.drew from (Below.refl _ _).drew)
    have hd1 : (p == p) = true := by simp
    have hd2 : (q == q) = true := by simp
    clear hwz
    go_upto_region 3 with fail
    go_region_held (fun wx => wx.cell? ⟨w.heap.size, 0, none⟩ = some (.int .i64 x) ∧ wx.cell? ⟨w.heap.size, 1, none⟩ = some (.int .i64 y) ∧ wx.cell? ⟨w.heap.size, 2, none⟩ = some (.int .i64 z))
      (first | exact HK.out _ HBD.out | exact HK.out _ HBA.out | exact HK.out _ HBB.out | exact HK.out _ HBC.out | exact HK.out _ HBE.out | exact HK.out _ HBF.out) (first
      | (go_at_call 17; refine (H1.out wz.drew (on HB0.out HBD.out)).mono ?_; rintro e wa ⟨rfl, hba⟩; have HBA := Lib.hid (on HBD.out hba); clear hba)
      | (go_at_call 18; refine (H2.out wa (on HB0.out HBA.out)).mono ?_; rintro e wb ⟨rfl, hbb⟩; have HBB := Lib.hid (on HBA.out hbb); clear hbb)
      | (go_at_call 19; refine (H3.out wb (on HB0.out HBB.out)).mono ?_; rintro e wc ⟨rfl, hbc⟩; have HBC := Lib.hid (on HBB.out hbc); clear hbc)
      | (go_at_call 20; refine (H4.out wc (on HB0.out HBC.out)).mono ?_; rintro e we ⟨rfl, hbe⟩; have HBE := Lib.hid (on HBC.out hbe); clear hbe)
      | (go_at_call 11; refine (awake_any we).mono ?_; rintro e wf ⟨rfl, hbf⟩; have HBF := Lib.hid (on HBE.out hbf); clear hbf))
    all_goals
      go_wp2
      go_ret
      exact ⟨rfl, on HB0.out HBF.out⟩
  · have HFW := Lib.hid (fun w => few_no A n cap A2 n2 cap2 w hn)
    have HB0 := Lib.hid (below_new w (.cells #[.int .i64 x, .int .i64 y, .int .i64 z] 23))
    clear h h2 hn
    go_enter Try.func4, Try.ntmps4
    go_wp2_with fail
    refine (HFW.out _).mono ?_
    rintro e w' ⟨rfl, rfl⟩
    go_wp2_with fail
    refine (awake_any _).mono ?_
    rintro e w4 ⟨rfl, hb4⟩
    have HB4 := Lib.hid (on HB0.out hb4)
    clear hb4
    go_wp2
    go_ret
    exact ⟨rfl, HB4.out⟩

end Go.Proofs.Ytaaoeiffpldjmaa
