/- The walks of the laws JournalChecks and JournalPuts. -/
import Derived.Test.YtcpdfgckfefboaaJnArgs
import Derived.Test.YtcpdfgckfefboaaJnRPut
import Derived.Deep.RegionHeld
namespace Go.Proofs.Ytcpdfgckfefboaa
open Go.RowKit

set_option maxRecDepth 100000 in
set_option maxHeartbeats 3200000 in
theorem checks_walk (E : Jn.Ev) (A : Option Addr) (n cap : Nat) (w : World) (h : EvIn w E A n cap) :
    Calls Try.prog 5 #[E.val A n cap] w fun e w' => e = .returned (.bool true) ∧ Below w.heap.size w w' := by
  by_cases hn : n ≤ 40
  · have hn' : ¬ (40 : Int) < (n : Int) := by omega
    have hm : E.mix.length ≤ 1000000000000 := by rw [← h.len]; omega
    have H1 := Lib.hid (fun w' (hb : Below w.heap.size w w') => check_any E A n cap h.len w' (h.reads.to hb) hm)
    have H2 := Lib.hid (fun w' (hb : Below w.heap.size w w') => rcheck_any E A n cap h.len w' (h.reads.to hb) hm)
    generalize Jn.check E = c at H1 H2
    unfold Jn.Ev.val at H1 H2 ⊢
    obtain ⟨K, T, a, b, c', d, mix⟩ := E
    simp only at H1 H2 ⊢
    have HB0 : Bx (Below w.heap.size w (w.alloc (.cells #[.int .i64 K, .int .i64 T, .int .i64 a, .int .i64 b, .int .i64 c', .int .i64 d, .slice A n cap] 35))) := ⟨below_new w _⟩
    have HV0 : Bx (EvAt (w.alloc (.cells #[.int .i64 K, .int .i64 T, .int .i64 a, .int .i64 b, .int .i64 c', .int .i64 d, .slice A n cap] 35)) w.heap.size K T a b c' d A n cap) := ⟨EvAt.new w K T a b c' d A n cap _ _⟩
    have hcc : (c == c) = true := by simp
    clear h hm hn
    go_enter Try.func5, Try.ntmps5
    go_upto_region 3 with fail
    generalize w.alloc (.cells #[.int .i64 K, .int .i64 T, .int .i64 a, .int .i64 b, .int .i64 c', .int .i64 d, .slice A n cap] 35) = wz at HB0 HV0 ⊢
    have HBD : Bx (Below wz.heap.size wz wz.drew) := ⟨(Below.refl _ _).drew⟩
    have HK : Bx (∀ wx, Below wz.heap.size wz wx → wx.cell? ⟨w.heap.size, 0, none⟩ = some (.int .i64 K) ∧ wx.cell? ⟨w.heap.size, 1, none⟩ = some (.int .i64 T) ∧ wx.cell? ⟨w.heap.size, 2, none⟩ = some (.int .i64 a) ∧ wx.cell? ⟨w.heap.size, 3, none⟩ = some (.int .i64 b) ∧ wx.cell? ⟨w.heap.size, 4, none⟩ = some (.int .i64 c') ∧ wx.cell? ⟨w.heap.size, 5, none⟩ = some (.int .i64 d) ∧ wx.cell? ⟨w.heap.size, 6, none⟩ = some (.slice A n cap)) := ⟨fun wx hw => by
      obtain ⟨c0, c1, c2, c3, c4, c5, c6, _⟩ := HV0.out.to hw
      exact ⟨c0, c1, c2, c3, c4, c5, c6⟩⟩
    go_region_held (fun wx => wx.cell? ⟨w.heap.size, 0, none⟩ = some (.int .i64 K) ∧ wx.cell? ⟨w.heap.size, 1, none⟩ = some (.int .i64 T) ∧ wx.cell? ⟨w.heap.size, 2, none⟩ = some (.int .i64 a) ∧ wx.cell? ⟨w.heap.size, 3, none⟩ = some (.int .i64 b) ∧ wx.cell? ⟨w.heap.size, 4, none⟩ = some (.int .i64 c') ∧ wx.cell? ⟨w.heap.size, 5, none⟩ = some (.int .i64 d) ∧ wx.cell? ⟨w.heap.size, 6, none⟩ = some (.slice A n cap))
      (first | exact HK.out _ HBD.out | exact HK.out _ HBA.out | exact HK.out _ HBB.out | exact HK.out _ HBC.out) (first
      | (go_at_call 17; refine (H1.out wz.drew (on HB0.out HBD.out)).mono ?_; rintro e wa ⟨rfl, hba⟩; have HBA := Lib.hid (on HBD.out hba); clear hba)
      | (go_at_call 18; refine (H2.out wa (on HB0.out HBA.out)).mono ?_; rintro e wb ⟨rfl, hbb⟩; have HBB := Lib.hid (on HBA.out hbb); clear hbb)
      | (go_at_call 12; refine (awake_any wb).mono ?_; rintro e wc ⟨rfl, hbc⟩; have HBC := Lib.hid (on HBB.out hbc); clear hbc))
    all_goals
      go_wp2
      go_ret
      exact ⟨rfl, on HB0.out HBC.out⟩
  · have hn' : (40 : Int) < (n : Int) := by omega
    unfold Jn.Ev.val
    obtain ⟨K, T, a, b, c', d, mix⟩ := E
    simp only
    have HB0 : Bx (Below w.heap.size w (w.alloc (.cells #[.int .i64 K, .int .i64 T, .int .i64 a, .int .i64 b, .int .i64 c', .int .i64 d, .slice A n cap] 35))) := ⟨below_new w _⟩
    clear h hn
    go_enter Try.func5, Try.ntmps5
    go_wp2_with fail
    refine (awake_any _).mono ?_
    rintro e w3 ⟨rfl, hb3⟩
    go_wp2
    go_ret
    exact ⟨rfl, on HB0.out hb3⟩

set_option maxRecDepth 100000 in
set_option maxHeartbeats 3200000 in
theorem puts_walk (E : Jn.Ev) (A : Option Addr) (n cap : Nat) (A0 : Option Addr) (m cap0 : Nat) (l : List UInt8) (w : World) (h : EvIn w E A n cap) (h0 : BytesIn w A0 m cap0 l) :
    Calls Try.prog 6 #[E.val A n cap, .slice A0 m cap0] w fun e w' => e = .returned (.bool true) ∧ Below w.heap.size w w' := by
  by_cases hnm : n ≤ 40 ∧ m ≤ 500
  · obtain ⟨hn, hml⟩ := hnm
    have hn' : ¬ (40 : Int) < (n : Int) := by omega
    have hm' : ¬ (500 : Int) < (m : Int) := by omega
    have hm : E.mix.length ≤ 1000000000000 := by rw [← h.len]; omega
    have H1 := Lib.hid (fun w' (hb : Below w.heap.size w w') => put_any E A n cap h.len w' (h.reads.to hb) hm)
    have H2 := Lib.hid (fun w' (hb : Below w.heap.size w w') => rput_any E A n cap h.len w' (h.reads.to hb) hm)
    have H3 := Lib.hid (fun w' (hb : Below w.heap.size w w') => append_any A0 m cap0 l h0.len h0.nil E A n cap h.len w' (h0.reads.to hb) (h.reads.to hb) hm (by omega))
    have H4 := Lib.hid (fun w' (hb : Below w.heap.size w w') => rappend_any A0 m cap0 l h0.len h0.nil E A n cap h.len w' (h0.reads.to hb) (h.reads.to hb) hm (by omega))
    generalize Jn.put E = p at H1 H2
    generalize Jn.app l E = q at H3 H4
    obtain ⟨p1, p2⟩ := p
    obtain ⟨q1, q2⟩ := q
    unfold Jn.Ev.val at H1 H2 H3 H4 ⊢
    obtain ⟨K, T, a, b, c, d, mix⟩ := E
    simp only at H1 H2 H3 H4 ⊢
    have HB0 : Bx (Below w.heap.size w (w.alloc (.cells #[.int .i64 K, .int .i64 T, .int .i64 a, .int .i64 b, .int .i64 c, .int .i64 d, .slice A n cap] 35))) := ⟨below_new w _⟩
    have HV0 : Bx (EvAt (w.alloc (.cells #[.int .i64 K, .int .i64 T, .int .i64 a, .int .i64 b, .int .i64 c, .int .i64 d, .slice A n cap] 35)) w.heap.size K T a b c d A n cap) := ⟨EvAt.new w K T a b c d A n cap _ _⟩
    have hcc : (p2 == p2) = true := by simp
    have hcq : (q2 == q2) = true := by simp
    clear h h0 hm hn hml
    go_enter Try.func6, Try.ntmps6
    go_wp2_with fail
    refine (H1.out _ HB0.out).mono ?_
    rintro e w1 ⟨A1, n1, cap1, rfl, hn1, hcap1, hc1, hr1, hb1⟩
    simp only at hn1 hr1
    have HB1 : Bx (Below w.heap.size w w1) := ⟨on HB0.out hb1⟩
    have HV1 : Bx (EvAt w1 w.heap.size K T a b c d A n cap) := ⟨HV0.out.to hb1⟩
    have HN1 : Bx (n1 = p1.length) := ⟨hn1⟩
    have HR1 := Lib.hid hr1
    clear hb1 hn1 hr1 hc1 hcap1
    obtain ⟨c0, c1, c2, c3, c4, c5, c6, _⟩ := HV1.out
    go_wp2_with fail
    refine (H2.out _ HB1.out).mono ?_
    rintro e w2 ⟨A2, n2, cap2, rfl, hn2, hcap2, hc2, hr2, hb2⟩
    simp only at hn2 hr2
    have HB2 : Bx (Below w.heap.size w w2) := ⟨on HB1.out hb2⟩
    have HV2 : Bx (EvAt w2 w.heap.size K T a b c d A n cap) := ⟨HV1.out.to hb2⟩
    have HS1 := Lib.hid (fun w' (hb : Below w2.heap.size w2 w') => sameb_any A1 n1 cap1 p1 HN1.out A2 n2 cap2 p1 hn2 w' ((HR1.out.to hb2).to hb) (hr2.to hb))
    rw [show decide (p1 = p1) = true by simp] at HS1
    clear hb2 hn2 hr2 hc2 hcap2 c0 c1 c2 c3 c4 c5 c6
    obtain ⟨c0, c1, c2, c3, c4, c5, c6, _⟩ := HV2.out
    go_wp2_with fail
    refine (H3.out _ HB2.out).mono ?_
    rintro e w3 ⟨A3, n3, cap3, rfl, hn3, hcap3, hc3, hr3, hb3⟩
    simp only at hn3 hr3
    have HB23 : Bx (Below w2.heap.size w2 w3) := ⟨hb3⟩
    have HB3 : Bx (Below w.heap.size w w3) := ⟨on HB2.out hb3⟩
    have HV3 : Bx (EvAt w3 w.heap.size K T a b c d A n cap) := ⟨HV2.out.to hb3⟩
    have HN3 : Bx (n3 = q1.length) := ⟨hn3⟩
    have HR3 := Lib.hid hr3
    clear hb3 hn3 hr3 hc3 hcap3 c0 c1 c2 c3 c4 c5 c6
    obtain ⟨c0, c1, c2, c3, c4, c5, c6, _⟩ := HV3.out
    go_wp2_with fail
    refine (H4.out _ HB3.out).mono ?_
    rintro e w4 ⟨A4, n4, cap4, rfl, hn4, hcap4, hc4, hr4, hb4⟩
    simp only at hn4 hr4
    have HB24 : Bx (Below w2.heap.size w2 w4) := ⟨on HB23.out hb4⟩
    have HB4 : Bx (Below w.heap.size w w4) := ⟨on HB3.out hb4⟩
    have HS2 := Lib.hid (sameb_any A3 n3 cap3 q1 HN3.out A4 n4 cap4 q1 hn4 w4 (HR3.out.to hb4) hr4)
    rw [show decide (q1 = q1) = true by simp] at HS2
    clear hb4 hn4 hr4 hc4 hcap4 c0 c1 c2 c3 c4 c5 c6
    go_wp2_with fail
    refine (HS1.out _ HB24.out).mono ?_
    rintro e w' ⟨rfl, rfl⟩
    go_wp2_with fail
    refine HS2.out.mono ?_
    rintro e w' ⟨rfl, rfl⟩
    go_wp2_with fail
    refine (awake_any w4).mono ?_
    rintro e w5 ⟨rfl, hb5⟩
    go_wp2
    go_ret
    exact ⟨rfl, on HB4.out hb5⟩
  · have hcase : (40 : Int) < (n : Int) ∨ (¬ (40 : Int) < (n : Int) ∧ (500 : Int) < (m : Int)) := by omega
    unfold Jn.Ev.val
    obtain ⟨K, T, a, b, c', d, mix⟩ := E
    simp only
    have HB0 : Bx (Below w.heap.size w (w.alloc (.cells #[.int .i64 K, .int .i64 T, .int .i64 a, .int .i64 b, .int .i64 c', .int .i64 d, .slice A n cap] 35))) := ⟨below_new w _⟩
    clear h h0 hnm
    rcases hcase with hn' | ⟨hn', hm'⟩
    all_goals
      go_enter Try.func6, Try.ntmps6
      go_wp2_with fail
      refine (awake_any _).mono ?_
      rintro e w3 ⟨rfl, hb3⟩
      go_wp2
      go_ret
      exact ⟨rfl, on HB0.out hb3⟩
end Go.Proofs.Ytcpdfgckfefboaa
