/- The walk of the law WireTexts. -/
import Derived.Test.YtfpealokldbabaaWireLawA
namespace Go.Proofs.Ytfpealokldbabaa
open Go.RowKit

set_option maxRecDepth 100000 in
set_option maxHeartbeats 3200000 in
theorem texts_walk (A : Option Addr) (n cap : Nat) (l : List UInt8) (s : ByteArray) (most : Int) (w : World) (h : BytesIn w A n cap l) (hm : -9223372036854775808 ≤ most ∧ most ≤ 9223372036854775807) :
    Calls Try.prog 6 #[.slice A n cap, .string s, .int .i64 most] w fun e w' => e = .returned (.bool true) ∧ Below w.heap.size w w' := by
  by_cases hn : n ≤ 5000 ∧ s.size ≤ 5000
  · have hl : l.length ≤ 5000 := by rw [← h.len]; omega
    have HS := Lib.hid (fun w => small_yes A n cap s none 0 0 w hn.1 hn.2 (by omega))
    have H1 := Lib.hid (taketext_any A n cap l h.len h.room most hm.1 hm.2 w h.reads (by omega))
    have H2 := Lib.hid (rtaketext_any A n cap l h.len h.room most hm.1 hm.2 w h.reads (by omega))
    have H3 := Lib.hid (fun w' (hb : Below w.heap.size w w') => puttext_any A n cap l h.len s w' (h.reads.to hb) (by omega) (by omega))
    have H4 := Lib.hid (fun w' (hb : Below w.heap.size w w') => rputtext_any A n cap l h.len h.nil s w' (h.reads.to hb) (by omega) (by omega))
    generalize Wp.takeT l most = t at H1 H2
    generalize l ++ Wp.putT s.data.toList = r at H3 H4
    obtain ⟨t1, t2, t3⟩ := t
    simp only at H1 H2
    clear h hl hn
    go_enter Try.func6, Try.ntmps6
    go_wp2_with fail
    refine (HS.out _).mono ?_
    rintro e w' ⟨rfl, rfl⟩
    go_wp2_with fail
    refine H1.out.mono ?_
    rintro e w' ⟨rfl, rfl⟩
    go_wp2_with fail
    refine H2.out.mono ?_
    rintro e w' ⟨rfl, rfl⟩
    go_wp2_with fail
    have HBD := Lib.hid (show Below w.heap.size w w.drew from (Below.refl _ _).drew)
    go_region_held (fun _ => True) (exact True.intro) (first
      | (go_at_call 23; refine (H3.out w.drew HBD.out).mono ?_; rintro e w1 ⟨A1, _, cap1, rfl, rfl, hown1, hb1⟩; have hcv1 := conv_b A1 _ cap1 r (own_rd hown1) rfl; have HO1 := Lib.hid hown1; have HB1 := Lib.hid (on HBD.out hb1); clear hown1 hb1)
      | (go_at_call 24; refine (H4.out w1 HB1.out).mono ?_; rintro e w2 ⟨A2, _, cap2, rfl, rfl, hown2, hb2⟩; have hcv2 := conv_b A2 _ cap2 r (own_rd hown2) rfl; have hcv3 := conv_b A1 _ cap1 r ((own_rd HO1.out).to hb2) rfl; have HB2 := Lib.hid (on HB1.out hb2); clear hown2 hb2)
      | (go_at_call 12; refine (awake_any w2).mono ?_; rintro e w4 ⟨rfl, hb4⟩))
    all_goals
      go_wp2
      go_ret
      exact ⟨rfl, on HB2.out hb4⟩
  · have HS := Lib.hid (fun w => small_no A n cap s none 0 0 w (by omega))
    clear h hn
    go_enter Try.func6, Try.ntmps6
    go_wp2_with fail
    refine (HS.out _).mono ?_
    rintro e w' ⟨rfl, rfl⟩
    go_wp2_with fail
    refine (awake_any _).mono ?_
    rintro e w2 ⟨rfl, hb2⟩
    go_wp2
    go_ret
    exact ⟨rfl, hb2⟩
end Go.Proofs.Ytfpealokldbabaa
