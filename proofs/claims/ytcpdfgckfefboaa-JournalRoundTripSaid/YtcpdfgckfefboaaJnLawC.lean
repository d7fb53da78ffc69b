/- The walk of the law JournalRoundTrip. -/
import Derived.Test.YtcpdfgckfefboaaJnArgs
import Derived.Deep.RegionHeld
namespace Go.Proofs.Ytcpdfgckfefboaa
open Go.RowKit

set_option maxRecDepth 100000 in
set_option maxHeartbeats 6400000 in
theorem jround_walk (E : Jn.Ev) (A : Option Addr) (n cap : Nat) (A0 : Option Addr) (m0 cap0 : Nat) (l : List UInt8) (w : World) (h : EvIn w E A n cap) (h0 : BytesIn w A0 m0 cap0 l) :
    Calls Try.prog 9 #[E.val A n cap, .slice A0 m0 cap0] w fun e w' => e = .returned (.bool true) ∧ Below w.heap.size w w' := by
  by_cases hnm : n ≤ 40 ∧ m0 ≤ 500
  · obtain ⟨hn, hml⟩ := hnm
    have hn' : ¬ (40 : Int) < (n : Int) := by omega
    have hm' : ¬ (500 : Int) < (m0 : Int) := by omega
    have hm : E.mix.length ≤ 1000000000000 := by rw [← h.len]; omega
    have H1 := Lib.hid (fun w' (hb : Below w.heap.size w w') => put_any E A n cap h.len w' (h.reads.to hb) hm)
    have HRE : Bx (∀ w', Below w.heap.size w w' → Rd w' A (iv E.mix)) := ⟨fun w' hb => h.reads.to hb⟩
    have HRL : Bx (∀ w', Below w.heap.size w w' → Rd w' A0 (bv l)) := ⟨fun w' hb => h0.reads.to hb⟩
    have HLE : Bx (n = E.mix.length) := ⟨h.len⟩
    have HL0 : Bx (m0 = l.length) := ⟨h0.len⟩
    have HMM : Bx (E.mix.length ≤ 1000000000000) := ⟨hm⟩
    have H3 := Lib.hid (fun w' (hb : Below w.heap.size w w') => get_any A0 m0 cap0 l h0.len h0.room h0.nil w' (h0.reads.to hb) (by rw [← h0.len]; omega))
    have HGE : Bx (((Jn.get l).2 = 0 ∧ Jn.check (Jn.get l).1 = 0 ∧ Jn.bytes (Jn.get l).1 = l) ∨ (Jn.get l).2 ≠ 0) := ⟨by
      by_cases h2 : (Jn.get l).2 = 0
      · exact .inl ⟨h2, Jn.get_form h2⟩
      · exact .inr h2⟩
    have HM9 : Bx ((Jn.get l).1.mix.length ≤ 16) := ⟨Jn.get_mix l⟩
    generalize Jn.get l = gg at H3 HGE HM9
    obtain ⟨⟨K9, T9, a9, b9, c9, d9, m9⟩, ge9⟩ := gg
    simp only at HGE HM9
    by_cases hc : Jn.check E = 0
    · rw [Jn.put_ok hc] at H1
      have HB8 : Bx ((Jn.bytes E).length ≤ 300) := ⟨Jn.bytes_len hc⟩
      have H2 := Lib.hid (fun A n cap w hn hcp hnl hr => get_any A n cap (Jn.bytes E) hn hcp hnl w hr (by have := HB8.out; omega))
      rw [Jn.get_bytes hc] at H2
      generalize Jn.bytes E = by_ at H1 H2
      unfold Jn.Ev.val at H1 ⊢
      obtain ⟨K, T, a, b, c, d, mix⟩ := E
      simp only at H1 H2 HRE HLE HMM ⊢
      have HB0 : Bx (Below w.heap.size w (w.alloc (.cells #[.int .i64 K, .int .i64 T, .int .i64 a, .int .i64 b, .int .i64 c, .int .i64 d, .slice A n cap] 35))) := ⟨below_new w _⟩
      have HV0 : Bx (EvAt (w.alloc (.cells #[.int .i64 K, .int .i64 T, .int .i64 a, .int .i64 b, .int .i64 c, .int .i64 d, .slice A n cap] 35)) w.heap.size K T a b c d A n cap) := ⟨EvAt.new w K T a b c d A n cap _ _⟩
      clear h h0 hm hn hml hc HB8
      go_enter Try.func9, Try.ntmps9
      go_wp2_with fail
      refine (H1.out _ HB0.out).mono ?_
      rintro e w1 ⟨A1, n1, cap1, rfl, hn1, hcap1, hc1, hr1, hb1⟩
      simp only at hn1 hr1
      have HB1 : Bx (Below w.heap.size w w1) := ⟨on HB0.out hb1⟩
      have HV1 : Bx (EvAt w1 w.heap.size K T a b c d A n cap) := ⟨HV0.out.to hb1⟩
      have HG2 := Lib.hid (H2.out A1 n1 cap1 w1 hn1 hcap1 hc1 hr1)
      clear hb1 hn1 hr1 hc1 hcap1
      go_wp2_with fail
      refine (HG2.out).mono ?_
      rintro e w2 ⟨A2, n2, cap2, rfl, hn2, hc2, hr2, hi2, hb2⟩
      unfold Jn.Ev.val
      simp only at hn2 hr2 ⊢
      have hbx := on hb2 (below_new w2 (.cells #[.int .i64 K, .int .i64 T, .int .i64 a, .int .i64 b, .int .i64 c, .int .i64 d, .slice A2 n2 cap2] 35))
      have HB2 : Bx (Below w.heap.size w (w2.alloc (.cells #[.int .i64 K, .int .i64 T, .int .i64 a, .int .i64 b, .int .i64 c, .int .i64 d, .slice A2 n2 cap2] 35))) := ⟨on HB1.out hbx⟩
      have HV2 : Bx (EvAt (w2.alloc (.cells #[.int .i64 K, .int .i64 T, .int .i64 a, .int .i64 b, .int .i64 c, .int .i64 d, .slice A2 n2 cap2] 35)) w.heap.size K T a b c d A n cap) := ⟨HV1.out.to hbx⟩
      have HVX : Bx (EvAt (w2.alloc (.cells #[.int .i64 K, .int .i64 T, .int .i64 a, .int .i64 b, .int .i64 c, .int .i64 d, .slice A2 n2 cap2] 35)) w2.heap.size K T a b c d A2 n2 cap2) := ⟨EvAt.new w2 K T a b c d A2 n2 cap2 _ _⟩
      have HS := Lib.hid (sameone_any ⟨K, T, a, b, c, d, mix⟩ A2 n2 cap2 hn2 ⟨K, T, a, b, c, d, mix⟩ A n cap HLE.out (w2.alloc (.cells #[.int .i64 K, .int .i64 T, .int .i64 a, .int .i64 b, .int .i64 c, .int .i64 d, .slice A2 n2 cap2] 35)) (hr2.to (below_new w2 _)) (HRE.out _ HB2.out) HMM.out)
      rw [show decide ((⟨K, T, a, b, c, d, mix⟩ : Jn.Ev) = ⟨K, T, a, b, c, d, mix⟩) = true by simp] at HS
      unfold Jn.Ev.val at HS
      simp only at HS
      clear hn2 hc2 hr2 hi2 hb2 hbx
      obtain ⟨c0, c1, c2, c3, c4, c5, c6, _⟩ := HV2.out
      go_wp2_with fail
      refine (HS.out).mono ?_
      rintro e w3 ⟨rfl, hb3⟩
      have HB3 : Bx (Below w.heap.size w w3) := ⟨on HB2.out hb3⟩
      clear hb3 c0 c1 c2 c3 c4 c5 c6
      have HG5 := Lib.hid (H3.out w3 HB3.out)
      rcases HGE.out with ⟨he9, hc9, hb9⟩ | he9
      · subst he9
        have HC9 : Bx (Jn.check ⟨K9, T9, a9, b9, c9, d9, m9⟩ = 0) := ⟨hc9⟩
        have HB9 : Bx (Jn.bytes ⟨K9, T9, a9, b9, c9, d9, m9⟩ = l) := ⟨hb9⟩
        have hm9 := HM9.out
        clear hc9 hb9
        go_wp2_with fail
        refine (HG5.out).mono ?_
        rintro e w5 ⟨A5, n5, cap5, rfl, hn5, hc5, hr5, hi5, hb5⟩
        unfold Jn.Ev.val
        simp only at hn5 hr5 ⊢
        have HB5 : Bx (Below w.heap.size w (w5.alloc (.cells #[.int .i64 K9, .int .i64 T9, .int .i64 a9, .int .i64 b9, .int .i64 c9, .int .i64 d9, .slice A5 n5 cap5] 35))) := ⟨on HB3.out (on hb5 (below_new w5 _))⟩
        have HV5 : Bx (EvAt (w5.alloc (.cells #[.int .i64 K9, .int .i64 T9, .int .i64 a9, .int .i64 b9, .int .i64 c9, .int .i64 d9, .slice A5 n5 cap5] 35)) w5.heap.size K9 T9 a9 b9 c9 d9 A5 n5 cap5) := ⟨EvAt.new w5 K9 T9 a9 b9 c9 d9 A5 n5 cap5 _ _⟩
        have HR5 : Bx (Rd (w5.alloc (.cells #[.int .i64 K9, .int .i64 T9, .int .i64 a9, .int .i64 b9, .int .i64 c9, .int .i64 d9, .slice A5 n5 cap5] 35)) A5 (iv m9)) := ⟨hr5.to (below_new w5 _)⟩
        have HN5 : Bx (n5 = m9.length) := ⟨hn5⟩
        have hp6 := put_any ⟨K9, T9, a9, b9, c9, d9, m9⟩ A5 n5 cap5 hn5 (w5.alloc (.cells #[.int .i64 K9, .int .i64 T9, .int .i64 a9, .int .i64 b9, .int .i64 c9, .int .i64 d9, .slice A5 n5 cap5] 35)) HR5.out (by show m9.length ≤ _; omega)
        rw [Jn.put_ok HC9.out, HB9.out] at hp6
        unfold Jn.Ev.val at hp6
        simp only at hp6
        have HP6 := Lib.hid hp6
        clear hn5 hc5 hr5 hi5 hb5 hp6
        go_wp2_with fail
        refine (HP6.out).mono ?_
        rintro e w6 ⟨A6, n6, cap6, rfl, hn6, hcap6, hc6, hr6, hb6⟩
        simp only at hn6 hr6
        have HB6 : Bx (Below w.heap.size w w6) := ⟨on HB5.out hb6⟩
        have HV6 : Bx (EvAt w6 w5.heap.size K9 T9 a9 b9 c9 d9 A5 n5 cap5) := ⟨HV5.out.to hb6⟩
        have HR6 : Bx (Rd w6 A5 (iv m9)) := ⟨HR5.out.to hb6⟩
        have HS6 := Lib.hid (sameb_any A6 n6 cap6 l hn6 A0 m0 cap0 l HL0.out w6 hr6 (HRL.out _ HB6.out))
        rw [show decide (l = l) = true by simp] at HS6
        clear hn6 hcap6 hc6 hr6 hb6
        have hk7 := check_any ⟨K9, T9, a9, b9, c9, d9, m9⟩ A5 n5 cap5 HN5.out w6 HR6.out (by show m9.length ≤ _; omega)
        rw [HC9.out] at hk7
        unfold Jn.Ev.val at hk7
        simp only at hk7
        have HK7 := Lib.hid hk7
        clear hk7
        obtain ⟨d0, d1, d2, d3, d4, d5, d6, _⟩ := HV6.out
        go_wp2_with fail
        refine (HS6.out).mono ?_
        rintro e w' ⟨rfl, rfl⟩
        go_wp2_with fail
        refine (HK7.out).mono ?_
        rintro e w7 ⟨rfl, hb7⟩
        have HB7 : Bx (Below w.heap.size w w7) := ⟨on HB6.out hb7⟩
        clear hb7 d0 d1 d2 d3 d4 d5 d6
        go_wp2_with fail
        refine (awake_any w7).mono ?_
        rintro e w8 ⟨rfl, hb8⟩
        go_wp2
        go_ret
        exact ⟨rfl, on HB7.out hb8⟩
      · have hef : (ge9 == 0) = false := beq_f he9
        clear he9
        go_wp2_with fail
        refine (HG5.out).mono ?_
        rintro e w5 ⟨A5, n5, cap5, rfl, hn5, hc5, hr5, hi5, hb5⟩
        unfold Jn.Ev.val
        simp only at hn5 hr5 ⊢
        have HB5 : Bx (Below w.heap.size w (w5.alloc (.cells #[.int .i64 K9, .int .i64 T9, .int .i64 a9, .int .i64 b9, .int .i64 c9, .int .i64 d9, .slice A5 n5 cap5] 35))) := ⟨on HB3.out (on hb5 (below_new w5 _))⟩
        clear hn5 hc5 hr5 hi5 hb5
        go_wp2_with fail
        refine (awake_any _).mono ?_
        rintro e w8 ⟨rfl, hb8⟩
        go_wp2
        go_ret
        exact ⟨rfl, on HB5.out hb8⟩
    · rw [Jn.put_err hc] at H1
      have hcf : (Jn.check E == 0) = false := beq_f hc
      generalize Jn.check E = cc at H1 hcf
      unfold Jn.Ev.val at H1 ⊢
      obtain ⟨K, T, a, b, c, d, mix⟩ := E
      simp only at H1 ⊢
      have HB0 : Bx (Below w.heap.size w (w.alloc (.cells #[.int .i64 K, .int .i64 T, .int .i64 a, .int .i64 b, .int .i64 c, .int .i64 d, .slice A n cap] 35))) := ⟨below_new w _⟩
      clear h h0 hm hn hml hc
      go_enter Try.func9, Try.ntmps9
      go_wp2_with fail
      refine (H1.out _ HB0.out).mono ?_
      rintro e w1 ⟨A1, n1, cap1, rfl, hn1, hcap1, hc1, hr1, hb1⟩
      have HB1 : Bx (Below w.heap.size w w1) := ⟨on HB0.out hb1⟩
      clear hb1 hn1 hr1 hc1 hcap1
      have HG5 := Lib.hid (H3.out w1 HB1.out)
      rcases HGE.out with ⟨he9, hc9, hb9⟩ | he9
      · subst he9
        have HC9 : Bx (Jn.check ⟨K9, T9, a9, b9, c9, d9, m9⟩ = 0) := ⟨hc9⟩
        have HB9 : Bx (Jn.bytes ⟨K9, T9, a9, b9, c9, d9, m9⟩ = l) := ⟨hb9⟩
        have hm9 := HM9.out
        clear hc9 hb9
        go_wp2_with fail
        refine (HG5.out).mono ?_
        rintro e w5 ⟨A5, n5, cap5, rfl, hn5, hc5, hr5, hi5, hb5⟩
        unfold Jn.Ev.val
        simp only at hn5 hr5 ⊢
        have HB5 : Bx (Below w.heap.size w (w5.alloc (.cells #[.int .i64 K9, .int .i64 T9, .int .i64 a9, .int .i64 b9, .int .i64 c9, .int .i64 d9, .slice A5 n5 cap5] 35))) := ⟨on HB1.out (on hb5 (below_new w5 _))⟩
        have HV5 : Bx (EvAt (w5.alloc (.cells #[.int .i64 K9, .int .i64 T9, .int .i64 a9, .int .i64 b9, .int .i64 c9, .int .i64 d9, .slice A5 n5 cap5] 35)) w5.heap.size K9 T9 a9 b9 c9 d9 A5 n5 cap5) := ⟨EvAt.new w5 K9 T9 a9 b9 c9 d9 A5 n5 cap5 _ _⟩
        have HR5 : Bx (Rd (w5.alloc (.cells #[.int .i64 K9, .int .i64 T9, .int .i64 a9, .int .i64 b9, .int .i64 c9, .int .i64 d9, .slice A5 n5 cap5] 35)) A5 (iv m9)) := ⟨hr5.to (below_new w5 _)⟩
        have HN5 : Bx (n5 = m9.length) := ⟨hn5⟩
        have hp6 := put_any ⟨K9, T9, a9, b9, c9, d9, m9⟩ A5 n5 cap5 hn5 (w5.alloc (.cells #[.int .i64 K9, .int .i64 T9, .int .i64 a9, .int .i64 b9, .int .i64 c9, .int .i64 d9, .slice A5 n5 cap5] 35)) HR5.out (by show m9.length ≤ _; omega)
        rw [Jn.put_ok HC9.out, HB9.out] at hp6
        unfold Jn.Ev.val at hp6
        simp only at hp6
        have HP6 := Lib.hid hp6
        clear hn5 hc5 hr5 hi5 hb5 hp6
        go_wp2_with fail
        refine (HP6.out).mono ?_
        rintro e w6 ⟨A6, n6, cap6, rfl, hn6, hcap6, hc6, hr6, hb6⟩
        simp only at hn6 hr6
        have HB6 : Bx (Below w.heap.size w w6) := ⟨on HB5.out hb6⟩
        have HV6 : Bx (EvAt w6 w5.heap.size K9 T9 a9 b9 c9 d9 A5 n5 cap5) := ⟨HV5.out.to hb6⟩
        have HR6 : Bx (Rd w6 A5 (iv m9)) := ⟨HR5.out.to hb6⟩
        have HS6 := Lib.hid (sameb_any A6 n6 cap6 l hn6 A0 m0 cap0 l HL0.out w6 hr6 (HRL.out _ HB6.out))
        rw [show decide (l = l) = true by simp] at HS6
        clear hn6 hcap6 hc6 hr6 hb6
        have hk7 := check_any ⟨K9, T9, a9, b9, c9, d9, m9⟩ A5 n5 cap5 HN5.out w6 HR6.out (by show m9.length ≤ _; omega)
        rw [HC9.out] at hk7
        unfold Jn.Ev.val at hk7
        simp only at hk7
        have HK7 := Lib.hid hk7
        clear hk7
        obtain ⟨d0, d1, d2, d3, d4, d5, d6, _⟩ := HV6.out
        go_wp2_with fail
        refine (HS6.out).mono ?_
        rintro e w' ⟨rfl, rfl⟩
        go_wp2_with fail
        refine (HK7.out).mono ?_
        rintro e w7 ⟨rfl, hb7⟩
        have HB7 : Bx (Below w.heap.size w w7) := ⟨on HB6.out hb7⟩
        clear hb7 d0 d1 d2 d3 d4 d5 d6
        go_wp2_with fail
        refine (awake_any w7).mono ?_
        rintro e w8 ⟨rfl, hb8⟩
        go_wp2
        go_ret
        exact ⟨rfl, on HB7.out hb8⟩
      · have hef : (ge9 == 0) = false := beq_f he9
        clear he9
        go_wp2_with fail
        refine (HG5.out).mono ?_
        rintro e w5 ⟨A5, n5, cap5, rfl, hn5, hc5, hr5, hi5, hb5⟩
        unfold Jn.Ev.val
        simp only at hn5 hr5 ⊢
        have HB5 : Bx (Below w.heap.size w (w5.alloc (.cells #[.int .i64 K9, .int .i64 T9, .int .i64 a9, .int .i64 b9, .int .i64 c9, .int .i64 d9, .slice A5 n5 cap5] 35))) := ⟨on HB1.out (on hb5 (below_new w5 _))⟩
        clear hn5 hc5 hr5 hi5 hb5
        go_wp2_with fail
        refine (awake_any _).mono ?_
        rintro e w8 ⟨rfl, hb8⟩
        go_wp2
        go_ret
        exact ⟨rfl, on HB5.out hb8⟩
  · have hcase : (40 : Int) < (n : Int) ∨ (¬ (40 : Int) < (n : Int) ∧ (500 : Int) < (m0 : Int)) := by omega
    unfold Jn.Ev.val
    obtain ⟨K, T, a, b, c, d, mix⟩ := E
    simp only
    have HB0 : Bx (Below w.heap.size w (w.alloc (.cells #[.int .i64 K, .int .i64 T, .int .i64 a, .int .i64 b, .int .i64 c, .int .i64 d, .slice A n cap] 35))) := ⟨below_new w _⟩
    clear h h0 hnm
    rcases hcase with hn' | ⟨hn', hm'⟩
    all_goals
      go_enter Try.func9, Try.ntmps9
      go_wp2_with fail
      refine (awake_any _).mono ?_
      rintro e w3 ⟨rfl, hb3⟩
      go_wp2
      go_ret
      exact ⟨rfl, on HB0.out hb3⟩
end Go.Proofs.Ytcpdfgckfefboaa
