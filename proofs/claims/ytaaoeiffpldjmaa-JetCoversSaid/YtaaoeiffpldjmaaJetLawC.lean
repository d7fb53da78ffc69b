/- The walk of the law JetCovers. -/
import Derived.Test.YtaaoeiffpldjmaaJetLawA
import Derived.Test.YtaaoeiffpldjmaaJetLaws
namespace Go.Proofs.Ytaaoeiffpldjmaa
open Go.RowKit

set_option maxRecDepth 100000 in
set_option maxHeartbeats 6400000 in
theorem jcovers_walk (x y z : Int) (A2 : Option Addr) (n2 cap2 : Nat) (l2 : List Int) (A : Option Addr) (n cap : Nat) (l : List Jt.Win) (w : World) (h2 : IntsIn w A2 n2 cap2 l2) (h : WinsIn w A n l) :
    Calls Try.prog 7 #[.agg #[.int .i64 x, .int .i64 y, .int .i64 z], .slice A2 n2 cap2, .slice A n cap] w fun e w' => e = .returned (.bool true) ∧ Below w.heap.size w w' := by
  by_cases hn : n ≤ 200 ∧ n2 ≤ 600
  · have HFW := Lib.hid (fun w => few_yes A n cap A2 n2 cap2 w hn)
    have hl : l.length ≤ 200 := by rw [← h.len]; exact hn.1
    have hl2 : l2.length ≤ 600 := by rw [← h2.len]; exact hn.2
    have H1 := Lib.hid (fun w' (hb : Below w.heap.size w w') => plan_any x y z A2 n2 cap2 l2 h2.len w' (h2.reads.to hb))
    have HST := Lib.hid (fun w' (hb : Below w.heap.size w w') => steps_any A n cap l h.len w' (h.reads.to hb))
    have HCV := Lib.hid (fun w' (hb : Below w.heap.size w w') => covers_any x y z A n cap l h.len A2 n2 cap2 l2 h2.len w' (h.reads.to hb) (h2.reads.to hb) (by omega) (by omega))
    have HRS := Lib.hid (fun w' (hb : Below w.heap.size w w') => rests_any x y z A n cap l h.len w' (h.reads.to hb) (by omega))
    have hplen : (Jt.plan ⟨x, y, z⟩ l2).1.length ≤ 1000000000000 := by
      have := Jt.plan_len ⟨x, y, z⟩ l2
      omega
    have HPS := Lib.hid (fun A' n' cap' (hn' : n' = (Jt.plan ⟨x, y, z⟩ l2).1.length) w' (hw' : Jt.Wins w' A' (Jt.plan ⟨x, y, z⟩ l2).1) => steps_any A' n' cap' _ hn' w' hw')
    have HPC := Lib.hid (fun A' n' cap' (hn' : n' = (Jt.plan ⟨x, y, z⟩ l2).1.length) w' (hb : Below w.heap.size w w') (hw' : Jt.Wins w' A' (Jt.plan ⟨x, y, z⟩ l2).1) => covers_any x y z A' n' cap' _ hn' A2 n2 cap2 l2 h2.len w' hw' (h2.reads.to hb) hplen (by omega))
    have HPR := Lib.hid (fun A' n' cap' (hn' : n' = (Jt.plan ⟨x, y, z⟩ l2).1.length) w' (hw' : Jt.Wins w' A' (Jt.plan ⟨x, y, z⟩ l2).1) => rests_any x y z A' n' cap' _ hn' w' hw' hplen)
    have HB0 := Lib.hid (below_new w (.cells #[.int .i64 x, .int .i64 y, .int .i64 z] 23))
    have HV0 := Lib.hid (VAt.new w x y z 23)
    by_cases hc : Jt.check ⟨x, y, z⟩ l2 = 0
    · obtain ⟨b1, b2, b3, b4, b5⟩ := Jt.plan_best hc
      have hb5 : (Jt.steps l).2 = 0 → Jt.covers l ⟨x, y, z⟩ l2 = true → Jt.rests l ⟨x, y, z⟩ = true → (Jt.steps (Jt.plan ⟨x, y, z⟩ l2).1).1 ≤ (Jt.steps l).1 := b5 l
      rw [b3] at HPC
      rw [b4] at HPR
      clear b3 b4 b5 hplen
      generalize Jt.plan ⟨x, y, z⟩ l2 = p at H1 HPS HPC HPR b1 b2 hb5
      obtain ⟨p1, p2⟩ := p
      simp only at b1 b2 hb5
      subst b1
      obtain ⟨s1, s2⟩ : ∃ s1 s2, Jt.steps p1 = (s1, s2) := ⟨_, _, rfl⟩
      obtain ⟨s3, hs3⟩ := s2
      simp only [hs3] at HPS b2 hb5
      subst b2
      clear hs3
      generalize Jt.covers l ⟨x, y, z⟩ l2 = bc at HCV hb5
      generalize Jt.rests l ⟨x, y, z⟩ = br at HRS hb5
      generalize Jt.steps l = sl at HST hb5
      obtain ⟨m1, m2⟩ := sl
      simp only at HST hb5
      clear h h2 hn hl hl2 hc
      go_enter Try.func7, Try.ntmps7
      go_wp2_with fail
      refine (HFW.out _).mono ?_
      rintro e w' ⟨rfl, rfl⟩
      go_wp2_with fail
      refine (H1.out _ HB0.out).mono ?_
      rintro e w1 ⟨A3, n3, cap3, rfl, hn3, hr3, hb1⟩
      simp only at hn3 hr3
      have HB1 := Lib.hid (on HB0.out hb1)
      have HV1 := Lib.hid (HV0.out.below hb1 (by simp))
      have hsz1 : w.heap.size < w1.heap.size := by have := hb1.size; simp at this; omega
      have HN3 := Lib.hid hn3
      have HR3 := Lib.hid hr3
      clear hb1 hn3 hr3
      go_wp2_with fail
      refine (HPS.out A3 n3 cap3 HN3.out w1 HR3.out).mono ?_
      rintro e w2 ⟨rfl, hb2⟩
      have HB2 := Lib.hid (on HB1.out hb2)
      have HV2 := Lib.hid (HV1.out.below hb2 hsz1)
      have hsz2 : w.heap.size < w2.heap.size := by have := hb2.size; omega
      have HR4 := Lib.hid (HR3.out.to hb2)
      clear hb2
      obtain ⟨c0, c1, c2⟩ := HV2.out
      go_wp2_with fail
      refine (HPC.out A3 n3 cap3 HN3.out w2 HB2.out HR4.out).mono ?_
      rintro e w3 ⟨rfl, hb3⟩
      have HB3 := Lib.hid (on HB2.out hb3)
      have HV3 := Lib.hid (HV2.out.below hb3 hsz2)
      have hsz3 : w.heap.size < w3.heap.size := by have := hb3.size; omega
      have HR5 := Lib.hid (HR4.out.to hb3)
      clear hb3 c0 c1 c2
      obtain ⟨c0, c1, c2⟩ := HV3.out
      go_wp2_with fail
      refine (HPR.out A3 n3 cap3 HN3.out w3 HR5.out).mono ?_
      rintro e w4 ⟨rfl, hb4⟩
      have HB4 := Lib.hid (on HB3.out hb4)
      have HV4 := Lib.hid (HV3.out.below hb4 hsz3)
      have hsz4 : w.heap.size < w4.heap.size := by have := hb4.size; omega
      clear hb4 c0 c1 c2
      go_wp2_with fail
      refine (HST.out w4 HB4.out).mono ?_
      rintro e w5 ⟨rfl, hb5'⟩
      have HB5 := Lib.hid (on HB4.out hb5')
      have HV5 := Lib.hid (HV4.out.below hb5' hsz4)
      have hsz5 : w.heap.size < w5.heap.size := by have := hb5'.size; omega
      have HLE := Lib.hid hb5
      clear hb5' hb5
      obtain ⟨c0, c1, c2⟩ := HV5.out
      by_cases hm2 : m2 = 0
      · subst hm2
        go_wp2_with fail
        refine (HCV.out w5 HB5.out).mono ?_
        rintro e w6 ⟨rfl, hb6⟩
        have HB6 := Lib.hid (on HB5.out hb6)
        have HV6 := Lib.hid (HV5.out.below hb6 hsz5)
        clear hb6 c0 c1 c2
        cases bc with
        | false =>
          go_wp2_with fail
          refine (awake_any w6).mono ?_
          rintro e w7 ⟨rfl, hb7⟩
          have HB7 := Lib.hid (on HB6.out hb7)
          clear hb7
          go_wp2
          go_ret
          exact ⟨rfl, HB7.out⟩
        | true =>
          obtain ⟨c0, c1, c2⟩ := HV6.out
          go_wp2_with fail
          refine (HRS.out w6 HB6.out).mono ?_
          rintro e w7 ⟨rfl, hb7⟩
          have HB7 := Lib.hid (on HB6.out hb7)
          clear hb7 c0 c1 c2
          cases br with
          | false =>
            go_wp2_with fail
            refine (awake_any w7).mono ?_
            rintro e w8 ⟨rfl, hb8⟩
            have HB8 := Lib.hid (on HB7.out hb8)
            clear hb8
            go_wp2
            go_ret
            exact ⟨rfl, HB8.out⟩
          | true =>
            have hle : s1 ≤ m1 := by have := HLE.out; simpa using this
            go_wp2_with fail
            refine (awake_any w7).mono ?_
            rintro e w8 ⟨rfl, hb8⟩
            have HB8 := Lib.hid (on HB7.out hb8)
            clear hb8
            go_wp2
            go_ret
            exact ⟨rfl, HB8.out⟩
      · have hmf : (m2 == 0) = false := beq_f hm2
        have hmn : (m2 != 0) = true := by simp [hm2]
        go_wp2_with fail
        refine (awake_any w5).mono ?_
        rintro e w6 ⟨rfl, hb6⟩
        have HB6 := Lib.hid (on HB5.out hb6)
        clear hb6 c0 c1 c2
        go_wp2
        go_ret
        exact ⟨rfl, HB6.out⟩
    · rw [Jt.plan_err hc] at H1
      generalize Jt.check ⟨x, y, z⟩ l2 = c at H1 hc
      have hcf : (c == 0) = false := beq_f hc
      clear h h2 hn hl hl2 hc hplen HPS HPC HPR
      go_enter Try.func7, Try.ntmps7
      go_wp2_with fail
      refine (HFW.out _).mono ?_
      rintro e w' ⟨rfl, rfl⟩
      go_wp2_with fail
      refine (H1.out _ HB0.out).mono ?_
      rintro e w1 ⟨A3, n3, cap3, rfl, hn3, hr3, hb1⟩
      have hn3' : n3 = 0 := hn3
      subst hn3'
      have HB1 := Lib.hid (on HB0.out hb1)
      clear hb1 hn3 hr3
      go_wp2_with fail
      refine (awake_any w1).mono ?_
      rintro e w2 ⟨rfl, hb2⟩
      have HB2 := Lib.hid (on HB1.out hb2)
      clear hb2
      go_wp2
      go_ret
      exact ⟨rfl, HB2.out⟩
  · have HFW := Lib.hid (fun w => few_no A n cap A2 n2 cap2 w hn)
    have HB0 := Lib.hid (below_new w (.cells #[.int .i64 x, .int .i64 y, .int .i64 z] 23))
    clear h h2 hn
    go_enter Try.func7, Try.ntmps7
    go_wp2_with fail
    refine (HFW.out _).mono ?_
    rintro e w' ⟨rfl, rfl⟩
    go_wp2_with fail
    refine (awake_any _).mono ?_
    rintro e w4 ⟨rfl, hb4⟩
    have HB4 := Lib.hid (on HB0.out hb4)
    clear hb4
    go_wp2
    go_ret
    exact ⟨rfl, HB4.out⟩
end Go.Proofs.Ytaaoeiffpldjmaa
