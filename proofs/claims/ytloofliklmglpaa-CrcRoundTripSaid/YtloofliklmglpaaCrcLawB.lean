/- The walk of the law CrcRoundTrip. -/
import Derived.Test.YtloofliklmglpaaCrcArgs
import Derived.Test.YtloofliklmglpaaCrcLaws
namespace Go.Proofs.Ytloofliklmglpaa
open Go.RowKit

set_option maxRecDepth 100000 in
set_option maxHeartbeats 6400000 in
theorem croundtrip_walk (A : Option Addr) (n cap : Nat) (l : List UInt8) (A0 : Option Addr) (m cap0 : Nat) (r : List UInt8) (A9 : Option Addr) (q cap9 : Nat) (o : List UInt8) (w : World) (h : BytesIn w A n cap l) (h0 : BytesIn w A0 m cap0 r) (h9 : BytesIn w A9 q cap9 o) :
    Calls Try.prog 9 #[.slice A n cap, .slice A0 m cap0, .slice A9 q cap9] w fun e w' => e = .returned (.bool true) ∧ Below w.heap.size w w' := by
  by_cases hall : n ≤ 5000 ∧ m ≤ 5000 ∧ q ≤ 5000
  · obtain ⟨hn, hm, hq⟩ := hall
    have hn' : ¬ (5000 : Int) < (n : Int) := by omega
    have hm' : ¬ (5000 : Int) < (m : Int) := by omega
    have hq' : ¬ (5000 : Int) < (q : Int) := by omega
    have hl : l.length ≤ 5000 := by rw [← h.len]; exact hn
    have hr : r.length ≤ 5000 := by rw [← h0.len]; exact hm
    have ho : o.length ≤ 5000 := by rw [← h9.len]; exact hq
    obtain ⟨i0, hi, hz0, hz1, hz2⟩ := info_parts info_u8
    have h1 := frame_any A n cap l h.len h.nil w h.reads (by omega)
    have hfr : Cr.fr l = (Cr.frame l, 0) := by unfold Cr.fr; rw [if_neg (by omega)]
    rw [hfr] at h1
    have hop := Cr.opn_frame l r (by omega)
    have hfl : (Cr.frame l).length ≤ 5100 := by
      have := (Wp.varint_len l.length).2
      unfold Cr.frame
      simp only [List.length_append, Cr.four_length]
      omega
    have H1 := Lib.hid h1
    generalize Cr.frame l = f at H1 hop hfl
    clear h1 hfr
    have H2 := Lib.hid (fun A1 n1 cap1 w' (hn1 : n1 = (f ++ r).length) (hc : n1 ≤ cap1) (hx : Rd w' A1 (bv (f ++ r))) => open_any A1 n1 cap1 (f ++ r) hn1 hc w' hx (by rw [List.length_append]; omega))
    rw [hop] at H2
    have H3 := Lib.hid (fun w' (hb : Below w.heap.size w w') => open_any A9 q cap9 o h9.len h9.room w' (h9.reads.to hb) (by omega))
    have HX := Lib.hid (fun w' (hb : Below w.heap.size w w') => h.reads.to hb)
    have HY := Lib.hid (fun w' (hb : Below w.heap.size w w') => h0.reads.to hb)
    have HZ := Lib.hid (fun w' (hb : Below w.heap.size w w') => h9.reads.to hb)
    have HL := Lib.hid h.len
    have HM := Lib.hid (show (bv r).length = m by rw [bv_length, ← h0.len])
    have HM2 := Lib.hid h0.len
    have HQ := Lib.hid h9.len
    have hqc := h9.room
    have HC0 := Lib.hid h0.nil
    have HFL := Lib.hid hfl
    clear h h0 h9 hl hr hop hfl hn' hm' hq'
    have hn' : ¬ (5000 : Int) < (n : Int) := by omega
    have hm' : ¬ (5000 : Int) < (m : Int) := by omega
    have hq' : ¬ (5000 : Int) < (q : Int) := by omega
    go_enter Try.func9, Try.ntmps9
    go_wp2_with fail
    refine H1.out.mono ?_
    rintro e w1 ⟨A1, n1, cap1, rfl, hn1, hown1, hb1⟩
    have HX1 := Lib.hid (own_rd hown1)
    have HC1 := Lib.hid (fun hA : A1 = none => own_none hown1 hA)
    have HB1 := Lib.hid hb1
    have HN1 := Lib.hid (show n1 = f.length from hn1)
    have HF1 := Lib.hid (show (bv f).length = n1 by rw [bv_length]; exact hn1.symm)
    have hn1l : n1 ≤ 5100 := by have := HFL.out; have := HN1.out; omega
    clear hown1 hb1 hn1
    have hown0 := Lib.hid (World.ownsRow_lit (base := w1.heap.size) (e := 5) (size := 1) w1 #[] 0 (Nat.le_refl _) (by unfold maxLen; omega) rfl)
    obtain ⟨nm, hnm⟩ : ∃ nm, nm = n1 + m := ⟨_, rfl⟩
    have HNM := Lib.hid hnm
    clear hnm
    simp only
    go_wp2_with (first
      | (at_builtin; refine wpList_appN rfl _ _ 22 rfl w1.heap.size 5 i0 (.int .u8 0) 1 Try.underlying22 hi hz0 hz1 hz2 rfl _ 0 [] rfl hown0.out A1 n1 cap1 (bv f) rfl HF1.out HC1.out (HX1.out.to (below_new w1 _)) (bv_one f) (by unfold maxLen; omega) (by omega) (by simp) n1 (Nat.zero_add n1).symm ?_; intro A2 cap2 w2 hcap2 hown2 hb2; have HO2 := Lib.hid hown2; have HB2 := Lib.hid ((below_new w1 _).trans hb2); clear hown2 hb2 hcap2)
      | (at_builtin; refine wpList_appN rfl _ _ 22 rfl w1.heap.size 5 i0 (.int .u8 0) 1 Try.underlying22 hi hz0 hz1 hz2 rfl _ n1 _ rfl HO2.out A0 m cap0 (bv r) rfl HM.out HC0.out (HY.out _ (on HB1.out HB2.out)) (bv_one r) (by unfold maxLen; omega) (by omega) HB2.out.size nm HNM.out ?_; intro A3 cap3 w3 hcap3 hown3 hb3; have HO3 := Lib.hid hown3; have HB3 := Lib.hid (on HB1.out (HB2.out.trans hb3)); have HW3 := Lib.hid (HB2.out.trans hb3); have HC3 := Lib.hid hcap3; clear hown3 hb3 hcap3))
    have HX3 := Lib.hid (show Rd w3 A3 (bv (f ++ r)) by
      have := own_rd HO3.out
      rwa [List.nil_append, ← bv_append] at this)
    refine (H2.out A3 nm cap3 w3 (by rw [List.length_append, HNM.out, HN1.out, HM2.out]) HC3.out HX3.out).mono ?_
    rintro e w4 ⟨A4, n4, cap4, rfl, hn4, hown4, hb4⟩
    have hcv1 := conv_b A4 n4 cap4 l (own_rd hown4) hn4
    have hcv2 := conv_b (w := w4) A n cap l (HX.out _ (on HB3.out hb4)) HL.out
    have HB4 := Lib.hid (on HB3.out hb4)
    simp only
    rw [← HN1.out]
    clear hown4 hb4 hn4 hown0
    rcases ho2 : Cr.opn o with ⟨d, k, er⟩
    have H3b := H3.out w4 HB4.out
    rw [ho2] at H3b
    have HT := Lib.hid H3b
    by_cases her : er = 0
    · subst her
      obtain ⟨hd, hf, hk, hko⟩ := Cr.opn_form ho2
      have hfr : Cr.fr d = (Cr.frame d, 0) := by unfold Cr.fr; rw [if_neg (by omega)]
      have H5 := Lib.hid (fun A5 n5 cap5 w' (hn5 : n5 = d.length) (hc : A5 = none → cap5 = 0) (hx : Rd w' A5 (bv d)) => frame_any A5 n5 cap5 d hn5 hc w' hx (by omega))
      rw [hfr, ← hf] at H5
      have HRR := Lib.hid (fun w' (hb : Below w.heap.size w w') => show Rd w' A9 (bv (o.take k)) by
        have := (HZ.out w' hb).take k
        rwa [← bv_take] at this)
      have HK := Lib.hid (show k = (o.take k).length by rw [List.length_take]; omega)
      have hkq : (k : Int) ≤ (q : Int) := by have := HQ.out; omega
      have hkc : (k : Int) ≤ (cap9 : Int) := by omega
      clear hf hk hko hd hfr H3b ho2 ho
      generalize o.take k = g at H5 HRR HK
      go_wp2_with fail
      refine HT.out.mono ?_
      rintro e w5 ⟨A5, n5, cap5, rfl, hn5, hown5, hb5⟩
      have HX5 := Lib.hid (own_rd hown5)
      have HN5 := Lib.hid hn5
      have HC5 := Lib.hid (fun hA : A5 = none => own_none hown5 hA)
      have HB5 := Lib.hid (on HB4.out hb5)
      clear hown5 hb5 hn5 hcv1 hcv2
      simp only
      go_wp2_with fail
      refine (H5.out A5 n5 cap5 w5 HN5.out HC5.out HX5.out).mono ?_
      rintro e w6 ⟨A6, n6, cap6, rfl, hn6, hown6, hb6⟩
      have hn6' : n6 = k := by rw [HK.out]; exact hn6
      subst hn6'
      have HB6 := Lib.hid (on HB5.out hb6)
      have HD6 := Lib.hid (show Below w6.heap.size w6 w6.drew from (Below.refl _ _).drew)
      have hcv1 := conv_b (w := w6.drew) A6 n6 cap6 g ((own_rd hown6).to HD6.out) hn6
      have hcv2 := conv_b (w := w6.drew) A9 n6 cap9 g (HRR.out _ HB6.out.drew) HK.out
      have HE6 := Lib.hid (HB6.out.drew)
      clear hown6 hb6 hn6
      simp only
      go_upto_region 11 with fail
      go_region_held (fun _ => True) (exact True.intro) (first
        | (go_at_call 14; refine (cawake_any w6.drew).mono ?_; rintro e w7 ⟨rfl, hb7⟩))
      all_goals
        go_wp2
        go_ret
        exact ⟨rfl, on HE6.out hb7⟩
    · obtain ⟨hd1, hd2⟩ := Cr.opn_fail o (by rw [ho2]; exact her)
      rw [ho2] at hd1 hd2
      simp only at hd1 hd2
      subst hd1 hd2
      have hz := beq_f her
      clear H3b ho2 ho
      go_wp2_with fail
      refine HT.out.mono ?_
      rintro e w5 ⟨A5, n5, cap5, rfl, hn5, hown5, hb5⟩
      have hn5' : n5 = 0 := hn5
      subst hn5'
      have HB5 := Lib.hid (on HB4.out hb5)
      clear hown5 hb5 hn5 hcv1 hcv2
      simp only
      go_wp2_with fail
      refine (cawake_any _).mono ?_
      rintro e w6 ⟨rfl, hb6⟩
      go_wp2
      go_ret
      exact ⟨rfl, on HB5.out hb6⟩
  · have hcase : (5000 : Int) < (n : Int) ∨ (¬ (5000 : Int) < (n : Int) ∧ (5000 : Int) < (m : Int)) ∨ (¬ (5000 : Int) < (n : Int) ∧ ¬ (5000 : Int) < (m : Int) ∧ (5000 : Int) < (q : Int)) := by omega
    clear h h0 h9 hall
    rcases hcase with hn' | ⟨hn', hm'⟩ | ⟨hn', hm', hq'⟩
    all_goals
      go_enter Try.func9, Try.ntmps9
      go_wp2_with fail
      refine (cawake_any _).mono ?_
      rintro e w2 ⟨rfl, hb2⟩
      go_wp2
      go_ret
      exact ⟨rfl, hb2⟩
end Go.Proofs.Ytloofliklmglpaa
